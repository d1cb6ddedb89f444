/- OctetSeals: sections that are turned. -/
import Derived.Test.YtcljbaoadmflgaaProg
import Derived.Test.YtcljbaoadmflgaaHand
set_option linter.unusedVariables false
set_option linter.unusedSimpArgs false
namespace Go.Proofs.Ytcljbaoadmflgaa.Kit
open Go.RowKit
section
variable {P : Program} {ops : Array Oper} {rest : List Oper} {o : Oper} {a : Act} {Q : Exit → Act → World → Prop}
/-- append(v, y) of a struct of two cells: the world is 'W.alloc' of the box of y -/
theorem wp_app2 {W : World} (hgd : o.guard = none) (s x : Operand) (t e : TypeId) (z : Value) (bytes : Nat)
    (ho : o.op = .call { callee := .builtin .append, args := #[s, x], argTypes := #[t, t] })
    (ht : P.underlying t = some (.slice e)) (hinfo : (P.info? e).map (fun i => (i.zero, i.size, i.bytes)) = some (some z, 2, bytes)) (hzs : z.cells.size = 2) (hby : 0 < bytes)
    (v : Value) (n : Nat) (cs : List Value) (y1 y2 : Value) (hy1 : y1.oneCell' = true) (hy2 : y2.oneCell' = true) (hs : a.eval s = v) (hown : OwnV W e 2 v n cs)
    (hx : a.eval x = .slice (some ⟨W.heap.size, 0, none⟩) 1 1) (hbytes : (n + 1) * bytes ≤ 140737488355328)
    (h : ∀ v' w', OwnV w' e 2 v' (n + 1) (cs ++ [y1, y2]) → Chg (fun g => v.ownBlock = some g) W w' → Fresh W v v' → wpList P ops Q rest (a.put o.dst v') w') :
    wpList P ops Q (o :: rest) a (W.alloc (.cells #[y1, y2] e)) :=
  wpList_plain hgd fun _ hK => by
    refine ow_app (W := W.alloc (.cells #[y1, y2] e)) s x t e z 2 bytes ho ht hinfo hzs (by decide) hby v n cs hs (hown.chg (S := fun _ => False) ((Chg.refl _ W).alloc _) (fun _ _ h => h)) _ 1 1 [y1, y2] hx rfl (box_news2 _ _ _ (fun _ => rfl)) (by simp [hy1, hy2]) hbytes fun v' w' h2 h3 h4 h5 => hK _ _ (h v' w' h2 ?_ ?_)
    · exact ((Chg.refl _ W).alloc _).trans h4 (fun _ _ h => h)
    · rcases h5 with h5 | h5
      · exact .inl h5
      · refine .inr fun g hg => ?_
        rw [h5] at hg
        injection hg with hg
        simp at hg
        omega
end
def t3 (v : Int) : Int := Go.bits .xor .u8 v 51
theorem t3_byt (v : Int) : 0 ≤ t3 v ∧ t3 v ≤ 255 := by
  unfold t3
  show 0 ≤ IntKind.u8.wrap _ ∧ IntKind.u8.wrap _ ≤ 255
  rw [IntKind.wrap_u8]
  omega
def turn (x : SecV) : SecV := ⟨x.id, x.body.map t3⟩
/-- turned up to k -/
def t3Up (l : List Int) (k : Nat) : List Int := (l.map t3).take k ++ l.drop k
theorem t3Up_length (l : List Int) (k : Nat) (h : k ≤ l.length) : (t3Up l k).length = l.length := by
  simp [t3Up]
  omega
theorem t3Up_set (l : List Int) (k : Nat) (h : k < l.length) (m : List Int) : (t3Up l k ++ m).set k (t3 l[k]) = t3Up l (k + 1) ++ m := by
  have h1 : ((l.map t3).take k).length = k := by simp; omega
  unfold t3Up
  rw [List.append_assoc, List.set_append_right _ _ (by omega), h1, Nat.sub_self, List.drop_eq_getElem_cons h, List.cons_append, List.set_cons_zero, List.take_succ_eq_append_getElem (by simpa using h)]
  simp
theorem t3Up_get (l : List Int) (k : Nat) (h : k < l.length) : (t3Up l k)[k]'(by rw [t3Up_length l k (by omega)]; exact h) = l[k] := by
  have h1 : ((l.map t3).take k).length = k := by simp; omega
  unfold t3Up
  rw [List.getElem_append_right (by omega)]
  simp [h1]
theorem t3Up_all (l : List Int) : t3Up l l.length = l.map t3 := by
  unfold t3Up
  rw [List.drop_length, List.append_nil, List.take_of_length_le (by simp)]
def tCells : List SecV → List Value → List Value
  | x :: xs, b :: bs => .int .i64 x.id :: b :: tCells xs bs
  | _, _ => []
theorem tCells_snoc : ∀ (l : List SecV) (bs : List Value) (x : SecV) (b : Value), l.length = bs.length → tCells (l ++ [x]) (bs ++ [b]) = tCells l bs ++ [.int .i64 x.id, b]
  | [], [], x, g, _ => rfl
  | y :: ys, h :: hs, x, g, e => by
    show _ :: _ :: tCells (ys ++ [x]) (hs ++ [g]) = _
    rw [tCells_snoc ys hs x g (by simpa using e)]
    rfl
  | [], _ :: _, _, _, e => by simp at e
  | _ :: _, [], _, _, e => by simp at e
theorem tCells_get : ∀ (l : List SecV) (bs : List Value) (i : Nat) (h : i < l.length) (h' : i < bs.length), (tCells l bs)[i * 2]? = some (.int .i64 l[i].id) ∧ (tCells l bs)[i * 2 + 1]? = some bs[i]
  | [], _, i, h, _ => absurd h (by simp)
  | _ :: _, [], i, _, h => absurd h (by simp)
  | x :: xs, g :: gs, 0, _, _ => ⟨rfl, rfl⟩
  | x :: xs, g :: gs, i + 1, h, h' => by
    have := tCells_get xs gs i (by simpa using h) (by simpa using h')
    rw [show (i + 1) * 2 = i * 2 + 1 + 1 by omega]
    exact this
/-- sections in rows of their own -/
structure Secs (w : World) (v : Value) (l : List SecV) (bs : List Value) : Prop where
  row : OwnV w 80 2 v l.length (tCells l bs)
  lenB : bs.length = l.length
  own : ∀ i (h : i < l.length) (hb : i < bs.length), OwnB w bs[i] l[i].body
theorem Secs.chg {w w1 : World} {v : Value} {l : List SecV} {bs : List Value} {S : Nat → Prop} (h : Secs w v l bs) (c : Chg S w w1) (h1 : ∀ y, v.ownBlock = some y → ¬ S y) (h2 : ∀ b ∈ bs, ∀ y, b.ownBlock = some y → ¬ S y) : Secs w1 v l bs :=
  ⟨h.row.chg c h1, h.lenB, fun i hi hb => (h.own i hi hb).chg c (h2 _ (List.getElem_mem hb))⟩
theorem Secs.nil (w : World) : Secs (w.alloc (.cells #[] 80)) (.slice (some ⟨w.heap.size, 0, none⟩) 0 0) [] [] :=
  ⟨⟨rfl, .inr ⟨w.heap.size, 0, [], rfl, Blk.new' w [] _, Nat.le_refl _, Nat.zero_le _, by simp, rfl⟩⟩, rfl, fun i h => absurd h (by simp)⟩
theorem Secs.snoc {w w3 : World} {v v' b : Value} {l : List SecV} {bs : List Value} {x : SecV} {k : Nat} {S : Nat → Prop} (h : Secs w v l bs) (hk : l.length = k) (c : Chg S w w3) (hS : ∀ y, S y → ¬ ∃ cur, Blk w y 5 cur)
    (hI : OwnV w3 80 2 v' (k + 1) (tCells l bs ++ [.int .i64 x.id, b])) (hO : OwnB w3 b x.body) : Secs w3 v' (l ++ [x]) (bs ++ [b]) := by
  have h1 := h.lenB
  refine ⟨?_, by simp [h1], fun i hi hib => ?_⟩
  · rw [tCells_snoc _ _ _ _ h1.symm, List.length_append, List.length_singleton, hk]
    exact hI
  · by_cases hlt : i < l.length
    · rw [List.getElem_append_left (by omega), List.getElem_append_left hlt]
      have ho := h.own i hlt (by omega)
      exact ho.chg c fun y hy hs => hS y hs (OwnV.typed ho y hy)
    · have : i = l.length := by simp at hi; omega
      subst this
      rw [List.getElem_append_right (by omega), List.getElem_append_right (Nat.le_refl _)]
      simp only [Nat.sub_self, h1, List.getElem_cons_zero]
      exact hO
theorem Secs.rd {w : World} {A : Option Addr} {n c : Nat} {l : List SecV} {bs : List Value} (h : Secs w (.slice A n c) l bs) (hbt : ∀ x ∈ l, Byt x.body) (hrg : ∀ x ∈ l, -9223372036854775808 ≤ x.id ∧ x.id ≤ 9223372036854775807) : RdSecs w A l := fun i hi => by
  have hi2 : i < bs.length := by rw [h.lenB]; omega
  obtain ⟨g1, g2⟩ := tCells_get l bs i hi hi2
  have hnn : n = l.length := by
    obtain ⟨A', c', hv, _⟩ := h.row.slice
    injection hv with _ hn _
  have hrow := h.row
  rw [← hnn] at hrow
  obtain ⟨ad, rfl, k1, _⟩ := hrow.cells _ _ _ rfl _ _ g1
  obtain ⟨ad', e', k2, _⟩ := hrow.cells _ _ _ rfl _ _ g2
  injection e' with e'
  subst e'
  have ho := h.own i hi hi2
  obtain ⟨Ab, cb, hv, h1, h2⟩ := ho.slice
  refine ⟨ad, rfl, k1, ⟨Ab, cb, ?_, h1, h2, ho.rd hv⟩, hbt _ (List.getElem_mem hi), hrg _ (List.getElem_mem hi)⟩
  rw [show (⟨(ad.add (i * 2)).block, (ad.add (i * 2)).off + 1, none⟩ : Addr) = (ad.add (i * 2)).add 1 from rfl, Go.Deep.add_add, ← hv]
  exact k2
theorem Secs.cap {w : World} {A : Option Addr} {n c : Nat} {l : List SecV} {bs : List Value} (h : Secs w (.slice A n c) l bs) : n = l.length ∧ n ≤ c ∧ c ≤ maxLen := by
  obtain ⟨A', c', hv, h1, h2⟩ := h.row.slice
  injection hv with h3 h4 h5
  subst h5
  exact ⟨h4, by omega, h2⟩
/-- the bodies when k sections are turned -/
def nowAt (l : List SecV) (k : Nat) : List (List Int) := (l.take k).map (fun x => x.body.map t3) ++ (l.drop k).map SecV.body
theorem nowAt_length (l : List SecV) (k : Nat) (h : k ≤ l.length) : (nowAt l k).length = l.length := by
  simp [nowAt]
  omega
theorem nowAt_zero (l : List SecV) : nowAt l 0 = l.map SecV.body := by simp [nowAt]
theorem nowAt_all (l : List SecV) : nowAt l l.length = l.map (fun x => x.body.map t3) := by simp [nowAt]
theorem nowAt_get (l : List SecV) (k : Nat) (h : k < l.length) : (nowAt l k)[k]'(by rw [nowAt_length l k (by omega)]; exact h) = l[k].body := by
  unfold nowAt
  rw [List.getElem_append_right (by simp; omega)]
  have : k - ((l.take k).map fun x => x.body.map t3).length = 0 := by simp; omega
  simp only [this]
  simp
theorem nowAt_set (l : List SecV) (k : Nat) (h : k < l.length) : (nowAt l k).set k (l[k].body.map t3) = nowAt l (k + 1) := by
  have h1 : ((l.take k).map fun x => x.body.map t3).length = k := by simp; omega
  unfold nowAt
  rw [List.set_append_right _ _ (by omega), h1, Nat.sub_self, List.drop_eq_getElem_cons h, List.map_cons, List.set_cons_zero, show (l.take (k + 1)).map (fun x => x.body.map t3) = (l.take k).map (fun x => x.body.map t3) ++ [l[k].body.map t3] from by rw [List.take_succ_eq_append_getElem h, List.map_append]; rfl, List.append_assoc]
  rfl
/-- one body is turned -/
theorem Handed.set {w w1 : World} {a b : Value} {l : List SecV} {now : List (List Int)} {gs : List Nat} {S : Nat → Prop} {k : Nat} {m : List Int} (h : Handed w a b l now gs) (hk : k < l.length) (hkg : k < gs.length) (c : Chg S w w1) (h1 : ∀ y, a.ownBlock = some y → ¬ S y) (h2 : ∀ y, b.ownBlock = some y → ¬ S y) (h3 : ∀ i (hi : i < gs.length), i ≠ k → ¬ S gs[i])
    (hO : OwnB w1 (.slice (some ⟨gs[k], 0, none⟩) (l[k].body.length + 90) (l[k].body.length + 90)) (m ++ marks)) (hm : m.length = l[k].body.length) : Handed w1 a b l (now.set k m) gs := by
  refine ⟨h.rowI.chg c h1, h.rowF.chg c h2, h.lenG, by simp [h.lenN], fun i hi hi' => ?_, fun i hi hg hn => ?_, h.apart⟩
  · by_cases e : i = k
    · subst e
      rw [List.getElem_set_self]
      exact hm
    · rw [List.getElem_set_ne (fun h => e h.symm)]
      exact h.len i hi (by simpa using hi')
  · by_cases e : i = k
    · subst e
      rw [List.getElem_set_self]
      exact hO
    · rw [List.getElem_set_ne (fun h => e h.symm)]
      refine (h.own i hi hg (by simpa using hn)).chg c (fun y hy => ?_)
      simp [Value.ownBlock] at hy
      subst hy
      exact h3 i hg e
end Go.Proofs.Ytcljbaoadmflgaa.Kit
