/- Texts that the row leans on: Cells2, Recs, Jn, Jo, Once, KitB, CrcH. -/
import Derived.Test.YtlnomadhgoblkaaProg
import Derived.Test.YtlnomadhgoblkaaQJournalExactad
import Derived.Deep.Slices
import Derived.Deep.RegionHeld3
import Derived.Deep.DeepCutAuto
import Derived.RegionTactic
import Derived.ChangeAlike
import Derived.BigRegion
import Derived.Deep.RegionLaw
import Derived.Deep.QuietTactic
import Derived.BigQuiet
import Derived.Lib.SlBytesConst
import Derived.Test.YtlnomadhgoblkaaQJournalExactab
import Derived.Tactics
import Derived.Tactics2
import Derived.Defers
import Derived.Laws.Pointers
import Derived.Laws.LoneSync
import Derived.RegionCalls
import Derived.Laws.Rows
import Derived.Test.YtlnomadhgoblkaaQJournalExactac
import Derived.IntWalk
import Derived.Lib.Hide
-- append of a struct of two cells; cells of such.
set_option linter.unusedVariables false
set_option linter.unusedSimpArgs false
namespace Go.Proofs.Ytlnomadhgoblkaa.Kit
open Go.RowKit
theorem box_news2 {W W' : World} (x y : Value) (e : TypeId) (hW : ∀ p, W'.cell? p = (W.alloc (.cells #[x, y] e)).cell? p) : ∀ (j : Nat) (u : Value), [x, y][j]? = some u → ∃ ad, some (⟨W.heap.size, 0, none⟩ : Addr) = some ad ∧ W'.cell? (ad.add j) = some u := by
  intro j u hj
  have hj2 : j < 2 := by
    rcases Nat.lt_or_ge j 2 with h | h
    · exact h
    · rw [List.getElem?_eq_none (by simpa using h)] at hj
      cases hj
  refine ⟨_, rfl, ?_⟩
  rw [hW]
  have := (Blk.new W #[x, y] e).cell j
  rw [show (⟨W.heap.size, 0, none⟩ : Addr).add j = ⟨W.heap.size, j, none⟩ from by unfold Addr.add; split <;> simp_all, this]
  exact hj
section
variable {P : Program} {ops : Array Oper} {rest : List Oper} {o : Oper} {a : Act} {Q : Exit → Act → World → Prop}
/-- append(v, y) of a struct of two cells -/
theorem st_app2 {W : World} {K : Act → World → Prop} {E : Prop} (hgd : o.guard = none) (s x : Operand) (t e : TypeId) (z : Value) (bytes : Nat)
    (ho : o.op = .call { callee := .builtin .append, args := #[s, x], argTypes := #[t, t] })
    (ht : P.underlying t = some (.slice e)) (hinfo : (P.info? e).map (fun i => (i.zero, i.size, i.bytes)) = some (some z, 2, bytes)) (hzs : z.cells.size = 2) (hby : 0 < bytes)
    (v : Value) (n : Nat) (cs : List Value) (y1 y2 : Value) (hy1 : y1.oneCell' = true) (hy2 : y2.oneCell' = true) (hs : a.eval s = v) (hown : OwnV W e 2 v n cs) (b : Nat)
    (hx : a.eval x = .slice (some ⟨b, 0, none⟩) 1 1) (hn : ∀ (j : Nat) (u : Value), [y1, y2][j]? = some u → ∃ ad, some (⟨b, 0, none⟩ : Addr) = some ad ∧ W.cell? (ad.add j) = some u) (hbytes : (n + 1) * bytes ≤ 140737488355328)
    (h : ∀ v' w', OwnV w' e 2 v' (n + 1) (cs ++ [y1, y2]) → Chg (fun g => v.ownBlock = some g) W w' → Fresh W v v' → K (a.put o.dst v') w') : if Region.wanted o (yielded ops a.tmps) = true then o.wp P a W K Q else E := by
  rw [if_pos (by simp [Region.wanted, hgd])]
  refine ow_app s x t e z 2 bytes ho ht hinfo hzs (by decide) hby v n cs hs hown _ 1 1 [y1, y2] hx rfl hn (by simp [hy1, hy2]) hbytes fun v' w' h2 h3 h4 h5 => h v' w' h2 h4 ?_
  rcases h5 with h5 | h5
  · exact .inl h5
  · refine .inr fun g hg => ?_
    rw [h5] at hg
    injection hg with hg
    omega
end
section
variable {P : Program} {ops : Array Oper} {rest : List Oper} {o : Oper} {a : Act} {Q : Exit → Act → World → Prop}
/-- append(v, y) of a struct of two cells: the world is 'W.alloc' of the box of y -/
theorem wp_app2 {W : World} (hgd : o.guard = none) (s x : Operand) (t e : TypeId) (z : Value) (bytes : Nat)
    (ho : o.op = .call { callee := .builtin .append, args := #[s, x], argTypes := #[t, t] })
    (ht : P.underlying t = some (.slice e)) (hinfo : (P.info? e).map (fun i => (i.zero, i.size, i.bytes)) = some (some z, 2, bytes)) (hzs : z.cells.size = 2) (hby : 0 < bytes)
    (v : Value) (n : Nat) (cs : List Value) (y1 y2 : Value) (hy1 : y1.oneCell' = true) (hy2 : y2.oneCell' = true) (hs : a.eval s = v) (hown : OwnV W e 2 v n cs)
    (hx : a.eval x = .slice (some ⟨W.heap.size, 0, none⟩) 1 1) (hbytes : (n + 1) * bytes ≤ 140737488355328)
    (h : ∀ v' w', OwnV w' e 2 v' (n + 1) (cs ++ [y1, y2]) → Chg (fun g => v.ownBlock = some g) W w' → Fresh W v v' → wpList P ops Q rest (a.put o.dst v') w') :
    wpList P ops Q (o :: rest) a (W.alloc (.cells #[y1, y2] e)) :=
  wpList_plain hgd fun _ hK => by
    refine ow_app (W := W.alloc (.cells #[y1, y2] e)) s x t e z 2 bytes ho ht hinfo hzs (by decide) hby v n cs hs (hown.chg (S := fun _ => False) ((Chg.refl _ W).alloc _) (fun _ _ h => h)) _ 1 1 [y1, y2] hx rfl (box_news2 _ _ _ (fun _ => rfl)) (by simp [hy1, hy2]) hbytes fun v' w' h2 h3 h4 h5 => hK _ _ (h v' w' h2 ?_ ?_)
    · exact ((Chg.refl _ W).alloc _).trans h4 (fun _ _ h => h)
    · rcases h5 with h5 | h5
      · exact .inl h5
      · refine .inr fun g hg => ?_
        rw [h5] at hg
        injection hg with hg
        simp at hg
        omega
end
def tCells : List SecV → List Value → List Value
  | x :: xs, b :: bs => .int .i64 x.id :: b :: tCells xs bs
  | _, _ => []
theorem tCells_snoc : ∀ (l : List SecV) (bs : List Value) (x : SecV) (b : Value), l.length = bs.length → tCells (l ++ [x]) (bs ++ [b]) = tCells l bs ++ [.int .i64 x.id, b]
  | [], [], x, g, _ => rfl
  | y :: ys, h :: hs, x, g, e => by
    show _ :: _ :: tCells (ys ++ [x]) (hs ++ [g]) = _
    rw [tCells_snoc ys hs x g (by simpa using e)]
    rfl
  | [], _ :: _, _, _, e => by simp at e
  | _ :: _, [], _, _, e => by simp at e
theorem tCells_get : ∀ (l : List SecV) (bs : List Value) (i : Nat) (h : i < l.length) (h' : i < bs.length), (tCells l bs)[i * 2]? = some (.int .i64 l[i].id) ∧ (tCells l bs)[i * 2 + 1]? = some bs[i]
  | [], _, i, h, _ => absurd h (by simp)
  | _ :: _, [], i, _, h => absurd h (by simp)
  | x :: xs, g :: gs, 0, _, _ => ⟨rfl, rfl⟩
  | x :: xs, g :: gs, i + 1, h, h' => by
    have := tCells_get xs gs i (by simpa using h) (by simpa using h')
    rw [show (i + 1) * 2 = i * 2 + 1 + 1 by omega]
    exact this
end Go.Proofs.Ytlnomadhgoblkaa.Kit
-- Records in rows of their own (struct of a number and a list of bytes); append of such.
set_option linter.unusedVariables false
set_option linter.unusedSimpArgs false
namespace Go.Proofs.Ytlnomadhgoblkaa.Kit
open Go.RowKit
theorem infoRec : (Try.prog.info? 31).map (fun i => (i.zero, i.size, i.bytes)) = some (some (.agg #[.int .i64 0, .slice none 0 0]), 2, 32) := by kernel_rfl
/-- sections in rows of their own -/
structure Recs (w : World) (v : Value) (l : List SecV) (bs : List Value) : Prop where
  row : OwnV w 31 2 v l.length (tCells l bs)
  lenB : bs.length = l.length
  own : ∀ i (h : i < l.length) (hb : i < bs.length), OwnB w bs[i] l[i].body
theorem Recs.chg {w w1 : World} {v : Value} {l : List SecV} {bs : List Value} {S : Nat → Prop} (h : Recs w v l bs) (c : Chg S w w1) (h1 : ∀ y, v.ownBlock = some y → ¬ S y) (h2 : ∀ b ∈ bs, ∀ y, b.ownBlock = some y → ¬ S y) : Recs w1 v l bs :=
  ⟨h.row.chg c h1, h.lenB, fun i hi hb => (h.own i hi hb).chg c (h2 _ (List.getElem_mem hb))⟩
theorem Recs.nil (w : World) : Recs (w.alloc (.cells #[] 31)) (.slice (some ⟨w.heap.size, 0, none⟩) 0 0) [] [] :=
  ⟨⟨rfl, .inr ⟨w.heap.size, 0, [], rfl, Blk.new' w [] _, Nat.le_refl _, Nat.zero_le _, by simp, rfl⟩⟩, rfl, fun i h => absurd h (by simp)⟩
theorem Recs.snoc {w w3 : World} {v v' b : Value} {l : List SecV} {bs : List Value} {x : SecV} {k : Nat} {S : Nat → Prop} (h : Recs w v l bs) (hk : l.length = k) (c : Chg S w w3) (hS : ∀ y, S y → ¬ ∃ cur, Blk w y 5 cur)
    (hI : OwnV w3 31 2 v' (k + 1) (tCells l bs ++ [.int .i64 x.id, b])) (hO : OwnB w3 b x.body) : Recs w3 v' (l ++ [x]) (bs ++ [b]) := by
  have h1 := h.lenB
  refine ⟨?_, by simp [h1], fun i hi hib => ?_⟩
  · rw [tCells_snoc _ _ _ _ h1.symm, List.length_append, List.length_singleton, hk]
    exact hI
  · by_cases hlt : i < l.length
    · rw [List.getElem_append_left (by omega), List.getElem_append_left hlt]
      have ho := h.own i hlt (by omega)
      exact ho.chg c fun y hy hs => hS y hs (OwnV.typed ho y hy)
    · have : i = l.length := by simp at hi; omega
      subst this
      rw [List.getElem_append_right (by omega), List.getElem_append_right (Nat.le_refl _)]
      simp only [Nat.sub_self, h1, List.getElem_cons_zero]
      exact hO
theorem Recs.rd {w : World} {A : Option Addr} {n c : Nat} {l : List SecV} {bs : List Value} (h : Recs w (.slice A n c) l bs) (hbt : ∀ x ∈ l, Byt x.body) (hrg : ∀ x ∈ l, -9223372036854775808 ≤ x.id ∧ x.id ≤ 9223372036854775807) : RdSecs w A l := fun i hi => by
  have hi2 : i < bs.length := by rw [h.lenB]; omega
  obtain ⟨g1, g2⟩ := tCells_get l bs i hi hi2
  have hnn : n = l.length := by
    obtain ⟨A', c', hv, _⟩ := h.row.slice
    injection hv with _ hn _
  have hrow := h.row
  rw [← hnn] at hrow
  obtain ⟨ad, rfl, k1, _⟩ := hrow.cells _ _ _ rfl _ _ g1
  obtain ⟨ad', e', k2, _⟩ := hrow.cells _ _ _ rfl _ _ g2
  injection e' with e'
  subst e'
  have ho := h.own i hi hi2
  obtain ⟨Ab, cb, hv, h1, h2⟩ := ho.slice
  refine ⟨ad, rfl, k1, ⟨Ab, cb, ?_, h1, h2, ho.rd hv⟩, hbt _ (List.getElem_mem hi), hrg _ (List.getElem_mem hi)⟩
  rw [show (⟨(ad.add (i * 2)).block, (ad.add (i * 2)).off + 1, none⟩ : Addr) = (ad.add (i * 2)).add 1 from rfl, Go.Deep.add_add, ← hv]
  exact k2
theorem Recs.cap {w : World} {A : Option Addr} {n c : Nat} {l : List SecV} {bs : List Value} (h : Recs w (.slice A n c) l bs) : n = l.length ∧ n ≤ c ∧ c ≤ maxLen := by
  obtain ⟨A', c', hv, h1, h2⟩ := h.row.slice
  injection hv with h3 h4 h5
  subst h5
  exact ⟨h4, by omega, h2⟩
end Go.Proofs.Ytlnomadhgoblkaa.Kit
-- The journal: what holds of it between two calls; Clone, sumBytes, put.
set_option linter.unusedVariables false
set_option linter.unusedSimpArgs false
namespace Go.Proofs.Ytlnomadhgoblkaa.Kit
open Go.RowKit
/-- a journal's head; its bytes; where its records end -/
def jhead : List Int := [80, 65, 89, 74, 82, 78, 76, 49]
def jnlBytes (l : List SecV) : List Int := jhead ++ jnlFrom 0 l
def jends (l : List SecV) : List Int := (List.range l.length).map fun i => ((jnlBytes (l.take (i + 1))).length : Int)
theorem jends_length (l : List SecV) : (jends l).length = l.length := by simp [jends]
theorem jnlBytes_snoc (l : List SecV) (x : SecV) : jnlBytes (l ++ [x]) = jnlBytes l ++ recEnc l.length x := by
  rw [jnlBytes, jnlFrom_snoc, Nat.zero_add, jnlBytes, List.append_assoc]
theorem jends_snoc (l : List SecV) (x : SecV) : jends (l ++ [x]) = jends l ++ [((jnlBytes (l ++ [x])).length : Int)] := by
  unfold jends
  rw [List.length_append, List.length_singleton, List.range_succ, List.map_append, List.map_singleton]
  congr 1
  · apply List.map_congr_left
    intro i hi
    rw [List.mem_range] at hi
    rw [List.take_append_of_le_length (by omega)]
  · rw [List.take_of_length_le (by simp)]
theorem jhead_byt : Byt jhead := by
  intro z hz
  simp [jhead] at hz
  omega
/-- a journal's parts -/
structure JnV (w : World) (vB vR vE : Value) (bs : List Value) (l : List SecV) : Prop where
  bytes : OwnB w vB (jnlBytes l)
  recs : Recs w vR l bs
  ends : Own w 3 .i64 vE (jends l)
  apart : ∀ b ∈ bs, ∀ y, b.ownBlock = some y → vB.ownBlock ≠ some y
/-- a journal in block g, its parts in blocks of D -/
structure Jn (w : World) (D : Nat → Prop) (g : Nat) (l : List SecV) : Prop where
  ex : ∃ vB vR vE bs, Blk w g 88 [vB, vR, vE] ∧ JnV w vB vR vE bs l ∧ (∀ y, vB.ownBlock = some y → D y) ∧ (∀ y, vR.ownBlock = some y → D y) ∧ (∀ y, vE.ownBlock = some y → D y) ∧ ∀ b ∈ bs, ∀ y, b.ownBlock = some y → D y
  size : ∀ x, D x → x < w.heap.size
  out : ¬ D g
theorem JnV.chg {w w1 : World} {S : Nat → Prop} {vB vR vE : Value} {bs : List Value} {l : List SecV} (h : JnV w vB vR vE bs l) (c : Chg S w w1) (h1 : ∀ y, vB.ownBlock = some y → ¬ S y) (h2 : ∀ y, vR.ownBlock = some y → ¬ S y) (h3 : ∀ y, vE.ownBlock = some y → ¬ S y) (h4 : ∀ b ∈ bs, ∀ y, b.ownBlock = some y → ¬ S y) : JnV w1 vB vR vE bs l :=
  ⟨h.bytes.chg c h1, h.recs.chg c h2 h4, h.ends.chg c h3, h.apart⟩
theorem Jn.chg {w w1 : World} {D S : Nat → Prop} {g : Nat} {l : List SecV} (h : Jn w D g l) (c : Chg S w w1) (hS : ∀ x, S x → ¬ D x ∧ x ≠ g) : Jn w1 D g l := by
  obtain ⟨vB, vR, vE, bs, hb, hv, h1, h2, h3, h4⟩ := h.ex
  have hD : ∀ y, D y → ¬ S y := fun y hy hs => (hS y hs).1 hy
  exact ⟨⟨vB, vR, vE, bs, hb.chg c (fun hs => (hS g hs).2 rfl), hv.chg c (fun y hy => hD y (h1 y hy)) (fun y hy => hD y (h2 y hy)) (fun y hy => hD y (h3 y hy)) (fun b hbb y hy => hD y (h4 b hbb y hy)), h1, h2, h3, h4⟩, fun x hx => Nat.lt_of_lt_of_le (h.size x hx) c.size, h.out⟩
theorem Jn.chg0 {w w1 : World} {D : Nat → Prop} {g : Nat} {l : List SecV} (h : Jn w D g l) (c : Chg (fun _ => False) w w1) : Jn w1 D g l := h.chg c (fun _ h => h.elim)
theorem Jn.lt {w : World} {D : Nat → Prop} {g : Nat} {l : List SecV} (h : Jn w D g l) : g < w.heap.size := by
  obtain ⟨_, _, _, _, hb, _⟩ := h.ex
  exact hb.lt
theorem Jn.mono {w : World} {D E : Nat → Prop} {g : Nat} {l : List SecV} (h : Jn w D g l) (hE : ∀ x, D x → E x) (hs : ∀ x, E x → x < w.heap.size) (ho : ¬ E g) : Jn w E g l := by
  obtain ⟨vB, vR, vE, bs, hb, hv, h1, h2, h3, h4⟩ := h.ex
  exact ⟨⟨vB, vR, vE, bs, hb, hv, fun y hy => hE y (h1 y hy), fun y hy => hE y (h2 y hy), fun y hy => hE y (h3 y hy), fun b hbb y hy => hE y (h4 b hbb y hy)⟩, hs, ho⟩
set_option maxRecDepth 20000 in
/-- Clone: nil stays nil; else memory of its own -/
theorem cloneB (A : Option Addr) (n c : Nat) (l : List Int) (w : World) (HN : Hid (n = l.length)) (hl : n ≤ 140737488355328) (hr : Hid (Rd w .u8 A l)) :
    Calls Try.prog 44 #[.slice A n c] w fun e w' => ∃ A' n' c', e = .returned (.slice A' n' c') ∧ Made w w' A' n' c' l := by
  rcases A with _ | ad
  · have h0 : l = [] := by
      rcases l with _ | ⟨x, xs⟩
      · rfl
      · obtain ⟨_, h, _⟩ := hr.out 0 (by simp)
        cases h
    have HL0 := Lib.hid h0
    have hnil : ∀ W : World, (binOp .eql 29 (.slice none n c) (.slice none 0 0)).run Try.prog W = .ok (.bool true) W := fun W => run_eql_nil_slice W _ _ none n c 0 0 Try.underlying29
    clear h0
    go_enter Try.func44, Try.ntmps44
    go_wp2_with fail
    go_ret
    refine ⟨none, 0, 0, rfl, ?_⟩
    rw [HL0.out]
    exact ⟨rfl, Own.nil _ _ _, Chg.refl _ _, fun k h => by simp [Value.ownBlock] at h, Nat.le_refl _⟩
  · have hnil : ∀ W : World, (binOp .eql 29 (.slice (some ad) n c) (.slice none 0 0)).run Try.prog W = .ok (.bool false) W := fun W => run_eql_nil_slice W _ _ (some ad) n c 0 0 Try.underlying29
    have hr1 : Hid (Rd (w.alloc (.cells #[] 5)) .u8 (some ad) l) := hr.out.below (((Chg.refl (fun _ => False) w).alloc _).done)
    go_enter Try.func44, Try.ntmps44
    go_wp2_with (at_builtin; go_must (refine wp_appn rfl _ _ 29 5 .u8 1 rfl Try.underlying29 infoU8 (by decide) (.slice (some ⟨w.heap.size, 0, none⟩) 0 0) [] rfl (Own.lit w 5 .u8 [] (by simp)) (some ad) c l n rfl HN.out hr1.out (by rw [← HN.out]; simp; omega) ?_); intro v' w1 k1 k2 k3 k4; rw [List.nil_append] at k1; obtain ⟨A1, c1, hv, hc1, _⟩ := k1.slice; rw [← HN.out] at hv hc1; subst hv; have K1 := Lib.hid k1; have K3 := Lib.hid k3; have K4 := Lib.hid k4; clear k1 k2 k3 k4)
    go_ret
    refine ⟨A1, n, c1, rfl, HN.out, K1.out, ((Chg.refl _ w).alloc _).fresh K3.out (blk_ge (Nat.le_refl _)), K4.out.ge (blk_ge (Nat.le_refl _)) (by simp), hc1⟩
theorem sumBytes (x : Int) (w : World) (h0 : 0 ≤ x) (h1 : x < 4294967296) :
    Calls Try.prog 42 #[.int .u32 x] w fun e w' => ∃ A c, e = .returned (.slice A 4 c) ∧ Made w w' A 4 c (sumB x) := by
  go_enter Try.func42, Try.ntmps42
  go_wp2_with fail
  go_ret
  exact ⟨_, _, rfl, rfl, Own.lit w _ .u8 (sumB x) (by rw [sumB_length]; decide), (Chg.refl _ w).alloc _, fun k h => by simp [Value.ownBlock] at h; omega, Nat.le_refl _⟩
theorem infoInt : (Try.prog.info? 3).map (fun i => (i.zero, i.size, i.bytes)) = some (some (.int .i64 0), 1, 8) := by kernel_rfl
/-- a box of one number -/
theorem rd_box1 {W W' : World} {k : IntKind} (y : Int) (e : TypeId) (hW : ∀ p, W'.cell? p = (W.alloc (.cells #[.int k y] e)).cell? p) : Rd W' k (some ⟨W.heap.size, 0, none⟩) [y] := fun i hi => by
  have h0 : i = 0 := by simp at hi; omega
  subst h0
  refine ⟨_, rfl, ?_⟩
  rw [hW]
  have := (Blk.new W #[.int k y] e).cell 0
  rw [show (⟨W.heap.size, 0, none⟩ : Addr).add 0 = ⟨W.heap.size, 0, none⟩ from rfl, this]
  rfl
set_option maxRecDepth 20000 in
set_option maxHeartbeats 3200000 in
/-- put: a record behind the others, given its bytes -/
theorem jput (g : Nat) (vB vR vE b : Value) (bs : List Value) (l : List SecV) (x : SecV) (A : Option Addr) (n c : Nat) (w : World) (hb : Hid (Blk w g 88 [vB, vR, vE])) (hv : Hid (JnV w vB vR vE bs l)) (hbo : Hid (OwnB w b x.body)) (hba : Hid (∀ y, b.ownBlock = some y → vB.ownBlock ≠ some y))
    (HN : Hid (n = (recEnc l.length x).length)) (hr : Hid (Rd w .u8 A (recEnc l.length x))) (hsz : Hid ((jnlBytes l).length + n ≤ 1073741824)) (hll : l.length ≤ 1073741824) :
    Calls Try.prog 43 #[.pointer (some ⟨g, 0, none⟩), .agg #[.int .i64 x.id, b], .slice A n c] w fun e w' => e = .returned (.tuple #[]) ∧ ∃ vB' vR' vE', Blk w' g 88 [vB', vR', vE'] ∧ JnV w' vB' vR' vE' (bs ++ [b]) (l ++ [x]) ∧
      Chg (fun y => y = g ∨ vB.ownBlock = some y ∨ vR.ownBlock = some y ∨ vE.ownBlock = some y) w w' ∧ Fresh w vB vB' ∧ Fresh w vR vR' ∧ Fresh w vE vE' := by
  obtain ⟨AB, cB, hB, hcB, _⟩ := hv.out.bytes.slice
  obtain ⟨AR, cR, hR, hcR, _⟩ := hv.out.recs.row.slice
  obtain ⟨AE, cE, hE, hcE, _⟩ := hv.out.ends.slice
  obtain ⟨nb, hnb⟩ : ∃ nb, nb = (jnlBytes l).length := ⟨_, rfl⟩
  obtain ⟨k, hk⟩ : ∃ k, k = l.length := ⟨_, rfl⟩
  have hEl : (jends l).length = k := by rw [jends_length, hk]
  rw [← hnb] at hB hcB
  rw [← hk] at hR hcR
  rw [hEl] at hE hcE
  subst hB hR hE
  have HNB := Lib.hid hnb
  have HK := Lib.hid hk
  have hsz' : nb + n ≤ 1073741824 := by rw [hnb]; exact hsz.out
  have hk2 : k ≤ 1073741824 := by omega
  clear hnb hk hEl hcB hcR hcE
  obtain ⟨wa, hwa⟩ : ∃ wa, wa = w.alloc (.cells #[.int .i64 x.id, b] 31) := ⟨_, rfl⟩
  obtain ⟨hr1, hhr⟩ : ∃ h1, h1 = w.heap.size := ⟨_, rfl⟩
  have CA : Hid (Chg (fun _ => False) w wa) := by rw [hwa]; exact (Chg.refl _ w).alloc _
  have BX : Hid (Blk wa hr1 31 [.int .i64 x.id, b]) := by rw [hwa, hhr]; exact Blk.new _ _ _
  have B1 := Lib.hid (hb.out.chg CA.out id)
  have V1 := Lib.hid (hv.out.chg CA.out (fun _ _ h => h) (fun _ _ h => h) (fun _ _ h => h) (fun _ _ _ _ h => h))
  have O1 := Lib.hid (hbo.out.chg CA.out (fun _ _ h => h))
  have R1 : Hid (Rd wa .u8 A (recEnc l.length x)) := hr.out.below CA.out.done
  have HHR := Lib.hid hhr
  have hRlt : Hid (∀ y, Value.ownBlock (.slice AR k cR) = some y → y < hr1) := fun y hy => by rw [hhr]; exact hv.out.recs.row.lt y hy
  have HWA : Hid (wa.heap.size = w.heap.size + 1) := by rw [hwa]; simp [Hid]
  have c0 : (w.alloc (.cells #[.int .i64 x.id, b] 31)).cell? ⟨g, 0, none⟩ = some (.slice AB nb cB) := by rw [← hwa]; exact B1.out.at_ (i := 0) rfl
  have HWA2 := Lib.hid hwa
  obtain ⟨rB, hrB⟩ : ∃ rB, rB = recEnc l.length x := ⟨_, rfl⟩
  rw [← hrB] at HN R1
  have HRB := Lib.hid hrB
  have JB := Lib.hid V1.out.bytes
  obtain ⟨jB, hjB⟩ : ∃ jB, jB = jnlBytes l := ⟨_, rfl⟩
  rw [← hjB] at JB HNB
  have HJB := Lib.hid hjB
  clear hrB hjB hsz hwa hhr
  go_enter Try.func43, Try.ntmps43
  go_wp2_with (at_builtin; (try rw [← HWA2.out]); go_must (refine wp_appn (W := wa) rfl _ _ 29 5 .u8 1 rfl Try.underlying29 infoU8 (by decide) (.slice AB nb cB) jB rfl JB.out A c rB n rfl HN.out R1.out (by rw [← HNB.out, ← HN.out]; omega) ?_); intro v2 w2 k1 k2 k3 k4; obtain ⟨A2, c2, hv2, hc2, _⟩ := k1.slice; obtain ⟨j2, hj2⟩ : ∃ j2, j2 = jB ++ rB := ⟨_, rfl⟩; rw [← hj2] at k1 hv2 hc2; obtain ⟨n2, hn2⟩ : ∃ n2, n2 = j2.length := ⟨_, rfl⟩; rw [← hn2] at hv2 hc2; subst hv2; have HJ2 := Lib.hid hj2; have HN2 := Lib.hid hn2; clear hj2 hn2; have K1 := Lib.hid k1; have K3 := Lib.hid k3; have K4 := Lib.hid k4; clear k1 k2 k3 k4; have hgB : Hid (∀ y, Value.ownBlock (.slice AB nb cB) = some y → y ≠ g) := (fun y hy e => OwnV.type_ne JB.out B1.out (by decide) (by rw [hy, e])); have B2 := Lib.hid (B1.out.chg K3.out (fun e => hgB.out g e rfl)); have c1 := B2.out.at_ (i := 0) rfl; have f1 := B2.out.frozen (i := 0) (by simp); go_frame)
  obtain ⟨w3, hw3⟩ : ∃ w3, w3 = w2.setCell ⟨g, 0, none⟩ (.slice A2 n2 c2) := ⟨_, rfl⟩
  obtain ⟨Ab, cb, hbv, _⟩ := hbo.out.slice
  obtain ⟨mb, hmb⟩ : ∃ mb, mb = x.body.length := ⟨_, rfl⟩
  rw [← hmb] at hbv
  subst hbv
  have HMB := Lib.hid hmb
  have hA2 : Hid (∀ y, Value.ownBlock (.slice A2 n2 c2) = some y → y ≠ g) := fun y hy e => OwnV.type_ne K1.out B2.out (by decide) (by rw [hy, e])
  have hgR : Hid (∀ y, Value.ownBlock (.slice AR k cR) = some y → y ≠ g) := fun y hy e => OwnV.type_ne V1.out.recs.row B1.out (by decide) (by rw [hy, e])
  have hgE : Hid (∀ y, Value.ownBlock (.slice AE k cE) = some y → y ≠ g) := fun y hy e => OwnV.type_ne V1.out.ends B1.out (by decide) (by rw [hy, e])
  have B3 : Hid (Blk w3 g 88 [.slice A2 n2 c2, .slice AR k cR, .slice AE k cE]) := by rw [hw3]; exact B2.out.set 0 _
  have C3 : Hid (Chg (fun y => y = g ∨ Value.ownBlock (.slice AB nb cB) = some y) wa w3) := by rw [hw3]; exact (K3.out.mono (fun _ _ h => .inr h)).setCell (p := ⟨g, 0, none⟩) (fun _ => .inl rfl) _
  have O3 : Hid (OwnB w3 (.slice A2 n2 c2) j2) := by rw [hw3]; exact K1.out.chg ((Chg.refl (· = g) w2).setg 0 _) (fun y hy e => hA2.out y hy e)
  have X3 : Hid (Blk w3 hr1 31 [.int .i64 x.id, .slice Ab mb cb]) := BX.out.chg C3.out (fun h => by
    rcases h with h | h
    · exact BX.out.type_ne B1.out (by decide) h
    · exact OwnV.type_ne JB.out BX.out (by decide) h)
  have R3 : Hid (Recs w3 (.slice AR k cR) l bs) := V1.out.recs.chg C3.out (fun y hy h => by
    rcases h with h | h
    · exact hgR.out y hy h
    · obtain ⟨cur, hcu⟩ := OwnV.typed JB.out y h
      exact V1.out.recs.row.type_ne hcu (by decide) hy) (fun b hb y hy h => by
    rcases h with h | h
    · obtain ⟨i, hi, rfl⟩ := List.getElem_of_mem hb
      exact OwnV.type_ne (V1.out.recs.own i (by rw [← V1.out.recs.lenB]; exact hi) hi) B1.out (by decide) (by rw [hy, h])
    · exact V1.out.apart b hb y hy h)
  have E3 : Hid (Own w3 3 .i64 (.slice AE k cE) (jends l)) := V1.out.ends.chg C3.out (fun y hy h => by
    rcases h with h | h
    · exact hgE.out y hy h
    · obtain ⟨cur, hcu⟩ := OwnV.typed JB.out y h
      exact OwnV.type_ne V1.out.ends hcu (by decide) hy)
  have OB3 : Hid (OwnB w3 (.slice Ab mb cb) x.body) := O1.out.chg C3.out (fun y hy h => by
    rcases h with h | h
    · exact OwnV.type_ne O1.out B1.out (by decide) (by rw [hy, h])
    · exact hba.out y hy h)
  have rowT := R3.out.row
  rw [← HK.out] at rowT
  have HRT := Lib.hid rowT
  have d1 := B3.out.at_ (i := 1) rfl
  have d2 := X3.out.at_ (i := 0) rfl
  have d3 := X3.out.at_ (i := 1) rfl
  rw [← hw3, ← HHR.out]
  clear hw3 hmb c0 c1 f1 rowT
  have d1a : (w3.alloc (.cells #[.int .i64 x.id, .slice Ab mb cb] 31)).drew.cell? ⟨g, 1, none⟩ = some (.slice AR k cR) := (((Chg.refl (fun _ => False) w3).alloc (.cells #[.int .i64 x.id, .slice Ab mb cb] 31)).drew).cell (fun h => h) d1
  go_upto_region 2 with fail
  go_cut [] from 15 (fun wx => ∃ A6 c6, Hid (Blk wx g 88 [.slice A2 n2 c2, .slice A6 (k + 1) c6, .slice AE k cE]) ∧ Hid (OwnV wx 31 2 (.slice A6 (k + 1) c6) (k + 1) (tCells l bs ++ [.int .i64 x.id, .slice Ab mb cb])) ∧ Hid (Chg (fun y => y = g ∨ Value.ownBlock (.slice AR k cR) = some y) w3 wx) ∧ Hid (Fresh w3 (.slice AR k cR) (.slice A6 (k + 1) c6)))
  case first =>
    go_region_law (first | ((refine st_app2 rfl _ _ 49 31 (.agg #[.int .i64 0, .slice none 0 0]) 32 rfl Try.underlying49 infoRec rfl (by decide) (.slice AR k cR) k (tCells l bs) (.int .i64 x.id) (.slice Ab mb cb) rfl rfl rfl (HRT.out.chg (S := fun _ => False) (by repeat (first | exact Chg.refl _ _ | refine Chg.drew ?_ | refine Chg.drewN ?_ _ | refine Chg.alloc ?_ _)) (fun _ _ h => h)) w3.heap.size rfl (box_news2 _ _ _ (fun _ => rfl)) (by omega) ?_; intro v6 w6 k1 k2 k3; obtain ⟨A6, c6, rfl, _, _⟩ := k1.slice; have N1 := Lib.hid k1; have N2 : Hid (Chg (fun y => Value.ownBlock (.slice AR k cR) = some y) w3 w6) := (show Chg _ w3 _ from by repeat (first | exact Chg.refl _ _ | refine Chg.drew ?_ | refine Chg.drewN ?_ _ | refine Chg.alloc ?_ _)).trans k2 (fun _ _ h => h); have N3 : Hid (Fresh w3 (.slice AR k cR) (.slice A6 (k + 1) c6)) := k3.imp id (fun h y hy => Nat.le_trans (by simp) (h y hy)); clear k1 k2 k3; have B6 : Hid (Blk w6 g 88 [.slice A2 n2 c2, .slice AR k cR, .slice AE k cE]) := B3.out.chg N2.out (fun e => hgR.out g e rfl); have e1 := B6.out.at_ (i := 1) rfl; have f6 := B6.out.frozen (i := 1) (by simp))))
    all_goals
      go_wp2_with fail
      go_meet
      case rel => exact ⟨A6, c6, B6.out.set 1 _, N1.out.chg ((Chg.refl (· = g) w6).setg 1 _) (fun y hy e => OwnV.type_ne N1.out B6.out (by decide) (by rw [hy, e])), (N2.out.mono (fun _ _ h => .inr h)).setCell (p := ⟨g, 1, none⟩) (fun _ => .inl rfl) _, N3.out⟩
  case rest =>
    obtain ⟨A6, c6, B6, N6, C6, F6⟩ := hcut
    obtain ⟨w7, hw7⟩ : ∃ w7, w7 = wc := ⟨_, rfl⟩
    subst hw7
    have hRr : Hid (∀ y, Value.ownBlock (.slice AR k cR) = some y → ¬ ∃ cur, Blk w3 y 5 cur) := fun y hy ht => by
      obtain ⟨cur, hcu⟩ := ht
      exact HRT.out.type_ne hcu (by decide) hy
    have O7 : Hid (OwnB w7 (.slice A2 n2 c2) j2) := O3.out.chg C6.out (fun y hy h => by
      rcases h with h | h
      · exact hA2.out y hy h
      · exact hRr.out y h (OwnV.typed O3.out y hy))
    have OB7 : Hid (OwnB w7 (.slice Ab mb cb) x.body) := OB3.out.chg C6.out (fun y hy h => by
      rcases h with h | h
      · exact OwnV.type_ne OB3.out B3.out (by decide) (by rw [hy, h])
      · exact hRr.out y h (OwnV.typed OB3.out y hy))
    have E7 : Hid (Own w7 3 .i64 (.slice AE k cE) (jends l)) := E3.out.chg C6.out (fun y hy h => by
      rcases h with h | h
      · exact hgE.out y hy h
      · obtain ⟨cur, hcu⟩ := OwnV.typed E3.out y hy
        exact HRT.out.type_ne hcu (by decide) h)
    have R7 : Hid (Recs w7 (.slice A6 (k + 1) c6) (l ++ [x]) (bs ++ [.slice Ab mb cb])) := R3.out.snoc HK.out.symm C6.out (fun y hy ht => by
      rcases hy with hy | hy
      · obtain ⟨cur, hcu⟩ := ht
        rw [hy] at hcu
        exact hcu.type_ne B3.out (by decide) rfl
      · exact hRr.out y hy ht) N6.out OB7.out
    have e0 := B6.out.at_ (i := 0) rfl
    have e2 := B6.out.at_ (i := 2) rfl
    have e0a : (w7.alloc (.cells #[.int .i64 (n2 : Int)] 3)).drew.cell? ⟨g, 0, none⟩ = some (.slice A2 n2 c2) := (((Chg.refl (fun _ => False) w7).alloc (.cells #[.int .i64 (n2 : Int)] 3)).drew).cell (fun h => h) e0
    have e2a : (w7.alloc (.cells #[.int .i64 (n2 : Int)] 3)).drew.cell? ⟨g, 2, none⟩ = some (.slice AE k cE) := (((Chg.refl (fun _ => False) w7).alloc (.cells #[.int .i64 (n2 : Int)] 3)).drew).cell (fun h => h) e2
    have hEl : Hid ((jends l).length = k) := by rw [Hid, jends_length, HK.out]
    obtain ⟨jE, hjE⟩ : ∃ jE, jE = jends l := ⟨_, rfl⟩
    rw [← hjE] at E7 hEl
    have HJE := Lib.hid hjE
    clear hjE d1 d2 d3 d1a
    have hba2 : Hid (∀ y, Value.ownBlock (.slice Ab mb cb) = some y → Value.ownBlock (.slice A2 n2 c2) ≠ some y) := fun y hy e => by
      rcases K4.out with h | h
      · exact hba.out y hy (h ▸ e)
      · have h1 := h y e
        have h2 := O1.out.lt y hy
        omega
    have hap2 : Hid (∀ b ∈ bs, ∀ y, b.ownBlock = some y → Value.ownBlock (.slice A2 n2 c2) ≠ some y) := fun b hb y hy e => by
      rcases K4.out with h | h
      · exact V1.out.apart b hb y hy (h ▸ e)
      · have h1 := h y e
        obtain ⟨i, hi, rfl⟩ := List.getElem_of_mem hb
        have h2 := (V1.out.recs.own i (by rw [← V1.out.recs.lenB]; exact hi) hi).lt y hy
        omega
    have hJX : Hid (j2 = jnlBytes (l ++ [x])) := by rw [Hid, HJ2.out, HJB.out, HRB.out, jnlBytes_snoc]
    have hJEX : Hid (jE ++ [(n2 : Int)] = jends (l ++ [x])) := by rw [Hid, jends_snoc, HJE.out, HN2.out, hJX.out]
    go_upto_region 3 with fail
    go_region_law (first | ((refine st_appn rfl _ _ 23 3 .i64 8 rfl Try.underlying23 infoInt (by decide) (.slice AE k cE) jE rfl (E7.out.chg (S := fun _ => False) (by repeat (first | exact Chg.refl _ _ | refine Chg.drew ?_ | refine Chg.drewN ?_ _ | refine Chg.alloc ?_ _)) (fun _ _ h => h)) (some ⟨w7.heap.size, 0, none⟩) 1 [(n2 : Int)] 1 rfl rfl (rd_box1 (n2 : Int) 3 (fun _ => rfl)) (by rw [hEl.out]; simp; omega) ?_; intro v8 w8 k1 k2 k3 k4; obtain ⟨A8, c8, hv8, _, _⟩ := k1.slice; obtain ⟨jF, hjF⟩ : ∃ jF, jF = jE ++ [(n2 : Int)] := ⟨_, rfl⟩; rw [← hjF] at k1 hv8; obtain ⟨n8, hn8⟩ : ∃ n8, n8 = jF.length := ⟨_, rfl⟩; rw [← hn8] at hv8; subst hv8; have HJF := Lib.hid hjF; have HN8 := Lib.hid hn8; clear hjF hn8; have M1 := Lib.hid k1; have M2 : Hid (Chg (fun y => Value.ownBlock (.slice AE k cE) = some y) w7 w8) := (show Chg _ w7 _ from by repeat (first | exact Chg.refl _ _ | refine Chg.drew ?_ | refine Chg.drewN ?_ _ | refine Chg.alloc ?_ _)).trans k3 (fun _ _ h => h); have M4 : Hid (Fresh w7 (.slice AE k cE) (.slice A8 n8 c8)) := k4.imp id (fun h y hy => Nat.le_trans (by simp) (h y hy)); clear k1 k2 k3 k4; have B8 : Hid (Blk w8 g 88 [.slice A2 n2 c2, .slice A6 (k + 1) c6, .slice AE k cE]) := B6.out.chg M2.out (fun e => hgE.out g e rfl); have g2 := B8.out.at_ (i := 2) rfl; have g3 := B8.out.frozen (i := 2) (by simp))))
    all_goals
      go_wp2_with fail
      go_end0
      have hE8 : ∀ y, Value.ownBlock (.slice AE k cE) = some y → ¬ ∃ cur, Blk w7 y 5 cur := fun y hy ht => by
        obtain ⟨cur, hcu⟩ := ht
        exact OwnV.type_ne E7.out hcu (by decide) hy
      have CC : Chg (fun y => y = g ∨ Value.ownBlock (.slice AE k cE) = some y) w7 (w8.setCell ⟨g, 2, none⟩ (.slice A8 n8 c8)) := (M2.out.mono (fun _ _ h => .inr h)).setCell (p := ⟨g, 2, none⟩) (fun _ => .inl rfl) _
      have nb8 : ∀ {v : Value} {q : List Int}, OwnB w7 v q → ∀ y, v.ownBlock = some y → ¬ (y = g ∨ Value.ownBlock (.slice AE k cE) = some y) := fun ho y hy h => by
        rcases h with h | h
        · exact OwnV.type_ne ho B6.out (by decide) (by rw [hy, h])
        · exact hE8 y h (OwnV.typed ho y hy)
      refine ⟨rfl, .slice A2 n2 c2, .slice A6 (k + 1) c6, .slice A8 n8 c8, B8.out.set 2 _, ⟨?_, ?_, ?_, ?_⟩, ?_, ?_, ?_, ?_⟩
      · rw [← hJX.out]
        exact O7.out.chg CC (nb8 O7.out)
      · refine R7.out.chg CC (fun y hy h => ?_) (fun b hb y hy => ?_)
        · rcases h with h | h
          · exact OwnV.type_ne N6.out B6.out (by decide) (by rw [hy, h])
          · obtain ⟨cur, hcu⟩ := OwnV.typed E7.out y h
            exact N6.out.type_ne hcu (by decide) hy
        · obtain ⟨i, hi, rfl⟩ := List.getElem_of_mem hb
          exact nb8 (R7.out.own i (by rw [← R7.out.lenB]; exact hi) hi) y hy
      · rw [← hJEX.out, ← HJF.out]
        exact M1.out.chg ((Chg.refl (· = g) w8).setg 2 _) (fun y hy e => OwnV.type_ne M1.out B8.out (by decide) (by rw [hy, e]))
      · intro b hb
        rcases List.mem_append.1 hb with hb | hb
        · exact hap2.out b hb
        · rw [List.mem_singleton] at hb
          subst hb
          exact hba2.out
      · refine (CA.out.mono (fun _ _ h => h.elim)).trans (((C3.out.mono (fun y _ h => h.elim .inl (fun h => .inr (.inl h)))).trans C6.out (fun y hy h => h.elim .inl (fun h => .inr (.inr (.inl h))))).trans CC (fun y hy h => h.elim .inl (fun h => .inr (.inr (.inr h))))) (fun _ _ h => h)
      · exact K4.out.imp id (fun h y hy => Nat.le_trans CA.out.size (h y hy))
      · exact F6.out.imp id (fun h y hy => Nat.le_trans (Nat.le_trans CA.out.size C3.out.size) (h y hy))
      · exact M4.out.imp id (fun h y hy => Nat.le_trans (Nat.le_trans (Nat.le_trans CA.out.size C3.out.size) C6.out.size) (h y hy))
end Go.Proofs.Ytlnomadhgoblkaa.Kit
-- The journal: New, Count, Bytes, Ends, Record.
set_option linter.unusedVariables false
set_option linter.unusedSimpArgs false
namespace Go.Proofs.Ytlnomadhgoblkaa.Kit
open Go.RowKit
theorem jputI (D : Nat → Prop) (g : Nat) (b : Value) (l : List SecV) (x : SecV) (A : Option Addr) (n c : Nat) (w : World) (hj : Hid (Jn w D g l)) (hbo : Hid (OwnB w b x.body)) (hba : Hid (∀ y, b.ownBlock = some y → ¬ D y))
    (HN : Hid (n = (recEnc l.length x).length)) (hr : Hid (Rd w .u8 A (recEnc l.length x))) (hsz : Hid ((jnlBytes l).length + n ≤ 1073741824)) (hll : l.length ≤ 1073741824) :
    Calls Try.prog 43 #[.pointer (some ⟨g, 0, none⟩), .agg #[.int .i64 x.id, b], .slice A n c] w fun e w' => e = .returned (.tuple #[]) ∧ Jn w' (fun y => D y ∨ b.ownBlock = some y ∨ (w.heap.size ≤ y ∧ y < w'.heap.size)) g (l ++ [x]) ∧ Chg (fun y => y = g ∨ D y) w w' := by
  obtain ⟨vB, vR, vE, bs, hb, hv, h1, h2, h3, h4⟩ := hj.out.ex
  refine (jput g vB vR vE b bs l x A n c w hb hv hbo (fun y hy e => hba.out y hy (h1 y e)) HN hr hsz hll).mono ?_
  rintro e w' ⟨rfl, vB', vR', vE', k1, k2, k3, k4, k5, k6⟩
  have hf : ∀ {v v' : Value}, (∀ y, v.ownBlock = some y → D y) → Fresh w v v' → (∀ y, v'.ownBlock = some y → y < w'.heap.size) → ∀ y, v'.ownBlock = some y → D y ∨ b.ownBlock = some y ∨ (w.heap.size ≤ y ∧ y < w'.heap.size) := fun hd hfr hlt y hy => by
    rcases hfr with h | h
    · exact .inl (hd y (h ▸ hy))
    · exact .inr (.inr ⟨h y hy, hlt y hy⟩)
  refine ⟨rfl, ⟨⟨vB', vR', vE', bs ++ [b], k1, k2, hf h1 k4 k2.bytes.lt, hf h2 k5 k2.recs.row.lt, hf h3 k6 k2.ends.lt, fun b' hb' y hy => ?_⟩, fun y hy => ?_, fun hy => ?_⟩, k3.mono fun y hy h => ?_⟩
  · rcases List.mem_append.1 hb' with hb' | hb'
    · exact .inl (h4 b' hb' y hy)
    · rw [List.mem_singleton] at hb'
      subst hb'
      exact .inr (.inl hy)
  · rcases hy with hy | hy | hy
    · exact Nat.lt_of_lt_of_le (hj.out.size y hy) k3.size
    · exact Nat.lt_of_lt_of_le (hbo.out.lt y hy) k3.size
    · exact hy.2
  · rcases hy with hy | hy | hy
    · exact hj.out.out hy
    · exact OwnV.type_ne hbo.out hb (by decide) hy
    · have := hb.lt
      omega
  · rcases h with h | h | h | h
    · exact .inl h
    · exact .inr (h1 y h)
    · exact .inr (h2 y h)
    · exact .inr (h3 y h)
/-- the bytes of a constant text: the block's mark stands behind its last cell -/
theorem Own.litF (w : World) (e : TypeId) (k : IntKind) (l : List Int) (n : Nat) (hn : n = l.length) (hm : l.length ≤ maxLen) : Own (w.alloc (.cells (nums k l).toArray e (n, n + 1))) e k (.slice (some ⟨w.heap.size, 0, none⟩) l.length l.length) l := by
  refine ⟨by simp [nums], .inr ⟨w.heap.size, l.length, nums k l, rfl, ⟨(n, n + 1), ?_, fun i hi => ?_⟩, Nat.le_refl _, hm, by simp [nums], by rw [Nat.mul_one, List.take_of_length_le (by simp [nums])]⟩⟩
  · show (w.heap.push _)[w.heap.size]? = _
    simp
  · simp [nums] at hi
    simp
    omega
set_option maxRecDepth 20000 in
theorem jnew (w : World) :
    Calls Try.prog 18 #[] w fun e w' => ∃ g D, e = .returned (.pointer (some ⟨g, 0, none⟩)) ∧ Jn w' D g [] ∧ (∀ x, D x → w.heap.size ≤ x) ∧ w.heap.size ≤ g ∧ Chg (fun _ => False) w w' := by
  have kc := fun (w : World) (C : Array Value) (n c : Nat) => Lib.run_convert_bytes_const (P := Try.prog) w 29 5 C n c Try.underlying29 Try.underlying5
  go_enter Try.func18, Try.ntmps18
  go_wp2_with fail
  go_ret
  obtain ⟨w1, hw1⟩ : ∃ w1, w1 = w.alloc (.cells (nums .u8 jhead).toArray 5 (8, 9)) := ⟨_, rfl⟩
  have O1 : OwnB w1 (.slice (some ⟨w.heap.size, 0, none⟩) 8 8) jhead := by rw [hw1]; exact Own.litF w _ .u8 jhead 8 rfl (by decide)
  have C1 : Chg (fun _ => False) w w1 := by rw [hw1]; exact (Chg.refl _ w).alloc _
  have hs : w1.heap.size = w.heap.size + 1 := by rw [hw1]; simp
  refine ⟨w.heap.size + 1, fun y => y = w.heap.size, rfl, ?_, fun x hx => by omega, by omega, ?_⟩
  · refine ⟨⟨.slice (some ⟨w.heap.size, 0, none⟩) 8 8, .slice none 0 0, .slice none 0 0, [], ?_, ⟨?_, ?_, ?_, fun b hb => absurd hb (by simp)⟩, fun y hy => ?_, fun y hy => by simp [Value.ownBlock] at hy, fun y hy => by simp [Value.ownBlock] at hy, fun b hb => absurd hb (by simp)⟩, fun y hy => ?_, fun h => ?_⟩
    · have := Blk.new w1 #[.slice (some ⟨w.heap.size, 0, none⟩) 8 8, .slice none 0 0, .slice none 0 0] 88
      rw [hs, hw1] at this
      exact this
    · have := O1.alloc (.cells #[.slice (some ⟨w.heap.size, 0, none⟩) 8 8, .slice none 0 0, .slice none 0 0] 88)
      rw [hw1] at this
      rw [jnlBytes, jnlFrom, List.append_nil]
      exact this
    · exact ⟨⟨rfl, .inl ⟨rfl, rfl⟩⟩, rfl, fun i h => absurd h (by simp)⟩
    · exact Own.nil _ _ _
    · simp [Value.ownBlock] at hy
      exact hy.symm
    · rw [hy]
      simp
      omega
    · omega
  · have := C1.alloc (.cells #[.slice (some ⟨w.heap.size, 0, none⟩) 8 8, .slice none 0 0, .slice none 0 0] 88)
    rw [hw1] at this
    exact this
theorem jcount (D : Nat → Prop) (g : Nat) (l : List SecV) (n : Nat) (w : World) (HN : Hid (n = l.length)) (hj : Hid (Jn w D g l)) :
    Calls Try.prog 26 #[.pointer (some ⟨g, 0, none⟩)] w fun e w' => e = .returned (.int .i64 n) ∧ w = w' := by
  obtain ⟨vB, vR, vE, bs, hb, hv, h1, h2, h3, h4⟩ := hj.out.ex
  obtain ⟨AR, cR, hR, hcR, _⟩ := hv.recs.row.slice
  rw [← HN.out] at hR
  have c1 := hb.at_ (i := 1) rfl
  rw [hR] at c1
  clear hR hb hv h1 h2 h3 h4 hcR
  go_enter Try.func26, Try.ntmps26
  go_wp2_with fail
  go_ret
  exact ⟨rfl, rfl⟩
set_option maxRecDepth 20000 in
theorem jbytes (D : Nat → Prop) (g : Nat) (l : List SecV) (w : World) (hl : Hid ((jnlBytes l).length ≤ 140737488355328)) (hj : Hid (Jn w D g l)) :
    Calls Try.prog 20 #[.pointer (some ⟨g, 0, none⟩)] w fun e w' => ∃ A n c, e = .returned (.slice A n c) ∧ Made w w' A n c (jnlBytes l) := by
  obtain ⟨vB, vR, vE, bs, hb, hv, h1, h2, h3, h4⟩ := hj.out.ex
  obtain ⟨AB, cB, hB, hcB, _⟩ := hv.bytes.slice
  have c0 := hb.at_ (i := 0) rfl
  rw [hB] at c0
  have hr : Hid (Rd w .u8 AB (jnlBytes l)) := hv.bytes.rd hB
  obtain ⟨j, hj2⟩ : ∃ j, j = jnlBytes l := ⟨_, rfl⟩
  rw [← hj2] at c0 hl hr ⊢
  obtain ⟨nb, hnb⟩ : ∃ nb, nb = j.length := ⟨_, rfl⟩
  rw [← hnb] at c0
  have HNB := Lib.hid hnb
  have hl2 : nb ≤ 140737488355328 := by rw [hnb]; exact hl.out
  clear hB hb hv h1 h2 h3 h4 hcB hnb hj2
  go_enter Try.func20, Try.ntmps20
  go_wp2_with fail
  refine (cloneB AB nb cB j w HNB hl2 hr).mono ?_
  rintro e w1 ⟨A1, n1, c1, rfl, m1⟩
  have M1 := Lib.hid m1
  clear m1
  go_wp2_with fail
  go_ret
  exact ⟨A1, n1, c1, rfl, M1.out⟩
set_option maxRecDepth 20000 in
theorem cloneI (A : Option Addr) (n c : Nat) (l : List Int) (w : World) (HN : Hid (n = l.length)) (hl : n ≤ 17592186044416) (hr : Hid (Rd w .i64 A l)) :
    Calls Try.prog 60 #[.slice A n c] w fun e w' => ∃ A' c', e = .returned (.slice A' n c') ∧ Own w' 3 .i64 (.slice A' n c') l ∧ Chg (fun _ => False) w w' ∧ (∀ k, Value.ownBlock (.slice A' n c') = some k → w.heap.size ≤ k) := by
  rcases A with _ | ad
  · have h0 : l = [] := by
      rcases l with _ | ⟨x, xs⟩
      · rfl
      · obtain ⟨_, h, _⟩ := hr.out 0 (by simp)
        cases h
    have hn0 : n = 0 := by rw [HN.out, h0]; rfl
    subst hn0
    have HL0 := Lib.hid h0
    have hnil : ∀ W : World, (binOp .eql 23 (.slice none 0 c) (.slice none 0 0)).run Try.prog W = .ok (.bool true) W := fun W => run_eql_nil_slice W _ _ none 0 c 0 0 Try.underlying23
    clear h0
    go_enter Try.func60, Try.ntmps60
    go_wp2_with fail
    go_ret
    refine ⟨none, 0, rfl, ?_⟩
    rw [HL0.out]
    exact ⟨Own.nil _ _ _, Chg.refl _ _, fun k h => by simp [Value.ownBlock] at h⟩
  · have hnil : ∀ W : World, (binOp .eql 23 (.slice (some ad) n c) (.slice none 0 0)).run Try.prog W = .ok (.bool false) W := fun W => run_eql_nil_slice W _ _ (some ad) n c 0 0 Try.underlying23
    have hr1 : Hid (Rd (w.alloc (.cells #[] 3)) .i64 (some ad) l) := hr.out.below (((Chg.refl (fun _ => False) w).alloc _).done)
    go_enter Try.func60, Try.ntmps60
    go_wp2_with (at_builtin; go_must (refine wp_appn rfl _ _ 23 3 .i64 8 rfl Try.underlying23 infoInt (by decide) (.slice (some ⟨w.heap.size, 0, none⟩) 0 0) [] rfl (Own.lit w 3 .i64 [] (by simp)) (some ad) c l n rfl HN.out hr1.out (by rw [← HN.out]; simp; omega) ?_); intro v' w1 k1 k2 k3 k4; rw [List.nil_append] at k1; obtain ⟨A1, c1, hv, hc1, _⟩ := k1.slice; rw [← HN.out] at hv hc1; subst hv; have K1 := Lib.hid k1; have K3 := Lib.hid k3; have K4 := Lib.hid k4; clear k1 k2 k3 k4)
    go_ret
    exact ⟨A1, c1, rfl, K1.out, ((Chg.refl _ w).alloc _).fresh K3.out (blk_ge (Nat.le_refl _)), K4.out.ge (blk_ge (Nat.le_refl _)) (by simp)⟩
theorem jendsCall (D : Nat → Prop) (g : Nat) (l : List SecV) (n : Nat) (w : World) (HN : Hid (n = l.length)) (hn : n ≤ 17592186044416) (hj : Hid (Jn w D g l)) :
    Calls Try.prog 34 #[.pointer (some ⟨g, 0, none⟩)] w fun e w' => ∃ A c, e = .returned (.slice A n c) ∧ Own w' 3 .i64 (.slice A n c) (jends l) ∧ Chg (fun _ => False) w w' ∧ (∀ k, Value.ownBlock (.slice A n c) = some k → w.heap.size ≤ k) := by
  obtain ⟨vB, vR, vE, bs, hb, hv, h1, h2, h3, h4⟩ := hj.out.ex
  obtain ⟨AE, cE, hE, hcE, _⟩ := hv.ends.slice
  have c2 := hb.at_ (i := 2) rfl
  have hr : Hid (Rd w .i64 AE (jends l)) := hv.ends.rd hE
  rw [hE, jends_length, ← HN.out] at c2
  have HNE : Hid (n = (jends l).length) := by rw [Hid, jends_length]; exact HN.out
  obtain ⟨j, hj2⟩ : ∃ j, j = jends l := ⟨_, rfl⟩
  rw [← hj2] at hr HNE ⊢
  clear hE hb hv h1 h2 h3 h4 hcE hj2
  go_enter Try.func34, Try.ntmps34
  go_wp2_with fail
  refine (cloneI AE n cE j w HNE hn hr).mono ?_
  rintro e w1 ⟨A1, c1, rfl, m1, m2, m3⟩
  have M1 := Lib.hid m1; have M2 := Lib.hid m2; have M3 := Lib.hid m3
  clear m1 m2 m3
  go_wp2_with fail
  go_ret
  exact ⟨A1, c1, rfl, M1.out, M2.out, M3.out⟩
end Go.Proofs.Ytlnomadhgoblkaa.Kit
-- sync.Once in one goroutine: the lock, the stores, the two deferred calls (after the worked texts Lazy*).
set_option linter.unusedVariables false
set_option linter.unusedSimpArgs false
namespace Go.Proofs.Ytlnomadhgoblkaa.Kit
theorem disable (w : World) : (callFunc 92 #[]).run Try.prog w = .ok (.value (.tuple #[])) w := run_call_mark0 Try.func92 (by kernel_rfl) (by kernel_rfl) (by kernel_rfl) .disable (by kernel_rfl) w
theorem enable (w : World) : (callFunc 94 #[]).run Try.prog w = .ok (.value (.tuple #[])) w := run_call_mark0 Try.func94 (by kernel_rfl) (by kernel_rfl) (by kernel_rfl) .enable (by kernel_rfl) w
theorem acquire (a : Addr) (w : World) : (callFunc 95 #[.pointer (some a)]).run Try.prog w = .ok (.value (.tuple #[])) w := run_call_marked Try.func95 (by kernel_rfl) (by kernel_rfl) (by kernel_rfl) .acquire (by kernel_rfl) a w
theorem releaseMerge (a : Addr) (w : World) : (callFunc 97 #[.pointer (some a)]).run Try.prog w = .ok (.value (.tuple #[])) w := run_call_marked Try.func97 (by kernel_rfl) (by kernel_rfl) (by kernel_rfl) .releaseMerge (by kernel_rfl) a w
/-- (*sync/atomic.Bool).Store(true), entered as a deferred call -/
theorem store_deferred (a : Addr) (x : Value) (u : FrameMode) (w : World) (hc : w.cell? a = some x) (hz : w.frozen? a = false) :
    CallsD Try.prog 73 #[.pointer (some a), .bool true] u w fun e u' w' => u' = u ∧ (e = .returned (.tuple #[]) ∧ w' = w.drew.setCell a (.int .u32 1)) := by
  have hc' : w.drew.cell? a = some x := by go_simp
  have hz' : w.drew.frozen? a = false := by go_simp
  have hst := run_call_store (P := Try.prog) Try.func86 (by kernel_rfl) (by kernel_rfl) (by kernel_rfl) (by kernel_rfl) (k := .u32) (y := 1) hc' hz'
  go_enter_d Try.func73, Try.ntmps73
  go_wp2
  go_region_calls
  all_goals (go_end0; exact ⟨rfl, rfl⟩)
set_option maxRecDepth 100000 in
set_option maxHeartbeats 1600000 in
/-- (*sync.Mutex).Unlock, entered as a deferred call, held and nobody waiting -/
theorem unlock_deferred (a : Addr) (u : FrameMode) (w : World) (hc : w.cell? a = some (.int .i32 1)) (hz : w.frozen? a = false) :
    CallsD Try.prog 72 #[.pointer (some a)] u w fun e u' w' => u' = u ∧ (e = .returned (.tuple #[]) ∧ w' = w.setCell a (.int .i32 0)) := by
  have hd := disable
  have he := enable
  have hr := releaseMerge
  have hadd := run_call_add (P := Try.prog) Try.func98 (by kernel_rfl) (by kernel_rfl) (by kernel_rfl) .i32 (by kernel_rfl) (y := -1) (s := 0) hc hz (by simp [go_sem]; rfl)
  have hcv := run_convert_to_unsafe (P := Try.prog) (src := 155) (dst := 159) Try.underlying155 Try.underlying159 (by kernel_rfl) hc
  go_enter_d Try.func72, Try.ntmps72
  go_wp2
  go_end0
  go_wp2
  go_end0
  exact ⟨rfl, rfl⟩
set_option maxRecDepth 100000 in
set_option maxHeartbeats 1600000 in
/-- (*sync.Mutex).Lock, the lock free -/
theorem lock_free (a : Addr) (w : World) (hc : w.cell? a = some (.int .i32 0)) (hz : w.frozen? a = false) :
    Calls Try.prog 71 #[.pointer (some a)] w fun e w' => e = .returned (.tuple #[]) ∧ w' = w.setCell a (.int .i32 1) := by
  have hd := disable
  have he := enable
  have ha := acquire
  have hcas := run_call_cas_hit (P := Try.prog) Try.func93 (by kernel_rfl) (by kernel_rfl) (by kernel_rfl) .i32 (by kernel_rfl) (y := 1) hc hz
  have hc' : (w.setCell a (.int .i32 1)).cell? a = some (.int .i32 1) := World.cell?_setCell_same w a _ hc
  have hcv := run_convert_to_unsafe (P := Try.prog) (src := 155) (dst := 159) Try.underlying155 Try.underlying159 (by kernel_rfl) hc'
  go_enter Try.func71, Try.ntmps71
  go_wp2
  first | go_end0 | (simp only [Exit.inBlock, Exit.then]; refine bodyPost_ret (results_none rfl _ _ _) rfl ?_) | refine bodyPost_ret (results_none rfl _ _ _) rfl ?_
  go_wp2
  go_end0
  exact ⟨rfl, rfl⟩
end Go.Proofs.Ytlnomadhgoblkaa.Kit
-- Loads and stores of a whole block (a struct, an array).
set_option linter.unusedVariables false
set_option linter.unusedSimpArgs false
namespace Go.Proofs.Ytlnomadhgoblkaa.Kit
open Go.RowKit
section
variable {P : Program} {ops : Array Oper} {rest : List Oper} {o : Oper} {a : Act} {Q : Exit → Act → World → Prop} {w : World}
theorem wp_loadB (hgd : o.guard = none) (ty : TypeId) (x : Operand) (ho : o.op = .load ty x) (g : Nat) (hx : a.eval x = .pointer (some ⟨g, 0, none⟩)) {e : TypeId} {cur : List Value} (hb : Blk w g e cur) (d : TypeDesc)
    (hu : P.underlying ty = some d) (hd : (match d with | .struct _ | .array _ _ => true | _ => false) = true) (hi : (P.info? ty).map (·.size) = some cur.length)
    (h : wpList P ops Q rest (a.put o.dst (.agg cur.toArray)) w) : wpList P ops Q (o :: rest) a w := by
  obtain ⟨fr, hg, _⟩ := hb
  exact wpList_load_row hgd ty x ho g hx e cur.toArray fr d hg hu hd (by simpa using hi) h
theorem run_storeB {ty : TypeId} {g : Nat} {e : TypeId} {cur cs : List Value} (hb : Blk w g e cur) (hi : (P.info? ty).map (·.size) = some cs.length) (hl : cur.length = cs.length) (h1 : ∀ v ∈ cs, v.oneCell' = true) :
    ∃ w', (storeVar ty ⟨g, 0, none⟩ (.agg cs.toArray)).run P w = .ok () w' ∧ Blk w' g e cs ∧ Chg (· = g) w w' := by
  obtain ⟨w', hr, hb', hc⟩ := run_storeCells P g e cs 0 0 cur w hb (by omega) h1
  refine ⟨w', ?_, ?_, hc⟩
  · cases hq : P.info? ty with
    | none => simp [hq] at hi
    | some i =>
      have hs : i.size = cs.length := by simpa [hq] using hi
      simp [storeVar, sizeOf, typeInfo, hq, Value.cells, hs, hr]
  · simp only [Nat.zero_add, List.take_zero, List.nil_append, List.drop_eq_nil_of_le (Nat.le_of_eq hl), List.append_nil] at hb'
    exact hb'
theorem wp_storeB (hgd : o.guard = none) (ty : TypeId) (x y : Operand) (ho : o.op = .store ty x y) (g : Nat) (cs : List Value) (hx : a.eval x = .pointer (some ⟨g, 0, none⟩)) (hy : a.eval y = .agg cs.toArray) {e : TypeId} {cur : List Value} (hb : Blk w g e cur)
    (hi : (P.info? ty).map (·.size) = some cs.length) (hl : cur.length = cs.length) (h1 : ∀ v ∈ cs, v.oneCell' = true)
    (h : ∀ w', Blk w' g e cs → Chg (· = g) w w' → wpList P ops Q rest (a.put o.dst undef) w') : wpList P ops Q (o :: rest) a w :=
  wpList_plain hgd fun _ hK => by
    obtain ⟨w', hr, hb', hc⟩ := run_storeB (P := P) (ty := ty) hb hi hl h1
    unfold Oper.wp execOp
    simp only [ho, hx, hy, Instr.storeAt, Instr.sureAddr, Sem.run_bind, Sem.run_pure, Result.andThen_ok, hr]
    exact hK _ _ (h w' hb' hc)
theorem gate_load {dst : Option Tmp} {ty ty' : TypeId} {x : Operand} {pos : String} {after : Array Edge} {g : Option (Tmp × Bool)} (h : wpList P ops Q ({ dst := dst, op := .load ty x, type := ty', pos := pos, after := after, guard := g } :: rest) a w) : wpList P ops Q ({ dst := dst, op := .load ty x, type := ty', pos := pos, after := after, guard := g } :: rest) a w := h
theorem gate_store {dst : Option Tmp} {ty ty' : TypeId} {x y : Operand} {pos : String} {after : Array Edge} {g : Option (Tmp × Bool)} (h : wpList P ops Q ({ dst := dst, op := .store ty x y, type := ty', pos := pos, after := after, guard := g } :: rest) a w) : wpList P ops Q ({ dst := dst, op := .store ty x y, type := ty', pos := pos, after := after, guard := g } :: rest) a w := h
theorem results_cellB {fn : Func} {p : Tmp} {ty : TypeId} (h : fn.results = #[.cell p ty]) (tmps : Array Value) (g : Nat) (hp : tmps.getD p undef = .pointer (some ⟨g, 0, none⟩)) {e : TypeId} {cur : List Value} (hb : Blk w g e cur) (d : TypeDesc)
    (hu : P.underlying ty = some d) (hd : (match d with | .struct _ | .array _ _ => true | _ => false) = true) (hi : (P.info? ty).map (·.size) = some cur.length) : (results fn tmps).run P w = .ok (.agg cur.toArray) w := by
  obtain ⟨fr, hg, _⟩ := hb
  exact results_cell_row h tmps w g e cur.toArray fr d hp hg hu hd (by simpa using hi)
end
end Go.Proofs.Ytlnomadhgoblkaa.Kit
-- halves: the table of half a byte.
set_option linter.unusedVariables false
set_option linter.unusedSimpArgs false
namespace Go.Proofs.Ytlnomadhgoblkaa.Kit
open Go.RowKit
/-- the table, made up to k -/
def tblUp (k : Nat) : List Value := (List.range 16).map fun i => .int .u32 (if i < k then vi (tbl i) else 0)
theorem tblUp_length (k : Nat) : (tblUp k).length = 16 := by simp [tblUp]
theorem tblUp_set (k : Nat) (h : k < 16) : (tblUp k).set k (.int .u32 (vi (tbl k))) = tblUp (k + 1) := by
  apply List.ext_getElem
  · simp [tblUp]
  · intro i h1 h2
    rw [List.getElem_set]
    by_cases e : k = i
    · subst e
      simp [tblUp]
    · rw [if_neg e]
      have : (i < k) = (i < k + 1) := by apply propext; omega
      simp [tblUp, this]
theorem tblUp_full : tblUp 16 = tblCells := by
  unfold tblUp tblCells
  apply List.map_congr_left
  intro i hi
  rw [if_pos (List.mem_range.1 hi)]
theorem tblUp_one (k : Nat) : ∀ v ∈ tblUp k, v.oneCell' = true := by
  intro v hv
  simp only [tblUp, List.mem_map] at hv
  obtain ⟨i, _, rfl⟩ := hv
  rfl
theorem sizeTbl : (Try.prog.info? 103).map (·.size) = some 16 := by kernel_rfl
theorem tblUp_zero : tblUp 0 = List.replicate 16 (.int .u32 0) := by
  simp [tblUp]
  rfl
set_option maxHeartbeats 1600000 in
set_option maxRecDepth 20000 in
theorem halves (w : World) :
    Calls Try.prog 47 #[] w fun e w' => e = .returned (.agg tblCells.toArray) ∧ Chg (fun _ => False) w w' := by
  go_enter Try.func47, Try.ntmps47
  go_wp2
  go_loopw [4] (fun i wr => ∃ k : Nat, k ≤ 16 ∧ i = .int .i64 k ∧ Hid (Blk wr (w.heap.size + 1) 103 (tblUp k)) ∧ Hid (Blk wr w.heap.size 103 (tblUp 0)) ∧ Hid (Chg (fun _ => False) w wr)) (fun i _ => 16 - (intOf i).toNat)
  case atStart =>
    have h1 := Blk.new (w.alloc (.cells (List.replicate 16 (Value.int .u32 0)).toArray 103)) (List.replicate 16 (Value.int .u32 0)).toArray 103
    have h2 := (Blk.new w (List.replicate 16 (Value.int .u32 0)).toArray 103).alloc (.cells (List.replicate 16 (Value.int .u32 0)).toArray 103)
    rw [show (w.alloc (.cells (List.replicate 16 (Value.int .u32 0)).toArray 103)).heap.size = w.heap.size + 1 by simp] at h1
    refine ⟨0, by omega, rfl, ?_, ?_, ((Chg.refl _ w).alloc _).alloc _⟩
    · rw [tblUp_zero]
      exact h1
    · rw [tblUp_zero]
      exact h2
  case round =>
    obtain ⟨k, hk, rfl, B1, B0, HC⟩ := hrel
    by_cases hlt : k < 16
    · have E1 : IntKind.u32.wrap (k : Int) = vi (BitVec.ofNat 32 k) := by rw [vi_ofNat k (by omega)]; exact IntWalk.u32_in _ (by omega)
      have hc : wr.cell? ⟨w.heap.size + 1, k, none⟩ = some (.int .u32 0) := by
        refine B1.out.at_ ?_
        simp [tblUp, hlt]
      have hf : wr.frozen? ⟨w.heap.size + 1, k, none⟩ = false := B1.out.frozen (by rw [tblUp_length]; exact hlt)
      go_wp2
      go_loopw [9, 3] (fun i x wr' => ∃ j : Nat, j ≤ 4 ∧ i = .int .i64 j ∧ x = .int .u32 (vi (hN j (BitVec.ofNat 32 k))) ∧ wr' = wr) (fun i _ _ => 4 - (intOf i).toNat)
      case atStart => exact ⟨0, by omega, rfl, by first | rfl | (rw [← E1]; rfl) | exact congrArg _ E1, rfl⟩
      case round =>
        obtain ⟨j, hj, rfl, rfl, rfl⟩ := hrel
        by_cases hl4 : j < 4
        · by_cases hb : hN j (BitVec.ofNat 32 k) &&& 1#32 = 1#32
          · have a1 := and1_hit hb
            have a2 := Lib.hid (hv_hit hb)
            go_wp2
            go_roundw
            case rel => exact ⟨j + 1, by omega, by go_num, congrArg (Value.int .u32) a2.out, trivial⟩
            case measure => simp [intOf]; omega
          · have a1 := and1_miss hb
            have a2 := Lib.hid (hv_miss hb)
            go_wp2
            go_roundw
            case rel => exact ⟨j + 1, by omega, by go_num, congrArg (Value.int .u32) a2.out, trivial⟩
            case measure => simp [intOf]; omega
        · obtain rfl : j = 4 := by omega
          go_wp2
          go_roundw
          case rel =>
            refine ⟨k + 1, by omega, by go_num, ?_, ?_, HC.out.setCell (p := ⟨w.heap.size + 1, k, none⟩) (fun h => absurd h (by simp)) _⟩
            · have := B1.out.set k (.int .u32 (vi (tbl k)))
              rw [tblUp_set k hlt] at this
              exact this
            · exact B0.out.set_other (by simp) _
          case measure => simp [intOf]; omega
    · obtain rfl : k = 16 := by omega
      go_wp2_with (first | ((with_reducible refine gate_load ?_); go_must (refine wp_loadB rfl _ _ rfl (w.heap.size + 1) rfl B1.out _ Try.underlying103 rfl (by rw [tblUp_length]; exact sizeTbl) ?_)) | ((with_reducible refine gate_store ?_); go_must (refine wp_storeB rfl _ _ _ rfl w.heap.size (tblUp 16) rfl rfl B0.out (by rw [tblUp_length]; exact sizeTbl) (by rw [tblUp_length, tblUp_length]) (tblUp_one 16) ?_); intro w5 k1 k2; have K1 := Lib.hid k1; have K2 := Lib.hid k2; clear k1 k2))
      refine bodyPost_ret (results_cellB rfl _ w.heap.size rfl K1.out _ Try.underlying103 rfl (by rw [tblUp_length]; exact sizeTbl)) rfl ?_
      exact ⟨by rw [tblUp_full], HC.out.trans K2.out (fun i hi e => by omega)⟩
end Go.Proofs.Ytlnomadhgoblkaa.Kit
