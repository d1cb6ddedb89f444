/- handAll: sections that are handed in. -/
import Derived.Test.YtcljbaoadmflgaaProg
import Derived.Test.YtcljbaoadmflgaaSecs
import Derived.Test.YtcljbaoadmflgaaBookP
import Derived.Test.YtcljbaoadmflgaaOctSm
import Derived.Deep.RegionHeld3
import Derived.Deep.Slices
set_option linter.unusedVariables false
set_option linter.unusedSimpArgs false
namespace Go.Proofs.Ytcljbaoadmflgaa.Kit
open Go.RowKit
theorem box_news2 {W W' : World} (x y : Value) (e : TypeId) (hW : ∀ p, W'.cell? p = (W.alloc (.cells #[x, y] e)).cell? p) : ∀ (j : Nat) (u : Value), [x, y][j]? = some u → ∃ ad, some (⟨W.heap.size, 0, none⟩ : Addr) = some ad ∧ W'.cell? (ad.add j) = some u := by
  intro j u hj
  have hj2 : j < 2 := by
    rcases Nat.lt_or_ge j 2 with h | h
    · exact h
    · rw [List.getElem?_eq_none (by simpa using h)] at hj
      cases hj
  refine ⟨_, rfl, ?_⟩
  rw [hW]
  have := (Blk.new W #[x, y] e).cell j
  rw [show (⟨W.heap.size, 0, none⟩ : Addr).add j = ⟨W.heap.size, j, none⟩ from by unfold Addr.add; split <;> simp_all, this]
  exact hj
section
variable {P : Program} {ops : Array Oper} {rest : List Oper} {o : Oper} {a : Act} {Q : Exit → Act → World → Prop}
/-- append(v, y) of a struct of two cells -/
theorem st_app2 {W : World} {K : Act → World → Prop} {E : Prop} (hgd : o.guard = none) (s x : Operand) (t e : TypeId) (z : Value) (bytes : Nat)
    (ho : o.op = .call { callee := .builtin .append, args := #[s, x], argTypes := #[t, t] })
    (ht : P.underlying t = some (.slice e)) (hinfo : (P.info? e).map (fun i => (i.zero, i.size, i.bytes)) = some (some z, 2, bytes)) (hzs : z.cells.size = 2) (hby : 0 < bytes)
    (v : Value) (n : Nat) (cs : List Value) (y1 y2 : Value) (hy1 : y1.oneCell' = true) (hy2 : y2.oneCell' = true) (hs : a.eval s = v) (hown : OwnV W e 2 v n cs) (b : Nat)
    (hx : a.eval x = .slice (some ⟨b, 0, none⟩) 1 1) (hn : ∀ (j : Nat) (u : Value), [y1, y2][j]? = some u → ∃ ad, some (⟨b, 0, none⟩ : Addr) = some ad ∧ W.cell? (ad.add j) = some u) (hbytes : (n + 1) * bytes ≤ 140737488355328)
    (h : ∀ v' w', OwnV w' e 2 v' (n + 1) (cs ++ [y1, y2]) → Chg (fun g => v.ownBlock = some g) W w' → Fresh W v v' → K (a.put o.dst v') w') : if Region.wanted o (yielded ops a.tmps) = true then o.wp P a W K Q else E := by
  rw [if_pos (by simp [Region.wanted, hgd])]
  refine ow_app s x t e z 2 bytes ho ht hinfo hzs (by decide) hby v n cs hs hown _ 1 1 [y1, y2] hx rfl hn (by simp [hy1, hy2]) hbytes fun v' w' h2 h3 h4 h5 => h v' w' h2 h4 ?_
  rcases h5 with h5 | h5
  · exact .inl h5
  · refine .inr fun g hg => ?_
    rw [h5] at hg
    injection hg with hg
    omega
end
theorem infoS : (Try.prog.info? 80).map (fun i => (i.zero, i.size, i.bytes)) = some (some (.agg #[.int .i64 0, .slice none 0 0]), 2, 32) := by kernel_rfl
/-- the cells of sections whose bodies lie in blocks gs -/
def inCells : List SecV → List Nat → List Value
  | x :: xs, g :: gs => .int .i64 x.id :: .slice (some ⟨g, 0, none⟩) x.body.length (x.body.length + 90) :: inCells xs gs
  | _, _ => []
def fullCells : List SecV → List Nat → List Value
  | x :: xs, g :: gs => .slice (some ⟨g, 0, none⟩) (x.body.length + 90) (x.body.length + 90) :: fullCells xs gs
  | _, _ => []
theorem inCells_snoc : ∀ (l : List SecV) (gs : List Nat) (x : SecV) (g : Nat), l.length = gs.length → inCells (l ++ [x]) (gs ++ [g]) = inCells l gs ++ [.int .i64 x.id, .slice (some ⟨g, 0, none⟩) x.body.length (x.body.length + 90)]
  | [], [], x, g, _ => rfl
  | y :: ys, h :: hs, x, g, e => by
    show _ :: _ :: inCells (ys ++ [x]) (hs ++ [g]) = _
    rw [inCells_snoc ys hs x g (by simpa using e)]
    rfl
  | [], _ :: _, _, _, e => by simp at e
  | _ :: _, [], _, _, e => by simp at e
theorem fullCells_snoc : ∀ (l : List SecV) (gs : List Nat) (x : SecV) (g : Nat), l.length = gs.length → fullCells (l ++ [x]) (gs ++ [g]) = fullCells l gs ++ [.slice (some ⟨g, 0, none⟩) (x.body.length + 90) (x.body.length + 90)]
  | [], [], x, g, _ => rfl
  | y :: ys, h :: hs, x, g, e => by
    show _ :: fullCells (ys ++ [x]) (hs ++ [g]) = _
    rw [fullCells_snoc ys hs x g (by simpa using e)]
    rfl
  | [], _ :: _, _, _, e => by simp at e
  | _ :: _, [], _, _, e => by simp at e
theorem inCells_get : ∀ (l : List SecV) (gs : List Nat) (i : Nat) (h : i < l.length) (h' : i < gs.length), (inCells l gs)[i * 2]? = some (.int .i64 l[i].id) ∧ (inCells l gs)[i * 2 + 1]? = some (.slice (some ⟨gs[i], 0, none⟩) l[i].body.length (l[i].body.length + 90))
  | [], _, i, h, _ => absurd h (by simp)
  | _ :: _, [], i, _, h => absurd h (by simp)
  | x :: xs, g :: gs, 0, _, _ => ⟨rfl, rfl⟩
  | x :: xs, g :: gs, i + 1, h, h' => by
    have := inCells_get xs gs i (by simpa using h) (by simpa using h')
    rw [show (i + 1) * 2 = i * 2 + 1 + 1 by omega]
    exact this
theorem fullCells_get : ∀ (l : List SecV) (gs : List Nat) (i : Nat) (h : i < l.length) (h' : i < gs.length), (fullCells l gs)[i]? = some (.slice (some ⟨gs[i], 0, none⟩) (l[i].body.length + 90) (l[i].body.length + 90))
  | [], _, i, h, _ => absurd h (by simp)
  | _ :: _, [], i, _, h => absurd h (by simp)
  | x :: xs, g :: gs, 0, _, _ => rfl
  | x :: xs, g :: gs, i + 1, h, h' => fullCells_get xs gs i (by simpa using h) (by simpa using h')
/-- sections in memory of their own: l are as they came (lengths, Ids), bodies as they are now -/
structure Handed (w : World) (vi vf : Value) (l : List SecV) (now : List (List Int)) (gs : List Nat) : Prop where
  rowI : OwnV w 80 2 vi l.length (inCells l gs)
  rowF : OwnV w 22 1 vf l.length (fullCells l gs)
  lenG : gs.length = l.length
  lenN : now.length = l.length
  len : ∀ i (h : i < l.length) (h' : i < now.length), now[i].length = l[i].body.length
  own : ∀ i (h : i < l.length) (hg : i < gs.length) (hn : i < now.length), OwnB w (.slice (some ⟨gs[i], 0, none⟩) (l[i].body.length + 90) (l[i].body.length + 90)) (now[i] ++ marks)
  apart : gs.Nodup
theorem Handed.snoc {w w3 : World} {a b a' b' : Value} {lk : List SecV} {now : List (List Int)} {gs : List Nat} {x : SecV} {g k : Nat} {S : Nat → Prop} (h : Handed w a b lk now gs) (hk : lk.length = k) (c : Chg S w w3) (hS : ∀ y, S y → ¬ ∃ cur, Blk w y 5 cur)
    (hI : OwnV w3 80 2 a' (k + 1) (inCells lk gs ++ [.int .i64 x.id, .slice (some ⟨g, 0, none⟩) x.body.length (x.body.length + 90)])) (hF : OwnV w3 22 1 b' (k + 1) (fullCells lk gs ++ [.slice (some ⟨g, 0, none⟩) (x.body.length + 90) (x.body.length + 90)]))
    (hO : OwnB w3 (.slice (some ⟨g, 0, none⟩) (x.body.length + 90) (x.body.length + 90)) (x.body ++ marks)) (hg : g ∉ gs) : Handed w3 a' b' (lk ++ [x]) (now ++ [x.body]) (gs ++ [g]) := by
  have h1 := h.lenG
  have h2 := h.lenN
  refine ⟨?_, ?_, by simp [h1], by simp [h2], fun i hi hi' => ?_, fun i hi hig hin => ?_, ?_⟩
  · rw [inCells_snoc _ _ _ _ h1.symm, List.length_append, List.length_singleton, hk]
    exact hI
  · rw [fullCells_snoc _ _ _ _ h1.symm, List.length_append, List.length_singleton, hk]
    exact hF
  · by_cases hlt : i < lk.length
    · rw [List.getElem_append_left (by omega), List.getElem_append_left hlt]
      exact h.len i hlt (by omega)
    · have : i = lk.length := by simp at hi; omega
      subst this
      rw [List.getElem_append_right (by omega), List.getElem_append_right (Nat.le_refl _)]
      simp [h2]
  · by_cases hlt : i < lk.length
    · rw [List.getElem_append_left (by omega), List.getElem_append_left hlt, List.getElem_append_left (by omega)]
      have ho := h.own i hlt (by omega) (by omega)
      exact ho.chg c fun y hy hs => hS y hs (OwnV.typed ho y hy)
    · have : i = lk.length := by simp at hi; omega
      subst this
      rw [List.getElem_append_right (by omega), List.getElem_append_right (Nat.le_refl _), List.getElem_append_right (by omega)]
      simp only [Nat.sub_self, h1, h2, List.getElem_cons_zero]
      exact hO
  · rw [List.nodup_append]
    refine ⟨h.apart, by simp, fun y hy z hz => ?_⟩
    rw [List.mem_singleton] at hz
    subst hz
    exact fun e => hg (e ▸ hy)
theorem Handed.chg {w w1 : World} {a b : Value} {l : List SecV} {now : List (List Int)} {gs : List Nat} {S : Nat → Prop} (h : Handed w a b l now gs) (c : Chg S w w1) (h1 : ∀ y, a.ownBlock = some y → ¬ S y) (h2 : ∀ y, b.ownBlock = some y → ¬ S y) (h3 : ∀ g ∈ gs, ¬ S g) : Handed w1 a b l now gs :=
  ⟨h.rowI.chg c h1, h.rowF.chg c h2, h.lenG, h.lenN, h.len, fun i hi hg hn => (h.own i hi hg hn).chg c (fun y hy => by
    simp [Value.ownBlock] at hy
    subst hy
    exact h3 _ (List.getElem_mem _)), h.apart⟩
theorem Handed.chg0 {w w1 : World} {a b : Value} {l : List SecV} {now : List (List Int)} {gs : List Nat} (h : Handed w a b l now gs) (c : Chg (fun _ => False) w w1) : Handed w1 a b l now gs := h.chg c (fun _ _ h => h) (fun _ _ h => h) (fun _ _ h => h)
/-- the sections as they are now -/
theorem Handed.rd {w : World} {A : Option Addr} {n c : Nat} {b : Value} {l l2 : List SecV} {now : List (List Int)} {gs : List Nat} (h : Handed w (.slice A n c) b l now gs) (hl : l2.length = l.length) (hid : ∀ i (h1 : i < l2.length) (h2 : i < l.length), l2[i].id = l[i].id) (hbd : ∀ i (h1 : i < l2.length) (h2 : i < now.length), l2[i].body = now[i])
    (hbt : ∀ x ∈ l2, Byt x.body) (hrg : ∀ x ∈ l2, -9223372036854775808 ≤ x.id ∧ x.id ≤ 9223372036854775807) (hlen : ∀ x ∈ l, x.body.length ≤ 1048576) : RdSecs w A l2 := fun i hi => by
  have hi1 : i < l.length := by omega
  have hi2 : i < gs.length := by rw [h.lenG]; omega
  have hi3 : i < now.length := by rw [h.lenN]; omega
  obtain ⟨g1, g2⟩ := inCells_get l gs i hi1 hi2
  have hnn : n = l.length := by
    obtain ⟨A', c', hv, _⟩ := h.rowI.slice
    injection hv with _ hn _
  have hrow := h.rowI
  rw [← hnn] at hrow
  obtain ⟨ad, rfl, k1, _⟩ := hrow.cells _ _ _ rfl _ _ g1
  obtain ⟨ad', e', k2, _⟩ := hrow.cells _ _ _ rfl _ _ g2
  injection e' with e'
  subst e'
  refine ⟨ad, rfl, ?_, ⟨some ⟨gs[i], 0, none⟩, l[i].body.length + 90, ?_, ?_, ?_, ?_⟩, hbt _ (List.getElem_mem hi), hrg _ (List.getElem_mem hi)⟩
  · rw [hid i hi hi1]
    exact k1
  · rw [show (⟨(ad.add (i * 2)).block, (ad.add (i * 2)).off + 1, none⟩ : Addr) = (ad.add (i * 2)).add 1 from rfl, Go.Deep.add_add, hbd i hi hi3, h.len i hi1 hi3]
    exact k2
  · rw [hbd i hi hi3, h.len i hi1 hi3]
    omega
  · have := hlen _ (List.getElem_mem hi1)
    simp only [maxLen]
    omega
  · have hl1 := h.len i hi1 hi3
    have := ((h.own i hi1 hi2 hi3).rd (A := some ⟨gs[i], 0, none⟩) (c := l[i].body.length + 90) (by simp [marks_length, hl1])).take now[i].length
    rw [List.take_left] at this
    rw [hbd i hi hi3]
    exact this
set_option maxRecDepth 20000 in
set_option maxHeartbeats 3200000 in
theorem handAll (A : Option Addr) (n c : Nat) (l : List SecV) (w : World) (HN : Hid (n = l.length)) (hnl : n ≤ c) (hn : n ≤ 1048576) (hr : Hid (RdSecs w A l)) (hb : Hid (∀ x ∈ l, x.body.length ≤ 1048576)) :
    Calls Try.prog 39 #[.slice A n c] w fun e w' => ∃ Ai ci Af cf gs, e = .returned (.tuple #[.slice Ai n ci, .slice Af n cf]) ∧ Handed w' (.slice Ai n ci) (.slice Af n cf) l (l.map SecV.body) gs ∧ Chg (fun _ => False) w w' ∧ (∀ g ∈ gs, w.heap.size ≤ g) ∧ (∀ x, Value.ownBlock (.slice Ai n ci) = some x → w.heap.size ≤ x) ∧ (∀ x, Value.ownBlock (.slice Af n cf) = some x → w.heap.size ≤ x) := by
  go_enter Try.func39, Try.ntmps39
  go_wp2_with fail
  go_loopw [4, 5, 6] (fun a b i wr => ∃ k : Nat, k ≤ n ∧ i = .int .i64 k ∧ ∃ gs, Hid (Handed wr a b (l.take k) ((l.take k).map SecV.body) gs) ∧ Hid (Chg (fun _ => False) w wr) ∧ Hid (∀ g ∈ gs, w.heap.size ≤ g) ∧ Hid (∀ x, a.ownBlock = some x → w.heap.size ≤ x) ∧ Hid (∀ x, b.ownBlock = some x → w.heap.size ≤ x)) (fun _ _ i _ => n - (intOf i).toNat)
  case atStart => exact ⟨0, Nat.zero_le _, rfl, [], ⟨OwnV.nil _ _ _, OwnV.nil _ _ _, rfl, rfl, fun i h => absurd h (by simp), fun i h => absurd h (by simp), List.nodup_nil⟩, Chg.refl _ _, fun g h => absurd h (by simp), fun x h => by simp [Value.ownBlock] at h, fun x h => by simp [Value.ownBlock] at h⟩
  case round =>
    obtain ⟨k, hk, rfl, gs, HK, CK, GK, FA, FB⟩ := hrel
    have hkl0 : k ≤ l.length := by rw [← HN.out]; exact hk
    have htl : (l.take k).length = k := by rw [List.length_take]; omega
    obtain ⟨Aa, ca, rfl, hca, _⟩ := HK.out.rowI.slice
    obtain ⟨Ab, cb, rfl, hcb, _⟩ := HK.out.rowF.slice
    rw [htl] at HK FA FB hca hcb ⊢
    by_cases hlt : k < n
    · have hkl : k < l.length := by rw [← HN.out]; exact hlt
      obtain ⟨ad, rfl, sa⟩ := hr.out k hkl
      obtain ⟨B, d, f1, f2, f3, f4⟩ := sa.body
      have f0 := CK.out.cell (fun h => h) sa.id
      have f1' := f1
      replace f1 := CK.out.cell (fun h => h) f1
      obtain ⟨x, hx⟩ : ∃ x, x = l[k] := ⟨_, rfl⟩
      have hm1 := hb.out x (by rw [hx]; exact List.getElem_mem hkl)
      have hsid := sa.id
      rw [← hx] at f0 f1 f1' f2 f4 hsid
      obtain ⟨m, hm⟩ : ∃ m, m = x.body.length := ⟨_, rfl⟩
      rw [← hm] at f1 f1' f2 hm1
      have HM := Lib.hid hm
      have HX := Lib.hid hx
      have F4 := Lib.hid f4
      have HC : Hid (∀ W, Chg (fun _ => False) w W → W.cell? ⟨(ad.add (k * 2)).block, (ad.add (k * 2)).off + 1, none⟩ = some (.slice B m d) ∧ W.cell? (ad.add (k * 2)) = some (.int .i64 x.id)) := fun W hW => ⟨hW.cell (fun h => h) f1', hW.cell (fun h => h) hsid⟩
      have HTL := Lib.hid htl
      have hbl : Hid (x.body.length ≤ 140737488351232) := by rw [Hid, ← HM.out]; omega
      have hrd : Hid (Rd wr .u8 B x.body) := F4.out.below CK.out.done
      have b1 : (0 : Int) ≤ (k : Int) := by omega
      have b2 : (k : Int) < (n : Int) := by omega
      clear hx hm sa f4 f1' hsid htl
      go_wp2_with fail
      refine (show Calls Try.prog 16 #[.slice B m d] wr _ from HM.out ▸ hand B d x.body _ hbl.out hrd).mono ?_
      rintro e w1 ⟨g, rfl, k1, k2, k3⟩
      have I1 := Lib.hid k1; have hg := Lib.hid k2; have C1 := Lib.hid k3
      clear k1 k2 k3
      have HF1 := Lib.hid (HK.out.rowF.chg C1.out (fun _ _ h => h))
      have HI1 := Lib.hid (HK.out.rowI.chg C1.out (fun _ _ h => h))
      rw [HTL.out] at HF1 HI1
      have hgF : Hid (∀ y, Value.ownBlock (.slice Ab k cb) = some y → y ≠ g) := fun y hy e => by have := HK.out.rowF.lt y hy; have := hg.out; omega
      have hgI : Hid (∀ y, Value.ownBlock (.slice Aa k ca) = some y → y ≠ g) := fun y hy e => by have := HK.out.rowI.lt y hy; have := hg.out; omega
      have hFI : Hid (∀ y, Value.ownBlock (.slice Aa k ca) = some y → Value.ownBlock (.slice Ab k cb) ≠ some y) := fun y hy e => by
        obtain ⟨cur', hcu⟩ := HF1.out.typed y e
        exact HI1.out.type_ne hcu (by decide) hy
      go_wp2_with (at_builtin; go_must (refine wp_appv1 rfl _ _ 47 22 (.slice none 0 0) 24 rfl Try.underlying47 infoL rfl (by decide) (.slice Ab k cb) k (fullCells (l.take k) gs) (.slice (some ⟨g, 0, none⟩) (m + 90) (m + 90)) rfl rfl HF1.out rfl (by omega) ?_); intro v2 w2 k1 k2 k3; obtain ⟨A2, c2, rfl, _, _⟩ := k1.slice; have K1 := Lib.hid k1; have K2 := Lib.hid k2; have K3 := Lib.hid k3; clear k1 k2 k3; go_frame)
      have CW2 : Hid (Chg (fun _ => False) w w2) := (CK.out.trans C1.out (fun _ _ h => h)).trans K2.out (fun y hy e => by have := FB.out y e; omega)
      have HI2 := Lib.hid (HI1.out.chg K2.out (fun y hy e => hFI.out y hy e))
      obtain ⟨f1b, f0b⟩ := HC.out w2 CW2.out
      have E1 : (0 : Int) ≤ (m : Int) := by omega
      have E2 : (m : Int) ≤ (m : Int) + 90 := by omega
      go_region_held3 (fun w' => w'.cell? (ad.add (k * 2)) = some (.int .i64 x.id) ∧ w'.cell? ⟨(ad.add (k * 2)).block, (ad.add (k * 2)).off + 1, none⟩ = some (.slice B m d)) (first | exact ⟨f0b, f1b⟩ | go_keep | (obtain ⟨q1, q2⟩ := HC.out w3 CW3.out; exact ⟨q2, q1⟩)) (first | ((refine st_app2 rfl _ _ 72 80 (.agg #[.int .i64 0, .slice none 0 0]) 32 rfl Try.underlying72 infoS rfl (by decide) (.slice Aa k ca) k (inCells (l.take k) gs) (.int .i64 x.id) (.slice (some ⟨g, 0, none⟩) m (m + 90)) rfl rfl rfl (HI2.out.chg (S := fun _ => False) (by repeat (first | exact Chg.refl _ _ | refine Chg.drew ?_ | refine Chg.drewN ?_ _ | refine Chg.alloc ?_ _)) (fun _ _ h => h)) w2.heap.size rfl (box_news2 _ _ _ (fun _ => rfl)) (by omega) ?_); intro v3 w3 k1 k2 k3; obtain ⟨A3, c3, rfl, _, _⟩ := k1.slice; have N1 := Lib.hid k1; have N2 := Lib.hid k2; have N3 := Lib.hid k3; clear k1 k2 k3; have CW3 : Hid (Chg (fun _ => False) w w3) := (show Chg (fun _ => False) w _ from by repeat (first | exact CW2.out | refine Chg.drew ?_ | refine Chg.drewN ?_ _ | refine Chg.alloc ?_ _)).trans N2.out (fun y hy e => by have := FA.out y e; omega); have NN : Hid (Chg (fun y => Value.ownBlock (.slice Aa k ca) = some y) w2 w3) := (show Chg _ w2 _ from by repeat (first | exact Chg.refl _ _ | refine Chg.drew ?_ | refine Chg.drewN ?_ _ | refine Chg.alloc ?_ _)).trans N2.out (fun _ _ h => h); have F3 : Hid (∀ y, Value.ownBlock (.slice A3 (k + 1) c3) = some y → w.heap.size ≤ y) := N3.out.ge FA.out (by have := CW2.out.size; simp; omega)))
      go_wp2_with fail
      have F2 : ∀ y, Value.ownBlock (.slice A2 (k + 1) c2) = some y → w.heap.size ≤ y := K3.out.ge FB.out (Nat.le_trans CK.out.size C1.out.size)
      have hgn : g ∉ gs := fun hm => by
        have hlg := HK.out.lenG
        obtain ⟨i, hi, e⟩ := List.getElem_of_mem hm
        have hln := HK.out.lenN
        have ho := HK.out.own i (by omega) hi (by omega)
        have h1 : gs[i] < wr.heap.size := ho.lt _ rfl
        have h2 := hg.out
        omega
      have HI3 := N1.out
      have HF3 := K1.out.chg NN.out (fun y hy e => by
        obtain ⟨cur', hcu⟩ := OwnV.typed HI2.out y e
        exact K1.out.type_ne hcu (by decide) hy)
      have IO := (I1.out.chg K2.out (fun y hy e => by
        simp [Value.ownBlock] at hy
        exact hgF.out y e hy.symm)).chg NN.out (fun y hy e => by
        simp [Value.ownBlock] at hy
        exact hgI.out y e hy.symm)
      have CC : Chg (fun y => Value.ownBlock (.slice Aa k ca) = some y ∨ Value.ownBlock (.slice Ab k cb) = some y) wr w3 := ((C1.out.mono (fun _ _ h => h.elim)).trans K2.out (fun _ _ h => .inr h)).trans NN.out (fun _ _ h => .inl h)
      rw [HM.out] at HI3 HF3 IO
      have hH := HK.out.snoc HTL.out CC (fun y hy ht => by
        obtain ⟨cur', hcu⟩ := ht
        have h1 := HK.out.rowI
        have h2 := HK.out.rowF
        rcases hy with hy | hy
        · exact h1.type_ne hcu (by decide) hy
        · exact h2.type_ne hcu (by decide) hy) HI3 HF3 IO hgn
      have htk : l.take k ++ [x] = l.take (k + 1) := by rw [HX.out]; exact (List.take_succ_eq_append_getElem hkl).symm
      have hmp : (l.take k).map SecV.body ++ [x.body] = (l.take (k + 1)).map SecV.body := by rw [← htk]; simp
      rw [htk, hmp] at hH
      refine ⟨⟨k + 1, by omega, by go_num, gs ++ [g], hH, CW3.out, fun y hy => ?_, F3.out, F2⟩, by simp [intOf]; omega⟩
      rcases List.mem_append.1 hy with hy | hy
      · exact GK.out y hy
      · rw [List.mem_singleton] at hy
        subst hy
        exact Nat.le_trans CK.out.size hg.out
    · obtain rfl : k = n := by omega
      have htk : l.take k = l := List.take_of_length_le (by rw [← HN.out]; exact Nat.le_refl _)
      rw [htk] at HK
      go_wp2_with fail
      go_ret2
      exact ⟨_, _, _, _, gs, rfl, HK.out, CK.out, GK.out, FA.out, FB.out⟩
end Go.Proofs.Ytcljbaoadmflgaa.Kit
