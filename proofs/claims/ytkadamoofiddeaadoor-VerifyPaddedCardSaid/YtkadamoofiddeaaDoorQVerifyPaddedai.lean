/- Texts that the row leans on: PvW. -/
import Derived.Test.YtkadamoofiddeaaDoorProg
import Derived.Test.YtkadamoofiddeaaDoorQVerifyPaddedah
-- The walk of VerifyPadded.
set_option linter.unusedVariables false
set_option linter.unusedSimpArgs false
namespace Go.Proofs.YtkadamoofiddeaaDoor.Kit
open Go.RowKit Go.Maps
theorem dayCells_cell (l : List SegV) : ∀ (vs : List Value), (∀ v ∈ vs, v.oneCell' = true) → ∀ u ∈ dayCells l vs, u.oneCell' = true := by
  induction l with
  | nil => intro vs _ u hu; simp [dayCells] at hu
  | cons x xs ih =>
    intro vs hv u hu
    rcases vs with _ | ⟨v, vs⟩
    · simp [dayCells] at hu
    · rcases List.mem_cons.1 hu with rfl | hu
      · rfl
      · rcases List.mem_cons.1 hu with rfl | hu
        · exact hv _ (by simp)
        · exact ih vs (fun z hz => hv z (by simp [hz])) u hu
theorem own0 (W : World) (e : TypeId) (sz b : Nat) (hb : b = W.heap.size) : OwnV (W.alloc (.cells #[] e)) e sz (.slice (some ⟨b, 0, none⟩) 0 0) 0 [] := by
  subst hb
  exact ⟨by simp, .inr ⟨W.heap.size, 0, [], rfl, Blk.new W #[] _, Nat.le_refl _, Nat.zero_le _, by simp, by simp⟩⟩
theorem own_drew {W : World} {e : TypeId} {sz n : Nat} {v : Value} {cs : List Value} (h : OwnV W e sz v n cs) : OwnV W.drew e sz v n cs := h.chg (S := fun _ => False) ((Chg.refl _ W).drew) (fun _ _ h => h)
theorem blk_rd {W : World} {b : Nat} {e : TypeId} {cs : List Value} (h : Blk W b e cs) : RdG W (some ⟨b, 0, none⟩) cs := fun j u hu => by
  refine ⟨_, rfl, ?_⟩
  rw [show (⟨b, 0, none⟩ : Addr).add j = ⟨b, j, none⟩ from by unfold Addr.add; split <;> simp_all]
  exact h.at_ hu
theorem blk_nine {W : World} {b : Nat} (hb : b = W.heap.size) : Blk (W.alloc (.cells #[.int .i64 2, .int .i64 1, .int .i64 0, .int .i64 8, .int .i64 0, .int .i64 0, .int .i64 0, .int .i64 0, .int .i64 0] 47)) b 47 (insCells [insB, insD, insE]) := by
  subst hb
  exact Blk.new W #[.int .i64 2, .int .i64 1, .int .i64 0, .int .i64 8, .int .i64 0, .int .i64 0, .int .i64 0, .int .i64 0, .int .i64 0] 47
theorem rd_nine (W : World) : RdG (W.alloc (.cells #[.int .i64 2, .int .i64 1, .int .i64 0, .int .i64 8, .int .i64 0, .int .i64 0, .int .i64 0, .int .i64 0, .int .i64 0] 47)) (some ⟨W.heap.size, 0, none⟩) (insCells [insB, insD, insE]) := blk_rd (blk_nine rfl)
theorem pad1 {w7 W w8 : World} {b m : Nat} {v8 : Value} {cs : List Value} (CW : Hid (Chg (fun _ => False) w7 W)) (hb : w7.heap.size ≤ b) (k1 : OwnV w8 47 3 v8 (0 + m) ([] ++ cs)) (k2 : Chg (fun k => Value.ownBlock (.slice (some ⟨b, 0, none⟩) 0 0) = some k) W w8) (k3 : Fresh W (.slice (some ⟨b, 0, none⟩) 0 0) v8) :
    ∃ A8 c8, v8 = .slice A8 m c8 ∧ Hid (OwnV w8 47 3 (.slice A8 m c8) m cs) ∧ Hid (Chg (fun _ => False) w7 w8) ∧ Hid (∀ y, Value.ownBlock (.slice A8 m c8) = some y → w7.heap.size ≤ y) ∧ Hid (∀ bb cur, bb ≠ b → Blk W bb 47 cur → Blk w8 bb 47 cur) := by
  obtain ⟨A8, c8, rfl, hc2, _⟩ := k1.slice
  have e8 : Value.ownBlock (.slice A8 (0 + m) c8) = Value.ownBlock (.slice A8 m c8) := by cases A8 <;> rfl
  rw [Nat.zero_add, List.nil_append] at k1
  refine ⟨A8, c8, by rw [Nat.zero_add], k1, CW.out.trans k2 (fun y hy e => by simp [Value.ownBlock] at e; omega), fun y hy => ?_, fun bb cur hne h => h.chg k2 (fun e => by simp [Value.ownBlock] at e; omega)⟩
  rcases k3 with h3 | h3
  · rw [e8, hy] at h3
    simp [Value.ownBlock] at h3
    omega
  · have := h3 y (by rw [e8]; exact hy)
    have := CW.out.size
    omega
theorem pad2 {w7 w8 W w9 : World} {g6 n4 c6 m c8 sg : Nat} {A8 : Option Addr} {v9 : Value} {dc : List Value} {c : List InsV} (C8 : Hid (Chg (fun _ => False) w7 w8)) (CW : Hid (Chg (fun _ => False) w8 W)) (F8 : Hid (∀ y, Value.ownBlock (.slice A8 m c8) = some y → w7.heap.size ≤ y)) (O7 : Hid (OwnV w7 42 2 (.slice (some ⟨g6, 0, none⟩) n4 c6) n4 dc))
    (hl : Hid (m + 1 = c.length)) (hs : sg < n4) (k1 : OwnV w9 47 3 v9 (m + 3) (insCells (c.take m) ++ insCells [insB, insD, insE])) (k2 : Chg (fun k => Value.ownBlock (.slice A8 m c8) = some k) W w9) :
    ∃ A9 c9, v9 = .slice A9 (m + 3) c9 ∧ Hid (∀ i v, RdG (w9.setCell ⟨g6, i, none⟩ v) A9 (insCells (padC c))) ∧ Hid (m + 3 ≤ c9 ∧ c9 ≤ maxLen) ∧ Hid (OwnV w9 42 2 (.slice (some ⟨g6, 0, none⟩) n4 c6) n4 dc) ∧ Hid (Chg (fun _ => False) w7 w9) ∧ (∃ u, w9.cell? ⟨g6, sg * 2 + 1, none⟩ = some u) ∧ w9.frozen? ⟨g6, sg * 2 + 1, none⟩ = false := by
  obtain ⟨A9, c9, rfl, hc1, hc2⟩ := k1.slice
  have C9 : Chg (fun _ => False) w7 w9 := (C8.out.trans CW.out (fun _ _ h => h)).trans k2 (fun y hy e => by have := F8.out y e; omega)
  have O9 := O7.out.chg C9 (fun _ _ h => h)
  obtain ⟨g', e, h1, h2⟩ := O9.baseOf (by omega)
  injection e with e
  injection e with e
  subst e
  refine ⟨A9, c9, rfl, ?_, ⟨hc1, hc2⟩, O9, C9, ?_, h1 _ (by omega)⟩
  · intro i v
    obtain ⟨cur, hb⟩ := O9.typed g6 rfl
    have := (k1.chg ((Chg.refl (fun y => y = g6) w9).setCell (p := ⟨g6, i, none⟩) (fun _ => rfl) v) (fun y hy e => OwnV.type_ne k1 hb (by decide) (by rw [← e]; exact hy))).rdG
    rw [← insCells_append] at this
    rw [show padC c = c.take m ++ [insB, insD, insE] from by unfold padC; rw [← hl.out, Nat.add_sub_cancel]]
    exact this
  · have hlen : sg * 2 + 1 < dc.length := by rw [O7.out.1]; omega
    exact ⟨_, h2 _ _ (List.getElem?_eq_getElem hlen)⟩
theorem OwnV.storeG {w : World} {e : TypeId} {g n c sz : Nat} {cs : List Value} (h : OwnV w e sz (.slice (some ⟨g, 0, none⟩) n c) n cs) {i : Nat} (x : Value) : OwnV (w.setCell ⟨g, i, none⟩ x) e sz (.slice (some ⟨g, 0, none⟩) n c) n (cs.set i x) := by
  refine ⟨by rw [List.length_set]; exact h.1, ?_⟩
  rcases h.2 with ⟨h1, _⟩ | ⟨g', cap, cur, h0, hb, h1, h2, h3, h4⟩
  · injection h1 with h1
    cases h1
  · injection h0 with hA hn hc
    injection hA with hA
    injection hA with hA
    subst hA hc
    refine .inr ⟨g, c, _, rfl, hb.set i x, h1, h2, by simpa using h3, ?_⟩
    rw [List.take_set, h4]
theorem dayCells_set : ∀ (l : List SegV) (vs : List Value) (i : Nat) (x : SegV) (c : List InsV) (v : Value), l.length = vs.length → l[i]? = some x → dayCells (l.set i ⟨x.day, c⟩) (vs.set i v) = (dayCells l vs).set (i * 2 + 1) v
  | [], vs, i, x, c, v, _, hx => by simp at hx
  | y :: ys, [], i, x, c, v, h, _ => by simp at h
  | y :: ys, u :: us, 0, x, c, v, h, hx => by
    simp at hx
    subst hx
    rfl
  | y :: ys, u :: us, i + 1, x, c, v, h, hx => by
    rw [show (i + 1) * 2 + 1 = (i * 2 + 1) + 1 + 1 from by omega]
    show _ :: _ :: dayCells (ys.set i ⟨x.day, c⟩) (us.set i v) = _ :: _ :: (dayCells ys us).set (i * 2 + 1) v
    rw [dayCells_set ys us i x c v (by simpa using h) (by simpa using hx)]
theorem pad_rd {w W : World} {s : ProgS} {p : ProgV} {sg g6 n4 c6 m c9 : Nat} {A9 : Option Addr} {x : SegV} (hp : Hid (RdProg w s p)) (CW : Hid (Chg (fun _ => False) w W)) (hx : Hid (p.days[sg]? = some x)) (hE : EndsE x.code) (hl : Hid (m + 1 = x.code.length)) (LD : Hid (n4 = p.days.length))
    (R9 : RdG W A9 (insCells (padC x.code))) (h9 : m + 3 ≤ c9 ∧ c9 ≤ maxLen) (O9 : OwnV W 42 2 (.slice (some ⟨g6, 0, none⟩) n4 c6) n4 ((dayCells p.days s.codes).set (sg * 2 + 1) (.slice A9 (m + 3) c9))) :
    RdProg W ⟨s.names, s.curs, s.pool, .slice (some ⟨g6, 0, none⟩) n4 c6, s.codes.set sg (.slice A9 (m + 3) c9)⟩ (padP p sg x) := by
  have h := hp.out.chg0 CW.out
  have hlen : (padC x.code).length = m + 3 := by rw [padC_length hE, ← hl.out]
  have hdc := dayCells_set p.days s.codes sg x (padC x.code) (.slice A9 (m + 3) c9) h.lenC hx.out
  obtain ⟨hi, hxe⟩ := List.getElem?_eq_some_iff.1 hx.out
  obtain ⟨A, c, hv, hc, hm⟩ := O9.slice
  injection hv with _ _ hcc
  refine ⟨h.names, h.curs, h.pool, ⟨⟨some ⟨g6, 0, none⟩, c6, ?_, ?_, by omega, ?_⟩, ?_⟩, ?_, fun i h1 h2 => ?_⟩
  · show Value.slice _ n4 c6 = .slice _ (p.days.set sg _).length c6
    rw [List.length_set, LD.out]
  · show (p.days.set sg _).length ≤ c6
    rw [List.length_set, ← LD.out]; omega
  · show RdG W _ (dayCells (p.days.set sg _) (s.codes.set sg _))
    rw [hdc]
    exact O9.rdG
  · show (dayCells (p.days.set sg _) (s.codes.set sg _)).length = (p.days.set sg _).length * 2
    rw [hdc, List.length_set, List.length_set, dayCells_length _ _ h.lenC]
  · show (p.days.set sg _).length = (s.codes.set sg _).length
    rw [List.length_set, List.length_set]
    exact h.lenC
  · have h1' : i < p.days.length := by have : (padP p sg x).days.length = p.days.length := by simp [padP]
                                       omega
    have h2' : i < s.codes.length := by rw [← h.lenC]; exact h1'
    by_cases e : sg = i
    · subst e
      have e1 : (padP p sg x).days[sg] = ⟨x.day, padC x.code⟩ := by simp [padP]
      have e2 : (s.codes.set sg (Value.slice A9 (m + 3) c9))[sg]'h2 = .slice A9 (m + 3) c9 := by simp
      rw [e1]
      show SlG W ((s.codes.set sg (Value.slice A9 (m + 3) c9))[sg]'h2) 3 (padC x.code).length (insCells (padC x.code))
      rw [e2, hlen]
      exact ⟨⟨A9, c9, rfl, h9.1, h9.2, R9⟩, by rw [insCells_length, hlen]⟩
    · have e1 : (padP p sg x).days[i] = p.days[i] := by simp [padP, List.getElem_set_ne e]
      have e2 : (s.codes.set sg (Value.slice A9 (m + 3) c9))[i]'h2 = s.codes[i] := by simp [List.getElem_set_ne e]
      rw [e1]
      show SlG W ((s.codes.set sg (Value.slice A9 (m + 3) c9))[i]'h2) 3 _ _
      rw [e2]
      exact h.code i h1' h2'
theorem pad_ok {p : ProgV} {sg : Nat} {x : SegV} (h : ProgOk p) (hc : CanonP p) (hx : p.days[sg]? = some x) (hE : EndsE x.code) : ProgOk (padP p sg x) := by
  obtain ⟨hi, hxe⟩ := List.getElem?_eq_some_iff.1 hx
  have hl : x.code.length ≤ 262144 := by rw [← hxe]; exact codeLen_le hc hi
  have hx' : SegOk x := h.days x (List.mem_of_getElem? hx)
  have aux : ∀ y ∈ (padP p sg x).days, y ∈ p.days ∨ y = ⟨x.day, padC x.code⟩ := fun y hy => List.mem_or_eq_of_mem_set hy
  refine ⟨⟨h.small.names, h.small.curs, h.small.pool, ?_, fun y hy => ?_⟩, h.names, h.curs, h.pool, h.horizon, h.cells, h.slots, ?_, fun y hy => ?_⟩
  · show (p.days.set sg _).length * 32 ≤ _
    rw [List.length_set]
    exact h.small.days
  · rcases aux y hy with h1 | rfl
    · exact h.small.code y h1
    · show (padC x.code).length * 24 ≤ _
      rw [padC_length hE]
      omega
  · have := h.stack
    show -9223372036854775808 ≤ max p.stack 1 ∧ max p.stack 1 ≤ 9223372036854775807
    omega
  · rcases aux y hy with h1 | rfl
    · exact h.days y h1
    · refine ⟨hx'.1, fun z hz => ?_⟩
      rcases List.mem_append.1 hz with h2 | h2
      · exact hx'.2 z (List.mem_of_mem_take h2)
      · simp at h2
        rcases h2 with rfl | rfl | rfl <;> exact ⟨by decide, by decide, by decide⟩
theorem pad_app {w3 w5 w6 : World} {gq n : Nat} {v6 : Value} {l : List Value} {cs : List Value} (NQ : Hid (gq < w5.heap.size ∧ w3.heap.size ≤ w5.heap.size)) (BQ : Hid (Blk w5 gq 26 l)) (CA : Hid (Chg (fun _ => False) w3 (w5.alloc (.cells #[] 42))))
    (k1 : OwnV w6 42 2 v6 (0 + n) ([] ++ cs)) (k2 : Chg (fun k => Value.ownBlock (.slice (some ⟨w5.heap.size, 0, none⟩) 0 0) = some k) (w5.alloc (.cells #[] 42)) w6) (k3 : Fresh (w5.alloc (.cells #[] 42)) (.slice (some ⟨w5.heap.size, 0, none⟩) 0 0) v6) :
    ∃ A6 c6, v6 = .slice A6 n c6 ∧ Hid (OwnV w6 42 2 (.slice A6 n c6) n cs) ∧ Hid (Chg (fun _ => False) w3 w6) ∧ Hid (Blk w6 gq 26 l) ∧ Hid (∀ y, Value.ownBlock (.slice A6 n c6) = some y → w5.heap.size ≤ y) ∧ (∀ u, l[7]? = some u → w6.cell? ⟨gq, 7, none⟩ = some u) ∧ (7 < l.length → w6.frozen? ⟨gq, 7, none⟩ = false) := by
  obtain ⟨A6, c6, rfl, hc2, _⟩ := k1.slice
  have K3 := own_fresh k3
  rw [Nat.zero_add, List.nil_append] at k1
  have B6 : Blk w6 gq 26 l := (BQ.out.alloc _).chg k2 (fun e => by have := NQ.out.1; simp [Value.ownBlock] at e; omega)
  exact ⟨A6, c6, by rw [Nat.zero_add], k1, CA.out.trans k2 (fun y hy e => by have := NQ.out.2; simp [Value.ownBlock] at e; omega), B6, K3, fun u hu => B6.at_ hu, fun h => B6.frozen h⟩
set_option maxRecDepth 100000 in
set_option maxHeartbeats 6400000 in
theorem verifyPaddedW {s : ProgS} {p : ProgV} {w : World} {a1 : Int} (hp : Hid (RdProg w s p)) (ok : Hid (ProgOk p)) (hG : Hid (Glob w w.heap.size)) (ha : Hid (InI a1)) :
    Calls Tryd.prog 7 #[progVal s p, .int .i64 a1] w fun e w' => e = .returned (.bool true) ∧ Hid (Chg (fun _ => False) w w') := by
  obtain ⟨n1, n2, n3, n4, A1, A2, A3, A4, c1, c2, c3, c4, HP0⟩ := hp.out.apart
  obtain ⟨i1, hi1⟩ : ∃ x, x = p.horizon := ⟨_, rfl⟩
  obtain ⟨i2, hi2⟩ : ∃ x, x = p.cells := ⟨_, rfl⟩
  obtain ⟨i3, hi3⟩ : ∃ x, x = p.slots := ⟨_, rfl⟩
  obtain ⟨i4, hi4⟩ : ∃ x, x = p.stack := ⟨_, rfl⟩
  have EQ2 : Hid (progVal s p = .agg #[.slice A1 n1 c1, .slice A2 n2 c2, .slice A3 n3 c3, .int .i64 i1, .int .i64 i2, .int .i64 i3, .int .i64 i4, .slice A4 n4 c4]) := by rw [Hid, HP0.eq, hi1, hi2, hi3, hi4]
  rw [EQ2.out]
  have LD := Lib.hid HP0.ld
  have S4 : n4 * 32 ≤ 140737488351232 := by have := HP0.ld; have := ok.out.small.days; omega
  have HP := Lib.hid HP0
  have HI4 := Lib.hid hi4
  clear hi1 hi2 hi3 hi4 HP0
  obtain ⟨w0, hw0⟩ : ∃ x, x = w.alloc (.cells #[.slice A1 n1 c1, .slice A2 n2 c2, .slice A3 n3 c3, .int .i64 i1, .int .i64 i2, .int .i64 i3, .int .i64 i4, .slice A4 n4 c4] 26) := ⟨_, rfl⟩
  obtain ⟨g1, hg1⟩ : ∃ x, x = w.heap.size := ⟨_, rfl⟩
  have HG1 := Lib.hid hg1
  have C0 : Hid (Chg (fun _ => False) w w0) := by rw [hw0]; exact (Chg.refl _ w).alloc _
  have B1 : Hid (Blk w0 g1 26 [.slice A1 n1 c1, .slice A2 n2 c2, .slice A3 n3 c3, .int .i64 i1, .int .i64 i2, .int .i64 i3, .int .i64 i4, .slice A4 n4 c4]) := by rw [hw0, hg1]; exact Blk.new _ _ _
  have PA : Hid (∀ W, Chg (fun _ => False) w0 W → ∀ (i : Nat) (v : Value), [Value.slice A1 n1 c1, .slice A2 n2 c2, .slice A3 n3 c3, .int .i64 i1, .int .i64 i2, .int .i64 i3, .int .i64 i4, .slice A4 n4 c4][i]? = some v → W.cell? ⟨g1, i, none⟩ = some v) := fun W cW i v h => (B1.out.chg cW (fun h => h)).at_ h
  go_enter Tryd.func7, Tryd.ntmps7
  go_upto_region 1 with fail
  rw [← hw0, ← hg1]
  clear hw0 hg1
  go_wp2_with fail
  refine (vLives (Lib.hid (hG.out.step C0.out))).mono ?_
  rintro e w1 ⟨rfl, C1⟩
  have f0 := PA.out w1 C1.out 0 _ rfl
  have f1 := PA.out w1 C1.out 1 _ rfl
  have f2 := PA.out w1 C1.out 2 _ rfl
  have f3 := PA.out w1 C1.out 3 _ rfl
  have f4 := PA.out w1 C1.out 4 _ rfl
  have f5 := PA.out w1 C1.out 5 _ rfl
  have f6 := PA.out w1 C1.out 6 _ rfl
  have f7 := PA.out w1 C1.out 7 _ rfl
  have C01 : Hid (Chg (fun _ => False) w w1) := C0.out.trans C1.out (fun _ _ h => h)
  go_wp2_with fail
  refine (show Calls Tryd.prog 14 #[.agg #[.slice A1 n1 c1, .slice A2 n2 c2, .slice A3 n3 c3, .int .i64 i1, .int .i64 i2, .int .i64 i3, .int .i64 i4, .slice A4 n4 c4]] _ _ from by rw [← EQ2.out]; exact vVerify (Lib.hid (hp.out.chg0 C01.out)) ok (Lib.hid (hG.out.step C01.out))).mono ?_
  rintro e w2 ⟨rfl, C2⟩
  have C02 : Hid (Chg (fun _ => False) w0 w2) := C1.out.trans C2.out (fun _ _ h => h)
  clear f0 f1 f2 f3 f4 f5 f6 f7
  obtain ⟨F, hF⟩ : ∃ z, z = prfOf p := ⟨_, rfl⟩
  obtain ⟨sg0, hsg⟩ : ∃ z, z = (vdOf p).seg := ⟨_, rfl⟩
  obtain ⟨ap0, hap⟩ : ∃ z, z = (vdOf p).at_ := ⟨_, rfl⟩
  obtain ⟨er, her⟩ : ∃ z, z = (vdOf p).er := ⟨_, rfl⟩
  rw [← hF, ← hsg, ← hap, ← her]
  have HF := Lib.hid hF
  have HER := Lib.hid her
  clear hF hsg hap her
  obtain ⟨st, fu, ba, sl, cl⟩ := F
  simp only
  go_upto_region 5 with fail
  obtain ⟨w3, hw3⟩ : ∃ y, y = w2.alloc (.cells #[.int .i64 st, .int .i64 fu, .int .i64 ba] 35) := ⟨_, rfl⟩
  obtain ⟨gx, hgx⟩ : ∃ y, y = w2.heap.size := ⟨_, rfl⟩
  have BX : Hid (Blk w3 gx 35 [.int .i64 st, .int .i64 fu, .int .i64 ba]) := by rw [hw3, hgx]; exact Blk.new _ _ _
  have C3 : Hid (Chg (fun _ => False) w0 w3) := by rw [hw3]; exact C02.out.alloc _
  have CW3 : Hid (Chg (fun _ => False) w w3) := C0.out.trans C3.out (fun _ _ h => h)
  have GX : Hid (w0.heap.size ≤ gx) := by rw [hgx]; exact C02.out.size
  rw [← hw3, ← hgx]
  clear hw3 hgx
  by_cases he : er = 0
  · subst he
    have HE : Hid ((vdOf p).er = 0) := HER.out.symm
    by_cases hs0 : a1 < 0
    · go_wp2_with fail
      go_ret
      exact ⟨rfl, CW3.out⟩
    obtain ⟨sg, rfl⟩ : ∃ k : Nat, a1 = (k : Int) := ⟨a1.toNat, by omega⟩
    have f7 := PA.out w3 C3.out 7 _ rfl
    by_cases hs1 : n4 ≤ sg
    · have hs2 : (n4 : Int) ≤ (sg : Int) := by omega
      go_wp2_with fail
      go_ret
      exact ⟨rfl, CW3.out⟩
    have b1 : ¬ ((sg : Int) < 0) := by omega
    have b2 : ¬ ((n4 : Int) ≤ (sg : Int)) := by omega
    have f0 := PA.out w3 C3.out 0 _ rfl
    have f1 := PA.out w3 C3.out 1 _ rfl
    have f2 := PA.out w3 C3.out 2 _ rfl
    have f3 := PA.out w3 C3.out 3 _ rfl
    have f4 := PA.out w3 C3.out 4 _ rfl
    have f5 := PA.out w3 C3.out 5 _ rfl
    have f6 := PA.out w3 C3.out 6 _ rfl
    go_upto_region 8 with fail
    obtain ⟨gq, hgq⟩ : ∃ y, y = w3.heap.size := ⟨_, rfl⟩
    obtain ⟨w4, hw4⟩ : ∃ y, y = w3.alloc (.cells #[.slice A1 n1 c1, .slice A2 n2 c2, .slice A3 n3 c3, .int .i64 i1, .int .i64 i2, .int .i64 i3, .int .i64 i4, .slice A4 n4 c4] 26) := ⟨_, rfl⟩
    have BQ : Hid (Blk w4 gq 26 [.slice A1 n1 c1, .slice A2 n2 c2, .slice A3 n3 c3, .int .i64 i1, .int .i64 i2, .int .i64 i3, .int .i64 i4, .slice A4 n4 c4]) := by rw [hw4, hgq]; exact Blk.new _ _ _
    have C4 : Hid (Chg (fun _ => False) w0 w4) := by rw [hw4]; exact C3.out.alloc _
    have C34 : Hid (Chg (fun _ => False) w3 w4) := by rw [hw4]; exact (Chg.refl _ _).alloc _
    have LQ1 : Hid (w3.heap.size ≤ gq) := by rw [hgq]; exact Nat.le_refl _
    have DQ : Hid (g1 ≠ gq ∧ gx ≠ gq) := by rw [hgq]; exact ⟨Nat.ne_of_lt (B1.out.chg C3.out (fun h => h)).lt, Nat.ne_of_lt BX.out.lt⟩
    rw [← hw4, ← hgq]
    clear hw4 hgq f0 f1 f2 f3 f4 f5 f6 f7
    have k6 := PA.out w4 C4.out 6 _ rfl
    have q6 := BQ.out.at_ (i := 6) rfl
    have z6 := BQ.out.frozen (i := 6) (by simp)
    go_wp2_with fail
    refine vMost.mono ?_
    rintro e wx ⟨rfl, hx⟩
    rw [hx]
    clear hx k6
    clear wx
    have C45' : Hid (Chg (fun y => y = gq) w4 (w4.setCell ⟨gq, 6, none⟩ (.int .i64 (max i4 1)))) := (Chg.refl (fun y => y = gq) w4).setCell (p := ⟨gq, 6, none⟩) (fun _ => rfl) _
    have BQ5' : Hid (Blk (w4.setCell ⟨gq, 6, none⟩ (.int .i64 (max i4 1))) gq 26 [.slice A1 n1 c1, .slice A2 n2 c2, .slice A3 n3 c3, .int .i64 i1, .int .i64 i2, .int .i64 i3, .int .i64 (max i4 1), .slice A4 n4 c4]) := BQ.out.set 6 _
    go_upto_region 9 with fail
    obtain ⟨w5, hw5⟩ : ∃ y, y = w4.setCell ⟨gq, 6, none⟩ (.int .i64 (max i4 1)) := ⟨_, rfl⟩
    rw [← hw5] at C45' BQ5' ⊢
    have C45 := C45'
    have BQ5 := BQ5'
    clear hw5 C45' BQ5' BQ q6 z6
    have C35 : Hid (Chg (fun _ => False) w3 w5) := C34.out.trans C45.out (fun i hi e => by have := LQ1.out; omega)
    have P5 : Hid (∀ W, Chg (fun _ => False) w3 W → ∀ (i : Nat) (v : Value), [Value.slice A1 n1 c1, .slice A2 n2 c2, .slice A3 n3 c3, .int .i64 i1, .int .i64 i2, .int .i64 i3, .int .i64 i4, .slice A4 n4 c4][i]? = some v → W.cell? ⟨g1, i, none⟩ = some v) := fun W cW => PA.out W (C3.out.trans cW (fun _ _ h => h))
    have RP : Hid (∀ W, Chg (fun _ => False) w3 W → RdDays W A4 p.days s.codes) := fun W cW => (HP.out.chg0 (CW3.out.trans cW (fun _ _ h => h))).rd
    have CA5 : Hid (Chg (fun _ => False) w3 (w5.alloc (.cells #[] 42))) := C35.out.alloc _
    have O5 : Hid (OwnV (w5.alloc (.cells #[] 42)) 42 2 (.slice (some ⟨w5.heap.size, 0, none⟩) 0 0) 0 []) := ⟨by simp, .inr ⟨w5.heap.size, 0, [], rfl, Blk.new w5 #[] _, Nat.le_refl _, Nat.zero_le _, by simp, by simp⟩⟩
    have k7 := P5.out (w5.alloc (.cells #[] 42)) CA5.out 7 _ rfl
    have DL : Hid ((dayCells p.days s.codes).length = n4 * 2) := by rw [Hid, dayCells_length _ _ HP.out.rd.len, LD.out]
    have DC : Hid (∀ u ∈ dayCells p.days s.codes, u.oneCell' = true) := dayCells_cell _ _ (fun v hv => by
      obtain ⟨i, hi, rfl⟩ := List.getElem_of_mem hv
      obtain ⟨A, c, e, _⟩ := ((hp.out.code i (by rw [hp.out.lenC]; exact hi) hi).ex)
      rw [e]
      rfl)
    have NQ : Hid (gq < w5.heap.size ∧ w3.heap.size ≤ w5.heap.size) := ⟨BQ5.out.lt, C35.out.size⟩
    go_upto_region 10 with (first | (at_builtin; go_loud (refine wp_appS rfl _ _ 24 42 (.agg #[.int .i64 0, .slice none 0 0]) 2 32 rfl Tryd.underlying24 infoSeg rfl (by decide) (by decide) (.slice (some ⟨w5.heap.size, 0, none⟩) 0 0) 0 [] rfl O5.out A4 n4 c4 (dayCells p.days s.codes) rfl DL.out (RP.out _ CA5.out).rd DC.out (by omega) ?_); intro v6 w6 k1 k2 k3; obtain ⟨A6, c6, rfl, K1, C36, BQ6, F6, z7, z8⟩ := pad_app NQ BQ5 CA5 k1 k2 k3; clear k1 k2 k3) | fail)
    obtain ⟨w7, hw7⟩ : ∃ y, y = w6.setCell ⟨gq, 7, none⟩ (.slice A6 n4 c6) := ⟨_, rfl⟩
    have C37 : Hid (Chg (fun _ => False) w3 w7) := by rw [hw7]; exact C36.out.trans ((Chg.refl (fun y => y = gq) w6).setCell (p := ⟨gq, 7, none⟩) (fun _ => rfl) _) (fun i hi e => by have := LQ1.out; omega)
    have BQ7 : Hid (Blk w7 gq 26 [.slice A1 n1 c1, .slice A2 n2 c2, .slice A3 n3 c3, .int .i64 i1, .int .i64 i2, .int .i64 i3, .int .i64 (max i4 1), .slice A6 n4 c6]) := by rw [hw7]; exact BQ6.out.set 7 _
    have O7 : Hid (OwnV w7 42 2 (.slice A6 n4 c6) n4 (dayCells p.days s.codes)) := by rw [hw7]; exact K1.out.chg ((Chg.refl (fun y => y = gq) w6).setCell (p := ⟨gq, 7, none⟩) (fun _ => rfl) _) (fun k hk e => by have := F6.out k hk; have := NQ.out.1; omega)
    have F7 : Hid (∀ y, Value.ownBlock (.slice A6 n4 c6) = some y → gq < y) := fun y hy => by have := F6.out y hy; have := NQ.out.1; omega
    rw [← hw7]
    clear hw7 k7 z7 z8 C36 BQ6 F6 K1 C35 CA5 O5 NQ BQ5
    have hsgp : sg < p.days.length := by have := LD.out; omega
    obtain ⟨ad, BP, np, cp, e0, k1a, k2a, l1, l2, l3, l4⟩ := (RP.out w7 C37.out).at_ hsgp
    subst e0
    obtain ⟨x, hx⟩ : ∃ x, x = p.days[sg] := ⟨_, rfl⟩
    rw [← hx] at k1a l1 l4
    have HX : Hid (p.days[sg]? = some x) := by rw [hx]; exact List.getElem?_eq_getElem hsgp
    have L1 := Lib.hid l1
    have L4 := Lib.hid l4
    have k7 := P5.out w7 C37.out 7 _ rfl
    have i0 : (0 : Int) ≤ (sg : Int) := by omega
    have i1' : (sg : Int) < (n4 : Int) := by omega
    clear l1 l4 hx k1a hsgp
    go_upto_region 11 with fail
    obtain ⟨hcn, hnp⟩ : CanonP p ∧ 2 ≤ np := by
      obtain ⟨_, _, hc, _⟩ := vdOf_0 HE.out
      refine ⟨hc, ?_⟩
      obtain ⟨hi, hxe⟩ := List.getElem?_eq_some_iff.1 HX.out
      have := (hc.days sg hi).code.1
      rw [hxe] at this
      have := L1.out
      omega
    have HCN := Lib.hid hcn
    obtain ⟨g6, rfl, h6, h6c⟩ := O7.out.baseOf (by omega)
    obtain ⟨m, rfl⟩ : ∃ m, np = m + 1 := ⟨np - 1, by omega⟩
    have em : IntKind.i64.wrap (((m + 1 : Nat) : Int) - 1) = (m : Int) := by rw [IntWalk.i64_in _ (by have := l3; simp [maxLen] at this; omega)]; omega
    have em2 : IntKind.i64.wrap ((m : Int) + 1 - 1) = (m : Int) := by rw [Int.add_sub_cancel]; exact IntWalk.i64_in _ (by have := l3; simp [maxLen] at this; omega)
    have em3 : m ≤ cp := by omega
    have em4 : IntKind.i64.wrap (m : Int) = (m : Int) := IntWalk.i64_in _ (by have := l3; simp [maxLen] at this; omega)
    have em5 : (m : Int) ≤ (cp : Int) := by omega
    have q7 := BQ7.out.at_ (i := 7) rfl
    have TL : Hid ((insCells (x.code.take m)).length = m * 3) := by rw [Hid, insCells_length, List.length_take, ← L1.out, Nat.min_eq_left (by omega)]
    have bnd := ok.out.small.code _ (List.mem_of_getElem? HX.out)
    have BM : Hid (m * 24 ≤ 140737488351232 - 24) := by have := L1.out; rw [Hid]; omega
    have qa1 := (BQ7.out.alloc (.cells #[] 47)).at_ (i := 7) rfl
    have qa2 := (BQ7.out.alloc (.cells #[.int .i64 2, .int .i64 1, .int .i64 0, .int .i64 8, .int .i64 0, .int .i64 0, .int .i64 0, .int .i64 0, .int .i64 0] 47)).at_ (i := 7) rfl
    have qa3 := ((BQ7.out.alloc (.cells #[] 47)).alloc (.cells #[.int .i64 2, .int .i64 1, .int .i64 0, .int .i64 8, .int .i64 0, .int .i64 0, .int .i64 0, .int .i64 0, .int .i64 0] 47)).at_ (i := 7) rfl
    have qa4 := ((BQ7.out.alloc (.cells #[.int .i64 2, .int .i64 1, .int .i64 0, .int .i64 8, .int .i64 0, .int .i64 0, .int .i64 0, .int .i64 0, .int .i64 0] 47)).alloc (.cells #[] 47)).at_ (i := 7) rfl
    clear hcn bnd k7 k2a
    go_cut [] from 55 to 71 (fun wx => Hid (∃ A9 c9, RdG wx A9 (insCells (padC x.code)) ∧ m + 3 ≤ c9 ∧ c9 ≤ maxLen ∧ OwnV wx 42 2 (.slice (some ⟨g6, 0, none⟩) n4 c6) n4 ((dayCells p.days s.codes).set (sg * 2 + 1) (.slice A9 (m + 3) c9)) ∧ Chg (fun y => y = g6) w7 wx))
    · go_region_law (first | ((refine st_appG rfl _ _ 40 47 (.agg #[.int .i64 0, .int .i64 0, .int .i64 0]) 3 24 rfl Tryd.underlying40 infoIns rfl (by decide) (by decide) (.slice (some ⟨_, 0, none⟩) 0 0) 0 [] rfl (by repeat (first | with_reducible refine own_drew ?_ | with_reducible exact own0 _ _ _ _ (by simp) | with_reducible refine OwnV.alloc1 ?_ _)) BP m cp (insCells (x.code.take m)) rfl TL.out ((rdG_take L4.out m).chg0 (by repeat (first | with_reducible exact Chg.refl _ _ | with_reducible refine Chg.drew ?_ | with_reducible refine Chg.alloc ?_ _))) (ins_cell _) (by have := BM.out; omega) ?_); intro v8 w8 k1 k2 k3; obtain ⟨A8, c8, rfl, K8, C8, F8, KB⟩ := pad1 (w7 := w7) (Lib.hid (by repeat (first | with_reducible exact Chg.refl _ _ | with_reducible refine Chg.drew ?_ | with_reducible refine Chg.alloc ?_ _))) (by simp) k1 k2 k3; clear k1 k2 k3; have q8 := (BQ7.out.chg C8.out (fun h => h)).at_ (i := 7) rfl; have q8b := ((BQ7.out.chg C8.out (fun h => h)).alloc (.cells #[.int .i64 2, .int .i64 1, .int .i64 0, .int .i64 8, .int .i64 0, .int .i64 0, .int .i64 0, .int .i64 0, .int .i64 0] 47)).at_ (i := 7) rfl) | ((refine st_appG rfl _ _ 40 47 (.agg #[.int .i64 0, .int .i64 0, .int .i64 0]) 3 24 rfl Tryd.underlying40 infoIns rfl (by decide) (by decide) (.slice A8 m c8) m (insCells (x.code.take m)) rfl (K8.out.chg (S := fun _ => False) (by repeat (first | with_reducible exact Chg.refl _ _ | with_reducible refine Chg.drew ?_ | with_reducible refine Chg.alloc ?_ _)) (fun _ _ h => h)) _ 3 3 (insCells [insB, insD, insE]) rfl rfl (by first | with_reducible exact (rd_nine w8).chg0 (by repeat (first | with_reducible exact Chg.refl _ _ | with_reducible refine Chg.drew ?_ | with_reducible refine Chg.alloc ?_ _)) | exact (blk_rd (KB.out _ _ (by omega) (by repeat (first | with_reducible refine Blk.drew ?_ | with_reducible exact blk_nine (by simp) | with_reducible refine Blk.alloc ?_ _)))).chg0 (by repeat (first | with_reducible exact Chg.refl _ _ | with_reducible refine Chg.drew ?_ | with_reducible refine Chg.alloc ?_ _))) (ins_cell _) (by have := BM.out; omega) ?_); intro v9 w9 k4 k5 k6; obtain ⟨A9, c9, rfl, R9, c9h, O9, C9, ⟨u9, q9⟩, z9⟩ := pad2 (sg := sg) C8 (w8 := w8) (Lib.hid (by repeat (first | with_reducible exact Chg.refl _ _ | with_reducible refine Chg.drew ?_ | with_reducible refine Chg.alloc ?_ _))) F8 O7 L1 (by omega) k4 k5; clear k4 k5 k6; have q10 := (BQ7.out.chg C9.out (fun h => h)).at_ (i := 7) rfl))
      all_goals
        go_wp2_with fail
        go_meet
        case rel => exact ⟨A9, c9, R9.out _ _, c9h.out.1, c9h.out.2, O9.out.storeG _, (C9.out.mono (T := fun y => y = g6) (fun _ _ h => h.elim)).setCell (p := ⟨g6, sg * 2 + 1, none⟩) (fun _ => rfl) _⟩
    · obtain ⟨A9, c9, R9, hc9a, hc9b, O9, C9⟩ := hcut.out
      have hEE := ends_of HCN.out HX.out
      have G67 : Hid (gq < g6) := F7.out g6 rfl
      have C3c : Hid (Chg (fun _ => False) w3 wc) := C37.out.trans C9 (fun i hi e => by have := G67.out; have := LQ1.out; omega)
      have CWc : Hid (Chg (fun _ => False) w wc) := CW3.out.trans C3c.out (fun _ _ h => h)
      have RQ : Hid (RdProg wc ⟨s.names, s.curs, s.pool, .slice (some ⟨g6, 0, none⟩) n4 c6, s.codes.set sg (.slice A9 (m + 3) c9)⟩ (padP p sg x)) := pad_rd hp CWc HX hEE L1 LD R9 ⟨hc9a, hc9b⟩ O9
      have OQ : Hid (ProgOk (padP p sg x)) := pad_ok ok.out HCN.out HX.out hEE
      have BQ9 : Hid (Blk wc gq 26 [.slice A1 n1 c1, .slice A2 n2 c2, .slice A3 n3 c3, .int .i64 i1, .int .i64 i2, .int .i64 i3, .int .i64 (max i4 1), .slice (some ⟨g6, 0, none⟩) n4 c6]) := BQ7.out.chg C9 (fun e => by have := G67.out; omega)
      have EQ3 : Hid (progVal ⟨s.names, s.curs, s.pool, .slice (some ⟨g6, 0, none⟩) n4 c6, s.codes.set sg (.slice A9 (m + 3) c9)⟩ (padP p sg x) = .agg #[.slice A1 n1 c1, .slice A2 n2 c2, .slice A3 n3 c3, .int .i64 i1, .int .i64 i2, .int .i64 i3, .int .i64 (max i4 1), .slice (some ⟨g6, 0, none⟩) n4 c6]) := by
        have e := EQ2.out
        simp only [progVal, Value.agg.injEq, Array.mk.injEq, List.cons.injEq, Value.int.injEq] at e
        obtain ⟨e1, e2, e3, ⟨_, e4⟩, ⟨_, e5⟩, ⟨_, e6⟩, ⟨_, e7⟩, e8, _⟩ := e
        simp only [progVal, padP, e1, e2, e3, e4, e5, e6, e7, Hid]
      have BXc : Hid (Blk wc gx 35 [.int .i64 st, .int .i64 fu, .int .i64 ba]) := BX.out.chg C3c.out (fun h => h)
      have HFU : Hid (fu = (codeLen p p.days.length : Int) ∧ st = i4) := by
        have h1 := vd_fuel HE.out
        have h2 : prfOf p = (vdOf p).f := by unfold prfOf; rw [if_pos HE.out]
        have h3 : (prfOf p).stack = p.stack := by obtain ⟨_, _, _, _, hn⟩ := vdOf_0 HE.out; rw [h2]; exact hn.1.symm
        rw [← h2, ← HF.out] at h1
        rw [← HF.out] at h3
        exact ⟨h1, h3.trans HI4.out.symm⟩
      have HLE : Hid (codeLen p p.days.length ≤ 262144) := by
        obtain ⟨hi, _⟩ := List.getElem?_eq_some_iff.1 HX.out
        have := (HCN.out.days (p.days.length - 1) (by omega)).len
        rw [show p.days.length - 1 + 1 = p.days.length from by omega] at this
        exact this
      obtain ⟨ce, hce, hce2⟩ := canon_er (padP p sg x)
      have HCE := Lib.hid hce
      have HCE2 := Lib.hid hce2
      have HCP := Lib.hid (canon_pad HCN.out HX.out)
      have HGc : Hid (Glob wc wc.heap.size) := hG.out.step CWc.out
      clear hce hce2 R9 hc9a hc9b O9 C9 hcut hEE q7 h6 h6c em em2 em3 em4 em5 qa1 qa2 qa3 qa4 l2 l3 hnp
      have f0 := BQ9.out.at_ (i := 0) rfl
      have f1 := BQ9.out.at_ (i := 1) rfl
      have f2 := BQ9.out.at_ (i := 2) rfl
      have f3 := BQ9.out.at_ (i := 3) rfl
      have f4 := BQ9.out.at_ (i := 4) rfl
      have f5 := BQ9.out.at_ (i := 5) rfl
      have f6 := BQ9.out.at_ (i := 6) rfl
      have f7 := BQ9.out.at_ (i := 7) rfl
      go_wp2_with fail
      refine (show Calls Tryd.prog 10 #[.agg #[.slice A1 n1 c1, .slice A2 n2 c2, .slice A3 n3 c3, .int .i64 i1, .int .i64 i2, .int .i64 i3, .int .i64 (max i4 1), .slice (some ⟨g6, 0, none⟩) n4 c6]] _ _ from by rw [← EQ3.out]; exact imageCanon RQ OQ (Lib.hid HGc.out.k) HCE).mono ?_
      rintro e w10 ⟨rfl, C10⟩
      have CW10 : Hid (Chg (fun _ => False) w w10) := CWc.out.trans C10 (fun _ _ h => h)
      have BQ10 : Hid (Blk w10 gq 26 [.slice A1 n1 c1, .slice A2 n2 c2, .slice A3 n3 c3, .int .i64 i1, .int .i64 i2, .int .i64 i3, .int .i64 (max i4 1), .slice (some ⟨g6, 0, none⟩) n4 c6]) := BQ9.out.chg C10 (fun h => h)
      have RQ10 : Hid (RdProg w10 ⟨s.names, s.curs, s.pool, .slice (some ⟨g6, 0, none⟩) n4 c6, s.codes.set sg (.slice A9 (m + 3) c9)⟩ (padP p sg x)) := RQ.out.chg0 C10
      have BX10 : Hid (Blk w10 gx 35 [.int .i64 st, .int .i64 fu, .int .i64 ba]) := BXc.out.chg C10 (fun h => h)
      have y1 := BX10.out.at_ (i := 1) rfl
      have ew : IntKind.i64.wrap (fu + 2) = fu + 2 := IntWalk.i64_in _ (by have := HFU.out.1; have := HLE.out; omega)
      clear f0 f1 f2 f3 f4 f5 f6 f7 C10
      by_cases hc0 : ce = 0
      · subst hc0
        have HCQ : Hid (CanonP (padP p sg x)) := HCE2.out.1 rfl
        have f0 := BQ10.out.at_ (i := 0) rfl
        have f1 := BQ10.out.at_ (i := 1) rfl
        have f2 := BQ10.out.at_ (i := 2) rfl
        have f3 := BQ10.out.at_ (i := 3) rfl
        have f4 := BQ10.out.at_ (i := 4) rfl
        have f5 := BQ10.out.at_ (i := 5) rfl
        have f6 := BQ10.out.at_ (i := 6) rfl
        have f7 := BQ10.out.at_ (i := 7) rfl
        go_wp2_with fail
        refine (show Calls Tryd.prog 14 #[.agg #[.slice A1 n1 c1, .slice A2 n2 c2, .slice A3 n3 c3, .int .i64 i1, .int .i64 i2, .int .i64 i3, .int .i64 (max i4 1), .slice (some ⟨g6, 0, none⟩) n4 c6]] _ _ from by rw [← EQ3.out]; exact vVerify RQ10 OQ (Lib.hid (hG.out.step CW10.out))).mono ?_
        rintro e w11 ⟨rfl, C11⟩
        clear f0 f1 f2 f3 f4 f5 f6 f7 y1
        have CW11 : Hid (Chg (fun _ => False) w w11) := CW10.out.trans C11.out (fun _ _ h => h)
        have BQ11 : Hid (Blk w11 gq 26 [.slice A1 n1 c1, .slice A2 n2 c2, .slice A3 n3 c3, .int .i64 i1, .int .i64 i2, .int .i64 i3, .int .i64 (max i4 1), .slice (some ⟨g6, 0, none⟩) n4 c6]) := BQ10.out.chg C11.out (fun h => h)
        have BX11 : Hid (Blk w11 gx 35 [.int .i64 st, .int .i64 fu, .int .i64 ba]) := BX10.out.chg C11.out (fun h => h)
        have HV := Lib.hid (vd_pad HE.out HX.out HCQ.out)
        rw [HV.out.1, HV.out.2.1, ← HF.out]
        simp only [padF]
        rw [HFU.out.2]
        obtain ⟨sg9, hsg9⟩ : ∃ z, z = (vdOf (padP p sg x)).seg := ⟨_, rfl⟩
        obtain ⟨at9, hat9⟩ : ∃ z, z = (vdOf (padP p sg x)).at_ := ⟨_, rfl⟩
        rw [← hsg9, ← hat9]
        clear hsg9 hat9
        obtain ⟨oo, hoo⟩ : ∃ z, z = Obj.cells #[.int .i64 (max i4 1), .int .i64 (fu + 2), .int .i64 ba] 35 := ⟨_, rfl⟩
        have CF : Hid (Chg (fun _ => False) w (w11.alloc (.cells #[.int .i64 (max i4 1), .int .i64 (fu + 2), .int .i64 ba] 35))) := CW11.out.alloc _
        have y6 := (BQ11.out.alloc (.cells #[.int .i64 (max i4 1), .int .i64 (fu + 2), .int .i64 ba] 35)).at_ (i := 6) rfl
        have u1 := (BX11.out.alloc (.cells #[.int .i64 (max i4 1), .int .i64 (fu + 2), .int .i64 ba] 35)).at_ (i := 1) rfl
        have u2 := (BX11.out.alloc (.cells #[.int .i64 (max i4 1), .int .i64 (fu + 2), .int .i64 ba] 35)).at_ (i := 2) rfl
        clear hoo oo
        go_wp2_with fail
        go_ret
        exact ⟨rfl, by repeat (first | exact CF.out | refine Chg.drew ?_ | refine Chg.drewN ?_ _)⟩
      · have hz : (ce == 0) = false := by simpa using hc0
        have hgt : (262144 : Int) < fu + 2 := by
          have h1 : ¬ CanonP (padP p sg x) := fun h => hc0 (HCE2.out.2 h)
          have h2 := HFU.out.1
          rw [HCP.out] at h1
          omega
        go_wp2_with fail
        go_ret
        exact ⟨rfl, CW10.out⟩
  · have hz : (er == 0) = false := by simpa using he
    go_wp2_with fail
    go_ret
    exact ⟨rfl, CW3.out⟩
theorem verifyPaddedWalk (w : World) (s : ProgS) (p : ProgV) (hr : Hid (RdProg w s p)) (ok : ProgOk p) (hG : Hid (Glob w w.heap.size)) (a1 : Int) (ha : InI a1) :
    Calls Tryd.prog 7 #[progVal s p, .int .i64 a1] w fun e w' => e = .returned (.bool true) ∧ Below w.heap.size w w' := by
  refine (verifyPaddedW hr (Lib.hid ok) hG (Lib.hid ha)).mono ?_
  rintro e w1 ⟨rfl, c⟩
  exact ⟨rfl, c.out.done⟩
end Go.Proofs.YtkadamoofiddeaaDoor.Kit
