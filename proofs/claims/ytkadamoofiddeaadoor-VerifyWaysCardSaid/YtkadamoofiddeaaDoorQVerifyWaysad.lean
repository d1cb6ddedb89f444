/- Texts that the row leans on: PcG, PvA, PvB. -/
import Derived.Test.YtkadamoofiddeaaDoorProg
import Derived.Test.YtkadamoofiddeaaDoorQVerifyWaysac
import Derived.Deep.RegionHeld3
import Derived.Deep.DeepCutAuto
import Derived.Deep.CutBlock
import Derived.Deep.RegionLaw
import Derived.Deep.OwnRows
import Derived.Maps.RangeWalk
-- Canonical programs: image.Canon.
set_option linter.unusedVariables false
set_option linter.unusedSimpArgs false
namespace Go.Proofs.YtkadamoofiddeaaDoor.Kit
open Go.RowKit
set_option maxRecDepth 20000 in
set_option maxHeartbeats 1600000 in
/-- does a list of bools hold a false? -/
theorem hasFalse {A : Option Addr} {n c : Nat} {l : List Bool} {w : World} {b : Bool} (HN : Hid (n = l.length)) (hn : n ≤ 140737488355328) (hr : Hid (RdG w A (bls l))) (hb : Hid (IsB b (∀ x ∈ l, x = true))) :
    Calls Tryd.prog 28 #[.slice A n c, .bool false] w fun e w' => e = .returned (.bool (!b)) ∧ w = w' := by
  have key : Calls Tryd.prog 54 #[.slice A n c, .bool false] w fun e w' => (∃ q : Int, e = .returned (.int .i64 q) ∧ decide (0 ≤ q) = !b) ∧ w = w' := by
    go_enter Tryd.func54, Tryd.ntmps54
    go_wp2
    go_loop [5, 8] (fun _ i => ∃ q : Nat, q ≤ n ∧ i = .int .i64 q ∧ Hid (∀ i (h : i < l.length), i < q → l[i] = true)) (fun _ i => n - (intOf i).toNat)
    case atStart => exact ⟨0, Nat.zero_le _, rfl, fun i h h' => absurd h' (by omega)⟩
    case round =>
      obtain ⟨q, hq, rfl, ht⟩ := hrel
      by_cases hlt : q < n
      · have h1 : q < l.length := by have := HN.out; omega
        obtain ⟨a1, rfl, hc1⟩ := hr.out q _ (bls_get l q h1)
        obtain ⟨x, hx0⟩ : ∃ x, x = l[q] := ⟨_, rfl⟩
        rw [← hx0] at hc1
        have HX := Lib.hid hx0
        have b1 : (0 : Int) ≤ (q : Int) := by omega
        have b2 : (q : Int) < (n : Int) := by omega
        clear hx0
        cases x
        · go_wp2_with fail
          go_ret
          refine ⟨⟨_, rfl, ?_⟩, rfl⟩
          have hf : false = b := b_false hb.out (fun h => by have h3 := h _ (List.getElem_mem h1); rw [← HX.out] at h3; cases h3)
          rw [← hf]
          simp
        · go_wp2_with fail
          go_round
          case rel =>
            refine ⟨q + 1, by omega, by go_num, fun i h hi => ?_⟩
            by_cases hiq : i < q
            · exact ht.out i h hiq
            · obtain rfl : i = q := by omega
              exact HX.out.symm
          case measure => simp [intOf]; omega
      · go_wp2
        go_ret
        refine ⟨⟨_, rfl, ?_⟩, rfl⟩
        have hf : true = b := b_true hb.out (fun s hs => by
          obtain ⟨i, hi, rfl⟩ := List.getElem_of_mem hs
          exact ht.out i hi (by have := HN.out; omega))
        rw [← hf]
        rfl
  go_enter Tryd.func28, Tryd.ntmps28
  go_wp2_with fail
  refine key.mono ?_
  rintro e w1 ⟨⟨q, rfl, hq⟩, rfl⟩
  have HQ := Lib.hid hq
  obtain ⟨b', hb'⟩ : ∃ b', decide (0 ≤ q) = b' := ⟨_, rfl⟩
  have HB' := Lib.hid hb'
  clear hq
  cases b'
  · have h3 : q < 0 := by have := of_decide_eq_false hb'; omega
    clear hb'
    go_wp2_with fail
    go_ret
    exact ⟨ret_bool (by rw [← HQ.out, HB'.out]), rfl⟩
  · have h3 : 0 ≤ q := of_decide_eq_true hb'
    clear hb'
    go_wp2_with fail
    go_ret
    exact ⟨ret_bool (by rw [← HQ.out, HB'.out]), rfl⟩
/-- the day ahead of the i-th -/
def dayAhead (p : ProgV) : Nat → Int
  | 0 => -1
  | i + 1 => (p.days[i]?.map SegV.day).getD 0
/-- how many instructions the first k days have -/
def codeLen (p : ProgV) (k : Nat) : Nat := ((p.days.take k).map fun x => x.code.length).sum
def codeOf (p : ProgV) (k : Nat) : List InsV := (p.days.take k).flatMap SegV.code
structure GoodD (p : ProgV) (i : Nat) (x : SegV) : Prop where
  up : dayAhead p i < x.day
  le : x.day ≤ p.horizon
  len : codeLen p (i + 1) ≤ 262144
  code : DayP p x.code
/-- a program in its one form -/
structure CanonP (p : ProgV) : Prop where
  lists : ListsP p
  days : ∀ i (h : i < p.days.length), GoodD p i p.days[i]
  names : ∀ x ∈ namedBy p.names.length 3 (codeOf p p.days.length), x = true
  curs : ∀ x ∈ namedBy p.curs.length 28 (codeOf p p.days.length), x = true
  pool : ∀ x ∈ namedBy p.pool.length 1 (codeOf p p.days.length), x = true
/-- which of the names, currencies, constants are named -/
def rowOf (p : ProgV) : Nat → List Bool
  | 0 => namedBy p.names.length 3 (codeOf p p.days.length)
  | 1 => namedBy p.curs.length 28 (codeOf p p.days.length)
  | _ => namedBy p.pool.length 1 (codeOf p p.days.length)
theorem CanonP.rows {p : ProgV} (h : CanonP p) (k : Nat) (hk : k < 3) : ∀ x ∈ rowOf p k, x = true := by
  have hk3 : k = 0 ∨ k = 1 ∨ k = 2 := by omega
  rcases hk3 with rfl | rfl | rfl
  · exact h.names
  · exact h.curs
  · exact h.pool
theorem codeLen_succ {p : ProgV} {k : Nat} (h : k < p.days.length) : codeLen p (k + 1) = codeLen p k + p.days[k].code.length := by
  unfold codeLen
  rw [List.take_succ_eq_append_getElem h, List.map_append, List.sum_append]
  simp
theorem codeOf_succ {p : ProgV} {k : Nat} (h : k < p.days.length) : codeOf p (k + 1) = codeOf p k ++ p.days[k].code := by
  unfold codeOf
  rw [List.take_succ_eq_append_getElem h, List.flatMap_append]
  simp
theorem infoBool : (Tryd.prog.info? 4).map (fun i => (i.zero, i.size, i.bytes)) = some (some (.bool false), 1, 1) := by kernel_rfl
/-- a row of bools that was made -/
theorem OwnV.made1 (W : World) (e : TypeId) (n b : Nat) (hb : b = W.heap.size) (hm : n ≤ maxLen) : OwnV (W.alloc (.cells (madeCells #[.bool false] n) e)) e 1 (.slice (some ⟨b, 0, none⟩) n n) n (bls (List.replicate n false)) := by
  subst hb
  refine ⟨by rw [bls_length, List.length_replicate, Nat.mul_one], .inr ⟨W.heap.size, n, (madeCells #[.bool false] n).toList, rfl, Blk.new W _ e, Nat.le_refl _, hm, ?_, ?_⟩⟩
  · rw [Array.length_toList, size_madeCells]
    omega
  · rw [toList_madeCells_one, Nat.mul_one, List.take_of_length_le (by simp)]
    simp [bls]
theorem OwnV.alloc1 {W : World} {e : TypeId} {sz n : Nat} {v : Value} {cs : List Value} (h : OwnV W e sz v n cs) (o : Obj) : OwnV (W.alloc o) e sz v n cs := h.chg (S := fun _ => False) ((Chg.refl _ W).alloc o) (fun _ _ h => h)
theorem namedBy_nil (n : Nat) (o : Int) : namedBy n o [] = List.replicate n false := by
  apply List.ext_getElem
  · simp [namedBy]
  · intro i h1 h2
    simp [namedBy]
/-- a new box of lists, none named -/
theorem Uses.start {W W3 : World} {p : ProgV} {b1 b2 b3 g n1 n2 n3 : Nat} (LN : n1 = p.names.length) (LC : n2 = p.curs.length) (LK : n3 = p.pool.length) (hb : Blk W g 58 [.slice (some ⟨b1, 0, none⟩) n1 n1, .slice (some ⟨b2, 0, none⟩) n2 n2, .slice (some ⟨b3, 0, none⟩) n3 n3])
    (h1 : OwnV W3 4 1 (.slice (some ⟨b1, 0, none⟩) n1 n1) n1 (bls (List.replicate n1 false))) (h2 : OwnV W3 4 1 (.slice (some ⟨b2, 0, none⟩) n2 n2) n2 (bls (List.replicate n2 false))) (h3 : OwnV W3 4 1 (.slice (some ⟨b3, 0, none⟩) n3 n3) n3 (bls (List.replicate n3 false)))
    (c3 : Chg (fun _ => False) W3 W) (hd : b1 ≠ b2 ∧ b1 ≠ b3 ∧ b2 ≠ b3) (hl : b1 < g ∧ b2 < g ∧ b3 < g) (hg : g < W.heap.size) : Uses W (fun y => y = b1 ∨ y = b2 ∨ y = b3) g p [] := by
  subst LN LC LK
  refine ⟨⟨_, _, _, _, _, _, hb, ?_, ?_, ?_, ?_, ?_, ?_, ?_, ?_, ?_⟩, ?_, ?_⟩
  · rw [namedBy_nil]; exact h1.chg c3 (fun _ _ h => h)
  · rw [namedBy_nil]; exact h2.chg c3 (fun _ _ h => h)
  · rw [namedBy_nil]; exact h3.chg c3 (fun _ _ h => h)
  · intro a b ha hb'; injection ha with ha; injection hb' with hb'; subst ha hb'; exact hd.1
  · intro a b ha hb'; injection ha with ha; injection hb' with hb'; subst ha hb'; exact hd.2.1
  · intro a b ha hb'; injection ha with ha; injection hb' with hb'; subst ha hb'; exact hd.2.2
  · intro a ha; injection ha with ha; subst ha; exact .inl rfl
  · intro a ha; injection ha with ha; subst ha; exact .inr (.inl rfl)
  · intro a ha; injection ha with ha; subst ha; exact .inr (.inr rfl)
  · rintro (h | h | h) <;> omega
  · rintro y (h | h | h) <;> omega
theorem Uses.start' {W3 : World} {p : ProgV} {b1 b2 b3 g n1 n2 n3 : Nat} (LN : n1 = p.names.length) (LC : n2 = p.curs.length) (LK : n3 = p.pool.length)
    (h1 : OwnV W3 4 1 (.slice (some ⟨b1, 0, none⟩) n1 n1) n1 (bls (List.replicate n1 false))) (h2 : OwnV W3 4 1 (.slice (some ⟨b2, 0, none⟩) n2 n2) n2 (bls (List.replicate n2 false))) (h3 : OwnV W3 4 1 (.slice (some ⟨b3, 0, none⟩) n3 n3) n3 (bls (List.replicate n3 false)))
    (hg : g = W3.heap.size) (hd : b1 ≠ b2 ∧ b1 ≠ b3 ∧ b2 ≠ b3) (hl : b1 < g ∧ b2 < g ∧ b3 < g) : Uses ((W3.alloc (.cells #[.slice (some ⟨b1, 0, none⟩) n1 n1, .slice (some ⟨b2, 0, none⟩) n2 n2, .slice (some ⟨b3, 0, none⟩) n3 n3] 58)).drew) (fun y => y = b1 ∨ y = b2 ∨ y = b3) g p [] := by
  have c3 : Chg (fun _ => False) W3 ((W3.alloc (.cells #[.slice (some ⟨b1, 0, none⟩) n1 n1, .slice (some ⟨b2, 0, none⟩) n2 n2, .slice (some ⟨b3, 0, none⟩) n3 n3] 58)).drew) := ((Chg.refl _ _).alloc _).drew
  have hb : Blk (W3.alloc (.cells #[.slice (some ⟨b1, 0, none⟩) n1 n1, .slice (some ⟨b2, 0, none⟩) n2 n2, .slice (some ⟨b3, 0, none⟩) n3 n3] 58)) g 58 [.slice (some ⟨b1, 0, none⟩) n1 n1, .slice (some ⟨b2, 0, none⟩) n2 n2, .slice (some ⟨b3, 0, none⟩) n3 n3] := by rw [hg]; exact Blk.new _ _ _
  refine Uses.start LN LC LK (hb.chg (S := fun _ => False) ((Chg.refl _ _).drew) (fun h => h)) h1 h2 h3 c3 hd hl ?_
  rw [hg]
  simp
/-- Canon's answer -/
def canonE (p : ProgV) (er : Int) : Prop := (CanonP p → er = 0) ∧ (¬ CanonP p → er = 121)
theorem run_makeB {P : Program} (t e : TypeId) (ht : P.underlying t = some (.slice e)) (hinfo : (P.info? e).map (fun i => (i.zero, i.size, i.bytes)) = some (some (.bool false), 1, 1)) (n : Nat) (hn : n ≤ 140737488355328) (W : World) :
    (Instr.makeSlice t (.int .i64 (n : Int)) (.int .i64 (n : Int))).run P W = .ok (.slice (some ⟨W.heap.size, 0, none⟩) n n) (W.alloc (.cells (madeCells #[.bool false] n) e)) :=
  run_make_row' (P := P) t e (.bool false) 1 ht hinfo rfl .i64 .i64 n (by omega) (by omega) W
set_option maxRecDepth 20000 in
set_option maxHeartbeats 6400000 in
theorem imageCanon {s : ProgS} {p : ProgV} {w : World} {er : Int} (hp : Hid (RdProg w s p)) (ok : Hid (ProgOk p)) (hk0 : Hid (KindsAt w)) (he : Hid (canonE p er)) :
    Calls Tryd.prog 10 #[progVal s p] w fun e w' => e = .returned (.int .i64 er) ∧ Chg (fun _ => False) w w' := by
  obtain ⟨n1, n2, n3, n4, A1, A2, A3, A4, c1, c2, c3, c4, HP0⟩ := hp.out.apart
  have HP := Lib.hid HP0
  obtain ⟨i1, hi1⟩ : ∃ x, x = p.horizon := ⟨_, rfl⟩
  obtain ⟨i2, hi2⟩ : ∃ x, x = p.cells := ⟨_, rfl⟩
  obtain ⟨i3, hi3⟩ : ∃ x, x = p.slots := ⟨_, rfl⟩
  obtain ⟨i4, hi4⟩ : ∃ x, x = p.stack := ⟨_, rfl⟩
  have EQ2 : Hid (progVal s p = .agg #[.slice A1 n1 c1, .slice A2 n2 c2, .slice A3 n3 c3, .int .i64 i1, .int .i64 i2, .int .i64 i3, .int .i64 i4, .slice A4 n4 c4]) := by rw [Hid, HP0.eq, hi1, hi2, hi3, hi4]
  rw [EQ2.out]
  have S1 : n1 ≤ 140737488355328 := by have := HP0.ln; have := ok.out.small.names; omega
  have S2 : n2 ≤ 140737488355328 := by have := HP0.lc; have := ok.out.small.curs; omega
  have S3 : n3 ≤ 140737488355328 := by have := HP0.lk; have := ok.out.small.pool; omega
  have S4 : n4 * 32 ≤ 140737488351232 := by have := HP0.ld; have := ok.out.small.days; omega
  have SC : Hid (∀ x ∈ p.days, x.code.length * 24 ≤ 140737488351232) := ok.out.small.code
  have LN := Lib.hid HP0.ln
  have LC := Lib.hid HP0.lc
  have LK := Lib.hid HP0.lk
  have LD := Lib.hid HP0.ld
  have HI := Lib.hid hi1
  clear hi1 hi2 hi3 hi4 HP0
  obtain ⟨w0, hw0⟩ : ∃ x, x = w.alloc (.cells #[.slice A1 n1 c1, .slice A2 n2 c2, .slice A3 n3 c3, .int .i64 i1, .int .i64 i2, .int .i64 i3, .int .i64 i4, .slice A4 n4 c4] 26) := ⟨_, rfl⟩
  obtain ⟨g1, hg1⟩ : ∃ x, x = w.heap.size := ⟨_, rfl⟩
  have C0 : Hid (Chg (fun _ => False) w w0) := by rw [hw0]; exact (Chg.refl _ w).alloc _
  have B1 : Hid (Blk w0 g1 26 [.slice A1 n1 c1, .slice A2 n2 c2, .slice A3 n3 c3, .int .i64 i1, .int .i64 i2, .int .i64 i3, .int .i64 i4, .slice A4 n4 c4]) := by rw [hw0, hg1]; exact Blk.new _ _ _
  have G1 := Lib.hid hg1
  obtain ⟨bl, hbl⟩ := some_b (ListsP p)
  have HBL := Lib.hid hbl
  clear hbl
  cases bl
  · have HZ : Hid ((121 : Int) = er) := (he.out.2 (fun h => absurd (HBL.out.2 h.lists) (by decide))).symm
    go_enter Tryd.func10, Tryd.ntmps10
    go_wp2_with fail
    rw [← hw0, ← hg1]
    clear hw0 hg1
    refine (show Calls Tryd.prog 26 #[.agg #[.slice A1 n1 c1, .slice A2 n2 c2, .slice A3 n3 c3, .int .i64 i1, .int .i64 i2, .int .i64 i3, .int .i64 i4, .slice A4 n4 c4]] _ _ from by rw [← EQ2.out]; exact imageLists (Lib.hid (hp.out.chg0 C0.out)) ok HBL).mono ?_
    rintro e wl ⟨rfl, cl⟩
    have CL : Hid (Chg (fun _ => False) w wl) := C0.out.trans cl (fun _ _ h => h)
    clear cl
    go_wp2_with fail
    go_ret
    exact ⟨ret_i HZ.out, CL.out⟩
  · have HLP : Hid (ListsP p) := HBL.out.1 rfl
    obtain ⟨ob1, hob1⟩ : ∃ o, o = Obj.cells (madeCells #[.bool false] n1) 4 := ⟨_, rfl⟩
    obtain ⟨ob2, hob2⟩ : ∃ o, o = Obj.cells (madeCells #[.bool false] n2) 4 := ⟨_, rfl⟩
    obtain ⟨ob3, hob3⟩ : ∃ o, o = Obj.cells (madeCells #[.bool false] n3) 4 := ⟨_, rfl⟩
    have m1 : ∀ W : World, (Instr.makeSlice 32 (.int .i64 (n1 : Int)) (.int .i64 (n1 : Int))).run Tryd.prog W = .ok (.slice (some ⟨W.heap.size, 0, none⟩) n1 n1) (W.alloc ob1) := fun W => by rw [hob1]; exact run_makeB _ _ Tryd.underlying32 infoBool n1 S1 W
    have m2 : ∀ W : World, (Instr.makeSlice 32 (.int .i64 (n2 : Int)) (.int .i64 (n2 : Int))).run Tryd.prog W = .ok (.slice (some ⟨W.heap.size, 0, none⟩) n2 n2) (W.alloc ob2) := fun W => by rw [hob2]; exact run_makeB _ _ Tryd.underlying32 infoBool n2 S2 W
    have m3 : ∀ W : World, (Instr.makeSlice 32 (.int .i64 (n3 : Int)) (.int .i64 (n3 : Int))).run Tryd.prog W = .ok (.slice (some ⟨W.heap.size, 0, none⟩) n3 n3) (W.alloc ob3) := fun W => by rw [hob3]; exact run_makeB _ _ Tryd.underlying32 infoBool n3 S3 W
    have O1 : Hid (∀ (W : World) (b : Nat), b = W.heap.size → OwnV (W.alloc ob1) 4 1 (.slice (some ⟨b, 0, none⟩) n1 n1) n1 (bls (List.replicate n1 false))) := fun W b hb => by rw [hob1]; exact OwnV.made1 W _ n1 b hb (Nat.le_trans S1 (by decide))
    have O2 : Hid (∀ (W : World) (b : Nat), b = W.heap.size → OwnV (W.alloc ob2) 4 1 (.slice (some ⟨b, 0, none⟩) n2 n2) n2 (bls (List.replicate n2 false))) := fun W b hb => by rw [hob2]; exact OwnV.made1 W _ n2 b hb (Nat.le_trans S2 (by decide))
    have O3 : Hid (∀ (W : World) (b : Nat), b = W.heap.size → OwnV (W.alloc ob3) 4 1 (.slice (some ⟨b, 0, none⟩) n3 n3) n3 (bls (List.replicate n3 false))) := fun W b hb => by rw [hob3]; exact OwnV.made1 W _ n3 b hb (Nat.le_trans S3 (by decide))
    clear hob1 hob2 hob3
    go_enter Tryd.func10, Tryd.ntmps10
    go_wp2_with fail
    rw [← hw0, ← hg1]
    clear hw0 hg1
    refine (show Calls Tryd.prog 26 #[.agg #[.slice A1 n1 c1, .slice A2 n2 c2, .slice A3 n3 c3, .int .i64 i1, .int .i64 i2, .int .i64 i3, .int .i64 i4, .slice A4 n4 c4]] _ _ from by rw [← EQ2.out]; exact imageLists (Lib.hid (hp.out.chg0 C0.out)) ok HBL).mono ?_
    rintro e wl ⟨rfl, cl⟩
    have CL : Hid (Chg (fun _ => False) w wl) := C0.out.trans cl (fun _ _ h => h)
    have BL : Hid (Blk wl g1 26 [.slice A1 n1 c1, .slice A2 n2 c2, .slice A3 n3 c3, .int .i64 i1, .int .i64 i2, .int .i64 i3, .int .i64 i4, .slice A4 n4 c4]) := B1.out.chg cl (fun h => h)
    clear cl C0 B1
    go_upto_region 3 with fail
    have TA : Hid (∀ W, Chg (fun _ => False) wl W → W.cell? ⟨g1, 0, none⟩ = some (.slice A1 n1 c1) ∧ W.cell? ⟨g1, 1, none⟩ = some (.slice A2 n2 c2) ∧ W.cell? ⟨g1, 2, none⟩ = some (.slice A3 n3 c3)) := fun W cW => ⟨(BL.out.chg cW (fun h => h)).at_ (i := 0) rfl, (BL.out.chg cW (fun h => h)).at_ (i := 1) rfl, (BL.out.chg cW (fun h => h)).at_ (i := 2) rfl⟩
    go_cut [3] from 10 to 26 (fun v wx => ∃ gU, ∃ D : Nat → Prop, v = .pointer (some ⟨gU, 0, none⟩) ∧ Hid (Uses wx D gU p []) ∧ Hid (∀ y, D y → wl.heap.size ≤ y) ∧ Hid (wl.heap.size ≤ gU) ∧ Hid (Chg (fun _ => False) wl wx))
    case first =>
      go_region_held3 (fun w' => w'.cell? ⟨g1, 0, none⟩ = some (.slice A1 n1 c1) ∧ w'.cell? ⟨g1, 1, none⟩ = some (.slice A2 n2 c2) ∧ w'.cell? ⟨g1, 2, none⟩ = some (.slice A3 n3 c3)) (exact TA.out _ (by repeat (first | exact Chg.refl _ _ | refine Chg.drew ?_ | refine Chg.drewN ?_ _ | refine Chg.alloc ?_ _))) (first | fail)
      all_goals
        go_wp2_with fail
        go_meet
        case rel =>
          refine ⟨wl.heap.size + 1 + 1 + 1, _, rfl, Uses.start' LN.out LC.out LK.out ?_ ?_ ?_ (by simp) (by omega) (by omega), ?_, ?_, ?_⟩
          · first | exact O1.out _ _ (by simp) | exact (O1.out _ _ (by simp)).alloc1 _ | exact ((O1.out _ _ (by simp)).alloc1 _).alloc1 _
          · first | exact O2.out _ _ (by simp) | exact (O2.out _ _ (by simp)).alloc1 _ | exact ((O2.out _ _ (by simp)).alloc1 _).alloc1 _
          · first | exact O3.out _ _ (by simp) | exact (O3.out _ _ (by simp)).alloc1 _ | exact ((O3.out _ _ (by simp)).alloc1 _).alloc1 _
          · rintro y (h | h | h) <;> omega
          · rw [Hid]; omega
          · exact (show Chg (fun _ => False) wl _ from by repeat (first | exact Chg.refl _ _ | refine Chg.drew ?_ | refine Chg.alloc ?_ _))
    case rest =>
      obtain ⟨gU, D, rfl, UA, GE, GU, CA⟩ := hcut
      have HD : Hid (∀ W, Chg D wl W → Chg (fun _ => False) wl W) := fun W cW => cW.mono (fun y hy h => absurd (GE.out y h) (by omega))
      have RDA : Hid (∀ W, Chg (fun _ => False) wl W → RdDays W A4 p.days s.codes) := fun W cW => (HP.out.chg0 (CL.out.trans cW (fun _ _ h => h))).rd
      have YA : Hid (∀ W, Chg (fun _ => False) wl W → W.cell? ⟨g1, 7, none⟩ = some (.slice A4 n4 c4)) := fun W cW => (BL.out.chg cW (fun h => h)).at_ (i := 7) rfl
      have y7 := YA.out _ CA.out
      obtain ⟨wa, hwa⟩ : ∃ x, x = wc := ⟨_, rfl⟩
      subst hwa
      go_upto_block 0 with fail
      go_cut [4, 5, 7] from 27 to 64 (fun _ _ _ wx => Hid (∀ i (h : i < p.days.length), GoodD p i p.days[i]) ∧ Hid (Uses wx D gU p (codeOf p p.days.length)) ∧ Hid (Chg (fun _ => False) wl wx))
      case first =>
        go_wp2_with fail
        clear y7
        go_loopw [4, 5, 7, 30] (fun cv lv _ i wr => ∃ k cs : Nat, ∃ la : Int, k ≤ n4 ∧ cv = .int .i64 cs ∧ lv = .int .i64 la ∧ i = .int .i64 k ∧ cs ≤ 262144 ∧ Hid (cs = codeLen p k) ∧ Hid (la = dayAhead p k) ∧ Hid (∀ j (h : j < p.days.length), j < k → GoodD p j p.days[j]) ∧ Hid (Uses wr D gU p (codeOf p k)) ∧ Hid (Chg (fun _ => False) wl wr)) (fun _ _ _ i _ => n4 - (intOf i).toNat)
        case atStart => exact ⟨0, 0, -1, Nat.zero_le _, rfl, rfl, rfl, by omega, by rw [Hid]; simp [codeLen], rfl, fun j h h' => absurd h' (by omega), by rw [Hid]; exact UA.out, CA.out⟩
        case round =>
          obtain ⟨k, cs, la, hk, rfl, rfl, rfl, hcs, HCS, HLA, hg, UK, CK⟩ := hrel
          by_cases hlt : k < n4
          · have h1 : k < p.days.length := by have := LD.out; omega
            obtain ⟨ad, B, nn, cc, e0, f1a, f2a, l1, l2, l3, l4⟩ := (RDA.out _ (Chg.refl _ _)).at_ h1
            subst e0
            have f1 := CK.out.cell (fun h => h) f1a
            have f2 := CK.out.cell (p := ⟨(ad.add (k * 2)).block, (ad.add (k * 2)).off + 1, none⟩) (fun h => h) f2a
            clear f1a f2a
            obtain ⟨x, hx0⟩ : ∃ x, x = p.days[k] := ⟨_, rfl⟩
            have hsz := SC.out _ (List.getElem_mem h1)
            rw [← hx0] at f1 l1 l4 hsz
            have HX := Lib.hid hx0
            have L1 := Lib.hid l1
            have L4 := Lib.hid l4
            obtain ⟨dx, cx⟩ := x
            simp only at f1 l1 l4 hsz
            have hnn : nn ≤ 140737488355328 := by rw [l1]; omega
            have NO : Hid (¬ GoodD p k ⟨dx, cx⟩ → (121 : Int) = er) := fun h => (he.out.2 (fun hc => h (by rw [HX.out]; exact hc.days k h1))).symm
            have b1 : (0 : Int) ≤ (k : Int) := by omega
            have b2 : (k : Int) < (n4 : Int) := by omega
            have HC1 : Hid (cs + nn = codeLen p (k + 1)) := by rw [Hid, codeLen_succ h1, ← HX.out, HCS.out, L1.out]
            have dw : IntKind.i64.wrap ((cs : Int) + (nn : Int)) = (cs : Int) + (nn : Int) := IntWalk.i64_in _ (by omega)
            obtain ⟨wx, hwx⟩ : ∃ y, y = wr.alloc (.cells #[.int .i64 dx, .slice B nn cc] 42) := ⟨_, rfl⟩
            have CX : Hid (Chg (fun _ => False) wr wx) := by rw [hwx]; exact (Chg.refl _ wr).alloc _
            have B7 : Hid (Blk wx wr.heap.size 42 [.int .i64 dx, .slice B nn cc]) := by rw [hwx]; exact Blk.new _ _ _
            have CLX : Hid (Chg (fun _ => False) wl wx) := CK.out.trans CX.out (fun _ _ h => h)
            have BX := BL.out.chg CLX.out (fun h => h)
            have y0 := BX.at_ (i := 0) rfl
            have y1 := BX.at_ (i := 1) rfl
            have y2 := BX.at_ (i := 2) rfl
            have y3 := BX.at_ (i := 3) rfl
            have y4 := BX.at_ (i := 4) rfl
            have y5 := BX.at_ (i := 5) rfl
            have y6 := BX.at_ (i := 6) rfl
            have y7 := BX.at_ (i := 7) rfl
            clear BX
            rw [hwx] at y0 y1 y2 y3 y4 y5 y6 y7
            clear hx0 l1 l4
            by_cases q1 : dx ≤ la
            · have HE : Hid ((121 : Int) = er) := NO.out (fun h => by have := h.up; rw [← HLA.out] at this; exact absurd q1 (by show ¬ dx ≤ la; simp only at this; omega))
              have d1 : decide (dx ≤ la) = true := decide_eq_true q1
              go_wp2_with fail
              rw [← hwx]
              go_ret
              exact ⟨ret_i HE.out, CL.out.trans CLX.out (fun _ _ h => h)⟩
            · have d1 : decide (dx ≤ la) = false := decide_eq_false q1
              by_cases q2 : i1 < dx
              · have HE : Hid ((121 : Int) = er) := NO.out (fun h => by have := h.le; rw [← HI.out] at this; exact absurd q2 (by show ¬ i1 < dx; simp only at this; omega))
                have d2 : decide (i1 < dx) = true := decide_eq_true q2
                go_wp2_with fail
                rw [← hwx]
                go_ret
                exact ⟨ret_i HE.out, CL.out.trans CLX.out (fun _ _ h => h)⟩
              · have d2 : decide (i1 < dx) = false := decide_eq_false q2
                by_cases q3 : (262144 : Int) < (cs : Int) + (nn : Int)
                · have HE : Hid ((121 : Int) = er) := NO.out (fun h => by have := h.len; rw [← HC1.out] at this; omega)
                  have d3 : decide ((262144 : Int) < (cs : Int) + (nn : Int)) = true := decide_eq_true q3
                  go_wp2_with fail
                  rw [← hwx]
                  go_ret
                  exact ⟨ret_i HE.out, CL.out.trans CLX.out (fun _ _ h => h)⟩
                · have d3 : decide ((262144 : Int) < (cs : Int) + (nn : Int)) = false := decide_eq_false q3
                  have UX : Hid (Uses wx D gU p (codeOf p k)) := UK.out.chg0 CX.out
                  have KD : Hid (∀ W, Chg D wx W → Chg (fun _ => False) wl W) := fun W cW => HD.out W ((CLX.out.mono (T := D) (fun _ _ h => h.elim)).trans cW (fun _ _ h => h))
                  have ST : Hid (Stay wx D s p) := ⟨fun W cW => hp.out.chg0 (CL.out.trans (KD.out W cW) (fun _ _ h => h)), fun W cW => hk0.out.chg0 (CL.out.trans (KD.out W cW) (fun _ _ h => h))⟩
                  have RX : Hid (∀ W, Chg D wx W → RdG W B (insCells cx)) := fun W cW => by
                    exact L4.out.chg0 (KD.out W cW)
                  obtain ⟨bd, hbd⟩ := some_b (DayP p cx)
                  have HBD := Lib.hid hbd
                  clear hbd
                  cases bd
                  all_goals
                    go_wp2_with fail
                    rw [← hwx]
                    clear hwx y0 y1 y2 y3 y4 y5 y6 y7
                    refine (show Calls Tryd.prog 27 #[.pointer (some ⟨gU, 0, none⟩), .agg #[.slice A1 n1 c1, .slice A2 n2 c2, .slice A3 n3 c3, .int .i64 i1, .int .i64 i2, .int .i64 i3, .int .i64 i4, .slice (some ad) n4 c4], .slice B nn cc] _ _ from by rw [← EQ2.out]; exact usesDay UX ST ok L1 hnn RX HBD).mono ?_
                    rintro e w2 ⟨rfl, hu2, c2⟩
                  · have C2 : Hid (Chg (fun _ => False) wl w2) := KD.out w2 c2
                    clear c2 hu2
                    have HE : Hid ((121 : Int) = er) := NO.out (fun h => absurd (HBD.out.2 h.code) (by decide))
                    go_wp2_with fail
                    go_ret
                    exact ⟨ret_i HE.out, CL.out.trans C2.out (fun _ _ h => h)⟩
                  · have C2 : Hid (Chg (fun _ => False) wl w2) := KD.out w2 c2
                    have U2 := Lib.hid (hu2 rfl)
                    have g70 := (B7.out.chg c2 (fun hy => Nat.lt_irrefl _ (UK.out.lt _ hy))).at_ (i := 0) rfl
                    clear c2 hu2
                    go_wp2_with fail
                    go_roundw
                    case rel =>
                      refine ⟨k + 1, cs + nn, dx, by omega, by go_num, rfl, by go_num, by omega, HC1.out, ?_, fun j h hj => ?_, ?_, C2.out⟩
                      · show dx = dayAhead p (k + 1)
                        simp [dayAhead, h1, ← HX.out]
                      · by_cases hjk : j < k
                        · exact hg.out j h hjk
                        · obtain rfl : j = k := by omega
                          rw [← HX.out]
                          exact ⟨by rw [← HLA.out]; exact q1, by rw [← HI.out]; exact q2, by rw [← HC1.out]; omega, HBD.out.1 rfl⟩
                      · rw [Hid, codeOf_succ h1, ← HX.out]
                        exact U2.out
                    case measure => simp [intOf]; omega
          · obtain rfl : k = n4 := by omega
            go_wp2_with fail
            go_meet
            case rel => exact ⟨fun i h => hg.out i h (by rw [LD.out]; exact h), by rw [Hid, ← LD.out]; exact UK.out, CK.out⟩
      case rest =>
        obtain ⟨hgd, UB, CB⟩ := hcut
        obtain ⟨wb, hwb⟩ : ∃ x, x = wc := ⟨_, rfl⟩
        subst hwb
        clear y7
        obtain ⟨R1, R2, R3, r1, r2, r3, ub, ow1, ow2, ow3, _⟩ := UB.out.ex
        rw [← LN.out] at ub ow1
        rw [← LC.out] at ub ow2
        rw [← LK.out] at ub ow3
        have OW1 := Lib.hid ow1
        have OW2 := Lib.hid ow2
        have OW3 := Lib.hid ow3
        have UBB := Lib.hid ub
        clear ow1 ow2 ow3 ub
        have TU : Hid (∀ W, Chg (fun _ => False) wb W → W.cell? ⟨gU, 0, none⟩ = some (.slice R1 n1 r1) ∧ W.cell? ⟨gU, 1, none⟩ = some (.slice R2 n2 r2) ∧ W.cell? ⟨gU, 2, none⟩ = some (.slice R3 n3 r3)) := fun W cW => ⟨(UBB.out.chg cW (fun h => h)).at_ (i := 0) rfl, (UBB.out.chg cW (fun h => h)).at_ (i := 1) rfl, (UBB.out.chg cW (fun h => h)).at_ (i := 2) rfl⟩
        go_upto_region 13 with fail
        go_region_held3 (fun w' => w'.cell? ⟨gU, 0, none⟩ = some (.slice R1 n1 r1) ∧ w'.cell? ⟨gU, 1, none⟩ = some (.slice R2 n2 r2) ∧ w'.cell? ⟨gU, 2, none⟩ = some (.slice R3 n3 r3)) (exact TU.out _ (by repeat (first | exact Chg.refl _ _ | refine Chg.drew ?_ | refine Chg.drewN ?_ _ | refine Chg.alloc ?_ _))) (first | fail)
        obtain ⟨wd, hwd⟩ : ∃ x, x = (wb.alloc (.cells #[.slice R1 n1 r1, .slice R2 n2 r2, .slice R3 n3 r3] 32)).drew := ⟨_, rfl⟩
        have CD : Hid (Chg (fun _ => False) wb wd) := by rw [hwd]; exact ((Chg.refl _ _).alloc _).drew
        have BD : Blk wd wb.heap.size 32 [.slice R1 n1 r1, .slice R2 n2 r2, .slice R3 n3 r3] := by rw [hwd]; exact (Blk.new wb _ _).chg (S := fun _ => False) ((Chg.refl _ _).drew) (fun h => h)
        have CLD : Hid (Chg (fun _ => False) w wd) := (CL.out.trans CB.out (fun _ _ h => h)).trans CD.out (fun _ _ h => h)
        have ROW : Hid (∀ k, k < 3 → ∃ R n r, wd.cell? ⟨wb.heap.size, k, none⟩ = some (.slice R n r) ∧ n = (rowOf p k).length ∧ n ≤ 140737488355328 ∧ RdG wd R (bls (rowOf p k))) := fun k hk => by
          have hk3 : k = 0 ∨ k = 1 ∨ k = 2 := by omega
          rcases hk3 with rfl | rfl | rfl
          · exact ⟨R1, n1, r1, BD.at_ (i := 0) rfl, by rw [LN.out]; simp [rowOf, namedBy_length], S1, by have h := OW1.out.toG.chg0 CD.out; rw [LN.out] at h; exact h⟩
          · exact ⟨R2, n2, r2, BD.at_ (i := 1) rfl, by rw [LC.out]; simp [rowOf, namedBy_length], S2, by have h := OW2.out.toG.chg0 CD.out; rw [LC.out] at h; exact h⟩
          · exact ⟨R3, n3, r3, BD.at_ (i := 2) rfl, by rw [LK.out]; simp [rowOf, namedBy_length], S3, by have h := OW3.out.toG.chg0 CD.out; rw [LK.out] at h; exact h⟩
        clear BD
        rw [← hwd]
        clear hwd
        go_wp2_with fail
        go_loop [9, 79] (fun _ i => ∃ k : Nat, k ≤ 3 ∧ i = .int .i64 k ∧ Hid (∀ j, j < k → ∀ x ∈ rowOf p j, x = true)) (fun _ i => 3 - (intOf i).toNat)
        case atStart => exact ⟨0, by omega, rfl, fun j h => absurd h (by omega)⟩
        case round =>
          obtain ⟨k, hk, rfl, hrw⟩ := hrel
          by_cases hlt : k < 3
          · obtain ⟨R, n, r, h1, h2, h3, h4⟩ := ROW.out k hlt
            have H2 := Lib.hid h2
            have H4 := Lib.hid h4
            have b1 : (0 : Int) ≤ (k : Int) := by omega
            have b2 : (k : Int) < 3 := by omega
            obtain ⟨bd, hbd⟩ := some_b (∀ x ∈ rowOf p k, x = true)
            have HBD := Lib.hid hbd
            clear h2 h4 hbd
            cases bd
            all_goals
              go_wp2_with fail
              refine (hasFalse H2 h3 H4 HBD).mono ?_
              rintro e w3 ⟨rfl, rfl⟩
            · have HE : Hid ((121 : Int) = er) := (he.out.2 (fun hc => absurd (HBD.out.2 (hc.rows k hlt)) (by decide))).symm
              go_wp2_with fail
              go_ret
              exact ⟨ret_i HE.out, CLD.out⟩
            · go_wp2_with fail
              go_round
              case rel =>
                refine ⟨k + 1, by omega, by go_num, fun j hj => ?_⟩
                by_cases hjk : j < k
                · exact hrw.out j hjk
                · obtain rfl : j = k := by omega
                  exact HBD.out.1 rfl
              case measure => simp [intOf]; omega
          · obtain rfl : k = 3 := by omega
            have HE : Hid ((0 : Int) = er) := (he.out.1 ⟨HLP.out, hgd.out, hrw.out 0 (by omega), hrw.out 1 (by omega), hrw.out 2 (by omega)⟩).symm
            go_wp2_with fail
            go_ret
            exact ⟨ret_i HE.out, CLD.out⟩
end Go.Proofs.YtkadamoofiddeaaDoor.Kit
-- What verify works out of a program, in plain words: the states, an instruction's effect, handing on, a day, a program.
set_option linter.unusedVariables false
set_option linter.unusedSimpArgs false
namespace Go.Proofs.YtkadamoofiddeaaDoor.Kit
open Go.RowKit
/-- a state: the sorts on the stack (true: a truth), the slots that are surely kept -/
structure StV where
  stk : List Bool
  sl : Int → Option Bool
def vTakes (op : Int) : Nat := (kAt op.toNat).t.toNat
def vPuts (op : Int) : Nat := (kAt op.toNat).p.toNat
/-- the sort that an instruction wants -/
def vWant (op : Int) : Option Bool := if op = 5 ∨ op = 28 ∨ (9 ≤ op ∧ op ≤ 24) then some false else if op = 25 ∨ op = 27 then some true else none
def vGives (op : Int) : Bool := decide (op = 2 ∨ (19 ≤ op ∧ op ≤ 25))
/-- is one of the values that it takes of another sort? -/
def vWrong (op : Int) (l : List Bool) : Bool := match vWant op with
  | none => false
  | some b => (l.drop (l.length - vTakes op)).any fun x => x != b
/-- what is wrong with an instruction, ahead of handing on -/
def applyE (x : InsV) (day : Int) (s : StV) : Int :=
  if s.stk.length < vTakes x.op ∨ (x.op = 0 ∧ 0 < s.stk.length) then 142
  else if vWrong x.op s.stk = true then 143
  else if x.op = 7 then (match s.sl x.a with | none => 144 | some _ => 0)
  else if x.op = 6 then 0
  else if x.op = 3 ∧ day < x.b then 145
  else 0
/-- the state behind it -/
def applyS (x : InsV) (s : StV) : StV :=
  if x.op = 7 then ⟨s.stk ++ [(s.sl x.a).getD false], s.sl⟩
  else if x.op = 6 then ⟨s.stk, fun k => if k = x.a then some (s.stk.getD (s.stk.length - 1) false) else s.sl k⟩
  else ⟨s.stk.take (s.stk.length - vTakes x.op) ++ List.replicate (vPuts x.op) (vGives x.op), s.sl⟩
def meetE (s o : StV) : Int := if s.stk.length ≠ o.stk.length then 142 else if s.stk ≠ o.stk then 143 else 0
def meetM (a b : Int → Option Bool) (k : Int) : Option Bool := match a k with
  | none => none
  | some v => if b k = some v then some v else none
def meetS (s o : StV) : StV := ⟨s.stk, meetM s.sl o.sl⟩
/-- where it goes on -/
def toOf (x : InsV) (k : Nat) : List Nat := if x.op = 0 then [] else if x.op = 26 then [k + 1 + x.a.toNat] else if x.op = 27 then [k + 1, k + 1 + x.a.toNat] else [k + 1]
def handGo : List (Option StV) → StV → List Nat → Int × List (Option StV)
  | L, _, [] => (0, L)
  | L, b, t :: ts => match (L[t]?).join with
    | some s => if meetE s b = 0 then handGo (L.set t (some (meetS s b))) b ts else (meetE s b, L)
    | none => handGo (L.set t (some b)) b ts
def handV (L : List (Option StV)) (b : StV) (ts : List Nat) : Int × List (Option StV) := if ∃ t ∈ ts, L.length ≤ t then (141, L) else handGo L b ts
/-- what was worked out -/
structure FoundV where
  stack : Int
  fuel : Int
  back : Int
  slots : Int
  cell : Int
deriving DecidableEq
def noteV (f : FoundV) (x : InsV) (h : Int) : FoundV :=
  ⟨max f.stack h, f.fuel + 1, if x.op = 3 then max f.back x.b else f.back, if x.op = 6 ∨ x.op = 7 then max f.slots (x.a + 1) else f.slots, if x.op = 4 ∨ x.op = 5 then max f.cell (x.a + 1) else f.cell⟩
/-- what comes of a day: the error, its place, what was worked out, the heights -/
structure SegR where
  er : Int
  at_ : Nat
  f : FoundV
  hs : List Int
def segGo (day : Int) : List InsV → Nat → List (Option StV) → FoundV → List Int → SegR
  | [], _, _, f, hs => ⟨0, 0, f, hs⟩
  | x :: xs, k, L, f, hs => match (L[k]?).join with
    | none => ⟨146, k, f, hs⟩
    | some s =>
      if applyE x day s ≠ 0 then ⟨applyE x day s, k, noteV f x s.stk.length, hs ++ [(s.stk.length : Int)]⟩
      else if (handV L (applyS x s) (toOf x k)).1 ≠ 0 then ⟨(handV L (applyS x s) (toOf x k)).1, k, noteV f x s.stk.length, hs ++ [(s.stk.length : Int)]⟩
      else segGo day xs (k + 1) ((handV L (applyS x s) (toOf x k)).2.set k none) (noteV f x s.stk.length) (hs ++ [(s.stk.length : Int)])
def noSlots : Int → Option Bool := fun _ => none
def segInit (n : Nat) : List (Option StV) := (List.replicate n none).set 0 (some ⟨[], noSlots⟩)
def segOf (x : SegV) (f : FoundV) : SegR := segGo x.day x.code 0 (segInit x.code.length) f []
structure LookR where
  er : Int
  seg : Nat
  at_ : Nat
  f : FoundV
  H : List (List Int)
def lookGo : List SegV → Nat → FoundV → List (List Int) → LookR
  | [], _, f, H => ⟨0, 0, 0, f, H⟩
  | x :: xs, n, f, H => if (segOf x f).er ≠ 0 then ⟨(segOf x f).er, n, (segOf x f).at_, (segOf x f).f, H⟩ else lookGo xs (n + 1) (segOf x f).f (H ++ [(segOf x f).hs])
def found0 : FoundV := ⟨0, 0, 0, 0, 0⟩
def lookOf (p : ProgV) : LookR := lookGo p.days 0 found0 []
/-- a canonical program's numbers are its code's -/
def NumsP (p : ProgV) (f : FoundV) : Prop := p.stack = f.stack ∧ p.slots = f.slots ∧ p.cells = f.cell
instance (p : ProgV) (f : FoundV) : Decidable (NumsP p f) := inferInstanceAs (Decidable (_ ∧ _ ∧ _))
/-- of a canonical program -/
def verC (p : ProgV) : LookR := if (lookOf p).er ≠ 0 then lookOf p else if NumsP p (lookOf p).f then lookOf p else ⟨147, p.days.length, 0, (lookOf p).f, (lookOf p).H⟩
/-- what Verify answers: the three numbers, the places, the error -/
structure VerR where
  f : FoundV
  seg : Nat
  at_ : Nat
  er : Int
open Classical in
noncomputable def verOf (p : ProgV) : VerR := if CanonP p then (if (verC p).er ≠ 0 then ⟨found0, (verC p).seg, (verC p).at_, (verC p).er⟩ else ⟨(verC p).f, 0, 0, 0⟩) else ⟨found0, 0, 0, 121⟩
theorem verOf_no {p : ProgV} (h : ¬ CanonP p) : verOf p = ⟨found0, 0, 0, 121⟩ := by rw [verOf, if_neg h]
theorem verOf_er {p : ProgV} (h : CanonP p) (he : (verC p).er ≠ 0) : verOf p = ⟨found0, (verC p).seg, (verC p).at_, (verC p).er⟩ := by rw [verOf, if_pos h, if_pos he]
theorem verOf_ok {p : ProgV} (h : CanonP p) (he : (verC p).er = 0) : verOf p = ⟨(verC p).f, 0, 0, 0⟩ := by rw [verOf, if_pos h, if_neg (by rw [he]; exact fun h => h rfl)]
/-! ## what being canonical gives the walk -/
theorem CanonP.ins {p : ProgV} (h : CanonP p) {i : Nat} (hi : i < p.days.length) {k : Nat} (hk : k < p.days[i].code.length) : GoodI p p.days[i].code.length k p.days[i].code[k] := (h.days i hi).code.2 k hk
theorem kAt_le : ∀ i, i < 29 → 0 ≤ (kAt i).a ∧ (kAt i).a ≤ 262143 ∧ 0 ≤ (kAt i).b ∧ (kAt i).b ≤ 3660 ∧ 0 ≤ (kAt i).t ∧ (kAt i).t ≤ 3 ∧ 0 ≤ (kAt i).p ∧ (kAt i).p ≤ 1 := by decide
theorem ValidP.nums {x : InsV} (h : ValidP x) : (0 ≤ x.op ∧ x.op < 29) ∧ (0 ≤ x.a ∧ x.a ≤ 262143) ∧ 0 ≤ x.b ∧ x.b ≤ 3660 := by
  obtain ⟨⟨h1, h2⟩, ⟨h3, h4⟩, h5, h6⟩ := h
  obtain ⟨_, ka, _, kb, _⟩ := kAt_le x.op.toNat (by omega)
  exact ⟨⟨h1, h2⟩, ⟨h3, by omega⟩, h5, by omega⟩
theorem codeLen_le {p : ProgV} (h : CanonP p) {i : Nat} (hi : i < p.days.length) : p.days[i].code.length ≤ 262144 := by
  have h1 := (h.days i hi).len
  have : p.days[i].code.length ≤ codeLen p (i + 1) := by
    unfold codeLen
    have hm : p.days[i].code.length ∈ (p.days.take (i + 1)).map fun x => x.code.length :=
      List.mem_map.2 ⟨p.days[i], List.mem_iff_getElem.2 ⟨i, by simp; omega, by simp⟩, rfl⟩
    have aux : ∀ (l : List Nat) (a : Nat), a ∈ l → a ≤ l.sum := by
      intro l
      induction l with
      | nil => intro a h; cases h
      | cons y ys ih =>
        intro a h
        rcases List.mem_cons.1 h with rfl | h
        · simp
        · have := ih a h; simp; omega
    exact aux _ _ hm
  omega
end Go.Proofs.YtkadamoofiddeaaDoor.Kit
-- Maps from whole numbers to sorts (map[int]verify.sort), as partial functions; the laws at the operations.
set_option linter.unusedVariables false
set_option linter.unusedSimpArgs false
namespace Go.Proofs.YtkadamoofiddeaaDoor.Kit
open Go.RowKit Go.Maps
/-- how a sort reads in a map -/
def srtElem : Value → Option (DataW Unit × List MemPlace)
  | .agg cs => match cs.toList with
    | [.bool b] => some (.lit (.bool b), [])
    | _ => none
  | _ => none
theorem srtElem_mk (b : Bool) : srtElem (.agg #[.bool b]) = some (.lit (.bool b), []) := rfl
theorem srtElem_inv {v : Value} {z : DataW Unit × List MemPlace} (h : srtElem v = some z) : ∃ b, v = .agg #[.bool b] ∧ z = (.lit (.bool b), []) := by
  unfold srtElem at h
  split at h
  · rename_i cs
    split at h
    · rename_i b hb
      cases h
      exact ⟨b, by rw [show cs = #[.bool b] from by cases cs; simpa using hb], rfl⟩
    · cases h
  · cases h
def InI (k : Int) : Prop := -9223372036854775808 ≤ k ∧ k ≤ 9223372036854775807
theorem InI.wf {k : Int} (h : InI k) : (Lit.int .i64 k).wf = true := WalkArith.wf_i64 (by have := h.1; have := h.2; omega)
theorem keyI : Keyed Tryd.prog 3 := int_keyed Tryd.underlying3
theorem keyI_mk {k : Int} (h : InI k) : keyOf Tryd.prog 3 (.int .i64 k) = some (.int .i64 k) := keyOf_int_mk Tryd.underlying3 h.wf
theorem keyI_lit {k : Int} : WideAt.IsKeyLit (.int .i64 k) := trivial
theorem litI_ne {k x : Int} (h : k ≠ x) : (Lit.int .i64 k) ≠ .int .i64 x := fun e => h (by injection e)
/-- the datum holds just the pairs of M -/
def MpD (D : DataW Unit) (M : Int → Option Bool) : Prop := ∀ k, InI k → has D (.int .i64 k) = (M k).isSome ∧ ∀ v, M k = some v → ∀ zd, D.atKey (.int .i64 k) zd = .lit (.bool v)
/-- block b is a map of at most n entries that holds just the pairs of M -/
def Mp (w : World) (b n : Nat) (M : Int → Option Bool) : Prop := ∃ D : DataW Unit, w.ownsMap Tryd.prog 3 srtElem b n D ∧ MpD D M
def putM (M : Int → Option Bool) (k : Int) (v : Bool) : Int → Option Bool := fun x => if x = k then some v else M x
def delM (M : Int → Option Bool) (k : Int) : Int → Option Bool := fun x => if x = k then none else M x
theorem MpD.congr {D : DataW Unit} {M M' : Int → Option Bool} (h : MpD D M) (e : ∀ k, InI k → M k = M' k) : MpD D M' := fun k hk => by rw [← e k hk]; exact h k hk
theorem MpD.put {D : DataW Unit} {M : Int → Option Bool} (h : MpD D M) (hm : IsMap D) (k : Int) (v : Bool) : MpD (D.put (.int .i64 k) (.lit (.bool v))) (putM M k v) := fun x hx => by
  unfold putM
  by_cases e : x = k
  · subst e
    rw [if_pos rfl]
    exact ⟨has_put_same hm keyI_lit _, fun v' hv zd => by cases hv; exact atKey_put_same hm keyI_lit _ _⟩
  · rw [if_neg e, has_put_other (litI_ne e)]
    exact ⟨(h x hx).1, fun v' hv zd => by rw [atKey_put_other (litI_ne e)]; exact (h x hx).2 v' hv zd⟩
theorem MpD.del {D : DataW Unit} {M : Int → Option Bool} (h : MpD D M) (k : Int) : MpD (D.del (.int .i64 k)) (delM M k) := fun x hx => by
  unfold delM
  by_cases e : x = k
  · subst e
    rw [if_pos rfl]
    exact ⟨has_del_same, fun v' hv => by cases hv⟩
  · rw [if_neg e, has_del_other (litI_ne e)]
    exact ⟨(h x hx).1, fun v' hv zd => by rw [atKey_del_other (litI_ne e)]; exact (h x hx).2 v' hv zd⟩
theorem chg_of_grown {w w' : World} {b : Nat} (h : w.grownBy w' (some b)) : Chg (fun x => x = b) w w' :=
  ⟨h.os, h.tape, h.output, h.size, fun i hi hne => h.block i hi (fun e => hne (by injection e))⟩
theorem chg_of_grown0 {w w' : World} (h : w.grownBy w' none) : Chg (fun _ => False) w w' := ⟨h.os, h.tape, h.output, h.size, fun i hi _ => h.block i hi (by simp)⟩
theorem chg_of_turned {w w' : World} {b : Nat} (h : w.mapTurned w' b) : Chg (fun x => x = b) w w' := chg_of_grown h.grown
namespace Mp
variable {w w1 : World} {b n : Nat} {M : Int → Option Bool}
theorem made (w : World) : Mp (w.alloc (.map #[] 0)) w.heap.size 0 noSlots := ⟨_, World.ownsMap_made w _ _ _, fun k _ => ⟨rfl, fun v hv => by cases hv⟩⟩
theorem lt (h : Mp w b n M) : b < w.heap.size := by obtain ⟨D, h, _⟩ := h; exact h.lt
theorem mono (h : Mp w b n M) {n' : Nat} (hn : n ≤ n') : Mp w b n' M := by obtain ⟨D, h, hd⟩ := h; exact ⟨D, h.mono hn, hd⟩
theorem congr (h : Mp w b n M) {M' : Int → Option Bool} (e : ∀ k, InI k → M k = M' k) : Mp w b n M' := by obtain ⟨D, h, hd⟩ := h; exact ⟨D, h, hd.congr e⟩
theorem chg {S : Nat → Prop} (h : Mp w b n M) (c : Chg S w w1) (hS : ¬ S b) : Mp w1 b n M := by
  obtain ⟨D, ⟨es, clock, hb, F, hs, hD⟩, hd⟩ := h
  exact ⟨D, ⟨es, clock, c.obj hS hb, F, hs, hD⟩, hd⟩
theorem alloc (h : Mp w b n M) (o : Obj) : Mp (w.alloc o) b n M := h.chg (S := fun _ => False) ((Chg.refl _ w).alloc o) id
/-- a map's block is none of cells -/
theorem ne_blk (h : Mp w b n M) {g : Nat} {e : TypeId} {cur : List Value} (hb : Blk w g e cur) : g ≠ b := by
  rintro rfl
  obtain ⟨D, ⟨es, clock, hx, _⟩, _⟩ := h
  obtain ⟨fr, hy, _⟩ := hb
  rw [hx] at hy
  injection hy with hy
  cases hy
theorem ne_cell (h : Mp w b n M) {g : Nat} {i : Nat} {v : Value} (hc : w.cell? ⟨g, i, none⟩ = some v) : g ≠ b := by
  rintro rfl
  obtain ⟨D, ⟨es, clock, hx, _⟩, _⟩ := h
  simp [World.cell?, hx] at hc
theorem look (h : Mp w b n M) {k : Int} (hk : InI k) : (Instr.lookup 117 (.map (some b)) (.int .i64 k) true).run Tryd.prog w = .ok (.tuple #[.agg #[.bool ((M k).getD false)], .bool (M k).isSome]) w := by
  obtain ⟨D, h, hd⟩ := h
  obtain ⟨v, ps, hrun, hv⟩ := h.look_ok keyI Tryd.underlying117 (z := .agg #[.bool false]) (by kernel_rfl) (srtElem_mk false) (keyI_mk hk)
  obtain ⟨c, rfl, hz⟩ := srtElem_inv hv
  rw [hrun]
  have hh := hd k hk
  rw [hh.1]
  rcases hM : M k with _ | x
  · rw [hM] at hh
    rw [atKey_of_not_has hh.1] at hz
    simp only [Prod.mk.injEq, DataW.lit.injEq, Lit.bool.injEq] at hz
    rw [← hz.1]
    rfl
  · rw [hh.2 x hM] at hz
    simp only [Prod.mk.injEq, DataW.lit.injEq, Lit.bool.injEq] at hz
    rw [← hz.1]
    rfl
theorem put (h : Mp w b n M) {k : Int} (hk : InI k) (hn : n < maxLen) (v : Bool) : ∃ w', (Instr.mapUpdate 117 (.map (some b)) (.int .i64 k) (.agg #[.bool v])).run Tryd.prog w = .ok () w' ∧ Mp w' b (n + 1) (putM M k v) ∧ Chg (fun x => x = b) w w' := by
  obtain ⟨D, h, hd⟩ := h
  obtain ⟨w', hrun, h', hg⟩ := h.update keyI Tryd.underlying117 hn (keyI_mk hk) (srtElem_mk v)
  exact ⟨w', hrun, ⟨_, h', hd.put h.isMap k v⟩, chg_of_grown hg⟩
end Mp
/-! ## a range over such a map -/
def Rng (w : World) (b r n : Nat) (M : Int → Option Bool) (lf : Lit → Bool) (cnt : Nat) : Prop := ∃ D : DataW Unit, w.ranges Tryd.prog 3 srtElem b r n D lf cnt ∧ MpD D M
namespace Rng
variable {w w1 : World} {b r n cnt : Nat} {M : Int → Option Bool} {lf : Lit → Bool}
theorem mp (h : Rng w b r n M lf cnt) : Mp w b n M := by obtain ⟨D, h, hd⟩ := h; exact ⟨D, h.owns, hd⟩
theorem left_eq (h : Rng w b r n M lf cnt) : w.rangeLeft b r = cnt := by obtain ⟨D, h, hd⟩ := h; exact h.left_eq
theorem ne (h : Rng w b r n M lf cnt) : r ≠ b := by obtain ⟨D, h, hd⟩ := h; exact h.ne
theorem lt (h : Rng w b r n M lf cnt) : r < w.heap.size := by obtain ⟨D, h, hd⟩ := h; exact h.lt
theorem congr (h : Rng w b r n M lf cnt) {M' : Int → Option Bool} (e : ∀ k, InI k → M k = M' k) : Rng w b r n M' lf cnt := by obtain ⟨D, h, hd⟩ := h; exact ⟨D, h, hd.congr e⟩
theorem chg {S : Nat → Prop} (h : Rng w b r n M lf cnt) (c : Chg S w w1) (hb : ¬ S b) (hr : ¬ S r) : Rng w1 b r n M lf cnt := by
  obtain ⟨D, ⟨es, clock, since, seen, c0, h1, F, hs, hD, h2, rest⟩, hd⟩ := h
  exact ⟨D, ⟨es, clock, since, seen, c0, c.obj hb h1, F, hs, hD, c.obj hr h2, rest⟩, hd⟩
theorem alloc (h : Rng w b r n M lf cnt) (o : Obj) : Rng (w.alloc o) b r n M lf cnt := h.chg (S := fun _ => False) ((Chg.refl _ w).alloc o) id id
/-- the iterator's block is none of cells -/
theorem ne_iter (h : Rng w b r n M lf cnt) {g : Nat} {e : TypeId} {cur : List Value} (hb : Blk w g e cur) : g ≠ r := by
  rintro rfl
  obtain ⟨D, ⟨es, clock, since, seen, c0, h1, F, hs, hD, h2, rest⟩, hd⟩ := h
  obtain ⟨fr, hy, _⟩ := hb
  rw [h2] at hy
  injection hy with hy
  cases hy
end Rng
def lftI (lf : Lit → Bool) (k : Int) : Bool := lf (.int .i64 k)
theorem lftI_step (lf : Lit → Bool) (x k : Int) : lftI (fun z => lf z && !z.sameKey (.int .i64 x)) k = (lftI lf k && !decide (k = x)) := by
  unfold lftI
  by_cases e : k = x
  · subst e
    have : (Lit.int .i64 k).sameKey (.int .i64 k) = true := WideAt.sameKey_self keyI_lit
    simp [this]
  · have : (Lit.int .i64 k).sameKey (.int .i64 x) = false := sameKey_ne (litI_ne e)
    simp [this, e]
section
variable {w : World} {ops : Array Oper} {rest : List Oper} {o : Oper} {a : Act} {Q : Exit → Act → World → Prop} {b n : Nat} {M : Int → Option Bool}
theorem ow_look {K : Act → World → Prop} (m x : Operand) (hop : o.op = Op.lookup 117 m x true) (hm : a.eval m = .map (some b)) (h : Mp w b n M) {k : Int} (hx : a.eval x = .int .i64 k) (hk : InI k)
    (hK : K (a.put o.dst (.tuple #[.agg #[.bool ((M k).getD false)], .bool (M k).isSome])) w) : o.wp Tryd.prog a w K Q := by
  unfold Oper.wp
  simp [execOp, hop, hm, hx, h.look hk, Result.andThen]
  exact hK
theorem wp_look (hg : o.guard = none) (m x : Operand) (hop : o.op = Op.lookup 117 m x true) (hm : a.eval m = .map (some b)) (h : Mp w b n M) {k : Int} (hx : a.eval x = .int .i64 k) (hk : InI k)
    (hK : wpList Tryd.prog ops Q rest (a.put o.dst (.tuple #[.agg #[.bool ((M k).getD false)], .bool (M k).isSome])) w) : wpList Tryd.prog ops Q (o :: rest) a w :=
  wpList_plain hg fun K' hK' => ow_look m x hop hm h hx hk (hK' _ _ hK)
theorem st_look {K : Act → World → Prop} {E : Prop} (hg : o.guard = none) (m x : Operand) (hop : o.op = Op.lookup 117 m x true) (hm : a.eval m = .map (some b)) (h : Mp w b n M) {k : Int} (hx : a.eval x = .int .i64 k) (hk : InI k)
    (hK : K (a.put o.dst (.tuple #[.agg #[.bool ((M k).getD false)], .bool (M k).isSome])) w) : if Region.wanted o (yielded ops a.tmps) = true then o.wp Tryd.prog a w K Q else E := by
  rw [if_pos (by simp [Region.wanted, hg])]
  exact ow_look m x hop hm h hx hk hK
theorem ow_put {K : Act → World → Prop} (m x v : Operand) (hop : o.op = Op.mapUpdate 117 m x v ∨ o.op = Op.insert 117 m x v) (hm : a.eval m = .map (some b)) (h : Mp w b n M) {k : Int} (hx : a.eval x = .int .i64 k) (hk : InI k) (hn : n < maxLen) {y : Bool} (hv : a.eval v = .agg #[.bool y])
    (hK : ∀ w', Mp w' b (n + 1) (putM M k y) → Chg (fun x => x = b) w w' → K (a.put o.dst undef) w') : o.wp Tryd.prog a w K Q := by
  obtain ⟨w', hrun, h1, h2⟩ := h.put hk hn y
  unfold Oper.wp
  rcases hop with hop | hop
  · simp [execOp, hop, hm, hx, hv, hrun, Result.andThen]
    exact hK w' h1 h2
  · simp [execOp, hop, hm, hx, hv, hrun, Result.andThen]
    exact hK w' h1 h2
theorem wp_put (hg : o.guard = none) (m x v : Operand) (hop : o.op = Op.mapUpdate 117 m x v ∨ o.op = Op.insert 117 m x v) (hm : a.eval m = .map (some b)) (h : Mp w b n M) {k : Int} (hx : a.eval x = .int .i64 k) (hk : InI k) (hn : n < maxLen) {y : Bool} (hv : a.eval v = .agg #[.bool y])
    (hK : ∀ w', Mp w' b (n + 1) (putM M k y) → Chg (fun x => x = b) w w' → wpList Tryd.prog ops Q rest (a.put o.dst undef) w') : wpList Tryd.prog ops Q (o :: rest) a w :=
  wpList_plain hg fun K' hK' => ow_put m x v hop hm h hx hk hn hv fun w' h1 h2 => hK' _ _ (hK w' h1 h2)
theorem st_put {K : Act → World → Prop} {E : Prop} (hg : o.guard = none) (m x v : Operand) (hop : o.op = Op.mapUpdate 117 m x v ∨ o.op = Op.insert 117 m x v) (hm : a.eval m = .map (some b)) (h : Mp w b n M) {k : Int} (hx : a.eval x = .int .i64 k) (hk : InI k) (hn : n < maxLen) {y : Bool} (hv : a.eval v = .agg #[.bool y])
    (hK : ∀ w', Mp w' b (n + 1) (putM M k y) → Chg (fun x => x = b) w w' → K (a.put o.dst undef) w') : if Region.wanted o (yielded ops a.tmps) = true then o.wp Tryd.prog a w K Q else E := by
  rw [if_pos (by simp [Region.wanted, hg])]
  exact ow_put m x v hop hm h hx hk hn hv hK
theorem wp_range (hg : o.guard = none) (m : Operand) (hop : o.op = Op.range 117 m) (hm : a.eval m = .map (some b)) (h : Mp w b n M)
    (hK : ∀ w' lf cnt, Rng w' b w.heap.size n M lf cnt → cnt ≤ n → (∀ k, InI k → lftI lf k = (M k).isSome) → Chg (fun _ => False) w w' → w'.heap.size = w.heap.size + 1 → wpList Tryd.prog ops Q rest (a.put o.dst (.pointer (some ⟨w.heap.size, 0, none⟩))) w') :
    wpList Tryd.prog ops Q (o :: rest) a w := by
  obtain ⟨D, h, hd⟩ := h
  exact wpList_range_own w hg m _ hop _ _ keyI Tryd.underlying117 srtElem b n D hm h fun w' h1 h2 h3 => hK w' _ _ ⟨D, h1, hd⟩ h.size_le (fun k hk => (hd k hk).1) (chg_of_grown0 h2) h3
theorem wp_next {r cnt : Nat} {lf : Lit → Bool} (hg : o.guard = none) (it : Operand) (hop : o.op = Op.next it false) (hit : a.eval it = .pointer (some ⟨r, 0, none⟩)) (h : Rng w b r n M lf cnt)
    (hDone : (∀ k, lftI lf k = false) → wpList Tryd.prog ops Q rest (a.put o.dst (.tuple #[.bool false])) w)
    (hMore : ∀ (x : Int) (c : Bool) (w' : World) (cnt' : Nat) (lf' : Lit → Bool), InI x → lftI lf x = true → M x = some c → Rng w' b r n M lf' cnt' → (∀ k, lftI lf' k = (lftI lf k && !decide (k = x))) → cnt' < cnt → Chg (fun y => y = r) w w' → w'.heap.size = w.heap.size →
      (Instr.entry (.pointer (some ⟨r, 0, none⟩))).run Tryd.prog w' = .ok (.tuple #[.int .i64 x, .agg #[.bool c]]) w' → wpList Tryd.prog ops Q rest (a.put o.dst (.tuple #[.bool true, .int .i64 x, .agg #[.bool c]])) w') :
    wpList Tryd.prog ops Q (o :: rest) a w := by
  obtain ⟨D, h, hd⟩ := h
  refine wpList_next_ranges w hg it hop _ keyI srtElem (Value.int .i64) (fun c : Bool => .agg #[.bool c]) (fun key kl hkey => by obtain ⟨x, rfl, _⟩ := Maps.keyOf_int_inv Tryd.underlying3 hkey; exact ⟨x, rfl⟩) (fun v y hv => by obtain ⟨c, rfl, _⟩ := srtElem_inv hv; exact ⟨c, rfl⟩)
    b r n D lf cnt hit h (fun _ hl => hDone fun k => hl _) ?_
  intro x c kl y w' cnt' hkey hl hv hat hrg hlt hgr hsz hen
  obtain ⟨x', ex, rfl, hwx⟩ := Maps.keyOf_int_inv Tryd.underlying3 hkey
  cases ex
  obtain ⟨c', ec, rfl⟩ := srtElem_inv hv
  obtain rfl : c = c' := by simpa using ec
  have hin : InI x := by
    have := hwx
    simp [Lit.wf, IntKind.min, IntKind.max, IntKind.signed, IntKind.bits] at this
    exact this
  refine hMore x c w' cnt' _ hin hl ?_ ⟨D, hrg, hd⟩ (fun k => lftI_step lf x k) hlt (chg_of_grown hgr) hsz hen
  have h1 := (hd x hin).1
  rw [has_true_of_atKey hat] at h1
  rcases hM : M x with _ | v
  · rw [hM] at h1; cases h1
  · have := (hd x hin).2 v hM .nil
    rw [hat] at this
    have e2 : c = v := by simpa using this
    rw [e2]
theorem wp_del {r cnt : Nat} {lf : Lit → Bool} (hg : o.guard = none) (m x : Operand) (hop : o.op = Op.call { callee := Callee.builtin Builtin.delete, args := #[m, x], argTypes := #[117, 3] }) (hm : a.eval m = .map (some b)) (h : Rng w b r n M lf cnt) {k : Int} (hx : a.eval x = .int .i64 k) (hk : InI k)
    (hK : ∀ w' cnt' lf', Rng w' b r n (delM M k) lf' cnt' → (∀ y, lftI lf' y = (lftI lf y && !decide (y = k))) → cnt' ≤ cnt → Chg (fun y => y = b) w w' → wpList Tryd.prog ops Q rest (a.put o.dst (.tuple #[])) w') :
    wpList Tryd.prog ops Q (o :: rest) a w := by
  obtain ⟨D, h, hd⟩ := h
  exact wpList_delete_ranges w hg m x _ _ hop _ keyI Tryd.underlying117 srtElem b r n D lf cnt hm h _ _ hx (keyI_mk hk) fun w' cnt' h1 h2 h3 => hK w' cnt' _ ⟨_, h1, hd.del k⟩ (fun y => lftI_step lf k y) h2 (chg_of_turned h3)
end
end Go.Proofs.YtkadamoofiddeaaDoor.Kit
