/- Texts that the row leans on: PvM, PvN, PvO, PvP, PvQ, PvR. -/
import Derived.Test.YtkadamoofiddeaaDoorProg
import Derived.Test.YtkadamoofiddeaaDoorQVerifyProofag
-- verify: verified, Verify, Heights.
set_option linter.unusedVariables false
set_option linter.unusedSimpArgs false
namespace Go.Proofs.YtkadamoofiddeaaDoor.Kit
open Go.RowKit Go.Maps
open Classical in
/-- what comes of a program -/
noncomputable def vdOf (p : ProgV) : LookR := if CanonP p then verC p else ⟨121, 0, 0, found0, []⟩
theorem vdOf_no {p : ProgV} (h : ¬ CanonP p) : vdOf p = ⟨121, 0, 0, found0, []⟩ := by rw [vdOf, if_neg h]
theorem vdOf_c {p : ProgV} (h : CanonP p) : vdOf p = verC p := by rw [vdOf, if_pos h]
theorem verC_er {p : ProgV} (h : (lookOf p).er ≠ 0) : verC p = lookOf p := by rw [verC, if_pos h]
theorem verC_ok {p : ProgV} (h : (lookOf p).er = 0) (hn : NumsP p (lookOf p).f) : verC p = lookOf p := by rw [verC, if_neg (fun h1 => h1 h), if_pos hn]
theorem verC_no {p : ProgV} (h : (lookOf p).er = 0) (hn : ¬ NumsP p (lookOf p).f) : verC p = ⟨147, p.days.length, 0, (lookOf p).f, (lookOf p).H⟩ := by rw [verC, if_neg (fun h1 => h1 h), if_neg hn]
theorem canon_er (p : ProgV) : ∃ er, canonE p er ∧ (er = 0 ↔ CanonP p) := by
  by_cases h : CanonP p
  · exact ⟨0, ⟨fun _ => rfl, fun h1 => absurd h h1⟩, ⟨fun _ => h, fun _ => rfl⟩⟩
  · exact ⟨121, ⟨fun h1 => absurd h1 h, fun _ => rfl⟩, ⟨fun h1 => absurd h1 (by decide), fun h1 => absurd h1 h⟩⟩
theorem lookGo_0 : ∀ (l : List SegV) (n : Nat) (f : FoundV) (H : List (List Int)), (lookGo l n f H).er = 0 → (lookGo l n f H).seg = 0 ∧ (lookGo l n f H).at_ = 0
  | [], _, _, _, _ => ⟨rfl, rfl⟩
  | x :: xs, n, f, H, h => by
    by_cases he : (segOf x f).er = 0
    · rw [lookGo_ok he] at h ⊢
      exact lookGo_0 xs _ _ _ h
    · rw [lookGo_er he] at h
      exact absurd h he
theorem RdH.lower {w : World} {B B' : Nat} {hv : Value} {H : List (List Int)} {vs : List Value} (h : RdH w B hv H vs) (hB : B' ≤ B) : RdH w B' hv H vs := ⟨h.own, h.row, fun k hk => Nat.le_trans hB (h.geo k hk)⟩
set_option maxRecDepth 100000 in
set_option maxHeartbeats 3200000 in
theorem vVerified {s : ProgS} {p : ProgV} {w : World} (hp : Hid (RdProg w s p)) (ok : Hid (ProgOk p)) (hG : Hid (Glob w w.heap.size)) :
    Calls Tryd.prog 35 #[progVal s p] w fun e w' => ∃ ptr, e = .returned (.tuple #[.pointer ptr, .int .i64 ((vdOf p).seg : Int), .int .i64 ((vdOf p).at_ : Int), .int .i64 (vdOf p).er]) ∧ Hid (Chg (fun _ => False) w w') ∧
      Hid ((vdOf p).er = 0 → ∃ gF hv vs, ptr = some ⟨gF, 0, none⟩ ∧ Blk w' gF 75 (fCells (vdOf p).f hv) ∧ RdH w' w.heap.size hv (vdOf p).H vs ∧ w.heap.size ≤ gF) := by
  obtain ⟨n1, n2, n3, n4, A1, A2, A3, A4, c1, c2, c3, c4, HP0⟩ := hp.out.apart
  have HP := Lib.hid HP0
  obtain ⟨i1, hi1⟩ : ∃ x, x = p.horizon := ⟨_, rfl⟩
  obtain ⟨i2, hi2⟩ : ∃ x, x = p.cells := ⟨_, rfl⟩
  obtain ⟨i3, hi3⟩ : ∃ x, x = p.slots := ⟨_, rfl⟩
  obtain ⟨i4, hi4⟩ : ∃ x, x = p.stack := ⟨_, rfl⟩
  have EQ2 : Hid (progVal s p = .agg #[.slice A1 n1 c1, .slice A2 n2 c2, .slice A3 n3 c3, .int .i64 i1, .int .i64 i2, .int .i64 i3, .int .i64 i4, .slice A4 n4 c4]) := by rw [Hid, HP0.eq, hi1, hi2, hi3, hi4]
  rw [EQ2.out]
  have LD := Lib.hid HP0.ld
  have HI2 := Lib.hid hi2
  have HI3 := Lib.hid hi3
  have HI4 := Lib.hid hi4
  clear hi1 hi2 hi3 hi4 HP0
  obtain ⟨w0, hw0⟩ : ∃ x, x = w.alloc (.cells #[.slice A1 n1 c1, .slice A2 n2 c2, .slice A3 n3 c3, .int .i64 i1, .int .i64 i2, .int .i64 i3, .int .i64 i4, .slice A4 n4 c4] 26) := ⟨_, rfl⟩
  obtain ⟨g1, hg1⟩ : ∃ x, x = w.heap.size := ⟨_, rfl⟩
  have C0 : Hid (Chg (fun _ => False) w w0) := by rw [hw0]; exact (Chg.refl _ w).alloc _
  have B1 : Hid (Blk w0 g1 26 [.slice A1 n1 c1, .slice A2 n2 c2, .slice A3 n3 c3, .int .i64 i1, .int .i64 i2, .int .i64 i3, .int .i64 i4, .slice A4 n4 c4]) := by rw [hw0, hg1]; exact Blk.new _ _ _
  obtain ⟨ce, hce, hce2⟩ := canon_er p
  have HCE := Lib.hid hce
  have HCE2 := Lib.hid hce2
  have f0 := B1.out.at_ (i := 0) rfl
  have f1 := B1.out.at_ (i := 1) rfl
  have f2 := B1.out.at_ (i := 2) rfl
  have f3 := B1.out.at_ (i := 3) rfl
  have f4 := B1.out.at_ (i := 4) rfl
  have f5 := B1.out.at_ (i := 5) rfl
  have f6 := B1.out.at_ (i := 6) rfl
  have f7 := B1.out.at_ (i := 7) rfl
  clear hce hce2
  go_enter Tryd.func35, Tryd.ntmps35
  go_upto_region 1 with fail
  rw [← hw0, ← hg1]
  clear hw0 hg1
  go_wp2_with fail
  refine (show Calls Tryd.prog 10 #[.agg #[.slice A1 n1 c1, .slice A2 n2 c2, .slice A3 n3 c3, .int .i64 i1, .int .i64 i2, .int .i64 i3, .int .i64 i4, .slice A4 n4 c4]] _ _ from by rw [← EQ2.out]; exact imageCanon (Lib.hid (hp.out.chg0 C0.out)) ok (Lib.hid (hG.out.chg0 C0.out).k) HCE).mono ?_
  rintro e w1 ⟨rfl, C1⟩
  have C01 : Hid (Chg (fun _ => False) w w1) := C0.out.trans C1 (fun _ _ h => h)
  have B11 : Hid (Blk w1 g1 26 [.slice A1 n1 c1, .slice A2 n2 c2, .slice A3 n3 c3, .int .i64 i1, .int .i64 i2, .int .i64 i3, .int .i64 i4, .slice A4 n4 c4]) := B1.out.chg C1 (fun h => h)
  clear f0 f1 f2 f3 f4 f5 f6 f7 C1
  by_cases hc0 : ce = 0
  · subst hc0
    have HC : Hid (CanonP p) := HCE2.out.1 rfl
    have f0 := B11.out.at_ (i := 0) rfl
    have f1 := B11.out.at_ (i := 1) rfl
    have f2 := B11.out.at_ (i := 2) rfl
    have f3 := B11.out.at_ (i := 3) rfl
    have f4 := B11.out.at_ (i := 4) rfl
    have f5 := B11.out.at_ (i := 5) rfl
    have f6 := B11.out.at_ (i := 6) rfl
    have f7 := B11.out.at_ (i := 7) rfl
    go_wp2_with fail
    have G1 : Hid (Glob w1 w1.heap.size) := hG.out.later C01.out C01.out.size (Nat.le_refl _)
    refine (show Calls Tryd.prog 60 #[.agg #[.slice A1 n1 c1, .slice A2 n2 c2, .slice A3 n3 c3, .int .i64 i1, .int .i64 i2, .int .i64 i3, .int .i64 i4, .slice A4 n4 c4]] _ _ from by rw [← EQ2.out]; exact vLook (Lib.hid (hp.out.chg0 C01.out)) ok HC G1).mono ?_
    rintro e w2 ⟨gF, rfl, C2, RL⟩
    have C02 : Hid (Chg (fun _ => False) w w2) := C01.out.trans C2.out (fun _ _ h => h)
    have B12 : Hid (Blk w2 g1 26 [.slice A1 n1 c1, .slice A2 n2 c2, .slice A3 n3 c3, .int .i64 i1, .int .i64 i2, .int .i64 i3, .int .i64 i4, .slice A4 n4 c4]) := B11.out.chg C2.out (fun h => h)
    obtain ⟨R, hR⟩ : ∃ z, z = lookOf p := ⟨_, rfl⟩
    rw [← hR] at RL ⊢
    have HR := Lib.hid hR
    obtain ⟨er, sg, atp, f, H⟩ := R
    simp only at RL ⊢
    clear f0 f1 f2 f3 f4 f5 f6 f7 hR
    by_cases he : er = 0
    · subst he
      obtain ⟨hv, vs, BF, RH, GE⟩ := RL.out rfl
      obtain ⟨st, fu, ba, sl, cl⟩ := f
      have p0 := BF.at_ (i := 0) rfl
      have p4 := BF.at_ (i := 4) rfl
      have p5 := BF.at_ (i := 5) rfl
      have f4 := B12.out.at_ (i := 4) rfl
      have f5 := B12.out.at_ (i := 5) rfl
      have f6 := B12.out.at_ (i := 6) rfl
      have f7 := B12.out.at_ (i := 7) rfl
      have BF2 := Lib.hid BF
      have RH2 := Lib.hid RH
      have GE2 := Lib.hid (Nat.le_trans C01.out.size GE)
      have hLe : Hid ((lookOf p).er = 0) := by rw [← HR.out]; rfl
      clear BF RH GE RL
      by_cases h6 : i4 = st
      · subst h6
        by_cases h5 : i3 = sl
        · subst h5
          by_cases h4 : i2 = cl
          · subst h4
            have HV : Hid (vdOf p = ⟨0, sg, atp, ⟨i4, fu, ba, i3, i2⟩, H⟩) := by
              rw [Hid, vdOf_c HC.out, verC_ok hLe.out (by rw [← HR.out]; exact ⟨HI4.out.symm, HI3.out.symm, HI2.out.symm⟩), HR.out]
            have HS : Hid (sg = 0 ∧ atp = 0) := by
              have := lookGo_0 p.days 0 found0 [] hLe.out
              rw [show lookGo p.days 0 found0 [] = lookOf p from rfl, ← HR.out] at this
              exact this
            go_wp2_with fail
            go_quiet (fail)
            go_wp2_with fail
            go_quiet (fail)
            go_wp2_with fail
            go_quiet (fail)
            go_wp2_with fail
            refine bodyPost_ret (v := .tuple #[.pointer (some ⟨gF, 0, none⟩), .int .i64 0, .int .i64 0, .int .i64 0]) (by simp [results, Tryd.results35, go_sem]) rfl ⟨some ⟨gF, 0, none⟩, by rw [HV.out]; rw [HS.out.1, HS.out.2]; try rfl, (by repeat (first | exact C02.out | refine Chg.drew ?_ | refine Chg.drewN ?_ _)), fun _ => ⟨gF, hv, vs, rfl, by rw [HV.out]; exact BF2.out, by rw [HV.out]; exact (RH2.out.chg0 (by repeat (first | exact Chg.refl _ _ | refine Chg.drew ?_ | refine Chg.drewN ?_ _))).lower C01.out.size, GE2.out⟩⟩
          · have HV : Hid (vdOf p = ⟨147, p.days.length, 0, ⟨i4, fu, ba, i3, cl⟩, H⟩) := by
              rw [Hid, vdOf_c HC.out, verC_no hLe.out (by rw [← HR.out]; rintro ⟨x1, x2, x3⟩; exact h4 (HI2.out.trans x3)), ← HR.out]
            have hne : (i2 != cl) = true := by simpa using h4
            clear h4
            go_wp2_with fail
            go_quiet (fail)
            go_wp2_with fail
            go_quiet (fail)
            go_wp2_with fail
            go_quiet (fail)
            go_wp2_with fail
            go_quiet (fail)
            go_wp2_with fail
            refine bodyPost_ret (v := .tuple #[.pointer none, .int .i64 (n4 : Int), .int .i64 0, .int .i64 147]) (by simp [results, Tryd.results35, go_sem]) rfl ⟨none, by rw [HV.out, LD.out]; try rfl, (by repeat (first | exact C02.out | refine Chg.drew ?_ | refine Chg.drewN ?_ _)), fun h => absurd ((congrArg LookR.er HV.out).symm.trans h) (by simp)⟩
        · have HV : Hid (vdOf p = ⟨147, p.days.length, 0, ⟨i4, fu, ba, sl, cl⟩, H⟩) := by
            rw [Hid, vdOf_c HC.out, verC_no hLe.out (by rw [← HR.out]; rintro ⟨x1, x2, x3⟩; exact h5 (HI3.out.trans x2)), ← HR.out]
          have hne : (i3 != sl) = true := by simpa using h5
          clear h5
          go_wp2_with fail
          go_quiet (fail)
          go_wp2_with fail
          go_quiet (fail)
          go_wp2_with fail
          go_quiet (fail)
          go_wp2_with fail
          refine bodyPost_ret (v := .tuple #[.pointer none, .int .i64 (n4 : Int), .int .i64 0, .int .i64 147]) (by simp [results, Tryd.results35, go_sem]) rfl ⟨none, by rw [HV.out, LD.out]; try rfl, (by repeat (first | exact C02.out | refine Chg.drew ?_ | refine Chg.drewN ?_ _)), fun h => absurd ((congrArg LookR.er HV.out).symm.trans h) (by simp)⟩
      · have HV : Hid (vdOf p = ⟨147, p.days.length, 0, ⟨st, fu, ba, sl, cl⟩, H⟩) := by
          rw [Hid, vdOf_c HC.out, verC_no hLe.out (by rw [← HR.out]; rintro ⟨x1, x2, x3⟩; exact h6 (HI4.out.trans x1)), ← HR.out]
        have hne : (i4 != st) = true := by simpa using h6
        clear h6
        go_wp2_with fail
        go_quiet (fail)
        go_wp2_with fail
        go_quiet (fail)
        go_wp2_with fail
        refine bodyPost_ret (v := .tuple #[.pointer none, .int .i64 (n4 : Int), .int .i64 0, .int .i64 147]) (by simp [results, Tryd.results35, go_sem]) rfl ⟨none, by rw [HV.out, LD.out]; try rfl, (by repeat (first | exact C02.out | refine Chg.drew ?_ | refine Chg.drewN ?_ _)), fun h => absurd ((congrArg LookR.er HV.out).symm.trans h) (by simp)⟩
    · have HV : Hid (vdOf p = ⟨er, sg, atp, f, H⟩) := by
        rw [Hid, vdOf_c HC.out, verC_er (by rw [← HR.out]; exact he), ← HR.out]
      have hz : (er == 0) = false := by simpa using he
      have HE := Lib.hid he
      clear he
      go_wp2_with fail
      refine bodyPost_ret (v := .tuple #[.pointer none, .int .i64 (sg : Int), .int .i64 (atp : Int), .int .i64 er]) (by simp [results, Tryd.results35, go_sem]) rfl ⟨none, by rw [HV.out], C02.out, fun h => absurd ((congrArg LookR.er HV.out).symm.trans h) HE.out⟩
  · have HC : Hid (¬ CanonP p) := fun h => hc0 (HCE2.out.2 h)
    have h121 : ce = 121 := HCE.out.2 HC.out
    subst h121
    have HV : Hid (vdOf p = ⟨121, 0, 0, found0, []⟩) := vdOf_no HC.out
    clear hc0
    go_wp2_with fail
    refine bodyPost_ret (v := .tuple #[.pointer none, .int .i64 0, .int .i64 0, .int .i64 121]) (by simp [results, Tryd.results35, go_sem]) rfl ⟨none, by rw [HV.out]; try rfl, C01.out, fun h => absurd ((congrArg LookR.er HV.out).symm.trans h) (by simp)⟩
end Go.Proofs.YtkadamoofiddeaaDoor.Kit
-- verify: Verify, Heights.
set_option linter.unusedVariables false
set_option linter.unusedSimpArgs false
namespace Go.Proofs.YtkadamoofiddeaaDoor.Kit
open Go.RowKit Go.Maps
theorem vdOf_0 {p : ProgV} (h : (vdOf p).er = 0) : (vdOf p).seg = 0 ∧ (vdOf p).at_ = 0 ∧ CanonP p ∧ lookOf p = vdOf p ∧ NumsP p (vdOf p).f := by
  by_cases hc : CanonP p
  · rw [vdOf_c hc] at h ⊢
    by_cases he : (lookOf p).er = 0
    · by_cases hn : NumsP p (lookOf p).f
      · rw [verC_ok he hn] at h ⊢
        have := lookGo_0 p.days 0 found0 [] he
        exact ⟨this.1, this.2, hc, rfl, hn⟩
      · rw [verC_no he hn] at h
        exact absurd (show (147 : Int) = 0 from h) (by decide)
    · rw [verC_er he] at h
      exact absurd h he
  · rw [vdOf_no hc] at h
    exact absurd h (by decide)
/-- the proof that Verify hands out -/
noncomputable def prfOf (p : ProgV) : FoundV := if (vdOf p).er = 0 then (vdOf p).f else found0
/-- what Heights answers -/
noncomputable def hgtE (p : ProgV) (sg : Int) : Int := if (vdOf p).er ≠ 0 then (vdOf p).er else if sg < 0 ∨ ((vdOf p).H.length : Int) ≤ sg then 2 else 0
set_option maxRecDepth 100000 in
set_option maxHeartbeats 3200000 in
theorem vVerify {s : ProgS} {p : ProgV} {w : World} (hp : Hid (RdProg w s p)) (ok : Hid (ProgOk p)) (hG : Hid (Glob w w.heap.size)) :
    Calls Tryd.prog 14 #[progVal s p] w fun e w' => e = .returned (.tuple #[.agg #[.int .i64 (prfOf p).stack, .int .i64 (prfOf p).fuel, .int .i64 (prfOf p).back], .int .i64 ((vdOf p).seg : Int), .int .i64 ((vdOf p).at_ : Int), .int .i64 (vdOf p).er]) ∧ Hid (Chg (fun _ => False) w w') := by
  obtain ⟨n1, n2, n3, n4, A1, A2, A3, A4, c1, c2, c3, c4, HP0⟩ := hp.out.apart
  obtain ⟨i1, hi1⟩ : ∃ x, x = p.horizon := ⟨_, rfl⟩
  obtain ⟨i2, hi2⟩ : ∃ x, x = p.cells := ⟨_, rfl⟩
  obtain ⟨i3, hi3⟩ : ∃ x, x = p.slots := ⟨_, rfl⟩
  obtain ⟨i4, hi4⟩ : ∃ x, x = p.stack := ⟨_, rfl⟩
  have EQ2 : Hid (progVal s p = .agg #[.slice A1 n1 c1, .slice A2 n2 c2, .slice A3 n3 c3, .int .i64 i1, .int .i64 i2, .int .i64 i3, .int .i64 i4, .slice A4 n4 c4]) := by rw [Hid, HP0.eq, hi1, hi2, hi3, hi4]
  rw [EQ2.out]
  clear hi1 hi2 hi3 hi4 HP0
  obtain ⟨w0, hw0⟩ : ∃ x, x = (w.alloc (.cells #[.slice A1 n1 c1, .slice A2 n2 c2, .slice A3 n3 c3, .int .i64 i1, .int .i64 i2, .int .i64 i3, .int .i64 i4, .slice A4 n4 c4] 26)).alloc (.cells #[.int .i64 0, .int .i64 0, .int .i64 0] 35) := ⟨_, rfl⟩
  obtain ⟨g1, hg1⟩ : ∃ x, x = w.heap.size := ⟨_, rfl⟩
  have e0 : (w.alloc (.cells #[.slice A1 n1 c1, .slice A2 n2 c2, .slice A3 n3 c3, .int .i64 i1, .int .i64 i2, .int .i64 i3, .int .i64 i4, .slice A4 n4 c4] 26)).heap.size = g1 + 1 := by rw [hg1]; simp
  have C0 : Hid (Chg (fun _ => False) w w0) := by rw [hw0]; exact ((Chg.refl _ w).alloc _).alloc _
  have B1 : Hid (Blk w0 g1 26 [.slice A1 n1 c1, .slice A2 n2 c2, .slice A3 n3 c3, .int .i64 i1, .int .i64 i2, .int .i64 i3, .int .i64 i4, .slice A4 n4 c4]) := by rw [hw0, hg1]; exact (Blk.new _ _ _).alloc _
  have P1 : Hid (Blk w0 (g1 + 1) 35 [.int .i64 0, .int .i64 0, .int .i64 0]) := by
    rw [hw0, ← e0]
    exact Blk.new _ #[.int .i64 0, .int .i64 0, .int .i64 0] _
  have f0 := B1.out.at_ (i := 0) rfl
  have f1 := B1.out.at_ (i := 1) rfl
  have f2 := B1.out.at_ (i := 2) rfl
  have f3 := B1.out.at_ (i := 3) rfl
  have f4 := B1.out.at_ (i := 4) rfl
  have f5 := B1.out.at_ (i := 5) rfl
  have f6 := B1.out.at_ (i := 6) rfl
  have f7 := B1.out.at_ (i := 7) rfl
  have HG1 := Lib.hid hg1
  go_enter Tryd.func14, Tryd.ntmps14
  go_upto_region 1 with fail
  rw [← hw0, ← hg1]
  clear hw0 e0 hg1
  go_wp2_with fail
  have G0 : Hid (Glob w0 w0.heap.size) := hG.out.later C0.out C0.out.size (Nat.le_refl _)
  refine (show Calls Tryd.prog 35 #[.agg #[.slice A1 n1 c1, .slice A2 n2 c2, .slice A3 n3 c3, .int .i64 i1, .int .i64 i2, .int .i64 i3, .int .i64 i4, .slice A4 n4 c4]] _ _ from by rw [← EQ2.out]; exact vVerified (Lib.hid (hp.out.chg0 C0.out)) ok G0).mono ?_
  rintro e w2 ⟨ptr, rfl, C2, RV⟩
  have C02 : Hid (Chg (fun _ => False) w w2) := C0.out.trans C2.out (fun _ _ h => h)
  have P2 : Hid (Blk w2 (g1 + 1) 35 [.int .i64 0, .int .i64 0, .int .i64 0]) := P1.out.chg C2.out (fun h => h)
  clear f0 f1 f2 f3 f4 f5 f6 f7
  have V0 := Lib.hid (fun h => @vdOf_0 p h)
  obtain ⟨R, hR⟩ : ∃ z, z = vdOf p := ⟨_, rfl⟩
  obtain ⟨F, hF⟩ : ∃ z, z = prfOf p := ⟨_, rfl⟩
  have HF : Hid (F = if R.er = 0 then R.f else found0) := by rw [Hid, hF, hR]; rfl
  rw [← hR] at RV V0 ⊢
  have HRV := Lib.hid hR
  have HFP := Lib.hid hF
  clear hR hF
  obtain ⟨er, sg, atp, f, H⟩ := R
  simp only at RV V0 HF ⊢
  have o0 := P2.out.at_ (i := 0) rfl
  have o1 := P2.out.at_ (i := 1) rfl
  have o2 := P2.out.at_ (i := 2) rfl
  have z0 := P2.out.frozen (i := 0) (by simp)
  have z1 := P2.out.frozen (i := 1) (by simp)
  have z2 := P2.out.frozen (i := 2) (by simp)
  by_cases he : er = 0
  · subst he
    obtain ⟨gF, hv, vs, rfl, BF, RH, GE⟩ := RV.out rfl
    obtain ⟨rfl, rfl, _⟩ := V0.out rfl
    obtain rfl : F = f := HF.out
    obtain ⟨st, fu, ba, sl, cl⟩ := F
    have p0 := BF.at_ (i := 0) rfl
    have p1 := BF.at_ (i := 1) rfl
    have p2 := BF.at_ (i := 2) rfl
    clear BF RH GE RV V0 HF
    have NE : Hid (Chg (fun _ => False) w (((w2.setCell ⟨g1 + 1, 0, none⟩ (.int .i64 st)).setCell ⟨g1 + 1, 1, none⟩ (.int .i64 fu)).setCell ⟨g1 + 1, 2, none⟩ (.int .i64 ba))) := by
      refine Chg.setCell (Chg.setCell (Chg.setCell C02.out ?_ _) ?_ _) ?_ _
      all_goals (intro h; have := HG1.out; simp only at h; omega)
    have BN := (((P2.out.set 0 (.int .i64 st)).set 1 (.int .i64 fu)).set 2 (.int .i64 ba))
    have y0 := BN.at_ (i := 0) rfl
    have y1 := BN.at_ (i := 1) rfl
    have y2 := BN.at_ (i := 2) rfl
    go_wp2_with fail
    refine bodyPost_ret (v := .tuple #[.agg #[.int .i64 st, .int .i64 fu, .int .i64 ba], .int .i64 0, .int .i64 0, .int .i64 0]) (by simp [results, Tryd.results14, go_sem, y0, y1, y2]) rfl ⟨by rw [← HFP.out, ← HRV.out]; rfl, NE.out⟩
  · have HFF : Hid (F = found0) := by rw [HF.out]; exact if_neg he
    have hz : (er == 0) = false := by simpa using he
    clear he
    have NE : Hid (Chg (fun _ => False) w (((w2.setCell ⟨g1 + 1, 0, none⟩ (.int .i64 0)).setCell ⟨g1 + 1, 1, none⟩ (.int .i64 0)).setCell ⟨g1 + 1, 2, none⟩ (.int .i64 0))) := by
      refine Chg.setCell (Chg.setCell (Chg.setCell C02.out ?_ _) ?_ _) ?_ _
      all_goals (intro h; have := HG1.out; simp only at h; omega)
    have BN := (((P2.out.set 0 (.int .i64 0)).set 1 (.int .i64 0)).set 2 (.int .i64 0))
    have y0 := BN.at_ (i := 0) rfl
    have y1 := BN.at_ (i := 1) rfl
    have y2 := BN.at_ (i := 2) rfl
    go_wp2_with fail
    refine bodyPost_ret (v := .tuple #[.agg #[.int .i64 0, .int .i64 0, .int .i64 0], .int .i64 (sg : Int), .int .i64 (atp : Int), .int .i64 er]) (by simp [results, Tryd.results14, go_sem, y0, y1, y2]) rfl ⟨by rw [← HFP.out, ← HRV.out, HFF.out]; rfl, NE.out⟩
set_option maxRecDepth 100000 in
set_option maxHeartbeats 3200000 in
theorem vHeights {s : ProgS} {p : ProgV} {w : World} {sg : Int} (hp : Hid (RdProg w s p)) (ok : Hid (ProgOk p)) (hG : Hid (Glob w w.heap.size)) {er : Int} (her : Hid (er = hgtE p sg)) :
    Calls Tryd.prog 15 #[progVal s p, .int .i64 sg] w fun e w' => ∃ A n c, e = .returned (.tuple #[.slice A n c, .int .i64 er]) ∧ Hid (Chg (fun _ => False) w w') ∧ Hid (er = 0 → ∃ l, (vdOf p).H[sg.toNat]? = some l ∧ 0 ≤ sg ∧ Own w' 3 .i64 (.slice A n c) l) := by
  obtain ⟨n1, n2, n3, n4, A1, A2, A3, A4, c1, c2, c3, c4, HP0⟩ := hp.out.apart
  obtain ⟨i1, hi1⟩ : ∃ x, x = p.horizon := ⟨_, rfl⟩
  obtain ⟨i2, hi2⟩ : ∃ x, x = p.cells := ⟨_, rfl⟩
  obtain ⟨i3, hi3⟩ : ∃ x, x = p.slots := ⟨_, rfl⟩
  obtain ⟨i4, hi4⟩ : ∃ x, x = p.stack := ⟨_, rfl⟩
  have EQ2 : Hid (progVal s p = .agg #[.slice A1 n1 c1, .slice A2 n2 c2, .slice A3 n3 c3, .int .i64 i1, .int .i64 i2, .int .i64 i3, .int .i64 i4, .slice A4 n4 c4]) := by rw [Hid, HP0.eq, hi1, hi2, hi3, hi4]
  rw [EQ2.out]
  clear hi1 hi2 hi3 hi4 HP0
  obtain ⟨w0, hw0⟩ : ∃ x, x = w.alloc (.cells #[.slice A1 n1 c1, .slice A2 n2 c2, .slice A3 n3 c3, .int .i64 i1, .int .i64 i2, .int .i64 i3, .int .i64 i4, .slice A4 n4 c4] 26) := ⟨_, rfl⟩
  obtain ⟨g1, hg1⟩ : ∃ x, x = w.heap.size := ⟨_, rfl⟩
  have C0 : Hid (Chg (fun _ => False) w w0) := by rw [hw0]; exact (Chg.refl _ w).alloc _
  have B1 : Hid (Blk w0 g1 26 [.slice A1 n1 c1, .slice A2 n2 c2, .slice A3 n3 c3, .int .i64 i1, .int .i64 i2, .int .i64 i3, .int .i64 i4, .slice A4 n4 c4]) := by rw [hw0, hg1]; exact Blk.new _ _ _
  have f0 := B1.out.at_ (i := 0) rfl
  have f1 := B1.out.at_ (i := 1) rfl
  have f2 := B1.out.at_ (i := 2) rfl
  have f3 := B1.out.at_ (i := 3) rfl
  have f4 := B1.out.at_ (i := 4) rfl
  have f5 := B1.out.at_ (i := 5) rfl
  have f6 := B1.out.at_ (i := 6) rfl
  have f7 := B1.out.at_ (i := 7) rfl
  go_enter Tryd.func15, Tryd.ntmps15
  go_upto_region 1 with fail
  rw [← hw0, ← hg1]
  clear hw0 hg1
  go_wp2_with fail
  have G0 : Hid (Glob w0 w0.heap.size) := hG.out.later C0.out C0.out.size (Nat.le_refl _)
  refine (show Calls Tryd.prog 35 #[.agg #[.slice A1 n1 c1, .slice A2 n2 c2, .slice A3 n3 c3, .int .i64 i1, .int .i64 i2, .int .i64 i3, .int .i64 i4, .slice A4 n4 c4]] _ _ from by rw [← EQ2.out]; exact vVerified (Lib.hid (hp.out.chg0 C0.out)) ok G0).mono ?_
  rintro e w2 ⟨ptr, rfl, C2, RV⟩
  have C02 : Hid (Chg (fun _ => False) w w2) := C0.out.trans C2.out (fun _ _ h => h)
  clear f0 f1 f2 f3 f4 f5 f6 f7
  obtain ⟨R, hR⟩ : ∃ z, z = vdOf p := ⟨_, rfl⟩
  have HE : Hid (er = if R.er ≠ 0 then R.er else if sg < 0 ∨ (R.H.length : Int) ≤ sg then 2 else 0) := by rw [Hid, her.out, hR]; rfl
  rw [← hR] at RV ⊢
  have HRV := Lib.hid hR
  clear hR
  obtain ⟨vr, sgr, atp, f, H⟩ := R
  simp only at RV HE ⊢
  by_cases he : vr = 0
  · subst he
    obtain ⟨gF, hv, vs, rfl, BF, RH, GE⟩ := RV.out rfl
    have HE2 : Hid (er = if sg < 0 ∨ (H.length : Int) ≤ sg then 2 else 0) := HE.out
    obtain ⟨Ah, ch, rfl, _, _⟩ := RH.own.slice
    obtain ⟨nh, hnh⟩ : ∃ z, z = H.length := ⟨_, rfl⟩
    have HNH := Lib.hid hnh
    have RH2 := Lib.hid RH
    have BF2 := Lib.hid BF
    rw [← hnh] at HE2 BF
    have p3 := BF.at_ (i := 3) rfl
    clear RV HE hnh RH BF
    by_cases h1 : sg < 0
    · have HR : Hid ((2 : Int) = er) := by rw [Hid, HE2.out, if_pos (.inl h1)]
      go_wp2_with fail
      go_ret2
      exact ⟨none, 0, 0, by rw [← HR.out]; rfl, C02.out, fun h => absurd (HR.out.trans h) (by decide)⟩
    · by_cases h2 : (nh : Int) ≤ sg
      · have HR : Hid ((2 : Int) = er) := by rw [Hid, HE2.out, if_pos (.inr h2)]
        go_wp2_with fail
        go_ret2
        exact ⟨none, 0, 0, by rw [← HR.out]; rfl, C02.out, fun h => absurd (HR.out.trans h) (by decide)⟩
      · have HR : Hid ((0 : Int) = er) := by rw [Hid, HE2.out, if_neg (by rintro (e | e) <;> contradiction)]
        obtain ⟨i, rfl⟩ : ∃ i : Nat, sg = i := ⟨sg.toNat, by omega⟩
        have h3 : (i : Int) < (nh : Int) := by omega
        have h4 : (0 : Int) ≤ (i : Int) := by omega
        have hlen : vs.length = nh := by have := RH2.out.own.1; rw [HNH.out]; omega
        obtain ⟨v, hv⟩ : ∃ v, vs[i]? = some v := ⟨_, List.getElem?_eq_getElem (by omega)⟩
        obtain ⟨l, hl⟩ : ∃ l, H[i]? = some l := ⟨_, List.getElem?_eq_getElem (by rw [← HNH.out]; omega)⟩
        obtain ⟨ad, e1, hc, _⟩ := RH2.out.own.cells Ah H.length ch rfl i v hv
        obtain ⟨A9, n9, rfl, _, _⟩ := OwnV.slice (RH2.out.row i _ l hv hl)
        have OW := Lib.hid (RH2.out.row i _ l hv hl)
        have HLL := Lib.hid hl
        subst e1
        clear hv hl hlen RH2 BF2
        go_wp2_with fail
        go_ret2
        exact ⟨A9, l.length, n9, by rw [← HR.out]; rfl, C02.out, fun _ => ⟨l, by rw [← HRV.out]; exact HLL.out, OW.out⟩⟩
  · have HR : Hid (vr = er) := by rw [Hid, HE.out, if_pos he]
    have hz : (vr == 0) = false := by simpa using he
    have HEV := Lib.hid he
    clear he
    go_wp2_with fail
    go_ret2
    exact ⟨none, 0, 0, by rw [← HR.out]; rfl, C02.out, fun h => absurd (HR.out.trans h) HEV.out⟩
end Go.Proofs.YtkadamoofiddeaaDoor.Kit
-- The law's program that must be taken (plain), and that it is (lives).
set_option linter.unusedVariables false
set_option linter.unusedSimpArgs false
namespace Go.Proofs.YtkadamoofiddeaaDoor.Kit
open Go.RowKit Go.Maps
def plainC : List InsV := [⟨3, 0, 1⟩, ⟨1, 0, 0⟩, ⟨9, 0, 0⟩, ⟨6, 0, 0⟩, ⟨1, 0, 0⟩, ⟨21, 0, 0⟩, ⟨27, 2, 0⟩, ⟨7, 0, 0⟩, ⟨28, 0, 0⟩, ⟨0, 0, 0⟩]
def plainV : ProgV := ⟨[⟨#[65]⟩], [⟨#[69, 85, 82]⟩], [5], 3, 0, 1, 2, [⟨2, plainC⟩]⟩
theorem look_plain : (lookOf plainV).er = 0 ∧ (lookOf plainV).f = ⟨2, 10, 1, 1, 0⟩ ∧ (lookOf plainV).H = [[0, 1, 2, 1, 1, 2, 1, 0, 1, 0]] := ⟨by rfl, by rfl, by rfl⟩
theorem Blk.newAt (W : World) (cs : Array Value) (e : TypeId) {g : Nat} (h : g = W.heap.size) : Blk (W.alloc (.cells cs e)) g e cs.toList := by subst h; exact Blk.new W cs e
theorem rdG_blk {w : World} {g : Nat} {e : TypeId} {cs : List Value} (h : Blk w g e cs) : RdG w (some ⟨g, 0, none⟩) cs := fun j u hu => by
  refine ⟨_, rfl, ?_⟩
  rw [show (⟨g, 0, none⟩ : Addr).add j = ⟨g, j, none⟩ from by unfold Addr.add; split <;> simp_all]
  exact h.at_ hu
theorem slG_blk {w : World} {g sz n : Nat} {e : TypeId} {cs : List Value} (h : Blk w g e cs) (hl : cs.length = n * sz) (hn : n ≤ maxLen) : SlG w (.slice (some ⟨g, 0, none⟩) n n) sz n cs := ⟨⟨_, _, rfl, Nat.le_refl _, hn, rdG_blk h⟩, hl⟩
set_option maxRecDepth 100000 in
set_option maxHeartbeats 3200000 in
theorem vPlain {w : World} : Calls Tryd.prog 33 #[] w fun e w' => ∃ s, e = .returned (progVal s plainV) ∧ Hid (RdProg w' s plainV) ∧ Hid (Chg (fun _ => False) w w') := by
  obtain ⟨g, hg⟩ : ∃ z, z = w.heap.size := ⟨_, rfl⟩
  have HG := Lib.hid hg
  clear hg
  go_enter Tryd.func33, Tryd.ntmps33
  go_wp2_with fail
  refine bodyPost_ret (v := .agg #[.slice (some ⟨w.heap.size + 1 + 1, 0, none⟩) 1 1, .slice (some ⟨w.heap.size + 1 + 1 + 1, 0, none⟩) 1 1, .slice (some ⟨w.heap.size + 1 + 1 + 1 + 1, 0, none⟩) 1 1, .int .i64 3, .int .i64 0, .int .i64 1, .int .i64 2, .slice (some ⟨w.heap.size + 1 + 1 + 1 + 1 + 1, 0, none⟩) 1 1]) (by simp [results, Tryd.results33, go_sem]) rfl
    ⟨⟨.slice (some ⟨w.heap.size + 1 + 1, 0, none⟩) 1 1, .slice (some ⟨w.heap.size + 1 + 1 + 1, 0, none⟩) 1 1, .slice (some ⟨w.heap.size + 1 + 1 + 1 + 1, 0, none⟩) 1 1, .slice (some ⟨w.heap.size + 1 + 1 + 1 + 1 + 1, 0, none⟩) 1 1, [.slice (some ⟨w.heap.size + 1, 0, none⟩) 10 10]⟩, rfl, ?_, ?_⟩
  · refine ⟨?_, ?_, ?_, ?_, rfl, ?_⟩
    · exact slG_blk (((Blk.newAt _ #[.string ⟨#[65]⟩] 9 (by simp)).alloc _).alloc _ |>.alloc _) rfl (by decide)
    · exact slG_blk ((Blk.newAt _ #[.string ⟨#[69, 85, 82]⟩] 9 (by simp)).alloc _ |>.alloc _) rfl (by decide)
    · exact slG_blk ((Blk.newAt _ #[.int .i64 5] 3 (by simp)).alloc _) rfl (by decide)
    · exact slG_blk (Blk.newAt _ #[.int .i64 2, .slice (some ⟨w.heap.size + 1, 0, none⟩) 10 10] 42 (by simp)) rfl (by decide)
    · intro i hi hi'
      have h0 : i = 0 := by simp [plainV] at hi; omega
      subst h0
      exact slG_blk (((((Blk.newAt _ (insCells plainC).toArray 47 (by simp)).alloc _).alloc _).alloc _).alloc _) rfl (by decide)
  · exact (((((((Chg.refl _ w).alloc _).alloc _).alloc _).alloc _).alloc _).alloc _)
theorem plain_ins : ∀ i (h : i < plainC.length), GoodI plainV plainC.length i plainC[i] := by
  intro i h
  have hi : i < 10 := h
  have : i = 0 ∨ i = 1 ∨ i = 2 ∨ i = 3 ∨ i = 4 ∨ i = 5 ∨ i = 6 ∨ i = 7 ∨ i = 8 ∨ i = 9 := by omega
  rcases this with rfl | rfl | rfl | rfl | rfl | rfl | rfl | rfl | rfl | rfl
  · exact (show GoodI plainV 10 0 ⟨3, 0, 1⟩ from ⟨by decide, by decide, ⟨by decide, by decide, by decide, by decide, by decide⟩⟩)
  · exact (show GoodI plainV 10 1 ⟨1, 0, 0⟩ from ⟨by decide, by decide, ⟨by decide, by decide, by decide, by decide, by decide⟩⟩)
  · exact (show GoodI plainV 10 2 ⟨9, 0, 0⟩ from ⟨by decide, by decide, ⟨by decide, by decide, by decide, by decide, by decide⟩⟩)
  · exact (show GoodI plainV 10 3 ⟨6, 0, 0⟩ from ⟨by decide, by decide, ⟨by decide, by decide, by decide, by decide, by decide⟩⟩)
  · exact (show GoodI plainV 10 4 ⟨1, 0, 0⟩ from ⟨by decide, by decide, ⟨by decide, by decide, by decide, by decide, by decide⟩⟩)
  · exact (show GoodI plainV 10 5 ⟨21, 0, 0⟩ from ⟨by decide, by decide, ⟨by decide, by decide, by decide, by decide, by decide⟩⟩)
  · exact (show GoodI plainV 10 6 ⟨27, 2, 0⟩ from ⟨by decide, by decide, ⟨by decide, by decide, by decide, by decide, by decide⟩⟩)
  · exact (show GoodI plainV 10 7 ⟨7, 0, 0⟩ from ⟨by decide, by decide, ⟨by decide, by decide, by decide, by decide, by decide⟩⟩)
  · exact (show GoodI plainV 10 8 ⟨28, 0, 0⟩ from ⟨by decide, by decide, ⟨by decide, by decide, by decide, by decide, by decide⟩⟩)
  · exact (show GoodI plainV 10 9 ⟨0, 0, 0⟩ from ⟨by decide, by decide, ⟨by decide, by decide, by decide, by decide, by decide⟩⟩)
theorem plain_canon : CanonP plainV := by
  refine ⟨?_, fun i h => ?_, by decide, by decide, by decide⟩
  · refine ⟨by decide, by decide, by decide, fun i h => absurd h (by simp [plainV]), fun i h => absurd h (by simp [plainV]), fun i h => absurd h (by simp [plainV]), fun s hs => ?_, fun s hs => ?_, by decide, by decide, by decide, by decide⟩
    · obtain rfl : s = ⟨#[65]⟩ := by simpa [plainV] using hs
      refine ⟨by decide, by decide, (show (65 : Int) ≤ 65 ∧ (65 : Int) ≤ 90 from by decide), fun i hi => ?_⟩
      obtain rfl : i = 0 := by have : i < 1 := hi; omega
      exact .inl (show (65 : Int) ≤ 65 ∧ (65 : Int) ≤ 90 from by decide)
    · obtain rfl : s = ⟨#[69, 85, 82]⟩ := by simpa [plainV] using hs
      exact ⟨by decide, (show (65 : Int) ≤ 69 ∧ (69 : Int) ≤ 90 from by decide), (show (65 : Int) ≤ 85 ∧ (85 : Int) ≤ 90 from by decide), (show (65 : Int) ≤ 82 ∧ (82 : Int) ≤ 90 from by decide)⟩
  · have h0 : i = 0 := by simp [plainV] at h; omega
    subst h0
    exact (show GoodD plainV 0 ⟨2, plainC⟩ from ⟨by decide, by decide, by decide, (by decide : 2 ≤ plainC.length), plain_ins⟩)
theorem plain_ok : ProgOk plainV := by
  refine ⟨⟨by decide, by decide, by decide, by decide, fun x hx => ?_⟩, fun x hx => ?_, fun x hx => ?_, fun x hx => ?_, by decide, by decide, by decide, by decide, fun x hx => ?_⟩
  · obtain rfl : x = ⟨2, plainC⟩ := by simpa [plainV] using hx
    decide
  · obtain rfl : x = ⟨#[65]⟩ := by simpa [plainV] using hx
    decide
  · obtain rfl : x = ⟨#[69, 85, 82]⟩ := by simpa [plainV] using hx
    decide
  · obtain rfl : x = 5 := by simpa [plainV] using hx
    decide
  · obtain rfl : x = ⟨2, plainC⟩ := by simpa [plainV] using hx
    refine ⟨by decide, fun y hy => ?_⟩
    have : ∀ y ∈ plainC, (-9223372036854775808 ≤ y.op ∧ y.op ≤ 9223372036854775807) ∧ (-9223372036854775808 ≤ y.a ∧ y.a ≤ 9223372036854775807) ∧ -9223372036854775808 ≤ y.b ∧ y.b ≤ 9223372036854775807 := by decide
    exact this y hy
theorem plain_vd : vdOf plainV = ⟨0, 0, 0, ⟨2, 10, 1, 1, 0⟩, [[0, 1, 2, 1, 1, 2, 1, 0, 1, 0]]⟩ := by
  rw [vdOf_c plain_canon, verC_ok look_plain.1 (by rw [look_plain.2.1]; exact ⟨rfl, rfl, rfl⟩)]
  rfl
theorem plain_prf : prfOf plainV = ⟨2, 10, 1, 1, 0⟩ := by
  unfold prfOf
  rw [plain_vd]
  rfl
theorem plain_hgt : hgtE plainV 0 = 0 := by
  unfold hgtE
  rw [plain_vd]
  rfl
set_option maxRecDepth 100000 in
set_option maxHeartbeats 1600000 in
theorem vSameInts {w : World} {A1 A2 : Option Addr} {n1 c1 n2 c2 : Nat} {l m : List Int} {b : Bool} (h1 : Hid (Own w 3 .i64 (.slice A1 n1 c1) l)) (h2 : Hid (Own w 3 .i64 (.slice A2 n2 c2) m)) (L1 : Hid (l.length = n1)) (L2 : Hid (m.length = n2)) (hn : n1 ≤ 1000000000) (hb : Hid (b = true ↔ l = m)) :
    Calls Tryd.prog 34 #[.slice A1 n1 c1, .slice A2 n2 c2] w fun e w' => e = .returned (.bool b) ∧ Hid (Chg (fun _ => False) w w') := by
  by_cases hl : n1 = n2
  · subst hl
    go_enter Tryd.func34, Tryd.ntmps34
    go_wp2_with fail
    go_loopw [5] (fun v wr => ∃ k : Nat, v = .int .i64 (k : Int) ∧ k ≤ n1 ∧ Hid (∀ j, j < k → l[j]? = m[j]?) ∧ Hid (Chg (fun _ => False) w wr)) (fun v _ => n1 - (intOf v).toNat)
    case atStart => exact ⟨0, rfl, Nat.zero_le _, fun j hj => absurd hj (by omega), Chg.refl _ _⟩
    case round =>
      obtain ⟨k, rfl, hk, HQ, HC⟩ := hrel
      by_cases hkn : k < n1
      · obtain ⟨gs1, x1, e1, hx1, k1⟩ := own_elemI (OwnV.chg h1.out HC.out (fun _ _ h => h)) L1.out hkn
        obtain ⟨gs2, x2, e2, hx2, k2⟩ := own_elemI (OwnV.chg h2.out HC.out (fun _ _ h => h)) L2.out hkn
        subst e1
        subst e2
        have i1 : (0 : Int) ≤ (k : Int) := by omega
        have i2 : (k : Int) < (n1 : Int) := by omega
        have HX1 := Lib.hid hx1
        have HX2 := Lib.hid hx2
        clear hx1 hx2
        by_cases hxx : x1 = x2
        · subst hxx
          go_wp2_with fail
          go_quiet (fail)
          go_wp2_with fail
          go_roundw
          case rel =>
            refine ⟨k + 1, by congr 1, by omega, fun j hj => ?_, HC.out.drewN _⟩
            rcases Nat.lt_or_ge j k with h | h
            · exact HQ.out j h
            · rw [show j = k from by omega, HX1.out, HX2.out]
          case measure => exact meas_lt hkn
        · have HB : Hid (false = b) := by
            cases b
            · rfl
            · have := hb.out.1 rfl
              have e := HX1.out
              rw [this, HX2.out] at e
              injection e with e
              exact absurd e.symm hxx
          have hne : (x1 == x2) = false := by simpa using hxx
          have hne2 : (x1 != x2) = true := by simpa using hxx
          clear hxx
          go_wp2_with fail
          go_quiet (fail)
          go_wp2_with fail
          go_ret
          exact ⟨ret_bool HB.out, HC.out.drewN _⟩
      · obtain rfl : k = n1 := by omega
        have HB : Hid (true = b) := by
          have : l = m := by
            apply List.ext_getElem?
            intro i
            by_cases hi : i < k
            · exact HQ.out i hi
            · rw [List.getElem?_eq_none (by rw [L1.out]; omega), List.getElem?_eq_none (by rw [L2.out]; omega)]
          exact (hb.out.2 this).symm
        have i1 : ¬ ((k : Int) < (k : Int)) := by omega
        go_wp2_with fail
        go_ret
        exact ⟨ret_bool HB.out, HC.out⟩
  · have HB : Hid (false = b) := by
      cases b
      · rfl
      · have := hb.out.1 rfl
        exact absurd (by rw [← L1.out, ← L2.out, this]) hl
    have hn2 : ¬ ((n1 : Int) = (n2 : Int)) := by omega
    have hn1 : ((n1 : Int) != (n2 : Int)) = true := by simpa using hn2
    go_enter Tryd.func34, Tryd.ntmps34
    go_wp2_with fail
    go_ret
    exact ⟨ret_bool HB.out, Chg.refl _ _⟩
end Go.Proofs.YtkadamoofiddeaaDoor.Kit
-- The law's first word (lives): its own program is taken, with its numbers.
set_option linter.unusedVariables false
set_option linter.unusedSimpArgs false
namespace Go.Proofs.YtkadamoofiddeaaDoor.Kit
open Go.RowKit Go.Maps
theorem vVerifyPlain {s : ProgS} {w : World} (hp : Hid (RdProg w s plainV)) (hG : Hid (Glob w w.heap.size)) :
    Calls Tryd.prog 14 #[progVal s plainV] w fun e w' => e = .returned (.tuple #[.agg #[.int .i64 2, .int .i64 10, .int .i64 1], .int .i64 0, .int .i64 0, .int .i64 0]) ∧ Hid (Chg (fun _ => False) w w') := by
  refine (vVerify hp (Lib.hid plain_ok) hG).mono ?_
  rintro e w' ⟨rfl, hc⟩
  refine ⟨?_, hc⟩
  rw [plain_prf, plain_vd]
  rfl
theorem vHeightsPlain {s : ProgS} {w : World} (hp : Hid (RdProg w s plainV)) (hG : Hid (Glob w w.heap.size)) :
    Calls Tryd.prog 15 #[progVal s plainV, .int .i64 0] w fun e w' => ∃ A c, e = .returned (.tuple #[.slice A 10 c, .int .i64 0]) ∧ Hid (Chg (fun _ => False) w w') ∧ Hid (Own w' 3 .i64 (.slice A 10 c) [0, 1, 2, 1, 1, 2, 1, 0, 1, 0]) := by
  refine (vHeights hp (Lib.hid plain_ok) hG (Lib.hid plain_hgt.symm)).mono ?_
  rintro e w' ⟨A, n, c, rfl, hc, hr⟩
  obtain ⟨l, hl, _, ho⟩ := hr.out rfl
  rw [plain_vd] at hl
  obtain rfl : [0, 1, 2, 1, 1, 2, 1, 0, 1, 0] = l := by simpa using hl
  obtain ⟨A', c', e, _, _⟩ := OwnV.slice ho
  injection e with e1 e2 e3
  subst e1 e2 e3
  exact ⟨A, c, rfl, hc, ho⟩
theorem Glob.step {w w1 : World} (h : Glob w w.heap.size) (c : Chg (fun _ => False) w w1) : Glob w1 w1.heap.size := h.later c c.size (Nat.le_refl _)
set_option maxRecDepth 100000 in
set_option maxHeartbeats 3200000 in
theorem vLives {w : World} (hG : Hid (Glob w w.heap.size)) : Calls Tryd.prog 13 #[] w fun e w' => e = .returned (.bool true) ∧ Hid (Chg (fun _ => False) w w') := by
  go_enter Tryd.func13, Tryd.ntmps13
  go_wp2_with fail
  refine vPlain.mono ?_
  rintro e w1 ⟨s1, rfl, R1, C1⟩
  go_wp2_with fail
  refine (vVerifyPlain R1 (Lib.hid (hG.out.step C1.out))).mono ?_
  rintro e w2 ⟨rfl, C2⟩
  have C02 : Hid (Chg (fun _ => False) w w2) := C1.out.trans C2.out (fun _ _ h => h)
  go_upto_region 2 with fail
  obtain ⟨w3, hw3⟩ : ∃ y, y = w2.alloc (.cells #[.int .i64 2, .int .i64 10, .int .i64 1] 35) := ⟨_, rfl⟩
  have C3 : Hid (Chg (fun _ => False) w w3) := by rw [hw3]; exact C02.out.alloc _
  obtain ⟨g, hg⟩ : ∃ y, y = w2.heap.size := ⟨_, rfl⟩
  have B3 : Hid (Blk w3 g 35 [.int .i64 2, .int .i64 10, .int .i64 1]) := by rw [hw3, hg]; exact Blk.new w2 #[.int .i64 2, .int .i64 10, .int .i64 1] _
  rw [← hw3, ← hg]
  clear hw3 hg
  go_wp2_with fail
  refine vPlain.mono ?_
  rintro e w4 ⟨s4, rfl, R4, C4⟩
  go_wp2_with fail
  have C04 : Hid (Chg (fun _ => False) w w4) := C3.out.trans C4.out (fun _ _ h => h)
  refine (vHeightsPlain R4 (Lib.hid (hG.out.step C04.out))).mono ?_
  rintro e w5 ⟨A, c, rfl, C5, OW⟩
  have B5 : Hid (Blk w5 g 35 [.int .i64 2, .int .i64 10, .int .i64 1]) := (B3.out.chg C4.out (fun h => h)).chg C5.out (fun h => h)
  have q0 := B5.out.at_ (i := 0) rfl
  have q1 := B5.out.at_ (i := 1) rfl
  have q2 := B5.out.at_ (i := 2) rfl
  have OW6 : Hid (Own (w5.alloc (.cells #[.int .i64 0, .int .i64 1, .int .i64 2, .int .i64 1, .int .i64 1, .int .i64 2, .int .i64 1, .int .i64 0, .int .i64 1, .int .i64 0] 3)) 3 .i64 (.slice A 10 c) [0, 1, 2, 1, 1, 2, 1, 0, 1, 0]) := OwnV.chg OW.out (S := fun _ => False) ((Chg.refl _ w5).alloc _) (fun _ _ h => h)
  have OL6 : Hid (Own (w5.alloc (.cells #[.int .i64 0, .int .i64 1, .int .i64 2, .int .i64 1, .int .i64 1, .int .i64 2, .int .i64 1, .int .i64 0, .int .i64 1, .int .i64 0] 3)) 3 .i64 (.slice (some ⟨w5.heap.size, 0, none⟩) 10 10) [0, 1, 2, 1, 1, 2, 1, 0, 1, 0]) := Own.lit' w5 3 .i64 [0, 1, 2, 1, 1, 2, 1, 0, 1, 0] _ rfl (by simp [maxLen])
  go_wp2_with fail
  refine (vSameInts (b := true) OW6 OL6 rfl rfl (by decide) ⟨fun _ => rfl, fun _ => rfl⟩).mono ?_
  rintro e w6 ⟨rfl, C6⟩
  go_wp2_with fail
  go_ret
  exact ⟨rfl, (C04.out.trans C5.out (fun _ _ h => h)).alloc _ |>.trans C6.out (fun _ _ h => h)⟩
end Go.Proofs.YtkadamoofiddeaaDoor.Kit
-- VerifyProof in plain words: the proof's numbers are the fold over the heights.
set_option linter.unusedVariables false
set_option linter.unusedSimpArgs false
namespace Go.Proofs.YtkadamoofiddeaaDoor.Kit
open Go.RowKit Go.Maps
/-- what was worked out, instruction by instruction, with the heights -/
def foldN : FoundV → List InsV → List Int → FoundV
  | f, x :: xs, h :: hs => foldN (noteV f x h) xs hs
  | f, _, _ => f
def foldD : FoundV → List SegV → List (List Int) → FoundV
  | f, x :: xs, h :: hs => foldD (foldN f x.code h) xs hs
  | f, _, _ => f
theorem segGo_fold (day : Int) : ∀ (xs : List InsV) (k : Nat) (L : List (Option StV)) (f : FoundV) (hs : List Int), (segGo day xs k L f hs).er = 0 → ∃ hs', (segGo day xs k L f hs).hs = hs ++ hs' ∧ hs'.length = xs.length ∧ (segGo day xs k L f hs).f = foldN f xs hs'
  | [], k, L, f, hs, _ => ⟨[], by simp [segGo], rfl, rfl⟩
  | x :: xs, k, L, f, hs, h => by
    rcases hj : (L[k]?).join with _ | s
    · rw [segGo_none hj] at h
      exact absurd (show (146 : Int) = 0 from h) (by decide)
    · have hk : L[k]? = some (some s) := by
        rcases h2 : L[k]? with _ | y
        · rw [h2] at hj; cases hj
        · rw [h2] at hj; rw [show y = some s from hj]
      by_cases he : applyE x day s = 0
      · by_cases hh : (handV L (applyS x s) (toOf x k)).1 = 0
        · rw [segGo_ok hk he hh] at h ⊢
          obtain ⟨hs', e1, e2, e3⟩ := segGo_fold day xs _ _ _ _ h
          exact ⟨(s.stk.length : Int) :: hs', by rw [e1, List.append_assoc]; rfl, by rw [List.length_cons, e2, List.length_cons], e3⟩
        · rw [segGo_hand hk he hh] at h
          exact absurd h hh
      · rw [segGo_app hk he] at h
        exact absurd h he
theorem lookGo_fold : ∀ (xs : List SegV) (n : Nat) (f : FoundV) (H : List (List Int)), (lookGo xs n f H).er = 0 → ∃ H', (lookGo xs n f H).H = H ++ H' ∧ H'.length = xs.length ∧ (∀ (i : Nat) (x : SegV) (h : List Int), xs[i]? = some x → H'[i]? = some h → h.length = x.code.length) ∧ (lookGo xs n f H).f = foldD f xs H'
  | [], n, f, H, _ => ⟨[], by simp [lookGo], rfl, fun i x h hx => by simp at hx, rfl⟩
  | x :: xs, n, f, H, h => by
    by_cases he : (segOf x f).er = 0
    · rw [lookGo_ok he] at h ⊢
      obtain ⟨H', e1, e2, e3, e4⟩ := lookGo_fold xs _ _ _ h
      obtain ⟨hs', g1, g2, g3⟩ := segGo_fold x.day x.code 0 (segInit x.code.length) f [] he
      have g1' : (segOf x f).hs = hs' := by rw [segOf, g1]; rfl
      have g3' : (segOf x f).f = foldN f x.code hs' := g3
      refine ⟨hs' :: H', by rw [e1, g1', List.append_assoc]; rfl, by rw [List.length_cons, e2, List.length_cons], fun i y l hy hl => ?_, ?_⟩
      · rcases i with _ | i
        · simp at hy hl
          subst hy
          subst hl
          exact g2
        · exact e3 i y l (by simpa using hy) (by simpa using hl)
      · rw [e4, g3']
        rfl
    · rw [lookGo_er he] at h
      exact absurd h he
theorem vd_fold {p : ProgV} (h : (vdOf p).er = 0) : (vdOf p).H.length = p.days.length ∧ (∀ (i : Nat) (x : SegV) (l : List Int), p.days[i]? = some x → (vdOf p).H[i]? = some l → l.length = x.code.length) ∧ (vdOf p).f = foldD found0 p.days (vdOf p).H := by
  obtain ⟨_, _, _, hl, _⟩ := vdOf_0 h
  rw [← hl] at h ⊢
  obtain ⟨H', e1, e2, e3, e4⟩ := lookGo_fold p.days 0 found0 [] h
  have e1' : (lookOf p).H = H' := by rw [lookOf, e1]; rfl
  rw [e1']
  exact ⟨e2, e3, e4⟩
theorem vMost {w : World} {a b : Int} : Calls Tryd.prog 17 #[.int .i64 a, .int .i64 b] w fun e w' => e = .returned (.int .i64 (max a b)) ∧ w' = w := by
  by_cases h : b < a
  · have HM : Hid (a = max a b) := by rw [Hid]; omega
    go_enter Tryd.func17, Tryd.ntmps17
    go_wp2_with fail
    go_ret
    exact ⟨ret_i HM.out, rfl⟩
  · have HM : Hid (b = max a b) := by rw [Hid]; omega
    go_enter Tryd.func17, Tryd.ntmps17
    go_wp2_with fail
    go_ret
    exact ⟨ret_i HM.out, rfl⟩
/-- a program with other numbers -/
def withN (p : ProgV) (st sl ce : Int) : ProgV := ⟨p.names, p.curs, p.pool, p.horizon, ce, sl, st, p.days⟩
theorem withN_rd {w : World} {s : ProgS} {p : ProgV} (h : RdProg w s p) (st sl ce : Int) : RdProg w s (withN p st sl ce) := ⟨h.names, h.curs, h.pool, h.days, h.lenC, h.code⟩
theorem withN_ok {p : ProgV} (h : ProgOk p) {st sl ce : Int} (h1 : InI st) (h2 : InI sl) (h3 : InI ce) : ProgOk (withN p st sl ce) := ⟨⟨h.small.names, h.small.curs, h.small.pool, h.small.days, h.small.code⟩, h.names, h.curs, h.pool, h.horizon, h3, h2, h1, h.days⟩
theorem withN_vd {p : ProgV} {st sl ce : Int} (h : (vdOf p).er = 0) (hc : CanonP (withN p st sl ce)) : (st = p.stack ∧ sl = p.slots ∧ ce = p.cells ∧ (vdOf (withN p st sl ce)).er = 0) ∨ (¬ (st = p.stack ∧ sl = p.slots ∧ ce = p.cells) ∧ (vdOf (withN p st sl ce)).er = 147 ∧ (vdOf (withN p st sl ce)).seg = p.days.length ∧ (vdOf (withN p st sl ce)).at_ = 0) := by
  obtain ⟨_, _, _, hl, hn⟩ := vdOf_0 h
  have hl2 : lookOf (withN p st sl ce) = vdOf p := hl
  have he : (lookOf (withN p st sl ce)).er = 0 := by rw [hl2]; exact h
  rw [vdOf_c hc]
  obtain ⟨n1, n2, n3⟩ := hn
  by_cases hq : st = p.stack ∧ sl = p.slots ∧ ce = p.cells
  · refine .inl ⟨hq.1, hq.2.1, hq.2.2, ?_⟩
    rw [verC_ok he (by rw [hl2]; exact ⟨hq.1.trans n1, hq.2.1.trans n2, hq.2.2.trans n3⟩)]
    exact he
  · refine .inr ⟨hq, ?_⟩
    rw [verC_no he (by rw [hl2]; rintro ⟨x1, x2, x3⟩; exact hq ⟨x1.trans n1.symm, x2.trans n2.symm, x3.trans n3.symm⟩)]
    exact ⟨rfl, rfl, rfl⟩
end Go.Proofs.YtkadamoofiddeaaDoor.Kit
-- The walk of VerifyProof.
set_option linter.unusedVariables false
set_option linter.unusedSimpArgs false
namespace Go.Proofs.YtkadamoofiddeaaDoor.Kit
open Go.RowKit Go.Maps
set_option maxRecDepth 100000 in
set_option maxHeartbeats 6400000 in
theorem verifyProofW {s : ProgS} {p : ProgV} {w : World} {a1 a2 a3 : Int} (hp : Hid (RdProg w s p)) (ok : Hid (ProgOk p)) (hG : Hid (Glob w w.heap.size)) (ha : Hid (InI a1 ∧ InI a2 ∧ InI a3)) :
    Calls Tryd.prog 5 #[progVal s p, .int .i64 a1, .int .i64 a2, .int .i64 a3] w fun e w' => e = .returned (.bool true) ∧ Hid (Chg (fun _ => False) w w') := by
  obtain ⟨n1, n2, n3, n4, A1, A2, A3, A4, c1, c2, c3, c4, HP0⟩ := hp.out.apart
  obtain ⟨i1, hi1⟩ : ∃ x, x = p.horizon := ⟨_, rfl⟩
  obtain ⟨i2, hi2⟩ : ∃ x, x = p.cells := ⟨_, rfl⟩
  obtain ⟨i3, hi3⟩ : ∃ x, x = p.slots := ⟨_, rfl⟩
  obtain ⟨i4, hi4⟩ : ∃ x, x = p.stack := ⟨_, rfl⟩
  have EQ2 : Hid (progVal s p = .agg #[.slice A1 n1 c1, .slice A2 n2 c2, .slice A3 n3 c3, .int .i64 i1, .int .i64 i2, .int .i64 i3, .int .i64 i4, .slice A4 n4 c4]) := by rw [Hid, HP0.eq, hi1, hi2, hi3, hi4]
  have EQ3 : Hid (progVal s (withN p a1 a2 a3) = .agg #[.slice A1 n1 c1, .slice A2 n2 c2, .slice A3 n3 c3, .int .i64 i1, .int .i64 a3, .int .i64 a2, .int .i64 a1, .slice A4 n4 c4]) := by
    have e := HP0.eq
    simp only [progVal, Value.agg.injEq, Array.mk.injEq, List.cons.injEq] at e
    obtain ⟨e1, e2, e3, _, _, _, _, e8, _⟩ := e
    simp only [progVal, withN, e1, e2, e3, e8, hi1, Hid]
  rw [EQ2.out]
  have LD := Lib.hid HP0.ld
  have S4 : n4 * 32 ≤ 140737488351232 := by have := HP0.ld; have := ok.out.small.days; omega
  have HI2 := Lib.hid hi2
  have HI3 := Lib.hid hi3
  have HI4 := Lib.hid hi4
  have HP := Lib.hid HP0
  clear hi1 hi2 hi3 hi4 HP0
  obtain ⟨w0, hw0⟩ : ∃ x, x = w.alloc (.cells #[.slice A1 n1 c1, .slice A2 n2 c2, .slice A3 n3 c3, .int .i64 i1, .int .i64 i2, .int .i64 i3, .int .i64 i4, .slice A4 n4 c4] 26) := ⟨_, rfl⟩
  obtain ⟨g1, hg1⟩ : ∃ x, x = w.heap.size := ⟨_, rfl⟩
  have C0 : Hid (Chg (fun _ => False) w w0) := by rw [hw0]; exact (Chg.refl _ w).alloc _
  have B1 : Hid (Blk w0 g1 26 [.slice A1 n1 c1, .slice A2 n2 c2, .slice A3 n3 c3, .int .i64 i1, .int .i64 i2, .int .i64 i3, .int .i64 i4, .slice A4 n4 c4]) := by rw [hw0, hg1]; exact Blk.new _ _ _
  have HG1 := Lib.hid hg1
  have PA : Hid (∀ W, Chg (fun _ => False) w0 W → ∀ (i : Nat) (v : Value), [Value.slice A1 n1 c1, .slice A2 n2 c2, .slice A3 n3 c3, .int .i64 i1, .int .i64 i2, .int .i64 i3, .int .i64 i4, .slice A4 n4 c4][i]? = some v → W.cell? ⟨g1, i, none⟩ = some v) := fun W cW i v h => (B1.out.chg cW (fun h => h)).at_ h
  go_enter Tryd.func5, Tryd.ntmps5
  go_upto_region 1 with fail
  rw [← hw0, ← hg1]
  clear hw0 hg1
  go_wp2_with fail
  refine (vLives (Lib.hid (hG.out.step C0.out))).mono ?_
  rintro e w1 ⟨rfl, C1⟩
  have f0 := PA.out w1 C1.out 0 _ rfl
  have f1 := PA.out w1 C1.out 1 _ rfl
  have f2 := PA.out w1 C1.out 2 _ rfl
  have f3 := PA.out w1 C1.out 3 _ rfl
  have f4 := PA.out w1 C1.out 4 _ rfl
  have f5 := PA.out w1 C1.out 5 _ rfl
  have f6 := PA.out w1 C1.out 6 _ rfl
  have f7 := PA.out w1 C1.out 7 _ rfl
  have C01 : Hid (Chg (fun _ => False) w w1) := C0.out.trans C1.out (fun _ _ h => h)
  go_wp2_with fail
  refine (show Calls Tryd.prog 14 #[.agg #[.slice A1 n1 c1, .slice A2 n2 c2, .slice A3 n3 c3, .int .i64 i1, .int .i64 i2, .int .i64 i3, .int .i64 i4, .slice A4 n4 c4]] _ _ from by rw [← EQ2.out]; exact vVerify (Lib.hid (hp.out.chg0 C01.out)) ok (Lib.hid (hG.out.step C01.out))).mono ?_
  rintro e w2 ⟨rfl, C2⟩
  have C02 : Hid (Chg (fun _ => False) w0 w2) := C1.out.trans C2.out (fun _ _ h => h)
  clear f0 f1 f2 f3 f4 f5 f6 f7
  obtain ⟨F, hF⟩ : ∃ z, z = prfOf p := ⟨_, rfl⟩
  obtain ⟨sg0, hsg0⟩ : ∃ z, z = (vdOf p).seg := ⟨_, rfl⟩
  obtain ⟨at0, hat0⟩ : ∃ z, z = (vdOf p).at_ := ⟨_, rfl⟩
  obtain ⟨er, her⟩ : ∃ z, z = (vdOf p).er := ⟨_, rfl⟩
  rw [← hF, ← hsg0, ← hat0, ← her]
  have HF := Lib.hid hF
  have HER := Lib.hid her
  clear hF hsg0 hat0 her
  obtain ⟨st, fu, ba, sl, cl⟩ := F
  simp only
  by_cases he : er = 0
  · subst he
    have HE0 : Hid ((vdOf p).er = 0) := HER.out.symm
    have HFF : Hid ((vdOf p).f = ⟨st, fu, ba, sl, cl⟩) := by
      rw [HF.out, prfOf, if_pos HE0.out]
      rfl
    obtain ⟨hLen, hRow, hFold⟩ := vd_fold HE0.out
    obtain ⟨Hs, hHs⟩ : ∃ z, z = (vdOf p).H := ⟨_, rfl⟩
    have HHS := Lib.hid hHs
    rw [← hHs] at hLen hRow hFold
    have HLEN := Lib.hid hLen
    have HROW := Lib.hid hRow
    have HFOLD : Hid (foldD found0 p.days Hs = ⟨st, fu, ba, sl, cl⟩) := by rw [Hid, ← hFold]; exact HFF.out
    clear hLen hRow hFold hHs
    go_upto_region 8 with fail
    obtain ⟨w3, hw3⟩ : ∃ y, y = (w2.alloc (.cells #[.int .i64 st, .int .i64 fu, .int .i64 ba] 35)).alloc (.cells #[.int .i64 0, .int .i64 0, .int .i64 0] 35) := ⟨_, rfl⟩
    obtain ⟨gp, hgp⟩ : ∃ y, y = w2.heap.size := ⟨_, rfl⟩
    have C3 : Hid (Chg (fun _ => False) w0 w3) := by rw [hw3]; exact (C02.out.alloc _).alloc _
    have BP : Hid (Blk w3 gp 35 [.int .i64 st, .int .i64 fu, .int .i64 ba]) := by rw [hw3, hgp]; exact (Blk.new w2 #[.int .i64 st, .int .i64 fu, .int .i64 ba] _).alloc _
    have BX : Hid (Blk w3 (gp + 1) 35 [.int .i64 0, .int .i64 0, .int .i64 0]) := by rw [hw3, hgp]; exact Blk.newAt _ #[.int .i64 0, .int .i64 0, .int .i64 0] _ (by simp)
    have GP : Hid (w0.heap.size ≤ gp) := by rw [hgp]; exact C02.out.size
    rw [← hw3, ← hgp]
    clear hw3 hgp
    have D0 : Hid (∀ W, Chg (fun _ => False) w W → RdDays W A4 p.days s.codes) := fun W cW => (HP.out.chg0 cW).rd
    have CLE := Lib.hid (codeLen_all (vdOf_0 HE0.out).2.2.1)
    go_wp2_with fail
    go_loopw [15] (fun v wr => ∃ (d : Nat) (gf : FoundV), v = .int .i64 (d : Int) ∧ d ≤ n4 ∧ Hid (foldD gf (p.days.drop d) (Hs.drop d) = ⟨st, fu, ba, sl, cl⟩) ∧ Hid (Blk wr (gp + 1) 35 [.int .i64 gf.stack, .int .i64 gf.fuel, .int .i64 gf.back]) ∧ Hid (Blk wr gp 35 [.int .i64 st, .int .i64 fu, .int .i64 ba]) ∧ Hid (0 ≤ gf.fuel ∧ gf.fuel ≤ codeLen p d) ∧ Hid (Chg (fun _ => False) w0 wr)) (fun v _ => n4 - (intOf v).toNat)
    case atStart => exact ⟨0, found0, rfl, Nat.zero_le _, HFOLD, BX, BP, ⟨by decide, Int.natCast_nonneg _⟩, C3⟩
    case round =>
      obtain ⟨d, gf, rfl, hd, FD, BXr, BPr, FU, HC⟩ := hrel
      have CW : Hid (Chg (fun _ => False) w wr) := C0.out.trans HC.out (fun _ _ h => h)
      have f7 := PA.out wr HC.out 7 _ rfl
      by_cases hdn : d < n4
      · have h1 : d < p.days.length := by have := LD.out; omega
        obtain ⟨ad, B, nn, cc, e0, _, f2a, l1, l2, l3, l4⟩ := (D0.out w (Chg.refl _ _)).at_ h1
        subst e0
        obtain ⟨l, hl⟩ : ∃ l, Hs[d]? = some l := ⟨_, List.getElem?_eq_getElem (by rw [HLEN.out]; exact h1)⟩
        have hll : l.length = nn := by rw [l1]; exact HROW.out d _ l (List.getElem?_eq_getElem h1) hl
        have hdl : p.days.drop d = p.days[d] :: p.days.drop (d + 1) := List.drop_eq_getElem_cons h1
        have hhl : Hs.drop d = l :: Hs.drop (d + 1) := by
          obtain ⟨g1', g2'⟩ := List.getElem?_eq_some_iff.1 hl
          rw [List.drop_eq_getElem_cons g1', g2']
        have FD2 : Hid (foldD (foldN gf p.days[d].code l) (p.days.drop (d + 1)) (Hs.drop (d + 1)) = ⟨st, fu, ba, sl, cl⟩) := by
          have := FD.out
          rw [hdl, hhl] at this
          exact this
        have HCL : Hid (codeLen p (d + 1) = codeLen p d + nn) := by rw [Hid, codeLen_succ h1, l1]
        have HCM : Hid (codeLen p (d + 1) ≤ 262144) := CLE.out (d + 1) h1
        have DS : Hid (∀ W, Chg (fun _ => False) w W → W.cell? ⟨(ad.add (d * 2)).block, (ad.add (d * 2)).off + 1, none⟩ = some (.slice B nn cc)) := fun W cW => cW.cell (p := ⟨(ad.add (d * 2)).block, (ad.add (d * 2)).off + 1, none⟩) (fun h => h) f2a
        have VAL : Hid (∀ (i : Nat) (x : InsV), p.days[d].code[i]? = some x → (0 ≤ x.op ∧ x.op < 29) ∧ (0 ≤ x.a ∧ x.a ≤ 262143) ∧ 0 ≤ x.b ∧ x.b ≤ 3660) := fun i x hx => by
          obtain ⟨k1, k2⟩ := List.getElem?_eq_some_iff.1 hx
          have := ((vdOf_0 HE0.out).2.2.1.ins h1 k1).valid.nums
          rw [k2] at this
          exact this
        obtain ⟨cx, hcx⟩ : ∃ z, z = p.days[d].code := ⟨_, rfl⟩
        rw [← hcx] at l1 l4 FD2 VAL
        have L1 := Lib.hid l1
        have L4 := Lib.hid l4
        have HL := Lib.hid hl
        have HLL := Lib.hid hll
        have hnn : nn ≤ 262144 := by have := HCL.out; have := HCM.out; omega
        have HG0 : Hid ((0 : Int) = hgtE p (d : Int)) := by
          rw [Hid, hgtE, if_neg (fun h => h HE0.out), if_neg]
          rw [← HHS.out, HLEN.out]
          rintro (e | e)
          · omega
          · omega
        have b1 : (0 : Int) ≤ (d : Int) := by omega
        have b2 : (d : Int) < (n4 : Int) := by omega
        have f0 := PA.out wr HC.out 0 _ rfl
        have f1 := PA.out wr HC.out 1 _ rfl
        have f2 := PA.out wr HC.out 2 _ rfl
        have f3 := PA.out wr HC.out 3 _ rfl
        have f4 := PA.out wr HC.out 4 _ rfl
        have f5 := PA.out wr HC.out 5 _ rfl
        have f6 := PA.out wr HC.out 6 _ rfl
        clear hdl hhl hl hll l1 l4 f2a hcx
        go_wp2_with fail
        refine (show Calls Tryd.prog 15 #[.agg #[.slice A1 n1 c1, .slice A2 n2 c2, .slice A3 n3 c3, .int .i64 i1, .int .i64 i2, .int .i64 i3, .int .i64 i4, .slice (some ad) n4 c4], .int .i64 (d : Int)] _ _ from by rw [← EQ2.out]; exact vHeights (Lib.hid (hp.out.chg0 CW.out)) ok (Lib.hid (hG.out.step CW.out)) HG0).mono ?_
        rintro e w5 ⟨A9, n9, c9, rfl, C5, RH⟩
        have C05 : Hid (Chg (fun _ => False) w0 w5) := HC.out.trans C5.out (fun _ _ h => h)
        obtain ⟨l', hl', _, ho⟩ := RH.out rfl
        obtain rfl : l = l' := by
          rw [← HHS.out] at hl'
          have e1 := HL.out
          rw [Int.toNat_natCast] at hl'
          rw [e1] at hl'
          injection hl'
        obtain rfl : n9 = nn := by
          obtain ⟨_, _, e, _, _⟩ := OwnV.slice ho
          injection e with _ e _
          rw [e]
          exact HLL.out
        have OH := Lib.hid ho
        clear f0 f1 f2 f3 f4 f5 f6 f7 ho hl' RH
        have f7 := PA.out w5 C05.out 7 _ rfl
        have ds := DS.out w5 (CW.out.trans C5.out (fun _ _ h => h))
        go_wp2_with fail
        go_loopw [18] (fun v wr => ∃ (k : Nat) (gk : FoundV), v = .int .i64 (k : Int) ∧ k ≤ n9 ∧ Hid (foldD (foldN gk (cx.drop k) (l.drop k)) (p.days.drop (d + 1)) (Hs.drop (d + 1)) = ⟨st, fu, ba, sl, cl⟩) ∧ Hid (Blk wr (gp + 1) 35 [.int .i64 gk.stack, .int .i64 gk.fuel, .int .i64 gk.back]) ∧ Hid (Blk wr gp 35 [.int .i64 st, .int .i64 fu, .int .i64 ba]) ∧ Hid (0 ≤ gk.fuel ∧ gk.fuel ≤ codeLen p d + k) ∧ Hid (Own wr 3 .i64 (.slice A9 n9 c9) l) ∧ Hid (Chg (fun _ => False) w0 wr)) (fun v _ => n9 - (intOf v).toNat)
        case atStart => exact ⟨0, gf, rfl, Nat.zero_le _, FD2, BXr.out.chg C5.out (fun h => h), BPr.out.chg C5.out (fun h => h), FU, OH, C05⟩
        case round =>
          obtain ⟨k, gk, rfl, hk, FK, BXk, BPk, FUk, OK, HCk⟩ := hrel
          have CWk : Hid (Chg (fun _ => False) w wr) := C0.out.trans HCk.out (fun _ _ h => h)
          by_cases hkn : k < n9
          · have hk1 : k < cx.length := by rw [← L1.out]; exact hkn
            obtain ⟨x, hx⟩ : ∃ x, cx[k]? = some x := ⟨_, List.getElem?_eq_getElem hk1⟩
            obtain ⟨gs, hv, e1, hlv, hcv⟩ := own_elemI OK.out HLL.out hkn
            subst e1
            have FK2 : Hid (foldD (foldN (noteV gk x hv) (cx.drop (k + 1)) (l.drop (k + 1))) (p.days.drop (d + 1)) (Hs.drop (d + 1)) = ⟨st, fu, ba, sl, cl⟩) := by
              have := FK.out
              obtain ⟨g1', g2'⟩ := List.getElem?_eq_some_iff.1 hx
              obtain ⟨g3', g4'⟩ := List.getElem?_eq_some_iff.1 hlv
              rw [List.drop_eq_getElem_cons g1', List.drop_eq_getElem_cons g3', g2', g4'] at this
              exact this
            have VX := Lib.hid (VAL.out k x hx)
            obtain ⟨g1', hxe⟩ := List.getElem?_eq_some_iff.1 hx
            obtain ⟨j0, j1, j2⟩ := insCells_get cx k hk1
            rw [hxe] at j0 j1 j2
            obtain ⟨y1, z1, hc1⟩ := L4.out _ _ j0
            obtain ⟨y3, z3, hc3⟩ := L4.out _ _ j2
            subst z1
            cases z3
            rw [← add2] at hc3
            obtain ⟨op, a, b⟩ := x
            simp only at hc1 hc3
            have IC : Hid (∀ W, Chg (fun _ => False) w W → W.cell? (y1.add (k * 3)) = some (.int .i64 op) ∧ W.cell? ⟨(y1.add (k * 3)).block, (y1.add (k * 3)).off + 2, none⟩ = some (.int .i64 b)) := fun W cW => ⟨cW.cell (fun h => h) hc1, cW.cell (p := ⟨(y1.add (k * 3)).block, (y1.add (k * 3)).off + 2, none⟩) (fun h => h) hc3⟩
            have i1' : (0 : Int) ≤ (k : Int) := by omega
            have i2' : (k : Int) < (n9 : Int) := by omega
            have WF : Hid (wrap64 (gk.fuel + 1) = gk.fuel + 1) := by
              have e1 := FUk.out
              have e2 := HCL.out
              have e3 := HCM.out
              rw [Hid, IntWalk.wrap64_in _ (by omega)]
            obtain ⟨gst, gfu, gba, gsl, gcl⟩ := gk
            have b0 := BXk.out.at_ (i := 0) rfl
            have z0 := BXk.out.frozen (i := 0) (by simp)
            have OB : Hid (∃ cur, Blk wr gs 3 cur) := OwnV.typed OK.out gs rfl
            have NS : Hid (gs ≠ gp + 1) := by obtain ⟨cur, hb⟩ := OB.out; exact fun e => hb.type_ne BXk.out (by decide) e
            have KS : Hid (∀ W, Chg (fun y => y = gp + 1) wr W → W.cell? ⟨gs, k, none⟩ = some (.int .i64 hv)) := fun W cW => cW.cell (p := ⟨gs, k, none⟩) NS.out hcv
            have b0d : wr.drew.cell? ⟨gp + 1, 0, none⟩ = some (.int .i64 gst) := b0
            have z0d : wr.drew.frozen? ⟨gp + 1, 0, none⟩ = false := z0
            have HCV := Lib.hid hcv
            clear hc1 hc3 j0 j1 j2 g1' hxe hx hlv
            go_upto_region 17 with fail
            go_cut [] from 70 to 77 (fun wx => Hid (Blk wx (gp + 1) 35 [.int .i64 (max gst hv), .int .i64 gfu, .int .i64 gba]) ∧ Hid (Chg (fun y => y = gp + 1) wr wx))
            case first =>
              go_region_with (first | (go_at_call 17; refine vMost.mono ?_; rintro e w6 ⟨rfl, rfl⟩) | fail)
              all_goals
                go_wp2_with fail
                go_meet
                case rel => exact ⟨(BXk.out.set 0 _).drew, ((Chg.refl (fun y => y = gp + 1) wr).setg 0 _).drew⟩
            case rest =>
              obtain ⟨BX6, C6⟩ := hcut
              have b1' := BX6.out.at_ (i := 1) rfl
              have z1' := BX6.out.frozen (i := 1) (by simp)
              clear b0 z0 b0d z0d hcv
              go_upto_region 19 with fail
              rw [WF.out]
              obtain ⟨w7, hw7⟩ : ∃ y, y = wc.setCell ⟨gp + 1, 1, none⟩ (.int .i64 (gfu + 1)) := ⟨_, rfl⟩
              have C7 : Hid (Chg (fun y => y = gp + 1) wr w7) := by rw [hw7]; exact C6.out.setg 1 _
              have BX7 : Hid (Blk w7 (gp + 1) 35 [.int .i64 (max gst hv), .int .i64 (gfu + 1), .int .i64 gba]) := by rw [hw7]; exact BX6.out.set 1 _
              rw [← hw7]
              clear hw7 b1' z1'
              have CK7 : Hid (Chg (fun _ => False) w0 w7) := HCk.out.trans C7.out (fun i hi e => by have := GP.out; omega)
              have CW7 : Hid (Chg (fun _ => False) w w7) := C0.out.trans CK7.out (fun _ _ h => h)
              have BP7 : Hid (Blk w7 gp 35 [.int .i64 st, .int .i64 fu, .int .i64 ba]) := BPk.out.chg C7.out (fun e => by omega)
              have OK7 : Hid (Own w7 3 .i64 (.slice (some ⟨gs, 0, none⟩) n9 c9) l) := OwnV.chg OK.out C7.out (fun y hy e => by
                obtain ⟨cur, hb⟩ := OwnV.typed OK.out y hy
                exact hb.type_ne BXk.out (by decide) e)
              have f7' := PA.out w7 CK7.out 7 _ rfl
              have ds' := DS.out w7 CW7.out
              have ic := (IC.out w7 CW7.out).1
              have ib := (IC.out w7 CW7.out).2
              by_cases h3 : op = 3
              · subst h3
                have b2' := BX7.out.at_ (i := 2) rfl
                have z2' := BX7.out.frozen (i := 2) (by simp)
                go_upto_region 20 with fail
                go_region_with (first | (go_at_call 17; refine vMost.mono ?_; rintro e w8 ⟨rfl, rfl⟩) | fail)
                all_goals
                  go_wp2_with fail
                  go_roundw
                  case rel =>
                    have CS8 : Chg (fun y => y = gp + 1) w7 (w7.setCell ⟨gp + 1, 2, none⟩ (.int .i64 (max gba b))).drew := ((Chg.refl (fun y => y = gp + 1) w7).setg 2 _).drew
                    have HB8 : (noteV ⟨gst, gfu, gba, gsl, gcl⟩ ⟨3, a, b⟩ hv).back = max gba b := by show (if (3 : Int) = 3 then max gba b else gba) = max gba b; exact if_pos rfl
                    refine ⟨k + 1, _, by congr 1, by omega, FK2, ?_, BP7.out.chg CS8 (fun e => by omega), ?_, OwnV.chg OK7.out CS8 (fun y hy e => by
                      obtain ⟨cur, hb⟩ := OwnV.typed OK7.out y hy
                      exact hb.type_ne BX7.out (by decide) e), CK7.out.trans CS8 (fun i hi e => by have := GP.out; omega)⟩
                    · rw [Hid, HB8]; exact (BX7.out.set 2 _).drew
                    · have e1 := FUk.out
                      show 0 ≤ gfu + 1 ∧ gfu + 1 ≤ ((codeLen p d : Nat) : Int) + ((k + 1 : Nat) : Int)
                      try simp only at e1
                      omega
                  case measure => exact meas_lt hkn
              · have hb3 : (op == 3) = false := by simpa using h3
                have HN : Hid ((noteV ⟨gst, gfu, gba, gsl, gcl⟩ ⟨op, a, b⟩ hv).back = gba) := if_neg h3
                clear h3
                go_wp2_with fail
                go_roundw
                case rel =>
                  refine ⟨k + 1, _, by congr 1, by omega, FK2, ?_, BP7, ?_, OK7, CK7⟩
                  · rw [Hid, HN.out]; exact BX7.out
                  · have e1 := FUk.out
                    show 0 ≤ gfu + 1 ∧ gfu + 1 ≤ ((codeLen p d : Nat) : Int) + ((k + 1 : Nat) : Int)
                    try simp only at e1
                    omega
                case measure => exact meas_lt hkn
          · obtain rfl : k = n9 := by omega
            have FD3 : Hid (foldD gk (p.days.drop (d + 1)) (Hs.drop (d + 1)) = ⟨st, fu, ba, sl, cl⟩) := by
              have := FK.out
              rw [show cx.drop k = [] from List.drop_eq_nil_of_le (by rw [← L1.out]; exact Nat.le_refl _)] at this
              exact this
            have i1' : ¬ ((k : Int) < (k : Int)) := by omega
            go_wp2_with fail
            go_roundw
            case rel =>
              refine ⟨d + 1, gk, by congr 1, by omega, FD3, BXk, BPk, ?_, HCk⟩
              rw [Hid, HCL.out]
              have e1 := FUk.out
              exact ⟨e1.1, by have := e1.2; omega⟩
            case measure => exact meas_lt hdn
      · obtain rfl : d = n4 := by omega
        have HGF : Hid (gf = ⟨st, fu, ba, sl, cl⟩) := by
          rw [Hid, ← FD.out, show p.days.drop d = [] from List.drop_eq_nil_of_le (by rw [← LD.out]; exact Nat.le_refl _)]
          rfl
        have i1' : ¬ ((d : Int) < (d : Int)) := by omega
        rw [HGF.out] at BXr
        have HNU : NumsP p ⟨st, fu, ba, sl, cl⟩ := by rw [← HFF.out]; exact (vdOf_0 HE0.out).2.2.2.2
        obtain rfl : i4 = st := HI4.out.trans HNU.1
        have f0 := PA.out wr HC.out 0 _ rfl
        have f1 := PA.out wr HC.out 1 _ rfl
        have f2 := PA.out wr HC.out 2 _ rfl
        have f3 := PA.out wr HC.out 3 _ rfl
        have f4 := PA.out wr HC.out 4 _ rfl
        have f5 := PA.out wr HC.out 5 _ rfl
        have f6 := PA.out wr HC.out 6 _ rfl
        have x0 := BXr.out.at_ (i := 0) rfl
        have x1 := BXr.out.at_ (i := 1) rfl
        have x2 := BXr.out.at_ (i := 2) rfl
        have p0 := BPr.out.at_ (i := 0) rfl
        have p1 := BPr.out.at_ (i := 1) rfl
        have p2 := BPr.out.at_ (i := 2) rfl
        clear HNU
        go_upto_region 27 with fail
        obtain ⟨w9, hw9⟩ : ∃ y, y = wr.alloc (.cells #[.slice A1 n1 c1, .slice A2 n2 c2, .slice A3 n3 c3, .int .i64 i1, .int .i64 a3, .int .i64 a2, .int .i64 a1, .slice A4 d c4] 26) := ⟨_, rfl⟩
        obtain ⟨gq, hgq⟩ : ∃ y, y = wr.heap.size := ⟨_, rfl⟩
        have C9 : Hid (Chg (fun _ => False) w0 w9) := by rw [hw9]; exact HC.out.alloc _
        have BQ : Hid (Blk w9 gq 26 [.slice A1 n1 c1, .slice A2 n2 c2, .slice A3 n3 c3, .int .i64 i1, .int .i64 a3, .int .i64 a2, .int .i64 a1, .slice A4 d c4]) := by rw [hw9, hgq]; exact Blk.new _ _ _
        rw [← hw9, ← hgq]
        clear hw9 hgq f0 f1 f2 f3 f4 f5 f6 f7 x0 x1 x2 p0 p1 p2
        have CW9 : Hid (Chg (fun _ => False) w w9) := C0.out.trans C9.out (fun _ _ h => h)
        have RQ : Hid (RdProg w9 s (withN p a1 a2 a3)) := withN_rd (hp.out.chg0 CW9.out) a1 a2 a3
        have OQ : Hid (ProgOk (withN p a1 a2 a3)) := withN_ok ok.out ha.out.1 ha.out.2.1 ha.out.2.2
        have G9 : Hid (Glob w9 w9.heap.size) := hG.out.step CW9.out
        obtain ⟨ce, hce, hce2⟩ := canon_er (withN p a1 a2 a3)
        have HCE := Lib.hid hce
        have HCE2 := Lib.hid hce2
        clear hce hce2
        have f0 := BQ.out.at_ (i := 0) rfl
        have f1 := BQ.out.at_ (i := 1) rfl
        have f2 := BQ.out.at_ (i := 2) rfl
        have f3 := BQ.out.at_ (i := 3) rfl
        have f4 := BQ.out.at_ (i := 4) rfl
        have f5 := BQ.out.at_ (i := 5) rfl
        have f6 := BQ.out.at_ (i := 6) rfl
        have f7 := BQ.out.at_ (i := 7) rfl
        go_wp2_with fail
        refine (show Calls Tryd.prog 10 #[.agg #[.slice A1 n1 c1, .slice A2 n2 c2, .slice A3 n3 c3, .int .i64 i1, .int .i64 a3, .int .i64 a2, .int .i64 a1, .slice A4 d c4]] _ _ from by rw [← EQ3.out]; exact imageCanon RQ OQ (Lib.hid G9.out.k) HCE).mono ?_
        rintro e w10 ⟨rfl, C10⟩
        have C010 : Hid (Chg (fun _ => False) w0 w10) := C9.out.trans C10 (fun _ _ h => h)
        have CW10 : Hid (Chg (fun _ => False) w w10) := C0.out.trans C010.out (fun _ _ h => h)
        have BQ10 : Hid (Blk w10 gq 26 [.slice A1 n1 c1, .slice A2 n2 c2, .slice A3 n3 c3, .int .i64 i1, .int .i64 a3, .int .i64 a2, .int .i64 a1, .slice A4 d c4]) := BQ.out.chg C10 (fun h => h)
        have RQ10 : Hid (RdProg w10 s (withN p a1 a2 a3)) := RQ.out.chg0 C10
        clear f0 f1 f2 f3 f4 f5 f6 f7 C10
        by_cases hc0 : ce = 0
        · subst hc0
          have HCN : Hid (CanonP (withN p a1 a2 a3)) := HCE2.out.1 rfl
          have f0 := BQ10.out.at_ (i := 0) rfl
          have f1 := BQ10.out.at_ (i := 1) rfl
          have f2 := BQ10.out.at_ (i := 2) rfl
          have f3 := BQ10.out.at_ (i := 3) rfl
          have f4 := BQ10.out.at_ (i := 4) rfl
          have f5 := BQ10.out.at_ (i := 5) rfl
          have f6 := BQ10.out.at_ (i := 6) rfl
          have f7 := BQ10.out.at_ (i := 7) rfl
          go_wp2_with fail
          refine (show Calls Tryd.prog 14 #[.agg #[.slice A1 n1 c1, .slice A2 n2 c2, .slice A3 n3 c3, .int .i64 i1, .int .i64 a3, .int .i64 a2, .int .i64 a1, .slice A4 d c4]] _ _ from by rw [← EQ3.out]; exact vVerify RQ10 OQ (Lib.hid (hG.out.step CW10.out))).mono ?_
          rintro e w11 ⟨rfl, C11⟩
          have C011 : Hid (Chg (fun _ => False) w0 w11) := C010.out.trans C11.out (fun _ _ h => h)
          have BQ11 : Hid (Blk w11 gq 26 [.slice A1 n1 c1, .slice A2 n2 c2, .slice A3 n3 c3, .int .i64 i1, .int .i64 a3, .int .i64 a2, .int .i64 a1, .slice A4 d c4]) := BQ10.out.chg C11.out (fun h => h)
          clear f0 f1 f2 f3 f4 f5 f6 f7
          have HV := Lib.hid (withN_vd HE0.out HCN.out)
          obtain ⟨F2, hF2⟩ : ∃ z, z = prfOf (withN p a1 a2 a3) := ⟨_, rfl⟩
          obtain ⟨R2, hR2⟩ : ∃ z, z = vdOf (withN p a1 a2 a3) := ⟨_, rfl⟩
          rw [← hF2, ← hR2]
          rw [← hR2, ← HI4.out, ← HI3.out, ← HI2.out, ← LD.out] at HV
          clear hF2 hR2
          obtain ⟨q1, q2, q3, q4, q5⟩ := F2
          obtain ⟨er2, sg2, at2, ff2, H2⟩ := R2
          simp only at HV ⊢
          have CF : Hid (Chg (fun _ => False) w (w11.alloc (.cells #[.int .i64 q1, .int .i64 q2, .int .i64 q3] 35))) := (C0.out.trans C011.out (fun _ _ h => h)).alloc _
          have BQ12 := BQ11.out.alloc (.cells #[.int .i64 q1, .int .i64 q2, .int .i64 q3] 35)
          have y4 := BQ12.at_ (i := 4) rfl
          have y5 := BQ12.at_ (i := 5) rfl
          have y6 := BQ12.at_ (i := 6) rfl
          have u4 := PA.out _ (C011.out.alloc (.cells #[.int .i64 q1, .int .i64 q2, .int .i64 q3] 35)) 4 _ rfl
          have u5 := PA.out _ (C011.out.alloc (.cells #[.int .i64 q1, .int .i64 q2, .int .i64 q3] 35)) 5 _ rfl
          have u6 := PA.out _ (C011.out.alloc (.cells #[.int .i64 q1, .int .i64 q2, .int .i64 q3] 35)) 6 _ rfl
          have u7 := PA.out _ (C011.out.alloc (.cells #[.int .i64 q1, .int .i64 q2, .int .i64 q3] 35)) 7 _ rfl
          clear BQ12
          rcases HV.out with ⟨r1, r2, r3, r4⟩ | ⟨r1, r2, r3, r4⟩
          · subst r1 r2 r3 r4
            go_wp2_with fail
            go_ret
            exact ⟨rfl, CF.out⟩
          · subst r2 r3 r4
            by_cases t1 : a1 = i4
            · subst t1
              by_cases t2 : a2 = i3
              · subst t2
                have t3 : (a3 == i2) = false := by simpa using fun e => r1 ⟨rfl, rfl, e⟩
                clear r1 HV
                go_wp2_with fail
                go_ret
                exact ⟨rfl, CF.out⟩
              · have t3 : (a2 == i3) = false := by simpa using t2
                clear r1 t2 HV
                go_wp2_with fail
                go_ret
                exact ⟨rfl, CF.out⟩
            · have t3 : (a1 == i4) = false := by simpa using t1
              clear r1 t1 HV
              go_wp2_with fail
              go_ret
              exact ⟨rfl, CF.out⟩
        · have hz : (ce == 0) = false := by simpa using hc0
          clear hc0
          go_wp2_with fail
          go_ret
          exact ⟨rfl, CW10.out⟩
  · have hz : (er == 0) = false := by simpa using he
    clear he
    go_wp2_with fail
    go_ret
    exact ⟨rfl, (C0.out.trans C02.out (fun _ _ h => h)).alloc _⟩
theorem verifyProofWalk (w : World) (s : ProgS) (p : ProgV) (hr : Hid (RdProg w s p)) (ok : ProgOk p) (hG : Hid (Glob w w.heap.size)) (a1 a2 a3 : Int) (ha : InI a1 ∧ InI a2 ∧ InI a3) :
    Calls Tryd.prog 5 #[progVal s p, .int .i64 a1, .int .i64 a2, .int .i64 a3] w fun e w' => e = .returned (.bool true) ∧ Below w.heap.size w w' := by
  refine (verifyProofW hr (Lib.hid ok) hG (Lib.hid ha)).mono ?_
  rintro e w1 ⟨rfl, c⟩
  exact ⟨rfl, c.out.done⟩
end Go.Proofs.YtkadamoofiddeaaDoor.Kit
