/- Texts that the row leans on: PvM, PvN, PvO, PvP, PvQ, PvS, PvV, PvT. -/
import Derived.Test.YtkadamoofiddeaaDoorProg
import Derived.Test.YtkadamoofiddeaaDoorQVerifyPaddedag
-- verify: verified, Verify, Heights.
set_option linter.unusedVariables false
set_option linter.unusedSimpArgs false
namespace Go.Proofs.YtkadamoofiddeaaDoor.Kit
open Go.RowKit Go.Maps
open Classical in
/-- what comes of a program -/
noncomputable def vdOf (p : ProgV) : LookR := if CanonP p then verC p else ⟨121, 0, 0, found0, []⟩
theorem vdOf_no {p : ProgV} (h : ¬ CanonP p) : vdOf p = ⟨121, 0, 0, found0, []⟩ := by rw [vdOf, if_neg h]
theorem vdOf_c {p : ProgV} (h : CanonP p) : vdOf p = verC p := by rw [vdOf, if_pos h]
theorem verC_er {p : ProgV} (h : (lookOf p).er ≠ 0) : verC p = lookOf p := by rw [verC, if_pos h]
theorem verC_ok {p : ProgV} (h : (lookOf p).er = 0) (hn : NumsP p (lookOf p).f) : verC p = lookOf p := by rw [verC, if_neg (fun h1 => h1 h), if_pos hn]
theorem verC_no {p : ProgV} (h : (lookOf p).er = 0) (hn : ¬ NumsP p (lookOf p).f) : verC p = ⟨147, p.days.length, 0, (lookOf p).f, (lookOf p).H⟩ := by rw [verC, if_neg (fun h1 => h1 h), if_neg hn]
theorem canon_er (p : ProgV) : ∃ er, canonE p er ∧ (er = 0 ↔ CanonP p) := by
  by_cases h : CanonP p
  · exact ⟨0, ⟨fun _ => rfl, fun h1 => absurd h h1⟩, ⟨fun _ => h, fun _ => rfl⟩⟩
  · exact ⟨121, ⟨fun h1 => absurd h1 h, fun _ => rfl⟩, ⟨fun h1 => absurd h1 (by decide), fun h1 => absurd h1 h⟩⟩
theorem lookGo_0 : ∀ (l : List SegV) (n : Nat) (f : FoundV) (H : List (List Int)), (lookGo l n f H).er = 0 → (lookGo l n f H).seg = 0 ∧ (lookGo l n f H).at_ = 0
  | [], _, _, _, _ => ⟨rfl, rfl⟩
  | x :: xs, n, f, H, h => by
    by_cases he : (segOf x f).er = 0
    · rw [lookGo_ok he] at h ⊢
      exact lookGo_0 xs _ _ _ h
    · rw [lookGo_er he] at h
      exact absurd h he
theorem RdH.lower {w : World} {B B' : Nat} {hv : Value} {H : List (List Int)} {vs : List Value} (h : RdH w B hv H vs) (hB : B' ≤ B) : RdH w B' hv H vs := ⟨h.own, h.row, fun k hk => Nat.le_trans hB (h.geo k hk)⟩
set_option maxRecDepth 100000 in
set_option maxHeartbeats 3200000 in
theorem vVerified {s : ProgS} {p : ProgV} {w : World} (hp : Hid (RdProg w s p)) (ok : Hid (ProgOk p)) (hG : Hid (Glob w w.heap.size)) :
    Calls Tryd.prog 35 #[progVal s p] w fun e w' => ∃ ptr, e = .returned (.tuple #[.pointer ptr, .int .i64 ((vdOf p).seg : Int), .int .i64 ((vdOf p).at_ : Int), .int .i64 (vdOf p).er]) ∧ Hid (Chg (fun _ => False) w w') ∧
      Hid ((vdOf p).er = 0 → ∃ gF hv vs, ptr = some ⟨gF, 0, none⟩ ∧ Blk w' gF 75 (fCells (vdOf p).f hv) ∧ RdH w' w.heap.size hv (vdOf p).H vs ∧ w.heap.size ≤ gF) := by
  obtain ⟨n1, n2, n3, n4, A1, A2, A3, A4, c1, c2, c3, c4, HP0⟩ := hp.out.apart
  have HP := Lib.hid HP0
  obtain ⟨i1, hi1⟩ : ∃ x, x = p.horizon := ⟨_, rfl⟩
  obtain ⟨i2, hi2⟩ : ∃ x, x = p.cells := ⟨_, rfl⟩
  obtain ⟨i3, hi3⟩ : ∃ x, x = p.slots := ⟨_, rfl⟩
  obtain ⟨i4, hi4⟩ : ∃ x, x = p.stack := ⟨_, rfl⟩
  have EQ2 : Hid (progVal s p = .agg #[.slice A1 n1 c1, .slice A2 n2 c2, .slice A3 n3 c3, .int .i64 i1, .int .i64 i2, .int .i64 i3, .int .i64 i4, .slice A4 n4 c4]) := by rw [Hid, HP0.eq, hi1, hi2, hi3, hi4]
  rw [EQ2.out]
  have LD := Lib.hid HP0.ld
  have HI2 := Lib.hid hi2
  have HI3 := Lib.hid hi3
  have HI4 := Lib.hid hi4
  clear hi1 hi2 hi3 hi4 HP0
  obtain ⟨w0, hw0⟩ : ∃ x, x = w.alloc (.cells #[.slice A1 n1 c1, .slice A2 n2 c2, .slice A3 n3 c3, .int .i64 i1, .int .i64 i2, .int .i64 i3, .int .i64 i4, .slice A4 n4 c4] 26) := ⟨_, rfl⟩
  obtain ⟨g1, hg1⟩ : ∃ x, x = w.heap.size := ⟨_, rfl⟩
  have C0 : Hid (Chg (fun _ => False) w w0) := by rw [hw0]; exact (Chg.refl _ w).alloc _
  have B1 : Hid (Blk w0 g1 26 [.slice A1 n1 c1, .slice A2 n2 c2, .slice A3 n3 c3, .int .i64 i1, .int .i64 i2, .int .i64 i3, .int .i64 i4, .slice A4 n4 c4]) := by rw [hw0, hg1]; exact Blk.new _ _ _
  obtain ⟨ce, hce, hce2⟩ := canon_er p
  have HCE := Lib.hid hce
  have HCE2 := Lib.hid hce2
  have f0 := B1.out.at_ (i := 0) rfl
  have f1 := B1.out.at_ (i := 1) rfl
  have f2 := B1.out.at_ (i := 2) rfl
  have f3 := B1.out.at_ (i := 3) rfl
  have f4 := B1.out.at_ (i := 4) rfl
  have f5 := B1.out.at_ (i := 5) rfl
  have f6 := B1.out.at_ (i := 6) rfl
  have f7 := B1.out.at_ (i := 7) rfl
  clear hce hce2
  go_enter Tryd.func35, Tryd.ntmps35
  go_upto_region 1 with fail
  rw [← hw0, ← hg1]
  clear hw0 hg1
  go_wp2_with fail
  refine (show Calls Tryd.prog 10 #[.agg #[.slice A1 n1 c1, .slice A2 n2 c2, .slice A3 n3 c3, .int .i64 i1, .int .i64 i2, .int .i64 i3, .int .i64 i4, .slice A4 n4 c4]] _ _ from by rw [← EQ2.out]; exact imageCanon (Lib.hid (hp.out.chg0 C0.out)) ok (Lib.hid (hG.out.chg0 C0.out).k) HCE).mono ?_
  rintro e w1 ⟨rfl, C1⟩
  have C01 : Hid (Chg (fun _ => False) w w1) := C0.out.trans C1 (fun _ _ h => h)
  have B11 : Hid (Blk w1 g1 26 [.slice A1 n1 c1, .slice A2 n2 c2, .slice A3 n3 c3, .int .i64 i1, .int .i64 i2, .int .i64 i3, .int .i64 i4, .slice A4 n4 c4]) := B1.out.chg C1 (fun h => h)
  clear f0 f1 f2 f3 f4 f5 f6 f7 C1
  by_cases hc0 : ce = 0
  · subst hc0
    have HC : Hid (CanonP p) := HCE2.out.1 rfl
    have f0 := B11.out.at_ (i := 0) rfl
    have f1 := B11.out.at_ (i := 1) rfl
    have f2 := B11.out.at_ (i := 2) rfl
    have f3 := B11.out.at_ (i := 3) rfl
    have f4 := B11.out.at_ (i := 4) rfl
    have f5 := B11.out.at_ (i := 5) rfl
    have f6 := B11.out.at_ (i := 6) rfl
    have f7 := B11.out.at_ (i := 7) rfl
    go_wp2_with fail
    have G1 : Hid (Glob w1 w1.heap.size) := hG.out.later C01.out C01.out.size (Nat.le_refl _)
    refine (show Calls Tryd.prog 60 #[.agg #[.slice A1 n1 c1, .slice A2 n2 c2, .slice A3 n3 c3, .int .i64 i1, .int .i64 i2, .int .i64 i3, .int .i64 i4, .slice A4 n4 c4]] _ _ from by rw [← EQ2.out]; exact vLook (Lib.hid (hp.out.chg0 C01.out)) ok HC G1).mono ?_
    rintro e w2 ⟨gF, rfl, C2, RL⟩
    have C02 : Hid (Chg (fun _ => False) w w2) := C01.out.trans C2.out (fun _ _ h => h)
    have B12 : Hid (Blk w2 g1 26 [.slice A1 n1 c1, .slice A2 n2 c2, .slice A3 n3 c3, .int .i64 i1, .int .i64 i2, .int .i64 i3, .int .i64 i4, .slice A4 n4 c4]) := B11.out.chg C2.out (fun h => h)
    obtain ⟨R, hR⟩ : ∃ z, z = lookOf p := ⟨_, rfl⟩
    rw [← hR] at RL ⊢
    have HR := Lib.hid hR
    obtain ⟨er, sg, atp, f, H⟩ := R
    simp only at RL ⊢
    clear f0 f1 f2 f3 f4 f5 f6 f7 hR
    by_cases he : er = 0
    · subst he
      obtain ⟨hv, vs, BF, RH, GE⟩ := RL.out rfl
      obtain ⟨st, fu, ba, sl, cl⟩ := f
      have p0 := BF.at_ (i := 0) rfl
      have p4 := BF.at_ (i := 4) rfl
      have p5 := BF.at_ (i := 5) rfl
      have f4 := B12.out.at_ (i := 4) rfl
      have f5 := B12.out.at_ (i := 5) rfl
      have f6 := B12.out.at_ (i := 6) rfl
      have f7 := B12.out.at_ (i := 7) rfl
      have BF2 := Lib.hid BF
      have RH2 := Lib.hid RH
      have GE2 := Lib.hid (Nat.le_trans C01.out.size GE)
      have hLe : Hid ((lookOf p).er = 0) := by rw [← HR.out]; rfl
      clear BF RH GE RL
      by_cases h6 : i4 = st
      · subst h6
        by_cases h5 : i3 = sl
        · subst h5
          by_cases h4 : i2 = cl
          · subst h4
            have HV : Hid (vdOf p = ⟨0, sg, atp, ⟨i4, fu, ba, i3, i2⟩, H⟩) := by
              rw [Hid, vdOf_c HC.out, verC_ok hLe.out (by rw [← HR.out]; exact ⟨HI4.out.symm, HI3.out.symm, HI2.out.symm⟩), HR.out]
            have HS : Hid (sg = 0 ∧ atp = 0) := by
              have := lookGo_0 p.days 0 found0 [] hLe.out
              rw [show lookGo p.days 0 found0 [] = lookOf p from rfl, ← HR.out] at this
              exact this
            go_wp2_with fail
            go_quiet (fail)
            go_wp2_with fail
            go_quiet (fail)
            go_wp2_with fail
            go_quiet (fail)
            go_wp2_with fail
            refine bodyPost_ret (v := .tuple #[.pointer (some ⟨gF, 0, none⟩), .int .i64 0, .int .i64 0, .int .i64 0]) (by simp [results, Tryd.results35, go_sem]) rfl ⟨some ⟨gF, 0, none⟩, by rw [HV.out]; rw [HS.out.1, HS.out.2]; try rfl, (by repeat (first | exact C02.out | refine Chg.drew ?_ | refine Chg.drewN ?_ _)), fun _ => ⟨gF, hv, vs, rfl, by rw [HV.out]; exact BF2.out, by rw [HV.out]; exact (RH2.out.chg0 (by repeat (first | exact Chg.refl _ _ | refine Chg.drew ?_ | refine Chg.drewN ?_ _))).lower C01.out.size, GE2.out⟩⟩
          · have HV : Hid (vdOf p = ⟨147, p.days.length, 0, ⟨i4, fu, ba, i3, cl⟩, H⟩) := by
              rw [Hid, vdOf_c HC.out, verC_no hLe.out (by rw [← HR.out]; rintro ⟨x1, x2, x3⟩; exact h4 (HI2.out.trans x3)), ← HR.out]
            have hne : (i2 != cl) = true := by simpa using h4
            clear h4
            go_wp2_with fail
            go_quiet (fail)
            go_wp2_with fail
            go_quiet (fail)
            go_wp2_with fail
            go_quiet (fail)
            go_wp2_with fail
            go_quiet (fail)
            go_wp2_with fail
            refine bodyPost_ret (v := .tuple #[.pointer none, .int .i64 (n4 : Int), .int .i64 0, .int .i64 147]) (by simp [results, Tryd.results35, go_sem]) rfl ⟨none, by rw [HV.out, LD.out]; try rfl, (by repeat (first | exact C02.out | refine Chg.drew ?_ | refine Chg.drewN ?_ _)), fun h => absurd ((congrArg LookR.er HV.out).symm.trans h) (by simp)⟩
        · have HV : Hid (vdOf p = ⟨147, p.days.length, 0, ⟨i4, fu, ba, sl, cl⟩, H⟩) := by
            rw [Hid, vdOf_c HC.out, verC_no hLe.out (by rw [← HR.out]; rintro ⟨x1, x2, x3⟩; exact h5 (HI3.out.trans x2)), ← HR.out]
          have hne : (i3 != sl) = true := by simpa using h5
          clear h5
          go_wp2_with fail
          go_quiet (fail)
          go_wp2_with fail
          go_quiet (fail)
          go_wp2_with fail
          go_quiet (fail)
          go_wp2_with fail
          refine bodyPost_ret (v := .tuple #[.pointer none, .int .i64 (n4 : Int), .int .i64 0, .int .i64 147]) (by simp [results, Tryd.results35, go_sem]) rfl ⟨none, by rw [HV.out, LD.out]; try rfl, (by repeat (first | exact C02.out | refine Chg.drew ?_ | refine Chg.drewN ?_ _)), fun h => absurd ((congrArg LookR.er HV.out).symm.trans h) (by simp)⟩
      · have HV : Hid (vdOf p = ⟨147, p.days.length, 0, ⟨st, fu, ba, sl, cl⟩, H⟩) := by
          rw [Hid, vdOf_c HC.out, verC_no hLe.out (by rw [← HR.out]; rintro ⟨x1, x2, x3⟩; exact h6 (HI4.out.trans x1)), ← HR.out]
        have hne : (i4 != st) = true := by simpa using h6
        clear h6
        go_wp2_with fail
        go_quiet (fail)
        go_wp2_with fail
        go_quiet (fail)
        go_wp2_with fail
        refine bodyPost_ret (v := .tuple #[.pointer none, .int .i64 (n4 : Int), .int .i64 0, .int .i64 147]) (by simp [results, Tryd.results35, go_sem]) rfl ⟨none, by rw [HV.out, LD.out]; try rfl, (by repeat (first | exact C02.out | refine Chg.drew ?_ | refine Chg.drewN ?_ _)), fun h => absurd ((congrArg LookR.er HV.out).symm.trans h) (by simp)⟩
    · have HV : Hid (vdOf p = ⟨er, sg, atp, f, H⟩) := by
        rw [Hid, vdOf_c HC.out, verC_er (by rw [← HR.out]; exact he), ← HR.out]
      have hz : (er == 0) = false := by simpa using he
      have HE := Lib.hid he
      clear he
      go_wp2_with fail
      refine bodyPost_ret (v := .tuple #[.pointer none, .int .i64 (sg : Int), .int .i64 (atp : Int), .int .i64 er]) (by simp [results, Tryd.results35, go_sem]) rfl ⟨none, by rw [HV.out], C02.out, fun h => absurd ((congrArg LookR.er HV.out).symm.trans h) HE.out⟩
  · have HC : Hid (¬ CanonP p) := fun h => hc0 (HCE2.out.2 h)
    have h121 : ce = 121 := HCE.out.2 HC.out
    subst h121
    have HV : Hid (vdOf p = ⟨121, 0, 0, found0, []⟩) := vdOf_no HC.out
    clear hc0
    go_wp2_with fail
    refine bodyPost_ret (v := .tuple #[.pointer none, .int .i64 0, .int .i64 0, .int .i64 121]) (by simp [results, Tryd.results35, go_sem]) rfl ⟨none, by rw [HV.out]; try rfl, C01.out, fun h => absurd ((congrArg LookR.er HV.out).symm.trans h) (by simp)⟩
end Go.Proofs.YtkadamoofiddeaaDoor.Kit
-- verify: Verify, Heights.
set_option linter.unusedVariables false
set_option linter.unusedSimpArgs false
namespace Go.Proofs.YtkadamoofiddeaaDoor.Kit
open Go.RowKit Go.Maps
theorem vdOf_0 {p : ProgV} (h : (vdOf p).er = 0) : (vdOf p).seg = 0 ∧ (vdOf p).at_ = 0 ∧ CanonP p ∧ lookOf p = vdOf p ∧ NumsP p (vdOf p).f := by
  by_cases hc : CanonP p
  · rw [vdOf_c hc] at h ⊢
    by_cases he : (lookOf p).er = 0
    · by_cases hn : NumsP p (lookOf p).f
      · rw [verC_ok he hn] at h ⊢
        have := lookGo_0 p.days 0 found0 [] he
        exact ⟨this.1, this.2, hc, rfl, hn⟩
      · rw [verC_no he hn] at h
        exact absurd (show (147 : Int) = 0 from h) (by decide)
    · rw [verC_er he] at h
      exact absurd h he
  · rw [vdOf_no hc] at h
    exact absurd h (by decide)
/-- the proof that Verify hands out -/
noncomputable def prfOf (p : ProgV) : FoundV := if (vdOf p).er = 0 then (vdOf p).f else found0
/-- what Heights answers -/
noncomputable def hgtE (p : ProgV) (sg : Int) : Int := if (vdOf p).er ≠ 0 then (vdOf p).er else if sg < 0 ∨ ((vdOf p).H.length : Int) ≤ sg then 2 else 0
set_option maxRecDepth 100000 in
set_option maxHeartbeats 3200000 in
theorem vVerify {s : ProgS} {p : ProgV} {w : World} (hp : Hid (RdProg w s p)) (ok : Hid (ProgOk p)) (hG : Hid (Glob w w.heap.size)) :
    Calls Tryd.prog 14 #[progVal s p] w fun e w' => e = .returned (.tuple #[.agg #[.int .i64 (prfOf p).stack, .int .i64 (prfOf p).fuel, .int .i64 (prfOf p).back], .int .i64 ((vdOf p).seg : Int), .int .i64 ((vdOf p).at_ : Int), .int .i64 (vdOf p).er]) ∧ Hid (Chg (fun _ => False) w w') := by
  obtain ⟨n1, n2, n3, n4, A1, A2, A3, A4, c1, c2, c3, c4, HP0⟩ := hp.out.apart
  obtain ⟨i1, hi1⟩ : ∃ x, x = p.horizon := ⟨_, rfl⟩
  obtain ⟨i2, hi2⟩ : ∃ x, x = p.cells := ⟨_, rfl⟩
  obtain ⟨i3, hi3⟩ : ∃ x, x = p.slots := ⟨_, rfl⟩
  obtain ⟨i4, hi4⟩ : ∃ x, x = p.stack := ⟨_, rfl⟩
  have EQ2 : Hid (progVal s p = .agg #[.slice A1 n1 c1, .slice A2 n2 c2, .slice A3 n3 c3, .int .i64 i1, .int .i64 i2, .int .i64 i3, .int .i64 i4, .slice A4 n4 c4]) := by rw [Hid, HP0.eq, hi1, hi2, hi3, hi4]
  rw [EQ2.out]
  clear hi1 hi2 hi3 hi4 HP0
  obtain ⟨w0, hw0⟩ : ∃ x, x = (w.alloc (.cells #[.slice A1 n1 c1, .slice A2 n2 c2, .slice A3 n3 c3, .int .i64 i1, .int .i64 i2, .int .i64 i3, .int .i64 i4, .slice A4 n4 c4] 26)).alloc (.cells #[.int .i64 0, .int .i64 0, .int .i64 0] 35) := ⟨_, rfl⟩
  obtain ⟨g1, hg1⟩ : ∃ x, x = w.heap.size := ⟨_, rfl⟩
  have e0 : (w.alloc (.cells #[.slice A1 n1 c1, .slice A2 n2 c2, .slice A3 n3 c3, .int .i64 i1, .int .i64 i2, .int .i64 i3, .int .i64 i4, .slice A4 n4 c4] 26)).heap.size = g1 + 1 := by rw [hg1]; simp
  have C0 : Hid (Chg (fun _ => False) w w0) := by rw [hw0]; exact ((Chg.refl _ w).alloc _).alloc _
  have B1 : Hid (Blk w0 g1 26 [.slice A1 n1 c1, .slice A2 n2 c2, .slice A3 n3 c3, .int .i64 i1, .int .i64 i2, .int .i64 i3, .int .i64 i4, .slice A4 n4 c4]) := by rw [hw0, hg1]; exact (Blk.new _ _ _).alloc _
  have P1 : Hid (Blk w0 (g1 + 1) 35 [.int .i64 0, .int .i64 0, .int .i64 0]) := by
    rw [hw0, ← e0]
    exact Blk.new _ #[.int .i64 0, .int .i64 0, .int .i64 0] _
  have f0 := B1.out.at_ (i := 0) rfl
  have f1 := B1.out.at_ (i := 1) rfl
  have f2 := B1.out.at_ (i := 2) rfl
  have f3 := B1.out.at_ (i := 3) rfl
  have f4 := B1.out.at_ (i := 4) rfl
  have f5 := B1.out.at_ (i := 5) rfl
  have f6 := B1.out.at_ (i := 6) rfl
  have f7 := B1.out.at_ (i := 7) rfl
  have HG1 := Lib.hid hg1
  go_enter Tryd.func14, Tryd.ntmps14
  go_upto_region 1 with fail
  rw [← hw0, ← hg1]
  clear hw0 e0 hg1
  go_wp2_with fail
  have G0 : Hid (Glob w0 w0.heap.size) := hG.out.later C0.out C0.out.size (Nat.le_refl _)
  refine (show Calls Tryd.prog 35 #[.agg #[.slice A1 n1 c1, .slice A2 n2 c2, .slice A3 n3 c3, .int .i64 i1, .int .i64 i2, .int .i64 i3, .int .i64 i4, .slice A4 n4 c4]] _ _ from by rw [← EQ2.out]; exact vVerified (Lib.hid (hp.out.chg0 C0.out)) ok G0).mono ?_
  rintro e w2 ⟨ptr, rfl, C2, RV⟩
  have C02 : Hid (Chg (fun _ => False) w w2) := C0.out.trans C2.out (fun _ _ h => h)
  have P2 : Hid (Blk w2 (g1 + 1) 35 [.int .i64 0, .int .i64 0, .int .i64 0]) := P1.out.chg C2.out (fun h => h)
  clear f0 f1 f2 f3 f4 f5 f6 f7
  have V0 := Lib.hid (fun h => @vdOf_0 p h)
  obtain ⟨R, hR⟩ : ∃ z, z = vdOf p := ⟨_, rfl⟩
  obtain ⟨F, hF⟩ : ∃ z, z = prfOf p := ⟨_, rfl⟩
  have HF : Hid (F = if R.er = 0 then R.f else found0) := by rw [Hid, hF, hR]; rfl
  rw [← hR] at RV V0 ⊢
  have HRV := Lib.hid hR
  have HFP := Lib.hid hF
  clear hR hF
  obtain ⟨er, sg, atp, f, H⟩ := R
  simp only at RV V0 HF ⊢
  have o0 := P2.out.at_ (i := 0) rfl
  have o1 := P2.out.at_ (i := 1) rfl
  have o2 := P2.out.at_ (i := 2) rfl
  have z0 := P2.out.frozen (i := 0) (by simp)
  have z1 := P2.out.frozen (i := 1) (by simp)
  have z2 := P2.out.frozen (i := 2) (by simp)
  by_cases he : er = 0
  · subst he
    obtain ⟨gF, hv, vs, rfl, BF, RH, GE⟩ := RV.out rfl
    obtain ⟨rfl, rfl, _⟩ := V0.out rfl
    obtain rfl : F = f := HF.out
    obtain ⟨st, fu, ba, sl, cl⟩ := F
    have p0 := BF.at_ (i := 0) rfl
    have p1 := BF.at_ (i := 1) rfl
    have p2 := BF.at_ (i := 2) rfl
    clear BF RH GE RV V0 HF
    have NE : Hid (Chg (fun _ => False) w (((w2.setCell ⟨g1 + 1, 0, none⟩ (.int .i64 st)).setCell ⟨g1 + 1, 1, none⟩ (.int .i64 fu)).setCell ⟨g1 + 1, 2, none⟩ (.int .i64 ba))) := by
      refine Chg.setCell (Chg.setCell (Chg.setCell C02.out ?_ _) ?_ _) ?_ _
      all_goals (intro h; have := HG1.out; simp only at h; omega)
    have BN := (((P2.out.set 0 (.int .i64 st)).set 1 (.int .i64 fu)).set 2 (.int .i64 ba))
    have y0 := BN.at_ (i := 0) rfl
    have y1 := BN.at_ (i := 1) rfl
    have y2 := BN.at_ (i := 2) rfl
    go_wp2_with fail
    refine bodyPost_ret (v := .tuple #[.agg #[.int .i64 st, .int .i64 fu, .int .i64 ba], .int .i64 0, .int .i64 0, .int .i64 0]) (by simp [results, Tryd.results14, go_sem, y0, y1, y2]) rfl ⟨by rw [← HFP.out, ← HRV.out]; rfl, NE.out⟩
  · have HFF : Hid (F = found0) := by rw [HF.out]; exact if_neg he
    have hz : (er == 0) = false := by simpa using he
    clear he
    have NE : Hid (Chg (fun _ => False) w (((w2.setCell ⟨g1 + 1, 0, none⟩ (.int .i64 0)).setCell ⟨g1 + 1, 1, none⟩ (.int .i64 0)).setCell ⟨g1 + 1, 2, none⟩ (.int .i64 0))) := by
      refine Chg.setCell (Chg.setCell (Chg.setCell C02.out ?_ _) ?_ _) ?_ _
      all_goals (intro h; have := HG1.out; simp only at h; omega)
    have BN := (((P2.out.set 0 (.int .i64 0)).set 1 (.int .i64 0)).set 2 (.int .i64 0))
    have y0 := BN.at_ (i := 0) rfl
    have y1 := BN.at_ (i := 1) rfl
    have y2 := BN.at_ (i := 2) rfl
    go_wp2_with fail
    refine bodyPost_ret (v := .tuple #[.agg #[.int .i64 0, .int .i64 0, .int .i64 0], .int .i64 (sg : Int), .int .i64 (atp : Int), .int .i64 er]) (by simp [results, Tryd.results14, go_sem, y0, y1, y2]) rfl ⟨by rw [← HFP.out, ← HRV.out, HFF.out]; rfl, NE.out⟩
set_option maxRecDepth 100000 in
set_option maxHeartbeats 3200000 in
theorem vHeights {s : ProgS} {p : ProgV} {w : World} {sg : Int} (hp : Hid (RdProg w s p)) (ok : Hid (ProgOk p)) (hG : Hid (Glob w w.heap.size)) {er : Int} (her : Hid (er = hgtE p sg)) :
    Calls Tryd.prog 15 #[progVal s p, .int .i64 sg] w fun e w' => ∃ A n c, e = .returned (.tuple #[.slice A n c, .int .i64 er]) ∧ Hid (Chg (fun _ => False) w w') ∧ Hid (er = 0 → ∃ l, (vdOf p).H[sg.toNat]? = some l ∧ 0 ≤ sg ∧ Own w' 3 .i64 (.slice A n c) l) := by
  obtain ⟨n1, n2, n3, n4, A1, A2, A3, A4, c1, c2, c3, c4, HP0⟩ := hp.out.apart
  obtain ⟨i1, hi1⟩ : ∃ x, x = p.horizon := ⟨_, rfl⟩
  obtain ⟨i2, hi2⟩ : ∃ x, x = p.cells := ⟨_, rfl⟩
  obtain ⟨i3, hi3⟩ : ∃ x, x = p.slots := ⟨_, rfl⟩
  obtain ⟨i4, hi4⟩ : ∃ x, x = p.stack := ⟨_, rfl⟩
  have EQ2 : Hid (progVal s p = .agg #[.slice A1 n1 c1, .slice A2 n2 c2, .slice A3 n3 c3, .int .i64 i1, .int .i64 i2, .int .i64 i3, .int .i64 i4, .slice A4 n4 c4]) := by rw [Hid, HP0.eq, hi1, hi2, hi3, hi4]
  rw [EQ2.out]
  clear hi1 hi2 hi3 hi4 HP0
  obtain ⟨w0, hw0⟩ : ∃ x, x = w.alloc (.cells #[.slice A1 n1 c1, .slice A2 n2 c2, .slice A3 n3 c3, .int .i64 i1, .int .i64 i2, .int .i64 i3, .int .i64 i4, .slice A4 n4 c4] 26) := ⟨_, rfl⟩
  obtain ⟨g1, hg1⟩ : ∃ x, x = w.heap.size := ⟨_, rfl⟩
  have C0 : Hid (Chg (fun _ => False) w w0) := by rw [hw0]; exact (Chg.refl _ w).alloc _
  have B1 : Hid (Blk w0 g1 26 [.slice A1 n1 c1, .slice A2 n2 c2, .slice A3 n3 c3, .int .i64 i1, .int .i64 i2, .int .i64 i3, .int .i64 i4, .slice A4 n4 c4]) := by rw [hw0, hg1]; exact Blk.new _ _ _
  have f0 := B1.out.at_ (i := 0) rfl
  have f1 := B1.out.at_ (i := 1) rfl
  have f2 := B1.out.at_ (i := 2) rfl
  have f3 := B1.out.at_ (i := 3) rfl
  have f4 := B1.out.at_ (i := 4) rfl
  have f5 := B1.out.at_ (i := 5) rfl
  have f6 := B1.out.at_ (i := 6) rfl
  have f7 := B1.out.at_ (i := 7) rfl
  go_enter Tryd.func15, Tryd.ntmps15
  go_upto_region 1 with fail
  rw [← hw0, ← hg1]
  clear hw0 hg1
  go_wp2_with fail
  have G0 : Hid (Glob w0 w0.heap.size) := hG.out.later C0.out C0.out.size (Nat.le_refl _)
  refine (show Calls Tryd.prog 35 #[.agg #[.slice A1 n1 c1, .slice A2 n2 c2, .slice A3 n3 c3, .int .i64 i1, .int .i64 i2, .int .i64 i3, .int .i64 i4, .slice A4 n4 c4]] _ _ from by rw [← EQ2.out]; exact vVerified (Lib.hid (hp.out.chg0 C0.out)) ok G0).mono ?_
  rintro e w2 ⟨ptr, rfl, C2, RV⟩
  have C02 : Hid (Chg (fun _ => False) w w2) := C0.out.trans C2.out (fun _ _ h => h)
  clear f0 f1 f2 f3 f4 f5 f6 f7
  obtain ⟨R, hR⟩ : ∃ z, z = vdOf p := ⟨_, rfl⟩
  have HE : Hid (er = if R.er ≠ 0 then R.er else if sg < 0 ∨ (R.H.length : Int) ≤ sg then 2 else 0) := by rw [Hid, her.out, hR]; rfl
  rw [← hR] at RV ⊢
  have HRV := Lib.hid hR
  clear hR
  obtain ⟨vr, sgr, atp, f, H⟩ := R
  simp only at RV HE ⊢
  by_cases he : vr = 0
  · subst he
    obtain ⟨gF, hv, vs, rfl, BF, RH, GE⟩ := RV.out rfl
    have HE2 : Hid (er = if sg < 0 ∨ (H.length : Int) ≤ sg then 2 else 0) := HE.out
    obtain ⟨Ah, ch, rfl, _, _⟩ := RH.own.slice
    obtain ⟨nh, hnh⟩ : ∃ z, z = H.length := ⟨_, rfl⟩
    have HNH := Lib.hid hnh
    have RH2 := Lib.hid RH
    have BF2 := Lib.hid BF
    rw [← hnh] at HE2 BF
    have p3 := BF.at_ (i := 3) rfl
    clear RV HE hnh RH BF
    by_cases h1 : sg < 0
    · have HR : Hid ((2 : Int) = er) := by rw [Hid, HE2.out, if_pos (.inl h1)]
      go_wp2_with fail
      go_ret2
      exact ⟨none, 0, 0, by rw [← HR.out]; rfl, C02.out, fun h => absurd (HR.out.trans h) (by decide)⟩
    · by_cases h2 : (nh : Int) ≤ sg
      · have HR : Hid ((2 : Int) = er) := by rw [Hid, HE2.out, if_pos (.inr h2)]
        go_wp2_with fail
        go_ret2
        exact ⟨none, 0, 0, by rw [← HR.out]; rfl, C02.out, fun h => absurd (HR.out.trans h) (by decide)⟩
      · have HR : Hid ((0 : Int) = er) := by rw [Hid, HE2.out, if_neg (by rintro (e | e) <;> contradiction)]
        obtain ⟨i, rfl⟩ : ∃ i : Nat, sg = i := ⟨sg.toNat, by omega⟩
        have h3 : (i : Int) < (nh : Int) := by omega
        have h4 : (0 : Int) ≤ (i : Int) := by omega
        have hlen : vs.length = nh := by have := RH2.out.own.1; rw [HNH.out]; omega
        obtain ⟨v, hv⟩ : ∃ v, vs[i]? = some v := ⟨_, List.getElem?_eq_getElem (by omega)⟩
        obtain ⟨l, hl⟩ : ∃ l, H[i]? = some l := ⟨_, List.getElem?_eq_getElem (by rw [← HNH.out]; omega)⟩
        obtain ⟨ad, e1, hc, _⟩ := RH2.out.own.cells Ah H.length ch rfl i v hv
        obtain ⟨A9, n9, rfl, _, _⟩ := OwnV.slice (RH2.out.row i _ l hv hl)
        have OW := Lib.hid (RH2.out.row i _ l hv hl)
        have HLL := Lib.hid hl
        subst e1
        clear hv hl hlen RH2 BF2
        go_wp2_with fail
        go_ret2
        exact ⟨A9, l.length, n9, by rw [← HR.out]; rfl, C02.out, fun _ => ⟨l, by rw [← HRV.out]; exact HLL.out, OW.out⟩⟩
  · have HR : Hid (vr = er) := by rw [Hid, HE.out, if_pos he]
    have hz : (vr == 0) = false := by simpa using he
    have HEV := Lib.hid he
    clear he
    go_wp2_with fail
    go_ret2
    exact ⟨none, 0, 0, by rw [← HR.out]; rfl, C02.out, fun h => absurd (HR.out.trans h) HEV.out⟩
end Go.Proofs.YtkadamoofiddeaaDoor.Kit
-- The law's program that must be taken (plain), and that it is (lives).
set_option linter.unusedVariables false
set_option linter.unusedSimpArgs false
namespace Go.Proofs.YtkadamoofiddeaaDoor.Kit
open Go.RowKit Go.Maps
def plainC : List InsV := [⟨3, 0, 1⟩, ⟨1, 0, 0⟩, ⟨9, 0, 0⟩, ⟨6, 0, 0⟩, ⟨1, 0, 0⟩, ⟨21, 0, 0⟩, ⟨27, 2, 0⟩, ⟨7, 0, 0⟩, ⟨28, 0, 0⟩, ⟨0, 0, 0⟩]
def plainV : ProgV := ⟨[⟨#[65]⟩], [⟨#[69, 85, 82]⟩], [5], 3, 0, 1, 2, [⟨2, plainC⟩]⟩
theorem look_plain : (lookOf plainV).er = 0 ∧ (lookOf plainV).f = ⟨2, 10, 1, 1, 0⟩ ∧ (lookOf plainV).H = [[0, 1, 2, 1, 1, 2, 1, 0, 1, 0]] := ⟨by rfl, by rfl, by rfl⟩
theorem Blk.newAt (W : World) (cs : Array Value) (e : TypeId) {g : Nat} (h : g = W.heap.size) : Blk (W.alloc (.cells cs e)) g e cs.toList := by subst h; exact Blk.new W cs e
theorem rdG_blk {w : World} {g : Nat} {e : TypeId} {cs : List Value} (h : Blk w g e cs) : RdG w (some ⟨g, 0, none⟩) cs := fun j u hu => by
  refine ⟨_, rfl, ?_⟩
  rw [show (⟨g, 0, none⟩ : Addr).add j = ⟨g, j, none⟩ from by unfold Addr.add; split <;> simp_all]
  exact h.at_ hu
theorem slG_blk {w : World} {g sz n : Nat} {e : TypeId} {cs : List Value} (h : Blk w g e cs) (hl : cs.length = n * sz) (hn : n ≤ maxLen) : SlG w (.slice (some ⟨g, 0, none⟩) n n) sz n cs := ⟨⟨_, _, rfl, Nat.le_refl _, hn, rdG_blk h⟩, hl⟩
set_option maxRecDepth 100000 in
set_option maxHeartbeats 3200000 in
theorem vPlain {w : World} : Calls Tryd.prog 33 #[] w fun e w' => ∃ s, e = .returned (progVal s plainV) ∧ Hid (RdProg w' s plainV) ∧ Hid (Chg (fun _ => False) w w') := by
  obtain ⟨g, hg⟩ : ∃ z, z = w.heap.size := ⟨_, rfl⟩
  have HG := Lib.hid hg
  clear hg
  go_enter Tryd.func33, Tryd.ntmps33
  go_wp2_with fail
  refine bodyPost_ret (v := .agg #[.slice (some ⟨w.heap.size + 1 + 1, 0, none⟩) 1 1, .slice (some ⟨w.heap.size + 1 + 1 + 1, 0, none⟩) 1 1, .slice (some ⟨w.heap.size + 1 + 1 + 1 + 1, 0, none⟩) 1 1, .int .i64 3, .int .i64 0, .int .i64 1, .int .i64 2, .slice (some ⟨w.heap.size + 1 + 1 + 1 + 1 + 1, 0, none⟩) 1 1]) (by simp [results, Tryd.results33, go_sem]) rfl
    ⟨⟨.slice (some ⟨w.heap.size + 1 + 1, 0, none⟩) 1 1, .slice (some ⟨w.heap.size + 1 + 1 + 1, 0, none⟩) 1 1, .slice (some ⟨w.heap.size + 1 + 1 + 1 + 1, 0, none⟩) 1 1, .slice (some ⟨w.heap.size + 1 + 1 + 1 + 1 + 1, 0, none⟩) 1 1, [.slice (some ⟨w.heap.size + 1, 0, none⟩) 10 10]⟩, rfl, ?_, ?_⟩
  · refine ⟨?_, ?_, ?_, ?_, rfl, ?_⟩
    · exact slG_blk (((Blk.newAt _ #[.string ⟨#[65]⟩] 9 (by simp)).alloc _).alloc _ |>.alloc _) rfl (by decide)
    · exact slG_blk ((Blk.newAt _ #[.string ⟨#[69, 85, 82]⟩] 9 (by simp)).alloc _ |>.alloc _) rfl (by decide)
    · exact slG_blk ((Blk.newAt _ #[.int .i64 5] 3 (by simp)).alloc _) rfl (by decide)
    · exact slG_blk (Blk.newAt _ #[.int .i64 2, .slice (some ⟨w.heap.size + 1, 0, none⟩) 10 10] 42 (by simp)) rfl (by decide)
    · intro i hi hi'
      have h0 : i = 0 := by simp [plainV] at hi; omega
      subst h0
      exact slG_blk (((((Blk.newAt _ (insCells plainC).toArray 47 (by simp)).alloc _).alloc _).alloc _).alloc _) rfl (by decide)
  · exact (((((((Chg.refl _ w).alloc _).alloc _).alloc _).alloc _).alloc _).alloc _)
theorem plain_ins : ∀ i (h : i < plainC.length), GoodI plainV plainC.length i plainC[i] := by
  intro i h
  have hi : i < 10 := h
  have : i = 0 ∨ i = 1 ∨ i = 2 ∨ i = 3 ∨ i = 4 ∨ i = 5 ∨ i = 6 ∨ i = 7 ∨ i = 8 ∨ i = 9 := by omega
  rcases this with rfl | rfl | rfl | rfl | rfl | rfl | rfl | rfl | rfl | rfl
  · exact (show GoodI plainV 10 0 ⟨3, 0, 1⟩ from ⟨by decide, by decide, ⟨by decide, by decide, by decide, by decide, by decide⟩⟩)
  · exact (show GoodI plainV 10 1 ⟨1, 0, 0⟩ from ⟨by decide, by decide, ⟨by decide, by decide, by decide, by decide, by decide⟩⟩)
  · exact (show GoodI plainV 10 2 ⟨9, 0, 0⟩ from ⟨by decide, by decide, ⟨by decide, by decide, by decide, by decide, by decide⟩⟩)
  · exact (show GoodI plainV 10 3 ⟨6, 0, 0⟩ from ⟨by decide, by decide, ⟨by decide, by decide, by decide, by decide, by decide⟩⟩)
  · exact (show GoodI plainV 10 4 ⟨1, 0, 0⟩ from ⟨by decide, by decide, ⟨by decide, by decide, by decide, by decide, by decide⟩⟩)
  · exact (show GoodI plainV 10 5 ⟨21, 0, 0⟩ from ⟨by decide, by decide, ⟨by decide, by decide, by decide, by decide, by decide⟩⟩)
  · exact (show GoodI plainV 10 6 ⟨27, 2, 0⟩ from ⟨by decide, by decide, ⟨by decide, by decide, by decide, by decide, by decide⟩⟩)
  · exact (show GoodI plainV 10 7 ⟨7, 0, 0⟩ from ⟨by decide, by decide, ⟨by decide, by decide, by decide, by decide, by decide⟩⟩)
  · exact (show GoodI plainV 10 8 ⟨28, 0, 0⟩ from ⟨by decide, by decide, ⟨by decide, by decide, by decide, by decide, by decide⟩⟩)
  · exact (show GoodI plainV 10 9 ⟨0, 0, 0⟩ from ⟨by decide, by decide, ⟨by decide, by decide, by decide, by decide, by decide⟩⟩)
theorem plain_canon : CanonP plainV := by
  refine ⟨?_, fun i h => ?_, by decide, by decide, by decide⟩
  · refine ⟨by decide, by decide, by decide, fun i h => absurd h (by simp [plainV]), fun i h => absurd h (by simp [plainV]), fun i h => absurd h (by simp [plainV]), fun s hs => ?_, fun s hs => ?_, by decide, by decide, by decide, by decide⟩
    · obtain rfl : s = ⟨#[65]⟩ := by simpa [plainV] using hs
      refine ⟨by decide, by decide, (show (65 : Int) ≤ 65 ∧ (65 : Int) ≤ 90 from by decide), fun i hi => ?_⟩
      obtain rfl : i = 0 := by have : i < 1 := hi; omega
      exact .inl (show (65 : Int) ≤ 65 ∧ (65 : Int) ≤ 90 from by decide)
    · obtain rfl : s = ⟨#[69, 85, 82]⟩ := by simpa [plainV] using hs
      exact ⟨by decide, (show (65 : Int) ≤ 69 ∧ (69 : Int) ≤ 90 from by decide), (show (65 : Int) ≤ 85 ∧ (85 : Int) ≤ 90 from by decide), (show (65 : Int) ≤ 82 ∧ (82 : Int) ≤ 90 from by decide)⟩
  · have h0 : i = 0 := by simp [plainV] at h; omega
    subst h0
    exact (show GoodD plainV 0 ⟨2, plainC⟩ from ⟨by decide, by decide, by decide, (by decide : 2 ≤ plainC.length), plain_ins⟩)
theorem plain_ok : ProgOk plainV := by
  refine ⟨⟨by decide, by decide, by decide, by decide, fun x hx => ?_⟩, fun x hx => ?_, fun x hx => ?_, fun x hx => ?_, by decide, by decide, by decide, by decide, fun x hx => ?_⟩
  · obtain rfl : x = ⟨2, plainC⟩ := by simpa [plainV] using hx
    decide
  · obtain rfl : x = ⟨#[65]⟩ := by simpa [plainV] using hx
    decide
  · obtain rfl : x = ⟨#[69, 85, 82]⟩ := by simpa [plainV] using hx
    decide
  · obtain rfl : x = 5 := by simpa [plainV] using hx
    decide
  · obtain rfl : x = ⟨2, plainC⟩ := by simpa [plainV] using hx
    refine ⟨by decide, fun y hy => ?_⟩
    have : ∀ y ∈ plainC, (-9223372036854775808 ≤ y.op ∧ y.op ≤ 9223372036854775807) ∧ (-9223372036854775808 ≤ y.a ∧ y.a ≤ 9223372036854775807) ∧ -9223372036854775808 ≤ y.b ∧ y.b ≤ 9223372036854775807 := by decide
    exact this y hy
theorem plain_vd : vdOf plainV = ⟨0, 0, 0, ⟨2, 10, 1, 1, 0⟩, [[0, 1, 2, 1, 1, 2, 1, 0, 1, 0]]⟩ := by
  rw [vdOf_c plain_canon, verC_ok look_plain.1 (by rw [look_plain.2.1]; exact ⟨rfl, rfl, rfl⟩)]
  rfl
theorem plain_prf : prfOf plainV = ⟨2, 10, 1, 1, 0⟩ := by
  unfold prfOf
  rw [plain_vd]
  rfl
theorem plain_hgt : hgtE plainV 0 = 0 := by
  unfold hgtE
  rw [plain_vd]
  rfl
set_option maxRecDepth 100000 in
set_option maxHeartbeats 1600000 in
theorem vSameInts {w : World} {A1 A2 : Option Addr} {n1 c1 n2 c2 : Nat} {l m : List Int} {b : Bool} (h1 : Hid (Own w 3 .i64 (.slice A1 n1 c1) l)) (h2 : Hid (Own w 3 .i64 (.slice A2 n2 c2) m)) (L1 : Hid (l.length = n1)) (L2 : Hid (m.length = n2)) (hn : n1 ≤ 1000000000) (hb : Hid (b = true ↔ l = m)) :
    Calls Tryd.prog 34 #[.slice A1 n1 c1, .slice A2 n2 c2] w fun e w' => e = .returned (.bool b) ∧ Hid (Chg (fun _ => False) w w') := by
  by_cases hl : n1 = n2
  · subst hl
    go_enter Tryd.func34, Tryd.ntmps34
    go_wp2_with fail
    go_loopw [5] (fun v wr => ∃ k : Nat, v = .int .i64 (k : Int) ∧ k ≤ n1 ∧ Hid (∀ j, j < k → l[j]? = m[j]?) ∧ Hid (Chg (fun _ => False) w wr)) (fun v _ => n1 - (intOf v).toNat)
    case atStart => exact ⟨0, rfl, Nat.zero_le _, fun j hj => absurd hj (by omega), Chg.refl _ _⟩
    case round =>
      obtain ⟨k, rfl, hk, HQ, HC⟩ := hrel
      by_cases hkn : k < n1
      · obtain ⟨gs1, x1, e1, hx1, k1⟩ := own_elemI (OwnV.chg h1.out HC.out (fun _ _ h => h)) L1.out hkn
        obtain ⟨gs2, x2, e2, hx2, k2⟩ := own_elemI (OwnV.chg h2.out HC.out (fun _ _ h => h)) L2.out hkn
        subst e1
        subst e2
        have i1 : (0 : Int) ≤ (k : Int) := by omega
        have i2 : (k : Int) < (n1 : Int) := by omega
        have HX1 := Lib.hid hx1
        have HX2 := Lib.hid hx2
        clear hx1 hx2
        by_cases hxx : x1 = x2
        · subst hxx
          go_wp2_with fail
          go_quiet (fail)
          go_wp2_with fail
          go_roundw
          case rel =>
            refine ⟨k + 1, by congr 1, by omega, fun j hj => ?_, HC.out.drewN _⟩
            rcases Nat.lt_or_ge j k with h | h
            · exact HQ.out j h
            · rw [show j = k from by omega, HX1.out, HX2.out]
          case measure => exact meas_lt hkn
        · have HB : Hid (false = b) := by
            cases b
            · rfl
            · have := hb.out.1 rfl
              have e := HX1.out
              rw [this, HX2.out] at e
              injection e with e
              exact absurd e.symm hxx
          have hne : (x1 == x2) = false := by simpa using hxx
          have hne2 : (x1 != x2) = true := by simpa using hxx
          clear hxx
          go_wp2_with fail
          go_quiet (fail)
          go_wp2_with fail
          go_ret
          exact ⟨ret_bool HB.out, HC.out.drewN _⟩
      · obtain rfl : k = n1 := by omega
        have HB : Hid (true = b) := by
          have : l = m := by
            apply List.ext_getElem?
            intro i
            by_cases hi : i < k
            · exact HQ.out i hi
            · rw [List.getElem?_eq_none (by rw [L1.out]; omega), List.getElem?_eq_none (by rw [L2.out]; omega)]
          exact (hb.out.2 this).symm
        have i1 : ¬ ((k : Int) < (k : Int)) := by omega
        go_wp2_with fail
        go_ret
        exact ⟨ret_bool HB.out, HC.out⟩
  · have HB : Hid (false = b) := by
      cases b
      · rfl
      · have := hb.out.1 rfl
        exact absurd (by rw [← L1.out, ← L2.out, this]) hl
    have hn2 : ¬ ((n1 : Int) = (n2 : Int)) := by omega
    have hn1 : ((n1 : Int) != (n2 : Int)) = true := by simpa using hn2
    go_enter Tryd.func34, Tryd.ntmps34
    go_wp2_with fail
    go_ret
    exact ⟨ret_bool HB.out, Chg.refl _ _⟩
end Go.Proofs.YtkadamoofiddeaaDoor.Kit
-- The law's first word (lives): its own program is taken, with its numbers.
set_option linter.unusedVariables false
set_option linter.unusedSimpArgs false
namespace Go.Proofs.YtkadamoofiddeaaDoor.Kit
open Go.RowKit Go.Maps
theorem vVerifyPlain {s : ProgS} {w : World} (hp : Hid (RdProg w s plainV)) (hG : Hid (Glob w w.heap.size)) :
    Calls Tryd.prog 14 #[progVal s plainV] w fun e w' => e = .returned (.tuple #[.agg #[.int .i64 2, .int .i64 10, .int .i64 1], .int .i64 0, .int .i64 0, .int .i64 0]) ∧ Hid (Chg (fun _ => False) w w') := by
  refine (vVerify hp (Lib.hid plain_ok) hG).mono ?_
  rintro e w' ⟨rfl, hc⟩
  refine ⟨?_, hc⟩
  rw [plain_prf, plain_vd]
  rfl
theorem vHeightsPlain {s : ProgS} {w : World} (hp : Hid (RdProg w s plainV)) (hG : Hid (Glob w w.heap.size)) :
    Calls Tryd.prog 15 #[progVal s plainV, .int .i64 0] w fun e w' => ∃ A c, e = .returned (.tuple #[.slice A 10 c, .int .i64 0]) ∧ Hid (Chg (fun _ => False) w w') ∧ Hid (Own w' 3 .i64 (.slice A 10 c) [0, 1, 2, 1, 1, 2, 1, 0, 1, 0]) := by
  refine (vHeights hp (Lib.hid plain_ok) hG (Lib.hid plain_hgt.symm)).mono ?_
  rintro e w' ⟨A, n, c, rfl, hc, hr⟩
  obtain ⟨l, hl, _, ho⟩ := hr.out rfl
  rw [plain_vd] at hl
  obtain rfl : [0, 1, 2, 1, 1, 2, 1, 0, 1, 0] = l := by simpa using hl
  obtain ⟨A', c', e, _, _⟩ := OwnV.slice ho
  injection e with e1 e2 e3
  subst e1 e2 e3
  exact ⟨A, c, rfl, hc, ho⟩
theorem Glob.step {w w1 : World} (h : Glob w w.heap.size) (c : Chg (fun _ => False) w w1) : Glob w1 w1.heap.size := h.later c c.size (Nat.le_refl _)
set_option maxRecDepth 100000 in
set_option maxHeartbeats 3200000 in
theorem vLives {w : World} (hG : Hid (Glob w w.heap.size)) : Calls Tryd.prog 13 #[] w fun e w' => e = .returned (.bool true) ∧ Hid (Chg (fun _ => False) w w') := by
  go_enter Tryd.func13, Tryd.ntmps13
  go_wp2_with fail
  refine vPlain.mono ?_
  rintro e w1 ⟨s1, rfl, R1, C1⟩
  go_wp2_with fail
  refine (vVerifyPlain R1 (Lib.hid (hG.out.step C1.out))).mono ?_
  rintro e w2 ⟨rfl, C2⟩
  have C02 : Hid (Chg (fun _ => False) w w2) := C1.out.trans C2.out (fun _ _ h => h)
  go_upto_region 2 with fail
  obtain ⟨w3, hw3⟩ : ∃ y, y = w2.alloc (.cells #[.int .i64 2, .int .i64 10, .int .i64 1] 35) := ⟨_, rfl⟩
  have C3 : Hid (Chg (fun _ => False) w w3) := by rw [hw3]; exact C02.out.alloc _
  obtain ⟨g, hg⟩ : ∃ y, y = w2.heap.size := ⟨_, rfl⟩
  have B3 : Hid (Blk w3 g 35 [.int .i64 2, .int .i64 10, .int .i64 1]) := by rw [hw3, hg]; exact Blk.new w2 #[.int .i64 2, .int .i64 10, .int .i64 1] _
  rw [← hw3, ← hg]
  clear hw3 hg
  go_wp2_with fail
  refine vPlain.mono ?_
  rintro e w4 ⟨s4, rfl, R4, C4⟩
  go_wp2_with fail
  have C04 : Hid (Chg (fun _ => False) w w4) := C3.out.trans C4.out (fun _ _ h => h)
  refine (vHeightsPlain R4 (Lib.hid (hG.out.step C04.out))).mono ?_
  rintro e w5 ⟨A, c, rfl, C5, OW⟩
  have B5 : Hid (Blk w5 g 35 [.int .i64 2, .int .i64 10, .int .i64 1]) := (B3.out.chg C4.out (fun h => h)).chg C5.out (fun h => h)
  have q0 := B5.out.at_ (i := 0) rfl
  have q1 := B5.out.at_ (i := 1) rfl
  have q2 := B5.out.at_ (i := 2) rfl
  have OW6 : Hid (Own (w5.alloc (.cells #[.int .i64 0, .int .i64 1, .int .i64 2, .int .i64 1, .int .i64 1, .int .i64 2, .int .i64 1, .int .i64 0, .int .i64 1, .int .i64 0] 3)) 3 .i64 (.slice A 10 c) [0, 1, 2, 1, 1, 2, 1, 0, 1, 0]) := OwnV.chg OW.out (S := fun _ => False) ((Chg.refl _ w5).alloc _) (fun _ _ h => h)
  have OL6 : Hid (Own (w5.alloc (.cells #[.int .i64 0, .int .i64 1, .int .i64 2, .int .i64 1, .int .i64 1, .int .i64 2, .int .i64 1, .int .i64 0, .int .i64 1, .int .i64 0] 3)) 3 .i64 (.slice (some ⟨w5.heap.size, 0, none⟩) 10 10) [0, 1, 2, 1, 1, 2, 1, 0, 1, 0]) := Own.lit' w5 3 .i64 [0, 1, 2, 1, 1, 2, 1, 0, 1, 0] _ rfl (by simp [maxLen])
  go_wp2_with fail
  refine (vSameInts (b := true) OW6 OL6 rfl rfl (by decide) ⟨fun _ => rfl, fun _ => rfl⟩).mono ?_
  rintro e w6 ⟨rfl, C6⟩
  go_wp2_with fail
  go_ret
  exact ⟨rfl, (C04.out.trans C5.out (fun _ _ h => h)).alloc _ |>.trans C6.out (fun _ _ h => h)⟩
end Go.Proofs.YtkadamoofiddeaaDoor.Kit
-- VerifyProof in plain words: the proof's numbers are the fold over the heights.
set_option linter.unusedVariables false
set_option linter.unusedSimpArgs false
namespace Go.Proofs.YtkadamoofiddeaaDoor.Kit
open Go.RowKit Go.Maps
/-- what was worked out, instruction by instruction, with the heights -/
def foldN : FoundV → List InsV → List Int → FoundV
  | f, x :: xs, h :: hs => foldN (noteV f x h) xs hs
  | f, _, _ => f
def foldD : FoundV → List SegV → List (List Int) → FoundV
  | f, x :: xs, h :: hs => foldD (foldN f x.code h) xs hs
  | f, _, _ => f
theorem segGo_fold (day : Int) : ∀ (xs : List InsV) (k : Nat) (L : List (Option StV)) (f : FoundV) (hs : List Int), (segGo day xs k L f hs).er = 0 → ∃ hs', (segGo day xs k L f hs).hs = hs ++ hs' ∧ hs'.length = xs.length ∧ (segGo day xs k L f hs).f = foldN f xs hs'
  | [], k, L, f, hs, _ => ⟨[], by simp [segGo], rfl, rfl⟩
  | x :: xs, k, L, f, hs, h => by
    rcases hj : (L[k]?).join with _ | s
    · rw [segGo_none hj] at h
      exact absurd (show (146 : Int) = 0 from h) (by decide)
    · have hk : L[k]? = some (some s) := by
        rcases h2 : L[k]? with _ | y
        · rw [h2] at hj; cases hj
        · rw [h2] at hj; rw [show y = some s from hj]
      by_cases he : applyE x day s = 0
      · by_cases hh : (handV L (applyS x s) (toOf x k)).1 = 0
        · rw [segGo_ok hk he hh] at h ⊢
          obtain ⟨hs', e1, e2, e3⟩ := segGo_fold day xs _ _ _ _ h
          exact ⟨(s.stk.length : Int) :: hs', by rw [e1, List.append_assoc]; rfl, by rw [List.length_cons, e2, List.length_cons], e3⟩
        · rw [segGo_hand hk he hh] at h
          exact absurd h hh
      · rw [segGo_app hk he] at h
        exact absurd h he
theorem lookGo_fold : ∀ (xs : List SegV) (n : Nat) (f : FoundV) (H : List (List Int)), (lookGo xs n f H).er = 0 → ∃ H', (lookGo xs n f H).H = H ++ H' ∧ H'.length = xs.length ∧ (∀ (i : Nat) (x : SegV) (h : List Int), xs[i]? = some x → H'[i]? = some h → h.length = x.code.length) ∧ (lookGo xs n f H).f = foldD f xs H'
  | [], n, f, H, _ => ⟨[], by simp [lookGo], rfl, fun i x h hx => by simp at hx, rfl⟩
  | x :: xs, n, f, H, h => by
    by_cases he : (segOf x f).er = 0
    · rw [lookGo_ok he] at h ⊢
      obtain ⟨H', e1, e2, e3, e4⟩ := lookGo_fold xs _ _ _ h
      obtain ⟨hs', g1, g2, g3⟩ := segGo_fold x.day x.code 0 (segInit x.code.length) f [] he
      have g1' : (segOf x f).hs = hs' := by rw [segOf, g1]; rfl
      have g3' : (segOf x f).f = foldN f x.code hs' := g3
      refine ⟨hs' :: H', by rw [e1, g1', List.append_assoc]; rfl, by rw [List.length_cons, e2, List.length_cons], fun i y l hy hl => ?_, ?_⟩
      · rcases i with _ | i
        · simp at hy hl
          subst hy
          subst hl
          exact g2
        · exact e3 i y l (by simpa using hy) (by simpa using hl)
      · rw [e4, g3']
        rfl
    · rw [lookGo_er he] at h
      exact absurd h he
theorem vd_fold {p : ProgV} (h : (vdOf p).er = 0) : (vdOf p).H.length = p.days.length ∧ (∀ (i : Nat) (x : SegV) (l : List Int), p.days[i]? = some x → (vdOf p).H[i]? = some l → l.length = x.code.length) ∧ (vdOf p).f = foldD found0 p.days (vdOf p).H := by
  obtain ⟨_, _, _, hl, _⟩ := vdOf_0 h
  rw [← hl] at h ⊢
  obtain ⟨H', e1, e2, e3, e4⟩ := lookGo_fold p.days 0 found0 [] h
  have e1' : (lookOf p).H = H' := by rw [lookOf, e1]; rfl
  rw [e1']
  exact ⟨e2, e3, e4⟩
theorem vMost {w : World} {a b : Int} : Calls Tryd.prog 17 #[.int .i64 a, .int .i64 b] w fun e w' => e = .returned (.int .i64 (max a b)) ∧ w' = w := by
  by_cases h : b < a
  · have HM : Hid (a = max a b) := by rw [Hid]; omega
    go_enter Tryd.func17, Tryd.ntmps17
    go_wp2_with fail
    go_ret
    exact ⟨ret_i HM.out, rfl⟩
  · have HM : Hid (b = max a b) := by rw [Hid]; omega
    go_enter Tryd.func17, Tryd.ntmps17
    go_wp2_with fail
    go_ret
    exact ⟨ret_i HM.out, rfl⟩
/-- a program with other numbers -/
def withN (p : ProgV) (st sl ce : Int) : ProgV := ⟨p.names, p.curs, p.pool, p.horizon, ce, sl, st, p.days⟩
theorem withN_rd {w : World} {s : ProgS} {p : ProgV} (h : RdProg w s p) (st sl ce : Int) : RdProg w s (withN p st sl ce) := ⟨h.names, h.curs, h.pool, h.days, h.lenC, h.code⟩
theorem withN_ok {p : ProgV} (h : ProgOk p) {st sl ce : Int} (h1 : InI st) (h2 : InI sl) (h3 : InI ce) : ProgOk (withN p st sl ce) := ⟨⟨h.small.names, h.small.curs, h.small.pool, h.small.days, h.small.code⟩, h.names, h.curs, h.pool, h.horizon, h3, h2, h1, h.days⟩
theorem withN_vd {p : ProgV} {st sl ce : Int} (h : (vdOf p).er = 0) (hc : CanonP (withN p st sl ce)) : (st = p.stack ∧ sl = p.slots ∧ ce = p.cells ∧ (vdOf (withN p st sl ce)).er = 0) ∨ (¬ (st = p.stack ∧ sl = p.slots ∧ ce = p.cells) ∧ (vdOf (withN p st sl ce)).er = 147 ∧ (vdOf (withN p st sl ce)).seg = p.days.length ∧ (vdOf (withN p st sl ce)).at_ = 0) := by
  obtain ⟨_, _, _, hl, hn⟩ := vdOf_0 h
  have hl2 : lookOf (withN p st sl ce) = vdOf p := hl
  have he : (lookOf (withN p st sl ce)).er = 0 := by rw [hl2]; exact h
  rw [vdOf_c hc]
  obtain ⟨n1, n2, n3⟩ := hn
  by_cases hq : st = p.stack ∧ sl = p.slots ∧ ce = p.cells
  · refine .inl ⟨hq.1, hq.2.1, hq.2.2, ?_⟩
    rw [verC_ok he (by rw [hl2]; exact ⟨hq.1.trans n1, hq.2.1.trans n2, hq.2.2.trans n3⟩)]
    exact he
  · refine .inr ⟨hq, ?_⟩
    rw [verC_no he (by rw [hl2]; rintro ⟨x1, x2, x3⟩; exact hq ⟨x1.trans n1.symm, x2.trans n2.symm, x3.trans n3.symm⟩)]
    exact ⟨rfl, rfl, rfl⟩
end Go.Proofs.YtkadamoofiddeaaDoor.Kit
-- VerifyFirst in plain words: what goes wrong first is told, whatever follows.
set_option linter.unusedVariables false
set_option linter.unusedSimpArgs false
namespace Go.Proofs.YtkadamoofiddeaaDoor.Kit
open Go.RowKit Go.Maps
/-- M begins as L does; behind it no state was handed -/
structure ExtL (L M : List (Option StV)) : Prop where
  len : L.length ≤ M.length
  same : ∀ t, t < L.length → M[t]? = L[t]?
  more : ∀ t, L.length ≤ t → (M[t]?).join = none
theorem join_some {L : List (Option StV)} {t : Nat} {s : StV} (h : (L[t]?).join = some s) : L[t]? = some (some s) := by
  rcases h2 : L[t]? with _ | x
  · rw [h2] at h; cases h
  · rw [h2] at h; rw [show x = some s from h]
theorem ExtL.set {L M : List (Option StV)} (h : ExtL L M) {t : Nat} (ht : t < L.length) (x : Option StV) : ExtL (L.set t x) (M.set t x) := by
  refine ⟨by simpa using h.len, fun i hi => ?_, fun i hi => ?_⟩
  · rw [List.length_set] at hi
    by_cases e : t = i
    · subst e
      rw [List.getElem?_set_self ht, List.getElem?_set_self (Nat.lt_of_lt_of_le ht h.len)]
    · rw [List.getElem?_set_ne e, List.getElem?_set_ne e]
      exact h.same i hi
  · rw [List.length_set] at hi
    rw [List.getElem?_set_ne (by omega)]
    exact h.more i hi
theorem ExtL.hand {b : StV} : ∀ (ts : List Nat) (L M : List (Option StV)), ExtL L M → (∀ t ∈ ts, t < L.length) → (handGo L b ts).1 = (handGo M b ts).1 ∧ ExtL (handGo L b ts).2 (handGo M b ts).2
  | [], L, M, h, _ => ⟨rfl, h⟩
  | t :: ts, L, M, h, ht => by
    have h1 := ht t (by simp)
    have h2 := h.same t h1
    rcases hj : (L[t]?).join with _ | s
    · rw [hand_no hj, hand_no (by rw [h2]; exact hj)]
      exact ExtL.hand ts _ _ (h.set h1 _) (fun t' ht' => by rw [List.length_set]; exact ht t' (by simp [ht']))
    · have hs := join_some hj
      by_cases he : meetE s b = 0
      · rw [hand_ok hs he, hand_ok (h2.trans hs) he]
        exact ExtL.hand ts _ _ (h.set h1 _) (fun t' ht' => by rw [List.length_set]; exact ht t' (by simp [ht']))
      · rw [hand_er hs he, hand_er (h2.trans hs) he]
        exact ⟨rfl, h⟩
theorem handV_141 {L : List (Option StV)} {b : StV} {ts : List Nat} (h : ∃ t ∈ ts, L.length ≤ t) : (handV L b ts).1 = 141 := by rw [handV, if_pos h]
theorem handV_go {L : List (Option StV)} {b : StV} {ts : List Nat} (h : ¬ ∃ t ∈ ts, L.length ≤ t) : handV L b ts = handGo L b ts := by rw [handV, if_neg h]
theorem segGo_at (day : Int) : ∀ (xs : List InsV) (k : Nat) (L : List (Option StV)) (f : FoundV) (hs : List Int), (segGo day xs k L f hs).er ≠ 0 → k ≤ (segGo day xs k L f hs).at_ ∧ (segGo day xs k L f hs).at_ < k + xs.length
  | [], k, L, f, hs, h => absurd rfl h
  | x :: xs, k, L, f, hs, h => by
    rcases hj : (L[k]?).join with _ | s
    · rw [segGo_none hj]; simp
    · have hk := join_some hj
      by_cases he : applyE x day s = 0
      · by_cases hh : (handV L (applyS x s) (toOf x k)).1 = 0
        · rw [segGo_ok hk he hh] at h ⊢
          have := segGo_at day xs _ _ _ _ h
          simp only [List.length_cons]
          omega
        · rw [segGo_hand hk he hh]; simp
      · rw [segGo_app hk he]; simp
theorem segGo_first (day : Int) : ∀ (xs ys : List InsV) (k : Nat) (L M : List (Option StV)) (f g : FoundV) (hs gs : List Int), ExtL L M → k + xs.length = L.length → (segGo day xs k L f hs).er ≠ 0 → (segGo day xs k L f hs).er ≠ 141 → (∀ j, k + j ≤ (segGo day xs k L f hs).at_ → xs[j]? = ys[j]?) →
    (segGo day ys k M g gs).er = (segGo day xs k L f hs).er ∧ (segGo day ys k M g gs).at_ = (segGo day xs k L f hs).at_
  | [], ys, k, L, M, f, g, hs, gs, _, _, h, _, _ => absurd rfl h
  | x :: xs, ys, k, L, M, f, g, hs, gs, hE, hl, h, h141, hy => by
    have hat := (segGo_at day (x :: xs) k L f hs h).1
    obtain ⟨ys', rfl⟩ : ∃ ys', ys = x :: ys' := by
      have := hy 0 (by simpa using hat)
      rcases ys with _ | ⟨y, ys'⟩
      · simp at this
      · simp at this; exact ⟨ys', by rw [this]⟩
    have hkl : k < L.length := by simp at hl; omega
    have hMk := hE.same k hkl
    rcases hj : (L[k]?).join with _ | s
    · rw [segGo_none hj, segGo_none (by rw [hMk]; exact hj)]
      exact ⟨rfl, rfl⟩
    · have hk := join_some hj
      have hkM := hMk.trans hk
      by_cases he : applyE x day s = 0
      · by_cases hto : ∃ t ∈ toOf x k, L.length ≤ t
        · have h1 := handV_141 (b := applyS x s) hto
          rw [segGo_hand hk he (by rw [h1]; decide)] at h141
          exact absurd h1 h141
        · have hto2 : ¬ ∃ t ∈ toOf x k, M.length ≤ t := by
            rintro ⟨t, h1, h2⟩
            exact hto ⟨t, h1, Nat.le_trans hE.len h2⟩
          have hlt : ∀ t ∈ toOf x k, t < L.length := fun t ht => Nat.lt_of_not_le (fun hle => hto ⟨t, ht, hle⟩)
          obtain ⟨e1, e2⟩ := ExtL.hand (b := applyS x s) (toOf x k) L M hE hlt
          have eL := handV_go (b := applyS x s) hto
          have eM := handV_go (b := applyS x s) hto2
          by_cases hh : (handV L (applyS x s) (toOf x k)).1 = 0
          · have hhM : (handV M (applyS x s) (toOf x k)).1 = 0 := by rw [eM, ← e1, ← eL]; exact hh
            rw [segGo_ok hk he hh] at h h141 hy ⊢
            rw [segGo_ok hkM he hhM]
            have hlen : (handV L (applyS x s) (toOf x k)).2.length = L.length := handV_len _ _ _
            refine segGo_first day xs ys' (k + 1) _ _ _ _ _ _ ?_ ?_ h h141 (fun j hj' => ?_)
            · rw [eL, eM]
              refine e2.set ?_ none
              rw [← eL, hlen]
              exact hkl
            · rw [List.length_set, hlen]
              simp at hl
              omega
            · have := hy (j + 1) (by omega)
              simpa using this
          · have hhM : (handV M (applyS x s) (toOf x k)).1 ≠ 0 := by rw [eM, ← e1, ← eL]; exact hh
            rw [segGo_hand hk he hh, segGo_hand hkM he hhM]
            refine ⟨?_, rfl⟩
            show (handV M _ _).1 = (handV L _ _).1
            rw [eM, eL, e1]
      · rw [segGo_app hk he, segGo_app hkM he]
        exact ⟨rfl, rfl⟩
theorem ext_init {n m : Nat} (h : n ≤ m) (hn : 0 < n) : ExtL (segInit n) (segInit m) := by
  unfold segInit
  refine ⟨by simpa using h, fun t ht => ?_, fun t ht => ?_⟩
  · simp at ht
    by_cases e : t = 0
    · subst e
      rw [List.getElem?_set_self (by simp; omega), List.getElem?_set_self (by simp; omega)]
    · rw [List.getElem?_set_ne (by omega), List.getElem?_set_ne (by omega), List.getElem?_replicate, List.getElem?_replicate, if_pos ht, if_pos (by omega)]
  · simp at ht
    rw [List.getElem?_set_ne (by omega), List.getElem?_replicate]
    split <;> rfl
theorem lookGo_seg : ∀ (xs : List SegV) (n : Nat) (f : FoundV) (H : List (List Int)), (lookGo xs n f H).er ≠ 0 → n ≤ (lookGo xs n f H).seg ∧ (lookGo xs n f H).seg < n + xs.length ∧ ∃ x, xs[(lookGo xs n f H).seg - n]? = some x ∧ (lookGo xs n f H).at_ < x.code.length
  | [], n, f, H, h => absurd rfl h
  | x :: xs, n, f, H, h => by
    by_cases he : (segOf x f).er = 0
    · rw [lookGo_ok he] at h ⊢
      obtain ⟨h1, h2, y, h3, h4⟩ := lookGo_seg xs _ _ _ h
      refine ⟨by omega, by simp only [List.length_cons]; omega, y, ?_, h4⟩
      rw [show (lookGo xs (n + 1) (segOf x f).f (H ++ [(segOf x f).hs])).seg - n = (lookGo xs (n + 1) (segOf x f).f (H ++ [(segOf x f).hs])).seg - (n + 1) + 1 from by omega]
      simpa using h3
    · rw [lookGo_er he]
      refine ⟨Nat.le_refl _, by simp, x, by simp, ?_⟩
      have := (segGo_at x.day x.code 0 (segInit x.code.length) f [] he).2
      simpa [segOf] using this
/-- the same up to what goes wrong -/
theorem lookGo_first : ∀ (xs ys : List SegV) (n : Nat) (f : FoundV) (H : List (List Int)), (∀ x ∈ xs, 0 < x.code.length) → (lookGo xs n f H).er ≠ 0 → (lookGo xs n f H).er ≠ 141 → (∀ d, n + d < (lookGo xs n f H).seg → xs[d]? = ys[d]?) →
    (∃ x y, xs[(lookGo xs n f H).seg - n]? = some x ∧ ys[(lookGo xs n f H).seg - n]? = some y ∧ x.day = y.day ∧ x.code.length ≤ y.code.length ∧ ∀ j, j ≤ (lookGo xs n f H).at_ → x.code[j]? = y.code[j]?) →
    (lookGo ys n f H).er = (lookGo xs n f H).er ∧ (lookGo ys n f H).seg = (lookGo xs n f H).seg ∧ (lookGo ys n f H).at_ = (lookGo xs n f H).at_
  | [], ys, n, f, H, _, h, _, _, _ => absurd rfl h
  | x :: xs, ys, n, f, H, hpos, h, h141, hd, hs => by
    by_cases he : (segOf x f).er = 0
    · rw [lookGo_ok he] at h h141 hd hs ⊢
      obtain ⟨h1, h2, _⟩ := lookGo_seg xs _ _ _ h
      obtain ⟨ys', rfl⟩ : ∃ ys', ys = x :: ys' := by
        have := hd 0 (by omega)
        rcases ys with _ | ⟨y, ys'⟩
        · simp at this
        · simp at this; exact ⟨ys', by rw [this]⟩
      rw [lookGo_ok he]
      have e1 : (lookGo xs (n + 1) (segOf x f).f (H ++ [(segOf x f).hs])).seg - n = (lookGo xs (n + 1) (segOf x f).f (H ++ [(segOf x f).hs])).seg - (n + 1) + 1 := by omega
      refine lookGo_first xs ys' (n + 1) _ _ (fun z hz => hpos z (by simp [hz])) h h141 (fun d hd' => ?_) ?_
      · have := hd (d + 1) (by omega)
        simpa using this
      · obtain ⟨a, b, h3, h4, h5⟩ := hs
        rw [e1] at h3 h4
        exact ⟨a, b, by simpa using h3, by simpa using h4, h5⟩
    · rw [lookGo_er he] at h h141 hs ⊢
      obtain ⟨a, b, h3, h4, h5, h6, h7⟩ := hs
      simp at h3
      subst h3
      obtain ⟨ys', rfl⟩ : ∃ ys', ys = b :: ys' := by
        rcases ys with _ | ⟨y, ys'⟩
        · simp at h4
        · simp at h4; exact ⟨ys', by rw [h4]⟩
      have hp := hpos x (by simp)
      obtain ⟨e1, e2⟩ := segGo_first x.day x.code b.code 0 (segInit x.code.length) (segInit b.code.length) f f [] [] (ext_init h6 hp) (by simp [segInit]) he h141 (fun j hj => h7 j (by rw [Nat.zero_add] at hj; exact hj))
      have e1' : (segOf b f).er = (segOf x f).er := by unfold segOf; rw [← h5]; exact e1
      have e2' : (segOf b f).at_ = (segOf x f).at_ := by unfold segOf; rw [← h5]; exact e2
      rw [lookGo_er (by rw [e1']; exact he)]
      exact ⟨e1', rfl, e2'⟩
/-- the law's conclusion -/
theorem vd_first {p q : ProgV} (hq : CanonP q) (h1 : 141 < (vdOf p).er) (h2 : (vdOf p).er ≤ 146) (hd : ∀ d, d < (vdOf p).seg → p.days[d]? = q.days[d]?)
    (hs : ∃ x y, p.days[(vdOf p).seg]? = some x ∧ q.days[(vdOf p).seg]? = some y ∧ x.day = y.day ∧ x.code.length ≤ y.code.length ∧ ∀ j, j ≤ (vdOf p).at_ → x.code[j]? = y.code[j]?) :
    (vdOf q).er = (vdOf p).er ∧ (vdOf q).seg = (vdOf p).seg ∧ (vdOf q).at_ = (vdOf p).at_ := by
  by_cases hc : CanonP p
  · have hv : vdOf p = lookOf p := by
      rw [vdOf_c hc] at h1 h2 ⊢
      by_cases he : (lookOf p).er = 0
      · by_cases hn : NumsP p (lookOf p).f
        · rw [verC_ok he hn, he] at h1
          exact absurd h1 (by decide)
        · rw [verC_no he hn] at h2
          exact absurd (show (147 : Int) ≤ 146 from h2) (by decide)
      · exact verC_er he
    rw [hv] at h1 h2 hd hs ⊢
    have hpos : ∀ x ∈ p.days, 0 < x.code.length := fun x hx => by
      obtain ⟨i, hi, rfl⟩ := List.getElem_of_mem hx
      have := (hc.days i hi).code.1
      omega
    obtain ⟨e1, e2, e3⟩ := lookGo_first p.days q.days 0 found0 [] hpos (fun e => by rw [show lookGo p.days 0 found0 [] = lookOf p from rfl] at e; omega) (fun e => by rw [show lookGo p.days 0 found0 [] = lookOf p from rfl] at e; omega) (fun d hd' => hd d (by rw [Nat.zero_add] at hd'; exact hd')) (by simpa [lookOf] using hs)
    have hq2 : vdOf q = lookOf q := by rw [vdOf_c hq]; exact verC_er (by rw [show lookOf q = lookGo q.days 0 found0 [] from rfl, e1]; rw [show lookGo p.days 0 found0 [] = lookOf p from rfl]; omega)
    rw [hq2]
    exact ⟨e1, e2, e3⟩
  · rw [vdOf_no hc] at h1
    exact absurd (show (141 : Int) < 121 from h1) (by decide)
theorem vd_seg {p : ProgV} (h1 : 141 < (vdOf p).er) (h2 : (vdOf p).er ≤ 146) : ∃ x, p.days[(vdOf p).seg]? = some x ∧ (vdOf p).at_ < x.code.length := by
  by_cases hc : CanonP p
  · have hv : vdOf p = lookOf p := by
      rw [vdOf_c hc] at h1 h2 ⊢
      by_cases he : (lookOf p).er = 0
      · by_cases hn : NumsP p (lookOf p).f
        · rw [verC_ok he hn, he] at h1
          exact absurd h1 (by decide)
        · rw [verC_no he hn] at h2
          exact absurd (show (147 : Int) ≤ 146 from h2) (by decide)
      · exact verC_er he
    rw [hv] at h1 ⊢
    obtain ⟨_, _, x, h3, h4⟩ := lookGo_seg p.days 0 found0 [] (fun e => by rw [show lookGo p.days 0 found0 [] = lookOf p from rfl] at e; omega)
    exact ⟨x, by simpa [lookOf] using h3, h4⟩
  · rw [vdOf_no hc] at h1
    exact absurd (show (141 : Int) < 121 from h1) (by decide)
end Go.Proofs.YtkadamoofiddeaaDoor.Kit
-- VerifyPadded in plain words: a truth put and dropped ahead of a segment's end.
set_option linter.unusedVariables false
set_option linter.unusedSimpArgs false
namespace Go.Proofs.YtkadamoofiddeaaDoor.Kit
open Go.RowKit Go.Maps
def insB : InsV := ⟨2, 1, 0⟩
def insD : InsV := ⟨8, 0, 0⟩
def insE : InsV := ⟨0, 0, 0⟩
def padC (c : List InsV) : List InsV := c.take (c.length - 1) ++ [insB, insD, insE]
def padF (f : FoundV) : FoundV := ⟨max f.stack 1, f.fuel + 2, f.back, f.slots, f.cell⟩
theorem note_pad (f : FoundV) (x : InsV) (h : Int) : noteV (padF f) x h = padF (noteV f x h) := by
  unfold noteV padF
  congr 1
  · simp only; omega
  · simp only; omega
theorem segGo_padF (day : Int) : ∀ (xs : List InsV) (k : Nat) (L : List (Option StV)) (f : FoundV) (hs gs : List Int), (segGo day xs k L f hs).er = 0 → (segGo day xs k L (padF f) gs).er = 0 ∧ (segGo day xs k L (padF f) gs).f = padF (segGo day xs k L f hs).f
  | [], k, L, f, hs, gs, _ => ⟨rfl, rfl⟩
  | x :: xs, k, L, f, hs, gs, h => by
    rcases hj : (L[k]?).join with _ | s
    · rw [segGo_none hj] at h
      exact absurd (show (146 : Int) = 0 from h) (by decide)
    · have hk := join_some hj
      by_cases he : applyE x day s = 0
      · by_cases hh : (handV L (applyS x s) (toOf x k)).1 = 0
        · rw [segGo_ok hk he hh] at h ⊢
          rw [segGo_ok hk he hh, note_pad]
          exact segGo_padF day xs _ _ _ _ _ h
        · rw [segGo_hand hk he hh] at h
          exact absurd h hh
      · rw [segGo_app hk he] at h
        exact absurd h he
theorem lookGo_padF : ∀ (xs : List SegV) (n : Nat) (f : FoundV) (H G : List (List Int)), (lookGo xs n f H).er = 0 → (lookGo xs n (padF f) G).er = 0 ∧ (lookGo xs n (padF f) G).f = padF (lookGo xs n f H).f
  | [], n, f, H, G, _ => ⟨rfl, rfl⟩
  | x :: xs, n, f, H, G, h => by
    by_cases he : (segOf x f).er = 0
    · obtain ⟨e1, e2⟩ := segGo_padF x.day x.code 0 (segInit x.code.length) f [] [] he
      have e1' : (segOf x (padF f)).er = 0 := e1
      have e2' : (segOf x (padF f)).f = padF (segOf x f).f := e2
      rw [lookGo_ok he] at h ⊢
      rw [lookGo_ok e1', e2']
      exact lookGo_padF xs _ _ _ _ h
    · rw [lookGo_er he] at h
      exact absurd h he
theorem handV_one {M : List (Option StV)} {b : StV} {t : Nat} (ht : t < M.length) (hn : (M[t]?).join = none) : handV M b [t] = (0, M.set t (some b)) := by
  rw [handV_go (by rintro ⟨u, h1, h2⟩; simp at h1; omega), hand_no hn]
  rfl
theorem segGo_pad0 (day : Int) {k : Nat} {L M : List (Option StV)} {f : FoundV} {hs gs : List Int} (hE : ExtL L M) (hM : M.length = L.length + 2) (hk1 : k + 1 = L.length) (h : (segGo day [insE] k L f hs).er = 0) :
    (segGo day [insB, insD, insE] k M f gs).er = 0 ∧ (segGo day [insB, insD, insE] k M f gs).f = padF (segGo day [insE] k L f hs).f := by
  rcases hj : (L[k]?).join with _ | s
  · rw [segGo_none hj] at h
    exact absurd (show (146 : Int) = 0 from h) (by decide)
  have hk := join_some hj
  by_cases he : applyE insE day s = 0
  · have hst : s.stk = [] := by
      by_cases h0 : 0 < s.stk.length
      · rw [applyE, if_pos (.inr ⟨rfl, h0⟩)] at he
        exact absurd he (by decide)
      · exact List.length_eq_zero_iff.1 (by omega)
    have hkM : M[k]? = some (some s) := (hE.same k (by omega)).trans hk
    have hh : (handV L (applyS insE s) (toOf insE k)).1 = 0 := by
      rw [show toOf insE k = [] from rfl, handV_go (by rintro ⟨_, h1, _⟩; cases h1)]
      rfl
    rw [segGo_ok hk he hh]
    have b1 : applyE insB day s = 0 := by
      unfold applyE
      rw [if_neg (by rintro (h | h); · exact absurd h (by rw [show vTakes insB.op = 0 from rfl]; omega)
                     · exact absurd h.1 (by decide))]
      simp [vWrong, vWant, insB]
    have m1 : (M[k + 1]?).join = none := hE.more _ (by omega)
    have b2 := handV_one (M := M) (b := applyS insB s) (t := k + 1) (by omega) m1
    rw [segGo_ok hkM b1 (by rw [show toOf insB k = [k + 1] from rfl, b2]), show toOf insB k = [k + 1] from rfl, b2]
    simp only
    have hs1 : (applyS insB s) = ⟨[true], s.sl⟩ := by
      simp [applyS, insB, hst, show vTakes 2 = 0 from rfl, show vPuts 2 = 1 from rfl, vGives]
    have M1 : ((M.set (k + 1) (some (applyS insB s))).set k none)[k + 1]? = some (some ⟨[true], s.sl⟩) := by
      rw [List.getElem?_set_ne (by omega), List.getElem?_set_self (by omega), hs1]
    have M2 : (((M.set (k + 1) (some (applyS insB s))).set k none)[k + 1 + 1]?).join = none := by
      rw [List.getElem?_set_ne (by omega), List.getElem?_set_ne (by omega)]
      exact hE.more _ (by omega)
    have c1 : applyE insD day ⟨[true], s.sl⟩ = 0 := by
      unfold applyE
      rw [if_neg (by rintro (h | h); · exact absurd (show (1 : Nat) < 1 from h) (by decide)
                     · exact absurd h.1 (by decide))]
      simp [vWrong, vWant, insD]
    have c2 := handV_one (M := (M.set (k + 1) (some (applyS insB s))).set k none) (b := applyS insD ⟨[true], s.sl⟩) (t := k + 1 + 1) (by simp; omega) M2
    rw [segGo_ok M1 c1 (by rw [show toOf insD (k + 1) = [k + 1 + 1] from rfl, c2]), show toOf insD (k + 1) = [k + 1 + 1] from rfl, c2]
    simp only
    have hs2 : applyS insD ⟨[true], s.sl⟩ = ⟨[], s.sl⟩ := by
      simp [applyS, insD, show vTakes 8 = 1 from rfl, show vPuts 8 = 0 from rfl]
    have M3 : ((((M.set (k + 1) (some (applyS insB s))).set k none).set (k + 1 + 1) (some (applyS insD ⟨[true], s.sl⟩))).set (k + 1) none)[k + 1 + 1]? = some (some ⟨[], s.sl⟩) := by
      rw [List.getElem?_set_ne (by omega), List.getElem?_set_self (by simp; omega), hs2]
    have d1 : applyE insE day ⟨[], s.sl⟩ = 0 := by
      unfold applyE
      rw [if_neg (by rintro (h | h); · exact absurd (show (0 : Nat) < 0 from h) (by decide)
                     · exact absurd h.2 (by simp))]
      simp [vWrong, vWant, insE]
    rw [segGo_ok M3 d1 (by rw [show toOf insE (k + 1 + 1) = [] from rfl, handV_go (by rintro ⟨_, h1, _⟩; cases h1)]; rfl)]
    refine ⟨rfl, ?_⟩
    simp only [segGo]
    rw [hst]
    simp only [noteV, padF, insB, insD, insE, List.length_nil, List.length_cons]
    rw [FoundV.mk.injEq]
    refine ⟨?_, ?_, rfl, rfl, rfl⟩
    · simp only [Int.ofNat_zero]; omega
    · omega
  · rw [segGo_app hk he] at h
    exact absurd h he
theorem segGo_pad (day : Int) : ∀ (xs : List InsV) (k : Nat) (L M : List (Option StV)) (f : FoundV) (hs gs : List Int), ExtL L M → M.length = L.length + 2 → k + xs.length + 1 = L.length → (segGo day (xs ++ [insE]) k L f hs).er = 0 →
    (segGo day (xs ++ [insB, insD, insE]) k M f gs).er = 0 ∧ (segGo day (xs ++ [insB, insD, insE]) k M f gs).f = padF (segGo day (xs ++ [insE]) k L f hs).f
  | [], k, L, M, f, hs, gs, hE, hM, hl, h => segGo_pad0 day hE hM (by simpa using hl) h
  | x :: xs, k, L, M, f, hs, gs, hE, hM, hl, h => by
    rw [List.cons_append] at h ⊢
    have hkl : k < L.length := by simp at hl; omega
    have hMk := hE.same k hkl
    rcases hj : (L[k]?).join with _ | s
    · rw [segGo_none hj] at h
      exact absurd (show (146 : Int) = 0 from h) (by decide)
    · have hk := join_some hj
      have hkM := hMk.trans hk
      by_cases he : applyE x day s = 0
      · by_cases hh : (handV L (applyS x s) (toOf x k)).1 = 0
        · have hto : ¬ ∃ t ∈ toOf x k, L.length ≤ t := fun hto => by
            rw [handV_141 hto] at hh
            exact absurd hh (by decide)
          have hto2 : ¬ ∃ t ∈ toOf x k, M.length ≤ t := by
            rintro ⟨t, h1, h2⟩
            exact hto ⟨t, h1, Nat.le_trans hE.len h2⟩
          have hlt : ∀ t ∈ toOf x k, t < L.length := fun t ht => Nat.lt_of_not_le (fun hle => hto ⟨t, ht, hle⟩)
          obtain ⟨e1, e2⟩ := ExtL.hand (b := applyS x s) (toOf x k) L M hE hlt
          have eL := handV_go (b := applyS x s) hto
          have eM := handV_go (b := applyS x s) hto2
          have hhM : (handV M (applyS x s) (toOf x k)).1 = 0 := by rw [eM, ← e1, ← eL]; exact hh
          have hlen : (handV L (applyS x s) (toOf x k)).2.length = L.length := handV_len _ _ _
          have hlenM : (handV M (applyS x s) (toOf x k)).2.length = M.length := handV_len _ _ _
          rw [segGo_ok hk he hh] at h
          rw [List.cons_append, segGo_ok hkM he hhM, segGo_ok hk he hh]
          refine segGo_pad day xs (k + 1) _ _ _ _ _ ?_ ?_ ?_ h
          · rw [eL, eM]
            refine e2.set ?_ none
            rw [← eL, hlen]
            exact hkl
          · rw [List.length_set, List.length_set, hlen, hlenM, hM]
          · rw [List.length_set, hlen]
            simp at hl
            omega
        · rw [segGo_hand hk he hh] at h
          exact absurd h hh
      · rw [segGo_app hk he] at h
        exact absurd h he
/-- a code that ends as a canonical one does -/
def EndsE (c : List InsV) : Prop := ∃ xs, c = xs ++ [insE]
theorem segOf_pad {x : SegV} {f : FoundV} (hx : EndsE x.code) (h : (segOf x f).er = 0) : (segOf ⟨x.day, padC x.code⟩ f).er = 0 ∧ (segOf ⟨x.day, padC x.code⟩ f).f = padF (segOf x f).f := by
  obtain ⟨xs, e⟩ := hx
  obtain ⟨day, c⟩ := x
  simp only at e
  subst e
  have hp : padC (xs ++ [insE]) = xs ++ [insB, insD, insE] := by
    unfold padC
    rw [List.length_append, List.length_singleton, Nat.add_sub_cancel, List.take_left']
    rfl
  unfold segOf at h ⊢
  simp only at h ⊢
  rw [hp]
  refine segGo_pad day xs 0 _ _ f [] [] (ext_init (by simp) (by simp)) ?_ ?_ h
  · simp [segInit]
  · simp [segInit]
theorem lookGo_pad : ∀ (xs : List SegV) (i n : Nat) (f : FoundV) (H G : List (List Int)) (x : SegV), xs[i]? = some x → EndsE x.code → (lookGo xs n f H).er = 0 → (lookGo (xs.set i ⟨x.day, padC x.code⟩) n f G).er = 0 ∧ (lookGo (xs.set i ⟨x.day, padC x.code⟩) n f G).f = padF (lookGo xs n f H).f
  | [], i, n, f, H, G, x, hx, _, _ => by simp at hx
  | y :: ys, 0, n, f, H, G, x, hx, hE, h => by
    simp at hx
    subst hx
    by_cases he : (segOf y f).er = 0
    · obtain ⟨e1, e2⟩ := segOf_pad hE he
      rw [List.set_cons_zero, lookGo_ok e1, e2]
      rw [lookGo_ok he] at h ⊢
      exact lookGo_padF ys _ _ _ _ h
    · rw [lookGo_er he] at h
      exact absurd h he
  | y :: ys, i + 1, n, f, H, G, x, hx, hE, h => by
    by_cases he : (segOf y f).er = 0
    · rw [List.set_cons_succ, lookGo_ok he]
      rw [lookGo_ok he] at h ⊢
      exact lookGo_pad ys i _ _ _ _ x (by simpa using hx) hE h
    · rw [lookGo_er he] at h
      exact absurd h he
/-- the padded program -/
def padP (p : ProgV) (i : Nat) (x : SegV) : ProgV := ⟨p.names, p.curs, p.pool, p.horizon, p.cells, p.slots, max p.stack 1, p.days.set i ⟨x.day, padC x.code⟩⟩
theorem ends_of {p : ProgV} (hc : CanonP p) {i : Nat} {x : SegV} (hx : p.days[i]? = some x) : EndsE x.code := by
  obtain ⟨hi, rfl⟩ := List.getElem?_eq_some_iff.1 hx
  obtain ⟨h2, hg⟩ := (hc.days i hi).code
  have hl : p.days[i].code.length - 1 < p.days[i].code.length := by omega
  have hG := hg _ hl
  have h0 := hG.fin.2 (by omega)
  obtain ⟨hv1, hv2, hv3⟩ := hG.valid
  rw [h0] at hv2 hv3
  have ha : p.days[i].code[p.days[i].code.length - 1].a = 0 := by have : (kAt (0 : Int).toNat).a = 0 := by decide
                                                                  omega
  have hb : p.days[i].code[p.days[i].code.length - 1].b = 0 := by have : (kAt (0 : Int).toNat).b = 0 := by decide
                                                                  omega
  refine ⟨p.days[i].code.take (p.days[i].code.length - 1), ?_⟩
  have he : p.days[i].code[p.days[i].code.length - 1] = insE := by
    rcases hq : p.days[i].code[p.days[i].code.length - 1] with ⟨o, a, b⟩
    rw [hq] at h0 ha hb
    simp only at h0 ha hb
    rw [h0, ha, hb]
    rfl
  rw [← he]
  have := List.take_append_getElem (l := p.days[i].code) (i := p.days[i].code.length - 1) hl
  rw [this, List.take_of_length_le (by omega)]
theorem padC_length {c : List InsV} (h : EndsE c) : (padC c).length = c.length + 2 := by
  obtain ⟨xs, rfl⟩ := h
  simp [padC]
theorem sum_set {g : SegV → Nat} {y : SegV} : ∀ (l : List SegV) (i k : Nat) (x : SegV), l[i]? = some x → g y = g x + 2 → (((l.set i y).take k).map g).sum = ((l.take k).map g).sum + (if i < k then 2 else 0)
  | [], i, k, x, hx, _ => by simp at hx
  | z :: zs, i, 0, x, hx, _ => by simp
  | z :: zs, 0, k + 1, x, hx, hg => by
    simp at hx
    subst hx
    simp [hg]
    omega
  | z :: zs, i + 1, k + 1, x, hx, hg => by
    have := sum_set zs i k x (by simpa using hx) hg
    rw [List.set_cons_succ, List.take_succ_cons, List.map_cons, List.sum_cons, this, List.take_succ_cons, List.map_cons, List.sum_cons]
    by_cases h : i < k
    · rw [if_pos h, if_pos (by omega)]; omega
    · rw [if_neg h, if_neg (by omega)]; rfl
theorem codeLen_pad {p : ProgV} {i : Nat} {x : SegV} (hx : p.days[i]? = some x) (hE : EndsE x.code) (k : Nat) : codeLen (padP p i x) k = codeLen p k + (if i < k then 2 else 0) :=
  sum_set p.days i k x hx (padC_length hE)
theorem dayAhead_pad {p : ProgV} {i : Nat} {x : SegV} (hx : p.days[i]? = some x) (k : Nat) : dayAhead (padP p i x) k = dayAhead p k := by
  rcases k with _ | k
  · rfl
  · unfold dayAhead padP
    simp only
    by_cases e : i = k
    · subst e
      obtain ⟨hi, he⟩ := List.getElem?_eq_some_iff.1 hx
      rw [List.getElem?_set_self hi, hx]
      rfl
    · rw [List.getElem?_set_ne e]
theorem insP_pad {p : ProgV} {i : Nat} {x : SegV} {y : InsV} (h : InsP p y) : InsP (padP p i x) y := ⟨h.k, h.n, h.c, h.cells, h.slots⟩
theorem mem_pad {p : ProgV} {i : Nat} {x : SegV} (hx : p.days[i]? = some x) (hE : EndsE x.code) {y : InsV} (hy : y ∈ codeOf p p.days.length) (h0 : y.op ≠ 0) : y ∈ codeOf (padP p i x) (padP p i x).days.length := by
  unfold codeOf at hy ⊢
  rw [List.take_length] at hy ⊢
  obtain ⟨d, hd, hyd⟩ := List.mem_flatMap.1 hy
  obtain ⟨j, hj, rfl⟩ := List.getElem_of_mem hd
  by_cases e : i = j
  · subst e
    have hxe : p.days[i] = x := by obtain ⟨_, h⟩ := List.getElem?_eq_some_iff.1 hx; exact h
    rw [hxe] at hyd
    refine List.mem_flatMap.2 ⟨⟨x.day, padC x.code⟩, ?_, ?_⟩
    · show _ ∈ p.days.set i _
      exact List.mem_set hj _
    · obtain ⟨xs, ec⟩ := hE
      rw [ec] at hyd
      simp only [padC, ec]
      rcases List.mem_append.1 hyd with h | h
      · simp [h]
      · simp at h
        subst h
        exact absurd rfl h0
  · refine List.mem_flatMap.2 ⟨p.days[j], ?_, hyd⟩
    show _ ∈ p.days.set i _
    refine List.mem_iff_getElem?.2 ⟨j, ?_⟩
    rw [List.getElem?_set_ne e]
    exact List.getElem?_eq_getElem hj
theorem named_pad {p : ProgV} {i : Nat} {x : SegV} (hx : p.days[i]? = some x) (hE : EndsE x.code) {n : Nat} {o : Int} (ho : o ≠ 0) (h : ∀ b ∈ namedBy n o (codeOf p p.days.length), b = true) : ∀ b ∈ namedBy n o (codeOf (padP p i x) (padP p i x).days.length), b = true := by
  intro b hb
  unfold namedBy at hb h
  obtain ⟨k, hk, rfl⟩ := List.mem_map.1 hb
  have := h _ (List.mem_map.2 ⟨k, hk, rfl⟩)
  obtain ⟨y, hy, hc⟩ := List.any_eq_true.1 this
  refine List.any_eq_true.2 ⟨y, mem_pad hx hE hy (fun e => ?_), hc⟩
  simp at hc
  exact ho (hc.1.symm.trans e)
theorem goodI_pad {p : ProgV} {i n k : Nat} {x : SegV} {y : InsV} (h : GoodI p n k y) : GoodI (padP p i x) n k y := ⟨h.valid, h.fin, insP_pad h.ins⟩
theorem dayP_pad {p q : ProgV} {c : List InsV} (h : DayP p c) (hE : EndsE c) (hi : ∀ y, InsP p y → InsP q y) : DayP q (padC c) := by
  obtain ⟨xs, rfl⟩ := hE
  have hp : padC (xs ++ [insE]) = xs ++ [insB, insD, insE] := by
    unfold padC
    rw [List.length_append, List.length_singleton, Nat.add_sub_cancel, List.take_left']
    rfl
  rw [hp]
  refine ⟨by simp, fun k hk => ?_⟩
  obtain ⟨h2, hg⟩ := h
  simp at hk
  by_cases hkx : k < xs.length
  · have hG := hg k (by simp; omega)
    rw [List.getElem_append_left hkx] at hG ⊢
    refine ⟨hG.valid, ?_, hi _ hG.ins⟩
    have := hG.fin
    simp at this ⊢
    rw [this]
    omega
  · rw [List.getElem_append_right (by omega)]
    have hk3 : k = xs.length ∨ k = xs.length + 1 ∨ k = xs.length + 2 := by omega
    rcases hk3 with rfl | rfl | rfl
    · simp only [Nat.sub_self, List.getElem_cons_zero]
      exact ⟨by decide, by simp [insB], ⟨by simp [insB], by simp [insB], by simp [insB], by simp [insB], by simp [insB]⟩⟩
    · simp only [Nat.add_sub_cancel_left, List.getElem_cons_succ, List.getElem_cons_zero]
      exact ⟨by decide, by simp [insD], ⟨by simp [insD], by simp [insD], by simp [insD], by simp [insD], by simp [insD]⟩⟩
    · simp only [Nat.add_sub_cancel_left, List.getElem_cons_succ, List.getElem_cons_zero]
      exact ⟨by decide, by simp [insE], ⟨by simp [insE], by simp [insE], by simp [insE], by simp [insE], by simp [insE]⟩⟩
theorem take_sum_le (g : SegV → Nat) : ∀ (l : List SegV) (a : Nat), ((l.take a).map g).sum ≤ (l.map g).sum
  | [], a => by simp
  | z :: zs, 0 => by simp
  | z :: zs, a + 1 => by
    rw [List.take_succ_cons, List.map_cons, List.sum_cons, List.map_cons, List.sum_cons]
    have := take_sum_le g zs a
    omega
theorem canon_pad {p : ProgV} (hc : CanonP p) {i : Nat} {x : SegV} (hx : p.days[i]? = some x) : CanonP (padP p i x) ↔ codeLen p p.days.length + 2 ≤ 262144 := by
  have hE := ends_of hc hx
  obtain ⟨hi, hxe⟩ := List.getElem?_eq_some_iff.1 hx
  have mono : ∀ a b, a ≤ b → codeLen p a ≤ codeLen p b := by
    intro a b hab
    unfold codeLen
    have : p.days.take a = (p.days.take b).take a := by rw [List.take_take, Nat.min_eq_left hab]
    rw [this]
    exact take_sum_le _ _ _
  constructor
  · intro h
    have hl : (padP p i x).days.length = p.days.length := by simp [padP]
    have := (h.days (p.days.length - 1) (by rw [hl]; omega)).len
    rw [show p.days.length - 1 + 1 = p.days.length from by omega, codeLen_pad hx hE, if_pos hi] at this
    exact this
  · intro h
    refine ⟨⟨hc.lists.ln, hc.lists.lc, hc.lists.lk, hc.lists.rn, hc.lists.rc, hc.lists.rk, hc.lists.names, hc.lists.curs, hc.lists.horizon, hc.lists.cells, hc.lists.slots, ?_⟩, fun j hj => ?_, named_pad hx hE (by decide) hc.names, named_pad hx hE (by decide) hc.curs, named_pad hx hE (by decide) hc.pool⟩
    · have := hc.lists.stack
      show 0 ≤ max p.stack 1 ∧ max p.stack 1 ≤ 16384
      omega
    · have hj' : j < p.days.length := by simpa [padP] using hj
      have G := hc.days j hj'
      have hlen : codeLen (padP p i x) (j + 1) ≤ 262144 := by
        rw [codeLen_pad hx hE]
        have := mono (j + 1) p.days.length (by omega)
        split <;> omega
      by_cases e : i = j
      · subst e
        have hd : (padP p i x).days[i] = ⟨x.day, padC x.code⟩ := by simp [padP]
        rw [hd]
        rw [hxe] at G
        exact ⟨by rw [dayAhead_pad hx]; exact G.up, G.le, hlen, dayP_pad G.code hE fun y hy => insP_pad hy⟩
      · have hd : (padP p i x).days[j] = p.days[j] := by simp [padP, List.getElem_set_ne e]
        rw [hd]
        exact ⟨by rw [dayAhead_pad hx]; exact G.up, G.le, hlen, G.code.1, fun k hk => goodI_pad (G.code.2 k hk)⟩
theorem foldN_fuel : ∀ (xs : List InsV) (hs : List Int) (f : FoundV), hs.length = xs.length → (foldN f xs hs).fuel = f.fuel + (xs.length : Int)
  | [], hs, f, _ => by cases hs <;> simp [foldN]
  | x :: xs, [], f, h => by simp at h
  | x :: xs, y :: ys, f, h => by
    rw [foldN, foldN_fuel xs ys _ (by simpa using h)]
    simp only [noteV, List.length_cons]
    omega
theorem foldD_fuel : ∀ (xs : List SegV) (H : List (List Int)) (f : FoundV), H.length = xs.length → (∀ (i : Nat) (x : SegV) (l : List Int), xs[i]? = some x → H[i]? = some l → l.length = x.code.length) → (foldD f xs H).fuel = f.fuel + (((xs.map fun x => x.code.length).sum : Nat) : Int)
  | [], H, f, _, _ => by cases H <;> simp [foldD]
  | x :: xs, [], f, h, _ => by simp at h
  | x :: xs, y :: ys, f, h, hl => by
    rw [foldD, foldD_fuel xs ys _ (by simpa using h) (fun i z l h1 h2 => hl (i + 1) z l (by simpa using h1) (by simpa using h2)), foldN_fuel _ _ _ (hl 0 x y rfl rfl)]
    simp only [List.map_cons, List.sum_cons]
    omega
theorem vd_fuel {p : ProgV} (h : (vdOf p).er = 0) : (vdOf p).f.fuel = (codeLen p p.days.length : Int) := by
  obtain ⟨e1, e2, e3⟩ := vd_fold h
  rw [e3, foldD_fuel _ _ _ e1 e2]
  simp [found0, codeLen]
/-- the law's conclusion -/
theorem vd_pad {p : ProgV} (h : (vdOf p).er = 0) {i : Nat} {x : SegV} (hx : p.days[i]? = some x) (hc : CanonP (padP p i x)) : (vdOf (padP p i x)).er = 0 ∧ prfOf (padP p i x) = padF (prfOf p) ∧ (prfOf p).stack = p.stack := by
  obtain ⟨_, _, hcp, hl, hn⟩ := vdOf_0 h
  have h' : (lookOf p).er = 0 := by rw [hl]; exact h
  obtain ⟨e1, e2⟩ := lookGo_pad p.days i 0 found0 [] [] x hx (ends_of hcp hx) h'
  have e1' : (lookOf (padP p i x)).er = 0 := e1
  have e2' : (lookOf (padP p i x)).f = padF (lookOf p).f := e2
  rw [← hl] at hn
  have hN : NumsP (padP p i x) (lookOf (padP p i x)).f := by
    rw [e2']
    exact ⟨by show max p.stack 1 = max _ 1; rw [hn.1], hn.2.1, hn.2.2⟩
  have hv : vdOf (padP p i x) = lookOf (padP p i x) := by rw [vdOf_c hc, verC_ok e1' hN]
  refine ⟨by rw [hv]; exact e1', ?_, ?_⟩
  · unfold prfOf
    rw [if_pos h, if_pos (by rw [hv]; exact e1'), hv, e2', hl]
  · unfold prfOf
    rw [if_pos h, ← hl]
    exact hn.1.symm
end Go.Proofs.YtkadamoofiddeaaDoor.Kit
-- The law's comparison of two codes (sameCode).
set_option linter.unusedVariables false
set_option linter.unusedSimpArgs false
namespace Go.Proofs.YtkadamoofiddeaaDoor.Kit
open Go.RowKit Go.Maps
theorem insCells_take (l : List InsV) (n : Nat) : insCells (l.take n) = (insCells l).take (n * 3) := by
  induction l generalizing n with
  | nil => simp [insCells]
  | cons x xs ih =>
    rcases n with _ | n
    · simp [insCells]
    · rw [List.take_succ_cons]
      show [_, _, _] ++ insCells (xs.take n) = ([_, _, _] ++ insCells xs).take _
      rw [ih n, show (n + 1) * 3 = n * 3 + 1 + 1 + 1 from by omega]
      rfl
theorem rdG_take {w : World} {A : Option Addr} {l : List InsV} (h : RdG w A (insCells l)) (n : Nat) : RdG w A (insCells (l.take n)) := fun j u hu => by
  rw [insCells_take, List.getElem?_take] at hu
  split at hu
  · exact h j u hu
  · cases hu
/-- The world with only draws taken. -/
def Drw (w w' : World) : Prop := ∃ m, w' = w.drewN m
theorem Drw.refl (w : World) : Drw w w := ⟨0, rfl⟩
theorem Drw.drewN {w w' : World} (h : Drw w w') (n : Nat) : Drw w (w'.drewN n) := by
  obtain ⟨m, rfl⟩ := h
  exact ⟨m + n, by rw [World.drewN_drewN]⟩
theorem Drw.chg {w w' : World} (h : Drw w w') : Chg (fun _ => False) w w' := by
  obtain ⟨m, rfl⟩ := h
  exact (Chg.refl _ w).drewN _
set_option maxRecDepth 100000 in
set_option maxHeartbeats 1600000 in
theorem vSameCode {w : World} {A1 A2 : Option Addr} {n1 c1 n2 c2 : Nat} {l m : List InsV} {b : Bool} (h1 : Hid (RdG w A1 (insCells l))) (h2 : Hid (RdG w A2 (insCells m))) (L1 : Hid (l.length = n1)) (L2 : Hid (m.length = n2)) (hn : n1 ≤ 10000000000000) (hb : Hid (b = true ↔ l = m)) :
    Calls Tryd.prog 18 #[.slice A1 n1 c1, .slice A2 n2 c2] w fun e w' => e = .returned (.bool b) ∧ Hid (Drw w w') := by
  by_cases hl : n1 = n2
  · subst hl
    go_enter Tryd.func18, Tryd.ntmps18
    go_wp2_with fail
    go_loopw [5] (fun v wr => ∃ k : Nat, v = .int .i64 (k : Int) ∧ k ≤ n1 ∧ Hid (∀ j, j < k → l[j]? = m[j]?) ∧ Hid (Drw w wr)) (fun v _ => n1 - (intOf v).toNat)
    case atStart => exact ⟨0, rfl, Nat.zero_le _, fun j hj => absurd hj (by omega), Drw.refl _⟩
    case round =>
      obtain ⟨k, rfl, hk, HQ, HC⟩ := hrel
      by_cases hkn : k < n1
      · have k1 : k < l.length := by rw [L1.out]; exact hkn
        have k2 : k < m.length := by rw [L2.out]; exact hkn
        obtain ⟨x, hx⟩ : ∃ x, l[k]? = some x := ⟨_, List.getElem?_eq_getElem k1⟩
        obtain ⟨y, hy⟩ : ∃ y, m[k]? = some y := ⟨_, List.getElem?_eq_getElem k2⟩
        obtain ⟨_, hxe⟩ := List.getElem?_eq_some_iff.1 hx
        obtain ⟨_, hye⟩ := List.getElem?_eq_some_iff.1 hy
        obtain ⟨j0, j1, j2⟩ := insCells_get l k k1
        obtain ⟨i0, i1, i2⟩ := insCells_get m k k2
        rw [hxe] at j0 j1 j2
        rw [hye] at i0 i1 i2
        obtain ⟨a1, e1, hc1⟩ := (h1.out.chg0 HC.out.chg) _ _ j0
        obtain ⟨a2, e2, hc2⟩ := (h1.out.chg0 HC.out.chg) _ _ j1
        obtain ⟨a3, e3, hc3⟩ := (h1.out.chg0 HC.out.chg) _ _ j2
        subst e1
        cases e2
        cases e3
        obtain ⟨b1, e1, hd1⟩ := (h2.out.chg0 HC.out.chg) _ _ i0
        obtain ⟨b2, e2, hd2⟩ := (h2.out.chg0 HC.out.chg) _ _ i1
        obtain ⟨b3, e3, hd3⟩ := (h2.out.chg0 HC.out.chg) _ _ i2
        subst e1
        cases e2
        cases e3
        rw [← add1] at hc2 hd2
        rw [← add2] at hc3 hd3
        have i3 : (0 : Int) ≤ (k : Int) := by omega
        have i4 : (k : Int) < (n1 : Int) := by omega
        have HX := Lib.hid hx
        have HY := Lib.hid hy
        obtain ⟨o1, p1, q1⟩ := x
        obtain ⟨o2, p2, q2⟩ := y
        simp only at hc1 hc2 hc3 hd1 hd2 hd3
        clear hx hy hxe hye j0 j1 j2 i0 i1 i2 k1 k2
        by_cases hxx : (⟨o1, p1, q1⟩ : InsV) = ⟨o2, p2, q2⟩
        · injection hxx with x1 x2 x3
          subst x1 x2 x3
          go_wp2_with fail
          go_quiet (fail)
          go_wp2_with fail
          go_roundw
          case rel =>
            refine ⟨k + 1, by congr 1, by omega, fun j hj => ?_, HC.out.drewN _⟩
            rcases Nat.lt_or_ge j k with h | h
            · exact HQ.out j h
            · rw [show j = k from by omega, HX.out, HY.out]
          case measure => exact meas_lt hkn
        · have HB : Hid (false = b) := by
            cases b
            · rfl
            · have := hb.out.1 rfl
              have e := HX.out
              rw [this, HY.out] at e
              injection e with e
              exact absurd e.symm hxx
          by_cases y1 : o1 = o2
          · subst y1
            by_cases y2 : p1 = p2
            · subst y2
              have y3 : q1 ≠ q2 := fun e => hxx (by rw [e])
              have y4 : (q1 == q2) = false := by simpa using y3
              have y5 : ¬ q1 = q2 := y3
              clear hxx
              go_wp2_with fail
              go_quiet (fail)
              go_wp2_with fail
              go_ret
              exact ⟨ret_bool HB.out, HC.out.drewN _⟩
            · have y4 : (p1 == p2) = false := by simpa using y2
              clear hxx
              go_wp2_with fail
              go_quiet (fail)
              go_wp2_with fail
              go_ret
              exact ⟨ret_bool HB.out, HC.out.drewN _⟩
          · have y4 : (o1 == o2) = false := by simpa using y1
            clear hxx
            go_wp2_with fail
            go_quiet (fail)
            go_wp2_with fail
            go_ret
            exact ⟨ret_bool HB.out, HC.out.drewN _⟩
      · obtain rfl : k = n1 := by omega
        have HB : Hid (true = b) := by
          have : l = m := by
            apply List.ext_getElem?
            intro i
            by_cases hi : i < k
            · exact HQ.out i hi
            · rw [List.getElem?_eq_none (by rw [L1.out]; omega), List.getElem?_eq_none (by rw [L2.out]; omega)]
          exact (hb.out.2 this).symm
        have i1 : ¬ ((k : Int) < (k : Int)) := by omega
        go_wp2_with fail
        go_ret
        exact ⟨ret_bool HB.out, HC.out⟩
  · have HB : Hid (false = b) := by
      cases b
      · rfl
      · have := hb.out.1 rfl
        exact absurd (by rw [← L1.out, ← L2.out, this]) hl
    have hn2 : ¬ ((n1 : Int) = (n2 : Int)) := by omega
    have hn1 : ((n1 : Int) != (n2 : Int)) = true := by simpa using hn2
    go_enter Tryd.func18, Tryd.ntmps18
    go_wp2_with fail
    go_ret
    exact ⟨ret_bool HB.out, Drw.refl _⟩
end Go.Proofs.YtkadamoofiddeaaDoor.Kit
