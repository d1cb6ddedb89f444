/- Texts that the row leans on: PvM, PvN, PvO, PvP, PvQ, PvS, PvX, PvY. -/
import Derived.Test.YtkadamoofiddeaaDoorProg
import Derived.Test.YtkadamoofiddeaaDoorQVerifyWaysag
-- verify: verified, Verify, Heights.
set_option linter.unusedVariables false
set_option linter.unusedSimpArgs false
namespace Go.Proofs.YtkadamoofiddeaaDoor.Kit
open Go.RowKit Go.Maps
open Classical in
/-- what comes of a program -/
noncomputable def vdOf (p : ProgV) : LookR := if CanonP p then verC p else ⟨121, 0, 0, found0, []⟩
theorem vdOf_no {p : ProgV} (h : ¬ CanonP p) : vdOf p = ⟨121, 0, 0, found0, []⟩ := by rw [vdOf, if_neg h]
theorem vdOf_c {p : ProgV} (h : CanonP p) : vdOf p = verC p := by rw [vdOf, if_pos h]
theorem verC_er {p : ProgV} (h : (lookOf p).er ≠ 0) : verC p = lookOf p := by rw [verC, if_pos h]
theorem verC_ok {p : ProgV} (h : (lookOf p).er = 0) (hn : NumsP p (lookOf p).f) : verC p = lookOf p := by rw [verC, if_neg (fun h1 => h1 h), if_pos hn]
theorem verC_no {p : ProgV} (h : (lookOf p).er = 0) (hn : ¬ NumsP p (lookOf p).f) : verC p = ⟨147, p.days.length, 0, (lookOf p).f, (lookOf p).H⟩ := by rw [verC, if_neg (fun h1 => h1 h), if_neg hn]
theorem canon_er (p : ProgV) : ∃ er, canonE p er ∧ (er = 0 ↔ CanonP p) := by
  by_cases h : CanonP p
  · exact ⟨0, ⟨fun _ => rfl, fun h1 => absurd h h1⟩, ⟨fun _ => h, fun _ => rfl⟩⟩
  · exact ⟨121, ⟨fun h1 => absurd h1 h, fun _ => rfl⟩, ⟨fun h1 => absurd h1 (by decide), fun h1 => absurd h1 h⟩⟩
theorem lookGo_0 : ∀ (l : List SegV) (n : Nat) (f : FoundV) (H : List (List Int)), (lookGo l n f H).er = 0 → (lookGo l n f H).seg = 0 ∧ (lookGo l n f H).at_ = 0
  | [], _, _, _, _ => ⟨rfl, rfl⟩
  | x :: xs, n, f, H, h => by
    by_cases he : (segOf x f).er = 0
    · rw [lookGo_ok he] at h ⊢
      exact lookGo_0 xs _ _ _ h
    · rw [lookGo_er he] at h
      exact absurd h he
theorem RdH.lower {w : World} {B B' : Nat} {hv : Value} {H : List (List Int)} {vs : List Value} (h : RdH w B hv H vs) (hB : B' ≤ B) : RdH w B' hv H vs := ⟨h.own, h.row, fun k hk => Nat.le_trans hB (h.geo k hk)⟩
set_option maxRecDepth 100000 in
set_option maxHeartbeats 3200000 in
theorem vVerified {s : ProgS} {p : ProgV} {w : World} (hp : Hid (RdProg w s p)) (ok : Hid (ProgOk p)) (hG : Hid (Glob w w.heap.size)) :
    Calls Tryd.prog 35 #[progVal s p] w fun e w' => ∃ ptr, e = .returned (.tuple #[.pointer ptr, .int .i64 ((vdOf p).seg : Int), .int .i64 ((vdOf p).at_ : Int), .int .i64 (vdOf p).er]) ∧ Hid (Chg (fun _ => False) w w') ∧
      Hid ((vdOf p).er = 0 → ∃ gF hv vs, ptr = some ⟨gF, 0, none⟩ ∧ Blk w' gF 75 (fCells (vdOf p).f hv) ∧ RdH w' w.heap.size hv (vdOf p).H vs ∧ w.heap.size ≤ gF) := by
  obtain ⟨n1, n2, n3, n4, A1, A2, A3, A4, c1, c2, c3, c4, HP0⟩ := hp.out.apart
  have HP := Lib.hid HP0
  obtain ⟨i1, hi1⟩ : ∃ x, x = p.horizon := ⟨_, rfl⟩
  obtain ⟨i2, hi2⟩ : ∃ x, x = p.cells := ⟨_, rfl⟩
  obtain ⟨i3, hi3⟩ : ∃ x, x = p.slots := ⟨_, rfl⟩
  obtain ⟨i4, hi4⟩ : ∃ x, x = p.stack := ⟨_, rfl⟩
  have EQ2 : Hid (progVal s p = .agg #[.slice A1 n1 c1, .slice A2 n2 c2, .slice A3 n3 c3, .int .i64 i1, .int .i64 i2, .int .i64 i3, .int .i64 i4, .slice A4 n4 c4]) := by rw [Hid, HP0.eq, hi1, hi2, hi3, hi4]
  rw [EQ2.out]
  have LD := Lib.hid HP0.ld
  have HI2 := Lib.hid hi2
  have HI3 := Lib.hid hi3
  have HI4 := Lib.hid hi4
  clear hi1 hi2 hi3 hi4 HP0
  obtain ⟨w0, hw0⟩ : ∃ x, x = w.alloc (.cells #[.slice A1 n1 c1, .slice A2 n2 c2, .slice A3 n3 c3, .int .i64 i1, .int .i64 i2, .int .i64 i3, .int .i64 i4, .slice A4 n4 c4] 26) := ⟨_, rfl⟩
  obtain ⟨g1, hg1⟩ : ∃ x, x = w.heap.size := ⟨_, rfl⟩
  have C0 : Hid (Chg (fun _ => False) w w0) := by rw [hw0]; exact (Chg.refl _ w).alloc _
  have B1 : Hid (Blk w0 g1 26 [.slice A1 n1 c1, .slice A2 n2 c2, .slice A3 n3 c3, .int .i64 i1, .int .i64 i2, .int .i64 i3, .int .i64 i4, .slice A4 n4 c4]) := by rw [hw0, hg1]; exact Blk.new _ _ _
  obtain ⟨ce, hce, hce2⟩ := canon_er p
  have HCE := Lib.hid hce
  have HCE2 := Lib.hid hce2
  have f0 := B1.out.at_ (i := 0) rfl
  have f1 := B1.out.at_ (i := 1) rfl
  have f2 := B1.out.at_ (i := 2) rfl
  have f3 := B1.out.at_ (i := 3) rfl
  have f4 := B1.out.at_ (i := 4) rfl
  have f5 := B1.out.at_ (i := 5) rfl
  have f6 := B1.out.at_ (i := 6) rfl
  have f7 := B1.out.at_ (i := 7) rfl
  clear hce hce2
  go_enter Tryd.func35, Tryd.ntmps35
  go_upto_region 1 with fail
  rw [← hw0, ← hg1]
  clear hw0 hg1
  go_wp2_with fail
  refine (show Calls Tryd.prog 10 #[.agg #[.slice A1 n1 c1, .slice A2 n2 c2, .slice A3 n3 c3, .int .i64 i1, .int .i64 i2, .int .i64 i3, .int .i64 i4, .slice A4 n4 c4]] _ _ from by rw [← EQ2.out]; exact imageCanon (Lib.hid (hp.out.chg0 C0.out)) ok (Lib.hid (hG.out.chg0 C0.out).k) HCE).mono ?_
  rintro e w1 ⟨rfl, C1⟩
  have C01 : Hid (Chg (fun _ => False) w w1) := C0.out.trans C1 (fun _ _ h => h)
  have B11 : Hid (Blk w1 g1 26 [.slice A1 n1 c1, .slice A2 n2 c2, .slice A3 n3 c3, .int .i64 i1, .int .i64 i2, .int .i64 i3, .int .i64 i4, .slice A4 n4 c4]) := B1.out.chg C1 (fun h => h)
  clear f0 f1 f2 f3 f4 f5 f6 f7 C1
  by_cases hc0 : ce = 0
  · subst hc0
    have HC : Hid (CanonP p) := HCE2.out.1 rfl
    have f0 := B11.out.at_ (i := 0) rfl
    have f1 := B11.out.at_ (i := 1) rfl
    have f2 := B11.out.at_ (i := 2) rfl
    have f3 := B11.out.at_ (i := 3) rfl
    have f4 := B11.out.at_ (i := 4) rfl
    have f5 := B11.out.at_ (i := 5) rfl
    have f6 := B11.out.at_ (i := 6) rfl
    have f7 := B11.out.at_ (i := 7) rfl
    go_wp2_with fail
    have G1 : Hid (Glob w1 w1.heap.size) := hG.out.later C01.out C01.out.size (Nat.le_refl _)
    refine (show Calls Tryd.prog 60 #[.agg #[.slice A1 n1 c1, .slice A2 n2 c2, .slice A3 n3 c3, .int .i64 i1, .int .i64 i2, .int .i64 i3, .int .i64 i4, .slice A4 n4 c4]] _ _ from by rw [← EQ2.out]; exact vLook (Lib.hid (hp.out.chg0 C01.out)) ok HC G1).mono ?_
    rintro e w2 ⟨gF, rfl, C2, RL⟩
    have C02 : Hid (Chg (fun _ => False) w w2) := C01.out.trans C2.out (fun _ _ h => h)
    have B12 : Hid (Blk w2 g1 26 [.slice A1 n1 c1, .slice A2 n2 c2, .slice A3 n3 c3, .int .i64 i1, .int .i64 i2, .int .i64 i3, .int .i64 i4, .slice A4 n4 c4]) := B11.out.chg C2.out (fun h => h)
    obtain ⟨R, hR⟩ : ∃ z, z = lookOf p := ⟨_, rfl⟩
    rw [← hR] at RL ⊢
    have HR := Lib.hid hR
    obtain ⟨er, sg, atp, f, H⟩ := R
    simp only at RL ⊢
    clear f0 f1 f2 f3 f4 f5 f6 f7 hR
    by_cases he : er = 0
    · subst he
      obtain ⟨hv, vs, BF, RH, GE⟩ := RL.out rfl
      obtain ⟨st, fu, ba, sl, cl⟩ := f
      have p0 := BF.at_ (i := 0) rfl
      have p4 := BF.at_ (i := 4) rfl
      have p5 := BF.at_ (i := 5) rfl
      have f4 := B12.out.at_ (i := 4) rfl
      have f5 := B12.out.at_ (i := 5) rfl
      have f6 := B12.out.at_ (i := 6) rfl
      have f7 := B12.out.at_ (i := 7) rfl
      have BF2 := Lib.hid BF
      have RH2 := Lib.hid RH
      have GE2 := Lib.hid (Nat.le_trans C01.out.size GE)
      have hLe : Hid ((lookOf p).er = 0) := by rw [← HR.out]; rfl
      clear BF RH GE RL
      by_cases h6 : i4 = st
      · subst h6
        by_cases h5 : i3 = sl
        · subst h5
          by_cases h4 : i2 = cl
          · subst h4
            have HV : Hid (vdOf p = ⟨0, sg, atp, ⟨i4, fu, ba, i3, i2⟩, H⟩) := by
              rw [Hid, vdOf_c HC.out, verC_ok hLe.out (by rw [← HR.out]; exact ⟨HI4.out.symm, HI3.out.symm, HI2.out.symm⟩), HR.out]
            have HS : Hid (sg = 0 ∧ atp = 0) := by
              have := lookGo_0 p.days 0 found0 [] hLe.out
              rw [show lookGo p.days 0 found0 [] = lookOf p from rfl, ← HR.out] at this
              exact this
            go_wp2_with fail
            go_quiet (fail)
            go_wp2_with fail
            go_quiet (fail)
            go_wp2_with fail
            go_quiet (fail)
            go_wp2_with fail
            refine bodyPost_ret (v := .tuple #[.pointer (some ⟨gF, 0, none⟩), .int .i64 0, .int .i64 0, .int .i64 0]) (by simp [results, Tryd.results35, go_sem]) rfl ⟨some ⟨gF, 0, none⟩, by rw [HV.out]; rw [HS.out.1, HS.out.2]; try rfl, (by repeat (first | exact C02.out | refine Chg.drew ?_ | refine Chg.drewN ?_ _)), fun _ => ⟨gF, hv, vs, rfl, by rw [HV.out]; exact BF2.out, by rw [HV.out]; exact (RH2.out.chg0 (by repeat (first | exact Chg.refl _ _ | refine Chg.drew ?_ | refine Chg.drewN ?_ _))).lower C01.out.size, GE2.out⟩⟩
          · have HV : Hid (vdOf p = ⟨147, p.days.length, 0, ⟨i4, fu, ba, i3, cl⟩, H⟩) := by
              rw [Hid, vdOf_c HC.out, verC_no hLe.out (by rw [← HR.out]; rintro ⟨x1, x2, x3⟩; exact h4 (HI2.out.trans x3)), ← HR.out]
            have hne : (i2 != cl) = true := by simpa using h4
            clear h4
            go_wp2_with fail
            go_quiet (fail)
            go_wp2_with fail
            go_quiet (fail)
            go_wp2_with fail
            go_quiet (fail)
            go_wp2_with fail
            go_quiet (fail)
            go_wp2_with fail
            refine bodyPost_ret (v := .tuple #[.pointer none, .int .i64 (n4 : Int), .int .i64 0, .int .i64 147]) (by simp [results, Tryd.results35, go_sem]) rfl ⟨none, by rw [HV.out, LD.out]; try rfl, (by repeat (first | exact C02.out | refine Chg.drew ?_ | refine Chg.drewN ?_ _)), fun h => absurd ((congrArg LookR.er HV.out).symm.trans h) (by simp)⟩
        · have HV : Hid (vdOf p = ⟨147, p.days.length, 0, ⟨i4, fu, ba, sl, cl⟩, H⟩) := by
            rw [Hid, vdOf_c HC.out, verC_no hLe.out (by rw [← HR.out]; rintro ⟨x1, x2, x3⟩; exact h5 (HI3.out.trans x2)), ← HR.out]
          have hne : (i3 != sl) = true := by simpa using h5
          clear h5
          go_wp2_with fail
          go_quiet (fail)
          go_wp2_with fail
          go_quiet (fail)
          go_wp2_with fail
          go_quiet (fail)
          go_wp2_with fail
          refine bodyPost_ret (v := .tuple #[.pointer none, .int .i64 (n4 : Int), .int .i64 0, .int .i64 147]) (by simp [results, Tryd.results35, go_sem]) rfl ⟨none, by rw [HV.out, LD.out]; try rfl, (by repeat (first | exact C02.out | refine Chg.drew ?_ | refine Chg.drewN ?_ _)), fun h => absurd ((congrArg LookR.er HV.out).symm.trans h) (by simp)⟩
      · have HV : Hid (vdOf p = ⟨147, p.days.length, 0, ⟨st, fu, ba, sl, cl⟩, H⟩) := by
          rw [Hid, vdOf_c HC.out, verC_no hLe.out (by rw [← HR.out]; rintro ⟨x1, x2, x3⟩; exact h6 (HI4.out.trans x1)), ← HR.out]
        have hne : (i4 != st) = true := by simpa using h6
        clear h6
        go_wp2_with fail
        go_quiet (fail)
        go_wp2_with fail
        go_quiet (fail)
        go_wp2_with fail
        refine bodyPost_ret (v := .tuple #[.pointer none, .int .i64 (n4 : Int), .int .i64 0, .int .i64 147]) (by simp [results, Tryd.results35, go_sem]) rfl ⟨none, by rw [HV.out, LD.out]; try rfl, (by repeat (first | exact C02.out | refine Chg.drew ?_ | refine Chg.drewN ?_ _)), fun h => absurd ((congrArg LookR.er HV.out).symm.trans h) (by simp)⟩
    · have HV : Hid (vdOf p = ⟨er, sg, atp, f, H⟩) := by
        rw [Hid, vdOf_c HC.out, verC_er (by rw [← HR.out]; exact he), ← HR.out]
      have hz : (er == 0) = false := by simpa using he
      have HE := Lib.hid he
      clear he
      go_wp2_with fail
      refine bodyPost_ret (v := .tuple #[.pointer none, .int .i64 (sg : Int), .int .i64 (atp : Int), .int .i64 er]) (by simp [results, Tryd.results35, go_sem]) rfl ⟨none, by rw [HV.out], C02.out, fun h => absurd ((congrArg LookR.er HV.out).symm.trans h) HE.out⟩
  · have HC : Hid (¬ CanonP p) := fun h => hc0 (HCE2.out.2 h)
    have h121 : ce = 121 := HCE.out.2 HC.out
    subst h121
    have HV : Hid (vdOf p = ⟨121, 0, 0, found0, []⟩) := vdOf_no HC.out
    clear hc0
    go_wp2_with fail
    refine bodyPost_ret (v := .tuple #[.pointer none, .int .i64 0, .int .i64 0, .int .i64 121]) (by simp [results, Tryd.results35, go_sem]) rfl ⟨none, by rw [HV.out]; try rfl, C01.out, fun h => absurd ((congrArg LookR.er HV.out).symm.trans h) (by simp)⟩
end Go.Proofs.YtkadamoofiddeaaDoor.Kit
-- verify: Verify, Heights.
set_option linter.unusedVariables false
set_option linter.unusedSimpArgs false
namespace Go.Proofs.YtkadamoofiddeaaDoor.Kit
open Go.RowKit Go.Maps
theorem vdOf_0 {p : ProgV} (h : (vdOf p).er = 0) : (vdOf p).seg = 0 ∧ (vdOf p).at_ = 0 ∧ CanonP p ∧ lookOf p = vdOf p ∧ NumsP p (vdOf p).f := by
  by_cases hc : CanonP p
  · rw [vdOf_c hc] at h ⊢
    by_cases he : (lookOf p).er = 0
    · by_cases hn : NumsP p (lookOf p).f
      · rw [verC_ok he hn] at h ⊢
        have := lookGo_0 p.days 0 found0 [] he
        exact ⟨this.1, this.2, hc, rfl, hn⟩
      · rw [verC_no he hn] at h
        exact absurd (show (147 : Int) = 0 from h) (by decide)
    · rw [verC_er he] at h
      exact absurd h he
  · rw [vdOf_no hc] at h
    exact absurd h (by decide)
/-- the proof that Verify hands out -/
noncomputable def prfOf (p : ProgV) : FoundV := if (vdOf p).er = 0 then (vdOf p).f else found0
/-- what Heights answers -/
noncomputable def hgtE (p : ProgV) (sg : Int) : Int := if (vdOf p).er ≠ 0 then (vdOf p).er else if sg < 0 ∨ ((vdOf p).H.length : Int) ≤ sg then 2 else 0
set_option maxRecDepth 100000 in
set_option maxHeartbeats 3200000 in
theorem vVerify {s : ProgS} {p : ProgV} {w : World} (hp : Hid (RdProg w s p)) (ok : Hid (ProgOk p)) (hG : Hid (Glob w w.heap.size)) :
    Calls Tryd.prog 14 #[progVal s p] w fun e w' => e = .returned (.tuple #[.agg #[.int .i64 (prfOf p).stack, .int .i64 (prfOf p).fuel, .int .i64 (prfOf p).back], .int .i64 ((vdOf p).seg : Int), .int .i64 ((vdOf p).at_ : Int), .int .i64 (vdOf p).er]) ∧ Hid (Chg (fun _ => False) w w') := by
  obtain ⟨n1, n2, n3, n4, A1, A2, A3, A4, c1, c2, c3, c4, HP0⟩ := hp.out.apart
  obtain ⟨i1, hi1⟩ : ∃ x, x = p.horizon := ⟨_, rfl⟩
  obtain ⟨i2, hi2⟩ : ∃ x, x = p.cells := ⟨_, rfl⟩
  obtain ⟨i3, hi3⟩ : ∃ x, x = p.slots := ⟨_, rfl⟩
  obtain ⟨i4, hi4⟩ : ∃ x, x = p.stack := ⟨_, rfl⟩
  have EQ2 : Hid (progVal s p = .agg #[.slice A1 n1 c1, .slice A2 n2 c2, .slice A3 n3 c3, .int .i64 i1, .int .i64 i2, .int .i64 i3, .int .i64 i4, .slice A4 n4 c4]) := by rw [Hid, HP0.eq, hi1, hi2, hi3, hi4]
  rw [EQ2.out]
  clear hi1 hi2 hi3 hi4 HP0
  obtain ⟨w0, hw0⟩ : ∃ x, x = (w.alloc (.cells #[.slice A1 n1 c1, .slice A2 n2 c2, .slice A3 n3 c3, .int .i64 i1, .int .i64 i2, .int .i64 i3, .int .i64 i4, .slice A4 n4 c4] 26)).alloc (.cells #[.int .i64 0, .int .i64 0, .int .i64 0] 35) := ⟨_, rfl⟩
  obtain ⟨g1, hg1⟩ : ∃ x, x = w.heap.size := ⟨_, rfl⟩
  have e0 : (w.alloc (.cells #[.slice A1 n1 c1, .slice A2 n2 c2, .slice A3 n3 c3, .int .i64 i1, .int .i64 i2, .int .i64 i3, .int .i64 i4, .slice A4 n4 c4] 26)).heap.size = g1 + 1 := by rw [hg1]; simp
  have C0 : Hid (Chg (fun _ => False) w w0) := by rw [hw0]; exact ((Chg.refl _ w).alloc _).alloc _
  have B1 : Hid (Blk w0 g1 26 [.slice A1 n1 c1, .slice A2 n2 c2, .slice A3 n3 c3, .int .i64 i1, .int .i64 i2, .int .i64 i3, .int .i64 i4, .slice A4 n4 c4]) := by rw [hw0, hg1]; exact (Blk.new _ _ _).alloc _
  have P1 : Hid (Blk w0 (g1 + 1) 35 [.int .i64 0, .int .i64 0, .int .i64 0]) := by
    rw [hw0, ← e0]
    exact Blk.new _ #[.int .i64 0, .int .i64 0, .int .i64 0] _
  have f0 := B1.out.at_ (i := 0) rfl
  have f1 := B1.out.at_ (i := 1) rfl
  have f2 := B1.out.at_ (i := 2) rfl
  have f3 := B1.out.at_ (i := 3) rfl
  have f4 := B1.out.at_ (i := 4) rfl
  have f5 := B1.out.at_ (i := 5) rfl
  have f6 := B1.out.at_ (i := 6) rfl
  have f7 := B1.out.at_ (i := 7) rfl
  have HG1 := Lib.hid hg1
  go_enter Tryd.func14, Tryd.ntmps14
  go_upto_region 1 with fail
  rw [← hw0, ← hg1]
  clear hw0 e0 hg1
  go_wp2_with fail
  have G0 : Hid (Glob w0 w0.heap.size) := hG.out.later C0.out C0.out.size (Nat.le_refl _)
  refine (show Calls Tryd.prog 35 #[.agg #[.slice A1 n1 c1, .slice A2 n2 c2, .slice A3 n3 c3, .int .i64 i1, .int .i64 i2, .int .i64 i3, .int .i64 i4, .slice A4 n4 c4]] _ _ from by rw [← EQ2.out]; exact vVerified (Lib.hid (hp.out.chg0 C0.out)) ok G0).mono ?_
  rintro e w2 ⟨ptr, rfl, C2, RV⟩
  have C02 : Hid (Chg (fun _ => False) w w2) := C0.out.trans C2.out (fun _ _ h => h)
  have P2 : Hid (Blk w2 (g1 + 1) 35 [.int .i64 0, .int .i64 0, .int .i64 0]) := P1.out.chg C2.out (fun h => h)
  clear f0 f1 f2 f3 f4 f5 f6 f7
  have V0 := Lib.hid (fun h => @vdOf_0 p h)
  obtain ⟨R, hR⟩ : ∃ z, z = vdOf p := ⟨_, rfl⟩
  obtain ⟨F, hF⟩ : ∃ z, z = prfOf p := ⟨_, rfl⟩
  have HF : Hid (F = if R.er = 0 then R.f else found0) := by rw [Hid, hF, hR]; rfl
  rw [← hR] at RV V0 ⊢
  have HRV := Lib.hid hR
  have HFP := Lib.hid hF
  clear hR hF
  obtain ⟨er, sg, atp, f, H⟩ := R
  simp only at RV V0 HF ⊢
  have o0 := P2.out.at_ (i := 0) rfl
  have o1 := P2.out.at_ (i := 1) rfl
  have o2 := P2.out.at_ (i := 2) rfl
  have z0 := P2.out.frozen (i := 0) (by simp)
  have z1 := P2.out.frozen (i := 1) (by simp)
  have z2 := P2.out.frozen (i := 2) (by simp)
  by_cases he : er = 0
  · subst he
    obtain ⟨gF, hv, vs, rfl, BF, RH, GE⟩ := RV.out rfl
    obtain ⟨rfl, rfl, _⟩ := V0.out rfl
    obtain rfl : F = f := HF.out
    obtain ⟨st, fu, ba, sl, cl⟩ := F
    have p0 := BF.at_ (i := 0) rfl
    have p1 := BF.at_ (i := 1) rfl
    have p2 := BF.at_ (i := 2) rfl
    clear BF RH GE RV V0 HF
    have NE : Hid (Chg (fun _ => False) w (((w2.setCell ⟨g1 + 1, 0, none⟩ (.int .i64 st)).setCell ⟨g1 + 1, 1, none⟩ (.int .i64 fu)).setCell ⟨g1 + 1, 2, none⟩ (.int .i64 ba))) := by
      refine Chg.setCell (Chg.setCell (Chg.setCell C02.out ?_ _) ?_ _) ?_ _
      all_goals (intro h; have := HG1.out; simp only at h; omega)
    have BN := (((P2.out.set 0 (.int .i64 st)).set 1 (.int .i64 fu)).set 2 (.int .i64 ba))
    have y0 := BN.at_ (i := 0) rfl
    have y1 := BN.at_ (i := 1) rfl
    have y2 := BN.at_ (i := 2) rfl
    go_wp2_with fail
    refine bodyPost_ret (v := .tuple #[.agg #[.int .i64 st, .int .i64 fu, .int .i64 ba], .int .i64 0, .int .i64 0, .int .i64 0]) (by simp [results, Tryd.results14, go_sem, y0, y1, y2]) rfl ⟨by rw [← HFP.out, ← HRV.out]; rfl, NE.out⟩
  · have HFF : Hid (F = found0) := by rw [HF.out]; exact if_neg he
    have hz : (er == 0) = false := by simpa using he
    clear he
    have NE : Hid (Chg (fun _ => False) w (((w2.setCell ⟨g1 + 1, 0, none⟩ (.int .i64 0)).setCell ⟨g1 + 1, 1, none⟩ (.int .i64 0)).setCell ⟨g1 + 1, 2, none⟩ (.int .i64 0))) := by
      refine Chg.setCell (Chg.setCell (Chg.setCell C02.out ?_ _) ?_ _) ?_ _
      all_goals (intro h; have := HG1.out; simp only at h; omega)
    have BN := (((P2.out.set 0 (.int .i64 0)).set 1 (.int .i64 0)).set 2 (.int .i64 0))
    have y0 := BN.at_ (i := 0) rfl
    have y1 := BN.at_ (i := 1) rfl
    have y2 := BN.at_ (i := 2) rfl
    go_wp2_with fail
    refine bodyPost_ret (v := .tuple #[.agg #[.int .i64 0, .int .i64 0, .int .i64 0], .int .i64 (sg : Int), .int .i64 (atp : Int), .int .i64 er]) (by simp [results, Tryd.results14, go_sem, y0, y1, y2]) rfl ⟨by rw [← HFP.out, ← HRV.out, HFF.out]; rfl, NE.out⟩
set_option maxRecDepth 100000 in
set_option maxHeartbeats 3200000 in
theorem vHeights {s : ProgS} {p : ProgV} {w : World} {sg : Int} (hp : Hid (RdProg w s p)) (ok : Hid (ProgOk p)) (hG : Hid (Glob w w.heap.size)) {er : Int} (her : Hid (er = hgtE p sg)) :
    Calls Tryd.prog 15 #[progVal s p, .int .i64 sg] w fun e w' => ∃ A n c, e = .returned (.tuple #[.slice A n c, .int .i64 er]) ∧ Hid (Chg (fun _ => False) w w') ∧ Hid (er = 0 → ∃ l, (vdOf p).H[sg.toNat]? = some l ∧ 0 ≤ sg ∧ Own w' 3 .i64 (.slice A n c) l) := by
  obtain ⟨n1, n2, n3, n4, A1, A2, A3, A4, c1, c2, c3, c4, HP0⟩ := hp.out.apart
  obtain ⟨i1, hi1⟩ : ∃ x, x = p.horizon := ⟨_, rfl⟩
  obtain ⟨i2, hi2⟩ : ∃ x, x = p.cells := ⟨_, rfl⟩
  obtain ⟨i3, hi3⟩ : ∃ x, x = p.slots := ⟨_, rfl⟩
  obtain ⟨i4, hi4⟩ : ∃ x, x = p.stack := ⟨_, rfl⟩
  have EQ2 : Hid (progVal s p = .agg #[.slice A1 n1 c1, .slice A2 n2 c2, .slice A3 n3 c3, .int .i64 i1, .int .i64 i2, .int .i64 i3, .int .i64 i4, .slice A4 n4 c4]) := by rw [Hid, HP0.eq, hi1, hi2, hi3, hi4]
  rw [EQ2.out]
  clear hi1 hi2 hi3 hi4 HP0
  obtain ⟨w0, hw0⟩ : ∃ x, x = w.alloc (.cells #[.slice A1 n1 c1, .slice A2 n2 c2, .slice A3 n3 c3, .int .i64 i1, .int .i64 i2, .int .i64 i3, .int .i64 i4, .slice A4 n4 c4] 26) := ⟨_, rfl⟩
  obtain ⟨g1, hg1⟩ : ∃ x, x = w.heap.size := ⟨_, rfl⟩
  have C0 : Hid (Chg (fun _ => False) w w0) := by rw [hw0]; exact (Chg.refl _ w).alloc _
  have B1 : Hid (Blk w0 g1 26 [.slice A1 n1 c1, .slice A2 n2 c2, .slice A3 n3 c3, .int .i64 i1, .int .i64 i2, .int .i64 i3, .int .i64 i4, .slice A4 n4 c4]) := by rw [hw0, hg1]; exact Blk.new _ _ _
  have f0 := B1.out.at_ (i := 0) rfl
  have f1 := B1.out.at_ (i := 1) rfl
  have f2 := B1.out.at_ (i := 2) rfl
  have f3 := B1.out.at_ (i := 3) rfl
  have f4 := B1.out.at_ (i := 4) rfl
  have f5 := B1.out.at_ (i := 5) rfl
  have f6 := B1.out.at_ (i := 6) rfl
  have f7 := B1.out.at_ (i := 7) rfl
  go_enter Tryd.func15, Tryd.ntmps15
  go_upto_region 1 with fail
  rw [← hw0, ← hg1]
  clear hw0 hg1
  go_wp2_with fail
  have G0 : Hid (Glob w0 w0.heap.size) := hG.out.later C0.out C0.out.size (Nat.le_refl _)
  refine (show Calls Tryd.prog 35 #[.agg #[.slice A1 n1 c1, .slice A2 n2 c2, .slice A3 n3 c3, .int .i64 i1, .int .i64 i2, .int .i64 i3, .int .i64 i4, .slice A4 n4 c4]] _ _ from by rw [← EQ2.out]; exact vVerified (Lib.hid (hp.out.chg0 C0.out)) ok G0).mono ?_
  rintro e w2 ⟨ptr, rfl, C2, RV⟩
  have C02 : Hid (Chg (fun _ => False) w w2) := C0.out.trans C2.out (fun _ _ h => h)
  clear f0 f1 f2 f3 f4 f5 f6 f7
  obtain ⟨R, hR⟩ : ∃ z, z = vdOf p := ⟨_, rfl⟩
  have HE : Hid (er = if R.er ≠ 0 then R.er else if sg < 0 ∨ (R.H.length : Int) ≤ sg then 2 else 0) := by rw [Hid, her.out, hR]; rfl
  rw [← hR] at RV ⊢
  have HRV := Lib.hid hR
  clear hR
  obtain ⟨vr, sgr, atp, f, H⟩ := R
  simp only at RV HE ⊢
  by_cases he : vr = 0
  · subst he
    obtain ⟨gF, hv, vs, rfl, BF, RH, GE⟩ := RV.out rfl
    have HE2 : Hid (er = if sg < 0 ∨ (H.length : Int) ≤ sg then 2 else 0) := HE.out
    obtain ⟨Ah, ch, rfl, _, _⟩ := RH.own.slice
    obtain ⟨nh, hnh⟩ : ∃ z, z = H.length := ⟨_, rfl⟩
    have HNH := Lib.hid hnh
    have RH2 := Lib.hid RH
    have BF2 := Lib.hid BF
    rw [← hnh] at HE2 BF
    have p3 := BF.at_ (i := 3) rfl
    clear RV HE hnh RH BF
    by_cases h1 : sg < 0
    · have HR : Hid ((2 : Int) = er) := by rw [Hid, HE2.out, if_pos (.inl h1)]
      go_wp2_with fail
      go_ret2
      exact ⟨none, 0, 0, by rw [← HR.out]; rfl, C02.out, fun h => absurd (HR.out.trans h) (by decide)⟩
    · by_cases h2 : (nh : Int) ≤ sg
      · have HR : Hid ((2 : Int) = er) := by rw [Hid, HE2.out, if_pos (.inr h2)]
        go_wp2_with fail
        go_ret2
        exact ⟨none, 0, 0, by rw [← HR.out]; rfl, C02.out, fun h => absurd (HR.out.trans h) (by decide)⟩
      · have HR : Hid ((0 : Int) = er) := by rw [Hid, HE2.out, if_neg (by rintro (e | e) <;> contradiction)]
        obtain ⟨i, rfl⟩ : ∃ i : Nat, sg = i := ⟨sg.toNat, by omega⟩
        have h3 : (i : Int) < (nh : Int) := by omega
        have h4 : (0 : Int) ≤ (i : Int) := by omega
        have hlen : vs.length = nh := by have := RH2.out.own.1; rw [HNH.out]; omega
        obtain ⟨v, hv⟩ : ∃ v, vs[i]? = some v := ⟨_, List.getElem?_eq_getElem (by omega)⟩
        obtain ⟨l, hl⟩ : ∃ l, H[i]? = some l := ⟨_, List.getElem?_eq_getElem (by rw [← HNH.out]; omega)⟩
        obtain ⟨ad, e1, hc, _⟩ := RH2.out.own.cells Ah H.length ch rfl i v hv
        obtain ⟨A9, n9, rfl, _, _⟩ := OwnV.slice (RH2.out.row i _ l hv hl)
        have OW := Lib.hid (RH2.out.row i _ l hv hl)
        have HLL := Lib.hid hl
        subst e1
        clear hv hl hlen RH2 BF2
        go_wp2_with fail
        go_ret2
        exact ⟨A9, l.length, n9, by rw [← HR.out]; rfl, C02.out, fun _ => ⟨l, by rw [← HRV.out]; exact HLL.out, OW.out⟩⟩
  · have HR : Hid (vr = er) := by rw [Hid, HE.out, if_pos he]
    have hz : (vr == 0) = false := by simpa using he
    have HEV := Lib.hid he
    clear he
    go_wp2_with fail
    go_ret2
    exact ⟨none, 0, 0, by rw [← HR.out]; rfl, C02.out, fun h => absurd (HR.out.trans h) HEV.out⟩
end Go.Proofs.YtkadamoofiddeaaDoor.Kit
-- The law's program that must be taken (plain), and that it is (lives).
set_option linter.unusedVariables false
set_option linter.unusedSimpArgs false
namespace Go.Proofs.YtkadamoofiddeaaDoor.Kit
open Go.RowKit Go.Maps
def plainC : List InsV := [⟨3, 0, 1⟩, ⟨1, 0, 0⟩, ⟨9, 0, 0⟩, ⟨6, 0, 0⟩, ⟨1, 0, 0⟩, ⟨21, 0, 0⟩, ⟨27, 2, 0⟩, ⟨7, 0, 0⟩, ⟨28, 0, 0⟩, ⟨0, 0, 0⟩]
def plainV : ProgV := ⟨[⟨#[65]⟩], [⟨#[69, 85, 82]⟩], [5], 3, 0, 1, 2, [⟨2, plainC⟩]⟩
theorem look_plain : (lookOf plainV).er = 0 ∧ (lookOf plainV).f = ⟨2, 10, 1, 1, 0⟩ ∧ (lookOf plainV).H = [[0, 1, 2, 1, 1, 2, 1, 0, 1, 0]] := ⟨by rfl, by rfl, by rfl⟩
theorem Blk.newAt (W : World) (cs : Array Value) (e : TypeId) {g : Nat} (h : g = W.heap.size) : Blk (W.alloc (.cells cs e)) g e cs.toList := by subst h; exact Blk.new W cs e
theorem rdG_blk {w : World} {g : Nat} {e : TypeId} {cs : List Value} (h : Blk w g e cs) : RdG w (some ⟨g, 0, none⟩) cs := fun j u hu => by
  refine ⟨_, rfl, ?_⟩
  rw [show (⟨g, 0, none⟩ : Addr).add j = ⟨g, j, none⟩ from by unfold Addr.add; split <;> simp_all]
  exact h.at_ hu
theorem slG_blk {w : World} {g sz n : Nat} {e : TypeId} {cs : List Value} (h : Blk w g e cs) (hl : cs.length = n * sz) (hn : n ≤ maxLen) : SlG w (.slice (some ⟨g, 0, none⟩) n n) sz n cs := ⟨⟨_, _, rfl, Nat.le_refl _, hn, rdG_blk h⟩, hl⟩
set_option maxRecDepth 100000 in
set_option maxHeartbeats 3200000 in
theorem vPlain {w : World} : Calls Tryd.prog 33 #[] w fun e w' => ∃ s, e = .returned (progVal s plainV) ∧ Hid (RdProg w' s plainV) ∧ Hid (Chg (fun _ => False) w w') := by
  obtain ⟨g, hg⟩ : ∃ z, z = w.heap.size := ⟨_, rfl⟩
  have HG := Lib.hid hg
  clear hg
  go_enter Tryd.func33, Tryd.ntmps33
  go_wp2_with fail
  refine bodyPost_ret (v := .agg #[.slice (some ⟨w.heap.size + 1 + 1, 0, none⟩) 1 1, .slice (some ⟨w.heap.size + 1 + 1 + 1, 0, none⟩) 1 1, .slice (some ⟨w.heap.size + 1 + 1 + 1 + 1, 0, none⟩) 1 1, .int .i64 3, .int .i64 0, .int .i64 1, .int .i64 2, .slice (some ⟨w.heap.size + 1 + 1 + 1 + 1 + 1, 0, none⟩) 1 1]) (by simp [results, Tryd.results33, go_sem]) rfl
    ⟨⟨.slice (some ⟨w.heap.size + 1 + 1, 0, none⟩) 1 1, .slice (some ⟨w.heap.size + 1 + 1 + 1, 0, none⟩) 1 1, .slice (some ⟨w.heap.size + 1 + 1 + 1 + 1, 0, none⟩) 1 1, .slice (some ⟨w.heap.size + 1 + 1 + 1 + 1 + 1, 0, none⟩) 1 1, [.slice (some ⟨w.heap.size + 1, 0, none⟩) 10 10]⟩, rfl, ?_, ?_⟩
  · refine ⟨?_, ?_, ?_, ?_, rfl, ?_⟩
    · exact slG_blk (((Blk.newAt _ #[.string ⟨#[65]⟩] 9 (by simp)).alloc _).alloc _ |>.alloc _) rfl (by decide)
    · exact slG_blk ((Blk.newAt _ #[.string ⟨#[69, 85, 82]⟩] 9 (by simp)).alloc _ |>.alloc _) rfl (by decide)
    · exact slG_blk ((Blk.newAt _ #[.int .i64 5] 3 (by simp)).alloc _) rfl (by decide)
    · exact slG_blk (Blk.newAt _ #[.int .i64 2, .slice (some ⟨w.heap.size + 1, 0, none⟩) 10 10] 42 (by simp)) rfl (by decide)
    · intro i hi hi'
      have h0 : i = 0 := by simp [plainV] at hi; omega
      subst h0
      exact slG_blk (((((Blk.newAt _ (insCells plainC).toArray 47 (by simp)).alloc _).alloc _).alloc _).alloc _) rfl (by decide)
  · exact (((((((Chg.refl _ w).alloc _).alloc _).alloc _).alloc _).alloc _).alloc _)
theorem plain_ins : ∀ i (h : i < plainC.length), GoodI plainV plainC.length i plainC[i] := by
  intro i h
  have hi : i < 10 := h
  have : i = 0 ∨ i = 1 ∨ i = 2 ∨ i = 3 ∨ i = 4 ∨ i = 5 ∨ i = 6 ∨ i = 7 ∨ i = 8 ∨ i = 9 := by omega
  rcases this with rfl | rfl | rfl | rfl | rfl | rfl | rfl | rfl | rfl | rfl
  · exact (show GoodI plainV 10 0 ⟨3, 0, 1⟩ from ⟨by decide, by decide, ⟨by decide, by decide, by decide, by decide, by decide⟩⟩)
  · exact (show GoodI plainV 10 1 ⟨1, 0, 0⟩ from ⟨by decide, by decide, ⟨by decide, by decide, by decide, by decide, by decide⟩⟩)
  · exact (show GoodI plainV 10 2 ⟨9, 0, 0⟩ from ⟨by decide, by decide, ⟨by decide, by decide, by decide, by decide, by decide⟩⟩)
  · exact (show GoodI plainV 10 3 ⟨6, 0, 0⟩ from ⟨by decide, by decide, ⟨by decide, by decide, by decide, by decide, by decide⟩⟩)
  · exact (show GoodI plainV 10 4 ⟨1, 0, 0⟩ from ⟨by decide, by decide, ⟨by decide, by decide, by decide, by decide, by decide⟩⟩)
  · exact (show GoodI plainV 10 5 ⟨21, 0, 0⟩ from ⟨by decide, by decide, ⟨by decide, by decide, by decide, by decide, by decide⟩⟩)
  · exact (show GoodI plainV 10 6 ⟨27, 2, 0⟩ from ⟨by decide, by decide, ⟨by decide, by decide, by decide, by decide, by decide⟩⟩)
  · exact (show GoodI plainV 10 7 ⟨7, 0, 0⟩ from ⟨by decide, by decide, ⟨by decide, by decide, by decide, by decide, by decide⟩⟩)
  · exact (show GoodI plainV 10 8 ⟨28, 0, 0⟩ from ⟨by decide, by decide, ⟨by decide, by decide, by decide, by decide, by decide⟩⟩)
  · exact (show GoodI plainV 10 9 ⟨0, 0, 0⟩ from ⟨by decide, by decide, ⟨by decide, by decide, by decide, by decide, by decide⟩⟩)
theorem plain_canon : CanonP plainV := by
  refine ⟨?_, fun i h => ?_, by decide, by decide, by decide⟩
  · refine ⟨by decide, by decide, by decide, fun i h => absurd h (by simp [plainV]), fun i h => absurd h (by simp [plainV]), fun i h => absurd h (by simp [plainV]), fun s hs => ?_, fun s hs => ?_, by decide, by decide, by decide, by decide⟩
    · obtain rfl : s = ⟨#[65]⟩ := by simpa [plainV] using hs
      refine ⟨by decide, by decide, (show (65 : Int) ≤ 65 ∧ (65 : Int) ≤ 90 from by decide), fun i hi => ?_⟩
      obtain rfl : i = 0 := by have : i < 1 := hi; omega
      exact .inl (show (65 : Int) ≤ 65 ∧ (65 : Int) ≤ 90 from by decide)
    · obtain rfl : s = ⟨#[69, 85, 82]⟩ := by simpa [plainV] using hs
      exact ⟨by decide, (show (65 : Int) ≤ 69 ∧ (69 : Int) ≤ 90 from by decide), (show (65 : Int) ≤ 85 ∧ (85 : Int) ≤ 90 from by decide), (show (65 : Int) ≤ 82 ∧ (82 : Int) ≤ 90 from by decide)⟩
  · have h0 : i = 0 := by simp [plainV] at h; omega
    subst h0
    exact (show GoodD plainV 0 ⟨2, plainC⟩ from ⟨by decide, by decide, by decide, (by decide : 2 ≤ plainC.length), plain_ins⟩)
theorem plain_ok : ProgOk plainV := by
  refine ⟨⟨by decide, by decide, by decide, by decide, fun x hx => ?_⟩, fun x hx => ?_, fun x hx => ?_, fun x hx => ?_, by decide, by decide, by decide, by decide, fun x hx => ?_⟩
  · obtain rfl : x = ⟨2, plainC⟩ := by simpa [plainV] using hx
    decide
  · obtain rfl : x = ⟨#[65]⟩ := by simpa [plainV] using hx
    decide
  · obtain rfl : x = ⟨#[69, 85, 82]⟩ := by simpa [plainV] using hx
    decide
  · obtain rfl : x = 5 := by simpa [plainV] using hx
    decide
  · obtain rfl : x = ⟨2, plainC⟩ := by simpa [plainV] using hx
    refine ⟨by decide, fun y hy => ?_⟩
    have : ∀ y ∈ plainC, (-9223372036854775808 ≤ y.op ∧ y.op ≤ 9223372036854775807) ∧ (-9223372036854775808 ≤ y.a ∧ y.a ≤ 9223372036854775807) ∧ -9223372036854775808 ≤ y.b ∧ y.b ≤ 9223372036854775807 := by decide
    exact this y hy
theorem plain_vd : vdOf plainV = ⟨0, 0, 0, ⟨2, 10, 1, 1, 0⟩, [[0, 1, 2, 1, 1, 2, 1, 0, 1, 0]]⟩ := by
  rw [vdOf_c plain_canon, verC_ok look_plain.1 (by rw [look_plain.2.1]; exact ⟨rfl, rfl, rfl⟩)]
  rfl
theorem plain_prf : prfOf plainV = ⟨2, 10, 1, 1, 0⟩ := by
  unfold prfOf
  rw [plain_vd]
  rfl
theorem plain_hgt : hgtE plainV 0 = 0 := by
  unfold hgtE
  rw [plain_vd]
  rfl
set_option maxRecDepth 100000 in
set_option maxHeartbeats 1600000 in
theorem vSameInts {w : World} {A1 A2 : Option Addr} {n1 c1 n2 c2 : Nat} {l m : List Int} {b : Bool} (h1 : Hid (Own w 3 .i64 (.slice A1 n1 c1) l)) (h2 : Hid (Own w 3 .i64 (.slice A2 n2 c2) m)) (L1 : Hid (l.length = n1)) (L2 : Hid (m.length = n2)) (hn : n1 ≤ 1000000000) (hb : Hid (b = true ↔ l = m)) :
    Calls Tryd.prog 34 #[.slice A1 n1 c1, .slice A2 n2 c2] w fun e w' => e = .returned (.bool b) ∧ Hid (Chg (fun _ => False) w w') := by
  by_cases hl : n1 = n2
  · subst hl
    go_enter Tryd.func34, Tryd.ntmps34
    go_wp2_with fail
    go_loopw [5] (fun v wr => ∃ k : Nat, v = .int .i64 (k : Int) ∧ k ≤ n1 ∧ Hid (∀ j, j < k → l[j]? = m[j]?) ∧ Hid (Chg (fun _ => False) w wr)) (fun v _ => n1 - (intOf v).toNat)
    case atStart => exact ⟨0, rfl, Nat.zero_le _, fun j hj => absurd hj (by omega), Chg.refl _ _⟩
    case round =>
      obtain ⟨k, rfl, hk, HQ, HC⟩ := hrel
      by_cases hkn : k < n1
      · obtain ⟨gs1, x1, e1, hx1, k1⟩ := own_elemI (OwnV.chg h1.out HC.out (fun _ _ h => h)) L1.out hkn
        obtain ⟨gs2, x2, e2, hx2, k2⟩ := own_elemI (OwnV.chg h2.out HC.out (fun _ _ h => h)) L2.out hkn
        subst e1
        subst e2
        have i1 : (0 : Int) ≤ (k : Int) := by omega
        have i2 : (k : Int) < (n1 : Int) := by omega
        have HX1 := Lib.hid hx1
        have HX2 := Lib.hid hx2
        clear hx1 hx2
        by_cases hxx : x1 = x2
        · subst hxx
          go_wp2_with fail
          go_quiet (fail)
          go_wp2_with fail
          go_roundw
          case rel =>
            refine ⟨k + 1, by congr 1, by omega, fun j hj => ?_, HC.out.drewN _⟩
            rcases Nat.lt_or_ge j k with h | h
            · exact HQ.out j h
            · rw [show j = k from by omega, HX1.out, HX2.out]
          case measure => exact meas_lt hkn
        · have HB : Hid (false = b) := by
            cases b
            · rfl
            · have := hb.out.1 rfl
              have e := HX1.out
              rw [this, HX2.out] at e
              injection e with e
              exact absurd e.symm hxx
          have hne : (x1 == x2) = false := by simpa using hxx
          have hne2 : (x1 != x2) = true := by simpa using hxx
          clear hxx
          go_wp2_with fail
          go_quiet (fail)
          go_wp2_with fail
          go_ret
          exact ⟨ret_bool HB.out, HC.out.drewN _⟩
      · obtain rfl : k = n1 := by omega
        have HB : Hid (true = b) := by
          have : l = m := by
            apply List.ext_getElem?
            intro i
            by_cases hi : i < k
            · exact HQ.out i hi
            · rw [List.getElem?_eq_none (by rw [L1.out]; omega), List.getElem?_eq_none (by rw [L2.out]; omega)]
          exact (hb.out.2 this).symm
        have i1 : ¬ ((k : Int) < (k : Int)) := by omega
        go_wp2_with fail
        go_ret
        exact ⟨ret_bool HB.out, HC.out⟩
  · have HB : Hid (false = b) := by
      cases b
      · rfl
      · have := hb.out.1 rfl
        exact absurd (by rw [← L1.out, ← L2.out, this]) hl
    have hn2 : ¬ ((n1 : Int) = (n2 : Int)) := by omega
    have hn1 : ((n1 : Int) != (n2 : Int)) = true := by simpa using hn2
    go_enter Tryd.func34, Tryd.ntmps34
    go_wp2_with fail
    go_ret
    exact ⟨ret_bool HB.out, Chg.refl _ _⟩
end Go.Proofs.YtkadamoofiddeaaDoor.Kit
-- The law's first word (lives): its own program is taken, with its numbers.
set_option linter.unusedVariables false
set_option linter.unusedSimpArgs false
namespace Go.Proofs.YtkadamoofiddeaaDoor.Kit
open Go.RowKit Go.Maps
theorem vVerifyPlain {s : ProgS} {w : World} (hp : Hid (RdProg w s plainV)) (hG : Hid (Glob w w.heap.size)) :
    Calls Tryd.prog 14 #[progVal s plainV] w fun e w' => e = .returned (.tuple #[.agg #[.int .i64 2, .int .i64 10, .int .i64 1], .int .i64 0, .int .i64 0, .int .i64 0]) ∧ Hid (Chg (fun _ => False) w w') := by
  refine (vVerify hp (Lib.hid plain_ok) hG).mono ?_
  rintro e w' ⟨rfl, hc⟩
  refine ⟨?_, hc⟩
  rw [plain_prf, plain_vd]
  rfl
theorem vHeightsPlain {s : ProgS} {w : World} (hp : Hid (RdProg w s plainV)) (hG : Hid (Glob w w.heap.size)) :
    Calls Tryd.prog 15 #[progVal s plainV, .int .i64 0] w fun e w' => ∃ A c, e = .returned (.tuple #[.slice A 10 c, .int .i64 0]) ∧ Hid (Chg (fun _ => False) w w') ∧ Hid (Own w' 3 .i64 (.slice A 10 c) [0, 1, 2, 1, 1, 2, 1, 0, 1, 0]) := by
  refine (vHeights hp (Lib.hid plain_ok) hG (Lib.hid plain_hgt.symm)).mono ?_
  rintro e w' ⟨A, n, c, rfl, hc, hr⟩
  obtain ⟨l, hl, _, ho⟩ := hr.out rfl
  rw [plain_vd] at hl
  obtain rfl : [0, 1, 2, 1, 1, 2, 1, 0, 1, 0] = l := by simpa using hl
  obtain ⟨A', c', e, _, _⟩ := OwnV.slice ho
  injection e with e1 e2 e3
  subst e1 e2 e3
  exact ⟨A, c, rfl, hc, ho⟩
theorem Glob.step {w w1 : World} (h : Glob w w.heap.size) (c : Chg (fun _ => False) w w1) : Glob w1 w1.heap.size := h.later c c.size (Nat.le_refl _)
set_option maxRecDepth 100000 in
set_option maxHeartbeats 3200000 in
theorem vLives {w : World} (hG : Hid (Glob w w.heap.size)) : Calls Tryd.prog 13 #[] w fun e w' => e = .returned (.bool true) ∧ Hid (Chg (fun _ => False) w w') := by
  go_enter Tryd.func13, Tryd.ntmps13
  go_wp2_with fail
  refine vPlain.mono ?_
  rintro e w1 ⟨s1, rfl, R1, C1⟩
  go_wp2_with fail
  refine (vVerifyPlain R1 (Lib.hid (hG.out.step C1.out))).mono ?_
  rintro e w2 ⟨rfl, C2⟩
  have C02 : Hid (Chg (fun _ => False) w w2) := C1.out.trans C2.out (fun _ _ h => h)
  go_upto_region 2 with fail
  obtain ⟨w3, hw3⟩ : ∃ y, y = w2.alloc (.cells #[.int .i64 2, .int .i64 10, .int .i64 1] 35) := ⟨_, rfl⟩
  have C3 : Hid (Chg (fun _ => False) w w3) := by rw [hw3]; exact C02.out.alloc _
  obtain ⟨g, hg⟩ : ∃ y, y = w2.heap.size := ⟨_, rfl⟩
  have B3 : Hid (Blk w3 g 35 [.int .i64 2, .int .i64 10, .int .i64 1]) := by rw [hw3, hg]; exact Blk.new w2 #[.int .i64 2, .int .i64 10, .int .i64 1] _
  rw [← hw3, ← hg]
  clear hw3 hg
  go_wp2_with fail
  refine vPlain.mono ?_
  rintro e w4 ⟨s4, rfl, R4, C4⟩
  go_wp2_with fail
  have C04 : Hid (Chg (fun _ => False) w w4) := C3.out.trans C4.out (fun _ _ h => h)
  refine (vHeightsPlain R4 (Lib.hid (hG.out.step C04.out))).mono ?_
  rintro e w5 ⟨A, c, rfl, C5, OW⟩
  have B5 : Hid (Blk w5 g 35 [.int .i64 2, .int .i64 10, .int .i64 1]) := (B3.out.chg C4.out (fun h => h)).chg C5.out (fun h => h)
  have q0 := B5.out.at_ (i := 0) rfl
  have q1 := B5.out.at_ (i := 1) rfl
  have q2 := B5.out.at_ (i := 2) rfl
  have OW6 : Hid (Own (w5.alloc (.cells #[.int .i64 0, .int .i64 1, .int .i64 2, .int .i64 1, .int .i64 1, .int .i64 2, .int .i64 1, .int .i64 0, .int .i64 1, .int .i64 0] 3)) 3 .i64 (.slice A 10 c) [0, 1, 2, 1, 1, 2, 1, 0, 1, 0]) := OwnV.chg OW.out (S := fun _ => False) ((Chg.refl _ w5).alloc _) (fun _ _ h => h)
  have OL6 : Hid (Own (w5.alloc (.cells #[.int .i64 0, .int .i64 1, .int .i64 2, .int .i64 1, .int .i64 1, .int .i64 2, .int .i64 1, .int .i64 0, .int .i64 1, .int .i64 0] 3)) 3 .i64 (.slice (some ⟨w5.heap.size, 0, none⟩) 10 10) [0, 1, 2, 1, 1, 2, 1, 0, 1, 0]) := Own.lit' w5 3 .i64 [0, 1, 2, 1, 1, 2, 1, 0, 1, 0] _ rfl (by simp [maxLen])
  go_wp2_with fail
  refine (vSameInts (b := true) OW6 OL6 rfl rfl (by decide) ⟨fun _ => rfl, fun _ => rfl⟩).mono ?_
  rintro e w6 ⟨rfl, C6⟩
  go_wp2_with fail
  go_ret
  exact ⟨rfl, (C04.out.trans C5.out (fun _ _ h => h)).alloc _ |>.trans C6.out (fun _ _ h => h)⟩
end Go.Proofs.YtkadamoofiddeaaDoor.Kit
-- VerifyProof in plain words: the proof's numbers are the fold over the heights.
set_option linter.unusedVariables false
set_option linter.unusedSimpArgs false
namespace Go.Proofs.YtkadamoofiddeaaDoor.Kit
open Go.RowKit Go.Maps
/-- what was worked out, instruction by instruction, with the heights -/
def foldN : FoundV → List InsV → List Int → FoundV
  | f, x :: xs, h :: hs => foldN (noteV f x h) xs hs
  | f, _, _ => f
def foldD : FoundV → List SegV → List (List Int) → FoundV
  | f, x :: xs, h :: hs => foldD (foldN f x.code h) xs hs
  | f, _, _ => f
theorem segGo_fold (day : Int) : ∀ (xs : List InsV) (k : Nat) (L : List (Option StV)) (f : FoundV) (hs : List Int), (segGo day xs k L f hs).er = 0 → ∃ hs', (segGo day xs k L f hs).hs = hs ++ hs' ∧ hs'.length = xs.length ∧ (segGo day xs k L f hs).f = foldN f xs hs'
  | [], k, L, f, hs, _ => ⟨[], by simp [segGo], rfl, rfl⟩
  | x :: xs, k, L, f, hs, h => by
    rcases hj : (L[k]?).join with _ | s
    · rw [segGo_none hj] at h
      exact absurd (show (146 : Int) = 0 from h) (by decide)
    · have hk : L[k]? = some (some s) := by
        rcases h2 : L[k]? with _ | y
        · rw [h2] at hj; cases hj
        · rw [h2] at hj; rw [show y = some s from hj]
      by_cases he : applyE x day s = 0
      · by_cases hh : (handV L (applyS x s) (toOf x k)).1 = 0
        · rw [segGo_ok hk he hh] at h ⊢
          obtain ⟨hs', e1, e2, e3⟩ := segGo_fold day xs _ _ _ _ h
          exact ⟨(s.stk.length : Int) :: hs', by rw [e1, List.append_assoc]; rfl, by rw [List.length_cons, e2, List.length_cons], e3⟩
        · rw [segGo_hand hk he hh] at h
          exact absurd h hh
      · rw [segGo_app hk he] at h
        exact absurd h he
theorem lookGo_fold : ∀ (xs : List SegV) (n : Nat) (f : FoundV) (H : List (List Int)), (lookGo xs n f H).er = 0 → ∃ H', (lookGo xs n f H).H = H ++ H' ∧ H'.length = xs.length ∧ (∀ (i : Nat) (x : SegV) (h : List Int), xs[i]? = some x → H'[i]? = some h → h.length = x.code.length) ∧ (lookGo xs n f H).f = foldD f xs H'
  | [], n, f, H, _ => ⟨[], by simp [lookGo], rfl, fun i x h hx => by simp at hx, rfl⟩
  | x :: xs, n, f, H, h => by
    by_cases he : (segOf x f).er = 0
    · rw [lookGo_ok he] at h ⊢
      obtain ⟨H', e1, e2, e3, e4⟩ := lookGo_fold xs _ _ _ h
      obtain ⟨hs', g1, g2, g3⟩ := segGo_fold x.day x.code 0 (segInit x.code.length) f [] he
      have g1' : (segOf x f).hs = hs' := by rw [segOf, g1]; rfl
      have g3' : (segOf x f).f = foldN f x.code hs' := g3
      refine ⟨hs' :: H', by rw [e1, g1', List.append_assoc]; rfl, by rw [List.length_cons, e2, List.length_cons], fun i y l hy hl => ?_, ?_⟩
      · rcases i with _ | i
        · simp at hy hl
          subst hy
          subst hl
          exact g2
        · exact e3 i y l (by simpa using hy) (by simpa using hl)
      · rw [e4, g3']
        rfl
    · rw [lookGo_er he] at h
      exact absurd h he
theorem vd_fold {p : ProgV} (h : (vdOf p).er = 0) : (vdOf p).H.length = p.days.length ∧ (∀ (i : Nat) (x : SegV) (l : List Int), p.days[i]? = some x → (vdOf p).H[i]? = some l → l.length = x.code.length) ∧ (vdOf p).f = foldD found0 p.days (vdOf p).H := by
  obtain ⟨_, _, _, hl, _⟩ := vdOf_0 h
  rw [← hl] at h ⊢
  obtain ⟨H', e1, e2, e3, e4⟩ := lookGo_fold p.days 0 found0 [] h
  have e1' : (lookOf p).H = H' := by rw [lookOf, e1]; rfl
  rw [e1']
  exact ⟨e2, e3, e4⟩
theorem vMost {w : World} {a b : Int} : Calls Tryd.prog 17 #[.int .i64 a, .int .i64 b] w fun e w' => e = .returned (.int .i64 (max a b)) ∧ w' = w := by
  by_cases h : b < a
  · have HM : Hid (a = max a b) := by rw [Hid]; omega
    go_enter Tryd.func17, Tryd.ntmps17
    go_wp2_with fail
    go_ret
    exact ⟨ret_i HM.out, rfl⟩
  · have HM : Hid (b = max a b) := by rw [Hid]; omega
    go_enter Tryd.func17, Tryd.ntmps17
    go_wp2_with fail
    go_ret
    exact ⟨ret_i HM.out, rfl⟩
/-- a program with other numbers -/
def withN (p : ProgV) (st sl ce : Int) : ProgV := ⟨p.names, p.curs, p.pool, p.horizon, ce, sl, st, p.days⟩
theorem withN_rd {w : World} {s : ProgS} {p : ProgV} (h : RdProg w s p) (st sl ce : Int) : RdProg w s (withN p st sl ce) := ⟨h.names, h.curs, h.pool, h.days, h.lenC, h.code⟩
theorem withN_ok {p : ProgV} (h : ProgOk p) {st sl ce : Int} (h1 : InI st) (h2 : InI sl) (h3 : InI ce) : ProgOk (withN p st sl ce) := ⟨⟨h.small.names, h.small.curs, h.small.pool, h.small.days, h.small.code⟩, h.names, h.curs, h.pool, h.horizon, h3, h2, h1, h.days⟩
theorem withN_vd {p : ProgV} {st sl ce : Int} (h : (vdOf p).er = 0) (hc : CanonP (withN p st sl ce)) : (st = p.stack ∧ sl = p.slots ∧ ce = p.cells ∧ (vdOf (withN p st sl ce)).er = 0) ∨ (¬ (st = p.stack ∧ sl = p.slots ∧ ce = p.cells) ∧ (vdOf (withN p st sl ce)).er = 147 ∧ (vdOf (withN p st sl ce)).seg = p.days.length ∧ (vdOf (withN p st sl ce)).at_ = 0) := by
  obtain ⟨_, _, _, hl, hn⟩ := vdOf_0 h
  have hl2 : lookOf (withN p st sl ce) = vdOf p := hl
  have he : (lookOf (withN p st sl ce)).er = 0 := by rw [hl2]; exact h
  rw [vdOf_c hc]
  obtain ⟨n1, n2, n3⟩ := hn
  by_cases hq : st = p.stack ∧ sl = p.slots ∧ ce = p.cells
  · refine .inl ⟨hq.1, hq.2.1, hq.2.2, ?_⟩
    rw [verC_ok he (by rw [hl2]; exact ⟨hq.1.trans n1, hq.2.1.trans n2, hq.2.2.trans n3⟩)]
    exact he
  · refine .inr ⟨hq, ?_⟩
    rw [verC_no he (by rw [hl2]; rintro ⟨x1, x2, x3⟩; exact hq ⟨x1.trans n1.symm, x2.trans n2.symm, x3.trans n3.symm⟩)]
    exact ⟨rfl, rfl, rfl⟩
end Go.Proofs.YtkadamoofiddeaaDoor.Kit
-- VerifyFirst in plain words: what goes wrong first is told, whatever follows.
set_option linter.unusedVariables false
set_option linter.unusedSimpArgs false
namespace Go.Proofs.YtkadamoofiddeaaDoor.Kit
open Go.RowKit Go.Maps
/-- M begins as L does; behind it no state was handed -/
structure ExtL (L M : List (Option StV)) : Prop where
  len : L.length ≤ M.length
  same : ∀ t, t < L.length → M[t]? = L[t]?
  more : ∀ t, L.length ≤ t → (M[t]?).join = none
theorem join_some {L : List (Option StV)} {t : Nat} {s : StV} (h : (L[t]?).join = some s) : L[t]? = some (some s) := by
  rcases h2 : L[t]? with _ | x
  · rw [h2] at h; cases h
  · rw [h2] at h; rw [show x = some s from h]
theorem ExtL.set {L M : List (Option StV)} (h : ExtL L M) {t : Nat} (ht : t < L.length) (x : Option StV) : ExtL (L.set t x) (M.set t x) := by
  refine ⟨by simpa using h.len, fun i hi => ?_, fun i hi => ?_⟩
  · rw [List.length_set] at hi
    by_cases e : t = i
    · subst e
      rw [List.getElem?_set_self ht, List.getElem?_set_self (Nat.lt_of_lt_of_le ht h.len)]
    · rw [List.getElem?_set_ne e, List.getElem?_set_ne e]
      exact h.same i hi
  · rw [List.length_set] at hi
    rw [List.getElem?_set_ne (by omega)]
    exact h.more i hi
theorem ExtL.hand {b : StV} : ∀ (ts : List Nat) (L M : List (Option StV)), ExtL L M → (∀ t ∈ ts, t < L.length) → (handGo L b ts).1 = (handGo M b ts).1 ∧ ExtL (handGo L b ts).2 (handGo M b ts).2
  | [], L, M, h, _ => ⟨rfl, h⟩
  | t :: ts, L, M, h, ht => by
    have h1 := ht t (by simp)
    have h2 := h.same t h1
    rcases hj : (L[t]?).join with _ | s
    · rw [hand_no hj, hand_no (by rw [h2]; exact hj)]
      exact ExtL.hand ts _ _ (h.set h1 _) (fun t' ht' => by rw [List.length_set]; exact ht t' (by simp [ht']))
    · have hs := join_some hj
      by_cases he : meetE s b = 0
      · rw [hand_ok hs he, hand_ok (h2.trans hs) he]
        exact ExtL.hand ts _ _ (h.set h1 _) (fun t' ht' => by rw [List.length_set]; exact ht t' (by simp [ht']))
      · rw [hand_er hs he, hand_er (h2.trans hs) he]
        exact ⟨rfl, h⟩
theorem handV_141 {L : List (Option StV)} {b : StV} {ts : List Nat} (h : ∃ t ∈ ts, L.length ≤ t) : (handV L b ts).1 = 141 := by rw [handV, if_pos h]
theorem handV_go {L : List (Option StV)} {b : StV} {ts : List Nat} (h : ¬ ∃ t ∈ ts, L.length ≤ t) : handV L b ts = handGo L b ts := by rw [handV, if_neg h]
theorem segGo_at (day : Int) : ∀ (xs : List InsV) (k : Nat) (L : List (Option StV)) (f : FoundV) (hs : List Int), (segGo day xs k L f hs).er ≠ 0 → k ≤ (segGo day xs k L f hs).at_ ∧ (segGo day xs k L f hs).at_ < k + xs.length
  | [], k, L, f, hs, h => absurd rfl h
  | x :: xs, k, L, f, hs, h => by
    rcases hj : (L[k]?).join with _ | s
    · rw [segGo_none hj]; simp
    · have hk := join_some hj
      by_cases he : applyE x day s = 0
      · by_cases hh : (handV L (applyS x s) (toOf x k)).1 = 0
        · rw [segGo_ok hk he hh] at h ⊢
          have := segGo_at day xs _ _ _ _ h
          simp only [List.length_cons]
          omega
        · rw [segGo_hand hk he hh]; simp
      · rw [segGo_app hk he]; simp
theorem segGo_first (day : Int) : ∀ (xs ys : List InsV) (k : Nat) (L M : List (Option StV)) (f g : FoundV) (hs gs : List Int), ExtL L M → k + xs.length = L.length → (segGo day xs k L f hs).er ≠ 0 → (segGo day xs k L f hs).er ≠ 141 → (∀ j, k + j ≤ (segGo day xs k L f hs).at_ → xs[j]? = ys[j]?) →
    (segGo day ys k M g gs).er = (segGo day xs k L f hs).er ∧ (segGo day ys k M g gs).at_ = (segGo day xs k L f hs).at_
  | [], ys, k, L, M, f, g, hs, gs, _, _, h, _, _ => absurd rfl h
  | x :: xs, ys, k, L, M, f, g, hs, gs, hE, hl, h, h141, hy => by
    have hat := (segGo_at day (x :: xs) k L f hs h).1
    obtain ⟨ys', rfl⟩ : ∃ ys', ys = x :: ys' := by
      have := hy 0 (by simpa using hat)
      rcases ys with _ | ⟨y, ys'⟩
      · simp at this
      · simp at this; exact ⟨ys', by rw [this]⟩
    have hkl : k < L.length := by simp at hl; omega
    have hMk := hE.same k hkl
    rcases hj : (L[k]?).join with _ | s
    · rw [segGo_none hj, segGo_none (by rw [hMk]; exact hj)]
      exact ⟨rfl, rfl⟩
    · have hk := join_some hj
      have hkM := hMk.trans hk
      by_cases he : applyE x day s = 0
      · by_cases hto : ∃ t ∈ toOf x k, L.length ≤ t
        · have h1 := handV_141 (b := applyS x s) hto
          rw [segGo_hand hk he (by rw [h1]; decide)] at h141
          exact absurd h1 h141
        · have hto2 : ¬ ∃ t ∈ toOf x k, M.length ≤ t := by
            rintro ⟨t, h1, h2⟩
            exact hto ⟨t, h1, Nat.le_trans hE.len h2⟩
          have hlt : ∀ t ∈ toOf x k, t < L.length := fun t ht => Nat.lt_of_not_le (fun hle => hto ⟨t, ht, hle⟩)
          obtain ⟨e1, e2⟩ := ExtL.hand (b := applyS x s) (toOf x k) L M hE hlt
          have eL := handV_go (b := applyS x s) hto
          have eM := handV_go (b := applyS x s) hto2
          by_cases hh : (handV L (applyS x s) (toOf x k)).1 = 0
          · have hhM : (handV M (applyS x s) (toOf x k)).1 = 0 := by rw [eM, ← e1, ← eL]; exact hh
            rw [segGo_ok hk he hh] at h h141 hy ⊢
            rw [segGo_ok hkM he hhM]
            have hlen : (handV L (applyS x s) (toOf x k)).2.length = L.length := handV_len _ _ _
            refine segGo_first day xs ys' (k + 1) _ _ _ _ _ _ ?_ ?_ h h141 (fun j hj' => ?_)
            · rw [eL, eM]
              refine e2.set ?_ none
              rw [← eL, hlen]
              exact hkl
            · rw [List.length_set, hlen]
              simp at hl
              omega
            · have := hy (j + 1) (by omega)
              simpa using this
          · have hhM : (handV M (applyS x s) (toOf x k)).1 ≠ 0 := by rw [eM, ← e1, ← eL]; exact hh
            rw [segGo_hand hk he hh, segGo_hand hkM he hhM]
            refine ⟨?_, rfl⟩
            show (handV M _ _).1 = (handV L _ _).1
            rw [eM, eL, e1]
      · rw [segGo_app hk he, segGo_app hkM he]
        exact ⟨rfl, rfl⟩
theorem ext_init {n m : Nat} (h : n ≤ m) (hn : 0 < n) : ExtL (segInit n) (segInit m) := by
  unfold segInit
  refine ⟨by simpa using h, fun t ht => ?_, fun t ht => ?_⟩
  · simp at ht
    by_cases e : t = 0
    · subst e
      rw [List.getElem?_set_self (by simp; omega), List.getElem?_set_self (by simp; omega)]
    · rw [List.getElem?_set_ne (by omega), List.getElem?_set_ne (by omega), List.getElem?_replicate, List.getElem?_replicate, if_pos ht, if_pos (by omega)]
  · simp at ht
    rw [List.getElem?_set_ne (by omega), List.getElem?_replicate]
    split <;> rfl
theorem lookGo_seg : ∀ (xs : List SegV) (n : Nat) (f : FoundV) (H : List (List Int)), (lookGo xs n f H).er ≠ 0 → n ≤ (lookGo xs n f H).seg ∧ (lookGo xs n f H).seg < n + xs.length ∧ ∃ x, xs[(lookGo xs n f H).seg - n]? = some x ∧ (lookGo xs n f H).at_ < x.code.length
  | [], n, f, H, h => absurd rfl h
  | x :: xs, n, f, H, h => by
    by_cases he : (segOf x f).er = 0
    · rw [lookGo_ok he] at h ⊢
      obtain ⟨h1, h2, y, h3, h4⟩ := lookGo_seg xs _ _ _ h
      refine ⟨by omega, by simp only [List.length_cons]; omega, y, ?_, h4⟩
      rw [show (lookGo xs (n + 1) (segOf x f).f (H ++ [(segOf x f).hs])).seg - n = (lookGo xs (n + 1) (segOf x f).f (H ++ [(segOf x f).hs])).seg - (n + 1) + 1 from by omega]
      simpa using h3
    · rw [lookGo_er he]
      refine ⟨Nat.le_refl _, by simp, x, by simp, ?_⟩
      have := (segGo_at x.day x.code 0 (segInit x.code.length) f [] he).2
      simpa [segOf] using this
/-- the same up to what goes wrong -/
theorem lookGo_first : ∀ (xs ys : List SegV) (n : Nat) (f : FoundV) (H : List (List Int)), (∀ x ∈ xs, 0 < x.code.length) → (lookGo xs n f H).er ≠ 0 → (lookGo xs n f H).er ≠ 141 → (∀ d, n + d < (lookGo xs n f H).seg → xs[d]? = ys[d]?) →
    (∃ x y, xs[(lookGo xs n f H).seg - n]? = some x ∧ ys[(lookGo xs n f H).seg - n]? = some y ∧ x.day = y.day ∧ x.code.length ≤ y.code.length ∧ ∀ j, j ≤ (lookGo xs n f H).at_ → x.code[j]? = y.code[j]?) →
    (lookGo ys n f H).er = (lookGo xs n f H).er ∧ (lookGo ys n f H).seg = (lookGo xs n f H).seg ∧ (lookGo ys n f H).at_ = (lookGo xs n f H).at_
  | [], ys, n, f, H, _, h, _, _, _ => absurd rfl h
  | x :: xs, ys, n, f, H, hpos, h, h141, hd, hs => by
    by_cases he : (segOf x f).er = 0
    · rw [lookGo_ok he] at h h141 hd hs ⊢
      obtain ⟨h1, h2, _⟩ := lookGo_seg xs _ _ _ h
      obtain ⟨ys', rfl⟩ : ∃ ys', ys = x :: ys' := by
        have := hd 0 (by omega)
        rcases ys with _ | ⟨y, ys'⟩
        · simp at this
        · simp at this; exact ⟨ys', by rw [this]⟩
      rw [lookGo_ok he]
      have e1 : (lookGo xs (n + 1) (segOf x f).f (H ++ [(segOf x f).hs])).seg - n = (lookGo xs (n + 1) (segOf x f).f (H ++ [(segOf x f).hs])).seg - (n + 1) + 1 := by omega
      refine lookGo_first xs ys' (n + 1) _ _ (fun z hz => hpos z (by simp [hz])) h h141 (fun d hd' => ?_) ?_
      · have := hd (d + 1) (by omega)
        simpa using this
      · obtain ⟨a, b, h3, h4, h5⟩ := hs
        rw [e1] at h3 h4
        exact ⟨a, b, by simpa using h3, by simpa using h4, h5⟩
    · rw [lookGo_er he] at h h141 hs ⊢
      obtain ⟨a, b, h3, h4, h5, h6, h7⟩ := hs
      simp at h3
      subst h3
      obtain ⟨ys', rfl⟩ : ∃ ys', ys = b :: ys' := by
        rcases ys with _ | ⟨y, ys'⟩
        · simp at h4
        · simp at h4; exact ⟨ys', by rw [h4]⟩
      have hp := hpos x (by simp)
      obtain ⟨e1, e2⟩ := segGo_first x.day x.code b.code 0 (segInit x.code.length) (segInit b.code.length) f f [] [] (ext_init h6 hp) (by simp [segInit]) he h141 (fun j hj => h7 j (by rw [Nat.zero_add] at hj; exact hj))
      have e1' : (segOf b f).er = (segOf x f).er := by unfold segOf; rw [← h5]; exact e1
      have e2' : (segOf b f).at_ = (segOf x f).at_ := by unfold segOf; rw [← h5]; exact e2
      rw [lookGo_er (by rw [e1']; exact he)]
      exact ⟨e1', rfl, e2'⟩
/-- the law's conclusion -/
theorem vd_first {p q : ProgV} (hq : CanonP q) (h1 : 141 < (vdOf p).er) (h2 : (vdOf p).er ≤ 146) (hd : ∀ d, d < (vdOf p).seg → p.days[d]? = q.days[d]?)
    (hs : ∃ x y, p.days[(vdOf p).seg]? = some x ∧ q.days[(vdOf p).seg]? = some y ∧ x.day = y.day ∧ x.code.length ≤ y.code.length ∧ ∀ j, j ≤ (vdOf p).at_ → x.code[j]? = y.code[j]?) :
    (vdOf q).er = (vdOf p).er ∧ (vdOf q).seg = (vdOf p).seg ∧ (vdOf q).at_ = (vdOf p).at_ := by
  by_cases hc : CanonP p
  · have hv : vdOf p = lookOf p := by
      rw [vdOf_c hc] at h1 h2 ⊢
      by_cases he : (lookOf p).er = 0
      · by_cases hn : NumsP p (lookOf p).f
        · rw [verC_ok he hn, he] at h1
          exact absurd h1 (by decide)
        · rw [verC_no he hn] at h2
          exact absurd (show (147 : Int) ≤ 146 from h2) (by decide)
      · exact verC_er he
    rw [hv] at h1 h2 hd hs ⊢
    have hpos : ∀ x ∈ p.days, 0 < x.code.length := fun x hx => by
      obtain ⟨i, hi, rfl⟩ := List.getElem_of_mem hx
      have := (hc.days i hi).code.1
      omega
    obtain ⟨e1, e2, e3⟩ := lookGo_first p.days q.days 0 found0 [] hpos (fun e => by rw [show lookGo p.days 0 found0 [] = lookOf p from rfl] at e; omega) (fun e => by rw [show lookGo p.days 0 found0 [] = lookOf p from rfl] at e; omega) (fun d hd' => hd d (by rw [Nat.zero_add] at hd'; exact hd')) (by simpa [lookOf] using hs)
    have hq2 : vdOf q = lookOf q := by rw [vdOf_c hq]; exact verC_er (by rw [show lookOf q = lookGo q.days 0 found0 [] from rfl, e1]; rw [show lookGo p.days 0 found0 [] = lookOf p from rfl]; omega)
    rw [hq2]
    exact ⟨e1, e2, e3⟩
  · rw [vdOf_no hc] at h1
    exact absurd (show (141 : Int) < 121 from h1) (by decide)
theorem vd_seg {p : ProgV} (h1 : 141 < (vdOf p).er) (h2 : (vdOf p).er ≤ 146) : ∃ x, p.days[(vdOf p).seg]? = some x ∧ (vdOf p).at_ < x.code.length := by
  by_cases hc : CanonP p
  · have hv : vdOf p = lookOf p := by
      rw [vdOf_c hc] at h1 h2 ⊢
      by_cases he : (lookOf p).er = 0
      · by_cases hn : NumsP p (lookOf p).f
        · rw [verC_ok he hn, he] at h1
          exact absurd h1 (by decide)
        · rw [verC_no he hn] at h2
          exact absurd (show (147 : Int) ≤ 146 from h2) (by decide)
      · exact verC_er he
    rw [hv] at h1 ⊢
    obtain ⟨_, _, x, h3, h4⟩ := lookGo_seg p.days 0 found0 [] (fun e => by rw [show lookGo p.days 0 found0 [] = lookOf p from rfl] at e; omega)
    exact ⟨x, by simpa [lookOf] using h3, h4⟩
  · rw [vdOf_no hc] at h1
    exact absurd (show (141 : Int) < 121 from h1) (by decide)
end Go.Proofs.YtkadamoofiddeaaDoor.Kit
-- VerifyWays in plain words: the states are an invariant of each way.
set_option linter.unusedVariables false
set_option linter.unusedSimpArgs false
namespace Go.Proofs.YtkadamoofiddeaaDoor.Kit
open Go.RowKit Go.Maps
/-- the same stack, and no slot that b has not -/
def LeS (s b : StV) : Prop := s.stk = b.stk ∧ ∀ n v, s.sl n = some v → b.sl n = some v
theorem LeS.refl (s : StV) : LeS s s := ⟨rfl, fun _ _ h => h⟩
theorem LeS.trans {s b c : StV} (h : LeS s b) (k : LeS b c) : LeS s c := ⟨h.1.trans k.1, fun n v e => k.2 n v (h.2 n v e)⟩
theorem meet_le {s b : StV} (h : meetE s b = 0) : LeS (meetS s b) s ∧ LeS (meetS s b) b := by
  have hs : s.stk = b.stk := by
    unfold meetE at h
    by_cases h1 : s.stk.length ≠ b.stk.length
    · rw [if_pos h1] at h
      exact absurd h (by decide)
    · rw [if_neg h1] at h
      by_cases h2 : s.stk ≠ b.stk
      · rw [if_pos h2] at h
        exact absurd h (by decide)
      · exact Decidable.not_not.1 h2
  have hm : ∀ n v, meetM s.sl b.sl n = some v → s.sl n = some v ∧ b.sl n = some v := fun n v e => by
    unfold meetM at e
    rcases hq : s.sl n with _ | u
    · rw [hq] at e; cases e
    · rw [hq] at e
      simp only at e
      by_cases h3 : b.sl n = some u
      · rw [if_pos h3] at e
        injection e with e
        subst e
        exact ⟨rfl, h3⟩
      · rw [if_neg h3] at e; cases e
  exact ⟨⟨rfl, fun n v e => (hm n v e).1⟩, ⟨hs, fun n v e => (hm n v e).2⟩⟩
theorem hand_le {b : StV} : ∀ (ts : List Nat) (L : List (Option StV)), (handGo L b ts).1 = 0 → (∀ t ∈ ts, t < L.length) → ∀ t, (∀ s0, L[t]? = some (some s0) → ∃ s1, (handGo L b ts).2[t]? = some (some s1) ∧ LeS s1 s0) ∧ (t ∈ ts → ∃ s1, (handGo L b ts).2[t]? = some (some s1) ∧ LeS s1 b)
  | [], L, _, _, t => ⟨fun s0 h => ⟨s0, h, LeS.refl _⟩, fun h => by cases h⟩
  | u :: us, L, h, hl, t => by
    have hu := hl u (by simp)
    rcases hj : (L[u]?).join with _ | s
    · rw [hand_no hj] at h ⊢
      have IH := hand_le us (L.set u (some b)) h (fun t' ht' => by rw [List.length_set]; exact hl t' (by simp [ht']))
      refine ⟨fun s0 h0 => ?_, fun ht => ?_⟩
      · have hne : u ≠ t := fun e => by subst e; rw [h0] at hj; cases hj
        exact (IH t).1 s0 (by rw [List.getElem?_set_ne hne]; exact h0)
      · rcases List.mem_cons.1 ht with rfl | ht
        · exact (IH t).1 b (by rw [List.getElem?_set_self hu])
        · exact (IH t).2 ht
    · have hs := join_some hj
      by_cases he : meetE s b = 0
      · obtain ⟨m1, m2⟩ := meet_le he
        rw [hand_ok hs he] at h ⊢
        have IH := hand_le us (L.set u (some (meetS s b))) h (fun t' ht' => by rw [List.length_set]; exact hl t' (by simp [ht']))
        have hself : (L.set u (some (meetS s b)))[u]? = some (some (meetS s b)) := by rw [List.getElem?_set_self hu]
        refine ⟨fun s0 h0 => ?_, fun ht => ?_⟩
        · by_cases e : u = t
          · subst e
            rw [hs] at h0
            injection h0 with h0
            injection h0 with h0
            subst h0
            obtain ⟨s1, k1, k2⟩ := (IH u).1 _ hself
            exact ⟨s1, k1, k2.trans m1⟩
          · exact (IH t).1 s0 (by rw [List.getElem?_set_ne e]; exact h0)
        · rcases List.mem_cons.1 ht with rfl | ht
          · obtain ⟨s1, k1, k2⟩ := (IH t).1 _ hself
            exact ⟨s1, k1, k2.trans m2⟩
          · exact (IH t).2 ht
      · rw [hand_er hs he] at h
        exact absurd h he
/-- the state ahead of an instruction, when its turn has come -/
def stAt : List InsV → Nat → List (Option StV) → Nat → Option StV
  | [], _, _, _ => none
  | x :: xs, k, L, t => if t = k then (L[k]?).join else match (L[k]?).join with
    | none => none
    | some s => stAt xs (k + 1) ((handV L (applyS x s) (toOf x k)).2.set k none) t
theorem toOf_gt {x : InsV} {k t : Nat} (h : t ∈ toOf x k) : k < t := by
  unfold toOf at h
  split at h
  · cases h
  · split at h
    · simp at h; omega
    · split at h
      · simp at h; omega
      · simp at h; omega
theorem seg_one {day : Int} {x : InsV} {xs : List InsV} {k : Nat} {L : List (Option StV)} {f : FoundV} {hs : List Int} (h : (segGo day (x :: xs) k L f hs).er = 0) :
    ∃ s, L[k]? = some (some s) ∧ applyE x day s = 0 ∧ (handGo L (applyS x s) (toOf x k)).1 = 0 ∧ (∀ t ∈ toOf x k, t < L.length) ∧ handV L (applyS x s) (toOf x k) = handGo L (applyS x s) (toOf x k) ∧
      segGo day (x :: xs) k L f hs = segGo day xs (k + 1) ((handGo L (applyS x s) (toOf x k)).2.set k none) (noteV f x s.stk.length) (hs ++ [(s.stk.length : Int)]) := by
  rcases hj : (L[k]?).join with _ | s
  · rw [segGo_none hj] at h
    exact absurd (show (146 : Int) = 0 from h) (by decide)
  · have hk := join_some hj
    by_cases he : applyE x day s = 0
    · by_cases hh : (handV L (applyS x s) (toOf x k)).1 = 0
      · have hto : ¬ ∃ t ∈ toOf x k, L.length ≤ t := fun hto => by
          rw [handV_141 hto] at hh
          exact absurd hh (by decide)
        have e := handV_go (b := applyS x s) hto
        refine ⟨s, hk, he, by rw [← e]; exact hh, fun t ht => Nat.lt_of_not_le (fun hle => hto ⟨t, ht, hle⟩), e, ?_⟩
        rw [segGo_ok hk he hh, e]
      · rw [segGo_hand hk he hh] at h
        exact absurd h hh
    · rw [segGo_app hk he] at h
      exact absurd h he
theorem handGo_lenT (L : List (Option StV)) (b : StV) (ts : List Nat) (h : ∀ t ∈ ts, t < L.length) : (handGo L b ts).2.length = L.length := by
  rw [← handV_go (by rintro ⟨t, h1, h2⟩; have := h t h1; omega)]
  exact handV_len _ _ _
theorem stAt_le (day : Int) : ∀ (xs : List InsV) (k : Nat) (L : List (Option StV)) (f : FoundV) (hs : List Int), (segGo day xs k L f hs).er = 0 → k + xs.length = L.length → ∀ t s0, k ≤ t → t < L.length → L[t]? = some (some s0) → ∃ s', stAt xs k L t = some s' ∧ LeS s' s0
  | [], k, L, f, hs, _, hl, t, s0, h1, h2, _ => by simp at hl; omega
  | x :: xs, k, L, f, hs, h, hl, t, s0, h1, h2, h0 => by
    obtain ⟨s, hk, he, hh, hto, hv, hr⟩ := seg_one h
    have hj : (L[k]?).join = some s := by rw [hk]; rfl
    by_cases e : t = k
    · subst e
      rw [hk] at h0
      injection h0 with h0
      injection h0 with h0
      subst h0
      exact ⟨s, by rw [stAt, if_pos rfl, hj], LeS.refl _⟩
    · rw [stAt, if_neg e, hj]
      simp only
      rw [hv]
      obtain ⟨s1, k1, k2⟩ := (hand_le _ L hh hto t).1 s0 h0
      have hlen := handGo_lenT L (applyS x s) (toOf x k) hto
      rw [hr] at h
      obtain ⟨s2, q1, q2⟩ := stAt_le day xs (k + 1) _ _ _ h (by rw [List.length_set, hlen]; simp at hl; omega) t s1 (by omega) (by rw [List.length_set, hlen]; exact h2) (by rw [List.getElem?_set_ne (fun e' => e e'.symm)]; exact k1)
      exact ⟨s2, q1, q2.trans k2⟩
theorem stAt_step (day : Int) : ∀ (xs : List InsV) (k : Nat) (L : List (Option StV)) (f : FoundV) (hs : List Int), (segGo day xs k L f hs).er = 0 → k + xs.length = L.length → ∀ pos, k ≤ pos → pos < L.length →
    ∃ x s, xs[pos - k]? = some x ∧ stAt xs k L pos = some s ∧ applyE x day s = 0 ∧ (segGo day xs k L f hs).hs[hs.length + (pos - k)]? = some (s.stk.length : Int) ∧ ∀ t ∈ toOf x pos, t < L.length ∧ ∃ s', stAt xs k L t = some s' ∧ LeS s' (applyS x s)
  | [], k, L, f, hs, _, hl, pos, h1, h2 => by simp at hl; omega
  | x :: xs, k, L, f, hs, h, hl, pos, h1, h2 => by
    obtain ⟨s, hk, he, hh, hto, hv, hr⟩ := seg_one h
    have hj : (L[k]?).join = some s := by rw [hk]; rfl
    have hlen := handGo_lenT L (applyS x s) (toOf x k) hto
    have hl2 : k + 1 + xs.length = ((handGo L (applyS x s) (toOf x k)).2.set k none).length := by rw [List.length_set, hlen]; simp at hl; omega
    have hne : ∀ t, t ≠ k → stAt (x :: xs) k L t = stAt xs (k + 1) ((handGo L (applyS x s) (toOf x k)).2.set k none) t := fun t ht => by
      rw [stAt, if_neg ht, hj]
      simp only
      rw [hv]
    rw [hr] at h ⊢
    by_cases e : pos = k
    · subst e
      refine ⟨x, s, by simp, by rw [stAt, if_pos rfl, hj], he, ?_, fun t ht => ⟨hto t ht, ?_⟩⟩
      · obtain ⟨hs', e1, _, _⟩ := segGo_fold day xs _ _ _ _ h
        rw [e1, Nat.sub_self, Nat.add_zero, List.append_assoc, List.getElem?_append_right (Nat.le_refl _), Nat.sub_self]
        rfl
      · have hgt := toOf_gt ht
        obtain ⟨s1, k1, k2⟩ := (hand_le _ L hh hto t).2 ht
        obtain ⟨s2, q1, q2⟩ := stAt_le day xs (pos + 1) _ _ _ h hl2 t s1 (by omega) (by rw [List.length_set, hlen]; exact hto t ht) (by rw [List.getElem?_set_ne (by omega)]; exact k1)
        exact ⟨s2, by rw [hne t (by omega)]; exact q1, q2.trans k2⟩
    · obtain ⟨y, s', g1, g2, g3, g4, g5⟩ := stAt_step day xs (k + 1) _ _ _ h hl2 pos (by omega) (by rw [List.length_set, hlen]; exact h2)
      refine ⟨y, s', ?_, by rw [hne pos e]; exact g2, g3, ?_, fun t ht => ?_⟩
      · rw [show pos - k = pos - (k + 1) + 1 from by omega]
        simpa using g1
      · rw [List.length_append, List.length_singleton] at g4
        rw [show hs.length + (pos - k) = hs.length + 1 + (pos - (k + 1)) from by omega]
        exact g4
      · obtain ⟨h3, s2, h4, h5⟩ := g5 t ht
        have hgt := toOf_gt ht
        rw [List.length_set, hlen] at h3
        exact ⟨h3, s2, by rw [hne t (by omega)]; exact h4, h5⟩
/-! ## the proof's numbers are bounds -/
theorem foldN_le : ∀ (xs : List InsV) (hs : List Int) (f : FoundV), f.stack ≤ (foldN f xs hs).stack ∧ f.back ≤ (foldN f xs hs).back
  | [], hs, f => by cases hs <;> exact ⟨Int.le_refl _, Int.le_refl _⟩
  | x :: xs, [], f => ⟨Int.le_refl _, Int.le_refl _⟩
  | x :: xs, y :: ys, f => by
    obtain ⟨h1, h2⟩ := foldN_le xs ys (noteV f x y)
    rw [foldN]
    have h3 : f.stack ≤ (noteV f x y).stack := by simp only [noteV]; omega
    have h4 : f.back ≤ (noteV f x y).back := by simp only [noteV]; split <;> omega
    omega
theorem foldN_mem : ∀ (xs : List InsV) (hs : List Int) (f : FoundV) (i : Nat) (x : InsV) (y : Int), xs[i]? = some x → hs[i]? = some y → y ≤ (foldN f xs hs).stack ∧ (x.op = 3 → x.b ≤ (foldN f xs hs).back)
  | [], hs, f, i, x, y, h, _ => by simp at h
  | x :: xs, [], f, i, z, y, _, h => by simp at h
  | x :: xs, y :: ys, f, 0, z, u, h, h2 => by
    simp at h h2
    subst h h2
    obtain ⟨h1, h2⟩ := foldN_le xs ys (noteV f x y)
    rw [foldN]
    refine ⟨?_, fun ho => ?_⟩
    · have h3 : y ≤ (noteV f x y).stack := by simp only [noteV]; omega
      omega
    · have h4 : x.b ≤ (noteV f x y).back := by simp only [noteV]; rw [if_pos ho]; omega
      omega
  | x :: xs, y :: ys, f, i + 1, z, u, h, h2 => by
    rw [foldN]
    exact foldN_mem xs ys _ i z u (by simpa using h) (by simpa using h2)
theorem foldD_le : ∀ (xs : List SegV) (H : List (List Int)) (f : FoundV), f.stack ≤ (foldD f xs H).stack ∧ f.back ≤ (foldD f xs H).back
  | [], H, f => by cases H <;> exact ⟨Int.le_refl _, Int.le_refl _⟩
  | x :: xs, [], f => ⟨Int.le_refl _, Int.le_refl _⟩
  | x :: xs, y :: ys, f => by
    obtain ⟨h1, h2⟩ := foldD_le xs ys (foldN f x.code y)
    obtain ⟨h3, h4⟩ := foldN_le x.code y f
    rw [foldD]
    omega
theorem foldD_mem : ∀ (xs : List SegV) (H : List (List Int)) (f : FoundV) (i : Nat) (x : SegV) (l : List Int), xs[i]? = some x → H[i]? = some l → ∀ (j : Nat) (y : InsV) (u : Int), x.code[j]? = some y → l[j]? = some u → u ≤ (foldD f xs H).stack ∧ (y.op = 3 → y.b ≤ (foldD f xs H).back)
  | [], H, f, i, x, l, h, _ => by simp at h
  | x :: xs, [], f, i, z, l, _, h => by simp at h
  | x :: xs, y :: ys, f, 0, z, l, h, h2 => fun j v u hv hu => by
    simp at h h2
    subst h h2
    obtain ⟨h1, h2⟩ := foldN_mem x.code y f j v u hv hu
    obtain ⟨h3, h4⟩ := foldD_le xs ys (foldN f x.code y)
    rw [foldD]
    exact ⟨by omega, fun ho => by have := h2 ho; omega⟩
  | x :: xs, y :: ys, f, i + 1, z, l, h, h2 => fun j v u hv hu => by
    rw [foldD]
    exact foldD_mem xs ys _ i z l (by simpa using h) (by simpa using h2) j v u hv hu
theorem lookGo_H : ∀ (xs : List SegV) (n : Nat) (f : FoundV) (H : List (List Int)), (lookGo xs n f H).er = 0 → ∀ i x, xs[i]? = some x → ∃ f', (segOf x f').er = 0 ∧ (lookGo xs n f H).H[H.length + i]? = some (segOf x f').hs
  | [], n, f, H, _, i, x, h => by simp at h
  | x :: xs, n, f, H, h, i, y, hy => by
    by_cases he : (segOf x f).er = 0
    · rw [lookGo_ok he] at h ⊢
      rcases i with _ | i
      · simp at hy
        subst hy
        refine ⟨f, he, ?_⟩
        obtain ⟨H', e1, _, _, _⟩ := lookGo_fold xs _ _ _ h
        rw [e1, Nat.add_zero, List.append_assoc, List.getElem?_append_right (Nat.le_refl _), Nat.sub_self]
        rfl
      · obtain ⟨f', h1, h2⟩ := lookGo_H xs (n + 1) _ _ h i y (by simpa using hy)
        refine ⟨f', h1, ?_⟩
        rw [List.length_append, List.length_singleton] at h2
        rw [show H.length + (i + 1) = H.length + 1 + i from by omega]
        exact h2
    · rw [lookGo_er he] at h
      exact absurd h he
/-- what a way meets -/
structure WayP (x : SegV) (hl : List Int) (F : FoundV) (A : Nat → Option StV) : Prop where
  len : hl.length = x.code.length
  init : ∃ s, A 0 = some s ∧ LeS s ⟨[], noSlots⟩
  step : ∀ pos, pos < x.code.length → ∃ i s, x.code[pos]? = some i ∧ A pos = some s ∧ hl[pos]? = some (s.stk.length : Int) ∧ (s.stk.length : Int) ≤ F.stack ∧ applyE i x.day s = 0 ∧ (i.op = 3 → i.b ≤ F.back) ∧ ∀ t ∈ toOf i pos, t < x.code.length ∧ ∃ s', A t = some s' ∧ LeS s' (applyS i s)
theorem vd_ways {p : ProgV} (h : (vdOf p).er = 0) {sg : Nat} {x : SegV} (hx : p.days[sg]? = some x) : ∃ hl A, (vdOf p).H[sg]? = some hl ∧ WayP x hl (prfOf p) A := by
  obtain ⟨_, _, hc, hl0, _⟩ := vdOf_0 h
  have h' : (lookOf p).er = 0 := by rw [hl0]; exact h
  obtain ⟨f', e1, e2⟩ := lookGo_H p.days 0 found0 [] h' sg x hx
  obtain ⟨v1, v2, v3⟩ := vd_fold h
  have e2' : (vdOf p).H[sg]? = some (segOf x f').hs := by rw [← hl0]; simpa [lookOf] using e2
  have hpos : 0 < x.code.length := by
    obtain ⟨hi, rfl⟩ := List.getElem?_eq_some_iff.1 hx
    have := (hc.days sg hi).code.1
    omega
  have hlen : (segInit x.code.length).length = x.code.length := by simp [segInit]
  have hF : prfOf p = foldD found0 p.days (vdOf p).H := by unfold prfOf; rw [if_pos h, v3]
  refine ⟨(segOf x f').hs, stAt x.code 0 (segInit x.code.length), e2', v2 sg x _ hx e2', ?_, fun pos hp => ?_⟩
  · exact stAt_le x.day x.code 0 _ f' [] e1 (by rw [hlen, Nat.zero_add]) 0 _ (Nat.le_refl _) (by rw [hlen]; exact hpos) (by unfold segInit; rw [List.getElem?_set_self (by simp; exact hpos)])
  · obtain ⟨i, s, g1, g2, g3, g4, g5⟩ := stAt_step x.day x.code 0 _ f' [] e1 (by rw [hlen, Nat.zero_add]) pos (Nat.zero_le _) (by rw [hlen]; exact hp)
    rw [Nat.sub_zero] at g1 g4
    rw [List.length_nil, Nat.zero_add] at g4
    obtain ⟨b1, b2⟩ := foldD_mem p.days (vdOf p).H found0 sg x _ hx e2' pos i _ g1 g4
    rw [← hF] at b1 b2
    refine ⟨i, s, g1, g2, g4, b1, g3, b2, fun t ht => ?_⟩
    have := g5 t ht
    rw [hlen] at this
    exact this
end Go.Proofs.YtkadamoofiddeaaDoor.Kit
-- VerifyWays in plain words: a step of a way.
set_option linter.unusedVariables false
set_option linter.unusedSimpArgs false
namespace Go.Proofs.YtkadamoofiddeaaDoor.Kit
open Go.RowKit Go.Maps
/-- a sort, as the law writes it -/
def nSort (b : Bool) : Int := if b then 2 else 1
theorem nSort_ne (b : Bool) : nSort b ≠ 0 := by cases b <;> decide
theorem nSort_in (b : Bool) : 1 ≤ nSort b ∧ nSort b ≤ 2 := by cases b <;> decide
/-- the slots that were kept on the way: the last one counts -/
def slotsOf : List (Int × Bool) → Int → Option Bool
  | [], _ => none
  | x :: xs, n => match slotsOf xs n with
    | some v => some v
    | none => if x.1 = n then some x.2 else none
theorem slotsOf_snoc (x : Int × Bool) (n : Int) : ∀ l : List (Int × Bool), slotsOf (l ++ [x]) n = if x.1 = n then some x.2 else slotsOf l n
  | [] => rfl
  | y :: ys => by
    rw [List.cons_append, slotsOf, slotsOf_snoc x n ys, slotsOf]
    by_cases h : x.1 = n
    · simp [h]
    · simp only [if_neg h]
theorem slotsOf_take {l : List (Int × Bool)} {i : Nat} {x : Int × Bool} (h : l[i]? = some x) (n : Int) : slotsOf (l.take (i + 1)) n = if x.1 = n then some x.2 else slotsOf (l.take i) n := by
  obtain ⟨hi, e⟩ := List.getElem?_eq_some_iff.1 h
  rw [← slotsOf_snoc, ← e, List.take_append_getElem hi]
/-- what an instruction takes: 0: any -/
def wTakes (op : Int) : Int := if op = 6 ∨ op = 8 then 0 else if op = 25 ∨ op = 27 then 2 else 1
/-- what it puts -/
def wPuts (op : Int) : Int := if op = 2 ∨ op = 25 ∨ (19 ≤ op ∧ op ≤ 24) then 2 else 1
def wtB (op : Int) : Bool := match vWant op with
  | none => decide (vTakes op = 0 ∨ wTakes op = 0)
  | some b => decide (wTakes op = nSort b)
theorem wTakes_nat : ∀ i : Nat, i < 29 → wtB (i : Int) = true := by decide
theorem wPuts_nat : ∀ i : Nat, i < 29 → wPuts (i : Int) = nSort (vGives (i : Int)) := by decide
theorem vNums_nat : ∀ i : Nat, i < 29 → vTakes (i : Int) ≤ 3 ∧ vPuts (i : Int) ≤ 1 ∧ ((i : Int) = 6 → vTakes (i : Int) = 1 ∧ vPuts (i : Int) = 1) ∧ ((i : Int) = 7 → vTakes (i : Int) = 0 ∧ vPuts (i : Int) = 1) ∧ (kAt (i : Int).toNat).t = (vTakes (i : Int) : Int) ∧ (kAt (i : Int).toNat).p = (vPuts (i : Int) : Int) := by decide
theorem wPuts_eq {op : Int} (h : 0 ≤ op ∧ op < 29) : wPuts op = nSort (vGives op) := by
  have := wPuts_nat op.toNat (by omega)
  rwa [Int.toNat_of_nonneg h.1] at this
theorem wTakes_eq {op : Int} (h : 0 ≤ op ∧ op < 29) : match vWant op with | none => vTakes op = 0 ∨ wTakes op = 0 | some b => wTakes op = nSort b := by
  have := wTakes_nat op.toNat (by omega)
  rw [Int.toNat_of_nonneg h.1] at this
  unfold wtB at this
  rcases hq : vWant op with _ | b
  · rw [hq] at this; simpa using this
  · rw [hq] at this; simpa using this
theorem vNums_eq {op : Int} (h : 0 ≤ op ∧ op < 29) : vTakes op ≤ 3 ∧ vPuts op ≤ 1 ∧ (op = 6 → vTakes op = 1 ∧ vPuts op = 1) ∧ (op = 7 → vTakes op = 0 ∧ vPuts op = 1) ∧ (kAt op.toNat).t = (vTakes op : Int) ∧ (kAt op.toNat).p = (vPuts op : Int) := by
  have := vNums_nat op.toNat (by omega)
  rwa [Int.toNat_of_nonneg h.1] at this
/-- the value on the top behind what an instruction takes -/
def wTop (x : InsV) (st : List Bool) : Bool := st.getD (st.length - vTakes x.op) false
/-- the sort that goes on the stack -/
def wSort (x : InsV) (st : List Bool) (sl : List (Int × Bool)) : Bool := if x.op = 6 then wTop x st else if x.op = 7 then (slotsOf sl x.a).getD false else vGives x.op
def wStk (x : InsV) (st : List Bool) (sl : List (Int × Bool)) : List Bool := st.take (st.length - vTakes x.op) ++ (if vPuts x.op = 0 then [] else [wSort x st sl])
def wSl (x : InsV) (st : List Bool) (sl : List (Int × Bool)) : List (Int × Bool) := if x.op = 6 then sl ++ [(x.a, wTop x st)] else sl
/-- what a way keeps to at a place -/
def WayI (A : Nat → Option StV) (pos : Nat) (st : List Bool) (sl : List (Int × Bool)) : Prop := ∃ s, A pos = some s ∧ LeS s ⟨st, slotsOf sl⟩
theorem apply_le {x : InsV} {s : StV} {st : List Bool} {sl : List (Int × Bool)} {day : Int} (ho : 0 ≤ x.op ∧ x.op < 29) (hl : LeS s ⟨st, slotsOf sl⟩) (he : applyE x day s = 0) : LeS (applyS x s) ⟨wStk x st sl, slotsOf (wSl x st sl)⟩ := by
  obtain ⟨hs, hm⟩ := hl
  simp only at hs hm
  obtain ⟨_, hp, h6, h7, _, _⟩ := vNums_eq ho
  have hh : vTakes x.op ≤ st.length := by
    unfold applyE at he
    split at he
    · exact absurd he (by decide)
    · rename_i h; rw [hs] at h; omega
  by_cases e7 : x.op = 7
  · obtain ⟨t7, p7⟩ := h7 e7
    have hv : ∃ v, s.sl x.a = some v := by
      rcases hq : s.sl x.a with _ | v
      · unfold applyE at he
        rw [if_neg (by rw [t7, e7]; rintro (h | h); · omega
                       · exact absurd h.1 (by decide))] at he
        by_cases hw : vWrong x.op s.stk = true
        · rw [if_pos hw] at he; exact absurd he (by decide)
        · rw [if_neg hw, if_pos e7, hq] at he; exact absurd he (by decide)
      · exact ⟨v, rfl⟩
    obtain ⟨v, hv⟩ := hv
    refine ⟨?_, fun n u hu => ?_⟩
    · rw [applyS, if_pos e7]
      simp only [wStk, t7, p7, wSort]
      rw [if_neg (by omega), if_pos e7, hv, hm _ _ hv, hs]
      simp [e7]
    · rw [applyS, if_pos e7] at hu
      simp only [wSl]
      rw [if_neg (by omega)]
      exact hm _ _ hu
  · by_cases e6 : x.op = 6
    · obtain ⟨t6, p6⟩ := h6 e6
      refine ⟨?_, fun n u hu => ?_⟩
      · rw [applyS, if_neg e7, if_pos e6]
        simp only [wStk, t6, p6, wSort]
        rw [if_pos e6, hs]
        simp only [wTop, t6]
        rw [t6] at hh
        have hl : st.length - 1 < st.length := by omega
        rw [List.getD_eq_getElem?_getD, List.getElem?_eq_getElem hl]
        simp only [Option.getD_some, Nat.one_ne_zero, if_false]
        have := List.take_append_getElem (l := st) (i := st.length - 1) hl
        rw [this, List.take_of_length_le (by omega)]
      · rw [applyS, if_neg e7, if_pos e6] at hu
        simp only at hu
        simp only [wSl]
        rw [if_pos e6, slotsOf_snoc]
        simp only [wTop, t6]
        by_cases hn : n = x.a
        · rw [if_pos hn] at hu
          rw [if_pos hn.symm, ← hs]
          exact hu
        · rw [if_neg hn] at hu
          rw [if_neg (fun e => hn e.symm)]
          exact hm _ _ hu
    · refine ⟨?_, fun n u hu => ?_⟩
      · rw [applyS, if_neg e7, if_neg e6]
        simp only [wStk, wSort]
        rw [if_neg e6, if_neg e7, hs]
        have : vPuts x.op = 0 ∨ vPuts x.op = 1 := by omega
        rcases this with h | h
        · rw [h]; rfl
        · rw [h]; rfl
      · rw [applyS, if_neg e7, if_neg e6] at hu
        simp only [wSl]
        rw [if_neg e6]
        exact hm _ _ hu
/-- a step of a way -/
structure WayT (x : SegV) (F : FoundV) (A : Nat → Option StV) (pos : Nat) (st : List Bool) (sl : List (Int × Bool)) (i : InsV) : Prop where
  at_ : x.code[pos]? = some i
  valid : (0 ≤ i.op ∧ i.op < 29) ∧ (0 ≤ i.a ∧ i.a ≤ 262143) ∧ 0 ≤ i.b ∧ i.b ≤ 3660
  fin : i.op = 0 → st = [] ∧ pos + 1 = x.code.length
  takes : vTakes i.op ≤ st.length
  sorts : wTakes i.op = 0 ∨ ∀ j b, st.length - vTakes i.op ≤ j → st[j]? = some b → nSort b = wTakes i.op
  get : i.op = 7 → ∃ v, slotsOf sl i.a = some v
  obs : i.op = 3 → i.b ≤ x.day ∧ i.b ≤ F.back
  next : ∀ t ∈ toOf i pos, t < x.code.length ∧ WayI A t (wStk i st sl) (wSl i st sl)
theorem way_step {p : ProgV} (hc : CanonP p) {sg : Nat} {x : SegV} (hx : p.days[sg]? = some x) {hl : List Int} {F : FoundV} {A : Nat → Option StV} (W : WayP x hl F A) {pos : Nat} {st : List Bool} {sl : List (Int × Bool)} (hp : pos < x.code.length) (hI : WayI A pos st sl) :
    hl[pos]? = some (st.length : Int) ∧ (st.length : Int) ≤ F.stack ∧ ∃ i, WayT x F A pos st sl i := by
  obtain ⟨s, h1, h2⟩ := hI
  obtain ⟨i, s', g1, g2, g3, g4, g5, g6, g7⟩ := W.step pos hp
  rw [h1] at g2
  injection g2 with g2
  subst g2
  have hs : s.stk = st := h2.1
  rw [hs] at g3 g4
  obtain ⟨hi, rfl⟩ := List.getElem?_eq_some_iff.1 hx
  obtain ⟨q1, q2⟩ := List.getElem?_eq_some_iff.1 g1
  have hG := hc.ins hi q1
  rw [q2] at hG
  have hv := hG.valid.nums
  have hE := g5
  unfold applyE at hE
  by_cases b1 : s.stk.length < vTakes i.op ∨ (i.op = 0 ∧ 0 < s.stk.length)
  · rw [if_pos b1] at hE; exact absurd hE (by decide)
  rw [if_neg b1, hs] at hE
  rw [hs] at b1
  by_cases b2 : vWrong i.op st = true
  · rw [if_pos b2] at hE; exact absurd hE (by decide)
  rw [if_neg b2] at hE
  refine ⟨g3, g4, i, g1, hv, fun h0 => ⟨?_, hG.fin.1 h0⟩, by omega, ?_, fun h => ?_, fun h => ⟨?_, g6 h⟩, fun t ht => ?_⟩
  · exact List.length_eq_zero_iff.1 (by omega)
  · have hw := wTakes_eq hv.1
    rcases hq : vWant i.op with _ | b
    · rw [hq] at hw
      simp only at hw
      rcases hw with h0 | h0
      · refine .inr fun j b hj hb => ?_
        have := (List.getElem?_eq_some_iff.1 hb).1
        omega
      · exact .inl h0
    · rw [hq] at hw
      simp only at hw
      refine .inr fun j c hj hb => ?_
      rw [hw]
      have hwr : ((st.drop (st.length - vTakes i.op)).any fun x => x != b) = false := by
        have : vWrong i.op st = false := by simpa using b2
        rw [vWrong, hq] at this
        exact this
      have hcb : c = b := by
        have hmem : c ∈ st.drop (st.length - vTakes i.op) := by
          rw [List.mem_iff_getElem?]
          refine ⟨j - (st.length - vTakes i.op), ?_⟩
          rw [List.getElem?_drop, show st.length - vTakes i.op + (j - (st.length - vTakes i.op)) = j from by omega]
          exact hb
        have := List.any_eq_false.1 hwr c hmem
        simpa using this
      rw [hcb]
  · rw [if_pos h] at hE
    rcases hq : s.sl i.a with _ | v
    · rw [hq] at hE; exact absurd hE (by decide)
    · exact ⟨v, h2.2 _ _ hq⟩
  · rw [if_neg (by omega), if_neg (by omega)] at hE
    by_cases b3 : i.op = 3 ∧ p.days[sg].day < i.b
    · rw [if_pos b3] at hE; exact absurd hE (by decide)
    · omega
  · obtain ⟨t1, s1, t2, t3⟩ := g7 t ht
    exact ⟨t1, s1, t2, t3.trans (apply_le hv.1 h2 g5)⟩
theorem wStk_len {x : InsV} {st : List Bool} {sl : List (Int × Bool)} : (wStk x st sl).length = (st.length - vTakes x.op) + (if vPuts x.op = 0 then 0 else 1) := by
  unfold wStk
  rw [List.length_append, List.length_take, Nat.min_eq_left (by omega)]
  split <;> rfl
theorem way_init {x : SegV} {hl : List Int} {F : FoundV} {A : Nat → Option StV} (W : WayP x hl F A) : WayI A 0 [] [] := by
  obtain ⟨s, h1, h2⟩ := W.init
  exact ⟨s, h1, h2⟩
end Go.Proofs.YtkadamoofiddeaaDoor.Kit
