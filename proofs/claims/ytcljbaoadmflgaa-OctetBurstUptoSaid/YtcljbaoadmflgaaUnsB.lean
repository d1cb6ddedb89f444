/- Unseal: the walk of the program's sections. -/
import Derived.Test.YtcljbaoadmflgaaProg
import Derived.Test.YtcljbaoadmflgaaUnsA
set_option linter.unusedVariables false
set_option linter.unusedSimpArgs false
namespace Go.Proofs.Ytcljbaoadmflgaa.Kit
open Go.RowKit
/-- what sections leaves -/
def RSecs (g : Nat) (v : Value) (l : List Int) (w : World) (R : List SecV × Int × Int × Nat) (e : Ending) (w' : World) : Prop :=
  ∃ A n c bs, e = .returned (.tuple #[.slice A n c, .int .i64 R.2.1, .int .i64 R.2.2.1]) ∧ SecsMade (· = g) w w' A n c R.1 bs ∧ (R.2.2.1 = 0 → Rdr w' g v l R.2.2.2)
theorem rsecs_no {g : Nat} {v : Value} {l : List Int} {w w' : World} {R : List SecV × Int × Int × Nat} {p e : Int} (hR : R = ([], p, e, 0)) (he : e ≠ 0) (hc : Chg (· = g) w w') : RSecs g v l w R (.returned (.tuple #[.slice none 0 0, .int .i64 p, .int .i64 e])) w' := by
  subst hR
  exact ⟨none, 0, 0, [], rfl, SecsMade.none hc, fun h => absurd h he⟩
theorem takeOk {g : Nat} {v : Value} {l m : List Int} {at_ k a2 : Nat} {w : World} (hk : at_ + k ≤ l.length) (ha : Hid (at_ + k = a2)) (hm : Hid ((l.drop at_).take k = m)) (h : Hid (Rdr w g v l at_)) :
    Calls Try.prog 32 #[.pointer (some ⟨g, 0, none⟩), .int .i64 k] w fun e w' => ∃ A n c, e = .returned (.tuple #[.slice A n c, .int .i64 0]) ∧ OwnB w' (.slice A n c) m ∧ n = m.length ∧ (∀ k, Value.ownBlock (.slice A n c) = some k → w.heap.size ≤ k) ∧ Rdr w' g v l a2 ∧ Chg (· = g) w w' := by
  refine (take g v l at_ k w h).mono ?_
  rintro e w' ⟨v2, m', at2, er, rfl, h1, h2, h3, h4, h5⟩
  rcases h5 with ⟨h5, _⟩ | ⟨_, h5, _⟩ | ⟨_, _, rfl, rfl, rfl⟩
  · omega
  · omega
  · rw [Int.toNat_natCast] at h1 h3
    rw [hm.out] at h1
    rw [ha.out] at h3
    obtain ⟨A, c, rfl, _⟩ := h1.slice
    exact ⟨A, _, c, rfl, h1, rfl, h2, h3, h4⟩
set_option maxRecDepth 20000 in
set_option maxHeartbeats 6400000 in
theorem sectionsCall {g : Nat} {v : Value} {l : List Int} {w : World} {R : List SecV × Int × Int × Nat} (hR : Hid (secsHd l = R)) (h : Hid (Rdr w g v l 8)) :
    Calls Try.prog 68 #[.pointer (some ⟨g, 0, none⟩)] w (RSecs g v l w R) := by
  obtain ⟨x0, k0, e0, hu0⟩ : ∃ x0 k0 e0, urd (l.drop 8) 18446744073709551615 = (x0, k0, e0) := ⟨_, _, _, rfl⟩
  have hx0 := urd_range (l.drop 8) 18446744073709551615
  rw [hu0] at hx0
  simp only at hx0
  have HU0 := Lib.hid hu0
  obtain ⟨p0, hp0⟩ : ∃ p0 : Int, (if e0 = 41 then (l.length : Int) else (8 : Int)) = p0 := ⟨_, rfl⟩
  have HP0 := Lib.hid hp0
  obtain ⟨a0, ha0⟩ : ∃ a0, 8 + k0 = a0 := ⟨_, rfl⟩
  have HA0 := Lib.hid ha0
  clear hu0 hp0 ha0
  go_enter Try.func68, Try.ntmps68
  go_wp2_with fail
  refine (number HU0 HA0 HP0 h).mono ?_
  rintro e w1 ⟨rfl, m1, m2⟩
  have R1 := Lib.hid m1; have C1 := Lib.hid m2
  clear m1 m2
  by_cases he0 : e0 = 0
  · have HP8 : Hid (p0 = 8) := by rw [Hid, ← HP0.out, if_neg (by omega)]
    have hp8 := HP8.out
    clear HP0 HP8
    subst he0 hp8
    by_cases h64 : 64 < x0
    · have HR : Hid (R = ([], 8, 45, 0)) := by rw [Hid, ← hR.out, secsHd_big HU0.out h64]
      go_wp2_with fail
      go_ret3
      exact rsecs_no HR.out (by decide) C1.out
    · obtain ⟨N, rfl⟩ : ∃ N : Nat, x0 = (N : Int) := ⟨x0.toNat, by omega⟩
      have HR : Hid (R = secsRd l N 0 a0 []) := by rw [Hid, ← hR.out, secsHd_ok HU0.out h64, Int.toNat_natCast, HA0.out]
      have hN : N ≤ 64 := by omega
      clear hx0
      go_wp2_with fail
      go_loopw [8, 9, 32] (fun b la i wr => ∃ k : Nat, k ≤ N ∧ i = .int .u64 k ∧ ∃ (acc : List SecV) (bs : List Value) (last : Nat) (p : Nat), la = .int .u64 last ∧ last ≤ 255 ∧ Hid (acc.length = k) ∧ Hid (secsRd l N 0 a0 [] = secsRd l (N - k) last p acc) ∧ Hid (Secs wr b acc bs) ∧ Hid (Rdr wr g v l p) ∧ Hid (∀ y, b.ownBlock = some y → w.heap.size ≤ y) ∧ Hid (∀ b ∈ bs, ∀ y, b.ownBlock = some y → w.heap.size ≤ y) ∧ Hid (ApartL bs) ∧ Hid (Chg (· = g) w wr)) (fun _ _ i _ => N - (intOf i).toNat)
      case atStart => exact ⟨0, Nat.zero_le _, rfl, [], [], 0, a0, rfl, by omega, rfl, rfl, Secs.none _, R1.out, fun y hy => by simp [Value.ownBlock] at hy, fun b hb => absurd hb (by simp), .nil, C1.out⟩
      case round =>
        obtain ⟨k, hk, rfl, acc, bs, last, p, rfl, hla, HL, SR, SJ, RJ, FJ, GJ, AJ, CJ⟩ := hrel
        obtain ⟨Av, cv, rfl, hcv, _⟩ := SJ.out.row.slice
        rw [HL.out] at SJ FJ hcv ⊢
        by_cases hlt : k < N
        · obtain ⟨x1, k1, e1, hu1⟩ : ∃ x1 k1 e1, urd (l.drop p) 18446744073709551615 = (x1, k1, e1) := ⟨_, _, _, rfl⟩
          have hx1 := urd_range (l.drop p) 18446744073709551615
          rw [hu1] at hx1
          simp only at hx1
          have HU1 := Lib.hid hu1
          obtain ⟨p1, hp1⟩ : ∃ p1 : Int, (if e1 = 41 then (l.length : Int) else (p : Int)) = p1 := ⟨_, rfl⟩
          have HP1 := Lib.hid hp1
          obtain ⟨a1, ha1⟩ : ∃ a1, p + k1 = a1 := ⟨_, rfl⟩
          have HA1 := Lib.hid ha1
          have hNk : Hid (N - k = (N - (k + 1)) + 1) := by rw [Hid]; omega
          clear hu1 hp1 ha1
          go_wp2_with fail
          refine (number HU1 HA1 HP1 RJ).mono ?_
          rintro e w2 ⟨rfl, m1, m2⟩
          have R2 := Lib.hid m1; have C2 : Hid (Chg (· = g) w w2) := CJ.out.trans m2 (fun _ _ h => h); have C2' := Lib.hid m2
          clear m1 m2
          by_cases he1 : e1 = 0
          · have HP1' : Hid (p1 = (p : Int)) := by rw [Hid, ← HP1.out, if_neg (by omega)]
            have hp1 := HP1'.out
            clear HP1 HP1'
            subst he1 hp1
            by_cases q1 : x1 ≤ (last : Int)
            · have HE : Hid (R = ([], (p : Int), 45, 0)) := by rw [Hid, HR.out, SR.out, hNk.out, secsRd_bad HU1.out (.inl q1)]
              go_wp2_with fail
              go_ret3
              exact rsecs_no HE.out (by decide) C2.out
            · by_cases q2 : 255 < x1
              · have HE : Hid (R = ([], (p : Int), 45, 0)) := by rw [Hid, HR.out, SR.out, hNk.out, secsRd_bad HU1.out (.inr q2)]
                go_wp2_with fail
                go_ret3
                exact rsecs_no HE.out (by decide) C2.out
              · obtain ⟨x, rfl⟩ : ∃ x : Nat, x1 = (x : Int) := ⟨x1.toNat, by omega⟩
                have hx : ¬ ((x : Int) ≤ last ∨ 255 < (x : Int)) := by omega
                have HX := Lib.hid hx
                obtain ⟨z, k2, e2, hu2⟩ : ∃ z k2 e2, urd (l.drop a1) 18446744073709551615 = (z, k2, e2) := ⟨_, _, _, rfl⟩
                have hz := urd_range (l.drop a1) 18446744073709551615
                rw [hu2] at hz
                simp only at hz
                have HU2 := Lib.hid hu2
                obtain ⟨p2, hp2⟩ : ∃ p2 : Int, (if e2 = 41 then (l.length : Int) else (a1 : Int)) = p2 := ⟨_, rfl⟩
                have HP2 := Lib.hid hp2
                obtain ⟨a2, ha2⟩ : ∃ a2, a1 + k2 = a2 := ⟨_, rfl⟩
                have HA2 := Lib.hid ha2
                clear hu2 hp2 hx1 hx ha2
                go_wp2_with fail
                refine (number HU2 HA2 HP2 R2).mono ?_
                rintro e w3 ⟨rfl, m1, m2⟩
                have R3 := Lib.hid m1; have C3 : Hid (Chg (· = g) w w3) := C2.out.trans m2 (fun _ _ h => h); have C3' : Hid (Chg (· = g) wr w3) := C2'.out.trans m2 (fun _ _ h => h)
                clear m1 m2
                by_cases he2 : e2 = 0
                · subst he2
                  obtain ⟨zn, rfl⟩ : ∃ zn : Nat, z = (zn : Int) := ⟨z.toNat, by omega⟩
                  have hle := R3.out.le
                  have hbd := R3.out.bound
                  obtain ⟨lf, hlf⟩ : ∃ lf : Nat, (l.length : Int) - (a2 : Int) = (lf : Int) := ⟨l.length - a2, by omega⟩
                  have hlfb : lf ≤ 140737488355328 := by omega
                  have HLF := Lib.hid hlf
                  have h0 := R3.out.blk.at_ (i := 0) rfl
                  obtain ⟨A, c, hv, hc, _⟩ := R3.out.own.slice
                  rw [hv] at h0
                  have HV := Lib.hid hv
                  clear hlf hz hle hv
                  by_cases hfar : lf < zn
                  · have HE : Hid (R = ([], (l.length : Int), 41, 0)) := by
                      rw [Hid, HR.out, SR.out, hNk.out]
                      refine secsRd_far HU1.out HX.out (by rw [HA1.out]; exact HU2.out) ?_
                      rw [HA1.out, HA2.out, HLF.out]
                      omega
                    go_wp2_with fail
                    refine (left' HLF R3).mono ?_
                    rintro e wq ⟨rfl, qa, rfl⟩
                    go_wp2_with fail
                    go_quiet (fail)
                    go_wp2_with fail
                    go_ret3
                    exact rsecs_no HE.out (by decide) ((C3.out.drewN _).drewN _)
                  · have hk3 : a2 + zn ≤ l.length := by have := HLF.out; omega
                    obtain ⟨a3, ha3⟩ : ∃ a3, a2 + zn = a3 := ⟨_, rfl⟩
                    obtain ⟨m, hm⟩ : ∃ m, (l.drop a2).take zn = m := ⟨_, rfl⟩
                    have HA3 := Lib.hid ha3
                    have HM := Lib.hid hm
                    have HK3 := Lib.hid hk3
                    have HN1 : Hid (secsRd l N 0 a0 [] = secsRd l (N - (k + 1)) x a3 (acc ++ [⟨x, m⟩])) := by
                      rw [Hid, SR.out, hNk.out, secsRd_ok HU1.out HX.out (by rw [HA1.out]; exact HU2.out) (by rw [HA1.out, HA2.out, HLF.out]; omega), HA1.out, HA2.out, Int.toNat_natCast, HA3.out, HM.out]
                    clear ha3 hm hk3
                    go_wp2_with fail
                    refine (left' HLF R3).mono ?_
                    rintro e wq ⟨rfl, qa, rfl⟩
                    have R3q : Hid (Rdr (w3.drewN qa) g v l a2) := R3.out.drewN qa
                    go_wp2_with fail
                    refine (takeOk HK3.out HA3 HM R3q).mono ?_
                    rintro e w4 ⟨A4, n4, c4, rfl, m1, m2, m3, m4, m5⟩
                    have O4 := Lib.hid m1; have L4 := Lib.hid m2; have F4 := Lib.hid m3; have R4 := Lib.hid m4
                    have C4' : Hid (Chg (· = g) wr w4) := (C3'.out.drewN qa).trans m5 (fun _ _ h => h)
                    have C4 : Hid (Chg (· = g) w w4) := CJ.out.trans C4'.out (fun _ _ h => h)
                    have F4' : Hid (∀ y, Value.ownBlock (.slice A4 n4 c4) = some y → wr.heap.size ≤ y) := fun y hy => Nat.le_trans C3'.out.size (m3 y hy)
                    have S4 : Secs w4 (.slice Av k cv) acc bs := SJ.out.chg C4'.out (fun y hy e => OwnV.type_ne SJ.out.row RJ.out.blk (by decide) (by rw [hy, e])) (fun b hb y hy e => by
                      obtain ⟨i, hi, rfl⟩ := List.getElem_of_mem hb
                      exact OwnV.type_ne (SJ.out.own i (by rw [← SJ.out.lenB]; exact hi) hi) RJ.out.blk (by decide) (by rw [hy, e]))
                    have rowT := S4.row
                    rw [HL.out] at rowT
                    have HRT := Lib.hid rowT
                    have S4h := Lib.hid S4
                    clear m1 m2 m3 m4 m5 S4 rowT
                    go_wp2_with (at_builtin; go_must (refine wp_app2 rfl _ _ 72 80 (.agg #[.int .i64 0, .slice none 0 0]) 32 rfl Try.underlying72 infoS rfl (by decide) (.slice Av k cv) k (tCells acc bs) (.int .i64 x) (.slice A4 n4 c4) rfl rfl rfl HRT.out rfl (by omega) ?_); intro v' w6 k1 k2 k3; obtain ⟨A6, c6, rfl, _, _⟩ := k1.slice; have N1 := Lib.hid k1; have N2 := Lib.hid k2; have N3 := Lib.hid k3; clear k1 k2 k3; go_frame)
                    have hnr : Hid (∀ y, Value.ownBlock (.slice Av k cv) = some y → y ≠ g) := fun y hy e => OwnV.type_ne HRT.out R4.out.blk (by decide) (by rw [hy, e])
                    have hnb : Hid (∀ y, Value.ownBlock (.slice Av k cv) = some y → ¬ ∃ cur, Blk w4 y 5 cur) := fun y hy ht => by
                      obtain ⟨cur, hcu⟩ := ht
                      exact HRT.out.type_ne hcu (by decide) hy
                    have O6 : OwnB w6 (.slice A4 n4 c4) m := O4.out.chg N2.out (fun y hy e => hnb.out y e (OwnV.typed O4.out y hy))
                    have S6 := S4h.out.snoc HL.out N2.out (fun y hy => hnb.out y hy) (x := ⟨x, m⟩) N1.out O6
                    have R6 : Rdr w6 g v l a3 := R4.out.chg N2.out (fun e => hnr.out g e rfl) (fun y hy e => hnb.out y e (OwnV.typed R4.out.own y hy))
                    have C6 : Chg (· = g) w w6 := C4.out.trans N2.out (fun y hy e => by have := FJ.out y e; omega)
                    have F6 : ∀ y, Value.ownBlock (.slice A6 (k + 1) c6) = some y → w.heap.size ≤ y := N3.out.ge FJ.out C4.out.size
                    have G6 : ∀ b ∈ bs ++ [Value.slice A4 n4 c4], ∀ y, b.ownBlock = some y → w.heap.size ≤ y := fun b hb y hy => by
                      rcases List.mem_append.1 hb with hb | hb
                      · exact GJ.out b hb y hy
                      · rw [List.mem_singleton] at hb
                        subst hb
                        exact Nat.le_trans CJ.out.size (F4'.out y hy)
                    have A6' : ApartL (bs ++ [Value.slice A4 n4 c4]) := AJ.out.snoc fun b hb y hy e => by
                      obtain ⟨i, hi, rfl⟩ := List.getElem_of_mem hb
                      have h1 := (SJ.out.own i (by rw [← SJ.out.lenB]; exact hi) hi).lt y hy
                      have h2 := F4'.out y e
                      omega
                    have P1 := Lib.hid S6; have P2 := Lib.hid R6; have P3 := Lib.hid C6; have P4 := Lib.hid F6; have P5 := Lib.hid G6; have P6 := Lib.hid A6'
                    clear O6 S6 R6 C6 F6 G6 A6'
                    go_wp2_with fail
                    go_roundw
                    case rel => exact ⟨k + 1, by omega, by go_num, acc ++ [(SecV.mk x m)], bs ++ [Value.slice A4 n4 c4], x, a3, rfl, by omega, by rw [Hid, List.length_append, HL.out]; rfl, HN1, P1, P2, P4, P5, P6, P3⟩
                    case measure => simp [intOf]; omega
                · have HE : Hid (R = ([], p2, e2, 0)) := by
                    rw [Hid, HR.out, SR.out, hNk.out, secsRd_e2 HU1.out HX.out (by rw [HA1.out]; exact HU2.out) he2, HA1.out, HP2.out]
                  have HE2 := Lib.hid he2
                  have hne : (e2 != 0) = true := by simpa using he2
                  have hne2 : (e2 == 0) = false := by simpa using he2
                  clear he2 hz
                  go_wp2_with fail
                  go_ret3
                  exact rsecs_no HE.out HE2.out C3.out
          · have HE : Hid (R = ([], p1, e1, 0)) := by rw [Hid, HR.out, SR.out, hNk.out, secsRd_e1 HU1.out he1, HP1.out]
            have HE1 := Lib.hid he1
            have hne : (e1 != 0) = true := by simpa using he1
            have hne2 : (e1 == 0) = false := by simpa using he1
            clear he1 hx1
            go_wp2_with fail
            go_ret3
            exact rsecs_no HE.out HE1.out C2.out
        · obtain rfl : k = N := by omega
          have HE : Hid (R = (acc, 0, 0, p)) := by
            rw [Hid, HR.out, SR.out, Nat.sub_self]
            rfl
          go_wp2_with fail
          go_ret3
          rw [HE.out]
          exact ⟨Av, _, cv, bs, rfl, ⟨SJ.out, CJ.out, FJ.out, GJ.out, AJ.out⟩, fun _ => RJ.out⟩
  · have HE : Hid (R = ([], p0, e0, 0)) := by rw [Hid, ← hR.out, secsHd_e HU0.out he0, HP0.out]
    have HE0 := Lib.hid he0
    have hne : (e0 != 0) = true := by simpa using he0
    have hne2 : (e0 == 0) = false := by simpa using he0
    clear he0 hx0
    go_wp2_with fail
    go_ret3
    exact rsecs_no HE.out HE0.out C1.out
end Go.Proofs.Ytcljbaoadmflgaa.Kit
