/- Texts that the row leans on: Jph. -/
import Derived.Test.YtlnomadhgoblkaaProg
import Derived.Test.YtlnomadhgoblkaaQJournalExactao
import Derived.Test.YtlnomadhgoblkaaQJournalExactap
-- The journal's law.go: played; JournalExact.
set_option linter.unusedVariables false
set_option linter.unusedSimpArgs false
namespace Go.Proofs.Ytlnomadhgoblkaa.Kit
open Go.RowKit
set_option maxRecDepth 20000 in
set_option maxHeartbeats 6400000 in
theorem played (late : Bool) (w : World) (C : Option Addr) (no cc : Nat) (os : List OpJ) (hC : Hid (RdOpsJ w C os)) (HNO : Hid (no = os.length)) (hos : no ≤ 1954687338211) (hcc : no ≤ cc) :
    Calls Try.prog 29 #[.slice C no cc, .bool late] w fun e w' => e = .returned (.bool true) ∧ Chg (fun _ => False) w w' := by
  go_enter Try.func29, Try.ntmps29
  go_wp2_with fail
  refine (jnew _).mono ?_
  rintro e w1 ⟨gP, DP, rfl, j1, n1, n1', c1⟩
  have J1 := Lib.hid j1
  have N1 : Hid ((∀ x, DP x → w.heap.size ≤ x) ∧ w.heap.size ≤ gP) := ⟨n1, n1'⟩
  have C1 := Lib.hid c1
  clear j1 n1 n1' c1
  go_wp2_with fail
  refine (rnew _).mono ?_
  rintro e w2 ⟨gR, rfl, r2, n2, c2⟩
  have HP := Lib.hid (pairJNew (J1.out.chg0 c2) r2 (fun x hx e => by
    rcases hx with hx | hx
    · have := J1.out.size x hx
      omega
    · have := J1.out.lt
      omega) late)
  have C2 : Hid (Chg (fun _ => False) w w2) := C1.out.trans c2 (fun _ _ h => h)
  have N2 : Hid (w.heap.size ≤ gR) := Nat.le_trans C1.out.size n2
  clear r2 n2 c2
  go_wp2_with fail
  obtain ⟨w3, hw3⟩ : ∃ w3, w3 = w2.alloc (.cells #[.pointer (some ⟨gP, 0, none⟩), .pointer (some ⟨gR, 0, none⟩), .slice none 0 0, .bool late, .slice none 0 0, .slice none 0 0] 65) := ⟨_, rfl⟩
  obtain ⟨gp, hgp⟩ : ∃ gp, gp = w2.heap.size := ⟨_, rfl⟩
  rw [← hw3, ← hgp]
  rw [← hw3, ← hgp] at HP
  have C3 : Hid (Chg (fun _ => False) w w3) := by rw [hw3]; exact C2.out.alloc _
  have hgg : Hid (w.heap.size ≤ gp) := by rw [hgp]; exact C2.out.size
  have F0 : Hid (∀ x, Foot gp gP gR DP (fun _ => False) (fun _ => False) x → w.heap.size ≤ x) := fun x hx => by
    rcases hx with hx | hx | hx | hx | hx | hx
    · rw [hx]; exact hgg.out
    · exact hx.elim
    · exact N1.out.1 x hx
    · rw [hx]; exact N1.out.2
    · exact hx.elim
    · rw [hx]; exact N2.out
  clear hw3 hgp J1 N1 C1 C2 N2
  go_loopw [6] (fun i wr => ∃ (j : Nat) (gPk gRk : Nat) (DPk DRk DBk : Nat → Prop) (lsk : List SecV) (kk : Nat), j ≤ no ∧ i = .int .i64 j ∧ kk ≤ 2 * j ∧ Hid (PairJ late gp gPk gRk DPk DRk DBk lsk kk wr) ∧ Hid (∀ x, Foot gp gPk gRk DPk DRk DBk x → w.heap.size ≤ x) ∧ Hid (Chg (fun _ => False) w wr)) (fun i _ => no - (intOf i).toNat)
  case atStart => exact ⟨0, _, _, _, _, _, _, 0, Nat.zero_le _, rfl, Nat.le_refl _, HP.out, F0.out, C3.out⟩
  case round =>
    obtain ⟨j, gPk, gRk, DPk, DRk, DBk, lsk, kk, hj, rfl, hkk, PK, FK, CK⟩ := hrel
    by_cases hlt : j < no
    · have hjl : j < os.length := by rw [← HNO.out]; exact hlt
      obtain ⟨ad, Ar, nr, cr, Ab, nb, cb, rfl, q0, q1, q2, q3, q4, oc0⟩ := hC.out j hjl
      obtain ⟨o, hoo⟩ : ∃ o, o = os[j] := ⟨_, rfl⟩
      rw [← hoo] at q0 q1 q3 oc0
      have f0 := Lib.hid q0
      have f1 := Lib.hid q1
      have f2 := Lib.hid q2
      have f3 := Lib.hid q3
      have f4 := Lib.hid q4
      have oc := Lib.hid oc0
      have HA : Hid (∀ ad, Ar = some ad → 0 < o.r.body.length → ad.block < w.heap.size) := fun ad e hl => oc0.rr.lt ad e hl
      have HB : Hid (∀ ad, Ab = some ad → 0 < o.b.length → ad.block < w.heap.size) := fun ad e hl => oc0.rb.lt ad e hl
      clear q0 q1 q2 q3 q4 oc0 hoo hjl
      have b1 : (0 : Int) ≤ (j : Int) := by omega
      have b2 : (j : Int) < (no : Int) := by omega
      have OC4 : Hid (OpCells wr o Ar nr cr Ab nb cb) := oc.out.chg CK.out HA.out HB.out (fun _ h => h.elim)
      have g0_4 := CK.out.cell (fun h => h) f0.out
      have g1_4 := CK.out.cell (fun h => h) f1.out
      have g2_4 := CK.out.cell (fun h => h) f2.out
      have g3_4 := CK.out.cell (fun h => h) f3.out
      have g4_4 := CK.out.cell (fun h => h) f4.out
      cases late
      · go_wp2_with fail
        refine (pstep o PK (by omega) OC4.out FK.out HA.out HB.out).mono ?_
        rintro e w4 ⟨rfl, ⟨gP4, gR4, DP4, DR4, DB4, ls4, p4, f4⟩, c4⟩
        have P4 := Lib.hid p4
        have F4 : Hid (∀ x, Foot gp gP4 gR4 DP4 DR4 DB4 x → w.heap.size ≤ x) := fun x hx => (f4 x hx).elim (fun h => FK.out x h) (fun h => Nat.le_trans CK.out.size h)
        have C4 : Hid (Chg (fun _ => False) w w4) := CK.out.trans c4 (fun x hx h => by have := FK.out x h; omega)
        clear p4 f4 c4
        clear g0_4 g1_4 g2_4 g3_4 g4_4
        go_wp2_with fail
        refine (keptI _ gp 65 _ DB4 _ w4 P4.out.book (by omega) 2 rfl).mono ?_
        rintro e wk ⟨rfl, rfl⟩
        go_wp2_with fail
        go_roundw
        case rel => exact ⟨j + 1, _, _, _, _, _, _, _, by omega, by go_num, by omega, P4.out, F4.out, C4.out⟩
        case measure => simp [intOf]; omega
      · by_cases hk3 : o.kind = 3
        · have e3 : (o.kind == 3) = true := by simp [hk3]
          clear hk3
          go_wp2_with fail
          refine (pstep o PK (by omega) OC4.out FK.out HA.out HB.out).mono ?_
          rintro e w4 ⟨rfl, ⟨gP4, gR4, DP4, DR4, DB4, ls4, p4, f4⟩, c4⟩
          have P4 := Lib.hid p4
          have F4 : Hid (∀ x, Foot gp gP4 gR4 DP4 DR4 DB4 x → w.heap.size ≤ x) := fun x hx => (f4 x hx).elim (fun h => FK.out x h) (fun h => Nat.le_trans CK.out.size h)
          have C4 : Hid (Chg (fun _ => False) w w4) := CK.out.trans c4 (fun x hx h => by have := FK.out x h; omega)
          clear p4 f4 c4
          clear g0_4 g1_4 g2_4 g3_4 g4_4
          have OC5 : Hid (OpCells w4 o Ar nr cr Ab nb cb) := oc.out.chg C4.out HA.out HB.out (fun _ h => h.elim)
          have g0_5 := C4.out.cell (fun h => h) f0.out
          have g1_5 := C4.out.cell (fun h => h) f1.out
          have g2_5 := C4.out.cell (fun h => h) f2.out
          have g3_5 := C4.out.cell (fun h => h) f3.out
          have g4_5 := C4.out.cell (fun h => h) f4.out
          go_wp2_with fail
          refine (pstep o P4 (by omega) OC5.out F4.out HA.out HB.out).mono ?_
          rintro e w5 ⟨rfl, ⟨gP5, gR5, DP5, DR5, DB5, ls5, p5, f5⟩, c5⟩
          have P5 := Lib.hid p5
          have F5 : Hid (∀ x, Foot gp gP5 gR5 DP5 DR5 DB5 x → w.heap.size ≤ x) := fun x hx => (f5 x hx).elim (fun h => F4.out x h) (fun h => Nat.le_trans C4.out.size h)
          have C5 : Hid (Chg (fun _ => False) w w5) := C4.out.trans c5 (fun x hx h => by have := F4.out x h; omega)
          clear p5 f5 c5
          clear g0_5 g1_5 g2_5 g3_5 g4_5
          go_wp2_with fail
          refine (keptI _ gp 65 _ DB5 _ w5 P5.out.book (by omega) 2 rfl).mono ?_
          rintro e wk ⟨rfl, rfl⟩
          go_wp2_with fail
          go_roundw
          case rel => exact ⟨j + 1, _, _, _, _, _, _, _, by omega, by go_num, by omega, P5.out, F5.out, C5.out⟩
          case measure => simp [intOf]; omega
        · have e3 : (o.kind == 3) = false := by simp [hk3]
          clear hk3
          by_cases hk4 : o.kind = 4
          · have e4 : (o.kind == 4) = true := by simp [hk4]
            clear hk4
            go_wp2_with fail
            refine (pstep o PK (by omega) OC4.out FK.out HA.out HB.out).mono ?_
            rintro e w4 ⟨rfl, ⟨gP4, gR4, DP4, DR4, DB4, ls4, p4, f4⟩, c4⟩
            have P4 := Lib.hid p4
            have F4 : Hid (∀ x, Foot gp gP4 gR4 DP4 DR4 DB4 x → w.heap.size ≤ x) := fun x hx => (f4 x hx).elim (fun h => FK.out x h) (fun h => Nat.le_trans CK.out.size h)
            have C4 : Hid (Chg (fun _ => False) w w4) := CK.out.trans c4 (fun x hx h => by have := FK.out x h; omega)
            clear p4 f4 c4
            clear g0_4 g1_4 g2_4 g3_4 g4_4
            have OC5 : Hid (OpCells w4 o Ar nr cr Ab nb cb) := oc.out.chg C4.out HA.out HB.out (fun _ h => h.elim)
            have g0_5 := C4.out.cell (fun h => h) f0.out
            have g1_5 := C4.out.cell (fun h => h) f1.out
            have g2_5 := C4.out.cell (fun h => h) f2.out
            have g3_5 := C4.out.cell (fun h => h) f3.out
            have g4_5 := C4.out.cell (fun h => h) f4.out
            go_wp2_with fail
            refine (pstep o P4 (by omega) OC5.out F4.out HA.out HB.out).mono ?_
            rintro e w5 ⟨rfl, ⟨gP5, gR5, DP5, DR5, DB5, ls5, p5, f5⟩, c5⟩
            have P5 := Lib.hid p5
            have F5 : Hid (∀ x, Foot gp gP5 gR5 DP5 DR5 DB5 x → w.heap.size ≤ x) := fun x hx => (f5 x hx).elim (fun h => F4.out x h) (fun h => Nat.le_trans C4.out.size h)
            have C5 : Hid (Chg (fun _ => False) w w5) := C4.out.trans c5 (fun x hx h => by have := F4.out x h; omega)
            clear p5 f5 c5
            clear g0_5 g1_5 g2_5 g3_5 g4_5
            go_wp2_with fail
            refine (keptI _ gp 65 _ DB5 _ w5 P5.out.book (by omega) 2 rfl).mono ?_
            rintro e wk ⟨rfl, rfl⟩
            go_wp2_with fail
            go_roundw
            case rel => exact ⟨j + 1, _, _, _, _, _, _, _, by omega, by go_num, by omega, P5.out, F5.out, C5.out⟩
            case measure => simp [intOf]; omega
          · have e4 : (o.kind == 4) = false := by simp [hk4]
            clear hk4
            go_wp2_with fail
            refine (pstep o PK (by omega) OC4.out FK.out HA.out HB.out).mono ?_
            rintro e w4 ⟨rfl, ⟨gP4, gR4, DP4, DR4, DB4, ls4, p4, f4⟩, c4⟩
            have P4 := Lib.hid p4
            have F4 : Hid (∀ x, Foot gp gP4 gR4 DP4 DR4 DB4 x → w.heap.size ≤ x) := fun x hx => (f4 x hx).elim (fun h => FK.out x h) (fun h => Nat.le_trans CK.out.size h)
            have C4 : Hid (Chg (fun _ => False) w w4) := CK.out.trans c4 (fun x hx h => by have := FK.out x h; omega)
            clear p4 f4 c4
            clear g0_4 g1_4 g2_4 g3_4 g4_4
            have OC5 : Hid (OpCells w4 o Ar nr cr Ab nb cb) := oc.out.chg C4.out HA.out HB.out (fun _ h => h.elim)
            have g0_5 := C4.out.cell (fun h => h) f0.out
            have g1_5 := C4.out.cell (fun h => h) f1.out
            have g2_5 := C4.out.cell (fun h => h) f2.out
            have g3_5 := C4.out.cell (fun h => h) f3.out
            have g4_5 := C4.out.cell (fun h => h) f4.out
            go_wp2_with fail
            refine (keptI _ gp 65 _ DB4 _ w4 P4.out.book (by omega) 2 rfl).mono ?_
            rintro e wk ⟨rfl, rfl⟩
            go_wp2_with fail
            go_roundw
            case rel => exact ⟨j + 1, _, _, _, _, _, _, _, by omega, by go_num, by omega, P4.out, F4.out, C4.out⟩
            case measure => simp [intOf]; omega
    · obtain rfl : j = no := by omega
      cases late
      · go_wp2_with fail
        go_ret
        exact ⟨rfl, CK.out⟩
      · go_wp2_with fail
        refine (lateI gp 65 _ DBk kk wr (by decide) (by decide) (Lib.hid PK.out.book) (by omega) 2 rfl).mono ?_
        rintro e wl ⟨rfl, cl⟩
        have CL : Hid (Chg (fun _ => False) w wl) := CK.out.trans cl (fun x hx h => by
          rcases h with h | h
          · have := hgg.out
            omega
          · have := FK.out x (.inr (.inl h))
            omega)
        clear cl
        go_wp2_with fail
        go_ret
        exact ⟨rfl, CL.out⟩
set_option maxRecDepth 20000 in
theorem journalExactWalk (w : World) (C : Option Addr) (cc : Nat) (os : List OpJ) (hC : Hid (RdOpsJ w C os)) (hos : os.length * 72 ≤ 140737488351232) (hcc : os.length ≤ cc) :
    Calls Try.prog 7 #[.slice C os.length cc] w fun e w' => e = .returned (.bool true) ∧ Below w.heap.size w w' := by
  obtain ⟨no, hno⟩ : ∃ n, n = os.length := ⟨_, rfl⟩
  have HNO := Lib.hid hno
  rw [← hno]
  rw [← hno] at hos hcc
  have hos2 : no ≤ 1954687338211 := by omega
  clear hno hos
  go_enter Try.func7, Try.ntmps7
  go_wp2_with fail
  refine (played false w C no cc os hC HNO hos2 hcc).mono ?_
  rintro e w1 ⟨rfl, k1⟩
  have C1 := Lib.hid k1
  have O1 : Hid (RdOpsJ w1 C os) := hC.out.below k1.done
  clear k1
  go_wp2_with fail
  refine (played true w1 C no cc os O1 HNO hos2 hcc).mono ?_
  rintro e w2 ⟨rfl, k1⟩
  have C2 := Lib.hid (C1.out.trans k1 (fun _ _ h => h))
  clear k1
  go_wp2_with fail
  go_ret
  exact ⟨rfl, C2.out.done⟩
end Go.Proofs.Ytlnomadhgoblkaa.Kit
