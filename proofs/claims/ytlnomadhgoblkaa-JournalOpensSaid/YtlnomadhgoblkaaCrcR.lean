/- The document's Crc. -/
import Derived.Test.YtlnomadhgoblkaaProg
import Derived.Test.YtlnomadhgoblkaaOpen
import Derived.Test.YtlnomadhgoblkaaPlainC2
import Derived.Lib.Hide
set_option linter.unusedVariables false
set_option linter.unusedSimpArgs false
namespace Go.Proofs.Ytlnomadhgoblkaa.Kit
open Go.RowKit
set_option maxRecDepth 20000 in
set_option maxHeartbeats 1600000 in
theorem crcRef (A : Option Addr) (c n : Nat) (l : List Int) (w : World) (hn : Hid (n = l.length)) (hb : Hid (Byt l)) (hl : Hid (l.length ≤ 140737488355328)) (hr : Hid (Rd w .u8 A l)) :
    Calls Try.prog 83 #[.slice A n c] w fun e w' => e = .returned (.int .u32 (vi (crc l))) ∧ w = w' := by
  have hl' : n ≤ 140737488355328 := by have := hl.out; rw [← hn.out] at this; exact this
  go_enter Try.func83, Try.ntmps83
  go_wp2
  go_loop [3, 4] (fun x i => ∃ k : Nat, k ≤ n ∧ i = .int .i64 k ∧ Hid (x = .int .u32 (vi (crcUp (l.take k))))) (fun _ i => n - (intOf i).toNat)
  case atStart => exact ⟨0, by omega, rfl, by rw [Hid, List.take_zero]; rfl⟩
  case round =>
    obtain ⟨k, hk, rfl, hx⟩ := hrel
    by_cases hlt : k < n
    · obtain ⟨ad, rfl, hc⟩ := hr.out k (by rw [← hn.out]; exact hlt)
      have hkl : k < l.length := by rw [← hn.out]; exact hlt
      have hv := hb.out l[k] (List.getElem_mem _)
      have HKL := Lib.hid hkl
      have hx := hx.out
      subst hx
      generalize hxx : crcUp (l.take k) = x
      generalize hvv : l[k] = v at hc hv
      have HV := Lib.hid hvv
      have HX := Lib.hid hxx
      clear hxx hvv hkl
      obtain ⟨v0, v1⟩ := hv
      go_wp2
      go_loop [3, 5] (fun y i => ∃ j : Nat, j ≤ 8 ∧ i = .int .i64 j ∧ Hid (y = .int .u32 (vi (refN x (BitVec.ofInt 32 v) j)))) (fun _ i => 8 - (intOf i).toNat)
      case atStart => exact ⟨0, by omega, rfl, rfl⟩
      case round =>
        obtain ⟨j, hj, rfl, hy⟩ := hrel
        have hy := hy.out
        subst hy
        by_cases hl8 : j < 8
        · generalize hyy : refN x (BitVec.ofInt 32 v) j = y
          have HY := Lib.hid hyy
          clear hyy
          rcases (show j = 0 ∨ j = 1 ∨ j = 2 ∨ j = 3 ∨ j = 4 ∨ j = 5 ∨ j = 6 ∨ j = 7 by omega) with rfl | rfl | rfl | rfl | rfl | rfl | rfl | rfl
          · obtain ⟨z, z', b, h0, h1, h2, h3, h4, h5, h6⟩ := crc_bit y v0 v1 0 1 rfl
            rw [h0]
            have H6 := Lib.hid h6
            clear h6 h0
            cases b
            · have h5 := Lib.hid (h5 rfl)
              clear h4
              go_wp2
              go_round
              case rel => exact ⟨1, by omega, rfl, by rw [Hid, refN, HY.out, ← H6.out, ← h5.out]⟩
              case measure => simp [intOf]
            · have h4 := h4 rfl
              clear h5
              go_wp2
              go_round
              case rel => exact ⟨1, by omega, rfl, by rw [Hid, refN, HY.out, ← H6.out]⟩
              case measure => simp [intOf]
          · obtain ⟨z, z', b, h0, h1, h2, h3, h4, h5, h6⟩ := crc_bit y v0 v1 1 2 rfl
            rw [h0]
            have H6 := Lib.hid h6
            clear h6 h0
            cases b
            · have h5 := Lib.hid (h5 rfl)
              clear h4
              go_wp2
              go_round
              case rel => exact ⟨2, by omega, rfl, by rw [Hid, refN, HY.out, ← H6.out, ← h5.out]⟩
              case measure => simp [intOf]
            · have h4 := h4 rfl
              clear h5
              go_wp2
              go_round
              case rel => exact ⟨2, by omega, rfl, by rw [Hid, refN, HY.out, ← H6.out]⟩
              case measure => simp [intOf]
          · obtain ⟨z, z', b, h0, h1, h2, h3, h4, h5, h6⟩ := crc_bit y v0 v1 2 4 rfl
            rw [h0]
            have H6 := Lib.hid h6
            clear h6 h0
            cases b
            · have h5 := Lib.hid (h5 rfl)
              clear h4
              go_wp2
              go_round
              case rel => exact ⟨3, by omega, rfl, by rw [Hid, refN, HY.out, ← H6.out, ← h5.out]⟩
              case measure => simp [intOf]
            · have h4 := h4 rfl
              clear h5
              go_wp2
              go_round
              case rel => exact ⟨3, by omega, rfl, by rw [Hid, refN, HY.out, ← H6.out]⟩
              case measure => simp [intOf]
          · obtain ⟨z, z', b, h0, h1, h2, h3, h4, h5, h6⟩ := crc_bit y v0 v1 3 8 rfl
            rw [h0]
            have H6 := Lib.hid h6
            clear h6 h0
            cases b
            · have h5 := Lib.hid (h5 rfl)
              clear h4
              go_wp2
              go_round
              case rel => exact ⟨4, by omega, rfl, by rw [Hid, refN, HY.out, ← H6.out, ← h5.out]⟩
              case measure => simp [intOf]
            · have h4 := h4 rfl
              clear h5
              go_wp2
              go_round
              case rel => exact ⟨4, by omega, rfl, by rw [Hid, refN, HY.out, ← H6.out]⟩
              case measure => simp [intOf]
          · obtain ⟨z, z', b, h0, h1, h2, h3, h4, h5, h6⟩ := crc_bit y v0 v1 4 16 rfl
            rw [h0]
            have H6 := Lib.hid h6
            clear h6 h0
            cases b
            · have h5 := Lib.hid (h5 rfl)
              clear h4
              go_wp2
              go_round
              case rel => exact ⟨5, by omega, rfl, by rw [Hid, refN, HY.out, ← H6.out, ← h5.out]⟩
              case measure => simp [intOf]
            · have h4 := h4 rfl
              clear h5
              go_wp2
              go_round
              case rel => exact ⟨5, by omega, rfl, by rw [Hid, refN, HY.out, ← H6.out]⟩
              case measure => simp [intOf]
          · obtain ⟨z, z', b, h0, h1, h2, h3, h4, h5, h6⟩ := crc_bit y v0 v1 5 32 rfl
            rw [h0]
            have H6 := Lib.hid h6
            clear h6 h0
            cases b
            · have h5 := Lib.hid (h5 rfl)
              clear h4
              go_wp2
              go_round
              case rel => exact ⟨6, by omega, rfl, by rw [Hid, refN, HY.out, ← H6.out, ← h5.out]⟩
              case measure => simp [intOf]
            · have h4 := h4 rfl
              clear h5
              go_wp2
              go_round
              case rel => exact ⟨6, by omega, rfl, by rw [Hid, refN, HY.out, ← H6.out]⟩
              case measure => simp [intOf]
          · obtain ⟨z, z', b, h0, h1, h2, h3, h4, h5, h6⟩ := crc_bit y v0 v1 6 64 rfl
            rw [h0]
            have H6 := Lib.hid h6
            clear h6 h0
            cases b
            · have h5 := Lib.hid (h5 rfl)
              clear h4
              go_wp2
              go_round
              case rel => exact ⟨7, by omega, rfl, by rw [Hid, refN, HY.out, ← H6.out, ← h5.out]⟩
              case measure => simp [intOf]
            · have h4 := h4 rfl
              clear h5
              go_wp2
              go_round
              case rel => exact ⟨7, by omega, rfl, by rw [Hid, refN, HY.out, ← H6.out]⟩
              case measure => simp [intOf]
          · obtain ⟨z, z', b, h0, h1, h2, h3, h4, h5, h6⟩ := crc_bit y v0 v1 7 128 rfl
            rw [h0]
            have H6 := Lib.hid h6
            clear h6 h0
            cases b
            · have h5 := Lib.hid (h5 rfl)
              clear h4
              go_wp2
              go_round
              case rel => exact ⟨8, by omega, rfl, by rw [Hid, refN, HY.out, ← H6.out, ← h5.out]⟩
              case measure => simp [intOf]
            · have h4 := h4 rfl
              clear h5
              go_wp2
              go_round
              case rel => exact ⟨8, by omega, rfl, by rw [Hid, refN, HY.out, ← H6.out]⟩
              case measure => simp [intOf]
        · obtain rfl : j = 8 := by omega
          go_wp2
          go_round
          case rel =>
            refine ⟨k + 1, by omega, by go_num, ?_⟩
            rw [Hid, List.take_succ_eq_append_getElem HKL.out, crcUp_snoc, HX.out]
            have hv' : l[k]'HKL.out = v := HV.out
            rw [hv', refN_crcB x v0 v1]
          case measure => simp [intOf]; omega
    · obtain rfl : k = n := by omega
      have hx := hx.out
      subst hx
      have hE := not_eq (crcUp (l.take k))
      go_wp2
      go_ret
      refine ⟨?_, rfl⟩
      have ht : l.take k = l := List.take_of_length_le (by rw [← hn.out]; exact Nat.le_refl _)
      rw [ht]
      rfl
end Go.Proofs.Ytlnomadhgoblkaa.Kit
