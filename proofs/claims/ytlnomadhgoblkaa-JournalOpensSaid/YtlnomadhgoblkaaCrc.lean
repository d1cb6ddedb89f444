/- octet.Crc. -/
import Derived.Test.YtlnomadhgoblkaaCrcO
import Derived.Test.YtlnomadhgoblkaaOpen
import Derived.Test.YtlnomadhgoblkaaPlainC
set_option linter.unusedVariables false
set_option linter.unusedSimpArgs false
namespace Go.Proofs.Ytlnomadhgoblkaa.Kit
open Go.RowKit
set_option maxRecDepth 20000 in
set_option maxHeartbeats 1600000 in
theorem crcCall (A : Option Addr) (c n : Nat) (l : List Int) (w : World) (hn : Hid (n = l.length)) (hb : Hid (Byt l)) (hl : Hid (l.length ≤ 140737488355328)) (hr : Hid (Rd w .u8 A l)) :
    Calls Try.prog 23 #[.slice A n c] w fun e w' => e = .returned (.int .u32 (vi (crc l))) ∧ Chg (fun _ => False) w w' := by
  have hl' : n ≤ 140737488355328 := by have := hl.out; rw [← hn.out] at this; exact this
  go_enter Try.func23, Try.ntmps23
  go_wp2
  go_loopw [5, 10] (fun x i wr => ∃ k : Nat, k ≤ n ∧ i = .int .i64 k ∧ Hid (x = .int .u32 (vi (crcUp (l.take k)))) ∧ Hid ((Blk wr w.heap.size 102 (onceCells 0 0) ∧ Blk wr (w.heap.size + 1) 103 (tblUp 0)) ∨ (Blk wr w.heap.size 102 (onceCells 1 0) ∧ Blk wr (w.heap.size + 1) 103 tblCells)) ∧ Hid (Chg (fun _ => False) w wr)) (fun _ i _ => n - (intOf i).toNat)
  case atStart =>
    have h1 := (Blk.new w #[.int .u32 0, .int .i32 0, .int .u32 0] 102).alloc (.cells (List.replicate 16 (Value.int .u32 0)).toArray 103)
    have h2 := Blk.new (w.alloc (.cells #[.int .u32 0, .int .i32 0, .int .u32 0] 102)) (List.replicate 16 (Value.int .u32 0)).toArray 103
    rw [show (w.alloc (.cells #[.int .u32 0, .int .i32 0, .int .u32 0] 102)).heap.size = w.heap.size + 1 by simp] at h2
    refine ⟨0, by omega, rfl, ?_, .inl ⟨h1, ?_⟩, ((Chg.refl _ w).alloc _).alloc _⟩
    · rw [Hid, List.take_zero]
      rfl
    · rw [tblUp_zero]
      exact h2
  case round =>
    obtain ⟨k, hk, rfl, hx, hB, HC⟩ := hrel
    by_cases hlt : k < n
    · obtain ⟨ad, rfl, hc⟩ := hr.out.below HC.out.done k (by rw [← hn.out]; exact hlt)
      have hkl : k < l.length := by rw [← hn.out]; exact hlt
      have hv := hb.out l[k] (List.getElem_mem _)
      have HKL := Lib.hid hkl
      have hx := hx.out
      subst hx
      generalize hxx : crcUp (l.take k) = x
      generalize hvv : l[k] = v at hc hv
      have HV := Lib.hid hvv
      have HX := Lib.hid hxx
      clear hxx hvv hkl
      obtain ⟨v0, v1⟩ := hv
      have E1 : IntKind.u32.wrap v = v := IntWalk.u32_in _ (by omega)
      obtain ⟨z0, z1, z2, t1, t2, n1, n2, g1, g2, L1, g3, g5, g6, L2, g7, g8, hz⟩ := crc_step x v0 v1
      have Z := Lib.hid hz
      clear hz
      rcases hB.out with ⟨k1, k2⟩ | ⟨k1, k2⟩
      · have O1 := Lib.hid k1; have T1 := Lib.hid k2
        clear k1 k2
        go_wp2_with (go_at_call 45; go_must (refine (doFirst w.heap.size (w.heap.size + 1) (by omega) _ O1 T1 (tblUp_length 0)).mono ?_); rintro e w5 ⟨rfl, k1, k2, k3⟩; have O2 := Lib.hid k1; have T2 := Lib.hid k2; have HC2 : Hid (Chg (fun _ => False) w w5) := HC.out.trans k3 (fun i hi h => by omega); clear k1 k2 k3; have q1 := T2.out.at_ g3; have q2 := T2.out.at_ g7)
        go_roundw
        case rel =>
          refine ⟨k + 1, by omega, by go_num, ?_, .inr ⟨O2.out, T2.out⟩, HC2.out⟩
          rw [Hid, List.take_succ_eq_append_getElem HKL.out, crcUp_snoc, HX.out]
          have hv' : l[k]'HKL.out = v := HV.out
          exact congrArg (Value.int .u32) (Z.out.trans (by rw [hv']))
        case measure => simp [intOf]; omega
      · have O1 := Lib.hid k1; have T1 := Lib.hid k2
        clear k1 k2
        go_wp2_with (go_at_call 45; go_must (refine (doDone w.heap.size _ _ O1).mono ?_); rintro e w5 ⟨rfl, rfl⟩; have O2 := O1; have T2 := T1; have HC2 := HC; have q1 := T2.out.at_ g3; have q2 := T2.out.at_ g7)
        go_roundw
        case rel =>
          refine ⟨k + 1, by omega, by go_num, ?_, .inr ⟨O2.out, T2.out⟩, HC2.out⟩
          rw [Hid, List.take_succ_eq_append_getElem HKL.out, crcUp_snoc, HX.out]
          have hv' : l[k]'HKL.out = v := HV.out
          exact congrArg (Value.int .u32) (Z.out.trans (by rw [hv']))
        case measure => simp [intOf]; omega
    · obtain rfl : k = n := by omega
      have hx := hx.out
      subst hx
      have hE := not_eq (crcUp (l.take k))
      go_wp2
      go_ret
      refine ⟨?_, HC.out⟩
      have ht : l.take k = l := List.take_of_length_le (by rw [← hn.out]; exact Nat.le_refl _)
      rw [ht]
      rfl
end Go.Proofs.Ytlnomadhgoblkaa.Kit
