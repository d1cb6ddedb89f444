/- halves: the table of half a byte. -/
import Derived.Test.YtlnomadhgoblkaaProg
import Derived.Test.YtlnomadhgoblkaaKit
import Derived.Test.YtlnomadhgoblkaaKitB
import Derived.Test.YtlnomadhgoblkaaPlainC
import Derived.IntWalk
import Derived.Lib.Hide
set_option linter.unusedVariables false
set_option linter.unusedSimpArgs false
namespace Go.Proofs.Ytlnomadhgoblkaa.Kit
open Go.RowKit
/-- the table, made up to k -/
def tblUp (k : Nat) : List Value := (List.range 16).map fun i => .int .u32 (if i < k then vi (tbl i) else 0)
theorem tblUp_length (k : Nat) : (tblUp k).length = 16 := by simp [tblUp]
theorem tblUp_set (k : Nat) (h : k < 16) : (tblUp k).set k (.int .u32 (vi (tbl k))) = tblUp (k + 1) := by
  apply List.ext_getElem
  · simp [tblUp]
  · intro i h1 h2
    rw [List.getElem_set]
    by_cases e : k = i
    · subst e
      simp [tblUp]
    · rw [if_neg e]
      have : (i < k) = (i < k + 1) := by apply propext; omega
      simp [tblUp, this]
theorem tblUp_full : tblUp 16 = tblCells := by
  unfold tblUp tblCells
  apply List.map_congr_left
  intro i hi
  rw [if_pos (List.mem_range.1 hi)]
theorem tblUp_one (k : Nat) : ∀ v ∈ tblUp k, v.oneCell' = true := by
  intro v hv
  simp only [tblUp, List.mem_map] at hv
  obtain ⟨i, _, rfl⟩ := hv
  rfl
theorem sizeTbl : (Try.prog.info? 103).map (·.size) = some 16 := by kernel_rfl
theorem tblUp_zero : tblUp 0 = List.replicate 16 (.int .u32 0) := by
  simp [tblUp]
  rfl
set_option maxHeartbeats 1600000 in
set_option maxRecDepth 20000 in
theorem halves (w : World) :
    Calls Try.prog 47 #[] w fun e w' => e = .returned (.agg tblCells.toArray) ∧ Chg (fun _ => False) w w' := by
  go_enter Try.func47, Try.ntmps47
  go_wp2
  go_loopw [4] (fun i wr => ∃ k : Nat, k ≤ 16 ∧ i = .int .i64 k ∧ Hid (Blk wr (w.heap.size + 1) 103 (tblUp k)) ∧ Hid (Blk wr w.heap.size 103 (tblUp 0)) ∧ Hid (Chg (fun _ => False) w wr)) (fun i _ => 16 - (intOf i).toNat)
  case atStart =>
    have h1 := Blk.new (w.alloc (.cells (List.replicate 16 (Value.int .u32 0)).toArray 103)) (List.replicate 16 (Value.int .u32 0)).toArray 103
    have h2 := (Blk.new w (List.replicate 16 (Value.int .u32 0)).toArray 103).alloc (.cells (List.replicate 16 (Value.int .u32 0)).toArray 103)
    rw [show (w.alloc (.cells (List.replicate 16 (Value.int .u32 0)).toArray 103)).heap.size = w.heap.size + 1 by simp] at h1
    refine ⟨0, by omega, rfl, ?_, ?_, ((Chg.refl _ w).alloc _).alloc _⟩
    · rw [tblUp_zero]
      exact h1
    · rw [tblUp_zero]
      exact h2
  case round =>
    obtain ⟨k, hk, rfl, B1, B0, HC⟩ := hrel
    by_cases hlt : k < 16
    · have E1 : IntKind.u32.wrap (k : Int) = vi (BitVec.ofNat 32 k) := by rw [vi_ofNat k (by omega)]; exact IntWalk.u32_in _ (by omega)
      have hc : wr.cell? ⟨w.heap.size + 1, k, none⟩ = some (.int .u32 0) := by
        refine B1.out.at_ ?_
        simp [tblUp, hlt]
      have hf : wr.frozen? ⟨w.heap.size + 1, k, none⟩ = false := B1.out.frozen (by rw [tblUp_length]; exact hlt)
      go_wp2
      go_loopw [9, 3] (fun i x wr' => ∃ j : Nat, j ≤ 4 ∧ i = .int .i64 j ∧ x = .int .u32 (vi (hN j (BitVec.ofNat 32 k))) ∧ wr' = wr) (fun i _ _ => 4 - (intOf i).toNat)
      case atStart => exact ⟨0, by omega, rfl, by first | rfl | (rw [← E1]; rfl) | exact congrArg _ E1, rfl⟩
      case round =>
        obtain ⟨j, hj, rfl, rfl, rfl⟩ := hrel
        by_cases hl4 : j < 4
        · by_cases hb : hN j (BitVec.ofNat 32 k) &&& 1#32 = 1#32
          · have a1 := and1_hit hb
            have a2 := Lib.hid (hv_hit hb)
            go_wp2
            go_roundw
            case rel => exact ⟨j + 1, by omega, by go_num, congrArg (Value.int .u32) a2.out, trivial⟩
            case measure => simp [intOf]; omega
          · have a1 := and1_miss hb
            have a2 := Lib.hid (hv_miss hb)
            go_wp2
            go_roundw
            case rel => exact ⟨j + 1, by omega, by go_num, congrArg (Value.int .u32) a2.out, trivial⟩
            case measure => simp [intOf]; omega
        · obtain rfl : j = 4 := by omega
          go_wp2
          go_roundw
          case rel =>
            refine ⟨k + 1, by omega, by go_num, ?_, ?_, HC.out.setCell (p := ⟨w.heap.size + 1, k, none⟩) (fun h => absurd h (by simp)) _⟩
            · have := B1.out.set k (.int .u32 (vi (tbl k)))
              rw [tblUp_set k hlt] at this
              exact this
            · exact B0.out.set_other (by simp) _
          case measure => simp [intOf]; omega
    · obtain rfl : k = 16 := by omega
      go_wp2_with (first | ((with_reducible refine gate_load ?_); go_must (refine wp_loadB rfl _ _ rfl (w.heap.size + 1) rfl B1.out _ Try.underlying103 rfl (by rw [tblUp_length]; exact sizeTbl) ?_)) | ((with_reducible refine gate_store ?_); go_must (refine wp_storeB rfl _ _ _ rfl w.heap.size (tblUp 16) rfl rfl B0.out (by rw [tblUp_length]; exact sizeTbl) (by rw [tblUp_length, tblUp_length]) (tblUp_one 16) ?_); intro w5 k1 k2; have K1 := Lib.hid k1; have K2 := Lib.hid k2; clear k1 k2))
      refine bodyPost_ret (results_cellB rfl _ w.heap.size rfl K1.out _ Try.underlying103 rfl (by rw [tblUp_length]; exact sizeTbl)) rfl ?_
      exact ⟨by rw [tblUp_full], HC.out.trans K2.out (fun i hi e => by omega)⟩
end Go.Proofs.Ytlnomadhgoblkaa.Kit
