/- The reader: Int; small list functions of the laws. -/
import Derived.Test.YtlnomadhgoblkaaProg
import Derived.Test.YtlnomadhgoblkaaKit
import Derived.Test.YtlnomadhgoblkaaOctW
import Derived.Test.YtlnomadhgoblkaaOctR
import Derived.Test.YtlnomadhgoblkaaOctX
import Derived.Lib.Zigzag
set_option linter.unusedVariables false
set_option linter.unusedSimpArgs false
set_option linter.unnecessarySimpa false
namespace Go.Proofs.Ytlnomadhgoblkaa.Kit
open Go.RowKit
theorem i64_wrap_small {x : Int} (h0 : -9223372036854775808 ≤ x) (h1 : x < 9223372036854775808) : IntKind.i64.wrap x = x := by
  simp [IntKind.wrap, IntKind.bits, IntKind.signed]
  split <;> omega
theorem xor_zero_i64 (x : Int) (h0 : 0 ≤ x) (h1 : x < 9223372036854775808) : Go.bits .xor .i64 x 0 = x := by
  obtain ⟨n, rfl⟩ := Int.eq_ofNat_of_zero_le h0
  have e : (BitVec.ofInt IntKind.i64.bits ((n : Nat) : Int) ^^^ BitVec.ofInt IntKind.i64.bits 0).toNat = n := by
    rw [show BitVec.ofInt IntKind.i64.bits 0 = 0#64 from rfl, BitVec.ofInt_natCast]
    show (BitVec.ofNat 64 n ^^^ 0#64).toNat = n
    rw [BitVec.xor_zero, BitVec.toNat_ofNat]
    omega
  unfold Go.bits
  simp only [e]
  exact i64_wrap_small (by omega) (by omega)
theorem bits_xor_comm (x y : Int) : Go.bits .xor .i64 x y = Go.bits .xor .i64 y x := by
  unfold Go.bits
  simp only
  rw [BitVec.xor_comm]
theorem take_next {l m : List Int} {k : Nat} (h : l.take k = m.take k) (h1 : k < l.length) (h2 : k < m.length) (he : l[k] = m[k]) : l.take (k + 1) = m.take (k + 1) := by
  rw [List.take_succ_eq_append_getElem h1, List.take_succ_eq_append_getElem h2, h, he]
theorem ret_bool {a b : Bool} (h : a = b) : Ending.returned (.bool a) = .returned (.bool b) := by rw [h]
/-- two lists of bytes, read -/
theorem sameBytes (A B : Option Addr) (c d : Nat) (l m : List Int) (w : World) (hl : l.length ≤ 281474976710656) (hr : Hid (Rd w .u8 A l)) (hm : Hid (Rd w .u8 B m)) :
    Calls Try.prog 24 #[.slice A l.length c, .slice B m.length d] w fun e w' => e = .returned (.bool (decide (l = m))) ∧ ∃ n, w' = w.drewN n := by
  by_cases he : l.length = m.length
  · have HE := Lib.hid he
    have e1 : ((l.length : Int) != (m.length : Int)) = false := by simp [he]
    have e2 : ((l.length : Int) == (m.length : Int)) = true := by simp [he]
    clear he
    go_enter Try.func24, Try.ntmps24
    go_wp2
    go_loopw [5] (fun i wr => ∃ k : Nat, k ≤ l.length ∧ i = .int .i64 k ∧ Hid (l.take k = m.take k) ∧ ∃ n, wr = w.drewN n) (fun i _ => l.length - (intOf i).toNat)
    case atStart => exact ⟨0, Nat.zero_le _, rfl, rfl, 0, rfl⟩
    case round =>
      obtain ⟨k, hk, rfl, ht, nd, rfl⟩ := hrel
      by_cases hlt : k < l.length
      · have hlt2 : k < m.length := by have := HE.out; omega
        obtain ⟨a1, rfl, hc1⟩ := hr.out k hlt
        obtain ⟨a2, rfl, hc2⟩ := hm.out k hlt2
        have b1 : (0 : Int) ≤ (k : Int) := by omega
        have b2 : (k : Int) < (l.length : Int) := by omega
        have b3 : (k : Int) < (m.length : Int) := by omega
        by_cases hq : l[k] = m[k]
        · have HQ := Lib.hid hq
          have hq' : (l[k] != m[k]) = false := by simp [hq]
          clear hq
          go_wp2_with fail
          go_quiet (fail)
          go_wp2
          go_roundw
          case rel => exact ⟨k + 1, by omega, by go_num, take_next ht.out hlt hlt2 HQ.out, _, rfl⟩
          case measure => simp [intOf]; omega
        · have HQ := Lib.hid hq
          have hq' : (l[k] != m[k]) = true := by simp [hq]
          clear hq
          go_wp2_with fail
          go_quiet (fail)
          go_wp2
          go_ret
          exact ⟨ret_bool (decide_eq_false (fun h => HQ.out (by subst h; rfl))).symm, _, World.drewN_drewN ..⟩
      · go_wp2
        go_ret
        refine ⟨ret_bool (decide_eq_true ?_).symm, _, rfl⟩
        have := ht.out
        rw [List.take_of_length_le (by omega), List.take_of_length_le (by have := HE.out; omega)] at this
        exact this
  · have e1 : ((l.length : Int) != (m.length : Int)) = true := by simp; omega
    have HE := Lib.hid he
    clear he
    go_enter Try.func24, Try.ntmps24
    go_wp2
    go_ret
    exact ⟨ret_bool (decide_eq_false (fun h => HE.out (by rw [h]))).symm, 0, rfl⟩
end Go.Proofs.Ytlnomadhgoblkaa.Kit
