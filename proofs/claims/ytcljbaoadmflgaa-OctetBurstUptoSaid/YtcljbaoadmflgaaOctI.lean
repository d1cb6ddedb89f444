/- The reader: Int; small list functions of the laws. -/
import Derived.Test.YtcljbaoadmflgaaProg
import Derived.Test.YtcljbaoadmflgaaKit
import Derived.Test.YtcljbaoadmflgaaOctW
import Derived.Test.YtcljbaoadmflgaaOctR
import Derived.Test.YtcljbaoadmflgaaOctX
import Derived.Lib.Zigzag
set_option linter.unusedVariables false
set_option linter.unusedSimpArgs false
set_option linter.unnecessarySimpa false
namespace Go.Proofs.Ytcljbaoadmflgaa.Kit
open Go.RowKit
theorem i64_wrap_small {x : Int} (h0 : -9223372036854775808 ≤ x) (h1 : x < 9223372036854775808) : IntKind.i64.wrap x = x := by
  simp [IntKind.wrap, IntKind.bits, IntKind.signed]
  split <;> omega
theorem xor_zero_i64 (x : Int) (h0 : 0 ≤ x) (h1 : x < 9223372036854775808) : Go.bits .xor .i64 x 0 = x := by
  obtain ⟨n, rfl⟩ := Int.eq_ofNat_of_zero_le h0
  have e : (BitVec.ofInt IntKind.i64.bits ((n : Nat) : Int) ^^^ BitVec.ofInt IntKind.i64.bits 0).toNat = n := by
    rw [show BitVec.ofInt IntKind.i64.bits 0 = 0#64 from rfl, BitVec.ofInt_natCast]
    show (BitVec.ofNat 64 n ^^^ 0#64).toNat = n
    rw [BitVec.xor_zero, BitVec.toNat_ofNat]
    omega
  unfold Go.bits
  simp only [e]
  exact i64_wrap_small (by omega) (by omega)
theorem bits_xor_comm (x y : Int) : Go.bits .xor .i64 x y = Go.bits .xor .i64 y x := by
  unfold Go.bits
  simp only
  rw [BitVec.xor_comm]
/-- the number with that zigzag number -/
def uz (x : Int) : Int := if x % 2 = 0 then x / 2 else -(x / 2) - 1
theorem uz_eq {x : Int} (h0 : 0 ≤ x) (h1 : x < 18446744073709551616) : Go.bits .xor .i64 (wrap64 (x / 2)) (wrap64 (-wrap64 (Go.bits .and .u64 x 1))) = uz x := by
  rw [Lib.u64_and1 x h0 h1]
  unfold uz
  have e1 : wrap64 (x / 2) = x / 2 := by unfold wrap64; omega
  rw [e1]
  rcases (show x % 2 = 0 ∨ x % 2 = 1 by omega) with h | h
  · rw [if_pos h, h, show wrap64 (-wrap64 0) = 0 from by unfold wrap64; omega]
    exact xor_zero_i64 _ (by omega) (by omega)
  · rw [if_neg (by omega), h, show wrap64 (-wrap64 1) = -1 from by unfold wrap64; omega, bits_xor_comm]
    obtain ⟨n, hn⟩ := Int.eq_ofNat_of_zero_le (show 0 ≤ x / 2 by omega)
    rw [hn]
    exact Lib.i64_not n (by omega)
theorem int (g : Nat) (v : Value) (l : List Int) (at_ : Nat) (w : World) (h : Hid (Rdr w g v l at_)) :
    Calls Try.prog 27 #[.pointer (some ⟨g, 0, none⟩)] w fun e w' => e = .returned (.tuple #[.int .i64 (uz (urd (l.drop at_) 18446744073709551615).1), .int .i64 (urd (l.drop at_) 18446744073709551615).2.2]) ∧ Rdr w' g v l (at_ + (urd (l.drop at_) 18446744073709551615).2.1) ∧ Chg (· = g) w w' := by
  obtain ⟨x, n, er, hu⟩ : ∃ x n er, urd (l.drop at_) 18446744073709551615 = (x, n, er) := ⟨_, _, _, rfl⟩
  have hr := urd_range (l.drop at_) 18446744073709551615
  rw [hu] at hr ⊢
  simp only at hr ⊢
  have HU := Lib.hid hu
  clear hu
  obtain ⟨h0, h1⟩ := hr
  have H1 := Lib.hid h1
  have HZ := Lib.hid (uz_eq h0 h1)
  have h2 : x / 2 < 9223372036854775808 := by omega
  have h3 := Lib.hid h2
  clear h1 h2
  go_enter Try.func27, Try.ntmps27
  go_wp2_with (go_at_call 25; go_must (refine (uint' HU h).mono ?_); rintro e w1 ⟨rfl, hr, hcg⟩; have HC := Lib.hid hcg; have HR := Lib.hid hr; clear hcg hr)
  go_ret2
  exact ⟨congrArg (fun z => Ending.returned (.tuple #[.int .i64 z, .int .i64 er])) HZ.out, HR.out, HC.out⟩
theorem take_next {l m : List Int} {k : Nat} (h : l.take k = m.take k) (h1 : k < l.length) (h2 : k < m.length) (he : l[k] = m[k]) : l.take (k + 1) = m.take (k + 1) := by
  rw [List.take_succ_eq_append_getElem h1, List.take_succ_eq_append_getElem h2, h, he]
theorem ret_bool {a b : Bool} (h : a = b) : Ending.returned (.bool a) = .returned (.bool b) := by rw [h]
/-- two lists of bytes, read -/
theorem sameBytes (A B : Option Addr) (c d : Nat) (l m : List Int) (w : World) (hl : l.length ≤ 140737488355328) (hr : Hid (Rd w .u8 A l)) (hm : Hid (Rd w .u8 B m)) :
    Calls Try.prog 23 #[.slice A l.length c, .slice B m.length d] w fun e w' => e = .returned (.bool (decide (l = m))) ∧ ∃ n, w' = w.drewN n := by
  by_cases he : l.length = m.length
  · have HE := Lib.hid he
    have e1 : ((l.length : Int) != (m.length : Int)) = false := by simp [he]
    have e2 : ((l.length : Int) == (m.length : Int)) = true := by simp [he]
    clear he
    go_enter Try.func23, Try.ntmps23
    go_wp2
    go_loopw [5] (fun i wr => ∃ k : Nat, k ≤ l.length ∧ i = .int .i64 k ∧ Hid (l.take k = m.take k) ∧ ∃ n, wr = w.drewN n) (fun i _ => l.length - (intOf i).toNat)
    case atStart => exact ⟨0, Nat.zero_le _, rfl, rfl, 0, rfl⟩
    case round =>
      obtain ⟨k, hk, rfl, ht, nd, rfl⟩ := hrel
      by_cases hlt : k < l.length
      · have hlt2 : k < m.length := by have := HE.out; omega
        obtain ⟨a1, rfl, hc1⟩ := hr.out k hlt
        obtain ⟨a2, rfl, hc2⟩ := hm.out k hlt2
        have b1 : (0 : Int) ≤ (k : Int) := by omega
        have b2 : (k : Int) < (l.length : Int) := by omega
        have b3 : (k : Int) < (m.length : Int) := by omega
        by_cases hq : l[k] = m[k]
        · have HQ := Lib.hid hq
          have hq' : (l[k] != m[k]) = false := by simp [hq]
          clear hq
          go_wp2_with fail
          go_quiet (fail)
          go_wp2
          go_roundw
          case rel => exact ⟨k + 1, by omega, by go_num, take_next ht.out hlt hlt2 HQ.out, _, rfl⟩
          case measure => simp [intOf]; omega
        · have HQ := Lib.hid hq
          have hq' : (l[k] != m[k]) = true := by simp [hq]
          clear hq
          go_wp2_with fail
          go_quiet (fail)
          go_wp2
          go_ret
          exact ⟨ret_bool (decide_eq_false (fun h => HQ.out (by subst h; rfl))).symm, _, World.drewN_drewN ..⟩
      · go_wp2
        go_ret
        refine ⟨ret_bool (decide_eq_true ?_).symm, _, rfl⟩
        have := ht.out
        rw [List.take_of_length_le (by omega), List.take_of_length_le (by have := HE.out; omega)] at this
        exact this
  · have e1 : ((l.length : Int) != (m.length : Int)) = true := by simp; omega
    have HE := Lib.hid he
    clear he
    go_enter Try.func23, Try.ntmps23
    go_wp2
    go_ret
    exact ⟨ret_bool (decide_eq_false (fun h => HE.out (by rw [h]))).symm, 0, rfl⟩
end Go.Proofs.Ytcljbaoadmflgaa.Kit
