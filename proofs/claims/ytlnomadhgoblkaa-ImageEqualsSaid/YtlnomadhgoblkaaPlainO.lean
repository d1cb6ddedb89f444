/- Plain words for octet: varints as lists of numbers. -/
import Derived.WalkKit
import Derived.Lib.Varint
import Derived.Lib.VarintBits
import Derived.Lib.Zigzag
set_option linter.unusedVariables false
set_option linter.unusedSimpArgs false
set_option linter.unnecessarySimpa false
namespace Go.Proofs.Ytlnomadhgoblkaa.Kit
open Go.RowKit
/-- the varint of n -/
def vb (n : Nat) : List Int := if h : 127 < n then ((n % 128 + 128 : Nat) : Int) :: vb (n / 128) else [(n : Int)]
termination_by n
decreasing_by omega
theorem vb_more {n : Nat} (h : 127 < n) : vb n = ((n % 128 + 128 : Nat) : Int) :: vb (n / 128) := by rw [vb, dif_pos h]
theorem vb_last {n : Nat} (h : ¬ 127 < n) : vb n = [(n : Int)] := by rw [vb, dif_neg h]
theorem vb_pos (n : Nat) : 0 < (vb n).length := by rw [vb]; split <;> simp
theorem vb_len : ∀ (k n : Nat), n < 128 ^ (k + 1) → (vb n).length ≤ k + 1
  | 0, n, h => by rw [vb_last (by omega)]; simp
  | k + 1, n, h => by
    by_cases hn : 127 < n
    · rw [vb_more hn]
      have := vb_len k (n / 128) (by rw [Nat.div_lt_iff_lt_mul (by decide), ← Nat.pow_succ]; exact h)
      simp only [List.length_cons]
      omega
    · rw [vb_last hn]; simp
theorem vb_len10 {n : Nat} (h : n < 18446744073709551616) : (vb n).length ≤ 10 := vb_len 9 n (Nat.lt_of_lt_of_le h (by decide))
/-- what the loop appends: a number above 127 -/
theorem byte_more {y : Int} (h : 127 < y) : vb y.toNat = Go.bits .or .u8 (y % 256) 128 :: vb (y / 128).toNat := by
  rw [vb_more (by omega), Lib.u8_or128_any _ (by omega) (by omega)]
  congr 1
  · omega
  · congr 1
    omega
theorem byte_last {y : Int} (h0 : 0 ≤ y) (h : y ≤ 127) : vb y.toNat = [y] := by
  rw [vb_last (by omega)]
  congr 1
  omega
/-- the zigzag number of x, as a whole number -/
def zz (x : Int) : Int := if 0 ≤ x then 2 * x else -2 * x - 1
theorem zz_nonneg (x : Int) : 0 ≤ zz x := by unfold zz; split <;> omega
theorem zz_lt {x : Int} (h0 : -9223372036854775808 ≤ x) (h1 : x ≤ 9223372036854775807) : (zz x).toNat < 18446744073709551616 := by unfold zz; split <;> omega
theorem zz_len {x : Int} (h0 : -9223372036854775808 ≤ x) (h1 : x ≤ 9223372036854775807) : (vb (zz x).toNat).length ≤ 10 := vb_len10 (zz_lt h0 h1)
theorem zz_eq {x : Int} (h0 : -9223372036854775808 ≤ x) (h1 : x ≤ 9223372036854775807) :
    Go.bits .xor .u64 (IntKind.u64.wrap (IntKind.u64.wrap x * 2)) (IntKind.u64.wrap (x / 9223372036854775808)) = zz x := by
  by_cases hx : 0 ≤ x
  · have e1 : x / 9223372036854775808 = 0 := by omega
    rw [e1, IntKind.wrap_u64 0, IntKind.wrap_u64, IntKind.wrap_u64]
    have e2 : x % 18446744073709551616 * 2 % 18446744073709551616 = ((2 * x.toNat : Nat) : Int) := by omega
    have e3 : (0 : Int) % 18446744073709551616 = ((0 : Nat) : Int) := by omega
    rw [e2, e3, bits_xor_u64_nat _ _ (by omega) (by omega), Nat.xor_zero]
    unfold zz
    rw [if_pos hx]
    omega
  · have e1 : x / 9223372036854775808 = -1 := by omega
    rw [e1, IntKind.wrap_u64 (-1), IntKind.wrap_u64, IntKind.wrap_u64]
    have e2 : x % 18446744073709551616 * 2 % 18446744073709551616 = ((18446744073709551616 + 2 * x).toNat : Int) := by omega
    have e3 : (-1 : Int) % 18446744073709551616 = ((2 ^ 64 - 1 : Nat) : Int) := by decide
    rw [e2, e3, bits_xor_u64_nat _ _ (by omega) (by decide), Nat.xor_comm, Lib.xor_ones64 _ (by omega)]
    unfold zz
    rw [if_neg hx]
    omega
end Go.Proofs.Ytlnomadhgoblkaa.Kit
