/- Texts that the row leans on: PlainO, Vlp. -/
import Derived.WalkKit
import Derived.Lib.Varint
import Derived.Lib.VarintBits
import Derived.Lib.Zigzag
import Derived.Laws.Bits64
-- Plain words for octet: varints as lists of numbers.
set_option linter.unusedVariables false
set_option linter.unusedSimpArgs false
set_option linter.unnecessarySimpa false
namespace Go.Proofs.Ytlnomadhgoblkaa.Kit
open Go.RowKit
/-- the varint of n -/
def vb (n : Nat) : List Int := if h : 127 < n then ((n % 128 + 128 : Nat) : Int) :: vb (n / 128) else [(n : Int)]
termination_by n
decreasing_by omega
theorem vb_more {n : Nat} (h : 127 < n) : vb n = ((n % 128 + 128 : Nat) : Int) :: vb (n / 128) := by rw [vb, dif_pos h]
theorem vb_last {n : Nat} (h : ¬ 127 < n) : vb n = [(n : Int)] := by rw [vb, dif_neg h]
theorem vb_pos (n : Nat) : 0 < (vb n).length := by rw [vb]; split <;> simp
theorem vb_len : ∀ (k n : Nat), n < 128 ^ (k + 1) → (vb n).length ≤ k + 1
  | 0, n, h => by rw [vb_last (by omega)]; simp
  | k + 1, n, h => by
    by_cases hn : 127 < n
    · rw [vb_more hn]
      have := vb_len k (n / 128) (by rw [Nat.div_lt_iff_lt_mul (by decide), ← Nat.pow_succ]; exact h)
      simp only [List.length_cons]
      omega
    · rw [vb_last hn]; simp
theorem vb_len10 {n : Nat} (h : n < 18446744073709551616) : (vb n).length ≤ 10 := vb_len 9 n (Nat.lt_of_lt_of_le h (by decide))
/-- what the loop appends: a number above 127 -/
theorem byte_more {y : Int} (h : 127 < y) : vb y.toNat = Go.bits .or .u8 (y % 256) 128 :: vb (y / 128).toNat := by
  rw [vb_more (by omega), Lib.u8_or128_any _ (by omega) (by omega)]
  congr 1
  · omega
  · congr 1
    omega
theorem byte_last {y : Int} (h0 : 0 ≤ y) (h : y ≤ 127) : vb y.toNat = [y] := by
  rw [vb_last (by omega)]
  congr 1
  omega
/-- the zigzag number of x, as a whole number -/
def zz (x : Int) : Int := if 0 ≤ x then 2 * x else -2 * x - 1
theorem zz_nonneg (x : Int) : 0 ≤ zz x := by unfold zz; split <;> omega
theorem zz_lt {x : Int} (h0 : -9223372036854775808 ≤ x) (h1 : x ≤ 9223372036854775807) : (zz x).toNat < 18446744073709551616 := by unfold zz; split <;> omega
theorem zz_len {x : Int} (h0 : -9223372036854775808 ≤ x) (h1 : x ≤ 9223372036854775807) : (vb (zz x).toNat).length ≤ 10 := vb_len10 (zz_lt h0 h1)
theorem zz_eq {x : Int} (h0 : -9223372036854775808 ≤ x) (h1 : x ≤ 9223372036854775807) :
    Go.bits .xor .u64 (IntKind.u64.wrap (IntKind.u64.wrap x * 2)) (IntKind.u64.wrap (x / 9223372036854775808)) = zz x := by
  by_cases hx : 0 ≤ x
  · have e1 : x / 9223372036854775808 = 0 := by omega
    rw [e1, IntKind.wrap_u64 0, IntKind.wrap_u64, IntKind.wrap_u64]
    have e2 : x % 18446744073709551616 * 2 % 18446744073709551616 = ((2 * x.toNat : Nat) : Int) := by omega
    have e3 : (0 : Int) % 18446744073709551616 = ((0 : Nat) : Int) := by omega
    rw [e2, e3, bits_xor_u64_nat _ _ (by omega) (by omega), Nat.xor_zero]
    unfold zz
    rw [if_pos hx]
    omega
  · have e1 : x / 9223372036854775808 = -1 := by omega
    rw [e1, IntKind.wrap_u64 (-1), IntKind.wrap_u64, IntKind.wrap_u64]
    have e2 : x % 18446744073709551616 * 2 % 18446744073709551616 = ((18446744073709551616 + 2 * x).toNat : Int) := by omega
    have e3 : (-1 : Int) % 18446744073709551616 = ((2 ^ 64 - 1 : Nat) : Int) := by decide
    rw [e2, e3, bits_xor_u64_nat _ _ (by omega) (by decide), Nat.xor_comm, Lib.xor_ones64 _ (by omega)]
    unfold zz
    rw [if_neg hx]
    omega
end Go.Proofs.Ytlnomadhgoblkaa.Kit
-- What varint and Uint answer, as the code reckons it.
set_option linter.unusedVariables false
set_option linter.unusedSimpArgs false
set_option linter.unnecessarySimpa false
namespace Go.Proofs.Ytlnomadhgoblkaa.Kit
open Go.RowKit
/-- one round of varint -/
def vstep (b : Int) (i : Nat) (x : Int) : Int := Go.bits .or .u64 x (IntKind.u64.wrap ((IntKind.u64.wrap (Go.bits .and .u8 b 127)) * 2 ^ (7*i)))
/-- what varint answers: the number, how many bytes, the error -/
def vlp (l : List Int) : Nat → Nat → Int → (Int × Int × Int)
  | 0, _, _ => if l.length < 10 then (0, 0, 41) else (0, 0, 42)
  | f + 1, i, x => if i < l.length then (if l.getD i 0 > 127 then vlp l f (i + 1) (vstep (l.getD i 0) i x) else if (0 < i ∧ l.getD i 0 = 0) ∨ (i = 9 ∧ l.getD i 0 > 1) then (0, 0, 42) else (vstep (l.getD i 0) i x, (i : Int) + 1, 0))
      else (if l.length < 10 then (0, 0, 41) else (0, 0, 42))
theorem vlp_more {l : List Int} {k : Nat} {y : Int} (h1 : k < l.length) (h2 : k < 10) (h : 127 < l[k]) : vlp l (10 - k) k y = vlp l (10 - (k + 1)) (k + 1) (vstep l[k] k y) := by
  rw [show 10 - k = (10 - (k + 1)) + 1 from by omega, vlp, if_pos h1]
  simp [h1, h]
theorem vlp_bad {l : List Int} {k : Nat} {y : Int} (h1 : k < l.length) (h2 : k < 10) (h : l[k] ≤ 127) (hb : (0 < k ∧ l[k] = 0) ∨ (k = 9 ∧ 1 < l[k])) : vlp l (10 - k) k y = (0, 0, 42) := by
  rw [show 10 - k = (10 - (k + 1)) + 1 from by omega, vlp, if_pos h1, if_neg (by simp [h1]; omega), if_pos (by simpa [h1] using hb)]
theorem vlp_good {l : List Int} {k : Nat} {y : Int} (h1 : k < l.length) (h2 : k < 10) (h : l[k] ≤ 127) (hb : ¬ ((0 < k ∧ l[k] = 0) ∨ (k = 9 ∧ 1 < l[k]))) : vlp l (10 - k) k y = (vstep l[k] k y, (k : Int) + 1, 0) := by
  rw [show 10 - k = (10 - (k + 1)) + 1 from by omega, vlp, if_pos h1, if_neg (by simp [h1]; omega), if_neg (by simpa [h1] using hb)]
  simp [h1]
theorem vlp_end {l : List Int} {k : Nat} {y : Int} (h1 : k ≤ l.length) (h : ¬ (k < l.length ∧ k < 10)) : vlp l (10 - k) k y = if l.length < 10 then (0, 0, 41) else (0, 0, 42) := by
  by_cases hk : k < 10
  · rw [show 10 - k = (10 - (k + 1)) + 1 from by omega, vlp, if_neg (by omega)]
  · rw [show 10 - k = 0 from by omega, vlp]
/-- what Uint answers over the bytes ahead: the number, how many bytes, the error -/
def urd (l : List Int) (limit : Int) : Int × Nat × Int :=
  if (vlp l 10 0 0).2.2 = 0 then (if (vlp l 10 0 0).1 > limit then (0, 0, 42) else ((vlp l 10 0 0).1, (vlp l 10 0 0).2.1.toNat, 0)) else (0, 0, (vlp l 10 0 0).2.2)
theorem vlp_ok : ∀ (f : Nat) (l : List Int) (i : Nat) (x : Int), (vlp l f i x).2.2 = 0 ∨ (vlp l f i x).2.2 = 41 ∨ (vlp l f i x).2.2 = 42
  | 0, l, i, x => by simp only [vlp]; split <;> simp
  | f + 1, l, i, x => by
    simp only [vlp]
    have ih := vlp_ok f l (i + 1) (vstep (l.getD i 0) i x)
    repeat' split
    all_goals first | exact ih | simp
theorem vlp_n : ∀ (f : Nat) (l : List Int) (i : Nat) (x : Int), (vlp l f i x).2.2 = 0 → (i : Int) + 1 ≤ (vlp l f i x).2.1 ∧ (vlp l f i x).2.1 ≤ i + f ∧ (vlp l f i x).2.1 ≤ l.length
  | 0, l, i, x => by simp only [vlp]; split <;> simp
  | f + 1, l, i, x => by
    simp only [vlp]
    have ih := vlp_n f l (i + 1) (vstep (l.getD i 0) i x)
    repeat' split
    all_goals first
      | (intro h; have := ih h; omega)
      | (intro h; refine ⟨by simp, by simp; omega, by simp; omega⟩)
      | (intro h; simp at h)
theorem urd_cases (l : List Int) (limit : Int) : (∃ x n : Int, vlp l 10 0 0 = (x, n, 0) ∧ x ≤ limit ∧ 1 ≤ n ∧ n ≤ 10 ∧ n ≤ l.length ∧ urd l limit = (x, n.toNat, 0)) ∨ (∃ x n : Int, vlp l 10 0 0 = (x, n, 0) ∧ limit < x ∧ 1 ≤ n ∧ n ≤ 10 ∧ urd l limit = (0, 0, 42)) ∨
    (∃ x n er : Int, vlp l 10 0 0 = (x, n, er) ∧ (er = 41 ∨ er = 42) ∧ urd l limit = (0, 0, er)) := by
  obtain ⟨x, n, er, h⟩ : ∃ x n er, vlp l 10 0 0 = (x, n, er) := ⟨_, _, _, rfl⟩
  have h1 := vlp_ok 10 l 0 0
  have h2 := vlp_n 10 l 0 0
  unfold urd
  rw [h] at h1 h2 ⊢
  simp only at h1 h2 ⊢
  by_cases h0 : er = 0
  · subst h0
    have h2 := h2 rfl
    by_cases hx : x > limit
    · exact .inr (.inl ⟨x, n, rfl, hx, by omega, by omega, by simp [hx]⟩)
    · exact .inl ⟨x, n, rfl, by omega, by omega, by omega, by omega, by simp [hx]⟩
  · exact .inr (.inr ⟨x, n, er, rfl, by omega, by simp [h0]⟩)
theorem wrap_range (x : Int) : 0 ≤ IntKind.u64.wrap x ∧ IntKind.u64.wrap x < 18446744073709551616 := by rw [IntKind.wrap_u64]; omega
theorem vstep_range (b : Int) (i : Nat) (x : Int) : 0 ≤ vstep b i x ∧ vstep b i x < 18446744073709551616 := wrap_range _
theorem vlp_range : ∀ (f : Nat) (l : List Int) (i : Nat) (x : Int), 0 ≤ (vlp l f i x).1 ∧ (vlp l f i x).1 < 18446744073709551616
  | 0, l, i, x => by simp only [vlp]; split <;> decide
  | f + 1, l, i, x => by
    simp only [vlp]
    have ih := vlp_range f l (i + 1) (vstep (l.getD i 0) i x)
    have hs := vstep_range (l.getD i 0) i x
    repeat' split
    all_goals first | exact ih | exact hs | decide
theorem urd_range (l : List Int) (limit : Int) : 0 ≤ (urd l limit).1 ∧ (urd l limit).1 < 18446744073709551616 := by
  have := vlp_range 10 l 0 0
  unfold urd
  repeat' split
  all_goals first | exact this | simp
theorem urd_er (l : List Int) (limit : Int) : (urd l limit).2.2 = 0 ∨ (urd l limit).2.2 = 41 ∨ (urd l limit).2.2 = 42 := by
  have := vlp_ok 10 l 0 0
  unfold urd
  repeat' split
  all_goals first | exact this | simp
theorem urd_le (l : List Int) (limit : Int) (h : (urd l limit).2.2 = 0) : (urd l limit).1 ≤ limit := by
  unfold urd at h ⊢
  split
  · rename_i h0
    rw [if_pos h0] at h
    split
    · rename_i h1
      rw [if_pos h1] at h
      simp at h
    · simp only
      omega
  · rename_i h0
    rw [if_neg h0] at h
    exact absurd h h0
theorem urd_n (l : List Int) (limit : Int) (h : (urd l limit).2.2 ≠ 0) : urd l limit = (0, 0, (urd l limit).2.2) := by
  unfold urd at h ⊢
  split
  · rename_i h0
    rw [if_pos h0] at h
    split
    · rfl
    · rename_i h1
      rw [if_neg h1] at h
      simp at h
  · rfl
end Go.Proofs.Ytlnomadhgoblkaa.Kit
