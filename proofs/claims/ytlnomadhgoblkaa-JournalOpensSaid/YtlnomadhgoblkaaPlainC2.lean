/- The checksum by half bytes is the checksum bit by bit. -/
import Derived.Test.YtlnomadhgoblkaaPlainC
set_option linter.unusedVariables false
set_option linter.unusedSimpArgs false
namespace Go.Proofs.Ytlnomadhgoblkaa.Kit
open Go.RowKit
theorem low_iff (x : V32) : (x &&& 1#32 = 1#32) ↔ x.getLsbD 0 = true := by
  rw [BitVec.and_one_eq_setWidth_ofBool_getLsbD]
  cases x.getLsbD 0 <;> decide
def pol (b : Bool) : V32 := if b then 0xEDB88320#32 else 0#32
theorem hv_eq (x : V32) : hv x = (x >>> 1) ^^^ pol (x.getLsbD 0) := by
  unfold hv pol
  by_cases h : x &&& 1#32 = 1#32
  · rw [if_pos h, if_pos ((low_iff x).1 h)]
  · rw [if_neg h, if_neg (fun h' => h ((low_iff x).2 h')), BitVec.xor_zero]
theorem pol_xor (a b : Bool) : pol (a ^^ b) = pol a ^^^ pol b := by cases a <;> cases b <;> decide
theorem hv_xor (x y : V32) : hv (x ^^^ y) = hv x ^^^ hv y := by
  rw [hv_eq, hv_eq, hv_eq, BitVec.getLsbD_xor, pol_xor, BitVec.ushiftRight_xor_distrib]
  ac_rfl
theorem hv_even {x : V32} (h : x.getLsbD 0 = false) : hv x = x >>> 1 := by rw [hv_eq, h, pol]; simp
theorem hN_xor (n : Nat) (x y : V32) : hN n (x ^^^ y) = hN n x ^^^ hN n y := by
  induction n with
  | zero => rfl
  | succ n ih => rw [hN, ih, hv_xor]; rfl
theorem hN_even (n : Nat) (x : V32) (h : ∀ i, i < n → x.getLsbD i = false) : hN n x = x >>> n := by
  induction n with
  | zero => simp [hN]
  | succ n ih =>
    rw [hN, ih (fun i hi => h i (by omega)), hv_even, ← BitVec.shiftRight_add]
    have := h n (by omega)
    simpa using this
theorem hN_add (m n : Nat) (x : V32) : hN m (hN n x) = hN (m + n) x := by
  induction m with
  | zero => simp [hN]
  | succ m ih => rw [show m + 1 + n = (m + n) + 1 by omega, hN, hN, ih]
theorem low15 (y : V32) : y = (y &&& 15#32) ^^^ (y &&& ~~~15#32) := by
  apply BitVec.eq_of_getLsbD_eq
  intro i hi
  simp only [BitVec.getLsbD_xor, BitVec.getLsbD_and, BitVec.getLsbD_not, hi, decide_true, Bool.true_and]
  cases y.getLsbD i <;> cases (15#32).getLsbD i <;> rfl
theorem nib_hN (y : V32) : nib y = hN 4 y := by
  conv => rhs; rw [low15 y]
  rw [hN_xor, hN_even 4 (y &&& ~~~15#32), nib, tbl, BitVec.ofNat_toNat, BitVec.setWidth_eq]
  · congr 1
    apply BitVec.eq_of_getLsbD_eq
    intro i hi
    simp only [BitVec.getLsbD_ushiftRight, BitVec.getLsbD_and, BitVec.getLsbD_not]
    by_cases h : 4 + i < 32
    · have : (15#32).getLsbD (4 + i) = false := by
        rw [BitVec.getLsbD_ofNat, Nat.testBit_lt_two_pow (Nat.lt_of_lt_of_le (show 15 < 2 ^ 4 by decide) (Nat.pow_le_pow_right (by decide) (by omega)))]
        simp
      rw [this]
      simp [h]
    · rw [BitVec.getLsbD_of_ge y _ (by omega)]
      simp
  · intro i hi
    rcases (show i = 0 ∨ i = 1 ∨ i = 2 ∨ i = 3 by omega) with rfl | rfl | rfl | rfl <;> simp [BitVec.getLsbD_and]
theorem crcB_hN (x : V32) (c : Int) : crcB x c = hN 8 (x ^^^ BitVec.ofInt 32 c) := by
  rw [crcB, nib_hN, nib_hN, hN_add]
/-- the document's step: a bit -/
def rstep (y : V32) (b : Bool) : V32 := (y >>> 1) ^^^ pol (y.getLsbD 0 ^^ b)
def refN (x C : V32) : Nat → V32
  | 0 => x
  | j + 1 => rstep (refN x C j) (C.getLsbD j)
theorem refN_inv (x C : V32) (j : Nat) : refN x C j ^^^ (C >>> j) = hN j (x ^^^ C) := by
  induction j with
  | zero => simp [refN, hN]
  | succ j ih =>
    rw [hN, ← ih, refN, rstep, hv_eq, BitVec.getLsbD_xor, BitVec.ushiftRight_xor_distrib, BitVec.shiftRight_add, BitVec.getLsbD_ushiftRight, Nat.add_zero]
    ac_rfl
theorem refN_crcB (x : V32) {c : Int} (h0 : 0 ≤ c) (h1 : c ≤ 255) : refN x (BitVec.ofInt 32 c) 8 = crcB x c := by
  rw [crcB_hN, ← refN_inv]
  have : BitVec.ofInt 32 c >>> 8 = 0#32 := by
    apply BitVec.eq_of_toNat_eq
    have h := vi_ofInt (c := c) h0 (by omega)
    unfold vi at h
    rw [BitVec.toNat_ushiftRight, Nat.shiftRight_eq_div_pow]
    simp only [BitVec.toNat_ofNat]
    omega
  rw [this, BitVec.xor_zero]
theorem low_vi (y : V32) : vi y % 2 = if y.getLsbD 0 then 1 else 0 := by
  have h : y.getLsbD 0 = decide (y.toNat % 2 = 1) := by rw [BitVec.getLsbD, Nat.testBit_zero]
  rw [h]
  unfold vi
  by_cases e : y.toNat % 2 = 1
  · simp [e]
    omega
  · simp [e]
    omega
theorem bit_of {c : Int} (h0 : 0 ≤ c) (h1 : c ≤ 255) (j : Nat) : c / 2 ^ j % 2 = if (BitVec.ofInt 32 c).getLsbD j then 1 else 0 := by
  have h2 := vi_shr (BitVec.ofInt 32 c) j
  have h3 := low_vi (BitVec.ofInt 32 c >>> j)
  rw [vi_ofInt h0 (by omega)] at h2
  rw [h2, h3, BitVec.getLsbD_ushiftRight, Nat.add_zero]
/-- a bit's step of the document, in names alone -/
theorem crc_bit (y : V32) {c : Int} (h0 : 0 ≤ c) (h1 : c ≤ 255) (j : Nat) (m : Int) (hm : m = 2 ^ j) : ∃ (z z' : Int) (b : Bool), vi y = z ∧ 0 ≤ z ∧ z ≤ 4294967295 ∧ (z % 2 != c / m % 2) = b ∧ (b = true → Go.bits .xor .u32 (z / 2) 3988292384 = z') ∧ (b = false → z / 2 = z') ∧ z' = vi (rstep y ((BitVec.ofInt 32 c).getLsbD j)) := by
  subst hm
  refine ⟨vi y, vi (rstep y ((BitVec.ofInt 32 c).getLsbD j)), y.getLsbD 0 ^^ (BitVec.ofInt 32 c).getLsbD j, rfl, vi_nonneg y, by have := vi_lt y; omega, ?_, fun h => ?_, fun h => ?_, rfl⟩
  · rw [low_vi, bit_of h0 h1]
    cases y.getLsbD 0 <;> cases (BitVec.ofInt 32 c).getLsbD j <;> rfl
  · have e := bits_xor32 (y >>> 1) 0xEDB88320#32
    rw [rstep, h, pol, if_pos rfl, ← e, ← vi_shr y 1]
    rfl
  · rw [rstep, h, pol]
    simp only [Bool.false_eq_true, if_false, BitVec.xor_zero]
    rw [← vi_shr y 1]
    rfl
end Go.Proofs.Ytlnomadhgoblkaa.Kit
