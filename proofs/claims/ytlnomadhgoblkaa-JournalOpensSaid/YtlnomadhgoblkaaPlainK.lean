/- The checksum finds every burst of at most 32 bits: the register, bit by bit. -/
import Derived.Test.YtlnomadhgoblkaaPlainC2
import Derived.Test.YtlnomadhgoblkaaSecs
set_option linter.unusedVariables false
set_option linter.unusedSimpArgs false
namespace Go.Proofs.Ytlnomadhgoblkaa.Kit
open Go.RowKit
/-- the register behind n bits -/
def reg (f : Nat → Bool) (x : V32) : Nat → V32
  | 0 => x
  | n + 1 => rstep (reg f x n) (f n)
theorem rstep_xor (x y : V32) (a b : Bool) : rstep (x ^^^ y) (a ^^ b) = rstep x a ^^^ rstep y b := by
  unfold rstep
  rw [BitVec.ushiftRight_xor_distrib, BitVec.getLsbD_xor]
  have : (x.getLsbD 0 ^^ y.getLsbD 0 ^^ (a ^^ b)) = ((x.getLsbD 0 ^^ a) ^^ (y.getLsbD 0 ^^ b)) := by
    cases x.getLsbD 0 <;> cases y.getLsbD 0 <;> cases a <;> cases b <;> rfl
  rw [this, pol_xor]
  ac_rfl
theorem rstep_false (x : V32) : rstep x false = hv x := by rw [rstep, hv_eq, Bool.xor_false]
theorem reg_congr {f g : Nat → Bool} {x : V32} : ∀ n, (∀ i, i < n → f i = g i) → reg f x n = reg g x n
  | 0, _ => rfl
  | n + 1, h => by
    rw [reg, reg, reg_congr n (fun i hi => h i (by omega)), h n (by omega)]
theorem reg_xor (f g : Nat → Bool) (x y : V32) : ∀ n, reg f x n ^^^ reg g y n = reg (fun i => f i ^^ g i) (x ^^^ y) n
  | 0 => rfl
  | n + 1 => by
    show rstep (reg f x n) (f n) ^^^ rstep (reg g y n) (g n) = rstep (reg _ _ n) (f n ^^ g n)
    rw [← rstep_xor, reg_xor f g x y n]
theorem reg_add (f : Nat → Bool) (x : V32) (a : Nat) : ∀ b, reg f x (a + b) = reg (fun i => f (a + i)) (reg f x a) b
  | 0 => rfl
  | b + 1 => by
    show rstep (reg f x (a + b)) (f (a + b)) = rstep (reg _ _ b) (f (a + b))
    rw [reg_add f x a b]
theorem reg_refN (C x : V32) : ∀ n, reg C.getLsbD x n = refN x C n
  | 0 => rfl
  | n + 1 => by
    rw [reg, refN, reg_refN C x n]
theorem reg_zeros (x : V32) : ∀ n, reg (fun _ => false) x n = hN n x
  | 0 => rfl
  | n + 1 => by
    rw [reg, reg_zeros x n, rstep_false]
    rfl
theorem hN_zero : ∀ n, hN n 0#32 = 0#32
  | 0 => rfl
  | n + 1 => by
    rw [hN, hN_zero n]
    decide
theorem hv_ne {x : V32} (h : x ≠ 0#32) : hv x ≠ 0#32 := by
  intro e
  apply h
  rw [hv_eq] at e
  have h0 : x.getLsbD 0 = false := by
    have h31 := congrArg (fun z : V32 => z.getLsbD 31) e
    simp only [BitVec.getLsbD_xor, BitVec.getLsbD_ushiftRight] at h31
    have h32 : x.getLsbD (1 + 31) = false := BitVec.getLsbD_of_ge x _ (by omega)
    rw [h32] at h31
    cases hx : x.getLsbD 0
    · rfl
    · rw [hx] at h31
      exact absurd h31 (by decide)
  rw [h0] at e
  have e2 : x >>> 1 = 0#32 := by simpa [pol] using e
  apply BitVec.eq_of_getLsbD_eq
  intro i hi
  rcases i with _ | i
  · rw [h0]
    simp
  · have := congrArg (fun z : V32 => z.getLsbD i) e2
    simp only [BitVec.getLsbD_ushiftRight, BitVec.getLsbD_zero] at this
    rw [Nat.add_comm] at this
    rw [this]
    simp
theorem hN_ne {x : V32} (h : x ≠ 0#32) : ∀ n, hN n x ≠ 0#32
  | 0 => h
  | n + 1 => hv_ne (hN_ne h n)
/-- m bits of T, not all 0, leave the register turned -/
theorem reg_burst (T : V32) (m : Nat) (h : ∃ i, i < m ∧ T.getLsbD i = true) : reg T.getLsbD 0#32 m ≠ 0#32 := by
  have h1 := refN_inv 0#32 T m
  rw [BitVec.zero_xor] at h1
  have h2 : T = (T ^^^ ((T >>> m) <<< m)) ^^^ ((T >>> m) <<< m) := by
    rw [BitVec.xor_assoc, BitVec.xor_self, BitVec.xor_zero]
  have h3 : hN m ((T >>> m) <<< m) = T >>> m := by
    rw [hN_even m _ (fun i hi => by
      rw [BitVec.getLsbD_shiftLeft]
      simp [hi])]
    apply BitVec.eq_of_getLsbD_eq
    intro i hi
    simp only [BitVec.getLsbD_ushiftRight, BitVec.getLsbD_shiftLeft]
    by_cases hmi : m + i < 32
    · simp [hmi]
    · have h0 : T.getLsbD (m + i) = false := BitVec.getLsbD_of_ge T (m + i) (by omega)
      simp [h0]
  rw [reg_refN]
  have h4 : refN 0#32 T m = hN m (T ^^^ ((T >>> m) <<< m)) := by
    have h5 : hN m T = hN m (T ^^^ ((T >>> m) <<< m)) ^^^ T >>> m := by
      conv => lhs; rw [h2, hN_xor, h3]
    rw [h5] at h1
    have h6 := congrArg (fun z => z ^^^ T >>> m) h1
    simp only [BitVec.xor_assoc, BitVec.xor_self, BitVec.xor_zero] at h6
    exact h6
  rw [h4]
  apply hN_ne
  obtain ⟨i, hi, hT⟩ := h
  intro e
  have := congrArg (fun z : V32 => z.getLsbD i) e
  simp only [BitVec.getLsbD_xor, BitVec.getLsbD_shiftLeft, BitVec.getLsbD_zero, hT] at this
  simp [hi] at this
/-! ## the bits of a list of bytes -/
def bitAt (l : List Int) (j : Nat) : Bool := (BitVec.ofInt 32 (l.getD (j / 8) 0)).getLsbD (j % 8)
theorem reg_crc {l : List Int} (hb : Byt l) (x : V32) : ∀ k, k ≤ l.length → reg (bitAt l) x (8 * k) = (l.take k).foldl crcB x
  | 0, _ => by simp [reg]
  | k + 1, hk => by
    have hkl : k < l.length := by omega
    rw [show 8 * (k + 1) = 8 * k + 8 by omega, reg_add, reg_crc hb x k (by omega), List.take_succ_eq_append_getElem hkl, List.foldl_append, List.foldl_cons, List.foldl_nil]
    have hc := hb l[k] (List.getElem_mem hkl)
    rw [← refN_crcB _ hc.1 hc.2, ← reg_refN]
    apply reg_congr
    intro i hi
    unfold bitAt
    rw [show (8 * k + i) / 8 = k by omega, show (8 * k + i) % 8 = i by omega, List.getD_eq_getElem?_getD, List.getElem?_eq_getElem hkl]
    rfl
/-- two lists that differ in some of 32 neighbouring bits alone -/
theorem crc_burst {B B' : List Int} (hb : Byt B) (hb' : Byt B') (hlen : B.length = B'.length) (x : V32) (frm m : Nat) (T : V32) (hm : frm + m ≤ 8 * B.length) (h1 : ∀ i, i < frm → bitAt B i = bitAt B' i)
    (h2 : ∀ i, i < m → (bitAt B (frm + i) ^^ bitAt B' (frm + i)) = T.getLsbD i) (h3 : ∀ i, frm + m ≤ i → i < 8 * B.length → bitAt B i = bitAt B' i) (hT : ∃ i, i < m ∧ T.getLsbD i = true) : B.foldl crcB x ≠ B'.foldl crcB x := by
  intro e
  have e1 := reg_crc hb x B.length (Nat.le_refl _)
  have e2 := reg_crc hb' x B'.length (Nat.le_refl _)
  rw [List.take_length] at e1 e2
  have hx := reg_xor (bitAt B) (bitAt B') x x (8 * B.length)
  rw [e1, hlen, e2, e, BitVec.xor_self, BitVec.xor_self, ← hlen] at hx
  have key : reg (fun i => bitAt B i ^^ bitAt B' i) 0#32 (8 * B.length) ≠ 0#32 := by
    rw [show 8 * B.length = frm + (m + (8 * B.length - frm - m)) by omega, reg_add, reg_add]
    rw [reg_congr (g := fun _ => false) frm (fun i hi => by simp [h1 i hi]), reg_zeros, hN_zero]
    rw [reg_congr (g := T.getLsbD) m (fun i hi => h2 i hi)]
    rw [reg_congr (g := fun _ => false) (8 * B.length - frm - m) (fun i hi => by
      have := h3 (frm + (m + i)) (by omega) (by omega)
      simp [this]), reg_zeros]
    exact hN_ne (reg_burst T m hT) _
  exact key hx.symm
/-- behind its own sum the register is the same for all -/
theorem sumB_bits (C : V32) (i : Nat) (hi : i < 32) : bitAt (sumB (vi C)) i = C.getLsbD i := by
  have hn : ∀ (k : Nat) (z : Int), z = ((C.toNat / 2 ^ (8 * k) % 256 : Nat) : Int) → ∀ j, j < 8 → (BitVec.ofInt 32 z).getLsbD j = C.getLsbD (8 * k + j) := by
    intro k z hz j hj
    subst hz
    rw [BitVec.ofInt_natCast, BitVec.getLsbD_ofNat, BitVec.getLsbD, Nat.testBit_mod_two_pow (x := C.toNat / 2 ^ (8 * k)) (j := 8) (i := j)]
    rw [Nat.testBit_div_two_pow]
    rw [decide_eq_true hj, decide_eq_true (p := j < 32) (by omega), Bool.true_and, Bool.true_and, Nat.add_comm]
  have hC := C.isLt
  unfold bitAt sumB vi
  rcases (by omega : i / 8 = 0 ∨ i / 8 = 1 ∨ i / 8 = 2 ∨ i / 8 = 3) with h | h | h | h
  · rw [h]
    rw [show (([(C.toNat : Int) % 256, (C.toNat : Int) / 256 % 256, (C.toNat : Int) / 65536 % 256, (C.toNat : Int) / 16777216] : List Int).getD 0 0) = (C.toNat : Int) % 256 from rfl]
    rw [hn 0 _ (by simp) (i % 8) (by omega)]
    congr 1
    omega
  · rw [h]
    rw [show (([(C.toNat : Int) % 256, (C.toNat : Int) / 256 % 256, (C.toNat : Int) / 65536 % 256, (C.toNat : Int) / 16777216] : List Int).getD 1 0) = (C.toNat : Int) / 256 % 256 from rfl]
    rw [hn 1 _ (by simp) (i % 8) (by omega)]
    congr 1
    omega
  · rw [h]
    rw [show (([(C.toNat : Int) % 256, (C.toNat : Int) / 256 % 256, (C.toNat : Int) / 65536 % 256, (C.toNat : Int) / 16777216] : List Int).getD 2 0) = (C.toNat : Int) / 65536 % 256 from rfl]
    rw [hn 2 _ (by simp) (i % 8) (by omega)]
    congr 1
    omega
  · rw [h]
    rw [show (([(C.toNat : Int) % 256, (C.toNat : Int) / 256 % 256, (C.toNat : Int) / 65536 % 256, (C.toNat : Int) / 16777216] : List Int).getD 3 0) = (C.toNat : Int) / 16777216 from rfl]
    rw [hn 3 _ (by simp; omega) (i % 8) (by omega)]
    congr 1
    omega
theorem crc_code (H : List Int) (hb : Byt H) : (H ++ sumB (vi (crc H))).foldl crcB 0xFFFFFFFF#32 = hN 32 0xFFFFFFFF#32 := by
  rw [List.foldl_append]
  have hr : H.foldl crcB 0xFFFFFFFF#32 = crcUp H := rfl
  rw [hr]
  have hs := sumB_byt (vi (crc H)) (vi_nonneg _) (vi_lt _)
  have h1 := reg_crc hs (crcUp H) 4 (by rw [sumB_length]; omega)
  rw [List.take_of_length_le (by rw [sumB_length]; omega)] at h1
  rw [← h1, reg_congr (g := (crc H).getLsbD) (8 * 4) (fun i hi => sumB_bits (crc H) i (by omega)), reg_refN]
  have h2 := refN_inv (crcUp H) (crc H) 32
  have h3 : crc H >>> 32 = 0#32 := by
    apply BitVec.eq_of_getLsbD_eq
    intro i hi
    rw [BitVec.getLsbD_ushiftRight, BitVec.getLsbD_of_ge _ _ (by omega)]
    simp
  rw [h3, BitVec.xor_zero] at h2
  rw [show 8 * 4 = 32 from rfl, h2, crc]
  congr 1
  apply BitVec.eq_of_getLsbD_eq
  intro i hi
  rw [BitVec.getLsbD_xor, BitVec.getLsbD_not, show (4294967295#32 : V32) = BitVec.allOnes 32 by decide, BitVec.getLsbD_allOnes]
  simp [hi]
end Go.Proofs.Ytlnomadhgoblkaa.Kit
