/- The checksum: bit vectors beside the model's numbers. -/
import Derived.Test.YtlnomadhgoblkaaKit
import Derived.IntWalk
set_option linter.unusedVariables false
set_option linter.unusedSimpArgs false
namespace Go.Proofs.Ytlnomadhgoblkaa.Kit
open Go.RowKit
abbrev V32 := BitVec 32
/-- a bit vector as the model's number -/
def vi (x : V32) : Int := (x.toNat : Int)
theorem vi_lt (x : V32) : vi x < 4294967296 := by have := x.isLt; unfold vi; omega
theorem vi_nonneg (x : V32) : 0 ≤ vi x := Int.natCast_nonneg _
theorem ofInt_vi (x : V32) : BitVec.ofInt 32 (vi x) = x := by rw [vi, BitVec.ofInt_natCast, BitVec.ofNat_toNat, BitVec.setWidth_eq]
theorem wrap_vi (x : V32) : IntKind.u32.wrap (x.toNat : Int) = vi x := IntWalk.u32_in _ ⟨vi_nonneg x, by have := vi_lt x; unfold vi at this; omega⟩
theorem bits_xor32 (a b : V32) : Go.bits .xor .u32 (vi a) (vi b) = vi (a ^^^ b) := by
  show IntKind.u32.wrap (((BitVec.ofInt 32 (vi a) ^^^ BitVec.ofInt 32 (vi b)).toNat : Nat) : Int) = _
  rw [ofInt_vi, ofInt_vi, wrap_vi]
theorem bits_and32 (a b : V32) : Go.bits .and .u32 (vi a) (vi b) = vi (a &&& b) := by
  show IntKind.u32.wrap (((BitVec.ofInt 32 (vi a) &&& BitVec.ofInt 32 (vi b)).toNat : Nat) : Int) = _
  rw [ofInt_vi, ofInt_vi, wrap_vi]
theorem vi_shr (a : V32) (k : Nat) : vi a / 2 ^ k = vi (a >>> k) := by
  unfold vi
  rw [BitVec.toNat_ushiftRight, Nat.shiftRight_eq_div_pow]
  simp
theorem vi_ofNat (n : Nat) (h : n < 4294967296) : vi (BitVec.ofNat 32 n) = (n : Int) := by
  unfold vi
  rw [BitVec.toNat_ofNat, Nat.mod_eq_of_lt h]
/-- half a step: a bit -/
def hv (x : V32) : V32 := if x &&& 1#32 = 1#32 then (x >>> 1) ^^^ 0xEDB88320#32 else x >>> 1
def hN : Nat → V32 → V32
  | 0, x => x
  | n + 1, x => hv (hN n x)
/-- the table of half a byte -/
def tbl (i : Nat) : V32 := hN 4 (BitVec.ofNat 32 i)
def tblCells : List Value := (List.range 16).map fun i => .int .u32 (vi (tbl i))
theorem and1_hit {y : V32} (h : y &&& 1#32 = 1#32) : Go.bits .and .u32 (vi y) 1 = 1 := by
  have := bits_and32 y 1#32
  rw [h] at this
  exact this
theorem and1_miss {y : V32} (h : ¬ y &&& 1#32 = 1#32) : (Go.bits .and .u32 (vi y) 1 == 1) = false := by
  have e := bits_and32 y 1#32
  rw [show Go.bits .and .u32 (vi y) 1 = vi (y &&& 1#32) from e, beq_eq_false_iff_ne]
  intro h'
  refine h (BitVec.eq_of_toNat_eq ?_)
  have : (((y &&& 1#32).toNat : Nat) : Int) = 1 := h'
  have h2 : (y &&& 1#32).toNat = 1 := by omega
  rw [h2]
  rfl
theorem hv_hit {y : V32} (h : y &&& 1#32 = 1#32) : Go.bits .xor .u32 (vi y / 2) 3988292384 = vi (hv y) := by
  have e := bits_xor32 (y >>> 1) 0xEDB88320#32
  rw [hv, if_pos h, ← e, ← vi_shr y 1]
  rfl
theorem hv_miss {y : V32} (h : ¬ y &&& 1#32 = 1#32) : vi y / 2 = vi (hv y) := by
  rw [hv, if_neg h, ← vi_shr y 1]
  rfl
/-- half a byte, by the table -/
def nib (y : V32) : V32 := tbl (y &&& 15#32).toNat ^^^ (y >>> 4)
def crcB (x : V32) (c : Int) : V32 := nib (nib (x ^^^ BitVec.ofInt 32 c))
def crcUp (l : List Int) : V32 := l.foldl crcB 0xFFFFFFFF#32
/-- the checksum -/
def crc (l : List Int) : V32 := ~~~ crcUp l
theorem crcUp_snoc (l : List Int) (c : Int) : crcUp (l ++ [c]) = crcB (crcUp l) c := by simp [crcUp]
theorem vi_ofInt {c : Int} (h0 : 0 ≤ c) (h1 : c < 4294967296) : vi (BitVec.ofInt 32 c) = c := by
  obtain ⟨n, rfl⟩ := Int.eq_ofNat_of_zero_le h0
  rw [BitVec.ofInt_natCast]
  exact vi_ofNat n (by omega)
theorem and15 (y : V32) : Go.bits .and .u32 (vi y) 15 = (((y &&& 15#32).toNat : Nat) : Int) := bits_and32 y 15#32
theorem and15_lt (y : V32) : (y &&& 15#32).toNat < 16 := by
  rw [BitVec.toNat_and]
  exact Nat.lt_of_le_of_lt Nat.and_le_right (by decide)
theorem nib_eq (y : V32) : Go.bits .xor .u32 (vi (tbl (y &&& 15#32).toNat)) (vi y / 16) = vi (nib y) := by
  rw [nib, ← bits_xor32, ← vi_shr y 4]
  rfl
theorem xor_eq {x : V32} {c : Int} (h0 : 0 ≤ c) (h1 : c ≤ 255) : Go.bits .xor .u32 (vi x) c = vi (x ^^^ BitVec.ofInt 32 c) := by
  rw [← bits_xor32, vi_ofInt h0 (by omega)]
theorem not_eq (x : V32) : Go.bits .xor .u32 IntKind.u32.max (vi x) = vi (~~~ x) := by
  rw [show IntKind.u32.max = vi (BitVec.allOnes 32) from by decide, bits_xor32, BitVec.allOnes_xor]
theorem tbl_get {n : Nat} (h : n < 16) : tblCells[n]? = some (.int .u32 (vi (tbl n))) := by simp [tblCells, h]
/-- a byte's step, in names alone -/
theorem crc_step (x : V32) {c : Int} (h0 : 0 ≤ c) (h1 : c ≤ 255) : ∃ (z0 z1 z2 t1 t2 : Int) (n1 n2 : Nat), Go.bits .xor .u32 (vi x) c = z0 ∧ Go.bits .and .u32 z0 15 = (n1 : Int) ∧ n1 < 16 ∧ tblCells[n1]? = some (.int .u32 t1) ∧ Go.bits .xor .u32 t1 (z0 / 16) = z1 ∧
    Go.bits .and .u32 z1 15 = (n2 : Int) ∧ n2 < 16 ∧ tblCells[n2]? = some (.int .u32 t2) ∧ Go.bits .xor .u32 t2 (z1 / 16) = z2 ∧ z2 = vi (crcB x c) :=
  ⟨_, _, _, _, _, _, _, xor_eq h0 h1, and15 _, and15_lt _, tbl_get (and15_lt _), nib_eq _, and15 _, and15_lt _, tbl_get (and15_lt _), nib_eq _, rfl⟩
end Go.Proofs.Ytlnomadhgoblkaa.Kit
