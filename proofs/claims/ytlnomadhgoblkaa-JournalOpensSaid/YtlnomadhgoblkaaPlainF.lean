/- Bits that are turned, next to each other; what stands behind its own sum. -/
import Derived.Test.YtlnomadhgoblkaaPlainK
import Derived.Test.YtlnomadhgoblkaaPlainM
set_option linter.unusedVariables false
set_option linter.unusedSimpArgs false
namespace Go.Proofs.Ytlnomadhgoblkaa.Kit
open Go.RowKit
/-- one bit is turned -/
def flip1 (l : List Int) (k : Nat) : List Int := l.set (k / 8) (Go.bits .xor .u8 (l.getD (k / 8) 0) ((2 : Int) ^ (k % 8)))
theorem flip1_length (l : List Int) (k : Nat) : (flip1 l k).length = l.length := by simp [flip1]
theorem xor8 {a b : Int} (ha : 0 ≤ a ∧ a ≤ 255) (hb : 0 ≤ b ∧ b ≤ 255) : (0 ≤ Go.bits .xor .u8 a b ∧ Go.bits .xor .u8 a b ≤ 255) ∧ BitVec.ofInt 32 (Go.bits .xor .u8 a b) = BitVec.ofInt 32 a ^^^ BitVec.ofInt 32 b := by
  obtain ⟨x, rfl⟩ : ∃ x : Nat, a = (x : Int) := ⟨a.toNat, by omega⟩
  obtain ⟨y, rfl⟩ : ∃ y : Nat, b = (y : Int) := ⟨b.toNat, by omega⟩
  have hx : x < 256 := by omega
  have hy : y < 256 := by omega
  have hxy : x ^^^ y < 256 := Nat.xor_lt_two_pow (n := 8) hx hy
  have e : Go.bits .xor .u8 (x : Int) (y : Int) = ((x ^^^ y : Nat) : Int) := by
    show IntKind.u8.wrap (((BitVec.ofInt 8 (x : Int) ^^^ BitVec.ofInt 8 (y : Int)).toNat : Nat) : Int) = _
    rw [BitVec.ofInt_natCast, BitVec.ofInt_natCast, BitVec.toNat_xor, BitVec.toNat_ofNat, BitVec.toNat_ofNat, Nat.mod_eq_of_lt hx, Nat.mod_eq_of_lt hy]
    exact IntWalk.u8_in _ (by omega)
  rw [e]
  refine ⟨by omega, ?_⟩
  rw [BitVec.ofInt_natCast, BitVec.ofInt_natCast, BitVec.ofInt_natCast]
  apply BitVec.eq_of_toNat_eq
  rw [BitVec.toNat_xor, BitVec.toNat_ofNat, BitVec.toNat_ofNat, BitVec.toNat_ofNat, Nat.mod_eq_of_lt (by omega), Nat.mod_eq_of_lt (by omega), Nat.mod_eq_of_lt (by omega)]
theorem two_pow8 (k : Nat) : 0 ≤ (2 : Int) ^ (k % 8) ∧ (2 : Int) ^ (k % 8) ≤ 255 := by
  have h : k % 8 < 8 := Nat.mod_lt _ (by decide)
  generalize k % 8 = j at h
  have : j = 0 ∨ j = 1 ∨ j = 2 ∨ j = 3 ∨ j = 4 ∨ j = 5 ∨ j = 6 ∨ j = 7 := by omega
  rcases this with h | h | h | h | h | h | h | h <;> subst h <;> decide
theorem pow_bit (j i : Nat) (hj : j < 8) (hi : i < 8) : (BitVec.ofInt 32 ((2 : Int) ^ j)).getLsbD i = decide (i = j) := by
  have h1 : j = 0 ∨ j = 1 ∨ j = 2 ∨ j = 3 ∨ j = 4 ∨ j = 5 ∨ j = 6 ∨ j = 7 := by omega
  have h2 : i = 0 ∨ i = 1 ∨ i = 2 ∨ i = 3 ∨ i = 4 ∨ i = 5 ∨ i = 6 ∨ i = 7 := by omega
  rcases h1 with h | h | h | h | h | h | h | h <;> subst h <;> rcases h2 with h | h | h | h | h | h | h | h <;> subst h <;> decide
theorem flip1_byt {l : List Int} (hb : Byt l) (k : Nat) : Byt (flip1 l k) := by
  by_cases hk : k / 8 < l.length
  · intro z hz
    rcases List.mem_or_eq_of_mem_set hz with h | h
    · exact hb z h
    · rw [h, List.getD_eq_getElem?_getD, List.getElem?_eq_getElem hk]
      exact (xor8 (hb _ (List.getElem_mem hk)) (two_pow8 k)).1
  · rw [flip1, List.set_eq_of_length_le (by omega)]
    exact hb
theorem flip1_bit {l : List Int} (hb : Byt l) (k j : Nat) (hj : j < 8 * l.length) : bitAt (flip1 l k) j = (bitAt l j ^^ decide (j = k)) := by
  unfold bitAt flip1
  by_cases hk : k / 8 = j / 8
  · have hjl : j / 8 < l.length := by omega
    rw [hk, List.getD_eq_getElem?_getD, List.getElem?_set_self hjl]
    simp only [Option.getD_some]
    rw [List.getD_eq_getElem?_getD, List.getElem?_eq_getElem hjl]
    simp only [Option.getD_some]
    rw [(xor8 (hb _ (List.getElem_mem hjl)) (two_pow8 k)).2, BitVec.getLsbD_xor, pow_bit _ _ (Nat.mod_lt _ (by decide)) (Nat.mod_lt _ (by decide))]
    congr 1
    by_cases e : j = k
    · subst e
      simp
    · rw [decide_eq_false e, decide_eq_false (by omega)]
  · rw [List.getD_eq_getElem?_getD, List.getElem?_set_ne (by omega), ← List.getD_eq_getElem?_getD, decide_eq_false (by rintro rfl; exact hk rfl), Bool.xor_false]
/-- the bits of T, from a place on -/
def flips (l : List Int) (frm : Nat) (T : V32) : Nat → List Int
  | 0 => l
  | i + 1 => if T.getLsbD i = true then flip1 (flips l frm T i) (frm + i) else flips l frm T i
theorem flips_length (l : List Int) (frm : Nat) (T : V32) : ∀ i, (flips l frm T i).length = l.length
  | 0 => rfl
  | i + 1 => by
    unfold flips
    split
    · rw [flip1_length, flips_length l frm T i]
    · exact flips_length l frm T i
theorem flips_byt {l : List Int} (hb : Byt l) (frm : Nat) (T : V32) : ∀ i, Byt (flips l frm T i)
  | 0 => hb
  | i + 1 => by
    unfold flips
    split
    · exact flip1_byt (flips_byt hb frm T i) _
    · exact flips_byt hb frm T i
theorem flips_bit {l : List Int} (hb : Byt l) (frm : Nat) (T : V32) (j : Nat) (hj : j < 8 * l.length) : ∀ i, bitAt (flips l frm T i) j = (bitAt l j ^^ (decide (frm ≤ j ∧ j < frm + i) && T.getLsbD (j - frm)))
  | 0 => by
    rw [flips, decide_eq_false (by omega), Bool.false_and, Bool.xor_false]
  | i + 1 => by
    have ih := flips_bit hb frm T j hj i
    unfold flips
    split
    · rename_i hT
      rw [flip1_bit (flips_byt hb frm T i) _ _ (by rw [flips_length]; exact hj), ih]
      by_cases e : j = frm + i
      · subst e
        rw [decide_eq_false (p := frm ≤ frm + i ∧ frm + i < frm + i) (by omega), decide_eq_true (p := frm + i = frm + i) rfl, decide_eq_true (p := frm ≤ frm + i ∧ frm + i < frm + (i + 1)) (by omega), Nat.add_sub_cancel_left, hT]
        simp
      · rw [decide_eq_false e, Bool.xor_false]
        congr 2
        by_cases h : frm ≤ j ∧ j < frm + i
        · rw [decide_eq_true h, decide_eq_true (by omega)]
        · rw [decide_eq_false h, decide_eq_false (by omega)]
    · rename_i hT
      rw [ih]
      by_cases e : j = frm + i
      · subst e
        rw [Nat.add_sub_cancel_left]
        have hT' : T.getLsbD i = false := by simpa using hT
        rw [hT', Bool.and_false, Bool.and_false]
      · congr 2
        by_cases h : frm ≤ j ∧ j < frm + i
        · rw [decide_eq_true h, decide_eq_true (by omega)]
        · rw [decide_eq_false h, decide_eq_false (by omega)]
/-- was a bit turned? -/
def anyUp (n frm : Nat) (T : V32) : Nat → Bool
  | 0 => false
  | i + 1 => anyUp n frm T i || (T.getLsbD i && decide ((frm + i) / 8 < n))
theorem anyUp_some {n frm : Nat} {T : V32} : ∀ {i : Nat}, anyUp n frm T i = true → ∃ j, j < i ∧ T.getLsbD j = true ∧ frm + j < 8 * n
  | 0, h => by cases h
  | i + 1, h => by
    simp only [anyUp, Bool.or_eq_true, Bool.and_eq_true, decide_eq_true_eq] at h
    rcases h with h | h
    · obtain ⟨j, hj, r⟩ := anyUp_some h
      exact ⟨j, by omega, r⟩
    · exact ⟨i, by omega, h.1, by omega⟩
theorem flips_none {l : List Int} {frm : Nat} {T : V32} : ∀ {i : Nat}, anyUp l.length frm T i = false → flips l frm T i = l
  | 0, _ => rfl
  | i + 1, h => by
    simp only [anyUp, Bool.or_eq_false_iff, Bool.and_eq_false_iff, decide_eq_false_iff_not] at h
    have ih := flips_none h.1
    unfold flips
    split
    · rename_i hT
      rcases h.2 with h2 | h2
      · rw [h2] at hT
        cases hT
      · rw [ih, flip1, List.set_eq_of_length_le (by omega)]
    · exact ih
/-- two lists that stand behind their own sums, alike but for a burst, are one -/
theorem code_burst {H H' : List Int} (hb : Byt H) (hb' : Byt H') (frm : Nat) (T : V32) (i : Nat) (hi : i ≤ 32) (h : H' ++ sumB (vi (crc H')) = flips (H ++ sumB (vi (crc H))) frm T i) (ha : anyUp (H.length + 4) frm T i = true) : False := by
  obtain ⟨B, hB⟩ : ∃ B, B = H ++ sumB (vi (crc H)) := ⟨_, rfl⟩
  have hbB : Byt B := by rw [hB]; exact byt_mk hb (sumB_byt _ (vi_nonneg _) (vi_lt _))
  have hlB : B.length = H.length + 4 := by rw [hB, List.length_append, sumB_length]
  rw [← hB] at h
  rw [← hlB] at ha
  obtain ⟨j, hj, hT, hjn⟩ := anyUp_some ha
  have hc := crc_code H hb
  have hc' := crc_code H' hb'
  rw [h] at hc'
  rw [← hB] at hc
  have hlf := flips_length B frm T i
  refine crc_burst hbB (flips_byt hbB frm T i) hlf.symm 0xFFFFFFFF#32 frm (min i (8 * B.length - frm)) T (by omega) (fun k hk => ?_) (fun k hk => ?_) (fun k hk hk2 => ?_) ⟨j, by omega, hT⟩ (hc.trans hc'.symm)
  · rw [flips_bit hbB frm T k (by omega), decide_eq_false (by omega), Bool.false_and, Bool.xor_false]
  · rw [flips_bit hbB frm T (frm + k) (by omega), decide_eq_true (by omega), Bool.true_and, Nat.add_sub_cancel_left]
    simp
  · rw [flips_bit hbB frm T k hk2]
    by_cases hki : frm ≤ k ∧ k < frm + i
    · exfalso
      omega
    · rw [decide_eq_false hki, Bool.false_and, Bool.xor_false]
end Go.Proofs.Ytlnomadhgoblkaa.Kit
