/- What varint and Uint answer, as the code reckons it. -/
import Derived.WalkKit
import Derived.Laws.Bits64
set_option linter.unusedVariables false
set_option linter.unusedSimpArgs false
set_option linter.unnecessarySimpa false
namespace Go.Proofs.Ytlnomadhgoblkaa.Kit
open Go.RowKit
/-- one round of varint -/
def vstep (b : Int) (i : Nat) (x : Int) : Int := Go.bits .or .u64 x (IntKind.u64.wrap ((IntKind.u64.wrap (Go.bits .and .u8 b 127)) * 2 ^ (7*i)))
/-- what varint answers: the number, how many bytes, the error -/
def vlp (l : List Int) : Nat → Nat → Int → (Int × Int × Int)
  | 0, _, _ => if l.length < 10 then (0, 0, 41) else (0, 0, 42)
  | f + 1, i, x => if i < l.length then (if l.getD i 0 > 127 then vlp l f (i + 1) (vstep (l.getD i 0) i x) else if (0 < i ∧ l.getD i 0 = 0) ∨ (i = 9 ∧ l.getD i 0 > 1) then (0, 0, 42) else (vstep (l.getD i 0) i x, (i : Int) + 1, 0))
      else (if l.length < 10 then (0, 0, 41) else (0, 0, 42))
theorem vlp_more {l : List Int} {k : Nat} {y : Int} (h1 : k < l.length) (h2 : k < 10) (h : 127 < l[k]) : vlp l (10 - k) k y = vlp l (10 - (k + 1)) (k + 1) (vstep l[k] k y) := by
  rw [show 10 - k = (10 - (k + 1)) + 1 from by omega, vlp, if_pos h1]
  simp [h1, h]
theorem vlp_bad {l : List Int} {k : Nat} {y : Int} (h1 : k < l.length) (h2 : k < 10) (h : l[k] ≤ 127) (hb : (0 < k ∧ l[k] = 0) ∨ (k = 9 ∧ 1 < l[k])) : vlp l (10 - k) k y = (0, 0, 42) := by
  rw [show 10 - k = (10 - (k + 1)) + 1 from by omega, vlp, if_pos h1, if_neg (by simp [h1]; omega), if_pos (by simpa [h1] using hb)]
theorem vlp_good {l : List Int} {k : Nat} {y : Int} (h1 : k < l.length) (h2 : k < 10) (h : l[k] ≤ 127) (hb : ¬ ((0 < k ∧ l[k] = 0) ∨ (k = 9 ∧ 1 < l[k]))) : vlp l (10 - k) k y = (vstep l[k] k y, (k : Int) + 1, 0) := by
  rw [show 10 - k = (10 - (k + 1)) + 1 from by omega, vlp, if_pos h1, if_neg (by simp [h1]; omega), if_neg (by simpa [h1] using hb)]
  simp [h1]
theorem vlp_end {l : List Int} {k : Nat} {y : Int} (h1 : k ≤ l.length) (h : ¬ (k < l.length ∧ k < 10)) : vlp l (10 - k) k y = if l.length < 10 then (0, 0, 41) else (0, 0, 42) := by
  by_cases hk : k < 10
  · rw [show 10 - k = (10 - (k + 1)) + 1 from by omega, vlp, if_neg (by omega)]
  · rw [show 10 - k = 0 from by omega, vlp]
/-- what Uint answers over the bytes ahead: the number, how many bytes, the error -/
def urd (l : List Int) (limit : Int) : Int × Nat × Int :=
  if (vlp l 10 0 0).2.2 = 0 then (if (vlp l 10 0 0).1 > limit then (0, 0, 42) else ((vlp l 10 0 0).1, (vlp l 10 0 0).2.1.toNat, 0)) else (0, 0, (vlp l 10 0 0).2.2)
theorem vlp_ok : ∀ (f : Nat) (l : List Int) (i : Nat) (x : Int), (vlp l f i x).2.2 = 0 ∨ (vlp l f i x).2.2 = 41 ∨ (vlp l f i x).2.2 = 42
  | 0, l, i, x => by simp only [vlp]; split <;> simp
  | f + 1, l, i, x => by
    simp only [vlp]
    have ih := vlp_ok f l (i + 1) (vstep (l.getD i 0) i x)
    repeat' split
    all_goals first | exact ih | simp
theorem vlp_n : ∀ (f : Nat) (l : List Int) (i : Nat) (x : Int), (vlp l f i x).2.2 = 0 → (i : Int) + 1 ≤ (vlp l f i x).2.1 ∧ (vlp l f i x).2.1 ≤ i + f ∧ (vlp l f i x).2.1 ≤ l.length
  | 0, l, i, x => by simp only [vlp]; split <;> simp
  | f + 1, l, i, x => by
    simp only [vlp]
    have ih := vlp_n f l (i + 1) (vstep (l.getD i 0) i x)
    repeat' split
    all_goals first
      | (intro h; have := ih h; omega)
      | (intro h; refine ⟨by simp, by simp; omega, by simp; omega⟩)
      | (intro h; simp at h)
theorem urd_cases (l : List Int) (limit : Int) : (∃ x n : Int, vlp l 10 0 0 = (x, n, 0) ∧ x ≤ limit ∧ 1 ≤ n ∧ n ≤ 10 ∧ n ≤ l.length ∧ urd l limit = (x, n.toNat, 0)) ∨ (∃ x n : Int, vlp l 10 0 0 = (x, n, 0) ∧ limit < x ∧ 1 ≤ n ∧ n ≤ 10 ∧ urd l limit = (0, 0, 42)) ∨
    (∃ x n er : Int, vlp l 10 0 0 = (x, n, er) ∧ (er = 41 ∨ er = 42) ∧ urd l limit = (0, 0, er)) := by
  obtain ⟨x, n, er, h⟩ : ∃ x n er, vlp l 10 0 0 = (x, n, er) := ⟨_, _, _, rfl⟩
  have h1 := vlp_ok 10 l 0 0
  have h2 := vlp_n 10 l 0 0
  unfold urd
  rw [h] at h1 h2 ⊢
  simp only at h1 h2 ⊢
  by_cases h0 : er = 0
  · subst h0
    have h2 := h2 rfl
    by_cases hx : x > limit
    · exact .inr (.inl ⟨x, n, rfl, hx, by omega, by omega, by simp [hx]⟩)
    · exact .inl ⟨x, n, rfl, by omega, by omega, by omega, by omega, by simp [hx]⟩
  · exact .inr (.inr ⟨x, n, er, rfl, by omega, by simp [h0]⟩)
theorem wrap_range (x : Int) : 0 ≤ IntKind.u64.wrap x ∧ IntKind.u64.wrap x < 18446744073709551616 := by rw [IntKind.wrap_u64]; omega
theorem vstep_range (b : Int) (i : Nat) (x : Int) : 0 ≤ vstep b i x ∧ vstep b i x < 18446744073709551616 := wrap_range _
theorem vlp_range : ∀ (f : Nat) (l : List Int) (i : Nat) (x : Int), 0 ≤ (vlp l f i x).1 ∧ (vlp l f i x).1 < 18446744073709551616
  | 0, l, i, x => by simp only [vlp]; split <;> decide
  | f + 1, l, i, x => by
    simp only [vlp]
    have ih := vlp_range f l (i + 1) (vstep (l.getD i 0) i x)
    have hs := vstep_range (l.getD i 0) i x
    repeat' split
    all_goals first | exact ih | exact hs | decide
theorem urd_range (l : List Int) (limit : Int) : 0 ≤ (urd l limit).1 ∧ (urd l limit).1 < 18446744073709551616 := by
  have := vlp_range 10 l 0 0
  unfold urd
  repeat' split
  all_goals first | exact this | simp
theorem urd_er (l : List Int) (limit : Int) : (urd l limit).2.2 = 0 ∨ (urd l limit).2.2 = 41 ∨ (urd l limit).2.2 = 42 := by
  have := vlp_ok 10 l 0 0
  unfold urd
  repeat' split
  all_goals first | exact this | simp
theorem urd_le (l : List Int) (limit : Int) (h : (urd l limit).2.2 = 0) : (urd l limit).1 ≤ limit := by
  unfold urd at h ⊢
  split
  · rename_i h0
    rw [if_pos h0] at h
    split
    · rename_i h1
      rw [if_pos h1] at h
      simp at h
    · simp only
      omega
  · rename_i h0
    rw [if_neg h0] at h
    exact absurd h h0
theorem urd_n (l : List Int) (limit : Int) (h : (urd l limit).2.2 ≠ 0) : urd l limit = (0, 0, (urd l limit).2.2) := by
  unfold urd at h ⊢
  split
  · rename_i h0
    rw [if_pos h0] at h
    split
    · rfl
    · rename_i h1
      rw [if_neg h1] at h
      simp at h
  · rfl
end Go.Proofs.Ytlnomadhgoblkaa.Kit
