/- Seal: its calls in names; how long its answer is. -/
import Derived.Test.YtcljbaoadmflgaaProg
import Derived.Test.YtcljbaoadmflgaaSeal
set_option linter.unusedVariables false
set_option linter.unusedSimpArgs false
namespace Go.Proofs.Ytcljbaoadmflgaa.Kit
open Go.RowKit
theorem Made.mx {w w1 : World} {A : Option Addr} {n c : Nat} {l : List Int} (h : Made w w1 A n c l) : c ≤ maxLen := by
  obtain ⟨_, _, hv, _, hm⟩ := h.own.slice
  injection hv with _ _ hc
  subst hc
  exact hm
theorem sealOf_len (s : ByteArray) (l : List SecV) {N : Nat} (hN : (secsEnc l).length ≤ N) (hl : l.length ≤ 1048576) : (sealOf s l).1.length ≤ N + 22 := by
  unfold sealOf
  split
  · simp
  · rename_i h8
    split
    · rw [List.length_append, headOf_length, sumB_length]
      have h1 : (vb l.length).length ≤ 10 := vb_len10 (by omega)
      omega
    · simp
theorem secsEnc_bound (l : List SecV) (hl : l.length ≤ 1048576) (hb : ∀ x ∈ l, x.body.length ≤ 1048576) (hr : ∀ x ∈ l, x.id ≤ 9223372036854775807) : (secsEnc l).length ≤ 1099532599296 := by
  have h1 := secsEnc_take_len l 1048596 (fun x hx => by
    have h1 : (vb x.id.toNat).length ≤ 10 := vb_len10 (by have := hr x hx; omega)
    have h2 : (vb x.body.length).length ≤ 10 := vb_len10 (by have := hb x hx; omega)
    have h3 := hb x hx
    simp only [SecV.enc, List.length_append]
    omega) l.length
  rw [List.take_length] at h1
  exact Nat.le_trans h1 (Nat.le_trans (Nat.mul_le_mul_right _ hl) (by decide))
theorem RdSecs.all {w : World} {A : Option Addr} {l : List SecV} (h : RdSecs w A l) : (∀ x ∈ l, Byt x.body) ∧ ∀ x ∈ l, -9223372036854775808 ≤ x.id ∧ x.id ≤ 9223372036854775807 :=
  ⟨fun x hx => by
    obtain ⟨i, hi, rfl⟩ := List.getElem_of_mem hx
    obtain ⟨_, _, sa⟩ := h i hi
    exact sa.byt, fun x hx => by
    obtain ⟨i, hi, rfl⟩ := List.getElem_of_mem hx
    obtain ⟨_, _, sa⟩ := h i hi
    exact sa.rng⟩
theorem sealCall' {s : ByteArray} {A : Option Addr} {n c : Nat} {l : List SecV} {w : World} {S0 : List Int} {er : Int} (hS : Hid (sealOf s l = (S0, er))) (HN : Hid (n = l.length)) (hs : s.size ≤ 140737488355328) (hnl : n ≤ c) (hmx : c ≤ maxLen) (hr : Hid (RdSecs w A l)) (hB : Hid ((secsEnc l).length ≤ 140737488355200)) (hb : Hid (∀ x ∈ l, x.body.length ≤ 140737488355200)) :
    Calls Try.prog 40 #[.string s, .slice A n c] w fun e w' => ∃ A' n' c', e = .returned (.tuple #[.slice A' n' c', .int .i64 er]) ∧ Made w w' A' n' c' S0 := by
  have := sealCall s A n c l w HN hs hnl hmx hr hB hb
  rw [hS.out] at this
  exact this
end Go.Proofs.Ytcljbaoadmflgaa.Kit
