/- Opening arguments: lists of sections. -/
import Derived.Test.YtlnomadhgoblkaaRows
import Derived.Test.YtlnomadhgoblkaaOpenG
import Derived.Test.YtlnomadhgoblkaaSecs
import Derived.Test.YtlnomadhgoblkaaBulkG
set_option linter.unusedVariables false
set_option linter.unusedSimpArgs false
namespace Go.Proofs.Ytlnomadhgoblkaa.Kit
open Go.ChangeShapes Go.RowKit Go.Deep
theorem bulk_of_ints {H : Type} {enc : TypeId × Value → H} {P : Program} {W : World} {base : Nat} {spare : Nat → Bool} {held : Bool} {t e : TypeId} {k : IntKind} {a : Option Addr} {len cap : Nat} {d : DataW H} {ps : List MemPlace}
    (hu : P.underlying t = some (.slice e)) (he : P.underlying e = some (.int k)) (hc : P.cellsOf e = 1) (h : DataW.Trod enc P W base spare held t (.slice a len cap) d ps) : len ≤ Rows.uptoBulk d := by
  obtain ⟨fuel, hf⟩ := h
  rcases open_ints hu he hc hf with ⟨hcs, _⟩ | ⟨x, l, c, zs, hcs, _, hl, _, hz, hx, _, _⟩
  · simp [Value.cells] at hcs
    obtain ⟨rfl, rfl, rfl⟩ := hcs
    omega
  · simp [Value.cells] at hcs
    obtain ⟨rfl, rfl, rfl⟩ := hcs
    obtain ⟨hx, _⟩ := Prod.mk.inj hx
    subst hx
    have hl2 : len ≤ zs.length := by
      rw [hz]
      split
      · exact hl
      · exact Nat.le_refl _
    have h1 := bulk_length (lits (H := H) k (zs.take len))
    have h2 : (lits (H := H) k (zs.take len)).length = len := by simp [lits]; omega
    simp only [Rows.uptoBulk]
    omega
theorem is_slice {H : Type} {enc : TypeId × Value → H} {P : Program} {W : World} {base : Nat} {spare : Nat → Bool} {held : Bool} {t e : TypeId} {n : Nat} {v : Value} {y : DataW H × List MemPlace} (hu : P.underlying t = some (.slice e)) (h : DataW.trod enc P W base spare held n t [v] = some y) : ∃ a len cap, v = .slice a len cap ∧ len ≤ cap ∧ cap ≤ maxLen := by
  rcases open_slice hu h with ⟨hcs, _⟩ | ⟨x, l, c, m, n, D, Pl, hcs, hb, hl, hm, hmm, hx, hi⟩
  · simp at hcs
    exact ⟨_, _, _, hcs, Nat.le_refl _, Nat.zero_le _⟩
  · simp at hcs
    exact ⟨_, _, _, hcs, hl, hm⟩
theorem trod_cap {H : Type} {enc : TypeId × Value → H} {P : Program} {W : World} {base : Nat} {spare : Nat → Bool} {held : Bool} {t e : TypeId} {a : Option Addr} {len cap : Nat} {d : DataW H} {ps : List MemPlace} (hu : P.underlying t = some (.slice e)) (h : DataW.Trod enc P W base spare held t (.slice a len cap) d ps) : cap ≤ maxLen := by
  obtain ⟨n, hn⟩ := h
  obtain ⟨a', l', c', hv, _, hm⟩ := is_slice (v := .slice a len cap) hu (by simpa [Value.cells] using hn)
  injection hv with _ _ hc
  subst hc
  exact hm
theorem bulk_secs {H : Type} {d : DataW H} {ds : List (DataW H)} {l : List SecV} (hk : Rows.uptoSmall H ds = true) (hd : d ∈ ds) (h : ∀ i (h : i < l.length), ∃ y, Inside y d ∧ l[i].body.length ≤ Rows.uptoBulk y) : ∀ x ∈ l, x.body.length ≤ 1048576 := by
  intro x hx
  obtain ⟨i, hi, rfl⟩ := List.getElem_of_mem hx
  obtain ⟨y, h1, h2⟩ := h i hi
  exact Nat.le_trans h2 (bulk_inside hk hd h1)
end Go.Proofs.Ytlnomadhgoblkaa.Kit
