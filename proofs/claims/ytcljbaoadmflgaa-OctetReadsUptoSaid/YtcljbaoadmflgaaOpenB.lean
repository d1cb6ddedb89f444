/- Opening arguments: slices of bools. -/
import Derived.Test.YtcljbaoadmflgaaProg
import Derived.Test.YtcljbaoadmflgaaOpen
import Derived.Deep.Slices
set_option linter.unusedVariables false
set_option linter.unusedSimpArgs false
namespace Go.Proofs.Ytcljbaoadmflgaa.Kit
open Go.ChangeShapes Go.RowKit Go.Deep
def boolIn : Value → Bool
  | .bool b => b
  | _ => false
/-- a slice of bools, read -/
def RdBools (w : World) (A : Option Addr) (l : List Bool) : Prop := ∀ i (h : i < l.length), ∃ a, A = some a ∧ w.cell? (a.add i) = some (.bool l[i])
theorem RdBools.below {w w' : World} {A : Option Addr} {l : List Bool} (h : RdBools w A l) (hb : Below w.heap.size w w') : RdBools w' A l := fun i hi => by
  obtain ⟨a, h0, h1⟩ := h i hi
  exact ⟨a, h0, (hb.cell (World.block_lt_of_cell? w _ h1)).trans h1⟩
theorem open_bools {H : Type} {enc : TypeId × Value → H} {P : Program} {W : World} {base : Nat} {spare : Nat → Bool} {held : Bool} {t e : TypeId} {a : Option Addr} {len cap : Nat} {d : DataW H} {ps : List MemPlace}
    (hu : P.underlying t = some (.slice e)) (he : P.underlying e = some .bool) (hc : P.cellsOf e = 1) (h : DataW.Trod enc P W base spare held t (.slice a len cap) d ps) : len ≤ cap ∧ cap ≤ maxLen ∧ ∃ l : List Bool, len = l.length ∧ RdBools W a l := by
  obtain ⟨fuel, hf⟩ := h
  rcases open_slice1 hu hc hf with ⟨hcs, _⟩ | ⟨x, l, c, m, n, V, D, Pl, hcs, hb, hl, hm, hmm, _, hi⟩
  · simp [Value.cells] at hcs
    obtain ⟨rfl, rfl, rfl⟩ := hcs
    exact ⟨Nat.le_refl _, Nat.zero_le _, [], rfl, fun i hi => absurd hi (by simp)⟩
  · simp [Value.cells] at hcs
    obtain ⟨rfl, rfl, rfl⟩ := hcs
    have hlm : len ≤ m := by
      rw [hmm]
      split
      · exact hl
      · exact Nat.le_refl _
    refine ⟨hl, hm, (List.range len).map fun i => boolIn (V i), by simp, fun i hi2 => ?_⟩
    have hi3 : i < len := by simpa using hi2
    obtain ⟨h1, h2⟩ := hi i (by omega)
    obtain ⟨b, hb, _⟩ := DataW.trod_bool he h2
    simp at hb
    refine ⟨x, rfl, ?_⟩
    rw [h1, hb]
    simp [boolIn, hb]
end Go.Proofs.Ytcljbaoadmflgaa.Kit
