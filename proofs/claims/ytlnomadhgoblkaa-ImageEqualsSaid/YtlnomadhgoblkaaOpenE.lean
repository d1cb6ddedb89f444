/- (general part) Opening arguments: slices of structs whose fields may have several cells. -/
import Derived.Test.YtlnomadhgoblkaaProg
import Derived.Test.YtlnomadhgoblkaaOpenW
set_option linter.unusedVariables false
set_option linter.unusedSimpArgs false
namespace Go.Proofs.Ytlnomadhgoblkaa.Kit
open Go.ChangeShapes Go.RowKit Go.Deep
/-- the cells of each element, which read as its type says, and are light -/
theorem open_elemsL {H : Type} {enc : TypeId × Value → H} {P : Program} {W : World} {base : Nat} {spare : Nat → Bool} {held : Bool} {t e : TypeId} {C : Nat} {a : Option Addr} {len cap : Nat} {d : DataW H} {ps : List MemPlace}
    (hu : P.underlying t = some (.slice e)) (hC : P.cellsOf e = C) (h : DataW.Trod enc P W base spare held t (.slice a len cap) d ps) (hL : Light P t d) :
    len ≤ cap ∧ cap ≤ maxLen ∧ ∀ i, i < len → ∃ ad, a = some ad ∧ base ≤ ad.block ∧ ∃ (cs : List Value) (n : Nat) (y : DataW H × List MemPlace), cs.length = C ∧ (∀ j, j < C → W.cell? (ad.add (i * C + j)) = cs[j]?) ∧ DataW.trod enc P W base spare held n e cs = some y ∧ Light P e y.1 := by
  obtain ⟨fuel, hf⟩ := h
  rcases open_slice hu hf with ⟨hcs, _⟩ | ⟨x, l, c, m, n, D, Pl, hcs, hb, hl, hm, hmm, hx, hi⟩
  · simp [Value.cells] at hcs
    obtain ⟨rfl, rfl, rfl⟩ := hcs
    exact ⟨Nat.le_refl _, Nat.zero_le _, fun i hi => absurd hi (by omega)⟩
  · simp [Value.cells] at hcs
    obtain ⟨rfl, rfl, rfl⟩ := hcs
    have hd := (Prod.mk.inj hx).1
    rw [hd] at hL
    have hE := (light_elem hu hL).2
    refine ⟨hl, hm, fun i hlt => ⟨x, rfl, hb, ?_⟩⟩
    have hlm : len ≤ m := by
      rw [hmm]
      split
      · exact hl
      · exact Nat.le_refl _
    obtain ⟨cs, hc, ht⟩ := hi i (by omega)
    rw [hC] at hc
    obtain ⟨_, hcl, hat⟩ := World.cells?_some hc
    refine ⟨cs, n, _, hcl, fun j hj => ?_, ht, hE (D i) (List.mem_map.2 ⟨i, List.mem_range.2 hlt, rfl⟩)⟩
    rw [← Go.Deep.add_add]
    exact hat j hj
/-- a field of a struct's cells -/
theorem trod_fieldL {H : Type} {enc : TypeId × Value → H} {P : Program} {W : World} {base : Nat} {spare : Nat → Bool} {held : Bool} {e : TypeId} {fs : Array Field} {n j : Nat} {f : Field} {cs : List Value} {y : DataW H × List MemPlace}
    (he : P.underlying e = some (.struct fs)) (h : DataW.trod enc P W base spare held n e cs = some y) (hL : Light P e y.1) (hj : fs[j]? = some f) :
    ∃ n' y', DataW.trod enc P W base spare held n' f.type ((cs.drop f.offset).take (P.cellsOf f.type)) = some y' ∧ Light P f.type y'.1 := by
  obtain ⟨ys, n', _, hag, _, hyl, hfd⟩ := DataW.trod_struct he h
  have hjl : j < fs.size := (Array.getElem?_eq_some_iff.1 hj).1
  have h1 := hfd j f hj
  rw [List.getElem?_eq_getElem (by omega : j < ys.length)] at h1
  refine ⟨n', ys[j]'(by omega), h1, ?_⟩
  rw [hag] at hL
  refine light_field he hL hj ?_
  rw [List.getElem?_map, List.getElem?_eq_getElem (by omega : j < ys.length)]
  rfl
end Go.Proofs.Ytlnomadhgoblkaa.Kit
