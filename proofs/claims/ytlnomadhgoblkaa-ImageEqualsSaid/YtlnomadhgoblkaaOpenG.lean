/- (general part) Opening arguments: slices of structs of one-cell fields; lists of reader calls (Op) and of items (Item). -/
import Derived.Test.YtlnomadhgoblkaaProg
import Derived.Test.YtlnomadhgoblkaaOpen
import Derived.Deep.Slices
import Derived.Deep.Fields
set_option linter.unusedVariables false
set_option linter.unusedSimpArgs false
namespace Go.Proofs.Ytlnomadhgoblkaa.Kit
open Go.ChangeShapes Go.RowKit Go.Deep
/-- a field's datum inside the datum of a slice of structs -/
def Inside {H : Type} (y d : DataW H) : Prop := ∃ el sp parts, d = .slice el sp ∧ DataW.agg parts ∈ el ∧ y ∈ parts
/-- a slice of structs whose fields have one cell each: a value for each field of each element, and each reads as its type says -/
theorem open_structs {H : Type} {enc : TypeId × Value → H} {P : Program} {W : World} {base : Nat} {spare : Nat → Bool} {held : Bool} {t e : TypeId} {fs : Array Field} {a : Option Addr} {len cap : Nat} {d : DataW H} {ps : List MemPlace}
    (hu : P.underlying t = some (.slice e)) (he : P.underlying e = some (.struct fs)) (hone : oneCellFields P fs = true) (hC : P.cellsOf e = fs.size) (h : DataW.Trod enc P W base spare held t (.slice a len cap) d ps) :
    len ≤ cap ∧ cap ≤ maxLen ∧ ∃ R : Nat → Nat → Value, ∀ i, i < len → ∃ ad, a = some ad ∧ base ≤ ad.block ∧ ∀ j f, fs[j]? = some f → W.cell? (ad.add (i * fs.size + j)) = some (R i j) ∧ ∃ n y, DataW.trod enc P W base spare held n f.type [R i j] = some y ∧ Inside y.1 d := by
  obtain ⟨fuel, hf⟩ := h
  rcases open_slice hu hf with ⟨hcs, _⟩ | ⟨x, l, c, m, n, D, Pl, hcs, hb, hl, hm, hmm, hx, hi⟩
  · simp [Value.cells] at hcs
    obtain ⟨rfl, rfl, rfl⟩ := hcs
    exact ⟨Nat.le_refl _, Nat.zero_le _, fun _ _ => .bool false, fun i hi => absurd hi (by omega)⟩
  · simp [Value.cells] at hcs
    obtain ⟨rfl, rfl, rfl⟩ := hcs
    refine ⟨hl, hm, fun i j => (W.cell? (x.add (i * fs.size + j))).getD (.bool false), fun i hlt => ⟨x, rfl, hb, fun j f hj => ?_⟩⟩
    have hlm : len ≤ m := by
      rw [hmm]
      split
      · exact hl
      · exact Nat.le_refl _
    obtain ⟨cs, hc, ht⟩ := hi i (by omega)
    rw [hC] at hc
    obtain ⟨ys, n', _, hag, _, hyl, hfd⟩ := DataW.trod_struct he ht
    obtain ⟨_, hcl, hat⟩ := World.cells?_some hc
    obtain ⟨ho, hk⟩ := hone_of hone j f hj
    have hjl : j < fs.size := (Array.getElem?_eq_some_iff.1 hj).1
    have hcell := hat j hjl
    have hv : cs[j]? = some (cs[j]'(by omega)) := List.getElem?_eq_getElem (by omega)
    have hg : W.cell? (x.add (i * fs.size + j)) = some (cs[j]'(by omega)) := by
      rw [← Go.Deep.add_add, hcell, hv]
    have h1 := hfd j f hj
    rw [ho, hk, List.drop_eq_getElem_cons (by omega : j < cs.length)] at h1
    have hR : (W.cell? (x.add (i * fs.size + j))).getD (.bool false) = cs[j]'(by omega) := by rw [hg]; rfl
    show W.cell? _ = some ((W.cell? (x.add (i * fs.size + j))).getD (.bool false)) ∧ ∃ n y, DataW.trod enc P W base spare held n f.type [(W.cell? (x.add (i * fs.size + j))).getD (.bool false)] = some y ∧ Inside y.1 d
    rw [hR]
    refine ⟨hg, n', ys[j]'(by omega), ?_, _, _, _, (Prod.mk.inj hx).1, List.mem_map.2 ⟨i, List.mem_range.2 hlt, (Prod.mk.inj hag).1⟩, List.mem_map.2 ⟨_, List.getElem_mem (by omega), rfl⟩⟩
    rw [List.getElem?_eq_getElem (by omega : j < ys.length)] at h1
    exact h1
/-- the number in a cell -/
def numIn : Value → Int
  | .int _ n => n
  | _ => 0
def strIn : Value → ByteArray
  | .string s => s
  | _ => ByteArray.empty
theorem is_int {H : Type} {enc : TypeId × Value → H} {P : Program} {W : World} {base : Nat} {spare : Nat → Bool} {held : Bool} {t : TypeId} {k : IntKind} {n : Nat} {v : Value} {y : DataW H × List MemPlace} (hu : P.underlying t = some (.int k)) (h : DataW.trod enc P W base spare held n t [v] = some y) : v = .int k (numIn v) ∧ (Lit.int k (numIn v)).wf = true := by
  obtain ⟨z, hz, _, hw⟩ := DataW.trod_int hu h
  simp at hz
  subst hz
  exact ⟨rfl, hw⟩
theorem is_str {H : Type} {enc : TypeId × Value → H} {P : Program} {W : World} {base : Nat} {spare : Nat → Bool} {held : Bool} {t : TypeId} {n : Nat} {v : Value} {y : DataW H × List MemPlace} (hu : P.underlying t = some .string) (h : DataW.trod enc P W base spare held n t [v] = some y) : v = .string (strIn v) ∧ y.1 = .lit (.string (strIn v).data.toList) := by
  obtain ⟨z, hz, hy, hw⟩ := DataW.trod_string hu h
  simp at hz
  subst hz
  exact ⟨rfl, by rw [hy]; rfl⟩
end Go.Proofs.Ytlnomadhgoblkaa.Kit
