/- (general part) Opening arguments: how much each slice that lies inside an argument takes at most. -/
import Derived.Test.YtlnomadhgoblkaaProg
import Derived.Test.YtlnomadhgoblkaaOpen
import Derived.Test.YtlnomadhgoblkaaOpenG
import Derived.SizedLaws
import Derived.Deep.Slices
import Derived.Deep.Fields
set_option linter.unusedVariables false
set_option linter.unusedSimpArgs false
namespace Go.Proofs.Ytlnomadhgoblkaa.Kit
open Go.ChangeShapes Go.RowKit Go.Deep
/-- each string, slice and map met in reading takes at most so much -/
def Light {H : Type} (P : Program) (t : TypeId) (d : DataW H) : Prop := ∀ x ∈ d.weights P t, x ≤ reachBytes
theorem light_arg {H : Type} {P : Program} {ts : List TypeId} {ds : List (DataW H)} {j : Nat} {t : TypeId} {d : DataW H} (h : (DataW.weightsEach P ts ds).all (· ≤ reachBytes) = true) (ht : ts[j]? = some t) (hd : ds[j]? = some d) : Light P t d := fun x hx => by
  have := List.all_eq_true.1 h _ (DataW.weights_mem_each ht hd x hx)
  simpa using this
theorem weights_mem_all {H : Type} {P : Program} {e : TypeId} : ∀ {l : List (DataW H)} {d : DataW H}, d ∈ l → ∀ n ∈ d.weights P e, n ∈ DataW.weightsAll P e l
  | x :: r, d, h, n, hn => by
    simp only [DataW.weightsAll, List.mem_append]
    rcases List.mem_cons.1 h with rfl | h
    · exact .inl hn
    · exact .inr (weights_mem_all h n hn)
theorem light_elem {H : Type} {P : Program} {t e : TypeId} {el sp : List (DataW H)} (hu : P.underlying t = some (.slice e)) (h : Light P t (.slice el sp)) : (el.length + sp.length) * P.bytesOf e ≤ reachBytes ∧ ∀ d ∈ el, Light P e d := by
  refine ⟨h _ (by simp [DataW.weights, hu]), fun d hd x hx => h x ?_⟩
  simp only [DataW.weights, hu, List.mem_cons, List.mem_append]
  exact .inr (.inl (weights_mem_all hd x hx))
theorem light_field {H : Type} {P : Program} {t : TypeId} {fs : Array Field} {parts : List (DataW H)} {j : Nat} {f : Field} {y : DataW H} (hu : P.underlying t = some (.struct fs)) (h : Light P t (.agg parts)) (hj : fs[j]? = some f) (hy : parts[j]? = some y) : Light P f.type y := fun x hx => h x (by
  simp only [DataW.weights, hu]
  refine DataW.weights_mem_each (j := j) (t := f.type) ?_ hy x hx
  rw [List.getElem?_map, Array.getElem?_toList, hj]
  rfl)
theorem light_str {H : Type} {P : Program} {t : TypeId} {b : List UInt8} (h : Light (H := H) P t (.lit (.string b))) : b.length ≤ reachBytes := h _ (by simp [DataW.weights])
/-- a slice's length -/
theorem light_len {H : Type} {enc : TypeId × Value → H} {P : Program} {W : World} {base : Nat} {spare : Nat → Bool} {held : Bool} {t e : TypeId} {a : Option Addr} {len cap : Nat} {d : DataW H} {ps : List MemPlace} {B : Nat}
    (hu : P.underlying t = some (.slice e)) (hB : P.bytesOf e = B) (h : DataW.Trod enc P W base spare held t (.slice a len cap) d ps) (hl : Light P t d) : len * B ≤ 140737488351232 := by
  obtain ⟨fuel, hf⟩ := h
  rcases open_slice hu hf with ⟨hcs, _⟩ | ⟨x, l, c, m, n, D, Pl, hcs, hb, hle, hm, hmm, hx, hi⟩
  · simp [Value.cells] at hcs
    obtain ⟨rfl, rfl, rfl⟩ := hcs
    simp
  · simp [Value.cells] at hcs
    obtain ⟨rfl, rfl, rfl⟩ := hcs
    obtain ⟨hx, _⟩ := Prod.mk.inj hx
    subst hx
    have z := (light_elem hu hl).1
    rw [hB] at z
    refine Nat.le_trans (Nat.mul_le_mul_right _ ?_) z
    simp
/-- a slice of structs whose fields have one cell each: a value for each field of each element; each reads as its type says, and is light -/
theorem open_structsL {H : Type} {enc : TypeId × Value → H} {P : Program} {W : World} {base : Nat} {spare : Nat → Bool} {held : Bool} {t e : TypeId} {fs : Array Field} {a : Option Addr} {len cap : Nat} {d : DataW H} {ps : List MemPlace}
    (hu : P.underlying t = some (.slice e)) (he : P.underlying e = some (.struct fs)) (hone : oneCellFields P fs = true) (hC : P.cellsOf e = fs.size) (h : DataW.Trod enc P W base spare held t (.slice a len cap) d ps) (hL : Light P t d) :
    len ≤ cap ∧ cap ≤ maxLen ∧ ∃ R : Nat → Nat → Value, ∀ i, i < len → ∃ ad, a = some ad ∧ base ≤ ad.block ∧ ∀ j f, fs[j]? = some f → W.cell? (ad.add (i * fs.size + j)) = some (R i j) ∧ ∃ n y, DataW.trod enc P W base spare held n f.type [R i j] = some y ∧ Light P f.type y.1 := by
  obtain ⟨fuel, hf⟩ := h
  rcases open_slice hu hf with ⟨hcs, _⟩ | ⟨x, l, c, m, n, D, Pl, hcs, hb, hl, hm, hmm, hx, hi⟩
  · simp [Value.cells] at hcs
    obtain ⟨rfl, rfl, rfl⟩ := hcs
    exact ⟨Nat.le_refl _, Nat.zero_le _, fun _ _ => .bool false, fun i hi => absurd hi (by omega)⟩
  · simp [Value.cells] at hcs
    obtain ⟨rfl, rfl, rfl⟩ := hcs
    have hd := (Prod.mk.inj hx).1
    rw [hd] at hL
    have hE := (light_elem hu hL).2
    refine ⟨hl, hm, fun i j => (W.cell? (x.add (i * fs.size + j))).getD (.bool false), fun i hlt => ⟨x, rfl, hb, fun j f hj => ?_⟩⟩
    have hlm : len ≤ m := by
      rw [hmm]
      split
      · exact hl
      · exact Nat.le_refl _
    obtain ⟨cs, hc, ht⟩ := hi i (by omega)
    rw [hC] at hc
    obtain ⟨ys, n', _, hag, _, hyl, hfd⟩ := DataW.trod_struct he ht
    obtain ⟨_, hcl, hat⟩ := World.cells?_some hc
    obtain ⟨ho, hk⟩ := hone_of hone j f hj
    have hjl : j < fs.size := (Array.getElem?_eq_some_iff.1 hj).1
    have hcell := hat j hjl
    have hv : cs[j]? = some (cs[j]'(by omega)) := List.getElem?_eq_getElem (by omega)
    have hg : W.cell? (x.add (i * fs.size + j)) = some (cs[j]'(by omega)) := by
      rw [← Go.Deep.add_add, hcell, hv]
    have h1 := hfd j f hj
    rw [ho, hk, List.drop_eq_getElem_cons (by omega : j < cs.length)] at h1
    have hR : (W.cell? (x.add (i * fs.size + j))).getD (.bool false) = cs[j]'(by omega) := by rw [hg]; rfl
    show W.cell? _ = some ((W.cell? (x.add (i * fs.size + j))).getD (.bool false)) ∧ ∃ n y, DataW.trod enc P W base spare held n f.type [(W.cell? (x.add (i * fs.size + j))).getD (.bool false)] = some y ∧ Light P f.type y.1
    rw [hR]
    refine ⟨hg, n', ys[j]'(by omega), ?_, ?_⟩
    · rw [List.getElem?_eq_getElem (by omega : j < ys.length)] at h1
      exact h1
    · have hD := hE (D i) (List.mem_map.2 ⟨i, List.mem_range.2 hlt, rfl⟩)
      rw [(Prod.mk.inj hag).1] at hD
      refine light_field he hD hj ?_
      rw [List.getElem?_map, List.getElem?_eq_getElem (by omega : j < ys.length)]
      rfl
theorem is_sliceL {H : Type} {enc : TypeId × Value → H} {P : Program} {W : World} {base : Nat} {spare : Nat → Bool} {held : Bool} {t e : TypeId} {n : Nat} {v : Value} {y : DataW H × List MemPlace} (hu : P.underlying t = some (.slice e)) (h : DataW.trod enc P W base spare held n t [v] = some y) : ∃ a len cap, v = .slice a len cap ∧ len ≤ cap ∧ cap ≤ maxLen ∧ DataW.Trod enc P W base spare held t (.slice a len cap) y.1 y.2 := by
  rcases open_slice hu h with ⟨hcs, _⟩ | ⟨x, l, c, m, n, D, Pl, hcs, hb, hl, hm, hmm, hx, hi⟩
  · simp at hcs
    subst hcs
    exact ⟨_, _, _, rfl, Nat.le_refl _, Nat.zero_le _, ⟨_, by simpa [Value.cells] using h⟩⟩
  · simp at hcs
    subst hcs
    exact ⟨_, _, _, rfl, hl, hm, ⟨_, by simpa [Value.cells] using h⟩⟩
end Go.Proofs.Ytlnomadhgoblkaa.Kit
