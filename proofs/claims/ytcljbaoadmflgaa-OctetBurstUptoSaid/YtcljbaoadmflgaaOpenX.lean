/- Opening arguments: lists of sections. -/
import Derived.Test.YtcljbaoadmflgaaRows
import Derived.Test.YtcljbaoadmflgaaOpenS
import Derived.Test.YtcljbaoadmflgaaSecs
import Derived.Test.YtcljbaoadmflgaaBulk
set_option linter.unusedVariables false
set_option linter.unusedSimpArgs false
namespace Go.Proofs.Ytcljbaoadmflgaa.Kit
open Go.ChangeShapes Go.RowKit Go.Deep
theorem bulk_of_ints {H : Type} {enc : TypeId × Value → H} {P : Program} {W : World} {base : Nat} {spare : Nat → Bool} {held : Bool} {t e : TypeId} {k : IntKind} {a : Option Addr} {len cap : Nat} {d : DataW H} {ps : List MemPlace}
    (hu : P.underlying t = some (.slice e)) (he : P.underlying e = some (.int k)) (hc : P.cellsOf e = 1) (h : DataW.Trod enc P W base spare held t (.slice a len cap) d ps) : len ≤ Rows.uptoBulk d := by
  obtain ⟨fuel, hf⟩ := h
  rcases open_ints hu he hc hf with ⟨hcs, _⟩ | ⟨x, l, c, zs, hcs, _, hl, _, hz, hx, _, _⟩
  · simp [Value.cells] at hcs
    obtain ⟨rfl, rfl, rfl⟩ := hcs
    omega
  · simp [Value.cells] at hcs
    obtain ⟨rfl, rfl, rfl⟩ := hcs
    obtain ⟨hx, _⟩ := Prod.mk.inj hx
    subst hx
    have hl2 : len ≤ zs.length := by
      rw [hz]
      split
      · exact hl
      · exact Nat.le_refl _
    have h1 := bulk_length (lits (H := H) k (zs.take len))
    have h2 : (lits (H := H) k (zs.take len)).length = len := by simp [lits]; omega
    simp only [Rows.uptoBulk]
    omega
theorem is_slice {H : Type} {enc : TypeId × Value → H} {P : Program} {W : World} {base : Nat} {spare : Nat → Bool} {held : Bool} {t e : TypeId} {n : Nat} {v : Value} {y : DataW H × List MemPlace} (hu : P.underlying t = some (.slice e)) (h : DataW.trod enc P W base spare held n t [v] = some y) : ∃ a len cap, v = .slice a len cap ∧ len ≤ cap ∧ cap ≤ maxLen := by
  rcases open_slice hu h with ⟨hcs, _⟩ | ⟨x, l, c, m, n, D, Pl, hcs, hb, hl, hm, hmm, hx, hi⟩
  · simp at hcs
    exact ⟨_, _, _, hcs, Nat.le_refl _, Nat.zero_le _⟩
  · simp at hcs
    exact ⟨_, _, _, hcs, hl, hm⟩
theorem trod_cap {H : Type} {enc : TypeId × Value → H} {P : Program} {W : World} {base : Nat} {spare : Nat → Bool} {held : Bool} {t e : TypeId} {a : Option Addr} {len cap : Nat} {d : DataW H} {ps : List MemPlace} (hu : P.underlying t = some (.slice e)) (h : DataW.Trod enc P W base spare held t (.slice a len cap) d ps) : cap ≤ maxLen := by
  obtain ⟨n, hn⟩ := h
  obtain ⟨a', l', c', hv, _, hm⟩ := is_slice (v := .slice a len cap) hu (by simpa [Value.cells] using hn)
  injection hv with _ _ hc
  subst hc
  exact hm
theorem open_secs {H : Type} {enc : TypeId × Value → H} {W : World} {base : Nat} {spare : Nat → Bool} {held : Bool} {a : Option Addr} {len cap : Nat} {d : DataW H} {ps : List MemPlace}
    (h : DataW.Trod enc Try.prog W base spare held 72 (.slice a len cap) d ps) : len ≤ cap ∧ cap ≤ maxLen ∧ ∃ l : List SecV, len = l.length ∧ RdSecs W a l ∧ ∀ i (h : i < l.length), ∃ y, Inside y d ∧ l[i].body.length ≤ Rows.uptoBulk y := by
  obtain ⟨h0, h1, R, hR⟩ := open_structs Try.underlying72 Try.underlying80 (by kernel_rfl) (by kernel_rfl) h
  have key : ∀ i, i < len → ∃ x : SecV, (∃ ad, a = some ad ∧ SecAt W ad i x) ∧ ∃ y, Inside y d ∧ x.body.length ≤ Rows.uptoBulk y := by
    intro i hi
    obtain ⟨ad, e, _, hf⟩ := hR i hi
    obtain ⟨c0, n0, y0, t0, _⟩ := hf 0 _ rfl
    obtain ⟨c1, n1, y1, t1, q1⟩ := hf 1 _ rfl
    have i0 := is_int Try.underlying3 t0
    obtain ⟨b, bl, bc, hv, hle, hmx⟩ := is_slice Try.underlying22 t1
    rw [i0.1] at c0
    rw [hv] at c1 t1
    have ht : DataW.Trod enc Try.prog W base spare held 22 (.slice b bl bc) y1.1 y1.2 := ⟨n1, by simpa [Value.cells] using t1⟩
    obtain ⟨body, hl, hr, hby, _⟩ := open_bytes Try.underlying22 Try.underlying5 (by kernel_rfl) ht
    have hbk := bulk_of_ints Try.underlying22 Try.underlying5 (by kernel_rfl) ht
    subst hl
    refine ⟨⟨numIn (R i 0), body⟩, ⟨ad, e, ?_, ⟨b, bc, ?_, hle, hmx, hr⟩, hby, wf_i64 i0.2⟩, y1.1, q1, hbk⟩
    · simpa using c0
    · rw [show (⟨(ad.add (i * 2)).block, (ad.add (i * 2)).off + 1, none⟩ : Addr) = (ad.add (i * 2)).add 1 from rfl, Go.Deep.add_add]
      simpa using c1
  refine ⟨h0, h1, (List.range len).map fun i => if hi : i < len then Classical.choose (key i hi) else ⟨0, []⟩, by simp, fun i hi => ?_, fun i hi => ?_⟩
  · have hi' : i < len := by simpa using hi
    simp only [List.getElem_map, List.getElem_range, dif_pos hi']
    exact (Classical.choose_spec (key i hi')).1
  · have hi' : i < len := by simpa using hi
    simp only [List.getElem_map, List.getElem_range, dif_pos hi']
    exact (Classical.choose_spec (key i hi')).2
theorem bulk_secs {H : Type} {d : DataW H} {ds : List (DataW H)} {l : List SecV} (hk : Rows.uptoSmall H ds = true) (hd : d ∈ ds) (h : ∀ i (h : i < l.length), ∃ y, Inside y d ∧ l[i].body.length ≤ Rows.uptoBulk y) : ∀ x ∈ l, x.body.length ≤ 1048576 := by
  intro x hx
  obtain ⟨i, hi, rfl⟩ := List.getElem_of_mem hx
  obtain ⟨y, h1, h2⟩ := h i hi
  exact Nat.le_trans h2 (bulk_inside hk hd h1)
end Go.Proofs.Ytcljbaoadmflgaa.Kit
