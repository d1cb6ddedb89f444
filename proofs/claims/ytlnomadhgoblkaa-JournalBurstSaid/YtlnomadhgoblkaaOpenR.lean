/- Opening arguments: records, lists of records, with how long they can be. -/
import Derived.Test.YtlnomadhgoblkaaOpenW
import Derived.Test.YtlnomadhgoblkaaRecs
import Derived.Lib.SmallJoins
set_option linter.unusedVariables false
set_option linter.unusedSimpArgs false
namespace Go.Proofs.Ytlnomadhgoblkaa.Kit
open Go.ChangeShapes Go.RowKit Go.Deep Go.Joins
theorem open_recsL {H : Type} {enc : TypeId × Value → H} {W : World} {base : Nat} {spare : Nat → Bool} {held : Bool} {a : Option Addr} {len cap : Nat} {d : DataW H} {ps : List MemPlace}
    (h : DataW.Trod enc Try.prog W base spare held 49 (.slice a len cap) d ps) (hL : Light Try.prog 49 d) : len * 32 ≤ 140737488351232 ∧ len ≤ cap ∧ cap ≤ maxLen ∧ ∃ l : List SecV, len = l.length ∧ RdSecs W a l ∧ ∀ x ∈ l, x.body.length ≤ 140737488351232 := by
  have hlen := light_len (B := 32) Try.underlying49 (by kernel_rfl) h hL
  obtain ⟨h0, h1, R, hR⟩ := open_structsL Try.underlying49 Try.underlying31 (by kernel_rfl) (by kernel_rfl) h hL
  have key : ∀ i, i < len → ∃ x : SecV, (∃ ad, a = some ad ∧ SecAt W ad i x) ∧ x.body.length ≤ 140737488351232 := by
    intro i hi
    obtain ⟨ad, e, _, hf⟩ := hR i hi
    obtain ⟨c0, n0, y0, t0, _⟩ := hf 0 _ rfl
    obtain ⟨c1, n1, y1, t1, q1⟩ := hf 1 _ rfl
    have i0 := is_int Try.underlying3 t0
    obtain ⟨b, bl, bc, hv, hle, hmx, ht⟩ := is_sliceL Try.underlying29 t1
    rw [i0.1] at c0
    rw [hv] at c1
    obtain ⟨body, hl, hr, hby, _⟩ := open_bytes Try.underlying29 Try.underlying5 (by kernel_rfl) ht
    have hbk := light_len (B := 1) Try.underlying29 (by kernel_rfl) ht q1
    subst hl
    refine ⟨⟨numIn (R i 0), body⟩, ⟨ad, e, ?_, ⟨b, bc, ?_, hle, hmx, hr⟩, hby, wf_i64 i0.2⟩, by show body.length ≤ 140737488351232; omega⟩
    · simpa using c0
    · rw [show (⟨(ad.add (i * 2)).block, (ad.add (i * 2)).off + 1, none⟩ : Addr) = (ad.add (i * 2)).add 1 from rfl, Go.Deep.add_add]
      simpa using c1
  refine ⟨hlen, h0, h1, (List.range len).map fun i => if hi : i < len then Classical.choose (key i hi) else ⟨0, []⟩, by simp, fun i hi => ?_, fun x hx => ?_⟩
  · have hi' : i < len := by simpa using hi
    simp only [List.getElem_map, List.getElem_range, dif_pos hi']
    exact (Classical.choose_spec (key i hi')).1
  · obtain ⟨i, hi, rfl⟩ := List.mem_map.1 hx
    have hi' : i < len := List.mem_range.1 hi
    simp only [dif_pos hi']
    exact (Classical.choose_spec (key i hi')).2
set_option maxRecDepth 20000 in
theorem open_recL {H : Type} {enc : TypeId × Value → H} {W : World} {base : Nat} {spare : Nat → Bool} {held : Bool} {r : Reach} {b0 : Nat} {v : Value} {d : DataW H} {ps : List MemPlace}
    (hv : Value.okWide Try.prog W r b0 31 v) (h : DataW.Trod enc Try.prog W base spare held 31 v d ps) (hL : Light Try.prog 31 d) : ∃ (x : SecV) (A : Option Addr) (n c : Nat), v = .agg #[.int .i64 x.id, .slice A n c] ∧ n = x.body.length ∧ n ≤ c ∧ c ≤ maxLen ∧ Rd W .u8 A x.body ∧ Byt x.body ∧ -9223372036854775808 ≤ x.id ∧ x.id ≤ 9223372036854775807 ∧ n ≤ 140737488351232 := by
  obtain ⟨v0, v1, y0, y1, n, rfl, rfl, rfl, t0, t1⟩ := open_agg2 Try.underlying31 (by kernel_rfl) (by kernel_rfl) hv h
  have q1 := light_field (j := 1) (y := y1.1) Try.underlying31 hL rfl rfl
  have i0 := is_int Try.underlying3 t0
  obtain ⟨b, bl, bc, hv1, hle, hmx, ht⟩ := is_sliceL Try.underlying29 t1
  obtain ⟨body, hl, hr, hby, _⟩ := open_bytes Try.underlying29 Try.underlying5 (by kernel_rfl) ht
  have hbk := light_len (B := 1) Try.underlying29 (by kernel_rfl) ht q1
  have hw := wf_i64 i0.2
  refine ⟨⟨numIn v0, body⟩, b, bl, bc, by rw [← hv1, ← i0.1], hl, hle, hmx, hr, hby, hw.1, hw.2, by omega⟩
end Go.Proofs.Ytlnomadhgoblkaa.Kit
