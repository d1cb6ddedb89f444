/- Opening arguments: slices of structs of one-cell fields; lists of reader calls (Op) and of items (Item). -/
import Derived.Test.YtcljbaoadmflgaaProg
import Derived.Test.YtcljbaoadmflgaaOpen
import Derived.Deep.Slices
import Derived.Deep.Fields
set_option linter.unusedVariables false
set_option linter.unusedSimpArgs false
namespace Go.Proofs.Ytcljbaoadmflgaa.Kit
open Go.ChangeShapes Go.RowKit Go.Deep
/-- a field's datum inside the datum of a slice of structs -/
def Inside {H : Type} (y d : DataW H) : Prop := ∃ el sp parts, d = .slice el sp ∧ DataW.agg parts ∈ el ∧ y ∈ parts
/-- a slice of structs whose fields have one cell each: a value for each field of each element, and each reads as its type says -/
theorem open_structs {H : Type} {enc : TypeId × Value → H} {P : Program} {W : World} {base : Nat} {spare : Nat → Bool} {held : Bool} {t e : TypeId} {fs : Array Field} {a : Option Addr} {len cap : Nat} {d : DataW H} {ps : List MemPlace}
    (hu : P.underlying t = some (.slice e)) (he : P.underlying e = some (.struct fs)) (hone : oneCellFields P fs = true) (hC : P.cellsOf e = fs.size) (h : DataW.Trod enc P W base spare held t (.slice a len cap) d ps) :
    len ≤ cap ∧ cap ≤ maxLen ∧ ∃ R : Nat → Nat → Value, ∀ i, i < len → ∃ ad, a = some ad ∧ base ≤ ad.block ∧ ∀ j f, fs[j]? = some f → W.cell? (ad.add (i * fs.size + j)) = some (R i j) ∧ ∃ n y, DataW.trod enc P W base spare held n f.type [R i j] = some y ∧ Inside y.1 d := by
  obtain ⟨fuel, hf⟩ := h
  rcases open_slice hu hf with ⟨hcs, _⟩ | ⟨x, l, c, m, n, D, Pl, hcs, hb, hl, hm, hmm, hx, hi⟩
  · simp [Value.cells] at hcs
    obtain ⟨rfl, rfl, rfl⟩ := hcs
    exact ⟨Nat.le_refl _, Nat.zero_le _, fun _ _ => .bool false, fun i hi => absurd hi (by omega)⟩
  · simp [Value.cells] at hcs
    obtain ⟨rfl, rfl, rfl⟩ := hcs
    refine ⟨hl, hm, fun i j => (W.cell? (x.add (i * fs.size + j))).getD (.bool false), fun i hlt => ⟨x, rfl, hb, fun j f hj => ?_⟩⟩
    have hlm : len ≤ m := by
      rw [hmm]
      split
      · exact hl
      · exact Nat.le_refl _
    obtain ⟨cs, hc, ht⟩ := hi i (by omega)
    rw [hC] at hc
    obtain ⟨ys, n', _, hag, _, hyl, hfd⟩ := DataW.trod_struct he ht
    obtain ⟨_, hcl, hat⟩ := World.cells?_some hc
    obtain ⟨ho, hk⟩ := hone_of hone j f hj
    have hjl : j < fs.size := (Array.getElem?_eq_some_iff.1 hj).1
    have hcell := hat j hjl
    have hv : cs[j]? = some (cs[j]'(by omega)) := List.getElem?_eq_getElem (by omega)
    have hg : W.cell? (x.add (i * fs.size + j)) = some (cs[j]'(by omega)) := by
      rw [← Go.Deep.add_add, hcell, hv]
    have h1 := hfd j f hj
    rw [ho, hk, List.drop_eq_getElem_cons (by omega : j < cs.length)] at h1
    have hR : (W.cell? (x.add (i * fs.size + j))).getD (.bool false) = cs[j]'(by omega) := by rw [hg]; rfl
    show W.cell? _ = some ((W.cell? (x.add (i * fs.size + j))).getD (.bool false)) ∧ ∃ n y, DataW.trod enc P W base spare held n f.type [(W.cell? (x.add (i * fs.size + j))).getD (.bool false)] = some y ∧ Inside y.1 d
    rw [hR]
    refine ⟨hg, n', ys[j]'(by omega), ?_, _, _, _, (Prod.mk.inj hx).1, List.mem_map.2 ⟨i, List.mem_range.2 hlt, (Prod.mk.inj hag).1⟩, List.mem_map.2 ⟨_, List.getElem_mem (by omega), rfl⟩⟩
    rw [List.getElem?_eq_getElem (by omega : j < ys.length)] at h1
    exact h1
/-- the number in a cell -/
def numIn : Value → Int
  | .int _ n => n
  | _ => 0
def strIn : Value → ByteArray
  | .string s => s
  | _ => ByteArray.empty
theorem is_int {H : Type} {enc : TypeId × Value → H} {P : Program} {W : World} {base : Nat} {spare : Nat → Bool} {held : Bool} {t : TypeId} {k : IntKind} {n : Nat} {v : Value} {y : DataW H × List MemPlace} (hu : P.underlying t = some (.int k)) (h : DataW.trod enc P W base spare held n t [v] = some y) : v = .int k (numIn v) ∧ (Lit.int k (numIn v)).wf = true := by
  obtain ⟨z, hz, _, hw⟩ := DataW.trod_int hu h
  simp at hz
  subst hz
  exact ⟨rfl, hw⟩
theorem is_str {H : Type} {enc : TypeId × Value → H} {P : Program} {W : World} {base : Nat} {spare : Nat → Bool} {held : Bool} {t : TypeId} {n : Nat} {v : Value} {y : DataW H × List MemPlace} (hu : P.underlying t = some .string) (h : DataW.trod enc P W base spare held n t [v] = some y) : v = .string (strIn v) ∧ y.1 = .lit (.string (strIn v).data.toList) := by
  obtain ⟨z, hz, hy, hw⟩ := DataW.trod_string hu h
  simp at hz
  subst hz
  exact ⟨rfl, by rw [hy]; rfl⟩
/-- a call on a reader -/
structure OpV where
  kind : Int
  limit : Int
  n : Int
/-- its numbers are in their types -/
def OpV.ok (o : OpV) : Prop := (-9223372036854775808 ≤ o.kind ∧ o.kind ≤ 9223372036854775807) ∧ (0 ≤ o.limit ∧ o.limit ≤ 18446744073709551615) ∧ (-9223372036854775808 ≤ o.n ∧ o.n ≤ 9223372036854775807)
/-- a slice of calls, read -/
def RdOps (w : World) (A : Option Addr) (l : List OpV) : Prop := ∀ i (h : i < l.length), ∃ a, A = some a ∧ w.cell? (a.add (i * 3)) = some (.int .i64 l[i].kind) ∧ w.cell? ⟨(a.add (i * 3)).block, (a.add (i * 3)).off + 1, none⟩ = some (.int .u64 l[i].limit) ∧ w.cell? ⟨(a.add (i * 3)).block, (a.add (i * 3)).off + 2, none⟩ = some (.int .i64 l[i].n) ∧ l[i].ok
theorem RdOps.below {w w' : World} {A : Option Addr} {l : List OpV} (h : RdOps w A l) (hb : Below w.heap.size w w') : RdOps w' A l := fun i hi => by
  obtain ⟨a, h0, h1, h2, h3, h4⟩ := h i hi
  have c : ∀ {p : Addr} {v : Value}, w.cell? p = some v → w'.cell? p = some v := fun hc => (hb.cell (World.block_lt_of_cell? w _ hc)).trans hc
  exact ⟨a, h0, c h1, c h2, c h3, h4⟩
theorem open_ops {H : Type} {enc : TypeId × Value → H} {W : World} {base : Nat} {spare : Nat → Bool} {held : Bool} {a : Option Addr} {len cap : Nat} {d : DataW H} {ps : List MemPlace}
    (h : DataW.Trod enc Try.prog W base spare held 40 (.slice a len cap) d ps) : len ≤ cap ∧ cap ≤ maxLen ∧ ∃ l : List OpV, len = l.length ∧ RdOps W a l := by
  obtain ⟨h0, h1, R, hR⟩ := open_structs Try.underlying40 Try.underlying54 (by kernel_rfl) (by kernel_rfl) h
  refine ⟨h0, h1, (List.range len).map fun i => ⟨numIn (R i 0), numIn (R i 1), numIn (R i 2)⟩, by simp, fun i hi => ?_⟩
  obtain ⟨ad, e, _, hf⟩ := hR i (by simpa using hi)
  obtain ⟨c0, n0, y0, t0, _⟩ := hf 0 _ rfl
  obtain ⟨c1, n1, y1, t1, _⟩ := hf 1 _ rfl
  obtain ⟨c2, n2, y2, t2, _⟩ := hf 2 _ rfl
  have i0 := is_int Try.underlying3 t0
  have i1 := is_int Try.underlying23 t1
  have i2 := is_int Try.underlying3 t2
  rw [i0.1] at c0
  rw [i1.1] at c1
  rw [i2.1] at c2
  refine ⟨ad, e, ?_, ?_, ?_, ?_⟩
  · simpa using c0
  · rw [show (⟨(ad.add (i * 3)).block, (ad.add (i * 3)).off + 1, none⟩ : Addr) = (ad.add (i * 3)).add 1 from rfl, Go.Deep.add_add]
    simpa using c1
  · rw [show (⟨(ad.add (i * 3)).block, (ad.add (i * 3)).off + 2, none⟩ : Addr) = (ad.add (i * 3)).add 2 from rfl, Go.Deep.add_add]
    simpa using c2
  · simp only [List.getElem_map, List.getElem_range]
    exact ⟨wf_i64 i0.2, wf_u64 i1.2, wf_i64 i2.2⟩
/-- a number or a text that is written -/
structure ItemV where
  kind : Int
  x : Int
  y : Int
  s : ByteArray
def ItemV.ok (o : ItemV) : Prop := (-9223372036854775808 ≤ o.kind ∧ o.kind ≤ 9223372036854775807) ∧ (0 ≤ o.x ∧ o.x ≤ 18446744073709551615) ∧ (-9223372036854775808 ≤ o.y ∧ o.y ≤ 9223372036854775807)
def RdItems (w : World) (A : Option Addr) (l : List ItemV) : Prop := ∀ i (h : i < l.length), ∃ a, A = some a ∧ w.cell? (a.add (i * 4)) = some (.int .i64 l[i].kind) ∧ w.cell? ⟨(a.add (i * 4)).block, (a.add (i * 4)).off + 1, none⟩ = some (.int .u64 l[i].x) ∧
  w.cell? ⟨(a.add (i * 4)).block, (a.add (i * 4)).off + 2, none⟩ = some (.int .i64 l[i].y) ∧ w.cell? ⟨(a.add (i * 4)).block, (a.add (i * 4)).off + 3, none⟩ = some (.string l[i].s) ∧ l[i].ok
theorem RdItems.below {w w' : World} {A : Option Addr} {l : List ItemV} (h : RdItems w A l) (hb : Below w.heap.size w w') : RdItems w' A l := fun i hi => by
  obtain ⟨a, h0, h1, h2, h3, h5, h4⟩ := h i hi
  have c : ∀ {p : Addr} {v : Value}, w.cell? p = some v → w'.cell? p = some v := fun hc => (hb.cell (World.block_lt_of_cell? w _ hc)).trans hc
  exact ⟨a, h0, c h1, c h2, c h3, c h5, h4⟩
theorem open_items {H : Type} {enc : TypeId × Value → H} {W : World} {base : Nat} {spare : Nat → Bool} {held : Bool} {a : Option Addr} {len cap : Nat} {d : DataW H} {ps : List MemPlace}
    (h : DataW.Trod enc Try.prog W base spare held 61 (.slice a len cap) d ps) : len ≤ cap ∧ cap ≤ maxLen ∧ ∃ l : List ItemV, len = l.length ∧ RdItems W a l ∧ ∀ i (h : i < l.length), Inside (.lit (.string l[i].s.data.toList)) d := by
  obtain ⟨h0, h1, R, hR⟩ := open_structs Try.underlying61 Try.underlying66 (by kernel_rfl) (by kernel_rfl) h
  refine ⟨h0, h1, (List.range len).map fun i => ⟨numIn (R i 0), numIn (R i 1), numIn (R i 2), strIn (R i 3)⟩, by simp, fun i hi => ?_, fun i hi => ?_⟩
  · obtain ⟨ad, e, _, hf⟩ := hR i (by simpa using hi)
    obtain ⟨c0, n0, y0, t0, _⟩ := hf 0 _ rfl
    obtain ⟨c1, n1, y1, t1, _⟩ := hf 1 _ rfl
    obtain ⟨c2, n2, y2, t2, _⟩ := hf 2 _ rfl
    obtain ⟨c3, n3, y3, t3, _⟩ := hf 3 _ rfl
    have i0 := is_int Try.underlying3 t0
    have i1 := is_int Try.underlying23 t1
    have i2 := is_int Try.underlying3 t2
    have i3 := is_str Try.underlying9 t3
    rw [i0.1] at c0
    rw [i1.1] at c1
    rw [i2.1] at c2
    rw [i3.1] at c3
    refine ⟨ad, e, ?_, ?_, ?_, ?_, ?_⟩
    · simpa using c0
    · rw [show (⟨(ad.add (i * 4)).block, (ad.add (i * 4)).off + 1, none⟩ : Addr) = (ad.add (i * 4)).add 1 from rfl, Go.Deep.add_add]
      simpa using c1
    · rw [show (⟨(ad.add (i * 4)).block, (ad.add (i * 4)).off + 2, none⟩ : Addr) = (ad.add (i * 4)).add 2 from rfl, Go.Deep.add_add]
      simpa using c2
    · rw [show (⟨(ad.add (i * 4)).block, (ad.add (i * 4)).off + 3, none⟩ : Addr) = (ad.add (i * 4)).add 3 from rfl, Go.Deep.add_add]
      simpa using c3
    · simp only [List.getElem_map, List.getElem_range]
      exact ⟨wf_i64 i0.2, wf_u64 i1.2, wf_i64 i2.2⟩
  · obtain ⟨ad, e, _, hf⟩ := hR i (by simpa using hi)
    obtain ⟨c3, n3, y3, t3, q⟩ := hf 3 _ rfl
    have i3 := is_str Try.underlying9 t3
    rw [i3.2] at q
    simpa using q
end Go.Proofs.Ytcljbaoadmflgaa.Kit
