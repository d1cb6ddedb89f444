/- Opening arguments: programs. -/
import Derived.Test.YtlnomadhgoblkaaProg
import Derived.Test.YtlnomadhgoblkaaOpenW
import Derived.Test.YtlnomadhgoblkaaOpenE
import Derived.Test.YtlnomadhgoblkaaPgA
import Derived.Lib.SmallJoins
set_option linter.unusedVariables false
set_option linter.unusedSimpArgs false
namespace Go.Proofs.Ytlnomadhgoblkaa.Kit
open Go.ChangeShapes Go.WideShapes Go.RowKit Go.Deep Go.Joins
theorem list_of {α : Type} [Inhabited α] {n : Nat} {P : Nat → α → Prop} (h : ∀ i, i < n → ∃ x, P i x) : ∃ l : List α, l.length = n ∧ ∀ i (h : i < l.length), P i l[i] := by
  refine ⟨(List.range n).map fun i => if hi : i < n then Classical.choose (h i hi) else default, by simp, fun i hi => ?_⟩
  have hi' : i < n := by simpa using hi
  simp only [List.getElem_map, List.getElem_range, dif_pos hi']
  exact Classical.choose_spec (h i hi')
section
variable {H : Type} {enc : TypeId × Value → H} {W : World} {base : Nat} {spare : Nat → Bool} {held : Bool} {a : Option Addr} {len cap : Nat} {d : DataW H} {ps : List MemPlace}
theorem one_cell {cs : List Value} (h : cs.length = 1) : ∃ c, cs = [c] := by
  rcases cs with _ | ⟨c, _ | ⟨c1, r⟩⟩ <;> simp at h
  exact ⟨c, rfl⟩
theorem open_strsL (h : DataW.Trod enc Try.prog W base spare held 22 (.slice a len cap) d ps) (hL : Light Try.prog 22 d) : len * 16 ≤ 140737488351232 ∧ len ≤ cap ∧ cap ≤ maxLen ∧ ∃ l : List ByteArray, l.length = len ∧ RdG W a (strs l) ∧ ∀ x ∈ l, x.size ≤ 140737488351232 := by
  have hlen := light_len (B := 16) Try.underlying22 (by kernel_rfl) h hL
  obtain ⟨h0, h1, hR⟩ := open_elemsL (C := 1) Try.underlying22 (by kernel_rfl) h hL
  have key : ∀ i, i < len → ∃ x : ByteArray, (∃ ad, a = some ad ∧ W.cell? (ad.add i) = some (.string x)) ∧ x.size ≤ 140737488351232 := fun i hi => by
    obtain ⟨ad, e, _, cs, n, y, hcl, hc, ht, hl⟩ := hR i hi
    obtain ⟨c, rfl⟩ := one_cell hcl
    have i0 := is_str Try.underlying9 ht
    have q := hc 0 (by omega)
    rw [Nat.mul_one, Nat.add_zero] at q
    rw [i0.1] at q
    rw [i0.2] at hl
    have hz := light_str hl
    exact ⟨strIn c, ⟨ad, e, by simpa using q⟩, by rw [← data_length]; exact hz⟩
  have : Inhabited ByteArray := ⟨ByteArray.empty⟩
  obtain ⟨l, hl, hp⟩ := list_of key
  refine ⟨hlen, h0, h1, l, hl, fun j u hu => ?_, fun x hx => ?_⟩
  · have hj : j < l.length := by rw [← strs_length]; exact (List.getElem?_eq_some_iff.1 hu).1
    obtain ⟨⟨ad, e, hc⟩, _⟩ := hp j hj
    rw [strs_get l j hj] at hu
    injection hu with hu
    exact ⟨ad, e, by rw [hc, hu]⟩
  · obtain ⟨i, hi, rfl⟩ := List.getElem_of_mem hx
    exact (hp i hi).2
theorem open_intsL (h : DataW.Trod enc Try.prog W base spare held 23 (.slice a len cap) d ps) (hL : Light Try.prog 23 d) : len * 8 ≤ 140737488351232 ∧ len ≤ cap ∧ cap ≤ maxLen ∧ ∃ l : List Int, l.length = len ∧ RdG W a (nums .i64 l) ∧ ∀ x ∈ l, -9223372036854775808 ≤ x ∧ x ≤ 9223372036854775807 := by
  have hlen := light_len (B := 8) Try.underlying23 (by kernel_rfl) h hL
  obtain ⟨h0, h1, hR⟩ := open_elemsL (C := 1) Try.underlying23 (by kernel_rfl) h hL
  have key : ∀ i, i < len → ∃ x : Int, (∃ ad, a = some ad ∧ W.cell? (ad.add i) = some (.int .i64 x)) ∧ -9223372036854775808 ≤ x ∧ x ≤ 9223372036854775807 := fun i hi => by
    obtain ⟨ad, e, _, cs, n, y, hcl, hc, ht, hl⟩ := hR i hi
    obtain ⟨c, rfl⟩ := one_cell hcl
    have i0 := is_int Try.underlying3 ht
    have q := hc 0 (by omega)
    rw [Nat.mul_one, Nat.add_zero] at q
    rw [i0.1] at q
    exact ⟨numIn c, ⟨ad, e, by simpa using q⟩, wf_i64 i0.2⟩
  obtain ⟨l, hl, hp⟩ := list_of key
  refine ⟨hlen, h0, h1, l, hl, fun j u hu => ?_, fun x hx => ?_⟩
  · have hj : j < l.length := by rw [← nums_length .i64]; exact (List.getElem?_eq_some_iff.1 hu).1
    obtain ⟨⟨ad, e, hc⟩, _⟩ := hp j hj
    rw [nums_get .i64 l j hj] at hu
    injection hu with hu
    exact ⟨ad, e, by rw [hc, hu]⟩
  · obtain ⟨i, hi, rfl⟩ := List.getElem_of_mem hx
    exact (hp i hi).2
/-- numbers of an instruction are in their range -/
def InsOk (x : InsV) : Prop := (-9223372036854775808 ≤ x.op ∧ x.op ≤ 9223372036854775807) ∧ (-9223372036854775808 ≤ x.a ∧ x.a ≤ 9223372036854775807) ∧ -9223372036854775808 ≤ x.b ∧ x.b ≤ 9223372036854775807
instance : Inhabited InsV := ⟨⟨0, 0, 0⟩⟩
instance : Inhabited SegV := ⟨⟨0, []⟩⟩
theorem open_insL (h : DataW.Trod enc Try.prog W base spare held 77 (.slice a len cap) d ps) (hL : Light Try.prog 77 d) : len * 24 ≤ 140737488351232 ∧ len ≤ cap ∧ cap ≤ maxLen ∧ ∃ l : List InsV, l.length = len ∧ RdG W a (insCells l) ∧ ∀ x ∈ l, InsOk x := by
  have hlen := light_len (B := 24) Try.underlying77 (by kernel_rfl) h hL
  obtain ⟨h0, h1, hR⟩ := open_elemsL (C := 3) Try.underlying77 (by kernel_rfl) h hL
  have key : ∀ i, i < len → ∃ x : InsV, (∃ ad, a = some ad ∧ W.cell? (ad.add (i * 3)) = some (.int .i64 x.op) ∧ W.cell? (ad.add (i * 3 + 1)) = some (.int .i64 x.a) ∧ W.cell? (ad.add (i * 3 + 2)) = some (.int .i64 x.b)) ∧ InsOk x := fun i hi => by
    obtain ⟨ad, e, _, cs, n, y, hcl, hc, ht, hl⟩ := hR i hi
    obtain ⟨c0, c1, c2, rfl⟩ : ∃ c0 c1 c2, cs = [c0, c1, c2] := by
      rcases cs with _ | ⟨c0, _ | ⟨c1, _ | ⟨c2, _ | ⟨c3, r⟩⟩⟩⟩ <;> simp at hcl
      exact ⟨c0, c1, c2, rfl⟩
    obtain ⟨n0, y0, t0, _⟩ := trod_fieldL (j := 0) Try.underlying81 ht hl rfl
    obtain ⟨n1, y1, t1, _⟩ := trod_fieldL (j := 1) Try.underlying81 ht hl rfl
    obtain ⟨n2, y2, t2, _⟩ := trod_fieldL (j := 2) Try.underlying81 ht hl rfl
    rw [show Try.prog.cellsOf _ = 1 from by kernel_rfl] at t0 t1 t2
    replace t0 : DataW.trod enc Try.prog W base spare held n0 3 [c0] = some y0 := t0
    replace t1 : DataW.trod enc Try.prog W base spare held n1 3 [c1] = some y1 := t1
    replace t2 : DataW.trod enc Try.prog W base spare held n2 3 [c2] = some y2 := t2
    have i0 := is_int Try.underlying3 t0
    have i1 := is_int Try.underlying3 t1
    have i2 := is_int Try.underlying3 t2
    have q0 := hc 0 (by omega)
    have q1 := hc 1 (by omega)
    have q2 := hc 2 (by omega)
    simp only [List.getElem?_cons_zero, List.getElem?_cons_succ, Nat.add_zero] at q0 q1 q2
    exact ⟨⟨numIn c0, numIn c1, numIn c2⟩, ⟨ad, e, by rw [← i0.1]; exact q0, by rw [← i1.1]; exact q1, by rw [← i2.1]; exact q2⟩, wf_i64 i0.2, wf_i64 i1.2, wf_i64 i2.2⟩
  obtain ⟨l, hl, hp⟩ := list_of key
  refine ⟨hlen, h0, h1, l, hl, fun j u hu => ?_, fun x hx => ?_⟩
  · have hj : j < l.length * 3 := by rw [← insCells_length]; exact (List.getElem?_eq_some_iff.1 hu).1
    obtain ⟨i, r, hr, rfl⟩ : ∃ i r, r < 3 ∧ j = i * 3 + r := ⟨j / 3, j % 3, Nat.mod_lt _ (by omega), by omega⟩
    have hi : i < l.length := by omega
    obtain ⟨⟨ad, e, p0, p1, p2⟩, _⟩ := hp i hi
    obtain ⟨g0, g1, g2⟩ := insCells_get l i hi
    refine ⟨ad, e, ?_⟩
    rcases r with _ | _ | _ | r
    · rw [Nat.add_zero] at hu ⊢
      rw [p0, ← g0, hu]
    · rw [p1, ← g1, hu]
    · rw [p2, ← g2, hu]
    · omega
  · obtain ⟨i, hi, rfl⟩ := List.getElem_of_mem hx
    exact (hp i hi).2
/-- numbers of a day are in their range -/
def SegOk (x : SegV) : Prop := (-9223372036854775808 ≤ x.day ∧ x.day ≤ 9223372036854775807) ∧ ∀ y ∈ x.code, InsOk y
theorem open_daysL (h : DataW.Trod enc Try.prog W base spare held 24 (.slice a len cap) d ps) (hL : Light Try.prog 24 d) : len * 32 ≤ 140737488351232 ∧ len ≤ cap ∧ cap ≤ maxLen ∧ ∃ (l : List SegV) (vs : List Value), l.length = len ∧ l.length = vs.length ∧ RdG W a (dayCells l vs) ∧
    (∀ i (h : i < l.length) (h' : i < vs.length), SlG W vs[i] 3 l[i].code.length (insCells l[i].code)) ∧ ∀ x ∈ l, SegOk x ∧ x.code.length * 24 ≤ 140737488351232 := by
  have hlen := light_len (B := 32) Try.underlying24 (by kernel_rfl) h hL
  obtain ⟨h0, h1, hR⟩ := open_elemsL (C := 2) Try.underlying24 (by kernel_rfl) h hL
  have key : ∀ i, i < len → ∃ z : SegV × Value, (∃ ad, a = some ad ∧ W.cell? (ad.add (i * 2)) = some (.int .i64 z.1.day) ∧ W.cell? (ad.add (i * 2 + 1)) = some z.2) ∧ SlG W z.2 3 z.1.code.length (insCells z.1.code) ∧ SegOk z.1 ∧ z.1.code.length * 24 ≤ 140737488351232 := fun i hi => by
    obtain ⟨ad, e, _, cs, n, y, hcl, hc, ht, hl⟩ := hR i hi
    obtain ⟨c0, c1, rfl⟩ : ∃ c0 c1, cs = [c0, c1] := by
      rcases cs with _ | ⟨c0, _ | ⟨c1, _ | ⟨c2, r⟩⟩⟩ <;> simp at hcl
      exact ⟨c0, c1, rfl⟩
    obtain ⟨n0, y0, t0, _⟩ := trod_fieldL (j := 0) Try.underlying79 ht hl rfl
    obtain ⟨n1, y1, t1, l1⟩ := trod_fieldL (j := 1) Try.underlying79 ht hl rfl
    rw [show Try.prog.cellsOf _ = 1 from by kernel_rfl] at t0 t1
    replace t0 : DataW.trod enc Try.prog W base spare held n0 3 [c0] = some y0 := t0
    replace t1 : DataW.trod enc Try.prog W base spare held n1 77 [c1] = some y1 := t1
    have i0 := is_int Try.underlying3 t0
    obtain ⟨b, bl, bc, hv, hle, hmx, ht1⟩ := is_sliceL Try.underlying77 t1
    obtain ⟨z1, z2, z3, l, hl2, hr, hk⟩ := open_insL ht1 l1
    have q0 := hc 0 (by omega)
    have q1 := hc 1 (by omega)
    simp only [List.getElem?_cons_zero, List.getElem?_cons_succ, Nat.add_zero] at q0 q1
    exact ⟨(⟨numIn c0, l⟩, c1), ⟨ad, e, by rw [← i0.1]; exact q0, q1⟩, ⟨⟨b, bc, by rw [hv, hl2], by show l.length ≤ bc; omega, hmx, hr⟩, insCells_length l⟩, ⟨wf_i64 i0.2, hk⟩, by show l.length * 24 ≤ _; omega⟩
  have : Inhabited (SegV × Value) := ⟨(default, .bool false)⟩
  obtain ⟨l, hl, hp⟩ := list_of key
  refine ⟨hlen, h0, h1, l.map Prod.fst, l.map Prod.snd, by simpa using hl, by simp, fun j u hu => ?_, fun i hi hi' => ?_, fun x hx => ?_⟩
  · have hll : (l.map Prod.fst).length = (l.map Prod.snd).length := by simp
    have hj : j < (l.map Prod.fst).length * 2 := by rw [← dayCells_length _ _ hll]; exact (List.getElem?_eq_some_iff.1 hu).1
    obtain ⟨i, r, hr, rfl⟩ : ∃ i r, r < 2 ∧ j = i * 2 + r := ⟨j / 2, j % 2, Nat.mod_lt _ (by omega), by omega⟩
    have hi : i < l.length := by simp at hj; omega
    obtain ⟨⟨ad, e, p0, p1⟩, _⟩ := hp i hi
    obtain ⟨g0, g1⟩ := dayCells_get (l.map Prod.fst) (l.map Prod.snd) i (by simpa using hi) (by simpa using hi)
    refine ⟨ad, e, ?_⟩
    rcases r with _ | _ | r
    · rw [Nat.add_zero] at hu ⊢
      rw [p0, ← hu, g0]
      simp
    · rw [p1, ← hu, g1]
      simp
    · omega
  · have hi2 : i < l.length := by simpa using hi
    have := (hp i hi2).2.1
    simpa using this
  · obtain ⟨z, hz, rfl⟩ := List.mem_map.1 hx
    obtain ⟨i, hi, rfl⟩ := List.getElem_of_mem hz
    exact (hp i hi).2.2
/-- numbers of a program are in their range; its texts' lengths -/
structure ProgOk (p : ProgV) : Prop where
  small : SmallP p
  names : ∀ x ∈ p.names, x.size ≤ 140737488351232
  curs : ∀ x ∈ p.curs, x.size ≤ 140737488351232
  pool : ∀ x ∈ p.pool, -9223372036854775808 ≤ x ∧ x ≤ 9223372036854775807
  horizon : -9223372036854775808 ≤ p.horizon ∧ p.horizon ≤ 9223372036854775807
  cells : -9223372036854775808 ≤ p.cells ∧ p.cells ≤ 9223372036854775807
  slots : -9223372036854775808 ≤ p.slots ∧ p.slots ≤ 9223372036854775807
  stack : -9223372036854775808 ≤ p.stack ∧ p.stack ≤ 9223372036854775807
  days : ∀ x ∈ p.days, SegOk x
set_option maxRecDepth 20000 in
theorem open_progL {r : Reach} {b0 : Nat} {v : Value} (hv : Value.okWide Try.prog W r b0 26 v) (h : DataW.Trod enc Try.prog W base spare held 26 v d ps) (hL : Light Try.prog 26 d) : ∃ (s : ProgS) (p : ProgV), v = progVal s p ∧ RdProg W s p ∧ ProgOk p := by
  obtain ⟨cs, rfl, hsz⟩ := okWide_struct Try.underlying26 hv
  obtain ⟨fuel, hf⟩ := h
  rw [show Try.prog.cellsOf 26 = 8 from by kernel_rfl] at hsz
  obtain ⟨l⟩ := cs
  obtain ⟨c0, c1, c2, c3, c4, c5, c6, c7, rfl⟩ : ∃ c0 c1 c2 c3 c4 c5 c6 c7, l = [c0, c1, c2, c3, c4, c5, c6, c7] := by
    rcases l with _ | ⟨c0, _ | ⟨c1, _ | ⟨c2, _ | ⟨c3, _ | ⟨c4, _ | ⟨c5, _ | ⟨c6, _ | ⟨c7, _ | ⟨c8, r⟩⟩⟩⟩⟩⟩⟩⟩⟩ <;> simp at hsz
    exact ⟨c0, c1, c2, c3, c4, c5, c6, c7, rfl⟩
  replace hf : DataW.trod enc Try.prog W base spare held fuel 26 [c0, c1, c2, c3, c4, c5, c6, c7] = some (d, ps) := by simpa [Value.cells] using hf
  obtain ⟨n0, y0, t0, l0⟩ := trod_fieldL (j := 0) Try.underlying26 hf hL rfl
  obtain ⟨n1, y1, t1, l1⟩ := trod_fieldL (j := 1) Try.underlying26 hf hL rfl
  obtain ⟨n2, y2, t2, l2⟩ := trod_fieldL (j := 2) Try.underlying26 hf hL rfl
  obtain ⟨n3, y3, t3, _⟩ := trod_fieldL (j := 3) Try.underlying26 hf hL rfl
  obtain ⟨n4, y4, t4, _⟩ := trod_fieldL (j := 4) Try.underlying26 hf hL rfl
  obtain ⟨n5, y5, t5, _⟩ := trod_fieldL (j := 5) Try.underlying26 hf hL rfl
  obtain ⟨n6, y6, t6, _⟩ := trod_fieldL (j := 6) Try.underlying26 hf hL rfl
  obtain ⟨n7, y7, t7, l7⟩ := trod_fieldL (j := 7) Try.underlying26 hf hL rfl
  rw [show Try.prog.cellsOf _ = 1 from by kernel_rfl] at t0 t1 t2 t3 t4 t5 t6 t7
  replace t0 : DataW.trod enc Try.prog W base spare held n0 22 [c0] = some y0 := t0
  replace t1 : DataW.trod enc Try.prog W base spare held n1 22 [c1] = some y1 := t1
  replace t2 : DataW.trod enc Try.prog W base spare held n2 23 [c2] = some y2 := t2
  replace t3 : DataW.trod enc Try.prog W base spare held n3 3 [c3] = some y3 := t3
  replace t4 : DataW.trod enc Try.prog W base spare held n4 3 [c4] = some y4 := t4
  replace t5 : DataW.trod enc Try.prog W base spare held n5 3 [c5] = some y5 := t5
  replace t6 : DataW.trod enc Try.prog W base spare held n6 3 [c6] = some y6 := t6
  replace t7 : DataW.trod enc Try.prog W base spare held n7 24 [c7] = some y7 := t7
  obtain ⟨a0, m0, k0, rfl, _, _, u0⟩ := is_sliceL Try.underlying22 t0
  obtain ⟨a1, m1, k1, rfl, _, _, u1⟩ := is_sliceL Try.underlying22 t1
  obtain ⟨a2, m2, k2, rfl, _, _, u2⟩ := is_sliceL Try.underlying23 t2
  obtain ⟨a7, m7, k7, rfl, _, _, u7⟩ := is_sliceL Try.underlying24 t7
  have i3 := is_int Try.underlying3 t3
  have i4 := is_int Try.underlying3 t4
  have i5 := is_int Try.underlying3 t5
  have i6 := is_int Try.underlying3 t6
  obtain ⟨p0, q0, r0, s0, e0, g0, f0⟩ := open_strsL u0 l0
  obtain ⟨p1, q1, r1, s1, e1, g1, f1⟩ := open_strsL u1 l1
  obtain ⟨p2, q2, r2, s2, e2, g2, f2⟩ := open_intsL u2 l2
  obtain ⟨p7, q7, r7, s7, vs, e7, ev, g7, h7, f7⟩ := open_daysL u7 l7
  refine ⟨⟨.slice a0 m0 k0, .slice a1 m1 k1, .slice a2 m2 k2, .slice a7 m7 k7, vs⟩, ⟨s0, s1, s2, numIn c3, numIn c4, numIn c5, numIn c6, s7⟩, ?_, ⟨?_, ?_, ?_, ?_, ev, h7⟩, ⟨⟨by show s0.length * 16 ≤ _; omega, by show s1.length * 16 ≤ _; omega, by show s2.length * 8 ≤ _; omega, by show s7.length * 32 ≤ _; omega, fun x hx => (f7 x hx).2⟩, f0, f1, f2, wf_i64 i3.2, wf_i64 i4.2, wf_i64 i5.2, wf_i64 i6.2, fun x hx => (f7 x hx).1⟩⟩
  · rw [progVal, ← i3.1, ← i4.1, ← i5.1, ← i6.1]
  · exact ⟨⟨a0, k0, by rw [e0], by rw [e0]; exact q0, r0, g0⟩, by rw [strs_length, Nat.mul_one]⟩
  · exact ⟨⟨a1, k1, by rw [e1], by rw [e1]; exact q1, r1, g1⟩, by rw [strs_length, Nat.mul_one]⟩
  · exact ⟨⟨a2, k2, by rw [e2], by rw [e2]; exact q2, r2, g2⟩, by rw [nums_length, Nat.mul_one]⟩
  · exact ⟨⟨a7, k7, by rw [e7], by rw [e7]; exact q7, r7, g7⟩, dayCells_length _ _ ev⟩
end
end Go.Proofs.Ytlnomadhgoblkaa.Kit
