/- Texts that the row leans on: OpenP, PcC, PcD, PcE, PcF. -/
import Derived.Test.YtkadamoofiddeaaDoorProg
import Derived.Test.YtkadamoofiddeaaDoorQVerifyWaysab
import Derived.Test.YtkadamoofiddeaaDoorQVerifyWaysaa
import Derived.Lib.SmallJoins
-- Opening arguments: programs.
set_option linter.unusedVariables false
set_option linter.unusedSimpArgs false
namespace Go.Proofs.YtkadamoofiddeaaDoor.Kit
open Go.ChangeShapes Go.WideShapes Go.RowKit Go.Deep Go.Joins
theorem list_of {α : Type} [Inhabited α] {n : Nat} {P : Nat → α → Prop} (h : ∀ i, i < n → ∃ x, P i x) : ∃ l : List α, l.length = n ∧ ∀ i (h : i < l.length), P i l[i] := by
  refine ⟨(List.range n).map fun i => if hi : i < n then Classical.choose (h i hi) else default, by simp, fun i hi => ?_⟩
  have hi' : i < n := by simpa using hi
  simp only [List.getElem_map, List.getElem_range, dif_pos hi']
  exact Classical.choose_spec (h i hi')
section
variable {H : Type} {enc : TypeId × Value → H} {W : World} {base : Nat} {spare : Nat → Bool} {held : Bool} {a : Option Addr} {len cap : Nat} {d : DataW H} {ps : List MemPlace}
theorem one_cell {cs : List Value} (h : cs.length = 1) : ∃ c, cs = [c] := by
  rcases cs with _ | ⟨c, _ | ⟨c1, r⟩⟩ <;> simp at h
  exact ⟨c, rfl⟩
theorem open_strsL (h : DataW.Trod enc Tryd.prog W base spare held 22 (.slice a len cap) d ps) (hL : Light Tryd.prog 22 d) : len * 16 ≤ 140737488351232 ∧ len ≤ cap ∧ cap ≤ maxLen ∧ ∃ l : List ByteArray, l.length = len ∧ RdG W a (strs l) ∧ ∀ x ∈ l, x.size ≤ 140737488351232 := by
  have hlen := light_len (B := 16) Tryd.underlying22 (by kernel_rfl) h hL
  obtain ⟨h0, h1, hR⟩ := open_elemsL (C := 1) Tryd.underlying22 (by kernel_rfl) h hL
  have key : ∀ i, i < len → ∃ x : ByteArray, (∃ ad, a = some ad ∧ W.cell? (ad.add i) = some (.string x)) ∧ x.size ≤ 140737488351232 := fun i hi => by
    obtain ⟨ad, e, _, cs, n, y, hcl, hc, ht, hl⟩ := hR i hi
    obtain ⟨c, rfl⟩ := one_cell hcl
    have i0 := is_str Tryd.underlying9 ht
    have q := hc 0 (by omega)
    rw [Nat.mul_one, Nat.add_zero] at q
    rw [i0.1] at q
    rw [i0.2] at hl
    have hz := light_str hl
    exact ⟨strIn c, ⟨ad, e, by simpa using q⟩, by rw [← data_length]; exact hz⟩
  have : Inhabited ByteArray := ⟨ByteArray.empty⟩
  obtain ⟨l, hl, hp⟩ := list_of key
  refine ⟨hlen, h0, h1, l, hl, fun j u hu => ?_, fun x hx => ?_⟩
  · have hj : j < l.length := by rw [← strs_length]; exact (List.getElem?_eq_some_iff.1 hu).1
    obtain ⟨⟨ad, e, hc⟩, _⟩ := hp j hj
    rw [strs_get l j hj] at hu
    injection hu with hu
    exact ⟨ad, e, by rw [hc, hu]⟩
  · obtain ⟨i, hi, rfl⟩ := List.getElem_of_mem hx
    exact (hp i hi).2
theorem open_intsL (h : DataW.Trod enc Tryd.prog W base spare held 23 (.slice a len cap) d ps) (hL : Light Tryd.prog 23 d) : len * 8 ≤ 140737488351232 ∧ len ≤ cap ∧ cap ≤ maxLen ∧ ∃ l : List Int, l.length = len ∧ RdG W a (nums .i64 l) ∧ ∀ x ∈ l, -9223372036854775808 ≤ x ∧ x ≤ 9223372036854775807 := by
  have hlen := light_len (B := 8) Tryd.underlying23 (by kernel_rfl) h hL
  obtain ⟨h0, h1, hR⟩ := open_elemsL (C := 1) Tryd.underlying23 (by kernel_rfl) h hL
  have key : ∀ i, i < len → ∃ x : Int, (∃ ad, a = some ad ∧ W.cell? (ad.add i) = some (.int .i64 x)) ∧ -9223372036854775808 ≤ x ∧ x ≤ 9223372036854775807 := fun i hi => by
    obtain ⟨ad, e, _, cs, n, y, hcl, hc, ht, hl⟩ := hR i hi
    obtain ⟨c, rfl⟩ := one_cell hcl
    have i0 := is_int Tryd.underlying3 ht
    have q := hc 0 (by omega)
    rw [Nat.mul_one, Nat.add_zero] at q
    rw [i0.1] at q
    exact ⟨numIn c, ⟨ad, e, by simpa using q⟩, wf_i64 i0.2⟩
  obtain ⟨l, hl, hp⟩ := list_of key
  refine ⟨hlen, h0, h1, l, hl, fun j u hu => ?_, fun x hx => ?_⟩
  · have hj : j < l.length := by rw [← nums_length .i64]; exact (List.getElem?_eq_some_iff.1 hu).1
    obtain ⟨⟨ad, e, hc⟩, _⟩ := hp j hj
    rw [nums_get .i64 l j hj] at hu
    injection hu with hu
    exact ⟨ad, e, by rw [hc, hu]⟩
  · obtain ⟨i, hi, rfl⟩ := List.getElem_of_mem hx
    exact (hp i hi).2
/-- numbers of an instruction are in their range -/
def InsOk (x : InsV) : Prop := (-9223372036854775808 ≤ x.op ∧ x.op ≤ 9223372036854775807) ∧ (-9223372036854775808 ≤ x.a ∧ x.a ≤ 9223372036854775807) ∧ -9223372036854775808 ≤ x.b ∧ x.b ≤ 9223372036854775807
instance : Inhabited InsV := ⟨⟨0, 0, 0⟩⟩
instance : Inhabited SegV := ⟨⟨0, []⟩⟩
theorem open_insL (h : DataW.Trod enc Tryd.prog W base spare held 40 (.slice a len cap) d ps) (hL : Light Tryd.prog 40 d) : len * 24 ≤ 140737488351232 ∧ len ≤ cap ∧ cap ≤ maxLen ∧ ∃ l : List InsV, l.length = len ∧ RdG W a (insCells l) ∧ ∀ x ∈ l, InsOk x := by
  have hlen := light_len (B := 24) Tryd.underlying40 (by kernel_rfl) h hL
  obtain ⟨h0, h1, hR⟩ := open_elemsL (C := 3) Tryd.underlying40 (by kernel_rfl) h hL
  have key : ∀ i, i < len → ∃ x : InsV, (∃ ad, a = some ad ∧ W.cell? (ad.add (i * 3)) = some (.int .i64 x.op) ∧ W.cell? (ad.add (i * 3 + 1)) = some (.int .i64 x.a) ∧ W.cell? (ad.add (i * 3 + 2)) = some (.int .i64 x.b)) ∧ InsOk x := fun i hi => by
    obtain ⟨ad, e, _, cs, n, y, hcl, hc, ht, hl⟩ := hR i hi
    obtain ⟨c0, c1, c2, rfl⟩ : ∃ c0 c1 c2, cs = [c0, c1, c2] := by
      rcases cs with _ | ⟨c0, _ | ⟨c1, _ | ⟨c2, _ | ⟨c3, r⟩⟩⟩⟩ <;> simp at hcl
      exact ⟨c0, c1, c2, rfl⟩
    obtain ⟨n0, y0, t0, _⟩ := trod_fieldL (j := 0) Tryd.underlying47 ht hl rfl
    obtain ⟨n1, y1, t1, _⟩ := trod_fieldL (j := 1) Tryd.underlying47 ht hl rfl
    obtain ⟨n2, y2, t2, _⟩ := trod_fieldL (j := 2) Tryd.underlying47 ht hl rfl
    rw [show Tryd.prog.cellsOf _ = 1 from by kernel_rfl] at t0 t1 t2
    replace t0 : DataW.trod enc Tryd.prog W base spare held n0 3 [c0] = some y0 := t0
    replace t1 : DataW.trod enc Tryd.prog W base spare held n1 3 [c1] = some y1 := t1
    replace t2 : DataW.trod enc Tryd.prog W base spare held n2 3 [c2] = some y2 := t2
    have i0 := is_int Tryd.underlying3 t0
    have i1 := is_int Tryd.underlying3 t1
    have i2 := is_int Tryd.underlying3 t2
    have q0 := hc 0 (by omega)
    have q1 := hc 1 (by omega)
    have q2 := hc 2 (by omega)
    simp only [List.getElem?_cons_zero, List.getElem?_cons_succ, Nat.add_zero] at q0 q1 q2
    exact ⟨⟨numIn c0, numIn c1, numIn c2⟩, ⟨ad, e, by rw [← i0.1]; exact q0, by rw [← i1.1]; exact q1, by rw [← i2.1]; exact q2⟩, wf_i64 i0.2, wf_i64 i1.2, wf_i64 i2.2⟩
  obtain ⟨l, hl, hp⟩ := list_of key
  refine ⟨hlen, h0, h1, l, hl, fun j u hu => ?_, fun x hx => ?_⟩
  · have hj : j < l.length * 3 := by rw [← insCells_length]; exact (List.getElem?_eq_some_iff.1 hu).1
    obtain ⟨i, r, hr, rfl⟩ : ∃ i r, r < 3 ∧ j = i * 3 + r := ⟨j / 3, j % 3, Nat.mod_lt _ (by omega), by omega⟩
    have hi : i < l.length := by omega
    obtain ⟨⟨ad, e, p0, p1, p2⟩, _⟩ := hp i hi
    obtain ⟨g0, g1, g2⟩ := insCells_get l i hi
    refine ⟨ad, e, ?_⟩
    rcases r with _ | _ | _ | r
    · rw [Nat.add_zero] at hu ⊢
      rw [p0, ← g0, hu]
    · rw [p1, ← g1, hu]
    · rw [p2, ← g2, hu]
    · omega
  · obtain ⟨i, hi, rfl⟩ := List.getElem_of_mem hx
    exact (hp i hi).2
/-- numbers of a day are in their range -/
def SegOk (x : SegV) : Prop := (-9223372036854775808 ≤ x.day ∧ x.day ≤ 9223372036854775807) ∧ ∀ y ∈ x.code, InsOk y
theorem open_daysL (h : DataW.Trod enc Tryd.prog W base spare held 24 (.slice a len cap) d ps) (hL : Light Tryd.prog 24 d) : len * 32 ≤ 140737488351232 ∧ len ≤ cap ∧ cap ≤ maxLen ∧ ∃ (l : List SegV) (vs : List Value), l.length = len ∧ l.length = vs.length ∧ RdG W a (dayCells l vs) ∧
    (∀ i (h : i < l.length) (h' : i < vs.length), SlG W vs[i] 3 l[i].code.length (insCells l[i].code)) ∧ ∀ x ∈ l, SegOk x ∧ x.code.length * 24 ≤ 140737488351232 := by
  have hlen := light_len (B := 32) Tryd.underlying24 (by kernel_rfl) h hL
  obtain ⟨h0, h1, hR⟩ := open_elemsL (C := 2) Tryd.underlying24 (by kernel_rfl) h hL
  have key : ∀ i, i < len → ∃ z : SegV × Value, (∃ ad, a = some ad ∧ W.cell? (ad.add (i * 2)) = some (.int .i64 z.1.day) ∧ W.cell? (ad.add (i * 2 + 1)) = some z.2) ∧ SlG W z.2 3 z.1.code.length (insCells z.1.code) ∧ SegOk z.1 ∧ z.1.code.length * 24 ≤ 140737488351232 := fun i hi => by
    obtain ⟨ad, e, _, cs, n, y, hcl, hc, ht, hl⟩ := hR i hi
    obtain ⟨c0, c1, rfl⟩ : ∃ c0 c1, cs = [c0, c1] := by
      rcases cs with _ | ⟨c0, _ | ⟨c1, _ | ⟨c2, r⟩⟩⟩ <;> simp at hcl
      exact ⟨c0, c1, rfl⟩
    obtain ⟨n0, y0, t0, _⟩ := trod_fieldL (j := 0) Tryd.underlying42 ht hl rfl
    obtain ⟨n1, y1, t1, l1⟩ := trod_fieldL (j := 1) Tryd.underlying42 ht hl rfl
    rw [show Tryd.prog.cellsOf _ = 1 from by kernel_rfl] at t0 t1
    replace t0 : DataW.trod enc Tryd.prog W base spare held n0 3 [c0] = some y0 := t0
    replace t1 : DataW.trod enc Tryd.prog W base spare held n1 40 [c1] = some y1 := t1
    have i0 := is_int Tryd.underlying3 t0
    obtain ⟨b, bl, bc, hv, hle, hmx, ht1⟩ := is_sliceL Tryd.underlying40 t1
    obtain ⟨z1, z2, z3, l, hl2, hr, hk⟩ := open_insL ht1 l1
    have q0 := hc 0 (by omega)
    have q1 := hc 1 (by omega)
    simp only [List.getElem?_cons_zero, List.getElem?_cons_succ, Nat.add_zero] at q0 q1
    exact ⟨(⟨numIn c0, l⟩, c1), ⟨ad, e, by rw [← i0.1]; exact q0, q1⟩, ⟨⟨b, bc, by rw [hv, hl2], by show l.length ≤ bc; omega, hmx, hr⟩, insCells_length l⟩, ⟨wf_i64 i0.2, hk⟩, by show l.length * 24 ≤ _; omega⟩
  have : Inhabited (SegV × Value) := ⟨(default, .bool false)⟩
  obtain ⟨l, hl, hp⟩ := list_of key
  refine ⟨hlen, h0, h1, l.map Prod.fst, l.map Prod.snd, by simpa using hl, by simp, fun j u hu => ?_, fun i hi hi' => ?_, fun x hx => ?_⟩
  · have hll : (l.map Prod.fst).length = (l.map Prod.snd).length := by simp
    have hj : j < (l.map Prod.fst).length * 2 := by rw [← dayCells_length _ _ hll]; exact (List.getElem?_eq_some_iff.1 hu).1
    obtain ⟨i, r, hr, rfl⟩ : ∃ i r, r < 2 ∧ j = i * 2 + r := ⟨j / 2, j % 2, Nat.mod_lt _ (by omega), by omega⟩
    have hi : i < l.length := by simp at hj; omega
    obtain ⟨⟨ad, e, p0, p1⟩, _⟩ := hp i hi
    obtain ⟨g0, g1⟩ := dayCells_get (l.map Prod.fst) (l.map Prod.snd) i (by simpa using hi) (by simpa using hi)
    refine ⟨ad, e, ?_⟩
    rcases r with _ | _ | r
    · rw [Nat.add_zero] at hu ⊢
      rw [p0, ← hu, g0]
      simp
    · rw [p1, ← hu, g1]
      simp
    · omega
  · have hi2 : i < l.length := by simpa using hi
    have := (hp i hi2).2.1
    simpa using this
  · obtain ⟨z, hz, rfl⟩ := List.mem_map.1 hx
    obtain ⟨i, hi, rfl⟩ := List.getElem_of_mem hz
    exact (hp i hi).2.2
/-- numbers of a program are in their range; its texts' lengths -/
structure ProgOk (p : ProgV) : Prop where
  small : SmallP p
  names : ∀ x ∈ p.names, x.size ≤ 140737488351232
  curs : ∀ x ∈ p.curs, x.size ≤ 140737488351232
  pool : ∀ x ∈ p.pool, -9223372036854775808 ≤ x ∧ x ≤ 9223372036854775807
  horizon : -9223372036854775808 ≤ p.horizon ∧ p.horizon ≤ 9223372036854775807
  cells : -9223372036854775808 ≤ p.cells ∧ p.cells ≤ 9223372036854775807
  slots : -9223372036854775808 ≤ p.slots ∧ p.slots ≤ 9223372036854775807
  stack : -9223372036854775808 ≤ p.stack ∧ p.stack ≤ 9223372036854775807
  days : ∀ x ∈ p.days, SegOk x
set_option maxRecDepth 20000 in
theorem open_progL {r : Reach} {b0 : Nat} {v : Value} (hv : Value.okWide Tryd.prog W r b0 26 v) (h : DataW.Trod enc Tryd.prog W base spare held 26 v d ps) (hL : Light Tryd.prog 26 d) : ∃ (s : ProgS) (p : ProgV), v = progVal s p ∧ RdProg W s p ∧ ProgOk p := by
  obtain ⟨cs, rfl, hsz⟩ := okWide_struct Tryd.underlying26 hv
  obtain ⟨fuel, hf⟩ := h
  rw [show Tryd.prog.cellsOf 26 = 8 from by kernel_rfl] at hsz
  obtain ⟨l⟩ := cs
  obtain ⟨c0, c1, c2, c3, c4, c5, c6, c7, rfl⟩ : ∃ c0 c1 c2 c3 c4 c5 c6 c7, l = [c0, c1, c2, c3, c4, c5, c6, c7] := by
    rcases l with _ | ⟨c0, _ | ⟨c1, _ | ⟨c2, _ | ⟨c3, _ | ⟨c4, _ | ⟨c5, _ | ⟨c6, _ | ⟨c7, _ | ⟨c8, r⟩⟩⟩⟩⟩⟩⟩⟩⟩ <;> simp at hsz
    exact ⟨c0, c1, c2, c3, c4, c5, c6, c7, rfl⟩
  replace hf : DataW.trod enc Tryd.prog W base spare held fuel 26 [c0, c1, c2, c3, c4, c5, c6, c7] = some (d, ps) := by simpa [Value.cells] using hf
  obtain ⟨n0, y0, t0, l0⟩ := trod_fieldL (j := 0) Tryd.underlying26 hf hL rfl
  obtain ⟨n1, y1, t1, l1⟩ := trod_fieldL (j := 1) Tryd.underlying26 hf hL rfl
  obtain ⟨n2, y2, t2, l2⟩ := trod_fieldL (j := 2) Tryd.underlying26 hf hL rfl
  obtain ⟨n3, y3, t3, _⟩ := trod_fieldL (j := 3) Tryd.underlying26 hf hL rfl
  obtain ⟨n4, y4, t4, _⟩ := trod_fieldL (j := 4) Tryd.underlying26 hf hL rfl
  obtain ⟨n5, y5, t5, _⟩ := trod_fieldL (j := 5) Tryd.underlying26 hf hL rfl
  obtain ⟨n6, y6, t6, _⟩ := trod_fieldL (j := 6) Tryd.underlying26 hf hL rfl
  obtain ⟨n7, y7, t7, l7⟩ := trod_fieldL (j := 7) Tryd.underlying26 hf hL rfl
  rw [show Tryd.prog.cellsOf _ = 1 from by kernel_rfl] at t0 t1 t2 t3 t4 t5 t6 t7
  replace t0 : DataW.trod enc Tryd.prog W base spare held n0 22 [c0] = some y0 := t0
  replace t1 : DataW.trod enc Tryd.prog W base spare held n1 22 [c1] = some y1 := t1
  replace t2 : DataW.trod enc Tryd.prog W base spare held n2 23 [c2] = some y2 := t2
  replace t3 : DataW.trod enc Tryd.prog W base spare held n3 3 [c3] = some y3 := t3
  replace t4 : DataW.trod enc Tryd.prog W base spare held n4 3 [c4] = some y4 := t4
  replace t5 : DataW.trod enc Tryd.prog W base spare held n5 3 [c5] = some y5 := t5
  replace t6 : DataW.trod enc Tryd.prog W base spare held n6 3 [c6] = some y6 := t6
  replace t7 : DataW.trod enc Tryd.prog W base spare held n7 24 [c7] = some y7 := t7
  obtain ⟨a0, m0, k0, rfl, _, _, u0⟩ := is_sliceL Tryd.underlying22 t0
  obtain ⟨a1, m1, k1, rfl, _, _, u1⟩ := is_sliceL Tryd.underlying22 t1
  obtain ⟨a2, m2, k2, rfl, _, _, u2⟩ := is_sliceL Tryd.underlying23 t2
  obtain ⟨a7, m7, k7, rfl, _, _, u7⟩ := is_sliceL Tryd.underlying24 t7
  have i3 := is_int Tryd.underlying3 t3
  have i4 := is_int Tryd.underlying3 t4
  have i5 := is_int Tryd.underlying3 t5
  have i6 := is_int Tryd.underlying3 t6
  obtain ⟨p0, q0, r0, s0, e0, g0, f0⟩ := open_strsL u0 l0
  obtain ⟨p1, q1, r1, s1, e1, g1, f1⟩ := open_strsL u1 l1
  obtain ⟨p2, q2, r2, s2, e2, g2, f2⟩ := open_intsL u2 l2
  obtain ⟨p7, q7, r7, s7, vs, e7, ev, g7, h7, f7⟩ := open_daysL u7 l7
  refine ⟨⟨.slice a0 m0 k0, .slice a1 m1 k1, .slice a2 m2 k2, .slice a7 m7 k7, vs⟩, ⟨s0, s1, s2, numIn c3, numIn c4, numIn c5, numIn c6, s7⟩, ?_, ⟨?_, ?_, ?_, ?_, ev, h7⟩, ⟨⟨by show s0.length * 16 ≤ _; omega, by show s1.length * 16 ≤ _; omega, by show s2.length * 8 ≤ _; omega, by show s7.length * 32 ≤ _; omega, fun x hx => (f7 x hx).2⟩, f0, f1, f2, wf_i64 i3.2, wf_i64 i4.2, wf_i64 i5.2, wf_i64 i6.2, fun x hx => (f7 x hx).1⟩⟩
  · rw [progVal, ← i3.1, ← i4.1, ← i5.1, ← i6.1]
  · exact ⟨⟨a0, k0, by rw [e0], by rw [e0]; exact q0, r0, g0⟩, by rw [strs_length, Nat.mul_one]⟩
  · exact ⟨⟨a1, k1, by rw [e1], by rw [e1]; exact q1, r1, g1⟩, by rw [strs_length, Nat.mul_one]⟩
  · exact ⟨⟨a2, k2, by rw [e2], by rw [e2]; exact q2, r2, g2⟩, by rw [nums_length, Nat.mul_one]⟩
  · exact ⟨⟨a7, k7, by rw [e7], by rw [e7]; exact q7, r7, g7⟩, dayCells_length _ _ ev⟩
end
end Go.Proofs.YtkadamoofiddeaaDoor.Kit
-- Canonical programs: the lists and numbers by themselves.
set_option linter.unusedVariables false
set_option linter.unusedSimpArgs false
namespace Go.Proofs.YtkadamoofiddeaaDoor.Kit
open Go.RowKit
/-- names, currencies, constants and numbers are as they must be, by themselves -/
structure ListsP (p : ProgV) : Prop where
  ln : p.names.length ≤ 64
  lc : p.curs.length ≤ 4096
  lk : p.pool.length ≤ 16384
  rn : RisS p.names
  rc : RisS p.curs
  rk : RisI p.pool
  names : ∀ s ∈ p.names, CapP s
  curs : ∀ s ∈ p.curs, CurP s
  horizon : 0 ≤ p.horizon ∧ p.horizon ≤ 3660
  cells : 0 ≤ p.cells ∧ p.cells ≤ 32768
  slots : 0 ≤ p.slots ∧ p.slots ≤ 16384
  stack : 0 ≤ p.stack ∧ p.stack ≤ 16384
theorem some_b (P : Prop) : ∃ b : Bool, IsB b P := by
  by_cases h : P
  · exact ⟨true, by simp [IsB, h]⟩
  · exact ⟨false, by simp [IsB, h]⟩
set_option maxRecDepth 20000 in
set_option maxHeartbeats 3200000 in
theorem imageLists {s : ProgS} {p : ProgV} {w : World} {b : Bool} (hp : Hid (RdProg w s p)) (ok : Hid (ProgOk p)) (hb : Hid (IsB b (ListsP p))) :
    Calls Tryd.prog 26 #[progVal s p] w fun e w' => e = .returned (.bool b) ∧ Chg (fun _ => False) w w' := by
  obtain ⟨n1, n2, n3, n4, A1, A2, A3, A4, c1, c2, c3, c4, HP0⟩ := hp.out.apart
  have HP := Lib.hid HP0
  rw [HP.out.eq]
  have S1 : n1 ≤ 140737488355328 := by have := HP0.ln; have := ok.out.small.names; omega
  have S2 : n2 ≤ 140737488355328 := by have := HP0.lc; have := ok.out.small.curs; omega
  have S3 : n3 ≤ 140737488355328 := by have := HP0.lk; have := ok.out.small.pool; omega
  obtain ⟨b1, k1⟩ := some_b (RisS p.names)
  obtain ⟨b2, k2⟩ := some_b (RisS p.curs)
  obtain ⟨b3, k3⟩ := some_b (RisI p.pool)
  obtain ⟨b4, k4⟩ := some_b (∀ s ∈ p.names, CapP s)
  obtain ⟨b5, k5⟩ := some_b (∀ s ∈ p.curs, CurP s)
  obtain ⟨i1, hi1⟩ : ∃ x, x = p.horizon := ⟨_, rfl⟩
  obtain ⟨i2, hi2⟩ : ∃ x, x = p.cells := ⟨_, rfl⟩
  obtain ⟨i3, hi3⟩ : ∃ x, x = p.slots := ⟨_, rfl⟩
  obtain ⟨i4, hi4⟩ : ∃ x, x = p.stack := ⟨_, rfl⟩
  obtain ⟨b6, k6⟩ := some_b (0 ≤ i1 ∧ i1 ≤ 3660)
  obtain ⟨b7, k7⟩ := some_b (0 ≤ i2 ∧ i2 ≤ 32768)
  obtain ⟨b8, k8⟩ := some_b (0 ≤ i3 ∧ i3 ≤ 16384)
  obtain ⟨b9, k9⟩ := some_b (0 ≤ i4 ∧ i4 ≤ 16384)
  have HB : Hid ((decide (n1 ≤ 64) && decide (n2 ≤ 4096) && decide (n3 ≤ 16384) && b1 && b2 && b3 && b4 && b5 && b6 && b7 && b8 && b9) = b) := Lib.hid (by
    rw [Bool.eq_iff_iff, show (b = true) = ListsP p from propext hb.out]
    simp only [Bool.and_eq_true, decide_eq_true_eq]
    rw [show (b1 = true) = _ from propext k1, show (b2 = true) = _ from propext k2, show (b3 = true) = _ from propext k3, show (b4 = true) = _ from propext k4, show (b5 = true) = _ from propext k5, show (b6 = true) = _ from propext k6, show (b7 = true) = _ from propext k7, show (b8 = true) = _ from propext k8, show (b9 = true) = _ from propext k9]
    rw [hi1, hi2, hi3, hi4, HP0.ln, HP0.lc, HP0.lk]
    exact ⟨fun ⟨⟨⟨⟨⟨⟨⟨⟨⟨⟨⟨a, b⟩, c⟩, d⟩, e⟩, f⟩, g⟩, h⟩, i⟩, j⟩, k⟩, l⟩ => ⟨a, b, c, d, e, f, g, h, i, j, k, l⟩, fun ⟨a, b, c, d, e, f, g, h, i, j, k, l⟩ => ⟨⟨⟨⟨⟨⟨⟨⟨⟨⟨⟨a, b⟩, c⟩, d⟩, e⟩, f⟩, g⟩, h⟩, i⟩, j⟩, k⟩, l⟩⟩)
  rw [← hi1, ← hi2, ← hi3, ← hi4]
  have ZN : Hid (∀ s ∈ p.names, s.size ≤ 140737488351232) := ok.out.names
  have ZC : Hid (∀ s ∈ p.curs, s.size ≤ 140737488351232) := ok.out.curs
  have K1 := Lib.hid k1
  have K2 := Lib.hid k2
  have K3 := Lib.hid k3
  have K4 := Lib.hid k4
  have K5 := Lib.hid k5
  have K6 := Lib.hid k6
  have K7 := Lib.hid k7
  have K8 := Lib.hid k8
  have K9 := Lib.hid k9
  have LN := Lib.hid HP0.ln
  have LC := Lib.hid HP0.lc
  have LK := Lib.hid HP0.lk
  clear k1 k2 k3 k4 k5 k6 k7 k8 k9 hi1 hi2 hi3 hi4 HP0
  by_cases zn1 : n1 ≤ 64
  rotate_left
  · have dn1 : (64 : Int) < (n1 : Int) := by omega
    have ZZ : Hid (decide (n1 ≤ 64) = false) := decide_eq_false zn1
    clear zn1
    go_enter Tryd.func26, Tryd.ntmps26
    go_wp2_with fail
    go_ret
    exact ⟨ret_bool (by rw [← HB.out, ZZ.out]; simp), (show Chg (fun _ => False) w _ from by repeat (first | exact Chg.refl _ _ | refine Chg.drew ?_ | refine Chg.drewN ?_ _ | refine Chg.alloc ?_ _))⟩
  have dn1 : ¬ (64 : Int) < (n1 : Int) := by omega
  have Zn1 : Hid (decide (n1 ≤ 64) = true) := decide_eq_true zn1
  clear zn1
  by_cases zn2 : n2 ≤ 4096
  rotate_left
  · have dn2 : (4096 : Int) < (n2 : Int) := by omega
    have ZZ : Hid (decide (n2 ≤ 4096) = false) := decide_eq_false zn2
    clear zn2
    go_enter Tryd.func26, Tryd.ntmps26
    go_wp2_with fail
    go_ret
    exact ⟨ret_bool (by rw [← HB.out, ZZ.out]; simp), (show Chg (fun _ => False) w _ from by repeat (first | exact Chg.refl _ _ | refine Chg.drew ?_ | refine Chg.drewN ?_ _ | refine Chg.alloc ?_ _))⟩
  have dn2 : ¬ (4096 : Int) < (n2 : Int) := by omega
  have Zn2 : Hid (decide (n2 ≤ 4096) = true) := decide_eq_true zn2
  clear zn2
  by_cases zn3 : n3 ≤ 16384
  rotate_left
  · have dn3 : (16384 : Int) < (n3 : Int) := by omega
    have ZZ : Hid (decide (n3 ≤ 16384) = false) := decide_eq_false zn3
    clear zn3
    go_enter Tryd.func26, Tryd.ntmps26
    go_wp2_with fail
    go_ret
    exact ⟨ret_bool (by rw [← HB.out, ZZ.out]; simp), (show Chg (fun _ => False) w _ from by repeat (first | exact Chg.refl _ _ | refine Chg.drew ?_ | refine Chg.drewN ?_ _ | refine Chg.alloc ?_ _))⟩
  have dn3 : ¬ (16384 : Int) < (n3 : Int) := by omega
  have Zn3 : Hid (decide (n3 ≤ 16384) = true) := decide_eq_true zn3
  clear zn3
  cases b1
  · go_enter Tryd.func26, Tryd.ntmps26
    go_wp2_with fail
    refine (risStrs LN S1 (HP.out.rn.chg0 (by repeat (first | exact Chg.refl _ _ | refine Chg.drew ?_ | refine Chg.drewN ?_ _ | refine Chg.alloc ?_ _))) K1).mono ?_
    rintro e wb1 ⟨rfl, nqb1, rfl⟩
    go_wp2_with fail
    go_ret
    exact ⟨ret_bool (by rw [← HB.out]; simp), (show Chg (fun _ => False) w _ from by repeat (first | exact Chg.refl _ _ | refine Chg.drew ?_ | refine Chg.drewN ?_ _ | refine Chg.alloc ?_ _))⟩
  cases b2
  · go_enter Tryd.func26, Tryd.ntmps26
    go_wp2_with fail
    refine (risStrs LN S1 (HP.out.rn.chg0 (by repeat (first | exact Chg.refl _ _ | refine Chg.drew ?_ | refine Chg.drewN ?_ _ | refine Chg.alloc ?_ _))) K1).mono ?_
    rintro e wb1 ⟨rfl, nqb1, rfl⟩
    go_wp2_with fail
    refine (risStrs LC S2 (HP.out.rc.chg0 (by repeat (first | exact Chg.refl _ _ | refine Chg.drew ?_ | refine Chg.drewN ?_ _ | refine Chg.alloc ?_ _))) K2).mono ?_
    rintro e wb2 ⟨rfl, nqb2, rfl⟩
    go_wp2_with fail
    go_ret
    exact ⟨ret_bool (by rw [← HB.out]; simp), (show Chg (fun _ => False) w _ from by repeat (first | exact Chg.refl _ _ | refine Chg.drew ?_ | refine Chg.drewN ?_ _ | refine Chg.alloc ?_ _))⟩
  cases b3
  · go_enter Tryd.func26, Tryd.ntmps26
    go_wp2_with fail
    refine (risStrs LN S1 (HP.out.rn.chg0 (by repeat (first | exact Chg.refl _ _ | refine Chg.drew ?_ | refine Chg.drewN ?_ _ | refine Chg.alloc ?_ _))) K1).mono ?_
    rintro e wb1 ⟨rfl, nqb1, rfl⟩
    go_wp2_with fail
    refine (risStrs LC S2 (HP.out.rc.chg0 (by repeat (first | exact Chg.refl _ _ | refine Chg.drew ?_ | refine Chg.drewN ?_ _ | refine Chg.alloc ?_ _))) K2).mono ?_
    rintro e wb2 ⟨rfl, nqb2, rfl⟩
    go_wp2_with fail
    refine (risInts LK S3 (HP.out.rk.chg0 (by repeat (first | exact Chg.refl _ _ | refine Chg.drew ?_ | refine Chg.drewN ?_ _ | refine Chg.alloc ?_ _))) K3).mono ?_
    rintro e wb3 ⟨rfl, nqb3, rfl⟩
    go_wp2_with fail
    go_ret
    exact ⟨ret_bool (by rw [← HB.out]; simp), (show Chg (fun _ => False) w _ from by repeat (first | exact Chg.refl _ _ | refine Chg.drew ?_ | refine Chg.drewN ?_ _ | refine Chg.alloc ?_ _))⟩
  cases b4
  · go_enter Tryd.func26, Tryd.ntmps26
    go_wp2_with fail
    refine (risStrs LN S1 (HP.out.rn.chg0 (by repeat (first | exact Chg.refl _ _ | refine Chg.drew ?_ | refine Chg.drewN ?_ _ | refine Chg.alloc ?_ _))) K1).mono ?_
    rintro e wb1 ⟨rfl, nqb1, rfl⟩
    go_wp2_with fail
    refine (risStrs LC S2 (HP.out.rc.chg0 (by repeat (first | exact Chg.refl _ _ | refine Chg.drew ?_ | refine Chg.drewN ?_ _ | refine Chg.alloc ?_ _))) K2).mono ?_
    rintro e wb2 ⟨rfl, nqb2, rfl⟩
    go_wp2_with fail
    refine (risInts LK S3 (HP.out.rk.chg0 (by repeat (first | exact Chg.refl _ _ | refine Chg.drew ?_ | refine Chg.drewN ?_ _ | refine Chg.alloc ?_ _))) K3).mono ?_
    rintro e wb3 ⟨rfl, nqb3, rfl⟩
    go_wp2_with fail
    refine (allCap LN S1 ZN (HP.out.rn.chg0 (by repeat (first | exact Chg.refl _ _ | refine Chg.drew ?_ | refine Chg.drewN ?_ _ | refine Chg.alloc ?_ _))) K4).mono ?_
    rintro e wb4 ⟨rfl, rfl⟩
    go_wp2_with fail
    go_ret
    exact ⟨ret_bool (by rw [← HB.out]; simp), (show Chg (fun _ => False) w _ from by repeat (first | exact Chg.refl _ _ | refine Chg.drew ?_ | refine Chg.drewN ?_ _ | refine Chg.alloc ?_ _))⟩
  cases b5
  · go_enter Tryd.func26, Tryd.ntmps26
    go_wp2_with fail
    refine (risStrs LN S1 (HP.out.rn.chg0 (by repeat (first | exact Chg.refl _ _ | refine Chg.drew ?_ | refine Chg.drewN ?_ _ | refine Chg.alloc ?_ _))) K1).mono ?_
    rintro e wb1 ⟨rfl, nqb1, rfl⟩
    go_wp2_with fail
    refine (risStrs LC S2 (HP.out.rc.chg0 (by repeat (first | exact Chg.refl _ _ | refine Chg.drew ?_ | refine Chg.drewN ?_ _ | refine Chg.alloc ?_ _))) K2).mono ?_
    rintro e wb2 ⟨rfl, nqb2, rfl⟩
    go_wp2_with fail
    refine (risInts LK S3 (HP.out.rk.chg0 (by repeat (first | exact Chg.refl _ _ | refine Chg.drew ?_ | refine Chg.drewN ?_ _ | refine Chg.alloc ?_ _))) K3).mono ?_
    rintro e wb3 ⟨rfl, nqb3, rfl⟩
    go_wp2_with fail
    refine (allCap LN S1 ZN (HP.out.rn.chg0 (by repeat (first | exact Chg.refl _ _ | refine Chg.drew ?_ | refine Chg.drewN ?_ _ | refine Chg.alloc ?_ _))) K4).mono ?_
    rintro e wb4 ⟨rfl, rfl⟩
    go_wp2_with fail
    refine (allCur LC S2 ZC (HP.out.rc.chg0 (by repeat (first | exact Chg.refl _ _ | refine Chg.drew ?_ | refine Chg.drewN ?_ _ | refine Chg.alloc ?_ _))) K5).mono ?_
    rintro e wb5 ⟨rfl, rfl⟩
    go_wp2_with fail
    go_ret
    exact ⟨ret_bool (by rw [← HB.out]; simp), (show Chg (fun _ => False) w _ from by repeat (first | exact Chg.refl _ _ | refine Chg.drew ?_ | refine Chg.drewN ?_ _ | refine Chg.alloc ?_ _))⟩
  cases b6
  · go_enter Tryd.func26, Tryd.ntmps26
    go_wp2_with fail
    refine (risStrs LN S1 (HP.out.rn.chg0 (by repeat (first | exact Chg.refl _ _ | refine Chg.drew ?_ | refine Chg.drewN ?_ _ | refine Chg.alloc ?_ _))) K1).mono ?_
    rintro e wb1 ⟨rfl, nqb1, rfl⟩
    go_wp2_with fail
    refine (risStrs LC S2 (HP.out.rc.chg0 (by repeat (first | exact Chg.refl _ _ | refine Chg.drew ?_ | refine Chg.drewN ?_ _ | refine Chg.alloc ?_ _))) K2).mono ?_
    rintro e wb2 ⟨rfl, nqb2, rfl⟩
    go_wp2_with fail
    refine (risInts LK S3 (HP.out.rk.chg0 (by repeat (first | exact Chg.refl _ _ | refine Chg.drew ?_ | refine Chg.drewN ?_ _ | refine Chg.alloc ?_ _))) K3).mono ?_
    rintro e wb3 ⟨rfl, nqb3, rfl⟩
    go_wp2_with fail
    refine (allCap LN S1 ZN (HP.out.rn.chg0 (by repeat (first | exact Chg.refl _ _ | refine Chg.drew ?_ | refine Chg.drewN ?_ _ | refine Chg.alloc ?_ _))) K4).mono ?_
    rintro e wb4 ⟨rfl, rfl⟩
    go_wp2_with fail
    refine (allCur LC S2 ZC (HP.out.rc.chg0 (by repeat (first | exact Chg.refl _ _ | refine Chg.drew ?_ | refine Chg.drewN ?_ _ | refine Chg.alloc ?_ _))) K5).mono ?_
    rintro e wb5 ⟨rfl, rfl⟩
    go_wp2_with fail
    refine (within1 K6).mono ?_
    rintro e wb6 ⟨rfl, rfl⟩
    go_wp2_with fail
    go_ret
    exact ⟨ret_bool (by rw [← HB.out]; simp), (show Chg (fun _ => False) w _ from by repeat (first | exact Chg.refl _ _ | refine Chg.drew ?_ | refine Chg.drewN ?_ _ | refine Chg.alloc ?_ _))⟩
  cases b7
  · go_enter Tryd.func26, Tryd.ntmps26
    go_wp2_with fail
    refine (risStrs LN S1 (HP.out.rn.chg0 (by repeat (first | exact Chg.refl _ _ | refine Chg.drew ?_ | refine Chg.drewN ?_ _ | refine Chg.alloc ?_ _))) K1).mono ?_
    rintro e wb1 ⟨rfl, nqb1, rfl⟩
    go_wp2_with fail
    refine (risStrs LC S2 (HP.out.rc.chg0 (by repeat (first | exact Chg.refl _ _ | refine Chg.drew ?_ | refine Chg.drewN ?_ _ | refine Chg.alloc ?_ _))) K2).mono ?_
    rintro e wb2 ⟨rfl, nqb2, rfl⟩
    go_wp2_with fail
    refine (risInts LK S3 (HP.out.rk.chg0 (by repeat (first | exact Chg.refl _ _ | refine Chg.drew ?_ | refine Chg.drewN ?_ _ | refine Chg.alloc ?_ _))) K3).mono ?_
    rintro e wb3 ⟨rfl, nqb3, rfl⟩
    go_wp2_with fail
    refine (allCap LN S1 ZN (HP.out.rn.chg0 (by repeat (first | exact Chg.refl _ _ | refine Chg.drew ?_ | refine Chg.drewN ?_ _ | refine Chg.alloc ?_ _))) K4).mono ?_
    rintro e wb4 ⟨rfl, rfl⟩
    go_wp2_with fail
    refine (allCur LC S2 ZC (HP.out.rc.chg0 (by repeat (first | exact Chg.refl _ _ | refine Chg.drew ?_ | refine Chg.drewN ?_ _ | refine Chg.alloc ?_ _))) K5).mono ?_
    rintro e wb5 ⟨rfl, rfl⟩
    go_wp2_with fail
    refine (within1 K6).mono ?_
    rintro e wb6 ⟨rfl, rfl⟩
    go_wp2_with fail
    refine (within1 K7).mono ?_
    rintro e wb7 ⟨rfl, rfl⟩
    go_wp2_with fail
    go_ret
    exact ⟨ret_bool (by rw [← HB.out]; simp), (show Chg (fun _ => False) w _ from by repeat (first | exact Chg.refl _ _ | refine Chg.drew ?_ | refine Chg.drewN ?_ _ | refine Chg.alloc ?_ _))⟩
  cases b8
  · go_enter Tryd.func26, Tryd.ntmps26
    go_wp2_with fail
    refine (risStrs LN S1 (HP.out.rn.chg0 (by repeat (first | exact Chg.refl _ _ | refine Chg.drew ?_ | refine Chg.drewN ?_ _ | refine Chg.alloc ?_ _))) K1).mono ?_
    rintro e wb1 ⟨rfl, nqb1, rfl⟩
    go_wp2_with fail
    refine (risStrs LC S2 (HP.out.rc.chg0 (by repeat (first | exact Chg.refl _ _ | refine Chg.drew ?_ | refine Chg.drewN ?_ _ | refine Chg.alloc ?_ _))) K2).mono ?_
    rintro e wb2 ⟨rfl, nqb2, rfl⟩
    go_wp2_with fail
    refine (risInts LK S3 (HP.out.rk.chg0 (by repeat (first | exact Chg.refl _ _ | refine Chg.drew ?_ | refine Chg.drewN ?_ _ | refine Chg.alloc ?_ _))) K3).mono ?_
    rintro e wb3 ⟨rfl, nqb3, rfl⟩
    go_wp2_with fail
    refine (allCap LN S1 ZN (HP.out.rn.chg0 (by repeat (first | exact Chg.refl _ _ | refine Chg.drew ?_ | refine Chg.drewN ?_ _ | refine Chg.alloc ?_ _))) K4).mono ?_
    rintro e wb4 ⟨rfl, rfl⟩
    go_wp2_with fail
    refine (allCur LC S2 ZC (HP.out.rc.chg0 (by repeat (first | exact Chg.refl _ _ | refine Chg.drew ?_ | refine Chg.drewN ?_ _ | refine Chg.alloc ?_ _))) K5).mono ?_
    rintro e wb5 ⟨rfl, rfl⟩
    go_wp2_with fail
    refine (within1 K6).mono ?_
    rintro e wb6 ⟨rfl, rfl⟩
    go_wp2_with fail
    refine (within1 K7).mono ?_
    rintro e wb7 ⟨rfl, rfl⟩
    go_wp2_with fail
    refine (within1 K8).mono ?_
    rintro e wb8 ⟨rfl, rfl⟩
    go_wp2_with fail
    go_ret
    exact ⟨ret_bool (by rw [← HB.out]; simp), (show Chg (fun _ => False) w _ from by repeat (first | exact Chg.refl _ _ | refine Chg.drew ?_ | refine Chg.drewN ?_ _ | refine Chg.alloc ?_ _))⟩
  cases b9
  · go_enter Tryd.func26, Tryd.ntmps26
    go_wp2_with fail
    refine (risStrs LN S1 (HP.out.rn.chg0 (by repeat (first | exact Chg.refl _ _ | refine Chg.drew ?_ | refine Chg.drewN ?_ _ | refine Chg.alloc ?_ _))) K1).mono ?_
    rintro e wb1 ⟨rfl, nqb1, rfl⟩
    go_wp2_with fail
    refine (risStrs LC S2 (HP.out.rc.chg0 (by repeat (first | exact Chg.refl _ _ | refine Chg.drew ?_ | refine Chg.drewN ?_ _ | refine Chg.alloc ?_ _))) K2).mono ?_
    rintro e wb2 ⟨rfl, nqb2, rfl⟩
    go_wp2_with fail
    refine (risInts LK S3 (HP.out.rk.chg0 (by repeat (first | exact Chg.refl _ _ | refine Chg.drew ?_ | refine Chg.drewN ?_ _ | refine Chg.alloc ?_ _))) K3).mono ?_
    rintro e wb3 ⟨rfl, nqb3, rfl⟩
    go_wp2_with fail
    refine (allCap LN S1 ZN (HP.out.rn.chg0 (by repeat (first | exact Chg.refl _ _ | refine Chg.drew ?_ | refine Chg.drewN ?_ _ | refine Chg.alloc ?_ _))) K4).mono ?_
    rintro e wb4 ⟨rfl, rfl⟩
    go_wp2_with fail
    refine (allCur LC S2 ZC (HP.out.rc.chg0 (by repeat (first | exact Chg.refl _ _ | refine Chg.drew ?_ | refine Chg.drewN ?_ _ | refine Chg.alloc ?_ _))) K5).mono ?_
    rintro e wb5 ⟨rfl, rfl⟩
    go_wp2_with fail
    refine (within1 K6).mono ?_
    rintro e wb6 ⟨rfl, rfl⟩
    go_wp2_with fail
    refine (within1 K7).mono ?_
    rintro e wb7 ⟨rfl, rfl⟩
    go_wp2_with fail
    refine (within1 K8).mono ?_
    rintro e wb8 ⟨rfl, rfl⟩
    go_wp2_with fail
    refine (within1 K9).mono ?_
    rintro e wb9 ⟨rfl, rfl⟩
    go_wp2_with fail
    go_ret
    exact ⟨ret_bool (by rw [← HB.out]; simp), (show Chg (fun _ => False) w _ from by repeat (first | exact Chg.refl _ _ | refine Chg.drew ?_ | refine Chg.drewN ?_ _ | refine Chg.alloc ?_ _))⟩
  go_enter Tryd.func26, Tryd.ntmps26
  go_wp2_with fail
  refine (risStrs LN S1 (HP.out.rn.chg0 (by repeat (first | exact Chg.refl _ _ | refine Chg.drew ?_ | refine Chg.drewN ?_ _ | refine Chg.alloc ?_ _))) K1).mono ?_
  rintro e wb1 ⟨rfl, nqb1, rfl⟩
  go_wp2_with fail
  refine (risStrs LC S2 (HP.out.rc.chg0 (by repeat (first | exact Chg.refl _ _ | refine Chg.drew ?_ | refine Chg.drewN ?_ _ | refine Chg.alloc ?_ _))) K2).mono ?_
  rintro e wb2 ⟨rfl, nqb2, rfl⟩
  go_wp2_with fail
  refine (risInts LK S3 (HP.out.rk.chg0 (by repeat (first | exact Chg.refl _ _ | refine Chg.drew ?_ | refine Chg.drewN ?_ _ | refine Chg.alloc ?_ _))) K3).mono ?_
  rintro e wb3 ⟨rfl, nqb3, rfl⟩
  go_wp2_with fail
  refine (allCap LN S1 ZN (HP.out.rn.chg0 (by repeat (first | exact Chg.refl _ _ | refine Chg.drew ?_ | refine Chg.drewN ?_ _ | refine Chg.alloc ?_ _))) K4).mono ?_
  rintro e wb4 ⟨rfl, rfl⟩
  go_wp2_with fail
  refine (allCur LC S2 ZC (HP.out.rc.chg0 (by repeat (first | exact Chg.refl _ _ | refine Chg.drew ?_ | refine Chg.drewN ?_ _ | refine Chg.alloc ?_ _))) K5).mono ?_
  rintro e wb5 ⟨rfl, rfl⟩
  go_wp2_with fail
  refine (within1 K6).mono ?_
  rintro e wb6 ⟨rfl, rfl⟩
  go_wp2_with fail
  refine (within1 K7).mono ?_
  rintro e wb7 ⟨rfl, rfl⟩
  go_wp2_with fail
  refine (within1 K8).mono ?_
  rintro e wb8 ⟨rfl, rfl⟩
  go_wp2_with fail
  refine (within1 K9).mono ?_
  rintro e wb9 ⟨rfl, rfl⟩
  go_wp2_with fail
  go_ret
  exact ⟨ret_bool (by rw [← HB.out, Zn1.out, Zn2.out, Zn3.out]; rfl), (show Chg (fun _ => False) w _ from by repeat (first | exact Chg.refl _ _ | refine Chg.drew ?_ | refine Chg.drewN ?_ _ | refine Chg.alloc ?_ _))⟩
end Go.Proofs.YtkadamoofiddeaaDoor.Kit
-- Canonical programs: the table of instructions; which are right (code.Valid).
set_option linter.unusedVariables false
set_option linter.unusedSimpArgs false
namespace Go.Proofs.YtkadamoofiddeaaDoor.Kit
open Go.RowKit
/-- a row of the table: operands, the greatest operands, what is taken, what is put -/
structure KRow where
  o : Int
  a : Int
  b : Int
  t : Int
  p : Int
def kindT : List KRow := [⟨0, 0, 0, 0, 0⟩, ⟨1, 16383, 0, 0, 1⟩, ⟨1, 1, 0, 0, 1⟩, ⟨2, 63, 3660, 0, 1⟩, ⟨1, 32767, 0, 0, 1⟩, ⟨1, 32767, 0, 1, 0⟩, ⟨1, 16383, 0, 1, 1⟩, ⟨1, 16383, 0, 0, 1⟩, ⟨0, 0, 0, 1, 0⟩, ⟨0, 0, 0, 2, 1⟩, ⟨0, 0, 0, 2, 1⟩, ⟨0, 0, 0, 2, 1⟩, ⟨0, 0, 0, 1, 1⟩, ⟨0, 0, 0, 2, 1⟩, ⟨0, 0, 0, 2, 1⟩, ⟨0, 0, 0, 1, 1⟩, ⟨0, 0, 0, 2, 1⟩, ⟨0, 0, 0, 2, 1⟩, ⟨1, 4, 0, 3, 1⟩,
  ⟨0, 0, 0, 2, 1⟩, ⟨0, 0, 0, 2, 1⟩, ⟨0, 0, 0, 2, 1⟩, ⟨0, 0, 0, 2, 1⟩, ⟨0, 0, 0, 2, 1⟩, ⟨0, 0, 0, 2, 1⟩, ⟨0, 0, 0, 1, 1⟩, ⟨1, 262143, 0, 0, 0⟩, ⟨1, 262143, 0, 1, 0⟩, ⟨1, 4095, 0, 1, 0⟩]
def kAt (i : Nat) : KRow := kindT.getD i ⟨0, 0, 0, 0, 0⟩
/-- the table, as it lies in memory -/
def KindsAt (w : World) : Prop := ∀ i, i < 29 → ∃ nm : ByteArray, w.cell? ⟨0, i * 6, none⟩ = some (.string nm) ∧ w.cell? ⟨0, i * 6 + 1, none⟩ = some (.int .i64 (kAt i).o) ∧ w.cell? ⟨0, i * 6 + 2, none⟩ = some (.int .i64 (kAt i).a) ∧
  w.cell? ⟨0, i * 6 + 3, none⟩ = some (.int .i64 (kAt i).b) ∧ w.cell? ⟨0, i * 6 + 4, none⟩ = some (.int .i64 (kAt i).t) ∧ w.cell? ⟨0, i * 6 + 5, none⟩ = some (.int .i64 (kAt i).p)
theorem KindsAt.chg {w w1 : World} {S : Nat → Prop} (h : KindsAt w) (c : Chg S w w1) (hS : ¬ S 0) : KindsAt w1 := fun i hi => by
  obtain ⟨nm, h0, h1, h2, h3, h4, h5⟩ := h i hi
  exact ⟨nm, c.cell (p := ⟨0, i * 6, none⟩) hS h0, c.cell (p := ⟨0, i * 6 + 1, none⟩) hS h1, c.cell (p := ⟨0, i * 6 + 2, none⟩) hS h2, c.cell (p := ⟨0, i * 6 + 3, none⟩) hS h3, c.cell (p := ⟨0, i * 6 + 4, none⟩) hS h4, c.cell (p := ⟨0, i * 6 + 5, none⟩) hS h5⟩
theorem KindsAt.chg0 {w w1 : World} (h : KindsAt w) (c : Chg (fun _ => False) w w1) : KindsAt w1 := h.chg c (fun h => h)
theorem codeKnown {x : Int} {w : World} {b : Bool} (hb : Hid (IsB b (0 ≤ x ∧ x < 29))) : Calls Tryd.prog 61 #[.int .i64 x] w fun e w' => e = .returned (.bool b) ∧ w = w' := by
  by_cases h1 : 0 ≤ x
  · by_cases h2 : x < 29
    · go_enter Tryd.func61, Tryd.ntmps61
      go_wp2_with fail
      go_ret
      exact ⟨ret_bool (b_true hb.out ⟨h1, h2⟩), rfl⟩
    · have h3 : 29 ≤ x := by omega
      go_enter Tryd.func61, Tryd.ntmps61
      go_wp2_with fail
      go_ret
      exact ⟨ret_bool (b_false hb.out (fun h => by have := h.2; omega)), rfl⟩
  · have h3 : x < 0 := by omega
    go_enter Tryd.func61, Tryd.ntmps61
    go_wp2_with fail
    go_ret
    exact ⟨ret_bool (b_false hb.out (fun h => by have := h.1; omega)), rfl⟩
/-- an instruction is one, its operands within what any program may have -/
def ValidP (x : InsV) : Prop := (0 ≤ x.op ∧ x.op < 29) ∧ (0 ≤ x.a ∧ x.a ≤ (kAt x.op.toNat).a) ∧ 0 ≤ x.b ∧ x.b ≤ (kAt x.op.toNat).b
instance (x : InsV) : Decidable (ValidP x) := inferInstanceAs (Decidable (_ ∧ _ ∧ _))
def validE (x : InsV) : Int := if ValidP x then 0 else 111
theorem ret_i {k : IntKind} {a b : Int} (h : a = b) : Ending.returned (.int k a) = .returned (.int k b) := by rw [h]
set_option maxRecDepth 20000 in
set_option maxHeartbeats 1600000 in
theorem codeValid {x : InsV} {w : World} {er : Int} (hk : Hid (KindsAt w)) (he : Hid (validE x = er)) : Calls Tryd.prog 52 #[.agg #[.int .i64 x.op, .int .i64 x.a, .int .i64 x.b]] w fun e w' => e = .returned (.int .i64 er) ∧ Chg (fun _ => False) w w' := by
  obtain ⟨op, a, b⟩ := x
  have C0 : Hid (∀ o : Obj, Chg (fun _ => False) w (w.alloc o)) := fun o => (Chg.refl _ w).alloc o
  by_cases ho : 0 ≤ op ∧ op < 29
  · obtain ⟨ho1, ho2⟩ := ho
    obtain ⟨i, rfl⟩ : ∃ i : Nat, op = i := ⟨op.toNat, by omega⟩
    have hi : i < 29 := by omega
    have KB : Hid (IsB true (0 ≤ (i : Int) ∧ (i : Int) < 29)) := ⟨fun _ => ⟨ho1, ho2⟩, fun _ => rfl⟩
    obtain ⟨nm, k0, k1, k2, k3, k4, k5⟩ := (hk.out.chg0 (C0.out (.cells #[.int .i64 i, .int .i64 a, .int .i64 b] 47))) i hi
    obtain ⟨ka, hka⟩ : ∃ z, z = (kAt i).a := ⟨_, rfl⟩
    obtain ⟨kb, hkb⟩ : ∃ z, z = (kAt i).b := ⟨_, rfl⟩
    obtain ⟨ko, hko⟩ : ∃ z, z = (kAt i).o := ⟨_, rfl⟩
    obtain ⟨kt, hkt⟩ : ∃ z, z = (kAt i).t := ⟨_, rfl⟩
    obtain ⟨kp, hkp⟩ : ∃ z, z = (kAt i).p := ⟨_, rfl⟩
    rw [← hko] at k1
    rw [← hka] at k2
    rw [← hkb] at k3
    rw [← hkt] at k4
    rw [← hkp] at k5
    have HE : Hid ((if ((0 ≤ a ∧ a ≤ ka) ∧ 0 ≤ b ∧ b ≤ kb) then (0 : Int) else 111) = er) := Lib.hid (by
      rw [← he.out, validE]
      have hv : ValidP ⟨(i : Int), a, b⟩ ↔ ((0 ≤ a ∧ a ≤ ka) ∧ 0 ≤ b ∧ b ≤ kb) := by
        rw [ValidP, hka, hkb]
        simp only [Int.toNat_natCast]
        exact ⟨fun h => h.2, fun h => ⟨⟨ho1, ho2⟩, h⟩⟩
      simp only [hv])
    clear hka hkb hko hkt hkp
    by_cases a1 : 0 ≤ a
    · by_cases a2 : a ≤ ka
      · by_cases b1 : 0 ≤ b
        · by_cases b2 : b ≤ kb
          · have HZ : Hid ((0 : Int) = er) := Lib.hid (by rw [← HE.out, if_pos ⟨⟨a1, a2⟩, b1, b2⟩])
            go_enter Tryd.func52, Tryd.ntmps52
            go_wp2_with fail
            refine (codeKnown KB).mono ?_
            rintro e w1 ⟨rfl, rfl⟩
            go_wp2_with fail
            go_ret
            exact ⟨ret_i HZ.out, (C0.out _).alloc _⟩
          · have HZ : Hid ((111 : Int) = er) := Lib.hid (by rw [← HE.out, if_neg (fun h => b2 h.2.2)])
            have b3 : kb < b := by omega
            go_enter Tryd.func52, Tryd.ntmps52
            go_wp2_with fail
            refine (codeKnown KB).mono ?_
            rintro e w1 ⟨rfl, rfl⟩
            go_wp2_with fail
            go_ret
            exact ⟨ret_i HZ.out, (C0.out _).alloc _⟩
        · have HZ : Hid ((111 : Int) = er) := Lib.hid (by rw [← HE.out, if_neg (fun h => b1 h.2.1)])
          have b3 : b < 0 := by omega
          go_enter Tryd.func52, Tryd.ntmps52
          go_wp2_with fail
          refine (codeKnown KB).mono ?_
          rintro e w1 ⟨rfl, rfl⟩
          go_wp2_with fail
          go_ret
          exact ⟨ret_i HZ.out, (C0.out _).alloc _⟩
      · have HZ : Hid ((111 : Int) = er) := Lib.hid (by rw [← HE.out, if_neg (fun h => a2 h.1.2)])
        have a3 : ka < a := by omega
        go_enter Tryd.func52, Tryd.ntmps52
        go_wp2_with fail
        refine (codeKnown KB).mono ?_
        rintro e w1 ⟨rfl, rfl⟩
        go_wp2_with fail
        go_ret
        exact ⟨ret_i HZ.out, (C0.out _).alloc _⟩
    · have HZ : Hid ((111 : Int) = er) := Lib.hid (by rw [← HE.out, if_neg (fun h => a1 h.1.1)])
      have a3 : a < 0 := by omega
      go_enter Tryd.func52, Tryd.ntmps52
      go_wp2_with fail
      refine (codeKnown KB).mono ?_
      rintro e w1 ⟨rfl, rfl⟩
      go_wp2_with fail
      go_ret
      exact ⟨ret_i HZ.out, (C0.out _).alloc _⟩
  · have KB : Hid (IsB false (0 ≤ op ∧ op < 29)) := ⟨fun h => absurd h (by decide), fun h => absurd h ho⟩
    have HZ : Hid ((111 : Int) = er) := Lib.hid (by rw [← he.out, validE, if_neg (fun h => ho h.1)])
    clear ho
    go_enter Tryd.func52, Tryd.ntmps52
    go_wp2_with fail
    refine (codeKnown KB).mono ?_
    rintro e w1 ⟨rfl, rfl⟩
    go_wp2_with fail
    go_ret
    exact ⟨ret_i HZ.out, C0.out _⟩
end Go.Proofs.YtkadamoofiddeaaDoor.Kit
-- Canonical programs: what an instruction names (uses.instruction).
set_option linter.unusedVariables false
set_option linter.unusedSimpArgs false
namespace Go.Proofs.YtkadamoofiddeaaDoor.Kit
open Go.RowKit
def bls (l : List Bool) : List Value := l.map Value.bool
theorem bls_length (l : List Bool) : (bls l).length = l.length := by simp [bls]
theorem bls_get (l : List Bool) (i : Nat) (h : i < l.length) : (bls l)[i]? = some (.bool l[i]) := by simp [bls, h]
theorem bls_set (l : List Bool) (i : Nat) (b : Bool) : (bls l).set i (.bool b) = bls (l.set i b) := by simp [bls, List.map_set]
/-- which of the numbers below n an instruction with that Op names -/
def namedBy (n : Nat) (o : Int) (L : List InsV) : List Bool := (List.range n).map fun (i : Nat) => L.any fun x => x.op == o && x.a == (i : Int)
theorem namedBy_length (n : Nat) (o : Int) (L : List InsV) : (namedBy n o L).length = n := by simp [namedBy]
theorem namedBy_other {n : Nat} {o : Int} {L : List InsV} {x : InsV} (h : x.op ≠ o) : namedBy n o (L ++ [x]) = namedBy n o L := by
  have hf : (x.op == o) = false := by simpa using h
  simp [namedBy, hf]
theorem namedBy_snoc {n : Nat} {o : Int} {L : List InsV} {x : InsV} {i : Nat} (h : x.op = o) (hi : x.a = (i : Int)) : namedBy n o (L ++ [x]) = (namedBy n o L).set i true := by
  apply List.ext_getElem?
  intro j
  rw [List.getElem?_set]
  by_cases hj : j < n
  · have e : ∀ M : List InsV, (namedBy n o M)[j]? = some (M.any fun x => x.op == o && x.a == (j : Int)) := fun M => by simp [namedBy, hj]
    rw [e, e, namedBy_length]
    by_cases hij : i = j
    · subst hij
      simp [h, hi, hj]
    · rw [if_neg hij]
      have hne : (x.a == (j : Int)) = false := by
        rw [hi]
        simpa using fun e : (i : Int) = (j : Int) => hij (by omega)
      simp [hne]
  · have e : ∀ M : List InsV, (namedBy n o M)[j]? = none := fun M => by simp [namedBy]; omega
    rw [e, e]
    by_cases hij : i = j
    · rw [if_pos hij, if_neg (by rw [namedBy_length]; omega)]
    · rw [if_neg hij]
theorem OwnV.store1 {w : World} {e : TypeId} {g n c : Nat} {cs : List Value} (h : OwnV w e 1 (.slice (some ⟨g, 0, none⟩) n c) n cs) {i : Nat} (hi : i < n) (x : Value) : OwnV (w.setCell ⟨g, i, none⟩ x) e 1 (.slice (some ⟨g, 0, none⟩) n c) n (cs.set i x) := by
  refine ⟨by rw [List.length_set]; exact h.1, ?_⟩
  rcases h.2 with ⟨h1, _⟩ | ⟨g', cap, cur, h0, hb, h1, h2, h3, h4⟩
  · injection h1 with h1
    cases h1
  · injection h0 with hA hn hc
    injection hA with hA
    injection hA with hA
    subst hA hc
    refine .inr ⟨g, c, _, rfl, hb.set i x, h1, h2, by simpa using h3, ?_⟩
    rw [Nat.mul_one] at h4 ⊢
    rw [List.take_set, h4]
theorem OwnV.baseOf {w : World} {e : TypeId} {sz n c : Nat} {A : Option Addr} {cs : List Value} (h : OwnV w e sz (.slice A n c) n cs) (hn : 0 < n) : ∃ g, A = some ⟨g, 0, none⟩ ∧ (∀ i, i < n * sz → w.frozen? ⟨g, i, none⟩ = false) ∧ ∀ i u, cs[i]? = some u → w.cell? ⟨g, i, none⟩ = some u := by
  rcases h.2 with ⟨h1, h2⟩ | ⟨g, cap, cur, h0, hb, h1, h2, h3, h4⟩
  · omega
  · injection h0 with hA _ hc
    subst hA hc
    refine ⟨g, rfl, fun i hi => hb.frozen (by have := Nat.mul_le_mul_right sz h1; omega), fun i u hu => ?_⟩
    rw [← h4, List.getElem?_take] at hu
    split at hu
    · exact hb.at_ hu
    · cases hu
/-- the lists of what was named, in block g; their rows lie in blocks of D -/
structure Uses (w : World) (D : Nat → Prop) (g : Nat) (p : ProgV) (L : List InsV) : Prop where
  ex : ∃ A1 A2 A3 c1 c2 c3, Blk w g 58 [.slice A1 p.names.length c1, .slice A2 p.curs.length c2, .slice A3 p.pool.length c3] ∧ OwnV w 4 1 (.slice A1 p.names.length c1) p.names.length (bls (namedBy p.names.length 3 L)) ∧
    OwnV w 4 1 (.slice A2 p.curs.length c2) p.curs.length (bls (namedBy p.curs.length 28 L)) ∧ OwnV w 4 1 (.slice A3 p.pool.length c3) p.pool.length (bls (namedBy p.pool.length 1 L)) ∧
    (∀ a b : Addr, A1 = some a → A2 = some b → a.block ≠ b.block) ∧ (∀ a b : Addr, A1 = some a → A3 = some b → a.block ≠ b.block) ∧ (∀ a b : Addr, A2 = some a → A3 = some b → a.block ≠ b.block) ∧ (∀ a, A1 = some a → D a.block) ∧ (∀ a, A2 = some a → D a.block) ∧ ∀ a, A3 = some a → D a.block
  out : ¬ D g
  lt : ∀ y, D y → y < w.heap.size
theorem ob_of {A : Option Addr} {n c g : Nat} (h : Value.ownBlock (.slice A n c) = some g) : ∃ a, A = some a ∧ a.block = g := by
  rcases A with _ | a
  · simp [Value.ownBlock] at h
  · exact ⟨a, rfl, by simpa [Value.ownBlock] using h⟩
theorem Uses.chg {w w1 : World} {D S : Nat → Prop} {g : Nat} {p : ProgV} {L : List InsV} (h : Uses w D g p L) (c : Chg S w w1) (hS : ∀ y, S y → ¬ D y ∧ y ≠ g) : Uses w1 D g p L := by
  obtain ⟨A1, A2, A3, c1, c2, c3, hb, h1, h2, h3, d12, d13, d23, q1, q2, q3⟩ := h.ex
  have key : ∀ {A : Option Addr} {n c : Nat}, (∀ a, A = some a → D a.block) → ∀ y, Value.ownBlock (.slice A n c) = some y → ¬ S y := fun hq y hy hs => by
    obtain ⟨a, e, rfl⟩ := ob_of hy
    exact (hS _ hs).1 (hq a e)
  exact ⟨⟨A1, A2, A3, c1, c2, c3, hb.chg c (fun hs => (hS g hs).2 rfl), h1.chg c (key q1), h2.chg c (key q2), h3.chg c (key q3), d12, d13, d23, q1, q2, q3⟩, h.out, fun y hy => Nat.lt_of_lt_of_le (h.lt y hy) c.size⟩
theorem Uses.chg0 {w w1 : World} {D : Nat → Prop} {g : Nat} {p : ProgV} {L : List InsV} (h : Uses w D g p L) (c : Chg (fun _ => False) w w1) : Uses w1 D g p L := h.chg c (fun _ h => h.elim)
theorem Uses.other {w : World} {D : Nat → Prop} {g : Nat} {p : ProgV} {L : List InsV} {y : InsV} (h1 : y.op ≠ 1) (h3 : y.op ≠ 3) (h28 : y.op ≠ 28) (h : Uses w D g p L) : Uses w D g p (L ++ [y]) := by
  obtain ⟨A1, A2, A3, c1, c2, c3, hb, h4, h5, h6, r⟩ := h.ex
  exact ⟨⟨A1, A2, A3, c1, c2, c3, hb, by rw [namedBy_other h3]; exact h4, by rw [namedBy_other h28]; exact h5, by rw [namedBy_other h1]; exact h6, r⟩, h.out, h.lt⟩
/-- what an instruction names is there -/
structure InsP (p : ProgV) (x : InsV) : Prop where
  k : x.op = 1 → x.a < p.pool.length
  n : x.op = 3 → x.a < p.names.length
  c : x.op = 28 → x.a < p.curs.length
  cells : x.op = 4 ∨ x.op = 5 → x.a < p.cells
  slots : x.op = 6 ∨ x.op = 7 → x.a < p.slots
def UIns (D : Nat → Prop) (g : Nat) (p : ProgV) (L : List InsV) (x : InsV) (b : Bool) (w : World) (e : Ending) (w' : World) : Prop :=
  e = .returned (.bool b) ∧ (b = true → Uses w' D g p (L ++ [x])) ∧ Chg D w w'
set_option maxRecDepth 20000 in
set_option maxHeartbeats 3200000 in
theorem usesIns {D : Nat → Prop} {g : Nat} {s : ProgS} {p : ProgV} {L : List InsV} {x : InsV} {w : World} {b : Bool} (hu : Hid (Uses w D g p L)) (hp : Hid (RdProg w s p)) (ok : Hid (ProgOk p)) (ha : 0 ≤ x.a) (hb : Hid (IsB b (InsP p x))) :
    Calls Tryd.prog 53 #[.pointer (some ⟨g, 0, none⟩), progVal s p, .agg #[.int .i64 x.op, .int .i64 x.a, .int .i64 x.b]] w (UIns D g p L x b w) := by
  obtain ⟨n1, n2, n3, n4, A1, A2, A3, A4, c1, c2, c3, c4, HP0⟩ := hp.out.apart
  have HP := Lib.hid HP0
  rw [HP.out.eq]
  obtain ⟨U1, U2, U3, u1, u2, u3, ub, r1, r2, r3, d12, d13, d23, e1, e2, e3⟩ := hu.out.ex
  rw [← HP0.ln] at r1 ub
  rw [← HP0.lc] at r2 ub
  rw [← HP0.lk] at r3 ub
  have S1 : n1 ≤ 140737488355328 := by have := HP0.ln; have := ok.out.small.names; omega
  have S2 : n2 ≤ 140737488355328 := by have := HP0.lc; have := ok.out.small.curs; omega
  have S3 : n3 ≤ 140737488355328 := by have := HP0.lk; have := ok.out.small.pool; omega
  have UB := Lib.hid ub
  have R1 := Lib.hid r1
  have R2 := Lib.hid r2
  have R3 := Lib.hid r3
  have DD := Lib.hid (And.intro d12 (And.intro d13 d23))
  have EE := Lib.hid (And.intro e1 (And.intro e2 e3))
  have LN := Lib.hid HP0.ln
  have LC := Lib.hid HP0.lc
  have LK := Lib.hid HP0.lk
  obtain ⟨op, a, bb⟩ := x
  simp only at ha
  obtain ⟨i1, hi1⟩ : ∃ x, x = p.horizon := ⟨_, rfl⟩
  obtain ⟨i2, hi2⟩ : ∃ x, x = p.cells := ⟨_, rfl⟩
  obtain ⟨i3, hi3⟩ : ∃ x, x = p.slots := ⟨_, rfl⟩
  obtain ⟨i4, hi4⟩ : ∃ x, x = p.stack := ⟨_, rfl⟩
  rw [← hi1, ← hi2, ← hi3, ← hi4]
  have HC := Lib.hid hi2
  have HS := Lib.hid hi3
  clear r1 r2 r3 ub d12 d13 d23 e1 e2 e3 hi1 hi2 hi3 hi4 HP0
  obtain ⟨w0, hw0⟩ : ∃ x, x = (w.alloc (.cells #[.slice A1 n1 c1, .slice A2 n2 c2, .slice A3 n3 c3, .int .i64 i1, .int .i64 i2, .int .i64 i3, .int .i64 i4, .slice A4 n4 c4] 26)).alloc (.cells #[.int .i64 op, .int .i64 a, .int .i64 bb] 47) := ⟨_, rfl⟩
  have C0 : Hid (Chg (fun _ => False) w w0) := by rw [hw0]; exact ((Chg.refl _ w).alloc _).alloc _
  have UB0 := Lib.hid (UB.out.chg C0.out (fun h => h))
  have t0 := UB0.out.at_ (i := 0) rfl
  have t1 := UB0.out.at_ (i := 1) rfl
  have t2 := UB0.out.at_ (i := 2) rfl
  rw [hw0] at t0 t1 t2
  by_cases ho : op = 1
  · have HO := Lib.hid ho
    have z1 : (op == 1) = true := by rw [ho]; rfl
    have z3 : (op == 3) = false := by rw [ho]; rfl
    have z28 : (op == 28) = false := by rw [ho]; rfl
    have z4 : (op == 4) = false := by rw [ho]; rfl
    have z5 : (op == 5) = false := by rw [ho]; rfl
    have z6 : (op == 6) = false := by rw [ho]; rfl
    have z7 : (op == 7) = false := by rw [ho]; rfl
    clear ho
    by_cases hl : a < (n3 : Int)
    · obtain ⟨m, rfl⟩ : ∃ m : Nat, a = m := ⟨a.toNat, by omega⟩
      have hm : m < n3 := by omega
      obtain ⟨gr, hgr, fz, cz⟩ := (R3.out.chg C0.out (fun _ _ h => h)).baseOf (Nat.lt_of_le_of_lt (Nat.zero_le m) hm)
      subst hgr
      have fzm := fz m (by omega)
      have czm := cz m _ (bls_get _ m (by rw [namedBy_length]; exact hm))
      rw [hw0] at fzm czm
      have b1 : (0 : Int) ≤ (m : Int) := by omega
      have HT : true = b := b_true hb.out ⟨fun h => by rw [← LK.out]; exact hl, fun h => by exact absurd (HO.out.symm.trans h) (by decide), fun h => by exact absurd (HO.out.symm.trans h) (by decide), fun h => h.elim (fun h => absurd (HO.out.symm.trans h) (by decide)) (fun h => absurd (HO.out.symm.trans h) (by decide)), fun h => h.elim (fun h => absurd (HO.out.symm.trans h) (by decide)) (fun h => absurd (HO.out.symm.trans h) (by decide))⟩
      have HTT := Lib.hid HT
      clear HT fz cz
      go_enter Tryd.func53, Tryd.ntmps53
      go_wp2_with fail
      rw [← hw0]
      go_ret
      have CS : Chg (fun y => y = gr) w0 (w0.setCell ⟨gr, m, none⟩ (.bool true)) := (Chg.refl (fun y => y = gr) w0).setCell (p := ⟨gr, m, none⟩) (fun _ => rfl) (.bool true)
      refine ⟨ret_bool HTT.out, fun _ => ?_, (C0.out.mono (fun _ _ h => h.elim)).trans CS (fun y _ e => by rw [e]; exact EE.out.2.2 _ rfl)⟩
      have own1 := R1.out.chg C0.out (fun _ _ h => h)
      have own2 := R2.out.chg C0.out (fun _ _ h => h)
      have own3 := R3.out.chg C0.out (fun _ _ h => h)
      have stored := own3.store1 hm (.bool true)
      rw [bls_set, ← namedBy_snoc (x := ⟨op, m, bb⟩) HO.out rfl] at stored
      have hgD : D gr := EE.out.2.2 _ rfl
      refine ⟨⟨U1, U2, some ⟨gr, 0, none⟩, u1, u2, u3, ?_, ?_, ?_, ?_, DD.out.1, DD.out.2.1, DD.out.2.2, EE.out.1, EE.out.2.1, EE.out.2.2⟩, hu.out.out, fun y hy => Nat.lt_of_lt_of_le (hu.out.lt y hy) (Nat.le_trans C0.out.size CS.size)⟩
      · rw [← LN.out, ← LC.out, ← LK.out]
        exact UB0.out.chg CS (fun e => hu.out.out (by rw [e]; exact hgD))
      · rw [← LN.out, namedBy_other (show op ≠ 3 from fun e => absurd (HO.out.symm.trans e) (by decide))]
        exact own1.chg CS (fun y hy e => by obtain ⟨a, ea, eb⟩ := ob_of hy; exact DD.out.2.1 a _ ea rfl (by rw [eb, e]))
      · rw [← LC.out, namedBy_other (show op ≠ 28 from fun e => absurd (HO.out.symm.trans e) (by decide))]
        exact own2.chg CS (fun y hy e => by obtain ⟨a, ea, eb⟩ := ob_of hy; exact DD.out.2.2 a _ ea rfl (by rw [eb, e]))
      · rw [← LK.out]
        exact stored
    · have HF : false = b := b_false hb.out (fun h => by have h2 := h.k HO.out; rw [← LK.out] at h2; exact hl h2)
      have HFF := Lib.hid HF
      have h3 : (n3 : Int) ≤ a := by omega
      clear HF hl
      go_enter Tryd.func53, Tryd.ntmps53
      go_wp2_with fail
      rw [← hw0]
      go_ret
      exact ⟨ret_bool HFF.out, (fun h => by rw [← HFF.out] at h; cases h), C0.out.mono (fun _ _ h => h.elim)⟩
  have HO1 := Lib.hid ho
  clear ho
  by_cases ho : op = 3
  · have HO := Lib.hid ho
    have z1 : (op == 1) = false := by rw [ho]; rfl
    have z3 : (op == 3) = true := by rw [ho]; rfl
    have z28 : (op == 28) = false := by rw [ho]; rfl
    have z4 : (op == 4) = false := by rw [ho]; rfl
    have z5 : (op == 5) = false := by rw [ho]; rfl
    have z6 : (op == 6) = false := by rw [ho]; rfl
    have z7 : (op == 7) = false := by rw [ho]; rfl
    clear ho
    by_cases hl : a < (n1 : Int)
    · obtain ⟨m, rfl⟩ : ∃ m : Nat, a = m := ⟨a.toNat, by omega⟩
      have hm : m < n1 := by omega
      obtain ⟨gr, hgr, fz, cz⟩ := (R1.out.chg C0.out (fun _ _ h => h)).baseOf (Nat.lt_of_le_of_lt (Nat.zero_le m) hm)
      subst hgr
      have fzm := fz m (by omega)
      have czm := cz m _ (bls_get _ m (by rw [namedBy_length]; exact hm))
      rw [hw0] at fzm czm
      have b1 : (0 : Int) ≤ (m : Int) := by omega
      have HT : true = b := b_true hb.out ⟨fun h => by exact absurd (HO.out.symm.trans h) (by decide), fun h => by rw [← LN.out]; exact hl, fun h => by exact absurd (HO.out.symm.trans h) (by decide), fun h => h.elim (fun h => absurd (HO.out.symm.trans h) (by decide)) (fun h => absurd (HO.out.symm.trans h) (by decide)), fun h => h.elim (fun h => absurd (HO.out.symm.trans h) (by decide)) (fun h => absurd (HO.out.symm.trans h) (by decide))⟩
      have HTT := Lib.hid HT
      clear HT fz cz
      go_enter Tryd.func53, Tryd.ntmps53
      go_wp2_with fail
      rw [← hw0]
      go_ret
      have CS : Chg (fun y => y = gr) w0 (w0.setCell ⟨gr, m, none⟩ (.bool true)) := (Chg.refl (fun y => y = gr) w0).setCell (p := ⟨gr, m, none⟩) (fun _ => rfl) (.bool true)
      refine ⟨ret_bool HTT.out, fun _ => ?_, (C0.out.mono (fun _ _ h => h.elim)).trans CS (fun y _ e => by rw [e]; exact EE.out.1 _ rfl)⟩
      have own1 := R1.out.chg C0.out (fun _ _ h => h)
      have own2 := R2.out.chg C0.out (fun _ _ h => h)
      have own3 := R3.out.chg C0.out (fun _ _ h => h)
      have stored := own1.store1 hm (.bool true)
      rw [bls_set, ← namedBy_snoc (x := ⟨op, m, bb⟩) HO.out rfl] at stored
      have hgD : D gr := EE.out.1 _ rfl
      refine ⟨⟨some ⟨gr, 0, none⟩, U2, U3, u1, u2, u3, ?_, ?_, ?_, ?_, DD.out.1, DD.out.2.1, DD.out.2.2, EE.out.1, EE.out.2.1, EE.out.2.2⟩, hu.out.out, fun y hy => Nat.lt_of_lt_of_le (hu.out.lt y hy) (Nat.le_trans C0.out.size CS.size)⟩
      · rw [← LN.out, ← LC.out, ← LK.out]
        exact UB0.out.chg CS (fun e => hu.out.out (by rw [e]; exact hgD))
      · rw [← LN.out]
        exact stored
      · rw [← LC.out, namedBy_other (show op ≠ 28 from fun e => absurd (HO.out.symm.trans e) (by decide))]
        exact own2.chg CS (fun y hy e => by obtain ⟨a, ea, eb⟩ := ob_of hy; exact DD.out.1 _ a rfl ea (by rw [eb, e]))
      · rw [← LK.out, namedBy_other (show op ≠ 1 from fun e => absurd (HO.out.symm.trans e) (by decide))]
        exact own3.chg CS (fun y hy e => by obtain ⟨a, ea, eb⟩ := ob_of hy; exact DD.out.2.1 _ a rfl ea (by rw [eb, e]))
    · have HF : false = b := b_false hb.out (fun h => by have h2 := h.n HO.out; rw [← LN.out] at h2; exact hl h2)
      have HFF := Lib.hid HF
      have h3 : (n1 : Int) ≤ a := by omega
      clear HF hl
      go_enter Tryd.func53, Tryd.ntmps53
      go_wp2_with fail
      rw [← hw0]
      go_ret
      exact ⟨ret_bool HFF.out, (fun h => by rw [← HFF.out] at h; cases h), C0.out.mono (fun _ _ h => h.elim)⟩
  have HO3 := Lib.hid ho
  clear ho
  by_cases ho : op = 28
  · have HO := Lib.hid ho
    have z1 : (op == 1) = false := by rw [ho]; rfl
    have z3 : (op == 3) = false := by rw [ho]; rfl
    have z28 : (op == 28) = true := by rw [ho]; rfl
    have z4 : (op == 4) = false := by rw [ho]; rfl
    have z5 : (op == 5) = false := by rw [ho]; rfl
    have z6 : (op == 6) = false := by rw [ho]; rfl
    have z7 : (op == 7) = false := by rw [ho]; rfl
    clear ho
    by_cases hl : a < (n2 : Int)
    · obtain ⟨m, rfl⟩ : ∃ m : Nat, a = m := ⟨a.toNat, by omega⟩
      have hm : m < n2 := by omega
      obtain ⟨gr, hgr, fz, cz⟩ := (R2.out.chg C0.out (fun _ _ h => h)).baseOf (Nat.lt_of_le_of_lt (Nat.zero_le m) hm)
      subst hgr
      have fzm := fz m (by omega)
      have czm := cz m _ (bls_get _ m (by rw [namedBy_length]; exact hm))
      rw [hw0] at fzm czm
      have b1 : (0 : Int) ≤ (m : Int) := by omega
      have HT : true = b := b_true hb.out ⟨fun h => by exact absurd (HO.out.symm.trans h) (by decide), fun h => by exact absurd (HO.out.symm.trans h) (by decide), fun h => by rw [← LC.out]; exact hl, fun h => h.elim (fun h => absurd (HO.out.symm.trans h) (by decide)) (fun h => absurd (HO.out.symm.trans h) (by decide)), fun h => h.elim (fun h => absurd (HO.out.symm.trans h) (by decide)) (fun h => absurd (HO.out.symm.trans h) (by decide))⟩
      have HTT := Lib.hid HT
      clear HT fz cz
      go_enter Tryd.func53, Tryd.ntmps53
      go_wp2_with fail
      rw [← hw0]
      go_ret
      have CS : Chg (fun y => y = gr) w0 (w0.setCell ⟨gr, m, none⟩ (.bool true)) := (Chg.refl (fun y => y = gr) w0).setCell (p := ⟨gr, m, none⟩) (fun _ => rfl) (.bool true)
      refine ⟨ret_bool HTT.out, fun _ => ?_, (C0.out.mono (fun _ _ h => h.elim)).trans CS (fun y _ e => by rw [e]; exact EE.out.2.1 _ rfl)⟩
      have own1 := R1.out.chg C0.out (fun _ _ h => h)
      have own2 := R2.out.chg C0.out (fun _ _ h => h)
      have own3 := R3.out.chg C0.out (fun _ _ h => h)
      have stored := own2.store1 hm (.bool true)
      rw [bls_set, ← namedBy_snoc (x := ⟨op, m, bb⟩) HO.out rfl] at stored
      have hgD : D gr := EE.out.2.1 _ rfl
      refine ⟨⟨U1, some ⟨gr, 0, none⟩, U3, u1, u2, u3, ?_, ?_, ?_, ?_, DD.out.1, DD.out.2.1, DD.out.2.2, EE.out.1, EE.out.2.1, EE.out.2.2⟩, hu.out.out, fun y hy => Nat.lt_of_lt_of_le (hu.out.lt y hy) (Nat.le_trans C0.out.size CS.size)⟩
      · rw [← LN.out, ← LC.out, ← LK.out]
        exact UB0.out.chg CS (fun e => hu.out.out (by rw [e]; exact hgD))
      · rw [← LN.out, namedBy_other (show op ≠ 3 from fun e => absurd (HO.out.symm.trans e) (by decide))]
        exact own1.chg CS (fun y hy e => by obtain ⟨a, ea, eb⟩ := ob_of hy; exact DD.out.1 a _ ea rfl (by rw [eb, e]))
      · rw [← LC.out]
        exact stored
      · rw [← LK.out, namedBy_other (show op ≠ 1 from fun e => absurd (HO.out.symm.trans e) (by decide))]
        exact own3.chg CS (fun y hy e => by obtain ⟨a, ea, eb⟩ := ob_of hy; exact DD.out.2.2 _ a rfl ea (by rw [eb, e]))
    · have HF : false = b := b_false hb.out (fun h => by have h2 := h.c HO.out; rw [← LC.out] at h2; exact hl h2)
      have HFF := Lib.hid HF
      have h3 : (n2 : Int) ≤ a := by omega
      clear HF hl
      go_enter Tryd.func53, Tryd.ntmps53
      go_wp2_with fail
      rw [← hw0]
      go_ret
      exact ⟨ret_bool HFF.out, (fun h => by rw [← HFF.out] at h; cases h), C0.out.mono (fun _ _ h => h.elim)⟩
  have HO28 := Lib.hid ho
  clear ho
  by_cases ho : op = 4
  · have HO := Lib.hid ho
    have z1 : (op == 1) = false := by rw [ho]; rfl
    have z3 : (op == 3) = false := by rw [ho]; rfl
    have z28 : (op == 28) = false := by rw [ho]; rfl
    have z4 : (op == 4) = true := by rw [ho]; rfl
    have z5 : (op == 5) = false := by rw [ho]; rfl
    have z6 : (op == 6) = false := by rw [ho]; rfl
    have z7 : (op == 7) = false := by rw [ho]; rfl
    clear ho
    by_cases hl : a < i2
    · have HT : true = b := b_true hb.out ⟨fun h => absurd (HO.out.symm.trans h) (by decide), fun h => absurd (HO.out.symm.trans h) (by decide), fun h => absurd (HO.out.symm.trans h) (by decide), fun h => by rw [← HC.out]; exact hl, fun h => by exact h.elim (fun h => absurd (HO.out.symm.trans h) (by decide)) (fun h => absurd (HO.out.symm.trans h) (by decide))⟩
      have HTT := Lib.hid HT
      clear HT
      go_enter Tryd.func53, Tryd.ntmps53
      go_wp2_with fail
      rw [← hw0]
      go_ret
      exact ⟨ret_bool HTT.out, fun _ => Uses.other (fun e => HO1.out e) (fun e => HO3.out e) (fun e => HO28.out e) (hu.out.chg0 C0.out), C0.out.mono (fun _ _ h => h.elim)⟩
    · have HF : false = b := b_false hb.out (fun h => by have h2 := h.cells (.inl HO.out); rw [← HC.out] at h2; exact hl h2)
      have HFF := Lib.hid HF
      have h3 : i2 ≤ a := by omega
      clear HF hl
      go_enter Tryd.func53, Tryd.ntmps53
      go_wp2_with fail
      rw [← hw0]
      go_ret
      exact ⟨ret_bool ((decide_eq_false (by omega)).trans HFF.out), (fun h => by rw [← HFF.out] at h; cases h), C0.out.mono (fun _ _ h => h.elim)⟩
  have HO4 := Lib.hid ho
  clear ho
  by_cases ho : op = 5
  · have HO := Lib.hid ho
    have z1 : (op == 1) = false := by rw [ho]; rfl
    have z3 : (op == 3) = false := by rw [ho]; rfl
    have z28 : (op == 28) = false := by rw [ho]; rfl
    have z4 : (op == 4) = false := by rw [ho]; rfl
    have z5 : (op == 5) = true := by rw [ho]; rfl
    have z6 : (op == 6) = false := by rw [ho]; rfl
    have z7 : (op == 7) = false := by rw [ho]; rfl
    clear ho
    by_cases hl : a < i2
    · have HT : true = b := b_true hb.out ⟨fun h => absurd (HO.out.symm.trans h) (by decide), fun h => absurd (HO.out.symm.trans h) (by decide), fun h => absurd (HO.out.symm.trans h) (by decide), fun h => by rw [← HC.out]; exact hl, fun h => by exact h.elim (fun h => absurd (HO.out.symm.trans h) (by decide)) (fun h => absurd (HO.out.symm.trans h) (by decide))⟩
      have HTT := Lib.hid HT
      clear HT
      go_enter Tryd.func53, Tryd.ntmps53
      go_wp2_with fail
      rw [← hw0]
      go_ret
      exact ⟨ret_bool HTT.out, fun _ => Uses.other (fun e => HO1.out e) (fun e => HO3.out e) (fun e => HO28.out e) (hu.out.chg0 C0.out), C0.out.mono (fun _ _ h => h.elim)⟩
    · have HF : false = b := b_false hb.out (fun h => by have h2 := h.cells (.inr HO.out); rw [← HC.out] at h2; exact hl h2)
      have HFF := Lib.hid HF
      have h3 : i2 ≤ a := by omega
      clear HF hl
      go_enter Tryd.func53, Tryd.ntmps53
      go_wp2_with fail
      rw [← hw0]
      go_ret
      exact ⟨ret_bool ((decide_eq_false (by omega)).trans HFF.out), (fun h => by rw [← HFF.out] at h; cases h), C0.out.mono (fun _ _ h => h.elim)⟩
  have HO5 := Lib.hid ho
  clear ho
  by_cases ho : op = 6
  · have HO := Lib.hid ho
    have z1 : (op == 1) = false := by rw [ho]; rfl
    have z3 : (op == 3) = false := by rw [ho]; rfl
    have z28 : (op == 28) = false := by rw [ho]; rfl
    have z4 : (op == 4) = false := by rw [ho]; rfl
    have z5 : (op == 5) = false := by rw [ho]; rfl
    have z6 : (op == 6) = true := by rw [ho]; rfl
    have z7 : (op == 7) = false := by rw [ho]; rfl
    clear ho
    by_cases hl : a < i3
    · have HT : true = b := b_true hb.out ⟨fun h => absurd (HO.out.symm.trans h) (by decide), fun h => absurd (HO.out.symm.trans h) (by decide), fun h => absurd (HO.out.symm.trans h) (by decide), fun h => by exact h.elim (fun h => absurd (HO.out.symm.trans h) (by decide)) (fun h => absurd (HO.out.symm.trans h) (by decide)), fun h => by rw [← HS.out]; exact hl⟩
      have HTT := Lib.hid HT
      clear HT
      go_enter Tryd.func53, Tryd.ntmps53
      go_wp2_with fail
      rw [← hw0]
      go_ret
      exact ⟨ret_bool HTT.out, fun _ => Uses.other (fun e => HO1.out e) (fun e => HO3.out e) (fun e => HO28.out e) (hu.out.chg0 C0.out), C0.out.mono (fun _ _ h => h.elim)⟩
    · have HF : false = b := b_false hb.out (fun h => by have h2 := h.slots (.inl HO.out); rw [← HS.out] at h2; exact hl h2)
      have HFF := Lib.hid HF
      have h3 : i3 ≤ a := by omega
      clear HF hl
      go_enter Tryd.func53, Tryd.ntmps53
      go_wp2_with fail
      rw [← hw0]
      go_ret
      exact ⟨ret_bool ((decide_eq_false (by omega)).trans HFF.out), (fun h => by rw [← HFF.out] at h; cases h), C0.out.mono (fun _ _ h => h.elim)⟩
  have HO6 := Lib.hid ho
  clear ho
  by_cases ho : op = 7
  · have HO := Lib.hid ho
    have z1 : (op == 1) = false := by rw [ho]; rfl
    have z3 : (op == 3) = false := by rw [ho]; rfl
    have z28 : (op == 28) = false := by rw [ho]; rfl
    have z4 : (op == 4) = false := by rw [ho]; rfl
    have z5 : (op == 5) = false := by rw [ho]; rfl
    have z6 : (op == 6) = false := by rw [ho]; rfl
    have z7 : (op == 7) = true := by rw [ho]; rfl
    clear ho
    by_cases hl : a < i3
    · have HT : true = b := b_true hb.out ⟨fun h => absurd (HO.out.symm.trans h) (by decide), fun h => absurd (HO.out.symm.trans h) (by decide), fun h => absurd (HO.out.symm.trans h) (by decide), fun h => by exact h.elim (fun h => absurd (HO.out.symm.trans h) (by decide)) (fun h => absurd (HO.out.symm.trans h) (by decide)), fun h => by rw [← HS.out]; exact hl⟩
      have HTT := Lib.hid HT
      clear HT
      go_enter Tryd.func53, Tryd.ntmps53
      go_wp2_with fail
      rw [← hw0]
      go_ret
      exact ⟨ret_bool HTT.out, fun _ => Uses.other (fun e => HO1.out e) (fun e => HO3.out e) (fun e => HO28.out e) (hu.out.chg0 C0.out), C0.out.mono (fun _ _ h => h.elim)⟩
    · have HF : false = b := b_false hb.out (fun h => by have h2 := h.slots (.inr HO.out); rw [← HS.out] at h2; exact hl h2)
      have HFF := Lib.hid HF
      have h3 : i3 ≤ a := by omega
      clear HF hl
      go_enter Tryd.func53, Tryd.ntmps53
      go_wp2_with fail
      rw [← hw0]
      go_ret
      exact ⟨ret_bool ((decide_eq_false (by omega)).trans HFF.out), (fun h => by rw [← HFF.out] at h; cases h), C0.out.mono (fun _ _ h => h.elim)⟩
  have HO7 := Lib.hid ho
  clear ho
  have z1 : (op == 1) = false := by simpa using HO1.out
  have z3 : (op == 3) = false := by simpa using HO3.out
  have z28 : (op == 28) = false := by simpa using HO28.out
  have z4 : (op == 4) = false := by simpa using HO4.out
  have z5 : (op == 5) = false := by simpa using HO5.out
  have z6 : (op == 6) = false := by simpa using HO6.out
  have z7 : (op == 7) = false := by simpa using HO7.out
  have HT : true = b := b_true hb.out ⟨fun h => absurd h HO1.out, fun h => absurd h HO3.out, fun h => absurd h HO28.out, fun h => absurd h (fun e => e.elim HO4.out HO5.out), fun h => absurd h (fun e => e.elim HO6.out HO7.out)⟩
  have HTT := Lib.hid HT
  clear HT
  go_enter Tryd.func53, Tryd.ntmps53
  go_wp2_with fail
  rw [← hw0]
  go_ret
  exact ⟨ret_bool HTT.out, fun _ => Uses.other (fun e => HO1.out e) (fun e => HO3.out e) (fun e => HO28.out e) (hu.out.chg0 C0.out), C0.out.mono (fun _ _ h => h.elim)⟩
end Go.Proofs.YtkadamoofiddeaaDoor.Kit
-- Canonical programs: a day's code (uses.day); a list of bools that holds no false (slices.Contains).
set_option linter.unusedVariables false
set_option linter.unusedSimpArgs false
namespace Go.Proofs.YtkadamoofiddeaaDoor.Kit
open Go.RowKit
/-- an instruction that stands right in a day's code -/
structure GoodI (p : ProgV) (n : Nat) (i : Nat) (x : InsV) : Prop where
  valid : ValidP x
  fin : x.op = 0 ↔ i + 1 = n
  ins : InsP p x
def DayP (p : ProgV) (l : List InsV) : Prop := 2 ≤ l.length ∧ ∀ i (h : i < l.length), GoodI p l.length i l[i]
theorem validE_0 {x : InsV} : validE x = 0 ↔ ValidP x := by
  unfold validE
  by_cases h : ValidP x
  · rw [if_pos h]; exact ⟨fun _ => h, fun _ => rfl⟩
  · rw [if_neg h]; exact ⟨fun e => absurd e (by decide), fun e => absurd e h⟩
theorem validE_or (x : InsV) : validE x = 0 ∨ validE x = 111 := by
  unfold validE
  by_cases h : ValidP x
  · rw [if_pos h]; exact .inl rfl
  · rw [if_neg h]; exact .inr rfl
/-- what stays as it is while rows of D are written -/
structure Stay (w : World) (D : Nat → Prop) (s : ProgS) (p : ProgV) : Prop where
  p : ∀ W, Chg D w W → RdProg W s p
  k : ∀ W, Chg D w W → KindsAt W
theorem Stay.next {w w1 : World} {D : Nat → Prop} {s : ProgS} {p : ProgV} (h : Stay w D s p) (c : Chg D w w1) : Stay w1 D s p := ⟨fun W cW => h.p W (c.trans cW (fun _ _ h => h)), fun W cW => h.k W (c.trans cW (fun _ _ h => h))⟩
def UDay (D : Nat → Prop) (g : Nat) (p : ProgV) (L l : List InsV) (b : Bool) (w : World) (e : Ending) (w' : World) : Prop :=
  e = .returned (.bool b) ∧ (b = true → Uses w' D g p (L ++ l)) ∧ Chg D w w'
set_option maxRecDepth 20000 in
set_option maxHeartbeats 3200000 in
theorem usesDay {D : Nat → Prop} {g : Nat} {s : ProgS} {p : ProgV} {L l : List InsV} {A : Option Addr} {n c : Nat} {w : World} {b : Bool} (hu : Hid (Uses w D g p L)) (hs : Hid (Stay w D s p)) (ok : Hid (ProgOk p)) (HN : Hid (n = l.length)) (hn : n ≤ 140737488355328) (hr : Hid (∀ W, Chg D w W → RdG W A (insCells l))) (hb : Hid (IsB b (DayP p l))) :
    Calls Tryd.prog 27 #[.pointer (some ⟨g, 0, none⟩), progVal s p, .slice A n c] w (UDay D g p L l b w) := by
  obtain ⟨n1, n2, n3, n4, A1, A2, A3, A4, c1, c2, c3, c4, HP0⟩ := (hs.out.p w (Chg.refl _ _)).apart
  have EQ := Lib.hid HP0.eq
  obtain ⟨v, hv⟩ : ∃ v : Array Value, v = #[.slice A1 n1 c1, .slice A2 n2 c2, .slice A3 n3 c3, .int .i64 p.horizon, .int .i64 p.cells, .int .i64 p.slots, .int .i64 p.stack, .slice A4 n4 c4] := ⟨_, rfl⟩
  have HV := Lib.hid hv
  obtain ⟨i1, hi1⟩ : ∃ x, x = p.horizon := ⟨_, rfl⟩
  obtain ⟨i2, hi2⟩ : ∃ x, x = p.cells := ⟨_, rfl⟩
  obtain ⟨i3, hi3⟩ : ∃ x, x = p.slots := ⟨_, rfl⟩
  obtain ⟨i4, hi4⟩ : ∃ x, x = p.stack := ⟨_, rfl⟩
  have EQ2 : Hid (progVal s p = .agg #[.slice A1 n1 c1, .slice A2 n2 c2, .slice A3 n3 c3, .int .i64 i1, .int .i64 i2, .int .i64 i3, .int .i64 i4, .slice A4 n4 c4]) := by rw [Hid, EQ.out, hi1, hi2, hi3, hi4]
  rw [EQ2.out]
  clear hv hi1 hi2 hi3 hi4 HP0 EQ HV v
  obtain ⟨w0, hw0⟩ : ∃ x, x = w.alloc (.cells #[.slice A1 n1 c1, .slice A2 n2 c2, .slice A3 n3 c3, .int .i64 i1, .int .i64 i2, .int .i64 i3, .int .i64 i4, .slice A4 n4 c4] 26) := ⟨_, rfl⟩
  obtain ⟨g4, hg4⟩ : ∃ x, x = w.heap.size := ⟨_, rfl⟩
  have C0 : Hid (Chg (fun _ => False) w w0) := by rw [hw0]; exact (Chg.refl _ w).alloc _
  have B4 : Hid (Blk w0 g4 26 [.slice A1 n1 c1, .slice A2 n2 c2, .slice A3 n3 c3, .int .i64 i1, .int .i64 i2, .int .i64 i3, .int .i64 i4, .slice A4 n4 c4]) := by rw [hw0, hg4]; exact Blk.new _ _ _
  have G4 := Lib.hid hg4
  have hD4 : Hid (¬ D g4) := fun h => by
    have h1 := hu.out.lt _ h
    have h2 := G4.out
    omega
  by_cases h2 : 2 ≤ n
  · have d1 : ¬ (n : Int) - 1 < 1 := by omega
    have d2 : decide ((n : Int) - 1 < 1) = false := decide_eq_false (by omega)
    have dw : IntKind.i64.wrap ((n : Int) - 1) = (n : Int) - 1 := IntWalk.i64_in _ (by omega)
    go_enter Tryd.func27, Tryd.ntmps27
    go_wp2_with fail
    rw [← hw0, ← hg4]
    clear hw0 hg4
    go_loopw [8, 9, 17] (fun _ _ i wr => ∃ k : Nat, k ≤ n ∧ i = .int .i64 k ∧ Hid (∀ j (h : j < l.length), j < k → GoodI p l.length j l[j]) ∧ Hid (Uses wr D g p (L ++ l.take k)) ∧ Hid (Chg D w0 wr)) (fun _ _ i _ => n - (intOf i).toNat)
    case atStart => exact ⟨0, Nat.zero_le _, rfl, fun j h h' => absurd h' (by omega), by rw [Hid, List.take_zero, List.append_nil]; exact hu.out.chg0 C0.out, Chg.refl _ _⟩
    case round =>
      obtain ⟨k, hk, rfl, hg, UK, CK⟩ := hrel
      have CW : Hid (Chg D w wr) := (C0.out.mono (T := D) (fun _ _ h => h.elim)).trans CK.out (fun _ _ h => h)
      by_cases hlt : k < n
      · have h1 : k < l.length := by have := HN.out; omega
        obtain ⟨j0, j1, j2⟩ := insCells_get l k h1
        obtain ⟨a1, e1, hc1⟩ := hr.out wr CW.out _ _ j0
        obtain ⟨a2, e2, hc2⟩ := hr.out wr CW.out _ _ j1
        obtain ⟨a3, e3, hc3⟩ := hr.out wr CW.out _ _ j2
        subst e1
        cases e2
        cases e3
        obtain ⟨x, hx0⟩ : ∃ x, x = l[k] := ⟨_, rfl⟩
        rw [← hx0] at hc1 hc2 hc3
        rw [← add1] at hc2
        rw [← add2] at hc3
        have HX := Lib.hid hx0
        have f4 : ∀ i u, [Value.slice A1 n1 c1, .slice A2 n2 c2, .slice A3 n3 c3, .int .i64 i1, .int .i64 i2, .int .i64 i3, .int .i64 i4, .slice A4 n4 c4][i]? = some u → wr.cell? ⟨g4, i, none⟩ = some u := fun i u h => (B4.out.chg CK.out hD4.out).at_ h
        have B4r := Lib.hid (B4.out.chg CK.out hD4.out)
        clear f4 hx0 j0 j1 j2
        obtain ⟨xo, xa, xb⟩ := x
        simp only at hc1 hc2 hc3
        obtain ⟨wx, hwx⟩ : ∃ y, y = wr.alloc (.cells #[.int .i64 xo, .int .i64 xa, .int .i64 xb] 47) := ⟨_, rfl⟩
        obtain ⟨g9, hg9⟩ : ∃ y, y = wr.heap.size := ⟨_, rfl⟩
        have CX : Hid (Chg (fun _ => False) wr wx) := by rw [hwx]; exact (Chg.refl _ wr).alloc _
        have B9 : Hid (Blk wx g9 47 [.int .i64 xo, .int .i64 xa, .int .i64 xb]) := by rw [hwx, hg9]; exact Blk.new _ _ _
        have CWX : Hid (Chg D w wx) := CW.out.trans (CX.out.mono (T := D) (fun _ _ h => h.elim)) (fun _ _ h => h)
        have KX : Hid (KindsAt wx) := hs.out.k wx CWX.out
        have b1 : (0 : Int) ≤ (k : Int) := by omega
        have b2 : (k : Int) < (n : Int) := by omega
        obtain ⟨er, her⟩ : ∃ e, validE ⟨xo, xa, xb⟩ = e := ⟨_, rfl⟩
        have HER := Lib.hid her
        have hor : er = 0 ∨ er = 111 := by rw [← her]; exact validE_or _
        obtain ⟨z1, hz1⟩ : ∃ b, (xo == 0) = b := ⟨_, rfl⟩
        obtain ⟨z2, hz2⟩ : ∃ b, ((k : Int) == (n : Int) - 1) = b := ⟨_, rfl⟩
        have HZ1 := Lib.hid hz1
        have HZ2 := Lib.hid hz2
        have FIN : Hid ((z1 = z2) ↔ (xo = 0 ↔ k + 1 = l.length)) := Lib.hid (by
          rw [← hz1, ← hz2, Bool.eq_iff_iff]
          simp only [beq_iff_eq]
          rw [← HN.out]
          constructor
          · intro h
            exact ⟨fun e => by have := h.1 e; omega, fun e => h.2 (by omega)⟩
          · intro h
            exact ⟨fun e => by have := h.1 e; omega, fun e => h.2 (by omega)⟩)
        have NO : Hid (¬ GoodI p l.length k ⟨xo, xa, xb⟩ → false = b) := Lib.hid (fun h => b_false hb.out (fun h3 => h (by rw [HX.out]; exact h3.2 k h1)))
        clear her
        rcases hor with rfl | rfl
        · have HV : Hid (ValidP ⟨xo, xa, xb⟩) := validE_0.1 HER.out
          have ha0 : 0 ≤ xa := HV.out.2.1.1
          by_cases hzz : z1 = z2
          · obtain ⟨bi, hbi⟩ := some_b (InsP p ⟨xo, xa, xb⟩)
            have HBI := Lib.hid hbi
            have HFI := Lib.hid (FIN.out.1 hzz)
            subst hzz
            clear hbi
            cases bi
            · go_wp2_with fail
              rw [← hwx, ← hg9]
              clear hwx hg9
              refine (codeValid KX HER).mono ?_
              rintro e w2 ⟨rfl, cc⟩
              have CC : Hid (Chg (fun _ => False) wx w2) := cc
              clear cc
              have t0 := (B9.out.chg CC.out (fun h => h)).at_ (i := 0) rfl
              have t1 := (B9.out.chg CC.out (fun h => h)).at_ (i := 1) rfl
              have t2 := (B9.out.chg CC.out (fun h => h)).at_ (i := 2) rfl
              have B42 := Lib.hid ((B4r.out.chg CX.out (fun h => h)).chg CC.out (fun h => h))
              have y0 := B42.out.at_ (i := 0) rfl
              have y1 := B42.out.at_ (i := 1) rfl
              have y2 := B42.out.at_ (i := 2) rfl
              have y3 := B42.out.at_ (i := 3) rfl
              have y4 := B42.out.at_ (i := 4) rfl
              have y5 := B42.out.at_ (i := 5) rfl
              have y6 := B42.out.at_ (i := 6) rfl
              have y7 := B42.out.at_ (i := 7) rfl
              have CW2 : Hid (Chg D w w2) := CWX.out.trans (CC.out.mono (T := D) (fun _ _ h => h.elim)) (fun _ _ h => h)
              have U2 : Hid (Uses w2 D g p (L ++ l.take k)) := (UK.out.chg0 CX.out).chg0 CC.out
              go_wp2_with fail
              refine (show Calls Tryd.prog 53 #[.pointer (some ⟨g, 0, none⟩), .agg #[.slice A1 n1 c1, .slice A2 n2 c2, .slice A3 n3 c3, .int .i64 i1, .int .i64 i2, .int .i64 i3, .int .i64 i4, .slice A4 n4 c4], .agg #[.int .i64 xo, .int .i64 xa, .int .i64 xb]] _ _ from by rw [← EQ2.out]; exact usesIns (x := ⟨xo, xa, xb⟩) U2 (Lib.hid (hs.out.p w2 CW2.out)) ok ha0 HBI).mono ?_
              rintro e w3 ⟨rfl, _, c3'⟩
              have CW3 : Hid (Chg D w w3) := CW2.out.trans c3' (fun _ _ h => h)
              clear c3'
              go_wp2_with fail
              go_ret
              exact ⟨ret_bool (NO.out (fun h => absurd (HBI.out.2 h.ins) (by decide))), (fun h => by rw [← NO.out (fun h => absurd (HBI.out.2 h.ins) (by decide))] at h; cases h), CW3.out⟩
            · go_wp2_with fail
              rw [← hwx, ← hg9]
              clear hwx hg9
              refine (codeValid KX HER).mono ?_
              rintro e w2 ⟨rfl, cc⟩
              have CC : Hid (Chg (fun _ => False) wx w2) := cc
              clear cc
              have t0 := (B9.out.chg CC.out (fun h => h)).at_ (i := 0) rfl
              have t1 := (B9.out.chg CC.out (fun h => h)).at_ (i := 1) rfl
              have t2 := (B9.out.chg CC.out (fun h => h)).at_ (i := 2) rfl
              have B42 := Lib.hid ((B4r.out.chg CX.out (fun h => h)).chg CC.out (fun h => h))
              have y0 := B42.out.at_ (i := 0) rfl
              have y1 := B42.out.at_ (i := 1) rfl
              have y2 := B42.out.at_ (i := 2) rfl
              have y3 := B42.out.at_ (i := 3) rfl
              have y4 := B42.out.at_ (i := 4) rfl
              have y5 := B42.out.at_ (i := 5) rfl
              have y6 := B42.out.at_ (i := 6) rfl
              have y7 := B42.out.at_ (i := 7) rfl
              have CW2 : Hid (Chg D w w2) := CWX.out.trans (CC.out.mono (T := D) (fun _ _ h => h.elim)) (fun _ _ h => h)
              have U2 : Hid (Uses w2 D g p (L ++ l.take k)) := (UK.out.chg0 CX.out).chg0 CC.out
              go_wp2_with fail
              refine (show Calls Tryd.prog 53 #[.pointer (some ⟨g, 0, none⟩), .agg #[.slice A1 n1 c1, .slice A2 n2 c2, .slice A3 n3 c3, .int .i64 i1, .int .i64 i2, .int .i64 i3, .int .i64 i4, .slice A4 n4 c4], .agg #[.int .i64 xo, .int .i64 xa, .int .i64 xb]] _ _ from by rw [← EQ2.out]; exact usesIns (x := ⟨xo, xa, xb⟩) U2 (Lib.hid (hs.out.p w2 CW2.out)) ok ha0 HBI).mono ?_
              rintro e w3 ⟨rfl, hu3, c3'⟩
              have U3 := Lib.hid (hu3 rfl)
              have C03 : Hid (Chg D w0 w3) := ((CK.out.trans (CX.out.mono (T := D) (fun _ _ h => h.elim)) (fun _ _ h => h)).trans (CC.out.mono (T := D) (fun _ _ h => h.elim)) (fun _ _ h => h)).trans c3' (fun _ _ h => h)
              clear c3' hu3
              go_wp2_with fail
              go_roundw
              case rel =>
                refine ⟨k + 1, by omega, by go_num, fun j h hj => ?_, ?_, C03.out⟩
                · by_cases hjk : j < k
                  · exact hg.out j h hjk
                  · obtain rfl : j = k := by omega
                    rw [← HX.out]
                    exact ⟨HV.out, HFI.out, HBI.out.1 rfl⟩
                · rw [Hid, List.take_succ_eq_append_getElem h1, ← HX.out, ← List.append_assoc]
                  exact U3.out
              case measure => simp [intOf]; omega
          · have HNF : Hid (false = b) := NO.out (fun h => hzz (FIN.out.2 h.fin))
            go_wp2_with fail
            rw [← hwx, ← hg9]
            clear hwx hg9
            refine (codeValid KX HER).mono ?_
            rintro e w2 ⟨rfl, cc⟩
            have CC : Hid (Chg (fun _ => False) wx w2) := cc
            clear cc
            have t0 := (B9.out.chg CC.out (fun h => h)).at_ (i := 0) rfl
            have CW2 : Hid (Chg D w w2) := CWX.out.trans (CC.out.mono (T := D) (fun _ _ h => h.elim)) (fun _ _ h => h)
            go_wp2_with fail
            go_ret
            exact ⟨ret_bool HNF.out, (fun h => by rw [← HNF.out] at h; cases h), CW2.out⟩
        · have HNF : Hid (false = b) := NO.out (fun h => by have h3 := validE_0.2 h.valid; rw [HER.out] at h3; exact absurd h3 (by decide))
          go_wp2_with fail
          rw [← hwx, ← hg9]
          clear hwx hg9
          refine (codeValid KX HER).mono ?_
          rintro e w2 ⟨rfl, cc⟩
          have CW2 : Hid (Chg D w w2) := CWX.out.trans (Chg.mono (T := D) cc (fun _ _ h => h.elim)) (fun _ _ h => h)
          clear cc
          go_wp2_with fail
          go_ret
          exact ⟨ret_bool HNF.out, (fun h => by rw [← HNF.out] at h; cases h), CW2.out⟩
      · obtain rfl : k = n := by omega
        have HT : Hid (true = b) := b_true hb.out ⟨by rw [← HN.out]; exact h2, fun i h => hg.out i h (by rw [HN.out]; exact h)⟩
        go_wp2_with fail
        go_ret
        refine ⟨ret_bool HT.out, fun _ => ?_, CW.out⟩
        have h3 := UK.out
        rw [List.take_of_length_le (by rw [HN.out]; exact Nat.le_refl _)] at h3
        exact h3
  · have d1 : (n : Int) - 1 < 1 := by omega
    have d2 : decide ((n : Int) - 1 < 1) = true := decide_eq_true (by omega)
    have dw : IntKind.i64.wrap ((n : Int) - 1) = (n : Int) - 1 := IntWalk.i64_in _ (by omega)
    have HF : Hid (false = b) := b_false hb.out (fun h => h2 (by rw [HN.out]; exact h.1))
    clear h2
    go_enter Tryd.func27, Tryd.ntmps27
    go_wp2_with fail
    rw [← hw0]
    go_ret
    exact ⟨ret_bool HF.out, (fun h => by rw [← HF.out] at h; cases h), C0.out.mono (fun _ _ h => h.elim)⟩
end Go.Proofs.YtkadamoofiddeaaDoor.Kit
