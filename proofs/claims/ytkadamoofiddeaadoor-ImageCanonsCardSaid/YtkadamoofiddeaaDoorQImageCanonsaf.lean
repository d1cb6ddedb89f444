/- Texts that the row leans on: PgO, PgI, PcO. -/
import Derived.Test.YtkadamoofiddeaaDoorProg
import Derived.Test.YtkadamoofiddeaaDoorQImageCanonsab
import Derived.Deep.RegionLaw
import Derived.Deep.DeepCutAuto
import Derived.Deep.LoopGhost
import Derived.Laws.MakeOwn
import Derived.Test.YtkadamoofiddeaaDoorQImageCanonsae
import Derived.Deep.RegionHeld3
-- Programs: a program in new memory, with something behind the ends of its lists (own).
set_option linter.unusedVariables false
set_option linter.unusedSimpArgs false
namespace Go.Proofs.YtkadamoofiddeaaDoor.Kit
open Go.RowKit
theorem run_make0 {P : Program} (t e : TypeId) (z : Value) (sz bytes : Nat) (ht : P.underlying t = some (.slice e)) (hinfo : (P.info? e).map (fun i => (i.zero, i.size, i.bytes)) = some (some z, sz, bytes)) (m : Nat) (hb : bytes * m ≤ 281474976710656) (h63 : m ≤ 9223372036854775807) (W : World) :
    (Instr.makeSlice t (.int .i64 0) (.int .i64 (m : Int))).run P W = .ok (.slice (some ⟨W.heap.size, 0, none⟩) 0 m) (W.alloc (.cells (madeCells z.cells (m * sz)) e)) := by
  obtain ⟨i, hi, hzz⟩ := Option.map_eq_some_iff.1 hinfo
  simp only [Prod.mk.injEq] at hzz
  obtain ⟨hz, hs, hbb⟩ := hzz
  have hb' : (i.bytes : Int) * (m : Int) ≤ 281474976710656 := by
    rw [hbb]
    have h : ((bytes * m : Nat) : Int) ≤ 281474976710656 := by omega
    rwa [Int.natCast_mul] at h
  have hr := run_make (P := P) W t e i z ht hi hz .i64 .i64 0 m (Int.le_refl _) (by omega) hb' (by omega)
  simp only [Int.toNat_natCast, hs, Int.toNat_zero] at hr
  exact hr
theorem OwnV.made0 (W : World) (e : TypeId) (z : Array Value) (sz m b : Nat) (hb : b = W.heap.size) (hm : m ≤ maxLen) : OwnV (W.alloc (.cells (madeCells z (m * sz)) e)) e sz (.slice (some ⟨b, 0, none⟩) 0 m) 0 [] := by
  subst hb
  refine ⟨by simp, .inr ⟨W.heap.size, m, (madeCells z (m * sz)).toList, rfl, ?_, Nat.zero_le _, hm, ?_, by simp⟩⟩
  · have := Blk.new W (madeCells z (m * sz)) e
    exact this
  · rw [Array.length_toList, size_madeCells]
    exact Nat.le_refl _
section
variable {P : Program} {ops : Array Oper} {rest : List Oper} {o : Oper} {a : Act} {Q : Exit → Act → World → Prop}
/-- append(v, src...) in a region -/
theorem st_appG {W : World} {K : Act → World → Prop} {E : Prop} (hgd : o.guard = none) (s x : Operand) (t e : TypeId) (z : Value) (sz bytes : Nat)
    (ho : o.op = .call { callee := .builtin .append, args := #[s, x], argTypes := #[t, t] })
    (ht : P.underlying t = some (.slice e)) (hinfo : (P.info? e).map (fun i => (i.zero, i.size, i.bytes)) = some (some z, sz, bytes)) (hzs : z.cells.size = sz) (hsz : 0 < sz) (hby : 0 < bytes)
    (v : Value) (n : Nat) (cs : List Value) (hs : a.eval s = v) (hown : OwnV W e sz v n cs)
    (A : Option Addr) (m c : Nat) (news : List Value) (hx : a.eval x = .slice A m c) (hl : news.length = m * sz) (hnews : RdG W A news) (h1 : ∀ u ∈ news, u.oneCell' = true)
    (hbytes : (n + m) * bytes ≤ 140737488355328)
    (h : ∀ v' w', OwnV w' e sz v' (n + m) (cs ++ news) → Chg (fun k => v.ownBlock = some k) W w' → Fresh W v v' → K (a.put o.dst v') w') : if Region.wanted o (yielded ops a.tmps) = true then o.wp P a W K Q else E := by
  rw [if_pos (by simp [Region.wanted, hgd])]
  refine ow_app s x t e z sz bytes ho ht hinfo hzs hsz hby v n cs hs hown A m c news hx hl hnews h1 hbytes fun v' w' h2 h3 h4 h5 => h v' w' h2 h4 (h5.imp id fun h5 g hg => ?_)
  rw [h5] at hg
  injection hg with hg
  omega
/-- append(v, y), y of sz cells: the world is 'W.alloc' of its box -/
theorem wp_appG {W : World} (hgd : o.guard = none) (s x : Operand) (t e : TypeId) (z : Value) (sz bytes : Nat)
    (ho : o.op = .call { callee := .builtin .append, args := #[s, x], argTypes := #[t, t] })
    (ht : P.underlying t = some (.slice e)) (hinfo : (P.info? e).map (fun i => (i.zero, i.size, i.bytes)) = some (some z, sz, bytes)) (hzs : z.cells.size = sz) (hsz : 0 < sz) (hby : 0 < bytes)
    (v : Value) (n : Nat) (cs ys : List Value) (hl : ys.length = sz) (h1 : ∀ u ∈ ys, u.oneCell' = true) (hs : a.eval s = v) (hown : OwnV W e sz v n cs)
    (hx : a.eval x = .slice (some ⟨W.heap.size, 0, none⟩) 1 1) (hbytes : (n + 1) * bytes ≤ 140737488355328)
    (h : ∀ v' w', OwnV w' e sz v' (n + 1) (cs ++ ys) → Chg (fun g => v.ownBlock = some g) W w' → Fresh W v v' → wpList P ops Q rest (a.put o.dst v') w') :
    wpList P ops Q (o :: rest) a (W.alloc (.cells ys.toArray e)) :=
  wpList_plain hgd fun _ hK => by
    refine ow_app (W := W.alloc (.cells ys.toArray e)) s x t e z sz bytes ho ht hinfo hzs hsz hby v n cs hs (hown.chg (S := fun _ => False) ((Chg.refl _ W).alloc _) (fun _ _ h => h)) _ 1 1 ys hx (by rw [hl, Nat.one_mul]) ?_ h1 hbytes fun v' w' h2 h3 h4 h5 => hK _ _ (h v' w' h2 ?_ ?_)
    · intro j u hj
      refine ⟨_, rfl, ?_⟩
      have := (Blk.new' W ys e).cell j
      rw [show (⟨W.heap.size, 0, none⟩ : Addr).add j = ⟨W.heap.size, j, none⟩ from by unfold Addr.add; split <;> simp_all, this]
      exact hj
    · exact ((Chg.refl _ W).alloc _).trans h4 (fun _ _ h => h)
    · rcases h5 with h5 | h5
      · exact .inl h5
      · refine .inr fun g hg => ?_
        rw [h5] at hg
        injection hg with hg
        simp at hg
        omega
end
theorem Chg.store0 {w w1 : World} (h : Chg (fun _ => False) w w1) (b i : Nat) (v : Value) : Chg (fun x => x = b) w (w1.setCell ⟨b, i, none⟩ v) :=
  (h.mono (T := fun x => x = b) (fun _ _ h => h.elim)).setCell (p := ⟨b, i, none⟩) (fun _ => rfl) v
theorem infoStr : (Tryd.prog.info? 9).map (fun i => (i.zero, i.size, i.bytes)) = some (some (.string ByteArray.empty), 1, 16) := by kernel_rfl
theorem infoI : (Tryd.prog.info? 3).map (fun i => (i.zero, i.size, i.bytes)) = some (some (.int .i64 0), 1, 8) := by kernel_rfl
theorem infoIns : (Tryd.prog.info? 47).map (fun i => (i.zero, i.size, i.bytes)) = some (some (.agg #[.int .i64 0, .int .i64 0, .int .i64 0]), 3, 24) := by kernel_rfl
theorem infoSeg : (Tryd.prog.info? 42).map (fun i => (i.zero, i.size, i.bytes)) = some (some (.agg #[.int .i64 0, .slice none 0 0]), 2, 32) := by kernel_rfl
theorem strs_cell (l : List ByteArray) : ∀ u ∈ strs l, u.oneCell' = true := by
  intro u hu
  simp only [strs, List.mem_map] at hu
  obtain ⟨q, _, rfl⟩ := hu
  rfl
theorem ins_cell (l : List InsV) : ∀ u ∈ insCells l, u.oneCell' = true := by
  intro u hu
  simp only [insCells, List.mem_flatMap] at hu
  obtain ⟨q, _, hq⟩ := hu
  simp at hq
  rcases hq with rfl | rfl | rfl <;> rfl
/-- the list in a field of the copy: marked, and typed -/
structure Cop (w : World) (v : Value) (e : TypeId) (sz n : Nat) (cs mark : List Value) : Prop where
  sl : SlG w v sz n cs
  mg : MkG w v n cs mark
  ty : ∀ g, v.ownBlock = some g → ∃ cur, Blk w g e cur
theorem Cop.chg {w w1 : World} {v : Value} {e : TypeId} {sz n : Nat} {cs mark : List Value} {S : Nat → Prop} (h : Cop w v e sz n cs mark) (c : Chg S w w1) (hS : ∀ g, v.ownBlock = some g → ¬ S g) : Cop w1 v e sz n cs mark :=
  ⟨h.sl.chg c hS, h.mg.chg c hS, fun g hg => by obtain ⟨cur, hb⟩ := h.ty g hg; exact ⟨cur, hb.chg c (hS g hg)⟩⟩
/-- nil stays nil -/
theorem Cop.nil {w : World} {n c : Nat} {e : TypeId} {sz : Nat} {cs mark : List Value} (hc : n ≤ c) (hm : c ≤ maxLen) (hl : cs.length = n * sz) (hr : RdG w none cs) : Cop w (.slice none n c) e sz n cs mark :=
  ⟨⟨⟨none, c, rfl, hc, hm, hr⟩, hl⟩, .inl ⟨c, rfl⟩, fun g hg => by simp [Value.ownBlock] at hg⟩
/-- a row of n + 1 elements, cut to n -/
theorem Cop.of {w : World} {A : Option Addr} {n c : Nat} {e : TypeId} {sz : Nat} {cs mark : List Value} (hl : cs.length = n * sz) (hm : 0 < mark.length) (h : OwnV w e sz (.slice A (n + 1) c) (n + 1) (cs ++ mark)) : ∃ ad, A = some ad ∧ Cop w (.slice (some ad) n c) e sz n cs mark := by
  obtain ⟨A', c', hv, hc, hx⟩ := h.slice
  simp only [Value.slice.injEq] at hv
  obtain ⟨rfl, _, rfl⟩ := hv
  have hr := h.toG
  obtain ⟨ad, rfl⟩ := hr.some_of (by rw [List.length_append]; omega)
  exact ⟨ad, rfl, ⟨⟨some ad, c, rfl, by omega, hx, hr.left⟩, hl⟩, .inr ⟨ad, c, rfl, hc, hr⟩, fun g hg => h.typed g hg⟩
/-- the boxes of own: the parameter, the result, the copy -/
structure OwnW (wx : World) (B : Nat) (p v : List Value) : Prop where
  box : Blk wx B 26 p
  res : Blk wx (B + 1) 26 [.slice none 0 0, .slice none 0 0, .slice none 0 0, .int .i64 0, .int .i64 0, .int .i64 0, .int .i64 0, .slice none 0 0]
  cop : Blk wx (B + 1 + 1) 26 v
theorem OwnW.chg {wx w1 : World} {B : Nat} {p v : List Value} {S : Nat → Prop} (h : OwnW wx B p v) (c : Chg S wx w1) (hS : ¬ S B ∧ ¬ S (B + 1) ∧ ¬ S (B + 1 + 1)) : OwnW w1 B p v := ⟨h.box.chg c hS.1, h.res.chg c hS.2.1, h.cop.chg c hS.2.2⟩
theorem OwnW.set {wx : World} {B : Nat} {p v : List Value} (h : OwnW wx B p v) (i : Nat) (x : Value) : OwnW (wx.setCell ⟨B + 1 + 1, i, none⟩ x) B p (v.set i x) :=
  ⟨h.box.set_other (p := ⟨B + 1 + 1, i, none⟩) (by show B ≠ B + 1 + 1; omega) x, h.res.set_other (p := ⟨B + 1 + 1, i, none⟩) (by show B + 1 ≠ B + 1 + 1; omega) x, h.cop.set i x⟩
/-- a row of other elements is no box -/
theorem OwnW.ne {wx : World} {B n sz : Nat} {p v cs : List Value} {e : TypeId} {u : Value} (h : OwnW wx B p v) (hu : OwnV wx e sz u n cs) (he : e ≠ 26) : ¬ u.ownBlock = some B ∧ ¬ u.ownBlock = some (B + 1) ∧ ¬ u.ownBlock = some (B + 1 + 1) := ⟨hu.type_ne h.box he, hu.type_ne h.res he, hu.type_ne h.cop he⟩

set_option maxRecDepth 20000 in
set_option maxHeartbeats 6400000 in
theorem ownP {s : ProgS} {p : ProgV} {w : World} (hp : Hid (RdProg w s p)) (sp : SmallP p) :
    Calls Tryd.prog 9 #[progVal s p] w fun e w' => ∃ s', e = .returned (progVal s' p) ∧ RdProg w' s' p ∧ Marked w' s' p ∧ Chg (fun _ => False) w w' := by
  obtain ⟨n1, n2, n3, n4, A1, A2, A3, A4, c1, c2, c3, c4, HP0⟩ := hp.out.apart
  have HP := Lib.hid HP0
  rw [HP.out.eq]
  have S1 : n1 * 16 ≤ 140737488351232 := by have := HP0.ln; have := sp.names; omega
  have S2 : n2 * 16 ≤ 140737488351232 := by have := HP0.lc; have := sp.curs; omega
  have S3 : n3 * 8 ≤ 140737488351232 := by have := HP0.lk; have := sp.pool; omega
  have S4 : n4 * 32 ≤ 140737488351232 := by have := HP0.ld; have := sp.days; omega
  have SC : Hid (∀ x ∈ p.days, x.code.length * 24 ≤ 140737488351232) := sp.code
  have LN : Hid ((strs p.names).length = n1 * 1) := by rw [Hid, strs_length, HP0.ln, Nat.mul_one]
  have LC : Hid ((strs p.curs).length = n2 * 1) := by rw [Hid, strs_length, HP0.lc, Nat.mul_one]
  have LK : Hid ((nums .i64 p.pool).length = n3 * 1) := by rw [Hid, nums_length, HP0.lk, Nat.mul_one]
  have LD := Lib.hid HP0.ld
  have q1 := HP0.hn
  have q2 := HP0.hc
  have q3 := HP0.hk
  have q4 := HP0.hd
  obtain ⟨i1, hi1⟩ : ∃ x, x = p.horizon := ⟨_, rfl⟩
  obtain ⟨i2, hi2⟩ : ∃ x, x = p.cells := ⟨_, rfl⟩
  obtain ⟨i3, hi3⟩ : ∃ x, x = p.slots := ⟨_, rfl⟩
  obtain ⟨i4, hi4⟩ : ∃ x, x = p.stack := ⟨_, rfl⟩
  rw [← hi1, ← hi2, ← hi3, ← hi4]
  have HI : Hid (i1 = p.horizon ∧ i2 = p.cells ∧ i3 = p.slots ∧ i4 = p.stack) := ⟨hi1, hi2, hi3, hi4⟩
  clear hi1 hi2 hi3 hi4 HP0
  obtain ⟨B, hB⟩ : ∃ B, B = w.heap.size := ⟨_, rfl⟩
  have HB := Lib.hid hB
  obtain ⟨PV, hPV⟩ : ∃ l : List Value, l = [.slice A1 n1 c1, .slice A2 n2 c2, .slice A3 n3 c3, .int .i64 i1, .int .i64 i2, .int .i64 i3, .int .i64 i4, .slice A4 n4 c4] := ⟨_, rfl⟩
  have HPV := Lib.hid hPV
  obtain ⟨w0, hw0⟩ : ∃ x, x = ((w.alloc (.cells #[.slice A1 n1 c1, .slice A2 n2 c2, .slice A3 n3 c3, .int .i64 i1, .int .i64 i2, .int .i64 i3, .int .i64 i4, .slice A4 n4 c4] 26)).alloc (.cells #[.slice none 0 0, .slice none 0 0, .slice none 0 0, .int .i64 0, .int .i64 0, .int .i64 0, .int .i64 0, .slice none 0 0] 26)).alloc (.cells #[.slice A1 n1 c1, .slice A2 n2 c2, .slice A3 n3 c3, .int .i64 i1, .int .i64 i2, .int .i64 i3, .int .i64 i4, .slice A4 n4 c4] 26) := ⟨_, rfl⟩
  have C0 : Hid (Chg (fun _ => False) w w0) := by rw [hw0]; exact (((Chg.refl _ w).alloc _).alloc _).alloc _
  have W0 : Hid (OwnW w0 B PV [Value.slice A1 n1 c1, Value.slice A2 n2 c2, Value.slice A3 n3 c3, Value.int .i64 i1, Value.int .i64 i2, Value.int .i64 i3, Value.int .i64 i4, Value.slice A4 n4 c4]) := by
    rw [hw0, hB, hPV]
    refine ⟨((Blk.new w _ _).alloc _).alloc _, ?_, ?_⟩
    · have hh := Blk.new (w.alloc (.cells #[.slice A1 n1 c1, .slice A2 n2 c2, .slice A3 n3 c3, .int .i64 i1, .int .i64 i2, .int .i64 i3, .int .i64 i4, .slice A4 n4 c4] 26)) #[.slice none 0 0, .slice none 0 0, .slice none 0 0, .int .i64 0, .int .i64 0, .int .i64 0, .int .i64 0, .slice none 0 0] 26
      rw [show (w.alloc (.cells #[.slice A1 n1 c1, .slice A2 n2 c2, .slice A3 n3 c3, .int .i64 i1, .int .i64 i2, .int .i64 i3, .int .i64 i4, .slice A4 n4 c4] 26)).heap.size = w.heap.size + 1 by simp] at hh
      exact hh.alloc _
    · have hh := Blk.new ((w.alloc (.cells #[.slice A1 n1 c1, .slice A2 n2 c2, .slice A3 n3 c3, .int .i64 i1, .int .i64 i2, .int .i64 i3, .int .i64 i4, .slice A4 n4 c4] 26)).alloc (.cells #[.slice none 0 0, .slice none 0 0, .slice none 0 0, .int .i64 0, .int .i64 0, .int .i64 0, .int .i64 0, .slice none 0 0] 26)) #[.slice A1 n1 c1, .slice A2 n2 c2, .slice A3 n3 c3, .int .i64 i1, .int .i64 i2, .int .i64 i3, .int .i64 i4, .slice A4 n4 c4] 26
      rw [show ((w.alloc (.cells #[.slice A1 n1 c1, .slice A2 n2 c2, .slice A3 n3 c3, .int .i64 i1, .int .i64 i2, .int .i64 i3, .int .i64 i4, .slice A4 n4 c4] 26)).alloc (.cells #[.slice none 0 0, .slice none 0 0, .slice none 0 0, .int .i64 0, .int .i64 0, .int .i64 0, .int .i64 0, .slice none 0 0] 26)).heap.size = w.heap.size + 1 + 1 by simp] at hh
      exact hh
  go_enter Tryd.func9, Tryd.ntmps9
  have bx := (show w0.cell? ⟨B, 0, none⟩ = some (.slice A1 n1 c1) from W0.out.box.at_ (i := 0) (by rw [hPV]; rfl))
  obtain ⟨e1, he1⟩ : ∃ b, b = (!A1.isNone) := ⟨_, rfl⟩
  have HE1 := Lib.hid he1
  have hn1 : ∀ W : World, (binOp .neq 22 (.slice A1 n1 c1) (.slice none 0 0)).run Tryd.prog W = .ok (.bool e1) W := fun W => by rw [HE1.out]; exact run_neq_slice_nil_any W _ _ A1 n1 c1 0 0 Tryd.underlying22
  clear he1
  go_upto_if 13 with fail
  rw [← hw0, ← hB]
  clear hw0 hB hPV hn1
  go_cut [] from 4 to 123 (fun wx => ∃ X1 y1, Hid (OwnW wx B PV [Value.slice X1 n1 y1, Value.slice A2 n2 c2, Value.slice A3 n3 c3, Value.int .i64 i1, Value.int .i64 i2, Value.int .i64 i3, Value.int .i64 i4, Value.slice A4 n4 c4]) ∧ Hid (Cop wx (.slice X1 n1 y1) 9 1 n1 (strs p.names) [Value.string behind]) ∧ Hid (Chg (fun _ => False) w wx))
  case first =>
    rcases A1 with _ | a1
    · obtain rfl : e1 = false := HE1.out
      go_wp2_with fail
      go_meet
      case rel => exact ⟨none, c1, W0.out, Cop.nil q1 (HP.out.mn) LN.out (HP.out.rn.chg0 C0.out), C0.out⟩
    · obtain rfl : e1 = true := HE1.out
      obtain ⟨ob, hob⟩ : ∃ ob, ob = Obj.cells (madeCells (Value.cells (.string ByteArray.empty)) ((n1 + 1) * 1)) 9 := ⟨_, rfl⟩
      have hmk : ∀ W : World, (Instr.makeSlice 22 (.int .i64 0) (.int .i64 ((n1 : Int) + 1))).run Tryd.prog W = .ok (.slice (some ⟨W.heap.size, 0, none⟩) 0 (n1 + 1)) (W.alloc ob) := fun W => by
        rw [hob]
        have hh := run_make0 (P := Tryd.prog) 22 9 (.string ByteArray.empty) 1 16 Tryd.underlying22 infoStr (n1 + 1) (by omega) (by omega) W
        rw [show ((n1 + 1 : Nat) : Int) = (n1 : Int) + 1 by omega] at hh
        exact hh
      have hwr : IntKind.i64.wrap ((n1 : Int) + 1) = (n1 : Int) + 1 := IntWalk.i64_in _ (by omega)
      have hmx : Hid (n1 + 1 ≤ maxLen) := Nat.le_trans (show n1 + 1 ≤ 140737488351232 by omega) (by decide)
      have RA : Hid (RdG w0 (some a1) (strs p.names)) := HP.out.rn.chg0 C0.out
      have OM : Hid (OwnV (w0.alloc ob) 9 1 (.slice (some ⟨w0.heap.size, 0, none⟩) 0 (n1 + 1)) 0 []) := by rw [hob]; exact OwnV.made0 w0 9 (Value.cells (.string ByteArray.empty)) 1 (n1 + 1) w0.heap.size rfl hmx.out
      clear hob
      have bxa : (w0.alloc ob).cell? ⟨B, 0, none⟩ = some (.slice (some a1) n1 c1) := ((Chg.refl (fun _ => False) w0).alloc _).cell (p := ⟨B, 0, none⟩) (fun h => h) bx
      go_wp2_with fail
      go_region_law ((refine st_appG rfl _ _ 22 9 (.string ByteArray.empty) 1 16 rfl Tryd.underlying22 infoStr rfl (by decide) (by decide) (.slice (some ⟨w0.heap.size, 0, none⟩) 0 (n1 + 1)) 0 [] rfl (OM.out.chg (S := fun _ => False) (by repeat (first | exact Chg.refl _ _ | refine Chg.drew ?_ | refine Chg.drewN ?_ _ | refine Chg.alloc ?_ _)) (fun _ _ h => h)) (some a1) n1 c1 (strs p.names) rfl LN.out (RA.out.chg0 (by repeat (first | exact Chg.refl _ _ | refine Chg.drew ?_ | refine Chg.drewN ?_ _ | refine Chg.alloc ?_ _))) (strs_cell _) (by omega) ?_; intro v' w4 k1 k2 k3; (try simp only [List.nil_append, Nat.zero_add] at k1); obtain ⟨A4', c4', rfl, hc4, _⟩ := k1.slice; have K1 := Lib.hid k1; have C4 : Hid (Chg (fun _ => False) w0 w4) := (((Chg.refl (fun _ => False) w0).alloc ob).drew).fresh k2 (blk_ge (Nat.le_refl _)); have F4 : Hid (∀ g, Value.ownBlock (.slice A4' n1 c4') = some g → w0.heap.size ≤ g) := k3.ge (blk_ge (Nat.le_refl _)) (by simp); clear k1 k2 k3; have W4 : Hid (OwnW w4 B PV [Value.slice (some a1) n1 c1, Value.slice A2 n2 c2, Value.slice A3 n3 c3, Value.int .i64 i1, Value.int .i64 i2, Value.int .i64 i3, Value.int .i64 i4, Value.slice A4 n4 c4]) := W0.out.chg C4.out ⟨id, id, id⟩; have bx4 := W4.out.box.at_ (i := 0) (by rw [HPV.out]; rfl)))
      all_goals
        go_wp2_with (at_builtin; go_must (refine wp_appG rfl _ _ 22 9 (.string ByteArray.empty) 1 16 rfl Tryd.underlying22 infoStr rfl (by decide) (by decide) (.slice A4' n1 c4') n1 (strs p.names) [Value.string behind] rfl (by simp [Value.oneCell']) rfl K1.out rfl (by omega) ?_); intro v5 w5 k1 k2 k3; obtain ⟨A5', c5', rfl, hc5, _⟩ := k1.slice; obtain ⟨ad5, rfl, hcop⟩ := Cop.of LN.out (by decide) k1; have K5 := Lib.hid k1; have CP5 := Lib.hid hcop; have C5 : Hid (Chg (fun _ => False) w0 w5) := C4.out.fresh k2 F4.out; have W5 : Hid (OwnW w5 B PV [Value.slice (some a1) n1 c1, Value.slice A2 n2 c2, Value.slice A3 n3 c3, Value.int .i64 i1, Value.int .i64 i2, Value.int .i64 i3, Value.int .i64 i4, Value.slice A4 n4 c4]) := W4.out.chg k2 (W4.out.ne K1.out (by decide)); have bx5 := W5.out.box.at_ (i := 0) (by rw [HPV.out]; rfl); have y5 := W5.out.cop.at_ (i := 0) rfl; have fy5 := W5.out.cop.frozen (i := 0) (by simp); clear k1 k2 k3 hcop; have bl5 : (n1 : Int) ≤ (c5' : Int) := (by omega))
        have CW : Hid (Chg (fun x => x = B + 1 + 1) w0 (w5.setCell ⟨B + 1 + 1, 0, none⟩ (.slice (some ad5) n1 c5'))) := C5.out.store0 _ _ _
        go_meet
        case rel => exact ⟨some ad5, c5', W5.out.set 0 _, CP5.out.chg (((Chg.refl (fun x => x = B + 1 + 1) w5).setCell (p := ⟨B + 1 + 1, 0, none⟩) (fun _ => rfl) _)) (fun g hg e1 => by obtain ⟨cur, hb⟩ := CP5.out.ty g hg; exact hb.type_ne W5.out.cop (by decide) e1), C0.out.trans CW.out (fun x hx e1 => by have := HB.out; omega)⟩
  case rest =>
    obtain ⟨X1, y1, W1, P1, C1⟩ := hcut
    obtain ⟨w1, hw1⟩ : ∃ x, x = wc := ⟨_, rfl⟩
    subst hw1
    clear W0 C0 bx
    have bx := (show w1.cell? ⟨B, 1, none⟩ = some (.slice A2 n2 c2) from W1.out.box.at_ (i := 1) (by rw [HPV.out]; rfl))
    obtain ⟨e2, he2⟩ : ∃ b, b = (!A2.isNone) := ⟨_, rfl⟩
    have HE2 := Lib.hid he2
    have hn2 : ∀ W : World, (binOp .neq 22 (.slice A2 n2 c2) (.slice none 0 0)).run Tryd.prog W = .ok (.bool e2) W := fun W => by rw [HE2.out]; exact run_neq_slice_nil_any W _ _ A2 n2 c2 0 0 Tryd.underlying22
    clear he2
    go_upto_if 33 with fail
    clear hn2
    go_cut [] from 4 to 123 (fun wx => ∃ X2 y2, Hid (OwnW wx B PV [Value.slice X1 n1 y1, Value.slice X2 n2 y2, Value.slice A3 n3 c3, Value.int .i64 i1, Value.int .i64 i2, Value.int .i64 i3, Value.int .i64 i4, Value.slice A4 n4 c4]) ∧ Hid (Cop wx (.slice X1 n1 y1) 9 1 n1 (strs p.names) [Value.string behind]) ∧ Hid (Cop wx (.slice X2 n2 y2) 9 1 n2 (strs p.curs) [Value.string behind]) ∧ Hid (Chg (fun _ => False) w wx))
    case first =>
      rcases A2 with _ | a2
      · obtain rfl : e2 = false := HE2.out
        go_wp2_with fail
        go_meet
        case rel => exact ⟨none, c2, W1.out, P1.out, Cop.nil q2 (HP.out.mc) LC.out (HP.out.rc.chg0 C1.out), C1.out⟩
      · obtain rfl : e2 = true := HE2.out
        obtain ⟨ob, hob⟩ : ∃ ob, ob = Obj.cells (madeCells (Value.cells (.string ByteArray.empty)) ((n2 + 1) * 1)) 9 := ⟨_, rfl⟩
        have hmk : ∀ W : World, (Instr.makeSlice 22 (.int .i64 0) (.int .i64 ((n2 : Int) + 1))).run Tryd.prog W = .ok (.slice (some ⟨W.heap.size, 0, none⟩) 0 (n2 + 1)) (W.alloc ob) := fun W => by
          rw [hob]
          have hh := run_make0 (P := Tryd.prog) 22 9 (.string ByteArray.empty) 1 16 Tryd.underlying22 infoStr (n2 + 1) (by omega) (by omega) W
          rw [show ((n2 + 1 : Nat) : Int) = (n2 : Int) + 1 by omega] at hh
          exact hh
        have hwr : IntKind.i64.wrap ((n2 : Int) + 1) = (n2 : Int) + 1 := IntWalk.i64_in _ (by omega)
        have hmx : Hid (n2 + 1 ≤ maxLen) := Nat.le_trans (show n2 + 1 ≤ 140737488351232 by omega) (by decide)
        have RA : Hid (RdG w1 (some a2) (strs p.curs)) := HP.out.rc.chg0 C1.out
        have OM : Hid (OwnV (w1.alloc ob) 9 1 (.slice (some ⟨w1.heap.size, 0, none⟩) 0 (n2 + 1)) 0 []) := by rw [hob]; exact OwnV.made0 w1 9 (Value.cells (.string ByteArray.empty)) 1 (n2 + 1) w1.heap.size rfl hmx.out
        clear hob
        have bxa : (w1.alloc ob).cell? ⟨B, 1, none⟩ = some (.slice (some a2) n2 c2) := ((Chg.refl (fun _ => False) w1).alloc _).cell (p := ⟨B, 1, none⟩) (fun h => h) bx
        go_wp2_with fail
        go_region_law ((refine st_appG rfl _ _ 22 9 (.string ByteArray.empty) 1 16 rfl Tryd.underlying22 infoStr rfl (by decide) (by decide) (.slice (some ⟨w1.heap.size, 0, none⟩) 0 (n2 + 1)) 0 [] rfl (OM.out.chg (S := fun _ => False) (by repeat (first | exact Chg.refl _ _ | refine Chg.drew ?_ | refine Chg.drewN ?_ _ | refine Chg.alloc ?_ _)) (fun _ _ h => h)) (some a2) n2 c2 (strs p.curs) rfl LC.out (RA.out.chg0 (by repeat (first | exact Chg.refl _ _ | refine Chg.drew ?_ | refine Chg.drewN ?_ _ | refine Chg.alloc ?_ _))) (strs_cell _) (by omega) ?_; intro v' w4 k1 k2 k3; (try simp only [List.nil_append, Nat.zero_add] at k1); obtain ⟨A4', c4', rfl, hc4, _⟩ := k1.slice; have K1 := Lib.hid k1; have C4 : Hid (Chg (fun _ => False) w1 w4) := (((Chg.refl (fun _ => False) w1).alloc ob).drew).fresh k2 (blk_ge (Nat.le_refl _)); have F4 : Hid (∀ g, Value.ownBlock (.slice A4' n2 c4') = some g → w1.heap.size ≤ g) := k3.ge (blk_ge (Nat.le_refl _)) (by simp); clear k1 k2 k3; have W4 : Hid (OwnW w4 B PV [Value.slice X1 n1 y1, Value.slice (some a2) n2 c2, Value.slice A3 n3 c3, Value.int .i64 i1, Value.int .i64 i2, Value.int .i64 i3, Value.int .i64 i4, Value.slice A4 n4 c4]) := W1.out.chg C4.out ⟨id, id, id⟩; have bx4 := W4.out.box.at_ (i := 1) (by rw [HPV.out]; rfl)))
        all_goals
          go_wp2_with (at_builtin; go_must (refine wp_appG rfl _ _ 22 9 (.string ByteArray.empty) 1 16 rfl Tryd.underlying22 infoStr rfl (by decide) (by decide) (.slice A4' n2 c4') n2 (strs p.curs) [Value.string behind] rfl (by simp [Value.oneCell']) rfl K1.out rfl (by omega) ?_); intro v5 w5 k1 k2 k3; obtain ⟨A5', c5', rfl, hc5, _⟩ := k1.slice; obtain ⟨ad5, rfl, hcop⟩ := Cop.of LC.out (by decide) k1; have K5 := Lib.hid k1; have CP5 := Lib.hid hcop; have C5 : Hid (Chg (fun _ => False) w1 w5) := C4.out.fresh k2 F4.out; have W5 : Hid (OwnW w5 B PV [Value.slice X1 n1 y1, Value.slice (some a2) n2 c2, Value.slice A3 n3 c3, Value.int .i64 i1, Value.int .i64 i2, Value.int .i64 i3, Value.int .i64 i4, Value.slice A4 n4 c4]) := W4.out.chg k2 (W4.out.ne K1.out (by decide)); have bx5 := W5.out.box.at_ (i := 1) (by rw [HPV.out]; rfl); have y5 := W5.out.cop.at_ (i := 1) rfl; have fy5 := W5.out.cop.frozen (i := 1) (by simp); clear k1 k2 k3 hcop; have bl5 : (n2 : Int) ≤ (c5' : Int) := (by omega))
          have CW : Hid (Chg (fun x => x = B + 1 + 1) w1 (w5.setCell ⟨B + 1 + 1, 1, none⟩ (.slice (some ad5) n2 c5'))) := C5.out.store0 _ _ _
          go_meet
          case rel => exact ⟨some ad5, c5', W5.out.set 1 _, P1.out.chg CW.out (fun g hg e1 => by obtain ⟨cur, hb⟩ := P1.out.ty g hg; exact hb.type_ne W1.out.cop (by decide) e1), CP5.out.chg (((Chg.refl (fun x => x = B + 1 + 1) w5).setCell (p := ⟨B + 1 + 1, 1, none⟩) (fun _ => rfl) _)) (fun g hg e1 => by obtain ⟨cur, hb⟩ := CP5.out.ty g hg; exact hb.type_ne W5.out.cop (by decide) e1), C1.out.trans CW.out (fun x hx e1 => by have := HB.out; omega)⟩
    case rest =>
      obtain ⟨X2, y2, W2, P1, P2, C2⟩ := hcut
      obtain ⟨w2, hw2⟩ : ∃ x, x = wc := ⟨_, rfl⟩
      subst hw2
      clear W1 C1 bx
      have bx := (show w2.cell? ⟨B, 2, none⟩ = some (.slice A3 n3 c3) from W2.out.box.at_ (i := 2) (by rw [HPV.out]; rfl))
      obtain ⟨e3, he3⟩ : ∃ b, b = (!A3.isNone) := ⟨_, rfl⟩
      have HE3 := Lib.hid he3
      have hn3 : ∀ W : World, (binOp .neq 23 (.slice A3 n3 c3) (.slice none 0 0)).run Tryd.prog W = .ok (.bool e3) W := fun W => by rw [HE3.out]; exact run_neq_slice_nil_any W _ _ A3 n3 c3 0 0 Tryd.underlying23
      clear he3
      go_upto_if 53 with fail
      clear hn3
      go_cut [] from 4 to 123 (fun wx => ∃ X3 y3, Hid (OwnW wx B PV [Value.slice X1 n1 y1, Value.slice X2 n2 y2, Value.slice X3 n3 y3, Value.int .i64 i1, Value.int .i64 i2, Value.int .i64 i3, Value.int .i64 i4, Value.slice A4 n4 c4]) ∧ Hid (Cop wx (.slice X1 n1 y1) 9 1 n1 (strs p.names) [Value.string behind]) ∧ Hid (Cop wx (.slice X2 n2 y2) 9 1 n2 (strs p.curs) [Value.string behind]) ∧ Hid (Cop wx (.slice X3 n3 y3) 3 1 n3 (nums .i64 p.pool) [Value.int .i64 (-4711)]) ∧ Hid (Chg (fun _ => False) w wx))
      case first =>
        rcases A3 with _ | a3
        · obtain rfl : e3 = false := HE3.out
          go_wp2_with fail
          go_meet
          case rel => exact ⟨none, c3, W2.out, P1.out, P2.out, Cop.nil q3 (HP.out.mp) LK.out (HP.out.rk.chg0 C2.out), C2.out⟩
        · obtain rfl : e3 = true := HE3.out
          obtain ⟨ob, hob⟩ : ∃ ob, ob = Obj.cells (madeCells (Value.cells (.int .i64 0)) ((n3 + 1) * 1)) 3 := ⟨_, rfl⟩
          have hmk : ∀ W : World, (Instr.makeSlice 23 (.int .i64 0) (.int .i64 ((n3 : Int) + 1))).run Tryd.prog W = .ok (.slice (some ⟨W.heap.size, 0, none⟩) 0 (n3 + 1)) (W.alloc ob) := fun W => by
            rw [hob]
            have hh := run_make0 (P := Tryd.prog) 23 3 (.int .i64 0) 1 8 Tryd.underlying23 infoI (n3 + 1) (by omega) (by omega) W
            rw [show ((n3 + 1 : Nat) : Int) = (n3 : Int) + 1 by omega] at hh
            exact hh
          have hwr : IntKind.i64.wrap ((n3 : Int) + 1) = (n3 : Int) + 1 := IntWalk.i64_in _ (by omega)
          have hmx : Hid (n3 + 1 ≤ maxLen) := Nat.le_trans (show n3 + 1 ≤ 140737488351232 by omega) (by decide)
          have RA : Hid (RdG w2 (some a3) (nums .i64 p.pool)) := HP.out.rk.chg0 C2.out
          have OM : Hid (OwnV (w2.alloc ob) 3 1 (.slice (some ⟨w2.heap.size, 0, none⟩) 0 (n3 + 1)) 0 []) := by rw [hob]; exact OwnV.made0 w2 3 (Value.cells (.int .i64 0)) 1 (n3 + 1) w2.heap.size rfl hmx.out
          clear hob
          have bxa : (w2.alloc ob).cell? ⟨B, 2, none⟩ = some (.slice (some a3) n3 c3) := ((Chg.refl (fun _ => False) w2).alloc _).cell (p := ⟨B, 2, none⟩) (fun h => h) bx
          go_wp2_with fail
          go_region_law ((refine st_appG rfl _ _ 23 3 (.int .i64 0) 1 8 rfl Tryd.underlying23 infoI rfl (by decide) (by decide) (.slice (some ⟨w2.heap.size, 0, none⟩) 0 (n3 + 1)) 0 [] rfl (OM.out.chg (S := fun _ => False) (by repeat (first | exact Chg.refl _ _ | refine Chg.drew ?_ | refine Chg.drewN ?_ _ | refine Chg.alloc ?_ _)) (fun _ _ h => h)) (some a3) n3 c3 (nums .i64 p.pool) rfl LK.out (RA.out.chg0 (by repeat (first | exact Chg.refl _ _ | refine Chg.drew ?_ | refine Chg.drewN ?_ _ | refine Chg.alloc ?_ _))) (nums_cell .i64 _) (by omega) ?_; intro v' w4 k1 k2 k3; (try simp only [List.nil_append, Nat.zero_add] at k1); obtain ⟨A4', c4', rfl, hc4, _⟩ := k1.slice; have K1 := Lib.hid k1; have C4 : Hid (Chg (fun _ => False) w2 w4) := (((Chg.refl (fun _ => False) w2).alloc ob).drew).fresh k2 (blk_ge (Nat.le_refl _)); have F4 : Hid (∀ g, Value.ownBlock (.slice A4' n3 c4') = some g → w2.heap.size ≤ g) := k3.ge (blk_ge (Nat.le_refl _)) (by simp); clear k1 k2 k3; have W4 : Hid (OwnW w4 B PV [Value.slice X1 n1 y1, Value.slice X2 n2 y2, Value.slice (some a3) n3 c3, Value.int .i64 i1, Value.int .i64 i2, Value.int .i64 i3, Value.int .i64 i4, Value.slice A4 n4 c4]) := W2.out.chg C4.out ⟨id, id, id⟩; have bx4 := W4.out.box.at_ (i := 2) (by rw [HPV.out]; rfl)))
          all_goals
            go_wp2_with (at_builtin; go_must (refine wp_appG rfl _ _ 23 3 (.int .i64 0) 1 8 rfl Tryd.underlying23 infoI rfl (by decide) (by decide) (.slice A4' n3 c4') n3 (nums .i64 p.pool) [Value.int .i64 (-4711)] rfl (by simp [Value.oneCell']) rfl K1.out rfl (by omega) ?_); intro v5 w5 k1 k2 k3; obtain ⟨A5', c5', rfl, hc5, _⟩ := k1.slice; obtain ⟨ad5, rfl, hcop⟩ := Cop.of LK.out (by decide) k1; have K5 := Lib.hid k1; have CP5 := Lib.hid hcop; have C5 : Hid (Chg (fun _ => False) w2 w5) := C4.out.fresh k2 F4.out; have W5 : Hid (OwnW w5 B PV [Value.slice X1 n1 y1, Value.slice X2 n2 y2, Value.slice (some a3) n3 c3, Value.int .i64 i1, Value.int .i64 i2, Value.int .i64 i3, Value.int .i64 i4, Value.slice A4 n4 c4]) := W4.out.chg k2 (W4.out.ne K1.out (by decide)); have bx5 := W5.out.box.at_ (i := 2) (by rw [HPV.out]; rfl); have y5 := W5.out.cop.at_ (i := 2) rfl; have fy5 := W5.out.cop.frozen (i := 2) (by simp); clear k1 k2 k3 hcop; have bl5 : (n3 : Int) ≤ (c5' : Int) := (by omega))
            have CW : Hid (Chg (fun x => x = B + 1 + 1) w2 (w5.setCell ⟨B + 1 + 1, 2, none⟩ (.slice (some ad5) n3 c5'))) := C5.out.store0 _ _ _
            go_meet
            case rel => exact ⟨some ad5, c5', W5.out.set 2 _, P1.out.chg CW.out (fun g hg e1 => by obtain ⟨cur, hb⟩ := P1.out.ty g hg; exact hb.type_ne W2.out.cop (by decide) e1), P2.out.chg CW.out (fun g hg e1 => by obtain ⟨cur, hb⟩ := P2.out.ty g hg; exact hb.type_ne W2.out.cop (by decide) e1), CP5.out.chg (((Chg.refl (fun x => x = B + 1 + 1) w5).setCell (p := ⟨B + 1 + 1, 2, none⟩) (fun _ => rfl) _)) (fun g hg e1 => by obtain ⟨cur, hb⟩ := CP5.out.ty g hg; exact hb.type_ne W5.out.cop (by decide) e1), C2.out.trans CW.out (fun x hx e1 => by have := HB.out; omega)⟩
      case rest =>
        obtain ⟨X3, y3, W3, P1, P2, P3, C3⟩ := hcut
        obtain ⟨w3, hw3⟩ : ∃ x, x = wc := ⟨_, rfl⟩
        subst hw3
        clear W2 C2 bx
        have bx := (show w3.cell? ⟨B, 7, none⟩ = some (.slice A4 n4 c4) from W3.out.box.at_ (i := 7) (by rw [HPV.out]; rfl))
        obtain ⟨e4, he4⟩ : ∃ b, b = (!A4.isNone) := ⟨_, rfl⟩
        have HE4 := Lib.hid he4
        have hn4 : ∀ W : World, (binOp .neq 24 (.slice A4 n4 c4) (.slice none 0 0)).run Tryd.prog W = .ok (.bool e4) W := fun W => by rw [HE4.out]; exact run_neq_slice_nil_any W _ _ A4 n4 c4 0 0 Tryd.underlying24
        clear he4
        go_upto_if 73 with fail
        clear hn4
        go_cut [] from 4 to 123 (fun wx => ∃ X4 y4 vs, Hid (OwnW wx B PV [Value.slice X1 n1 y1, Value.slice X2 n2 y2, Value.slice X3 n3 y3, Value.int .i64 i1, Value.int .i64 i2, Value.int .i64 i3, Value.int .i64 i4, Value.slice X4 n4 y4]) ∧ Hid (Cop wx (.slice X1 n1 y1) 9 1 n1 (strs p.names) [Value.string behind]) ∧ Hid (Cop wx (.slice X2 n2 y2) 9 1 n2 (strs p.curs) [Value.string behind]) ∧ Hid (Cop wx (.slice X3 n3 y3) 3 1 n3 (nums .i64 p.pool) [Value.int .i64 (-4711)]) ∧ Hid (SlG wx (.slice X4 n4 y4) 2 n4 (dayCells p.days vs)) ∧ Hid (∀ g, Value.ownBlock (.slice X4 n4 y4) = some g → ∃ cur, Blk wx g 42 cur) ∧ Hid (p.days.length = vs.length) ∧ Hid (∀ i (h : i < p.days.length) (h' : i < vs.length), Cop wx vs[i] 47 3 p.days[i].code.length (insCells p.days[i].code) [.int .i64 (-4711), .int .i64 0, .int .i64 0]) ∧ Hid (Chg (fun _ => False) w wx))
        case first =>
          rcases A4 with _ | a4
          · obtain rfl : e4 = false := HE4.out
            have hd0 : Hid (p.days = []) := Lib.hid (by
              rcases hpd : p.days with _ | ⟨d, ds⟩
              · rfl
              · have hr := HP.out.rd.rd
                have hl := HP.out.rd.len
                rw [hpd] at hr hl
                rcases hvs : s.codes with _ | ⟨x, xs⟩
                · rw [hvs] at hl; simp at hl
                · rw [hvs] at hr
                  obtain ⟨ad, e, _⟩ := hr 0 (.int .i64 d.day) rfl
                  cases e)
            have hn0 : Hid (n4 = 0) := by rw [Hid, LD.out, hd0.out]; rfl
            go_wp2_with fail
            go_meet
            case rel => exact ⟨none, c4, [], W3.out, P1.out, P2.out, P3.out, ⟨⟨none, c4, rfl, q4, HP.out.md, by rw [hd0.out]; exact RdG.nil _ _⟩, by rw [hd0.out, hn0.out]; rfl⟩, fun g hg => by simp [Value.ownBlock] at hg, Lib.hid (by rw [hd0.out]; rfl), fun i h h' => absurd h' (by simp), C3.out⟩
          · obtain rfl : e4 = true := HE4.out
            obtain ⟨ob, hob⟩ : ∃ ob, ob = Obj.cells (madeCells (Value.cells (.agg #[.int .i64 0, .slice none 0 0])) ((n4 + 1) * 2)) 42 := ⟨_, rfl⟩
            have hmk : ∀ W : World, (Instr.makeSlice 24 (.int .i64 0) (.int .i64 ((n4 : Int) + 1))).run Tryd.prog W = .ok (.slice (some ⟨W.heap.size, 0, none⟩) 0 (n4 + 1)) (W.alloc ob) := fun W => by
              rw [hob]
              have hh := run_make0 (P := Tryd.prog) 24 42 (.agg #[.int .i64 0, .slice none 0 0]) 2 32 Tryd.underlying24 infoSeg (n4 + 1) (by omega) (by omega) W
              rw [show ((n4 + 1 : Nat) : Int) = (n4 : Int) + 1 by omega] at hh
              exact hh
            have hwr : IntKind.i64.wrap ((n4 : Int) + 1) = (n4 : Int) + 1 := IntWalk.i64_in _ (by omega)
            have hmx : Hid (n4 + 1 ≤ maxLen) := Nat.le_trans (show n4 + 1 ≤ 140737488351232 by omega) (by decide)
            obtain ⟨wm, hwm⟩ : ∃ x, x = w3.alloc ob := ⟨_, rfl⟩
            have CM : Hid (Chg (fun _ => False) w3 wm) := by rw [hwm]; exact (Chg.refl _ w3).alloc _
            have OM : Hid (OwnV wm 42 2 (.slice (some ⟨w3.heap.size, 0, none⟩) 0 (n4 + 1)) 0 []) := by rw [hwm, hob]; exact OwnV.made0 w3 _ _ 2 (n4 + 1) _ rfl hmx.out
            clear hob
            have WM : Hid (OwnW wm B PV [Value.slice X1 n1 y1, Value.slice X2 n2 y2, Value.slice X3 n3 y3, Value.int .i64 i1, Value.int .i64 i2, Value.int .i64 i3, Value.int .i64 i4, Value.slice (some a4) n4 c4]) := W3.out.chg CM.out ⟨id, id, id⟩
            have y7 := WM.out.cop.at_ (i := 7) rfl
            have fy7 := WM.out.cop.frozen (i := 7) (by simp)
            rw [hwm] at y7 fy7
            go_wp2_with fail
            rw [← hwm]
            clear hwm y7 fy7 bx
            have CS : Hid (Chg (fun x => x = B + 1 + 1) w3 (wm.setCell ⟨B + 1 + 1, 7, none⟩ (.slice (some ⟨w3.heap.size, 0, none⟩) 0 (n4 + 1)))) := (CM.out.mono (T := fun x => x = B + 1 + 1) (fun _ _ h => h.elim)).setCell (p := ⟨B + 1 + 1, 7, none⟩) (fun _ => rfl) _
            have O7 : Hid (OwnV (wm.setCell ⟨B + 1 + 1, 7, none⟩ (.slice (some ⟨w3.heap.size, 0, none⟩) 0 (n4 + 1))) 42 2 (.slice (some ⟨w3.heap.size, 0, none⟩) 0 (n4 + 1)) 0 []) := OM.out.chg ((Chg.refl (fun x => x = B + 1 + 1) wm).setCell (p := ⟨B + 1 + 1, 7, none⟩) (fun _ => rfl) _) (fun g hg e1 => OM.out.type_ne WM.out.cop (by decide) (by rw [hg, e1]))
            go_loopg [7, 8, 9] n4 (fun gh i _ _ wr => ∃ (k : Nat) (X4 : Option Addr) (y4 : Nat) (vs : List Value), Hid (k + gh = n4) ∧ k ≤ n4 ∧ i = .int .i64 k ∧ Hid (OwnW wr B PV [Value.slice X1 n1 y1, Value.slice X2 n2 y2, Value.slice X3 n3 y3, Value.int .i64 i1, Value.int .i64 i2, Value.int .i64 i3, Value.int .i64 i4, Value.slice X4 k y4]) ∧ Hid (Cop wr (.slice X1 n1 y1) 9 1 n1 (strs p.names) [Value.string behind]) ∧ Hid (Cop wr (.slice X2 n2 y2) 9 1 n2 (strs p.curs) [Value.string behind]) ∧ Hid (Cop wr (.slice X3 n3 y3) 3 1 n3 (nums .i64 p.pool) [Value.int .i64 (-4711)]) ∧ Hid (OwnV wr 42 2 (.slice X4 k y4) k (dayCells (p.days.take k) vs)) ∧ Hid (∀ g, Value.ownBlock (.slice X4 k y4) = some g → w.heap.size ≤ g) ∧ Hid (vs.length = k) ∧ Hid (∀ i (h : i < p.days.length) (h' : i < vs.length), Cop wr vs[i] 47 3 p.days[i].code.length (insCells p.days[i].code) [.int .i64 (-4711), .int .i64 0, .int .i64 0]) ∧ Hid (Chg (fun _ => False) w wr))
            case atStart => exact ⟨0, some ⟨w3.heap.size, 0, none⟩, n4 + 1, [], Nat.zero_add _, Nat.zero_le _, rfl, WM.out.set 7 _, P1.out.chg CS.out (fun g hg e1 => by obtain ⟨cur, hb⟩ := P1.out.ty g hg; exact hb.type_ne W3.out.cop (by decide) e1), P2.out.chg CS.out (fun g hg e1 => by obtain ⟨cur, hb⟩ := P2.out.ty g hg; exact hb.type_ne W3.out.cop (by decide) e1), P3.out.chg CS.out (fun g hg e1 => by obtain ⟨cur, hb⟩ := P3.out.ty g hg; exact hb.type_ne W3.out.cop (by decide) e1), O7.out, fun g hg => by have h1 := blk_ge (Nat.le_refl _) g hg; have h2 := C3.out.size; omega, rfl, fun i h h' => absurd h' (by simp), C3.out.trans CS.out (fun x hx e1 => by have := HB.out; omega)⟩
            case round =>
              clear P1 P2 P3 CS O7 OM WM CM
              obtain ⟨k, X4, y4, vs, HG, hk, rfl, WK, P1, P2, P3, O7, F7, HV, HC, CK⟩ := hrel
              have bx := WK.out.box.at_ (i := 7) (by rw [HPV.out]; rfl)
              by_cases hlt : k < n4
              · have h1 : k < p.days.length := by have := LD.out; omega
                obtain ⟨ad, D, r, c, e0, u1, u2, l1, l2, l3, l4⟩ := (HP.out.rd.chg0 CK.out).at_ h1
                injection e0 with e0
                subst e0
                obtain ⟨ad, had⟩ : ∃ x, x = a4 := ⟨_, rfl⟩
                subst had
                obtain ⟨dd, hdd⟩ : ∃ x, x = p.days[k] := ⟨_, rfl⟩
                have hsz := SC.out _ (List.getElem_mem h1)
                rw [← hdd] at u1 l1 l4 hsz
                have HD := Lib.hid hdd
                have L1 : Hid ((insCells dd.code).length = r * 3) := by rw [Hid, insCells_length, l1]
                have LR := Lib.hid l1
                have R1 := Lib.hid l4
                have hrz : r * 24 ≤ 140737488351232 := by rw [l1]; exact hsz
                have b1 : (0 : Int) ≤ (k : Int) := by omega
                have b2 : (k : Int) < (n4 : Int) := by omega
                clear hdd l1 l4 hsz
                obtain ⟨wb, hwb⟩ : ∃ x, x = wr.alloc (.cells #[.int .i64 dd.day, .slice D r c] 42) := ⟨_, rfl⟩
                obtain ⟨g8, hg8⟩ : ∃ x, x = wr.heap.size := ⟨_, rfl⟩
                have CB : Hid (Chg (fun _ => False) wr wb) := by rw [hwb]; exact (Chg.refl _ wr).alloc _
                have B8 : Hid (Blk wb g8 42 [.int .i64 dd.day, .slice D r c]) := by rw [hwb, hg8]; exact Blk.new wr _ _
                have G8 := Lib.hid hg8
                have hbxb : Hid (wb.cell? ⟨B, 7, none⟩ = some (.slice (some ad) n4 c4)) := CB.out.cell (p := ⟨B, 7, none⟩) (fun h => h) bx
                obtain ⟨ddy, hddy⟩ : ∃ x, x = dd.day := ⟨_, rfl⟩
                have HDY := Lib.hid hddy
                rw [← hddy] at u1 hwb B8
                obtain ⟨eD, heD⟩ : ∃ b, b = (!D.isNone) := ⟨_, rfl⟩
                have HED := Lib.hid heD
                have hnD : ∀ W : World, (binOp .neq 40 (.slice D r c) (.slice none 0 0)).run Tryd.prog W = .ok (.bool eD) W := fun W => by rw [HED.out]; exact run_neq_slice_nil_any W _ _ D r c 0 0 Tryd.underlying40
                clear heD hddy
                go_upto_if 94 with fail
                rw [← hwb, ← hg8]
                clear hwb hg8 u1 bx hnD
                have s1 := B8.out.at_ (i := 1) rfl
                go_cut [9] from 80 to 122 (fun _ wx => ∃ Xc yc, Hid (Blk wx g8 42 [.int .i64 ddy, .slice Xc r yc]) ∧ Hid (Cop wx (.slice Xc r yc) 47 3 r (insCells dd.code) [.int .i64 (-4711), .int .i64 0, .int .i64 0]) ∧ Hid (Chg (fun x => x = g8) wb wx))
                case first =>
                  rcases D with _ | a5
                  · obtain rfl : eD = false := HED.out
                    go_wp2_with fail
                    go_meet
                    case rel => exact ⟨none, c, B8.out, Cop.nil l2 l3 L1.out (R1.out.chg0 CB.out), Chg.refl _ _⟩
                  · obtain rfl : eD = true := HED.out
                    obtain ⟨ob2, hob2⟩ : ∃ ob, ob = Obj.cells (madeCells (Value.cells (.agg #[.int .i64 0, .int .i64 0, .int .i64 0])) ((r + 1) * 3)) 47 := ⟨_, rfl⟩
                    have hmk2 : ∀ W : World, (Instr.makeSlice 40 (.int .i64 0) (.int .i64 ((r : Int) + 1))).run Tryd.prog W = .ok (.slice (some ⟨W.heap.size, 0, none⟩) 0 (r + 1)) (W.alloc ob2) := fun W => by
                      rw [hob2]
                      have hh := run_make0 (P := Tryd.prog) 40 47 (.agg #[.int .i64 0, .int .i64 0, .int .i64 0]) 3 24 Tryd.underlying40 infoIns (r + 1) (by omega) (by omega) W
                      rw [show ((r + 1 : Nat) : Int) = (r : Int) + 1 by omega] at hh
                      exact hh
                    have hwr2 : IntKind.i64.wrap ((r : Int) + 1) = (r : Int) + 1 := IntWalk.i64_in _ (by omega)
                    have hmx2 : Hid (r + 1 ≤ maxLen) := Nat.le_trans (show r + 1 ≤ 140737488351232 by omega) (by decide)
                    have RA : Hid (RdG wb (some a5) (insCells dd.code)) := R1.out.chg0 CB.out
                    have OM2 : Hid (OwnV (wb.alloc ob2) 47 3 (.slice (some ⟨wb.heap.size, 0, none⟩) 0 (r + 1)) 0 []) := by rw [hob2]; exact OwnV.made0 wb 47 _ 3 (r + 1) wb.heap.size rfl hmx2.out
                    clear hob2
                    have s1a : (wb.alloc ob2).cell? ⟨g8, 1, none⟩ = some (.slice (some a5) r c) := ((Chg.refl (fun _ => False) wb).alloc _).cell (p := ⟨g8, 1, none⟩) (fun h => h) s1
                    go_wp2_with fail
                    go_region_law ((refine st_appG rfl _ _ 40 47 (.agg #[.int .i64 0, .int .i64 0, .int .i64 0]) 3 24 rfl Tryd.underlying40 infoIns rfl (by decide) (by decide) (.slice (some ⟨wb.heap.size, 0, none⟩) 0 (r + 1)) 0 [] rfl (OM2.out.chg (S := fun _ => False) (by repeat (first | exact Chg.refl _ _ | refine Chg.drew ?_ | refine Chg.drewN ?_ _ | refine Chg.alloc ?_ _)) (fun _ _ h => h)) (some a5) r c (insCells dd.code) rfl L1.out (RA.out.chg0 (by repeat (first | exact Chg.refl _ _ | refine Chg.drew ?_ | refine Chg.drewN ?_ _ | refine Chg.alloc ?_ _))) (ins_cell _) (by omega) ?_; intro v' w4 k1 k2 k3; (try simp only [List.nil_append, Nat.zero_add] at k1); obtain ⟨A4', c4', rfl, hc4, _⟩ := k1.slice; have K1 := Lib.hid k1; have C4 : Hid (Chg (fun _ => False) wb w4) := (((Chg.refl (fun _ => False) wb).alloc ob2).drew).fresh k2 (blk_ge (Nat.le_refl _)); have F4 : Hid (∀ g, Value.ownBlock (.slice A4' r c4') = some g → wb.heap.size ≤ g) := k3.ge (blk_ge (Nat.le_refl _)) (by simp); clear k1 k2 k3))
                    all_goals
                      go_wp2_with (at_builtin; go_must (refine wp_appG rfl _ _ 40 47 (.agg #[.int .i64 0, .int .i64 0, .int .i64 0]) 3 24 rfl Tryd.underlying40 infoIns rfl (by decide) (by decide) (.slice A4' r c4') r (insCells dd.code) [.int .i64 (-4711), .int .i64 0, .int .i64 0] rfl (by simp [Value.oneCell']) rfl K1.out rfl (by omega) ?_); intro v5 w5 k1 k2 k3; obtain ⟨A5', c5', rfl, hc5, _⟩ := k1.slice; obtain ⟨ad5, rfl, hcop⟩ := Cop.of L1.out (by decide) k1; have CP5 := Lib.hid hcop; have C5 : Hid (Chg (fun _ => False) wb w5) := C4.out.fresh k2 F4.out; have bx5 := C5.out.cell (p := ⟨B, 7, none⟩) (fun h => h) hbxb.out; have u5 := C5.out.cell (p := ⟨(ad.add (k * 2)).block, (ad.add (k * 2)).off + 1, none⟩) (fun h => h) (CB.out.cell (p := ⟨(ad.add (k * 2)).block, (ad.add (k * 2)).off + 1, none⟩) (fun h => h) u2); have B85 : Hid (Blk w5 g8 42 [.int .i64 ddy, .slice (some a5) r c]) := B8.out.chg C5.out (fun h => h); have y5 := B85.out.at_ (i := 1) rfl; have fy5 := B85.out.frozen (i := 1) (by simp); clear k1 k2 k3 hcop; have bl5 : (r : Int) ≤ (c5' : Int) := (by omega))
                      go_meet
                      case rel => exact ⟨some ad5, c5', B85.out.set 1 _, CP5.out.chg (((Chg.refl (fun x => x = g8) w5).setCell (p := ⟨g8, 1, none⟩) (fun _ => rfl) _)) (fun g hg e1 => by obtain ⟨cur, hb⟩ := CP5.out.ty g hg; exact hb.type_ne B85.out (by decide) e1), C5.out.store0 _ _ _⟩
                case rest =>
                  obtain ⟨Xc, yc, B9, PC, C9⟩ := hcut
                  obtain ⟨w9, hw9⟩ : ∃ x, x = wc := ⟨_, rfl⟩
                  subst hw9
                  clear u2 s1
                  have C10 : Hid (Chg (fun _ => False) wr w9) := CB.out.trans C9.out (fun x hx e1 => by have := G8.out; omega)
                  have W9 : Hid (OwnW w9 B PV [Value.slice X1 n1 y1, Value.slice X2 n2 y2, Value.slice X3 n3 y3, Value.int .i64 i1, Value.int .i64 i2, Value.int .i64 i3, Value.int .i64 i4, Value.slice X4 k y4]) := WK.out.chg C10.out ⟨id, id, id⟩
                  have O9 : Hid (OwnV w9 42 2 (.slice X4 k y4) k (dayCells (p.days.take k) vs)) := O7.out.chg C10.out (fun _ _ h => h)
                  have t0 := B9.out.at_ (i := 0) rfl
                  have t1 := B9.out.at_ (i := 1) rfl
                  have y7 := W9.out.cop.at_ (i := 7) rfl
                  go_wp2_with (at_builtin; go_must (refine wp_appG rfl _ _ 24 42 (.agg #[.int .i64 0, .slice none 0 0]) 2 32 rfl Tryd.underlying24 infoSeg rfl (by decide) (by decide) (.slice X4 k y4) k _ [.int .i64 ddy, .slice Xc r yc] rfl (by simp [Value.oneCell']) rfl O9.out rfl (by omega) ?_); intro v5 w5 k1 k2 k3; obtain ⟨A5', c5', rfl, hc5, _⟩ := k1.slice; have K5 := Lib.hid k1; have F5 : Hid (∀ g, Value.ownBlock (.slice A5' (k + 1) c5') = some g → w.heap.size ≤ g) := k3.ge F7.out (Nat.le_trans CK.out.size C10.out.size); have K2 := Lib.hid k2; have W5 : Hid (OwnW w5 B PV [Value.slice X1 n1 y1, Value.slice X2 n2 y2, Value.slice X3 n3 y3, Value.int .i64 i1, Value.int .i64 i2, Value.int .i64 i3, Value.int .i64 i4, Value.slice X4 k y4]) := W9.out.chg k2 (W9.out.ne O9.out (by decide)); have y5 := W5.out.cop.at_ (i := 7) rfl; have fy5 := W5.out.cop.frozen (i := 7) (by simp); clear k1 k2 k3)
                  have CE : Hid (Chg (fun x => Value.ownBlock (.slice X4 k y4) = some x ∨ x = B + 1 + 1) wr (w5.setCell ⟨B + 1 + 1, 7, none⟩ (.slice A5' (k + 1) c5'))) := ((C10.out.mono (T := fun x => Value.ownBlock (.slice X4 k y4) = some x ∨ x = B + 1 + 1) (fun _ _ h => h.elim)).trans K2.out (fun _ _ h => .inl h)).setCell (p := ⟨B + 1 + 1, 7, none⟩) (fun _ => .inr rfl) _
                  have C95 : Hid (Chg (fun x => Value.ownBlock (.slice X4 k y4) = some x ∨ x = B + 1 + 1) w9 (w5.setCell ⟨B + 1 + 1, 7, none⟩ (.slice A5' (k + 1) c5'))) := (K2.out.mono (T := fun x => Value.ownBlock (.slice X4 k y4) = some x ∨ x = B + 1 + 1) (fun _ _ h => .inl h)).setCell (p := ⟨B + 1 + 1, 7, none⟩) (fun _ => .inr rfl) _
                  go_roundg (n4 - (k + 1))
                  case rel =>
                    have hkl : (p.days.take k).length = vs.length := by rw [List.length_take, HV.out]; omega
                    have htk : p.days.take (k + 1) = p.days.take k ++ [dd] := by rw [List.take_succ_eq_append_getElem h1, HD.out]
                    have hmem : ∀ i (h : i < p.days.length) (h' : i < vs.length), ∀ g, vs[i].ownBlock = some g → ¬ (Value.ownBlock (.slice X4 k y4) = some g ∨ g = B + 1 + 1) := fun i h h' g hg e1 => by
                      obtain ⟨cur, hb⟩ := (HC.out i h h').ty g hg
                      rcases e1 with e1 | e1
                      · exact O7.out.type_ne hb (by decide) e1
                      · exact hb.type_ne WK.out.cop (by decide) e1
                    have hsm : ∀ {v : Value} {e : TypeId} {sz n : Nat} {cs mark : List Value}, Cop wr v e sz n cs mark → e ≠ 26 → 42 ≠ e → Cop (w5.setCell ⟨B + 1 + 1, 7, none⟩ (.slice A5' (k + 1) c5')) v e sz n cs mark := fun hc he1 he2 => hc.chg CE.out (fun g hg e1 => by
                      obtain ⟨cur, hb⟩ := hc.ty g hg
                      rcases e1 with e1 | e1
                      · exact O7.out.type_ne hb he2 e1
                      · exact hb.type_ne WK.out.cop he1 e1)
                    refine ⟨k + 1, A5', c5', vs ++ [.slice Xc r yc], by rw [Hid]; omega, by omega, by go_num, W5.out.set 7 _, hsm P1.out (by decide) (by decide), hsm P2.out (by decide) (by decide), hsm P3.out (by decide) (by decide), ?_, F5.out, by rw [Hid, List.length_append, HV.out]; rfl, fun i h h' => ?_, CK.out.trans CE.out (fun x hx e1 => ?_)⟩
                    · have hK := K5.out.chg ((Chg.refl (fun x => x = B + 1 + 1) w5).setCell (p := ⟨B + 1 + 1, 7, none⟩) (fun _ => rfl) (.slice A5' (k + 1) c5')) (fun g hg e1 => K5.out.type_ne W5.out.cop (by decide) (by rw [hg, e1]))
                      rw [Hid, htk, dayCells_snoc _ _ _ _ hkl, ← HDY.out]
                      exact hK
                    · by_cases hi : i < vs.length
                      · rw [List.getElem_append_left hi]
                        exact (HC.out i h hi).chg CE.out (hmem i h hi)
                      · have hik : i = k := by simp at h'; have := HV.out; omega
                        subst hik
                        rw [List.getElem_append_right (by omega)]
                        have hpc := PC.out.chg C95.out (fun g hg e1 => by
                          obtain ⟨cur, hb⟩ := PC.out.ty g hg
                          rcases e1 with e1 | e1
                          · exact O9.out.type_ne hb (by decide) e1
                          · exact hb.type_ne W9.out.cop (by decide) e1)
                        simp only [HV.out, Nat.sub_self, List.getElem_cons_zero]
                        rw [LR.out, HD.out] at hpc
                        rw [HD.out] at LR
                        rw [← LR.out] at hpc ⊢
                        exact hpc
                    · rcases e1 with e1 | e1
                      · have := F7.out x e1; omega
                      · have := HB.out; omega
                  case measure =>
                    have := HG.out
                    omega
              · obtain rfl : k = n4 := by omega
                have SL : Hid (SlG wr (.slice X4 k y4) 2 k (dayCells p.days vs)) := Lib.hid (by
                  have hall : p.days.take k = p.days := List.take_of_length_le (by have := LD.out; omega)
                  have hO := O7.out
                  rw [hall] at hO
                  obtain ⟨X5, y5, hv, hc, hm⟩ := hO.slice
                  simp only [Value.slice.injEq] at hv
                  obtain ⟨rfl, _, rfl⟩ := hv
                  exact ⟨⟨X4, y4, rfl, hc, hm, hO.toG⟩, hO.1⟩)
                go_wp2_with fail
                go_meet
                case rel => exact ⟨X4, y4, vs, WK.out, P1.out, P2.out, P3.out, SL.out, fun g hg => O7.out.typed g hg, by rw [Hid, HV.out, LD.out], HC.out, CK.out⟩
        case rest =>
          obtain ⟨X4, y4, vs, W4, P1, P2, P3, SD, TY, HV, HC, C4⟩ := hcut
          obtain ⟨w4, hw4⟩ : ∃ x, x = wc := ⟨_, rfl⟩
          subst hw4
          have t0 := W4.out.cop.at_ (i := 0) rfl
          have t1 := W4.out.cop.at_ (i := 1) rfl
          have t2 := W4.out.cop.at_ (i := 2) rfl
          have t3 := W4.out.cop.at_ (i := 3) rfl
          have t4 := W4.out.cop.at_ (i := 4) rfl
          have t5 := W4.out.cop.at_ (i := 5) rfl
          have t6 := W4.out.cop.at_ (i := 6) rfl
          have t7 := W4.out.cop.at_ (i := 7) rfl
          have R0 := Lib.hid W4.out.res
          have z0 := R0.out.at_ (i := 0) rfl
          have fz0 := R0.out.frozen (i := 0) (by simp)
          have R1 := Lib.hid (R0.out.set 0 (Value.slice X1 n1 y1))
          have z1 := R1.out.at_ (i := 1) rfl
          have fz1 := R1.out.frozen (i := 1) (by simp)
          have R2 := Lib.hid (R1.out.set 1 (Value.slice X2 n2 y2))
          have z2 := R2.out.at_ (i := 2) rfl
          have fz2 := R2.out.frozen (i := 2) (by simp)
          have R3 := Lib.hid (R2.out.set 2 (Value.slice X3 n3 y3))
          have z3 := R3.out.at_ (i := 3) rfl
          have fz3 := R3.out.frozen (i := 3) (by simp)
          have R4 := Lib.hid (R3.out.set 3 (Value.int .i64 i1))
          have z4 := R4.out.at_ (i := 4) rfl
          have fz4 := R4.out.frozen (i := 4) (by simp)
          have R5 := Lib.hid (R4.out.set 4 (Value.int .i64 i2))
          have z5 := R5.out.at_ (i := 5) rfl
          have fz5 := R5.out.frozen (i := 5) (by simp)
          have R6 := Lib.hid (R5.out.set 5 (Value.int .i64 i3))
          have z6 := R6.out.at_ (i := 6) rfl
          have fz6 := R6.out.frozen (i := 6) (by simp)
          have R7 := Lib.hid (R6.out.set 6 (Value.int .i64 i4))
          have z7 := R7.out.at_ (i := 7) rfl
          have fz7 := R7.out.frozen (i := 7) (by simp)
          have R8 := Lib.hid (R7.out.set 7 (Value.slice X4 n4 y4))
          have v0 := R8.out.at_ (i := 0) rfl
          have v1 := R8.out.at_ (i := 1) rfl
          have v2 := R8.out.at_ (i := 2) rfl
          have v3 := R8.out.at_ (i := 3) rfl
          have v4 := R8.out.at_ (i := 4) rfl
          have v5 := R8.out.at_ (i := 5) rfl
          have v6 := R8.out.at_ (i := 6) rfl
          have v7 := R8.out.at_ (i := 7) rfl
          go_wp2_with fail
          have CZ : Hid (Chg (fun x => x = B + 1) w4 _) := (((((((((Chg.refl (fun x => x = B + 1) w4).setCell (p := ⟨B + 1, 0, none⟩) (fun _ => rfl) (Value.slice X1 n1 y1)).setCell (p := ⟨B + 1, 1, none⟩) (fun _ => rfl) (Value.slice X2 n2 y2)).setCell (p := ⟨B + 1, 2, none⟩) (fun _ => rfl) (Value.slice X3 n3 y3)).setCell (p := ⟨B + 1, 3, none⟩) (fun _ => rfl) (Value.int .i64 i1)).setCell (p := ⟨B + 1, 4, none⟩) (fun _ => rfl) (Value.int .i64 i2)).setCell (p := ⟨B + 1, 5, none⟩) (fun _ => rfl) (Value.int .i64 i3)).setCell (p := ⟨B + 1, 6, none⟩) (fun _ => rfl) (Value.int .i64 i4)).setCell (p := ⟨B + 1, 7, none⟩) (fun _ => rfl) (Value.slice X4 n4 y4))
          have hcp : ∀ {v : Value} {e : TypeId} {sz n : Nat} {cs mark : List Value}, Cop w4 v e sz n cs mark → e ≠ 26 → ∀ g, v.ownBlock = some g → ¬ g = B + 1 := fun hc he g hg e1 => by
            obtain ⟨cur, hb⟩ := hc.ty g hg
            exact hb.type_ne W4.out.res he e1
          refine bodyPost_ret (v := .agg #[Value.slice X1 n1 y1, Value.slice X2 n2 y2, Value.slice X3 n3 y3, Value.int .i64 i1, Value.int .i64 i2, Value.int .i64 i3, Value.int .i64 i4, Value.slice X4 n4 y4]) (by simp [results, Tryd.results9, go_sem, v0, v1, v2, v3, v4, v5, v6, v7]) rfl ⟨⟨.slice X1 n1 y1, .slice X2 n2 y2, .slice X3 n3 y3, .slice X4 n4 y4, vs⟩, ?_, ?_, ?_, C4.out.trans CZ.out (fun x hx e1 => by have := HB.out; omega)⟩
          · rw [progVal, ← HI.out.1, ← HI.out.2.1, ← HI.out.2.2.1, ← HI.out.2.2.2]
          · refine ⟨?_, ?_, ?_, ?_, HV.out, fun i h h' => (HC.out i h h').sl.chg CZ.out (hcp (HC.out i h h') (by decide))⟩
            · rw [← HP.out.ln]; exact P1.out.sl.chg CZ.out (hcp P1.out (by decide))
            · rw [← HP.out.lc]; exact P2.out.sl.chg CZ.out (hcp P2.out (by decide))
            · rw [← HP.out.lk]; exact P3.out.sl.chg CZ.out (hcp P3.out (by decide))
            · rw [← HP.out.ld]; exact SD.out.chg CZ.out (fun g hg e1 => by
                obtain ⟨cur, hb⟩ := TY.out g hg
                exact hb.type_ne W4.out.res (by decide) e1)
          · refine ⟨?_, ?_, ?_, fun i h h' => (HC.out i h h').mg.chg CZ.out (hcp (HC.out i h h') (by decide))⟩
            · rw [← HP.out.ln]; exact P1.out.mg.chg CZ.out (hcp P1.out (by decide))
            · rw [← HP.out.lc]; exact P2.out.mg.chg CZ.out (hcp P2.out (by decide))
            · rw [← HP.out.lk]; exact P3.out.mg.chg CZ.out (hcp P3.out (by decide))
end Go.Proofs.YtkadamoofiddeaaDoor.Kit
-- Programs: a copy is as it was, behind the ends of its lists too (intact).
set_option linter.unusedVariables false
set_option linter.unusedSimpArgs false
namespace Go.Proofs.YtkadamoofiddeaaDoor.Kit
open Go.RowKit
/-- the cell behind the end -/
theorem MkG.at_ {w : World} {ad : Addr} {n c sz : Nat} {cs mark : List Value} (h : MkG w (.slice (some ad) n c) n cs mark) (hl : cs.length = n * sz) : n + 1 ≤ c ∧ ∀ j u, mark[j]? = some u → w.cell? (ad.add (n * sz + j)) = some u := by
  rcases h with ⟨c', h⟩ | ⟨ad', c', h, h1, h2⟩
  · simp at h
  · simp only [Value.slice.injEq, Option.some.injEq] at h
    obtain ⟨rfl, _, rfl⟩ := h
    refine ⟨h1, fun j u hj => ?_⟩
    obtain ⟨a, e, hc⟩ := h2 (n * sz + j) u (by rw [List.getElem?_append_right (by omega), hl]; simpa using hj)
    injection e with e
    subst e
    exact hc
set_option maxRecDepth 20000 in
set_option maxHeartbeats 6400000 in
theorem intactP {s t : ProgS} {p : ProgV} {w : World} (hp : Hid (RdProg w s p)) (hm : Hid (Marked w s p)) (hq : Hid (RdProg w t p)) (sp : SmallP p) :
    Calls Tryd.prog 12 #[progVal s p, progVal t p] w fun e w' => e = .returned (.bool true) ∧ Chg (fun _ => False) w w' := by
  obtain ⟨n1, n2, n3, n4, A1, A2, A3, A4, c1, c2, c3, c4, HP0⟩ := hp.out.apart
  obtain ⟨m1, m2, m3, m4, B1, B2, B3, B4, d1, d2, d3, d4, HQ0⟩ := hq.out.apart
  have HP := Lib.hid HP0
  have EQ := Lib.hid HP0.eq
  have EQ2 := Lib.hid HQ0.eq
  rw [HP.out.eq, HQ0.eq]
  have S1 : n1 * 16 ≤ 140737488351232 := by have := HP0.ln; have := sp.names; omega
  have S2 : n2 * 16 ≤ 140737488351232 := by have := HP0.lc; have := sp.curs; omega
  have S3 : n3 * 8 ≤ 140737488351232 := by have := HP0.lk; have := sp.pool; omega
  have S4 : n4 * 32 ≤ 140737488351232 := by have := HP0.ld; have := sp.days; omega
  have SC : Hid (∀ x ∈ p.days, x.code.length * 24 ≤ 140737488351232) := sp.code
  have LN : Hid ((strs p.names).length = n1 * 1) := by rw [Hid, strs_length, HP0.ln, Nat.mul_one]
  have LC : Hid ((strs p.curs).length = n2 * 1) := by rw [Hid, strs_length, HP0.lc, Nat.mul_one]
  have LK : Hid ((nums .i64 p.pool).length = n3 * 1) := by rw [Hid, nums_length, HP0.lk, Nat.mul_one]
  have LD := Lib.hid HP0.ld
  have hval : progVal s p = .agg #[.slice A1 n1 c1, .slice A2 n2 c2, .slice A3 n3 c3, .int .i64 p.horizon, .int .i64 p.cells, .int .i64 p.slots, .int .i64 p.stack, .slice A4 n4 c4] := HP0.eq
  have hv := hval
  simp only [progVal, Value.agg.injEq, Array.mk.injEq, List.cons.injEq, and_true, true_and] at hv
  obtain ⟨v1, v2, v3, v4⟩ := hv
  have M1 : Hid (MkG w (.slice A1 n1 c1) n1 (strs p.names) [.string behind]) := by rw [Hid, ← v1, HP0.ln]; exact hm.out.names
  have M2 : Hid (MkG w (.slice A2 n2 c2) n2 (strs p.curs) [.string behind]) := by rw [Hid, ← v2, HP0.lc]; exact hm.out.curs
  have M3 : Hid (MkG w (.slice A3 n3 c3) n3 (nums .i64 p.pool) [.int .i64 (-4711)]) := by rw [Hid, ← v3, HP0.lk]; exact hm.out.pool
  have MC := Lib.hid hm.out.code
  have q1 := HP0.hn
  have q2 := HP0.hc
  have q3 := HP0.hk
  have q4 := HP0.hd
  clear hval v1 v2 v3 v4 HQ0
  obtain ⟨i1, hi1⟩ : ∃ x, x = p.horizon := ⟨_, rfl⟩
  obtain ⟨i2, hi2⟩ : ∃ x, x = p.cells := ⟨_, rfl⟩
  obtain ⟨i3, hi3⟩ : ∃ x, x = p.slots := ⟨_, rfl⟩
  obtain ⟨i4, hi4⟩ : ∃ x, x = p.stack := ⟨_, rfl⟩
  have EQ1 : Hid (progVal s p = .agg #[.slice A1 n1 c1, .slice A2 n2 c2, .slice A3 n3 c3, .int .i64 i1, .int .i64 i2, .int .i64 i3, .int .i64 i4, .slice A4 n4 c4]) := by rw [Hid, EQ.out, hi1, hi2, hi3, hi4]
  have EQ3 : Hid (progVal t p = .agg #[.slice B1 m1 d1, .slice B2 m2 d2, .slice B3 m3 d3, .int .i64 i1, .int .i64 i2, .int .i64 i3, .int .i64 i4, .slice B4 m4 d4]) := by rw [Hid, EQ2.out, hi1, hi2, hi3, hi4]
  rw [← hi1, ← hi2, ← hi3, ← hi4]
  clear hi1 hi2 hi3 hi4 HP0 EQ EQ2
  obtain ⟨B, hB⟩ : ∃ B, B = w.heap.size := ⟨_, rfl⟩
  have HB := Lib.hid hB
  obtain ⟨w0, hw0⟩ : ∃ x, x = (w.alloc (.cells #[.slice A1 n1 c1, .slice A2 n2 c2, .slice A3 n3 c3, .int .i64 i1, .int .i64 i2, .int .i64 i3, .int .i64 i4, .slice A4 n4 c4] 26)).alloc (.cells #[.slice B1 m1 d1, .slice B2 m2 d2, .slice B3 m3 d3, .int .i64 i1, .int .i64 i2, .int .i64 i3, .int .i64 i4, .slice B4 m4 d4] 26) := ⟨_, rfl⟩
  have C0 : Hid (Chg (fun _ => False) w w0) := by rw [hw0]; exact ((Chg.refl _ w).alloc _).alloc _
  have W0 : Hid (Blk w0 B 26 [.slice A1 n1 c1, .slice A2 n2 c2, .slice A3 n3 c3, .int .i64 i1, .int .i64 i2, .int .i64 i3, .int .i64 i4, .slice A4 n4 c4]) := by rw [hw0, hB]; exact (Blk.new w _ _).alloc _
  have P0 : Hid (RdProg w0 s p) := hp.out.chg0 C0.out
  have Q0 : Hid (RdProg w0 t p) := hq.out.chg0 C0.out
  go_enter Tryd.func12, Tryd.ntmps12
  go_wp2_with fail
  rw [← hw0, ← hB]
  clear hw0 hB
  refine (show Calls Tryd.prog 22 #[.agg #[.slice A1 n1 c1, .slice A2 n2 c2, .slice A3 n3 c3, .int .i64 i1, .int .i64 i2, .int .i64 i3, .int .i64 i4, .slice A4 n4 c4], .agg #[.slice B1 m1 d1, .slice B2 m2 d2, .slice B3 m3 d3, .int .i64 i1, .int .i64 i2, .int .i64 i3, .int .i64 i4, .slice B4 m4 d4]] _ _ from by rw [← EQ1.out, ← EQ3.out]; exact refEqual (b := true) P0 Q0 sp sp (Lib.hid (by simp))).mono ?_
  rintro e w1 ⟨rfl, cc⟩
  have C1 : Hid (Chg (fun _ => False) w w1) := C0.out.trans cc (fun _ _ h => h)
  have W1 : Hid (Blk w1 B 26 [.slice A1 n1 c1, .slice A2 n2 c2, .slice A3 n3 c3, .int .i64 i1, .int .i64 i2, .int .i64 i3, .int .i64 i4, .slice A4 n4 c4]) := W0.out.chg cc (fun h => h)
  clear cc C0 W0 P0 Q0
  have bx := (show w1.cell? ⟨B, 0, none⟩ = some (.slice A1 n1 c1) from W1.out.at_ (i := 0) rfl)
  obtain ⟨e1, he1⟩ : ∃ b, b = (!A1.isNone) := ⟨_, rfl⟩
  have HE1 := Lib.hid he1
  have hn1 : ∀ W : World, (binOp .neq 22 (.slice A1 n1 c1) (.slice none 0 0)).run Tryd.prog W = .ok (.bool e1) W := fun W => by rw [HE1.out]; exact run_neq_slice_nil_any W _ _ A1 n1 c1 0 0 Tryd.underlying22
  clear he1
  go_upto_if 19 with fail
  clear hn1
  go_cut [] from 5 to 94 (fun wx => Hid (Blk wx B 26 [.slice A1 n1 c1, .slice A2 n2 c2, .slice A3 n3 c3, .int .i64 i1, .int .i64 i2, .int .i64 i3, .int .i64 i4, .slice A4 n4 c4]) ∧ Hid (Chg (fun _ => False) w wx))
  case first =>
    rcases A1 with _ | a1
    · obtain rfl : e1 = false := HE1.out
      go_wp2_with fail
      go_meet
      case rel => exact ⟨W1.out, C1.out⟩
    · obtain rfl : e1 = true := HE1.out
      obtain ⟨z1, z2⟩ := (M1.out.chg0 C1.out).at_ LN.out
      have z3 := z2 0 _ rfl
      rw [Nat.mul_one, Nat.add_zero] at z3
      clear z2
      have z4 : (n1 : Int) + 1 ≤ (c1 : Int) := by omega
      have z5 : (0 : Int) ≤ (n1 : Int) + 1 := by omega
      have z6 : (n1 : Int) < (n1 : Int) + 1 := by omega
      have sf : (behind.toList == [66, 101, 104, 105, 110, 100]) = true := by rw [Lib.toList_data]; rfl
      have sf2 : (behind.toList != [66, 101, 104, 105, 110, 100]) = false := by rw [bne, sf]; rfl
      go_wp2_with fail
      go_meet
      case rel => exact ⟨W1.out, C1.out⟩
  case rest =>
    obtain ⟨W2, C2⟩ := hcut
    obtain ⟨w2, hw2⟩ : ∃ x, x = wc := ⟨_, rfl⟩
    subst hw2
    clear W1 C1 bx
    have bx := (show w2.cell? ⟨B, 1, none⟩ = some (.slice A2 n2 c2) from W2.out.at_ (i := 1) rfl)
    obtain ⟨e2, he2⟩ : ∃ b, b = (!A2.isNone) := ⟨_, rfl⟩
    have HE2 := Lib.hid he2
    have hn2 : ∀ W : World, (binOp .neq 22 (.slice A2 n2 c2) (.slice none 0 0)).run Tryd.prog W = .ok (.bool e2) W := fun W => by rw [HE2.out]; exact run_neq_slice_nil_any W _ _ A2 n2 c2 0 0 Tryd.underlying22
    clear he2
    go_upto_if 36 with fail
    clear hn2
    go_cut [] from 5 to 94 (fun wx => Hid (Blk wx B 26 [.slice A1 n1 c1, .slice A2 n2 c2, .slice A3 n3 c3, .int .i64 i1, .int .i64 i2, .int .i64 i3, .int .i64 i4, .slice A4 n4 c4]) ∧ Hid (Chg (fun _ => False) w wx))
    case first =>
      rcases A2 with _ | a2
      · obtain rfl : e2 = false := HE2.out
        go_wp2_with fail
        go_meet
        case rel => exact ⟨W2.out, C2.out⟩
      · obtain rfl : e2 = true := HE2.out
        obtain ⟨z1, z2⟩ := (M2.out.chg0 C2.out).at_ LC.out
        have z3 := z2 0 _ rfl
        rw [Nat.mul_one, Nat.add_zero] at z3
        clear z2
        have z4 : (n2 : Int) + 1 ≤ (c2 : Int) := by omega
        have z5 : (0 : Int) ≤ (n2 : Int) + 1 := by omega
        have z6 : (n2 : Int) < (n2 : Int) + 1 := by omega
        have sf : (behind.toList == [66, 101, 104, 105, 110, 100]) = true := by rw [Lib.toList_data]; rfl
        have sf2 : (behind.toList != [66, 101, 104, 105, 110, 100]) = false := by rw [bne, sf]; rfl
        go_wp2_with fail
        go_meet
        case rel => exact ⟨W2.out, C2.out⟩
    case rest =>
      obtain ⟨W3, C3⟩ := hcut
      obtain ⟨w3, hw3⟩ : ∃ x, x = wc := ⟨_, rfl⟩
      subst hw3
      clear W2 C2 bx
      have bx := (show w3.cell? ⟨B, 2, none⟩ = some (.slice A3 n3 c3) from W3.out.at_ (i := 2) rfl)
      obtain ⟨e3, he3⟩ : ∃ b, b = (!A3.isNone) := ⟨_, rfl⟩
      have HE3 := Lib.hid he3
      have hn3 : ∀ W : World, (binOp .neq 23 (.slice A3 n3 c3) (.slice none 0 0)).run Tryd.prog W = .ok (.bool e3) W := fun W => by rw [HE3.out]; exact run_neq_slice_nil_any W _ _ A3 n3 c3 0 0 Tryd.underlying23
      clear he3
      go_upto_if 53 with fail
      clear hn3
      go_cut [] from 5 to 94 (fun wx => Hid (Blk wx B 26 [.slice A1 n1 c1, .slice A2 n2 c2, .slice A3 n3 c3, .int .i64 i1, .int .i64 i2, .int .i64 i3, .int .i64 i4, .slice A4 n4 c4]) ∧ Hid (Chg (fun _ => False) w wx))
      case first =>
        rcases A3 with _ | a3
        · obtain rfl : e3 = false := HE3.out
          go_wp2_with fail
          go_meet
          case rel => exact ⟨W3.out, C3.out⟩
        · obtain rfl : e3 = true := HE3.out
          obtain ⟨z1, z2⟩ := (M3.out.chg0 C3.out).at_ LK.out
          have z3 := z2 0 _ rfl
          rw [Nat.mul_one, Nat.add_zero] at z3
          clear z2
          have z4 : (n3 : Int) + 1 ≤ (c3 : Int) := by omega
          have z5 : (0 : Int) ≤ (n3 : Int) + 1 := by omega
          have z6 : (n3 : Int) < (n3 : Int) + 1 := by omega
          go_wp2_with fail
          go_meet
          case rel => exact ⟨W3.out, C3.out⟩
      case rest =>
        obtain ⟨W4, C4⟩ := hcut
        obtain ⟨w4, hw4⟩ : ∃ x, x = wc := ⟨_, rfl⟩
        subst hw4
        clear W3 C3 bx
        go_wp2_with fail
        go_loopw [9, 10, 11] (fun i _ _ wr => ∃ k : Nat, k ≤ n4 ∧ i = .int .i64 k ∧ Hid (Blk wr B 26 [.slice A1 n1 c1, .slice A2 n2 c2, .slice A3 n3 c3, .int .i64 i1, .int .i64 i2, .int .i64 i3, .int .i64 i4, .slice A4 n4 c4]) ∧ Hid (Chg (fun _ => False) w wr)) (fun i _ _ _ => n4 - (intOf i).toNat)
        case atStart => exact ⟨0, Nat.zero_le _, rfl, W4.out, C4.out⟩
        case round =>
          obtain ⟨k, hk, rfl, BK, CK⟩ := hrel
          have bx := BK.out.at_ (i := 7) rfl
          by_cases hlt : k < n4
          · have h1 : k < p.days.length := by have := LD.out; omega
            have h2 : k < s.codes.length := by rw [← hp.out.lenC]; exact h1
            obtain ⟨g1, g2⟩ := dayCells_get p.days s.codes k h1 h2
            obtain ⟨a4, e4, x2⟩ := (HP.out.rd.chg0 CK.out).rd _ _ g2
            have MK := (MC.out k h1 h2).chg0 CK.out
            obtain ⟨D, c, hv, hc, hmx, hr⟩ := ((hp.out.code k h1 h2).chg0 CK.out).ex
            have hcl := insCells_length p.days[k].code
            have hsz := SC.out _ (List.getElem_mem h1)
            obtain ⟨r, hr0⟩ : ∃ r, r = p.days[k].code.length := ⟨_, rfl⟩
            rw [← hr0] at hv hc hcl hsz MK
            rw [hv] at x2 MK
            rw [← add1] at x2
            have HCL := Lib.hid hcl
            have HMK := Lib.hid MK
            clear g1 g2 hv hmx hr hr0 hcl MK
            subst e4
            have b1 : (0 : Int) ≤ (k : Int) := by omega
            have b2 : (k : Int) < (n4 : Int) := by omega
            rcases D with _ | a5
            · have hnil : ∀ W : World, (binOp .neq 40 (.slice none r c) (.slice none 0 0)).run Tryd.prog W = .ok (.bool false) W := fun W => run_neq_slice_nil_any W _ _ none r c 0 0 Tryd.underlying40
              go_wp2_with fail
              go_roundw
              case rel => exact ⟨k + 1, by omega, by go_num, BK.out, CK.out⟩
              case measure => simp [intOf]; omega
            · have hneq : ∀ W : World, (binOp .neq 40 (.slice (some a5) r c) (.slice none 0 0)).run Tryd.prog W = .ok (.bool true) W := fun W => run_neq_slice_nil_any W _ _ (some a5) r c 0 0 Tryd.underlying40
              obtain ⟨z1, z2⟩ := HMK.out.at_ HCL.out
              have z3 := z2 0 _ rfl
              rw [Nat.add_zero] at z3
              clear z2
              have z4 : (r : Int) + 1 ≤ (c : Int) := by omega
              have z5 : (0 : Int) ≤ (r : Int) + 1 := by omega
              have z6 : (r : Int) < (r : Int) + 1 := by omega
              go_wp2_with fail
              go_roundw
              case rel => exact ⟨k + 1, by omega, by go_num, BK.out, CK.out⟩
              case measure => simp [intOf]; omega
          · go_wp2_with fail
            go_ret
            exact ⟨rfl, CK.out⟩
end Go.Proofs.YtkadamoofiddeaaDoor.Kit
-- ImageCanons: the walk.
set_option linter.unusedVariables false
set_option linter.unusedSimpArgs false
namespace Go.Proofs.YtkadamoofiddeaaDoor.Kit
open Go.RowKit
/-- a program in memory, its slices written out -/
def AtP (w : World) (p : ProgV) (v : Array Value) : Prop := ∃ s, progVal s p = .agg v ∧ RdProg w s p
def AtM (w : World) (p : ProgV) (v : Array Value) : Prop := ∃ s, progVal s p = .agg v ∧ RdProg w s p ∧ Marked w s p
theorem AtP.chg0 {w w1 : World} {p : ProgV} {v : Array Value} (h : AtP w p v) (c : Chg (fun _ => False) w w1) : AtP w1 p v := by
  obtain ⟨s, e, r⟩ := h
  exact ⟨s, e, r.chg0 c⟩
theorem AtM.chg0 {w w1 : World} {p : ProgV} {v : Array Value} (h : AtM w p v) (c : Chg (fun _ => False) w w1) : AtM w1 p v := by
  obtain ⟨s, e, r, m⟩ := h
  exact ⟨s, e, r.chg0 c, m.chg0 c⟩
theorem AtM.p {w : World} {p : ProgV} {v : Array Value} (h : AtM w p v) : AtP w p v := by
  obtain ⟨s, e, r, m⟩ := h
  exact ⟨s, e, r⟩
theorem intactA {p : ProgV} {v u : Array Value} {w : World} (hp : Hid (AtM w p v)) (hq : Hid (AtP w p u)) (sp : SmallP p) :
    Calls Tryd.prog 12 #[.agg v, .agg u] w fun e w' => e = .returned (.bool true) ∧ Chg (fun _ => False) w w' := by
  obtain ⟨s, e, r, m⟩ := hp.out
  obtain ⟨t, e2, r2⟩ := hq.out
  rw [← e, ← e2]
  exact intactP r m r2 sp
/-- what own answers: the lists' lengths and the numbers are the program's -/
theorem ownA {p : ProgV} {v : Array Value} {n1 n2 n3 n4 : Nat} {i1 i2 i3 i4 : Int} {w : World} (hp : Hid (AtP w p v)) (sp : SmallP p) (hn : Hid (n1 = p.names.length ∧ n2 = p.curs.length ∧ n3 = p.pool.length ∧ n4 = p.days.length ∧ i1 = p.horizon ∧ i2 = p.cells ∧ i3 = p.slots ∧ i4 = p.stack)) :
    Calls Tryd.prog 9 #[.agg v] w fun e w' => ∃ X1 X2 X3 X4 x1 x2 x3 x4, e = .returned (.agg #[.slice X1 n1 x1, .slice X2 n2 x2, .slice X3 n3 x3, .int .i64 i1, .int .i64 i2, .int .i64 i3, .int .i64 i4, .slice X4 n4 x4]) ∧ AtM w' p #[.slice X1 n1 x1, .slice X2 n2 x2, .slice X3 n3 x3, .int .i64 i1, .int .i64 i2, .int .i64 i3, .int .i64 i4, .slice X4 n4 x4] ∧ Chg (fun _ => False) w w' := by
  obtain ⟨s, e, r⟩ := hp.out
  rw [← e]
  refine (ownP r sp).mono ?_
  rintro e w1 ⟨s1, rfl, r1, m1, c1⟩
  obtain ⟨a1, a2, a3, a4, X1, X2, X3, X4, x1, x2, x3, x4, h⟩ := r1.apart
  obtain ⟨q1, q2, q3, q4, q5, q6, q7, q8⟩ := hn.out
  have he := h.eq
  rw [h.ln, h.lc, h.lk, h.ld, ← q1, ← q2, ← q3, ← q4, ← q5, ← q6, ← q7, ← q8] at he
  exact ⟨X1, X2, X3, X4, x1, x2, x3, x4, by rw [he], ⟨s1, he, r1, m1⟩, c1⟩
theorem canonA {p : ProgV} {v : Array Value} {w : World} {er : Int} (hp : Hid (AtP w p v)) (ok : ProgOk p) (hk : Hid (KindsAt w)) (he : Hid (canonE p er)) :
    Calls Tryd.prog 10 #[.agg v] w fun e w' => e = .returned (.int .i64 er) ∧ Chg (fun _ => False) w w' := by
  obtain ⟨s, e, r⟩ := hp.out
  rw [← e]
  exact imageCanon r ok hk he
theorem refCanonA {p : ProgV} {v : Array Value} {w : World} {er : Int} (hp : Hid (AtP w p v)) (ok : ProgOk p) (hk : Hid (TblAt w)) (he : Hid (canonE p er)) :
    Calls Tryd.prog 11 #[.agg v] w fun e w' => e = .returned (.int .i64 er) ∧ Chg (fun _ => False) w w' := by
  obtain ⟨s, e, r⟩ := hp.out
  rw [← e]
  exact refCanon r ok hk he
theorem some_er (p : ProgV) : ∃ er : Int, canonE p er := by
  by_cases h : CanonP p
  · exact ⟨0, fun _ => rfl, fun h2 => absurd h h2⟩
  · exact ⟨121, fun h2 => absurd h2 h, fun _ => rfl⟩
set_option maxRecDepth 20000 in
set_option maxHeartbeats 6400000 in
theorem imageCanonsW {p : ProgV} {w : World} {n1 n2 n3 n4 c1 c2 c3 c4 : Nat} {A1 A2 A3 A4 : Option Addr} {i1 i2 i3 i4 : Int} (hp : Hid (AtP w p #[.slice A1 n1 c1, .slice A2 n2 c2, .slice A3 n3 c3, .int .i64 i1, .int .i64 i2, .int .i64 i3, .int .i64 i4, .slice A4 n4 c4])) (ok : ProgOk p) (hk : Hid (KindsAt w)) (ht : Hid (TblAt w))
    (hn : Hid (n1 = p.names.length ∧ n2 = p.curs.length ∧ n3 = p.pool.length ∧ n4 = p.days.length ∧ i1 = p.horizon ∧ i2 = p.cells ∧ i3 = p.slots ∧ i4 = p.stack)) :
    Calls Tryd.prog 3 #[.agg #[.slice A1 n1 c1, .slice A2 n2 c2, .slice A3 n3 c3, .int .i64 i1, .int .i64 i2, .int .i64 i3, .int .i64 i4, .slice A4 n4 c4]] w fun e w' => e = .returned (.bool true) ∧ Chg (fun _ => False) w w' := by
  obtain ⟨er, her⟩ := some_er p
  have HER := Lib.hid her
  have SP := Lib.hid ok.small
  have OK := Lib.hid ok
  have hee : (er == er) = true := by simp
  clear her ok
  obtain ⟨g, hg⟩ : ∃ g, g = w.heap.size := ⟨_, rfl⟩
  obtain ⟨w0, hw0⟩ : ∃ x, x = w.alloc (.cells #[.slice A1 n1 c1, .slice A2 n2 c2, .slice A3 n3 c3, .int .i64 i1, .int .i64 i2, .int .i64 i3, .int .i64 i4, .slice A4 n4 c4] 26) := ⟨_, rfl⟩
  have C0 : Hid (Chg (fun _ => False) w w0) := by rw [hw0]; exact (Chg.refl _ w).alloc _
  have E1 : Hid (Blk w0 g 26 [.slice A1 n1 c1, .slice A2 n2 c2, .slice A3 n3 c3, .int .i64 i1, .int .i64 i2, .int .i64 i3, .int .i64 i4, .slice A4 n4 c4]) := by rw [hw0, hg]; exact Blk.new w _ _
  go_enter Tryd.func3, Tryd.ntmps3
  go_wp2_with fail
  rw [← hw0, ← hg]
  clear hw0 hg
  refine (ownA (Lib.hid (hp.out.chg0 C0.out)) SP.out hn).mono ?_
  rintro e w1 ⟨X1, X2, X3, X4, x1, x2, x3, x4, rfl, mx, cx⟩
  have MX := Lib.hid mx
  have C1 : Hid (Chg (fun _ => False) w w1) := C0.out.trans cx (fun _ _ h => h)
  have E11 : Hid (Blk w1 g 26 [.slice A1 n1 c1, .slice A2 n2 c2, .slice A3 n3 c3, .int .i64 i1, .int .i64 i2, .int .i64 i3, .int .i64 i4, .slice A4 n4 c4]) := E1.out.chg cx (fun h => h)
  clear mx cx C0 E1
  go_upto_region 2 with fail
  obtain ⟨w2, hw2⟩ : ∃ x, x = w1.alloc (.cells #[.slice X1 n1 x1, .slice X2 n2 x2, .slice X3 n3 x3, .int .i64 i1, .int .i64 i2, .int .i64 i3, .int .i64 i4, .slice X4 n4 x4] 26) := ⟨_, rfl⟩
  obtain ⟨g5, hg5⟩ : ∃ x, x = w1.heap.size := ⟨_, rfl⟩
  have C12 : Hid (Chg (fun _ => False) w1 w2) := by rw [hw2]; exact (Chg.refl _ w1).alloc _
  have C2 : Hid (Chg (fun _ => False) w w2) := C1.out.trans C12.out (fun _ _ h => h)
  have E12 : Hid (Blk w2 g 26 [.slice A1 n1 c1, .slice A2 n2 c2, .slice A3 n3 c3, .int .i64 i1, .int .i64 i2, .int .i64 i3, .int .i64 i4, .slice A4 n4 c4]) := E11.out.chg C12.out (fun h => h)
  have E32 : Hid (Blk w2 g5 26 [.slice X1 n1 x1, .slice X2 n2 x2, .slice X3 n3 x3, .int .i64 i1, .int .i64 i2, .int .i64 i3, .int .i64 i4, .slice X4 n4 x4]) := by rw [hw2, hg5]; exact Blk.new w1 _ _
  have MX2 := Lib.hid (MX.out.chg0 C12.out)
  have PA2 : Hid (AtP w2 p #[.slice A1 n1 c1, .slice A2 n2 c2, .slice A3 n3 c3, .int .i64 i1, .int .i64 i2, .int .i64 i3, .int .i64 i4, .slice A4 n4 c4]) := hp.out.chg0 C2.out
  rw [← hw2, ← hg5]
  clear hw2 hg5 E11 MX C12
  have TA : Hid (∀ W, Chg (fun _ => False) w2 W → W.cell? ⟨g, 0, none⟩ = some (.slice A1 n1 c1) ∧ W.cell? ⟨g, 1, none⟩ = some (.slice A2 n2 c2) ∧ W.cell? ⟨g, 2, none⟩ = some (.slice A3 n3 c3) ∧ W.cell? ⟨g, 3, none⟩ = some (.int .i64 i1) ∧ W.cell? ⟨g, 4, none⟩ = some (.int .i64 i2) ∧ W.cell? ⟨g, 5, none⟩ = some (.int .i64 i3) ∧ W.cell? ⟨g, 6, none⟩ = some (.int .i64 i4) ∧ W.cell? ⟨g, 7, none⟩ = some (.slice A4 n4 c4) ∧ W.cell? ⟨g5, 0, none⟩ = some (.slice X1 n1 x1) ∧ W.cell? ⟨g5, 1, none⟩ = some (.slice X2 n2 x2) ∧ W.cell? ⟨g5, 2, none⟩ = some (.slice X3 n3 x3) ∧ W.cell? ⟨g5, 3, none⟩ = some (.int .i64 i1) ∧ W.cell? ⟨g5, 4, none⟩ = some (.int .i64 i2) ∧ W.cell? ⟨g5, 5, none⟩ = some (.int .i64 i3) ∧ W.cell? ⟨g5, 6, none⟩ = some (.int .i64 i4) ∧ W.cell? ⟨g5, 7, none⟩ = some (.slice X4 n4 x4)) := fun W cW => ⟨(E12.out.chg cW (fun h => h)).at_ (i := 0) rfl, (E12.out.chg cW (fun h => h)).at_ (i := 1) rfl, (E12.out.chg cW (fun h => h)).at_ (i := 2) rfl, (E12.out.chg cW (fun h => h)).at_ (i := 3) rfl, (E12.out.chg cW (fun h => h)).at_ (i := 4) rfl, (E12.out.chg cW (fun h => h)).at_ (i := 5) rfl, (E12.out.chg cW (fun h => h)).at_ (i := 6) rfl, (E12.out.chg cW (fun h => h)).at_ (i := 7) rfl, (E32.out.chg cW (fun h => h)).at_ (i := 0) rfl, (E32.out.chg cW (fun h => h)).at_ (i := 1) rfl, (E32.out.chg cW (fun h => h)).at_ (i := 2) rfl, (E32.out.chg cW (fun h => h)).at_ (i := 3) rfl, (E32.out.chg cW (fun h => h)).at_ (i := 4) rfl, (E32.out.chg cW (fun h => h)).at_ (i := 5) rfl, (E32.out.chg cW (fun h => h)).at_ (i := 6) rfl, (E32.out.chg cW (fun h => h)).at_ (i := 7) rfl⟩
  have KC : Hid (∀ W, Chg (fun _ => False) w2 W → Calls Tryd.prog 10 #[.agg #[.slice X1 n1 x1, .slice X2 n2 x2, .slice X3 n3 x3, .int .i64 i1, .int .i64 i2, .int .i64 i3, .int .i64 i4, .slice X4 n4 x4]] W fun e w' => e = .returned (.int .i64 er) ∧ Chg (fun _ => False) W w') := fun W cW => canonA (Lib.hid (MX2.out.p.chg0 cW)) OK.out (Lib.hid (hk.out.chg0 (C2.out.trans cW (fun _ _ h => h)))) HER
  have KR : Hid (∀ W, Chg (fun _ => False) w2 W → Calls Tryd.prog 11 #[.agg #[.slice A1 n1 c1, .slice A2 n2 c2, .slice A3 n3 c3, .int .i64 i1, .int .i64 i2, .int .i64 i3, .int .i64 i4, .slice A4 n4 c4]] W fun e w' => e = .returned (.int .i64 er) ∧ Chg (fun _ => False) W w') := fun W cW => refCanonA (Lib.hid (PA2.out.chg0 cW)) OK.out (Lib.hid (ht.out.chg0 (C2.out.trans cW (fun _ _ h => h)))) HER
  have KI : Hid (∀ W, Chg (fun _ => False) w2 W → Calls Tryd.prog 12 #[.agg #[.slice X1 n1 x1, .slice X2 n2 x2, .slice X3 n3 x3, .int .i64 i1, .int .i64 i2, .int .i64 i3, .int .i64 i4, .slice X4 n4 x4], .agg #[.slice A1 n1 c1, .slice A2 n2 c2, .slice A3 n3 c3, .int .i64 i1, .int .i64 i2, .int .i64 i3, .int .i64 i4, .slice A4 n4 c4]] W fun e w' => e = .returned (.bool true) ∧ Chg (fun _ => False) W w') := fun W cW => intactA (Lib.hid (MX2.out.chg0 cW)) (Lib.hid (PA2.out.chg0 cW)) SP.out
  have CC : Hid (Chg (fun _ => False) w2 w2) := Chg.refl _ _
  go_region_held3 (fun W => W.cell? ⟨g, 0, none⟩ = some (.slice A1 n1 c1) ∧ W.cell? ⟨g, 1, none⟩ = some (.slice A2 n2 c2) ∧ W.cell? ⟨g, 2, none⟩ = some (.slice A3 n3 c3) ∧ W.cell? ⟨g, 3, none⟩ = some (.int .i64 i1) ∧ W.cell? ⟨g, 4, none⟩ = some (.int .i64 i2) ∧ W.cell? ⟨g, 5, none⟩ = some (.int .i64 i3) ∧ W.cell? ⟨g, 6, none⟩ = some (.int .i64 i4) ∧ W.cell? ⟨g, 7, none⟩ = some (.slice A4 n4 c4) ∧ W.cell? ⟨g5, 0, none⟩ = some (.slice X1 n1 x1) ∧ W.cell? ⟨g5, 1, none⟩ = some (.slice X2 n2 x2) ∧ W.cell? ⟨g5, 2, none⟩ = some (.slice X3 n3 x3) ∧ W.cell? ⟨g5, 3, none⟩ = some (.int .i64 i1) ∧ W.cell? ⟨g5, 4, none⟩ = some (.int .i64 i2) ∧ W.cell? ⟨g5, 5, none⟩ = some (.int .i64 i3) ∧ W.cell? ⟨g5, 6, none⟩ = some (.int .i64 i4) ∧ W.cell? ⟨g5, 7, none⟩ = some (.slice X4 n4 x4)) (exact TA.out _ (by repeat (first | exact CC.out | exact Chg.refl _ _ | refine Chg.drew ?_ | refine Chg.drewN ?_ _ | refine Chg.alloc ?_ _))) (first | (go_at_call 10; (with_reducible refine (KC.out _ (by repeat (first | exact CC.out | exact Chg.refl _ _ | refine Chg.drew ?_ | refine Chg.drewN ?_ _ | refine Chg.alloc ?_ _))).mono ?_); rintro e wn ⟨rfl, cc⟩; have CC : Hid (Chg (fun _ => False) w2 wn) := (show Chg (fun _ => False) w2 _ from (by repeat (first | exact CC.out | exact Chg.refl _ _ | refine Chg.drew ?_ | refine Chg.drewN ?_ _ | refine Chg.alloc ?_ _))).trans cc (fun _ _ h => h); clear cc) | (go_at_call 11; (with_reducible refine (KR.out _ (by repeat (first | exact CC.out | exact Chg.refl _ _ | refine Chg.drew ?_ | refine Chg.drewN ?_ _ | refine Chg.alloc ?_ _))).mono ?_); rintro e wn ⟨rfl, cc⟩; have CC : Hid (Chg (fun _ => False) w2 wn) := (show Chg (fun _ => False) w2 _ from (by repeat (first | exact CC.out | exact Chg.refl _ _ | refine Chg.drew ?_ | refine Chg.drewN ?_ _ | refine Chg.alloc ?_ _))).trans cc (fun _ _ h => h); clear cc) | (go_at_call 12; (with_reducible refine (KI.out _ (by repeat (first | exact CC.out | exact Chg.refl _ _ | refine Chg.drew ?_ | refine Chg.drewN ?_ _ | refine Chg.alloc ?_ _))).mono ?_); rintro e wn ⟨rfl, cc⟩; have CC : Hid (Chg (fun _ => False) w2 wn) := (show Chg (fun _ => False) w2 _ from (by repeat (first | exact CC.out | exact Chg.refl _ _ | refine Chg.drew ?_ | refine Chg.drewN ?_ _ | refine Chg.alloc ?_ _))).trans cc (fun _ _ h => h); clear cc))
  all_goals
    go_wp2_with fail
    go_ret
    exact ⟨rfl, C2.out.trans CC.out (fun _ _ h => h)⟩
theorem imageCanonsWalk (w : World) (s : ProgS) (p : ProgV) (hr : Hid (RdProg w s p)) (ok : ProgOk p) (hk : Hid (KindsAt w)) (ht : Hid (TblAt w)) :
    Calls Tryd.prog 3 #[progVal s p] w fun e w' => e = .returned (.bool true) ∧ Below w.heap.size w w' := by
  obtain ⟨_, _, _, _, A1, A2, A3, A4, c1, c2, c3, c4, h⟩ := hr.out.apart
  rw [h.eq]
  refine (imageCanonsW (Lib.hid ⟨s, h.eq, hr.out⟩) ok hk ht (Lib.hid ⟨h.ln, h.lc, h.lk, h.ld, rfl, rfl, rfl, rfl⟩)).mono ?_
  rintro e w1 ⟨rfl, c⟩
  exact ⟨rfl, c.done⟩
end Go.Proofs.YtkadamoofiddeaaDoor.Kit
