/- Texts that the row leans on: PgO, PvC, PcQ, PvD. -/
import Derived.Test.YtkadamoofiddeaaDoorProg
import Derived.Test.YtkadamoofiddeaaDoorQVerifyWaysab
import Derived.Deep.RegionLaw
import Derived.Deep.DeepCutAuto
import Derived.Deep.LoopGhost
import Derived.Laws.MakeOwn
import Derived.Test.YtkadamoofiddeaaDoorQVerifyWaysad
import Derived.BigRegion
import Derived.Test.YtkadamoofiddeaaDoorRows
import Derived.ProofKit
import Derived.LaidMore
import Derived.OpenShut
import Derived.Stop.Joined
-- Programs: a program in new memory, with something behind the ends of its lists (own).
set_option linter.unusedVariables false
set_option linter.unusedSimpArgs false
namespace Go.Proofs.YtkadamoofiddeaaDoor.Kit
open Go.RowKit
theorem run_make0 {P : Program} (t e : TypeId) (z : Value) (sz bytes : Nat) (ht : P.underlying t = some (.slice e)) (hinfo : (P.info? e).map (fun i => (i.zero, i.size, i.bytes)) = some (some z, sz, bytes)) (m : Nat) (hb : bytes * m ≤ 281474976710656) (h63 : m ≤ 9223372036854775807) (W : World) :
    (Instr.makeSlice t (.int .i64 0) (.int .i64 (m : Int))).run P W = .ok (.slice (some ⟨W.heap.size, 0, none⟩) 0 m) (W.alloc (.cells (madeCells z.cells (m * sz)) e)) := by
  obtain ⟨i, hi, hzz⟩ := Option.map_eq_some_iff.1 hinfo
  simp only [Prod.mk.injEq] at hzz
  obtain ⟨hz, hs, hbb⟩ := hzz
  have hb' : (i.bytes : Int) * (m : Int) ≤ 281474976710656 := by
    rw [hbb]
    have h : ((bytes * m : Nat) : Int) ≤ 281474976710656 := by omega
    rwa [Int.natCast_mul] at h
  have hr := run_make (P := P) W t e i z ht hi hz .i64 .i64 0 m (Int.le_refl _) (by omega) hb' (by omega)
  simp only [Int.toNat_natCast, hs, Int.toNat_zero] at hr
  exact hr
theorem OwnV.made0 (W : World) (e : TypeId) (z : Array Value) (sz m b : Nat) (hb : b = W.heap.size) (hm : m ≤ maxLen) : OwnV (W.alloc (.cells (madeCells z (m * sz)) e)) e sz (.slice (some ⟨b, 0, none⟩) 0 m) 0 [] := by
  subst hb
  refine ⟨by simp, .inr ⟨W.heap.size, m, (madeCells z (m * sz)).toList, rfl, ?_, Nat.zero_le _, hm, ?_, by simp⟩⟩
  · have := Blk.new W (madeCells z (m * sz)) e
    exact this
  · rw [Array.length_toList, size_madeCells]
    exact Nat.le_refl _
section
variable {P : Program} {ops : Array Oper} {rest : List Oper} {o : Oper} {a : Act} {Q : Exit → Act → World → Prop}
/-- append(v, src...) in a region -/
theorem st_appG {W : World} {K : Act → World → Prop} {E : Prop} (hgd : o.guard = none) (s x : Operand) (t e : TypeId) (z : Value) (sz bytes : Nat)
    (ho : o.op = .call { callee := .builtin .append, args := #[s, x], argTypes := #[t, t] })
    (ht : P.underlying t = some (.slice e)) (hinfo : (P.info? e).map (fun i => (i.zero, i.size, i.bytes)) = some (some z, sz, bytes)) (hzs : z.cells.size = sz) (hsz : 0 < sz) (hby : 0 < bytes)
    (v : Value) (n : Nat) (cs : List Value) (hs : a.eval s = v) (hown : OwnV W e sz v n cs)
    (A : Option Addr) (m c : Nat) (news : List Value) (hx : a.eval x = .slice A m c) (hl : news.length = m * sz) (hnews : RdG W A news) (h1 : ∀ u ∈ news, u.oneCell' = true)
    (hbytes : (n + m) * bytes ≤ 140737488355328)
    (h : ∀ v' w', OwnV w' e sz v' (n + m) (cs ++ news) → Chg (fun k => v.ownBlock = some k) W w' → Fresh W v v' → K (a.put o.dst v') w') : if Region.wanted o (yielded ops a.tmps) = true then o.wp P a W K Q else E := by
  rw [if_pos (by simp [Region.wanted, hgd])]
  refine ow_app s x t e z sz bytes ho ht hinfo hzs hsz hby v n cs hs hown A m c news hx hl hnews h1 hbytes fun v' w' h2 h3 h4 h5 => h v' w' h2 h4 (h5.imp id fun h5 g hg => ?_)
  rw [h5] at hg
  injection hg with hg
  omega
/-- append(v, y), y of sz cells: the world is 'W.alloc' of its box -/
theorem wp_appG {W : World} (hgd : o.guard = none) (s x : Operand) (t e : TypeId) (z : Value) (sz bytes : Nat)
    (ho : o.op = .call { callee := .builtin .append, args := #[s, x], argTypes := #[t, t] })
    (ht : P.underlying t = some (.slice e)) (hinfo : (P.info? e).map (fun i => (i.zero, i.size, i.bytes)) = some (some z, sz, bytes)) (hzs : z.cells.size = sz) (hsz : 0 < sz) (hby : 0 < bytes)
    (v : Value) (n : Nat) (cs ys : List Value) (hl : ys.length = sz) (h1 : ∀ u ∈ ys, u.oneCell' = true) (hs : a.eval s = v) (hown : OwnV W e sz v n cs)
    (hx : a.eval x = .slice (some ⟨W.heap.size, 0, none⟩) 1 1) (hbytes : (n + 1) * bytes ≤ 140737488355328)
    (h : ∀ v' w', OwnV w' e sz v' (n + 1) (cs ++ ys) → Chg (fun g => v.ownBlock = some g) W w' → Fresh W v v' → wpList P ops Q rest (a.put o.dst v') w') :
    wpList P ops Q (o :: rest) a (W.alloc (.cells ys.toArray e)) :=
  wpList_plain hgd fun _ hK => by
    refine ow_app (W := W.alloc (.cells ys.toArray e)) s x t e z sz bytes ho ht hinfo hzs hsz hby v n cs hs (hown.chg (S := fun _ => False) ((Chg.refl _ W).alloc _) (fun _ _ h => h)) _ 1 1 ys hx (by rw [hl, Nat.one_mul]) ?_ h1 hbytes fun v' w' h2 h3 h4 h5 => hK _ _ (h v' w' h2 ?_ ?_)
    · intro j u hj
      refine ⟨_, rfl, ?_⟩
      have := (Blk.new' W ys e).cell j
      rw [show (⟨W.heap.size, 0, none⟩ : Addr).add j = ⟨W.heap.size, j, none⟩ from by unfold Addr.add; split <;> simp_all, this]
      exact hj
    · exact ((Chg.refl _ W).alloc _).trans h4 (fun _ _ h => h)
    · rcases h5 with h5 | h5
      · exact .inl h5
      · refine .inr fun g hg => ?_
        rw [h5] at hg
        injection hg with hg
        simp at hg
        omega
end
theorem Chg.store0 {w w1 : World} (h : Chg (fun _ => False) w w1) (b i : Nat) (v : Value) : Chg (fun x => x = b) w (w1.setCell ⟨b, i, none⟩ v) :=
  (h.mono (T := fun x => x = b) (fun _ _ h => h.elim)).setCell (p := ⟨b, i, none⟩) (fun _ => rfl) v
theorem infoStr : (Tryd.prog.info? 9).map (fun i => (i.zero, i.size, i.bytes)) = some (some (.string ByteArray.empty), 1, 16) := by kernel_rfl
theorem infoI : (Tryd.prog.info? 3).map (fun i => (i.zero, i.size, i.bytes)) = some (some (.int .i64 0), 1, 8) := by kernel_rfl
theorem infoIns : (Tryd.prog.info? 47).map (fun i => (i.zero, i.size, i.bytes)) = some (some (.agg #[.int .i64 0, .int .i64 0, .int .i64 0]), 3, 24) := by kernel_rfl
theorem infoSeg : (Tryd.prog.info? 42).map (fun i => (i.zero, i.size, i.bytes)) = some (some (.agg #[.int .i64 0, .slice none 0 0]), 2, 32) := by kernel_rfl
theorem strs_cell (l : List ByteArray) : ∀ u ∈ strs l, u.oneCell' = true := by
  intro u hu
  simp only [strs, List.mem_map] at hu
  obtain ⟨q, _, rfl⟩ := hu
  rfl
theorem ins_cell (l : List InsV) : ∀ u ∈ insCells l, u.oneCell' = true := by
  intro u hu
  simp only [insCells, List.mem_flatMap] at hu
  obtain ⟨q, _, hq⟩ := hu
  simp at hq
  rcases hq with rfl | rfl | rfl <;> rfl
/-- the list in a field of the copy: marked, and typed -/
structure Cop (w : World) (v : Value) (e : TypeId) (sz n : Nat) (cs mark : List Value) : Prop where
  sl : SlG w v sz n cs
  mg : MkG w v n cs mark
  ty : ∀ g, v.ownBlock = some g → ∃ cur, Blk w g e cur
theorem Cop.chg {w w1 : World} {v : Value} {e : TypeId} {sz n : Nat} {cs mark : List Value} {S : Nat → Prop} (h : Cop w v e sz n cs mark) (c : Chg S w w1) (hS : ∀ g, v.ownBlock = some g → ¬ S g) : Cop w1 v e sz n cs mark :=
  ⟨h.sl.chg c hS, h.mg.chg c hS, fun g hg => by obtain ⟨cur, hb⟩ := h.ty g hg; exact ⟨cur, hb.chg c (hS g hg)⟩⟩
/-- nil stays nil -/
theorem Cop.nil {w : World} {n c : Nat} {e : TypeId} {sz : Nat} {cs mark : List Value} (hc : n ≤ c) (hm : c ≤ maxLen) (hl : cs.length = n * sz) (hr : RdG w none cs) : Cop w (.slice none n c) e sz n cs mark :=
  ⟨⟨⟨none, c, rfl, hc, hm, hr⟩, hl⟩, .inl ⟨c, rfl⟩, fun g hg => by simp [Value.ownBlock] at hg⟩
/-- a row of n + 1 elements, cut to n -/
theorem Cop.of {w : World} {A : Option Addr} {n c : Nat} {e : TypeId} {sz : Nat} {cs mark : List Value} (hl : cs.length = n * sz) (hm : 0 < mark.length) (h : OwnV w e sz (.slice A (n + 1) c) (n + 1) (cs ++ mark)) : ∃ ad, A = some ad ∧ Cop w (.slice (some ad) n c) e sz n cs mark := by
  obtain ⟨A', c', hv, hc, hx⟩ := h.slice
  simp only [Value.slice.injEq] at hv
  obtain ⟨rfl, _, rfl⟩ := hv
  have hr := h.toG
  obtain ⟨ad, rfl⟩ := hr.some_of (by rw [List.length_append]; omega)
  exact ⟨ad, rfl, ⟨⟨some ad, c, rfl, by omega, hx, hr.left⟩, hl⟩, .inr ⟨ad, c, rfl, hc, hr⟩, fun g hg => h.typed g hg⟩
/-- the boxes of own: the parameter, the result, the copy -/
structure OwnW (wx : World) (B : Nat) (p v : List Value) : Prop where
  box : Blk wx B 26 p
  res : Blk wx (B + 1) 26 [.slice none 0 0, .slice none 0 0, .slice none 0 0, .int .i64 0, .int .i64 0, .int .i64 0, .int .i64 0, .slice none 0 0]
  cop : Blk wx (B + 1 + 1) 26 v
theorem OwnW.chg {wx w1 : World} {B : Nat} {p v : List Value} {S : Nat → Prop} (h : OwnW wx B p v) (c : Chg S wx w1) (hS : ¬ S B ∧ ¬ S (B + 1) ∧ ¬ S (B + 1 + 1)) : OwnW w1 B p v := ⟨h.box.chg c hS.1, h.res.chg c hS.2.1, h.cop.chg c hS.2.2⟩
theorem OwnW.set {wx : World} {B : Nat} {p v : List Value} (h : OwnW wx B p v) (i : Nat) (x : Value) : OwnW (wx.setCell ⟨B + 1 + 1, i, none⟩ x) B p (v.set i x) :=
  ⟨h.box.set_other (p := ⟨B + 1 + 1, i, none⟩) (by show B ≠ B + 1 + 1; omega) x, h.res.set_other (p := ⟨B + 1 + 1, i, none⟩) (by show B + 1 ≠ B + 1 + 1; omega) x, h.cop.set i x⟩
/-- a row of other elements is no box -/
theorem OwnW.ne {wx : World} {B n sz : Nat} {p v cs : List Value} {e : TypeId} {u : Value} (h : OwnW wx B p v) (hu : OwnV wx e sz u n cs) (he : e ≠ 26) : ¬ u.ownBlock = some B ∧ ¬ u.ownBlock = some (B + 1) ∧ ¬ u.ownBlock = some (B + 1 + 1) := ⟨hu.type_ne h.box he, hu.type_ne h.res he, hu.type_ne h.cop he⟩

set_option maxRecDepth 20000 in
set_option maxHeartbeats 6400000 in
theorem ownP {s : ProgS} {p : ProgV} {w : World} (hp : Hid (RdProg w s p)) (sp : SmallP p) :
    Calls Tryd.prog 9 #[progVal s p] w fun e w' => ∃ s', e = .returned (progVal s' p) ∧ RdProg w' s' p ∧ Marked w' s' p ∧ Chg (fun _ => False) w w' := by
  obtain ⟨n1, n2, n3, n4, A1, A2, A3, A4, c1, c2, c3, c4, HP0⟩ := hp.out.apart
  have HP := Lib.hid HP0
  rw [HP.out.eq]
  have S1 : n1 * 16 ≤ 140737488351232 := by have := HP0.ln; have := sp.names; omega
  have S2 : n2 * 16 ≤ 140737488351232 := by have := HP0.lc; have := sp.curs; omega
  have S3 : n3 * 8 ≤ 140737488351232 := by have := HP0.lk; have := sp.pool; omega
  have S4 : n4 * 32 ≤ 140737488351232 := by have := HP0.ld; have := sp.days; omega
  have SC : Hid (∀ x ∈ p.days, x.code.length * 24 ≤ 140737488351232) := sp.code
  have LN : Hid ((strs p.names).length = n1 * 1) := by rw [Hid, strs_length, HP0.ln, Nat.mul_one]
  have LC : Hid ((strs p.curs).length = n2 * 1) := by rw [Hid, strs_length, HP0.lc, Nat.mul_one]
  have LK : Hid ((nums .i64 p.pool).length = n3 * 1) := by rw [Hid, nums_length, HP0.lk, Nat.mul_one]
  have LD := Lib.hid HP0.ld
  have q1 := HP0.hn
  have q2 := HP0.hc
  have q3 := HP0.hk
  have q4 := HP0.hd
  obtain ⟨i1, hi1⟩ : ∃ x, x = p.horizon := ⟨_, rfl⟩
  obtain ⟨i2, hi2⟩ : ∃ x, x = p.cells := ⟨_, rfl⟩
  obtain ⟨i3, hi3⟩ : ∃ x, x = p.slots := ⟨_, rfl⟩
  obtain ⟨i4, hi4⟩ : ∃ x, x = p.stack := ⟨_, rfl⟩
  rw [← hi1, ← hi2, ← hi3, ← hi4]
  have HI : Hid (i1 = p.horizon ∧ i2 = p.cells ∧ i3 = p.slots ∧ i4 = p.stack) := ⟨hi1, hi2, hi3, hi4⟩
  clear hi1 hi2 hi3 hi4 HP0
  obtain ⟨B, hB⟩ : ∃ B, B = w.heap.size := ⟨_, rfl⟩
  have HB := Lib.hid hB
  obtain ⟨PV, hPV⟩ : ∃ l : List Value, l = [.slice A1 n1 c1, .slice A2 n2 c2, .slice A3 n3 c3, .int .i64 i1, .int .i64 i2, .int .i64 i3, .int .i64 i4, .slice A4 n4 c4] := ⟨_, rfl⟩
  have HPV := Lib.hid hPV
  obtain ⟨w0, hw0⟩ : ∃ x, x = ((w.alloc (.cells #[.slice A1 n1 c1, .slice A2 n2 c2, .slice A3 n3 c3, .int .i64 i1, .int .i64 i2, .int .i64 i3, .int .i64 i4, .slice A4 n4 c4] 26)).alloc (.cells #[.slice none 0 0, .slice none 0 0, .slice none 0 0, .int .i64 0, .int .i64 0, .int .i64 0, .int .i64 0, .slice none 0 0] 26)).alloc (.cells #[.slice A1 n1 c1, .slice A2 n2 c2, .slice A3 n3 c3, .int .i64 i1, .int .i64 i2, .int .i64 i3, .int .i64 i4, .slice A4 n4 c4] 26) := ⟨_, rfl⟩
  have C0 : Hid (Chg (fun _ => False) w w0) := by rw [hw0]; exact (((Chg.refl _ w).alloc _).alloc _).alloc _
  have W0 : Hid (OwnW w0 B PV [Value.slice A1 n1 c1, Value.slice A2 n2 c2, Value.slice A3 n3 c3, Value.int .i64 i1, Value.int .i64 i2, Value.int .i64 i3, Value.int .i64 i4, Value.slice A4 n4 c4]) := by
    rw [hw0, hB, hPV]
    refine ⟨((Blk.new w _ _).alloc _).alloc _, ?_, ?_⟩
    · have hh := Blk.new (w.alloc (.cells #[.slice A1 n1 c1, .slice A2 n2 c2, .slice A3 n3 c3, .int .i64 i1, .int .i64 i2, .int .i64 i3, .int .i64 i4, .slice A4 n4 c4] 26)) #[.slice none 0 0, .slice none 0 0, .slice none 0 0, .int .i64 0, .int .i64 0, .int .i64 0, .int .i64 0, .slice none 0 0] 26
      rw [show (w.alloc (.cells #[.slice A1 n1 c1, .slice A2 n2 c2, .slice A3 n3 c3, .int .i64 i1, .int .i64 i2, .int .i64 i3, .int .i64 i4, .slice A4 n4 c4] 26)).heap.size = w.heap.size + 1 by simp] at hh
      exact hh.alloc _
    · have hh := Blk.new ((w.alloc (.cells #[.slice A1 n1 c1, .slice A2 n2 c2, .slice A3 n3 c3, .int .i64 i1, .int .i64 i2, .int .i64 i3, .int .i64 i4, .slice A4 n4 c4] 26)).alloc (.cells #[.slice none 0 0, .slice none 0 0, .slice none 0 0, .int .i64 0, .int .i64 0, .int .i64 0, .int .i64 0, .slice none 0 0] 26)) #[.slice A1 n1 c1, .slice A2 n2 c2, .slice A3 n3 c3, .int .i64 i1, .int .i64 i2, .int .i64 i3, .int .i64 i4, .slice A4 n4 c4] 26
      rw [show ((w.alloc (.cells #[.slice A1 n1 c1, .slice A2 n2 c2, .slice A3 n3 c3, .int .i64 i1, .int .i64 i2, .int .i64 i3, .int .i64 i4, .slice A4 n4 c4] 26)).alloc (.cells #[.slice none 0 0, .slice none 0 0, .slice none 0 0, .int .i64 0, .int .i64 0, .int .i64 0, .int .i64 0, .slice none 0 0] 26)).heap.size = w.heap.size + 1 + 1 by simp] at hh
      exact hh
  go_enter Tryd.func9, Tryd.ntmps9
  have bx := (show w0.cell? ⟨B, 0, none⟩ = some (.slice A1 n1 c1) from W0.out.box.at_ (i := 0) (by rw [hPV]; rfl))
  obtain ⟨e1, he1⟩ : ∃ b, b = (!A1.isNone) := ⟨_, rfl⟩
  have HE1 := Lib.hid he1
  have hn1 : ∀ W : World, (binOp .neq 22 (.slice A1 n1 c1) (.slice none 0 0)).run Tryd.prog W = .ok (.bool e1) W := fun W => by rw [HE1.out]; exact run_neq_slice_nil_any W _ _ A1 n1 c1 0 0 Tryd.underlying22
  clear he1
  go_upto_if 13 with fail
  rw [← hw0, ← hB]
  clear hw0 hB hPV hn1
  go_cut [] from 4 to 123 (fun wx => ∃ X1 y1, Hid (OwnW wx B PV [Value.slice X1 n1 y1, Value.slice A2 n2 c2, Value.slice A3 n3 c3, Value.int .i64 i1, Value.int .i64 i2, Value.int .i64 i3, Value.int .i64 i4, Value.slice A4 n4 c4]) ∧ Hid (Cop wx (.slice X1 n1 y1) 9 1 n1 (strs p.names) [Value.string behind]) ∧ Hid (Chg (fun _ => False) w wx))
  case first =>
    rcases A1 with _ | a1
    · obtain rfl : e1 = false := HE1.out
      go_wp2_with fail
      go_meet
      case rel => exact ⟨none, c1, W0.out, Cop.nil q1 (HP.out.mn) LN.out (HP.out.rn.chg0 C0.out), C0.out⟩
    · obtain rfl : e1 = true := HE1.out
      obtain ⟨ob, hob⟩ : ∃ ob, ob = Obj.cells (madeCells (Value.cells (.string ByteArray.empty)) ((n1 + 1) * 1)) 9 := ⟨_, rfl⟩
      have hmk : ∀ W : World, (Instr.makeSlice 22 (.int .i64 0) (.int .i64 ((n1 : Int) + 1))).run Tryd.prog W = .ok (.slice (some ⟨W.heap.size, 0, none⟩) 0 (n1 + 1)) (W.alloc ob) := fun W => by
        rw [hob]
        have hh := run_make0 (P := Tryd.prog) 22 9 (.string ByteArray.empty) 1 16 Tryd.underlying22 infoStr (n1 + 1) (by omega) (by omega) W
        rw [show ((n1 + 1 : Nat) : Int) = (n1 : Int) + 1 by omega] at hh
        exact hh
      have hwr : IntKind.i64.wrap ((n1 : Int) + 1) = (n1 : Int) + 1 := IntWalk.i64_in _ (by omega)
      have hmx : Hid (n1 + 1 ≤ maxLen) := Nat.le_trans (show n1 + 1 ≤ 140737488351232 by omega) (by decide)
      have RA : Hid (RdG w0 (some a1) (strs p.names)) := HP.out.rn.chg0 C0.out
      have OM : Hid (OwnV (w0.alloc ob) 9 1 (.slice (some ⟨w0.heap.size, 0, none⟩) 0 (n1 + 1)) 0 []) := by rw [hob]; exact OwnV.made0 w0 9 (Value.cells (.string ByteArray.empty)) 1 (n1 + 1) w0.heap.size rfl hmx.out
      clear hob
      have bxa : (w0.alloc ob).cell? ⟨B, 0, none⟩ = some (.slice (some a1) n1 c1) := ((Chg.refl (fun _ => False) w0).alloc _).cell (p := ⟨B, 0, none⟩) (fun h => h) bx
      go_wp2_with fail
      go_region_law ((refine st_appG rfl _ _ 22 9 (.string ByteArray.empty) 1 16 rfl Tryd.underlying22 infoStr rfl (by decide) (by decide) (.slice (some ⟨w0.heap.size, 0, none⟩) 0 (n1 + 1)) 0 [] rfl (OM.out.chg (S := fun _ => False) (by repeat (first | exact Chg.refl _ _ | refine Chg.drew ?_ | refine Chg.drewN ?_ _ | refine Chg.alloc ?_ _)) (fun _ _ h => h)) (some a1) n1 c1 (strs p.names) rfl LN.out (RA.out.chg0 (by repeat (first | exact Chg.refl _ _ | refine Chg.drew ?_ | refine Chg.drewN ?_ _ | refine Chg.alloc ?_ _))) (strs_cell _) (by omega) ?_; intro v' w4 k1 k2 k3; (try simp only [List.nil_append, Nat.zero_add] at k1); obtain ⟨A4', c4', rfl, hc4, _⟩ := k1.slice; have K1 := Lib.hid k1; have C4 : Hid (Chg (fun _ => False) w0 w4) := (((Chg.refl (fun _ => False) w0).alloc ob).drew).fresh k2 (blk_ge (Nat.le_refl _)); have F4 : Hid (∀ g, Value.ownBlock (.slice A4' n1 c4') = some g → w0.heap.size ≤ g) := k3.ge (blk_ge (Nat.le_refl _)) (by simp); clear k1 k2 k3; have W4 : Hid (OwnW w4 B PV [Value.slice (some a1) n1 c1, Value.slice A2 n2 c2, Value.slice A3 n3 c3, Value.int .i64 i1, Value.int .i64 i2, Value.int .i64 i3, Value.int .i64 i4, Value.slice A4 n4 c4]) := W0.out.chg C4.out ⟨id, id, id⟩; have bx4 := W4.out.box.at_ (i := 0) (by rw [HPV.out]; rfl)))
      all_goals
        go_wp2_with (at_builtin; go_must (refine wp_appG rfl _ _ 22 9 (.string ByteArray.empty) 1 16 rfl Tryd.underlying22 infoStr rfl (by decide) (by decide) (.slice A4' n1 c4') n1 (strs p.names) [Value.string behind] rfl (by simp [Value.oneCell']) rfl K1.out rfl (by omega) ?_); intro v5 w5 k1 k2 k3; obtain ⟨A5', c5', rfl, hc5, _⟩ := k1.slice; obtain ⟨ad5, rfl, hcop⟩ := Cop.of LN.out (by decide) k1; have K5 := Lib.hid k1; have CP5 := Lib.hid hcop; have C5 : Hid (Chg (fun _ => False) w0 w5) := C4.out.fresh k2 F4.out; have W5 : Hid (OwnW w5 B PV [Value.slice (some a1) n1 c1, Value.slice A2 n2 c2, Value.slice A3 n3 c3, Value.int .i64 i1, Value.int .i64 i2, Value.int .i64 i3, Value.int .i64 i4, Value.slice A4 n4 c4]) := W4.out.chg k2 (W4.out.ne K1.out (by decide)); have bx5 := W5.out.box.at_ (i := 0) (by rw [HPV.out]; rfl); have y5 := W5.out.cop.at_ (i := 0) rfl; have fy5 := W5.out.cop.frozen (i := 0) (by simp); clear k1 k2 k3 hcop; have bl5 : (n1 : Int) ≤ (c5' : Int) := (by omega))
        have CW : Hid (Chg (fun x => x = B + 1 + 1) w0 (w5.setCell ⟨B + 1 + 1, 0, none⟩ (.slice (some ad5) n1 c5'))) := C5.out.store0 _ _ _
        go_meet
        case rel => exact ⟨some ad5, c5', W5.out.set 0 _, CP5.out.chg (((Chg.refl (fun x => x = B + 1 + 1) w5).setCell (p := ⟨B + 1 + 1, 0, none⟩) (fun _ => rfl) _)) (fun g hg e1 => by obtain ⟨cur, hb⟩ := CP5.out.ty g hg; exact hb.type_ne W5.out.cop (by decide) e1), C0.out.trans CW.out (fun x hx e1 => by have := HB.out; omega)⟩
  case rest =>
    obtain ⟨X1, y1, W1, P1, C1⟩ := hcut
    obtain ⟨w1, hw1⟩ : ∃ x, x = wc := ⟨_, rfl⟩
    subst hw1
    clear W0 C0 bx
    have bx := (show w1.cell? ⟨B, 1, none⟩ = some (.slice A2 n2 c2) from W1.out.box.at_ (i := 1) (by rw [HPV.out]; rfl))
    obtain ⟨e2, he2⟩ : ∃ b, b = (!A2.isNone) := ⟨_, rfl⟩
    have HE2 := Lib.hid he2
    have hn2 : ∀ W : World, (binOp .neq 22 (.slice A2 n2 c2) (.slice none 0 0)).run Tryd.prog W = .ok (.bool e2) W := fun W => by rw [HE2.out]; exact run_neq_slice_nil_any W _ _ A2 n2 c2 0 0 Tryd.underlying22
    clear he2
    go_upto_if 33 with fail
    clear hn2
    go_cut [] from 4 to 123 (fun wx => ∃ X2 y2, Hid (OwnW wx B PV [Value.slice X1 n1 y1, Value.slice X2 n2 y2, Value.slice A3 n3 c3, Value.int .i64 i1, Value.int .i64 i2, Value.int .i64 i3, Value.int .i64 i4, Value.slice A4 n4 c4]) ∧ Hid (Cop wx (.slice X1 n1 y1) 9 1 n1 (strs p.names) [Value.string behind]) ∧ Hid (Cop wx (.slice X2 n2 y2) 9 1 n2 (strs p.curs) [Value.string behind]) ∧ Hid (Chg (fun _ => False) w wx))
    case first =>
      rcases A2 with _ | a2
      · obtain rfl : e2 = false := HE2.out
        go_wp2_with fail
        go_meet
        case rel => exact ⟨none, c2, W1.out, P1.out, Cop.nil q2 (HP.out.mc) LC.out (HP.out.rc.chg0 C1.out), C1.out⟩
      · obtain rfl : e2 = true := HE2.out
        obtain ⟨ob, hob⟩ : ∃ ob, ob = Obj.cells (madeCells (Value.cells (.string ByteArray.empty)) ((n2 + 1) * 1)) 9 := ⟨_, rfl⟩
        have hmk : ∀ W : World, (Instr.makeSlice 22 (.int .i64 0) (.int .i64 ((n2 : Int) + 1))).run Tryd.prog W = .ok (.slice (some ⟨W.heap.size, 0, none⟩) 0 (n2 + 1)) (W.alloc ob) := fun W => by
          rw [hob]
          have hh := run_make0 (P := Tryd.prog) 22 9 (.string ByteArray.empty) 1 16 Tryd.underlying22 infoStr (n2 + 1) (by omega) (by omega) W
          rw [show ((n2 + 1 : Nat) : Int) = (n2 : Int) + 1 by omega] at hh
          exact hh
        have hwr : IntKind.i64.wrap ((n2 : Int) + 1) = (n2 : Int) + 1 := IntWalk.i64_in _ (by omega)
        have hmx : Hid (n2 + 1 ≤ maxLen) := Nat.le_trans (show n2 + 1 ≤ 140737488351232 by omega) (by decide)
        have RA : Hid (RdG w1 (some a2) (strs p.curs)) := HP.out.rc.chg0 C1.out
        have OM : Hid (OwnV (w1.alloc ob) 9 1 (.slice (some ⟨w1.heap.size, 0, none⟩) 0 (n2 + 1)) 0 []) := by rw [hob]; exact OwnV.made0 w1 9 (Value.cells (.string ByteArray.empty)) 1 (n2 + 1) w1.heap.size rfl hmx.out
        clear hob
        have bxa : (w1.alloc ob).cell? ⟨B, 1, none⟩ = some (.slice (some a2) n2 c2) := ((Chg.refl (fun _ => False) w1).alloc _).cell (p := ⟨B, 1, none⟩) (fun h => h) bx
        go_wp2_with fail
        go_region_law ((refine st_appG rfl _ _ 22 9 (.string ByteArray.empty) 1 16 rfl Tryd.underlying22 infoStr rfl (by decide) (by decide) (.slice (some ⟨w1.heap.size, 0, none⟩) 0 (n2 + 1)) 0 [] rfl (OM.out.chg (S := fun _ => False) (by repeat (first | exact Chg.refl _ _ | refine Chg.drew ?_ | refine Chg.drewN ?_ _ | refine Chg.alloc ?_ _)) (fun _ _ h => h)) (some a2) n2 c2 (strs p.curs) rfl LC.out (RA.out.chg0 (by repeat (first | exact Chg.refl _ _ | refine Chg.drew ?_ | refine Chg.drewN ?_ _ | refine Chg.alloc ?_ _))) (strs_cell _) (by omega) ?_; intro v' w4 k1 k2 k3; (try simp only [List.nil_append, Nat.zero_add] at k1); obtain ⟨A4', c4', rfl, hc4, _⟩ := k1.slice; have K1 := Lib.hid k1; have C4 : Hid (Chg (fun _ => False) w1 w4) := (((Chg.refl (fun _ => False) w1).alloc ob).drew).fresh k2 (blk_ge (Nat.le_refl _)); have F4 : Hid (∀ g, Value.ownBlock (.slice A4' n2 c4') = some g → w1.heap.size ≤ g) := k3.ge (blk_ge (Nat.le_refl _)) (by simp); clear k1 k2 k3; have W4 : Hid (OwnW w4 B PV [Value.slice X1 n1 y1, Value.slice (some a2) n2 c2, Value.slice A3 n3 c3, Value.int .i64 i1, Value.int .i64 i2, Value.int .i64 i3, Value.int .i64 i4, Value.slice A4 n4 c4]) := W1.out.chg C4.out ⟨id, id, id⟩; have bx4 := W4.out.box.at_ (i := 1) (by rw [HPV.out]; rfl)))
        all_goals
          go_wp2_with (at_builtin; go_must (refine wp_appG rfl _ _ 22 9 (.string ByteArray.empty) 1 16 rfl Tryd.underlying22 infoStr rfl (by decide) (by decide) (.slice A4' n2 c4') n2 (strs p.curs) [Value.string behind] rfl (by simp [Value.oneCell']) rfl K1.out rfl (by omega) ?_); intro v5 w5 k1 k2 k3; obtain ⟨A5', c5', rfl, hc5, _⟩ := k1.slice; obtain ⟨ad5, rfl, hcop⟩ := Cop.of LC.out (by decide) k1; have K5 := Lib.hid k1; have CP5 := Lib.hid hcop; have C5 : Hid (Chg (fun _ => False) w1 w5) := C4.out.fresh k2 F4.out; have W5 : Hid (OwnW w5 B PV [Value.slice X1 n1 y1, Value.slice (some a2) n2 c2, Value.slice A3 n3 c3, Value.int .i64 i1, Value.int .i64 i2, Value.int .i64 i3, Value.int .i64 i4, Value.slice A4 n4 c4]) := W4.out.chg k2 (W4.out.ne K1.out (by decide)); have bx5 := W5.out.box.at_ (i := 1) (by rw [HPV.out]; rfl); have y5 := W5.out.cop.at_ (i := 1) rfl; have fy5 := W5.out.cop.frozen (i := 1) (by simp); clear k1 k2 k3 hcop; have bl5 : (n2 : Int) ≤ (c5' : Int) := (by omega))
          have CW : Hid (Chg (fun x => x = B + 1 + 1) w1 (w5.setCell ⟨B + 1 + 1, 1, none⟩ (.slice (some ad5) n2 c5'))) := C5.out.store0 _ _ _
          go_meet
          case rel => exact ⟨some ad5, c5', W5.out.set 1 _, P1.out.chg CW.out (fun g hg e1 => by obtain ⟨cur, hb⟩ := P1.out.ty g hg; exact hb.type_ne W1.out.cop (by decide) e1), CP5.out.chg (((Chg.refl (fun x => x = B + 1 + 1) w5).setCell (p := ⟨B + 1 + 1, 1, none⟩) (fun _ => rfl) _)) (fun g hg e1 => by obtain ⟨cur, hb⟩ := CP5.out.ty g hg; exact hb.type_ne W5.out.cop (by decide) e1), C1.out.trans CW.out (fun x hx e1 => by have := HB.out; omega)⟩
    case rest =>
      obtain ⟨X2, y2, W2, P1, P2, C2⟩ := hcut
      obtain ⟨w2, hw2⟩ : ∃ x, x = wc := ⟨_, rfl⟩
      subst hw2
      clear W1 C1 bx
      have bx := (show w2.cell? ⟨B, 2, none⟩ = some (.slice A3 n3 c3) from W2.out.box.at_ (i := 2) (by rw [HPV.out]; rfl))
      obtain ⟨e3, he3⟩ : ∃ b, b = (!A3.isNone) := ⟨_, rfl⟩
      have HE3 := Lib.hid he3
      have hn3 : ∀ W : World, (binOp .neq 23 (.slice A3 n3 c3) (.slice none 0 0)).run Tryd.prog W = .ok (.bool e3) W := fun W => by rw [HE3.out]; exact run_neq_slice_nil_any W _ _ A3 n3 c3 0 0 Tryd.underlying23
      clear he3
      go_upto_if 53 with fail
      clear hn3
      go_cut [] from 4 to 123 (fun wx => ∃ X3 y3, Hid (OwnW wx B PV [Value.slice X1 n1 y1, Value.slice X2 n2 y2, Value.slice X3 n3 y3, Value.int .i64 i1, Value.int .i64 i2, Value.int .i64 i3, Value.int .i64 i4, Value.slice A4 n4 c4]) ∧ Hid (Cop wx (.slice X1 n1 y1) 9 1 n1 (strs p.names) [Value.string behind]) ∧ Hid (Cop wx (.slice X2 n2 y2) 9 1 n2 (strs p.curs) [Value.string behind]) ∧ Hid (Cop wx (.slice X3 n3 y3) 3 1 n3 (nums .i64 p.pool) [Value.int .i64 (-4711)]) ∧ Hid (Chg (fun _ => False) w wx))
      case first =>
        rcases A3 with _ | a3
        · obtain rfl : e3 = false := HE3.out
          go_wp2_with fail
          go_meet
          case rel => exact ⟨none, c3, W2.out, P1.out, P2.out, Cop.nil q3 (HP.out.mp) LK.out (HP.out.rk.chg0 C2.out), C2.out⟩
        · obtain rfl : e3 = true := HE3.out
          obtain ⟨ob, hob⟩ : ∃ ob, ob = Obj.cells (madeCells (Value.cells (.int .i64 0)) ((n3 + 1) * 1)) 3 := ⟨_, rfl⟩
          have hmk : ∀ W : World, (Instr.makeSlice 23 (.int .i64 0) (.int .i64 ((n3 : Int) + 1))).run Tryd.prog W = .ok (.slice (some ⟨W.heap.size, 0, none⟩) 0 (n3 + 1)) (W.alloc ob) := fun W => by
            rw [hob]
            have hh := run_make0 (P := Tryd.prog) 23 3 (.int .i64 0) 1 8 Tryd.underlying23 infoI (n3 + 1) (by omega) (by omega) W
            rw [show ((n3 + 1 : Nat) : Int) = (n3 : Int) + 1 by omega] at hh
            exact hh
          have hwr : IntKind.i64.wrap ((n3 : Int) + 1) = (n3 : Int) + 1 := IntWalk.i64_in _ (by omega)
          have hmx : Hid (n3 + 1 ≤ maxLen) := Nat.le_trans (show n3 + 1 ≤ 140737488351232 by omega) (by decide)
          have RA : Hid (RdG w2 (some a3) (nums .i64 p.pool)) := HP.out.rk.chg0 C2.out
          have OM : Hid (OwnV (w2.alloc ob) 3 1 (.slice (some ⟨w2.heap.size, 0, none⟩) 0 (n3 + 1)) 0 []) := by rw [hob]; exact OwnV.made0 w2 3 (Value.cells (.int .i64 0)) 1 (n3 + 1) w2.heap.size rfl hmx.out
          clear hob
          have bxa : (w2.alloc ob).cell? ⟨B, 2, none⟩ = some (.slice (some a3) n3 c3) := ((Chg.refl (fun _ => False) w2).alloc _).cell (p := ⟨B, 2, none⟩) (fun h => h) bx
          go_wp2_with fail
          go_region_law ((refine st_appG rfl _ _ 23 3 (.int .i64 0) 1 8 rfl Tryd.underlying23 infoI rfl (by decide) (by decide) (.slice (some ⟨w2.heap.size, 0, none⟩) 0 (n3 + 1)) 0 [] rfl (OM.out.chg (S := fun _ => False) (by repeat (first | exact Chg.refl _ _ | refine Chg.drew ?_ | refine Chg.drewN ?_ _ | refine Chg.alloc ?_ _)) (fun _ _ h => h)) (some a3) n3 c3 (nums .i64 p.pool) rfl LK.out (RA.out.chg0 (by repeat (first | exact Chg.refl _ _ | refine Chg.drew ?_ | refine Chg.drewN ?_ _ | refine Chg.alloc ?_ _))) (nums_cell .i64 _) (by omega) ?_; intro v' w4 k1 k2 k3; (try simp only [List.nil_append, Nat.zero_add] at k1); obtain ⟨A4', c4', rfl, hc4, _⟩ := k1.slice; have K1 := Lib.hid k1; have C4 : Hid (Chg (fun _ => False) w2 w4) := (((Chg.refl (fun _ => False) w2).alloc ob).drew).fresh k2 (blk_ge (Nat.le_refl _)); have F4 : Hid (∀ g, Value.ownBlock (.slice A4' n3 c4') = some g → w2.heap.size ≤ g) := k3.ge (blk_ge (Nat.le_refl _)) (by simp); clear k1 k2 k3; have W4 : Hid (OwnW w4 B PV [Value.slice X1 n1 y1, Value.slice X2 n2 y2, Value.slice (some a3) n3 c3, Value.int .i64 i1, Value.int .i64 i2, Value.int .i64 i3, Value.int .i64 i4, Value.slice A4 n4 c4]) := W2.out.chg C4.out ⟨id, id, id⟩; have bx4 := W4.out.box.at_ (i := 2) (by rw [HPV.out]; rfl)))
          all_goals
            go_wp2_with (at_builtin; go_must (refine wp_appG rfl _ _ 23 3 (.int .i64 0) 1 8 rfl Tryd.underlying23 infoI rfl (by decide) (by decide) (.slice A4' n3 c4') n3 (nums .i64 p.pool) [Value.int .i64 (-4711)] rfl (by simp [Value.oneCell']) rfl K1.out rfl (by omega) ?_); intro v5 w5 k1 k2 k3; obtain ⟨A5', c5', rfl, hc5, _⟩ := k1.slice; obtain ⟨ad5, rfl, hcop⟩ := Cop.of LK.out (by decide) k1; have K5 := Lib.hid k1; have CP5 := Lib.hid hcop; have C5 : Hid (Chg (fun _ => False) w2 w5) := C4.out.fresh k2 F4.out; have W5 : Hid (OwnW w5 B PV [Value.slice X1 n1 y1, Value.slice X2 n2 y2, Value.slice (some a3) n3 c3, Value.int .i64 i1, Value.int .i64 i2, Value.int .i64 i3, Value.int .i64 i4, Value.slice A4 n4 c4]) := W4.out.chg k2 (W4.out.ne K1.out (by decide)); have bx5 := W5.out.box.at_ (i := 2) (by rw [HPV.out]; rfl); have y5 := W5.out.cop.at_ (i := 2) rfl; have fy5 := W5.out.cop.frozen (i := 2) (by simp); clear k1 k2 k3 hcop; have bl5 : (n3 : Int) ≤ (c5' : Int) := (by omega))
            have CW : Hid (Chg (fun x => x = B + 1 + 1) w2 (w5.setCell ⟨B + 1 + 1, 2, none⟩ (.slice (some ad5) n3 c5'))) := C5.out.store0 _ _ _
            go_meet
            case rel => exact ⟨some ad5, c5', W5.out.set 2 _, P1.out.chg CW.out (fun g hg e1 => by obtain ⟨cur, hb⟩ := P1.out.ty g hg; exact hb.type_ne W2.out.cop (by decide) e1), P2.out.chg CW.out (fun g hg e1 => by obtain ⟨cur, hb⟩ := P2.out.ty g hg; exact hb.type_ne W2.out.cop (by decide) e1), CP5.out.chg (((Chg.refl (fun x => x = B + 1 + 1) w5).setCell (p := ⟨B + 1 + 1, 2, none⟩) (fun _ => rfl) _)) (fun g hg e1 => by obtain ⟨cur, hb⟩ := CP5.out.ty g hg; exact hb.type_ne W5.out.cop (by decide) e1), C2.out.trans CW.out (fun x hx e1 => by have := HB.out; omega)⟩
      case rest =>
        obtain ⟨X3, y3, W3, P1, P2, P3, C3⟩ := hcut
        obtain ⟨w3, hw3⟩ : ∃ x, x = wc := ⟨_, rfl⟩
        subst hw3
        clear W2 C2 bx
        have bx := (show w3.cell? ⟨B, 7, none⟩ = some (.slice A4 n4 c4) from W3.out.box.at_ (i := 7) (by rw [HPV.out]; rfl))
        obtain ⟨e4, he4⟩ : ∃ b, b = (!A4.isNone) := ⟨_, rfl⟩
        have HE4 := Lib.hid he4
        have hn4 : ∀ W : World, (binOp .neq 24 (.slice A4 n4 c4) (.slice none 0 0)).run Tryd.prog W = .ok (.bool e4) W := fun W => by rw [HE4.out]; exact run_neq_slice_nil_any W _ _ A4 n4 c4 0 0 Tryd.underlying24
        clear he4
        go_upto_if 73 with fail
        clear hn4
        go_cut [] from 4 to 123 (fun wx => ∃ X4 y4 vs, Hid (OwnW wx B PV [Value.slice X1 n1 y1, Value.slice X2 n2 y2, Value.slice X3 n3 y3, Value.int .i64 i1, Value.int .i64 i2, Value.int .i64 i3, Value.int .i64 i4, Value.slice X4 n4 y4]) ∧ Hid (Cop wx (.slice X1 n1 y1) 9 1 n1 (strs p.names) [Value.string behind]) ∧ Hid (Cop wx (.slice X2 n2 y2) 9 1 n2 (strs p.curs) [Value.string behind]) ∧ Hid (Cop wx (.slice X3 n3 y3) 3 1 n3 (nums .i64 p.pool) [Value.int .i64 (-4711)]) ∧ Hid (SlG wx (.slice X4 n4 y4) 2 n4 (dayCells p.days vs)) ∧ Hid (∀ g, Value.ownBlock (.slice X4 n4 y4) = some g → ∃ cur, Blk wx g 42 cur) ∧ Hid (p.days.length = vs.length) ∧ Hid (∀ i (h : i < p.days.length) (h' : i < vs.length), Cop wx vs[i] 47 3 p.days[i].code.length (insCells p.days[i].code) [.int .i64 (-4711), .int .i64 0, .int .i64 0]) ∧ Hid (Chg (fun _ => False) w wx))
        case first =>
          rcases A4 with _ | a4
          · obtain rfl : e4 = false := HE4.out
            have hd0 : Hid (p.days = []) := Lib.hid (by
              rcases hpd : p.days with _ | ⟨d, ds⟩
              · rfl
              · have hr := HP.out.rd.rd
                have hl := HP.out.rd.len
                rw [hpd] at hr hl
                rcases hvs : s.codes with _ | ⟨x, xs⟩
                · rw [hvs] at hl; simp at hl
                · rw [hvs] at hr
                  obtain ⟨ad, e, _⟩ := hr 0 (.int .i64 d.day) rfl
                  cases e)
            have hn0 : Hid (n4 = 0) := by rw [Hid, LD.out, hd0.out]; rfl
            go_wp2_with fail
            go_meet
            case rel => exact ⟨none, c4, [], W3.out, P1.out, P2.out, P3.out, ⟨⟨none, c4, rfl, q4, HP.out.md, by rw [hd0.out]; exact RdG.nil _ _⟩, by rw [hd0.out, hn0.out]; rfl⟩, fun g hg => by simp [Value.ownBlock] at hg, Lib.hid (by rw [hd0.out]; rfl), fun i h h' => absurd h' (by simp), C3.out⟩
          · obtain rfl : e4 = true := HE4.out
            obtain ⟨ob, hob⟩ : ∃ ob, ob = Obj.cells (madeCells (Value.cells (.agg #[.int .i64 0, .slice none 0 0])) ((n4 + 1) * 2)) 42 := ⟨_, rfl⟩
            have hmk : ∀ W : World, (Instr.makeSlice 24 (.int .i64 0) (.int .i64 ((n4 : Int) + 1))).run Tryd.prog W = .ok (.slice (some ⟨W.heap.size, 0, none⟩) 0 (n4 + 1)) (W.alloc ob) := fun W => by
              rw [hob]
              have hh := run_make0 (P := Tryd.prog) 24 42 (.agg #[.int .i64 0, .slice none 0 0]) 2 32 Tryd.underlying24 infoSeg (n4 + 1) (by omega) (by omega) W
              rw [show ((n4 + 1 : Nat) : Int) = (n4 : Int) + 1 by omega] at hh
              exact hh
            have hwr : IntKind.i64.wrap ((n4 : Int) + 1) = (n4 : Int) + 1 := IntWalk.i64_in _ (by omega)
            have hmx : Hid (n4 + 1 ≤ maxLen) := Nat.le_trans (show n4 + 1 ≤ 140737488351232 by omega) (by decide)
            obtain ⟨wm, hwm⟩ : ∃ x, x = w3.alloc ob := ⟨_, rfl⟩
            have CM : Hid (Chg (fun _ => False) w3 wm) := by rw [hwm]; exact (Chg.refl _ w3).alloc _
            have OM : Hid (OwnV wm 42 2 (.slice (some ⟨w3.heap.size, 0, none⟩) 0 (n4 + 1)) 0 []) := by rw [hwm, hob]; exact OwnV.made0 w3 _ _ 2 (n4 + 1) _ rfl hmx.out
            clear hob
            have WM : Hid (OwnW wm B PV [Value.slice X1 n1 y1, Value.slice X2 n2 y2, Value.slice X3 n3 y3, Value.int .i64 i1, Value.int .i64 i2, Value.int .i64 i3, Value.int .i64 i4, Value.slice (some a4) n4 c4]) := W3.out.chg CM.out ⟨id, id, id⟩
            have y7 := WM.out.cop.at_ (i := 7) rfl
            have fy7 := WM.out.cop.frozen (i := 7) (by simp)
            rw [hwm] at y7 fy7
            go_wp2_with fail
            rw [← hwm]
            clear hwm y7 fy7 bx
            have CS : Hid (Chg (fun x => x = B + 1 + 1) w3 (wm.setCell ⟨B + 1 + 1, 7, none⟩ (.slice (some ⟨w3.heap.size, 0, none⟩) 0 (n4 + 1)))) := (CM.out.mono (T := fun x => x = B + 1 + 1) (fun _ _ h => h.elim)).setCell (p := ⟨B + 1 + 1, 7, none⟩) (fun _ => rfl) _
            have O7 : Hid (OwnV (wm.setCell ⟨B + 1 + 1, 7, none⟩ (.slice (some ⟨w3.heap.size, 0, none⟩) 0 (n4 + 1))) 42 2 (.slice (some ⟨w3.heap.size, 0, none⟩) 0 (n4 + 1)) 0 []) := OM.out.chg ((Chg.refl (fun x => x = B + 1 + 1) wm).setCell (p := ⟨B + 1 + 1, 7, none⟩) (fun _ => rfl) _) (fun g hg e1 => OM.out.type_ne WM.out.cop (by decide) (by rw [hg, e1]))
            go_loopg [7, 8, 9] n4 (fun gh i _ _ wr => ∃ (k : Nat) (X4 : Option Addr) (y4 : Nat) (vs : List Value), Hid (k + gh = n4) ∧ k ≤ n4 ∧ i = .int .i64 k ∧ Hid (OwnW wr B PV [Value.slice X1 n1 y1, Value.slice X2 n2 y2, Value.slice X3 n3 y3, Value.int .i64 i1, Value.int .i64 i2, Value.int .i64 i3, Value.int .i64 i4, Value.slice X4 k y4]) ∧ Hid (Cop wr (.slice X1 n1 y1) 9 1 n1 (strs p.names) [Value.string behind]) ∧ Hid (Cop wr (.slice X2 n2 y2) 9 1 n2 (strs p.curs) [Value.string behind]) ∧ Hid (Cop wr (.slice X3 n3 y3) 3 1 n3 (nums .i64 p.pool) [Value.int .i64 (-4711)]) ∧ Hid (OwnV wr 42 2 (.slice X4 k y4) k (dayCells (p.days.take k) vs)) ∧ Hid (∀ g, Value.ownBlock (.slice X4 k y4) = some g → w.heap.size ≤ g) ∧ Hid (vs.length = k) ∧ Hid (∀ i (h : i < p.days.length) (h' : i < vs.length), Cop wr vs[i] 47 3 p.days[i].code.length (insCells p.days[i].code) [.int .i64 (-4711), .int .i64 0, .int .i64 0]) ∧ Hid (Chg (fun _ => False) w wr))
            case atStart => exact ⟨0, some ⟨w3.heap.size, 0, none⟩, n4 + 1, [], Nat.zero_add _, Nat.zero_le _, rfl, WM.out.set 7 _, P1.out.chg CS.out (fun g hg e1 => by obtain ⟨cur, hb⟩ := P1.out.ty g hg; exact hb.type_ne W3.out.cop (by decide) e1), P2.out.chg CS.out (fun g hg e1 => by obtain ⟨cur, hb⟩ := P2.out.ty g hg; exact hb.type_ne W3.out.cop (by decide) e1), P3.out.chg CS.out (fun g hg e1 => by obtain ⟨cur, hb⟩ := P3.out.ty g hg; exact hb.type_ne W3.out.cop (by decide) e1), O7.out, fun g hg => by have h1 := blk_ge (Nat.le_refl _) g hg; have h2 := C3.out.size; omega, rfl, fun i h h' => absurd h' (by simp), C3.out.trans CS.out (fun x hx e1 => by have := HB.out; omega)⟩
            case round =>
              clear P1 P2 P3 CS O7 OM WM CM
              obtain ⟨k, X4, y4, vs, HG, hk, rfl, WK, P1, P2, P3, O7, F7, HV, HC, CK⟩ := hrel
              have bx := WK.out.box.at_ (i := 7) (by rw [HPV.out]; rfl)
              by_cases hlt : k < n4
              · have h1 : k < p.days.length := by have := LD.out; omega
                obtain ⟨ad, D, r, c, e0, u1, u2, l1, l2, l3, l4⟩ := (HP.out.rd.chg0 CK.out).at_ h1
                injection e0 with e0
                subst e0
                obtain ⟨ad, had⟩ : ∃ x, x = a4 := ⟨_, rfl⟩
                subst had
                obtain ⟨dd, hdd⟩ : ∃ x, x = p.days[k] := ⟨_, rfl⟩
                have hsz := SC.out _ (List.getElem_mem h1)
                rw [← hdd] at u1 l1 l4 hsz
                have HD := Lib.hid hdd
                have L1 : Hid ((insCells dd.code).length = r * 3) := by rw [Hid, insCells_length, l1]
                have LR := Lib.hid l1
                have R1 := Lib.hid l4
                have hrz : r * 24 ≤ 140737488351232 := by rw [l1]; exact hsz
                have b1 : (0 : Int) ≤ (k : Int) := by omega
                have b2 : (k : Int) < (n4 : Int) := by omega
                clear hdd l1 l4 hsz
                obtain ⟨wb, hwb⟩ : ∃ x, x = wr.alloc (.cells #[.int .i64 dd.day, .slice D r c] 42) := ⟨_, rfl⟩
                obtain ⟨g8, hg8⟩ : ∃ x, x = wr.heap.size := ⟨_, rfl⟩
                have CB : Hid (Chg (fun _ => False) wr wb) := by rw [hwb]; exact (Chg.refl _ wr).alloc _
                have B8 : Hid (Blk wb g8 42 [.int .i64 dd.day, .slice D r c]) := by rw [hwb, hg8]; exact Blk.new wr _ _
                have G8 := Lib.hid hg8
                have hbxb : Hid (wb.cell? ⟨B, 7, none⟩ = some (.slice (some ad) n4 c4)) := CB.out.cell (p := ⟨B, 7, none⟩) (fun h => h) bx
                obtain ⟨ddy, hddy⟩ : ∃ x, x = dd.day := ⟨_, rfl⟩
                have HDY := Lib.hid hddy
                rw [← hddy] at u1 hwb B8
                obtain ⟨eD, heD⟩ : ∃ b, b = (!D.isNone) := ⟨_, rfl⟩
                have HED := Lib.hid heD
                have hnD : ∀ W : World, (binOp .neq 40 (.slice D r c) (.slice none 0 0)).run Tryd.prog W = .ok (.bool eD) W := fun W => by rw [HED.out]; exact run_neq_slice_nil_any W _ _ D r c 0 0 Tryd.underlying40
                clear heD hddy
                go_upto_if 94 with fail
                rw [← hwb, ← hg8]
                clear hwb hg8 u1 bx hnD
                have s1 := B8.out.at_ (i := 1) rfl
                go_cut [9] from 80 to 122 (fun _ wx => ∃ Xc yc, Hid (Blk wx g8 42 [.int .i64 ddy, .slice Xc r yc]) ∧ Hid (Cop wx (.slice Xc r yc) 47 3 r (insCells dd.code) [.int .i64 (-4711), .int .i64 0, .int .i64 0]) ∧ Hid (Chg (fun x => x = g8) wb wx))
                case first =>
                  rcases D with _ | a5
                  · obtain rfl : eD = false := HED.out
                    go_wp2_with fail
                    go_meet
                    case rel => exact ⟨none, c, B8.out, Cop.nil l2 l3 L1.out (R1.out.chg0 CB.out), Chg.refl _ _⟩
                  · obtain rfl : eD = true := HED.out
                    obtain ⟨ob2, hob2⟩ : ∃ ob, ob = Obj.cells (madeCells (Value.cells (.agg #[.int .i64 0, .int .i64 0, .int .i64 0])) ((r + 1) * 3)) 47 := ⟨_, rfl⟩
                    have hmk2 : ∀ W : World, (Instr.makeSlice 40 (.int .i64 0) (.int .i64 ((r : Int) + 1))).run Tryd.prog W = .ok (.slice (some ⟨W.heap.size, 0, none⟩) 0 (r + 1)) (W.alloc ob2) := fun W => by
                      rw [hob2]
                      have hh := run_make0 (P := Tryd.prog) 40 47 (.agg #[.int .i64 0, .int .i64 0, .int .i64 0]) 3 24 Tryd.underlying40 infoIns (r + 1) (by omega) (by omega) W
                      rw [show ((r + 1 : Nat) : Int) = (r : Int) + 1 by omega] at hh
                      exact hh
                    have hwr2 : IntKind.i64.wrap ((r : Int) + 1) = (r : Int) + 1 := IntWalk.i64_in _ (by omega)
                    have hmx2 : Hid (r + 1 ≤ maxLen) := Nat.le_trans (show r + 1 ≤ 140737488351232 by omega) (by decide)
                    have RA : Hid (RdG wb (some a5) (insCells dd.code)) := R1.out.chg0 CB.out
                    have OM2 : Hid (OwnV (wb.alloc ob2) 47 3 (.slice (some ⟨wb.heap.size, 0, none⟩) 0 (r + 1)) 0 []) := by rw [hob2]; exact OwnV.made0 wb 47 _ 3 (r + 1) wb.heap.size rfl hmx2.out
                    clear hob2
                    have s1a : (wb.alloc ob2).cell? ⟨g8, 1, none⟩ = some (.slice (some a5) r c) := ((Chg.refl (fun _ => False) wb).alloc _).cell (p := ⟨g8, 1, none⟩) (fun h => h) s1
                    go_wp2_with fail
                    go_region_law ((refine st_appG rfl _ _ 40 47 (.agg #[.int .i64 0, .int .i64 0, .int .i64 0]) 3 24 rfl Tryd.underlying40 infoIns rfl (by decide) (by decide) (.slice (some ⟨wb.heap.size, 0, none⟩) 0 (r + 1)) 0 [] rfl (OM2.out.chg (S := fun _ => False) (by repeat (first | exact Chg.refl _ _ | refine Chg.drew ?_ | refine Chg.drewN ?_ _ | refine Chg.alloc ?_ _)) (fun _ _ h => h)) (some a5) r c (insCells dd.code) rfl L1.out (RA.out.chg0 (by repeat (first | exact Chg.refl _ _ | refine Chg.drew ?_ | refine Chg.drewN ?_ _ | refine Chg.alloc ?_ _))) (ins_cell _) (by omega) ?_; intro v' w4 k1 k2 k3; (try simp only [List.nil_append, Nat.zero_add] at k1); obtain ⟨A4', c4', rfl, hc4, _⟩ := k1.slice; have K1 := Lib.hid k1; have C4 : Hid (Chg (fun _ => False) wb w4) := (((Chg.refl (fun _ => False) wb).alloc ob2).drew).fresh k2 (blk_ge (Nat.le_refl _)); have F4 : Hid (∀ g, Value.ownBlock (.slice A4' r c4') = some g → wb.heap.size ≤ g) := k3.ge (blk_ge (Nat.le_refl _)) (by simp); clear k1 k2 k3))
                    all_goals
                      go_wp2_with (at_builtin; go_must (refine wp_appG rfl _ _ 40 47 (.agg #[.int .i64 0, .int .i64 0, .int .i64 0]) 3 24 rfl Tryd.underlying40 infoIns rfl (by decide) (by decide) (.slice A4' r c4') r (insCells dd.code) [.int .i64 (-4711), .int .i64 0, .int .i64 0] rfl (by simp [Value.oneCell']) rfl K1.out rfl (by omega) ?_); intro v5 w5 k1 k2 k3; obtain ⟨A5', c5', rfl, hc5, _⟩ := k1.slice; obtain ⟨ad5, rfl, hcop⟩ := Cop.of L1.out (by decide) k1; have CP5 := Lib.hid hcop; have C5 : Hid (Chg (fun _ => False) wb w5) := C4.out.fresh k2 F4.out; have bx5 := C5.out.cell (p := ⟨B, 7, none⟩) (fun h => h) hbxb.out; have u5 := C5.out.cell (p := ⟨(ad.add (k * 2)).block, (ad.add (k * 2)).off + 1, none⟩) (fun h => h) (CB.out.cell (p := ⟨(ad.add (k * 2)).block, (ad.add (k * 2)).off + 1, none⟩) (fun h => h) u2); have B85 : Hid (Blk w5 g8 42 [.int .i64 ddy, .slice (some a5) r c]) := B8.out.chg C5.out (fun h => h); have y5 := B85.out.at_ (i := 1) rfl; have fy5 := B85.out.frozen (i := 1) (by simp); clear k1 k2 k3 hcop; have bl5 : (r : Int) ≤ (c5' : Int) := (by omega))
                      go_meet
                      case rel => exact ⟨some ad5, c5', B85.out.set 1 _, CP5.out.chg (((Chg.refl (fun x => x = g8) w5).setCell (p := ⟨g8, 1, none⟩) (fun _ => rfl) _)) (fun g hg e1 => by obtain ⟨cur, hb⟩ := CP5.out.ty g hg; exact hb.type_ne B85.out (by decide) e1), C5.out.store0 _ _ _⟩
                case rest =>
                  obtain ⟨Xc, yc, B9, PC, C9⟩ := hcut
                  obtain ⟨w9, hw9⟩ : ∃ x, x = wc := ⟨_, rfl⟩
                  subst hw9
                  clear u2 s1
                  have C10 : Hid (Chg (fun _ => False) wr w9) := CB.out.trans C9.out (fun x hx e1 => by have := G8.out; omega)
                  have W9 : Hid (OwnW w9 B PV [Value.slice X1 n1 y1, Value.slice X2 n2 y2, Value.slice X3 n3 y3, Value.int .i64 i1, Value.int .i64 i2, Value.int .i64 i3, Value.int .i64 i4, Value.slice X4 k y4]) := WK.out.chg C10.out ⟨id, id, id⟩
                  have O9 : Hid (OwnV w9 42 2 (.slice X4 k y4) k (dayCells (p.days.take k) vs)) := O7.out.chg C10.out (fun _ _ h => h)
                  have t0 := B9.out.at_ (i := 0) rfl
                  have t1 := B9.out.at_ (i := 1) rfl
                  have y7 := W9.out.cop.at_ (i := 7) rfl
                  go_wp2_with (at_builtin; go_must (refine wp_appG rfl _ _ 24 42 (.agg #[.int .i64 0, .slice none 0 0]) 2 32 rfl Tryd.underlying24 infoSeg rfl (by decide) (by decide) (.slice X4 k y4) k _ [.int .i64 ddy, .slice Xc r yc] rfl (by simp [Value.oneCell']) rfl O9.out rfl (by omega) ?_); intro v5 w5 k1 k2 k3; obtain ⟨A5', c5', rfl, hc5, _⟩ := k1.slice; have K5 := Lib.hid k1; have F5 : Hid (∀ g, Value.ownBlock (.slice A5' (k + 1) c5') = some g → w.heap.size ≤ g) := k3.ge F7.out (Nat.le_trans CK.out.size C10.out.size); have K2 := Lib.hid k2; have W5 : Hid (OwnW w5 B PV [Value.slice X1 n1 y1, Value.slice X2 n2 y2, Value.slice X3 n3 y3, Value.int .i64 i1, Value.int .i64 i2, Value.int .i64 i3, Value.int .i64 i4, Value.slice X4 k y4]) := W9.out.chg k2 (W9.out.ne O9.out (by decide)); have y5 := W5.out.cop.at_ (i := 7) rfl; have fy5 := W5.out.cop.frozen (i := 7) (by simp); clear k1 k2 k3)
                  have CE : Hid (Chg (fun x => Value.ownBlock (.slice X4 k y4) = some x ∨ x = B + 1 + 1) wr (w5.setCell ⟨B + 1 + 1, 7, none⟩ (.slice A5' (k + 1) c5'))) := ((C10.out.mono (T := fun x => Value.ownBlock (.slice X4 k y4) = some x ∨ x = B + 1 + 1) (fun _ _ h => h.elim)).trans K2.out (fun _ _ h => .inl h)).setCell (p := ⟨B + 1 + 1, 7, none⟩) (fun _ => .inr rfl) _
                  have C95 : Hid (Chg (fun x => Value.ownBlock (.slice X4 k y4) = some x ∨ x = B + 1 + 1) w9 (w5.setCell ⟨B + 1 + 1, 7, none⟩ (.slice A5' (k + 1) c5'))) := (K2.out.mono (T := fun x => Value.ownBlock (.slice X4 k y4) = some x ∨ x = B + 1 + 1) (fun _ _ h => .inl h)).setCell (p := ⟨B + 1 + 1, 7, none⟩) (fun _ => .inr rfl) _
                  go_roundg (n4 - (k + 1))
                  case rel =>
                    have hkl : (p.days.take k).length = vs.length := by rw [List.length_take, HV.out]; omega
                    have htk : p.days.take (k + 1) = p.days.take k ++ [dd] := by rw [List.take_succ_eq_append_getElem h1, HD.out]
                    have hmem : ∀ i (h : i < p.days.length) (h' : i < vs.length), ∀ g, vs[i].ownBlock = some g → ¬ (Value.ownBlock (.slice X4 k y4) = some g ∨ g = B + 1 + 1) := fun i h h' g hg e1 => by
                      obtain ⟨cur, hb⟩ := (HC.out i h h').ty g hg
                      rcases e1 with e1 | e1
                      · exact O7.out.type_ne hb (by decide) e1
                      · exact hb.type_ne WK.out.cop (by decide) e1
                    have hsm : ∀ {v : Value} {e : TypeId} {sz n : Nat} {cs mark : List Value}, Cop wr v e sz n cs mark → e ≠ 26 → 42 ≠ e → Cop (w5.setCell ⟨B + 1 + 1, 7, none⟩ (.slice A5' (k + 1) c5')) v e sz n cs mark := fun hc he1 he2 => hc.chg CE.out (fun g hg e1 => by
                      obtain ⟨cur, hb⟩ := hc.ty g hg
                      rcases e1 with e1 | e1
                      · exact O7.out.type_ne hb he2 e1
                      · exact hb.type_ne WK.out.cop he1 e1)
                    refine ⟨k + 1, A5', c5', vs ++ [.slice Xc r yc], by rw [Hid]; omega, by omega, by go_num, W5.out.set 7 _, hsm P1.out (by decide) (by decide), hsm P2.out (by decide) (by decide), hsm P3.out (by decide) (by decide), ?_, F5.out, by rw [Hid, List.length_append, HV.out]; rfl, fun i h h' => ?_, CK.out.trans CE.out (fun x hx e1 => ?_)⟩
                    · have hK := K5.out.chg ((Chg.refl (fun x => x = B + 1 + 1) w5).setCell (p := ⟨B + 1 + 1, 7, none⟩) (fun _ => rfl) (.slice A5' (k + 1) c5')) (fun g hg e1 => K5.out.type_ne W5.out.cop (by decide) (by rw [hg, e1]))
                      rw [Hid, htk, dayCells_snoc _ _ _ _ hkl, ← HDY.out]
                      exact hK
                    · by_cases hi : i < vs.length
                      · rw [List.getElem_append_left hi]
                        exact (HC.out i h hi).chg CE.out (hmem i h hi)
                      · have hik : i = k := by simp at h'; have := HV.out; omega
                        subst hik
                        rw [List.getElem_append_right (by omega)]
                        have hpc := PC.out.chg C95.out (fun g hg e1 => by
                          obtain ⟨cur, hb⟩ := PC.out.ty g hg
                          rcases e1 with e1 | e1
                          · exact O9.out.type_ne hb (by decide) e1
                          · exact hb.type_ne W9.out.cop (by decide) e1)
                        simp only [HV.out, Nat.sub_self, List.getElem_cons_zero]
                        rw [LR.out, HD.out] at hpc
                        rw [HD.out] at LR
                        rw [← LR.out] at hpc ⊢
                        exact hpc
                    · rcases e1 with e1 | e1
                      · have := F7.out x e1; omega
                      · have := HB.out; omega
                  case measure =>
                    have := HG.out
                    omega
              · obtain rfl : k = n4 := by omega
                have SL : Hid (SlG wr (.slice X4 k y4) 2 k (dayCells p.days vs)) := Lib.hid (by
                  have hall : p.days.take k = p.days := List.take_of_length_le (by have := LD.out; omega)
                  have hO := O7.out
                  rw [hall] at hO
                  obtain ⟨X5, y5, hv, hc, hm⟩ := hO.slice
                  simp only [Value.slice.injEq] at hv
                  obtain ⟨rfl, _, rfl⟩ := hv
                  exact ⟨⟨X4, y4, rfl, hc, hm, hO.toG⟩, hO.1⟩)
                go_wp2_with fail
                go_meet
                case rel => exact ⟨X4, y4, vs, WK.out, P1.out, P2.out, P3.out, SL.out, fun g hg => O7.out.typed g hg, by rw [Hid, HV.out, LD.out], HC.out, CK.out⟩
        case rest =>
          obtain ⟨X4, y4, vs, W4, P1, P2, P3, SD, TY, HV, HC, C4⟩ := hcut
          obtain ⟨w4, hw4⟩ : ∃ x, x = wc := ⟨_, rfl⟩
          subst hw4
          have t0 := W4.out.cop.at_ (i := 0) rfl
          have t1 := W4.out.cop.at_ (i := 1) rfl
          have t2 := W4.out.cop.at_ (i := 2) rfl
          have t3 := W4.out.cop.at_ (i := 3) rfl
          have t4 := W4.out.cop.at_ (i := 4) rfl
          have t5 := W4.out.cop.at_ (i := 5) rfl
          have t6 := W4.out.cop.at_ (i := 6) rfl
          have t7 := W4.out.cop.at_ (i := 7) rfl
          have R0 := Lib.hid W4.out.res
          have z0 := R0.out.at_ (i := 0) rfl
          have fz0 := R0.out.frozen (i := 0) (by simp)
          have R1 := Lib.hid (R0.out.set 0 (Value.slice X1 n1 y1))
          have z1 := R1.out.at_ (i := 1) rfl
          have fz1 := R1.out.frozen (i := 1) (by simp)
          have R2 := Lib.hid (R1.out.set 1 (Value.slice X2 n2 y2))
          have z2 := R2.out.at_ (i := 2) rfl
          have fz2 := R2.out.frozen (i := 2) (by simp)
          have R3 := Lib.hid (R2.out.set 2 (Value.slice X3 n3 y3))
          have z3 := R3.out.at_ (i := 3) rfl
          have fz3 := R3.out.frozen (i := 3) (by simp)
          have R4 := Lib.hid (R3.out.set 3 (Value.int .i64 i1))
          have z4 := R4.out.at_ (i := 4) rfl
          have fz4 := R4.out.frozen (i := 4) (by simp)
          have R5 := Lib.hid (R4.out.set 4 (Value.int .i64 i2))
          have z5 := R5.out.at_ (i := 5) rfl
          have fz5 := R5.out.frozen (i := 5) (by simp)
          have R6 := Lib.hid (R5.out.set 5 (Value.int .i64 i3))
          have z6 := R6.out.at_ (i := 6) rfl
          have fz6 := R6.out.frozen (i := 6) (by simp)
          have R7 := Lib.hid (R6.out.set 6 (Value.int .i64 i4))
          have z7 := R7.out.at_ (i := 7) rfl
          have fz7 := R7.out.frozen (i := 7) (by simp)
          have R8 := Lib.hid (R7.out.set 7 (Value.slice X4 n4 y4))
          have v0 := R8.out.at_ (i := 0) rfl
          have v1 := R8.out.at_ (i := 1) rfl
          have v2 := R8.out.at_ (i := 2) rfl
          have v3 := R8.out.at_ (i := 3) rfl
          have v4 := R8.out.at_ (i := 4) rfl
          have v5 := R8.out.at_ (i := 5) rfl
          have v6 := R8.out.at_ (i := 6) rfl
          have v7 := R8.out.at_ (i := 7) rfl
          go_wp2_with fail
          have CZ : Hid (Chg (fun x => x = B + 1) w4 _) := (((((((((Chg.refl (fun x => x = B + 1) w4).setCell (p := ⟨B + 1, 0, none⟩) (fun _ => rfl) (Value.slice X1 n1 y1)).setCell (p := ⟨B + 1, 1, none⟩) (fun _ => rfl) (Value.slice X2 n2 y2)).setCell (p := ⟨B + 1, 2, none⟩) (fun _ => rfl) (Value.slice X3 n3 y3)).setCell (p := ⟨B + 1, 3, none⟩) (fun _ => rfl) (Value.int .i64 i1)).setCell (p := ⟨B + 1, 4, none⟩) (fun _ => rfl) (Value.int .i64 i2)).setCell (p := ⟨B + 1, 5, none⟩) (fun _ => rfl) (Value.int .i64 i3)).setCell (p := ⟨B + 1, 6, none⟩) (fun _ => rfl) (Value.int .i64 i4)).setCell (p := ⟨B + 1, 7, none⟩) (fun _ => rfl) (Value.slice X4 n4 y4))
          have hcp : ∀ {v : Value} {e : TypeId} {sz n : Nat} {cs mark : List Value}, Cop w4 v e sz n cs mark → e ≠ 26 → ∀ g, v.ownBlock = some g → ¬ g = B + 1 := fun hc he g hg e1 => by
            obtain ⟨cur, hb⟩ := hc.ty g hg
            exact hb.type_ne W4.out.res he e1
          refine bodyPost_ret (v := .agg #[Value.slice X1 n1 y1, Value.slice X2 n2 y2, Value.slice X3 n3 y3, Value.int .i64 i1, Value.int .i64 i2, Value.int .i64 i3, Value.int .i64 i4, Value.slice X4 n4 y4]) (by simp [results, Tryd.results9, go_sem, v0, v1, v2, v3, v4, v5, v6, v7]) rfl ⟨⟨.slice X1 n1 y1, .slice X2 n2 y2, .slice X3 n3 y3, .slice X4 n4 y4, vs⟩, ?_, ?_, ?_, C4.out.trans CZ.out (fun x hx e1 => by have := HB.out; omega)⟩
          · rw [progVal, ← HI.out.1, ← HI.out.2.1, ← HI.out.2.2.1, ← HI.out.2.2.2]
          · refine ⟨?_, ?_, ?_, ?_, HV.out, fun i h h' => (HC.out i h h').sl.chg CZ.out (hcp (HC.out i h h') (by decide))⟩
            · rw [← HP.out.ln]; exact P1.out.sl.chg CZ.out (hcp P1.out (by decide))
            · rw [← HP.out.lc]; exact P2.out.sl.chg CZ.out (hcp P2.out (by decide))
            · rw [← HP.out.lk]; exact P3.out.sl.chg CZ.out (hcp P3.out (by decide))
            · rw [← HP.out.ld]; exact SD.out.chg CZ.out (fun g hg e1 => by
                obtain ⟨cur, hb⟩ := TY.out g hg
                exact hb.type_ne W4.out.res (by decide) e1)
          · refine ⟨?_, ?_, ?_, fun i h h' => (HC.out i h h').mg.chg CZ.out (hcp (HC.out i h h') (by decide))⟩
            · rw [← HP.out.ln]; exact P1.out.mg.chg CZ.out (hcp P1.out (by decide))
            · rw [← HP.out.lc]; exact P2.out.mg.chg CZ.out (hcp P2.out (by decide))
            · rw [← HP.out.lk]; exact P3.out.mg.chg CZ.out (hcp P3.out (by decide))
end Go.Proofs.YtkadamoofiddeaaDoor.Kit
-- verify: the small functions (height, pop, push, gives, wants), and code.Effect.
set_option linter.unusedVariables false
set_option linter.unusedSimpArgs false
namespace Go.Proofs.YtkadamoofiddeaaDoor.Kit
open Go.RowKit Go.Maps
/-- the two sorts, as they lie in memory -/
structure SortsAt (w : World) : Prop where
  n : w.cell? ⟨2, 0, none⟩ = some (.bool false)
  t : w.cell? ⟨3, 0, none⟩ = some (.bool true)
theorem SortsAt.chg {w w1 : World} {S : Nat → Prop} (h : SortsAt w) (c : Chg S w w1) (h1 : ¬ S 2) (h2 : ¬ S 3) : SortsAt w1 := ⟨c.cell (p := ⟨2, 0, none⟩) h1 h.n, c.cell (p := ⟨3, 0, none⟩) h2 h.t⟩
theorem SortsAt.lt {w : World} (h : SortsAt w) : 2 < w.heap.size ∧ 3 < w.heap.size :=
  ⟨World.block_lt_of_cell? w ⟨2, 0, none⟩ h.n, World.block_lt_of_cell? w ⟨3, 0, none⟩ h.t⟩
theorem infoSort : (Tryd.prog.info? 138).map (fun i => (i.zero, i.size, i.bytes)) = some (some (.agg #[.bool false]), 1, 1) := by kernel_rfl
theorem vHeight {g n c : Nat} {A : Option Addr} {w : World} (h0 : w.cell? ⟨g, 0, none⟩ = some (.slice A n c)) : Calls Tryd.prog 75 #[.pointer (some ⟨g, 0, none⟩)] w fun e w' => e = .returned (.int .i64 (n : Int)) ∧ w' = w := by
  go_enter Tryd.func75, Tryd.ntmps75
  go_wp2_with fail
  go_ret
  exact ⟨rfl, rfl⟩
set_option maxRecDepth 20000 in
theorem vEffect {x : Int} {w : World} (hk : Hid (KindsAt w)) (ho : Hid (0 ≤ x ∧ x < 29)) : Calls Tryd.prog 36 #[.int .i64 x] w fun e w' => e = .returned (.tuple #[.int .i64 (kAt x.toNat).t, .int .i64 (kAt x.toNat).p, .int .i64 0]) ∧ Chg (fun _ => False) w w' := by
  have KB : Hid (IsB true (0 ≤ x ∧ x < 29)) := ⟨fun _ => ho.out, fun _ => rfl⟩
  obtain ⟨ho1, ho2⟩ := ho.out
  obtain ⟨i, rfl⟩ : ∃ i : Nat, x = i := ⟨x.toNat, by omega⟩
  have hi : i < 29 := by omega
  rw [Int.toNat_natCast]
  obtain ⟨nm, k0, k1, k2, k3, k4, k5⟩ := hk.out i hi
  obtain ⟨kt, hkt⟩ : ∃ z, z = (kAt i).t := ⟨_, rfl⟩
  obtain ⟨kp, hkp⟩ : ∃ z, z = (kAt i).p := ⟨_, rfl⟩
  rw [← hkt] at k4 ⊢
  rw [← hkp] at k5 ⊢
  clear hkt hkp k1 k2 k3 k0 ho
  go_enter Tryd.func36, Tryd.ntmps36
  go_wp2_with fail
  refine (codeKnown KB).mono ?_
  rintro e w1 ⟨rfl, rfl⟩
  go_wp2_with fail
  go_quiet (fail)
  go_wp2_with fail
  go_ret3
  exact ⟨rfl, (Chg.refl _ _).drewN _⟩
/-- the slots of wants -/
def wantM : Int → Option Bool := putM (putM (putM (putM (putM (putM (putM (putM (putM (putM (putM (putM (putM (putM (putM (putM (putM (putM (putM (putM noSlots 5 false) 28 false) 9 false) 10 false) 11 false) 13 false) 14 false) 16 false) 17 false) 12 false) 15 false) 18 false) 19 false) 20 false) 21 false) 22 false) 23 false) 24 false) 25 true) 27 true
theorem wantM_nat : ∀ i : Nat, i < 29 → wantM (i : Int) = vWant (i : Int) := by decide
theorem wantM_eq {k : Int} (h : 0 ≤ k ∧ k < 29) : wantM k = vWant k := by
  have := wantM_nat k.toNat (by omega)
  rwa [show ((k.toNat : Nat) : Int) = k from by omega] at this
set_option maxRecDepth 20000 in
set_option maxHeartbeats 1600000 in
theorem vWants {w : World} (hs : Hid (SortsAt w)) : Calls Tryd.prog 86 #[] w fun e w' => ∃ b, e = .returned (.map (some b)) ∧ Hid (Mp w' b 20 wantM) ∧ Hid (Chg (fun _ => False) w w') ∧ Hid (w.heap.size ≤ b) := by
  have hmm := @run_makeMap Tryd.prog
  have n1 : 2 ≠ w.heap.size := by have := hs.out.lt; omega
  have n2 : 3 ≠ w.heap.size := by have := hs.out.lt; omega
  have M0 : Mp (w.alloc (.map #[] 0)) w.heap.size 0 noSlots := Mp.made w
  have C0 : Hid (Chg (fun _ => False) w (w.alloc (.map #[] 0))) := (Chg.refl _ w).alloc _
  have s0 := hs.out.chg C0.out (fun h => h) (fun h => h)
  have q1 := s0.n
  have q2 := s0.t
  obtain ⟨b, hb⟩ : ∃ x, x = w.heap.size := ⟨_, rfl⟩
  have HB := Lib.hid hb
  rw [← hb] at n1 n2 M0
  have hb' := hb.symm
  clear hb
  go_enter Tryd.func86, Tryd.ntmps86
  go_wp2_with (first | (refine wp_put rfl _ _ _ (.inr rfl) rfl (by assumption) rfl (by constructor <;> decide) (by decide) rfl ?_; intro w1 m1 c1; have s1 := SortsAt.chg (by assumption) c1 n1 n2; have q1 := s1.n; have q2 := s1.t; have C0 : Hid (Chg (fun _ => False) w w1) := C0.out.old c1 (fun i e => by rw [e, HB.out]; exact Nat.le_refl _); clear c1) | fail)
  go_ret
  exact ⟨_, rfl, by assumption, C0, by rw [Hid, HB.out]; exact Nat.le_refl _⟩
end Go.Proofs.YtkadamoofiddeaaDoor.Kit
-- Canonical programs: the kinds and the sorts off the laid variables.
set_option linter.unusedVariables false
set_option linter.unusedSimpArgs false
namespace Go.Proofs.YtkadamoofiddeaaDoor.Kit
open Go.RowKit Go.ChangeShapes Go.WideShapes Go.ChangeAt
theorem slice_one {cs : List Value} {a m j : Nat} {v : Value} (h : (((cs.drop a).take m).drop j).take 1 = [v]) : cs[a + j]? = some v := by
  have h1 := congrArg (fun l => l[0]?) h
  simp only [List.getElem?_cons_zero] at h1
  rw [List.getElem?_take] at h1
  simp only [Nat.zero_lt_one, if_true] at h1
  rw [List.getElem?_drop, List.getElem?_take] at h1
  split at h1
  · rw [List.getElem?_drop] at h1
    simpa using h1
  · cases h1
/-- a field of a row of a table -/
theorem laid_field {H : Type} {enc : TypeId × Value → H} {P : Program} {w : World} {base : Nat} {spare held} {fuel : Nat} {t e : TypeId} {n i j : Nat} {f : Field} {fs : Array Field} {cs : List Value} {rows ds : List (DataW H)} {pl : List MemPlace} {y : DataW H}
    (ht : P.underlying t = some (.array n e)) (hs : P.underlying e = some (.struct fs)) (hf : fs[j]? = some f) (h : DataW.trod enc P w base spare held fuel t cs = some (.agg rows, pl)) (hi : i < n) (hr : rows[i]? = some (.agg ds)) (hd : ds[j]? = some y) :
    ∃ m q, DataW.trod enc P w base spare held m f.type ((((cs.drop (i * P.cellsOf e)).take (P.cellsOf e)).drop f.offset).take (P.cellsOf f.type)) = some (y, q) := by
  obtain ⟨xs, m, _, hx, _, hn, hel⟩ := DataW.trod_array ht h
  simp only [Prod.mk.injEq, DataW.agg.injEq] at hx
  rw [hx.1, List.getElem?_map] at hr
  obtain ⟨x, hxi, hx1⟩ := Option.map_eq_some_iff.1 hr
  have h2 := hel i hi
  rw [hxi] at h2
  obtain ⟨ys, m2, _, hy, _, hn2, hfl⟩ := DataW.trod_struct hs h2
  rw [hy] at hx1
  simp only [DataW.agg.injEq] at hx1
  rw [← hx1, List.getElem?_map] at hd
  obtain ⟨z, hzj, hz1⟩ := Option.map_eq_some_iff.1 hd
  have h3 := hfl j f hf
  rw [hzj] at h3
  subst hz1
  exact ⟨m2, z.2, h3⟩
theorem laid_int {H : Type} {enc : TypeId × Value → H} {P : Program} {w : World} {base : Nat} {spare held} {fuel : Nat} {t e : TypeId} {n i j : Nat} {f : Field} {fs : Array Field} {cs : List Value} {rows ds : List (DataW H)} {pl : List MemPlace} {k : IntKind} {v : Int}
    (ht : P.underlying t = some (.array n e)) (hs : P.underlying e = some (.struct fs)) (hf : fs[j]? = some f) (hk : P.underlying f.type = some (.int k)) (hc : P.cellsOf f.type = 1) (h : DataW.trod enc P w base spare held fuel t cs = some (.agg rows, pl)) (hi : i < n) (hr : rows[i]? = some (.agg ds)) (hd : ds[j]? = some (.lit (.int k v))) :
    cs[i * P.cellsOf e + f.offset]? = some (.int k v) := by
  obtain ⟨m, q, h2⟩ := laid_field ht hs hf h hi hr hd
  rw [hc] at h2
  obtain ⟨v', e1, e2, _⟩ := DataW.trod_int hk h2
  have h3 := slice_one e1
  simp only [Prod.mk.injEq, DataW.lit.injEq, Lit.int.injEq] at e2
  rw [h3, e2.1.2]
theorem laid_string {H : Type} {enc : TypeId × Value → H} {P : Program} {w : World} {base : Nat} {spare held} {fuel : Nat} {t e : TypeId} {n i j : Nat} {f : Field} {fs : Array Field} {cs : List Value} {rows ds : List (DataW H)} {pl : List MemPlace} {y : DataW H}
    (ht : P.underlying t = some (.array n e)) (hs : P.underlying e = some (.struct fs)) (hf : fs[j]? = some f) (hk : P.underlying f.type = some .string) (hc : P.cellsOf f.type = 1) (h : DataW.trod enc P w base spare held fuel t cs = some (.agg rows, pl)) (hi : i < n) (hr : rows[i]? = some (.agg ds)) (hd : ds[j]? = some y) :
    ∃ s : ByteArray, cs[i * P.cellsOf e + f.offset]? = some (.string s) := by
  obtain ⟨m, q, h2⟩ := laid_field ht hs hf h hi hr hd
  rw [hc] at h2
  obtain ⟨s, e1, _⟩ := DataW.trod_string hk h2
  exact ⟨s, slice_one e1⟩
theorem gKinds : Tryd.prog.globalNamed "payoff/code.kinds" = some 0 := by kernel_rfl
theorem kind_rows {H : Type} : ∃ rows : List (DataW H), (Rows.laid_payoff_code_kinds : DataW H) = .agg rows ∧ ∀ i, i < 29 → ∃ nm, rows[i]? = some (.agg [.lit (.string nm), .lit (.int .i64 (kAt i).o), .lit (.int .i64 (kAt i).a), .lit (.int .i64 (kAt i).b), .lit (.int .i64 (kAt i).t), .lit (.int .i64 (kAt i).p)]) := by
  refine ⟨_, rfl, fun i hi => ?_⟩
  match i, hi with
  | 0, _ => exact ⟨_, rfl⟩
  | 1, _ => exact ⟨_, rfl⟩
  | 2, _ => exact ⟨_, rfl⟩
  | 3, _ => exact ⟨_, rfl⟩
  | 4, _ => exact ⟨_, rfl⟩
  | 5, _ => exact ⟨_, rfl⟩
  | 6, _ => exact ⟨_, rfl⟩
  | 7, _ => exact ⟨_, rfl⟩
  | 8, _ => exact ⟨_, rfl⟩
  | 9, _ => exact ⟨_, rfl⟩
  | 10, _ => exact ⟨_, rfl⟩
  | 11, _ => exact ⟨_, rfl⟩
  | 12, _ => exact ⟨_, rfl⟩
  | 13, _ => exact ⟨_, rfl⟩
  | 14, _ => exact ⟨_, rfl⟩
  | 15, _ => exact ⟨_, rfl⟩
  | 16, _ => exact ⟨_, rfl⟩
  | 17, _ => exact ⟨_, rfl⟩
  | 18, _ => exact ⟨_, rfl⟩
  | 19, _ => exact ⟨_, rfl⟩
  | 20, _ => exact ⟨_, rfl⟩
  | 21, _ => exact ⟨_, rfl⟩
  | 22, _ => exact ⟨_, rfl⟩
  | 23, _ => exact ⟨_, rfl⟩
  | 24, _ => exact ⟨_, rfl⟩
  | 25, _ => exact ⟨_, rfl⟩
  | 26, _ => exact ⟨_, rfl⟩
  | 27, _ => exact ⟨_, rfl⟩
  | 28, _ => exact ⟨_, rfl⟩
  | n + 29, h => exact absurd h (by omega)
theorem tKinds : (Tryd.prog.globals[0]?).map (·.type) = some 94 := by kernel_rfl
theorem uKinds : Tryd.prog.underlying 94 = some (.array 29 93) := by kernel_rfl
theorem kinds_at {H : Type} {enc : TypeId × Value → H} {W : World} {base : Nat} {spare held} {fuel : Nat} {cs : Array Value} {pl : List MemPlace} (hv : W.var? Tryd.prog "payoff/code.kinds" = some cs) (h : DataW.trod enc Tryd.prog W base spare held fuel 94 cs.toList = some (Rows.laid_payoff_code_kinds, pl)) : KindsAt W := fun i hi => by
  obtain ⟨rows, hr, hrow⟩ := kind_rows (H := H)
  rw [hr] at h
  obtain ⟨nm, hi2⟩ := hrow i hi
  have c5 : Tryd.prog.cellsOf 93 = 6 := by kernel_rfl
  obtain ⟨s, hs⟩ := laid_string (j := 0) uKinds Tryd.underlying93 rfl Tryd.underlying9 (by kernel_rfl) h hi hi2 rfl
  have h1 := laid_int (j := 1) uKinds Tryd.underlying93 rfl Tryd.underlying3 (by kernel_rfl) h hi hi2 rfl
  have h2 := laid_int (j := 2) uKinds Tryd.underlying93 rfl Tryd.underlying3 (by kernel_rfl) h hi hi2 rfl
  have h3 := laid_int (j := 3) uKinds Tryd.underlying93 rfl Tryd.underlying3 (by kernel_rfl) h hi hi2 rfl
  have h4 := laid_int (j := 4) uKinds Tryd.underlying93 rfl Tryd.underlying3 (by kernel_rfl) h hi hi2 rfl
  have h5 := laid_int (j := 5) uKinds Tryd.underlying93 rfl Tryd.underlying3 (by kernel_rfl) h hi hi2 rfl
  rw [c5] at hs h1 h2 h3 h4 h5
  refine ⟨s, ?_, ?_, ?_, ?_, ?_, ?_⟩
  · rw [World.var?_cell gKinds hv]
    simpa using hs
  · rw [World.var?_cell gKinds hv]
    simpa using h1
  · rw [World.var?_cell gKinds hv]
    simpa using h2
  · rw [World.var?_cell gKinds hv]
    simpa using h3
  · rw [World.var?_cell gKinds hv]
    simpa using h4
  · rw [World.var?_cell gKinds hv]
    simpa using h5
theorem gNum : Tryd.prog.globalNamed "payoff/verify.number" = some 2 := by kernel_rfl
theorem gTru : Tryd.prog.globalNamed "payoff/verify.truth" = some 3 := by kernel_rfl
theorem tNum : (Tryd.prog.globals[2]?).map (·.type) = some 138 := by kernel_rfl
theorem tTru : (Tryd.prog.globals[3]?).map (·.type) = some 138 := by kernel_rfl
theorem sort_cells {H : Type} {enc : TypeId × Value → H} {W : World} {base : Nat} {spare held} {fuel : Nat} {cs : List Value} {pl : List MemPlace} {b : Bool} (h : DataW.trod enc Tryd.prog W base spare held fuel 138 cs = some (.agg [.lit (.bool b)], pl)) : cs[0]? = some (.bool b) := by
  obtain ⟨xs, m, _, hx, hl, hn, hfl⟩ := DataW.trod_struct Tryd.underlying138 h
  have h1 := hfl 0 _ rfl
  rw [show Tryd.prog.cellsOf 138 = 1 from by kernel_rfl] at hl
  obtain ⟨c, rfl⟩ : ∃ c, cs = [c] := by
    rcases cs with _ | ⟨c, _ | ⟨c', r⟩⟩
    · simp at hl
    · exact ⟨c, rfl⟩
    · simp at hl
  have h2 : DataW.trod enc Tryd.prog W base spare held m 4 [c] = xs[0]? := by
    simp only [List.getElem_toArray, List.getElem_cons_zero, List.drop_zero] at h1
    rw [show Tryd.prog.cellsOf 4 = 1 from by kernel_rfl] at h1
    simpa using h1
  rcases hx0 : xs[0]? with _ | z
  · simp only [Prod.mk.injEq, DataW.agg.injEq] at hx
    have := congrArg List.length hx.1
    simp at this
    rcases xs with _ | ⟨z, r⟩
    · simp at this
    · simp at hx0
  · rw [hx0] at h2
    obtain ⟨b', e1, e2⟩ := DataW.trod_bool Tryd.underlying4 h2
    simp only [Prod.mk.injEq, DataW.agg.injEq] at hx
    have h3 : (xs.map (·.1))[0]? = some z.1 := by rw [List.getElem?_map, hx0]; rfl
    rw [← hx.1] at h3
    simp at h3
    rw [e2] at h3
    simp at h3
    injection e1 with e1
    rw [e1, ← h3]
    rfl
theorem sort_at {H : Type} {enc : TypeId × Value → H} {W : World} {base : Nat} {spare held} {f1 f2 : Nat} {cs cs2 : Array Value} {pl pl2 : List MemPlace} (hv : W.var? Tryd.prog "payoff/verify.number" = some cs) (h : DataW.trod enc Tryd.prog W base spare held f1 138 cs.toList = some (Rows.laid_payoff_verify_number, pl))
    (hv2 : W.var? Tryd.prog "payoff/verify.truth" = some cs2) (h2 : DataW.trod enc Tryd.prog W base spare held f2 138 cs2.toList = some (Rows.laid_payoff_verify_truth, pl2)) : SortsAt W := by
  have a1 := sort_cells (b := false) h
  have a2 := sort_cells (b := true) h2
  refine ⟨?_, ?_⟩
  · rw [World.var?_cell gNum hv]
    simpa using a1
  · rw [World.var?_cell gTru hv2]
    simpa using a2
end Go.Proofs.YtkadamoofiddeaaDoor.Kit
-- verify: the stack's pop and push; gives.
set_option linter.unusedVariables false
set_option linter.unusedSimpArgs false
namespace Go.Proofs.YtkadamoofiddeaaDoor.Kit
open Go.RowKit Go.Maps
theorem bls_append (l m : List Bool) : bls (l ++ m) = bls l ++ bls m := by simp [bls]
theorem bls_take (l : List Bool) (n : Nat) : bls (l.take n) = (bls l).take n := by simp [bls, List.map_take]
theorem vGives0 {x : Int} {w : World} (hs : Hid (SortsAt w)) : Calls Tryd.prog 89 #[.int .i64 x] w fun e w' => e = .returned (.agg #[.bool (vGives x)]) ∧ Chg (fun _ => False) w w' := by
  have C0 : Hid (∀ o : Obj, Chg (fun _ => False) w (w.alloc o)) := fun o => (Chg.refl _ w).alloc o
  have q1 := (hs.out.chg (C0.out (.cells #[.bool false] 138)) (fun h => h) (fun h => h)).n
  have q2 := (hs.out.chg (C0.out (.cells #[.bool false] 138)) (fun h => h) (fun h => h)).t
  by_cases h1 : x = 2
  · subst h1
    go_enter Tryd.func89, Tryd.ntmps89
    go_wp2_with fail
    exact bodyPost_ret (v := .agg #[.bool true]) (by simp [results, Tryd.results89, go_sem]) rfl ⟨rfl, C0.out _⟩
  · by_cases h2 : 19 ≤ x
    · by_cases h3 : x ≤ 25
      · have HV : Hid (vGives x = true) := by rw [Hid, vGives]; exact decide_eq_true (.inr ⟨h2, h3⟩)
        go_enter Tryd.func89, Tryd.ntmps89
        go_wp2_with fail
        exact bodyPost_ret (v := .agg #[.bool true]) (by simp [results, Tryd.results89, go_sem]) rfl ⟨by rw [HV.out], C0.out _⟩
      · have HV : Hid (vGives x = false) := by rw [Hid, vGives]; exact decide_eq_false (by omega)
        go_enter Tryd.func89, Tryd.ntmps89
        go_wp2_with fail
        exact bodyPost_ret (v := .agg #[.bool false]) (by simp [results, Tryd.results89, go_sem]) rfl ⟨by rw [HV.out], C0.out _⟩
    · have HV : Hid (vGives x = false) := by rw [Hid, vGives]; exact decide_eq_false (by omega)
      go_enter Tryd.func89, Tryd.ntmps89
      go_wp2_with fail
      exact bodyPost_ret (v := .agg #[.bool false]) (by simp [results, Tryd.results89, go_sem]) rfl ⟨by rw [HV.out], C0.out _⟩
set_option maxRecDepth 20000 in
theorem vPop {g m c : Nat} {A : Option Addr} {mv : Value} {w : World} {l : List Bool} (hb : Hid (Blk w g 122 [.slice A (m + 1) c, mv])) (ho : Hid (OwnV w 138 1 (.slice A (m + 1) c) (m + 1) (bls l))) :
    Calls Tryd.prog 87 #[.pointer (some ⟨g, 0, none⟩)] w fun e w' => e = .returned (.agg #[.bool (l.getD m false)]) ∧ Hid (Blk w' g 122 [.slice A m c, mv]) ∧ Hid (OwnV w' 138 1 (.slice A m c) m (bls (l.take m))) ∧ Hid (Chg (fun y => y = g) w w') := by
  have hl : l.length = m + 1 := by have := ho.out.1; simpa [bls] using this
  obtain ⟨x, hx⟩ : ∃ x, x = l.getD m false := ⟨_, rfl⟩
  have hlm : l[m]? = some x := by rw [hx, List.getD_eq_getElem?_getD, List.getElem?_eq_getElem (by omega)]; rfl
  obtain ⟨n, hn⟩ : ∃ n, n = m + 1 := ⟨_, rfl⟩
  have HN := Lib.hid hn
  rw [← hn] at hb ho
  obtain ⟨gs, rfl, hc⟩ : ∃ gs, A = some ⟨gs, 0, none⟩ ∧ Hid (w.cell? ⟨gs, m, none⟩ = some (.bool x)) := by
    obtain ⟨ad, rfl, hc, hob⟩ := ho.out.cells A n c rfl m (.bool x) (by simp [bls, hlm])
    rcases ho.out.2 with ⟨h, _⟩ | ⟨g', cap, cur, h, _⟩
    · cases h
    · injection h with h
      injection h with h
      subst h
      have hadd : (⟨g', 0, none⟩ : Addr).add m = ⟨g', m, none⟩ := by unfold Addr.add; split <;> simp_all
      rw [hadd] at hc
      exact ⟨_, rfl, hc⟩
  rw [← hx]
  clear hx hlm
  have hnum : IntKind.i64.wrap ((n : Int) - 1) = (m : Int) := by rw [IntWalk.i64_in _ (by obtain ⟨_, _, e, h1, h2⟩ := ho.out.slice; injection e with _ _ e; subst e; simp [maxLen] at h2; omega)]; omega
  have hm0 : (0 : Int) ≤ (m : Int) := by omega
  have hm1 : (m : Int) < (n : Int) := by omega
  have hm2 : m < n := by omega
  clear hn hl
  go_enter Tryd.func87, Tryd.ntmps87
  go_wp2_with fail
  have T0 : Hid (∀ W, Chg (fun _ => False) w W → W.cell? ⟨g, 0, none⟩ = some (.slice (some ⟨gs, 0, none⟩) n c) ∧ W.cell? ⟨gs, m, none⟩ = some (.bool x)) := fun W cW => ⟨(hb.out.chg cW (fun h => h)).at_ (i := 0) rfl, cW.cell (p := ⟨gs, m, none⟩) (fun h => h) hc.out⟩
  go_region_held3 (fun W => W.cell? ⟨g, 0, none⟩ = some (.slice (some ⟨gs, 0, none⟩) n c) ∧ W.cell? ⟨gs, m, none⟩ = some (.bool x)) (exact T0.out _ (by repeat (first | exact Chg.refl _ _ | refine Chg.drew ?_ | refine Chg.drewN ?_ _ | refine Chg.alloc ?_ _))) (first | fail)
  obtain ⟨w1, hw1⟩ : ∃ y, y = ((w.alloc (Obj.cells #[Value.bool false] 138)).alloc (Obj.cells #[Value.bool x] 138)).drew := ⟨_, rfl⟩
  have C1 : Hid (Chg (fun _ => False) w w1) := by rw [hw1]; exact (((Chg.refl _ w).alloc _).alloc _).drew
  have e0 : w1.cell? ⟨w.heap.size, 0, none⟩ = some (.bool false) := by rw [hw1]; simp [go_sem]
  have e1 : w1.cell? ⟨w.heap.size + 1, 0, none⟩ = some (.bool x) := by rw [hw1]; simp [go_sem]
  have B1 : Hid (Blk w1 g 122 [.slice (some ⟨gs, 0, none⟩) n c, mv]) := hb.out.chg C1.out (fun h => h)
  have q0 := B1.out.at_ (i := 0) rfl
  have z0 := B1.out.frozen (i := 0) (by simp)
  have BF : Hid (Blk w1 w.heap.size 138 [.bool false]) := by rw [hw1]; exact ((Blk.new w #[.bool false] 138).alloc _).drew
  have hmc : m ≤ c := by obtain ⟨_, _, e, h1, h2⟩ := ho.out.slice; injection e with _ _ e; subst e; omega
  have d1 : g ≠ w.heap.size := by have := hb.out.lt; omega
  have d2 : g ≠ w.heap.size + 1 := by have := hb.out.lt; omega
  rw [← hw1]
  have D1 := Lib.hid d1
  have D2 := Lib.hid d2
  clear hw1
  clear d1 d2
  go_upto_region 2 with fail
  go_region
  obtain ⟨w2, hw2⟩ : ∃ y, y = (w1.setCell ⟨g, 0, none⟩ (.slice (some ⟨gs, 0, none⟩) m c)).drew := ⟨_, rfl⟩
  have C2 : Hid (Chg (fun y => y = g) w1 w2) := by rw [hw2]; exact (((Chg.refl (fun y => y = g) w1).setCell (p := ⟨g, 0, none⟩) (fun _ => rfl) _)).drew
  have B2 : Hid (Blk w2 g 122 [.slice (some ⟨gs, 0, none⟩) m c, mv]) := by rw [hw2]; exact (B1.out.set 0 _).drew
  have p0 : w2.cell? ⟨w.heap.size, 0, none⟩ = some (.bool false) := (BF.out.chg C2.out (fun e => D1.out e.symm)).at_ (i := 0) rfl
  have p1 : w2.frozen? ⟨w.heap.size, 0, none⟩ = false := (BF.out.chg C2.out (fun e => D1.out e.symm)).frozen (i := 0) (by simp)
  have p2 : w2.cell? ⟨w.heap.size + 1, 0, none⟩ = some (.bool x) := C2.out.cell (p := ⟨w.heap.size + 1, 0, none⟩) (fun e => D2.out e.symm) e1
  rw [← hw2]
  clear hw2 q0 z0 e0 e1
  go_wp2_with fail
  have C9 : Hid (Chg (fun y => y = g) w (w2.setCell ⟨w.heap.size, 0, none⟩ (.bool x))) := ((C1.out.mono (fun _ _ h => h.elim)).trans C2.out (fun _ _ h => h)).setCell (p := ⟨w.heap.size, 0, none⟩) (fun h => absurd h (Nat.lt_irrefl _)) _
  have r0 : (w2.setCell ⟨w.heap.size, 0, none⟩ (.bool x)).cell? ⟨w.heap.size, 0, none⟩ = some (.bool x) := ((BF.out.chg C2.out (fun e => D1.out e.symm)).set 0 _).at_ (i := 0) rfl
  refine bodyPost_ret (v := .agg #[.bool x]) (by simp [results, Tryd.results87, go_sem, r0]) rfl ⟨rfl, B2.out.set_other D1.out _, ?_, C9⟩
  have h1 := (ho.out.cut (m := m) (by omega)).chg C9.out (fun k hk e => OwnV.type_ne ho.out hb.out (by decide) (by rw [← e]; exact hk))
  rw [Nat.mul_one, ← bls_take] at h1
  exact h1
theorem rd_box1 (w : World) (u : Value) (e : TypeId) : RdG (w.alloc (.cells #[u] e)).drew (some ⟨w.heap.size, 0, none⟩) [u] := by
  intro j y hj
  have h0 : j = 0 := by
    rcases j with _ | j
    · rfl
    · simp at hj
  subst h0
  injection hj with hj
  subst hj
  refine ⟨_, rfl, ?_⟩
  rw [show (⟨w.heap.size, 0, none⟩ : Addr).add 0 = ⟨w.heap.size, 0, none⟩ from by unfold Addr.add; split <;> simp_all]
  exact (Blk.new w #[u] e).drew.at_ (i := 0) rfl
set_option maxRecDepth 20000 in
set_option maxHeartbeats 1600000 in
theorem vPush {g n c : Nat} {A : Option Addr} {mv : Value} {w : World} {l : List Bool} {x : Bool} (hb : Hid (Blk w g 122 [.slice A n c, mv])) (ho : Hid (OwnV w 138 1 (.slice A n c) n (bls l))) (hn : n ≤ 1000000000) :
    Calls Tryd.prog 88 #[.pointer (some ⟨g, 0, none⟩), .agg #[.bool x]] w fun e w' => ∃ A' c', e = .returned (.tuple #[]) ∧ Hid (Blk w' g 122 [.slice A' (n + 1) c', mv]) ∧ Hid (OwnV w' 138 1 (.slice A' (n + 1) c') (n + 1) (bls (l ++ [x]))) ∧ Hid (Chg (fun y => y = g ∨ Value.ownBlock (.slice A n c) = some y) w w') ∧ Fresh w (.slice A n c) (.slice A' (n + 1) c') := by
  obtain ⟨w1, hw1⟩ : ∃ y, y = w.alloc (Obj.cells #[Value.bool x] 138) := ⟨_, rfl⟩
  have C1 : Hid (Chg (fun _ => False) w w1) := by rw [hw1]; exact (Chg.refl _ w).alloc _
  have D1 : Hid (g ≠ w.heap.size) := by have := hb.out.lt; exact Nat.ne_of_lt this
  have BF : Hid (Blk w1 w.heap.size 138 [.bool x]) := by rw [hw1]; exact Blk.new w #[.bool x] 138
  have B1 : Hid (Blk w1 g 122 [.slice A n c, mv]) := hb.out.chg C1.out (fun h => h)
  have O1 : Hid (OwnV w1 138 1 (.slice A n c) n (bls l)) := ho.out.chg C1.out (fun _ _ h => h)
  have q0 := B1.out.at_ (i := 0) rfl
  have q1 := BF.out.at_ (i := 0) rfl
  have q2 := (B1.out.alloc (.cells #[Value.bool x] 138)).at_ (i := 0) rfl
  go_enter Tryd.func88, Tryd.ntmps88
  go_upto_region 1 with fail
  rw [← hw1]
  clear hw1
  go_region_law ((refine st_appG rfl _ _ 118 138 (.agg #[.bool false]) 1 1 rfl Tryd.underlying118 infoSort rfl (by decide) (by decide) (.slice A n c) n (bls l) rfl (O1.out.chg (S := fun _ => False) (by repeat (first | exact Chg.refl _ _ | refine Chg.drew ?_ | refine Chg.drewN ?_ _ | refine Chg.alloc ?_ _)) (fun _ _ h => h)) _ 1 1 [.bool x] rfl rfl (rd_box1 _ _ _) (by simp [Value.oneCell']) (by omega) ?_; intro v' w2 k1 k2 k3; obtain ⟨A', c', rfl, hc4, _⟩ := k1.slice; have K1 := Lib.hid k1; have C2 : Hid (Chg (fun y => Value.ownBlock (.slice A n c) = some y) w1 w2) := (((Chg.refl (fun y => Value.ownBlock (.slice A n c) = some y) w1).alloc _).drew).trans k2 (fun _ _ h => h); have K3 : Hid (Fresh w (.slice A n c) (.slice A' (n + 1) c')) := k3.imp id (fun h y hy => Nat.le_trans C1.out.size (Nat.le_trans (by simp) (h y hy))); have B2 : Hid (Blk w2 g 122 [.slice A n c, mv]) := B1.out.chg C2.out (fun e => OwnV.type_ne O1.out B1.out (by decide) e); have q5 := B2.out.at_ (i := 0) rfl; have q6 := B2.out.frozen (i := 0) (by simp); clear k1 k2 k3))
  all_goals
   go_wp2_with fail
   (try simp only [Exit.inBlock, Exit.then]); refine bodyPost_end (results_none rfl _ _ _) rfl ?_
   have CS : Chg (fun y => y = g) w2 (w2.setCell ⟨g, 0, none⟩ (.slice A' (n + 1) c')) := (Chg.refl (fun y => y = g) w2).setCell (p := ⟨g, 0, none⟩) (fun _ => rfl) _
   refine ⟨A', c', rfl, B2.out.set 0 _, ?_, ?_, K3.out⟩
   · have := OwnV.chg K1.out CS (fun k hk e => OwnV.type_ne K1.out B2.out (by decide) (by rw [← e]; exact hk))
     rw [Hid, bls_append]
     exact this
   · exact (C1.out.mono (T := fun y => y = g ∨ Value.ownBlock (.slice A n c) = some y) (fun _ _ h => h.elim)).trans ((C2.out.mono (T := fun y => y = g ∨ Value.ownBlock (.slice A n c) = some y) (fun _ _ h => .inr h)).trans CS (fun _ _ h => .inl h)) (fun _ _ h => h)
end Go.Proofs.YtkadamoofiddeaaDoor.Kit
