/- Texts that the row leans on: CrcO, Crc, Jp, Jq, OctRf, OctRg, OctRh. -/
import Derived.Test.YtlnomadhgoblkaaQJournalExactae
import Derived.Laws.NewBlocks
import Derived.Test.YtlnomadhgoblkaaQJournalExactab
import Derived.Test.YtlnomadhgoblkaaQJournalExactac
import Derived.Test.YtlnomadhgoblkaaProg
import Derived.Test.YtlnomadhgoblkaaQJournalExactad
import Derived.Deep.RegionHeld3
-- sync.Once.Do with the checksum's closure.
set_option linter.unusedVariables false
set_option linter.unusedSimpArgs false
namespace Go.Proofs.Ytlnomadhgoblkaa.Kit
open Go.RowKit
/-- the closure: the table is laid -/
theorem crcFn (g : Nat) (w : World) {cur : List Value} (hb : Hid (Blk w g 103 cur)) (hl : cur.length = 16) :
    Calls Try.prog 46 #[.pointer (some ⟨g, 0, none⟩)] w fun e w' => e = .returned (.tuple #[]) ∧ Blk w' g 103 tblCells ∧ Chg (· = g) w w' := by
  have HL := Lib.hid hl
  go_enter Try.func46, Try.ntmps46
  go_wp2_with (first | (go_at_call 47; go_must (refine (halves _).mono ?_); rintro e w1 ⟨rfl, k1⟩; have K1 := Lib.hid k1; clear k1; have hb1 : Hid (Blk w1 g 103 cur) := hb.out.chg K1.out id) | ((with_reducible refine gate_store ?_); go_must (refine wp_storeB rfl _ _ _ rfl g tblCells rfl rfl hb1.out (by rw [← tblUp_full, tblUp_length]; exact sizeTbl) (by rw [← tblUp_full, tblUp_length]; exact HL.out) (by rw [← tblUp_full]; exact tblUp_one 16) ?_); intro w5 k1 k2; have K5 := Lib.hid k1; have K6 := Lib.hid k2; clear k1 k2))
  go_end0
  exact ⟨rfl, K5.out, (K1.out.mono (fun _ _ h => h.elim)).trans K6.out (fun _ _ h => h)⟩
/-- the cells of a Once: done, the lock's state, its semaphore -/
def onceCells (d m : Int) : List Value := [.int .u32 d, .int .i32 m, .int .u32 0]
theorem once_set1 (d m z : Int) : (onceCells d m).set 1 (.int .i32 z) = onceCells d z := rfl
theorem once_set0 (d m z : Int) : (onceCells d m).set 0 (.int .u32 z) = onceCells z m := rfl
theorem boolLoad (a : Addr) (x : Int) (b : Bool) (w : World) (hb : (x != 0) = b) (h0 : w.cell? a = some (.int .u32 x)) :
    Calls Try.prog 61 #[.pointer (some a)] w fun e w' => e = .returned (.bool b) ∧ w = w' := by
  have hl := run_call_load (P := Try.prog) Try.func70 (by kernel_rfl) (by kernel_rfl) (by kernel_rfl) .u32 (by kernel_rfl) h0
  go_enter Try.func61, Try.ntmps61
  go_wp2
  go_ret
  exact ⟨rfl, rfl⟩
set_option maxRecDepth 100000 in
set_option maxHeartbeats 1600000 in
/-- doSlow, not yet done, the lock free -/
theorem slow (g gt : Nat) (hne : g ≠ gt) (w : World) {cur : List Value} (ho : Hid (Blk w g 102 (onceCells 0 0))) (ht : Hid (Blk w gt 103 cur)) (hl : cur.length = 16) :
    Calls Try.prog 62 #[.pointer (some ⟨g, 0, none⟩), .func (.func 46) #[] #[.pointer (some ⟨gt, 0, none⟩)]] w fun e w' => e = .returned (.tuple #[]) ∧ Blk w' g 102 (onceCells 1 0) ∧ Blk w' gt 103 tblCells ∧ Chg (fun i => i = g ∨ i = gt) w w' := by
  have h0 := ho.out.at_ (i := 0) rfl
  have h1 := ho.out.at_ (i := 1) rfl
  have f0 := ho.out.frozen (i := 0) (by simp [onceCells])
  have f1 := ho.out.frozen (i := 1) (by simp [onceCells])
  have ho1 : Hid (Blk (w.setCell ⟨g, 1, none⟩ (.int .i32 1)) g 102 (onceCells 0 1)) := ho.out.set 1 _
  have ht1 : Hid (Blk (w.setCell ⟨g, 1, none⟩ (.int .i32 1)) gt 103 cur) := ht.out.set_other (Ne.symm hne) _
  have HL := Lib.hid hl
  have hq := Lib.hid (ho1.out.at_ (i := 0) rfl)
  have hnot : ∀ (x : Bool) (w : World), (Op.unary .not (.bool x)).run Try.prog w = .ok (.bool (!x)) w := fun _ _ => rfl
  go_enter_defers Try.func62, Try.ntmps62
  go_wp2_with (first | (go_at_call 71; go_must (refine (lock_free ⟨g, 1, none⟩ _ h1 f1).mono ?_); rintro e w' ⟨rfl, rfl⟩) | (go_at_call 61; go_must (refine (boolLoad ⟨g, 0, none⟩ 0 false _ rfl hq.out).mono ?_); rintro e w' ⟨rfl, rfl⟩) | (go_at_call 46; go_must (refine (crcFn gt _ ht1 HL.out).mono ?_); rintro e w5 ⟨rfl, k1, k2⟩; have K1 := Lib.hid k1; have K2 := Lib.hid k2; clear k1 k2))
  have ho5 : Hid (Blk w5 g 102 (onceCells 0 1)) := ho1.out.chg K2.out hne
  have d0 := ho5.out.at_ (i := 0) rfl
  have e0 := ho5.out.frozen (i := 0) (by simp [onceCells])
  have ho6 : Hid (Blk (w5.drew.setCell ⟨g, 0, none⟩ (.int .u32 1)) g 102 (onceCells 1 1)) := ho5.out.drew.set 0 _
  have ho7 : Hid (Blk ((w5.drew.setCell ⟨g, 0, none⟩ (.int .u32 1)).setCell ⟨g, 1, none⟩ (.int .i32 0)) g 102 (onceCells 1 0)) := ho6.out.set 1 _
  have d1 := ho6.out.at_ (i := 1) rfl
  have e1 := ho6.out.frozen (i := 1) (by simp [onceCells])
  have hk : Blk ((w5.drew.setCell ⟨g, 0, none⟩ (.int .u32 1)).setCell ⟨g, 1, none⟩ (.int .i32 0)) gt 103 tblCells := ((K1.out.drew.set_other (Ne.symm hne) _).set_other (Ne.symm hne) _)
  have hch : Chg (fun i => i = g ∨ i = gt) w ((w5.drew.setCell ⟨g, 0, none⟩ (.int .u32 1)).setCell ⟨g, 1, none⟩ (.int .i32 0)) :=
    ((((Chg.refl (fun i => i = g ∨ i = gt) w).setCell (p := ⟨g, 1, none⟩) (fun _ => .inl rfl) _).trans K2.out (fun _ _ h => .inr h)).drew.setCell (p := ⟨g, 0, none⟩) (fun _ => .inl rfl) _).setCell (p := ⟨g, 1, none⟩) (fun _ => .inl rfl) _
  have HK := Lib.hid hk
  have HCH := Lib.hid hch
  clear hk hch h0 h1 f0 f1
  go_wp2
  refine leaves_cons (f := 73) (args := #[.pointer (some ⟨g, 0, none⟩), .bool true]) (by simp) (by simp [go_sem]) ?_
  refine (store_deferred ⟨g, 0, none⟩ (.int .u32 0) .returning _ d0 e0).mono ?_
  rintro e u' w'' ⟨rfl, rfl, rfl⟩
  refine leaves_cons (f := 72) (args := #[.pointer (some ⟨g, 1, none⟩)]) (by simp [settle]) (by simp [go_sem]) ?_
  refine (unlock_deferred ⟨g, 1, none⟩ _ _ d1 e1).mono ?_
  rintro e u' w'' ⟨rfl, rfl, rfl⟩
  simp [Leaves, settle, results, Try.results62]
  exact ⟨ho7.out, HK.out, HCH.out⟩
set_option maxRecDepth 100000 in
set_option maxHeartbeats 1600000 in
theorem doFirst (g gt : Nat) (hne : g ≠ gt) (w : World) {cur : List Value} (ho : Hid (Blk w g 102 (onceCells 0 0))) (ht : Hid (Blk w gt 103 cur)) (hl : cur.length = 16) :
    Calls Try.prog 45 #[.pointer (some ⟨g, 0, none⟩), .func (.func 46) #[] #[.pointer (some ⟨gt, 0, none⟩)]] w fun e w' => e = .returned (.tuple #[]) ∧ Blk w' g 102 (onceCells 1 0) ∧ Blk w' gt 103 tblCells ∧ Chg (fun i => i = g ∨ i = gt) w w' := by
  have hq := Lib.hid (ho.out.at_ (i := 0) rfl)
  have hnot : ∀ (x : Bool) (w : World), (Op.unary .not (.bool x)).run Try.prog w = .ok (.bool (!x)) w := fun _ _ => rfl
  go_enter Try.func45, Try.ntmps45
  go_wp2_with (first | (go_at_call 61; go_must (refine (boolLoad ⟨g, 0, none⟩ 0 false _ rfl hq.out).mono ?_); rintro e w' ⟨rfl, rfl⟩) | (go_at_call 62; go_must (refine (slow g gt hne _ ho ht hl).mono ?_); rintro e w' ⟨rfl, k1, k2, k3⟩; have K1 := Lib.hid k1; have K2 := Lib.hid k2; have K3 := Lib.hid k3; clear k1 k2 k3))
  go_end0
  exact ⟨rfl, K1.out, K2.out, K3.out⟩
theorem doDone (g : Nat) (w : World) (f : Value) (ho : Hid (Blk w g 102 (onceCells 1 0))) :
    Calls Try.prog 45 #[.pointer (some ⟨g, 0, none⟩), f] w fun e w' => e = .returned (.tuple #[]) ∧ w = w' := by
  have hq := Lib.hid (ho.out.at_ (i := 0) rfl)
  have hnot : ∀ (x : Bool) (w : World), (Op.unary .not (.bool x)).run Try.prog w = .ok (.bool (!x)) w := fun _ _ => rfl
  go_enter Try.func45, Try.ntmps45
  go_wp2_with (first | (go_at_call 61; go_must (refine (boolLoad ⟨g, 0, none⟩ 1 true _ rfl hq.out).mono ?_); rintro e w' ⟨rfl, rfl⟩))
  go_end0
  exact ⟨rfl, rfl⟩
end Go.Proofs.Ytlnomadhgoblkaa.Kit
-- octet.Crc.
set_option linter.unusedVariables false
set_option linter.unusedSimpArgs false
namespace Go.Proofs.Ytlnomadhgoblkaa.Kit
open Go.RowKit
set_option maxRecDepth 20000 in
set_option maxHeartbeats 1600000 in
theorem crcCall (A : Option Addr) (c n : Nat) (l : List Int) (w : World) (hn : Hid (n = l.length)) (hb : Hid (Byt l)) (hl : Hid (l.length ≤ 140737488355328)) (hr : Hid (Rd w .u8 A l)) :
    Calls Try.prog 23 #[.slice A n c] w fun e w' => e = .returned (.int .u32 (vi (crc l))) ∧ Chg (fun _ => False) w w' := by
  have hl' : n ≤ 140737488355328 := by have := hl.out; rw [← hn.out] at this; exact this
  go_enter Try.func23, Try.ntmps23
  go_wp2
  go_loopw [5, 10] (fun x i wr => ∃ k : Nat, k ≤ n ∧ i = .int .i64 k ∧ Hid (x = .int .u32 (vi (crcUp (l.take k)))) ∧ Hid ((Blk wr w.heap.size 102 (onceCells 0 0) ∧ Blk wr (w.heap.size + 1) 103 (tblUp 0)) ∨ (Blk wr w.heap.size 102 (onceCells 1 0) ∧ Blk wr (w.heap.size + 1) 103 tblCells)) ∧ Hid (Chg (fun _ => False) w wr)) (fun _ i _ => n - (intOf i).toNat)
  case atStart =>
    have h1 := (Blk.new w #[.int .u32 0, .int .i32 0, .int .u32 0] 102).alloc (.cells (List.replicate 16 (Value.int .u32 0)).toArray 103)
    have h2 := Blk.new (w.alloc (.cells #[.int .u32 0, .int .i32 0, .int .u32 0] 102)) (List.replicate 16 (Value.int .u32 0)).toArray 103
    rw [show (w.alloc (.cells #[.int .u32 0, .int .i32 0, .int .u32 0] 102)).heap.size = w.heap.size + 1 by simp] at h2
    refine ⟨0, by omega, rfl, ?_, .inl ⟨h1, ?_⟩, ((Chg.refl _ w).alloc _).alloc _⟩
    · rw [Hid, List.take_zero]
      rfl
    · rw [tblUp_zero]
      exact h2
  case round =>
    obtain ⟨k, hk, rfl, hx, hB, HC⟩ := hrel
    by_cases hlt : k < n
    · obtain ⟨ad, rfl, hc⟩ := hr.out.below HC.out.done k (by rw [← hn.out]; exact hlt)
      have hkl : k < l.length := by rw [← hn.out]; exact hlt
      have hv := hb.out l[k] (List.getElem_mem _)
      have HKL := Lib.hid hkl
      have hx := hx.out
      subst hx
      generalize hxx : crcUp (l.take k) = x
      generalize hvv : l[k] = v at hc hv
      have HV := Lib.hid hvv
      have HX := Lib.hid hxx
      clear hxx hvv hkl
      obtain ⟨v0, v1⟩ := hv
      have E1 : IntKind.u32.wrap v = v := IntWalk.u32_in _ (by omega)
      obtain ⟨z0, z1, z2, t1, t2, n1, n2, g1, g2, L1, g3, g5, g6, L2, g7, g8, hz⟩ := crc_step x v0 v1
      have Z := Lib.hid hz
      clear hz
      rcases hB.out with ⟨k1, k2⟩ | ⟨k1, k2⟩
      · have O1 := Lib.hid k1; have T1 := Lib.hid k2
        clear k1 k2
        go_wp2_with (go_at_call 45; go_must (refine (doFirst w.heap.size (w.heap.size + 1) (by omega) _ O1 T1 (tblUp_length 0)).mono ?_); rintro e w5 ⟨rfl, k1, k2, k3⟩; have O2 := Lib.hid k1; have T2 := Lib.hid k2; have HC2 : Hid (Chg (fun _ => False) w w5) := HC.out.trans k3 (fun i hi h => by omega); clear k1 k2 k3; have q1 := T2.out.at_ g3; have q2 := T2.out.at_ g7)
        go_roundw
        case rel =>
          refine ⟨k + 1, by omega, by go_num, ?_, .inr ⟨O2.out, T2.out⟩, HC2.out⟩
          rw [Hid, List.take_succ_eq_append_getElem HKL.out, crcUp_snoc, HX.out]
          have hv' : l[k]'HKL.out = v := HV.out
          exact congrArg (Value.int .u32) (Z.out.trans (by rw [hv']))
        case measure => simp [intOf]; omega
      · have O1 := Lib.hid k1; have T1 := Lib.hid k2
        clear k1 k2
        go_wp2_with (go_at_call 45; go_must (refine (doDone w.heap.size _ _ O1).mono ?_); rintro e w5 ⟨rfl, rfl⟩; have O2 := O1; have T2 := T1; have HC2 := HC; have q1 := T2.out.at_ g3; have q2 := T2.out.at_ g7)
        go_roundw
        case rel =>
          refine ⟨k + 1, by omega, by go_num, ?_, .inr ⟨O2.out, T2.out⟩, HC2.out⟩
          rw [Hid, List.take_succ_eq_append_getElem HKL.out, crcUp_snoc, HX.out]
          have hv' : l[k]'HKL.out = v := HV.out
          exact congrArg (Value.int .u32) (Z.out.trans (by rw [hv']))
        case measure => simp [intOf]; omega
    · obtain rfl : k = n := by omega
      have hx := hx.out
      subst hx
      have hE := not_eq (crcUp (l.take k))
      go_wp2
      go_ret
      refine ⟨?_, HC.out⟩
      have ht : l.take k = l := List.take_of_length_le (by rw [← hn.out]; exact Nat.le_refl _)
      rw [ht]
      rfl
end Go.Proofs.Ytlnomadhgoblkaa.Kit
-- The journal: Record, Append.
set_option linter.unusedVariables false
set_option linter.unusedSimpArgs false
namespace Go.Proofs.Ytlnomadhgoblkaa.Kit
open Go.RowKit
/-- what Record answers of a place beyond the end -/
theorem jrecordNo (D : Nat → Prop) (g : Nat) (l : List SecV) (n : Nat) (i : Int) (w : World) (HN : Hid (n = l.length)) (hi : i < 0 ∨ (n : Int) ≤ i) (hj : Hid (Jn w D g l)) :
    Calls Try.prog 35 #[.pointer (some ⟨g, 0, none⟩), .int .i64 i] w fun e w' => e = .returned (.tuple #[.agg #[.int .i64 0, .slice none 0 0], .int .i64 2]) ∧ Chg (fun _ => False) w w' := by
  obtain ⟨vB, vR, vE, bs, hb, hv, h1, h2, h3, h4⟩ := hj.out.ex
  obtain ⟨AR, cR, hR, hcR, _⟩ := hv.recs.row.slice
  rw [← HN.out] at hR
  have c1 := hb.at_ (i := 1) rfl
  rw [hR] at c1
  have c1a : (w.alloc (.cells #[.int .i64 0, .slice none 0 0] 31)).cell? ⟨g, 1, none⟩ = some (.slice AR n cR) := ((Chg.refl (fun _ => False) w).alloc (.cells #[.int .i64 0, .slice none 0 0] 31)).cell (fun h => h) c1
  clear hR hb hv h1 h2 h3 h4 hcR
  rcases hi with hi | hi
  · go_enter Try.func35, Try.ntmps35
    go_wp2_with fail
    exact bodyPost_ret (v := .tuple #[.agg #[.int .i64 0, .slice none 0 0], .int .i64 2]) (by simp [results, Try.results35, go_sem]) rfl ⟨rfl, (Chg.refl _ w).alloc _⟩
  · have h0 : ¬ i < 0 := by have : (0 : Int) ≤ (n : Int) := Int.natCast_nonneg _; omega
    go_enter Try.func35, Try.ntmps35
    go_wp2_with fail
    exact bodyPost_ret (v := .tuple #[.agg #[.int .i64 0, .slice none 0 0], .int .i64 2]) (by simp [results, Try.results35, go_sem]) rfl ⟨rfl, (Chg.refl _ w).alloc _⟩
/-- what Record answers of the i-th -/
theorem jrecordOk (D : Nat → Prop) (g : Nat) (l : List SecV) (n i : Nat) (x : SecV) (w : World) (HN : Hid (n = l.length)) (hi : i < n) (hn : n ≤ 1073741824) (hx : Hid (l[i]? = some x)) (hxl : x.body.length ≤ 4194304) (hj : Hid (Jn w D g l)) :
    Calls Try.prog 35 #[.pointer (some ⟨g, 0, none⟩), .int .i64 i] w fun e w' => ∃ A m c, e = .returned (.tuple #[.agg #[.int .i64 x.id, .slice A m c], .int .i64 0]) ∧ OwnB w' (.slice A m c) x.body ∧ m = x.body.length ∧ Chg (fun _ => False) w w' ∧ ∀ k, Value.ownBlock (.slice A m c) = some k → w.heap.size ≤ k := by
  obtain ⟨vB, vR, vE, bs, hb, hv, h1, h2, h3, h4⟩ := hj.out.ex
  obtain ⟨AR, cR, hR, hcR, hmR⟩ := hv.recs.row.slice
  rw [← HN.out] at hR hcR
  have c1 := hb.at_ (i := 1) rfl
  rw [hR] at c1
  have hil : i < l.length := by rw [← HN.out]; exact hi
  have hib : i < bs.length := by rw [hv.recs.lenB]; exact hil
  have hxe : l[i] = x := by
    have := hx.out
    rw [List.getElem?_eq_getElem hil] at this
    injection this
  obtain ⟨g1, g2⟩ := tCells_get l bs i hil hib
  have hrow := hv.recs.row
  rw [hR, ← HN.out] at hrow
  obtain ⟨ad, e1, k1, _⟩ := hrow.cells _ _ _ rfl _ _ g1
  obtain ⟨ad', e2, k2, _⟩ := hrow.cells _ _ _ rfl _ _ g2
  rw [e1] at e2
  injection e2 with e2
  subst e2
  have hob := hv.recs.own i hil hib
  rw [hxe] at hob k1
  obtain ⟨Ab, cb, hbv, hcb, hmb⟩ := hob.slice
  obtain ⟨mb, hmbe⟩ : ∃ mb, mb = x.body.length := ⟨_, rfl⟩
  rw [← hmbe] at hbv
  rw [hbv] at k2 hob
  have k2' : w.cell? ⟨(ad.add (i * 2)).block, (ad.add (i * 2)).off + 1, none⟩ = some (.slice Ab mb cb) := by
    rw [show (⟨(ad.add (i * 2)).block, (ad.add (i * 2)).off + 1, none⟩ : Addr) = (ad.add (i * 2)).add 1 from rfl, Go.Deep.add_add]
    exact k2
  have HMB := Lib.hid hmbe
  have HOB := Lib.hid hob
  have hmb4 : mb ≤ 4194304 := by rw [hmbe]; exact hxl
  have b1 : (0 : Int) ≤ (i : Int) := by omega
  have b2 : (i : Int) < (n : Int) := by omega
  have old : ∀ {p : Addr} {v : Value} (o : Obj), w.cell? p = some v → (w.alloc o).cell? p = some v := fun o h => ((Chg.refl (fun _ => False) w).alloc o).cell (fun h => h) h
  have c1a := old (.cells #[.int .i64 0, .slice none 0 0] 31) c1
  have k1a := old (.cells #[.int .i64 0, .slice none 0 0] 31) k1
  have k2a := old (.cells #[.int .i64 0, .slice none 0 0] 31) k2'
  rw [e1] at c1a
  clear hbv hmbe hob k1 k2 k2' g1 g2 hrow hR hb hv h1 h2 h3 h4 c1 hil hib hxe e1 hcR old
  go_enter Try.func35, Try.ntmps35
  go_wp2_with fail
  obtain ⟨w2, hw2⟩ : ∃ w2, w2 = (w.alloc (.cells #[.int .i64 0, .slice none 0 0] 31)).alloc (.cells #[.int .i64 x.id, .slice Ab mb cb] 31) := ⟨_, rfl⟩
  obtain ⟨p, hp⟩ : ∃ p, p = w.heap.size := ⟨_, rfl⟩
  obtain ⟨q, hq⟩ : ∃ q, q = w.heap.size + 1 := ⟨_, rfl⟩
  have P2 : Hid (Blk w2 p 31 [.int .i64 0, .slice none 0 0]) := by rw [hw2, hp]; exact (Blk.new w _ _).alloc _
  have Q2 : Hid (Blk w2 q 31 [.int .i64 x.id, .slice Ab mb cb]) := by
    rw [hw2, hq]
    have := Blk.new (w.alloc (.cells #[.int .i64 0, .slice none 0 0] 31)) #[.int .i64 x.id, .slice Ab mb cb] 31
    rw [show (w.alloc (.cells #[.int .i64 0, .slice none 0 0] 31)).heap.size = w.heap.size + 1 by simp] at this
    exact this
  have C2 : Hid (Chg (fun _ => False) w w2) := by rw [hw2]; exact ((Chg.refl _ w).alloc _).alloc _
  have hpq : p ≠ q := by omega
  have HPQ : Hid (w.heap.size ≤ p ∧ w.heap.size ≤ q) := ⟨by omega, by omega⟩
  have r2 : Hid (Rd w2 .u8 Ab x.body) := (HOB.out.chg C2.out (fun _ _ h => h)).rd (by rw [HMB.out])
  rw [← hw2, ← hq, ← hp]
  clear hw2 hp hq
  refine (cloneB Ab mb cb x.body w2 HMB (by omega) r2).mono ?_
  rintro e w3 ⟨A3, n3, c3, rfl, m1⟩
  have O3 := Lib.hid m1.own
  have L3 := Lib.hid m1.len
  have C3 := Lib.hid m1.chg
  have F3 := Lib.hid m1.new
  have P3 := Lib.hid (P2.out.chg m1.chg (fun h => h))
  have Q3 := Lib.hid (Q2.out.chg m1.chg (fun h => h))
  have s1 := Q3.out.at_ (i := 1) rfl
  have s2 := Q3.out.frozen (i := 1) (by simp)
  have Q4 : Hid (Blk (w3.setCell ⟨q, 1, none⟩ (.slice A3 n3 c3)) q 31 [.int .i64 x.id, .slice A3 n3 c3]) := Q3.out.set 1 _
  have P4 : Hid (Blk (w3.setCell ⟨q, 1, none⟩ (.slice A3 n3 c3)) p 31 [.int .i64 0, .slice none 0 0]) := P3.out.set_other hpq _
  have t0 := Q4.out.at_ (i := 0) rfl
  have t1 := Q4.out.at_ (i := 1) rfl
  have p0 := P4.out.at_ (i := 0) rfl
  have p1 := P4.out.at_ (i := 1) rfl
  have fp0 := P4.out.frozen (i := 0) (by simp)
  have fp1 := P4.out.frozen (i := 1) (by simp)
  obtain ⟨w4, hw4⟩ : ∃ w4, w4 = w3.setCell ⟨q, 1, none⟩ (.slice A3 n3 c3) := ⟨_, rfl⟩
  have HW4 := Lib.hid hw4
  have P5 : Hid (Blk (((w3.setCell ⟨q, 1, none⟩ (.slice A3 n3 c3)).setCell ⟨p, 0, none⟩ (.int .i64 x.id)).setCell ⟨p, 1, none⟩ (.slice A3 n3 c3)) p 31 [.int .i64 x.id, .slice A3 n3 c3]) := (P4.out.set 0 _).set 1 _
  have z0 := P5.out.at_ (i := 0) rfl
  have z1 := P5.out.at_ (i := 1) rfl
  have pp1 := (P4.out.set 0 (.int .i64 x.id)).at_ (i := 1) rfl
  have pf1 := (P4.out.set 0 (.int .i64 x.id)).frozen (i := 1) (by simp)
  clear m1 hw4
  go_wp2_with fail
  refine bodyPost_ret (v := .tuple #[.agg #[.int .i64 x.id, .slice A3 n3 c3], .int .i64 0]) (by simp [results, Try.results35, go_sem, z0, z1]) rfl ⟨A3, n3, c3, rfl, ?_, L3.out, ?_, fun k hk => Nat.le_trans C2.out.size (F3.out k hk)⟩
  · refine O3.out.chg (S := fun y => y = p ∨ y = q) ((((Chg.refl _ w3).setCell (p := ⟨q, 1, none⟩) (fun _ => .inr rfl) _).setCell (p := ⟨p, 0, none⟩) (fun _ => .inl rfl) _).setCell (p := ⟨p, 1, none⟩) (fun _ => .inl rfl) _) (fun y hy h => ?_)
    rcases h with h | h
    · exact OwnV.type_ne O3.out P3.out (by decide) (by rw [hy, h])
    · exact OwnV.type_ne O3.out Q3.out (by decide) (by rw [hy, h])
  · have hpq2 := HPQ.out
    exact (((C2.out.trans C3.out (fun _ _ h => h)).setCell (p := ⟨q, 1, none⟩) (fun h => by simp at h; omega) _).setCell (p := ⟨p, 0, none⟩) (fun h => by simp at h; omega) _).setCell (p := ⟨p, 1, none⟩) (fun h => by simp at h; omega) _
end Go.Proofs.Ytlnomadhgoblkaa.Kit
-- The journal: Append.
set_option linter.unusedVariables false
set_option linter.unusedSimpArgs false
namespace Go.Proofs.Ytlnomadhgoblkaa.Kit
open Go.RowKit
theorem jnlFrom_len : ∀ (l : List SecV) (n : Nat), 8 * l.length ≤ (jnlFrom n l).length
  | [], _ => by simp
  | x :: xs, n => by
    have h1 := jnlFrom_len xs (n + 1)
    have h2 := recEnc_length n x
    have h3 := recHd_length n x
    have h4 := vb_pos n
    have h5 := vb_pos x.body.length
    rw [jnlFrom, List.length_append, List.length_cons]
    omega
theorem jnlBytes_len (l : List SecV) : 8 + 8 * l.length ≤ (jnlBytes l).length := by
  have := jnlFrom_len l 0
  rw [jnlBytes, List.length_append, show jhead.length = 8 from rfl]
  omega
/-- what Append answers; the records behind it -/
def jappRes (l : List SecV) (x : SecV) : Int × List SecV :=
  if x.id < 1 ∨ 255 < x.id then (1, l) else if 4194304 < x.body.length then (6, l) else if 268435456 < (jnlBytes l).length + (recEnc l.length x).length then (4, l) else (0, l ++ [x])
/-- what Append leaves -/
def RApp (D : Nat → Prop) (g : Nat) (l : List SecV) (R : Int × List SecV) (w : World) (e : Ending) (w' : World) : Prop :=
  e = .returned (.int .i64 R.1) ∧ ∃ D', Jn w' D' g R.2 ∧ (∀ y, D' y → D y ∨ w.heap.size ≤ y) ∧ Chg (fun y => y = g ∨ D y) w w'
theorem rapp_no {D : Nat → Prop} {g : Nat} {l : List SecV} {R : Int × List SecV} {z : Int} {w w' : World} (h : R = (z, l)) (hj : Jn w D g l) (c : Chg (fun _ => False) w w') : RApp D g l R w (.returned (.int .i64 z)) w' := by
  subst h
  exact ⟨rfl, D, hj.chg0 c, fun _ h => .inl h, c.mono fun _ _ h => h.elim⟩
set_option maxRecDepth 20000 in
set_option maxHeartbeats 6400000 in
theorem jappend {D : Nat → Prop} {g : Nat} {l : List SecV} {x : SecV} {R : Int × List SecV} {A : Option Addr} {m c : Nat} {w : World} (hR : Hid (jappRes l x = R)) (hj : Hid (Jn w D g l)) (hlen : Hid ((jnlBytes l).length ≤ 268435456)) (hm : Hid (m = x.body.length)) (hmc : m ≤ 140737488355328) (hb : Hid (Byt x.body)) (hr : Hid (Rd w .u8 A x.body)) (hk0 : -9223372036854775808 ≤ x.id) (hk1 : x.id ≤ 9223372036854775807) :
    Calls Try.prog 19 #[.pointer (some ⟨g, 0, none⟩), .agg #[.int .i64 x.id, .slice A m c]] w (RApp D g l R w) := by
  by_cases h1 : x.id < 1
  · have hE : Hid (R = (1, l)) := by rw [Hid, ← hR.out, jappRes, if_pos (.inl h1)]
    go_enter Try.func19, Try.ntmps19
    go_wp2_with fail
    go_ret
    exact rapp_no hE.out hj.out ((Chg.refl _ w).alloc _)
  · by_cases h2 : 255 < x.id
    · have hE : Hid (R = (1, l)) := by rw [Hid, ← hR.out, jappRes, if_pos (.inr h2)]
      go_enter Try.func19, Try.ntmps19
      go_wp2_with fail
      go_ret
      exact rapp_no hE.out hj.out ((Chg.refl _ w).alloc _)
    · by_cases h3 : 4194304 < m
      · have hE : Hid (R = (6, l)) := by rw [Hid, ← hR.out, jappRes, if_neg (by omega), if_pos (by rw [← hm.out]; exact h3)]
        go_enter Try.func19, Try.ntmps19
        go_wp2_with fail
        go_ret
        exact rapp_no hE.out hj.out ((Chg.refl _ w).alloc _)
      · obtain ⟨vB, vR, vE, bs, hbk, hv, d1, d2, d3, d4⟩ := hj.out.ex
        obtain ⟨AR, cR, hRv, hcR, _⟩ := hv.recs.row.slice
        obtain ⟨AB, cB, hBv, hcB, _⟩ := hv.bytes.slice
        obtain ⟨n, hn⟩ : ∃ n, n = l.length := ⟨_, rfl⟩
        obtain ⟨nb, hnb⟩ : ∃ nb, nb = (jnlBytes l).length := ⟨_, rfl⟩
        have hnl := jnlBytes_len l
        rw [← hn, ← hnb] at hnl
        have hnb2 : nb ≤ 268435456 := by rw [hnb]; exact hlen.out
        have hn25 : n ≤ 33554432 := by omega
        rw [← hn] at hRv
        rw [← hnb] at hBv
        have HN := Lib.hid hn
        have HNB := Lib.hid hnb
        have BK := Lib.hid hbk
        rw [hRv, hBv] at BK
        obtain ⟨wa, hwa⟩ : ∃ wa, wa = w.alloc (.cells #[.int .i64 x.id, .slice A m c] 31) := ⟨_, rfl⟩
        obtain ⟨h, hh⟩ : ∃ h, h = w.heap.size := ⟨_, rfl⟩
        have CA : Hid (Chg (fun _ => False) w wa) := by rw [hwa]; exact (Chg.refl _ w).alloc _
        have BX : Hid (Blk wa h 31 [.int .i64 x.id, .slice A m c]) := by rw [hwa, hh]; exact Blk.new _ _ _
        have HH := Lib.hid hh
        have HWA := Lib.hid hwa
        have h167 : Hid (OwnB (wa.alloc (.cells (nums .u8 [167]).toArray 5)) (.slice (some ⟨wa.heap.size, 0, none⟩) 1 1) [167]) := Own.lit wa _ .u8 [167] (by simp [maxLen])
        have CB : Hid (Chg (fun _ => False) wa (wa.alloc (.cells (nums .u8 [167]).toArray 5))) := (Chg.refl _ wa).alloc _
        have hwz : Hid (wa.heap.size = w.heap.size + 1) := by rw [hwa]; simp [Hid]
        have c1 : ((w.alloc (.cells #[.int .i64 x.id, .slice A m c] 31)).alloc (.cells #[.int .u8 167] 5)).cell? ⟨g, 1, none⟩ = some (.slice AR n cR) := by
          rw [← hwa]
          exact (CA.out.trans CB.out (fun _ _ h => h)).cell (fun h => h) (BK.out.at_ (i := 1) rfl)
        clear hRv hBv hbk hv d1 d2 d3 d4 hcR hcB hn hnb hnl hwa hh
        go_enter Try.func19, Try.ntmps19
        go_wp2_with fail
        rw [← hwz.out, ← HWA.out, ← HH.out]
        have hn0 : (0 : Int) ≤ (n : Int) := by omega
        have hvn : Hid ((vb n).length ≤ 10) := vb_len10 (by omega)
        refine (show Calls Try.prog 21 _ (wa.alloc (.cells (nums .u8 [167]).toArray 5)) _ from appendUint' (.slice (some ⟨wa.heap.size, 0, none⟩) 1 1) [167] (n : Int) _ hn0 h167 (by rw [Int.toNat_natCast]; have := hvn.out; simp; omega)).mono ?_
        rintro e w2 ⟨v2, rfl, k1, _, k3, k4⟩
        rw [Int.toNat_natCast] at k1
        obtain ⟨L2, hL2⟩ : ∃ L2, L2 = [167] ++ vb n := ⟨_, rfl⟩
        rw [← hL2] at k1
        obtain ⟨A2, c2, hv2, _, _⟩ := k1.slice
        obtain ⟨n2, hn2⟩ : ∃ n2, n2 = L2.length := ⟨_, rfl⟩
        have hn2b : n2 ≤ 11 := by
          have := hvn.out
          rw [hn2, hL2, List.length_append]
          simp
          omega
        rw [← hn2] at hv2
        subst hv2
        have HL2 := Lib.hid hL2
        have HN2 := Lib.hid hn2
        have O2 := Lib.hid k1
        have F2 : Hid (∀ y, Value.ownBlock (.slice A2 n2 c2) = some y → wa.heap.size ≤ y) := k4.ge (blk_ge (Nat.le_refl _)) CB.out.size
        have C2 : Hid (Chg (fun _ => False) wa w2) := CB.out.trans k3 (fun y hy hh => by have := blk_ge (b := wa.heap.size) (B := wa.heap.size) (Nat.le_refl _) y hh; omega)
        have HS : Hid (∀ W, Chg (fun _ => False) wa W → W.cell? ⟨h, 0, none⟩ = some (.int .i64 x.id) ∧ W.cell? ⟨h, 1, none⟩ = some (.slice A m c) ∧ (convert 29 9 (.slice A m c)).run Try.prog W = .ok (.string (strOf x.body)) W) := fun W hW =>
          ⟨(BX.out.chg hW id).at_ (i := 0) rfl, (BX.out.chg hW id).at_ (i := 1) rfl, conv_str W A m c x.body hm.out (hr.out.below (CA.out.trans hW (fun _ _ h => h)).done)⟩
        have E8 : IntKind.u8.wrap x.id = x.id := IntWalk.u8_in _ (by omega)
        have hsz : Hid ((strOf x.body).size = m) := by rw [Hid, strOf_size, hm.out]
        clear k1 k3 k4 hL2 hn2 c1
        go_wp2_with fail
        go_region_held3 (fun w' => w'.cell? ⟨h, 0, none⟩ = some (.int .i64 x.id) ∧ w'.cell? ⟨h, 1, none⟩ = some (.slice A m c) ∧ (convert 29 9 (.slice A m c)).run Try.prog w' = .ok (.string (strOf x.body)) w') (exact HS.out _ (by repeat (first | exact C2.out | exact C3.out | exact C4.out | refine Chg.drew ?_ | refine Chg.drewN ?_ _ | refine Chg.alloc ?_ _))) (first | ((refine st_appn rfl _ _ 29 5 .u8 1 rfl Try.underlying29 infoU8 (by decide) (.slice A2 n2 c2) L2 rfl (O2.out.chg (S := fun _ => False) (by repeat (first | exact Chg.refl _ _ | refine Chg.drew ?_ | refine Chg.drewN ?_ _ | refine Chg.alloc ?_ _)) (fun _ _ h => h)) (some ⟨w2.heap.size, 0, none⟩) 1 [x.id] 1 rfl rfl (rd_box1 x.id 5 (fun _ => rfl)) (by rw [← HN2.out]; simp; omega) ?_; intro v3 w3 k1 k2 k3 k4; obtain ⟨L3, hL3⟩ : ∃ L3, L3 = L2 ++ [x.id] := ⟨_, rfl⟩; rw [← hL3] at k1; obtain ⟨A3, c3, hv3, _, _⟩ := k1.slice; obtain ⟨n3, hn3⟩ : ∃ n3, n3 = L3.length := ⟨_, rfl⟩; rw [← hn3] at hv3; subst hv3; have HL3 := Lib.hid hL3; have HN3 := Lib.hid hn3; have O3 := Lib.hid k1; have C3 : Hid (Chg (fun _ => False) wa w3) := (show Chg (fun _ => False) wa _ from by repeat (first | exact C2.out | refine Chg.drew ?_ | refine Chg.drewN ?_ _ | refine Chg.alloc ?_ _)).trans k3 (fun y hy hh => by have := F2.out y hh; omega); have F3 : Hid (∀ y, Value.ownBlock (.slice A3 n3 c3) = some y → wa.heap.size ≤ y) := k4.ge F2.out (by have := C2.out.size; simp; omega); clear k1 k2 k3 k4 hL3 hn3)) | (go_at_call 22; refine (appendText (.slice A3 n3 c3) L3 (strOf x.body) _ (by rw [hsz.out]; omega) O3 (by rw [hsz.out, HL3.out, List.length_append, ← HN2.out]; simp; omega)).mono ?_; rintro e w4 ⟨v4, rfl, k1, _, k3, k4⟩; have K1 := Lib.hid k1; have C4 : Hid (Chg (fun _ => False) wa w4) := C3.out.trans k3 (fun y hy hh => by have := F3.out y hh; omega); have F4 : Hid (∀ y, v4.ownBlock = some y → wa.heap.size ≤ y) := k4.ge F3.out C3.out.size; clear k1 k3 k4))
        obtain ⟨H4, hH4⟩ : ∃ H4, H4 = recHd n x := ⟨_, rfl⟩
        have O4 : OwnB w4 v4 H4 := by
          have := K1.out
          rw [hsz.out, bytesOf_strOf hb.out, HL3.out, HL2.out, hm.out] at this
          rw [hH4, recHd]
          simpa [List.append_assoc] using this
        obtain ⟨A4, c4, hv4, _, _⟩ := O4.slice
        obtain ⟨n4, hn4⟩ : ∃ n4, n4 = H4.length := ⟨_, rfl⟩
        rw [← hn4] at hv4
        subst hv4
        have HN4 := Lib.hid hn4
        have O4h := Lib.hid O4
        have HG : Hid (GoodRec x) := ⟨h1, h2, by rw [← hm.out]; omega, hb.out⟩
        have hB4 : Hid (Byt H4) := by rw [hH4]; exact recHd_byt HG.out
        have hn4b : n4 ≤ 4194326 := by
          have e1 := vb_len10 (n := x.body.length) (by rw [← hm.out]; omega)
          have e2 := hvn.out
          rw [hn4, hH4, recHd_length, ← hm.out]
          rw [← hm.out] at e1
          omega
        have hl4 : Hid (H4.length ≤ 140737488355328) := by rw [Hid, ← hn4]; omega
        have R4 : Hid (Rd w4 .u8 A4 H4) := O4h.out.rd (by rw [HN4.out])
        have HH4 := Lib.hid hH4
        clear hH4 hn4 O4 K1
        go_wp2_with fail
        refine (crcCall A4 c4 n4 H4 w4 HN4 hB4 hl4 R4).mono ?_
        rintro e w5 ⟨rfl, k1⟩
        have C5 : Hid (Chg (fun _ => False) wa w5) := C4.out.trans k1 (fun _ _ h => h)
        have O5 := Lib.hid (O4h.out.chg k1 (fun _ _ h => h))
        have v0 := vi_nonneg (crc H4)
        have v1 := vi_lt (crc H4)
        obtain ⟨z, hz⟩ : ∃ z, vi (crc H4) = z := ⟨_, rfl⟩
        rw [hz] at v0 v1 ⊢
        have HZ := Lib.hid hz
        clear k1 hz
        go_wp2_with fail
        refine (sumBytes z w5 v0 v1).mono ?_
        rintro e w6 ⟨A6, c6, rfl, m1⟩
        have R6 : Hid (Rd w6 .u8 A6 (sumB z)) := m1.rd
        have C6 : Hid (Chg (fun _ => False) wa w6) := C5.out.trans m1.chg (fun _ _ h => h)
        have O6 := Lib.hid (O5.out.chg m1.chg (fun _ _ h => h))
        clear m1
        go_upto_region 8 with (at_builtin; go_must (refine wp_appn rfl _ _ 29 5 .u8 1 rfl Try.underlying29 infoU8 (by decide) (.slice A4 n4 c4) H4 rfl O6.out A6 c6 (sumB z) 4 rfl rfl R6.out (by rw [sumB_length, ← HN4.out]; omega) ?_); intro v7 w7 k1 k2 k3 k4; obtain ⟨A7, c7, hv7, hc7, _⟩ := k1.slice; obtain ⟨rB, hrB⟩ : ∃ rB, rB = H4 ++ sumB z := ⟨_, rfl⟩; rw [← hrB] at k1 hv7 hc7; obtain ⟨n7, hn7⟩ : ∃ n7, n7 = rB.length := ⟨_, rfl⟩; rw [← hn7] at hv7 hc7; subst hv7; have HRB := Lib.hid hrB; have HN7 := Lib.hid hn7; clear hrB hn7; have O7 := Lib.hid k1; have C7 : Hid (Chg (fun _ => False) wa w7) := C6.out.trans k3 (fun y hy hh => by have := F4.out y hh; omega); clear k1 k2 k3 k4; have e0 := (CA.out.trans C7.out (fun _ _ h => h)).cell (fun h => h) (BK.out.at_ (i := 0) rfl); go_frame)
        have hn7 : n7 = n4 + 4 := by rw [HN7.out, HRB.out, List.length_append, sumB_length, ← HN4.out]
        have hn7b : n7 ≤ 4194330 := by omega
        have hRE : Hid (rB = recEnc l.length x) := by rw [Hid, HRB.out, HH4.out, ← HZ.out, HH4.out, recEnc, HN.out]
        have HNE : Hid (n7 = (recEnc l.length x).length) := by rw [Hid, ← hRE.out]; exact HN7.out
        clear hn7
        by_cases hfull : 268435456 < nb + n7
        · have hE : Hid (R = (4, l)) := by rw [Hid, ← hR.out, jappRes, if_neg (by omega), if_neg (by rw [← hm.out]; exact h3), if_pos (by rw [← HNB.out, ← HNE.out]; exact hfull)]
          have hfi : (268435456 : Int) < (nb : Int) + (n7 : Int) := by omega
          clear hfull
          go_wp2_with fail
          go_ret
          exact rapp_no hE.out hj.out (CA.out.trans C7.out (fun _ _ h => h))
        · have hE : Hid (R = (0, l ++ [x])) := by rw [Hid, ← hR.out, jappRes, if_neg (by omega), if_neg (by rw [← hm.out]; exact h3), if_neg (by rw [← HNB.out, ← HNE.out]; exact hfull)]
          have hfi : ¬ (268435456 : Int) < (nb : Int) + (n7 : Int) := by omega
          have hJ7 := Lib.hid (hj.out.chg0 (CA.out.trans C7.out (fun _ _ h => h)))
          have r7 : Hid (Rd w7 .u8 A7 (recEnc l.length x)) := by rw [← hRE.out]; exact O7.out.rd (by rw [HN7.out])
          have hszs : Hid ((jnlBytes l).length + n7 ≤ 1073741824) := by rw [Hid, ← HNB.out]; omega
          have hll : l.length ≤ 1073741824 := by rw [← HN.out]; omega
          have HLL := Lib.hid hll
          have q0 := HS.out w7 C7.out
          have hr7 : Hid (∀ W, Chg (fun _ => False) wa W → Rd W .u8 A x.body) := fun W hW => hr.out.below (CA.out.trans hW (fun _ _ h => h)).done
          have hmx : m ≤ 140737488355328 := by omega
          clear hll hfull
          go_wp2_with fail
          go_region_held3 (fun w' => w'.cell? ⟨h, 0, none⟩ = some (.int .i64 x.id) ∧ w'.cell? ⟨h, 1, none⟩ = some (.slice A m c)) (first | exact ⟨B9.out.at_ (i := 0) rfl, B9.out.at_ (i := 1) rfl⟩ | exact ⟨(HS.out _ (by repeat (first | exact C7.out | exact C8.out | refine Chg.drew ?_ | refine Chg.drewN ?_ _ | refine Chg.alloc ?_ _))).1, (HS.out _ (by repeat (first | exact C7.out | exact C8.out | refine Chg.drew ?_ | refine Chg.drewN ?_ _ | refine Chg.alloc ?_ _))).2.1⟩) (first | (go_at_call 44; refine (cloneB A m c x.body _ hm hmx (hr7.out _ (by repeat (first | exact C7.out | refine Chg.drew ?_ | refine Chg.drewN ?_ _ | refine Chg.alloc ?_ _)))).mono ?_; rintro e w8 ⟨A8, n8, c8, rfl, m1⟩; have M8 := Lib.hid m1; have C78 : Hid (Chg (fun _ => False) w7 w8) := (show Chg (fun _ => False) w7 _ from by repeat (first | exact Chg.refl _ _ | refine Chg.drew ?_ | refine Chg.drewN ?_ _ | refine Chg.alloc ?_ _)).trans m1.chg (fun _ _ h => h); have C8 : Hid (Chg (fun _ => False) wa w8) := C7.out.trans C78.out (fun _ _ h => h); have J8 := Lib.hid (hJ7.out.chg0 C78.out); have r8 : Hid (Rd w8 .u8 A7 (recEnc l.length x)) := r7.out.below C78.out.done; have O8 := Lib.hid m1.own; have F8 : Hid (∀ y, Value.ownBlock (.slice A8 n8 c8) = some y → w7.heap.size ≤ y) := (fun y hy => Nat.le_trans (by simp) (m1.new y hy)); have hN8 : Hid (∀ y, Value.ownBlock (.slice A8 n8 c8) = some y → ¬ D y) := (fun y hy hd => by have t1 := m1.new y hy; have t2 := hJ7.out.size y hd; simp at t1; omega); clear m1) | (go_at_call 43; refine (jputI D g (.slice A8 n8 c8) l x A7 n7 c7 w8 J8 O8 hN8 HNE r8 hszs HLL.out).mono ?_; rintro e w9 ⟨rfl, k1, k2⟩; have J9 := Lib.hid k1; have C9 := Lib.hid k2; have B9 : Hid (Blk w9 h 31 [.int .i64 x.id, .slice A m c]) := (BX.out.chg C8.out id).chg k2 (fun hh => hh.elim (fun e => by have := hj.out.lt; have := HH.out; omega) (fun e => by have := hj.out.size _ e; have := HH.out; omega)); clear k1 k2))
          go_wp2_with fail
          go_ret
          rw [hE.out]
          refine ⟨rfl, _, J9.out, fun y hy => ?_, ?_⟩
          · rcases hy with hy | hy | hy
            · exact .inl hy
            · refine .inr ?_
              have h1 := F8.out y hy
              have h2 := C7.out.size
              have h3 := hwz.out
              omega
            · refine .inr ?_
              have h1 := C8.out.size
              have h3 := hwz.out
              omega
          · exact ((CA.out.trans C8.out (fun _ _ h => h)).mono (fun _ _ h => h.elim)).trans C9.out (fun _ _ h => h)
end Go.Proofs.Ytlnomadhgoblkaa.Kit
-- The document's reader: ahead.
set_option linter.unusedVariables false
set_option linter.unusedSimpArgs false
namespace Go.Proofs.Ytlnomadhgoblkaa.Kit
open Go.RowKit
/-- the number that the document reckons of the first n + 1 bytes -/
def wx (l : List Int) (n : Nat) : Int := val (l.take (n + 1)) % 18446744073709551616
theorem wx_range (l : List Int) (n : Nat) : 0 ≤ wx l n ∧ wx l n < 18446744073709551616 := by
  unfold wx
  omega
theorem ahead_ok {l : List Int} {n : Nat} {limit : Int} (hb : Byt l) (he : Ends l n) (hn : n < 10) :
    urd l limit = if vb (wx l n).toNat = l.take (n + 1) ∧ wx l n ≤ limit then (wx l n, n + 1, 0) else (0, 0, 42) := by
  have hr := wx_range l n
  have hlt := he.lt
  by_cases hv : vb (wx l n).toNat = l.take (n + 1)
  · have hl : l = vb (wx l n).toNat ++ l.drop (n + 1) := by rw [hv, List.take_append_drop]
    have hlen : (vb (wx l n).toNat).length = n + 1 := by rw [hv, List.length_take]; omega
    have h1 := vlp_vb (n := (wx l n).toNat) (by omega) (rest := l.drop (n + 1)) (fun z hz => hb z (List.mem_of_mem_drop hz))
    rw [← hl, hlen, Int.toNat_of_nonneg hr.1] at h1
    unfold urd
    rw [h1]
    by_cases hx : wx l n ≤ limit
    · have hx' : ¬ limit < wx l n := by omega
      simp [hv, hx, hx']
    · have hx' : limit < wx l n := by omega
      simp [hx, hx']
  · rw [if_neg (fun h => hv h.1)]
    rcases vlp_char l hb 10 0 (by omega) (by omega) (fun j _ hj => by omega) 0 (fun _ => by simp [val]) with ⟨m, hm, _, hz, h9, h'⟩ | ⟨m, hm, _, hbad, h'⟩ | ⟨hbig, h'⟩
    · exfalso
      obtain rfl := hm.unique he
      have h2 := vlp_form hb h'
      have h3 := vlp_range 10 l 0 0
      rw [h'] at h3
      simp only at h3
      refine hv ?_
      have e : wx l m = val (l.take (m + 1)) := by unfold wx; omega
      rw [e, ← h2.1]
      congr 1
    · unfold urd
      rw [h']
      simp
    · exfalso
      have := hbig n hlt hn
      have := he.small hlt
      omega
theorem ahead_none {l : List Int} {limit : Int} (hb : Byt l) (hbig : ∀ j, (h : j < l.length) → j < 10 → 127 < l[j]) : urd l limit = (0, 0, if l.length < 10 then 41 else 42) := by
  rcases vlp_char l hb 10 0 (by omega) (by omega) (fun j _ hj => by omega) 0 (fun _ => by simp [val]) with ⟨m, hm, h10, hz, h9, h'⟩ | ⟨m, hm, h10, hbad, h'⟩ | ⟨_, h'⟩
  · have := hbig m hm.lt h10
    have := hm.small hm.lt
    omega
  · have := hbig m hm.lt h10
    have := hm.small hm.lt
    omega
  · unfold urd
    rw [h']
    split <;> simp
theorem val_drop (l : List Int) (i : Nat) (h : i < l.length) : val (l.drop i) = l[i] % 128 + 128 * val (l.drop (i + 1)) := by
  rw [List.drop_eq_getElem_cons h, val]
theorem wx_step (l : List Int) (n i : Nat) (hi : i ≤ n) (h : i < l.length) : IntKind.u64.wrap (IntKind.u64.wrap (val ((l.take (n + 1)).drop (i + 1)) % 18446744073709551616 * 128) + l[i] % 128) = val ((l.take (n + 1)).drop i) % 18446744073709551616 := by
  have hl : i < (l.take (n + 1)).length := by rw [List.length_take]; omega
  have e := val_drop (l.take (n + 1)) i hl
  rw [List.getElem_take] at e
  rw [e, IntKind.wrap_u64, IntKind.wrap_u64]
  omega
set_option maxRecDepth 20000 in
set_option maxHeartbeats 1600000 in
theorem ahead (A : Option Addr) (c n : Nat) (l : List Int) (limit : Int) (w : World) (hn : Hid (n = l.length)) (hb : Hid (Byt l)) (hl : Hid (l.length ≤ 140737488355328)) (hr : Hid (Rd w .u8 A l)) :
    Calls Try.prog 91 #[.slice A n c, .int .u64 limit] w fun e w' => e = .returned (.tuple #[.int .u64 (urd l limit).1, .int .i64 (urd l limit).2.1, .int .i64 (urd l limit).2.2]) ∧ Chg (fun _ => False) w w' := by
  have hl' : n ≤ 140737488355328 := by have := hl.out; rw [← hn.out] at this; exact this
  go_enter Try.func91, Try.ntmps91
  go_wp2
  go_loop [7] (fun i => ∃ k : Nat, k ≤ n ∧ k ≤ 10 ∧ i = .int .i64 k ∧ Hid (∀ j, (h : j < l.length) → j < k → 127 < l[j])) (fun i => n - (intOf i).toNat)
  case atStart => exact ⟨0, by omega, by omega, rfl, fun j _ h => absurd h (by omega)⟩
  case round =>
    obtain ⟨k, hk, hk10, rfl, hbig⟩ := hrel
    by_cases hkn : k = n
    · subst hkn
      have hs := ahead_none (limit := limit) hb.out (fun j h hj => hbig.out j h (by rw [hn.out]; exact h))
      rw [← hn.out] at hs
      by_cases h10 : k = 10
      · subst h10
        have HS := Lib.hid hs
        clear hs
        go_wp2
        go_ret3
        exact ⟨by rw [HS.out]; rfl, Chg.refl _ _⟩
      · have h10' : ((k : Int) == 10) = false := by simp; omega
        rw [if_pos (by omega)] at hs
        have HS := Lib.hid hs
        clear hs
        go_wp2
        go_ret3
        exact ⟨by rw [HS.out]; rfl, Chg.refl _ _⟩
    · by_cases hk9 : k = 10
      · subst hk9
        have hs := ahead_none (limit := limit) hb.out (fun j h hj => hbig.out j h hj)
        rw [← hn.out, if_neg (by omega)] at hs
        have HS := Lib.hid hs
        clear hs
        have hlt : 10 < n := by omega
        go_wp2
        go_ret3
        exact ⟨by rw [HS.out]; rfl, Chg.refl _ _⟩
      · have hkl : k < l.length := by rw [← hn.out]; omega
        obtain ⟨ad, rfl, hc⟩ := hr.out k hkl
        have hkn' : k < n := by omega
        have hk9' : k < 10 := by omega
        have HKL := Lib.hid hkl
        by_cases hbg : 127 < l[k]
        · have HBG := Lib.hid hbg
          generalize hv : l[k] = v at hc hbg
          have h128 : decide ((128 : Int) ≤ v) = true := by simp; omega
          have h128' : (128 : Int) ≤ v := by omega
          clear hkl hv hbg
          go_wp2
          go_round
          case rel => exact ⟨k + 1, by omega, by omega, by go_num, fun j h hj => by
            by_cases e : j = k
            · subst e
              exact HBG.out
            · exact hbig.out j h (by omega)⟩
          case measure => simp [intOf]; omega
        · have he : Ends l k := ⟨hkl, fun _ => by omega, hbig.out⟩
          have HE := Lib.hid he
          generalize hv : l[k] = v at hc hbg
          have h128 : decide ((128 : Int) ≤ v) = false := by simp; omega
          have h128' : ¬ (128 : Int) ≤ v := by omega
          have h10' : ((k : Int) == 10) = false := by simp; omega
          have hkn'' : ((k : Int) == (n : Int)) = false := by simp; omega
          clear hkl hv he
          go_wp2
          have HX := Lib.hid (wx_range l k)
          go_loop [8, 9] (fun x q => ∃ i : Nat, i ≤ k + 1 ∧ q = .int .i64 ((i : Int) - 1) ∧ Hid (x = .int .u64 (val ((l.take (k + 1)).drop i) % 18446744073709551616))) (fun _ q => (intOf q + 1).toNat)
          case atStart => exact ⟨k + 1, by omega, by go_num, by rw [Hid, List.drop_of_length_le (by rw [List.length_take]; omega)]; rfl⟩
          case round =>
            obtain ⟨i, hi, rfl, hx⟩ := hrel
            have hx := hx.out
            subst hx
            by_cases hi0 : i = 0
            · subst hi0
              have e0 : val ((l.take (k + 1)).drop 0) % 18446744073709551616 = wx l k := by rw [List.drop_zero]; rfl
              rw [e0]
              clear e0
              generalize hX : wx l k = X at HX
              have HXX := Lib.hid hX
              clear hX
              obtain ⟨x0, x1⟩ := HX.out
              go_wp2_with fail
              refine (varintRef X w x0 (by omega)).mono ?_
              rintro e w1 ⟨A1, n1, c1, rfl, m1⟩
              have M1 := Lib.hid m1
              clear m1
              have hok := ahead_ok (limit := limit) hb.out HE.out hk9'
              rw [HXX.out] at hok
              have HO := Lib.hid hok
              clear hok
              have hML := M1.out.len
              by_cases hlen : n1 = k + 1
              · have HLEN := Lib.hid hlen
                by_cases hlim : limit < X
                · have HLIM := Lib.hid hlim
                  have ht : ((n1 : Int) != (k : Int) + 1) = false := by simp; omega
                  clear hlen hML
                  go_wp2_with fail
                  go_ret3
                  exact ⟨by rw [HO.out, if_neg (fun h => by have := HLIM.out; omega)]; rfl, M1.out.chg⟩
                · have HLIM := Lib.hid hlim
                  have ht : ((n1 : Int) != (k : Int) + 1) = false := by simp; omega
                  have ht2 : decide (limit < X) = false := by simp; omega
                  have hn1 : n1 ≤ n := by omega
                  have HML := Lib.hid hML
                  have R1 : Hid (Rd w1 .u8 A1 (vb X.toNat)) := M1.out.rd
                  have R2 : Hid (Rd w1 .u8 (some ad) l) := hr.out.below M1.out.chg.done
                  clear hlen hML
                  go_wp2_with fail
                  go_loopw [11] (fun i wr => ∃ j : Nat, j ≤ n1 ∧ i = .int .i64 j ∧ Hid ((vb X.toNat).take j = l.take j) ∧ ∃ q, wr = w1.drewN q) (fun i _ => n1 - (intOf i).toNat)
                  case atStart => exact ⟨0, Nat.zero_le _, rfl, rfl, 0, rfl⟩
                  case round =>
                    obtain ⟨j, hj, rfl, ht3, q, rfl⟩ := hrel
                    by_cases hjn : j < n1
                    · have g1 : j < (vb X.toNat).length := by rw [← HML.out]; exact hjn
                      have g2 : j < l.length := by rw [← hn.out]; omega
                      obtain ⟨a1, rfl, hc1⟩ := R1.out j g1
                      obtain ⟨a2, e2, hc3⟩ := R2.out j g2
                      injection e2 with e2
                      subst e2
                      have d1 : (0 : Int) ≤ (j : Int) := by omega
                      have d2 : (j : Int) < (n1 : Int) := by omega
                      have d3 : (j : Int) < (n : Int) := by omega
                      have G1 := Lib.hid g1
                      have G2 := Lib.hid g2
                      by_cases heq : (vb X.toNat)[j] = l[j]
                      · have HEQ := Lib.hid heq
                        have heq' : ((vb X.toNat)[j] != l[j]) = false := by simp [heq]
                        generalize (vb X.toNat)[j] = p1 at hc1 heq'
                        generalize l[j] = p2 at hc3 heq'
                        clear heq g1 g2
                        go_wp2_with fail
                        go_quiet (fail)
                        go_wp2
                        go_roundw
                        case rel => exact ⟨j + 1, by omega, by go_num, take_next ht3.out G1.out G2.out HEQ.out, _, rfl⟩
                        case measure => simp [intOf]; omega
                      · have HEQ := Lib.hid heq
                        have heq' : ((vb X.toNat)[j] != l[j]) = true := by simp [heq]
                        generalize (vb X.toNat)[j] = p1 at hc1 heq'
                        generalize l[j] = p2 at hc3 heq'
                        clear heq g1 g2
                        go_wp2_with fail
                        go_quiet (fail)
                        go_wp2
                        go_ret3
                        refine ⟨?_, (M1.out.chg.drewN _).drewN _⟩
                        rw [HO.out, if_neg]
                        · rfl
                        · rintro ⟨h, _⟩
                          refine HEQ.out ?_
                          have : (vb X.toNat)[j]'G1.out = (l.take (k + 1))[j]'(by rw [← h]; exact G1.out) := by congr 1
                          exact this.trans List.getElem_take
                    · obtain rfl : j = n1 := by omega
                      go_wp2_with fail
                      go_ret3
                      refine ⟨?_, M1.out.chg.drewN _⟩
                      have h3 := ht3.out
                      rw [List.take_of_length_le (by rw [← HML.out]; exact Nat.le_refl _), HLEN.out] at h3
                      rw [HO.out, if_pos ⟨h3, by have := HLIM.out; omega⟩]
                      rfl
              · have ht : ((n1 : Int) != (k : Int) + 1) = true := by simp; omega
                have HKL2 := HKL.out
                have HNE : Hid (vb X.toNat ≠ l.take (k + 1)) := fun h => by
                  have := congrArg List.length h
                  rw [List.length_take] at this
                  omega
                clear hlen hML
                go_wp2_with fail
                go_ret3
                exact ⟨by rw [HO.out, if_neg (fun h => HNE.out h.1)]; rfl, M1.out.chg⟩
            · obtain ⟨i, rfl⟩ : ∃ j, i = j + 1 := ⟨i - 1, by omega⟩
              have hil : i < l.length := by have := HKL.out; omega
              obtain ⟨ad2, e2, hc2⟩ := hr.out i hil
              injection e2 with e2
              subst e2
              have hst := wx_step l k i (by omega) hil
              have hby := hb.out l[i] (List.getElem_mem hil)
              generalize l[i] = u at hc2 hst hby
              obtain ⟨u0, u1⟩ := hby
              have HST := Lib.hid hst
              have hq : ((i + 1 : Nat) : Int) - 1 = (i : Int) := by omega
              rw [hq]
              have b1 : (0 : Int) ≤ (i : Int) := by omega
              have b2 : (i : Int) < (n : Int) := by omega
              have E1 : IntKind.u64.wrap (u % 128) = u % 128 := IntWalk.u64_in _ (by omega)
              generalize val ((l.take (k + 1)).drop (i + 1)) % 18446744073709551616 = X at HST
              clear hst
              go_wp2
              go_round
              case rel => exact ⟨i, by omega, by go_num, by rw [Hid, ← HST.out]⟩
              case measure => simp [intOf]
end Go.Proofs.Ytlnomadhgoblkaa.Kit
-- The document's reader: NewReader, Place, Left, Unzig.
set_option linter.unusedVariables false
set_option linter.unusedSimpArgs false
namespace Go.Proofs.Ytlnomadhgoblkaa.Kit
open Go.RowKit
/-- a slice of bytes that is read, as a value -/
structure RdV (w : World) (v : Value) (l : List Int) : Prop where
  slice : ∃ A c, v = .slice A l.length c ∧ l.length ≤ c ∧ c ≤ maxLen
  all : ∀ A n c, v = .slice A n c → Rd w .u8 A l
namespace RdV
variable {w w1 : World} {v : Value} {l : List Int}
theorem rd (h : RdV w v l) {A : Option Addr} {c : Nat} (hv : v = .slice A l.length c) : Rd w .u8 A l := h.all _ _ _ hv
theorem chg {S : Nat → Prop} (h : RdV w v l) (c : Chg S w w1) (hS : ∀ k, v.ownBlock = some k → ¬ S k) : RdV w1 v l :=
  ⟨h.slice, fun A n c0 hv => (h.all A n c0 hv).chg c fun ad e _ => hS _ (by rw [hv, e]; rfl)⟩
theorem drewN (h : RdV w v l) (n : Nat) : RdV (w.drewN n) v l := ⟨h.slice, h.all⟩
theorem alloc (h : RdV w v l) (o : Obj) : RdV (w.alloc o) v l := h.chg (S := fun _ => False) ((Chg.refl _ w).alloc o) (fun _ _ h => h)
end RdV
theorem Own.rdV {w : World} {v : Value} {l : List Int} (h : OwnB w v l) : RdV w v l := ⟨h.slice, rd_of_own h⟩
/-- the document's reader of l, at at_, in block g; its bytes lie in v -/
structure RdrF (w : World) (g : Nat) (v : Value) (l : List Int) (at_ : Nat) : Prop where
  blk : Blk w g 153 [v, .int .i64 at_]
  own : RdV w v l
  le : at_ ≤ l.length
  bound : l.length ≤ 140737488355328
  ne : v.ownBlock ≠ some g
namespace RdrF
variable {w w1 : World} {g : Nat} {v : Value} {l : List Int} {at_ : Nat}
theorem chg {S : Nat → Prop} (h : RdrF w g v l at_) (c : Chg S w w1) (hg : ¬ S g) (hv : ∀ k, v.ownBlock = some k → ¬ S k) : RdrF w1 g v l at_ := ⟨h.blk.chg c hg, h.own.chg c hv, h.le, h.bound, h.ne⟩
theorem drewN (h : RdrF w g v l at_) (n : Nat) : RdrF (w.drewN n) g v l at_ := ⟨h.blk, h.own.drewN n, h.le, h.bound, h.ne⟩
theorem move (h : RdrF w g v l at_) {n : Nat} (hn : n ≤ l.length) : RdrF (w.setCell ⟨g, 1, none⟩ (.int .i64 n)) g v l n :=
  ⟨h.blk.set 1 _, h.own.chg ((Chg.refl (· = g) w).setCell (p := ⟨g, 1, none⟩) (fun _ => rfl) _) (fun k hk e => h.ne (by rw [hk, e])), hn, h.bound, h.ne⟩
end RdrF
theorem newReaderF {A : Option Addr} {n c : Nat} {l : List Int} {w : World} (hn : Hid (n = l.length)) (hl : Hid (l.length ≤ 140737488355328)) (hr : Hid (Rd w .u8 A l)) :
    Calls Try.prog 78 #[.slice A n c] w fun e w' => ∃ g v, e = .returned (.pointer (some ⟨g, 0, none⟩)) ∧ RdrF w' g v l 0 ∧ w.heap.size ≤ g ∧ (∀ k, v.ownBlock = some k → w.heap.size ≤ k) ∧ Chg (fun _ => False) w w' := by
  go_enter Try.func78, Try.ntmps78
  go_wp2_with fail
  refine (joined A none c 0 n 0 l [] w hn (show Hid _ from rfl) (by simpa using hl) hr (Rd.nil _ _ _)).mono ?_
  rintro e w1 ⟨A1, n1, c1, rfl, m1⟩
  rw [List.append_nil] at m1
  have M1 := Lib.hid m1
  clear m1
  go_wp2_with fail
  go_ret
  refine ⟨w1.heap.size, _, rfl, ⟨Blk.new w1 _ _, (Own.rdV M1.out.own).alloc _, Nat.zero_le _, hl.out, fun e => Nat.lt_irrefl _ (M1.out.own.lt _ e)⟩, M1.out.chg.size, M1.out.new, M1.out.chg.alloc _⟩
theorem placeF (g : Nat) (v : Value) (l : List Int) (at_ : Nat) (w : World) (h : Hid (RdrF w g v l at_)) :
    Calls Try.prog 81 #[.pointer (some ⟨g, 0, none⟩)] w fun e w' => e = .returned (.int .i64 at_) ∧ w = w' := by
  have h1 := h.out.blk.at_ (i := 1) rfl
  go_enter Try.func81, Try.ntmps81
  go_wp2
  go_ret
  exact ⟨rfl, rfl⟩
end Go.Proofs.Ytlnomadhgoblkaa.Kit
-- The document's reader: Uint.
set_option linter.unusedVariables false
set_option linter.unusedSimpArgs false
namespace Go.Proofs.Ytlnomadhgoblkaa.Kit
open Go.RowKit
theorem urd_nle (l : List Int) (limit : Int) : (urd l limit).2.1 ≤ l.length := by
  rcases urd_cases l limit with ⟨x, n, _, _, _, _, h, hu⟩ | ⟨x, n, _, _, _, _, hu⟩ | ⟨x, n, er, _, _, hu⟩ <;> rw [hu] <;> simp <;> omega
theorem uintF_end {g : Nat} {v : Value} {l : List Int} {at_ a2 n : Nat} {w w1 : World} (h : RdrF w g v l at_) (k : Chg (fun _ => False) w.drew w1) (ha : at_ + n = a2) (hn : n ≤ l.length - at_) : RdrF (w1.setCell ⟨g, 1, none⟩ (.int .i64 ((at_ : Int) + n))) g v l a2 ∧ Chg (· = g) w (w1.setCell ⟨g, 1, none⟩ (.int .i64 ((at_ : Int) + n))) := by
  subst ha
  have hc : Chg (fun _ => False) w w1 := ((Chg.refl _ w).drew).trans k (fun _ _ h => h)
  have := h.le
  have hz : ((at_ : Int) + n) = ((at_ + n : Nat) : Int) := by omega
  rw [hz]
  exact ⟨(h.chg hc id (fun _ _ => id)).move (by omega), (hc.mono (fun _ _ h => h.elim)).setg 1 _⟩
set_option maxRecDepth 20000 in
set_option maxHeartbeats 1600000 in
theorem uintF {g : Nat} {v : Value} {l : List Int} {at_ : Nat} {limit : Int} {w : World} {x er : Int} {n a2 : Nat} (hu : Hid (urd (l.drop at_) limit = (x, n, er))) (ha : Hid (at_ + n = a2)) (hb : Hid (Byt l)) (h : Hid (RdrF w g v l at_)) :
    Calls Try.prog 80 #[.pointer (some ⟨g, 0, none⟩), .int .u64 limit] w fun e w' => e = .returned (.tuple #[.int .u64 x, .int .i64 er]) ∧ RdrF w' g v l a2 ∧ Chg (· = g) w w' := by
  obtain ⟨A, c, rfl, hc, _⟩ := h.out.own.slice
  have h0 := h.out.blk.at_ (i := 0) rfl
  have h1 := h.out.blk.at_ (i := 1) rfl
  have h2 := h.out.le
  have h3 := h.out.bound
  have c1 : (0 : Int) ≤ (at_ : Int) := by omega
  have c2 : (at_ : Int) ≤ (l.length : Int) := by omega
  have c3 : (l.length : Int) ≤ (c : Int) := by omega
  have hrd := Lib.hid (h.out.own.rd rfl)
  have HB : Hid (Byt (l.drop at_)) := fun z hz => hb.out z (List.mem_of_mem_drop hz)
  have HLE : Hid ((l.drop at_).length ≤ 140737488355328) := by rw [Hid, List.length_drop]; omega
  have HD : Hid (l.length - at_ = (l.drop at_).length) := by rw [Hid, List.length_drop]
  have hnl : Hid (n ≤ l.length - at_) := by
    have := urd_nle (l.drop at_) limit
    rw [hu.out, List.length_drop] at this
    exact this
  have hf1 : Hid (∀ W, Chg (fun _ => False) w.drew W → W.frozen? ⟨g, 1, none⟩ = false) := fun W hW => (h.out.blk.drew.chg hW id).frozen (i := 1) (by simp)
  have E1 : IntKind.i64.wrap ((at_ : Int) + (n : Int)) = (at_ : Int) + (n : Int) := IntWalk.i64_in _ (by have := hnl.out; omega)
  by_cases hca : c = at_
  · have HR : Hid (∀ W : World, Rd W .u8 A (l.drop at_)) := fun W => by
      rw [List.drop_eq_nil_of_le (by omega)]
      exact Rd.nil _ _ _
    have HD0 : Hid (0 = (l.drop at_).length) := by rw [Hid, List.length_drop]; omega
    subst hca
    go_enter Try.func80, Try.ntmps80
    go_wp2_with fail
    go_region_held3 (fun w' => w'.cell? ⟨g, 0, none⟩ = some (.slice A l.length c) ∧ w'.cell? ⟨g, 1, none⟩ = some (.int .i64 c)) (first | exact ⟨h0, h1⟩ | go_keep | exact ⟨K1.out.cell id (by go_keep), K1.out.cell id (by go_keep)⟩) (first | (go_at_call 91; refine (ahead _ _ _ (l.drop c) limit _ HD0 HB HLE (HR.out _)).mono ?_; rintro e w1 ⟨rfl, k1⟩; rw [hu.out] at *; have K1 := Lib.hid k1; clear k1))
    have q1 : w1.cell? ⟨g, 1, none⟩ = some (.int .i64 c) := K1.out.cell id h1
    have q2 := hf1.out _ K1.out
    go_wp2
    go_ret2
    obtain ⟨r1, r2⟩ := uintF_end h.out K1.out ha.out hnl.out
    exact ⟨rfl, r1, r2⟩
  · have HR : Hid (∀ W, Chg (fun _ => False) w W → Rd W .u8 (A.map (·.add at_)) (l.drop at_)) := fun W hW => rd_from (hrd.out.chg hW (fun _ _ _ => id)) at_
    go_enter Try.func80, Try.ntmps80
    go_wp2_with fail
    go_region_held3 (fun w' => w'.cell? ⟨g, 0, none⟩ = some (.slice A l.length c) ∧ w'.cell? ⟨g, 1, none⟩ = some (.int .i64 at_)) (first | exact ⟨h0, h1⟩ | go_keep | exact ⟨K1.out.cell id (by go_keep), K1.out.cell id (by go_keep)⟩) (first | (go_at_call 91; refine (ahead _ _ _ (l.drop at_) limit _ HD HB HLE (HR.out _ (by repeat (first | exact Chg.refl _ _ | refine Chg.drew ?_ | refine Chg.drewN ?_ _)))).mono ?_; rintro e w1 ⟨rfl, k1⟩; rw [hu.out] at *; have K1 := Lib.hid k1; clear k1))
    have q1 : w1.cell? ⟨g, 1, none⟩ = some (.int .i64 at_) := K1.out.cell id h1
    have q2 := hf1.out _ K1.out
    go_wp2
    go_ret2
    obtain ⟨r1, r2⟩ := uintF_end h.out K1.out ha.out hnl.out
    exact ⟨rfl, r1, r2⟩
theorem leftF {g : Nat} {v : Value} {l : List Int} {at_ : Nat} {w : World} {z : Int} (hz : Hid ((l.length : Int) - at_ = z)) (h : Hid (RdrF w g v l at_)) :
    Calls Try.prog 90 #[.pointer (some ⟨g, 0, none⟩)] w fun e w' => e = .returned (.int .i64 z) ∧ ∃ n, w' = w.drewN n := by
  obtain ⟨A, c, rfl, hc, _⟩ := h.out.own.slice
  have h0 := h.out.blk.at_ (i := 0) rfl
  have h1 := h.out.blk.at_ (i := 1) rfl
  have h2 := h.out.le
  have h3 := h.out.bound
  rw [← hz.out]
  go_enter Try.func90, Try.ntmps90
  go_wp2_with fail
  go_quiet (fail)
  go_wp2
  go_ret
  exact ⟨rfl, _, rfl⟩
end Go.Proofs.Ytlnomadhgoblkaa.Kit
