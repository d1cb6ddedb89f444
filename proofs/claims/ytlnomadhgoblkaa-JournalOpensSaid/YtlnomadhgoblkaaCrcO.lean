/- sync.Once.Do with the checksum's closure. -/
import Derived.Test.YtlnomadhgoblkaaOnce
import Derived.Test.YtlnomadhgoblkaaCrcH
import Derived.Laws.NewBlocks
set_option linter.unusedVariables false
set_option linter.unusedSimpArgs false
namespace Go.Proofs.Ytlnomadhgoblkaa.Kit
open Go.RowKit
/-- the closure: the table is laid -/
theorem crcFn (g : Nat) (w : World) {cur : List Value} (hb : Hid (Blk w g 103 cur)) (hl : cur.length = 16) :
    Calls Try.prog 46 #[.pointer (some ⟨g, 0, none⟩)] w fun e w' => e = .returned (.tuple #[]) ∧ Blk w' g 103 tblCells ∧ Chg (· = g) w w' := by
  have HL := Lib.hid hl
  go_enter Try.func46, Try.ntmps46
  go_wp2_with (first | (go_at_call 47; go_must (refine (halves _).mono ?_); rintro e w1 ⟨rfl, k1⟩; have K1 := Lib.hid k1; clear k1; have hb1 : Hid (Blk w1 g 103 cur) := hb.out.chg K1.out id) | ((with_reducible refine gate_store ?_); go_must (refine wp_storeB rfl _ _ _ rfl g tblCells rfl rfl hb1.out (by rw [← tblUp_full, tblUp_length]; exact sizeTbl) (by rw [← tblUp_full, tblUp_length]; exact HL.out) (by rw [← tblUp_full]; exact tblUp_one 16) ?_); intro w5 k1 k2; have K5 := Lib.hid k1; have K6 := Lib.hid k2; clear k1 k2))
  go_end0
  exact ⟨rfl, K5.out, (K1.out.mono (fun _ _ h => h.elim)).trans K6.out (fun _ _ h => h)⟩
/-- the cells of a Once: done, the lock's state, its semaphore -/
def onceCells (d m : Int) : List Value := [.int .u32 d, .int .i32 m, .int .u32 0]
theorem once_set1 (d m z : Int) : (onceCells d m).set 1 (.int .i32 z) = onceCells d z := rfl
theorem once_set0 (d m z : Int) : (onceCells d m).set 0 (.int .u32 z) = onceCells z m := rfl
theorem boolLoad (a : Addr) (x : Int) (b : Bool) (w : World) (hb : (x != 0) = b) (h0 : w.cell? a = some (.int .u32 x)) :
    Calls Try.prog 61 #[.pointer (some a)] w fun e w' => e = .returned (.bool b) ∧ w = w' := by
  have hl := run_call_load (P := Try.prog) Try.func70 (by kernel_rfl) (by kernel_rfl) (by kernel_rfl) .u32 (by kernel_rfl) h0
  go_enter Try.func61, Try.ntmps61
  go_wp2
  go_ret
  exact ⟨rfl, rfl⟩
set_option maxRecDepth 100000 in
set_option maxHeartbeats 1600000 in
/-- doSlow, not yet done, the lock free -/
theorem slow (g gt : Nat) (hne : g ≠ gt) (w : World) {cur : List Value} (ho : Hid (Blk w g 102 (onceCells 0 0))) (ht : Hid (Blk w gt 103 cur)) (hl : cur.length = 16) :
    Calls Try.prog 62 #[.pointer (some ⟨g, 0, none⟩), .func (.func 46) #[] #[.pointer (some ⟨gt, 0, none⟩)]] w fun e w' => e = .returned (.tuple #[]) ∧ Blk w' g 102 (onceCells 1 0) ∧ Blk w' gt 103 tblCells ∧ Chg (fun i => i = g ∨ i = gt) w w' := by
  have h0 := ho.out.at_ (i := 0) rfl
  have h1 := ho.out.at_ (i := 1) rfl
  have f0 := ho.out.frozen (i := 0) (by simp [onceCells])
  have f1 := ho.out.frozen (i := 1) (by simp [onceCells])
  have ho1 : Hid (Blk (w.setCell ⟨g, 1, none⟩ (.int .i32 1)) g 102 (onceCells 0 1)) := ho.out.set 1 _
  have ht1 : Hid (Blk (w.setCell ⟨g, 1, none⟩ (.int .i32 1)) gt 103 cur) := ht.out.set_other (Ne.symm hne) _
  have HL := Lib.hid hl
  have hq := Lib.hid (ho1.out.at_ (i := 0) rfl)
  have hnot : ∀ (x : Bool) (w : World), (Op.unary .not (.bool x)).run Try.prog w = .ok (.bool (!x)) w := fun _ _ => rfl
  go_enter_defers Try.func62, Try.ntmps62
  go_wp2_with (first | (go_at_call 71; go_must (refine (lock_free ⟨g, 1, none⟩ _ h1 f1).mono ?_); rintro e w' ⟨rfl, rfl⟩) | (go_at_call 61; go_must (refine (boolLoad ⟨g, 0, none⟩ 0 false _ rfl hq.out).mono ?_); rintro e w' ⟨rfl, rfl⟩) | (go_at_call 46; go_must (refine (crcFn gt _ ht1 HL.out).mono ?_); rintro e w5 ⟨rfl, k1, k2⟩; have K1 := Lib.hid k1; have K2 := Lib.hid k2; clear k1 k2))
  have ho5 : Hid (Blk w5 g 102 (onceCells 0 1)) := ho1.out.chg K2.out hne
  have d0 := ho5.out.at_ (i := 0) rfl
  have e0 := ho5.out.frozen (i := 0) (by simp [onceCells])
  have ho6 : Hid (Blk (w5.drew.setCell ⟨g, 0, none⟩ (.int .u32 1)) g 102 (onceCells 1 1)) := ho5.out.drew.set 0 _
  have ho7 : Hid (Blk ((w5.drew.setCell ⟨g, 0, none⟩ (.int .u32 1)).setCell ⟨g, 1, none⟩ (.int .i32 0)) g 102 (onceCells 1 0)) := ho6.out.set 1 _
  have d1 := ho6.out.at_ (i := 1) rfl
  have e1 := ho6.out.frozen (i := 1) (by simp [onceCells])
  have hk : Blk ((w5.drew.setCell ⟨g, 0, none⟩ (.int .u32 1)).setCell ⟨g, 1, none⟩ (.int .i32 0)) gt 103 tblCells := ((K1.out.drew.set_other (Ne.symm hne) _).set_other (Ne.symm hne) _)
  have hch : Chg (fun i => i = g ∨ i = gt) w ((w5.drew.setCell ⟨g, 0, none⟩ (.int .u32 1)).setCell ⟨g, 1, none⟩ (.int .i32 0)) :=
    ((((Chg.refl (fun i => i = g ∨ i = gt) w).setCell (p := ⟨g, 1, none⟩) (fun _ => .inl rfl) _).trans K2.out (fun _ _ h => .inr h)).drew.setCell (p := ⟨g, 0, none⟩) (fun _ => .inl rfl) _).setCell (p := ⟨g, 1, none⟩) (fun _ => .inl rfl) _
  have HK := Lib.hid hk
  have HCH := Lib.hid hch
  clear hk hch h0 h1 f0 f1
  go_wp2
  refine leaves_cons (f := 73) (args := #[.pointer (some ⟨g, 0, none⟩), .bool true]) (by simp) (by simp [go_sem]) ?_
  refine (store_deferred ⟨g, 0, none⟩ (.int .u32 0) .returning _ d0 e0).mono ?_
  rintro e u' w'' ⟨rfl, rfl, rfl⟩
  refine leaves_cons (f := 72) (args := #[.pointer (some ⟨g, 1, none⟩)]) (by simp [settle]) (by simp [go_sem]) ?_
  refine (unlock_deferred ⟨g, 1, none⟩ _ _ d1 e1).mono ?_
  rintro e u' w'' ⟨rfl, rfl, rfl⟩
  simp [Leaves, settle, results, Try.results62]
  exact ⟨ho7.out, HK.out, HCH.out⟩
set_option maxRecDepth 100000 in
set_option maxHeartbeats 1600000 in
theorem doFirst (g gt : Nat) (hne : g ≠ gt) (w : World) {cur : List Value} (ho : Hid (Blk w g 102 (onceCells 0 0))) (ht : Hid (Blk w gt 103 cur)) (hl : cur.length = 16) :
    Calls Try.prog 45 #[.pointer (some ⟨g, 0, none⟩), .func (.func 46) #[] #[.pointer (some ⟨gt, 0, none⟩)]] w fun e w' => e = .returned (.tuple #[]) ∧ Blk w' g 102 (onceCells 1 0) ∧ Blk w' gt 103 tblCells ∧ Chg (fun i => i = g ∨ i = gt) w w' := by
  have hq := Lib.hid (ho.out.at_ (i := 0) rfl)
  have hnot : ∀ (x : Bool) (w : World), (Op.unary .not (.bool x)).run Try.prog w = .ok (.bool (!x)) w := fun _ _ => rfl
  go_enter Try.func45, Try.ntmps45
  go_wp2_with (first | (go_at_call 61; go_must (refine (boolLoad ⟨g, 0, none⟩ 0 false _ rfl hq.out).mono ?_); rintro e w' ⟨rfl, rfl⟩) | (go_at_call 62; go_must (refine (slow g gt hne _ ho ht hl).mono ?_); rintro e w' ⟨rfl, k1, k2, k3⟩; have K1 := Lib.hid k1; have K2 := Lib.hid k2; have K3 := Lib.hid k3; clear k1 k2 k3))
  go_end0
  exact ⟨rfl, K1.out, K2.out, K3.out⟩
theorem doDone (g : Nat) (w : World) (f : Value) (ho : Hid (Blk w g 102 (onceCells 1 0))) :
    Calls Try.prog 45 #[.pointer (some ⟨g, 0, none⟩), f] w fun e w' => e = .returned (.tuple #[]) ∧ w = w' := by
  have hq := Lib.hid (ho.out.at_ (i := 0) rfl)
  have hnot : ∀ (x : Bool) (w : World), (Op.unary .not (.bool x)).run Try.prog w = .ok (.bool (!x)) w := fun _ _ => rfl
  go_enter Try.func45, Try.ntmps45
  go_wp2_with (first | (go_at_call 61; go_must (refine (boolLoad ⟨g, 0, none⟩ 1 true _ rfl hq.out).mono ?_); rintro e w' ⟨rfl, rfl⟩))
  go_end0
  exact ⟨rfl, rfl⟩
end Go.Proofs.Ytlnomadhgoblkaa.Kit
