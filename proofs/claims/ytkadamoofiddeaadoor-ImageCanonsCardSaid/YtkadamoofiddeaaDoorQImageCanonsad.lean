/- Texts that the row leans on: PcI, PcJ, PcK, PcF, PcG. -/
import Derived.Test.YtkadamoofiddeaaDoorProg
import Derived.Test.YtkadamoofiddeaaDoorQImageCanonsab
import Derived.Test.YtkadamoofiddeaaDoorQImageCanonsac
import Derived.Deep.DeepCutAuto
import Derived.Deep.CutBlock
import Derived.Deep.RegionHeld3
import Derived.Deep.RegionLaw
import Derived.Deep.OwnRows
-- Canonical programs: the document's table, Valid (payoffref11); rising, none, within, bound (payoffref12).
set_option linter.unusedVariables false
set_option linter.unusedSimpArgs false
namespace Go.Proofs.YtkadamoofiddeaaDoor.Kit
open Go.RowKit
set_option maxRecDepth 20000 in
set_option maxHeartbeats 1600000 in
theorem refRising {A : Option Addr} {n c : Nat} {l : List ByteArray} {w : World} {b : Bool} (HN : Hid (n = l.length)) (hn : n ≤ 140737488355328) (hr : Hid (RdG w A (strs l))) (hb : Hid (IsB b (RisS l))) :
    Calls Tryd.prog 55 #[.slice A n c] w fun e w' => e = .returned (.bool b) ∧ ∃ n, w' = w.drewN n := by
  go_enter Tryd.func55, Tryd.ntmps55
  go_wp2
  go_loopw [3] (fun i wr => ∃ q : Nat, q ≤ n ∧ i = .int .i64 ((q : Int) + 1) ∧ Hid (∀ i (h : i + 1 < l.length), i < q → Op.bytesLess l[i].toList l[i + 1].toList = true) ∧ ∃ n, wr = w.drewN n) (fun i _ => n - (intOf i).toNat)
  case atStart => exact ⟨0, Nat.zero_le _, rfl, fun i h h' => absurd h' (by omega), 0, rfl⟩
  case round =>
    obtain ⟨q, hq, rfl, ht, nd, rfl⟩ := hrel
    by_cases hlt : q + 1 < n
    · have h1 : q < l.length := by have := HN.out; omega
      have h2 : q + 1 < l.length := by have := HN.out; omega
      obtain ⟨a1, rfl, hc1⟩ := hr.out q _ (strs_get l q h1)
      obtain ⟨a2, e2, hc2⟩ := hr.out (q + 1) _ (strs_get l (q + 1) h2)
      injection e2 with e2
      subst e2
      obtain ⟨x, hx0⟩ : ∃ x, x = l[q] := ⟨_, rfl⟩
      obtain ⟨y, hy0⟩ : ∃ y, y = l[q + 1] := ⟨_, rfl⟩
      rw [← hx0] at hc1
      rw [← hy0] at hc2
      rw [show a1.add (q + 1) = (⟨a1.block, a1.off + (q + 1), none⟩ : Addr) from by unfold Addr.add; rw [if_neg (by omega)]] at hc2
      have HX := Lib.hid hx0
      have HY := Lib.hid hy0
      have b1 : (0 : Int) ≤ (q : Int) + 1 := by omega
      have b2 : (q : Int) + 1 < (n : Int) := by omega
      have b3 : (0 : Int) ≤ (q : Int) := by omega
      have b4 : (q : Int) < (n : Int) := by omega
      have b5 : IntKind.i64.wrap ((q : Int) + 1 - 1) = (q : Int) := by rw [Int.add_sub_cancel]; exact IntWalk.i64_in _ (by omega)
      have b6 : (q : Int) + 1 - 1 = (q : Int) := by omega
      have b7 : ((q : Int) + 1).toNat = q + 1 := by omega
      clear hx0 hy0
      obtain ⟨bq, hbq⟩ : ∃ b, Op.bytesLess x.toList y.toList = b := ⟨_, rfl⟩
      have YES : Hid (bq = true → Op.bytesLess x.toList y.toList = true) := Lib.hid (fun h => hbq.trans h)
      have NO : Hid (bq = false → ¬ Op.bytesLess x.toList y.toList = true) := Lib.hid (fun h h2 => by rw [hbq, h] at h2; cases h2)
      have q1 : (Op.bytesLess y.toList x.toList || y.toList == x.toList) = !bq := by rw [bytesLess_leq, hbq]
      have q1a : (Op.bytesLess y.toList x.toList || x.toList == y.toList) = !bq := by rw [← q1, Bool.beq_comm]
      have q1b := hbq
      clear hbq
      cases bq
      · go_wp2_with fail
        go_quiet (fail)
        go_wp2
        go_ret
        refine ⟨ret_bool (b_false hb.out (fun h => ?_)), _, World.drewN_drewN ..⟩
        have h3 := h q h2
        rw [← HX.out, ← HY.out] at h3
        first | exact NO.out (by simp) h3 | exact absurd h3 (Int.not_lt.2 (NO.out (by simp)))
      · go_wp2_with fail
        go_quiet (fail)
        go_wp2
        go_roundw
        case rel =>
          refine ⟨q + 1, by omega, by go_num, fun i h hi => ?_, _, rfl⟩
          by_cases hiq : i < q
          · exact ht.out i h hiq
          · obtain rfl : i = q := by omega
            rw [← HX.out, ← HY.out]
            exact YES.out (by simp)
        case measure => simp [intOf]; omega
    · go_wp2
      go_ret
      exact ⟨ret_bool (b_true hb.out (fun i h => ht.out i h (by have := HN.out; omega))), _, rfl⟩
theorem refWithin {x m : Int} {w : World} {b : Bool} (hb : Hid (IsB b (0 ≤ x ∧ x ≤ m))) : Calls Tryd.prog 31 #[.int .i64 x, .int .i64 m] w fun e w' => e = .returned (.bool b) ∧ w = w' := by
  by_cases h1 : 0 ≤ x
  · by_cases h2 : x ≤ m
    · go_enter Tryd.func31, Tryd.ntmps31
      go_wp2_with fail
      go_ret
      exact ⟨ret_bool (b_true hb.out ⟨h1, h2⟩), rfl⟩
    · have h3 : m < x := by omega
      go_enter Tryd.func31, Tryd.ntmps31
      go_wp2_with fail
      go_ret
      exact ⟨ret_bool (b_false hb.out (fun h => by have := h.2; omega)), rfl⟩
  · have h3 : x < 0 := by omega
    go_enter Tryd.func31, Tryd.ntmps31
    go_wp2_with fail
    go_ret
    exact ⟨ret_bool (b_false hb.out (fun h => by have := h.1; omega)), rfl⟩
theorem refWithin11 {x m : Int} {w : World} {b : Bool} (hb : Hid (IsB b (if m < 0 then x = 0 else 0 ≤ x ∧ x ≤ m))) : Calls Tryd.prog 74 #[.int .i64 x, .int .i64 m] w fun e w' => e = .returned (.bool b) ∧ w = w' := by
  by_cases hm : m < 0
  · have hb2 : Hid (IsB b (x = 0)) := by have h := hb.out; rw [if_pos hm] at h; exact h
    by_cases hx : x = 0
    · have q1 : (x == 0) = true := by simp [hx]
      have HX := Lib.hid hx
      clear hx
      go_enter Tryd.func74, Tryd.ntmps74
      go_wp2_with fail
      go_ret
      exact ⟨ret_bool (b_true hb2.out HX.out), rfl⟩
    · have q1 : (x == 0) = false := by simpa using hx
      have HX := Lib.hid hx
      clear hx
      go_enter Tryd.func74, Tryd.ntmps74
      go_wp2_with fail
      go_ret
      exact ⟨ret_bool (b_false hb2.out HX.out), rfl⟩
  · have hb2 : Hid (IsB b (0 ≤ x ∧ x ≤ m)) := by have h := hb.out; rw [if_neg hm] at h; exact h
    have hm2 : 0 ≤ m := by omega
    by_cases h1 : 0 ≤ x
    · by_cases h2 : x ≤ m
      · go_enter Tryd.func74, Tryd.ntmps74
        go_wp2_with fail
        go_ret
        exact ⟨ret_bool (b_true hb2.out ⟨h1, h2⟩), rfl⟩
      · have h3 : m < x := by omega
        go_enter Tryd.func74, Tryd.ntmps74
        go_wp2_with fail
        go_ret
        exact ⟨ret_bool (b_false hb2.out (fun h => by have := h.2; omega)), rfl⟩
    · have h3 : x < 0 := by omega
      go_enter Tryd.func74, Tryd.ntmps74
      go_wp2_with fail
      go_ret
      exact ⟨ret_bool (b_false hb2.out (fun h => by have := h.1; omega)), rfl⟩
set_option maxRecDepth 20000 in
set_option maxHeartbeats 1600000 in
/-- does a row of numbers hold a zero? -/
theorem refNone {A : Option Addr} {n c : Nat} {l : List Int} {w : World} {b : Bool} (HN : Hid (n = l.length)) (hn : n ≤ 140737488355328) (hr : Hid (RdG w A (nums .i64 l))) (hb : Hid (IsB b (∀ x ∈ l, x ≠ 0))) :
    Calls Tryd.prog 32 #[.slice A n c] w fun e w' => e = .returned (.bool (!b)) ∧ w = w' := by
  go_enter Tryd.func32, Tryd.ntmps32
  go_wp2
  go_loop [3] (fun i => ∃ q : Nat, q ≤ n ∧ i = .int .i64 q ∧ Hid (∀ i (h : i < l.length), i < q → l[i] ≠ 0)) (fun i => n - (intOf i).toNat)
  case atStart => exact ⟨0, Nat.zero_le _, rfl, fun i h h' => absurd h' (by omega)⟩
  case round =>
    obtain ⟨q, hq, rfl, ht⟩ := hrel
    by_cases hlt : q < n
    · have h1 : q < l.length := by have := HN.out; omega
      obtain ⟨a1, rfl, hc1⟩ := hr.out q _ (nums_get .i64 l q h1)
      obtain ⟨x, hx0⟩ : ∃ x, x = l[q] := ⟨_, rfl⟩
      rw [← hx0] at hc1
      have HX := Lib.hid hx0
      have b1 : (0 : Int) ≤ (q : Int) := by omega
      have b2 : (q : Int) < (n : Int) := by omega
      clear hx0
      by_cases hx : x = 0
      · have q1 : (x == 0) = true := by simp [hx]
        have HZ := Lib.hid hx
        clear hx
        go_wp2_with fail
        go_ret
        exact ⟨ret_bool (by rw [← b_false hb.out (fun h => h _ (List.getElem_mem h1) (by rw [← HX.out]; exact HZ.out))]; rfl), rfl⟩
      · have q1 : (x == 0) = false := by simpa using hx
        have HZ := Lib.hid hx
        clear hx
        go_wp2_with fail
        go_round
        case rel =>
          refine ⟨q + 1, by omega, by go_num, fun i h hi => ?_⟩
          by_cases hiq : i < q
          · exact ht.out i h hiq
          · obtain rfl : i = q := by omega
            rw [← HX.out]
            exact HZ.out
        case measure => simp [intOf]; omega
    · go_wp2
      go_ret
      exact ⟨ret_bool (by rw [← b_true hb.out (fun x hx => by
        obtain ⟨i, hi, rfl⟩ := List.getElem_of_mem hx
        exact ht.out i hi (by have := HN.out; omega))]; rfl), rfl⟩
/-- the document's table, as it lies in memory -/
def rA (i : Nat) : Int := if (kAt i).o = 0 then -1 else (kAt i).a
def rB (i : Nat) : Int := if (kAt i).o = 2 then (kAt i).b else -1
def TblAt (w : World) : Prop := ∀ i, i < 29 → ∃ nm : ByteArray, w.cell? ⟨1, i * 5, none⟩ = some (.string nm) ∧ w.cell? ⟨1, i * 5 + 1, none⟩ = some (.int .i64 (rA i)) ∧ w.cell? ⟨1, i * 5 + 2, none⟩ = some (.int .i64 (rB i)) ∧
  w.cell? ⟨1, i * 5 + 3, none⟩ = some (.int .i64 (kAt i).t) ∧ w.cell? ⟨1, i * 5 + 4, none⟩ = some (.int .i64 (kAt i).p)
theorem TblAt.chg {w w1 : World} {S : Nat → Prop} (h : TblAt w) (c : Chg S w w1) (hS : ¬ S 1) : TblAt w1 := fun i hi => by
  obtain ⟨nm, h0, h1, h2, h3, h4⟩ := h i hi
  exact ⟨nm, c.cell (p := ⟨1, i * 5, none⟩) hS h0, c.cell (p := ⟨1, i * 5 + 1, none⟩) hS h1, c.cell (p := ⟨1, i * 5 + 2, none⟩) hS h2, c.cell (p := ⟨1, i * 5 + 3, none⟩) hS h3, c.cell (p := ⟨1, i * 5 + 4, none⟩) hS h4⟩
theorem TblAt.chg0 {w w1 : World} (h : TblAt w) (c : Chg (fun _ => False) w w1) : TblAt w1 := h.chg c (fun h => h)
set_option maxRecDepth 20000 in
set_option maxHeartbeats 1600000 in
theorem refRow {i : Nat} {nm : ByteArray} {ka kb kt kp : Int} {w : World} (hi : i < 29) (k0 : w.cell? ⟨1, i * 5, none⟩ = some (.string nm)) (k1 : w.cell? ⟨1, i * 5 + 1, none⟩ = some (.int .i64 ka)) (k2 : w.cell? ⟨1, i * 5 + 2, none⟩ = some (.int .i64 kb))
    (k3 : w.cell? ⟨1, i * 5 + 3, none⟩ = some (.int .i64 kt)) (k4 : w.cell? ⟨1, i * 5 + 4, none⟩ = some (.int .i64 kp)) :
    Calls Tryd.prog 73 #[.int .i64 i] w fun e w' => e = .returned (.tuple #[.agg #[.string nm, .int .i64 ka, .int .i64 kb, .int .i64 kt, .int .i64 kp], .int .i64 0]) ∧ Chg (fun _ => False) w w' := by
  have b1 : (0 : Int) ≤ (i : Int) := by omega
  have b2 : (i : Int) < 29 := by omega
  have x0 := ((Chg.refl (fun _ => False) w).alloc (.cells #[.string ⟨#[]⟩, .int .i64 0, .int .i64 0, .int .i64 0, .int .i64 0] 112)).cell (p := ⟨1, i * 5, none⟩) (fun h => h) k0
  have x1 := ((Chg.refl (fun _ => False) w).alloc (.cells #[.string ⟨#[]⟩, .int .i64 0, .int .i64 0, .int .i64 0, .int .i64 0] 112)).cell (p := ⟨1, i * 5 + 1, none⟩) (fun h => h) k1
  have x2 := ((Chg.refl (fun _ => False) w).alloc (.cells #[.string ⟨#[]⟩, .int .i64 0, .int .i64 0, .int .i64 0, .int .i64 0] 112)).cell (p := ⟨1, i * 5 + 2, none⟩) (fun h => h) k2
  have x3 := ((Chg.refl (fun _ => False) w).alloc (.cells #[.string ⟨#[]⟩, .int .i64 0, .int .i64 0, .int .i64 0, .int .i64 0] 112)).cell (p := ⟨1, i * 5 + 3, none⟩) (fun h => h) k3
  have x4 := ((Chg.refl (fun _ => False) w).alloc (.cells #[.string ⟨#[]⟩, .int .i64 0, .int .i64 0, .int .i64 0, .int .i64 0] 112)).cell (p := ⟨1, i * 5 + 4, none⟩) (fun h => h) k4
  clear k0 k1 k2 k3 k4
  go_enter Tryd.func73, Tryd.ntmps73
  go_wp2_with fail
  exact bodyPost_ret (v := .tuple #[.agg #[.string nm, .int .i64 ka, .int .i64 kb, .int .i64 kt, .int .i64 kp], .int .i64 0]) (by simp [results, Tryd.results73, go_sem]) rfl ⟨rfl, (Chg.refl _ _).alloc _⟩
set_option maxRecDepth 20000 in
set_option maxHeartbeats 1600000 in
theorem refRowNo {x : Int} {w : World} (h : ¬ (0 ≤ x ∧ x < 29)) :
    Calls Tryd.prog 73 #[.int .i64 x] w fun e w' => e = .returned (.tuple #[.agg #[.string ⟨#[]⟩, .int .i64 0, .int .i64 0, .int .i64 0, .int .i64 0], .int .i64 111]) ∧ Chg (fun _ => False) w w' := by
  by_cases h0 : x < 0
  · have b1 : x < 0 := h0
    clear h
    go_enter Tryd.func73, Tryd.ntmps73
    go_wp2_with fail
    exact bodyPost_ret (v := .tuple #[.agg #[.string ⟨#[]⟩, .int .i64 0, .int .i64 0, .int .i64 0, .int .i64 0], .int .i64 111]) (by simp [results, Tryd.results73, go_sem]) rfl ⟨rfl, (Chg.refl _ _).alloc _⟩
  · have b1 : (0 : Int) ≤ x := by omega
    have b2 : (29 : Int) ≤ x := by omega
    clear h h0
    go_enter Tryd.func73, Tryd.ntmps73
    go_wp2_with fail
    exact bodyPost_ret (v := .tuple #[.agg #[.string ⟨#[]⟩, .int .i64 0, .int .i64 0, .int .i64 0, .int .i64 0], .int .i64 111]) (by simp [results, Tryd.results73, go_sem]) rfl ⟨rfl, (Chg.refl _ _).alloc _⟩
end Go.Proofs.YtkadamoofiddeaaDoor.Kit
-- Canonical programs: the document's Valid (payoffref11), bound (payoffref12).
set_option linter.unusedVariables false
set_option linter.unusedSimpArgs false
namespace Go.Proofs.YtkadamoofiddeaaDoor.Kit
open Go.RowKit
theorem kAt_ok : ∀ i, i < 29 → (((kAt i).o = 0 → (kAt i).a = 0) ∧ 0 ≤ (kAt i).a) ∧ (((kAt i).o ≠ 2 → (kAt i).b = 0) ∧ 0 ≤ (kAt i).b) := by decide
theorem rA_ok {i : Nat} (hi : i < 29) (x : Int) : (if rA i < 0 then x = 0 else 0 ≤ x ∧ x ≤ rA i) ↔ 0 ≤ x ∧ x ≤ (kAt i).a := by
  have h := (kAt_ok i hi).1
  unfold rA
  by_cases ho : (kAt i).o = 0
  · rw [if_pos ho, if_pos (by decide), h.1 ho]
    omega
  · rw [if_neg ho, if_neg (by have := h.2; omega)]
theorem rB_ok {i : Nat} (hi : i < 29) (x : Int) : (if rB i < 0 then x = 0 else 0 ≤ x ∧ x ≤ rB i) ↔ 0 ≤ x ∧ x ≤ (kAt i).b := by
  have h := (kAt_ok i hi).2
  unfold rB
  by_cases ho : (kAt i).o = 2
  · rw [if_pos ho, if_neg (by have := h.2; omega)]
  · rw [if_neg ho, if_pos (by decide), h.1 ho]
    omega
set_option maxRecDepth 20000 in
set_option maxHeartbeats 1600000 in
theorem refValid {x : InsV} {w : World} {er : Int} (hk : Hid (TblAt w)) (he : Hid (validE x = er)) : Calls Tryd.prog 58 #[.agg #[.int .i64 x.op, .int .i64 x.a, .int .i64 x.b]] w fun e w' => e = .returned (.int .i64 er) ∧ Chg (fun _ => False) w w' := by
  obtain ⟨op, a, b⟩ := x
  obtain ⟨wx, hwx⟩ : ∃ y, y = w.alloc (.cells #[.int .i64 op, .int .i64 a, .int .i64 b] 47) := ⟨_, rfl⟩
  obtain ⟨g, hg⟩ : ∃ y, y = w.heap.size := ⟨_, rfl⟩
  have CX : Hid (Chg (fun _ => False) w wx) := by rw [hwx]; exact (Chg.refl _ w).alloc _
  have BX : Hid (Blk wx g 47 [.int .i64 op, .int .i64 a, .int .i64 b]) := by rw [hwx, hg]; exact Blk.new _ _ _
  by_cases ho : 0 ≤ op ∧ op < 29
  · obtain ⟨ho1, ho2⟩ := ho
    obtain ⟨i, rfl⟩ : ∃ i : Nat, op = i := ⟨op.toNat, by omega⟩
    have hi : i < 29 := by omega
    obtain ⟨nm, k0, k1, k2, k3, k4⟩ := (hk.out.chg0 CX.out) i hi
    obtain ⟨bA, hbA⟩ := some_b (if rA i < 0 then a = 0 else 0 ≤ a ∧ a ≤ rA i)
    obtain ⟨bB, hbB⟩ := some_b (if rB i < 0 then b = 0 else 0 ≤ b ∧ b ≤ rB i)
    have HE : Hid ((if (bA && bB) = true then (0 : Int) else 111) = er) := Lib.hid (by
      rw [← he.out, validE]
      have hv : ValidP ⟨(i : Int), a, b⟩ ↔ (bA && bB) = true := by
        rw [ValidP, Bool.and_eq_true]
        simp only [Int.toNat_natCast]
        rw [show (bA = true) = _ from propext hbA, show (bB = true) = _ from propext hbB, rA_ok hi, rB_ok hi]
        exact ⟨fun h => h.2, fun h => ⟨⟨ho1, ho2⟩, h⟩⟩
      simp only [hv])
    obtain ⟨ra, hra⟩ : ∃ z, z = rA i := ⟨_, rfl⟩
    obtain ⟨rb, hrb⟩ : ∃ z, z = rB i := ⟨_, rfl⟩
    obtain ⟨kt, hkt⟩ : ∃ z, z = (kAt i).t := ⟨_, rfl⟩
    obtain ⟨kp, hkp⟩ : ∃ z, z = (kAt i).p := ⟨_, rfl⟩
    rw [← hra] at k1 hbA
    rw [← hrb] at k2 hbB
    rw [← hkt] at k3
    rw [← hkp] at k4
    have HA := Lib.hid hbA
    have HB := Lib.hid hbB
    have K : Hid (Calls Tryd.prog 73 #[.int .i64 i] wx fun e w' => e = .returned (.tuple #[.agg #[.string nm, .int .i64 ra, .int .i64 rb, .int .i64 kt, .int .i64 kp], .int .i64 0]) ∧ Chg (fun _ => False) wx w') := Lib.hid (refRow hi k0 k1 k2 k3 k4)
    clear hra hrb hkt hkp hbA hbB k0 k1 k2 k3 k4
    have t0 := BX.out.at_ (i := 0) rfl
    rw [hwx] at t0
    rw [hg] at t0
    go_enter Tryd.func58, Tryd.ntmps58
    go_wp2_with fail
    rw [← hwx, ← hg]
    clear hwx hg t0
    refine K.out.mono ?_
    rintro e w1 ⟨rfl, c1⟩
    have C1 := Lib.hid c1
    have B1 := Lib.hid (BX.out.chg C1.out (fun h => h))
    obtain ⟨w2, hw2⟩ : ∃ y, y = w1.alloc (.cells #[.string nm, .int .i64 ra, .int .i64 rb, .int .i64 kt, .int .i64 kp] 112) := ⟨_, rfl⟩
    have C2 : Hid (Chg (fun _ => False) w w2) := by rw [hw2]; exact (CX.out.trans C1.out (fun _ _ h => h)).alloc _
    have B12 := Lib.hid (B1.out.chg (S := fun _ => False) (w1 := w2) (by rw [hw2]; exact (Chg.refl _ _).alloc _) (fun h => h))
    have BR : Hid (Blk w2 w1.heap.size 112 [.string nm, .int .i64 ra, .int .i64 rb, .int .i64 kt, .int .i64 kp]) := by rw [hw2]; exact Blk.new _ _ _
    have t1 := B12.out.at_ (i := 1) rfl
    have t2 := B12.out.at_ (i := 2) rfl
    have u1 := BR.out.at_ (i := 1) rfl
    have u2 := BR.out.at_ (i := 2) rfl
    have t1a := t1
    have u1a := u1
    rw [hw2] at t1a u1a
    clear c1
    cases bA
    · have HZ : Hid ((111 : Int) = er) := Lib.hid (by rw [← HE.out]; simp)
      cases bB
      all_goals
        go_wp2_with fail
        rw [← hw2]
        clear hw2 t1a u1a
        refine (refWithin11 HA).mono ?_
        rintro e w3 ⟨rfl, rfl⟩
        go_wp2_with fail
        skip
        refine (refWithin11 HB).mono ?_
        rintro e w3 ⟨rfl, rfl⟩
        go_wp2_with fail
        go_ret
        exact ⟨ret_i HZ.out, C2.out⟩
    · cases bB
      · have HZ : Hid ((111 : Int) = er) := Lib.hid (by rw [← HE.out]; simp)
        go_wp2_with fail
        rw [← hw2]
        clear hw2 t1a u1a
        refine (refWithin11 HA).mono ?_
        rintro e w3 ⟨rfl, rfl⟩
        go_wp2_with fail
        skip
        refine (refWithin11 HB).mono ?_
        rintro e w3 ⟨rfl, rfl⟩
        go_wp2_with fail
        go_ret
        exact ⟨ret_i HZ.out, C2.out⟩
      · have HZ : Hid ((0 : Int) = er) := Lib.hid (by rw [← HE.out]; simp)
        go_wp2_with fail
        rw [← hw2]
        clear hw2 t1a u1a
        refine (refWithin11 HA).mono ?_
        rintro e w3 ⟨rfl, rfl⟩
        go_wp2_with fail
        skip
        refine (refWithin11 HB).mono ?_
        rintro e w3 ⟨rfl, rfl⟩
        go_wp2_with fail
        go_ret
        exact ⟨ret_i HZ.out, C2.out⟩
  · have HZ : Hid ((111 : Int) = er) := Lib.hid (by rw [← he.out, validE, if_neg (fun h => ho h.1)])
    have K : Hid (Calls Tryd.prog 73 #[.int .i64 op] wx _) := Lib.hid (refRowNo (w := wx) ho)
    have t0 := BX.out.at_ (i := 0) rfl
    rw [hwx, hg] at t0
    have HO := Lib.hid ho
    clear ho
    go_enter Tryd.func58, Tryd.ntmps58
    go_wp2_with fail
    rw [← hwx]
    clear hwx hg t0
    refine K.out.mono ?_
    rintro e w1 ⟨rfl, c1⟩
    have C1 := Lib.hid c1
    clear c1
    go_wp2_with fail
    go_ret
    exact ⟨ret_i HZ.out, (CX.out.trans C1.out (fun _ _ h => h)).alloc _⟩
/-- below what an operand must be -/
def bndOf (n1 n2 n3 : Nat) (i2 i3 op : Int) : Int := if op = 1 then n3 else if op = 3 then n1 else if op = 28 then n2 else if op = 4 ∨ op = 5 then i2 else if op = 6 ∨ op = 7 then i3 else 262144
set_option maxRecDepth 20000 in
set_option maxHeartbeats 1600000 in
theorem refBound {n1 n2 n3 n4 c1 c2 c3 c4 : Nat} {A1 A2 A3 A4 : Option Addr} {i1 i2 i3 i4 op r : Int} {w : World} (hr : Hid (bndOf n1 n2 n3 i2 i3 op = r)) :
    Calls Tryd.prog 59 #[.agg #[.slice A1 n1 c1, .slice A2 n2 c2, .slice A3 n3 c3, .int .i64 i1, .int .i64 i2, .int .i64 i3, .int .i64 i4, .slice A4 n4 c4], .int .i64 op] w fun e w' => e = .returned (.int .i64 r) ∧ Chg (fun _ => False) w w' := by
  by_cases ho : op = 1
  · have HR : Hid (bndOf n1 n2 n3 i2 i3 1 = r) := by rw [Hid, ← hr.out, ho]
    have HS := Lib.hid ho
    have z1 : (op == 1) = true := by rw [ho]; rfl
    have z3 : (op == 3) = false := by rw [ho]; rfl
    have z28 : (op == 28) = false := by rw [ho]; rfl
    have z4 : (op == 4) = false := by rw [ho]; rfl
    have z5 : (op == 5) = false := by rw [ho]; rfl
    have z6 : (op == 6) = false := by rw [ho]; rfl
    have z7 : (op == 7) = false := by rw [ho]; rfl
    clear ho
    go_enter Tryd.func59, Tryd.ntmps59
    go_wp2_with fail
    go_ret
    exact ⟨ret_i (by rw [← HR.out]; simp [bndOf]), (Chg.refl _ w).alloc _⟩
  have HO1 := Lib.hid ho
  clear ho
  by_cases ho : op = 3
  · have HR : Hid (bndOf n1 n2 n3 i2 i3 3 = r) := by rw [Hid, ← hr.out, ho]
    have HS := Lib.hid ho
    have z1 : (op == 1) = false := by rw [ho]; rfl
    have z3 : (op == 3) = true := by rw [ho]; rfl
    have z28 : (op == 28) = false := by rw [ho]; rfl
    have z4 : (op == 4) = false := by rw [ho]; rfl
    have z5 : (op == 5) = false := by rw [ho]; rfl
    have z6 : (op == 6) = false := by rw [ho]; rfl
    have z7 : (op == 7) = false := by rw [ho]; rfl
    clear ho
    go_enter Tryd.func59, Tryd.ntmps59
    go_wp2_with fail
    go_ret
    exact ⟨ret_i (by rw [← HR.out]; simp [bndOf]), (Chg.refl _ w).alloc _⟩
  have HO3 := Lib.hid ho
  clear ho
  by_cases ho : op = 28
  · have HR : Hid (bndOf n1 n2 n3 i2 i3 28 = r) := by rw [Hid, ← hr.out, ho]
    have HS := Lib.hid ho
    have z1 : (op == 1) = false := by rw [ho]; rfl
    have z3 : (op == 3) = false := by rw [ho]; rfl
    have z28 : (op == 28) = true := by rw [ho]; rfl
    have z4 : (op == 4) = false := by rw [ho]; rfl
    have z5 : (op == 5) = false := by rw [ho]; rfl
    have z6 : (op == 6) = false := by rw [ho]; rfl
    have z7 : (op == 7) = false := by rw [ho]; rfl
    clear ho
    go_enter Tryd.func59, Tryd.ntmps59
    go_wp2_with fail
    go_ret
    exact ⟨ret_i (by rw [← HR.out]; simp [bndOf]), (Chg.refl _ w).alloc _⟩
  have HO28 := Lib.hid ho
  clear ho
  by_cases ho : op = 4
  · have HR : Hid (bndOf n1 n2 n3 i2 i3 4 = r) := by rw [Hid, ← hr.out, ho]
    have HS := Lib.hid ho
    have z1 : (op == 1) = false := by rw [ho]; rfl
    have z3 : (op == 3) = false := by rw [ho]; rfl
    have z28 : (op == 28) = false := by rw [ho]; rfl
    have z4 : (op == 4) = true := by rw [ho]; rfl
    have z5 : (op == 5) = false := by rw [ho]; rfl
    have z6 : (op == 6) = false := by rw [ho]; rfl
    have z7 : (op == 7) = false := by rw [ho]; rfl
    clear ho
    go_enter Tryd.func59, Tryd.ntmps59
    go_wp2_with fail
    go_ret
    exact ⟨ret_i (by rw [← HR.out]; simp [bndOf]), (Chg.refl _ w).alloc _⟩
  have HO4 := Lib.hid ho
  clear ho
  by_cases ho : op = 5
  · have HR : Hid (bndOf n1 n2 n3 i2 i3 5 = r) := by rw [Hid, ← hr.out, ho]
    have HS := Lib.hid ho
    have z1 : (op == 1) = false := by rw [ho]; rfl
    have z3 : (op == 3) = false := by rw [ho]; rfl
    have z28 : (op == 28) = false := by rw [ho]; rfl
    have z4 : (op == 4) = false := by rw [ho]; rfl
    have z5 : (op == 5) = true := by rw [ho]; rfl
    have z6 : (op == 6) = false := by rw [ho]; rfl
    have z7 : (op == 7) = false := by rw [ho]; rfl
    clear ho
    go_enter Tryd.func59, Tryd.ntmps59
    go_wp2_with fail
    go_ret
    exact ⟨ret_i (by rw [← HR.out]; simp [bndOf]), (Chg.refl _ w).alloc _⟩
  have HO5 := Lib.hid ho
  clear ho
  by_cases ho : op = 6
  · have HR : Hid (bndOf n1 n2 n3 i2 i3 6 = r) := by rw [Hid, ← hr.out, ho]
    have HS := Lib.hid ho
    have z1 : (op == 1) = false := by rw [ho]; rfl
    have z3 : (op == 3) = false := by rw [ho]; rfl
    have z28 : (op == 28) = false := by rw [ho]; rfl
    have z4 : (op == 4) = false := by rw [ho]; rfl
    have z5 : (op == 5) = false := by rw [ho]; rfl
    have z6 : (op == 6) = true := by rw [ho]; rfl
    have z7 : (op == 7) = false := by rw [ho]; rfl
    clear ho
    go_enter Tryd.func59, Tryd.ntmps59
    go_wp2_with fail
    go_ret
    exact ⟨ret_i (by rw [← HR.out]; simp [bndOf]), (Chg.refl _ w).alloc _⟩
  have HO6 := Lib.hid ho
  clear ho
  by_cases ho : op = 7
  · have HR : Hid (bndOf n1 n2 n3 i2 i3 7 = r) := by rw [Hid, ← hr.out, ho]
    have HS := Lib.hid ho
    have z1 : (op == 1) = false := by rw [ho]; rfl
    have z3 : (op == 3) = false := by rw [ho]; rfl
    have z28 : (op == 28) = false := by rw [ho]; rfl
    have z4 : (op == 4) = false := by rw [ho]; rfl
    have z5 : (op == 5) = false := by rw [ho]; rfl
    have z6 : (op == 6) = false := by rw [ho]; rfl
    have z7 : (op == 7) = true := by rw [ho]; rfl
    clear ho
    go_enter Tryd.func59, Tryd.ntmps59
    go_wp2_with fail
    go_ret
    exact ⟨ret_i (by rw [← HR.out]; simp [bndOf]), (Chg.refl _ w).alloc _⟩
  have HO7 := Lib.hid ho
  clear ho
  have HR : Hid ((262144 : Int) = r) := by rw [Hid, ← hr.out, bndOf]; simp [HO1.out, HO3.out, HO28.out, HO4.out, HO5.out, HO6.out, HO7.out]
  have z1 : (op == 1) = false := by simpa using HO1.out
  have z3 : (op == 3) = false := by simpa using HO3.out
  have z28 : (op == 28) = false := by simpa using HO28.out
  have z4 : (op == 4) = false := by simpa using HO4.out
  have z5 : (op == 5) = false := by simpa using HO5.out
  have z6 : (op == 6) = false := by simpa using HO6.out
  have z7 : (op == 7) = false := by simpa using HO7.out
  go_enter Tryd.func59, Tryd.ntmps59
  go_wp2_with fail
  go_ret
  exact ⟨ret_i HR.out, (Chg.refl _ w).alloc _⟩
end Go.Proofs.YtkadamoofiddeaaDoor.Kit
-- Canonical programs: the document's lists (payoffref12).
set_option linter.unusedVariables false
set_option linter.unusedSimpArgs false
namespace Go.Proofs.YtkadamoofiddeaaDoor.Kit
open Go.RowKit
set_option maxRecDepth 20000 in
set_option maxHeartbeats 6400000 in
theorem refLists {s : ProgS} {p : ProgV} {w : World} {b : Bool} (hp : Hid (RdProg w s p)) (ok : Hid (ProgOk p)) (hb : Hid (IsB b (ListsP p))) :
    Calls Tryd.prog 29 #[progVal s p] w fun e w' => e = .returned (.bool b) ∧ Chg (fun _ => False) w w' := by
  obtain ⟨n1, n2, n3, n4, A1, A2, A3, A4, c1, c2, c3, c4, HP0⟩ := hp.out.apart
  have HP := Lib.hid HP0
  rw [HP.out.eq]
  have S1 : n1 ≤ 140737488355328 := by have := HP0.ln; have := ok.out.small.names; omega
  have S2 : n2 ≤ 140737488355328 := by have := HP0.lc; have := ok.out.small.curs; omega
  have S3 : n3 ≤ 140737488355328 := by have := HP0.lk; have := ok.out.small.pool; omega
  obtain ⟨b1, k1⟩ := some_b (RisS p.names)
  obtain ⟨b2, k2⟩ := some_b (RisS p.curs)
  have K1 := Lib.hid k1
  have K2 := Lib.hid k2
  obtain ⟨i1, hi1⟩ : ∃ x, x = p.horizon := ⟨_, rfl⟩
  obtain ⟨i2, hi2⟩ : ∃ x, x = p.cells := ⟨_, rfl⟩
  obtain ⟨i3, hi3⟩ : ∃ x, x = p.slots := ⟨_, rfl⟩
  obtain ⟨i4, hi4⟩ : ∃ x, x = p.stack := ⟨_, rfl⟩
  rw [← hi1, ← hi2, ← hi3, ← hi4]
  have I1 := Lib.hid hi1
  have I2 := Lib.hid hi2
  have I3 := Lib.hid hi3
  have I4 := Lib.hid hi4
  have LN := Lib.hid HP0.ln
  have LC := Lib.hid HP0.lc
  have LK := Lib.hid HP0.lk
  have ZN : Hid (∀ s ∈ p.names, s.size ≤ 140737488351232) := ok.out.names
  have ZC : Hid (∀ s ∈ p.curs, s.size ≤ 140737488351232) := ok.out.curs
  have NO : Hid (¬ ListsP p → false = b) := fun h => b_false hb.out h
  clear k1 k2 hi1 hi2 hi3 hi4 HP0
  obtain ⟨w0, hw0⟩ : ∃ x, x = w.alloc (.cells #[.slice A1 n1 c1, .slice A2 n2 c2, .slice A3 n3 c3, .int .i64 i1, .int .i64 i2, .int .i64 i3, .int .i64 i4, .slice A4 n4 c4] 26) := ⟨_, rfl⟩
  obtain ⟨g1, hg1⟩ : ∃ x, x = w.heap.size := ⟨_, rfl⟩
  have C0 : Hid (Chg (fun _ => False) w w0) := by rw [hw0]; exact (Chg.refl _ w).alloc _
  have B1 : Hid (Blk w0 g1 26 [.slice A1 n1 c1, .slice A2 n2 c2, .slice A3 n3 c3, .int .i64 i1, .int .i64 i2, .int .i64 i3, .int .i64 i4, .slice A4 n4 c4]) := by rw [hw0, hg1]; exact Blk.new _ _ _
  have t0 := B1.out.at_ (i := 0) rfl
  rw [hw0, hg1] at t0
  go_enter Tryd.func29, Tryd.ntmps29
  go_wp2_with fail
  rw [← hw0, ← hg1]
  clear hw0 hg1 t0
  refine (refRising LN S1 (HP.out.rn.chg0 C0.out) K1).mono ?_
  rintro e wa ⟨rfl, nd, ha⟩
  have CA : Hid (Chg (fun _ => False) w wa) := by rw [ha]; exact C0.out.drewN _
  have BA : Hid (Blk wa g1 26 [.slice A1 n1 c1, .slice A2 n2 c2, .slice A3 n3 c3, .int .i64 i1, .int .i64 i2, .int .i64 i3, .int .i64 i4, .slice A4 n4 c4]) := B1.out.chg (S := fun _ => False) (by rw [ha]; exact (Chg.refl _ _).drewN _) (fun h => h)
  clear ha
  have t1 := BA.out.at_ (i := 1) rfl
  go_wp2_with fail
  refine (refRising LC S2 (HP.out.rc.chg0 CA.out) K2).mono ?_
  rintro e wb ⟨rfl, nd2, ha⟩
  have CB : Hid (Chg (fun _ => False) w wb) := by rw [ha]; exact CA.out.drewN _
  have BB : Hid (Blk wb g1 26 [.slice A1 n1 c1, .slice A2 n2 c2, .slice A3 n3 c3, .int .i64 i1, .int .i64 i2, .int .i64 i3, .int .i64 i4, .slice A4 n4 c4]) := BA.out.chg (S := fun _ => False) (by rw [ha]; exact (Chg.refl _ _).drewN _) (fun h => h)
  clear ha t1
  have y0 := BB.out.at_ (i := 0) rfl
  have y1 := BB.out.at_ (i := 1) rfl
  have y2 := BB.out.at_ (i := 2) rfl
  have y3 := BB.out.at_ (i := 3) rfl
  have y4 := BB.out.at_ (i := 4) rfl
  have y5 := BB.out.at_ (i := 5) rfl
  have y6 := BB.out.at_ (i := 6) rfl
  cases b1
  · have HF : Hid (false = b) := NO.out (fun h => absurd (K1.out.2 h.rn) (by decide))
    go_wp2_with fail
    go_ret
    exact ⟨ret_bool HF.out, CB.out⟩
  cases b2
  · have HF : Hid (false = b) := NO.out (fun h => absurd (K2.out.2 h.rc) (by decide))
    go_wp2_with fail
    go_ret
    exact ⟨ret_bool HF.out, CB.out⟩
  by_cases zn1 : (64 : Int) < (n1 : Int)
  · have HF : Hid (false = b) := NO.out (fun h => by have h2 := h.ln; rw [← LN.out] at h2; omega)
    go_wp2_with fail
    go_ret
    exact ⟨ret_bool HF.out, CB.out⟩
  by_cases zn2 : (4096 : Int) < (n2 : Int)
  · have HF : Hid (false = b) := NO.out (fun h => by have h2 := h.lc; rw [← LC.out] at h2; omega)
    go_wp2_with fail
    go_ret
    exact ⟨ret_bool HF.out, CB.out⟩
  by_cases zn3 : (16384 : Int) < (n3 : Int)
  · have HF : Hid (false = b) := NO.out (fun h => by have h2 := h.lk; rw [← LK.out] at h2; omega)
    go_wp2_with fail
    go_ret
    exact ⟨ret_bool HF.out, CB.out⟩
  go_upto_block 0 with fail
  go_cut [5, 6] from 44 to 58 (fun _ _ wx => Hid (∀ s ∈ p.names, CapP s) ∧ Hid (Chg (fun _ => False) wb wx))
  case first =>
    go_wp2_with fail
    go_loopw [5, 6] (fun i _ wr => ∃ q : Nat, q ≤ n1 ∧ i = .int .i64 q ∧ Hid (∀ i (h : i < p.names.length), i < q → CapP p.names[i]) ∧ Hid (Chg (fun _ => False) wb wr)) (fun i _ _ => n1 - (intOf i).toNat)
    case atStart => exact ⟨0, Nat.zero_le _, rfl, fun i h h' => absurd h' (by omega), Chg.refl _ _⟩
    case round =>
      obtain ⟨q, hq, rfl, ht, CR⟩ := hrel
      have y0r := (BB.out.chg CR.out (fun h => h)).at_ (i := 0) rfl
      by_cases hlt : q < n1
      · have h1 : q < p.names.length := by have := LN.out; omega
        obtain ⟨a1, e1, hc0⟩ := (HP.out.rn.chg0 (CB.out.trans CR.out (fun _ _ h => h))) q _ (strs_get p.names q h1)
        subst e1
        obtain ⟨x, hx0⟩ : ∃ x, x = p.names[q] := ⟨_, rfl⟩
        have hx16 : x.size ≤ 140737488355328 := by rw [hx0]; exact Nat.le_trans (ZN.out _ (List.getElem_mem h1)) (by decide)
        rw [← hx0] at hc0
        have HX := Lib.hid hx0
        have b1 : (0 : Int) ≤ (q : Int) := by omega
        have b2 : (q : Int) < (n1 : Int) := by omega
        clear hx0
        obtain ⟨br, hbr⟩ := some_b (CapP x)
        have HBR := Lib.hid hbr
        clear hbr
        cases br
        · have HF : Hid (false = b) := NO.out (fun h => absurd (HBR.out.2 (by rw [HX.out]; exact h.names _ (List.getElem_mem h1))) (by decide))
          go_wp2_with fail
          refine (refCapital hx16 HBR).mono ?_
          rintro e w2 ⟨rfl, cc⟩
          have CC : Hid (Chg (fun _ => False) wr w2) := cc
          clear cc
          go_wp2_with fail
          go_ret
          exact ⟨ret_bool HF.out, (CB.out.trans CR.out (fun _ _ h => h)).trans CC.out (fun _ _ h => h)⟩
        · go_wp2_with fail
          refine (refCapital hx16 HBR).mono ?_
          rintro e w2 ⟨rfl, cc⟩
          have CC : Hid (Chg (fun _ => False) wr w2) := cc
          clear cc
          go_wp2_with fail
          go_roundw
          case rel =>
            refine ⟨q + 1, by omega, by go_num, fun i h hi => ?_, CR.out.trans CC.out (fun _ _ h => h)⟩
            by_cases hiq : i < q
            · exact ht.out i h hiq
            · obtain rfl : i = q := by omega
              rw [← HX.out]
              exact HBR.out.1 rfl
          case measure => simp [intOf]; omega
      · obtain rfl : q = n1 := by omega
        go_wp2_with fail
        go_meet
        case rel => exact ⟨fun s hs => by
          obtain ⟨i, hi, rfl⟩ := List.getElem_of_mem hs
          exact ht.out i hi (by have := LN.out; omega), CR.out⟩
  case rest =>
    obtain ⟨HCP, C1⟩ := hcut
    clear y0 y1 y2 y3 y4 y5 y6
    go_upto_block 2 with fail
    go_cut [7, 8] from 59 to 73 (fun _ _ wx => Hid (∀ s ∈ p.curs, CurP s) ∧ Hid (Chg (fun _ => False) wb wx))
    case first =>
      go_wp2_with fail
      go_loopw [7, 8] (fun i _ wr => ∃ q : Nat, q ≤ n2 ∧ i = .int .i64 q ∧ Hid (∀ i (h : i < p.curs.length), i < q → CurP p.curs[i]) ∧ Hid (Chg (fun _ => False) wb wr)) (fun i _ _ => n2 - (intOf i).toNat)
      case atStart => exact ⟨0, Nat.zero_le _, rfl, fun i h h' => absurd h' (by omega), C1.out⟩
      case round =>
        obtain ⟨q, hq, rfl, ht, CR⟩ := hrel
        have y1r := (BB.out.chg CR.out (fun h => h)).at_ (i := 1) rfl
        by_cases hlt : q < n2
        · have h1 : q < p.curs.length := by have := LC.out; omega
          obtain ⟨a1, e1, hc0⟩ := (HP.out.rc.chg0 (CB.out.trans CR.out (fun _ _ h => h))) q _ (strs_get p.curs q h1)
          subst e1
          obtain ⟨x, hx0⟩ : ∃ x, x = p.curs[q] := ⟨_, rfl⟩
          have hx16 : x.size ≤ 140737488355328 := by rw [hx0]; exact Nat.le_trans (ZC.out _ (List.getElem_mem h1)) (by decide)
          rw [← hx0] at hc0
          have HX := Lib.hid hx0
          have b1 : (0 : Int) ≤ (q : Int) := by omega
          have b2 : (q : Int) < (n2 : Int) := by omega
          clear hx0
          obtain ⟨br, hbr⟩ := some_b (CurP x)
          have HBR := Lib.hid hbr
          clear hbr
          cases br
          · have HF : Hid (false = b) := NO.out (fun h => absurd (HBR.out.2 (by rw [HX.out]; exact h.curs _ (List.getElem_mem h1))) (by decide))
            go_wp2_with fail
            refine (refCurrency HBR).mono ?_
            rintro e w2 ⟨rfl, cc⟩
            have CC : Hid (Chg (fun _ => False) wr w2) := by rw [← cc]; exact Chg.refl _ _
            clear cc
            go_wp2_with fail
            go_ret
            exact ⟨ret_bool HF.out, (CB.out.trans CR.out (fun _ _ h => h)).trans CC.out (fun _ _ h => h)⟩
          · go_wp2_with fail
            refine (refCurrency HBR).mono ?_
            rintro e w2 ⟨rfl, cc⟩
            have CC : Hid (Chg (fun _ => False) wr w2) := by rw [← cc]; exact Chg.refl _ _
            clear cc
            go_wp2_with fail
            go_roundw
            case rel =>
              refine ⟨q + 1, by omega, by go_num, fun i h hi => ?_, CR.out.trans CC.out (fun _ _ h => h)⟩
              by_cases hiq : i < q
              · exact ht.out i h hiq
              · obtain rfl : i = q := by omega
                rw [← HX.out]
                exact HBR.out.1 rfl
            case measure => simp [intOf]; omega
        · obtain rfl : q = n2 := by omega
          go_wp2_with fail
          go_meet
          case rel => exact ⟨fun s hs => by
            obtain ⟨i, hi, rfl⟩ := List.getElem_of_mem hs
            exact ht.out i hi (by have := LC.out; omega), CR.out⟩
    case rest =>
      obtain ⟨HCC, C2⟩ := hcut
      go_upto_block 4 with fail
      go_cut [9] from 74 to 92 (fun _ wx => Hid (RisI p.pool) ∧ Hid (Chg (fun _ => False) wb wx))
      case first =>
        go_wp2_with fail
        go_loopw [9] (fun i wr => ∃ q : Nat, q ≤ n3 ∧ i = .int .i64 ((q : Int) + 1) ∧ Hid (∀ i (h : i + 1 < p.pool.length), i < q → p.pool[i] < p.pool[i + 1]) ∧ Hid (Chg (fun _ => False) wb wr)) (fun i _ => n3 - (intOf i).toNat)
        case atStart => exact ⟨0, Nat.zero_le _, rfl, fun i h h' => absurd h' (by omega), C2.out⟩
        case round =>
          obtain ⟨q, hq, rfl, ht, CR⟩ := hrel
          have y2r := (BB.out.chg CR.out (fun h => h)).at_ (i := 2) rfl
          by_cases hlt : q + 1 < n3
          · have h1 : q < p.pool.length := by have := LK.out; omega
            have h2 : q + 1 < p.pool.length := by have := LK.out; omega
            obtain ⟨a1, e1, hc1⟩ := (HP.out.rk.chg0 (CB.out.trans CR.out (fun _ _ h => h))) q _ (nums_get .i64 p.pool q h1)
            obtain ⟨a2, e2, hc2⟩ := (HP.out.rk.chg0 (CB.out.trans CR.out (fun _ _ h => h))) (q + 1) _ (nums_get .i64 p.pool (q + 1) h2)
            rw [e1] at e2
            injection e2 with e2
            subst e2
            subst e1
            obtain ⟨x, hx0⟩ : ∃ x, x = p.pool[q] := ⟨_, rfl⟩
            obtain ⟨y, hy0⟩ : ∃ y, y = p.pool[q + 1] := ⟨_, rfl⟩
            rw [← hx0] at hc1
            rw [← hy0] at hc2
            rw [show a1.add (q + 1) = (⟨a1.block, a1.off + (q + 1), none⟩ : Addr) from by unfold Addr.add; rw [if_neg (by omega)]] at hc2
            have HX := Lib.hid hx0
            have HY := Lib.hid hy0
            have b1 : (0 : Int) ≤ (q : Int) + 1 := by omega
            have b2 : (q : Int) + 1 < (n3 : Int) := by omega
            have b3 : (0 : Int) ≤ (q : Int) := by omega
            have b4 : (q : Int) < (n3 : Int) := by omega
            have b5 : IntKind.i64.wrap ((q : Int) + 1 - 1) = (q : Int) := by rw [Int.add_sub_cancel]; exact IntWalk.i64_in _ (by omega)
            have b6 : (q : Int) + 1 - 1 = (q : Int) := by omega
            have b7 : ((q : Int) + 1).toNat = q + 1 := by omega
            clear hx0 hy0
            obtain ⟨bq, hbq⟩ : ∃ b, decide (x < y) = b := ⟨_, rfl⟩
            have YES : Hid (bq = true → x < y) := Lib.hid (fun h => of_decide_eq_true (hbq.trans h))
            have NOQ : Hid (bq = false → ¬ x < y) := Lib.hid (fun h => of_decide_eq_false (hbq.trans h))
            have q1 : decide (y ≤ x) = !bq := by rw [← hbq]; by_cases h : x < y <;> simp [h] <;> omega
            clear hbq
            cases bq
            · have HF : Hid (false = b) := NO.out (fun h => by
                have h3 := h.rk q h2
                rw [← HX.out, ← HY.out] at h3
                exact NOQ.out rfl h3)
              go_wp2_with fail
              go_quiet (fail)
              go_wp2
              go_ret
              exact ⟨ret_bool HF.out, (CB.out.trans CR.out (fun _ _ h => h)).drewN _⟩
            · go_wp2_with fail
              go_quiet (fail)
              go_wp2
              go_roundw
              case rel =>
                refine ⟨q + 1, by omega, by go_num, fun i h hi => ?_, CR.out.drewN _⟩
                by_cases hiq : i < q
                · exact ht.out i h hiq
                · obtain rfl : i = q := by omega
                  rw [← HX.out, ← HY.out]
                  exact YES.out (by simp)
              case measure => simp [intOf]; omega
          · go_wp2_with fail
            go_meet
            case rel => exact ⟨fun i h => ht.out i h (by have := LK.out; omega), CR.out⟩
      case rest =>
        obtain ⟨HRI, C3⟩ := hcut
        have B3 := Lib.hid (BB.out.chg C3.out (fun h => h))
        have v3 := B3.out.at_ (i := 3) rfl
        have v4 := B3.out.at_ (i := 4) rfl
        have v5 := B3.out.at_ (i := 5) rfl
        have v6 := B3.out.at_ (i := 6) rfl
        obtain ⟨d1, hd1⟩ := some_b (0 ≤ i1 ∧ i1 ≤ 3660)
        obtain ⟨d2, hd2⟩ := some_b (0 ≤ i2 ∧ i2 ≤ 32768)
        obtain ⟨d3, hd3⟩ := some_b (0 ≤ i3 ∧ i3 ≤ 16384)
        obtain ⟨d4, hd4⟩ := some_b (0 ≤ i4 ∧ i4 ≤ 16384)
        have HB : Hid ((d1 && d2 && d3 && d4) = b) := Lib.hid (by
          have h3 : ListsP p ↔ (d1 && d2 && d3 && d4) = true := by
            simp only [Bool.and_eq_true]
            rw [show (d1 = true) = _ from propext hd1, show (d2 = true) = _ from propext hd2, show (d3 = true) = _ from propext hd3, show (d4 = true) = _ from propext hd4, I1.out, I2.out, I3.out, I4.out]
            exact ⟨fun h => ⟨⟨⟨h.horizon, h.cells⟩, h.slots⟩, h.stack⟩, fun h => ⟨by rw [← LN.out]; omega, by rw [← LC.out]; omega, by rw [← LK.out]; omega, K1.out.1 rfl, K2.out.1 rfl, HRI.out, HCP.out, HCC.out, h.1.1.1, h.1.1.2, h.1.2, h.2⟩⟩
          rw [Bool.eq_iff_iff, ← h3]
          exact hb.out.symm)
        have D1 := Lib.hid hd1
        have D2 := Lib.hid hd2
        have D3 := Lib.hid hd3
        have D4 := Lib.hid hd4
        have CE : Hid (Chg (fun _ => False) w wc) := CB.out.trans C3.out (fun _ _ h => h)
        clear hd1 hd2 hd3 hd4
        go_wp2_with fail
        refine (refWithin D1).mono ?_
        rintro e w3 ⟨rfl, rfl⟩
        go_wp2_with fail
        refine (refWithin D2).mono ?_
        rintro e w3 ⟨rfl, rfl⟩
        go_wp2_with fail
        refine (refWithin D3).mono ?_
        rintro e w3 ⟨rfl, rfl⟩
        go_wp2_with fail
        refine (refWithin D4).mono ?_
        rintro e w3 ⟨rfl, rfl⟩
        cases d1
        · go_wp2_with fail
          go_ret
          exact ⟨ret_bool (by rw [← HB.out]; simp), CE.out⟩
        cases d2
        · go_wp2_with fail
          go_ret
          exact ⟨ret_bool (by rw [← HB.out]; simp), CE.out⟩
        cases d3
        · go_wp2_with fail
          go_ret
          exact ⟨ret_bool (by rw [← HB.out]; simp), CE.out⟩
        go_wp2_with fail
        go_ret
        exact ⟨ret_bool (by rw [← HB.out]; simp), CE.out⟩
end Go.Proofs.YtkadamoofiddeaaDoor.Kit
-- Canonical programs: a day's code (uses.day); a list of bools that holds no false (slices.Contains).
set_option linter.unusedVariables false
set_option linter.unusedSimpArgs false
namespace Go.Proofs.YtkadamoofiddeaaDoor.Kit
open Go.RowKit
/-- an instruction that stands right in a day's code -/
structure GoodI (p : ProgV) (n : Nat) (i : Nat) (x : InsV) : Prop where
  valid : ValidP x
  fin : x.op = 0 ↔ i + 1 = n
  ins : InsP p x
def DayP (p : ProgV) (l : List InsV) : Prop := 2 ≤ l.length ∧ ∀ i (h : i < l.length), GoodI p l.length i l[i]
theorem validE_0 {x : InsV} : validE x = 0 ↔ ValidP x := by
  unfold validE
  by_cases h : ValidP x
  · rw [if_pos h]; exact ⟨fun _ => h, fun _ => rfl⟩
  · rw [if_neg h]; exact ⟨fun e => absurd e (by decide), fun e => absurd e h⟩
theorem validE_or (x : InsV) : validE x = 0 ∨ validE x = 111 := by
  unfold validE
  by_cases h : ValidP x
  · rw [if_pos h]; exact .inl rfl
  · rw [if_neg h]; exact .inr rfl
/-- what stays as it is while rows of D are written -/
structure Stay (w : World) (D : Nat → Prop) (s : ProgS) (p : ProgV) : Prop where
  p : ∀ W, Chg D w W → RdProg W s p
  k : ∀ W, Chg D w W → KindsAt W
theorem Stay.next {w w1 : World} {D : Nat → Prop} {s : ProgS} {p : ProgV} (h : Stay w D s p) (c : Chg D w w1) : Stay w1 D s p := ⟨fun W cW => h.p W (c.trans cW (fun _ _ h => h)), fun W cW => h.k W (c.trans cW (fun _ _ h => h))⟩
def UDay (D : Nat → Prop) (g : Nat) (p : ProgV) (L l : List InsV) (b : Bool) (w : World) (e : Ending) (w' : World) : Prop :=
  e = .returned (.bool b) ∧ (b = true → Uses w' D g p (L ++ l)) ∧ Chg D w w'
set_option maxRecDepth 20000 in
set_option maxHeartbeats 3200000 in
theorem usesDay {D : Nat → Prop} {g : Nat} {s : ProgS} {p : ProgV} {L l : List InsV} {A : Option Addr} {n c : Nat} {w : World} {b : Bool} (hu : Hid (Uses w D g p L)) (hs : Hid (Stay w D s p)) (ok : Hid (ProgOk p)) (HN : Hid (n = l.length)) (hn : n ≤ 140737488355328) (hr : Hid (∀ W, Chg D w W → RdG W A (insCells l))) (hb : Hid (IsB b (DayP p l))) :
    Calls Tryd.prog 27 #[.pointer (some ⟨g, 0, none⟩), progVal s p, .slice A n c] w (UDay D g p L l b w) := by
  obtain ⟨n1, n2, n3, n4, A1, A2, A3, A4, c1, c2, c3, c4, HP0⟩ := (hs.out.p w (Chg.refl _ _)).apart
  have EQ := Lib.hid HP0.eq
  obtain ⟨v, hv⟩ : ∃ v : Array Value, v = #[.slice A1 n1 c1, .slice A2 n2 c2, .slice A3 n3 c3, .int .i64 p.horizon, .int .i64 p.cells, .int .i64 p.slots, .int .i64 p.stack, .slice A4 n4 c4] := ⟨_, rfl⟩
  have HV := Lib.hid hv
  obtain ⟨i1, hi1⟩ : ∃ x, x = p.horizon := ⟨_, rfl⟩
  obtain ⟨i2, hi2⟩ : ∃ x, x = p.cells := ⟨_, rfl⟩
  obtain ⟨i3, hi3⟩ : ∃ x, x = p.slots := ⟨_, rfl⟩
  obtain ⟨i4, hi4⟩ : ∃ x, x = p.stack := ⟨_, rfl⟩
  have EQ2 : Hid (progVal s p = .agg #[.slice A1 n1 c1, .slice A2 n2 c2, .slice A3 n3 c3, .int .i64 i1, .int .i64 i2, .int .i64 i3, .int .i64 i4, .slice A4 n4 c4]) := by rw [Hid, EQ.out, hi1, hi2, hi3, hi4]
  rw [EQ2.out]
  clear hv hi1 hi2 hi3 hi4 HP0 EQ HV v
  obtain ⟨w0, hw0⟩ : ∃ x, x = w.alloc (.cells #[.slice A1 n1 c1, .slice A2 n2 c2, .slice A3 n3 c3, .int .i64 i1, .int .i64 i2, .int .i64 i3, .int .i64 i4, .slice A4 n4 c4] 26) := ⟨_, rfl⟩
  obtain ⟨g4, hg4⟩ : ∃ x, x = w.heap.size := ⟨_, rfl⟩
  have C0 : Hid (Chg (fun _ => False) w w0) := by rw [hw0]; exact (Chg.refl _ w).alloc _
  have B4 : Hid (Blk w0 g4 26 [.slice A1 n1 c1, .slice A2 n2 c2, .slice A3 n3 c3, .int .i64 i1, .int .i64 i2, .int .i64 i3, .int .i64 i4, .slice A4 n4 c4]) := by rw [hw0, hg4]; exact Blk.new _ _ _
  have G4 := Lib.hid hg4
  have hD4 : Hid (¬ D g4) := fun h => by
    have h1 := hu.out.lt _ h
    have h2 := G4.out
    omega
  by_cases h2 : 2 ≤ n
  · have d1 : ¬ (n : Int) - 1 < 1 := by omega
    have d2 : decide ((n : Int) - 1 < 1) = false := decide_eq_false (by omega)
    have dw : IntKind.i64.wrap ((n : Int) - 1) = (n : Int) - 1 := IntWalk.i64_in _ (by omega)
    go_enter Tryd.func27, Tryd.ntmps27
    go_wp2_with fail
    rw [← hw0, ← hg4]
    clear hw0 hg4
    go_loopw [8, 9, 17] (fun _ _ i wr => ∃ k : Nat, k ≤ n ∧ i = .int .i64 k ∧ Hid (∀ j (h : j < l.length), j < k → GoodI p l.length j l[j]) ∧ Hid (Uses wr D g p (L ++ l.take k)) ∧ Hid (Chg D w0 wr)) (fun _ _ i _ => n - (intOf i).toNat)
    case atStart => exact ⟨0, Nat.zero_le _, rfl, fun j h h' => absurd h' (by omega), by rw [Hid, List.take_zero, List.append_nil]; exact hu.out.chg0 C0.out, Chg.refl _ _⟩
    case round =>
      obtain ⟨k, hk, rfl, hg, UK, CK⟩ := hrel
      have CW : Hid (Chg D w wr) := (C0.out.mono (T := D) (fun _ _ h => h.elim)).trans CK.out (fun _ _ h => h)
      by_cases hlt : k < n
      · have h1 : k < l.length := by have := HN.out; omega
        obtain ⟨j0, j1, j2⟩ := insCells_get l k h1
        obtain ⟨a1, e1, hc1⟩ := hr.out wr CW.out _ _ j0
        obtain ⟨a2, e2, hc2⟩ := hr.out wr CW.out _ _ j1
        obtain ⟨a3, e3, hc3⟩ := hr.out wr CW.out _ _ j2
        subst e1
        cases e2
        cases e3
        obtain ⟨x, hx0⟩ : ∃ x, x = l[k] := ⟨_, rfl⟩
        rw [← hx0] at hc1 hc2 hc3
        rw [← add1] at hc2
        rw [← add2] at hc3
        have HX := Lib.hid hx0
        have f4 : ∀ i u, [Value.slice A1 n1 c1, .slice A2 n2 c2, .slice A3 n3 c3, .int .i64 i1, .int .i64 i2, .int .i64 i3, .int .i64 i4, .slice A4 n4 c4][i]? = some u → wr.cell? ⟨g4, i, none⟩ = some u := fun i u h => (B4.out.chg CK.out hD4.out).at_ h
        have B4r := Lib.hid (B4.out.chg CK.out hD4.out)
        clear f4 hx0 j0 j1 j2
        obtain ⟨xo, xa, xb⟩ := x
        simp only at hc1 hc2 hc3
        obtain ⟨wx, hwx⟩ : ∃ y, y = wr.alloc (.cells #[.int .i64 xo, .int .i64 xa, .int .i64 xb] 47) := ⟨_, rfl⟩
        obtain ⟨g9, hg9⟩ : ∃ y, y = wr.heap.size := ⟨_, rfl⟩
        have CX : Hid (Chg (fun _ => False) wr wx) := by rw [hwx]; exact (Chg.refl _ wr).alloc _
        have B9 : Hid (Blk wx g9 47 [.int .i64 xo, .int .i64 xa, .int .i64 xb]) := by rw [hwx, hg9]; exact Blk.new _ _ _
        have CWX : Hid (Chg D w wx) := CW.out.trans (CX.out.mono (T := D) (fun _ _ h => h.elim)) (fun _ _ h => h)
        have KX : Hid (KindsAt wx) := hs.out.k wx CWX.out
        have b1 : (0 : Int) ≤ (k : Int) := by omega
        have b2 : (k : Int) < (n : Int) := by omega
        obtain ⟨er, her⟩ : ∃ e, validE ⟨xo, xa, xb⟩ = e := ⟨_, rfl⟩
        have HER := Lib.hid her
        have hor : er = 0 ∨ er = 111 := by rw [← her]; exact validE_or _
        obtain ⟨z1, hz1⟩ : ∃ b, (xo == 0) = b := ⟨_, rfl⟩
        obtain ⟨z2, hz2⟩ : ∃ b, ((k : Int) == (n : Int) - 1) = b := ⟨_, rfl⟩
        have HZ1 := Lib.hid hz1
        have HZ2 := Lib.hid hz2
        have FIN : Hid ((z1 = z2) ↔ (xo = 0 ↔ k + 1 = l.length)) := Lib.hid (by
          rw [← hz1, ← hz2, Bool.eq_iff_iff]
          simp only [beq_iff_eq]
          rw [← HN.out]
          constructor
          · intro h
            exact ⟨fun e => by have := h.1 e; omega, fun e => h.2 (by omega)⟩
          · intro h
            exact ⟨fun e => by have := h.1 e; omega, fun e => h.2 (by omega)⟩)
        have NO : Hid (¬ GoodI p l.length k ⟨xo, xa, xb⟩ → false = b) := Lib.hid (fun h => b_false hb.out (fun h3 => h (by rw [HX.out]; exact h3.2 k h1)))
        clear her
        rcases hor with rfl | rfl
        · have HV : Hid (ValidP ⟨xo, xa, xb⟩) := validE_0.1 HER.out
          have ha0 : 0 ≤ xa := HV.out.2.1.1
          by_cases hzz : z1 = z2
          · obtain ⟨bi, hbi⟩ := some_b (InsP p ⟨xo, xa, xb⟩)
            have HBI := Lib.hid hbi
            have HFI := Lib.hid (FIN.out.1 hzz)
            subst hzz
            clear hbi
            cases bi
            · go_wp2_with fail
              rw [← hwx, ← hg9]
              clear hwx hg9
              refine (codeValid KX HER).mono ?_
              rintro e w2 ⟨rfl, cc⟩
              have CC : Hid (Chg (fun _ => False) wx w2) := cc
              clear cc
              have t0 := (B9.out.chg CC.out (fun h => h)).at_ (i := 0) rfl
              have t1 := (B9.out.chg CC.out (fun h => h)).at_ (i := 1) rfl
              have t2 := (B9.out.chg CC.out (fun h => h)).at_ (i := 2) rfl
              have B42 := Lib.hid ((B4r.out.chg CX.out (fun h => h)).chg CC.out (fun h => h))
              have y0 := B42.out.at_ (i := 0) rfl
              have y1 := B42.out.at_ (i := 1) rfl
              have y2 := B42.out.at_ (i := 2) rfl
              have y3 := B42.out.at_ (i := 3) rfl
              have y4 := B42.out.at_ (i := 4) rfl
              have y5 := B42.out.at_ (i := 5) rfl
              have y6 := B42.out.at_ (i := 6) rfl
              have y7 := B42.out.at_ (i := 7) rfl
              have CW2 : Hid (Chg D w w2) := CWX.out.trans (CC.out.mono (T := D) (fun _ _ h => h.elim)) (fun _ _ h => h)
              have U2 : Hid (Uses w2 D g p (L ++ l.take k)) := (UK.out.chg0 CX.out).chg0 CC.out
              go_wp2_with fail
              refine (show Calls Tryd.prog 53 #[.pointer (some ⟨g, 0, none⟩), .agg #[.slice A1 n1 c1, .slice A2 n2 c2, .slice A3 n3 c3, .int .i64 i1, .int .i64 i2, .int .i64 i3, .int .i64 i4, .slice A4 n4 c4], .agg #[.int .i64 xo, .int .i64 xa, .int .i64 xb]] _ _ from by rw [← EQ2.out]; exact usesIns (x := ⟨xo, xa, xb⟩) U2 (Lib.hid (hs.out.p w2 CW2.out)) ok ha0 HBI).mono ?_
              rintro e w3 ⟨rfl, _, c3'⟩
              have CW3 : Hid (Chg D w w3) := CW2.out.trans c3' (fun _ _ h => h)
              clear c3'
              go_wp2_with fail
              go_ret
              exact ⟨ret_bool (NO.out (fun h => absurd (HBI.out.2 h.ins) (by decide))), (fun h => by rw [← NO.out (fun h => absurd (HBI.out.2 h.ins) (by decide))] at h; cases h), CW3.out⟩
            · go_wp2_with fail
              rw [← hwx, ← hg9]
              clear hwx hg9
              refine (codeValid KX HER).mono ?_
              rintro e w2 ⟨rfl, cc⟩
              have CC : Hid (Chg (fun _ => False) wx w2) := cc
              clear cc
              have t0 := (B9.out.chg CC.out (fun h => h)).at_ (i := 0) rfl
              have t1 := (B9.out.chg CC.out (fun h => h)).at_ (i := 1) rfl
              have t2 := (B9.out.chg CC.out (fun h => h)).at_ (i := 2) rfl
              have B42 := Lib.hid ((B4r.out.chg CX.out (fun h => h)).chg CC.out (fun h => h))
              have y0 := B42.out.at_ (i := 0) rfl
              have y1 := B42.out.at_ (i := 1) rfl
              have y2 := B42.out.at_ (i := 2) rfl
              have y3 := B42.out.at_ (i := 3) rfl
              have y4 := B42.out.at_ (i := 4) rfl
              have y5 := B42.out.at_ (i := 5) rfl
              have y6 := B42.out.at_ (i := 6) rfl
              have y7 := B42.out.at_ (i := 7) rfl
              have CW2 : Hid (Chg D w w2) := CWX.out.trans (CC.out.mono (T := D) (fun _ _ h => h.elim)) (fun _ _ h => h)
              have U2 : Hid (Uses w2 D g p (L ++ l.take k)) := (UK.out.chg0 CX.out).chg0 CC.out
              go_wp2_with fail
              refine (show Calls Tryd.prog 53 #[.pointer (some ⟨g, 0, none⟩), .agg #[.slice A1 n1 c1, .slice A2 n2 c2, .slice A3 n3 c3, .int .i64 i1, .int .i64 i2, .int .i64 i3, .int .i64 i4, .slice A4 n4 c4], .agg #[.int .i64 xo, .int .i64 xa, .int .i64 xb]] _ _ from by rw [← EQ2.out]; exact usesIns (x := ⟨xo, xa, xb⟩) U2 (Lib.hid (hs.out.p w2 CW2.out)) ok ha0 HBI).mono ?_
              rintro e w3 ⟨rfl, hu3, c3'⟩
              have U3 := Lib.hid (hu3 rfl)
              have C03 : Hid (Chg D w0 w3) := ((CK.out.trans (CX.out.mono (T := D) (fun _ _ h => h.elim)) (fun _ _ h => h)).trans (CC.out.mono (T := D) (fun _ _ h => h.elim)) (fun _ _ h => h)).trans c3' (fun _ _ h => h)
              clear c3' hu3
              go_wp2_with fail
              go_roundw
              case rel =>
                refine ⟨k + 1, by omega, by go_num, fun j h hj => ?_, ?_, C03.out⟩
                · by_cases hjk : j < k
                  · exact hg.out j h hjk
                  · obtain rfl : j = k := by omega
                    rw [← HX.out]
                    exact ⟨HV.out, HFI.out, HBI.out.1 rfl⟩
                · rw [Hid, List.take_succ_eq_append_getElem h1, ← HX.out, ← List.append_assoc]
                  exact U3.out
              case measure => simp [intOf]; omega
          · have HNF : Hid (false = b) := NO.out (fun h => hzz (FIN.out.2 h.fin))
            go_wp2_with fail
            rw [← hwx, ← hg9]
            clear hwx hg9
            refine (codeValid KX HER).mono ?_
            rintro e w2 ⟨rfl, cc⟩
            have CC : Hid (Chg (fun _ => False) wx w2) := cc
            clear cc
            have t0 := (B9.out.chg CC.out (fun h => h)).at_ (i := 0) rfl
            have CW2 : Hid (Chg D w w2) := CWX.out.trans (CC.out.mono (T := D) (fun _ _ h => h.elim)) (fun _ _ h => h)
            go_wp2_with fail
            go_ret
            exact ⟨ret_bool HNF.out, (fun h => by rw [← HNF.out] at h; cases h), CW2.out⟩
        · have HNF : Hid (false = b) := NO.out (fun h => by have h3 := validE_0.2 h.valid; rw [HER.out] at h3; exact absurd h3 (by decide))
          go_wp2_with fail
          rw [← hwx, ← hg9]
          clear hwx hg9
          refine (codeValid KX HER).mono ?_
          rintro e w2 ⟨rfl, cc⟩
          have CW2 : Hid (Chg D w w2) := CWX.out.trans (Chg.mono (T := D) cc (fun _ _ h => h.elim)) (fun _ _ h => h)
          clear cc
          go_wp2_with fail
          go_ret
          exact ⟨ret_bool HNF.out, (fun h => by rw [← HNF.out] at h; cases h), CW2.out⟩
      · obtain rfl : k = n := by omega
        have HT : Hid (true = b) := b_true hb.out ⟨by rw [← HN.out]; exact h2, fun i h => hg.out i h (by rw [HN.out]; exact h)⟩
        go_wp2_with fail
        go_ret
        refine ⟨ret_bool HT.out, fun _ => ?_, CW.out⟩
        have h3 := UK.out
        rw [List.take_of_length_le (by rw [HN.out]; exact Nat.le_refl _)] at h3
        exact h3
  · have d1 : (n : Int) - 1 < 1 := by omega
    have d2 : decide ((n : Int) - 1 < 1) = true := decide_eq_true (by omega)
    have dw : IntKind.i64.wrap ((n : Int) - 1) = (n : Int) - 1 := IntWalk.i64_in _ (by omega)
    have HF : Hid (false = b) := b_false hb.out (fun h => h2 (by rw [HN.out]; exact h.1))
    clear h2
    go_enter Tryd.func27, Tryd.ntmps27
    go_wp2_with fail
    rw [← hw0]
    go_ret
    exact ⟨ret_bool HF.out, (fun h => by rw [← HF.out] at h; cases h), C0.out.mono (fun _ _ h => h.elim)⟩
end Go.Proofs.YtkadamoofiddeaaDoor.Kit
-- Canonical programs: image.Canon.
set_option linter.unusedVariables false
set_option linter.unusedSimpArgs false
namespace Go.Proofs.YtkadamoofiddeaaDoor.Kit
open Go.RowKit
set_option maxRecDepth 20000 in
set_option maxHeartbeats 1600000 in
/-- does a list of bools hold a false? -/
theorem hasFalse {A : Option Addr} {n c : Nat} {l : List Bool} {w : World} {b : Bool} (HN : Hid (n = l.length)) (hn : n ≤ 140737488355328) (hr : Hid (RdG w A (bls l))) (hb : Hid (IsB b (∀ x ∈ l, x = true))) :
    Calls Tryd.prog 28 #[.slice A n c, .bool false] w fun e w' => e = .returned (.bool (!b)) ∧ w = w' := by
  have key : Calls Tryd.prog 54 #[.slice A n c, .bool false] w fun e w' => (∃ q : Int, e = .returned (.int .i64 q) ∧ decide (0 ≤ q) = !b) ∧ w = w' := by
    go_enter Tryd.func54, Tryd.ntmps54
    go_wp2
    go_loop [5, 8] (fun _ i => ∃ q : Nat, q ≤ n ∧ i = .int .i64 q ∧ Hid (∀ i (h : i < l.length), i < q → l[i] = true)) (fun _ i => n - (intOf i).toNat)
    case atStart => exact ⟨0, Nat.zero_le _, rfl, fun i h h' => absurd h' (by omega)⟩
    case round =>
      obtain ⟨q, hq, rfl, ht⟩ := hrel
      by_cases hlt : q < n
      · have h1 : q < l.length := by have := HN.out; omega
        obtain ⟨a1, rfl, hc1⟩ := hr.out q _ (bls_get l q h1)
        obtain ⟨x, hx0⟩ : ∃ x, x = l[q] := ⟨_, rfl⟩
        rw [← hx0] at hc1
        have HX := Lib.hid hx0
        have b1 : (0 : Int) ≤ (q : Int) := by omega
        have b2 : (q : Int) < (n : Int) := by omega
        clear hx0
        cases x
        · go_wp2_with fail
          go_ret
          refine ⟨⟨_, rfl, ?_⟩, rfl⟩
          have hf : false = b := b_false hb.out (fun h => by have h3 := h _ (List.getElem_mem h1); rw [← HX.out] at h3; cases h3)
          rw [← hf]
          simp
        · go_wp2_with fail
          go_round
          case rel =>
            refine ⟨q + 1, by omega, by go_num, fun i h hi => ?_⟩
            by_cases hiq : i < q
            · exact ht.out i h hiq
            · obtain rfl : i = q := by omega
              exact HX.out.symm
          case measure => simp [intOf]; omega
      · go_wp2
        go_ret
        refine ⟨⟨_, rfl, ?_⟩, rfl⟩
        have hf : true = b := b_true hb.out (fun s hs => by
          obtain ⟨i, hi, rfl⟩ := List.getElem_of_mem hs
          exact ht.out i hi (by have := HN.out; omega))
        rw [← hf]
        rfl
  go_enter Tryd.func28, Tryd.ntmps28
  go_wp2_with fail
  refine key.mono ?_
  rintro e w1 ⟨⟨q, rfl, hq⟩, rfl⟩
  have HQ := Lib.hid hq
  obtain ⟨b', hb'⟩ : ∃ b', decide (0 ≤ q) = b' := ⟨_, rfl⟩
  have HB' := Lib.hid hb'
  clear hq
  cases b'
  · have h3 : q < 0 := by have := of_decide_eq_false hb'; omega
    clear hb'
    go_wp2_with fail
    go_ret
    exact ⟨ret_bool (by rw [← HQ.out, HB'.out]), rfl⟩
  · have h3 : 0 ≤ q := of_decide_eq_true hb'
    clear hb'
    go_wp2_with fail
    go_ret
    exact ⟨ret_bool (by rw [← HQ.out, HB'.out]), rfl⟩
/-- the day ahead of the i-th -/
def dayAhead (p : ProgV) : Nat → Int
  | 0 => -1
  | i + 1 => (p.days[i]?.map SegV.day).getD 0
/-- how many instructions the first k days have -/
def codeLen (p : ProgV) (k : Nat) : Nat := ((p.days.take k).map fun x => x.code.length).sum
def codeOf (p : ProgV) (k : Nat) : List InsV := (p.days.take k).flatMap SegV.code
structure GoodD (p : ProgV) (i : Nat) (x : SegV) : Prop where
  up : dayAhead p i < x.day
  le : x.day ≤ p.horizon
  len : codeLen p (i + 1) ≤ 262144
  code : DayP p x.code
/-- a program in its one form -/
structure CanonP (p : ProgV) : Prop where
  lists : ListsP p
  days : ∀ i (h : i < p.days.length), GoodD p i p.days[i]
  names : ∀ x ∈ namedBy p.names.length 3 (codeOf p p.days.length), x = true
  curs : ∀ x ∈ namedBy p.curs.length 28 (codeOf p p.days.length), x = true
  pool : ∀ x ∈ namedBy p.pool.length 1 (codeOf p p.days.length), x = true
/-- which of the names, currencies, constants are named -/
def rowOf (p : ProgV) : Nat → List Bool
  | 0 => namedBy p.names.length 3 (codeOf p p.days.length)
  | 1 => namedBy p.curs.length 28 (codeOf p p.days.length)
  | _ => namedBy p.pool.length 1 (codeOf p p.days.length)
theorem CanonP.rows {p : ProgV} (h : CanonP p) (k : Nat) (hk : k < 3) : ∀ x ∈ rowOf p k, x = true := by
  have hk3 : k = 0 ∨ k = 1 ∨ k = 2 := by omega
  rcases hk3 with rfl | rfl | rfl
  · exact h.names
  · exact h.curs
  · exact h.pool
theorem codeLen_succ {p : ProgV} {k : Nat} (h : k < p.days.length) : codeLen p (k + 1) = codeLen p k + p.days[k].code.length := by
  unfold codeLen
  rw [List.take_succ_eq_append_getElem h, List.map_append, List.sum_append]
  simp
theorem codeOf_succ {p : ProgV} {k : Nat} (h : k < p.days.length) : codeOf p (k + 1) = codeOf p k ++ p.days[k].code := by
  unfold codeOf
  rw [List.take_succ_eq_append_getElem h, List.flatMap_append]
  simp
theorem infoBool : (Tryd.prog.info? 4).map (fun i => (i.zero, i.size, i.bytes)) = some (some (.bool false), 1, 1) := by kernel_rfl
/-- a row of bools that was made -/
theorem OwnV.made1 (W : World) (e : TypeId) (n b : Nat) (hb : b = W.heap.size) (hm : n ≤ maxLen) : OwnV (W.alloc (.cells (madeCells #[.bool false] n) e)) e 1 (.slice (some ⟨b, 0, none⟩) n n) n (bls (List.replicate n false)) := by
  subst hb
  refine ⟨by rw [bls_length, List.length_replicate, Nat.mul_one], .inr ⟨W.heap.size, n, (madeCells #[.bool false] n).toList, rfl, Blk.new W _ e, Nat.le_refl _, hm, ?_, ?_⟩⟩
  · rw [Array.length_toList, size_madeCells]
    omega
  · rw [toList_madeCells_one, Nat.mul_one, List.take_of_length_le (by simp)]
    simp [bls]
theorem OwnV.alloc1 {W : World} {e : TypeId} {sz n : Nat} {v : Value} {cs : List Value} (h : OwnV W e sz v n cs) (o : Obj) : OwnV (W.alloc o) e sz v n cs := h.chg (S := fun _ => False) ((Chg.refl _ W).alloc o) (fun _ _ h => h)
theorem namedBy_nil (n : Nat) (o : Int) : namedBy n o [] = List.replicate n false := by
  apply List.ext_getElem
  · simp [namedBy]
  · intro i h1 h2
    simp [namedBy]
/-- a new box of lists, none named -/
theorem Uses.start {W W3 : World} {p : ProgV} {b1 b2 b3 g n1 n2 n3 : Nat} (LN : n1 = p.names.length) (LC : n2 = p.curs.length) (LK : n3 = p.pool.length) (hb : Blk W g 58 [.slice (some ⟨b1, 0, none⟩) n1 n1, .slice (some ⟨b2, 0, none⟩) n2 n2, .slice (some ⟨b3, 0, none⟩) n3 n3])
    (h1 : OwnV W3 4 1 (.slice (some ⟨b1, 0, none⟩) n1 n1) n1 (bls (List.replicate n1 false))) (h2 : OwnV W3 4 1 (.slice (some ⟨b2, 0, none⟩) n2 n2) n2 (bls (List.replicate n2 false))) (h3 : OwnV W3 4 1 (.slice (some ⟨b3, 0, none⟩) n3 n3) n3 (bls (List.replicate n3 false)))
    (c3 : Chg (fun _ => False) W3 W) (hd : b1 ≠ b2 ∧ b1 ≠ b3 ∧ b2 ≠ b3) (hl : b1 < g ∧ b2 < g ∧ b3 < g) (hg : g < W.heap.size) : Uses W (fun y => y = b1 ∨ y = b2 ∨ y = b3) g p [] := by
  subst LN LC LK
  refine ⟨⟨_, _, _, _, _, _, hb, ?_, ?_, ?_, ?_, ?_, ?_, ?_, ?_, ?_⟩, ?_, ?_⟩
  · rw [namedBy_nil]; exact h1.chg c3 (fun _ _ h => h)
  · rw [namedBy_nil]; exact h2.chg c3 (fun _ _ h => h)
  · rw [namedBy_nil]; exact h3.chg c3 (fun _ _ h => h)
  · intro a b ha hb'; injection ha with ha; injection hb' with hb'; subst ha hb'; exact hd.1
  · intro a b ha hb'; injection ha with ha; injection hb' with hb'; subst ha hb'; exact hd.2.1
  · intro a b ha hb'; injection ha with ha; injection hb' with hb'; subst ha hb'; exact hd.2.2
  · intro a ha; injection ha with ha; subst ha; exact .inl rfl
  · intro a ha; injection ha with ha; subst ha; exact .inr (.inl rfl)
  · intro a ha; injection ha with ha; subst ha; exact .inr (.inr rfl)
  · rintro (h | h | h) <;> omega
  · rintro y (h | h | h) <;> omega
theorem Uses.start' {W3 : World} {p : ProgV} {b1 b2 b3 g n1 n2 n3 : Nat} (LN : n1 = p.names.length) (LC : n2 = p.curs.length) (LK : n3 = p.pool.length)
    (h1 : OwnV W3 4 1 (.slice (some ⟨b1, 0, none⟩) n1 n1) n1 (bls (List.replicate n1 false))) (h2 : OwnV W3 4 1 (.slice (some ⟨b2, 0, none⟩) n2 n2) n2 (bls (List.replicate n2 false))) (h3 : OwnV W3 4 1 (.slice (some ⟨b3, 0, none⟩) n3 n3) n3 (bls (List.replicate n3 false)))
    (hg : g = W3.heap.size) (hd : b1 ≠ b2 ∧ b1 ≠ b3 ∧ b2 ≠ b3) (hl : b1 < g ∧ b2 < g ∧ b3 < g) : Uses ((W3.alloc (.cells #[.slice (some ⟨b1, 0, none⟩) n1 n1, .slice (some ⟨b2, 0, none⟩) n2 n2, .slice (some ⟨b3, 0, none⟩) n3 n3] 58)).drew) (fun y => y = b1 ∨ y = b2 ∨ y = b3) g p [] := by
  have c3 : Chg (fun _ => False) W3 ((W3.alloc (.cells #[.slice (some ⟨b1, 0, none⟩) n1 n1, .slice (some ⟨b2, 0, none⟩) n2 n2, .slice (some ⟨b3, 0, none⟩) n3 n3] 58)).drew) := ((Chg.refl _ _).alloc _).drew
  have hb : Blk (W3.alloc (.cells #[.slice (some ⟨b1, 0, none⟩) n1 n1, .slice (some ⟨b2, 0, none⟩) n2 n2, .slice (some ⟨b3, 0, none⟩) n3 n3] 58)) g 58 [.slice (some ⟨b1, 0, none⟩) n1 n1, .slice (some ⟨b2, 0, none⟩) n2 n2, .slice (some ⟨b3, 0, none⟩) n3 n3] := by rw [hg]; exact Blk.new _ _ _
  refine Uses.start LN LC LK (hb.chg (S := fun _ => False) ((Chg.refl _ _).drew) (fun h => h)) h1 h2 h3 c3 hd hl ?_
  rw [hg]
  simp
/-- Canon's answer -/
def canonE (p : ProgV) (er : Int) : Prop := (CanonP p → er = 0) ∧ (¬ CanonP p → er = 121)
theorem run_makeB {P : Program} (t e : TypeId) (ht : P.underlying t = some (.slice e)) (hinfo : (P.info? e).map (fun i => (i.zero, i.size, i.bytes)) = some (some (.bool false), 1, 1)) (n : Nat) (hn : n ≤ 140737488355328) (W : World) :
    (Instr.makeSlice t (.int .i64 (n : Int)) (.int .i64 (n : Int))).run P W = .ok (.slice (some ⟨W.heap.size, 0, none⟩) n n) (W.alloc (.cells (madeCells #[.bool false] n) e)) :=
  run_make_row' (P := P) t e (.bool false) 1 ht hinfo rfl .i64 .i64 n (by omega) (by omega) W
set_option maxRecDepth 20000 in
set_option maxHeartbeats 6400000 in
theorem imageCanon {s : ProgS} {p : ProgV} {w : World} {er : Int} (hp : Hid (RdProg w s p)) (ok : Hid (ProgOk p)) (hk0 : Hid (KindsAt w)) (he : Hid (canonE p er)) :
    Calls Tryd.prog 10 #[progVal s p] w fun e w' => e = .returned (.int .i64 er) ∧ Chg (fun _ => False) w w' := by
  obtain ⟨n1, n2, n3, n4, A1, A2, A3, A4, c1, c2, c3, c4, HP0⟩ := hp.out.apart
  have HP := Lib.hid HP0
  obtain ⟨i1, hi1⟩ : ∃ x, x = p.horizon := ⟨_, rfl⟩
  obtain ⟨i2, hi2⟩ : ∃ x, x = p.cells := ⟨_, rfl⟩
  obtain ⟨i3, hi3⟩ : ∃ x, x = p.slots := ⟨_, rfl⟩
  obtain ⟨i4, hi4⟩ : ∃ x, x = p.stack := ⟨_, rfl⟩
  have EQ2 : Hid (progVal s p = .agg #[.slice A1 n1 c1, .slice A2 n2 c2, .slice A3 n3 c3, .int .i64 i1, .int .i64 i2, .int .i64 i3, .int .i64 i4, .slice A4 n4 c4]) := by rw [Hid, HP0.eq, hi1, hi2, hi3, hi4]
  rw [EQ2.out]
  have S1 : n1 ≤ 140737488355328 := by have := HP0.ln; have := ok.out.small.names; omega
  have S2 : n2 ≤ 140737488355328 := by have := HP0.lc; have := ok.out.small.curs; omega
  have S3 : n3 ≤ 140737488355328 := by have := HP0.lk; have := ok.out.small.pool; omega
  have S4 : n4 * 32 ≤ 140737488351232 := by have := HP0.ld; have := ok.out.small.days; omega
  have SC : Hid (∀ x ∈ p.days, x.code.length * 24 ≤ 140737488351232) := ok.out.small.code
  have LN := Lib.hid HP0.ln
  have LC := Lib.hid HP0.lc
  have LK := Lib.hid HP0.lk
  have LD := Lib.hid HP0.ld
  have HI := Lib.hid hi1
  clear hi1 hi2 hi3 hi4 HP0
  obtain ⟨w0, hw0⟩ : ∃ x, x = w.alloc (.cells #[.slice A1 n1 c1, .slice A2 n2 c2, .slice A3 n3 c3, .int .i64 i1, .int .i64 i2, .int .i64 i3, .int .i64 i4, .slice A4 n4 c4] 26) := ⟨_, rfl⟩
  obtain ⟨g1, hg1⟩ : ∃ x, x = w.heap.size := ⟨_, rfl⟩
  have C0 : Hid (Chg (fun _ => False) w w0) := by rw [hw0]; exact (Chg.refl _ w).alloc _
  have B1 : Hid (Blk w0 g1 26 [.slice A1 n1 c1, .slice A2 n2 c2, .slice A3 n3 c3, .int .i64 i1, .int .i64 i2, .int .i64 i3, .int .i64 i4, .slice A4 n4 c4]) := by rw [hw0, hg1]; exact Blk.new _ _ _
  have G1 := Lib.hid hg1
  obtain ⟨bl, hbl⟩ := some_b (ListsP p)
  have HBL := Lib.hid hbl
  clear hbl
  cases bl
  · have HZ : Hid ((121 : Int) = er) := (he.out.2 (fun h => absurd (HBL.out.2 h.lists) (by decide))).symm
    go_enter Tryd.func10, Tryd.ntmps10
    go_wp2_with fail
    rw [← hw0, ← hg1]
    clear hw0 hg1
    refine (show Calls Tryd.prog 26 #[.agg #[.slice A1 n1 c1, .slice A2 n2 c2, .slice A3 n3 c3, .int .i64 i1, .int .i64 i2, .int .i64 i3, .int .i64 i4, .slice A4 n4 c4]] _ _ from by rw [← EQ2.out]; exact imageLists (Lib.hid (hp.out.chg0 C0.out)) ok HBL).mono ?_
    rintro e wl ⟨rfl, cl⟩
    have CL : Hid (Chg (fun _ => False) w wl) := C0.out.trans cl (fun _ _ h => h)
    clear cl
    go_wp2_with fail
    go_ret
    exact ⟨ret_i HZ.out, CL.out⟩
  · have HLP : Hid (ListsP p) := HBL.out.1 rfl
    obtain ⟨ob1, hob1⟩ : ∃ o, o = Obj.cells (madeCells #[.bool false] n1) 4 := ⟨_, rfl⟩
    obtain ⟨ob2, hob2⟩ : ∃ o, o = Obj.cells (madeCells #[.bool false] n2) 4 := ⟨_, rfl⟩
    obtain ⟨ob3, hob3⟩ : ∃ o, o = Obj.cells (madeCells #[.bool false] n3) 4 := ⟨_, rfl⟩
    have m1 : ∀ W : World, (Instr.makeSlice 32 (.int .i64 (n1 : Int)) (.int .i64 (n1 : Int))).run Tryd.prog W = .ok (.slice (some ⟨W.heap.size, 0, none⟩) n1 n1) (W.alloc ob1) := fun W => by rw [hob1]; exact run_makeB _ _ Tryd.underlying32 infoBool n1 S1 W
    have m2 : ∀ W : World, (Instr.makeSlice 32 (.int .i64 (n2 : Int)) (.int .i64 (n2 : Int))).run Tryd.prog W = .ok (.slice (some ⟨W.heap.size, 0, none⟩) n2 n2) (W.alloc ob2) := fun W => by rw [hob2]; exact run_makeB _ _ Tryd.underlying32 infoBool n2 S2 W
    have m3 : ∀ W : World, (Instr.makeSlice 32 (.int .i64 (n3 : Int)) (.int .i64 (n3 : Int))).run Tryd.prog W = .ok (.slice (some ⟨W.heap.size, 0, none⟩) n3 n3) (W.alloc ob3) := fun W => by rw [hob3]; exact run_makeB _ _ Tryd.underlying32 infoBool n3 S3 W
    have O1 : Hid (∀ (W : World) (b : Nat), b = W.heap.size → OwnV (W.alloc ob1) 4 1 (.slice (some ⟨b, 0, none⟩) n1 n1) n1 (bls (List.replicate n1 false))) := fun W b hb => by rw [hob1]; exact OwnV.made1 W _ n1 b hb (Nat.le_trans S1 (by decide))
    have O2 : Hid (∀ (W : World) (b : Nat), b = W.heap.size → OwnV (W.alloc ob2) 4 1 (.slice (some ⟨b, 0, none⟩) n2 n2) n2 (bls (List.replicate n2 false))) := fun W b hb => by rw [hob2]; exact OwnV.made1 W _ n2 b hb (Nat.le_trans S2 (by decide))
    have O3 : Hid (∀ (W : World) (b : Nat), b = W.heap.size → OwnV (W.alloc ob3) 4 1 (.slice (some ⟨b, 0, none⟩) n3 n3) n3 (bls (List.replicate n3 false))) := fun W b hb => by rw [hob3]; exact OwnV.made1 W _ n3 b hb (Nat.le_trans S3 (by decide))
    clear hob1 hob2 hob3
    go_enter Tryd.func10, Tryd.ntmps10
    go_wp2_with fail
    rw [← hw0, ← hg1]
    clear hw0 hg1
    refine (show Calls Tryd.prog 26 #[.agg #[.slice A1 n1 c1, .slice A2 n2 c2, .slice A3 n3 c3, .int .i64 i1, .int .i64 i2, .int .i64 i3, .int .i64 i4, .slice A4 n4 c4]] _ _ from by rw [← EQ2.out]; exact imageLists (Lib.hid (hp.out.chg0 C0.out)) ok HBL).mono ?_
    rintro e wl ⟨rfl, cl⟩
    have CL : Hid (Chg (fun _ => False) w wl) := C0.out.trans cl (fun _ _ h => h)
    have BL : Hid (Blk wl g1 26 [.slice A1 n1 c1, .slice A2 n2 c2, .slice A3 n3 c3, .int .i64 i1, .int .i64 i2, .int .i64 i3, .int .i64 i4, .slice A4 n4 c4]) := B1.out.chg cl (fun h => h)
    clear cl C0 B1
    go_upto_region 3 with fail
    have TA : Hid (∀ W, Chg (fun _ => False) wl W → W.cell? ⟨g1, 0, none⟩ = some (.slice A1 n1 c1) ∧ W.cell? ⟨g1, 1, none⟩ = some (.slice A2 n2 c2) ∧ W.cell? ⟨g1, 2, none⟩ = some (.slice A3 n3 c3)) := fun W cW => ⟨(BL.out.chg cW (fun h => h)).at_ (i := 0) rfl, (BL.out.chg cW (fun h => h)).at_ (i := 1) rfl, (BL.out.chg cW (fun h => h)).at_ (i := 2) rfl⟩
    go_cut [3] from 10 to 26 (fun v wx => ∃ gU, ∃ D : Nat → Prop, v = .pointer (some ⟨gU, 0, none⟩) ∧ Hid (Uses wx D gU p []) ∧ Hid (∀ y, D y → wl.heap.size ≤ y) ∧ Hid (wl.heap.size ≤ gU) ∧ Hid (Chg (fun _ => False) wl wx))
    case first =>
      go_region_held3 (fun w' => w'.cell? ⟨g1, 0, none⟩ = some (.slice A1 n1 c1) ∧ w'.cell? ⟨g1, 1, none⟩ = some (.slice A2 n2 c2) ∧ w'.cell? ⟨g1, 2, none⟩ = some (.slice A3 n3 c3)) (exact TA.out _ (by repeat (first | exact Chg.refl _ _ | refine Chg.drew ?_ | refine Chg.drewN ?_ _ | refine Chg.alloc ?_ _))) (first | fail)
      all_goals
        go_wp2_with fail
        go_meet
        case rel =>
          refine ⟨wl.heap.size + 1 + 1 + 1, _, rfl, Uses.start' LN.out LC.out LK.out ?_ ?_ ?_ (by simp) (by omega) (by omega), ?_, ?_, ?_⟩
          · first | exact O1.out _ _ (by simp) | exact (O1.out _ _ (by simp)).alloc1 _ | exact ((O1.out _ _ (by simp)).alloc1 _).alloc1 _
          · first | exact O2.out _ _ (by simp) | exact (O2.out _ _ (by simp)).alloc1 _ | exact ((O2.out _ _ (by simp)).alloc1 _).alloc1 _
          · first | exact O3.out _ _ (by simp) | exact (O3.out _ _ (by simp)).alloc1 _ | exact ((O3.out _ _ (by simp)).alloc1 _).alloc1 _
          · rintro y (h | h | h) <;> omega
          · rw [Hid]; omega
          · exact (show Chg (fun _ => False) wl _ from by repeat (first | exact Chg.refl _ _ | refine Chg.drew ?_ | refine Chg.alloc ?_ _))
    case rest =>
      obtain ⟨gU, D, rfl, UA, GE, GU, CA⟩ := hcut
      have HD : Hid (∀ W, Chg D wl W → Chg (fun _ => False) wl W) := fun W cW => cW.mono (fun y hy h => absurd (GE.out y h) (by omega))
      have RDA : Hid (∀ W, Chg (fun _ => False) wl W → RdDays W A4 p.days s.codes) := fun W cW => (HP.out.chg0 (CL.out.trans cW (fun _ _ h => h))).rd
      have YA : Hid (∀ W, Chg (fun _ => False) wl W → W.cell? ⟨g1, 7, none⟩ = some (.slice A4 n4 c4)) := fun W cW => (BL.out.chg cW (fun h => h)).at_ (i := 7) rfl
      have y7 := YA.out _ CA.out
      obtain ⟨wa, hwa⟩ : ∃ x, x = wc := ⟨_, rfl⟩
      subst hwa
      go_upto_block 0 with fail
      go_cut [4, 5, 7] from 27 to 64 (fun _ _ _ wx => Hid (∀ i (h : i < p.days.length), GoodD p i p.days[i]) ∧ Hid (Uses wx D gU p (codeOf p p.days.length)) ∧ Hid (Chg (fun _ => False) wl wx))
      case first =>
        go_wp2_with fail
        clear y7
        go_loopw [4, 5, 7, 30] (fun cv lv _ i wr => ∃ k cs : Nat, ∃ la : Int, k ≤ n4 ∧ cv = .int .i64 cs ∧ lv = .int .i64 la ∧ i = .int .i64 k ∧ cs ≤ 262144 ∧ Hid (cs = codeLen p k) ∧ Hid (la = dayAhead p k) ∧ Hid (∀ j (h : j < p.days.length), j < k → GoodD p j p.days[j]) ∧ Hid (Uses wr D gU p (codeOf p k)) ∧ Hid (Chg (fun _ => False) wl wr)) (fun _ _ _ i _ => n4 - (intOf i).toNat)
        case atStart => exact ⟨0, 0, -1, Nat.zero_le _, rfl, rfl, rfl, by omega, by rw [Hid]; simp [codeLen], rfl, fun j h h' => absurd h' (by omega), by rw [Hid]; exact UA.out, CA.out⟩
        case round =>
          obtain ⟨k, cs, la, hk, rfl, rfl, rfl, hcs, HCS, HLA, hg, UK, CK⟩ := hrel
          by_cases hlt : k < n4
          · have h1 : k < p.days.length := by have := LD.out; omega
            obtain ⟨ad, B, nn, cc, e0, f1a, f2a, l1, l2, l3, l4⟩ := (RDA.out _ (Chg.refl _ _)).at_ h1
            subst e0
            have f1 := CK.out.cell (fun h => h) f1a
            have f2 := CK.out.cell (p := ⟨(ad.add (k * 2)).block, (ad.add (k * 2)).off + 1, none⟩) (fun h => h) f2a
            clear f1a f2a
            obtain ⟨x, hx0⟩ : ∃ x, x = p.days[k] := ⟨_, rfl⟩
            have hsz := SC.out _ (List.getElem_mem h1)
            rw [← hx0] at f1 l1 l4 hsz
            have HX := Lib.hid hx0
            have L1 := Lib.hid l1
            have L4 := Lib.hid l4
            obtain ⟨dx, cx⟩ := x
            simp only at f1 l1 l4 hsz
            have hnn : nn ≤ 140737488355328 := by rw [l1]; omega
            have NO : Hid (¬ GoodD p k ⟨dx, cx⟩ → (121 : Int) = er) := fun h => (he.out.2 (fun hc => h (by rw [HX.out]; exact hc.days k h1))).symm
            have b1 : (0 : Int) ≤ (k : Int) := by omega
            have b2 : (k : Int) < (n4 : Int) := by omega
            have HC1 : Hid (cs + nn = codeLen p (k + 1)) := by rw [Hid, codeLen_succ h1, ← HX.out, HCS.out, L1.out]
            have dw : IntKind.i64.wrap ((cs : Int) + (nn : Int)) = (cs : Int) + (nn : Int) := IntWalk.i64_in _ (by omega)
            obtain ⟨wx, hwx⟩ : ∃ y, y = wr.alloc (.cells #[.int .i64 dx, .slice B nn cc] 42) := ⟨_, rfl⟩
            have CX : Hid (Chg (fun _ => False) wr wx) := by rw [hwx]; exact (Chg.refl _ wr).alloc _
            have B7 : Hid (Blk wx wr.heap.size 42 [.int .i64 dx, .slice B nn cc]) := by rw [hwx]; exact Blk.new _ _ _
            have CLX : Hid (Chg (fun _ => False) wl wx) := CK.out.trans CX.out (fun _ _ h => h)
            have BX := BL.out.chg CLX.out (fun h => h)
            have y0 := BX.at_ (i := 0) rfl
            have y1 := BX.at_ (i := 1) rfl
            have y2 := BX.at_ (i := 2) rfl
            have y3 := BX.at_ (i := 3) rfl
            have y4 := BX.at_ (i := 4) rfl
            have y5 := BX.at_ (i := 5) rfl
            have y6 := BX.at_ (i := 6) rfl
            have y7 := BX.at_ (i := 7) rfl
            clear BX
            rw [hwx] at y0 y1 y2 y3 y4 y5 y6 y7
            clear hx0 l1 l4
            by_cases q1 : dx ≤ la
            · have HE : Hid ((121 : Int) = er) := NO.out (fun h => by have := h.up; rw [← HLA.out] at this; exact absurd q1 (by show ¬ dx ≤ la; simp only at this; omega))
              have d1 : decide (dx ≤ la) = true := decide_eq_true q1
              go_wp2_with fail
              rw [← hwx]
              go_ret
              exact ⟨ret_i HE.out, CL.out.trans CLX.out (fun _ _ h => h)⟩
            · have d1 : decide (dx ≤ la) = false := decide_eq_false q1
              by_cases q2 : i1 < dx
              · have HE : Hid ((121 : Int) = er) := NO.out (fun h => by have := h.le; rw [← HI.out] at this; exact absurd q2 (by show ¬ i1 < dx; simp only at this; omega))
                have d2 : decide (i1 < dx) = true := decide_eq_true q2
                go_wp2_with fail
                rw [← hwx]
                go_ret
                exact ⟨ret_i HE.out, CL.out.trans CLX.out (fun _ _ h => h)⟩
              · have d2 : decide (i1 < dx) = false := decide_eq_false q2
                by_cases q3 : (262144 : Int) < (cs : Int) + (nn : Int)
                · have HE : Hid ((121 : Int) = er) := NO.out (fun h => by have := h.len; rw [← HC1.out] at this; omega)
                  have d3 : decide ((262144 : Int) < (cs : Int) + (nn : Int)) = true := decide_eq_true q3
                  go_wp2_with fail
                  rw [← hwx]
                  go_ret
                  exact ⟨ret_i HE.out, CL.out.trans CLX.out (fun _ _ h => h)⟩
                · have d3 : decide ((262144 : Int) < (cs : Int) + (nn : Int)) = false := decide_eq_false q3
                  have UX : Hid (Uses wx D gU p (codeOf p k)) := UK.out.chg0 CX.out
                  have KD : Hid (∀ W, Chg D wx W → Chg (fun _ => False) wl W) := fun W cW => HD.out W ((CLX.out.mono (T := D) (fun _ _ h => h.elim)).trans cW (fun _ _ h => h))
                  have ST : Hid (Stay wx D s p) := ⟨fun W cW => hp.out.chg0 (CL.out.trans (KD.out W cW) (fun _ _ h => h)), fun W cW => hk0.out.chg0 (CL.out.trans (KD.out W cW) (fun _ _ h => h))⟩
                  have RX : Hid (∀ W, Chg D wx W → RdG W B (insCells cx)) := fun W cW => by
                    exact L4.out.chg0 (KD.out W cW)
                  obtain ⟨bd, hbd⟩ := some_b (DayP p cx)
                  have HBD := Lib.hid hbd
                  clear hbd
                  cases bd
                  all_goals
                    go_wp2_with fail
                    rw [← hwx]
                    clear hwx y0 y1 y2 y3 y4 y5 y6 y7
                    refine (show Calls Tryd.prog 27 #[.pointer (some ⟨gU, 0, none⟩), .agg #[.slice A1 n1 c1, .slice A2 n2 c2, .slice A3 n3 c3, .int .i64 i1, .int .i64 i2, .int .i64 i3, .int .i64 i4, .slice (some ad) n4 c4], .slice B nn cc] _ _ from by rw [← EQ2.out]; exact usesDay UX ST ok L1 hnn RX HBD).mono ?_
                    rintro e w2 ⟨rfl, hu2, c2⟩
                  · have C2 : Hid (Chg (fun _ => False) wl w2) := KD.out w2 c2
                    clear c2 hu2
                    have HE : Hid ((121 : Int) = er) := NO.out (fun h => absurd (HBD.out.2 h.code) (by decide))
                    go_wp2_with fail
                    go_ret
                    exact ⟨ret_i HE.out, CL.out.trans C2.out (fun _ _ h => h)⟩
                  · have C2 : Hid (Chg (fun _ => False) wl w2) := KD.out w2 c2
                    have U2 := Lib.hid (hu2 rfl)
                    have g70 := (B7.out.chg c2 (fun hy => Nat.lt_irrefl _ (UK.out.lt _ hy))).at_ (i := 0) rfl
                    clear c2 hu2
                    go_wp2_with fail
                    go_roundw
                    case rel =>
                      refine ⟨k + 1, cs + nn, dx, by omega, by go_num, rfl, by go_num, by omega, HC1.out, ?_, fun j h hj => ?_, ?_, C2.out⟩
                      · show dx = dayAhead p (k + 1)
                        simp [dayAhead, h1, ← HX.out]
                      · by_cases hjk : j < k
                        · exact hg.out j h hjk
                        · obtain rfl : j = k := by omega
                          rw [← HX.out]
                          exact ⟨by rw [← HLA.out]; exact q1, by rw [← HI.out]; exact q2, by rw [← HC1.out]; omega, HBD.out.1 rfl⟩
                      · rw [Hid, codeOf_succ h1, ← HX.out]
                        exact U2.out
                    case measure => simp [intOf]; omega
          · obtain rfl : k = n4 := by omega
            go_wp2_with fail
            go_meet
            case rel => exact ⟨fun i h => hg.out i h (by rw [LD.out]; exact h), by rw [Hid, ← LD.out]; exact UK.out, CK.out⟩
      case rest =>
        obtain ⟨hgd, UB, CB⟩ := hcut
        obtain ⟨wb, hwb⟩ : ∃ x, x = wc := ⟨_, rfl⟩
        subst hwb
        clear y7
        obtain ⟨R1, R2, R3, r1, r2, r3, ub, ow1, ow2, ow3, _⟩ := UB.out.ex
        rw [← LN.out] at ub ow1
        rw [← LC.out] at ub ow2
        rw [← LK.out] at ub ow3
        have OW1 := Lib.hid ow1
        have OW2 := Lib.hid ow2
        have OW3 := Lib.hid ow3
        have UBB := Lib.hid ub
        clear ow1 ow2 ow3 ub
        have TU : Hid (∀ W, Chg (fun _ => False) wb W → W.cell? ⟨gU, 0, none⟩ = some (.slice R1 n1 r1) ∧ W.cell? ⟨gU, 1, none⟩ = some (.slice R2 n2 r2) ∧ W.cell? ⟨gU, 2, none⟩ = some (.slice R3 n3 r3)) := fun W cW => ⟨(UBB.out.chg cW (fun h => h)).at_ (i := 0) rfl, (UBB.out.chg cW (fun h => h)).at_ (i := 1) rfl, (UBB.out.chg cW (fun h => h)).at_ (i := 2) rfl⟩
        go_upto_region 13 with fail
        go_region_held3 (fun w' => w'.cell? ⟨gU, 0, none⟩ = some (.slice R1 n1 r1) ∧ w'.cell? ⟨gU, 1, none⟩ = some (.slice R2 n2 r2) ∧ w'.cell? ⟨gU, 2, none⟩ = some (.slice R3 n3 r3)) (exact TU.out _ (by repeat (first | exact Chg.refl _ _ | refine Chg.drew ?_ | refine Chg.drewN ?_ _ | refine Chg.alloc ?_ _))) (first | fail)
        obtain ⟨wd, hwd⟩ : ∃ x, x = (wb.alloc (.cells #[.slice R1 n1 r1, .slice R2 n2 r2, .slice R3 n3 r3] 32)).drew := ⟨_, rfl⟩
        have CD : Hid (Chg (fun _ => False) wb wd) := by rw [hwd]; exact ((Chg.refl _ _).alloc _).drew
        have BD : Blk wd wb.heap.size 32 [.slice R1 n1 r1, .slice R2 n2 r2, .slice R3 n3 r3] := by rw [hwd]; exact (Blk.new wb _ _).chg (S := fun _ => False) ((Chg.refl _ _).drew) (fun h => h)
        have CLD : Hid (Chg (fun _ => False) w wd) := (CL.out.trans CB.out (fun _ _ h => h)).trans CD.out (fun _ _ h => h)
        have ROW : Hid (∀ k, k < 3 → ∃ R n r, wd.cell? ⟨wb.heap.size, k, none⟩ = some (.slice R n r) ∧ n = (rowOf p k).length ∧ n ≤ 140737488355328 ∧ RdG wd R (bls (rowOf p k))) := fun k hk => by
          have hk3 : k = 0 ∨ k = 1 ∨ k = 2 := by omega
          rcases hk3 with rfl | rfl | rfl
          · exact ⟨R1, n1, r1, BD.at_ (i := 0) rfl, by rw [LN.out]; simp [rowOf, namedBy_length], S1, by have h := OW1.out.toG.chg0 CD.out; rw [LN.out] at h; exact h⟩
          · exact ⟨R2, n2, r2, BD.at_ (i := 1) rfl, by rw [LC.out]; simp [rowOf, namedBy_length], S2, by have h := OW2.out.toG.chg0 CD.out; rw [LC.out] at h; exact h⟩
          · exact ⟨R3, n3, r3, BD.at_ (i := 2) rfl, by rw [LK.out]; simp [rowOf, namedBy_length], S3, by have h := OW3.out.toG.chg0 CD.out; rw [LK.out] at h; exact h⟩
        clear BD
        rw [← hwd]
        clear hwd
        go_wp2_with fail
        go_loop [9, 79] (fun _ i => ∃ k : Nat, k ≤ 3 ∧ i = .int .i64 k ∧ Hid (∀ j, j < k → ∀ x ∈ rowOf p j, x = true)) (fun _ i => 3 - (intOf i).toNat)
        case atStart => exact ⟨0, by omega, rfl, fun j h => absurd h (by omega)⟩
        case round =>
          obtain ⟨k, hk, rfl, hrw⟩ := hrel
          by_cases hlt : k < 3
          · obtain ⟨R, n, r, h1, h2, h3, h4⟩ := ROW.out k hlt
            have H2 := Lib.hid h2
            have H4 := Lib.hid h4
            have b1 : (0 : Int) ≤ (k : Int) := by omega
            have b2 : (k : Int) < 3 := by omega
            obtain ⟨bd, hbd⟩ := some_b (∀ x ∈ rowOf p k, x = true)
            have HBD := Lib.hid hbd
            clear h2 h4 hbd
            cases bd
            all_goals
              go_wp2_with fail
              refine (hasFalse H2 h3 H4 HBD).mono ?_
              rintro e w3 ⟨rfl, rfl⟩
            · have HE : Hid ((121 : Int) = er) := (he.out.2 (fun hc => absurd (HBD.out.2 (hc.rows k hlt)) (by decide))).symm
              go_wp2_with fail
              go_ret
              exact ⟨ret_i HE.out, CLD.out⟩
            · go_wp2_with fail
              go_round
              case rel =>
                refine ⟨k + 1, by omega, by go_num, fun j hj => ?_⟩
                by_cases hjk : j < k
                · exact hrw.out j hjk
                · obtain rfl : j = k := by omega
                  exact HBD.out.1 rfl
              case measure => simp [intOf]; omega
          · obtain rfl : k = 3 := by omega
            have HE : Hid ((0 : Int) = er) := (he.out.1 ⟨HLP.out, hgd.out, hrw.out 0 (by omega), hrw.out 1 (by omega), hrw.out 2 (by omega)⟩).symm
            go_wp2_with fail
            go_ret
            exact ⟨ret_i HE.out, CLD.out⟩
end Go.Proofs.YtkadamoofiddeaaDoor.Kit
