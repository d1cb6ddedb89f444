/- The walk of OctetWrites. -/
import Derived.Test.YtcljbaoadmflgaaProg
import Derived.Test.YtcljbaoadmflgaaKit
import Derived.Test.YtcljbaoadmflgaaOpen
import Derived.Test.YtcljbaoadmflgaaOctW
import Derived.Test.YtcljbaoadmflgaaOctL1
import Derived.Test.YtcljbaoadmflgaaOctLaw
import Derived.Lib.Hide
set_option linter.unusedVariables false
set_option linter.unusedSimpArgs false
namespace Go.Proofs.Ytcljbaoadmflgaa.Kit
open Go.RowKit
/-- a round: with the rows that it made nothing of w has changed -/
def WRel (w : World) (i : Value) (wr : World) : Prop := ∃ k : Nat, k ≤ 3 ∧ i = .int .i64 k ∧ Hid (Chg (fun _ => False) w wr)
theorem octetWritesWalk (w : World) (A : Option Addr) (c : Nat) (l : List Int) (hr : Hid (Rd w .u8 A l)) (hl : l.length ≤ 1048576) (hb : Byt l) (hlc : l.length ≤ c) (x : Int) (hx0 : 0 ≤ x) (hx1 : x ≤ 18446744073709551615)
    (y : Int) (hy0 : -9223372036854775808 ≤ y) (hy1 : y ≤ 9223372036854775807) (s : ByteArray) (hs : s.size ≤ 1048576) (room : Bool) :
    Calls Try.prog 3 #[.slice A l.length c, .int .u64 x, .int .i64 y, .string s, .bool room] w fun e w' => e = .returned (.bool true) ∧ Below w.heap.size w w' := by
  have HX := Lib.hid hx1
  have HY0 := Lib.hid hy0
  have HY1 := Lib.hid hy1
  have L1 : Hid ((vb x.toNat).length ≤ 10) := vb_len10 (by omega)
  have L2 : Hid ((vb (zz y).toNat).length ≤ 10) := zz_len hy0 hy1
  have L3 : Hid ((vb s.size).length ≤ 10) := vb_len10 (by omega)
  have hle : Hid (l.length ≤ 140737488355328) := Nat.le_trans hl (by decide)
  have hl10 : Hid (l.length + 10 ≤ 140737488355328) := Lib.hid (by omega)
  have hls : Hid (l.length + 10 + s.size ≤ 140737488355328) := Lib.hid (by omega)
  clear hx1 hy0 hy1
  go_enter Try.func3, Try.ntmps3
  go_wp2
  go_loopw [11] (fun i wr => ∃ k : Nat, k ≤ 3 ∧ i = .int .i64 k ∧ Hid (Chg (fun _ => False) w wr)) (fun i _ => 3 - (intOf i).toNat)
  case atStart => exact ⟨0, by omega, rfl, Chg.refl _ _⟩
  case round =>
    obtain ⟨k, hk, rfl, HC⟩ := hrel
    by_cases hlt : k < 3
    · have R1 : Hid (Rd wr .u8 A l) := hr.out.below HC.out.done
      rcases (show k = 0 ∨ k = 1 ∨ k = 2 by omega) with rfl | rfl | rfl <;> cases room
      · go_wp2_with fail
        refine (hand A c l _ (by omega) R1).mono ?_
        rintro e w1 ⟨g, rfl, k1, k2, k3⟩
        have K1 := Lib.hid k1; have K2 := Lib.hid k2; have K3 := Lib.hid k3
        clear k1 k2 k3
        have b1 : (l.length : Int) ≤ (l.length : Int) + 90 := by omega
        have R2' : Hid (Rd (w1.alloc (.cells #[] 5)) .u8 A l) := R1.out.below ((K3.out.alloc _).done)
        go_wp2_with (at_builtin; go_must (refine wp_appn rfl _ _ 22 5 .u8 1 rfl Try.underlying22 infoU8 (by decide) (.slice (some ⟨w1.heap.size, 0, none⟩) 0 0) [] rfl (Own.lit w1 5 .u8 [] (by simp)) A c l _ rfl rfl R2'.out (by simp; omega) ?_); intro v' w2 k1 k2 k3 k4; obtain ⟨A1, c1, rfl, _, _⟩ := k1.slice; have N1 := Lib.hid k1; have N3 := Lib.hid k3; have N4 := Lib.hid k4; clear k1 k2 k3 k4; go_frame)
        have HV : Hid (OwnB w2 (.slice A1 l.length c1) l) := N1.out
        have HN : Hid (∀ i, Value.ownBlock (.slice A1 l.length c1) = some i → w.heap.size ≤ i) := N4.out.ge (blk_ge (Nat.le_trans HC.out.size K3.out.size)) (by have := HC.out.size; have := K3.out.size; simp; omega)
        have HC1 : Hid (Chg (fun _ => False) w w2) := ((HC.out.trans K3.out (fun _ _ h => h)).alloc _).fresh N3.out (blk_ge (Nat.le_trans HC.out.size K3.out.size))
        have R2 : Hid (Rd w2 .u8 A l) := hr.out.below HC1.out.done
        go_wp2_with fail
        refine (appendUint' (.slice A1 l.length c1) l _ _ hx0 HV (by have := L1.out; omega)).mono ?_
        rintro e w3 ⟨v3, rfl, k1, k2, k3, k4⟩
        obtain ⟨A3, c3, rfl, _, _⟩ := Own.slice k1
        have P1 := Lib.hid k1; have P2 := Lib.hid k2; have P3 := Lib.hid k3; have P4 := Lib.hid k4
        clear k1 k2 k3 k4
        have HC3 : Hid (Chg (fun _ => False) w w3) := HC1.out.fresh P3.out HN.out
        have R3 : Hid (Rd w3 .u8 A l) := hr.out.below HC3.out.done
        go_wp2_with fail
        refine (appendUintRef hx0 HX.out (show Hid (l.length = _) from rfl) hl10 (show Hid _ from R3.out)).mono ?_
        rintro e w4 ⟨A4, n4, c4, rfl, m4⟩
        have M4 := Lib.hid m4
        clear m4
        have HC4 : Hid (Chg (fun _ => False) w w4) := HC3.out.trans M4.out.chg (fun _ _ h => h)
        have R4 : Hid (Rd w4 .u8 A l) := hr.out.below HC4.out.done
        have S1 : Hid (Rd w4 .u8 A3 (l ++ vb x.toNat)) := (P1.out.rd rfl).below M4.out.chg.done
        have S2 : Hid (Rd w4 .u8 A4 (l ++ vb x.toNat)) := M4.out.rd
        have S4 : Hid ((l ++ vb x.toNat).length ≤ 140737488355328) := Lib.hid (by have := L1.out; simp; omega)
        go_wp2_with fail
        refine (sameBytes' (Lib.hid (by simp [List.length_append])) (show Hid _ from M4.out.len) S4 S1 S2 (show Hid (decide (l ++ vb x.toNat = (l ++ vb x.toNat)) = true) from decide_eq_true rfl)).mono ?_
        rintro e w5 ⟨rfl, nq, rfl⟩
        have T1 : Hid (Rd (w4.drewN nq) .u8 _ l) := (P2.out _ _ _ rfl).below (M4.out.chg.drewN nq).done
        have T2 : Hid (Rd (w4.drewN nq) .u8 A l) := R4
        go_wp2_with fail
        refine (sameBytes' (show Hid (l.length = _) from rfl) (show Hid (l.length = _) from rfl) hle T1 T2 (show Hid (decide (l = l) = true) from decide_eq_true rfl)).mono ?_
        rintro e w6 ⟨rfl, nq2, rfl⟩
        go_wp2_with fail
        go_roundw
        case rel => exact ⟨1, by omega, rfl, (HC4.out.drewN _)⟩
        case measure => simp [intOf]
      · go_wp2_with fail
        refine (hand A c l _ (by omega) R1).mono ?_
        rintro e w1 ⟨g, rfl, k1, k2, k3⟩
        have K1 := Lib.hid k1; have K2 := Lib.hid k2; have K3 := Lib.hid k3
        clear k1 k2 k3
        have HV : Hid (OwnB w1 (.slice (some ⟨g, 0, none⟩) l.length (l.length + 90)) l) := by
          have h := K1.out
          have e1 : (l ++ marks).length = l.length + 90 := by rw [List.length_append, marks_length]
          rw [← e1] at h
          have := Own.cut (m := l.length) h (by omega)
          rw [List.take_left, e1] at this
          exact this
        have HN : Hid (∀ i, Value.ownBlock (.slice (some ⟨g, 0, none⟩) l.length (l.length + 90)) = some i → w.heap.size ≤ i) := blk_ge (Nat.le_trans HC.out.size K2.out)
        have HC1 : Hid (Chg (fun _ => False) w w1) := HC.out.trans K3.out (fun _ _ h => h)
        have R2 : Hid (Rd w1 .u8 A l) := hr.out.below HC1.out.done
        have b1 : (l.length : Int) ≤ (l.length : Int) + 90 := by omega
        go_wp2_with fail
        refine (appendUint' (.slice (some ⟨g, 0, none⟩) l.length (l.length + 90)) l _ _ hx0 HV (by have := L1.out; omega)).mono ?_
        rintro e w3 ⟨v3, rfl, k1, k2, k3, k4⟩
        obtain ⟨A3, c3, rfl, _, _⟩ := Own.slice k1
        have P1 := Lib.hid k1; have P2 := Lib.hid k2; have P3 := Lib.hid k3; have P4 := Lib.hid k4
        clear k1 k2 k3 k4
        have HC3 : Hid (Chg (fun _ => False) w w3) := HC1.out.fresh P3.out HN.out
        have R3 : Hid (Rd w3 .u8 A l) := hr.out.below HC3.out.done
        go_wp2_with fail
        refine (appendUintRef hx0 HX.out (show Hid (l.length = _) from rfl) hl10 (show Hid _ from R3.out)).mono ?_
        rintro e w4 ⟨A4, n4, c4, rfl, m4⟩
        have M4 := Lib.hid m4
        clear m4
        have HC4 : Hid (Chg (fun _ => False) w w4) := HC3.out.trans M4.out.chg (fun _ _ h => h)
        have R4 : Hid (Rd w4 .u8 A l) := hr.out.below HC4.out.done
        have S1 : Hid (Rd w4 .u8 A3 (l ++ vb x.toNat)) := (P1.out.rd rfl).below M4.out.chg.done
        have S2 : Hid (Rd w4 .u8 A4 (l ++ vb x.toNat)) := M4.out.rd
        have S4 : Hid ((l ++ vb x.toNat).length ≤ 140737488355328) := Lib.hid (by have := L1.out; simp; omega)
        go_wp2_with fail
        refine (sameBytes' (Lib.hid (by simp [List.length_append])) (show Hid _ from M4.out.len) S4 S1 S2 (show Hid (decide (l ++ vb x.toNat = (l ++ vb x.toNat)) = true) from decide_eq_true rfl)).mono ?_
        rintro e w5 ⟨rfl, nq, rfl⟩
        have T1 : Hid (Rd (w4.drewN nq) .u8 _ l) := (P2.out _ _ _ rfl).below (M4.out.chg.drewN nq).done
        have T2 : Hid (Rd (w4.drewN nq) .u8 A l) := R4
        go_wp2_with fail
        refine (sameBytes' (show Hid (l.length = _) from rfl) (show Hid (l.length = _) from rfl) hle T1 T2 (show Hid (decide (l = l) = true) from decide_eq_true rfl)).mono ?_
        rintro e w6 ⟨rfl, nq2, rfl⟩
        go_wp2_with fail
        go_roundw
        case rel => exact ⟨1, by omega, rfl, (HC4.out.drewN _)⟩
        case measure => simp [intOf]
      · go_wp2_with fail
        refine (hand A c l _ (by omega) R1).mono ?_
        rintro e w1 ⟨g, rfl, k1, k2, k3⟩
        have K1 := Lib.hid k1; have K2 := Lib.hid k2; have K3 := Lib.hid k3
        clear k1 k2 k3
        have b1 : (l.length : Int) ≤ (l.length : Int) + 90 := by omega
        have R2' : Hid (Rd (w1.alloc (.cells #[] 5)) .u8 A l) := R1.out.below ((K3.out.alloc _).done)
        go_wp2_with (at_builtin; go_must (refine wp_appn rfl _ _ 22 5 .u8 1 rfl Try.underlying22 infoU8 (by decide) (.slice (some ⟨w1.heap.size, 0, none⟩) 0 0) [] rfl (Own.lit w1 5 .u8 [] (by simp)) A c l _ rfl rfl R2'.out (by simp; omega) ?_); intro v' w2 k1 k2 k3 k4; obtain ⟨A1, c1, rfl, _, _⟩ := k1.slice; have N1 := Lib.hid k1; have N3 := Lib.hid k3; have N4 := Lib.hid k4; clear k1 k2 k3 k4; go_frame)
        have HV : Hid (OwnB w2 (.slice A1 l.length c1) l) := N1.out
        have HN : Hid (∀ i, Value.ownBlock (.slice A1 l.length c1) = some i → w.heap.size ≤ i) := N4.out.ge (blk_ge (Nat.le_trans HC.out.size K3.out.size)) (by have := HC.out.size; have := K3.out.size; simp; omega)
        have HC1 : Hid (Chg (fun _ => False) w w2) := ((HC.out.trans K3.out (fun _ _ h => h)).alloc _).fresh N3.out (blk_ge (Nat.le_trans HC.out.size K3.out.size))
        have R2 : Hid (Rd w2 .u8 A l) := hr.out.below HC1.out.done
        go_wp2_with fail
        refine (appendInt (.slice A1 l.length c1) l _ _ HY0.out HY1.out HV (by omega)).mono ?_
        rintro e w3 ⟨v3, rfl, k1, k2, k3, k4⟩
        obtain ⟨A3, c3, rfl, _, _⟩ := Own.slice k1
        have P1 := Lib.hid k1; have P2 := Lib.hid k2; have P3 := Lib.hid k3; have P4 := Lib.hid k4
        clear k1 k2 k3 k4
        have HC3 : Hid (Chg (fun _ => False) w w3) := HC1.out.fresh P3.out HN.out
        have R3 : Hid (Rd w3 .u8 A l) := hr.out.below HC3.out.done
        go_wp2_with fail
        refine (appendIntRef HY0.out HY1.out (show Hid (l.length = _) from rfl) hl10 (show Hid _ from R3.out)).mono ?_
        rintro e w4 ⟨A4, n4, c4, rfl, m4⟩
        have M4 := Lib.hid m4
        clear m4
        have HC4 : Hid (Chg (fun _ => False) w w4) := HC3.out.trans M4.out.chg (fun _ _ h => h)
        have R4 : Hid (Rd w4 .u8 A l) := hr.out.below HC4.out.done
        have S1 : Hid (Rd w4 .u8 A3 (l ++ vb (zz y).toNat)) := (P1.out.rd rfl).below M4.out.chg.done
        have S2 : Hid (Rd w4 .u8 A4 (l ++ vb (zz y).toNat)) := M4.out.rd
        have S4 : Hid ((l ++ vb (zz y).toNat).length ≤ 140737488355328) := Lib.hid (by have := L2.out; simp; omega)
        go_wp2_with fail
        refine (sameBytes' (Lib.hid (by simp [List.length_append])) (show Hid _ from M4.out.len) S4 S1 S2 (show Hid (decide (l ++ vb (zz y).toNat = (l ++ vb (zz y).toNat)) = true) from decide_eq_true rfl)).mono ?_
        rintro e w5 ⟨rfl, nq, rfl⟩
        have T1 : Hid (Rd (w4.drewN nq) .u8 _ l) := (P2.out _ _ _ rfl).below (M4.out.chg.drewN nq).done
        have T2 : Hid (Rd (w4.drewN nq) .u8 A l) := R4
        go_wp2_with fail
        refine (sameBytes' (show Hid (l.length = _) from rfl) (show Hid (l.length = _) from rfl) hle T1 T2 (show Hid (decide (l = l) = true) from decide_eq_true rfl)).mono ?_
        rintro e w6 ⟨rfl, nq2, rfl⟩
        go_wp2_with fail
        go_roundw
        case rel => exact ⟨2, by omega, rfl, (HC4.out.drewN _)⟩
        case measure => simp [intOf]
      · go_wp2_with fail
        refine (hand A c l _ (by omega) R1).mono ?_
        rintro e w1 ⟨g, rfl, k1, k2, k3⟩
        have K1 := Lib.hid k1; have K2 := Lib.hid k2; have K3 := Lib.hid k3
        clear k1 k2 k3
        have HV : Hid (OwnB w1 (.slice (some ⟨g, 0, none⟩) l.length (l.length + 90)) l) := by
          have h := K1.out
          have e1 : (l ++ marks).length = l.length + 90 := by rw [List.length_append, marks_length]
          rw [← e1] at h
          have := Own.cut (m := l.length) h (by omega)
          rw [List.take_left, e1] at this
          exact this
        have HN : Hid (∀ i, Value.ownBlock (.slice (some ⟨g, 0, none⟩) l.length (l.length + 90)) = some i → w.heap.size ≤ i) := blk_ge (Nat.le_trans HC.out.size K2.out)
        have HC1 : Hid (Chg (fun _ => False) w w1) := HC.out.trans K3.out (fun _ _ h => h)
        have R2 : Hid (Rd w1 .u8 A l) := hr.out.below HC1.out.done
        have b1 : (l.length : Int) ≤ (l.length : Int) + 90 := by omega
        go_wp2_with fail
        refine (appendInt (.slice (some ⟨g, 0, none⟩) l.length (l.length + 90)) l _ _ HY0.out HY1.out HV (by omega)).mono ?_
        rintro e w3 ⟨v3, rfl, k1, k2, k3, k4⟩
        obtain ⟨A3, c3, rfl, _, _⟩ := Own.slice k1
        have P1 := Lib.hid k1; have P2 := Lib.hid k2; have P3 := Lib.hid k3; have P4 := Lib.hid k4
        clear k1 k2 k3 k4
        have HC3 : Hid (Chg (fun _ => False) w w3) := HC1.out.fresh P3.out HN.out
        have R3 : Hid (Rd w3 .u8 A l) := hr.out.below HC3.out.done
        go_wp2_with fail
        refine (appendIntRef HY0.out HY1.out (show Hid (l.length = _) from rfl) hl10 (show Hid _ from R3.out)).mono ?_
        rintro e w4 ⟨A4, n4, c4, rfl, m4⟩
        have M4 := Lib.hid m4
        clear m4
        have HC4 : Hid (Chg (fun _ => False) w w4) := HC3.out.trans M4.out.chg (fun _ _ h => h)
        have R4 : Hid (Rd w4 .u8 A l) := hr.out.below HC4.out.done
        have S1 : Hid (Rd w4 .u8 A3 (l ++ vb (zz y).toNat)) := (P1.out.rd rfl).below M4.out.chg.done
        have S2 : Hid (Rd w4 .u8 A4 (l ++ vb (zz y).toNat)) := M4.out.rd
        have S4 : Hid ((l ++ vb (zz y).toNat).length ≤ 140737488355328) := Lib.hid (by have := L2.out; simp; omega)
        go_wp2_with fail
        refine (sameBytes' (Lib.hid (by simp [List.length_append])) (show Hid _ from M4.out.len) S4 S1 S2 (show Hid (decide (l ++ vb (zz y).toNat = (l ++ vb (zz y).toNat)) = true) from decide_eq_true rfl)).mono ?_
        rintro e w5 ⟨rfl, nq, rfl⟩
        have T1 : Hid (Rd (w4.drewN nq) .u8 _ l) := (P2.out _ _ _ rfl).below (M4.out.chg.drewN nq).done
        have T2 : Hid (Rd (w4.drewN nq) .u8 A l) := R4
        go_wp2_with fail
        refine (sameBytes' (show Hid (l.length = _) from rfl) (show Hid (l.length = _) from rfl) hle T1 T2 (show Hid (decide (l = l) = true) from decide_eq_true rfl)).mono ?_
        rintro e w6 ⟨rfl, nq2, rfl⟩
        go_wp2_with fail
        go_roundw
        case rel => exact ⟨2, by omega, rfl, (HC4.out.drewN _)⟩
        case measure => simp [intOf]
      · go_wp2_with fail
        refine (hand A c l _ (by omega) R1).mono ?_
        rintro e w1 ⟨g, rfl, k1, k2, k3⟩
        have K1 := Lib.hid k1; have K2 := Lib.hid k2; have K3 := Lib.hid k3
        clear k1 k2 k3
        have b1 : (l.length : Int) ≤ (l.length : Int) + 90 := by omega
        have R2' : Hid (Rd (w1.alloc (.cells #[] 5)) .u8 A l) := R1.out.below ((K3.out.alloc _).done)
        go_wp2_with (at_builtin; go_must (refine wp_appn rfl _ _ 22 5 .u8 1 rfl Try.underlying22 infoU8 (by decide) (.slice (some ⟨w1.heap.size, 0, none⟩) 0 0) [] rfl (Own.lit w1 5 .u8 [] (by simp)) A c l _ rfl rfl R2'.out (by simp; omega) ?_); intro v' w2 k1 k2 k3 k4; obtain ⟨A1, c1, rfl, _, _⟩ := k1.slice; have N1 := Lib.hid k1; have N3 := Lib.hid k3; have N4 := Lib.hid k4; clear k1 k2 k3 k4; go_frame)
        have HV : Hid (OwnB w2 (.slice A1 l.length c1) l) := N1.out
        have HN : Hid (∀ i, Value.ownBlock (.slice A1 l.length c1) = some i → w.heap.size ≤ i) := N4.out.ge (blk_ge (Nat.le_trans HC.out.size K3.out.size)) (by have := HC.out.size; have := K3.out.size; simp; omega)
        have HC1 : Hid (Chg (fun _ => False) w w2) := ((HC.out.trans K3.out (fun _ _ h => h)).alloc _).fresh N3.out (blk_ge (Nat.le_trans HC.out.size K3.out.size))
        have R2 : Hid (Rd w2 .u8 A l) := hr.out.below HC1.out.done
        go_wp2_with fail
        refine (appendText (.slice A1 l.length c1) l s _ (by omega) HV (by omega)).mono ?_
        rintro e w3 ⟨v3, rfl, k1, k2, k3, k4⟩
        obtain ⟨A3, c3, rfl, _, _⟩ := Own.slice k1
        have P1 := Lib.hid k1; have P2 := Lib.hid k2; have P3 := Lib.hid k3; have P4 := Lib.hid k4
        clear k1 k2 k3 k4
        have HC3 : Hid (Chg (fun _ => False) w w3) := HC1.out.fresh P3.out HN.out
        have R3 : Hid (Rd w3 .u8 A l) := hr.out.below HC3.out.done
        go_wp2_with fail
        refine (appendTextRef (by omega) (show Hid (l.length = _) from rfl) hls (show Hid _ from R3.out)).mono ?_
        rintro e w4 ⟨A4, n4, c4, rfl, m4⟩
        have M4 := Lib.hid m4
        clear m4
        have HC4 : Hid (Chg (fun _ => False) w w4) := HC3.out.trans M4.out.chg (fun _ _ h => h)
        have R4 : Hid (Rd w4 .u8 A l) := hr.out.below HC4.out.done
        have S1 : Hid (Rd w4 .u8 A3 (l ++ (vb s.size ++ bytesOf s))) := (P1.out.rd rfl).below M4.out.chg.done
        have S2 : Hid (Rd w4 .u8 A4 (l ++ vb s.size ++ bytesOf s)) := M4.out.rd
        have S4 : Hid ((l ++ (vb s.size ++ bytesOf s)).length ≤ 140737488355328) := Lib.hid (by have := L3.out; rw [List.length_append, List.length_append, bytesOf_length]; omega)
        go_wp2_with fail
        refine (sameBytes' (Lib.hid (by simp [List.length_append])) (show Hid _ from M4.out.len) S4 S1 S2 (show Hid (decide (l ++ (vb s.size ++ bytesOf s) = (l ++ vb s.size ++ bytesOf s)) = true) from decide_eq_true (List.append_assoc _ _ _).symm)).mono ?_
        rintro e w5 ⟨rfl, nq, rfl⟩
        have T1 : Hid (Rd (w4.drewN nq) .u8 _ l) := (P2.out _ _ _ rfl).below (M4.out.chg.drewN nq).done
        have T2 : Hid (Rd (w4.drewN nq) .u8 A l) := R4
        go_wp2_with fail
        refine (sameBytes' (show Hid (l.length = _) from rfl) (show Hid (l.length = _) from rfl) hle T1 T2 (show Hid (decide (l = l) = true) from decide_eq_true rfl)).mono ?_
        rintro e w6 ⟨rfl, nq2, rfl⟩
        go_wp2_with fail
        go_roundw
        case rel => exact ⟨3, by omega, rfl, (HC4.out.drewN _)⟩
        case measure => simp [intOf]
      · go_wp2_with fail
        refine (hand A c l _ (by omega) R1).mono ?_
        rintro e w1 ⟨g, rfl, k1, k2, k3⟩
        have K1 := Lib.hid k1; have K2 := Lib.hid k2; have K3 := Lib.hid k3
        clear k1 k2 k3
        have HV : Hid (OwnB w1 (.slice (some ⟨g, 0, none⟩) l.length (l.length + 90)) l) := by
          have h := K1.out
          have e1 : (l ++ marks).length = l.length + 90 := by rw [List.length_append, marks_length]
          rw [← e1] at h
          have := Own.cut (m := l.length) h (by omega)
          rw [List.take_left, e1] at this
          exact this
        have HN : Hid (∀ i, Value.ownBlock (.slice (some ⟨g, 0, none⟩) l.length (l.length + 90)) = some i → w.heap.size ≤ i) := blk_ge (Nat.le_trans HC.out.size K2.out)
        have HC1 : Hid (Chg (fun _ => False) w w1) := HC.out.trans K3.out (fun _ _ h => h)
        have R2 : Hid (Rd w1 .u8 A l) := hr.out.below HC1.out.done
        have b1 : (l.length : Int) ≤ (l.length : Int) + 90 := by omega
        go_wp2_with fail
        refine (appendText (.slice (some ⟨g, 0, none⟩) l.length (l.length + 90)) l s _ (by omega) HV (by omega)).mono ?_
        rintro e w3 ⟨v3, rfl, k1, k2, k3, k4⟩
        obtain ⟨A3, c3, rfl, _, _⟩ := Own.slice k1
        have P1 := Lib.hid k1; have P2 := Lib.hid k2; have P3 := Lib.hid k3; have P4 := Lib.hid k4
        clear k1 k2 k3 k4
        have HC3 : Hid (Chg (fun _ => False) w w3) := HC1.out.fresh P3.out HN.out
        have R3 : Hid (Rd w3 .u8 A l) := hr.out.below HC3.out.done
        go_wp2_with fail
        refine (appendTextRef (by omega) (show Hid (l.length = _) from rfl) hls (show Hid _ from R3.out)).mono ?_
        rintro e w4 ⟨A4, n4, c4, rfl, m4⟩
        have M4 := Lib.hid m4
        clear m4
        have HC4 : Hid (Chg (fun _ => False) w w4) := HC3.out.trans M4.out.chg (fun _ _ h => h)
        have R4 : Hid (Rd w4 .u8 A l) := hr.out.below HC4.out.done
        have S1 : Hid (Rd w4 .u8 A3 (l ++ (vb s.size ++ bytesOf s))) := (P1.out.rd rfl).below M4.out.chg.done
        have S2 : Hid (Rd w4 .u8 A4 (l ++ vb s.size ++ bytesOf s)) := M4.out.rd
        have S4 : Hid ((l ++ (vb s.size ++ bytesOf s)).length ≤ 140737488355328) := Lib.hid (by have := L3.out; rw [List.length_append, List.length_append, bytesOf_length]; omega)
        go_wp2_with fail
        refine (sameBytes' (Lib.hid (by simp [List.length_append])) (show Hid _ from M4.out.len) S4 S1 S2 (show Hid (decide (l ++ (vb s.size ++ bytesOf s) = (l ++ vb s.size ++ bytesOf s)) = true) from decide_eq_true (List.append_assoc _ _ _).symm)).mono ?_
        rintro e w5 ⟨rfl, nq, rfl⟩
        have T1 : Hid (Rd (w4.drewN nq) .u8 _ l) := (P2.out _ _ _ rfl).below (M4.out.chg.drewN nq).done
        have T2 : Hid (Rd (w4.drewN nq) .u8 A l) := R4
        go_wp2_with fail
        refine (sameBytes' (show Hid (l.length = _) from rfl) (show Hid (l.length = _) from rfl) hle T1 T2 (show Hid (decide (l = l) = true) from decide_eq_true rfl)).mono ?_
        rintro e w6 ⟨rfl, nq2, rfl⟩
        go_wp2_with fail
        go_roundw
        case rel => exact ⟨3, by omega, rfl, (HC4.out.drewN _)⟩
        case measure => simp [intOf]
    · obtain rfl : k = 3 := by omega
      go_wp2
      go_ret
      exact ⟨rfl, HC.out.done⟩
end Go.Proofs.Ytcljbaoadmflgaa.Kit
