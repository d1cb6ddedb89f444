/- Programs: days that are the same; Equal, the program's and the document's. -/
import Derived.Test.YtlnomadhgoblkaaProg
import Derived.Test.YtlnomadhgoblkaaPgE
set_option linter.unusedVariables false
set_option linter.unusedSimpArgs false
namespace Go.Proofs.Ytlnomadhgoblkaa.Kit
open Go.RowKit
set_option maxRecDepth 20000 in
set_option maxHeartbeats 1600000 in
theorem eqDay {A B : Option Addr} {n m c d : Nat} {x y : SegV} {w : World} {b : Bool} (HN : Hid (n = x.code.length)) (HM : Hid (m = y.code.length)) (hn : n ≤ 140737488355328) (hm : m ≤ 140737488355328) (hr : Hid (RdG w A (insCells x.code))) (hk : Hid (RdG w B (insCells y.code))) (hb : Hid (decide (x = y) = b)) :
    Calls Try.prog 39 #[.agg #[.int .i64 x.day, .slice A n c], .agg #[.int .i64 y.day, .slice B m d]] w fun e w' => e = .returned (.bool b) ∧ Chg (fun _ => False) w w' := by
  obtain ⟨x, cx⟩ := x
  obtain ⟨y, cy⟩ := y
  simp only at HN HM hr hk
  have C0 : Hid (∀ p q : Obj, Chg (fun _ => False) w ((w.alloc p).alloc q)) := fun p q => ((Chg.refl _ w).alloc p).alloc q
  by_cases hd : x = y
  · subst hd
    have q1 : (x == x) = true := by simp
    have hb2 : Hid (decide (cx = cy) = b) := Lib.hid (by rw [← hb.out]; simp)
    go_enter Try.func39, Try.ntmps39
    go_wp2_with fail
    refine (eqIns HN HM hn hm (hr.out.chg0 (C0.out _ _)) (hk.out.chg0 (C0.out _ _)) hb2).mono ?_
    rintro e w1 ⟨rfl, nq, rfl⟩
    go_wp2_with fail
    go_ret
    exact ⟨rfl, (C0.out _ _).drewN nq⟩
  · have q1 : (x == y) = false := by simpa using hd
    have HB : Hid (false = b) := Lib.hid (by rw [← hb.out, decide_eq_false (fun h => hd (by injection h))])
    clear hd
    go_enter Try.func39, Try.ntmps39
    go_wp2_with fail
    go_ret
    exact ⟨ret_bool HB.out, C0.out _ _⟩
/-- a list of days that is read -/
structure RdDays (w : World) (A : Option Addr) (l : List SegV) (vs : List Value) : Prop where
  rd : RdG w A (dayCells l vs)
  len : l.length = vs.length
  code : ∀ i (h : i < l.length) (h' : i < vs.length), SlG w vs[i] 3 l[i].code.length (insCells l[i].code)
theorem RdDays.chg0 {w w1 : World} {A : Option Addr} {l : List SegV} {vs : List Value} (h : RdDays w A l vs) (c : Chg (fun _ => False) w w1) : RdDays w1 A l vs := ⟨h.rd.chg0 c, h.len, fun i hi hi' => (h.code i hi hi').chg0 c⟩
theorem RdDays.at_ {w : World} {A : Option Addr} {l : List SegV} {vs : List Value} (h : RdDays w A l vs) {i : Nat} (hi : i < l.length) : ∃ ad B n c, A = some ad ∧ w.cell? (ad.add (i * 2)) = some (.int .i64 l[i].day) ∧ w.cell? ⟨(ad.add (i * 2)).block, (ad.add (i * 2)).off + 1, none⟩ = some (.slice B n c) ∧
    n = l[i].code.length ∧ n ≤ c ∧ c ≤ maxLen ∧ RdG w B (insCells l[i].code) := by
  have h2 : i < vs.length := by rw [← h.len]; exact hi
  obtain ⟨g1, g2⟩ := dayCells_get l vs i hi h2
  obtain ⟨ad, e1, c1⟩ := h.rd _ _ g1
  obtain ⟨ad', e2, c2⟩ := h.rd _ _ g2
  rw [e1] at e2
  injection e2 with e2
  subst e2
  obtain ⟨B, c, hv, hc, hm, hr⟩ := (h.code i hi h2).ex
  refine ⟨ad, B, _, c, e1, c1, ?_, rfl, hc, hm, hr⟩
  rw [add1, c2, hv]
set_option maxRecDepth 20000 in
set_option maxHeartbeats 1600000 in
theorem eqDays {A B : Option Addr} {n m c d : Nat} {l k : List SegV} {vs us : List Value} {w : World} {b : Bool} (HN : Hid (n = l.length)) (HM : Hid (m = k.length)) (hn : n ≤ 140737488355328) (hm : m ≤ 140737488355328) (hr : Hid (RdDays w A l vs)) (hk : Hid (RdDays w B k us))
    (hsl : Hid (∀ x ∈ l, x.code.length ≤ 140737488355328)) (hsk : Hid (∀ x ∈ k, x.code.length ≤ 140737488355328)) (hb : Hid (decide (l = k) = b)) :
    Calls Try.prog 38 #[.slice A n c, .slice B m d, .func (.func 39) #[] #[]] w fun e w' => e = .returned (.bool b) ∧ Chg (fun _ => False) w w' := by
  by_cases he : n = m
  · subst he
    have e1 : ((n : Int) != (n : Int)) = false := by simp
    have e2 : ((n : Int) == (n : Int)) = true := by simp
    go_enter Try.func38, Try.ntmps38
    go_wp2
    go_loopw [7, 8, 9, 17] (fun _ _ _ i wr => ∃ q : Nat, q ≤ n ∧ i = .int .i64 q ∧ Hid (l.take q = k.take q) ∧ Hid (Chg (fun _ => False) w wr)) (fun _ _ _ i _ => n - (intOf i).toNat)
    case atStart => exact ⟨0, Nat.zero_le _, rfl, rfl, Chg.refl _ _⟩
    case round =>
      obtain ⟨q, hq, rfl, ht, CK⟩ := hrel
      by_cases hlt : q < n
      · have h1 : q < l.length := by have := HN.out; omega
        have h2 : q < k.length := by have := HM.out; omega
        obtain ⟨a1, B1, n1, c1, rfl, f1, f2, g1, g2, g3, g4⟩ := (hr.out.chg0 CK.out).at_ h1
        obtain ⟨a2, B2, n2, c2, rfl, f3, f4, g5, g6, g7, g8⟩ := (hk.out.chg0 CK.out).at_ h2
        obtain ⟨x, hx0⟩ : ∃ x, x = l[q] := ⟨_, rfl⟩
        obtain ⟨y, hy0⟩ : ∃ y, y = k[q] := ⟨_, rfl⟩
        have hm1 : x ∈ l := by rw [hx0]; exact List.getElem_mem _
        have hm2 : y ∈ k := by rw [hy0]; exact List.getElem_mem _
        rw [← hx0] at f1 g1 g4
        rw [← hy0] at f3 g5 g8
        have G1 := Lib.hid g1
        have G4 := Lib.hid g4
        have G5 := Lib.hid g5
        have G8 := Lib.hid g8
        have hn1 : n1 ≤ 140737488355328 := by rw [g1]; exact hsl.out x hm1
        have hn2 : n2 ≤ 140737488355328 := by rw [g5]; exact hsk.out y hm2
        obtain ⟨bq, hbq⟩ : ∃ bq, decide (x = y) = bq := ⟨_, rfl⟩
        have HX := Lib.hid hx0
        have HY := Lib.hid hy0
        have HBQ := Lib.hid hbq
        have b1 : (0 : Int) ≤ (q : Int) := by omega
        have b2 : (q : Int) < (n : Int) := by omega
        have f3a : (wr.alloc (.cells #[.int .i64 x.day, .slice B1 n1 c1] 79)).cell? (a2.add (q * 2)) = some (.int .i64 y.day) := ((Chg.refl (fun _ => False) wr).alloc _).cell (fun h => h) f3
        have f4a : (wr.alloc (.cells #[.int .i64 x.day, .slice B1 n1 c1] 79)).cell? ⟨(a2.add (q * 2)).block, (a2.add (q * 2)).off + 1, none⟩ = some (.slice B2 n2 c2) := ((Chg.refl (fun _ => False) wr).alloc _).cell (p := ⟨(a2.add (q * 2)).block, (a2.add (q * 2)).off + 1, none⟩) (fun h => h) f4
        clear hx0 hy0 hbq g1 g4 g5 g8 hm1 hm2
        cases bq
        all_goals
          go_wp2_with fail
          refine (eqDay G1 G5 hn1 hn2 (G4.out.chg0 (by repeat (first | exact Chg.refl _ _ | refine Chg.drew ?_ | refine Chg.drewN ?_ _ | refine Chg.alloc ?_ _))) (G8.out.chg0 (by repeat (first | exact Chg.refl _ _ | refine Chg.drew ?_ | refine Chg.drewN ?_ _ | refine Chg.alloc ?_ _))) HBQ).mono ?_
          rintro e w1 ⟨rfl, cc⟩
          have C1 : Hid (Chg (fun _ => False) w w1) := (show Chg (fun _ => False) w _ from by repeat (first | exact CK.out | refine Chg.drew ?_ | refine Chg.drewN ?_ _ | refine Chg.alloc ?_ _)).trans cc (fun _ _ h => h)
          clear cc
          go_wp2_with fail
        · go_ret
          refine ⟨ret_bool (Eq.trans (decide_eq_false (fun h => ?_)).symm hb.out), C1.out⟩
          have h3 := of_decide_eq_false HBQ.out
          apply h3
          rw [HX.out, HY.out]
          subst h
          rfl
        · go_roundw
          case rel => exact ⟨q + 1, by omega, by go_num, take_nextG ht.out h1 h2 (by rw [← HX.out, ← HY.out]; exact of_decide_eq_true HBQ.out), C1.out⟩
          case measure => simp [intOf]; omega
      · go_wp2
        go_ret
        refine ⟨ret_bool (Eq.trans (decide_eq_true ?_).symm hb.out), CK.out⟩
        have := ht.out
        rw [List.take_of_length_le (by have := HN.out; omega), List.take_of_length_le (by have := HM.out; omega)] at this
        exact this
  · have e1 : ((n : Int) != (m : Int)) = true := by simp; omega
    have HE := Lib.hid he
    clear he
    go_enter Try.func38, Try.ntmps38
    go_wp2
    go_ret
    exact ⟨ret_bool (Eq.trans (decide_eq_false (fun h => HE.out (by rw [HN.out, HM.out, h]))).symm hb.out), Chg.refl _ _⟩
end Go.Proofs.Ytlnomadhgoblkaa.Kit
