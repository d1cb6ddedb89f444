/- Texts that the row leans on: PvT, WyA, WyB, OpenB, WyC. -/
import Derived.Test.YtkadamoofiddeaaDoorProg
import Derived.Test.YtkadamoofiddeaaDoorQVerifyWaysah
import Derived.Test.YtkadamoofiddeaaDoorQVerifyWaysab
import Derived.Deep.Slices
-- The law's comparison of two codes (sameCode).
set_option linter.unusedVariables false
set_option linter.unusedSimpArgs false
namespace Go.Proofs.YtkadamoofiddeaaDoor.Kit
open Go.RowKit Go.Maps
theorem insCells_take (l : List InsV) (n : Nat) : insCells (l.take n) = (insCells l).take (n * 3) := by
  induction l generalizing n with
  | nil => simp [insCells]
  | cons x xs ih =>
    rcases n with _ | n
    · simp [insCells]
    · rw [List.take_succ_cons]
      show [_, _, _] ++ insCells (xs.take n) = ([_, _, _] ++ insCells xs).take _
      rw [ih n, show (n + 1) * 3 = n * 3 + 1 + 1 + 1 from by omega]
      rfl
theorem rdG_take {w : World} {A : Option Addr} {l : List InsV} (h : RdG w A (insCells l)) (n : Nat) : RdG w A (insCells (l.take n)) := fun j u hu => by
  rw [insCells_take, List.getElem?_take] at hu
  split at hu
  · exact h j u hu
  · cases hu
/-- The world with only draws taken. -/
def Drw (w w' : World) : Prop := ∃ m, w' = w.drewN m
theorem Drw.refl (w : World) : Drw w w := ⟨0, rfl⟩
theorem Drw.drewN {w w' : World} (h : Drw w w') (n : Nat) : Drw w (w'.drewN n) := by
  obtain ⟨m, rfl⟩ := h
  exact ⟨m + n, by rw [World.drewN_drewN]⟩
theorem Drw.chg {w w' : World} (h : Drw w w') : Chg (fun _ => False) w w' := by
  obtain ⟨m, rfl⟩ := h
  exact (Chg.refl _ w).drewN _
set_option maxRecDepth 100000 in
set_option maxHeartbeats 1600000 in
theorem vSameCode {w : World} {A1 A2 : Option Addr} {n1 c1 n2 c2 : Nat} {l m : List InsV} {b : Bool} (h1 : Hid (RdG w A1 (insCells l))) (h2 : Hid (RdG w A2 (insCells m))) (L1 : Hid (l.length = n1)) (L2 : Hid (m.length = n2)) (hn : n1 ≤ 10000000000000) (hb : Hid (b = true ↔ l = m)) :
    Calls Tryd.prog 18 #[.slice A1 n1 c1, .slice A2 n2 c2] w fun e w' => e = .returned (.bool b) ∧ Hid (Drw w w') := by
  by_cases hl : n1 = n2
  · subst hl
    go_enter Tryd.func18, Tryd.ntmps18
    go_wp2_with fail
    go_loopw [5] (fun v wr => ∃ k : Nat, v = .int .i64 (k : Int) ∧ k ≤ n1 ∧ Hid (∀ j, j < k → l[j]? = m[j]?) ∧ Hid (Drw w wr)) (fun v _ => n1 - (intOf v).toNat)
    case atStart => exact ⟨0, rfl, Nat.zero_le _, fun j hj => absurd hj (by omega), Drw.refl _⟩
    case round =>
      obtain ⟨k, rfl, hk, HQ, HC⟩ := hrel
      by_cases hkn : k < n1
      · have k1 : k < l.length := by rw [L1.out]; exact hkn
        have k2 : k < m.length := by rw [L2.out]; exact hkn
        obtain ⟨x, hx⟩ : ∃ x, l[k]? = some x := ⟨_, List.getElem?_eq_getElem k1⟩
        obtain ⟨y, hy⟩ : ∃ y, m[k]? = some y := ⟨_, List.getElem?_eq_getElem k2⟩
        obtain ⟨_, hxe⟩ := List.getElem?_eq_some_iff.1 hx
        obtain ⟨_, hye⟩ := List.getElem?_eq_some_iff.1 hy
        obtain ⟨j0, j1, j2⟩ := insCells_get l k k1
        obtain ⟨i0, i1, i2⟩ := insCells_get m k k2
        rw [hxe] at j0 j1 j2
        rw [hye] at i0 i1 i2
        obtain ⟨a1, e1, hc1⟩ := (h1.out.chg0 HC.out.chg) _ _ j0
        obtain ⟨a2, e2, hc2⟩ := (h1.out.chg0 HC.out.chg) _ _ j1
        obtain ⟨a3, e3, hc3⟩ := (h1.out.chg0 HC.out.chg) _ _ j2
        subst e1
        cases e2
        cases e3
        obtain ⟨b1, e1, hd1⟩ := (h2.out.chg0 HC.out.chg) _ _ i0
        obtain ⟨b2, e2, hd2⟩ := (h2.out.chg0 HC.out.chg) _ _ i1
        obtain ⟨b3, e3, hd3⟩ := (h2.out.chg0 HC.out.chg) _ _ i2
        subst e1
        cases e2
        cases e3
        rw [← add1] at hc2 hd2
        rw [← add2] at hc3 hd3
        have i3 : (0 : Int) ≤ (k : Int) := by omega
        have i4 : (k : Int) < (n1 : Int) := by omega
        have HX := Lib.hid hx
        have HY := Lib.hid hy
        obtain ⟨o1, p1, q1⟩ := x
        obtain ⟨o2, p2, q2⟩ := y
        simp only at hc1 hc2 hc3 hd1 hd2 hd3
        clear hx hy hxe hye j0 j1 j2 i0 i1 i2 k1 k2
        by_cases hxx : (⟨o1, p1, q1⟩ : InsV) = ⟨o2, p2, q2⟩
        · injection hxx with x1 x2 x3
          subst x1 x2 x3
          go_wp2_with fail
          go_quiet (fail)
          go_wp2_with fail
          go_roundw
          case rel =>
            refine ⟨k + 1, by congr 1, by omega, fun j hj => ?_, HC.out.drewN _⟩
            rcases Nat.lt_or_ge j k with h | h
            · exact HQ.out j h
            · rw [show j = k from by omega, HX.out, HY.out]
          case measure => exact meas_lt hkn
        · have HB : Hid (false = b) := by
            cases b
            · rfl
            · have := hb.out.1 rfl
              have e := HX.out
              rw [this, HY.out] at e
              injection e with e
              exact absurd e.symm hxx
          by_cases y1 : o1 = o2
          · subst y1
            by_cases y2 : p1 = p2
            · subst y2
              have y3 : q1 ≠ q2 := fun e => hxx (by rw [e])
              have y4 : (q1 == q2) = false := by simpa using y3
              have y5 : ¬ q1 = q2 := y3
              clear hxx
              go_wp2_with fail
              go_quiet (fail)
              go_wp2_with fail
              go_ret
              exact ⟨ret_bool HB.out, HC.out.drewN _⟩
            · have y4 : (p1 == p2) = false := by simpa using y2
              clear hxx
              go_wp2_with fail
              go_quiet (fail)
              go_wp2_with fail
              go_ret
              exact ⟨ret_bool HB.out, HC.out.drewN _⟩
          · have y4 : (o1 == o2) = false := by simpa using y1
            clear hxx
            go_wp2_with fail
            go_quiet (fail)
            go_wp2_with fail
            go_ret
            exact ⟨ret_bool HB.out, HC.out.drewN _⟩
      · obtain rfl : k = n1 := by omega
        have HB : Hid (true = b) := by
          have : l = m := by
            apply List.ext_getElem?
            intro i
            by_cases hi : i < k
            · exact HQ.out i hi
            · rw [List.getElem?_eq_none (by rw [L1.out]; omega), List.getElem?_eq_none (by rw [L2.out]; omega)]
          exact (hb.out.2 this).symm
        have i1 : ¬ ((k : Int) < (k : Int)) := by omega
        go_wp2_with fail
        go_ret
        exact ⟨ret_bool HB.out, HC.out⟩
  · have HB : Hid (false = b) := by
      cases b
      · rfl
      · have := hb.out.1 rfl
        exact absurd (by rw [← L1.out, ← L2.out, this]) hl
    have hn2 : ¬ ((n1 : Int) = (n2 : Int)) := by omega
    have hn1 : ((n1 : Int) != (n2 : Int)) = true := by simpa using hn2
    go_enter Tryd.func18, Tryd.ntmps18
    go_wp2_with fail
    go_ret
    exact ⟨ret_bool HB.out, Drw.refl _⟩
end Go.Proofs.YtkadamoofiddeaaDoor.Kit
-- VerifyWays: the law's own takes, puts, sortOf.
set_option linter.unusedVariables false
set_option linter.unusedSimpArgs false
namespace Go.Proofs.YtkadamoofiddeaaDoor.Kit
open Go.RowKit Go.Maps
/-- the slots of a way, as they lie in memory -/
def wsCells (l : List (Int × Bool)) : List Value := l.flatMap fun x => [.int .i64 x.1, .int .i64 (nSort x.2)]
theorem wsCells_length (l : List (Int × Bool)) : (wsCells l).length = l.length * 2 := by
  induction l with
  | nil => rfl
  | cons x xs ih =>
    simp only [wsCells, List.flatMap_cons, List.length_append, List.length_cons, List.length_nil] at ih ⊢
    omega
theorem wsCells_append (l m : List (Int × Bool)) : wsCells (l ++ m) = wsCells l ++ wsCells m := by simp [wsCells]
theorem wsCells_get : ∀ (l : List (Int × Bool)) (i : Nat) (h : i < l.length), (wsCells l)[i * 2]? = some (.int .i64 l[i].1) ∧ (wsCells l)[i * 2 + 1]? = some (.int .i64 (nSort l[i].2))
  | [], i, h => absurd h (by simp)
  | x :: xs, 0, _ => ⟨rfl, rfl⟩
  | x :: xs, i + 1, h => by
    have := wsCells_get xs i (by simpa using h)
    rw [show (i + 1) * 2 = i * 2 + 1 + 1 by omega]
    exact this
theorem wTakesW {x : Int} {w : World} : Calls Tryd.prog 37 #[.int .i64 x] w fun e w' => e = .returned (.int .i64 (wTakes x)) ∧ Drw w w' := by
  by_cases h6 : x = 6
  · subst h6
    go_enter Tryd.func37, Tryd.ntmps37
    go_wp2_with fail
    go_ret
    exact ⟨rfl, Drw.refl _⟩
  · by_cases h8 : x = 8
    · subst h8
      go_enter Tryd.func37, Tryd.ntmps37
      go_wp2_with fail
      go_ret
      exact ⟨rfl, Drw.refl _⟩
    · by_cases h25 : x = 25
      · subst h25
        go_enter Tryd.func37, Tryd.ntmps37
        go_wp2_with fail
        go_ret
        exact ⟨rfl, Drw.refl _⟩
      · by_cases h27 : x = 27
        · subst h27
          go_enter Tryd.func37, Tryd.ntmps37
          go_wp2_with fail
          go_ret
          exact ⟨rfl, Drw.refl _⟩
        · have e1 : (x == 6) = false := by simpa using h6
          have e2 : (x == 8) = false := by simpa using h8
          have e3 : (x == 25) = false := by simpa using h25
          have e4 : (x == 27) = false := by simpa using h27
          have HW : Hid (wTakes x = 1) := by unfold wTakes; rw [Hid, if_neg (by omega), if_neg (by omega)]
          clear h6 h8 h25 h27
          go_enter Tryd.func37, Tryd.ntmps37
          go_wp2_with fail
          go_ret
          exact ⟨ret_i HW.out.symm, Drw.refl _⟩
theorem wPutsW {x : Int} {w : World} (hx : 0 ≤ x ∧ x < 29) : Calls Tryd.prog 38 #[.int .i64 x] w fun e w' => e = .returned (.int .i64 (wPuts x)) ∧ Drw w w' := by
  obtain ⟨n, rfl⟩ : ∃ n : Nat, x = n := ⟨x.toNat, by omega⟩
  have hn : n < 29 := by omega
  by_cases h2 : n = 2
  · subst h2
    go_enter Tryd.func38, Tryd.ntmps38
    go_wp2_with fail
    go_ret
    exact ⟨rfl, Drw.refl _⟩
  · by_cases h25 : n = 25
    · subst h25
      go_enter Tryd.func38, Tryd.ntmps38
      go_wp2_with fail
      go_ret
      exact ⟨rfl, Drw.refl _⟩
    · have e1 : ((n : Int) == 2) = false := by simp; omega
      have e2 : ((n : Int) == 25) = false := by simp; omega
      by_cases h : 19 ≤ n
      · have e3 : (19 : Int) ≤ (n : Int) := by omega
        by_cases h4 : n ≤ 24
        · have e4 : (n : Int) ≤ 24 := by omega
          have HW : Hid (wPuts (n : Int) = 2) := by unfold wPuts; rw [Hid, if_pos (by omega)]
          clear h h4 h2 h25 hx hn
          go_enter Tryd.func38, Tryd.ntmps38
          go_wp2_with fail
          go_ret
          exact ⟨ret_i HW.out.symm, Drw.refl _⟩
        · have e4 : ¬ (n : Int) ≤ 24 := by omega
          have HW : Hid (wPuts (n : Int) = 1) := by unfold wPuts; rw [Hid, if_neg (by omega)]
          clear h h4 h2 h25 hx hn
          go_enter Tryd.func38, Tryd.ntmps38
          go_wp2_with fail
          go_ret
          exact ⟨ret_i HW.out.symm, Drw.refl _⟩
      · have e3 : ¬ (19 : Int) ≤ (n : Int) := by omega
        have HW : Hid (wPuts (n : Int) = 1) := by unfold wPuts; rw [Hid, if_neg (by omega)]
        clear h h2 h25 hx hn
        go_enter Tryd.func38, Tryd.ntmps38
        go_wp2_with fail
        go_ret
        exact ⟨ret_i HW.out.symm, Drw.refl _⟩
/-- what sortOf answers -/
def wSortOf (l : List (Int × Bool)) (n : Int) : Int := match slotsOf l n with
  | none => 0
  | some b => nSort b
set_option maxRecDepth 20000 in
set_option maxHeartbeats 1600000 in
theorem wSortOfW {w : World} {A : Option Addr} {n c : Nat} {l : List (Int × Bool)} {k : Int} (h : Hid (RdG w A (wsCells l))) (L : Hid (l.length = n)) (hn : n ≤ 1000000000) :
    Calls Tryd.prog 39 #[.slice A n c, .int .i64 k] w fun e w' => e = .returned (.int .i64 (wSortOf l k)) ∧ Drw w w' := by
  have WR : wrap64 ((n : Int) - 1) = (n : Int) - 1 := IntWalk.wrap64_in _ (by omega)
  go_enter Tryd.func39, Tryd.ntmps39
  go_wp2_with fail
  go_loopw [5] (fun v wr => ∃ i : Nat, v = .int .i64 ((i : Int) - 1) ∧ i ≤ n ∧ Hid (slotsOf l k = slotsOf (l.take i) k) ∧ Hid (Drw w wr)) (fun v _ => (intOf v + 1).toNat)
  case atStart => exact ⟨n, rfl, Nat.le_refl _, by rw [Hid, List.take_of_length_le (by rw [L.out]; exact Nat.le_refl _)], Drw.refl _⟩
  case round =>
    obtain ⟨i, rfl, hi, HS, HD⟩ := hrel
    rcases i with _ | i
    · have HF : Hid (wSortOf l k = 0) := by
        rw [Hid, wSortOf, HS.out]
        rfl
      have e1 : ¬ (0 : Int) ≤ ((0 : Nat) : Int) - 1 := by omega
      go_wp2_with fail
      go_ret
      exact ⟨ret_i HF.out.symm, HD.out⟩
    · have hil : i < l.length := by have := L.out; omega
      obtain ⟨g1, g2⟩ := wsCells_get l i hil
      have RDr := h.out.chg0 HD.out.chg
      obtain ⟨ad, e1, c1⟩ := RDr _ _ g1
      obtain ⟨ad', e2, c2⟩ := RDr _ _ g2
      subst e1
      cases e2
      obtain ⟨x, hx⟩ : ∃ x, x = l[i] := ⟨_, rfl⟩
      have HX : Hid (l[i]? = some x) := by rw [hx]; exact List.getElem?_eq_getElem hil
      rw [← hx] at c1 c2
      rw [← add1] at c2
      have ST := Lib.hid (slotsOf_take HX.out k)
      have EI : ((i + 1 : Nat) : Int) - 1 = (i : Int) := by omega
      rw [EI]
      have i0 : (0 : Int) ≤ (i : Int) := by omega
      have i1 : (i : Int) < (n : Int) := by omega
      have WS : wrap64 ((i : Int) - 1) = (i : Int) - 1 := IntWalk.wrap64_in _ (by omega)
      obtain ⟨xn, xb⟩ := x
      simp only at c1 c2 ST
      clear hx g1 g2 RDr
      by_cases hxk : xn = k
      · subst hxk
        have HF : Hid (wSortOf l xn = nSort xb) := by
          rw [Hid, wSortOf, HS.out, ST.out, if_pos rfl]
        go_wp2_with fail
        go_ret
        exact ⟨ret_i HF.out.symm, HD.out⟩
      · have hb : (xn == k) = false := by simpa using hxk
        have HS2 : Hid (slotsOf l k = slotsOf (l.take i) k) := by rw [Hid, HS.out, ST.out, if_neg hxk]
        clear hxk
        go_wp2_with fail
        go_roundw
        case rel => exact ⟨i, rfl, by omega, HS2, HD⟩
        case measure => simp only [intOf]; omega
end Go.Proofs.YtkadamoofiddeaaDoor.Kit
-- VerifyWays: the walk of way.
set_option linter.unusedVariables false
set_option linter.unusedSimpArgs false
namespace Go.Proofs.YtkadamoofiddeaaDoor.Kit
open Go.RowKit Go.Maps
theorem infoSlot : (Tryd.prog.info? 81).map (fun i => (i.zero, i.size, i.bytes)) = some (some (.agg #[.int .i64 0, .int .i64 0]), 2, 16) := by kernel_rfl
theorem way_nums {pos ian j ak nn : Nat} (hjp : j ≤ pos) (hpn : pos < nn) (haj : ak ≤ j) (hn : nn ≤ 262144) (hi : ian ≤ 262143) : wrap64 ((pos : Int) + 1) = (pos : Int) + 1 ∧ wrap64 ((pos : Int) + 1 + (ian : Int)) = (pos : Int) + 1 + (ian : Int) ∧ wrap64 ((j : Int) + 1) = (j : Int) + 1 ∧ wrap64 ((ak : Int) + 1) = (ak : Int) + 1 ∧ j + 1 ≤ pos + 1 ∧ j + 1 ≤ pos + 1 + ian :=
  ⟨IntWalk.wrap64_in _ (by omega), IntWalk.wrap64_in _ (by omega), IntWalk.wrap64_in _ (by omega), IntWalk.wrap64_in _ (by omega), by omega, by omega⟩
/-- the value taken off last -/
def topI (st : List Bool) (j : Nat) : Int := if j = 0 then 0 else nSort (st.getD (st.length - j) false)
theorem nSorts_take (st : List Bool) (m : Nat) : (st.map nSort).take m = (st.take m).map nSort := by rw [List.map_take]
theorem vEffectN {x : Int} {w : World} (hk : Hid (KindsAt w)) (ho : Hid (0 ≤ x ∧ x < 29)) {T M : Nat} (hT : Hid (vTakes x = T)) (hM : Hid (vPuts x = M)) : Calls Tryd.prog 36 #[.int .i64 x] w fun e w' => e = .returned (.tuple #[.int .i64 (T : Int), .int .i64 (M : Int), .int .i64 0]) ∧ Chg (fun _ => False) w w' := by
  refine (vEffect hk ho).mono ?_
  rintro e w1 ⟨rfl, c⟩
  obtain ⟨_, _, _, _, h1, h2⟩ := vNums_eq ho.out
  refine ⟨?_, c⟩
  rw [h1, h2, hT.out, hM.out]
theorem wTakesN {x v : Int} {w : World} (h : Hid (wTakes x = v)) : Calls Tryd.prog 37 #[.int .i64 x] w fun e w' => e = .returned (.int .i64 v) ∧ Drw w w' := by
  rw [← h.out]
  exact wTakesW
set_option maxRecDepth 100000 in
set_option maxHeartbeats 6400000 in
theorem wayW {w : World} {dx fs ff fb : Int} {cx : List InsV} {fsl fc : Int} {A : Nat → Option StV} {hl : List Int} {B A9 AC : Option Addr} {nn cc c9 nc ccc : Nat} {ch : List Bool} (hC : Hid (RdG w B (insCells cx))) (L1 : Hid (cx.length = nn)) (hn : nn ≤ 262144) (hH : Hid (Own w 3 .i64 (.slice A9 nn c9) hl)) (L9 : Hid (hl.length = nn))
    (hch : Hid (RdG w AC (ch.map Value.bool))) (LC : Hid (ch.length = nc)) (hS : Hid (∀ pos st sl, pos < nn → WayI A pos st sl → hl[pos]? = some (st.length : Int) ∧ (st.length : Int) ≤ fs ∧ ∃ i, WayT ⟨dx, cx⟩ ⟨fs, ff, fb, fsl, fc⟩ A pos st sl i)) (hI : Hid (WayI A 0 [] [])) (h0 : 0 < nn) (hF : fs ≤ 16384) (hG : Hid (Glob w w.heap.size)) :
    Calls Tryd.prog 16 #[.agg #[.int .i64 dx, .slice B nn cc], .slice A9 nn c9, .agg #[.int .i64 fs, .int .i64 ff, .int .i64 fb], .slice AC nc ccc] w fun e w' => e = .returned (.bool true) ∧ Hid (Chg (fun _ => False) w w') := by
  obtain ⟨w0, hw0⟩ : ∃ x, x = (w.alloc (.cells #[.int .i64 dx, .slice B nn cc] 42)).alloc (.cells #[.int .i64 fs, .int .i64 ff, .int .i64 fb] 35) := ⟨_, rfl⟩
  obtain ⟨g1, hg1⟩ : ∃ x, x = w.heap.size := ⟨_, rfl⟩
  have C0 : Hid (Chg (fun _ => False) w w0) := by rw [hw0]; exact ((Chg.refl _ w).alloc _).alloc _
  have B1 : Hid (Blk w0 g1 42 [.int .i64 dx, .slice B nn cc]) := by rw [hw0, hg1]; exact (Blk.new _ _ _).alloc _
  have e0 : (w.alloc (.cells #[.int .i64 dx, .slice B nn cc] 42)).heap.size = g1 + 1 := by rw [hg1]; simp
  have B2 : Hid (Blk w0 (g1 + 1) 35 [.int .i64 fs, .int .i64 ff, .int .i64 fb]) := by rw [hw0, ← e0]; exact Blk.new _ _ _
  have HG1 := Lib.hid hg1
  have PS : Hid (∀ W, Chg (fun _ => False) w0 W → W.cell? ⟨g1, 0, none⟩ = some (.int .i64 dx) ∧ W.cell? ⟨g1, 1, none⟩ = some (.slice B nn cc)) := fun W cW => ⟨(B1.out.chg cW (fun h => h)).at_ (i := 0) rfl, (B1.out.chg cW (fun h => h)).at_ (i := 1) rfl⟩
  have PP : Hid (∀ W, Chg (fun _ => False) w0 W → W.cell? ⟨g1 + 1, 0, none⟩ = some (.int .i64 fs) ∧ W.cell? ⟨g1 + 1, 2, none⟩ = some (.int .i64 fb)) := fun W cW => ⟨(B2.out.chg cW (fun h => h)).at_ (i := 0) rfl, (B2.out.chg cW (fun h => h)).at_ (i := 2) rfl⟩
  go_enter Tryd.func16, Tryd.ntmps16
  go_upto_region 1 with fail
  rw [← hw0, ← hg1]
  clear hw0 hg1 e0
  go_wp2_with fail
  go_loopw [9, 10, 11, 12, 13] (fun v9 v10 v11 v12 v13 wr => ∃ (A1 A2 : Option Addr) (n1 c1 n2 c2 ak pos j : Nat) (st : List Bool) (sl : List (Int × Bool)), v9 = .slice A1 n1 c1 ∧ v10 = .slice A2 n2 c2 ∧ v11 = .int .i64 (ak : Int) ∧ v12 = .int .i64 (pos : Int) ∧ v13 = .int .i64 (j : Int) ∧ j ≤ pos ∧ pos < nn ∧ ak ≤ j ∧ n2 ≤ j ∧ Hid (st.length = n1) ∧ Hid (sl.length = n2) ∧ Hid (WayI A pos st sl) ∧
    Hid (Own wr 3 .i64 (.slice A1 n1 c1) (st.map nSort)) ∧ Hid (OwnV wr 81 2 (.slice A2 n2 c2) n2 (wsCells sl)) ∧ Hid (∀ y, Value.ownBlock (.slice A2 n2 c2) = some y → w0.heap.size ≤ y) ∧ Hid (Chg (fun _ => False) w0 wr)) (fun _ _ _ _ v _ => nn - (intOf v).toNat)
  case atStart => exact ⟨none, none, 0, 0, 0, 0, 0, 0, 0, [], [], rfl, rfl, rfl, rfl, rfl, Nat.le_refl _, h0, Nat.le_refl _, Nat.le_refl _, rfl, rfl, hI, Own.nil _ _ _, OwnV.nil _ _ _, fun y hy => by simp [Value.ownBlock] at hy, Chg.refl _ _⟩
  case round =>
    obtain ⟨A1, A2, n1, c1, n2, c2, ak, pos, j, st, sl, rfl, rfl, rfl, rfl, rfl, hjp, hpn, haj, hnj, LS, LL, WI, OS, OL, GL, HC⟩ := hrel
    have CW : Hid (Chg (fun _ => False) w wr) := C0.out.trans HC.out (fun _ _ h => h)
    obtain ⟨e1, e2, i, T⟩ := hS.out pos st sl hpn WI.out
    rw [LS.out] at e1 e2
    have HT := Lib.hid T
    have hk1 : pos < cx.length := by rw [L1.out]; exact hpn
    obtain ⟨g1', hxe⟩ := List.getElem?_eq_some_iff.1 T.at_
    obtain ⟨j0, j1, j2⟩ := insCells_get cx pos hk1
    simp only at hxe
    rw [hxe] at j0 j1 j2
    obtain ⟨y1, z1, hc1⟩ := (hC.out.chg0 CW.out) _ _ j0
    obtain ⟨y2, z2, hc2⟩ := (hC.out.chg0 CW.out) _ _ j1
    obtain ⟨y3, z3, hc3⟩ := (hC.out.chg0 CW.out) _ _ j2
    subst z1
    cases z2
    cases z3
    rw [← add1] at hc2
    rw [← add2] at hc3
    obtain ⟨gs, hv, rfl, hlv, hcv⟩ := own_elemI (OwnV.chg hH.out CW.out (fun _ _ h => h)) L9.out hpn
    rw [e1] at hlv
    injection hlv with hlv
    subst hlv
    have VAL := T.valid
    clear T e1 j0 j1 j2 g1' hxe hk1
    obtain ⟨op, ia, ib⟩ := i
    simp only at hc1 hc2 hc3 VAL
    obtain ⟨⟨v1, v2⟩, ⟨v3, v4⟩, v5, v6⟩ := VAL
    have i0 : (0 : Int) ≤ (pos : Int) := by omega
    have i1 : (pos : Int) < (nn : Int) := by omega
    have i2 : ¬ ((pos : Int) < 0) := by omega
    have i3 : ¬ ((nn : Int) ≤ (pos : Int)) := by omega
    have i4 : ¬ (fs < (n1 : Int)) := by omega
    have i5 : (j : Int) < (nn : Int) := by omega
    have b0 := (PS.out wr HC.out).1
    have b1 := (PS.out wr HC.out).2
    have b2 := (PP.out wr HC.out).1
    have b3 := (PP.out wr HC.out).2
    go_upto_region 11 with fail
    obtain ⟨w1, hw1⟩ : ∃ y, y = wr.alloc (.cells #[.int .i64 op, .int .i64 ia, .int .i64 ib] 47) := ⟨_, rfl⟩
    obtain ⟨gi, hgi⟩ : ∃ y, y = wr.heap.size := ⟨_, rfl⟩
    have C1 : Hid (Chg (fun _ => False) wr w1) := by rw [hw1]; exact (Chg.refl _ wr).alloc _
    have BI : Hid (Blk w1 gi 47 [.int .i64 op, .int .i64 ia, .int .i64 ib]) := by rw [hw1, hgi]; exact Blk.new _ _ _
    rw [← hw1, ← hgi]
    clear hw1 hgi hc1 hc2 hc3 hcv b0 b1 b2 b3
    have C01 : Hid (Chg (fun _ => False) w0 w1) := HC.out.trans C1.out (fun _ _ h => h)
    have IW : Hid (∀ W, Chg (fun _ => False) w1 W → W.cell? ⟨gi, 0, none⟩ = some (.int .i64 op) ∧ W.cell? ⟨gi, 1, none⟩ = some (.int .i64 ia) ∧ W.cell? ⟨gi, 2, none⟩ = some (.int .i64 ib)) := fun W cW => ⟨(BI.out.chg cW (fun h => h)).at_ (i := 0) rfl, (BI.out.chg cW (fun h => h)).at_ (i := 1) rfl, (BI.out.chg cW (fun h => h)).at_ (i := 2) rfl⟩
    have OS1 : Hid (Own w1 3 .i64 (.slice A1 n1 c1) (st.map nSort)) := OwnV.chg OS.out C1.out (fun _ _ h => h)
    have OL1 : Hid (OwnV w1 81 2 (.slice A2 n2 c2) n2 (wsCells sl)) := OwnV.chg OL.out C1.out (fun _ _ h => h)
    have d0 := (IW.out w1 (Chg.refl _ _)).1
    have d1 := (IW.out w1 (Chg.refl _ _)).2.1
    have d2 := (IW.out w1 (Chg.refl _ _)).2.2
    have b1 := (PS.out w1 C01.out).2
    have b0 := (PS.out w1 C01.out).1
    clear OS OL HC CW i2 i3 i4
    by_cases h00 : op = 0
    · subst h00
      obtain ⟨f1, f2⟩ := HT.out.fin rfl
      obtain rfl : n1 = 0 := by rw [← LS.out, f1]; rfl
      have f3 : nn = pos + 1 := by rw [← L1.out]; exact f2.symm
      subst f3
      have WE : IntKind.i64.wrap (((pos + 1 : Nat) : Int) - 1) = (pos : Int) := by rw [IntWalk.i64_in _ (by omega)]; omega
      have WE2 : wrap64 (((pos + 1 : Nat) : Int) - 1) = (pos : Int) := by rw [IntWalk.wrap64_in _ (by omega)]; omega
      clear f1 f2
      go_wp2_with fail
      go_ret
      exact ⟨rfl, (C0.out.trans C01.out (fun _ _ h => h))⟩
    · have z0 : (op == 0) = false := by simpa using h00
      obtain ⟨TT, hTT⟩ : ∃ y, y = vTakes op := ⟨_, rfl⟩
      obtain ⟨MM, hMM⟩ : ∃ y, y = vPuts op := ⟨_, rfl⟩
      have HTT : Hid (vTakes op = TT) := hTT.symm
      have HMM : Hid (vPuts op = MM) := hMM.symm
      have tk : TT ≤ n1 := by rw [hTT, ← LS.out]; exact HT.out.takes
      clear hTT hMM h00
      go_upto_region 13 with fail
      go_wp2_with fail
      refine (vEffectN (Lib.hid (hG.out.k.chg0 (C0.out.trans C01.out (fun _ _ h => h)))) (Lib.hid ⟨v1, v2⟩) HTT HMM).mono ?_
      rintro e w2 ⟨rfl, ce⟩
      have C2 := Lib.hid ce
      have C02 : Hid (Chg (fun _ => False) w0 w2) := C01.out.trans C2.out (fun _ _ h => h)
      have OS2 : Hid (Own w2 3 .i64 (.slice A1 n1 c1) (st.map nSort)) := OwnV.chg OS1.out C2.out (fun _ _ h => h)
      have OL2 : Hid (OwnV w2 81 2 (.slice A2 n2 c2) n2 (wsCells sl)) := OwnV.chg OL1.out C2.out (fun _ _ h => h)
      have t0 : ¬ ((n1 : Int) < (TT : Int)) := by omega
      have t0n : ¬ (n1 < TT) := by omega
      have t0d : decide ((n1 : Int) < (TT : Int)) = false := decide_eq_false t0
      have t0nd : decide (n1 < TT) = false := decide_eq_false t0n
      clear ce d0 d1 d2 b0 b1 OS1 OL1
      have d0 := (IW.out w2 C2.out).1
      have d1 := (IW.out w2 C2.out).2.1
      have d2 := (IW.out w2 C2.out).2.2
      have b1 := (PS.out w2 C02.out).2
      have b0 := (PS.out w2 C02.out).1
      go_wp2_with fail
      go_loopw [9, 18, 19] (fun v9 v18 v19 wr => ∃ k : Nat, v19 = .int .i64 (k : Int) ∧ k ≤ TT ∧ v9 = .slice A1 (n1 - k) c1 ∧ v18 = .int .i64 (topI st k) ∧ Hid (Own wr 3 .i64 (.slice A1 (n1 - k) c1) ((st.take (n1 - k)).map nSort)) ∧ Hid (Chg (fun _ => False) w2 wr)) (fun _ _ v _ => TT - (intOf v).toNat)
      case atStart => exact ⟨0, rfl, Nat.zero_le _, rfl, rfl, by rw [Hid, Nat.sub_zero, List.take_of_length_le (by rw [LS.out]; exact Nat.le_refl _)]; exact OS2.out, Chg.refl _ _⟩
      case round =>
        obtain ⟨k, rfl, hk, rfl, rfl, OK, CK⟩ := hrel
        by_cases hkT : k < TT
        · obtain ⟨m, hm⟩ : ∃ m, m = n1 - (k + 1) := ⟨_, rfl⟩
          have HM := Lib.hid hm
          obtain ⟨nk, hnk⟩ : ∃ nk, nk = n1 - k := ⟨_, rfl⟩
          have kn : nk = m + 1 := by omega
          have HNK := Lib.hid kn
          rw [← hnk] at OK ⊢
          have lt : ((st.take nk).map nSort).length = nk := by rw [List.length_map, List.length_take, LS.out]; omega
          obtain ⟨gs2, x, rfl, hx, hcx⟩ := own_elemI (i := m) OK.out lt (by omega)
          obtain ⟨b, hb⟩ : ∃ b, st[m]? = some b := ⟨_, List.getElem?_eq_getElem (by rw [LS.out]; omega)⟩
          obtain rfl : x = nSort b := by
            rw [List.getElem?_map, List.getElem?_take, if_pos (by omega), hb] at hx
            simpa using hx.symm
          have HB := Lib.hid hb
          have HTOP : Hid (nSort b = topI st (k + 1)) := by
            rw [Hid, topI, if_neg (by omega), LS.out, ← HM.out, List.getD_eq_getElem?_getD, hb]
            rfl
          have OKm : Hid (Own wr 3 .i64 (.slice (some ⟨gs2, 0, none⟩) m c1) ((st.take m).map nSort)) := by
            have h1 : Own wr 3 .i64 (.slice (some ⟨gs2, 0, none⟩) ((st.take nk).map nSort).length c1) ((st.take nk).map nSort) := by rw [lt]; exact OK.out
            have h2 := h1.cut (m := m) (by rw [lt]; omega)
            rw [nSorts_take, List.take_take, Nat.min_eq_left (by omega)] at h2
            exact h2
          have WM : IntKind.i64.wrap ((nk : Int) - 1) = (m : Int) := by rw [IntWalk.i64_in _ (by omega)]; omega
          have WM2 : wrap64 ((nk : Int) - 1) = (m : Int) := by rw [IntWalk.wrap64_in _ (by omega)]; omega
          have m0 : (0 : Int) ≤ (m : Int) := by omega
          have m1 : (m : Int) < (nk : Int) := by omega
          have mk : m ≤ nk := by omega
          have mc : m ≤ c1 := by
            obtain ⟨_, _, e, h1, _⟩ := OwnV.slice OKm.out
            injection e with _ _ e
            rw [← e, List.length_map, List.length_take, LS.out] at h1
            omega
          have q0 := (IW.out wr (C2.out.trans CK.out (fun _ _ h => h))).1
          have kT : (k : Int) < (TT : Int) := by omega
          clear hx lt hb hm kn hnk
          go_upto_region 22 with fail
          have SO : Hid (wTakes op = 0 ∨ wTakes op = nSort b) := HT.out.sorts.imp id fun h => (h m b (by rw [LS.out, HTT.out, HM.out]; omega) HB.out).symm
          have nz : (nSort b == 0) = false := by cases b <;> rfl
          have nz2 : (nSort b != 0) = true := by cases b <;> rfl
          rcases SO.out with h | h
          · have HWT := Lib.hid h
            clear h
            go_wp2_with fail
            refine (wTakesN HWT).mono ?_
            rintro e w3 ⟨rfl, D3⟩
            have C3 := Lib.hid D3.chg
            clear D3
            go_wp2_with fail
            go_roundw
            case rel => exact ⟨k + 1, by congr 1, by omega, by rw [HM.out], by rw [HTOP.out], by rw [← HM.out]; exact OwnV.chg OKm.out C3.out (fun _ _ h => h), CK.out.trans C3.out (fun _ _ h => h)⟩
            case measure => exact meas_lt hkT
          · have HWT := Lib.hid h
            clear h
            go_wp2_with fail
            refine (wTakesN HWT).mono ?_
            rintro e w3 ⟨rfl, D3⟩
            have C3 := Lib.hid D3.chg
            have q1 := (IW.out w3 ((C2.out.trans CK.out (fun _ _ h => h)).trans C3.out (fun _ _ h => h))).1
            clear D3
            go_wp2_with fail
            refine (wTakesN HWT).mono ?_
            rintro e w4 ⟨rfl, D4⟩
            have C4 := Lib.hid (C3.out.trans D4.chg (fun _ _ h => h))
            clear D4
            go_wp2_with fail
            go_roundw
            case rel => exact ⟨k + 1, by congr 1, by omega, by rw [HM.out], by rw [HTOP.out], by rw [← HM.out]; exact OwnV.chg OKm.out C4.out (fun _ _ h => h), CK.out.trans C4.out (fun _ _ h => h)⟩
            case measure => exact meas_lt hkT
        · obtain rfl : k = TT := by omega
          have kT : ¬ ((k : Int) < (k : Int)) := by omega
          have CK0 : Hid (Chg (fun _ => False) w1 wr) := C2.out.trans CK.out (fun _ _ h => h)
          have C0r : Hid (Chg (fun _ => False) w0 wr) := C01.out.trans CK0.out (fun _ _ h => h)
          have OLr : Hid (OwnV wr 81 2 (.slice A2 n2 c2) n2 (wsCells sl)) := OwnV.chg OL2.out CK.out (fun _ _ h => h)
          obtain ⟨wk, hwk⟩ : ∃ y, y = wr := ⟨_, rfl⟩
          subst hwk
          clear d0 d1 d2 b0 b1 OL2 OS2 CK hk C2 C02
          have d0 := (IW.out wk CK0.out).1
          have d1 := (IW.out wk CK0.out).2.1
          have d2 := (IW.out wk CK0.out).2.2
          obtain ⟨tp, htp⟩ : ∃ y, y = topI st k := ⟨_, rfl⟩
          have HTP := Lib.hid htp
          rw [← htp]
          clear htp
          go_upto_region 24 with fail
          go_wp2_with fail
          refine (wPutsW ⟨v1, v2⟩).mono ?_
          rintro e w3 ⟨rfl, D3⟩
          have C3 := Lib.hid (CK0.out.trans D3.chg (fun _ _ h => h))
          have OS3 : Hid (Own w3 3 .i64 (.slice A1 (n1 - k) c1) ((st.take (n1 - k)).map nSort)) := OwnV.chg OK.out D3.chg (fun _ _ h => h)
          have OL3 : Hid (OwnV w3 81 2 (.slice A2 n2 c2) n2 (wsCells sl)) := OwnV.chg OLr.out D3.chg (fun _ _ h => h)
          have C03 : Hid (Chg (fun _ => False) w0 w3) := C01.out.trans C3.out (fun _ _ h => h)
          clear D3 OK OLr d0 d1 d2 C0r CK0
          have d0 := (IW.out w3 C3.out).1
          have d1 := (IW.out w3 C3.out).2.1
          have d2 := (IW.out w3 C3.out).2.2
          go_upto_block 4 with fail
          obtain ⟨SL, hSL⟩ : ∃ y, y = wSl ⟨op, ia, ib⟩ st sl := ⟨_, rfl⟩
          obtain ⟨SO, hSO⟩ : ∃ y, y = wSort ⟨op, ia, ib⟩ st sl := ⟨_, rfl⟩
          have HSL := Lib.hid hSL
          have HSO := Lib.hid hSO
          clear hSL hSO
          have BI3 : Hid (Blk w3 gi 47 [.int .i64 op, .int .i64 ia, .int .i64 ib]) := BI.out.chg C3.out (fun h => h)
          go_cut [10, 20] from 22 to 194 (fun v10 v20 wx => v20 = .int .i64 (nSort SO) ∧ ∃ (A3 : Option Addr) (n3 c3 : Nat), v10 = .slice A3 n3 c3 ∧ n3 ≤ j + 1 ∧ Hid (SL.length = n3) ∧ Hid (OwnV wx 81 2 (.slice A3 n3 c3) n3 (wsCells SL)) ∧ Hid (∀ y, Value.ownBlock (.slice A3 n3 c3) = some y → w0.heap.size ≤ y) ∧
            Hid (Own wx 3 .i64 (.slice A1 (n1 - k) c1) ((st.take (n1 - k)).map nSort)) ∧ Hid (Blk wx gi 47 [.int .i64 op, .int .i64 ia, .int .i64 ib]) ∧ Hid (Chg (fun _ => False) w0 wx))
          case first => as_aux_lemma =>
            by_cases h6 : op = 6
            · subst h6
              obtain rfl : k = 1 := by rw [← HTT.out]; rfl
              have E1 : SL = sl ++ [(ia, wTop ⟨6, ia, ib⟩ st)] := by rw [HSL.out, wSl, if_pos rfl]
              have E2 : tp = nSort SO := by
                rw [HTP.out, HSO.out, wSort, if_pos rfl, topI, if_neg (by decide), wTop]
                rfl
              have E3 : Hid (SO = wTop ⟨6, ia, ib⟩ st) := by rw [HSO.out, wSort, if_pos rfl, Hid]
              subst E2
              have HE1 := Lib.hid E1
              clear E1
              have OLa : Hid (OwnV (w3.alloc (.cells #[.int .i64 ia, .int .i64 (nSort SO)] 81)) 81 2 (.slice A2 n2 c2) n2 (wsCells sl)) := OwnV.chg OL3.out ((Chg.refl (fun _ => False) w3).alloc _) (fun _ _ h => h)
              go_wp2_with (at_builtin; go_loud (refine wp_appS rfl _ _ 76 81 (.agg #[.int .i64 0, .int .i64 0]) 2 16 rfl Tryd.underlying76 infoSlot rfl (by decide) (by decide) (.slice A2 n2 c2) n2 (wsCells sl) rfl OLa.out _ 1 1 [.int .i64 ia, .int .i64 (nSort SO)] rfl rfl (rdG_blk (Blk.new w3 #[.int .i64 ia, .int .i64 (nSort SO)] 81)) (by simp [Value.oneCell']) (by omega) ?_); intro v4 w4 k1 k2 k3; obtain ⟨A4, c4, rfl, _, _⟩ := k1.slice; have K1 := Lib.hid k1; have K2 := Lib.hid k2; have K3 := Lib.hid k3; clear k1 k2 k3)
              go_meet
              case rel =>
                have C4 : Chg (fun y => Value.ownBlock (.slice A2 n2 c2) = some y) w3 w4 := ((Chg.refl _ w3).alloc _).trans K2.out (fun _ _ h => h)
                have NB : ∀ y, Value.ownBlock (.slice A2 n2 c2) = some y → w0.heap.size ≤ y := GL.out
                refine ⟨rfl, A4, n2 + 1, c4, rfl, by omega, ?_, ?_, ?_, ?_, ?_, ?_⟩
                · rw [Hid, HE1.out, List.length_append, LL.out]; rfl
                · have := K1.out
                  rw [Hid, HE1.out, wsCells_append]
                  have e : wsCells [(ia, wTop ⟨6, ia, ib⟩ st)] = [.int .i64 ia, .int .i64 (nSort SO)] := by rw [E3.out]; rfl
                  rw [e]
                  exact this
                · exact K3.out.ge NB (by have := C03.out.size; simp; omega)
                · exact OwnV.chg OS3.out C4 (fun y hy e => by
                    obtain ⟨cur, hb⟩ := OwnV.typed OL3.out y e
                    exact OwnV.type_ne OS3.out hb (by decide) hy)
                · exact BI3.out.chg C4 (fun e => OwnV.type_ne OL3.out BI3.out (by decide) e)
                · exact C03.out.trans C4 (fun y hy e => absurd (NB y e) (by omega))
            · have z6 : (op == 6) = false := by simpa using h6
              have E1 : SL = sl := by rw [HSL.out, wSl, if_neg h6]
              subst E1
              by_cases h7 : op = 7
              · subst h7
                obtain ⟨v, hv⟩ := HT.out.get rfl
                have HV : Hid (wSortOf SL ia = nSort SO) := by
                  rw [Hid, wSortOf, hv, HSO.out, wSort, if_neg h6, if_pos rfl, hv]
                  rfl
                have nz : (nSort SO == 0) = false := by cases SO <;> rfl
                clear hv
                go_wp2_with fail
                refine (wSortOfW (Lib.hid (OwnV.rdG OL3.out)) LL (by omega)).mono ?_
                rintro e w4 ⟨rfl, D4⟩
                have C4 := Lib.hid D4.chg
                clear D4
                rw [HV.out]
                go_wp2_with fail
                go_meet
                case rel => exact ⟨rfl, A2, n2, c2, rfl, by omega, LL, OwnV.chg OL3.out C4.out (fun _ _ h => h), GL, OwnV.chg OS3.out C4.out (fun _ _ h => h), BI3.out.chg C4.out (fun h => h), C03.out.trans C4.out (fun _ _ h => h)⟩
              · have z7 : (op == 7) = false := by simpa using h7
                have HV : Hid (wPuts op = nSort SO) := by
                  rw [Hid, HSO.out, wSort, if_neg h6, if_neg h7]
                  exact wPuts_eq ⟨v1, v2⟩
                rw [HV.out]
                by_cases h3 : op = 3
                · subst h3
                  obtain ⟨o1, o2⟩ := HT.out.obs rfl
                  simp only at o1 o2
                  have x1 : ¬ (dx < ib) := by omega
                  have x2 : ¬ (fb < ib) := by omega
                  have p2 := (PP.out w3 C03.out).2
                  have p0 := (PS.out w3 C03.out).1
                  clear h6 h7 o1 o2
                  go_wp2_with fail
                  go_meet
                  case rel => exact ⟨rfl, A2, n2, c2, rfl, by omega, LL, OL3, GL, OS3, BI3, C03⟩
                · have z3 : (op == 3) = false := by simpa using h3
                  clear h6 h7 h3
                  go_wp2_with fail
                  go_meet
                  case rel => exact ⟨rfl, A2, n2, c2, rfl, by omega, LL, OL3, GL, OS3, BI3, C03⟩
          case rest => as_aux_lemma =>
            obtain ⟨rfl, A3, n3, c3, rfl, hn3, LSL, OL4, GL4, OS4, BI4, C4⟩ := hcut
            obtain ⟨NX, hNX⟩ : ∃ y, y = wStk ⟨op, ia, ib⟩ st sl := ⟨_, rfl⟩
            have HNX := Lib.hid hNX
            have HEQ : Hid (NX = st.take (n1 - k) ++ (if MM = 0 then [] else [SO])) := by
              rw [Hid, hNX, wStk, HSO.out, LS.out]
              show st.take (n1 - vTakes op) ++ _ = _
              rw [HTT.out, show vPuts (InsV.mk op ia ib).op = MM from HMM.out]
            have HLN : Hid (NX.length = (n1 - k) + (if MM = 0 then 0 else 1)) := by
              rw [Hid, HEQ.out, List.length_append, List.length_take, LS.out, Nat.min_eq_left (by omega)]
              split <;> rfl
            obtain ⟨nx, hnx⟩ : ∃ y, y = NX.length := ⟨_, rfl⟩
            have LNX : Hid (NX.length = nx) := hnx.symm
            clear hNX hnx OS3 OL3 BI3 d0 d1 d2
            obtain ⟨w4, hw4⟩ : ∃ y, y = wc := ⟨_, rfl⟩
            subst hw4
            go_upto_if 159 with fail
            go_cut [9] from 22 to 194 (fun v9 wx => ∃ (A5 : Option Addr) (c5 : Nat), v9 = .slice A5 nx c5 ∧ Hid (Own wx 3 .i64 (.slice A5 nx c5) (NX.map nSort)) ∧ Hid (OwnV wx 81 2 (.slice A3 n3 c3) n3 (wsCells SL)) ∧ Hid (Blk wx gi 47 [.int .i64 op, .int .i64 ia, .int .i64 ib]) ∧ Hid (Chg (fun _ => False) w0 wx))
            case first => as_aux_lemma =>
              by_cases hM : MM = 0
              · subst hM
                have E : Hid (NX = st.take (n1 - k)) := by rw [Hid, HEQ.out, if_pos rfl, List.append_nil]
                have EN : nx = n1 - k := by rw [← LNX.out, HLN.out, if_pos rfl]; rfl
                go_wp2_with fail
                go_meet
                case rel => exact ⟨A1, c1, by rw [EN], by rw [Hid, EN, E.out]; exact OS4.out, OL4, BI4, C4⟩
              · have E : Hid (NX = st.take (n1 - k) ++ [SO]) := by rw [Hid, HEQ.out, if_neg hM]
                have EN : nx = n1 - k + 1 := by rw [← LNX.out, HLN.out, if_neg hM]
                have m0 : (0 : Int) < (MM : Int) := by omega
                have LT : Hid (((st.take (n1 - k)).map nSort).length = n1 - k) := by rw [Hid, List.length_map, List.length_take, LS.out]; omega
                obtain ⟨nq, hnq⟩ : ∃ y, y = n1 - k := ⟨_, rfl⟩
                rw [← hnq] at E EN OS4 LT ⊢
                have hq : nq ≤ 16384 := by omega
                clear hnq hM
                obtain ⟨LQ, hLQ⟩ : ∃ y, y = (st.take nq).map nSort := ⟨_, rfl⟩
                have EQ : Hid (NX.map nSort = LQ ++ [nSort SO]) := by rw [Hid, E.out, hLQ, List.map_append]; rfl
                rw [← hLQ] at OS4 LT
                clear hLQ
                have O0 : Hid (Own (w4.alloc (.cells #[] 3)) 3 .i64 (.slice (some ⟨w4.heap.size, 0, none⟩) 0 0) []) := Own.lit w4 3 .i64 [] (by decide)
                have R0 : Hid (Rd (w4.alloc (.cells #[] 3)) .i64 A1 LQ) := (OwnV.rdG (OwnV.chg OS4.out ((Chg.refl (fun _ => False) w4).alloc _) (fun _ _ h => h))).toRd
                go_wp2_with (first | (at_builtin; go_loud (refine wp_appn rfl _ _ 23 3 .i64 8 rfl Tryd.underlying23 infoI (by decide) (.slice (some ⟨w4.heap.size, 0, none⟩) 0 0) [] rfl O0.out A1 c1 LQ nq rfl LT.out.symm R0.out (by rw [LT.out]; simp; omega) ?_); intro v5 w5 k1 k2 k3 k4; obtain ⟨A5, c5, rfl, _, _⟩ := OwnV.slice k1; rw [List.nil_append, LT.out] at k1; rw [List.nil_append, LT.out]; have K1 := Lib.hid k1; have K3 := Lib.hid k3; have K4 := Lib.hid k4; clear k1 k2 k3 k4) | (at_builtin; go_loud (refine wp_app1 rfl _ _ 23 3 .i64 8 rfl Tryd.underlying23 infoI (by decide) (.slice A5 nq c5) LQ (nSort SO) rfl K1.out rfl (by rw [LT.out]; omega) ?_); intro v6 w6 k1 k2 k3 k4; obtain ⟨A6, c6, rfl, _, _⟩ := OwnV.slice k1; have L1 := Lib.hid k1; have L3 := Lib.hid k3; have L4 := Lib.hid k4; clear k1 k2 k3 k4))
                go_meet
                case rel =>
                  have FR := own_fresh (w := w4) (o := .cells #[] 3) (n := nq) (c2 := c5) (A2 := A5) (by have h := K4.out; rw [List.nil_append, LT.out] at h; rw [Nat.zero_add]; exact h)
                  have c1' : Chg (fun _ => False) w4 w5 := ((Chg.refl (fun _ => False) w4).alloc _).trans K3.out (fun y hy e => by simp [Value.ownBlock] at e; omega)
                  have c2' : Chg (fun _ => False) w4 w6 := c1'.trans L3.out (fun y hy e => absurd (FR.out y e) (by omega))
                  have EL : (LQ ++ [nSort SO]).length = nx := by rw [List.length_append, LT.out, EN]; rfl
                  rw [EL] at L1
                  refine ⟨A6, c6, by rw [← EL, List.length_append]; rfl, ?_, OwnV.chg OL4.out c2' (fun _ _ h => h), BI4.out.chg c2' (fun h => h), C4.out.trans c2' (fun _ _ h => h)⟩
                  rw [Hid, EQ.out]
                  exact L1.out
            case rest => as_aux_lemma =>
              obtain ⟨A5, c5, rfl, OS5, OL5, BI5, C5⟩ := hcut
              have b1 := (PS.out wc C5.out).2
              have d0 := BI5.out.at_ (i := 0) rfl
              have d1 := BI5.out.at_ (i := 1) rfl
              have NXT : Hid (∀ t ∈ toOf ⟨op, ia, ib⟩ pos, t < nn ∧ WayI A t NX SL) := fun t ht => by
                obtain ⟨h1, h2⟩ := HT.out.next t ht
                simp only at h1
                rw [L1.out] at h1
                refine ⟨h1, ?_⟩
                rw [HNX.out, HSL.out]
                exact h2
              try clear hC
              try clear hH
              try clear L9
              try clear hS
              try clear hI
              try clear h0
              try clear hF
              try clear hG
              try clear B1
              try clear B2
              try clear HG1
              try clear PP
              try clear WI
              try clear LS
              try clear LL
              try clear CW
              try clear e1
              try clear e2
              try clear i0
              try clear i1
              try clear i2
              try clear i3
              try clear i4
              try clear i5
              try clear v1
              try clear v2
              try clear v5
              try clear v6
              try clear hnj
              try clear C1
              try clear BI
              try clear C01
              try clear IW
              try clear HTT
              try clear HMM
              try clear C2
              try clear C02
              try clear tk
              try clear t0
              try clear t0n
              try clear t0d
              try clear t0nd
              try clear kT
              try clear hkT
              try clear HTP
              try clear C3
              try clear C03
              try clear HSL
              try clear HSO
              try clear hNX
              try clear HEQ
              try clear HLN
              try clear HNX
              try clear GL
              try clear OS4
              try clear OL4
              try clear BI4
              try clear C4
              try clear HT
              try clear HC
              try clear wk
              try clear tp
              try clear k
              try clear MM
              obtain ⟨ian, rfl⟩ : ∃ y : Nat, ia = (y : Int) := ⟨ia.toNat, by omega⟩
              obtain ⟨W1, W2, W3, W4, N1, N2⟩ := way_nums hjp hpn haj hn (show ian ≤ 262143 by omega)
              try clear hn
              try clear v3
              try clear v4
              by_cases h26 : op = 26
              · subst h26
                obtain ⟨t1, t2⟩ := NXT.out (pos + 1 + ian) (by simp [toOf])
                go_wp2_with fail
                go_roundw
                case rel => exact ⟨A5, A3, nx, c5, n3, c3, ak, pos + 1 + ian, j + 1, NX, SL, rfl, rfl, rfl, by congr 1, by congr 1, N2, t1, Nat.le_succ_of_le haj, hn3, LNX, LSL, t2, OS5, OL5, GL4, C5⟩
                case measure => rw [W3]; exact meas_lt (Nat.lt_of_le_of_lt hjp hpn)
              · have z26 : (op == 26) = false := by simpa using h26
                by_cases h27 : op = 27
                · subst h27
                  obtain ⟨t1, t2⟩ := NXT.out (pos + 1) (by simp [toOf])
                  obtain ⟨s1, s2⟩ := NXT.out (pos + 1 + ian) (by simp [toOf])
                  clear NXT
                  by_cases hk : ak < nc
                  · obtain ⟨cb, hcb⟩ : ∃ cb, ch[ak]? = some cb := ⟨_, List.getElem?_eq_getElem (by rw [LC.out]; exact hk)⟩
                    obtain ⟨adc, rfl, hcc⟩ := (hch.out.chg0 (C0.out.trans C5.out (fun _ _ h => h))) ak (.bool cb) (by rw [List.getElem?_map, hcb]; rfl)
                    have k0 : (0 : Int) ≤ (ak : Int) := Int.natCast_nonneg _
                    have k1 : (ak : Int) < (nc : Int) := Int.ofNat_lt.2 hk
                    clear hcb hch LC
                    cases cb
                    · go_wp2_with fail
                      go_roundw
                      case rel => exact ⟨A5, A3, nx, c5, n3, c3, ak + 1, pos + 1, j + 1, NX, SL, rfl, rfl, by congr 1, by congr 1, by congr 1, N1, t1, Nat.succ_le_succ haj, hn3, LNX, LSL, t2, OS5, OL5, GL4, C5⟩
                      case measure => rw [W3]; exact meas_lt (Nat.lt_of_le_of_lt hjp hpn)
                    · go_wp2_with fail
                      go_roundw
                      case rel => exact ⟨A5, A3, nx, c5, n3, c3, ak + 1, pos + 1 + ian, j + 1, NX, SL, rfl, rfl, by congr 1, by congr 1, by congr 1, N2, s1, Nat.succ_le_succ haj, hn3, LNX, LSL, s2, OS5, OL5, GL4, C5⟩
                      case measure => rw [W3]; exact meas_lt (Nat.lt_of_le_of_lt hjp hpn)
                  · have k1 : ¬ ((ak : Int) < (nc : Int)) := fun h => hk (Int.ofNat_lt.1 h)
                    clear hch LC
                    go_wp2_with fail
                    go_roundw
                    case rel => exact ⟨A5, A3, nx, c5, n3, c3, ak + 1, pos + 1, j + 1, NX, SL, rfl, rfl, by congr 1, by congr 1, by congr 1, N1, t1, Nat.succ_le_succ haj, hn3, LNX, LSL, t2, OS5, OL5, GL4, C5⟩
                    case measure => rw [W3]; exact meas_lt (Nat.lt_of_le_of_lt hjp hpn)
                · have z27 : (op == 27) = false := by simpa using h27
                  have z00 : op ≠ 0 := by simpa using z0
                  obtain ⟨t1, t2⟩ := NXT.out (pos + 1) (by simp [toOf, z00, h26, h27])
                  clear h26 h27 z00
                  go_wp2_with fail
                  go_roundw
                  case rel => exact ⟨A5, A3, nx, c5, n3, c3, ak, pos + 1, j + 1, NX, SL, rfl, rfl, rfl, by congr 1, by congr 1, N1, t1, Nat.le_succ_of_le haj, hn3, LNX, LSL, t2, OS5, OL5, GL4, C5⟩
                  case measure => rw [W3]; exact meas_lt (Nat.lt_of_le_of_lt hjp hpn)
end Go.Proofs.YtkadamoofiddeaaDoor.Kit
-- Opening arguments: slices of bools.
set_option linter.unusedVariables false
set_option linter.unusedSimpArgs false
namespace Go.Proofs.YtkadamoofiddeaaDoor.Kit
open Go.ChangeShapes Go.RowKit Go.Deep
def boolIn : Value → Bool
  | .bool b => b
  | _ => false
/-- a slice of bools, read -/
def RdBools (w : World) (A : Option Addr) (l : List Bool) : Prop := ∀ i (h : i < l.length), ∃ a, A = some a ∧ w.cell? (a.add i) = some (.bool l[i])
theorem RdBools.below {w w' : World} {A : Option Addr} {l : List Bool} (h : RdBools w A l) (hb : Below w.heap.size w w') : RdBools w' A l := fun i hi => by
  obtain ⟨a, h0, h1⟩ := h i hi
  exact ⟨a, h0, (hb.cell (World.block_lt_of_cell? w _ h1)).trans h1⟩
theorem open_bools {H : Type} {enc : TypeId × Value → H} {P : Program} {W : World} {base : Nat} {spare : Nat → Bool} {held : Bool} {t e : TypeId} {a : Option Addr} {len cap : Nat} {d : DataW H} {ps : List MemPlace}
    (hu : P.underlying t = some (.slice e)) (he : P.underlying e = some .bool) (hc : P.cellsOf e = 1) (h : DataW.Trod enc P W base spare held t (.slice a len cap) d ps) : len ≤ cap ∧ cap ≤ maxLen ∧ ∃ l : List Bool, len = l.length ∧ RdBools W a l := by
  obtain ⟨fuel, hf⟩ := h
  rcases open_slice1 hu hc hf with ⟨hcs, _⟩ | ⟨x, l, c, m, n, V, D, Pl, hcs, hb, hl, hm, hmm, _, hi⟩
  · simp [Value.cells] at hcs
    obtain ⟨rfl, rfl, rfl⟩ := hcs
    exact ⟨Nat.le_refl _, Nat.zero_le _, [], rfl, fun i hi => absurd hi (by simp)⟩
  · simp [Value.cells] at hcs
    obtain ⟨rfl, rfl, rfl⟩ := hcs
    have hlm : len ≤ m := by
      rw [hmm]
      split
      · exact hl
      · exact Nat.le_refl _
    refine ⟨hl, hm, (List.range len).map fun i => boolIn (V i), by simp, fun i hi2 => ?_⟩
    have hi3 : i < len := by simpa using hi2
    obtain ⟨h1, h2⟩ := hi i (by omega)
    obtain ⟨b, hb, _⟩ := DataW.trod_bool he h2
    simp at hb
    refine ⟨x, rfl, ?_⟩
    rw [h1, hb]
    simp [boolIn, hb]
end Go.Proofs.YtkadamoofiddeaaDoor.Kit
-- The walk of VerifyWays.
set_option linter.unusedVariables false
set_option linter.unusedSimpArgs false
namespace Go.Proofs.YtkadamoofiddeaaDoor.Kit
open Go.RowKit Go.Maps
theorem RdBools.toG {w : World} {A : Option Addr} {l : List Bool} (h : RdBools w A l) : RdG w A (l.map Value.bool) := fun j u hu => by
  rw [List.getElem?_map] at hu
  obtain ⟨b, hb, rfl⟩ := Option.map_eq_some_iff.1 hu
  obtain ⟨hj, rfl⟩ := List.getElem?_eq_some_iff.1 hb
  exact h j hj
set_option maxRecDepth 100000 in
set_option maxHeartbeats 6400000 in
theorem verifyWaysW {s : ProgS} {p : ProgV} {w : World} {a1 : Int} {AC : Option Addr} {nc cc : Nat} {ch : List Bool} (hp : Hid (RdProg w s p)) (ok : Hid (ProgOk p)) (hG : Hid (Glob w w.heap.size)) (hch : Hid (RdG w AC (ch.map Value.bool))) (LC : Hid (ch.length = nc)) :
    Calls Tryd.prog 4 #[progVal s p, .int .i64 a1, .slice AC nc cc] w fun e w' => e = .returned (.bool true) ∧ Hid (Chg (fun _ => False) w w') := by
  obtain ⟨n1, n2, n3, n4, A1, A2, A3, A4, c1, c2, c3, c4, HP0⟩ := hp.out.apart
  obtain ⟨i1, hi1⟩ : ∃ x, x = p.horizon := ⟨_, rfl⟩
  obtain ⟨i2, hi2⟩ : ∃ x, x = p.cells := ⟨_, rfl⟩
  obtain ⟨i3, hi3⟩ : ∃ x, x = p.slots := ⟨_, rfl⟩
  obtain ⟨i4, hi4⟩ : ∃ x, x = p.stack := ⟨_, rfl⟩
  have EQ2 : Hid (progVal s p = .agg #[.slice A1 n1 c1, .slice A2 n2 c2, .slice A3 n3 c3, .int .i64 i1, .int .i64 i2, .int .i64 i3, .int .i64 i4, .slice A4 n4 c4]) := by rw [Hid, HP0.eq, hi1, hi2, hi3, hi4]
  rw [EQ2.out]
  have LD := Lib.hid HP0.ld
  have HP := Lib.hid HP0
  clear hi1 hi2 hi3 hi4 HP0
  obtain ⟨w0, hw0⟩ : ∃ x, x = w.alloc (.cells #[.slice A1 n1 c1, .slice A2 n2 c2, .slice A3 n3 c3, .int .i64 i1, .int .i64 i2, .int .i64 i3, .int .i64 i4, .slice A4 n4 c4] 26) := ⟨_, rfl⟩
  obtain ⟨g1, hg1⟩ : ∃ x, x = w.heap.size := ⟨_, rfl⟩
  have C0 : Hid (Chg (fun _ => False) w w0) := by rw [hw0]; exact (Chg.refl _ w).alloc _
  have B1 : Hid (Blk w0 g1 26 [.slice A1 n1 c1, .slice A2 n2 c2, .slice A3 n3 c3, .int .i64 i1, .int .i64 i2, .int .i64 i3, .int .i64 i4, .slice A4 n4 c4]) := by rw [hw0, hg1]; exact Blk.new _ _ _
  have PA : Hid (∀ W, Chg (fun _ => False) w0 W → ∀ (i : Nat) (v : Value), [Value.slice A1 n1 c1, .slice A2 n2 c2, .slice A3 n3 c3, .int .i64 i1, .int .i64 i2, .int .i64 i3, .int .i64 i4, .slice A4 n4 c4][i]? = some v → W.cell? ⟨g1, i, none⟩ = some v) := fun W cW i v h => (B1.out.chg cW (fun h => h)).at_ h
  go_enter Tryd.func4, Tryd.ntmps4
  go_upto_region 1 with fail
  rw [← hw0, ← hg1]
  clear hw0 hg1
  go_wp2_with fail
  refine (vLives (Lib.hid (hG.out.step C0.out))).mono ?_
  rintro e w1 ⟨rfl, C1⟩
  have f0 := PA.out w1 C1.out 0 _ rfl
  have f1 := PA.out w1 C1.out 1 _ rfl
  have f2 := PA.out w1 C1.out 2 _ rfl
  have f3 := PA.out w1 C1.out 3 _ rfl
  have f4 := PA.out w1 C1.out 4 _ rfl
  have f5 := PA.out w1 C1.out 5 _ rfl
  have f6 := PA.out w1 C1.out 6 _ rfl
  have f7 := PA.out w1 C1.out 7 _ rfl
  have C01 : Hid (Chg (fun _ => False) w w1) := C0.out.trans C1.out (fun _ _ h => h)
  go_wp2_with fail
  refine (show Calls Tryd.prog 14 #[.agg #[.slice A1 n1 c1, .slice A2 n2 c2, .slice A3 n3 c3, .int .i64 i1, .int .i64 i2, .int .i64 i3, .int .i64 i4, .slice A4 n4 c4]] _ _ from by rw [← EQ2.out]; exact vVerify (Lib.hid (hp.out.chg0 C01.out)) ok (Lib.hid (hG.out.step C01.out))).mono ?_
  rintro e w2 ⟨rfl, C2⟩
  have C02 : Hid (Chg (fun _ => False) w0 w2) := C1.out.trans C2.out (fun _ _ h => h)
  clear f0 f1 f2 f3 f4 f5 f6 f7
  obtain ⟨F, hF⟩ : ∃ z, z = prfOf p := ⟨_, rfl⟩
  obtain ⟨sg0, hsg0⟩ : ∃ z, z = (vdOf p).seg := ⟨_, rfl⟩
  obtain ⟨at0, hat0⟩ : ∃ z, z = (vdOf p).at_ := ⟨_, rfl⟩
  obtain ⟨er, her⟩ : ∃ z, z = (vdOf p).er := ⟨_, rfl⟩
  rw [← hF, ← hsg0, ← hat0, ← her]
  have HF := Lib.hid hF
  have HER := Lib.hid her
  clear hF hsg0 hat0 her
  obtain ⟨st, fu, ba, sl, cl⟩ := F
  simp only
  go_upto_region 5 with fail
  obtain ⟨w3, hw3⟩ : ∃ y, y = w2.alloc (.cells #[.int .i64 st, .int .i64 fu, .int .i64 ba] 35) := ⟨_, rfl⟩
  obtain ⟨gp, hgp⟩ : ∃ y, y = w2.heap.size := ⟨_, rfl⟩
  have C3 : Hid (Chg (fun _ => False) w0 w3) := by rw [hw3]; exact C02.out.alloc _
  have CW3 : Hid (Chg (fun _ => False) w w3) := C0.out.trans C3.out (fun _ _ h => h)
  have BP : Hid (Blk w3 gp 35 [.int .i64 st, .int .i64 fu, .int .i64 ba]) := by rw [hw3, hgp]; exact Blk.new w2 #[.int .i64 st, .int .i64 fu, .int .i64 ba] _
  rw [← hw3, ← hgp]
  clear hw3 hgp
  have g7 := PA.out w3 C3.out 7 _ rfl
  by_cases he : er = 0
  · subst he
    by_cases ha1 : a1 < 0
    · go_wp2_with fail
      go_ret
      exact ⟨rfl, CW3.out⟩
    · obtain ⟨d, rfl⟩ : ∃ d : Nat, a1 = (d : Int) := ⟨a1.toNat, by omega⟩
      by_cases ha2 : n4 ≤ d
      · have b2 : (n4 : Int) ≤ (d : Int) := by omega
        go_wp2_with fail
        go_ret
        exact ⟨rfl, CW3.out⟩
      · have hdn : d < n4 := by omega
        have b1 : (0 : Int) ≤ (d : Int) := by omega
        have b2 : (d : Int) < (n4 : Int) := by omega
        have b3 : ¬ ((n4 : Int) ≤ (d : Int)) := by omega
        clear ha1 ha2
        have HE0 : Hid ((vdOf p).er = 0) := HER.out.symm
        have h1 : d < p.days.length := by have := LD.out; omega
        have hx : p.days[d]? = some p.days[d] := List.getElem?_eq_getElem h1
        obtain ⟨hl, A, hH, WP⟩ := vd_ways HE0.out hx
        obtain ⟨_, _, hCan, _, hNum⟩ := vdOf_0 HE0.out
        have HFF : prfOf p = (vdOf p).f := by rw [prfOf, if_pos HE0.out]
        have hF : st ≤ 16384 := by
          have e := hNum.1
          rw [← HFF, ← HF.out] at e
          have := hCan.lists.stack
          simp only at e
          omega
        rw [← HF.out] at WP
        have hS : Hid (∀ pos st' sl', pos < p.days[d].code.length → WayI A pos st' sl' → hl[pos]? = some (st'.length : Int) ∧ (st'.length : Int) ≤ st ∧ ∃ i, WayT p.days[d] ⟨st, fu, ba, sl, cl⟩ A pos st' sl' i) := fun pos st' sl' hp' hI => way_step hCan hx WP hp' hI
        have hI := Lib.hid (way_init WP)
        have WL := Lib.hid WP.len
        have H2 := (hCan.days d h1).code.1
        have CLE := codeLen_all hCan (d + 1) h1
        rw [codeLen_succ h1] at CLE
        obtain ⟨ad, B, nn, cb, e0, f1a, f2a, l1, l2, l3, l4⟩ := (HP.out.chg0 CW3.out).rd.at_ h1
        subst e0
        have SEG : Hid (∀ W, Chg (fun _ => False) w3 W → W.cell? (ad.add (d * 2)) = some (.int .i64 p.days[d].day) ∧ W.cell? ⟨(ad.add (d * 2)).block, (ad.add (d * 2)).off + 1, none⟩ = some (.slice B nn cb)) := fun W cW => ⟨cW.cell (fun h => h) f1a, cW.cell (p := ⟨(ad.add (d * 2)).block, (ad.add (d * 2)).off + 1, none⟩) (fun h => h) f2a⟩
        have HG0 : Hid ((0 : Int) = hgtE p (d : Int)) := by
          rw [Hid, hgtE, if_neg (fun h => h HE0.out), if_neg]
          have hlen := (vd_fold HE0.out).1
          rintro (e | e)
          · omega
          · rw [hlen] at e; omega
        obtain ⟨x, hxx⟩ : ∃ x, x = p.days[d] := ⟨_, rfl⟩
        rw [← hxx] at hS SEG l1 l4 WL H2 CLE
        have hn : nn ≤ 262144 := by omega
        have h00 : 0 < nn := by omega
        have L1 := Lib.hid l1.symm
        have L4 := Lib.hid l4
        have HH := Lib.hid hH
        rw [← l1] at hS WL
        clear f1a f2a hx hxx WP hCan hNum HFF l1 l4 hH H2 CLE
        obtain ⟨dx, cx⟩ := x
        simp only at hS SEG L1 L4 WL
        have f0 := PA.out w3 C3.out 0 _ rfl
        have f1 := PA.out w3 C3.out 1 _ rfl
        have f2 := PA.out w3 C3.out 2 _ rfl
        have f3 := PA.out w3 C3.out 3 _ rfl
        have f4 := PA.out w3 C3.out 4 _ rfl
        have f5 := PA.out w3 C3.out 5 _ rfl
        have f6 := PA.out w3 C3.out 6 _ rfl
        go_wp2_with fail
        refine (show Calls Tryd.prog 15 #[.agg #[.slice A1 n1 c1, .slice A2 n2 c2, .slice A3 n3 c3, .int .i64 i1, .int .i64 i2, .int .i64 i3, .int .i64 i4, .slice (some ad) n4 c4], .int .i64 (d : Int)] _ _ from by rw [← EQ2.out]; exact vHeights (Lib.hid (hp.out.chg0 CW3.out)) ok (Lib.hid (hG.out.step CW3.out)) HG0).mono ?_
        rintro e w5 ⟨A9, n9, c9, rfl, C5, RH⟩
        obtain ⟨l', hl', _, ho⟩ := RH.out rfl
        obtain rfl : hl = l' := by
          rw [Int.toNat_natCast, HH.out] at hl'
          injection hl'
        obtain rfl : n9 = nn := by
          obtain ⟨_, _, e, _, _⟩ := OwnV.slice ho
          injection e with _ e _
          rw [e]
          exact WL.out
        have OH := Lib.hid ho
        clear f0 f1 f2 f3 f4 f5 f6 g7 ho hl' RH
        have C05 : Hid (Chg (fun _ => False) w0 w5) := C3.out.trans C5.out (fun _ _ h => h)
        have CW5 : Hid (Chg (fun _ => False) w w5) := CW3.out.trans C5.out (fun _ _ h => h)
        have f7 := PA.out w5 C05.out 7 _ rfl
        have s0 := (SEG.out w5 C5.out).1
        have s1 := (SEG.out w5 C5.out).2
        have BP5 : Hid (Blk w5 gp 35 [.int .i64 st, .int .i64 fu, .int .i64 ba]) := BP.out.chg C5.out (fun h => h)
        have p0 := BP5.out.at_ (i := 0) rfl
        have p1 := BP5.out.at_ (i := 1) rfl
        have p2 := BP5.out.at_ (i := 2) rfl
        have CD : Hid (Chg (fun _ => False) w5 w5.drew) := (Chg.refl _ w5).drew
        have G5 : Hid (Glob w5.drew w5.drew.heap.size) := hG.out.step (CW5.out.trans CD.out (fun _ _ h => h))
        have OH5 : Hid (Own w5.drew 3 .i64 (.slice A9 n9 c9) hl) := OwnV.chg OH.out CD.out (fun _ _ h => h)
        have RC5 : Hid (RdG w5.drew B (insCells cx)) := fun j u hu => by
          obtain ⟨a, h1, h2⟩ := L4.out j u hu
          exact ⟨a, h1, CD.out.cell (fun h => h) (C5.out.cell (fun h => h) h2)⟩
        have RB5 : Hid (RdG w5.drew AC (ch.map Value.bool)) := hch.out.chg0 (CW5.out.trans CD.out (fun _ _ h => h))
        have CW6 : Hid (Chg (fun _ => False) w w5.drew) := CW5.out.trans CD.out (fun _ _ h => h)
        go_upto_region 10 with fail
        go_region_with (first | (go_at_call 16; refine (wayW RC5 L1 hn OH5 WL RB5 LC hS hI h00 hF G5).mono ?_; rintro e w6 ⟨rfl, C6⟩) | fail)
        all_goals
          go_wp2_with fail
          go_ret
          exact ⟨rfl, CW6.out.trans C6.out (fun _ _ h => h)⟩
  · have hz : (er == 0) = false := by simpa using he
    have hz2 : (er != 0) = true := by simpa using he
    clear he
    go_wp2_with fail
    go_ret
    exact ⟨rfl, CW3.out⟩
theorem verifyWaysWalk (w : World) (s : ProgS) (p : ProgV) (hr : Hid (RdProg w s p)) (ok : ProgOk p) (A : Option Addr) (c : Nat) (l : List Bool) (hl : Hid (RdG w A (l.map Value.bool))) (hG : Hid (Glob w w.heap.size)) (a1 : Int) (ha : InI a1) :
    Calls Tryd.prog 4 #[progVal s p, .int .i64 a1, .slice A l.length c] w fun e w' => e = .returned (.bool true) ∧ Below w.heap.size w w' := by
  refine (verifyWaysW hr (Lib.hid ok) hG hl (Lib.hid rfl)).mono ?_
  rintro e w1 ⟨rfl, c⟩
  exact ⟨rfl, c.out.done⟩
end Go.Proofs.YtkadamoofiddeaaDoor.Kit
