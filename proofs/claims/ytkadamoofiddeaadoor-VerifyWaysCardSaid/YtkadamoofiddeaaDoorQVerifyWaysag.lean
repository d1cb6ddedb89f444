/- Texts that the row leans on: PvJ, PvK, PvL. -/
import Derived.Test.YtkadamoofiddeaaDoorProg
import Derived.Test.YtkadamoofiddeaaDoorQVerifyWaysaf
-- verify: what an instruction does with a state (apply), where enough values are there.
set_option linter.unusedVariables false
set_option linter.unusedSimpArgs false
namespace Go.Proofs.YtkadamoofiddeaaDoor.Kit
open Go.RowKit Go.Maps
def wrongAt (op : Int) (l : List Bool) (n j : Nat) : Bool := (vWant op).isSome && (l.drop (n - j)).any (fun x => x != (vWant op).getD false)
def topAt (l : List Bool) (n j : Nat) : Bool := if j = 0 then false else l.getD (n - j) false
theorem wrong_0 (op : Int) (l : List Bool) {n : Nat} (h : l.length = n) : wrongAt op l n 0 = false := by
  unfold wrongAt
  rw [Nat.sub_zero, List.drop_eq_nil_of_le (by omega)]
  simp
theorem wrong_end (op : Int) (l : List Bool) {n : Nat} (h : l.length = n) : wrongAt op l n (vTakes op) = vWrong op l := by
  unfold wrongAt vWrong
  rw [h]
  rcases vWant op with _ | b <;> simp
theorem wrong_step (op : Int) (l : List Bool) {n j : Nat} (h : l.length = n) (hj : j < n) : wrongAt op l n (j + 1) = (wrongAt op l n j || ((vWant op).isSome && (l.getD (n - (j + 1)) false != (vWant op).getD false))) := by
  unfold wrongAt
  have h1 : n - (j + 1) < l.length := by omega
  rw [List.drop_eq_getElem_cons h1, List.any_cons, show n - (j + 1) + 1 = n - j from by omega, List.getD_eq_getElem?_getD, List.getElem?_eq_getElem h1]
  cases (vWant op).isSome <;> simp [Bool.or_comm]
theorem own_any (A : Option Addr) (a b c d : Nat) : Value.ownBlock (.slice A a c) = Value.ownBlock (.slice A b d) := by cases A <;> rfl
theorem RdSt.pushed {W w9 : World} {B g m n c N c9 : Nat} {A A9 : Option Addr} {s : StV} {x : Bool} (R : RdSt W B g m A n c s N) (hB : B ≤ W.heap.size) (B9 : Hid (Blk w9 g 122 [.slice A9 (n + 1) c9, .map (some m)])) (O9 : Hid (OwnV w9 138 1 (.slice A9 (n + 1) c9) (n + 1) (bls (s.stk ++ [x]))))
    (D9 : Hid (Chg (fun y => y = g ∨ Value.ownBlock (.slice A n c) = some y) W w9)) (F9 : Fresh W (.slice A n c) (.slice A9 (n + 1) c9)) : RdSt w9 B g m A9 (n + 1) c9 ⟨s.stk ++ [x], s.sl⟩ N ∧ Chg (fun y => B ≤ y) W w9 := by
  refine ⟨⟨B9.out, O9.out, R.mp.chg D9.out ?_, R.geg, R.gem, F9.ge R.geo hB, by simp [R.len]⟩, D9.out.mono fun i hi e => ?_⟩
  · rintro (e | e)
    · exact R.mp.ne_blk R.box e.symm
    · obtain ⟨cur, hb⟩ := R.own.typed m e
      exact R.mp.ne_blk hb rfl
  · rcases e with e | e
    · rw [e]; exact R.geg
    · exact R.geo i e
theorem InsV.nums_in {x : InsV} (h : (0 ≤ x.op ∧ x.op < 29) ∧ (0 ≤ x.a ∧ x.a ≤ 262143) ∧ 0 ≤ x.b ∧ x.b ≤ 3660) : InI x.op ∧ InI x.a := ⟨⟨by omega, by omega⟩, ⟨by omega, by omega⟩⟩
set_option maxRecDepth 100000 in
set_option maxHeartbeats 6400000 in
theorem vApplyGo {w : World} {B g m n c N : Nat} {A : Option Addr} {s : StV} {x : InsV} {day : Int} (h : Hid (RdSt w B g m A n c s N)) (hG : Hid (Glob w B)) (hx : Hid ((0 ≤ x.op ∧ x.op < 29) ∧ (0 ≤ x.a ∧ x.a ≤ 262143) ∧ 0 ≤ x.b ∧ x.b ≤ 3660)) (hx0 : x.op ≠ 0) (hlow : vTakes x.op ≤ n) (hn : n ≤ 900000000) (hN : N ≤ 900000000) {er : Int} (her : Hid (er = applyE x day s)) :
    Calls Tryd.prog 78 #[.pointer (some ⟨g, 0, none⟩), .agg #[.int .i64 x.op, .int .i64 x.a, .int .i64 x.b], .int .i64 day] w fun e w' => e = .returned (.int .i64 er) ∧ Hid (Chg (fun y => B ≤ y) w w') ∧ Hid (er = 0 → ∃ A' n' c', RdSt w' B g m A' n' c' (applyS x s) (N + 1)) := by
  obtain ⟨op, a, b⟩ := x
  simp only at hx hlow hx0
  obtain ⟨hT, hT3, hP, hP1⟩ := vTakes_le hx.out.1
  have IN : Hid (InI op ∧ InI a) := InsV.nums_in (x := ⟨op, a, b⟩) hx.out
  have HXO : Hid (0 ≤ op ∧ op < 29) := hx.out.1
  obtain ⟨T, hT2⟩ : ∃ T, T = vTakes op := ⟨_, rfl⟩
  obtain ⟨P, hP2⟩ : ∃ P, P = vPuts op := ⟨_, rfl⟩
  obtain ⟨wv, hwv⟩ : ∃ x, (vWant op).getD false = x := ⟨_, rfl⟩
  obtain ⟨ws, hws⟩ : ∃ x, (vWant op).isSome = x := ⟨_, rfl⟩
  rw [← hT2] at hT hlow hT3
  rw [← hP2] at hP hP1
  have HT := Lib.hid hT
  have HP := Lib.hid hP
  have HT2 := Lib.hid hT2
  have HP2 := Lib.hid hP2
  have WV := Lib.hid hwv
  have WS := Lib.hid hws
  have HO := Lib.hid hx0
  have LS := Lib.hid h.out.len
  have hop : (op == 0) = false := by simpa using hx0
  clear hT hP hT2 hP2 hwv hws hx0
  obtain ⟨w1, hw1⟩ : ∃ y, y = w.alloc (.cells #[.int .i64 op, .int .i64 a, .int .i64 b] 47) := ⟨_, rfl⟩
  obtain ⟨gx, hgx⟩ : ∃ y, y = w.heap.size := ⟨_, rfl⟩
  have C1 : Hid (Chg (fun _ => False) w w1) := by rw [hw1]; exact (Chg.refl _ w).alloc _
  have X1 : Hid (Blk w1 gx 47 [.int .i64 op, .int .i64 a, .int .i64 b]) := by rw [hw1, hgx]; exact Blk.new w #[.int .i64 op, .int .i64 a, .int .i64 b] _
  have G1 : Hid (KindsAt w1) := hG.out.k.chg0 C1.out
  have r0 := X1.out.at_ (i := 0) rfl
  have d1 : ¬ (n : Int) < (T : Int) := by omega
  go_enter Tryd.func78, Tryd.ntmps78
  go_upto_region 1 with fail
  rw [← hw1, ← hgx]
  clear hw1 hgx
  go_wp2_with fail
  refine (vEffect G1 HXO).mono ?_
  rintro e w2 ⟨rfl, C2⟩
  rw [HT.out, HP.out]
  have K2 : Hid (Chg (fun _ => False) w w2) := C1.out.trans C2 (fun _ _ h => h)
  have X2 : Hid (Blk w2 gx 47 [.int .i64 op, .int .i64 a, .int .i64 b]) := X1.out.chg C2 (fun h => h)
  have r2 := X2.out.at_ (i := 0) rfl
  have q0 := (h.out.chg0 K2.out).box.at_ (i := 0) rfl
  clear C2 r0
  go_wp2_with fail
  refine (vHeight q0).mono ?_
  rintro e w3 ⟨rfl, rfl⟩
  have S2 : Hid (SortsAt w3) := hG.out.s.chg K2.out (fun h => h) (fun h => h)
  go_upto_region 6 with fail
  have KK : Hid (∀ W, Chg (fun _ => False) w3 W → W.cell? ⟨gx, 0, none⟩ = some (.int .i64 op)) := fun W cW => (X2.out.chg cW (fun h => h)).at_ (i := 0) rfl
  have SS : Hid (∀ W, Chg (fun _ => False) w3 W → SortsAt W) := fun W cW => S2.out.chg cW (fun h => h) (fun h => h)
  clear d1 q0 hop
  go_cut [10, 11] from 16 to 50 (fun v u wx => ∃ gw, v = .pointer (some ⟨gw, 0, none⟩) ∧ u = .bool ws ∧ Hid (Blk wx gw 138 [.bool wv]) ∧ Hid (Chg (fun _ => False) w3 wx) ∧ Hid (w3.heap.size ≤ gw))
  case first =>
    go_region_held3 (fun W => W.cell? ⟨gx, 0, none⟩ = some (.int .i64 op)) (first | exact KK.out _ (by repeat (first | exact Chg.refl _ _ | exact CW.out | refine Chg.drew ?_ | refine Chg.drewN ?_ _ | refine Chg.alloc ?_ _ | refine Chg.setCell (p := ⟨w3.heap.size, 0, none⟩) ?_ (fun h => absurd h (Nat.lt_irrefl _)) _))) (first | (go_at_call 86; refine (vWants (Lib.hid (SS.out _ (by repeat (first | exact Chg.refl _ _ | refine Chg.drew ?_ | refine Chg.drewN ?_ _ | refine Chg.alloc ?_ _))))).mono ?_; rintro e w4 ⟨bm, rfl, MW, CW1, LB⟩; have CW : Hid (Chg (fun _ => False) w3 w4) := Chg.trans (by repeat (first | exact Chg.refl _ _ | refine Chg.drew ?_ | refine Chg.drewN ?_ _ | refine Chg.alloc ?_ _)) CW1.out (fun _ _ h => h); have el := want_look MW.out HXO.out WV WS; have el2 := want_look (MW.out.alloc (.cells #[.bool false] 138)) HXO.out WV WS; (try (have eb : Blk w4 w3.heap.size 138 [.bool false] := Blk.chg (S := fun _ => False) (by first | exact Blk.new w3 #[.bool false] _ | exact (Blk.new w3 #[.bool false] _).drew | exact Blk.new w3.drew #[.bool false] _) CW1.out (fun h => h); have eb0 := eb.at_ (i := 0) rfl; have eb1 := eb.frozen (i := 0) (by simp); have EB := Lib.hid eb; clear eb))))
    all_goals
      go_wp2_with fail
      go_meet
      case rel =>
        first
        | exact ⟨_, rfl, rfl, EB.out.set 0 _, Chg.setCell (p := ⟨w3.heap.size, 0, none⟩) CW.out (fun h => absurd h (Nat.lt_irrefl _)) _, Nat.le_refl _⟩
        | exact ⟨_, rfl, rfl, Blk.new w4 #[.bool wv] _, CW.out.alloc _, CW.out.size⟩
        | exact ⟨_, rfl, rfl, (Blk.new w4 #[.bool wv] _).drew, (CW.out.alloc _).drew, CW.out.size⟩
  case rest =>
    obtain ⟨gw, rfl, rfl, BW, CW, LW⟩ := hcut
    have s1 := (SS.out _ CW.out).n
    have K3 : Hid (Chg (fun _ => False) w wc) := K2.out.trans CW.out (fun _ _ h => h)
    have X3 : Hid (Blk wc gx 47 [.int .i64 op, .int .i64 a, .int .i64 b]) := X2.out.chg CW.out (fun h => h)
    have LW3 : Hid (w.heap.size ≤ w3.heap.size) := K2.out.size
    clear SS KK S2 X2 r2 X1 G1 C1 K2 CW
    go_wp2_with fail
    obtain ⟨w5, hw5⟩ : ∃ y, y = wc.alloc (.cells #[.bool false] 138) := ⟨_, rfl⟩
    obtain ⟨gt, hgt⟩ : ∃ y, y = wc.heap.size := ⟨_, rfl⟩
    have T5 : Hid (Blk w5 gt 138 [.bool false]) := by rw [hw5, hgt]; exact Blk.new wc #[.bool false] _
    have C5 : Hid (Chg (fun _ => False) wc w5) := by rw [hw5]; exact (Chg.refl _ wc).alloc _
    have NGO : Hid (∀ k, Value.ownBlock (.slice A n c) = some k → k ≠ gt ∧ k ≠ gw) := fun k hk => by
      have h1 := h.out.own.lt k hk
      have h2 := K3.out.size
      have h3 := LW.out
      have h4 := LW3.out
      exact ⟨by omega, by omega⟩
    have LGT : Hid (B ≤ gt) := by rw [hgt]; exact Nat.le_trans hG.out.le K3.out.size
    have GTW : Hid (gw ≠ gt) := by rw [hgt]; exact Nat.ne_of_lt BW.out.lt
    rw [← hw5, ← hgt]
    clear hw5 hgt
    go_loopw [13, 53] (fun u v wr => ∃ (j : Nat) (wb tb : Bool), v = .int .i64 (j : Int) ∧ u = .bool wb ∧ j ≤ T ∧ Hid (wb = wrongAt op s.stk n j) ∧ Hid (tb = topAt s.stk n j) ∧ Hid (RdSt wr B g m A (n - j) c ⟨s.stk.take (n - j), s.sl⟩ N) ∧ Hid (Blk wr gt 138 [.bool tb]) ∧ Hid (Blk wr gw 138 [.bool wv]) ∧ Hid (Blk wr gx 47 [.int .i64 op, .int .i64 a, .int .i64 b]) ∧ Hid (Chg (fun y => B ≤ y) w wr)) (fun _ v _ => match v with | .int _ j => ((T : Int) - j).toNat | _ => 0)
    case atStart =>
      refine ⟨0, false, false, rfl, rfl, Nat.zero_le _, (wrong_0 op s.stk LS.out).symm, rfl, ?_, T5, BW.out.chg C5.out (fun h => h), X3.out.chg C5.out (fun h => h), ge_chg0 (K3.out.trans C5.out (fun _ _ h => h))⟩
      have := h.out.chg0 (K3.out.trans C5.out (fun _ _ h => h))
      rw [Hid, Nat.sub_zero, List.take_of_length_le (by rw [LS.out]; exact Nat.le_refl _)]
      exact this
    case round =>
      obtain ⟨j, wb, tb, rfl, rfl, hj, HWB, HTB, RS, BT, BWr, BX, HC⟩ := hrel
      by_cases hjt : j < T
      · obtain ⟨m', hm'⟩ : ∃ m', n - j = m' + 1 := ⟨n - j - 1, by omega⟩
        have hm2 : n - (j + 1) = m' := by omega
        have HM2 := Lib.hid hm2
        have HM1 := Lib.hid hm'
        rw [hm'] at RS
        have i1 : (j : Int) < (T : Int) := by omega
        obtain ⟨tp, htp⟩ : ∃ z, z = (s.stk.take (m' + 1)).getD m' false := ⟨_, rfl⟩
        have HTP : Hid (tp = s.stk.getD m' false) := by
          rw [Hid, htp, List.getD_eq_getElem?_getD, List.getD_eq_getElem?_getD, List.getElem?_take, if_pos (by omega)]
        have HST : Hid (wrongAt op s.stk n (j + 1) = (wb || (ws && (tp != wv)))) := by rw [Hid, wrong_step op s.stk LS.out (by omega), ← HWB.out, WS.out, WV.out, HM2.out, ← HTP.out]
        have HTN : Hid (tp = topAt s.stk n (j + 1)) := by rw [Hid, topAt, if_neg (by omega), HM2.out]; exact HTP.out
        clear hm' hm2
        go_wp2_with fail
        refine (vPop (Lib.hid RS.out.box) (Lib.hid RS.out.own)).mono ?_
        rintro e w6 ⟨rfl, B6, O6, C6⟩
        rw [← htp]
        clear htp
        have NG : Hid (gt ≠ g) := fun e => BT.out.type_ne RS.out.box (by decide) e
        have NW : Hid (gw ≠ g) := fun e => BWr.out.type_ne RS.out.box (by decide) e
        have NX : Hid (gx ≠ g) := fun e => BX.out.type_ne RS.out.box (by decide) e
        have BT6 : Hid (Blk w6 gt 138 [.bool tb]) := BT.out.chg C6.out NG.out
        have M6 : Hid (Mp w6 m N s.sl) := RS.out.mp.chg C6.out (fun e => RS.out.mp.ne_blk RS.out.box e.symm)
        have z0 := BT6.out.at_ (i := 0) rfl
        have z1 := BT6.out.frozen (i := 0) (by simp)
        go_upto_region 12 with fail
        obtain ⟨w7, hw7⟩ : ∃ y, y = w6.setCell ⟨gt, 0, none⟩ (.bool tp) := ⟨_, rfl⟩
        have C7 : Hid (Chg (fun y => y = gt) w6 w7) := by rw [hw7]; exact (Chg.refl (fun y => y = gt) w6).setg 0 _
        have BT7 : Hid (Blk w7 gt 138 [.bool tp]) := by rw [hw7]; exact BT6.out.set 0 _
        rw [← hw7]
        clear hw7 z0 z1
        have BW7 : Hid (Blk w7 gw 138 [.bool wv]) := (BWr.out.chg C6.out NW.out).chg C7.out GTW.out
        have BX7 : Hid (Blk w7 gx 47 [.int .i64 op, .int .i64 a, .int .i64 b]) := (BX.out.chg C6.out NX.out).chg C7.out (fun e => BX.out.type_ne BT.out (by decide) e)
        have RS7 : Hid (RdSt w7 B g m A m' c ⟨s.stk.take m', s.sl⟩ N) := by
          have O6' := O6.out
          rw [List.take_take, Nat.min_eq_left (Nat.le_succ _)] at O6'
          exact ⟨B6.out.chg C7.out (fun e => NG.out e.symm), O6'.chg C7.out (fun k hk e => by
            subst e
            exact (NGO.out _ (by rw [own_any A n m' c c]; exact hk)).1 rfl), M6.out.chg C7.out (fun e => M6.out.ne_blk BT6.out e.symm), RS.out.geg, RS.out.gem, fun k hk => RS.out.geo k (by rw [own_any A (m' + 1) m' c c]; exact hk), by rw [List.length_take, LS.out]; have := HM1.out; omega⟩
        have C9 : Hid (Chg (fun y => B ≤ y) w w7) := (HC.out.trans C6.out (fun i hi e => by rw [e]; exact RS.out.geg)).trans C7.out (fun i hi e => by
          have h1 := LGT.out
          omega)
        have y0 := BT7.out.at_ (i := 0) rfl
        have y1 := BW7.out.at_ (i := 0) rfl
        have FIN : Hid (∀ wb' : Bool, wb' = (wb || (ws && (tp != wv))) → ∃ (j' : Nat) (wb2 tb : Bool), Value.int .i64 ((j : Int) + 1) = .int .i64 (j' : Int) ∧ Value.bool wb' = .bool wb2 ∧ j' ≤ T ∧ Hid (wb2 = wrongAt op s.stk n j') ∧ Hid (tb = topAt s.stk n j') ∧ Hid (RdSt w7 B g m A (n - j') c ⟨s.stk.take (n - j'), s.sl⟩ N) ∧ Hid (Blk w7 gt 138 [.bool tb]) ∧ Hid (Blk w7 gw 138 [.bool wv]) ∧ Hid (Blk w7 gx 47 [.int .i64 op, .int .i64 a, .int .i64 b]) ∧ Hid (Chg (fun y => B ≤ y) w w7)) := fun wb' e =>
          ⟨j + 1, wb', tp, by congr 1, rfl, by omega, by rw [Hid, e, HST.out], HTN, by rw [Hid, HM2.out]; exact RS7.out, BT7, BW7, BX7, C9⟩
        have W64 : Hid (wrap64 ((j : Int) + 1) = (j : Int) + 1) := IntWalk.wrap64_in _ (by omega)
        clear HST
        cases wb
        · cases ws
          · go_wp2_with fail
            go_roundw
            case rel => exact FIN.out _ rfl
            case measure => simp [W64.out]; try omega
          · cases tp <;> cases wv
            all_goals
              go_wp2_with fail
              go_roundw
              case rel => exact FIN.out _ rfl
              case measure => simp [W64.out]; try omega
        · go_wp2_with fail
          go_roundw
          case rel => exact FIN.out _ rfl
          case measure => simp [W64.out]; try omega
      · obtain rfl : j = T := by omega
        have i1 : ¬ ((j : Int) < (j : Int)) := by omega
        have HWW : Hid (wb = vWrong op s.stk) := by rw [Hid, HWB.out, HT2.out, wrong_end op s.stk LS.out]
        have HAE : Hid (applyE ⟨op, a, b⟩ day s = if vWrong op s.stk = true then 143 else if op = 7 then (match s.sl a with | none => 144 | some _ => 0) else if op = 6 then 0 else if op = 3 ∧ day < b then 145 else 0) := by
          have hno : ¬ (s.stk.length < vTakes op ∨ (op = 0 ∧ 0 < s.stk.length)) := by
            rintro (e | ⟨e, _⟩)
            · rw [LS.out, ← HT2.out] at e
              omega
            · exact HO.out e
          exact if_neg hno
        have r0 := BX.out.at_ (i := 0) rfl
        have r1 := BX.out.at_ (i := 1) rfl
        have r2 := BX.out.at_ (i := 2) rfl
        cases wb
        · have HV : Hid (¬ vWrong op s.stk = true) := by rw [Hid, ← HWW.out]; decide
          have HE7 : Hid (er = if op = 7 then (match s.sl a with | none => 144 | some _ => 0) else if op = 6 then 0 else if op = 3 ∧ day < b then 145 else 0) := by rw [Hid, her.out, HAE.out, if_neg HV.out]
          by_cases h7 : op = 7
          · subst h7
            obtain rfl : j = 0 := HT2.out
            rw [Nat.sub_zero, List.take_of_length_le (by rw [LS.out]; exact Nat.le_refl _)] at RS
            have q1 := RS.out.box.at_ (i := 1) rfl
            have HAL : Hid (∀ W, Chg (fun _ => False) wr W → W.cell? ⟨g, 1, none⟩ = some (.map (some m)) ∧ W.cell? ⟨gx, 1, none⟩ = some (.int .i64 a)) := fun W cW => ⟨(RS.out.box.chg cW (fun h => h)).at_ (i := 1) rfl, (BX.out.chg cW (fun h => h)).at_ (i := 1) rfl⟩
            have ML : Hid (∀ W, Chg (fun _ => False) wr W → Mp W m N s.sl) := fun W cW => RS.out.mp.chg cW (fun h => h)
            rcases hA : s.sl a with _ | v
            · have HE : Hid ((144 : Int) = er) := by rw [Hid, HE7.out, if_pos rfl, hA]
              have LK : ∀ W, Chg (fun _ => False) wr W → (Instr.lookup 117 (.map (some m)) (.int .i64 a) true).run Tryd.prog W = .ok (.tuple #[.agg #[.bool false], .bool false]) W := fun W cW => by rw [(ML.out W cW).look IN.out.2, hA]; rfl
              have l1 := LK wr (Chg.refl _ _)
              have l2 := LK wr.drew (Chg.refl _ _).drew
              have l3 := LK (wr.alloc (.cells #[.bool false] 138)) ((Chg.refl _ _).alloc _)
              have l4 := LK (wr.alloc (.cells #[.bool false] 138)).drew ((Chg.refl _ _).alloc _).drew
              clear LK hA
              go_upto_region 17 with fail
              go_region_held3 (fun W => W.cell? ⟨g, 1, none⟩ = some (.map (some m)) ∧ W.cell? ⟨gx, 1, none⟩ = some (.int .i64 a)) (exact HAL.out _ (by repeat (first | exact Chg.refl _ _ | refine Chg.drew ?_ | refine Chg.drewN ?_ _ | refine Chg.alloc ?_ _))) (first | fail)
              all_goals
                go_wp2_with fail
                go_ret
                exact ⟨ret_i HE.out, (HC.out.trans ((Chg.refl (fun _ => False) wr).alloc _).drew (fun _ _ h => h.elim)), fun h => absurd (HE.out.trans h) (by decide)⟩
            · have HE : Hid ((0 : Int) = er) := by rw [Hid, HE7.out, if_pos rfl, hA]
              have HSA := Lib.hid hA
              have LK : ∀ W, Chg (fun _ => False) wr W → (Instr.lookup 117 (.map (some m)) (.int .i64 a) true).run Tryd.prog W = .ok (.tuple #[.agg #[.bool v], .bool true]) W := fun W cW => by rw [(ML.out W cW).look IN.out.2, hA]; rfl
              have l1 := LK wr (Chg.refl _ _)
              have l2 := LK wr.drew (Chg.refl _ _).drew
              have l3 := LK (wr.alloc (.cells #[.bool false] 138)) ((Chg.refl _ _).alloc _)
              have l4 := LK (wr.alloc (.cells #[.bool false] 138)).drew ((Chg.refl _ _).alloc _).drew
              clear LK hA
              go_upto_region 17 with fail
              go_region_held3 (fun W => W.cell? ⟨g, 1, none⟩ = some (.map (some m)) ∧ W.cell? ⟨gx, 1, none⟩ = some (.int .i64 a)) (exact HAL.out _ (by repeat (first | exact Chg.refl _ _ | refine Chg.drew ?_ | refine Chg.drewN ?_ _ | refine Chg.alloc ?_ _))) (first | fail)
              all_goals
                obtain ⟨w8, hw8⟩ : ∃ y, y = (wr.alloc (Obj.cells #[Value.bool v] 138)).drew := ⟨_, rfl⟩
                have C8 : Hid (Chg (fun _ => False) wr w8) := by rw [hw8]; exact ((Chg.refl (fun _ => False) wr).alloc _).drew
                have V8 : Hid (∀ W, Chg (fun _ => False) w8 W → W.cell? ⟨wr.heap.size, 0, none⟩ = some (.bool v)) := fun W cW => by
                  have := ((Blk.new wr #[.bool v] 138).drew.chg (S := fun _ => False) (w1 := W) (by rw [hw8] at cW; exact cW) (fun h => h)).at_ (i := 0) rfl
                  exact this
                have R8 : Hid (∀ W, Chg (fun _ => False) w8 W → RdSt W B g m A n c s N) := fun W cW => RS.out.chg0 (C8.out.trans cW (fun _ _ h => h))
                rw [← hw8]
                clear hw8
                go_upto_region 20 with fail
                have NV : Hid (¬ (wr.heap.size = g ∨ Value.ownBlock (.slice A n c) = some wr.heap.size)) := by
                  rintro (e | e)
                  · have := RS.out.box.lt
                    omega
                  · exact absurd (RS.out.own.lt _ e) (Nat.lt_irrefl _)
                go_region_held3 (fun W => W.cell? ⟨wr.heap.size, 0, none⟩ = some (.bool v)) (first | exact D9.out.cell (p := ⟨wr.heap.size, 0, none⟩) NV.out (V8.out _ (by repeat (first | exact Chg.refl _ _ | refine Chg.drew ?_ | refine Chg.drewN ?_ _ | refine Chg.alloc ?_ _))) | exact V8.out _ (by repeat (first | exact Chg.refl _ _ | refine Chg.drew ?_ | refine Chg.drewN ?_ _ | refine Chg.alloc ?_ _))) (first | (go_at_call 88; refine (vPush (l := s.stk) (mv := .map (some m)) (Lib.hid (R8.out _ (by repeat (first | exact Chg.refl _ _ | refine Chg.drew ?_ | refine Chg.drewN ?_ _ | refine Chg.alloc ?_ _))).box) (Lib.hid (R8.out _ (by repeat (first | exact Chg.refl _ _ | refine Chg.drew ?_ | refine Chg.drewN ?_ _ | refine Chg.alloc ?_ _))).own) (by omega)).mono ?_; rintro e w9 ⟨A9, c9, rfl, B9, O9, D9, F9⟩))
                all_goals
                  go_wp2_with fail
                  go_ret
                  have LE8 : B ≤ w8.heap.size := Nat.le_trans hG.out.le (Nat.le_trans HC.out.size C8.out.size)
                  have FN := RdSt.pushed (R8.out w8.drew (Chg.refl _ _).drew) LE8 B9 O9 D9 F9
                  refine ⟨ret_i HE.out, (HC.out.trans C8.out (fun _ _ h => h.elim)).drew.trans FN.2 (fun _ _ h => h), fun _ => ⟨A9, n + 1, c9, ?_⟩⟩
                  have e1 : applyS ⟨7, a, b⟩ s = ⟨s.stk ++ [v], s.sl⟩ := by
                    show (if (7 : Int) = 7 then _ else _) = _
                    rw [if_pos rfl]
                    simp [HSA.out]
                  rw [e1]
                  exact FN.1.mono (Nat.le_refl _) (Nat.le_succ _)
          · have H7 := Lib.hid h7
            have hb7 : (op == 7) = false := by simpa using h7
            clear h7
            have HE6 : Hid (er = if op = 6 then 0 else if op = 3 ∧ day < b then 145 else 0) := by rw [Hid, HE7.out, if_neg H7.out]
            have HNM : Hid (N < maxLen) := Nat.lt_of_le_of_lt hN (by decide)
            have LE : Hid (B ≤ wr.heap.size) := Nat.le_trans hG.out.le HC.out.size
            by_cases h6 : op = 6
            · subst h6
              obtain rfl : j = 1 := HT2.out
              have HE : Hid ((0 : Int) = er) := by rw [Hid, HE6.out, if_pos rfl]
              have n1 : 1 ≤ n := hlow
              have HN1 : Hid (n - 1 + 1 = n) := by rw [Hid]; omega
              have HTB2 : Hid (tb = s.stk.getD (s.stk.length - 1) false) := by rw [Hid, HTB.out, LS.out]; rfl
              have HST2 : Hid (s.stk.take (n - 1) ++ [tb] = s.stk) := by
                rw [Hid, HTB2.out, LS.out, List.getD_eq_getElem?_getD, List.getElem?_eq_getElem (by rw [LS.out]; omega), Option.getD_some]
                have := List.take_append_getElem (l := s.stk) (i := n - 1) (by rw [LS.out]; omega)
                rw [this, HN1.out, List.take_of_length_le (by rw [LS.out]; exact Nat.le_refl _)]
              have q1 := RS.out.box.at_ (i := 1) rfl
              have q2 := BT.out.at_ (i := 0) rfl
              obtain ⟨n', hn'⟩ : ∃ z, z = n - 1 := ⟨_, rfl⟩
              have HN' := Lib.hid hn'
              rw [← hn'] at RS
              have hnb : n' ≤ 1000000000 := by omega
              clear hn' n1
              obtain ⟨w8, hrun, k1, k2⟩ := Mp.put (w := wr.drew) (n := N) (RS.out.mp) IN.out.2 HNM.out tb
              have M8 := Lib.hid k1
              have C8 : Hid (Chg (fun y => y = m) wr w8) := (Chg.refl (fun y => y = m) wr).drew.trans k2 (fun _ _ h => h)
              have NB : Hid (∀ gg e cur, Blk wr gg e cur → Blk w8 gg e cur) := fun gg e cur hb => hb.chg C8.out (RS.out.mp.ne_blk hb)
              have R8 : Hid (RdSt w8 B g m A n' c ⟨s.stk.take n', putM s.sl a tb⟩ (N + 1)) := by
                refine ⟨NB.out _ _ _ RS.out.box, RS.out.own.chg C8.out (fun k hk => ?_), M8.out, RS.out.geg, RS.out.gem, RS.out.geo, ?_⟩
                · obtain ⟨cur, hb⟩ := RS.out.own.typed k hk
                  exact RS.out.mp.ne_blk hb
                · exact RS.out.len
              have B8 : Hid (Blk w8 gt 138 [.bool tb]) := NB.out _ _ _ BT.out
              clear k1 k2
              go_upto_region 23 with fail
              go_region
              have NV : Hid (¬ (gt = g ∨ Value.ownBlock (.slice A n' c) = some gt)) := by
                rintro (e | e)
                · exact BT.out.type_ne RS.out.box (by decide) e
                · exact (NGO.out gt (by rw [own_any A n n' c c]; exact e)).1 rfl
              have V8 : Hid (∀ W, Chg (fun _ => False) w8 W → W.cell? ⟨gt, 0, none⟩ = some (.bool tb)) := fun W cW => (B8.out.chg cW (fun h => h)).at_ (i := 0) rfl
              have RR8 : Hid (∀ W, Chg (fun _ => False) w8 W → RdSt W B g m A n' c ⟨s.stk.take n', putM s.sl a tb⟩ (N + 1)) := fun W cW => R8.out.chg0 cW
              clear q1 q2 hrun
              go_upto_region 24 with fail
              go_region_held3 (fun W => W.cell? ⟨gt, 0, none⟩ = some (.bool tb)) (first | exact D9.out.cell (p := ⟨gt, 0, none⟩) NV.out (V8.out _ (by repeat (first | exact Chg.refl _ _ | refine Chg.drew ?_ | refine Chg.drewN ?_ _ | refine Chg.alloc ?_ _))) | exact V8.out _ (by repeat (first | exact Chg.refl _ _ | refine Chg.drew ?_ | refine Chg.drewN ?_ _ | refine Chg.alloc ?_ _))) (first | (go_at_call 88; refine (vPush (l := s.stk.take n') (mv := .map (some m)) (Lib.hid (RR8.out _ (by repeat (first | exact Chg.refl _ _ | refine Chg.drew ?_ | refine Chg.drewN ?_ _ | refine Chg.alloc ?_ _))).box) (Lib.hid (RR8.out _ (by repeat (first | exact Chg.refl _ _ | refine Chg.drew ?_ | refine Chg.drewN ?_ _ | refine Chg.alloc ?_ _))).own) hnb).mono ?_; rintro e w9 ⟨A9, c9, rfl, B9, O9, D9, F9⟩))
              all_goals
                go_wp2_with fail
                go_ret
                have LE8 : B ≤ w8.heap.size := Nat.le_trans LE.out C8.out.size
                have FN := RdSt.pushed (RR8.out w8.drew (Chg.refl _ _).drew) LE8 B9 O9 D9 F9
                refine ⟨ret_i HE.out, (HC.out.trans C8.out (fun i hi e => by rw [e]; exact RS.out.gem)).drew.trans FN.2 (fun _ _ h => h), fun _ => ⟨A9, n' + 1, c9, ?_⟩⟩
                have e1 : applyS ⟨6, a, b⟩ s = ⟨s.stk.take n' ++ [tb], putM s.sl a tb⟩ := by
                  show (if (6 : Int) = 7 then _ else if (6 : Int) = 6 then _ else _) = _
                  rw [if_neg (by decide), if_pos rfl, HN'.out, HST2.out]
                  congr 1
                  funext k
                  unfold putM
                  rw [← HTB2.out]
                rw [e1]
                exact FN.1
            · have H6 := Lib.hid h6
              have hb6 : (op == 6) = false := by simpa using h6
              clear h6
              have HE3 : Hid (er = if op = 3 ∧ day < b then 145 else 0) := by rw [Hid, HE6.out, if_neg H6.out]
              by_cases hb3 : op = 3 ∧ day < b
              · have HE : Hid ((145 : Int) = er) := by rw [Hid, HE3.out, if_pos hb3]
                obtain ⟨h3, h4⟩ := hb3
                subst h3
                go_wp2_with fail
                go_ret
                exact ⟨ret_i HE.out, HC.out, fun h => absurd (HE.out.trans h) (by decide)⟩
              · have HE : Hid ((0 : Int) = er) := by rw [Hid, HE3.out, if_neg hb3]
                have H3 := Lib.hid hb3
                clear hb3
                go_upto_region 26 with fail
                go_cut [108] from 109 to 117 (fun v wx => v = .bool false ∧ Hid (wr = wx))
                case first =>
                  by_cases h3 : op = 3
                  · have h4 : ¬ day < b := fun h => H3.out ⟨h3, h⟩
                    subst h3
                    go_wp2_with fail
                    go_meet
                    case rel => exact ⟨rfl, rfl⟩
                  · have hb3 : (op == 3) = false := by simpa using h3
                    go_wp2_with fail
                    go_meet
                    case rel => exact ⟨rfl, rfl⟩
                case rest =>
                  obtain ⟨rfl, HWC⟩ := hcut
                  obtain rfl := HWC.out
                  clear HWC r0 r1 r2
                  go_wp2_with fail
                  go_loopw [119] (fun v wr => ∃ (k : Nat) (A' : Option Addr) (c' : Nat), v = .int .i64 (k : Int) ∧ k ≤ P ∧ Hid (RdSt wr B g m A' (n - j + k) c' ⟨s.stk.take (n - j) ++ List.replicate k (vGives op), s.sl⟩ N) ∧ Hid (Blk wr gx 47 [.int .i64 op, .int .i64 a, .int .i64 b]) ∧ Hid (Chg (fun y => B ≤ y) w wr)) (fun v _ => match v with | .int _ k => ((P : Int) - k).toNat | _ => 0)
                  case atStart =>
                    refine ⟨0, A, c, rfl, Nat.zero_le _, ?_, BX, HC⟩
                    rw [Hid, Nat.add_zero, List.replicate_zero, List.append_nil]
                    exact RS.out
                  case round =>
                    obtain ⟨k, A', c', rfl, hk, R2, BX2, HC2⟩ := hrel
                    by_cases hkp : k < P
                    · obtain ⟨nk, hnk⟩ : ∃ z, z = n - j + k := ⟨_, rfl⟩
                      obtain ⟨sk, hsk⟩ : ∃ z, z = s.stk.take (n - j) ++ List.replicate k (vGives op) := ⟨_, rfl⟩
                      rw [← hnk, ← hsk] at R2
                      have hnk2 : nk ≤ 1000000000 := by omega
                      have HNK : Hid (nk + 1 = n - j + (k + 1)) := by rw [Hid, hnk]; omega
                      have HSK : Hid (sk ++ [vGives op] = s.stk.take (n - j) ++ List.replicate (k + 1) (vGives op)) := by rw [Hid, hsk, List.append_assoc, ← List.replicate_succ']
                      clear hnk hsk
                      have GB : Hid (Glob wr B) := hG.out.up HC2.out
                      have RR : Hid (∀ W, Chg (fun _ => False) wr W → RdSt W B g m A' nk c' ⟨sk, s.sl⟩ N) := fun W cW => R2.out.chg0 cW
                      have XX : Hid (∀ W, Chg (fun _ => False) wr W → W.cell? ⟨gx, 0, none⟩ = some (.int .i64 op)) := fun W cW => (BX2.out.chg cW (fun h => h)).at_ (i := 0) rfl
                      have SS : Hid (∀ W, Chg (fun _ => False) wr W → SortsAt W) := fun W cW => (GB.out.chg0 cW).s
                      have NV : Hid (¬ (gx = g ∨ Value.ownBlock (.slice A' nk c') = some gx)) := by
                        rintro (e | e)
                        · exact BX2.out.type_ne R2.out.box (by decide) e
                        · exact R2.out.own.type_ne BX2.out (by decide) e
                      go_upto_region 30 with fail
                      go_region_held3 (fun W => W.cell? ⟨gx, 0, none⟩ = some (.int .i64 op)) (first | exact D9.out.cell (p := ⟨gx, 0, none⟩) NV.out (XX.out _ (by repeat (first | exact Chg.refl _ _ | exact CG.out | refine Chg.drew ?_ | refine Chg.drewN ?_ _ | refine Chg.alloc ?_ _))) | exact XX.out _ CG.out | exact XX.out _ (by repeat (first | exact Chg.refl _ _ | refine Chg.drew ?_ | refine Chg.drewN ?_ _ | refine Chg.alloc ?_ _))) (first | (go_at_call 89; refine (vGives0 (Lib.hid (SS.out _ (by repeat (first | exact Chg.refl _ _ | refine Chg.drew ?_ | refine Chg.drewN ?_ _ | refine Chg.alloc ?_ _))))).mono ?_; rintro e w6 ⟨rfl, CG1⟩; have CG : Hid (Chg (fun _ => False) wr w6) := Chg.trans (by repeat (first | exact Chg.refl _ _ | refine Chg.drew ?_ | refine Chg.drewN ?_ _ | refine Chg.alloc ?_ _)) CG1 (fun _ _ h => h); clear CG1) | (go_at_call 88; refine (vPush (l := sk) (mv := .map (some m)) (Lib.hid (RR.out _ CG.out).box) (Lib.hid (RR.out _ CG.out).own) hnk2).mono ?_; rintro e w9 ⟨A9, c9, rfl, B9, O9, D9, F9⟩))
                      all_goals
                        go_wp2_with fail
                        go_roundw
                        case rel =>
                          have LE8 : B ≤ w6.heap.size := Nat.le_trans (Nat.le_trans hG.out.le HC2.out.size) CG.out.size
                          have FN := RdSt.pushed (RR.out w6 CG.out) LE8 B9 O9 D9 F9
                          refine ⟨k + 1, A9, c9, by congr 1, by omega, ?_, ?_, (HC2.out.trans CG.out (fun _ _ h => h.elim)).trans FN.2 (fun _ _ h => h)⟩
                          · rw [← HNK.out, ← HSK.out]; exact FN.1
                          · exact (BX2.out.chg CG.out (fun h => h)).chg D9.out NV.out
                        case measure =>
                          have : wrap64 ((k : Int) + 1) = (k : Int) + 1 := IntWalk.wrap64_in _ (by omega)
                          simp [this]
                          try omega
                    · obtain rfl : k = P := by omega
                      have i2 : ¬ ((k : Int) < (k : Int)) := by omega
                      go_wp2_with fail
                      go_ret
                      refine ⟨ret_i HE.out, HC2.out, fun _ => ⟨A', n - j + k, c', ?_⟩⟩
                      have e1 : applyS ⟨op, a, b⟩ s = ⟨s.stk.take (n - j) ++ List.replicate k (vGives op), s.sl⟩ := by
                        show (if op = 7 then _ else if op = 6 then _ else _) = _
                        rw [if_neg H7.out, if_neg H6.out, LS.out, HT2.out, HP2.out]
                      rw [e1]
                      exact R2.out.mono (Nat.le_refl _) (Nat.le_succ _)
        · have HE : Hid ((143 : Int) = er) := by rw [Hid, her.out, HAE.out, if_pos HWW.out.symm]
          go_wp2_with fail
          go_ret
          exact ⟨ret_i HE.out, HC.out, fun h => absurd (HE.out.trans h) (by decide)⟩
end Go.Proofs.YtkadamoofiddeaaDoor.Kit
-- verify: apply, whole; the words of look.
set_option linter.unusedVariables false
set_option linter.unusedSimpArgs false
namespace Go.Proofs.YtkadamoofiddeaaDoor.Kit
open Go.RowKit Go.Maps
theorem applyE_low {x : InsV} {day : Int} {s : StV} (h : s.stk.length < vTakes x.op) : applyE x day s = 142 := if_pos (.inl h)
theorem applyE_0 {x : InsV} {day : Int} {s : StV} (h : x.op = 0) : applyE x day s = if 0 < s.stk.length then 142 else 0 := by
  obtain ⟨op, a, b⟩ := x
  simp only at h
  subst h
  by_cases hn : 0 < s.stk.length
  · rw [if_pos hn]
    exact if_pos (.inr ⟨rfl, hn⟩)
  · rw [if_neg hn]
    have h1 : ¬ (s.stk.length < vTakes 0 ∨ ((0 : Int) = 0 ∧ 0 < s.stk.length)) := by
      rintro (e | e)
      · exact absurd e (by rw [show vTakes 0 = 0 from rfl]; omega)
      · exact hn e.2
    refine (if_neg h1).trans ?_
    rw [if_neg (by rw [show vWrong 0 s.stk = false from rfl]; decide), if_neg (fun h => absurd (show (0 : Int) = 7 from h) (by decide)), if_neg (fun h => absurd (show (0 : Int) = 6 from h) (by decide)), if_neg (fun h => absurd (show (0 : Int) = 3 from h.1) (by decide))]
theorem applyS_0 {x : InsV} {s : StV} (h : x.op = 0) : applyS x s = s := by
  obtain ⟨op, a, b⟩ := x
  simp only at h
  subst h
  show (if (0 : Int) = 7 then _ else if (0 : Int) = 6 then _ else _) = _
  rw [if_neg (by decide), if_neg (by decide), show vTakes 0 = 0 from rfl, show vPuts 0 = 0 from rfl, Nat.sub_zero, List.take_length, List.replicate_zero, List.append_nil]
theorem applyS_len {x : InsV} {s : StV} (hx : 0 ≤ x.op ∧ x.op < 29) : (applyS x s).stk.length ≤ s.stk.length + 1 := by
  unfold applyS
  split
  · simp
  · split
    · simp
    · have := (vTakes_le hx).2.2.2
      simp only [List.length_append, List.length_take, List.length_replicate]
      omega
theorem vApply {w : World} {B g m n c N : Nat} {A : Option Addr} {s : StV} {x : InsV} {day : Int} (h : Hid (RdSt w B g m A n c s N)) (hG : Hid (Glob w B)) (hx : Hid ((0 ≤ x.op ∧ x.op < 29) ∧ (0 ≤ x.a ∧ x.a ≤ 262143) ∧ 0 ≤ x.b ∧ x.b ≤ 3660)) (hn : n ≤ 900000000) (hN : N ≤ 900000000) {er : Int} (her : Hid (er = applyE x day s)) :
    Calls Tryd.prog 78 #[.pointer (some ⟨g, 0, none⟩), .agg #[.int .i64 x.op, .int .i64 x.a, .int .i64 x.b], .int .i64 day] w fun e w' => e = .returned (.int .i64 er) ∧ Hid (Chg (fun y => B ≤ y) w w') ∧ Hid (er = 0 → ∃ A' n' c', RdSt w' B g m A' n' c' (applyS x s) (N + 1)) := by
  by_cases hlow : n < vTakes x.op
  · have he : er = 142 := her.out.trans (applyE_low (by rw [h.out.len]; exact hlow))
    refine (vApplyLow h hG hx.out.1 hlow (day := day)).mono ?_
    rintro e w' ⟨rfl, hc⟩
    exact ⟨by rw [he], hc, fun h0 => absurd (he.symm.trans h0) (by decide)⟩
  · by_cases h0 : x.op = 0
    · have he : Hid (er = if 0 < n then 142 else 0) := by rw [Hid, her.out, applyE_0 h0, h.out.len]
      refine (vApply0 h hG h0 he (day := day)).mono ?_
      rintro e w' ⟨rfl, hc, hr⟩
      refine ⟨rfl, hc, fun h1 => ⟨A, n, c, ?_⟩⟩
      rw [applyS_0 h0]
      refine (hr.out ?_).mono (Nat.le_refl _) (Nat.le_succ _)
      have := he.out
      rw [h1] at this
      rcases Nat.eq_zero_or_pos n with h2 | h2
      · exact h2
      · rw [if_pos h2] at this
        exact absurd this (by decide)
    · exact vApplyGo h hG hx h0 (by omega) hn hN her
/-! ## what stays -/
theorem RdL.keepT {w w1 : World} {B gS N : Nat} {L : List (Option StV)} {fs : List (Option MemS)} {S : Nat → Prop} (h : RdL w B gS L fs N) (c : Chg S w w1) (hS : ∀ y, S y → ∃ e cur, Blk w y e cur ∧ e ≠ 116 ∧ e ≠ 122 ∧ e ≠ 138) : RdL w1 B gS L fs N := by
  have hc : ∀ g e' cur', Blk w g e' cur' → (e' = 116 ∨ e' = 122 ∨ e' = 138) → ¬ S g := fun g e' cur' hb he hs => by
    obtain ⟨e, cur, hb2, n1, n2, n3⟩ := hS g hs
    rcases he with rfl | rfl | rfl
    · exact hb2.type_ne hb n1 rfl
    · exact hb2.type_ne hb n2 rfl
    · exact hb2.type_ne hb n3 rfl
  refine ⟨h.blk.chg c (hc _ _ _ h.blk (.inl rfl)), h.len, fun i s hs => ?_, h.no, h.apart⟩
  obtain ⟨q, hq, r⟩ := h.st i s hs
  refine ⟨q, hq, r.chg c (hc _ _ _ r.box (.inr (.inl rfl))) (fun e => ?_) (fun x hx => ?_)⟩
  · obtain ⟨e', cur, hb2, _⟩ := hS _ e
    exact r.mp.ne_blk hb2 rfl
  · obtain ⟨cur, hb⟩ := r.own.typed x hx
    exact hc _ _ _ hb (.inr (.inr rfl))
theorem RdL.mono {w : World} {B gS N N' : Nat} {L : List (Option StV)} {fs : List (Option MemS)} (h : RdL w B gS L fs N) (hN : N ≤ N') : RdL w B gS L fs N' :=
  ⟨h.blk, h.len, fun i s hs => by obtain ⟨q, hq, r⟩ := h.st i s hs; exact ⟨q, hq, r.mono (Nat.le_refl _) hN⟩, h.no, h.apart⟩
/-- no stack of the states is longer than k -/
def LenB (L : List (Option StV)) (k : Nat) : Prop := ∀ (i : Nat) (s : StV), L[i]? = some (some s) → s.stk.length ≤ k
theorem LenB.mono {L : List (Option StV)} {k k' : Nat} (h : LenB L k) (hk : k ≤ k') : LenB L k' := fun i s hs => Nat.le_trans (h i s hs) hk
theorem LenB.set {L : List (Option StV)} {k t : Nat} {s : StV} (h : LenB L k) (hs : s.stk.length ≤ k) : LenB (L.set t (some s)) k := fun i s' hs' => by
  rcases RdL.get_set hs' with ⟨_, e⟩ | ⟨_, e⟩
  · injection e with e
    rw [e]
    exact hs
  · exact h i s' e
theorem LenB.set_none {L : List (Option StV)} {k t : Nat} (h : LenB L k) : LenB (L.set t none) k := fun i s' hs' => by
  rcases RdL.get_set hs' with ⟨_, e⟩ | ⟨_, e⟩
  · cases e
  · exact h i s' e
theorem LenB.hand {b : StV} {k : Nat} (hb : b.stk.length ≤ k) : ∀ (ts : List Nat) (L : List (Option StV)), LenB L k → LenB (handGo L b ts).2 k
  | [], L, h => h
  | t :: ts, L, h => by
    rcases hj : (L[t]?).join with _ | s
    · rw [hand_no hj]
      exact LenB.hand hb ts _ (h.set hb)
    · have h1 : L[t]? = some (some s) := by
        rcases h2 : L[t]? with _ | x
        · rw [h2] at hj; cases hj
        · rw [h2] at hj; rw [show x = some s from hj]
      by_cases he : meetE s b = 0
      · rw [hand_ok h1 he]
        exact LenB.hand hb ts _ (h.set (h t s h1))
      · rw [hand_er h1 he]
        exact h
theorem LenB.handV {L : List (Option StV)} {b : StV} {k : Nat} (h : LenB L k) (hb : b.stk.length ≤ k) (ts : List Nat) : LenB (handV L b ts).2 k := by
  unfold Kit.handV
  split
  · exact h
  · exact LenB.hand hb ts L h
/-- the numbers that were worked out, k instructions on -/
structure FoundB (f : FoundV) (k : Nat) : Prop where
  s0 : 0 ≤ f.stack
  s1 : f.stack ≤ 1000000
  f0 : 0 ≤ f.fuel
  f1 : f.fuel ≤ k
  b0 : 0 ≤ f.back
  b1 : f.back ≤ 1000000
  l0 : 0 ≤ f.slots
  l1 : f.slots ≤ 1000000
  c0 : 0 ≤ f.cell
  c1 : f.cell ≤ 1000000
theorem FoundB.note {f : FoundV} {k : Nat} {x : InsV} {h : Int} (H : FoundB f k) (hx : (0 ≤ x.op ∧ x.op < 29) ∧ (0 ≤ x.a ∧ x.a ≤ 262143) ∧ 0 ≤ x.b ∧ x.b ≤ 3660) (h0 : 0 ≤ h) (h1 : h ≤ 1000000) : FoundB (noteV f x h) (k + 1) := by
  obtain ⟨s0, s1, f0, f1, b0, b1, l0, l1, c0, c1⟩ := H
  unfold noteV
  refine ⟨?_, ?_, ?_, ?_, ?_, ?_, ?_, ?_, ?_, ?_⟩
  all_goals
    simp only
    try split
    all_goals omega
theorem FoundB.ok {f : FoundV} {k : Nat} (H : FoundB f k) (hk : k ≤ 1000000) : FoundOk f := by
  obtain ⟨s0, s1, f0, f1, b0, b1, l0, l1, c0, c1⟩ := H
  exact ⟨⟨s0, by omega⟩, ⟨f0, by omega⟩, ⟨b0, by omega⟩, ⟨l0, by omega⟩, c0, by omega⟩
theorem FoundB.zero : FoundB found0 0 := ⟨by decide, by decide, by decide, by decide, by decide, by decide, by decide, by decide, by decide, by decide⟩
theorem FoundB.mono {f : FoundV} {k k' : Nat} (H : FoundB f k) (hk : k ≤ k') : FoundB f k' := ⟨H.s0, H.s1, H.f0, by have := H.f1; omega, H.b0, H.b1, H.l0, H.l1, H.c0, H.c1⟩
/-- the heights of the days so far -/
structure RdH (w : World) (B : Nat) (hv : Value) (H : List (List Int)) (vs : List Value) : Prop where
  own : OwnV w 23 1 hv H.length vs
  row : ∀ (i : Nat) (v : Value) (l : List Int), vs[i]? = some v → H[i]? = some l → Own w 3 .i64 v l
  geo : ∀ k, hv.ownBlock = some k → B ≤ k
theorem RdH.chg {w w1 : World} {B : Nat} {hv : Value} {H : List (List Int)} {vs : List Value} {S : Nat → Prop} (h : RdH w B hv H vs) (c : Chg S w w1) (h1 : ∀ y e cur, Blk w y e cur → (e = 23 ∨ e = 3) → ¬ S y) : RdH w1 B hv H vs :=
  ⟨h.own.chg c (fun k hk => by obtain ⟨cur, hb⟩ := h.own.typed k hk; exact h1 k _ _ hb (.inl rfl)), fun i v l hv hl => (h.row i v l hv hl).chg c (fun k hk => by
    obtain ⟨cur, hb⟩ := OwnV.typed (h.row i v l hv hl) k hk
    exact h1 k _ _ hb (.inr rfl)), h.geo⟩
theorem RdH.chg0 {w w1 : World} {B : Nat} {hv : Value} {H : List (List Int)} {vs : List Value} (h : RdH w B hv H vs) (c : Chg (fun _ => False) w w1) : RdH w1 B hv H vs := h.chg c (fun _ _ _ _ _ h => h)
theorem infoPtrS : (Tryd.prog.info? 116).map (fun i => (i.zero, i.size, i.bytes)) = some (some (.pointer none), 1, 8) := by kernel_rfl
theorem infoIntS : (Tryd.prog.info? 23).map (fun i => (i.zero, i.size, i.bytes)) = some (some (.slice none 0 0), 1, 24) := by kernel_rfl
theorem run_makeP (n : Nat) (hn : n ≤ 17592186044416) (W : World) :
    (Instr.makeSlice 115 (.int .i64 (n : Int)) (.int .i64 (n : Int))).run Tryd.prog W = .ok (.slice (some ⟨W.heap.size, 0, none⟩) n n) (W.alloc (.cells (madeCells #[.pointer none] n) 116)) :=
  run_make_row' (P := Tryd.prog) _ _ (.pointer none) 8 Tryd.underlying115 infoPtrS rfl .i64 .i64 n (by omega) (by omega) W
theorem rdl_made (W : World) (n B : Nat) : RdL (W.alloc (.cells (madeCells #[.pointer none] n) 116)) B W.heap.size (List.replicate n none) (List.replicate n none) 0 := by
  refine ⟨?_, by simp, fun i s hs => ?_, fun i hi => ?_, fun i j p q hij hp hq => ?_⟩
  · have := Blk.new W (madeCells #[.pointer none] n) 116
    rw [toList_madeCells_one] at this
    rw [List.map_replicate]
    exact this
  · rw [List.getElem?_replicate] at hs
    split at hs <;> cases hs
  · rw [List.getElem?_replicate] at hi ⊢
    split at hi
    · rename_i h; rw [if_pos h]
    · cases hi
  · rw [List.getElem?_replicate] at hp
    split at hp <;> cases hp
end Go.Proofs.YtkadamoofiddeaaDoor.Kit
-- verify: look: through a program's days.
set_option linter.unusedVariables false
set_option linter.unusedSimpArgs false
namespace Go.Proofs.YtkadamoofiddeaaDoor.Kit
open Go.RowKit Go.Maps
theorem segGo_none {day : Int} {x : InsV} {xs : List InsV} {k : Nat} {L : List (Option StV)} {f : FoundV} {hs : List Int} (h : (L[k]?).join = none) : segGo day (x :: xs) k L f hs = ⟨146, k, f, hs⟩ := by rw [segGo, h]
theorem segGo_app {day : Int} {x : InsV} {xs : List InsV} {k : Nat} {L : List (Option StV)} {f : FoundV} {hs : List Int} {s : StV} (h : L[k]? = some (some s)) (he : applyE x day s ≠ 0) : segGo day (x :: xs) k L f hs = ⟨applyE x day s, k, noteV f x s.stk.length, hs ++ [(s.stk.length : Int)]⟩ := by
  rw [segGo, h]
  exact if_pos he
theorem segGo_hand {day : Int} {x : InsV} {xs : List InsV} {k : Nat} {L : List (Option StV)} {f : FoundV} {hs : List Int} {s : StV} (h : L[k]? = some (some s)) (he : applyE x day s = 0) (hh : (handV L (applyS x s) (toOf x k)).1 ≠ 0) : segGo day (x :: xs) k L f hs = ⟨(handV L (applyS x s) (toOf x k)).1, k, noteV f x s.stk.length, hs ++ [(s.stk.length : Int)]⟩ := by
  rw [segGo, h]
  exact (if_neg (fun h1 => h1 he)).trans (if_pos hh)
theorem segGo_ok {day : Int} {x : InsV} {xs : List InsV} {k : Nat} {L : List (Option StV)} {f : FoundV} {hs : List Int} {s : StV} (h : L[k]? = some (some s)) (he : applyE x day s = 0) (hh : (handV L (applyS x s) (toOf x k)).1 = 0) : segGo day (x :: xs) k L f hs = segGo day xs (k + 1) ((handV L (applyS x s) (toOf x k)).2.set k none) (noteV f x s.stk.length) (hs ++ [(s.stk.length : Int)]) := by
  rw [segGo, h]
  exact (if_neg (fun h1 => h1 he)).trans (if_neg (fun h1 => h1 hh))
theorem RdL.rd {w : World} {B gS N k : Nat} {L : List (Option StV)} {fs : List (Option MemS)} {s : StV} {q : MemS} (h : RdL w B gS L fs N) (hL : L[k]? = some (some s)) (hq : fs[k]? = some (some q)) : RdSt w B q.g q.m q.A q.n q.c s N := by
  obtain ⟨q', hq', r⟩ := h.st k s hL
  rw [hq] at hq'
  injection hq' with hq'
  injection hq' with hq'
  subst hq'
  exact r
theorem Glob.later {w w1 : World} {B B' : Nat} (h : Glob w B) (c : Chg (fun _ => False) w w1) (hB : B ≤ B') (hle : B' ≤ w1.heap.size) : Glob w1 B' := ⟨h.k.chg0 c, h.s.chg c (fun h => h) (fun h => h), Nat.lt_of_lt_of_le h.lk hB, Nat.lt_of_lt_of_le h.ln hB, Nat.lt_of_lt_of_le h.lt hB, hle⟩
theorem appI_end {w : World} {e : TypeId} {v : Value} {hs : List Int} {y : Int} {k : Nat} (h : Own w e .i64 v (hs ++ [y])) (hl : hs.length = k) : ∃ A c, v = .slice A (k + 1) c := by
  obtain ⟨A, c, hv, _, _⟩ := h.slice
  rw [List.length_append, List.length_singleton, hl] at hv
  exact ⟨A, c, hv⟩
theorem toOf_len (x : InsV) (k : Nat) : (toOf x k).length ≤ 2 := by
  unfold toOf
  repeat' split
  all_goals simp
theorem ChgS.ge {w : World} {B gS N : Nat} {L : List (Option StV)} {fs : List (Option MemS)} (h : RdL w B gS L fs N) (hB : B ≤ gS) {y : Nat} (hy : ChgS gS fs y) : B ≤ y := by
  rcases hy with e | ⟨i, q, hq, e⟩
  · omega
  · obtain ⟨s, _, r⟩ := h.back hq
    rw [e]
    exact r.gem
theorem meas_lt {k n : Nat} (h : k < n) : n - (intOf (Value.int .i64 ((k : Int) + 1))).toNat < n - (intOf (Value.int .i64 (k : Int))).toNat := by
  show n - ((k : Int) + 1).toNat < n - (k : Int).toNat
  have e2 : ((k : Int) + 1).toNat = k + 1 := by omega
  have e3 : (k : Int).toNat = k := by omega
  rw [e2, e3]
  exact Nat.sub_lt_sub_left h (Nat.lt_succ_self k)
theorem codeLen_all {p : ProgV} (h : CanonP p) : ∀ n, n ≤ p.days.length → codeLen p n ≤ 262144
  | 0, _ => by simp [codeLen]
  | k + 1, hk => (h.days k (by omega)).len
theorem lookGo_er {x : SegV} {xs : List SegV} {n : Nat} {f : FoundV} {H : List (List Int)} (h : (segOf x f).er ≠ 0) : lookGo (x :: xs) n f H = ⟨(segOf x f).er, n, (segOf x f).at_, (segOf x f).f, H⟩ := by rw [lookGo, if_pos h]
theorem lookGo_ok {x : SegV} {xs : List SegV} {n : Nat} {f : FoundV} {H : List (List Int)} (h : (segOf x f).er = 0) : lookGo (x :: xs) n f H = lookGo xs (n + 1) (segOf x f).f (H ++ [(segOf x f).hs]) := by rw [lookGo, if_neg (fun h1 => h1 h)]
/-- a day's heights are put behind the others' -/
theorem RdH.snoc {w w5 w6 : World} {B gF : Nat} {hv v5 u : Value} {H : List (List Int)} {hs : List Int} {vs cur : List Value} (h : RdH w B hv H vs) (k1 : OwnV w5 23 1 v5 (H.length + 1) (vs ++ [u])) (k2 : Chg (fun y => hv.ownBlock = some y) w w5) (k3 : Fresh w hv v5) (hB : B ≤ w.heap.size) (hO : Own w 3 .i64 u hs)
    (hb : Blk w5 gF 75 cur) (c : Chg (fun y => y = gF) w5 w6) : RdH w6 B v5 (H ++ [hs]) (vs ++ [u]) := by
  have hl : vs.length = H.length := by have := h.own.1; omega
  have keep : ∀ v l, Own w 3 .i64 v l → Own w6 3 .i64 v l := fun v l ho => by
    have h1 := OwnV.chg ho k2 (fun k hk e => by
      obtain ⟨cur, hb⟩ := OwnV.typed ho k hk
      exact h.own.type_ne hb (by decide) e)
    exact OwnV.chg h1 c (fun k hk e => by
      obtain ⟨cur, hb2⟩ := OwnV.typed h1 k hk
      exact hb2.type_ne hb (by decide) e)
  refine ⟨?_, fun i v l hv' hl' => ?_, k3.ge h.geo hB⟩
  · rw [List.length_append, List.length_singleton]
    exact k1.chg c (fun k hk e => by
      obtain ⟨cur, hb2⟩ := k1.typed k hk
      exact hb2.type_ne hb (by decide) e)
  · rcases Nat.lt_or_ge i H.length with h1 | h1
    · rw [List.getElem?_append_left (by omega)] at hv'
      rw [List.getElem?_append_left h1] at hl'
      exact keep v l (h.row i v l hv' hl')
    · rw [List.getElem?_append_right (by omega)] at hv'
      rw [List.getElem?_append_right h1] at hl'
      have h2 : i - H.length = 0 := by
        have := (List.getElem?_eq_some_iff.1 hl').1
        simp at this
        omega
      rw [hl, h2] at hv'
      rw [h2] at hl'
      simp at hv' hl'
      subst hv'
      subst hl'
      exact keep _ _ hO
set_option maxRecDepth 100000 in
set_option maxHeartbeats 6400000 in
theorem vLook {s : ProgS} {p : ProgV} {w : World} (hp : Hid (RdProg w s p)) (ok : Hid (ProgOk p)) (hc : Hid (CanonP p)) (hG : Hid (Glob w w.heap.size)) :
    Calls Tryd.prog 60 #[progVal s p] w fun e w' => ∃ gF, e = .returned (.tuple #[.pointer (some ⟨gF, 0, none⟩), .int .i64 ((lookOf p).seg : Int), .int .i64 ((lookOf p).at_ : Int), .int .i64 (lookOf p).er]) ∧ Hid (Chg (fun _ => False) w w') ∧
      Hid ((lookOf p).er = 0 → ∃ hv vs, Blk w' gF 75 (fCells (lookOf p).f hv) ∧ RdH w' w.heap.size hv (lookOf p).H vs ∧ w.heap.size ≤ gF) := by
  obtain ⟨n1, n2, n3, n4, A1, A2, A3, A4, c1, c2, c3, c4, HP0⟩ := hp.out.apart
  have HP := Lib.hid HP0
  obtain ⟨i1, hi1⟩ : ∃ x, x = p.horizon := ⟨_, rfl⟩
  obtain ⟨i2, hi2⟩ : ∃ x, x = p.cells := ⟨_, rfl⟩
  obtain ⟨i3, hi3⟩ : ∃ x, x = p.slots := ⟨_, rfl⟩
  obtain ⟨i4, hi4⟩ : ∃ x, x = p.stack := ⟨_, rfl⟩
  have EQ2 : Hid (progVal s p = .agg #[.slice A1 n1 c1, .slice A2 n2 c2, .slice A3 n3 c3, .int .i64 i1, .int .i64 i2, .int .i64 i3, .int .i64 i4, .slice A4 n4 c4]) := by rw [Hid, HP0.eq, hi1, hi2, hi3, hi4]
  rw [EQ2.out]
  have S4 : n4 * 32 ≤ 140737488351232 := by have := HP0.ld; have := ok.out.small.days; omega
  have LD := Lib.hid HP0.ld
  clear hi1 hi2 hi3 hi4 HP0
  obtain ⟨w0, hw0⟩ : ∃ x, x = (w.alloc (.cells #[.slice A1 n1 c1, .slice A2 n2 c2, .slice A3 n3 c3, .int .i64 i1, .int .i64 i2, .int .i64 i3, .int .i64 i4, .slice A4 n4 c4] 26)).alloc (.cells #[.int .i64 0, .int .i64 0, .int .i64 0, .slice none 0 0, .int .i64 0, .int .i64 0] 75) := ⟨_, rfl⟩
  obtain ⟨g1, hg1⟩ : ∃ x, x = w.heap.size := ⟨_, rfl⟩
  have C0 : Hid (Chg (fun _ => False) w w0) := by rw [hw0]; exact ((Chg.refl _ w).alloc _).alloc _
  have B1 : Hid (Blk w0 g1 26 [.slice A1 n1 c1, .slice A2 n2 c2, .slice A3 n3 c3, .int .i64 i1, .int .i64 i2, .int .i64 i3, .int .i64 i4, .slice A4 n4 c4]) := by rw [hw0, hg1]; exact (Blk.new _ _ _).alloc _
  have BF : Hid (Blk w0 (g1 + 1) 75 (fCells found0 (.slice none 0 0))) := by
    have := Blk.new (w.alloc (.cells #[.slice A1 n1 c1, .slice A2 n2 c2, .slice A3 n3 c3, .int .i64 i1, .int .i64 i2, .int .i64 i3, .int .i64 i4, .slice A4 n4 c4] 26)) #[.int .i64 0, .int .i64 0, .int .i64 0, .slice none 0 0, .int .i64 0, .int .i64 0] 75
    rw [hw0, hg1]
    rw [show (w.alloc (.cells #[.slice A1 n1 c1, .slice A2 n2 c2, .slice A3 n3 c3, .int .i64 i1, .int .i64 i2, .int .i64 i3, .int .i64 i4, .slice A4 n4 c4] 26)).heap.size = w.heap.size + 1 from by simp] at this
    exact this
  have HG1 := Lib.hid hg1
  have q7 : ((w.alloc (.cells #[.slice A1 n1 c1, .slice A2 n2 c2, .slice A3 n3 c3, .int .i64 i1, .int .i64 i2, .int .i64 i3, .int .i64 i4, .slice A4 n4 c4] 26)).alloc (.cells #[.int .i64 0, .int .i64 0, .int .i64 0, .slice none 0 0, .int .i64 0, .int .i64 0] 75)).cell? ⟨w.heap.size, 7, none⟩ = some (.slice A4 n4 c4) := by
    have := B1.out.at_ (i := 7) rfl
    rwa [hw0, hg1] at this
  go_enter Tryd.func60, Tryd.ntmps60
  go_wp2_with fail
  go_step3
  go_wp2_with fail
  go_step3
  go_wp2_with fail
  rw [← hw0, ← hg1]
  clear hw0 hg1 q7
  have D0 : Hid (∀ W, Chg (fun _ => False) w W → RdDays W A4 p.days s.codes) := fun W cW => (HP.out.chg0 cW).rd
  have CL := Lib.hid (codeLen_all hc.out)
  clear HP
  go_loopw [7, 8, 9, 23] (fun v7 v8 v9 v23 wr => ∃ (n : Nat) (f : FoundV) (H : List (List Int)) (hv : Value) (vs : List Value), v7 = .int .i64 0 ∧ v8 = .int .i64 0 ∧ v9 = .int .i64 0 ∧ v23 = .int .i64 (n : Int) ∧ n ≤ n4 ∧ Hid (lookGo (p.days.drop n) n f H = lookOf p) ∧
    Hid (Blk wr (g1 + 1) 75 (fCells f hv)) ∧ Hid (RdH wr g1 hv H vs) ∧ Hid (FoundB f (codeLen p n)) ∧ Hid (H.length = n) ∧ Hid (Chg (fun _ => False) w wr)) (fun _ _ _ v _ => n4 - (intOf v).toNat)
  case atStart => exact ⟨0, found0, [], .slice none 0 0, [], rfl, rfl, rfl, rfl, Nat.zero_le _, rfl, BF, ⟨OwnV.nil _ _ _, fun i v l hv => by simp at hv, fun k hk => by simp [Value.ownBlock] at hk⟩, FoundB.zero, rfl, C0⟩
  case round =>
    obtain ⟨n, f, H, hv, vs, rfl, rfl, rfl, rfl, hn, HL, BFr, RH, FB, HLen, CK⟩ := hrel
    by_cases hlt : n < n4
    · have h1 : n < p.days.length := by have := LD.out; omega
      obtain ⟨ad, B, nn, cc, e0, f1a, f2a, l1, l2, l3, l4⟩ := (D0.out w (Chg.refl _ _)).at_ h1
      subst e0
      have f1 := CK.out.cell (fun h => h) f1a
      have f2 := CK.out.cell (p := ⟨(ad.add (n * 2)).block, (ad.add (n * 2)).off + 1, none⟩) (fun h => h) f2a
      clear f1a f2a
      obtain ⟨ws, hws⟩ : ∃ y, y = wr := ⟨_, rfl⟩
      subst hws
      obtain ⟨x, hx0⟩ : ∃ x, x = p.days[n] := ⟨_, rfl⟩
      have HLx : Hid (lookGo (x :: p.days.drop (n + 1)) n f H = lookOf p) := by rw [Hid, hx0, ← List.drop_eq_getElem_cons h1]; exact HL.out
      have GD : Hid (GoodD p n x) := by rw [hx0]; exact hc.out.days n h1
      have HCL : Hid (codeLen p (n + 1) = codeLen p n + x.code.length) := by rw [hx0]; exact codeLen_succ h1
      have HCM : Hid (codeLen p (n + 1) ≤ 262144) := CL.out (n + 1) h1
      rw [← hx0] at f1 l1 l4
      have L1 := Lib.hid l1
      have L4 := Lib.hid l4
      obtain ⟨dx, cx⟩ := x
      simp only at f1 l1 l4
      have hn2 : 2 ≤ nn := by rw [l1]; exact GD.out.code.1
      have hn3 : nn ≤ 262144 := by have e1 := HCL.out; have e2 := HCM.out; rw [e1] at e2; rw [l1]; exact Nat.le_trans (Nat.le_add_left _ _) e2
      have b1 : (0 : Int) ≤ (n : Int) := by omega
      have b2 : (n : Int) < (n4 : Int) := by omega
      have mk := run_makeP nn (by omega)
      have hmm := @run_makeMap Tryd.prog
      have q1 := ((Blk.new ws #[.int .i64 dx, .slice B nn cc] 42)).at_ (i := 1) rfl
      clear l1 l4 hx0 HL
      go_upto_region 7 with fail
      obtain ⟨gg, hgg⟩ : ∃ y, y = ws.heap.size := ⟨_, rfl⟩
      obtain ⟨w2, hw2⟩ : ∃ y, y = (ws.alloc (Obj.cells #[Value.int IntKind.i64 dx, Value.slice B nn cc] 42)).alloc (Obj.cells (madeCells #[Value.pointer none] nn) 116) := ⟨_, rfl⟩
      have e0 : (ws.alloc (Obj.cells #[Value.int IntKind.i64 dx, Value.slice B nn cc] 42)).heap.size = gg + 1 := by rw [hgg]; simp
      have C2 : Hid (Chg (fun _ => False) ws w2) := by rw [hw2]; exact ((Chg.refl _ ws).alloc _).alloc _
      have SB2 : Hid (Blk w2 gg 42 [.int .i64 dx, .slice B nn cc]) := by rw [hw2, hgg]; exact (Blk.new ws #[.int .i64 dx, .slice B nn cc] _).alloc _
      have RL2 : Hid (RdL w2 gg (gg + 1) (List.replicate nn none) (List.replicate nn none) 0) := by rw [hw2, ← e0]; exact rdl_made _ nn gg
      have HGG := Lib.hid hgg
      have SZ2 : Hid (gg + 2 ≤ w2.heap.size) := by rw [Hid, hw2, hgg]; simp
      rw [← hw2, ← hgg]
      clear hw2 hgg e0 q1 f1 f2 mk
      have R3 : Hid (RdL ((w2.alloc (.map #[] 0)).alloc (.cells #[.slice none 0 0, .map (some w2.heap.size)] 122)) gg (gg + 1) (List.replicate nn none) (List.replicate nn none) 0) := RL2.out.chg (((Chg.refl (fun _ => False) w2).alloc _).alloc _) (fun h => h) (fun _ _ _ h => h)
      have S3 : Hid (RdSt ((w2.alloc (.map #[] 0)).alloc (.cells #[.slice none 0 0, .map (some w2.heap.size)] 122)) gg (w2.heap.size + 1) w2.heap.size none 0 0 ⟨[], noSlots⟩ 0) := by
        have hb := Blk.new (w2.alloc (.map #[] 0)) #[.slice none 0 0, .map (some w2.heap.size)] 122
        rw [show (w2.alloc (.map #[] 0)).heap.size = w2.heap.size + 1 from by simp] at hb
        exact ⟨hb, OwnV.nil _ _ _, (Mp.made w2).alloc _, by have := SZ2.out; omega, by have := SZ2.out; omega, fun k hk => by simp [Value.ownBlock] at hk, rfl⟩
      have p0 := R3.out.cell (i := 0) (x := none) (by rw [List.getElem?_replicate, if_pos (by omega)])
      have p1 : ((w2.alloc (.map #[] 0)).alloc (.cells #[.slice none 0 0, .map (some w2.heap.size)] 122)).frozen? ⟨gg + 1, 0, none⟩ = false := R3.out.blk.frozen (by simp; omega)
      have p2 : (0 : Int) < (nn : Int) := by omega
      have p3 : 0 < nn := by omega
      simp only [ptrS] at p0
      go_upto_region 8 with fail
      obtain ⟨w4, hw4⟩ : ∃ y, y = ((w2.alloc (.map #[] 0)).alloc (.cells #[.slice none 0 0, .map (some w2.heap.size)] 122)).setCell ⟨gg + 1, 0, none⟩ (.pointer (some ⟨w2.heap.size + 1, 0, none⟩)) := ⟨_, rfl⟩
      have SB4 : Hid (Blk w4 gg 42 [.int .i64 dx, .slice B nn cc]) := by rw [hw4]; exact ((SB2.out.alloc _).alloc _).set_other (by simp) _
      have C4 : Hid (Chg (fun y => gg ≤ y) ws w4) := by
        rw [hw4]
        exact (((ge_chg0 C2.out).alloc _).alloc _).setCell (p := ⟨gg + 1, 0, none⟩) (fun _ => Nat.le_succ _) _
      have R4 : Hid (RdL w4 gg (gg + 1) (segInit nn) ((List.replicate nn none).set 0 (some ⟨w2.heap.size + 1, w2.heap.size, none, 0, 0⟩)) 0) := by
        rw [hw4]
        exact R3.out.set_some (q := ⟨w2.heap.size + 1, w2.heap.size, none, 0, 0⟩) S3.out (by simp; omega) (fun i p hp => by
          rw [List.getElem?_replicate] at hp
          split at hp <;> cases hp)
      have C4F : Hid (Chg (fun _ => False) ws w4) := C4.out.mono (fun i hi h => by have := HGG.out; omega)
      rw [← hw4]
      clear hw4 p0 p1 p2 p3
      have y1 := SB4.out.at_ (i := 1) rfl
      have LI : Hid (LenB (segInit nn) 0) := fun i s hs => by
        rcases RdL.get_set hs with ⟨_, e⟩ | ⟨_, e⟩
        · injection e with e
          rw [e]
          exact Nat.le_refl _
        · rw [List.getElem?_replicate] at e
          split at e <;> cases e
      have CW4 : Hid (Chg (fun _ => False) w w4) := CK.out.trans C4F.out (fun _ _ h => h)
      have NF : Hid (g1 + 1 < ws.heap.size) := BFr.out.lt
      go_wp2_with fail
      go_loopw [7, 8, 9, 13, 40] (fun v7 v8 v9 v13 v40 wr => ∃ (k : Nat) (L : List (Option StV)) (fs : List (Option MemS)) (f' : FoundV) (hs : List Int) (A13 : Option Addr) (c13 : Nat), v7 = .int .i64 0 ∧ v8 = .int .i64 0 ∧ v9 = .int .i64 0 ∧ v13 = .slice A13 k c13 ∧ v40 = .int .i64 (k : Int) ∧ k ≤ nn ∧
        Hid (RdL wr gg (gg + 1) L fs k) ∧ Hid (segGo dx (cx.drop k) k L f' hs = segOf ⟨dx, cx⟩ f) ∧ Hid (LenB L k) ∧ Hid (L.length = nn) ∧ Hid (Own wr 3 .i64 (.slice A13 k c13) hs) ∧ Hid (hs.length = k) ∧ Hid (∀ y, Value.ownBlock (.slice A13 k c13) = some y → gg ≤ y) ∧ Hid (Blk wr (g1 + 1) 75 (fCells f' hv)) ∧ Hid (FoundB f' (codeLen p n + k)) ∧ Hid (Blk wr gg 42 [.int .i64 dx, .slice B nn cc]) ∧ Hid (Chg (fun y => y = g1 + 1) ws wr)) (fun _ _ _ _ v _ => nn - (intOf v).toNat)
      case atStart =>
        refine ⟨0, segInit nn, _, f, [], none, 0, rfl, rfl, rfl, rfl, rfl, Nat.zero_le _, R4, ?_, LI, by simp [Hid, segInit], OwnV.nil _ _ _, rfl, fun y hy => by simp [Value.ownBlock] at hy, BFr.out.chg C4F.out (fun h => h), FB, SB4, C4F.out.mono (fun _ _ h => h.elim)⟩
        rw [Hid, segOf, L1.out]
        rfl
      case round =>
        obtain ⟨k, L, fs, f', hs, A13, c13, rfl, rfl, rfl, rfl, rfl, hk, RL, SG, LB, LL, OH, HH, GH, BG, FC, SBr, HC⟩ := hrel
        have CW : Hid (Chg (fun _ => False) w wr) := CK.out.trans HC.out (fun i hi e => by have := HG1.out; omega)
        by_cases hkn : k < nn
        · have HKN := Lib.hid hkn
          have hk1 : k < cx.length := by rw [← L1.out]; exact hkn
          have VX := Lib.hid ((GD.out.code.2 k hk1).valid.nums)
          obtain ⟨j0, j1, j2⟩ := insCells_get cx k hk1
          obtain ⟨a1, e1, hc1⟩ := (L4.out.chg0 CW.out) _ _ j0
          obtain ⟨a2, e2, hc2⟩ := (L4.out.chg0 CW.out) _ _ j1
          obtain ⟨a3, e3, hc3⟩ := (L4.out.chg0 CW.out) _ _ j2
          subst e1
          cases e2
          cases e3
          rw [← add1] at hc2
          rw [← add2] at hc3
          have hdrop := List.drop_eq_getElem_cons hk1
          have HK1 : Hid (cx[k]? = some cx[k]) := List.getElem?_eq_getElem hk1
          obtain ⟨x, hx0⟩ : ∃ x, x = cx[k] := ⟨_, rfl⟩
          rw [← hx0] at hc1 hc2 hc3 hdrop HK1
          have VX2 : Hid ((0 ≤ x.op ∧ x.op < 29) ∧ (0 ≤ x.a ∧ x.a ≤ 262143) ∧ 0 ≤ x.b ∧ x.b ≤ 3660) := by rw [hx0]; exact VX.out
          have SGx : Hid (segGo dx (x :: cx.drop (k + 1)) k L f' hs = segOf ⟨dx, cx⟩ f) := by rw [Hid, ← hdrop]; exact SG.out
          clear hx0 hdrop j0 j1 j2 SG VX
          obtain ⟨op, a, b⟩ := x
          simp only at hc1 hc2 hc3
          have b3 : (0 : Int) ≤ (k : Int) := by omega
          have b4 : (k : Int) < (nn : Int) := by omega
          obtain ⟨lk, hlk⟩ : ∃ y, L[k]? = some y := ⟨_, List.getElem?_eq_getElem (by rw [LL.out]; exact hkn)⟩
          obtain ⟨w5, hw5⟩ : ∃ y, y = wr.alloc (Obj.cells #[.int .i64 op, .int .i64 a, .int .i64 b] 47) := ⟨_, rfl⟩
          obtain ⟨gi, hgi⟩ : ∃ y, y = wr.heap.size := ⟨_, rfl⟩
          have C5 : Hid (Chg (fun _ => False) wr w5) := by rw [hw5]; exact (Chg.refl _ wr).alloc _
          have BI5 : Hid (Blk w5 gi 47 [.int .i64 op, .int .i64 a, .int .i64 b]) := by rw [hw5, hgi]; exact Blk.new wr #[.int .i64 op, .int .i64 a, .int .i64 b] _
          have RL5 : Hid (RdL w5 gg (gg + 1) L fs k) := RL.out.chg C5.out (fun h => h) (fun _ _ _ h => h)
          have HGI := Lib.hid hgi
          go_upto_region 12 with fail
          rw [← hw5, ← hgi]
          clear hw5 hgi hc1 hc2 hc3
          rcases lk with _ | st
          · have cp := RL5.out.cell (RL5.out.no k hlk)
            simp only [ptrS] at cp
            have HSE : Hid (segOf ⟨dx, cx⟩ f = ⟨146, k, f', hs⟩) := by rw [← SGx.out]; exact segGo_none (by rw [hlk]; rfl)
            have HR : Hid (lookOf p = ⟨146, n, k, f', H⟩) := by
              rw [← HLx.out, Hid, lookGo_er (by rw [HSE.out]; simp), HSE.out]
            clear hlk
            go_wp2_with fail
            refine bodyPost_ret (v := .tuple #[.pointer (some ⟨g1 + 1, 0, none⟩), .int .i64 n, .int .i64 k, .int .i64 (146)]) (by simp [results, Tryd.results60, go_sem]) rfl ⟨g1 + 1, by rw [HR.out], CW.out.trans C5.out (fun _ _ h => h), fun h => absurd ((congrArg LookR.er HR.out).symm.trans h) (by simp)⟩
          · obtain ⟨q, hq, rq⟩ := RL5.out.st k st hlk
            have HQ := Lib.hid hq
            have HLK := Lib.hid hlk
            have cp := RL5.out.cell hq
            simp only [ptrS] at cp
            have qh := rq.box.at_ (i := 0) rfl
            have LQ : Hid (q.n = st.stk.length) := rq.len.symm
            have LSK : Hid (st.stk.length ≤ k) := LB.out k st hlk
            have OH5 : Hid (Own w5 3 .i64 (.slice A13 k c13) hs) := OH.out.chg C5.out (fun _ _ h => h)
            obtain ⟨qg, qm, qA, qn, qc⟩ := q
            simp only at cp qh LQ
            clear hlk hq rq
            go_wp2_with fail
            refine (vHeight qh).mono ?_
            rintro e w6 ⟨rfl, rfl⟩
            go_upto_region 16 with (at_builtin; go_must (refine wp_app1 rfl _ _ 23 3 .i64 8 rfl Tryd.underlying23 infoI (by decide) (.slice A13 k c13) hs (qn : Int) rfl OH5.out rfl (by rw [HH.out]; omega) ?_); intro v7 w7 k1 k2 k3 k4; obtain ⟨A7, c7, rfl⟩ := appI_end k1 HH.out; have K1 := Lib.hid k1; have K3 := Lib.hid k3; have K4 := Lib.hid k4; clear k1 k2 k3 k4)
            have TY : Hid (∀ y, Value.ownBlock (.slice A13 k c13) = some y → ∃ e cur, Blk w6 y e cur ∧ e ≠ 116 ∧ e ≠ 122 ∧ e ≠ 138) := fun y hy => by
              obtain ⟨cur, hb⟩ := OwnV.typed OH5.out y hy
              exact ⟨_, cur, hb, by decide, by decide, by decide⟩
            have NB : Hid (∀ g e cur, Blk w6 g e cur → e ≠ 3 → Blk w7 g e cur) := fun g e cur hb he => hb.chg K3.out (fun e1 => by
              obtain ⟨cur', hb2⟩ := OwnV.typed OH5.out g e1
              exact hb2.type_ne hb he.symm rfl)
            have RL7 : Hid (RdL w7 gg (gg + 1) L fs k) := RL5.out.keepT K3.out TY.out
            have BG7 : Hid (Blk w7 (g1 + 1) 75 (fCells f' hv)) := NB.out _ _ _ (BG.out.chg C5.out (fun h => h)) (by decide)
            have SB7 : Hid (Blk w7 gg 42 [.int .i64 dx, .slice (some a1) nn cc]) := NB.out _ _ _ (SBr.out.chg C5.out (fun h => h)) (by decide)
            have BI7 : Hid (Blk w7 gi 47 [.int .i64 op, .int .i64 a, .int .i64 b]) := NB.out _ _ _ BI5.out (by decide)
            have C7 : Hid (Chg (fun y => y = g1 + 1) ws w7) := (HC.out.trans C5.out (fun _ _ h => h.elim)).trans K3.out (fun i hi e => by have := GH.out i e; have := HGG.out; omega)
            have RQ7 : Hid (RdSt w7 gg qg qm qA qn qc st k) := RL7.out.rd HLK.out HQ.out
            have qh7 : w7.drew.cell? ⟨qg, 0, none⟩ = some (.slice qA qn qc) := RQ7.out.box.at_ (i := 0) rfl
            have BG7d : Hid (Blk w7.drew (g1 + 1) 75 (fCells f' hv)) := BG7.out
            have FOK : Hid (FoundOk f') := FC.out.ok (by
              have e1 := HCL.out
              have e2 := HCM.out
              have e3 := L1.out
              omega)
            have NI : Hid (gi ≠ g1 + 1) := by have := HGI.out; have := BG.out.lt; rw [Hid]; omega
            have KI : Hid (∀ W, Chg (fun y => y = g1 + 1) w7 W → W.cell? ⟨gi, 0, none⟩ = some (.int .i64 op) ∧ W.cell? ⟨gi, 1, none⟩ = some (.int .i64 a) ∧ W.cell? ⟨gi, 2, none⟩ = some (.int .i64 b)) := fun W cW => ⟨(BI7.out.chg cW NI.out).at_ (i := 0) rfl, (BI7.out.chg cW NI.out).at_ (i := 1) rfl, (BI7.out.chg cW NI.out).at_ (i := 2) rfl⟩
            clear qh cp
            go_region_held3 (fun W => W.cell? ⟨gi, 0, none⟩ = some (.int .i64 op) ∧ W.cell? ⟨gi, 1, none⟩ = some (.int .i64 a) ∧ W.cell? ⟨gi, 2, none⟩ = some (.int .i64 b)) (first | exact KI.out _ ((Chg.refl _ _).drew.trans C8.out (fun _ _ h => h)) | exact KI.out _ (by repeat (first | exact Chg.refl _ _ | refine Chg.drew ?_ | refine Chg.drewN ?_ _ | refine Chg.alloc ?_ _))) (first | (go_at_call 75; with_reducible refine (vHeight (n := qn) qh7).mono ?_; rintro e w8 ⟨rfl, rfl⟩) | (go_at_call 76; with_reducible refine (vNote (w := w7.drew) (x := ⟨op, a, b⟩) (f := f') (h := (qn : Int)) BG7d VX2 FOK).mono ?_; rintro e w8 ⟨rfl, BG8, C8⟩))
            all_goals
              have C78 : Hid (Chg (fun y => y = g1 + 1) w7 w8) := (Chg.refl (fun y => y = g1 + 1) w7).drew.trans C8.out (fun _ _ h => h)
              have RL8 : Hid (RdL w8 gg (gg + 1) L fs k) := RL7.out.keepT C78.out (fun y e => ⟨75, fCells f' hv, by subst e; exact BG7.out, by decide, by decide, by decide⟩)
              have K8 : Hid (Own w8 3 .i64 (.slice A7 (k + 1) c7) (hs ++ [(qn : Int)])) := OwnV.chg K1.out C78.out (fun y hy e => by
                obtain ⟨cur, hb⟩ := OwnV.typed K1.out y hy
                exact hb.type_ne BG7.out (by decide) e)
              have SB8 : Hid (Blk w8 gg 42 [.int .i64 dx, .slice (some a1) nn cc]) := SB7.out.chg C78.out (fun e => SB7.out.type_ne BG7.out (by decide) e)
              have BI8 : Hid (Blk w8 gi 47 [.int .i64 op, .int .i64 a, .int .i64 b]) := BI7.out.chg C78.out NI.out
              have CS8 : Hid (Chg (fun y => y = g1 + 1) ws w8) := C7.out.trans C78.out (fun _ _ h => h)
              have CW8 : Hid (Chg (fun _ => False) w w8) := CK.out.trans CS8.out (fun i hi e => by have := HG1.out; omega)
              have SZ8 : Hid (gg ≤ w8.heap.size) := by rw [Hid, HGG.out]; exact CS8.out.size
              have RQ8 : Hid (RdSt w8 gg qg qm qA qn qc st k) := RL8.out.rd HLK.out HQ.out
              have hqn : qn ≤ 262144 := by have e1 := LQ.out; have e2 := LSK.out; omega
              have HLQ : Hid ((qn : Int) = (st.stk.length : Int)) := by rw [Hid, LQ.out]
              go_wp2_with fail
              refine (vTwin RQ8 (by omega) (by omega)).mono ?_
              rintro e w9 ⟨g9, m9, A9, c9, rfl, RT, CT⟩
              have BI9 := BI8.out.chg CT.out (fun h => h)
              have r0 := BI9.at_ (i := 0) rfl
              have r1 := BI9.at_ (i := 1) rfl
              have r2 := BI9.at_ (i := 2) rfl
              have sg0 := (SB8.out.chg CT.out (fun h => h)).at_ (i := 0) rfl
              have GB9 : Hid (Glob w9 w8.heap.size) := hG.out.later (CW8.out.trans CT.out (fun _ _ h => h)) CW8.out.size CT.out.size
              obtain ⟨ea, hea⟩ : ∃ z, z = applyE ⟨op, a, b⟩ dx st := ⟨_, rfl⟩
              have HEA := Lib.hid hea
              clear BI9 hea
              go_wp2_with fail
              refine (vApply RT GB9 VX2 (by omega) (by omega) HEA).mono ?_
              rintro e w10 ⟨rfl, CA, RA⟩
              have C810 : Hid (Chg (fun _ => False) w8 w10) := CT.out.trans CA.out (fun i hi h => absurd hi (by omega))
              have sg1 := (SB8.out.chg C810.out (fun h => h)).at_ (i := 1) rfl
              clear r0 r1 r2 sg0
              by_cases hea0 : ea = 0
              · subst hea0
                have L410 : Hid (RdG w10 (some a1) (insCells cx)) := L4.out.chg0 (CW8.out.trans C810.out (fun _ _ h => h))
                go_wp2_with fail
                refine (vPlaces (A := some a1) (l := cx) (x := ⟨op, a, b⟩) (k := k) L410 L1 HK1 VX2 hn3).mono ?_
                rintro e w11 ⟨A11, m11, c11, rfl, OT, CP⟩
                have C811 : Hid (Chg (fun _ => False) w8 w11) := C810.out.trans CP.out (fun _ _ h => h)
                obtain ⟨A', n', c', RB⟩ := RA.out (by first | rfl | trivial)
                have RB10 := Lib.hid RB
                clear RB RA sg1
                have RL11 : Hid (RdL w11 gg (gg + 1) L fs (k + 1)) := (RL8.out.chg C811.out (fun h => h) (fun _ _ _ h => h)).mono (Nat.le_succ _)
                have RB11 : Hid (RdSt w11 gg g9 m9 A' n' c' (applyS ⟨op, a, b⟩ st) (k + 1)) := (RB10.out.chg0 CP.out).mono SZ8.out (Nat.le_refl _)
                have HAP : Hid (∀ (i : Nat) (q' : MemS), fs[i]? = some (some q') → q'.m ≠ m9) := fun i q' hq' e => by
                  obtain ⟨s', _, r'⟩ := RL8.out.back hq'
                  have := r'.mp.lt
                  have := RB10.out.gem
                  omega
                have HM11 : Hid (m11 = (toOf ⟨op, a, b⟩ k).length) := by
                  obtain ⟨_, _, e, _, _⟩ := OwnV.slice OT.out
                  injection e with _ e _
                  rw [Hid, e, toInts_length]
                have hm2 : m11 ≤ 2 := by rw [HM11.out]; exact toOf_len _ _
                have HSL : Hid ((applyS ⟨op, a, b⟩ st).stk.length ≤ k + 1) := Nat.le_trans (applyS_len VX2.out.1) (Nat.succ_le_succ LSK.out)
                have hn' : n' ≤ 262145 := by have e1 := RB10.out.len; have e2 := HSL.out; omega
                obtain ⟨eh, heh⟩ : ∃ z, z = (handV L (applyS ⟨op, a, b⟩ st) (toOf ⟨op, a, b⟩ k)).1 := ⟨_, rfl⟩
                have HEH := Lib.hid heh
                have LN : Hid (nn = L.length) := LL.out.symm
                go_wp2_with fail
                refine (vHand RL11 RB11 HAP LN OT HM11 hm2 hn3 (by omega) (by omega) (Nat.le_trans SZ8.out C811.out.size)).mono ?_
                rintro e w12 ⟨rfl, RH12, CH⟩
                rw [← heh]
                clear heh
                have CS11 : Hid (Chg (fun y => y = g1 + 1) ws w11) := CS8.out.trans C811.out (fun _ _ h => h.elim)
                have CS12 : Hid (Chg (fun y => y = g1 + 1) ws w12) := CS11.out.trans CH.out (fun i hi hy => by
                  have e1 := ChgS.ge RL11.out (Nat.le_succ _) hy
                  have e2 := HGG.out
                  omega)
                by_cases heh0 : eh = 0
                · subst heh0
                  obtain ⟨fs', R12⟩ := RH12.out HEH.out.symm
                  have hlen : fs'.length = nn := by rw [← R12.len, handV_len, LL.out]
                  obtain ⟨y, hy⟩ : ∃ y, fs'[k]? = some y := ⟨_, List.getElem?_eq_getElem (by rw [hlen]; exact hkn)⟩
                  have cz := R12.cell hy
                  have fz : w12.frozen? ⟨gg + 1, k, none⟩ = false := R12.blk.frozen (by rw [List.length_map, hlen]; exact hkn)
                  obtain ⟨yv, hyv⟩ : ∃ v, v = ptrS y := ⟨_, rfl⟩
                  rw [← hyv] at cz
                  have RR12 := Lib.hid R12
                  have NG : Hid (g1 + 1 ≠ gg + 1) := by have := NF.out; have := HGG.out; rw [Hid]; omega
                  clear hyv hy hlen R12
                  go_wp2_with fail
                  go_roundw
                  case rel =>
                    have OT11 := OwnV.chg K8.out C811.out (fun _ _ h => h)
                    have OT12 : Own w12 3 .i64 (.slice A7 (k + 1) c7) (hs ++ [(qn : Int)]) := OwnV.chg OT11 CH.out (fun y hy e => by
                      obtain ⟨cur, hb⟩ := OwnV.typed OT11 y hy
                      exact RL11.out.other hb (by decide) e)
                    have BG11 := BG8.out.chg C811.out (fun h => h)
                    have BG12 := BG11.chg CH.out (RL11.out.other BG11 (by decide))
                    have SB11 := SB8.out.chg C811.out (fun h => h)
                    have SB12 := SB11.chg CH.out (RL11.out.other SB11 (by decide))
                    refine ⟨k + 1, (handV L (applyS ⟨op, a, b⟩ st) (toOf ⟨op, a, b⟩ k)).2.set k none, fs'.set k none, noteV f' ⟨op, a, b⟩ (qn : Int), hs ++ [(qn : Int)], A7, c7, rfl, rfl, rfl, rfl, by congr 1, by omega, RR12.out.set_none k, ?_, ?_, ?_, ?_, ?_, ?_, BG12.set_other NG.out _, ?_, SB12.set_other (by simp) _, ?_⟩
                    · rw [Hid, HLQ.out, ← segGo_ok HLK.out HEA.out.symm HEH.out.symm]
                      exact SGx.out
                    · exact ((LB.out.mono (Nat.le_succ _)).handV HSL.out _).set_none
                    · rw [Hid, List.length_set, handV_len]; exact LL.out
                    · exact OwnV.chg OT12 ((Chg.refl (fun y => y = gg + 1) w12).setg k _) (fun y hy e => by
                        obtain ⟨cur, hb⟩ := OwnV.typed OT12 y hy
                        exact hb.type_ne RR12.out.blk (by decide) e)
                    · rw [Hid, List.length_append, HH.out]; rfl
                    · exact fun y hy => K4.out.ge (fun i hi => GH.out i (by rw [← hi])) (by rw [HGG.out]; exact (HC.out.trans C5.out (fun _ _ h => h.elim)).size) y hy
                    · exact FC.out.note VX2.out (by omega) (by omega)
                    · exact CS12.out.setCell (p := ⟨gg + 1, k, none⟩) (fun h => absurd h (by rw [← HGG.out]; simp)) _
                  case measure => exact meas_lt HKN.out
                · have HSE : Hid (segOf ⟨dx, cx⟩ f = ⟨eh, k, noteV f' ⟨op, a, b⟩ st.stk.length, hs ++ [(st.stk.length : Int)]⟩) := by rw [← SGx.out, HEH.out]; exact segGo_hand HLK.out HEA.out.symm (by rw [← HEH.out]; exact heh0)
                  have HR : Hid (lookOf p = ⟨eh, n, k, noteV f' ⟨op, a, b⟩ st.stk.length, H⟩) := by rw [← HLx.out, Hid, lookGo_er (by rw [HSE.out]; exact heh0), HSE.out]
                  have hz1 : (eh == 0) = false := by simpa using heh0
                  have HZ0 := Lib.hid heh0
                  have CWZ : Hid (Chg (fun _ => False) w w12) := CK.out.trans CS12.out (fun i hi e => by have := HG1.out; omega)
                  clear heh0
                  go_wp2_with fail
                  (try rw [Exit.noGoto_ret]); (try simp only [Exit.inBlock, Exit.then])
                  refine bodyPost_ret (v := .tuple #[.pointer (some ⟨g1 + 1, 0, none⟩), .int .i64 n, .int .i64 k, .int .i64 eh]) (by simp [results, Tryd.results60, go_sem]) rfl ⟨g1 + 1, by rw [HR.out], CWZ.out, fun h => absurd ((congrArg LookR.er HR.out).symm.trans h) HZ0.out⟩
              · have HSE : Hid (segOf ⟨dx, cx⟩ f = ⟨ea, k, noteV f' ⟨op, a, b⟩ st.stk.length, hs ++ [(st.stk.length : Int)]⟩) := by rw [← SGx.out, HEA.out]; exact segGo_app HLK.out (by rw [← HEA.out]; exact hea0)
                have HR : Hid (lookOf p = ⟨ea, n, k, noteV f' ⟨op, a, b⟩ st.stk.length, H⟩) := by rw [← HLx.out, Hid, lookGo_er (by rw [HSE.out]; exact hea0), HSE.out]
                have hz1 : (ea == 0) = false := by simpa using hea0
                have HZ0 := Lib.hid hea0
                clear hea0 sg1
                go_wp2_with fail
                (try rw [Exit.noGoto_ret]); (try simp only [Exit.inBlock, Exit.then])
                refine bodyPost_ret (v := .tuple #[.pointer (some ⟨g1 + 1, 0, none⟩), .int .i64 n, .int .i64 k, .int .i64 ea]) (by simp [results, Tryd.results60, go_sem]) rfl ⟨g1 + 1, by rw [HR.out], CW8.out.trans C810.out (fun _ _ h => h), fun h => absurd ((congrArg LookR.er HR.out).symm.trans h) HZ0.out⟩
        · obtain rfl : k = nn := by omega
          have HSE : Hid (segOf ⟨dx, cx⟩ f = ⟨0, 0, f', hs⟩) := by
            rw [← SG.out, List.drop_eq_nil_of_le (by rw [← L1.out]; exact Nat.le_refl _)]
            rfl
          have HL2 : Hid (lookGo (p.days.drop (n + 1)) (n + 1) f' (H ++ [hs]) = lookOf p) := by
            rw [← HLx.out, Hid, lookGo_ok (by rw [HSE.out]), HSE.out]
          have RHr : Hid (RdH wr g1 hv H vs) := RH.out.chg HC.out (fun y e cur hb he e1 => by
            subst e1
            rcases he with rfl | rfl
            · exact hb.type_ne BFr.out (by decide) rfl
            · exact hb.type_ne BFr.out (by decide) rfl)
          obtain ⟨Ah, ch, rfl, _, _⟩ := RHr.out.own.slice
          rw [HLen.out] at BFr RH BG RHr
          have i1 : ¬ ((k : Int) < (k : Int)) := by omega
          have HO2 : Hid (OwnV wr 23 1 (.slice Ah n ch) n vs) := by
            have := RHr.out.own
            rw [HLen.out] at this
            exact this
          have q3 := BG.out.at_ (i := 3) rfl
          have q3a := (BG.out.alloc (.cells #[.slice A13 k c13] 23)).at_ (i := 3) rfl
          have SZW : Hid (g1 ≤ wr.heap.size) := by rw [HG1.out]; exact CW.out.size
          go_wp2_with (at_builtin; go_must (refine wp_appG rfl _ _ 73 23 (.slice none 0 0) 1 24 rfl Tryd.underlying73 infoIntS rfl (by decide) (by decide) (.slice Ah n ch) n vs [.slice A13 k c13] rfl (by simp [Value.oneCell']) rfl HO2.out rfl (by omega) ?_); intro v5' w5 k1 k2 k3; obtain ⟨A5, c5, rfl, _, _⟩ := k1.slice; have K1 := Lib.hid k1; have K2 := Lib.hid k2; have K3 := Lib.hid k3; have BG5 : Hid (Blk w5 (g1 + 1) 75 (fCells f' (.slice Ah n ch))) := BG.out.chg k2 (fun e => HO2.out.type_ne BG.out (by decide) e); have q5 := BG5.out.at_ (i := 3) rfl; have q6 := BG5.out.frozen (i := 3) (by simp [fCells]); clear k1 k2 k3)
          go_roundw
          case rel =>
            have CS : Chg (fun y => y = g1 + 1) w5 (w5.setCell ⟨g1 + 1, 3, none⟩ (.slice A5 (n + 1) c5)) := (Chg.refl (fun y => y = g1 + 1) w5).setg 3 _
            have BG6 : Blk (w5.setCell ⟨g1 + 1, 3, none⟩ (.slice A5 (n + 1) c5)) (g1 + 1) 75 (fCells f' (.slice A5 (n + 1) c5)) := BG5.out.set 3 _
            have RH6 : RdH (w5.setCell ⟨g1 + 1, 3, none⟩ (.slice A5 (n + 1) c5)) g1 (.slice A5 (n + 1) c5) (H ++ [hs]) (vs ++ [.slice A13 k c13]) := RHr.out.snoc (by rw [HLen.out]; exact K1.out) K2.out K3.out SZW.out OH.out BG5.out CS
            refine ⟨n + 1, f', H ++ [hs], .slice A5 (n + 1) c5, vs ++ [.slice A13 k c13], rfl, rfl, rfl, by congr 1, by omega, HL2, BG6, Lib.hid RH6, ?_, ?_, ?_⟩
            · rw [HCL.out]
              refine FC.out.mono ?_
              rw [L1.out]
              exact Nat.le_refl _
            · rw [Hid, List.length_append, HLen.out]
              rfl
            · exact ((CW.out.trans K2.out (fun i hi e => by have e1 := RHr.out.geo i e; have := HG1.out; omega)).trans CS (fun i hi e => by have := HG1.out; omega))
          case measure => exact meas_lt hlt
    · obtain rfl : n = n4 := by omega
      have HR : Hid (lookOf p = ⟨0, 0, 0, f, H⟩) := by
        rw [← HL.out, List.drop_eq_nil_of_le (by rw [← LD.out]; exact Nat.le_refl _)]
        rfl
      have i1 : ¬ ((n : Int) < (n : Int)) := by omega
      go_wp2_with fail
      refine bodyPost_ret (v := .tuple #[.pointer (some ⟨g1 + 1, 0, none⟩), .int .i64 0, .int .i64 0, .int .i64 0]) (by simp [results, Tryd.results60, go_sem]) rfl ⟨g1 + 1, by rw [HR.out]; rfl, CK.out, fun _ => ⟨hv, vs, by rw [HR.out]; exact BFr.out, by rw [HR.out, ← HG1.out]; exact RH.out, by have := HG1.out; omega⟩⟩
end Go.Proofs.YtkadamoofiddeaaDoor.Kit
