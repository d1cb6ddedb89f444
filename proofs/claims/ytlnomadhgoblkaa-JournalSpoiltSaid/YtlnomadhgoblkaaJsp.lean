/- The walk of JournalSpoilt. -/
import Derived.Test.YtlnomadhgoblkaaProg
import Derived.Test.YtlnomadhgoblkaaJk
import Derived.Test.YtlnomadhgoblkaaKitW
import Derived.Deep.CutBlock
set_option linter.unusedVariables false
set_option linter.unusedSimpArgs false
namespace Go.Proofs.Ytlnomadhgoblkaa.Kit
open Go.RowKit
set_option maxRecDepth 20000 in
set_option maxHeartbeats 6400000 in
theorem journalSpoiltWalk (w : World) (A : Option Addr) (c : Nat) (l : List SecV) (hr : Hid (RdSecs w A l)) (hl : l.length ≤ 4398046511104) (hsz : Hid (∀ x ∈ l, x.body.length ≤ 140737488351232)) (q : Int) (q0 : -9223372036854775808 ≤ q) (q1 : q ≤ 9223372036854775807)
    (B : Option Addr) (cb : Nat) (ot : List Int) (hrb : Hid (Rd w .u8 B ot)) (hlb : ot.length ≤ 140737488351232) (hbb : Byt ot) (hcb : ot.length ≤ cb) :
    Calls Try.prog 11 #[.slice A l.length c, .int .i64 q, .slice B ot.length cb] w fun e w' => e = .returned (.bool true) ∧ Below w.heap.size w w' := by
  obtain ⟨n, hn⟩ : ∃ n : Nat, n = l.length := ⟨_, rfl⟩
  obtain ⟨no, hno⟩ : ∃ n : Nat, n = ot.length := ⟨_, rfl⟩
  have HN := Lib.hid hn
  have HNO := Lib.hid hno
  have HBB := Lib.hid hbb
  rw [← hn, ← hno]
  rw [← hn] at hl
  rw [← hno] at hlb hcb
  clear hn hno hbb
  go_enter Try.func11, Try.ntmps11
  go_wp2_with fail
  refine (filledC HN hl hr hsz).mono ?_
  rintro e w1 ⟨gj, D, A1, n1, c1, ls, rfl, f1, m2, m3, m4⟩
  have F1 := Lib.hid f1
  have C1 := Lib.hid m4
  have hn1 : n1 ≤ 33554432 := f1.nb
  have hgl : Hid (∀ x ∈ ls, GoodRec x) := f1.good
  have hsm : Hid ((jnlBytes ls).length ≤ 268435456) := f1.small
  have hln : Hid (n1 = ls.length) := f1.len
  clear f1 m2 m3 m4
  go_wp2_with fail
  refine (jbytesC hsm (Lib.hid F1.out.jn)).mono ?_
  rintro e w3 ⟨A3, n3, c3, rfl, m3, hn3, hc3⟩
  have F3 := Lib.hid (F1.out.old m3.chg)
  have C3 : Hid (Chg (fun _ => False) w w3) := C1.out.trans m3.chg (fun _ _ h => h)
  have R3 : Hid (Rd w3 .u8 A3 (jnlBytes ls)) := m3.rd
  have L3 : Hid (n3 = (jnlBytes ls).length) := m3.len
  have hnc3 := m3.cap
  clear m3
  go_wp2_with fail
  refine (jendsCall D gj ls n1 _ F3.out.len (by omega) (Lib.hid F3.out.jn)).mono ?_
  rintro e w4 ⟨A4, c4, rfl, e1, e2, e3⟩
  have F4 := Lib.hid (F3.out.old e2)
  have C4 : Hid (Chg (fun _ => False) w w4) := C3.out.trans e2 (fun _ _ h => h)
  have R4 : Hid (Rd w4 .u8 A3 (jnlBytes ls)) := R3.out.below e2.done
  have E4 := Lib.hid e1
  clear e1 e2 e3
  by_cases hq0 : q < 8
  · go_wp2_with fail
    go_ret
    exact ⟨rfl, C4.out.done⟩
  · by_cases hq1 : (n3 : Int) < q
    · go_wp2_with fail
      go_ret
      exact ⟨rfl, C4.out.done⟩
    · obtain ⟨p, rfl⟩ : ∃ p : Nat, q = (p : Int) := ⟨q.toNat, by omega⟩
      have hp3 : p ≤ n3 := by omega
      have HP3 := Lib.hid hp3
      have hpc3 : p ≤ c3 := by omega
      obtain ⟨ad, had⟩ : ∃ ad, ∀ k, k < n1 → A4 = some ad ∧ w4.cell? (ad.add k) = some (.int .i64 ((jnlBytes (ls.take (k + 1))).length : Int)) := by
        rcases Nat.eq_zero_or_pos n1 with h0 | h0
        · exact ⟨⟨0, 0, none⟩, fun k hk => by omega⟩
        · obtain ⟨ad, ha, _⟩ := ends_cell E4.out 0 (by rw [← hln.out]; exact h0)
          refine ⟨ad, fun k hk => ⟨ha, ?_⟩⟩
          obtain ⟨ad', ha', hc⟩ := ends_cell E4.out k (by rw [← hln.out]; exact hk)
          rw [ha] at ha'
          injection ha' with ha'
          subst ha'
          exact hc
      have HAD := Lib.hid had
      clear had
      go_upto_block 0 with fail
      go_cut [11] from 19 to 51 (fun s wx => ∃ k : Nat, s = .int .i64 k ∧ k ≤ n1 ∧ wx = w4 ∧ Hid ((k = 0 ∨ (jnlBytes (ls.take k)).length ≤ p)))
      case first =>
        go_wp2_with fail
        go_loop [11] (fun i => ∃ k : Nat, k ≤ n1 ∧ i = .int .i64 k ∧ Hid (k = 0 ∨ (jnlBytes (ls.take k)).length ≤ p)) (fun i => n1 - (intOf i).toNat)
        case atStart => exact ⟨0, Nat.zero_le _, rfl, .inl rfl⟩
        case round =>
          obtain ⟨k, hk, rfl, hkp⟩ := hrel
          by_cases hlt : k < n1
          · obtain ⟨ha, hce⟩ := HAD.out k hlt
            obtain ⟨en0, hen⟩ : ∃ en0, en0 = (jnlBytes (ls.take (k + 1))).length := ⟨_, rfl⟩
            rw [← hen] at hce
            have HEN := Lib.hid hen
            have q2 : (0 : Int) ≤ (k : Int) := by omega
            have q3 : (k : Int) < (n1 : Int) := by omega
            clear hen
            subst ha
            by_cases hle : en0 ≤ p
            · have hle2 : (en0 : Int) ≤ (p : Int) := by omega
              have HLE := Lib.hid hle
              clear hle
              go_wp2_with fail
              go_round
              case rel => exact ⟨k + 1, by omega, by go_num, by rw [Hid, ← HEN.out]; exact .inr HLE.out⟩
              case measure => simp [intOf]; omega
            · have hle2 : ¬ (en0 : Int) ≤ (p : Int) := by omega
              clear hle
              go_wp2_with fail
              go_meet
              case rel => exact ⟨k, rfl, hk, rfl, hkp⟩
          · obtain rfl : k = n1 := by omega
            go_wp2_with fail
            go_meet
            case rel => exact ⟨k, rfl, hk, rfl, hkp⟩
      case rest =>
        obtain ⟨k, rfl, hk, rfl, hkp⟩ := hcut
        have HK := Lib.hid hk
        obtain ⟨Y, hY⟩ : ∃ Y, Y = (jnlBytes ls).take p := ⟨_, rfl⟩
        have hYl : p = Y.length := by rw [hY, List.length_take, ← L3.out]; omega
        have RY : Hid (Rd wc .u8 A3 Y) := by rw [hY]; exact R4.out.take _
        have HYL := Lib.hid hYl
        have HY := Lib.hid hY
        have RYa : Hid (Rd (wc.alloc (.cells #[] 5)) .u8 A3 Y) := RY.out.below (((Chg.refl (fun _ => False) wc).alloc _).done)
        have hno2 : no + p ≤ 140737756786688 := by omega
        clear hYl hY
        go_upto_region 11 with fail
        go_upto_region 12 with (first | (at_builtin; (refine wp_appn rfl (.tmp 52) (.tmp 55) 29 5 .u8 1 rfl Try.underlying29 infoU8 (by decide) (.slice (some ⟨wc.heap.size, 0, none⟩) 0 0) [] rfl (Own.lit wc 5 .u8 [] (by simp)) A3 c3 Y p rfl HYL.out RYa.out (by rw [← HYL.out]; simp; omega) ?_); intro v5 w5 k1 k2 k3 k4; rw [List.nil_append] at k1; obtain ⟨A5, c5, hv5, _, _⟩ := k1.slice; rw [← HYL.out] at hv5; subst hv5; have O5 := Lib.hid k1; have C5 : Hid (Chg (fun _ => False) wc w5) := ((Chg.refl (fun _ => False) wc).alloc _).fresh k3 (blk_ge (Nat.le_refl _)); have N5 : Hid (∀ y, Value.ownBlock (.slice A5 p c5) = some y → wc.heap.size ≤ y) := k4.ge (blk_ge (Nat.le_refl _)) (by simp); clear k1 k2 k3 k4; have R5 : Hid (Rd w5 .u8 B ot) := hrb.out.below (C4.out.trans C5.out (fun _ _ h => h)).done) | (at_builtin; (refine wp_appnW rfl (.tmp 56) (.tmp 57) 29 5 .u8 1 rfl Try.underlying29 infoU8 (by decide) (.slice A5 p c5) Y rfl O5.out B cb ot no rfl HNO.out R5.out (by rw [← HYL.out, ← HNO.out]; omega) ?_); intro v6 w6 k1 k2 k3 k4; obtain ⟨A6, c6, hv6, hc6, hm6⟩ := k1.slice; obtain ⟨X, hX⟩ : ∃ X, X = Y ++ ot := ⟨_, rfl⟩; rw [← hX] at k1 hv6 hc6; obtain ⟨nx, hnx⟩ : ∃ nx, nx = X.length := ⟨_, rfl⟩; rw [← hnx] at hv6 hc6; subst hv6; have HX := Lib.hid hX; have HNX := Lib.hid hnx; clear hX hnx; have O6 := Lib.hid k1; have C6 : Hid (Chg (fun _ => False) wc w6) := C5.out.fresh k3 N5.out; clear k1 k2 k3 k4))
        have C6w : Hid (Chg (fun _ => False) w w6) := C4.out.trans C6.out (fun _ _ h => h)
        by_cases hbig : (268435456 : Int) < (nx : Int)
        · go_wp2_with fail
          go_ret
          exact ⟨rfl, C6w.out.done⟩
        · have hkp2 : (jnlBytes (ls.take k)).length ≤ p := by
            rcases hkp.out with h | h
            · rw [h]
              show 8 ≤ p
              omega
            · exact h
          obtain ⟨suf, m, hR, hg2, hm, hm8, hB⟩ := open_spoilt (at_ := p) (other := ot) (X := X) hgl.out HBB.out (by rw [HX.out, HY.out]) (by rw [← HNX.out]; omega) (by rw [← hln.out]; exact hk) hkp2
          obtain ⟨ms, hms⟩ : ∃ ms, ms = ls.take k ++ suf := ⟨_, rfl⟩
          rw [← hms] at hR hg2 hB
          have hbX : Hid (Byt X) := by rw [Hid, HX.out, HY.out]; exact byt_mk (byt_take (jnlBytes_byt hgl.out) _) HBB.out
          have hlk : (ls.take k).length = k := by rw [List.length_take, ← hln.out]; omega
          obtain ⟨nm, hnm⟩ : ∃ nm, nm = ms.length := ⟨_, rfl⟩
          have hknm : k ≤ nm := by rw [hnm, hms, List.length_append, hlk]; omega
          have hget : Hid (∀ i, i < k → ms[i]? = ls[i]?) := fun i hi => by
            rw [hms, List.getElem?_append_left (by omega), List.getElem?_take, if_pos hi]
          rw [← HNX.out] at hm
          have hjm : Hid ((jnlBytes ms).length ≤ 268435456) := by
            rw [Hid, hB, List.length_take, ← HNX.out]
            omega
          have hnmb : nm ≤ 33554432 := by
            have := jnlBytes_len ms
            have := hjm.out
            omega
          have HR := Lib.hid hR
          have HG2 := Lib.hid hg2
          have HB := Lib.hid hB
          have HNM := Lib.hid hnm
          have F6 := Lib.hid (F4.out.old C6.out)
          clear hR hg2 hB hnm hms hlk hkp2
          go_wp2_with fail
          refine (jopenIs HR HNX hc6 hm6 hbX (Lib.hid (O6.out.rd (by rw [HNX.out])))).mono ?_
          rintro e w7 ⟨gq, Dk, rfl, j7, m7, _, _⟩
          have J7 := Lib.hid j7
          have F7 := Lib.hid (F6.out.old m7)
          have C7 : Hid (Chg (fun _ => False) w w7) := C6w.out.trans m7 (fun _ _ h => h)
          have O7 := Lib.hid (O6.out.chg m7 (fun _ _ h => h))
          clear j7 m7
          have b1 : ¬ (m : Int) > (nx : Int) := by omega
          have b2 : ¬ (nm : Int) < (k : Int) := by omega
          have b3 : ¬ (k : Int) > (n1 : Int) := by omega
          have b4 : ¬ nx < m := by omega
          have b5 : ¬ nm < k := by omega
          have b6 : ¬ n1 < k := by omega
          go_wp2_with fail
          refine (jcount Dk gq ms nm _ HNM J7).mono ?_
          rintro e w8 ⟨rfl, rfl⟩
          go_wp2_with fail
          go_loopg [16] k (fun g i wr => ∃ j : Nat, j + g = k ∧ i = .int .i64 j ∧ Hid (Chg (fun _ => False) w7 wr))
          case atStart => exact ⟨0, Nat.zero_add _, rfl, Chg.refl _ _⟩
          case round =>
            obtain ⟨j, hjk0, rfl, hc⟩ := hrel
            have hjk : j ≤ k := by omega
            have HJK := Lib.hid hjk0
            clear hjk0
            by_cases hlt : j < k
            · have hjl : j < ls.length := by rw [← hln.out]; omega
              obtain ⟨x, hx⟩ : ∃ x, x = ls[j] := ⟨_, rfl⟩
              have HXX : Hid (ms[j]? = some x) := by rw [Hid, hget.out j hlt, hx, List.getElem?_eq_getElem]
              have hxl : x.body.length ≤ 4194304 := (hgl.out x (by rw [hx]; exact List.getElem_mem _)).2.2.1
              go_wp2_with fail
              refine (jrecordOk Dk gq ms nm j x _ HNM (by omega) (by omega) HXX hxl (Lib.hid (J7.out.chg0 hc.out))).mono ?_
              rintro e w9 ⟨A9, m9, c9, rfl, k1, k2, k3, k4⟩
              obtain ⟨wx, hwx⟩ : ∃ wx, wx = w9.alloc (.cells #[.int .i64 x.id, .slice A9 m9 c9] 31) := ⟨_, rfl⟩
              obtain ⟨h, hh⟩ : ∃ h, h = w9.heap.size := ⟨_, rfl⟩
              have CX : Hid (Chg (fun _ => False) w9 wx) := by rw [hwx]; exact (Chg.refl _ w9).alloc _
              have KX : Hid (Chg (fun _ => False) w7 wx) := (hc.out.trans k3 (fun _ _ h => h)).trans CX.out (fun _ _ h => h)
              have BX : Hid (Blk wx h 31 [.int .i64 x.id, .slice A9 m9 c9]) := by rw [hwx, hh]; exact Blk.new _ _ _
              have s0 := BX.out.at_ (i := 0) rfl
              have s1 := BX.out.at_ (i := 1) rfl
              obtain ⟨ad1, e1, hs⟩ := (F7.out.old KX.out).rd j hjl
              subst e1
              rw [← hx] at hs
              have t0 := hs.id
              obtain ⟨AA, ca, t1, hca, hcam, ra⟩ := hs.body
              rw [← k2] at t1 hca
              have HM9 := Lib.hid k2
              have R2 : Hid (∀ q, Rd (wx.drewN q) .u8 A9 x.body) := fun q => (k1.rd (by rw [k2])).below (CX.out.drewN q).done
              have RA : Hid (∀ q, Rd (wx.drewN q) .u8 AA x.body) := fun q => ra.below ((Chg.refl (fun _ => False) wx).drewN q).done
              have hxb : Hid (x.body.length ≤ 140737488355328) := by rw [Hid]; omega
              have g0 : (0 : Int) ≤ (j : Int) := by omega
              have g1 : (j : Int) < (n1 : Int) := by omega
              clear k1 k2 k3 k4 hs ra hx
              go_wp2_with fail
              rw [← hwx, ← hh]
              clear hwx hh
              go_quiet ((go_at_call 24; exact Calls.quiet_of (sameBytes' (b := true) HM9 HM9 hxb (show Hid (Rd (wx.drewN _) _ _ _) from R2.out _) (show Hid (Rd (wx.drewN _) _ _ _) from RA.out _) (by rw [Hid]; simp))))
              go_wp2_with fail
              go_roundg (k - (j + 1))
              case measure =>
                have := HJK.out
                omega
              case rel => exact ⟨j + 1, by omega, by go_num, KX.out.drewN _⟩
            · obtain rfl : j = k := by omega
              have J9 := Lib.hid (J7.out.chg0 hc.out)
              have O9 := Lib.hid (O7.out.chg hc.out (fun _ _ h => h))
              have C9 : Hid (Chg (fun _ => False) w wr) := C7.out.trans hc.out (fun _ _ h => h)
              have hmc6 : m ≤ c6 := by omega
              have hm0 : (0 : Int) ≤ (m : Int) := by omega
              have hmi : (m : Int) ≤ (c6 : Int) := by omega
              have LB : Hid (m = (X.take m).length) := by rw [Hid, List.length_take, ← HNX.out]; omega
              have LB2 : Hid ((jnlBytes ms).length ≤ 140737488355328) := by have := hjm.out; rw [Hid]; omega
              have h8i : ¬ (m : Int) < 8 := by omega
              have RX9 : Hid (Rd wr .u8 A6 (X.take m)) := (O9.out.rd (by rw [HNX.out])).take m
              have HEQ : Hid (decide (jnlBytes ms = X.take m) = true) := by rw [Hid, HB.out]; simp
              go_wp2_with fail
              first | (go_region_with (first | (go_at_call 20; (with_reducible refine (jbytesC hjm (Lib.hid (J9.out.chg0 (by repeat (first | exact Chg.refl _ _ | refine Chg.drew ?_ | refine Chg.drewN ?_ _))))).mono ?_); rintro e w10 ⟨A10, n10, c10, rfl, m10, hn10, hc10⟩; have C10 : Hid (Chg (fun _ => False) wr w10) := (show Chg (fun _ => False) wr _ from by repeat (first | exact Chg.refl _ _ | refine Chg.drew ?_ | refine Chg.drewN ?_ _)).trans m10.chg (fun _ _ h => h); have R10 : Hid (Rd w10 .u8 A10 (jnlBytes ms)) := m10.rd; have L10 : Hid (n10 = (jnlBytes ms).length) := m10.len; have RB : Hid (∀ W, Chg (fun _ => False) w10 W → Rd W .u8 A10 (jnlBytes ms)) := (fun W hW => R10.out.below hW.done); have RX : Hid (∀ W, Chg (fun _ => False) w10 W → Rd W .u8 A6 (X.take m)) := (fun W hW => RX9.out.below (C10.out.trans hW (fun _ _ h => h)).done); clear m10) | (go_at_call 24; (with_reducible refine (sameBytes' (b := true) L10 LB LB2 (Lib.hid (RB.out _ (by repeat (first | exact Chg.refl _ _ | refine Chg.drew ?_ | refine Chg.drewN ?_ _)))) (Lib.hid (RX.out _ (by repeat (first | exact Chg.refl _ _ | refine Chg.drew ?_ | refine Chg.drewN ?_ _)))) HEQ).mono ?_); rintro e w11 ⟨rfl, qn, rfl⟩))) | fail
              all_goals
                go_wp2_with fail
                go_ret
                exact ⟨rfl, ((C9.out.trans C10.out (fun _ _ h => h)).drewN _).done⟩
end Go.Proofs.Ytlnomadhgoblkaa.Kit
