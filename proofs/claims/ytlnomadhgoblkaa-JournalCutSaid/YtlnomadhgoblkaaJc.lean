/- The walk of JournalCut. -/
import Derived.Test.YtlnomadhgoblkaaProg
import Derived.Test.YtlnomadhgoblkaaJk
set_option linter.unusedVariables false
set_option linter.unusedSimpArgs false
namespace Go.Proofs.Ytlnomadhgoblkaa.Kit
open Go.RowKit
set_option maxRecDepth 20000 in
set_option maxHeartbeats 6400000 in
theorem journalCutWalk (w : World) (A : Option Addr) (c : Nat) (l : List SecV) (hr : Hid (RdSecs w A l)) (hl : l.length ≤ 4398046511104) (hsz : Hid (∀ x ∈ l, x.body.length ≤ 140737488351232)) (q : Int) (q0 : -9223372036854775808 ≤ q) (q1 : q ≤ 9223372036854775807) :
    Calls Try.prog 10 #[.slice A l.length c, .int .i64 q] w fun e w' => e = .returned (.bool true) ∧ Below w.heap.size w w' := by
  obtain ⟨n, hn⟩ : ∃ n : Nat, n = l.length := ⟨_, rfl⟩
  have HN := Lib.hid hn
  rw [← hn]
  rw [← hn] at hl
  clear hn
  go_enter Try.func10, Try.ntmps10
  go_wp2_with fail
  refine (filledC HN hl hr hsz).mono ?_
  rintro e w1 ⟨gj, D, A1, n1, c1, ls, rfl, f1, m2, m3, m4⟩
  have F1 := Lib.hid f1
  have C1 := Lib.hid m4
  have hn1 : n1 ≤ 33554432 := f1.nb
  clear f1 m2 m3 m4
  go_wp2_with fail
  refine (holdsC F1 (Nat.le_refl _) (Lib.hid F1.out.jn) (by rw [Hid, F1.out.len, List.take_length])).mono ?_
  rintro e w2 ⟨rfl, k2⟩
  have F2 := Lib.hid (F1.out.old k2)
  have C2 : Hid (Chg (fun _ => False) w w2) := C1.out.trans k2 (fun _ _ h => h)
  clear k2
  go_wp2_with fail
  refine (jbytesC F2.out.small (Lib.hid F2.out.jn)).mono ?_
  rintro e w3 ⟨A3, n3, c3, rfl, m3, hn3, hc3⟩
  have F3 := Lib.hid (F2.out.old m3.chg)
  have C3 : Hid (Chg (fun _ => False) w w3) := C2.out.trans m3.chg (fun _ _ h => h)
  have R3 : Hid (Rd w3 .u8 A3 (jnlBytes ls)) := m3.rd
  have L3 : Hid (n3 = (jnlBytes ls).length) := m3.len
  have hnc3 := m3.cap
  clear m3
  go_wp2_with fail
  refine (jendsCall D gj ls n1 _ F3.out.len (by omega) (Lib.hid F3.out.jn)).mono ?_
  rintro e w4 ⟨A4, c4, rfl, e1, e2, e3⟩
  have F4 := Lib.hid (F3.out.old e2)
  have C4 : Hid (Chg (fun _ => False) w w4) := C3.out.trans e2 (fun _ _ h => h)
  have R4 : Hid (Rd w4 .u8 A3 (jnlBytes ls)) := R3.out.below e2.done
  have E4 := Lib.hid e1
  have hc4 : n1 ≤ c4 := by
    obtain ⟨_, _, hv, h, _⟩ := e1.slice
    injection hv with _ h1 h2
    rw [jends_length, ← F3.out.len] at h
    omega
  clear e1 e2 e3
  go_upto_region 6 with fail
  go_cut [63] (fun s wx => s = .bool false ∧ wx = w4)
  case first =>
    rcases Nat.eq_zero_or_pos n1 with h0 | h0
    · have hls : ls = [] := List.eq_nil_of_length_eq_zero (by rw [← F4.out.len]; exact h0)
      have h8 : n3 = 8 := by
        rw [L3.out, hls]
        rfl
      clear hls
      subst h0
      subst h8
      go_wp2_with fail
      go_meet
      case rel => exact ⟨rfl, rfl⟩
    · obtain ⟨p, hp⟩ : ∃ p, n1 = p + 1 := ⟨n1 - 1, by omega⟩
      obtain ⟨ad, ha, hc⟩ := ends_cell E4.out p (by rw [← F4.out.len]; omega)
      rw [← hp, List.take_of_length_le (by rw [F4.out.len]; exact Nat.le_refl _), ← L3.out] at hc
      subst ha
      have g0 : (0 : Int) < (n1 : Int) := by omega
      have g1 : (n1 : Int) - 1 = (p : Int) := by omega
      have g2 : (p : Int) < (n1 : Int) := by omega
      have g3 : (0 : Int) ≤ (p : Int) := by omega
      clear h0 hp
      go_wp2_with fail
      go_meet
      case rel => exact ⟨rfl, rfl⟩
  case rest =>
    obtain ⟨rfl, rfl⟩ := hcut
    have hgl : Hid (∀ x ∈ ls, GoodRec x) := F4.out.good
    have hsm : Hid ((jnlBytes ls).length ≤ 268435456) := F4.out.small
    have hbB : Hid (Byt (jnlBytes ls)) := jnlBytes_byt hgl.out
    go_wp2_with fail
    refine (jopenIs (show Hid (jopenRes (jnlBytes ls) = (some ls, n3, 0)) by rw [Hid, open_whole hgl.out hsm.out, L3.out]) L3 hnc3 hc3 hbB R4).mono ?_
    rintro e w5 ⟨gk, Dk, rfl, j5, m5, m6, m7⟩
    have J5 := Lib.hid j5
    have F5 := Lib.hid (F4.out.old m5)
    have C5 : Hid (Chg (fun _ => False) w w5) := C4.out.trans m5 (fun _ _ h => h)
    have R5 : Hid (Rd w5 .u8 A3 (jnlBytes ls)) := R4.out.below m5.done
    have E5 := Lib.hid (E4.out.chg m5 (fun _ _ h => h))
    clear j5 m5 m6 m7
    go_wp2_with fail
    refine (holdsC F5 (Nat.le_refl _) J5 (by rw [Hid, F5.out.len, List.take_length])).mono ?_
    rintro e w6 ⟨rfl, k2⟩
    have J6 := Lib.hid (J5.out.chg0 k2)
    have F6 := Lib.hid (F5.out.old k2)
    have C6 : Hid (Chg (fun _ => False) w w6) := C5.out.trans k2 (fun _ _ h => h)
    have R6 : Hid (Rd w6 .u8 A3 (jnlBytes ls)) := R5.out.below k2.done
    have E6 := Lib.hid (E5.out.chg k2 (fun _ _ h => h))
    clear k2
    go_wp2_with fail
    refine (jbytesC hsm J6).mono ?_
    rintro e w7 ⟨A7, n7, c7, rfl, m3, hn7, hc7⟩
    have F7 := Lib.hid (F6.out.old m3.chg)
    have C7 : Hid (Chg (fun _ => False) w w7) := C6.out.trans m3.chg (fun _ _ h => h)
    have R7 : Hid (Rd w7 .u8 A3 (jnlBytes ls)) := R6.out.below m3.chg.done
    have E7 := Lib.hid (E6.out.chg m3.chg (fun _ _ h => h))
    have S7 : Hid (Rd w7 .u8 A7 (jnlBytes ls)) := m3.rd
    have L7 : Hid (n7 = (jnlBytes ls).length) := m3.len
    clear m3
    go_wp2_with fail
    refine (sameBytes' (b := true) L7 L3 (by have := hsm.out; rw [Hid]; omega) S7 R7 (by rw [Hid]; simp)).mono ?_
    rintro e wq ⟨rfl, qa, rfl⟩
    have F8 := Lib.hid (F7.out.old ((Chg.refl (fun _ => False) w7).drewN qa))
    have C8 : Hid (Chg (fun _ => False) w (w7.drewN qa)) := C7.out.drewN qa
    have R8 : Hid (Rd (w7.drewN qa) .u8 A3 (jnlBytes ls)) := R7
    have E8 : Hid (Own (w7.drewN qa) 3 .i64 (.slice A4 n1 c4) (jends ls)) := Lib.hid (E7.out.chg ((Chg.refl (fun _ => False) w7).drewN qa) (fun _ _ h => h))
    clear R7 E7 F7 C7
    obtain ⟨w8, hw8⟩ : ∃ w8, w8 = w7.drewN qa := ⟨_, rfl⟩
    rw [← hw8] at F8 C8 R8 E8 ⊢
    clear hw8
    by_cases hq0 : q < 0
    · go_wp2_with fail
      go_ret
      exact ⟨rfl, C8.out.done⟩
    · by_cases hq1 : (n3 : Int) < q
      · go_wp2_with fail
        go_ret
        exact ⟨rfl, C8.out.done⟩
      · obtain ⟨p, rfl⟩ : ∃ p : Nat, q = (p : Int) := ⟨q.toNat, by omega⟩
        have hp3 : p ≤ n3 := by omega
        have HP3 := Lib.hid hp3
        go_wp2_with fail
        have hpc3 : p ≤ c3 := by omega
        obtain ⟨ad, had⟩ : ∃ ad, ∀ k, k < n1 → A4 = some ad ∧ w8.cell? (ad.add k) = some (.int .i64 ((jnlBytes (ls.take (k + 1))).length : Int)) := by
          rcases Nat.eq_zero_or_pos n1 with h0 | h0
          · exact ⟨⟨0, 0, none⟩, fun k hk => by omega⟩
          · obtain ⟨ad, ha, _⟩ := ends_cell E8.out 0 (by rw [← F8.out.len]; exact h0)
            refine ⟨ad, fun k hk => ⟨ha, ?_⟩⟩
            obtain ⟨ad', ha', hc⟩ := ends_cell E8.out k (by rw [← F8.out.len]; exact hk)
            rw [ha] at ha'
            injection ha' with ha'
            subst ha'
            exact hc
        have HAD := Lib.hid had
        clear had
        go_loop [12] (fun i => ∃ k : Nat, k ≤ n1 ∧ i = .int .i64 k ∧ Hid (k = 0 ∨ (jnlBytes (ls.take k)).length ≤ p)) (fun i => n1 - (intOf i).toNat)
        case atStart => exact ⟨0, Nat.zero_le _, rfl, .inl rfl⟩
        case round =>
          obtain ⟨k, hk, rfl, hkp⟩ := hrel
          have KEY : ∀ (hstop : k < ls.length → p < (jnlBytes (ls.take (k + 1))).length), (p < 8 ∧ k = 0 ∧ jopenRes ((jnlBytes ls).take p) = (some (ls.take 0), 0, 0)) ∨ (8 ≤ p ∧ k = 0 ∧ jopenRes ((jnlBytes ls).take p) = (some (ls.take 0), 8, 0)) ∨
              ∃ j, k = j + 1 ∧ jopenRes ((jnlBytes ls).take p) = (some (ls.take (j + 1)), (jnlBytes (ls.take (j + 1))).length, 0) ∧ 8 ≤ p := by
            intro hstop
            have hcut : p ≤ (jnlBytes ls).length := by rw [← L3.out]; exact HP3.out
            rcases Nat.eq_zero_or_pos k with rfl | hk0
            · by_cases h8 : p < 8
              · exact .inl ⟨h8, rfl, open_short h8⟩
              · have := open_cut (cut := p) (k := 0) hgl.out hsm.out hcut (Nat.zero_le _) (by show 8 ≤ p; omega) hstop
                exact .inr (.inl ⟨by omega, rfl, this⟩)
            · obtain ⟨j, rfl⟩ : ∃ j, k = j + 1 := ⟨k - 1, by omega⟩
              have hjl : j < ls.length := by rw [← F8.out.len]; omega
              have hkp2 : (jnlBytes (ls.take (j + 1))).length ≤ p := by
                rcases hkp.out with h | h
                · omega
                · exact h
              have := open_cut (cut := p) (k := j + 1) hgl.out hsm.out hcut hjl hkp2 hstop
              have h8 := jnlBytes_len (ls.take (j + 1))
              exact .inr (.inr ⟨j, rfl, this, by omega⟩)
          have HKEY := Lib.hid KEY
          clear KEY
          by_cases hlt : k < n1
          · obtain ⟨ha, hce⟩ := HAD.out k hlt
            obtain ⟨en0, hen⟩ : ∃ en0, en0 = (jnlBytes (ls.take (k + 1))).length := ⟨_, rfl⟩
            rw [← hen] at hce
            have HEN := Lib.hid hen
            have q2 : (0 : Int) ≤ (k : Int) := by omega
            have q3 : (k : Int) < (n1 : Int) := by omega
            clear hen
            by_cases hle : en0 ≤ p
            · have hle2 : (en0 : Int) ≤ (p : Int) := by omega
              have HLE := Lib.hid hle
              subst ha
              clear hle
              go_wp2_with fail
              go_round
              case rel => exact ⟨k + 1, by omega, by go_num, by rw [Hid, ← HEN.out]; exact .inr HLE.out⟩
              case measure => simp [intOf]; omega
            · have hle2 : ¬ (en0 : Int) ≤ (p : Int) := by omega
              have hw := HKEY.out (fun _ => by rw [← HEN.out]; omega)
              subst ha
              clear hle
              rcases hw with ⟨w1a, w1b, w1c⟩ | ⟨w2a, w2b, w2c⟩ | ⟨j, w3b, w3d, w3e⟩
              · subst w1b
                have hce0 : w8.cell? ad = some (.int .i64 (en0 : Int)) := hce
                have HR := Lib.hid w1c
                have w1d : ¬ (8 : Int) ≤ (p : Int) := by omega
                clear w1c
                go_wp2_with fail
                refine (jopenIs HR (show Hid (p = ((jnlBytes ls).take p).length) by rw [Hid, List.length_take, ← L3.out]; have := HP3.out; omega) hpc3 hc3 (byt_take hbB.out _) (R8.out.take _)).mono ?_
                rintro e w9 ⟨gk2, Dk2, rfl, j9, m9, _, _⟩
                have J9 := Lib.hid j9
                have F9 := Lib.hid (F8.out.old m9)
                have C9 : Hid (Chg (fun _ => False) w w9) := C8.out.trans m9 (fun _ _ h => h)
                clear j9 m9
                go_wp2_with fail
                refine (holdsC F9 hk J9 rfl).mono ?_
                rintro e w10 ⟨rfl, k2⟩
                have C10 : Hid (Chg (fun _ => False) w w10) := C9.out.trans k2 (fun _ _ h => h)
                clear k2
                go_wp2_with fail
                go_ret
                exact ⟨rfl, C10.out.done⟩
              · subst w2b
                have hce0 : w8.cell? ad = some (.int .i64 (en0 : Int)) := hce
                have HR := Lib.hid w2c
                have w2d : (8 : Int) ≤ (p : Int) := by omega
                clear w2c
                go_wp2_with fail
                refine (jopenIs HR (show Hid (p = ((jnlBytes ls).take p).length) by rw [Hid, List.length_take, ← L3.out]; have := HP3.out; omega) hpc3 hc3 (byt_take hbB.out _) (R8.out.take _)).mono ?_
                rintro e w9 ⟨gk2, Dk2, rfl, j9, m9, _, _⟩
                have J9 := Lib.hid j9
                have F9 := Lib.hid (F8.out.old m9)
                have C9 : Hid (Chg (fun _ => False) w w9) := C8.out.trans m9 (fun _ _ h => h)
                clear j9 m9
                go_wp2_with fail
                refine (holdsC F9 hk J9 rfl).mono ?_
                rintro e w10 ⟨rfl, k2⟩
                have C10 : Hid (Chg (fun _ => False) w w10) := C9.out.trans k2 (fun _ _ h => h)
                clear k2
                go_wp2_with fail
                go_ret
                exact ⟨rfl, C10.out.done⟩
              · have HR := Lib.hid w3d
                obtain ⟨hA4, hce2⟩ := HAD.out j (by omega)
                clear hA4
                have w3f : (0 : Int) ≤ (j : Int) := by omega
                have w3g : (j : Int) < (n1 : Int) := by omega
                have w3h : (k : Int) - 1 = (j : Int) := by omega
                have w3i : (0 : Int) < (k : Int) := by omega
                have w3j : (8 : Int) ≤ (p : Int) := by omega
                have HKJ : Hid (ls.take (j + 1) = ls.take k) := by rw [Hid, w3b]
                obtain ⟨en, hen2⟩ : ∃ en, en = (jnlBytes (ls.take (j + 1))).length := ⟨_, rfl⟩
                rw [← hen2] at HR hce2
                clear w3d w3b hen2
                go_wp2_with fail
                refine (jopenIs HR (show Hid (p = ((jnlBytes ls).take p).length) by rw [Hid, List.length_take, ← L3.out]; have := HP3.out; omega) hpc3 hc3 (byt_take hbB.out _) (R8.out.take _)).mono ?_
                rintro e w9 ⟨gk2, Dk2, rfl, j9, m9, _, _⟩
                have J9 := Lib.hid j9
                have F9 := Lib.hid (F8.out.old m9)
                have C9 : Hid (Chg (fun _ => False) w w9) := C8.out.trans m9 (fun _ _ h => h)
                clear j9 m9
                go_wp2_with fail
                refine (holdsC F9 hk J9 HKJ).mono ?_
                rintro e w10 ⟨rfl, k2⟩
                have C10 : Hid (Chg (fun _ => False) w w10) := C9.out.trans k2 (fun _ _ h => h)
                clear k2
                go_wp2_with fail
                go_ret
                exact ⟨rfl, C10.out.done⟩
          · obtain rfl : k = n1 := by omega
            have hw := HKEY.out (fun h => by rw [← F8.out.len] at h; omega)
            rcases hw with ⟨w1a, w1b, w1c⟩ | ⟨w2a, w2b, w2c⟩ | ⟨j, w3b, w3d, w3e⟩
            · subst w1b
              have HR := Lib.hid w1c
              have w1d : ¬ (8 : Int) ≤ (p : Int) := by omega
              clear w1c
              go_wp2_with fail
              refine (jopenIs HR (show Hid (p = ((jnlBytes ls).take p).length) by rw [Hid, List.length_take, ← L3.out]; have := HP3.out; omega) hpc3 hc3 (byt_take hbB.out _) (R8.out.take _)).mono ?_
              rintro e w9 ⟨gk2, Dk2, rfl, j9, m9, _, _⟩
              have J9 := Lib.hid j9
              have F9 := Lib.hid (F8.out.old m9)
              have C9 : Hid (Chg (fun _ => False) w w9) := C8.out.trans m9 (fun _ _ h => h)
              clear j9 m9
              go_wp2_with fail
              refine (holdsC F9 hk J9 rfl).mono ?_
              rintro e w10 ⟨rfl, k2⟩
              have C10 : Hid (Chg (fun _ => False) w w10) := C9.out.trans k2 (fun _ _ h => h)
              clear k2
              go_wp2_with fail
              go_ret
              exact ⟨rfl, C10.out.done⟩
            · subst w2b
              have HR := Lib.hid w2c
              have w2d : (8 : Int) ≤ (p : Int) := by omega
              clear w2c
              go_wp2_with fail
              refine (jopenIs HR (show Hid (p = ((jnlBytes ls).take p).length) by rw [Hid, List.length_take, ← L3.out]; have := HP3.out; omega) hpc3 hc3 (byt_take hbB.out _) (R8.out.take _)).mono ?_
              rintro e w9 ⟨gk2, Dk2, rfl, j9, m9, _, _⟩
              have J9 := Lib.hid j9
              have F9 := Lib.hid (F8.out.old m9)
              have C9 : Hid (Chg (fun _ => False) w w9) := C8.out.trans m9 (fun _ _ h => h)
              clear j9 m9
              go_wp2_with fail
              refine (holdsC F9 hk J9 rfl).mono ?_
              rintro e w10 ⟨rfl, k2⟩
              have C10 : Hid (Chg (fun _ => False) w w10) := C9.out.trans k2 (fun _ _ h => h)
              clear k2
              go_wp2_with fail
              go_ret
              exact ⟨rfl, C10.out.done⟩
            · have HR := Lib.hid w3d
              obtain ⟨hA4, hce2⟩ := HAD.out j (by omega)
              subst hA4
              have w3f : (0 : Int) ≤ (j : Int) := by omega
              have w3g : (j : Int) < (k : Int) := by omega
              have w3h : (k : Int) - 1 = (j : Int) := by omega
              have w3i : (0 : Int) < (k : Int) := by omega
              have w3j : (8 : Int) ≤ (p : Int) := by omega
              have HKJ : Hid (ls.take (j + 1) = ls.take k) := by rw [Hid, w3b]
              obtain ⟨en, hen2⟩ : ∃ en, en = (jnlBytes (ls.take (j + 1))).length := ⟨_, rfl⟩
              rw [← hen2] at HR hce2
              clear w3d w3b hen2
              go_wp2_with fail
              refine (jopenIs HR (show Hid (p = ((jnlBytes ls).take p).length) by rw [Hid, List.length_take, ← L3.out]; have := HP3.out; omega) hpc3 hc3 (byt_take hbB.out _) (R8.out.take _)).mono ?_
              rintro e w9 ⟨gk2, Dk2, rfl, j9, m9, _, _⟩
              have J9 := Lib.hid j9
              have F9 := Lib.hid (F8.out.old m9)
              have C9 : Hid (Chg (fun _ => False) w w9) := C8.out.trans m9 (fun _ _ h => h)
              clear j9 m9
              go_wp2_with fail
              refine (holdsC F9 hk J9 HKJ).mono ?_
              rintro e w10 ⟨rfl, k2⟩
              have C10 : Hid (Chg (fun _ => False) w w10) := C9.out.trans k2 (fun _ _ h => h)
              clear k2
              go_wp2_with fail
              go_ret
              exact ⟨rfl, C10.out.done⟩
end Go.Proofs.Ytlnomadhgoblkaa.Kit
