/- The walk of OctetSealed. -/
import Derived.Test.YtcljbaoadmflgaaProg
import Derived.Test.YtcljbaoadmflgaaPlainW
import Derived.Test.YtcljbaoadmflgaaOctSc
import Derived.Test.YtcljbaoadmflgaaRight
import Derived.Deep.DeepCutAuto
set_option linter.unusedVariables false
set_option linter.unusedSimpArgs false
namespace Go.Proofs.Ytcljbaoadmflgaa.Kit
open Go.RowKit
set_option maxRecDepth 20000 in
set_option maxHeartbeats 6400000 in
theorem octetSealedWalk (w : World) (s : ByteArray) (hs : s.size ≤ 1048576) (A : Option Addr) (c : Nat) (l : List SecV) (hr : Hid (RdSecs w A l)) (hb : ∀ x ∈ l, x.body.length ≤ 1048576) (hl : l.length ≤ 1048576) (hc : l.length ≤ c) (hmx : c ≤ maxLen)
    (t : ByteArray) (ht : t.size ≤ 1048576) (cut : Int) (hcut0 : -9223372036854775808 ≤ cut) (hcut1 : cut ≤ 9223372036854775807) (M : Option Addr) (d : Nat) (o : List Int) (ho : Hid (Rd w .u8 M o)) (hol : o.length ≤ 1048576) (hob : Byt o) (hod : o.length ≤ d) :
    Calls Try.prog 13 #[.string s, .slice A l.length c, .string t, .int .i64 cut, .slice M o.length d] w fun e w' => e = .returned (.bool true) ∧ Below w.heap.size w w' := by
  obtain ⟨n, hn⟩ : ∃ n, n = l.length := ⟨_, rfl⟩
  obtain ⟨k, hk⟩ : ∃ k, k = o.length := ⟨_, rfl⟩
  have HN := Lib.hid hn
  have HK := Lib.hid hk
  have HALL := Lib.hid hr.out.all
  have hE := secsEnc_bound l hl hb (fun x hx => (HALL.out.2 x hx).2)
  have HE : Hid ((secsEnc l).length ≤ 140737488355200) := Nat.le_trans hE (by decide)
  have HS : Hid ((sealOf s l).1.length ≤ 1099532599318) := sealOf_len s l hE hl
  have HB2 : Hid (∀ x ∈ l, x.body.length ≤ 140737488355200) := fun x hx => Nat.le_trans (hb x hx) (by decide)
  have HB3 : Hid (∀ x ∈ l, x.body.length ≤ 140737488355328) := fun x hx => Nat.le_trans (hb x hx) (by decide)
  have HOB := Lib.hid hob
  have hss : s.size ≤ 140737488355328 := by omega
  have htt : t.size ≤ 140737488355328 := by omega
  rw [← hn, ← hk]
  rw [← hn] at hl hc
  rw [← hk] at hol hod
  clear hn hk hb hE hob
  obtain ⟨B, er, hS0⟩ : ∃ S0 er, sealOf s l = (S0, er) := ⟨_, _, rfl⟩
  obtain ⟨r, hR0⟩ : ∃ r, rightB s l = r := ⟨_, rfl⟩
  rw [hS0] at HS
  have HR0 := Lib.hid hR0
  have HS0 := Lib.hid hS0
  have HBL : Hid (B.length ≤ 140737488355328) := Nat.le_trans HS.out (by decide)
  clear hS0 hR0
  cases r
  · have hbad : ¬ (s.size = 8 ∧ goodSecs l = true) := fun h => by
      have := HR0.out
      rw [rightB, h.2, decide_eq_true h.1] at this
      exact Bool.noConfusion this
    have hsb := seal_bad hbad
    rw [HS0.out] at hsb
    obtain ⟨hB, her⟩ := hsb
    simp only at hB her
    have hne : (er != 0) = true := by simpa using her
    subst hB
    clear her hbad HS
    go_enter Try.func13, Try.ntmps13
    go_wp2_with fail
    refine (rightCall HR0 hss HN hc hmx hr).mono ?_
    rintro e wq ⟨rfl, qa, rfl⟩
    have q1 : Hid (RdSecs (w.drewN qa) A l) := hr.out.drewN qa
    go_wp2_with fail
    refine (sealCall' HS0 HN hss hc hmx q1 HE HB2).mono ?_
    rintro e w1 ⟨A1, n1, c1, rfl, m1⟩
    have hn1 : n1 = 0 := m1.len
    have C1 : Hid (Chg (fun _ => False) w w1) := ((Chg.refl _ w).drewN qa).trans m1.chg (fun _ _ h => h)
    subst hn1
    clear m1
    go_wp2_with fail
    go_ret
    exact ⟨rfl, C1.out.done⟩
  · have hgood : s.size = 8 ∧ goodSecs l = true := by
      have := HR0.out
      simp only [rightB, Bool.and_eq_true, decide_eq_true_eq] at this
      exact this
    have hSG := seal_good hgood.1 hgood.2
    rw [HS0.out] at hSG
    simp only [Prod.mk.injEq] at hSG
    obtain ⟨hB, her⟩ := hSG
    subst her
    have HU0 : Hid (unsealOf s B = (l, 0, 0)) := unseal_of_seal HALL.out.1 (by have := HS.out; simp only at this; omega) HS0.out
    have HBB : Hid (Byt B) := by
      rw [hB]
      exact byt_mk (headOf_byt s l HALL.out.1) (sumB_byt _ (vi_nonneg _) (vi_lt _))
    have hB13 : 13 ≤ B.length := by
      have := vb_pos l.length
      rw [hB, List.length_append, sumB_length, headOf_length, hgood.1]
      omega
    have HGD := Lib.hid hgood
    obtain ⟨nB, hnB⟩ : ∃ nB, nB = B.length := ⟨_, rfl⟩
    have HNB := Lib.hid hnB
    rw [← hnB] at hB13
    have hnB2 : nB ≤ 1099532599318 := by rw [hnB]; exact HS.out
    clear hB hgood hnB HS
    go_enter Try.func13, Try.ntmps13
    go_wp2_with fail
    refine (rightCall HR0 hss HN hc hmx hr).mono ?_
    rintro e wq ⟨rfl, qa, rfl⟩
    have q1 : Hid (RdSecs (w.drewN qa) A l) := hr.out.drewN qa
    go_wp2_with fail
    refine (sealCall' HS0 HN hss hc hmx q1 HE HB2).mono ?_
    rintro e w1 ⟨A1, n1, c1, rfl, m1⟩
    have hn1 : n1 = nB := m1.len.trans HNB.out.symm
    subst hn1
    have C1 : Hid (Chg (fun _ => False) w w1) := ((Chg.refl _ w).drewN qa).trans m1.chg (fun _ _ h => h)
    have O1 := Lib.hid m1.own
    have R1 := Lib.hid m1.rd
    have hc1 := m1.cap
    have hm1 := m1.mx
    clear m1 q1
    go_wp2_with fail
    refine (unsealCall' HU0 HNB hc1 hm1 HBL HBB R1 hss).mono ?_
    rintro e w2 ⟨A2, c2, b2, rfl, m1⟩
    rw [← HN.out] at m1 ⊢
    have S2 := Lib.hid m1.secs
    have O2 := Lib.hid (O1.out.chg m1.chg (fun _ _ h => h))
    have C2 : Hid (Chg (fun _ => False) w w2) := C1.out.trans m1.chg (fun _ _ h => h)
    have hc2 := m1.secs.cap.2.1
    clear m1
    have r1 : Hid (RdSecs w2 A2 l) := S2.out.rd HALL.out.1 HALL.out.2
    have r2 : Hid (RdSecs w2 A l) := hr.out.below C2.out.done
    have hn40 : n ≤ 1099511627776 := by omega
    go_wp2_with fail
    refine (sameSecs HN hn40 hc2 hc HB3 r1 r2).mono ?_
    rintro e wq ⟨rfl, qb, rfl⟩
    obtain ⟨bq, hbq⟩ : ∃ bq, (t.toList == s.toList) = bq := ⟨_, rfl⟩
    go_upto_if 76 with fail
    have HBQ : Hid (bq = false → t ≠ s) := fun h e => by
      rw [h, e] at hbq
      simp at hbq
    clear hbq
    go_cut [10, 17, 18, 19] from 77 (fun a0 a1 a2 a3 wx => Hid (Chg (fun _ => False) w wx) ∧ Hid (OwnB wx (.slice A1 n1 c1) B))
    case first =>
      have C3 : Hid (Chg (fun _ => False) w (w2.drewN qb)) := C2.out.drewN qb
      have O3 : Hid (OwnB (w2.drewN qb) (.slice A1 n1 c1) B) := O2.out.drewN qb
      rcases hq : bq
      · have hts := HBQ.out hq
        subst hq
        obtain ⟨L', p', e', hU'⟩ : ∃ L p e0, unsealOf t B = (L, p, e0) := ⟨_, _, _, rfl⟩
        have hne' := unseal_other HS0.out HBB.out hts
        rw [hU'] at hne'
        have HU' := Lib.hid hU'
        have he1 : (e' == 0) = false := by simpa using hne'
        have R3 : Hid (Rd (w2.drewN qb) .u8 A1 B) := O3.out.rd (by rw [HNB.out])
        clear hts hU' hne' HBQ
        go_wp2_with fail
        refine (unsealCall' HU' HNB hc1 hm1 HBL HBB R3 htt).mono ?_
        rintro e w3 ⟨A3, c3, b3, rfl, m1⟩
        have C4 : Hid (Chg (fun _ => False) w w3) := C3.out.trans m1.chg (fun _ _ h => h)
        have O4 := Lib.hid (O3.out.chg m1.chg (fun _ _ h => h))
        clear m1
        go_wp2_with fail
        go_meet
        case rel => exact ⟨C4.out, O4.out⟩
      · subst hq
        clear HBQ
        go_wp2_with fail
        go_meet
        case rel => exact ⟨C3.out, O3.out⟩
    case rest =>
      obtain ⟨C3, O3⟩ := hcut
      clear C2 O2 S2 C1 O1 r1 r2 hc2 HBQ
      obtain ⟨w3, hw3⟩ : ∃ w3, w3 = wc := ⟨_, rfl⟩
      subst hw3
      go_upto_region 12 with fail
      go_cut [93] from 86 (fun a0 wx => a0 = .bool (decide (0 ≤ cut ∧ cut < (n1 : Int))) ∧ w3 = wx)
      case first =>
        by_cases h0 : 0 ≤ cut
        · by_cases h1 : cut < (n1 : Int)
          · have HV := Lib.hid (decide_eq_true (p := 0 ≤ cut ∧ cut < (n1 : Int)) ⟨h0, h1⟩)
            go_wp2_with fail
            go_meet
            case rel => exact ⟨congrArg Value.bool HV.out.symm, rfl⟩
          · have HV := Lib.hid (decide_eq_false (p := 0 ≤ cut ∧ cut < (n1 : Int)) (fun h => h1 h.2))
            go_wp2_with fail
            go_meet
            case rel => exact ⟨congrArg Value.bool HV.out.symm, rfl⟩
        · have hd : decide (0 ≤ cut) = false := decide_eq_false h0
          have HV := Lib.hid (decide_eq_false (p := 0 ≤ cut ∧ cut < (n1 : Int)) (fun h => h0 h.1))
          go_wp2_with fail
          go_meet
          case rel => exact ⟨congrArg Value.bool HV.out.symm, rfl⟩
      case rest =>
        obtain ⟨rfl, rfl⟩ := hcut
        obtain ⟨bc, hbc⟩ : ∃ bc, decide (0 ≤ cut ∧ cut < (n1 : Int)) = bc := ⟨_, rfl⟩
        rw [hbc]
        have HBC := Lib.hid hbc
        clear hbc
        go_upto_if 93 with fail
        go_cut [10, 20, 21, 22] from 94 (fun a0 a1 a2 a3 wx => Hid (Chg (fun _ => False) w wx) ∧ Hid (OwnB wx (.slice A1 n1 c1) B))
        case first =>
          cases bc
          · go_wp2_with fail
            go_meet
            case rel => exact ⟨C3, O3⟩
          · obtain ⟨h0, h1⟩ := of_decide_eq_true HBC.out
            obtain ⟨k1, rfl⟩ : ∃ k1 : Nat, cut = (k1 : Int) := ⟨cut.toNat, by omega⟩
            have hk1 : k1 < n1 := by omega
            have hk1c : k1 ≤ c1 := by omega
            have b1 : (k1 : Int) ≤ (c1 : Int) := by omega
            have b2 : (0 : Int) ≤ (k1 : Int) := by omega
            have HK1 : Hid (k1 = (B.take k1).length) := by rw [Hid, List.length_take, ← HNB.out]; omega
            obtain ⟨L', p', e', hU'⟩ : ∃ L p e0, unsealOf s (B.take k1) = (L, p, e0) := ⟨_, _, _, rfl⟩
            have hne' := unseal_cut HS0.out HALL.out.1 (by have := HBL.out; omega) (cut := k1) (by rw [← HNB.out]; exact hk1)
            have hpl := (unseal_no s (B.take k1)).2.1
            rw [hU'] at hne' hpl
            rw [← HK1.out] at hpl
            have HU' := Lib.hid hU'
            have he1 : (e' == 0) = false := by simpa using hne'
            have hp1 : p' ≤ (k1 : Int) := hpl
            have R3 : Hid (Rd w3 .u8 A1 (B.take k1)) := (O3.out.rd (by rw [HNB.out])).take k1
            have HBB3 : Hid (Byt (B.take k1)) := byt_take HBB.out k1
            have HBL3 : Hid ((B.take k1).length ≤ 140737488355328) := by rw [Hid, ← HK1.out]; omega
            clear hU' hne' h0 h1 HBC hpl
            go_wp2_with fail
            refine (unsealCall' HU' HK1 hk1c hm1 HBL3 HBB3 R3 hss).mono ?_
            rintro e w4 ⟨A3, c3, b3, rfl, m1⟩
            have C4 : Hid (Chg (fun _ => False) w w4) := C3.out.trans m1.chg (fun _ _ h => h)
            have O4 := Lib.hid (O3.out.chg m1.chg (fun _ _ h => h))
            clear m1
            go_wp2_with fail
            go_meet
            case rel => exact ⟨C4.out, O4.out⟩
        case rest =>
          obtain ⟨C5, O5⟩ := hcut
          clear C3 O3 HBC
          obtain ⟨w5, hw5⟩ : ∃ w5, w5 = wc := ⟨_, rfl⟩
          subst hw5
          by_cases hk0 : k = 0
          · subst hk0
            go_wp2_with fail
            go_ret
            exact ⟨rfl, C5.out.done⟩
          · have hki : ((k : Int) == 0) = false := by simpa using hk0
            have R5 : Hid (Rd (w5.alloc (.cells #[] 5)) .u8 A1 B) := ((O5.out.alloc _).rd (by rw [HNB.out]))
            clear hk0
            go_wp2_with (first | (at_builtin; refine wp_appn rfl _ _ 22 5 .u8 1 rfl Try.underlying22 infoU8 (by decide) (.slice (some ⟨w5.heap.size, 0, none⟩) 0 0) [] rfl (Own.lit w5 5 .u8 [] (by simp)) A1 c1 B n1 rfl HNB.out R5.out (by rw [← HNB.out]; simp; omega) ?_; intro v' w6 k1 k2 k3 k4; obtain ⟨A6, c6, hv, hv2, hv3⟩ := k1.slice; rw [List.nil_append] at k1 hv; rw [← HNB.out] at hv; subst hv; have N1 := Lib.hid k1; have C6 : Hid (Chg (fun _ => False) w5 w6) := ((Chg.refl _ w5).alloc _).fresh k3 (blk_ge (Nat.le_refl _)); have F6 : Hid (∀ y, Value.ownBlock (.slice A6 n1 c6) = some y → w5.heap.size ≤ y) := k4.ge (blk_ge (Nat.le_refl _)) (by simp); clear k1 k2 k3 k4 hv2 hv3; have R6 : Hid (Rd w6 .u8 M o) := ho.out.below (C5.out.trans C6.out (fun _ _ h => h)).done; go_frame) | (at_builtin; go_must (refine wp_appn rfl _ _ 22 5 .u8 1 rfl Try.underlying22 infoU8 (by decide) (.slice A6 n1 c6) B rfl N1.out M d o k rfl HK.out R6.out (by rw [← HNB.out, ← HK.out]; omega) ?_); intro v' w7 k1 k2 k3 k4; obtain ⟨A7, c7, hv, hv2, hv3⟩ := k1.slice; obtain ⟨X, hX⟩ : ∃ X, X = B ++ o := ⟨_, rfl⟩; rw [← hX] at k1 hv hv2; obtain ⟨n7, hn7⟩ : ∃ n7, n7 = X.length := ⟨_, rfl⟩; rw [← hn7] at hv hv2; subst hv; have HX := Lib.hid hX; have HN7 := Lib.hid hn7; clear hX hn7; have N7 := Lib.hid k1; have C7 : Hid (Chg (fun _ => False) w w7) := (C5.out.trans C6.out (fun _ _ h => h)).trans k3 (fun y hy h => by have h1 := F6.out y h; have h2 := C5.out.size; omega); clear k1 k2 k3 k4; go_frame))
            have hn7 : n7 = n1 + k := by rw [HN7.out, HX.out, List.length_append, ← HNB.out, ← HK.out]
            have HN7' := Lib.hid hn7
            have hn7b : n7 ≤ 1099533647894 := by omega
            have hX2 : Hid (X.length ≤ 140737488355328) := by rw [Hid, ← HN7.out]; omega
            have hBX : Hid (Byt X) := by rw [HX.out]; exact byt_mk HBB.out HOB.out
            have R7 : Hid (Rd w7 .u8 A7 X) := N7.out.rd (by rw [HN7.out])
            obtain ⟨L, p, er, hU⟩ : ∃ L p e0, unsealOf s X = (L, p, e0) := ⟨_, _, _, rfl⟩
            have hno := unseal_no s X
            have hsm := unsealOf_small (s := s) hBX.out
            rw [hU] at hno hsm
            have HU := Lib.hid hU
            obtain ⟨m, hm⟩ : ∃ m : Nat, m = L.length := ⟨_, rfl⟩
            have HM := Lib.hid hm
            have HNO := Lib.hid hno
            have HSM := Lib.hid hsm
            have hm64 : m ≤ 64 := by rw [hm]; exact hsm.1
            clear hn7 hU hm hno hsm O5 R5
            go_wp2_with fail
            refine (unsealCall' HU HN7 hv2 hv3 hX2 hBX R7 hss).mono ?_
            rintro e w8 ⟨A8, c8, b8, rfl, m1⟩
            rw [← HM.out] at m1 ⊢
            have S8 := Lib.hid m1.secs
            have C8 : Hid (Chg (fun _ => False) w w8) := C7.out.trans m1.chg (fun _ _ h => h)
            have O8 := Lib.hid (N7.out.chg m1.chg (fun _ _ h => h))
            clear m1
            by_cases he : er = 0
            · subst he
              have hS : Hid (sealOf s L = (X, 0)) := seal_of_unseal hBX.out HU.out
              obtain ⟨hcap, hmx6⟩ := S8.out.cap.2
              have hE : Hid ((secsEnc L).length ≤ 140737488355200) := by
                obtain ⟨_, _, _, _, h5⟩ := unseal_form hBX.out HU.out
                have := congrArg List.length h5
                rw [List.length_append, sumB_length, headOf_length, ← HN7.out] at this
                rw [Hid]
                omega
              have hEB : Hid (∀ x ∈ L, x.body.length ≤ 140737488355200) := fun x hx => Nat.le_trans (HSM.out.2 x hx).1 (by rw [← HN7.out]; omega)
              have r6 := Lib.hid (S8.out.rd (fun x hx => (HSM.out.2 x hx).2.1) (fun x hx => (HSM.out.2 x hx).2.2))
              go_wp2_with fail
              refine (sealCall' hS HM hss hcap hmx6 r6 hE hEB).mono ?_
              rintro e w9 ⟨A9, n9, c9, rfl, m1⟩
              have L9 := Lib.hid m1.len
              have R9 := Lib.hid m1.rd
              have C9 : Hid (Chg (fun _ => False) w w9) := C8.out.trans m1.chg (fun _ _ h => h)
              have R8 : Hid (Rd w9 .u8 A7 X) := (O8.out.chg m1.chg (fun _ _ h => h)).rd (by rw [HN7.out])
              clear m1
              go_wp2_with fail
              refine (sameBytes' (b := true) L9 HN7 hX2 R9 R8 (by rw [Hid]; simp)).mono ?_
              rintro e wq ⟨rfl, qc, rfl⟩
              go_wp2_with fail
              go_ret
              exact ⟨rfl, (C9.out.drewN _).done⟩
            · have hL : L = [] := HNO.out.2.2 he
              have hm0 : m = 0 := by rw [HM.out, hL]; rfl
              have hne : (er != 0) = true := by simpa using he
              clear he hL
              subst hm0
              go_wp2_with fail
              go_ret
              exact ⟨rfl, C8.out.done⟩
end Go.Proofs.Ytcljbaoadmflgaa.Kit
