/- Unseal: the walk of the program's. -/
import Derived.Test.YtcljbaoadmflgaaProg
import Derived.Test.YtcljbaoadmflgaaUnsB
import Derived.Test.YtcljbaoadmflgaaUnsC
import Derived.Test.YtcljbaoadmflgaaSeal
import Derived.Test.YtcljbaoadmflgaaPlainB
import Derived.RegionTactic
import Derived.ChangeAlike
import Derived.Lib.Bytes
set_option linter.unusedVariables false
set_option linter.unusedSimpArgs false
namespace Go.Proofs.Ytcljbaoadmflgaa.Kit
open Go.RowKit
theorem unseal_1 {s : ByteArray} {l : List Int} (h : s.size ≠ 8) : unsealOf s l = ([], 0, 1) := by rw [unsealOf, if_pos h]
theorem unseal_2 {s : ByteArray} {l : List Int} {p e : Int} (h : s.size = 8) (hb : beginsP (bytesOf s) l 8 0 = (p, e)) (he : e ≠ 0) : unsealOf s l = ([], p, e) := by rw [unsealOf, if_neg (by simp [h]), hb, if_pos he]
theorem unseal_3 {s : ByteArray} {l : List Int} {p : Int} (h : s.size = 8) (hb : beginsP (bytesOf s) l 8 0 = (p, 0)) (hl : l.length < 13) : unsealOf s l = ([], (l.length : Int), 41) := by rw [unsealOf, if_neg (by simp [h]), hb, if_neg (by simp), if_pos hl]
theorem unseal_4 {s : ByteArray} {l : List Int} {p : Int} (h : s.size = 8) (hb : beginsP (bytesOf s) l 8 0 = (p, 0)) (hl : ¬ l.length < 13) (hs : sumB (vi (crc (l.take (l.length - 4)))) ≠ l.drop (l.length - 4)) : unsealOf s l = ([], ((l.length - 4 : Nat) : Int), 44) := by rw [unsealOf, if_neg (by simp [h]), hb, if_neg (by simp), if_neg hl, if_pos hs]
theorem unseal_5 {s : ByteArray} {l : List Int} {p : Int} (h : s.size = 8) (hb : beginsP (bytesOf s) l 8 0 = (p, 0)) (hl : ¬ l.length < 13) (hs : sumB (vi (crc (l.take (l.length - 4)))) = l.drop (l.length - 4)) : unsealOf s l = secsOf (l.take (l.length - 4)) := by rw [unsealOf, if_neg (by simp [h]), hb, if_neg (by simp), if_neg hl, if_neg (by simpa using hs)]
theorem strOf_inj {l m : List Int} (hl : Byt l) (hm : Byt m) (h : strOf l = strOf m) : l = m := by rw [← bytesOf_strOf hl, h, bytesOf_strOf hm]
theorem str_beq {l m : List Int} (hl : Byt l) (hm : Byt m) : ((strOf l).toList == (strOf m).toList) = decide (l = m) := by
  by_cases h : l = m
  · rw [h]
    simp
  · rw [decide_eq_false h, beq_eq_false_iff_ne]
    intro e
    apply h
    apply strOf_inj hl hm
    rw [Lib.toList_data, Lib.toList_data] at e
    exact ByteArray.ext (Array.toList_inj.1 e)
set_option maxRecDepth 20000 in
set_option maxHeartbeats 6400000 in
theorem unsealCall {s : ByteArray} {A : Option Addr} {n c : Nat} {l : List Int} {w : World} {R : List SecV × Int × Int} (hR : Hid (unsealOf s l = R)) (HN : Hid (n = l.length)) (hnc : n ≤ c) (hmx : c ≤ maxLen) (hl : Hid (l.length ≤ 140737488355328)) (hb : Hid (Byt l)) (hr : Hid (Rd w .u8 A l)) (hss : s.size ≤ 140737488355328) :
    Calls Try.prog 44 #[.string s, .slice A n c] w (RSecsF w R) := by
  have hn1 : n ≤ 140737488355328 := by rw [HN.out]; exact hl.out
  by_cases h8 : s.size = 8
  · have h8i : (s.size : Int) = 8 := by omega
    obtain ⟨p, er, hB⟩ : ∃ p er, beginsP (bytesOf s) l 8 0 = (p, er) := ⟨_, _, rfl⟩
    have HB := Lib.hid hB
    have H8 := Lib.hid h8
    clear hB h8
    go_enter Try.func44, Try.ntmps44
    go_wp2_with fail
    refine (begins s A n c l w H8.out HN hnc hl hr HB).mono ?_
    rintro e wq ⟨rfl, qa, rfl⟩
    by_cases he : er = 0
    · subst he
      by_cases h13 : n < 13
      · have HE : Hid (R = ([], (n : Int), 41)) := by rw [Hid, ← hR.out, unseal_3 H8.out HB.out (by rw [← HN.out]; exact h13), HN.out]
        go_wp2_with fail
        go_ret3
        exact rsecsF_no HE.out ((Chg.refl _ w).drewN _)
      · obtain ⟨en, hen⟩ : ∃ en, n = en + 4 := ⟨n - 4, by omega⟩
        subst hen
        have E1 : IntKind.i64.wrap (((en + 4 : Nat) : Int) - 4) = (en : Int) := by rw [IntWalk.i64_in _ (by omega)]; omega
        have hl0 : 0 < l.length := by rw [← HN.out]; omega
        obtain ⟨ad, rfl, hc0⟩ := hr.out 0 hl0
        have b1 : (0 : Int) ≤ (en : Int) := by omega
        have b2 : (en : Int) ≤ (en : Int) + 4 := by omega
        have b3 : (en : Int) + 4 ≤ (c : Int) := by omega
        have b4 : (en : Int) ≤ (c : Int) := by omega
        have b5 : ¬ c = en := by omega
        have b6 : en + 4 - en = 4 := by omega
        have HT : Hid (en = (l.take en).length) := by rw [Hid, List.length_take]; have := HN.out; omega
        have HBT : Hid (Byt (l.take en)) := fun z hz => hb.out z (List.mem_of_mem_take hz)
        have HLT : Hid ((l.take en).length ≤ 140737488355328) := by rw [Hid, ← HT.out]; omega
        have HRT : Hid (∀ W, Chg (fun _ => False) w W → Rd W .u8 (some ad) (l.take en)) := fun W hW => (hr.out.below hW.done).take en
        have HCV : Hid (∀ W, Chg (fun _ => False) w W → (convert 22 9 (.slice (some (ad.add en)) 4 (c - en))).run Try.prog W = .ok (.string (strOf (l.drop en))) W) := fun W hW => conv_str W _ 4 _ (l.drop en) (by rw [List.length_drop, ← HN.out]; omega) ((hr.out.below hW.done).drop rfl en)
        clear hc0 hl0
        obtain ⟨w1, hw1⟩ : ∃ w1, w1 = w.drewN qa := ⟨_, rfl⟩
        have C1 : Hid (Chg (fun _ => False) w w1) := by rw [hw1]; exact (Chg.refl _ w).drewN _
        rw [← hw1]
        clear hw1
        have v0 := vi_nonneg (crc (l.take en))
        have v1 := vi_lt (crc (l.take en))
        obtain ⟨x, hx⟩ : ∃ x, vi (crc (l.take en)) = x := ⟨_, rfl⟩
        rw [hx] at v0 v1
        have HX := Lib.hid hx
        clear hx
        have hBS : Byt (sumB x) := sumB_byt x v0 v1
        have hseq := str_beq hBS (fun z hz => hb.out z (List.mem_of_mem_drop hz) : Byt (l.drop en))
        have HQ : Hid (sumB x = l.drop en ↔ sumB (vi (crc (l.take (l.length - 4)))) = l.drop (l.length - 4)) := by rw [Hid, ← HX.out, ← HN.out, Nat.add_sub_cancel]
        clear hBS
        by_cases hq : sumB x = l.drop en
        · rw [decide_eq_true hq] at hseq
          have HE : Hid (R = secsOf (l.take en)) := by rw [Hid, ← hR.out, unseal_5 H8.out HB.out (by rw [← HN.out]; exact h13) (HQ.out.1 hq), ← HN.out, Nat.add_sub_cancel]
          clear hq
          go_wp2_with fail
          have hcv1 := HCV.out _ C1.out.drew
          go_region_with (first | (go_at_call 36; refine (crcCall (some ad) c en (l.take en) _ HT HBT HLT (HRT.out _ C1.out.drew)).mono ?_; rintro e w2 ⟨rfl, k1⟩; rw [HX.out]; have C2 : Hid (Chg (fun _ => False) w w2) := C1.out.drew.trans k1 (fun _ _ h => h); have hcv2 := HCV.out _ C2.out; clear k1) | (go_at_call 64; refine (appendSum (.slice none 0 0) [] x _ v0 v1 (Own.nil _ _ _) (by simp)).mono ?_; rintro e w3 ⟨v3, rfl, k1, _, k3, k4⟩; have O3 := Lib.hid k1; have C3 : Hid (Chg (fun _ => False) w w3) := C2.out.trans k3 (fun _ _ h => by simp [Value.ownBlock] at h); obtain ⟨A3, c3, rfl, _⟩ := k1.slice; have hc3 : (convert 22 9 (.slice A3 (sumB x).length c3)).run Try.prog w3 = .ok (.string (strOf (sumB x))) w3 := conv_str w3 _ _ _ (sumB x) rfl (by have := O3.out.rd rfl; exact this); have hcv3 := HCV.out _ C3.out; clear k1 k3 k4))
          all_goals
            have HRT3 := Lib.hid (HRT.out w3 C3.out)
            clear hc3 hseq hcv1 hcv2 hcv3
            go_wp2_with fail
            refine (newReader' HT HLT HRT3).mono ?_
            rintro e w4 ⟨g, v, rfl, m1, m2, m3, m4⟩
            have R4 := Lib.hid m1
            have C4 : Hid (Chg (fun _ => False) w w4) := C3.out.trans m4 (fun _ _ h => h)
            have GE : Hid (w.heap.size ≤ g) := Nat.le_trans C3.out.size m2
            have q1 := m1.blk.at_ (i := 1) rfl
            have q2 := m1.blk.frozen (i := 1) (by simp)
            have R5 : Hid (Rdr (w4.setCell ⟨g, 1, none⟩ (.int .i64 8)) g v (l.take en) 8) := m1.move (n := 8) (by rw [← HT.out]; omega)
            have C5 : Hid (Chg (fun _ => False) w (w4.setCell ⟨g, 1, none⟩ (.int .i64 8))) := C4.out.old ((Chg.refl (· = g) w4).setg 1 _) (fun i hi => by rw [hi]; exact GE.out)
            clear m1 m2 m3 m4
            obtain ⟨L, p2, e2, z, hS⟩ : ∃ L p2 e2 z, secsHd (l.take en) = (L, p2, e2, z) := ⟨_, _, _, _, rfl⟩
            have HS := Lib.hid hS
            clear hS
            go_wp2_with fail
            refine (sectionsCall HS R5).mono ?_
            rintro e w6 ⟨A6, n6, c6, bs, rfl, m1, m2⟩
            have M6 := Lib.hid m1
            have C6 : Hid (Chg (fun _ => False) w w6) := C5.out.old m1.chg (fun i hi => by rw [hi]; exact GE.out)
            have R6 := Lib.hid m2
            clear m1 m2 q1 q2
            by_cases he2 : e2 = 0
            · subst he2
              have R7 := Lib.hid (R6.out rfl)
              have hle := R7.out.le
              have hbd := R7.out.bound
              have hz1 : z ≤ en := by rw [HT.out]; exact hle
              have hLF : Hid (((l.take en).length : Int) - (z : Int) = ((en - z : Nat) : Int)) := by rw [Hid, ← HT.out]; omega
              obtain ⟨lf, hlf⟩ : ∃ lf, lf = en - z := ⟨_, rfl⟩
              rw [← hlf] at hLF
              have f1 := R7.out.blk.at_ (i := 1) rfl
              have C7 : Hid (Chg (fun _ => False) w w6) := C6.out
              clear hle hbd
              by_cases h0 : 0 < lf
              · have HE2 : Hid (R = ([], (z : Int), 46)) := by rw [Hid, HE.out, secsOf_more HS.out (by rw [← HT.out]; omega)]
                clear hlf
                go_wp2_with fail
                refine (left' hLF R7).mono ?_
                rintro e wq ⟨rfl, qb, rfl⟩
                go_wp2_with fail
                go_quiet (fail)
                go_wp2_with fail
                go_ret3
                exact rsecsF_no HE2.out ((C6.out.drewN _).drewN _)
              · have HE2 : Hid (R = (L, 0, 0)) := by rw [Hid, HE.out, secsOf_ok HS.out (by rw [← HT.out]; omega)]
                clear hlf
                go_wp2_with fail
                refine (left' hLF R7).mono ?_
                rintro e wq ⟨rfl, qb, rfl⟩
                go_wp2_with fail
                go_ret3
                rw [HE2.out]
                have h5 := C5.out.size
                exact ⟨A6, n6, c6, bs, rfl, ⟨M6.out.secs.chg ((Chg.refl (fun _ => False) w6).drewN _) (fun _ _ h => h) (fun _ _ _ _ h => h), C6.out.drewN _, fun k hk => Nat.le_trans h5 (M6.out.new k hk), fun b hb k hk => Nat.le_trans h5 (M6.out.newB b hb k hk), M6.out.apart⟩⟩
            · have HE2 : Hid (R = ([], p2, e2)) := by rw [Hid, HE.out, secsOf_e HS.out he2]
              have hne : (e2 != 0) = true := by simpa using he2
              clear he2
              go_wp2_with fail
              go_ret3
              exact rsecsF_no HE2.out C6.out
        · rw [decide_eq_false hq] at hseq
          have HE : Hid (R = ([], (en : Int), 44)) := by rw [Hid, ← hR.out, unseal_4 H8.out HB.out (by rw [← HN.out]; exact h13) (fun e => hq (HQ.out.2 e)), ← HN.out, Nat.add_sub_cancel]
          clear hq
          go_wp2_with fail
          have hcv1 := HCV.out _ C1.out.drew
          go_region_with (first | (go_at_call 36; refine (crcCall (some ad) c en (l.take en) _ HT HBT HLT (HRT.out _ C1.out.drew)).mono ?_; rintro e w2 ⟨rfl, k1⟩; rw [HX.out]; have C2 : Hid (Chg (fun _ => False) w w2) := C1.out.drew.trans k1 (fun _ _ h => h); have hcv2 := HCV.out _ C2.out; clear k1) | (go_at_call 64; refine (appendSum (.slice none 0 0) [] x _ v0 v1 (Own.nil _ _ _) (by simp)).mono ?_; rintro e w3 ⟨v3, rfl, k1, _, k3, k4⟩; have O3 := Lib.hid k1; have C3 : Hid (Chg (fun _ => False) w w3) := C2.out.trans k3 (fun _ _ h => by simp [Value.ownBlock] at h); obtain ⟨A3, c3, rfl, _⟩ := k1.slice; have hc3 : (convert 22 9 (.slice A3 (sumB x).length c3)).run Try.prog w3 = .ok (.string (strOf (sumB x))) w3 := conv_str w3 _ _ _ (sumB x) rfl (by have := O3.out.rd rfl; exact this); have hcv3 := HCV.out _ C3.out; clear k1 k3 k4))
          all_goals
            clear hc3 hcv1 hcv2 hcv3
            go_wp2_with fail
            go_ret3
            exact rsecsF_no HE.out C3.out
    · have HE : Hid (R = ([], p, er)) := by rw [Hid, ← hR.out, unseal_2 H8.out HB.out he]
      have hne : (er != 0) = true := by simpa using he
      clear he
      go_wp2_with fail
      go_ret3
      exact rsecsF_no HE.out ((Chg.refl _ w).drewN _)
  · have HE : Hid (R = ([], 0, 1)) := by rw [Hid, ← hR.out, unseal_1 h8]
    have h8i : ¬ (s.size : Int) = 8 := by omega
    clear h8
    go_enter Try.func44, Try.ntmps44
    go_wp2_with fail
    go_ret3
    exact rsecsF_no HE.out (Chg.refl _ w)
end Go.Proofs.Ytcljbaoadmflgaa.Kit
