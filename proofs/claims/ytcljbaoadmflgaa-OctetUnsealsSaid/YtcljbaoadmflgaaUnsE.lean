/- Unseal: the walk of the document's. -/
import Derived.Test.YtcljbaoadmflgaaProg
import Derived.Test.YtcljbaoadmflgaaUnsC
import Derived.Test.YtcljbaoadmflgaaUnsD
import Derived.Deep.RegionHeld3
set_option linter.unusedVariables false
set_option linter.unusedSimpArgs false
namespace Go.Proofs.Ytcljbaoadmflgaa.Kit
open Go.RowKit
theorem sameRef (A B : Option Addr) (c d n : Nat) (l m : List Int) (w : World) (HL : Hid (n = l.length)) (HM : Hid (n = m.length)) (hn : n ≤ 140737488355328) (hr : Hid (Rd w .u8 A l)) (hm : Hid (Rd w .u8 B m)) :
    Calls Try.prog 69 #[.slice A n c, .slice B n d] w fun e w' => e = .returned (.bool (decide (l = m))) ∧ ∃ n, w' = w.drewN n := by
  go_enter Try.func69, Try.ntmps69
  go_wp2
  go_loopw [5] (fun i wr => ∃ k : Nat, k ≤ n ∧ i = .int .i64 k ∧ Hid (l.take k = m.take k) ∧ ∃ n, wr = w.drewN n) (fun i _ => n - (intOf i).toNat)
  case atStart => exact ⟨0, Nat.zero_le _, rfl, rfl, 0, rfl⟩
  case round =>
    obtain ⟨k, hk, rfl, ht, nd, rfl⟩ := hrel
    by_cases hlt : k < n
    · have hlt1 : k < l.length := by rw [← HL.out]; exact hlt
      have hlt2 : k < m.length := by rw [← HM.out]; exact hlt
      obtain ⟨a1, rfl, hc1⟩ := hr.out k hlt1
      obtain ⟨a2, rfl, hc2⟩ := hm.out k hlt2
      have b1 : (0 : Int) ≤ (k : Int) := by omega
      have b2 : (k : Int) < (n : Int) := by omega
      by_cases hq : l[k] = m[k]
      · have HQ := Lib.hid hq
        have hq' : (l[k] != m[k]) = false := by simp [hq]
        clear hq
        go_wp2_with fail
        go_quiet (fail)
        go_wp2
        go_roundw
        case rel => exact ⟨k + 1, by omega, by go_num, take_next ht.out hlt1 hlt2 HQ.out, _, rfl⟩
        case measure => simp [intOf]; omega
      · have HQ := Lib.hid hq
        have hq' : (l[k] != m[k]) = true := by simp [hq]
        clear hq
        go_wp2_with fail
        go_quiet (fail)
        go_wp2
        go_ret
        exact ⟨ret_bool (decide_eq_false (fun h => HQ.out (by subst h; rfl))).symm, _, World.drewN_drewN ..⟩
    · go_wp2
      go_ret
      refine ⟨ret_bool (decide_eq_true ?_).symm, _, rfl⟩
      have := ht.out
      rw [List.take_of_length_le (by rw [← HL.out]; omega), List.take_of_length_le (by rw [← HM.out]; omega)] at this
      exact this
theorem sameRef' {A B : Option Addr} {c d n : Nat} {l m : List Int} {w : World} {b : Bool} (HL : Hid (n = l.length)) (HM : Hid (n = m.length)) (hn : n ≤ 140737488355328) (hr : Hid (Rd w .u8 A l)) (hm : Hid (Rd w .u8 B m)) (hb : Hid (decide (l = m) = b)) :
    Calls Try.prog 69 #[.slice A n c, .slice B n d] w fun e w' => e = .returned (.bool b) ∧ ∃ n, w' = w.drewN n := by
  rw [← hb.out]
  exact sameRef A B c d n l m w HL HM hn hr hm
set_option maxRecDepth 20000 in
set_option maxHeartbeats 6400000 in
theorem unsealRef {s : ByteArray} {A : Option Addr} {n c : Nat} {l : List Int} {w : World} {R : List SecV × Int × Int} (hR : Hid (unsealOf s l = R)) (HN : Hid (n = l.length)) (hnc : n ≤ c) (hmx : c ≤ maxLen) (hl : Hid (l.length ≤ 140737488355328)) (hb : Hid (Byt l)) (hr : Hid (Rd w .u8 A l)) (hss : s.size ≤ 140737488355328) :
    Calls Try.prog 45 #[.string s, .slice A n c] w (RSecsF w R) := by
  have hn1 : n ≤ 140737488355328 := by rw [HN.out]; exact hl.out
  by_cases h8 : s.size = 8
  · have h8i : (s.size : Int) = 8 := by omega
    have H8 := Lib.hid h8
    clear h8
    go_enter Try.func45, Try.ntmps45
    go_wp2_with fail
    go_loopw [7] (fun i wr => ∃ k : Nat, k ≤ 8 ∧ k ≤ n ∧ i = .int .i64 k ∧ Hid (beginsP (bytesOf s) l 8 0 = beginsP (bytesOf s) l (8 - k) k) ∧ Hid (∃ q, wr = w.drewN q)) (fun i _ => 8 - (intOf i).toNat)
    case atStart => exact ⟨0, by omega, by omega, rfl, rfl, 0, rfl⟩
    case round =>
      obtain ⟨k, hk, hkn, rfl, BK, HW⟩ := hrel
      by_cases hlt : k < 8
      · by_cases hsh : n = k
        · have HE : Hid (R = ([], (k : Int), 41)) := by
            rw [Hid, ← hR.out]
            refine unseal_2 H8.out ?_ (by decide)
            rw [BK.out, show 8 - k = (7 - k) + 1 by omega, beginsP_short (by rw [← HN.out]; omega)]
          have hki : ((k : Int) == (n : Int)) = true := by simp [hsh]
          clear hsh
          go_wp2_with fail
          go_ret3
          obtain ⟨q, rfl⟩ := HW.out
          exact rsecsF_no HE.out ((Chg.refl _ w).drewN _)
        · have hki : ((k : Int) == (n : Int)) = false := by simp; omega
          have hkl : k < l.length := by rw [← HN.out]; omega
          obtain ⟨ad, rfl, hc⟩ := hr.out k hkl
          have hks : k < s.size := by have := H8.out; omega
          have hc' : wr.cell? (ad.add k) = some (.int .u8 l[k]) := by
            obtain ⟨q, hq⟩ := HW.out
            rw [hq]
            exact hc
          have b1 : (0 : Int) ≤ (k : Int) := by omega
          have b2 : (k : Int) < (n : Int) := by omega
          have b3 : (k : Int) < (s.size : Int) := by omega
          have hkb : k < (bytesOf s).length := by rw [bytesOf_length]; exact hks
          have hg := bytesOf_get s k hks
          by_cases he : l[k] = (s[k].toNat : Int)
          · have hne : (l[k] != (s[k].toNat : Int)) = false := by simp [he]
            have hR' : Hid (beginsP (bytesOf s) l (8 - k) k = beginsP (bytesOf s) l (8 - (k + 1)) (k + 1)) := by
              rw [Hid, show 8 - k = (8 - (k + 1)) + 1 by omega, beginsP_next hkl hkb (by rw [hg, he])]
            clear hg he hc
            go_wp2_with fail
            go_quiet (fail)
            go_wp2_with fail
            go_roundw
            case rel => exact ⟨k + 1, by omega, by omega, by go_num, BK.out.trans hR'.out, by
              obtain ⟨q, rfl⟩ := HW.out
              exact ⟨_, World.drewN_drewN _ _ _⟩⟩
            case measure => simp [intOf]; omega
          · have hne : (l[k] != (s[k].toNat : Int)) = true := by simp [he]
            have HE : Hid (R = ([], (k : Int), 43)) := by
              rw [Hid, ← hR.out]
              refine unseal_2 H8.out ?_ (by decide)
              rw [BK.out, show 8 - k = (7 - k) + 1 by omega, beginsP_bad hkl hkb (by rw [hg]; exact he)]
            clear hg he hc
            go_wp2_with fail
            go_quiet (fail)
            go_wp2_with fail
            go_ret3
            obtain ⟨q, rfl⟩ := HW.out
            exact rsecsF_no HE.out (((Chg.refl _ w).drewN _).drewN _)
      · obtain rfl : k = 8 := by omega
        have HB : Hid (beginsP (bytesOf s) l 8 0 = (0, 0)) := by
          rw [Hid, BK.out]
          rfl
        have C1 : Hid (Chg (fun _ => False) w wr) := by
          obtain ⟨q, rfl⟩ := HW.out
          exact (Chg.refl _ w).drewN _
        by_cases h13 : n < 13
        · have HE : Hid (R = ([], (n : Int), 41)) := by rw [Hid, ← hR.out, unseal_3 H8.out HB.out (by rw [← HN.out]; exact h13), HN.out]
          go_wp2_with fail
          go_ret3
          exact rsecsF_no HE.out C1.out
        · obtain ⟨en, hen⟩ : ∃ en, n = en + 4 := ⟨n - 4, by omega⟩
          subst hen
          have hl0 : 0 < l.length := by rw [← HN.out]; omega
          obtain ⟨ad, rfl, hc0⟩ := hr.out 0 hl0
          have b1 : (0 : Int) ≤ (en : Int) := by omega
          have b2 : (en : Int) ≤ (en : Int) + 4 := by omega
          have b3 : (en : Int) + 4 ≤ (c : Int) := by omega
          have b4 : (en : Int) ≤ (c : Int) := by omega
          have b5 : ¬ c = en := by omega
          have b6 : en + 4 - en = 4 := by omega
          have HT : Hid (en = (l.take en).length) := by rw [Hid, List.length_take]; have := HN.out; omega
          have HD : Hid (4 = (l.drop en).length) := by rw [Hid, List.length_drop]; have := HN.out; omega
          have HBT : Hid (Byt (l.take en)) := fun z hz => hb.out z (List.mem_of_mem_take hz)
          have HLT : Hid ((l.take en).length ≤ 140737488355328) := by rw [Hid, ← HT.out]; omega
          have HRT : Hid (∀ W, Chg (fun _ => False) w W → Rd W .u8 (some ad) (l.take en)) := fun W hW => (hr.out.below hW.done).take en
          have HRD : Hid (∀ W, Chg (fun _ => False) w W → Rd W .u8 (some (ad.add en)) (l.drop en)) := fun W hW => (hr.out.below hW.done).drop rfl en
          have HSL : Hid (4 = (sumB (vi (crc (l.take en)))).length) := rfl
          obtain ⟨bb, hbb⟩ : ∃ bb, decide (sumB (vi (crc (l.take en))) = l.drop en) = bb := ⟨_, rfl⟩
          have HBB := Lib.hid hbb
          have h8e : en ≤ c := by omega
          have h9e : 9 ≤ en := by omega
          clear hc0 hl0 hbb
          go_wp2_with fail
          go_region_held3 (fun w' => True) (trivial) (first | (go_at_call 66; refine (sumRef (some ad) en c (l.take en) _ HT HBT HLT (HRT.out _ C1.out.drew)).mono ?_; rintro e w2 ⟨A2, c2, rfl, m1⟩; have C2 : Hid (Chg (fun _ => False) w w2) := C1.out.drew.trans m1.chg (fun _ _ h => h); have R2 : Hid (Rd w2 .u8 A2 (sumB (vi (crc (l.take en))))) := m1.rd; clear m1) | (go_at_call 69; refine (sameRef' HSL HD (by decide) R2 (HRD.out _ C2.out) HBB).mono ?_; rintro e w3 ⟨rfl, q3, rfl⟩))
          cases bb
          · have HE : Hid (R = ([], (en : Int), 44)) := by
              have h1 := of_decide_eq_false HBB.out
              rw [Hid, ← hR.out, unseal_4 H8.out HB.out (by rw [← HN.out]; exact h13) (by rw [← HN.out, Nat.add_sub_cancel]; exact h1), ← HN.out, Nat.add_sub_cancel]
            go_wp2_with fail
            go_ret3
            exact rsecsF_no HE.out (C2.out.drewN _)
          · have HE : Hid (secsOf (l.take en) = R) := by
              have h1 := of_decide_eq_true HBB.out
              rw [Hid, ← hR.out, unseal_5 H8.out HB.out (by rw [← HN.out]; exact h13) (by rw [← HN.out, Nat.add_sub_cancel]; exact h1), ← HN.out, Nat.add_sub_cancel]
            have C3 : Hid (Chg (fun _ => False) w (w2.drewN q3)) := C2.out.drewN _
            have R3 : Hid (Rd (w2.drewN q3) .u8 (some ad) (l.take en)) := HRT.out _ C3.out
            go_wp2_with fail
            refine (sectionsRef HE HT h8e hmx h9e HLT HBT R3).mono ?_
            rintro e w6 ⟨A6, n6, c6, bs, rfl, m1⟩
            have M6 := Lib.hid m1
            clear m1
            go_wp2_with fail
            go_ret3
            have h5 := C3.out.size
            exact ⟨A6, n6, c6, bs, rfl, ⟨M6.out.secs, C3.out.trans M6.out.chg (fun _ _ h => h), fun k hk => Nat.le_trans h5 (M6.out.new k hk), fun b hb k hk => Nat.le_trans h5 (M6.out.newB b hb k hk), M6.out.apart⟩⟩
  · have HE : Hid (R = ([], 0, 1)) := by rw [Hid, ← hR.out, unseal_1 h8]
    have h8i : ¬ (s.size : Int) = 8 := by omega
    clear h8
    go_enter Try.func45, Try.ntmps45
    go_wp2_with fail
    go_ret3
    exact rsecsF_no HE.out (Chg.refl _ w)
end Go.Proofs.Ytcljbaoadmflgaa.Kit
