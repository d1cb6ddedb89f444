/- The walk of OctetForm. -/
import Derived.Test.YtcljbaoadmflgaaProg
import Derived.Test.YtcljbaoadmflgaaPlainW
import Derived.Test.YtcljbaoadmflgaaOctSc
set_option linter.unusedVariables false
set_option linter.unusedSimpArgs false
namespace Go.Proofs.Ytcljbaoadmflgaa.Kit
open Go.RowKit
set_option maxRecDepth 20000 in
set_option maxHeartbeats 6400000 in
theorem octetFormWalk (w : World) (s : ByteArray) (hs : s.size ≤ 140737488351232) (A : Option Addr) (c : Nat) (l : List Int) (hr : Hid (Rd w .u8 A l)) (hl : l.length ≤ 140737488351232) (hb : Byt l) (hc : l.length ≤ c) (hmx : c ≤ maxLen) :
    Calls Try.prog 14 #[.string s, .slice A l.length c] w fun e w' => e = .returned (.bool true) ∧ Below w.heap.size w w' := by
  obtain ⟨n, hn⟩ : ∃ n : Nat, n = l.length := ⟨_, rfl⟩
  have HN := Lib.hid hn
  have HB := Lib.hid hb
  have hle : Hid (l.length ≤ 140737488355328) := Nat.le_trans hl (by decide)
  have hl90 : n ≤ 140737488351232 := by omega
  have hnc : n ≤ c := by omega
  have HL := Lib.hid hl
  have hss : s.size ≤ 140737488355328 := by omega
  rw [← hn]
  clear hn hb hl hc
  by_cases h8 : s.size = 8
  · have h8i : (s.size : Int) = 8 := by omega
    have H8 := Lib.hid h8
    have nil0 : Hid (0 = ([] : List SecV).length) := rfl
    have nilE : Hid ((secsEnc []).length ≤ 140737488355200) := by rw [Hid]; decide
    have nilB : Hid (∀ x ∈ ([] : List SecV), x.body.length ≤ 140737488355200) := fun x h => absurd h (by simp)
    obtain ⟨B0, hB0⟩ : ∃ B0, headOf s [] ++ sumB (vi (crc (headOf s []))) = B0 := ⟨_, rfl⟩
    have hS0 : Hid (sealOf s [] = (B0, 0)) := by rw [Hid, ← hB0]; exact seal_good h8 rfl
    have hL0 : Hid (B0.length ≤ 140737488355328) := by
      rw [Hid, ← hB0, List.length_append, sumB_length, headOf_length, h8, secsEnc]
      have := vb_len10 (n := ([] : List SecV).length) (by decide)
      simp only [List.flatMap_nil, List.length_nil] at this ⊢
      omega
    have hBB0 : Hid (Byt B0) := by
      rw [Hid, ← hB0]
      exact byt_mk (headOf_byt s [] (fun x h => absurd h (by simp))) (sumB_byt _ (vi_nonneg _) (vi_lt _))
    have hU0 : Hid (unsealOf s B0 = ([], 0, 0)) := unseal_of_seal (fun x h => absurd h (by simp)) (by have := hL0.out; omega) hS0.out
    clear hB0 h8
    have hcv : ∀ W : World, (convert 9 22 (.string s)).run Try.prog W = .ok (.slice (some ⟨W.heap.size, 0, none⟩) s.size (grownCap W s.size 0 5)) (Lib.bytesWorld W 5 s) := fun W => Lib.run_convert_string_bytes W _ _ _ s Try.underlying9 Try.underlying22 Try.underlying5
    have HCV := Lib.hid hcv
    clear hcv
    go_enter Try.func14, Try.ntmps14
    go_wp2_with fail
    refine (sealCall' hS0 nil0 hss (Nat.le_refl _) (Nat.zero_le _) (RdSecs.nil _ _) nilE nilB).mono ?_
    rintro e w1 ⟨A1, n1, c1, rfl, m1⟩
    have L1 := Lib.hid m1.len
    have R1 := Lib.hid m1.rd
    have C1 := Lib.hid m1.chg
    have hc1 := m1.cap
    have hmx1 := m1.mx
    clear m1
    go_wp2_with fail
    refine (unsealCall' hU0 L1 hc1 hmx1 hL0 hBB0 R1 hss).mono ?_
    rintro e w2 ⟨A2, c2, b2, rfl, m1⟩
    have C2 : Hid (Chg (fun _ => False) w w2) := C1.out.trans m1.chg (fun _ _ h => h)
    clear m1
    have ch1 : Hid (Chg (fun _ => False) w2 (Lib.bytesWorld w2 5 s)) := bytesWorld_chg w2 _ s
    have ow1 := Lib.hid (bytesWorld_own w2 5 s (by omega))
    have hcv := HCV.out w2
    have r3 : Hid (Rd (Lib.bytesWorld w2 5 s) .u8 A l) := hr.out.below (C2.out.trans ch1.out (fun _ _ h => h)).done
    go_wp2_with (at_builtin; go_must (refine wp_appn rfl _ _ 22 5 .u8 1 rfl Try.underlying22 infoU8 (by decide) (.slice (some ⟨w2.heap.size, 0, none⟩) s.size (grownCap w2 s.size 0 5)) (bytesOf s) rfl ow1.out A c l _ rfl HN.out r3.out (by rw [bytesOf_length, H8.out, ← HN.out]; omega) ?_); intro v' w3 k1 k2 k3 k4; obtain ⟨A3, c3, hv, hv2, hv3⟩ := k1.slice; obtain ⟨P, hP⟩ : ∃ P, P = bytesOf s ++ l := ⟨_, rfl⟩; rw [← hP] at k1 hv hv2; obtain ⟨n3, hn3⟩ : ∃ n3, n3 = P.length := ⟨_, rfl⟩; rw [← hn3] at hv hv2; subst hv; have HP := Lib.hid hP; have HN3 := Lib.hid hn3; clear hP hn3; have N1 := Lib.hid k1; have N3 := Lib.hid k3; have N4 := Lib.hid k4; clear k1 k2 k3 k4; go_frame)
    have F3 : Hid (∀ y, Value.ownBlock (.slice A3 n3 c3) = some y → w2.heap.size ≤ y) := N4.out.ge (blk_ge (Nat.le_refl _)) ch1.out.size
    have C3 : Hid (Chg (fun _ => False) w w3) := C2.out.trans (ch1.out.fresh N3.out (blk_ge (Nat.le_refl _))) (fun _ _ h => h)
    have hn3 : n3 = n + 8 := by rw [HN3.out, HP.out, List.length_append, bytesOf_length, H8.out, HN.out]; omega
    have HN3' := Lib.hid hn3
    have hn3b : n3 ≤ 140737488351240 := by omega
    have hP2 : Hid (P.length ≤ 140737488355328) := by rw [Hid, ← HN3.out]; omega
    have hBP : Hid (Byt P) := by rw [HP.out]; exact byt_mk (bytesOf_byt' s) HB.out
    have R3 : Hid (Rd w3 .u8 A3 P) := N1.out.rd (by rw [HN3.out])
    clear hcv r3 ow1 ch1 N3 N4 hn3
    go_wp2_with fail
    refine (crcCall A3 c3 n3 P w3 HN3 hBP hP2 R3).mono ?_
    rintro e w4 ⟨rfl, k1⟩
    have C4 : Hid (Chg (fun _ => False) w w4) := C3.out.trans k1 (fun _ _ h => h)
    have O4 := Lib.hid (N1.out.chg k1 (fun _ _ h => h))
    have v0 := vi_nonneg (crc P)
    have v1 := vi_lt (crc P)
    obtain ⟨x, hx⟩ : ∃ x, vi (crc P) = x := ⟨_, rfl⟩
    rw [hx] at v0 v1 ⊢
    have HX := Lib.hid hx
    have e1 : x / 256 % 256 = x / 256 % 256 := rfl
    have hB4 : Hid (OwnB (w4.alloc (.cells (nums .u8 (sumB x)).toArray 5)) (.slice (some ⟨w4.heap.size, 0, none⟩) 4 4) (sumB x)) := Own.lit w4 _ .u8 (sumB x) (by rw [sumB_length]; decide)
    clear k1 hx N1
    go_wp2_with (at_builtin; go_must (refine wp_appn (W := w4.alloc (.cells (nums .u8 (sumB x)).toArray 5)) rfl _ _ 22 5 .u8 1 rfl Try.underlying22 infoU8 (by decide) (.slice A3 n3 c3) P rfl (O4.out.alloc _) _ 4 (sumB x) 4 rfl rfl (hB4.out.rd rfl) (by rw [sumB_length, ← HN3.out]; omega) ?_); intro v' w5 k1 k2 k3 k4; obtain ⟨A5, c5, hv, hv2', hv3'⟩ := k1.slice; obtain ⟨Q, hQ⟩ : ∃ Q, Q = P ++ sumB x := ⟨_, rfl⟩; rw [← hQ] at k1 hv hv2'; obtain ⟨n5, hn5⟩ : ∃ n5, n5 = Q.length := ⟨_, rfl⟩; rw [← hn5] at hv hv2'; subst hv; have HQ := Lib.hid hQ; have HN5 := Lib.hid hn5; clear hQ hn5; have N1 := Lib.hid k1; have N3 := Lib.hid k3; clear k1 k2 k3 k4; go_frame)
    have hn5 : n5 = n + 12 := by rw [HN5.out, HQ.out, List.length_append, sumB_length, ← HN3.out, HN3'.out]
    have HN5' := Lib.hid hn5
    have hn5b : n5 ≤ 140737488351244 := by omega
    have hQ2 : Hid (Q.length ≤ 140737488355328) := by rw [Hid, ← HN5.out]; omega
    have hBQ : Hid (Byt Q) := by rw [HQ.out]; exact byt_mk hBP.out (sumB_byt x v0 v1)
    have R5 : Hid (Rd w5 .u8 A5 Q) := N1.out.rd (by rw [HN5.out])
    have C5 : Hid (Chg (fun _ => False) w w5) := (C4.out.alloc _).trans N3.out (fun y hy h => by
      have h1 := F3.out y h
      have h2 := C2.out.size
      omega)
    obtain ⟨L, p, er, hU⟩ : ∃ L p e0, unsealOf s Q = (L, p, e0) := ⟨_, _, _, rfl⟩
    have hno := unseal_no s Q
    have hsm := unsealOf_small (s := s) hBQ.out
    rw [hU] at hno hsm
    have HU := Lib.hid hU
    obtain ⟨m, hm⟩ : ∃ m : Nat, m = L.length := ⟨_, rfl⟩
    have HM := Lib.hid hm
    have HNO := Lib.hid hno
    have HSM := Lib.hid hsm
    have hm64 : m ≤ 64 := by rw [hm]; exact hsm.1
    obtain ⟨p0, p1, _⟩ := hno
    have hp1 : p ≤ (n5 : Int) := by rw [HN5.out]; exact p1
    simp only at p0
    clear hn5 hU hm p1 hsm e1 N3 hB4 F3
    go_wp2_with fail
    refine (unsealCall' HU HN5 hv2' hv3' hQ2 hBQ R5 hss).mono ?_
    rintro e w6 ⟨A6, c6, b6, rfl, m1⟩
    rw [← HM.out] at m1 ⊢
    have S6 := Lib.hid m1.secs
    have C6 : Hid (Chg (fun _ => False) w w6) := C5.out.trans m1.chg (fun _ _ h => h)
    have O6 := Lib.hid (N1.out.chg m1.chg (fun _ _ h => h))
    clear m1
    by_cases he : er = 0
    · subst he
      have hS : Hid (sealOf s L = (Q, 0)) := seal_of_unseal hBQ.out HU.out
      obtain ⟨hcap, hmx6⟩ := S6.out.cap.2
      have hE : Hid ((secsEnc L).length ≤ 140737488355200) := by
        obtain ⟨_, _, _, _, h5⟩ := unseal_form hBQ.out HU.out
        have := congrArg List.length h5
        rw [List.length_append, sumB_length, headOf_length, ← HN5.out] at this
        rw [Hid]
        omega
      have hEB : Hid (∀ x ∈ L, x.body.length ≤ 140737488355200) := fun x hx => Nat.le_trans (HSM.out.2 x hx).1 (by rw [← HN5.out]; omega)
      have r6 := Lib.hid (S6.out.rd (fun x hx => (HSM.out.2 x hx).2.1) (fun x hx => (HSM.out.2 x hx).2.2))
      go_wp2_with fail
      refine (sealCall' hS HM hss hcap hmx6 r6 hE hEB).mono ?_
      rintro e w7 ⟨A7, n7, c7, rfl, m1⟩
      have L7 := Lib.hid m1.len
      have R7 := Lib.hid m1.rd
      have C7 : Hid (Chg (fun _ => False) w w7) := C6.out.trans m1.chg (fun _ _ h => h)
      have R8 : Hid (Rd w7 .u8 A5 Q) := (O6.out.chg m1.chg (fun _ _ h => h)).rd (by rw [HN5.out])
      clear m1
      go_wp2_with fail
      refine (sameBytes' (b := true) L7 HN5 hQ2 R7 R8 (by rw [Hid]; simp)).mono ?_
      rintro e wq ⟨rfl, qa, rfl⟩
      go_wp2_with fail
      go_ret
      exact ⟨rfl, (C7.out.drewN _).done⟩
    · have hL : L = [] := HNO.out.2.2 he
      have hm0 : m = 0 := by rw [HM.out, hL]; rfl
      have hne : (er != 0) = true := by simpa using he
      clear he hL
      subst hm0
      go_wp2_with fail
      go_ret
      exact ⟨rfl, C6.out.done⟩
  · have hU : Hid (unsealOf s l = ([], 0, 1)) := unseal_1 h8
    have h8i : ¬ (s.size : Int) = 8 := by omega
    clear h8
    go_enter Try.func14, Try.ntmps14
    go_wp2_with fail
    refine (unsealCall' hU HN hnc hmx hle HB hr hss).mono ?_
    rintro e w1 ⟨A1, c1, b1, rfl, m1⟩
    have C1 := Lib.hid m1.chg
    clear m1
    go_wp2_with fail
    go_ret
    exact ⟨rfl, C1.out.done⟩
end Go.Proofs.Ytcljbaoadmflgaa.Kit
