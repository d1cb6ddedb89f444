/- Seal: the document's: Sound, sum, Seal. -/
import Derived.Test.YtcljbaoadmflgaaProg
import Derived.Test.YtcljbaoadmflgaaSecs
import Derived.Test.YtcljbaoadmflgaaCrcR
import Derived.Test.YtcljbaoadmflgaaOctL1
import Derived.Deep.QuietTactic
import Derived.BigQuiet
set_option linter.unusedVariables false
set_option linter.unusedSimpArgs false
namespace Go.Proofs.Ytcljbaoadmflgaa.Kit
open Go.RowKit
set_option maxRecDepth 20000 in
set_option maxHeartbeats 1600000 in
theorem sound (A : Option Addr) (n c : Nat) (l : List SecV) (w : World) (HN : Hid (n = l.length)) (hnl : n ≤ c) (hmx : c ≤ maxLen) (hr : Hid (RdSecs w A l)) :
    Calls Try.prog 65 #[.slice A n c] w fun e w' => e = .returned (.bool (goodSecs l)) ∧ ∃ q, w' = w.drewN q := by
  have hn63 : (n : Int) ≤ 9223372036854775807 := by simp only [maxLen] at hmx; omega
  go_enter Try.func65, Try.ntmps65
  go_wp2_with fail
  go_loopw [3] (fun i wr => ∃ k : Nat, k ≤ n ∧ i = .int .i64 k ∧ Hid (goodFrom 0 l = goodFrom (lastAt l k) (l.drop k)) ∧ Hid (0 ≤ lastAt l k) ∧ Hid (∃ q, wr = w.drewN q)) (fun i _ => n - (intOf i).toNat)
  case atStart => exact ⟨0, Nat.zero_le _, rfl, rfl, Int.le_refl 0, 0, rfl⟩
  case round =>
    obtain ⟨k, hk, rfl, GK, LK, HW⟩ := hrel
    by_cases hlt : k < n
    · have hkl : k < l.length := by rw [← HN.out]; exact hlt
      obtain ⟨ad, rfl, sa⟩ := hr.out k hkl
      have f0 : wr.cell? (ad.add (k * 2)) = some (.int .i64 l[k].id) := by
        obtain ⟨q, hq⟩ := HW.out
        rw [hq]
        exact sa.id
      have G1 := good_step hkl
      have hla : Hid (lastAt l (k + 1) = l[k].id) := by rw [Hid]; simp [lastAt, List.getElem?_eq_getElem hkl]
      have b1 : (0 : Int) ≤ (k : Int) := by omega
      have b2 : (k : Int) < (n : Int) := by omega
      by_cases q1 : l[k].id < 1
      · have hbad : Hid (goodSecs l = false) := by
          have h1 := LK.out
          have h2 : goodFrom 0 l = false := by rw [GK.out, G1, decide_eq_false (by omega), Bool.false_and]
          rw [Hid, goodSecs, h2, Bool.and_false]
        clear G1 hla
        generalize l[k].id = x at f0 q1
        go_wp2_with fail
        go_quiet (fail)
        go_wp2_with fail
        go_ret
        obtain ⟨q, hq⟩ := HW.out
        exact ⟨ret_bool hbad.out.symm, _, by rw [hq, World.drewN_drewN]⟩
      · by_cases q2 : 255 < l[k].id
        · have hbad : Hid (goodSecs l = false) := by
            have h2 : goodFrom 0 l = false := by rw [GK.out, G1, decide_eq_false (p := l[k].id ≤ 255) (by omega), Bool.false_and, Bool.and_false]
            rw [Hid, goodSecs, h2, Bool.and_false]
          clear G1 hla
          generalize l[k].id = x at f0 q1 q2
          have q1' : decide (x < 1) = false := decide_eq_false q1
          go_wp2_with fail
          go_quiet (fail)
          go_wp2_with fail
          go_ret
          obtain ⟨q, hq⟩ := HW.out
          exact ⟨ret_bool hbad.out.symm, _, by rw [hq, World.drewN_drewN]⟩
        · have hgo : Hid (lastAt l k < l[k].id → goodFrom 0 l = goodFrom (lastAt l (k + 1)) (l.drop (k + 1))) := fun h => by
            rw [GK.out, G1, decide_eq_true h, decide_eq_true (p := l[k].id ≤ 255) (by omega), Bool.true_and, Bool.true_and]
          have hnot : Hid (¬ lastAt l k < l[k].id → goodSecs l = false) := fun h => by
            have h2 : goodFrom 0 l = false := by rw [GK.out, G1, decide_eq_false h, Bool.false_and]
            rw [goodSecs, h2, Bool.and_false]
          clear G1
          rcases k with _ | j
          · have hx : Hid (lastAt l 0 < l[0].id) := by rw [Hid]; show (0 : Int) < _; omega
            have hd : decide ((0 : Int) > 0) = false := rfl
            generalize l[0].id = x at f0 q1 q2 hla hgo hnot hx
            have q1' : decide (x < 1) = false := decide_eq_false q1
            have q2' : decide (255 < x) = false := decide_eq_false q2
            have f0' : wr.cell? ad = some (.int .i64 x) := by
              have := f0
              rw [show ad.add (0 * 2) = ad from by unfold Addr.add; simp] at this
              exact this
            go_wp2_with fail
            go_quiet (fail)
            go_wp2_with fail
            go_roundw
            case rel =>
              obtain ⟨q, hq⟩ := HW.out
              exact ⟨1, by omega, by go_num, hgo.out hx.out, by rw [Hid, hla.out]; omega, _, by rw [hq, World.drewN_drewN]⟩
            case measure => simp [intOf]; omega
          · have fp : wr.cell? (ad.add (j * 2)) = some (.int .i64 l[j].id) := by
              obtain ⟨q, hq⟩ := HW.out
              obtain ⟨ad', e', sb⟩ := hr.out j (by omega)
              injection e' with e'
              subst e'
              rw [hq]
              exact sb.id
            have hlj : Hid (lastAt l (j + 1) = l[j].id) := by rw [Hid]; simp [lastAt, List.getElem?_eq_getElem (show j < l.length by omega)]
            have E1 : IntKind.i64.wrap ((j : Int) + 1 - 1) = (j : Int) := IntWalk.i64_in _ (by omega) |>.trans (by omega)
            have E2 : (j : Int) + 1 - 1 = (j : Int) := by omega
            have b3 : (j : Int) < (n : Int) := by omega
            by_cases q3 : l[j + 1].id ≤ l[j].id
            · have hbad : Hid (goodSecs l = false) := hnot.out (by rw [hlj.out]; omega)
              generalize l[j + 1].id = x at f0 q1 q2 q3 hla hgo hnot
              generalize l[j].id = y at fp q3 hlj
              have q1' : decide (x < 1) = false := decide_eq_false q1
              have q2' : decide (255 < x) = false := decide_eq_false q2
              go_wp2_with fail
              go_quiet (fail)
              go_wp2_with fail
              go_ret
              obtain ⟨q, hq⟩ := HW.out
              exact ⟨ret_bool hbad.out.symm, _, by rw [hq, World.drewN_drewN]⟩
            · have hgood := Lib.hid (hgo.out (by rw [hlj.out]; omega))
              generalize l[j + 1].id = x at f0 q1 q2 q3 hla hgo hnot hgood
              generalize l[j].id = y at fp q3 hlj
              have q1' : decide (x < 1) = false := decide_eq_false q1
              have q2' : decide (255 < x) = false := decide_eq_false q2
              have q3' : decide (x ≤ y) = false := decide_eq_false q3
              go_wp2_with fail
              go_quiet (fail)
              go_wp2_with fail
              go_roundw
              case rel =>
                obtain ⟨q, hq⟩ := HW.out
                exact ⟨j + 1 + 1, by omega, by go_num, hgood.out, by rw [Hid, hla.out]; omega, _, by rw [hq, World.drewN_drewN]⟩
              case measure => simp [intOf]; omega
    · obtain rfl : k = n := by omega
      go_wp2_with fail
      go_ret
      obtain ⟨q, hq⟩ := HW.out
      have hd : l.drop k = [] := List.drop_eq_nil_of_le (by rw [← HN.out]; exact Nat.le_refl _)
      refine ⟨ret_bool ?_, q, hq⟩
      have h1 := GK.out
      rw [hd] at h1
      rw [goodSecs, h1, ← HN.out]
      simp [goodFrom]
      omega
set_option maxRecDepth 20000 in
set_option maxHeartbeats 1600000 in
theorem sumRef (A : Option Addr) (n c : Nat) (l : List Int) (w : World) (hn : Hid (n = l.length)) (hb : Hid (Byt l)) (hl : Hid (l.length ≤ 140737488355328)) (hr : Hid (Rd w .u8 A l)) :
    Calls Try.prog 66 #[.slice A n c] w fun e w' => ∃ A' c', e = .returned (.slice A' 4 c') ∧ Made w w' A' 4 c' (sumB (vi (crc l))) := by
  have v0 := vi_nonneg (crc l)
  have v1 := vi_lt (crc l)
  go_enter Try.func66, Try.ntmps66
  go_wp2_with fail
  refine (crcRef A c n l w hn hb hl hr).mono ?_
  rintro e w' ⟨rfl, rfl⟩
  obtain ⟨x, hx⟩ : ∃ x, x = vi (crc l) := ⟨_, rfl⟩
  rw [← hx] at v0 v1
  have HX := Lib.hid hx
  rw [← hx]
  clear hx
  go_wp2_with fail
  go_ret
  rw [← HX.out]
  exact ⟨_, _, rfl, rfl, Own.lit w _ .u8 (sumB x) (by rw [sumB_length]; decide), (Chg.refl _ w).alloc _, fun k h => by simp [Value.ownBlock] at h; omega, Nat.le_refl _⟩
set_option maxRecDepth 20000 in
set_option maxHeartbeats 3200000 in
theorem sealRef (s : ByteArray) (A : Option Addr) (n c : Nat) (l : List SecV) (w : World) (HN : Hid (n = l.length)) (hs : s.size ≤ 140737488355328) (hnl : n ≤ c) (hmx : c ≤ maxLen) (hr : Hid (RdSecs w A l)) (hB : Hid ((secsEnc l).length ≤ 140737488355200)) (hb : Hid (∀ x ∈ l, x.body.length ≤ 140737488355200)) :
    Calls Try.prog 41 #[.string s, .slice A n c] w fun e w' => ∃ A' n' c', e = .returned (.tuple #[.slice A' n' c', .int .i64 (sealOf s l).2]) ∧ Made w w' A' n' c' (sealOf s l).1 := by
  by_cases h8 : s.size = 8
  · have h8' : ¬ s.size ≠ 8 := by simp [h8]
    have h8i : (s.size : Int) = 8 := by omega
    by_cases hg : goodSecs l = true
    · have hS : Hid (sealOf s l = (headOf s l ++ sumB (vi (crc (headOf s l))), 0)) := by rw [Hid, sealOf, if_neg h8', if_pos hg]
      have h64 : Hid (n ≤ 64) := by
        have := HN.out
        simp [goodSecs] at hg
        rw [Hid]
        omega
      have hgf : Hid (∀ x ∈ l, 0 < x.id ∧ x.id ≤ 255) := by
        have h2 : goodFrom 0 l = true := by
          simp only [goodSecs, Bool.and_eq_true] at hg
          exact hg.2
        exact good_all l 0 (Int.le_refl 0) h2
      have HG := Lib.hid hg
      have H8 := Lib.hid h8
      have hcv : ∀ W : World, (convert 9 22 (.string s)).run Try.prog W = .ok (.slice (some ⟨W.heap.size, 0, none⟩) s.size (grownCap W s.size 0 5)) (Lib.bytesWorld W 5 s) := fun W => Lib.run_convert_string_bytes W _ _ _ s Try.underlying9 Try.underlying22 Try.underlying5
      have hn0 : (0 : Int) ≤ (n : Int) := by omega
      have hvn : Hid ((vb n).length ≤ 10) := vb_len10 (by have := h64.out; omega)
      clear h8 h8' hg
      go_enter Try.func41, Try.ntmps41
      go_wp2_with fail
      refine (sound A n c l w HN hnl hmx hr).mono ?_
      rintro e w1 ⟨rfl, q, rfl⟩
      rw [HG.out]
      have ch1 : Hid (Chg (fun _ => False) w (Lib.bytesWorld (w.drewN q) 5 s)) := ((Chg.refl _ w).drewN q).trans (bytesWorld_chg (w.drewN q) _ s) (fun _ _ h => h)
      have ow1 := Lib.hid (bytesWorld_own (w.drewN q) 5 s (by omega))
      have E1 : IntKind.u64.wrap (n : Int) = (n : Int) := IntWalk.u64_in _ (by have := h64.out; omega)
      have h64' := h64.out
      go_wp2_with fail
      refine (varintRef (n : Int) _ (by omega) (by omega)).mono ?_
      rintro e w2 ⟨A1, n1, c1, rfl, m1⟩
      rw [Int.toNat_natCast] at m1
      have M1 := Lib.hid m1
      clear m1
      have q2 : Hid (s.size = (bytesOf s).length) := (bytesOf_length s).symm
      have q1 : Hid ((bytesOf s).length + (vb n).length ≤ 140737488355328) := by rw [Hid, bytesOf_length]; have := hvn.out; have := H8.out; omega
      have q3 : Hid (Rd w2 .u8 (some ⟨w.heap.size, 0, none⟩) (bytesOf s)) := (ow1.out.rd (A := some ⟨w.heap.size, 0, none⟩) (by rw [bytesOf_length]; rfl)).below M1.out.chg.done
      have q4 : Hid (Rd w2 .u8 A1 (vb n)) := M1.out.rd
      have q5 : Hid (n1 = (vb n).length) := M1.out.len
      go_wp2_with fail
      refine (joined' q2 q5 q1 q3 q4).mono ?_
      rintro e w3 ⟨A2, n2, c2, rfl, m2⟩
      have C3 : Hid (Chg (fun _ => False) w w3) := (ch1.out.trans M1.out.chg (fun _ _ h => h)).trans m2.chg (fun _ _ h => h)
      have R3 := Lib.hid m2.rd
      have L3 := Lib.hid m2.len
      clear m2 q1 q2 q3 q4 q5 M1 ch1 ow1
      go_wp2_with fail
      go_loopw [7, 8] (fun b i wr => ∃ k : Nat, k ≤ n ∧ i = .int .i64 k ∧ ∃ Ab nb cb, b = .slice Ab nb cb ∧ Hid (nb = (bytesOf s ++ vb n ++ secsEnc (l.take k)).length) ∧ Hid (Rd wr .u8 Ab (bytesOf s ++ vb n ++ secsEnc (l.take k))) ∧ Hid (Chg (fun _ => False) w wr)) (fun _ i _ => n - (intOf i).toNat)
      case atStart => exact ⟨0, Nat.zero_le _, rfl, _, _, _, rfl, by have := L3.out; rw [Hid]; simpa [secsEnc] using this, by have := R3.out; rw [Hid]; simpa [secsEnc] using this, C3.out⟩
      case round =>
        obtain ⟨k, hk, rfl, Ab, nb, cb, rfl, LK, RK, CK⟩ := hrel
        by_cases hlt : k < n
        · have hkl : k < l.length := by rw [← HN.out]; exact hlt
          obtain ⟨ad, rfl, sa⟩ := hr.out k hkl
          obtain ⟨B, d, f1, f2, f3, f4⟩ := sa.body
          have f0 := CK.out.cell (fun h => h) sa.id
          have f1' := f1
          replace f1 := CK.out.cell (fun h => h) f1
          have E1 := secsEnc_succ l k hkl
          have hle := secsEnc_le l (k + 1)
          rw [E1, List.length_append] at hle
          obtain ⟨x, hx⟩ : ∃ x, x = l[k] := ⟨_, rfl⟩
          have hid := hgf.out x (by rw [hx]; exact List.getElem_mem hkl)
          have hid2 := sa.id
          rw [← hx] at f0 f1 f1' f2 f4 E1 hle sa hid2
          obtain ⟨i1, i2⟩ := hid
          obtain ⟨m, hm⟩ : ∃ m, m = x.body.length := ⟨_, rfl⟩
          rw [← hm] at f1 f1' f2
          have HM := Lib.hid hm
          have HE1 := Lib.hid E1
          have hvi : Hid ((vb x.id.toNat).length ≤ 10) := vb_len10 (by omega)
          have hlens : Hid ((bytesOf s ++ vb n ++ secsEnc (l.take k)).length + (vb x.id.toNat).length + (vb m).length + m ≤ 140737488355328) := by
            rw [Hid, List.length_append, List.length_append, bytesOf_length]
            have h1 := hle
            have h2 := hB.out
            have h3 := H8.out
            have h4 := hvn.out
            have h5 := HM.out
            simp only [SecV.enc, List.length_append] at h1
            rw [← hm] at h1
            omega
          have hm0 : (0 : Int) ≤ (m : Int) ∧ (m : Int) ≤ 18446744073709551615 := by
            have := hlens.out
            omega
          have F4 := Lib.hid f4
          have HC : Hid (∀ W, Chg (fun _ => False) w W → W.cell? ⟨(ad.add (k * 2)).block, (ad.add (k * 2)).off + 1, none⟩ = some (.slice B m d) ∧ W.cell? (ad.add (k * 2)) = some (.int .i64 x.id)) := fun W hW => ⟨hW.cell (fun h => h) f1', hW.cell (fun h => h) hid2⟩
          clear hx hm sa hkl E1 hle f4 f1' hid2
          have E2 : IntKind.u64.wrap x.id = x.id := IntWalk.u64_in _ (by omega)
          have E3 : IntKind.u64.wrap (m : Int) = (m : Int) := IntWalk.u64_in _ (by omega)
          have b1 : (0 : Int) ≤ (k : Int) := by omega
          have b2 : (k : Int) < (n : Int) := by omega
          go_wp2_with fail
          refine (varintRef x.id _ (by omega) (by omega)).mono ?_
          rintro e w4 ⟨A1, n1, c1, rfl, m1⟩
          have M1 := Lib.hid m1
          clear m1
          have C4 : Hid (Chg (fun _ => False) w w4) := CK.out.trans M1.out.chg (fun _ _ h => h)
          have q1 : Hid ((bytesOf s ++ vb n ++ secsEnc (l.take k)).length + (vb x.id.toNat).length ≤ 140737488355328) := by have := hlens.out; rw [Hid]; omega
          have q3 : Hid (Rd w4 .u8 Ab (bytesOf s ++ vb n ++ secsEnc (l.take k))) := RK.out.below M1.out.chg.done
          have q4 : Hid (Rd w4 .u8 A1 (vb x.id.toNat)) := M1.out.rd
          have q5 : Hid (n1 = (vb x.id.toNat).length) := M1.out.len
          go_wp2_with fail
          refine (joined' LK q5 q1 q3 q4).mono ?_
          rintro e w5 ⟨A5, n5, c5, rfl, m2⟩
          have C5 : Hid (Chg (fun _ => False) w w5) := C4.out.trans m2.chg (fun _ _ h => h)
          have R5 := Lib.hid m2.rd
          have L5 := Lib.hid m2.len
          clear m2 q1 q3 q4 q5 M1 C4
          obtain ⟨f5, _⟩ := HC.out w5 C5.out
          go_wp2_with fail
          refine (varintRef (m : Int) _ (by omega) (by omega)).mono ?_
          rintro e w6 ⟨A6, n6, c6, rfl, m1⟩
          rw [Int.toNat_natCast] at m1
          have M1 := Lib.hid m1
          clear m1
          have C6 : Hid (Chg (fun _ => False) w w6) := C5.out.trans M1.out.chg (fun _ _ h => h)
          have q1 : Hid ((bytesOf s ++ vb n ++ secsEnc (l.take k) ++ vb x.id.toNat).length + (vb m).length ≤ 140737488355328) := by have := hlens.out; rw [Hid, List.length_append]; omega
          have q3 := Lib.hid (R5.out.below M1.out.chg.done)
          have q4 : Hid (Rd w6 .u8 A6 (vb m)) := M1.out.rd
          have q5 : Hid (n6 = (vb m).length) := M1.out.len
          go_wp2_with fail
          refine (joined' L5 q5 q1 q3 q4).mono ?_
          rintro e w7 ⟨A7, n7, c7, rfl, m2⟩
          have C7 : Hid (Chg (fun _ => False) w w7) := C6.out.trans m2.chg (fun _ _ h => h)
          have R7 := Lib.hid m2.rd
          have L7 := Lib.hid m2.len
          clear m2 q1 q3 q4 q5 M1 C6 R5 L5
          obtain ⟨f7, _⟩ := HC.out w7 C7.out
          have q1 : Hid ((bytesOf s ++ vb n ++ secsEnc (l.take k) ++ vb x.id.toNat ++ vb m).length + x.body.length ≤ 140737488355328) := by have := hlens.out; have := HM.out; rw [Hid, List.length_append, List.length_append]; omega
          have q4 : Hid (Rd w7 .u8 B x.body) := F4.out.below C7.out.done
          go_wp2_with fail
          refine (joined' L7 HM q1 R7 q4).mono ?_
          rintro e w8 ⟨A8, n8, c8, rfl, m2⟩
          have C8 : Hid (Chg (fun _ => False) w w8) := C7.out.trans m2.chg (fun _ _ h => h)
          have hev : bytesOf s ++ vb n ++ secsEnc (l.take k) ++ vb x.id.toNat ++ vb m ++ x.body = bytesOf s ++ vb n ++ secsEnc (l.take (k + 1)) := by
            rw [HE1.out, HM.out]
            simp [SecV.enc, List.append_assoc]
          rw [hev] at m2
          have R8 := Lib.hid m2.rd
          have L8 := Lib.hid m2.len
          clear m2 q1 q4 hev
          go_wp2_with fail
          go_roundw
          case rel => exact ⟨k + 1, by omega, by go_num, _, _, _, rfl, L8.out, R8.out, C8.out⟩
          case measure => simp [intOf]; omega
        · obtain rfl : k = n := by omega
          have htk : l.take k = l := List.take_of_length_le (by rw [← HN.out]; exact Nat.le_refl _)
          have hhd : bytesOf s ++ vb k ++ secsEnc (l.take k) = headOf s l := by rw [htk, headOf, ← HN.out]
          rw [hhd] at LK RK
          have hbt : Hid (Byt (headOf s l)) := headOf_byt s l (fun x hx => by
            obtain ⟨i, hi, rfl⟩ := List.getElem_of_mem hx
            obtain ⟨_, _, sa⟩ := hr.out i hi
            exact sa.byt)
          have hll : Hid ((headOf s l).length + (sumB (vi (crc (headOf s l)))).length ≤ 140737488355328) := by
            rw [Hid, headOf_length, ← HN.out, sumB_length]
            have h1 := hvn.out
            have h2 := hB.out
            have h3 := H8.out
            omega
          have hll' : Hid ((headOf s l).length ≤ 140737488355328) := Nat.le_of_add_right_le hll.out
          clear htk hhd
          go_wp2_with fail
          refine (sumRef Ab nb cb _ wr LK hbt hll' RK).mono ?_
          rintro e w7 ⟨A7, c7, rfl, m1⟩
          have C7 : Hid (Chg (fun _ => False) w w7) := CK.out.trans m1.chg (fun _ _ h => h)
          have q3 := Lib.hid (RK.out.below m1.chg.done)
          have q4 := Lib.hid m1.rd
          have q5 : Hid (4 = (sumB (vi (crc (headOf s l)))).length) := Lib.hid m1.len
          clear m1
          go_wp2_with fail
          refine (joined' LK q5 hll q3 q4).mono ?_
          rintro e w8 ⟨A8, n8, c8, rfl, m2⟩
          have M2 := Lib.hid m2
          clear m2
          go_wp2_with fail
          go_ret2
          rw [hS.out]
          exact ⟨_, _, _, rfl, M2.out.len, M2.out.own, C7.out.trans M2.out.chg (fun _ _ h => h), fun y hy => Nat.le_trans C7.out.size (M2.out.new y hy), M2.out.cap⟩
    · have hS : Hid (sealOf s l = ([], 45)) := by rw [Hid, sealOf, if_neg h8', if_neg hg]
      have hg' : goodSecs l = false := by simpa using hg
      have HG := Lib.hid hg'
      clear hg' hg h8'
      go_enter Try.func41, Try.ntmps41
      go_wp2_with fail
      refine (sound A n c l w HN hnl hmx hr).mono ?_
      rintro e w1 ⟨rfl, q, rfl⟩
      rw [HG.out]
      go_wp2_with fail
      go_ret2
      rw [hS.out]
      exact ⟨_, _, _, rfl, rfl, Own.nil _ _ _, (Chg.refl _ w).drewN q, fun k h => by simp [Value.ownBlock] at h, Nat.le_refl _⟩
  · have hS : Hid (sealOf s l = ([], 1)) := by rw [Hid, sealOf, if_pos h8]
    have h8i : ¬ (s.size : Int) = 8 := by omega
    go_enter Try.func41, Try.ntmps41
    go_wp2_with fail
    go_ret2
    rw [hS.out]
    exact ⟨_, _, _, rfl, made0 w⟩
end Go.Proofs.Ytcljbaoadmflgaa.Kit
