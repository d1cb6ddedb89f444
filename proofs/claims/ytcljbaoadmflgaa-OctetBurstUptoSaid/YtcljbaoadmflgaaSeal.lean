/- Seal: the walk of the program's. -/
import Derived.Test.YtcljbaoadmflgaaProg
import Derived.Test.YtcljbaoadmflgaaSecs
import Derived.Test.YtcljbaoadmflgaaCrc
import Derived.Test.YtcljbaoadmflgaaOctL1
set_option linter.unusedVariables false
set_option linter.unusedSimpArgs false
namespace Go.Proofs.Ytcljbaoadmflgaa.Kit
open Go.RowKit
set_option maxRecDepth 20000 in
set_option maxHeartbeats 1600000 in
theorem appendSum (v : Value) (l : List Int) (x : Int) (w : World) (hx : 0 ≤ x) (hx1 : x < 4294967296) (hown : Hid (OwnB w v l)) (hlen : l.length + 4 ≤ 140737488355328) :
    Calls Try.prog 64 #[v, .int .u32 x] w (Appended v l (sumB x) w) := by
  have e1 : x / 256 % 256 = x / 256 % 256 := rfl
  have HL : Hid (l.length + 4 ≤ 140737488355328) := hlen
  have hB : Hid (OwnB (w.alloc (.cells (nums .u8 (sumB x)).toArray 5)) (.slice (some ⟨w.heap.size, 0, none⟩) 4 4) (sumB x)) := Own.lit w _ .u8 (sumB x) (by rw [sumB_length]; decide)
  go_enter Try.func64, Try.ntmps64
  go_wp2_with (at_builtin; go_must (refine wp_appn (W := w.alloc (.cells (nums .u8 (sumB x)).toArray 5)) rfl _ _ 22 5 .u8 1 rfl Try.underlying22 infoU8 (by decide) v l rfl (hown.out.alloc _) _ 4 (sumB x) 4 rfl rfl (hB.out.rd rfl) (by rw [sumB_length]; omega) ?_); intro v' w1 k1 k2 k3 k4; have N1 := Lib.hid k1; have N2 := Lib.hid k2; have N3 := Lib.hid k3; have N4 := Lib.hid k4; clear k1 k2 k3 k4)
  go_ret
  refine ⟨_, rfl, N1.out, rd_of_own N2.out, ((Chg.refl _ w).alloc _).trans N3.out (fun _ _ h => h), N4.out.imp id fun h x hx => ?_⟩
  have := h x hx
  simp at this
  omega
set_option maxRecDepth 20000 in
set_option maxHeartbeats 3200000 in
theorem sealCall (s : ByteArray) (A : Option Addr) (n c : Nat) (l : List SecV) (w : World) (HN : Hid (n = l.length)) (hs : s.size ≤ 140737488355328) (hnl : n ≤ c) (hmx : c ≤ maxLen) (hr : Hid (RdSecs w A l)) (hB : Hid ((secsEnc l).length ≤ 140737488355200)) (hb : Hid (∀ x ∈ l, x.body.length ≤ 140737488355200)) :
    Calls Try.prog 40 #[.string s, .slice A n c] w fun e w' => ∃ A' n' c', e = .returned (.tuple #[.slice A' n' c', .int .i64 (sealOf s l).2]) ∧ Made w w' A' n' c' (sealOf s l).1 := by
  by_cases h8 : s.size = 8
  · have h8' : ¬ s.size ≠ 8 := by simp [h8]
    have h8i : (s.size : Int) = 8 := by omega
    by_cases h64 : 64 < n
    · have h64i : (64 : Int) < (n : Int) := by omega
      have hS : Hid (sealOf s l = ([], 45)) := by
        have := HN.out
        rw [Hid, sealOf, if_neg h8', if_neg]
        simp [goodSecs]
        omega
      clear h8 h8'
      go_enter Try.func40, Try.ntmps40
      go_wp2_with fail
      go_ret2
      rw [hS.out]
      exact ⟨_, _, _, rfl, made0 w⟩
    · have h64i : ¬ (64 : Int) < (n : Int) := by omega
      have hS : Hid (sealOf s l = if goodFrom 0 l = true then (headOf s l ++ sumB (vi (crc (headOf s l))), 0) else ([], 45)) := by
        rw [Hid, sealOf, if_neg h8', goodSecs, decide_eq_true (by rw [← HN.out]; omega), Bool.true_and]
      have H8 := Lib.hid h8
      have hcv : ∀ W : World, (convert 9 22 (.string s)).run Try.prog W = .ok (.slice (some ⟨W.heap.size, 0, none⟩) s.size (grownCap W s.size 0 5)) (Lib.bytesWorld W 5 s) := fun W => Lib.run_convert_string_bytes W _ _ _ s Try.underlying9 Try.underlying22 Try.underlying5
      have ch1 : Hid (Chg (fun _ => False) w (Lib.bytesWorld w 5 s)) := bytesWorld_chg w _ s
      have ow1 := Lib.hid (bytesWorld_own w 5 s (by omega))
      have hn0 : (0 : Int) ≤ (n : Int) := by omega
      have hvn : Hid ((vb n).length ≤ 10) := vb_len10 (by omega)
      clear h8 h8'
      go_enter Try.func40, Try.ntmps40
      go_wp2_with fail
      refine (appendUint' _ (bytesOf s) (n : Int) _ (by omega) ow1 (by rw [Int.toNat_natCast, bytesOf_length]; have := hvn.out; have := H8.out; omega)).mono ?_
      rintro e w2 ⟨v2, rfl, k1, _, k3, k4⟩
      rw [Int.toNat_natCast] at k1
      have O2 := Lib.hid k1
      have F2 : Hid (∀ x, v2.ownBlock = some x → w.heap.size ≤ x) := k4.ge (blk_ge (Nat.le_refl _)) ch1.out.size
      have C2 : Hid (Chg (fun _ => False) w w2) := ch1.out.fresh k3 (blk_ge (Nat.le_refl _))
      clear k1 k3 k4 ch1 ow1
      go_wp2_with fail
      go_loopw [6, 7, 24] (fun b la i wr => ∃ k : Nat, k ≤ n ∧ i = .int .i64 k ∧ la = .int .i64 (lastAt l k) ∧ Hid (OwnB wr b (bytesOf s ++ vb n ++ secsEnc (l.take k))) ∧ Hid (∀ x, b.ownBlock = some x → w.heap.size ≤ x) ∧ Hid (Chg (fun _ => False) w wr) ∧ Hid (goodFrom 0 l = goodFrom (lastAt l k) (l.drop k)) ∧ Hid (0 ≤ lastAt l k)) (fun _ _ i _ => n - (intOf i).toNat)
      case atStart => exact ⟨0, Nat.zero_le _, rfl, rfl, by have := O2.out; rw [Hid]; simpa [secsEnc] using this, F2.out, C2.out, rfl, Int.le_refl 0⟩
      case round =>
        obtain ⟨k, hk, rfl, rfl, OK, FK, CK, GK, LK⟩ := hrel
        by_cases hlt : k < n
        · have hkl : k < l.length := by rw [← HN.out]; exact hlt
          obtain ⟨ad, rfl, sa⟩ := hr.out k hkl
          obtain ⟨B, d, f1, f2, f3, f4⟩ := sa.body
          have f0 := CK.out.cell (fun h => h) sa.id
          replace f1 := CK.out.cell (fun h => h) f1
          have G1 := good_step hkl
          have E1 := secsEnc_succ l k hkl
          have hle := secsEnc_le l (k + 1)
          rw [E1, List.length_append] at hle
          obtain ⟨x, hx⟩ : ∃ x, x = l[k] := ⟨_, rfl⟩
          have hmx := hb.out x (by rw [hx]; exact List.getElem_mem hkl)
          have hla : Hid (lastAt l (k + 1) = x.id) := by rw [Hid, hx]; simp [lastAt, List.getElem?_eq_getElem hkl]
          rw [← hx] at f0 f1 f2 f4 G1 E1 hle sa
          obtain ⟨m, hm⟩ : ∃ m, m = x.body.length := ⟨_, rfl⟩
          rw [← hm] at f1 f2 hmx
          obtain ⟨r1, r2⟩ := sa.rng
          have hby := Lib.hid sa.byt
          have HM := Lib.hid hm
          have HG1 := Lib.hid G1
          have HE1 := Lib.hid E1
          have HLE := Lib.hid hle
          have F4 := Lib.hid f4
          clear hx hm sa hkl G1 E1 hle f4
          generalize lastAt l k = la at HG1 GK LK
          by_cases q1 : x.id ≤ la
          · have hbad : Hid (goodFrom 0 l = false) := by
              rw [Hid, GK.out, HG1.out, decide_eq_false (by omega), Bool.false_and]
            go_wp2_with fail
            go_ret2
            rw [hS.out, if_neg (by rw [hbad.out]; decide)]
            exact ⟨_, _, _, rfl, rfl, Own.nil _ _ _, CK.out.alloc _, fun k h => by simp [Value.ownBlock] at h, Nat.le_refl _⟩
          · by_cases q2 : 255 < x.id
            · have hbad : Hid (goodFrom 0 l = false) := by
                rw [Hid, GK.out, HG1.out, decide_eq_false (p := x.id ≤ 255) (by omega), Bool.false_and, Bool.and_false]
              go_wp2_with fail
              go_ret2
              rw [hS.out, if_neg (by rw [hbad.out]; decide)]
              exact ⟨_, _, _, rfl, rfl, Own.nil _ _ _, CK.out.alloc _, fun k h => by simp [Value.ownBlock] at h, Nat.le_refl _⟩
            · have hx0 : 0 ≤ x.id := by have := LK.out; omega
              have E1 : IntKind.u64.wrap x.id = x.id := IntWalk.u64_in _ (by omega)
              have hgo : Hid (goodFrom 0 l = goodFrom (lastAt l (k + 1)) (l.drop (k + 1))) := by
                rw [Hid, GK.out, HG1.out, decide_eq_true (p := la < x.id) (by omega), decide_eq_true (p := x.id ≤ 255) (by omega), Bool.true_and, Bool.true_and]
              have hvi : Hid ((vb x.id.toNat).length ≤ 10) := vb_len10 (by omega)
              have hlens : Hid ((bytesOf s ++ vb n ++ secsEnc (l.take k)).length + (vb x.id.toNat).length + 10 + m ≤ 140737488355328) := by
                rw [Hid, List.length_append, List.length_append, bytesOf_length]
                have h1 := HLE.out
                have h2 := hB.out
                have h3 := H8.out
                have h4 := hvn.out
                have h5 := HM.out
                simp only [SecV.enc, List.length_append] at h1
                omega
              have OB : Hid (OwnB (wr.alloc (.cells #[.int .i64 x.id, .slice B m d] 80)) u6 (bytesOf s ++ vb n ++ secsEnc (l.take k))) := OK.out.alloc _
              have BX : Hid (Blk (wr.alloc (.cells #[.int .i64 x.id, .slice B m d] 80)) wr.heap.size 80 [.int .i64 x.id, .slice B m d]) := Blk.new wr _ _
              have hnb : Hid (∀ y, u6.ownBlock = some y → y ≠ wr.heap.size) := fun y hy e => by have := OK.out.lt y hy; omega
              go_wp2_with fail
              refine (appendUint' _ _ x.id _ hx0 OB (by have := hlens.out; omega)).mono ?_
              rintro e w3 ⟨v3, rfl, k1, _, k3, k4⟩
              have O3 := Lib.hid k1
              have F3 : Hid (∀ y, v3.ownBlock = some y → w.heap.size ≤ y) := k4.ge FK.out (by have := CK.out.size; simp; omega)
              have C3 : Hid (Chg (fun _ => False) w w3) := (CK.out.alloc _).fresh k3 FK.out
              have B3 : Hid (Blk w3 wr.heap.size 80 [.int .i64 x.id, .slice B m d]) := BX.out.chg k3 (fun e => hnb.out _ e rfl)
              have c3 : w3.cell? ⟨wr.heap.size, 1, none⟩ = some (.slice B m d) := B3.out.at_ rfl
              have hcs : (convert 22 9 (.slice B m d)).run Try.prog w3 = .ok (.string (strOf x.body)) w3 := conv_str w3 B m d x.body HM.out (F4.out.below C3.out.done)
              clear k1 k3 k4 OB BX
              go_wp2_with fail
              have hsz : Hid ((strOf x.body).size = m) := by rw [Hid, strOf_size, HM.out]
              refine (appendText v3 _ (strOf x.body) w3 (by rw [hsz.out]; omega) O3 (by rw [hsz.out, List.length_append]; have := hlens.out; omega)).mono ?_
              rintro e w4 ⟨v4, rfl, k1, _, k3, k4⟩
              have F4 : Hid (∀ y, v4.ownBlock = some y → w.heap.size ≤ y) := k4.ge F3.out C3.out.size
              have C4 : Hid (Chg (fun _ => False) w w4) := C3.out.fresh k3 F3.out
              have O4 : Hid (OwnB w4 v4 (bytesOf s ++ vb n ++ secsEnc (l.take (k + 1)))) := by
                rw [hsz.out, bytesOf_strOf hby.out, HM.out] at k1
                rw [Hid, HE1.out]
                unfold SecV.enc
                simpa [List.append_assoc] using k1
              clear k1 k3 k4
              go_wp2_with fail
              go_roundw
              case rel => exact ⟨k + 1, by omega, by go_num, by rw [hla.out], O4.out, F4.out, C4.out, hgo.out, by rw [Hid, hla.out]; exact hx0⟩
              case measure => simp [intOf]; omega
        · obtain rfl : k = n := by omega
          have htk : l.take k = l := List.take_of_length_le (by rw [← HN.out]; exact Nat.le_refl _)
          have hdk : l.drop k = [] := List.drop_eq_nil_of_le (by rw [← HN.out]; exact Nat.le_refl _)
          have hgood : Hid (goodFrom 0 l = true) := by rw [Hid, GK.out, hdk]; rfl
          have hhd : bytesOf s ++ vb k ++ secsEnc (l.take k) = headOf s l := by rw [htk, headOf, ← HN.out]
          have OH := OK.out
          rw [hhd] at OH
          obtain ⟨A6, c6, hu6, hc6, _⟩ := OH.slice
          obtain ⟨n6, hn6⟩ : ∃ n6, n6 = (headOf s l).length := ⟨_, rfl⟩
          rw [← hn6] at hu6 hc6
          subst hu6
          have HN6 := Lib.hid hn6
          have O6 := Lib.hid OH
          have hbt : Hid (Byt (headOf s l)) := headOf_byt s l (fun x hx => by
            obtain ⟨i, hi, rfl⟩ := List.getElem_of_mem hx
            obtain ⟨_, _, sa⟩ := hr.out i hi
            exact sa.byt)
          have hll : Hid ((headOf s l).length + 4 ≤ 140737488355328) := by
            rw [Hid, headOf_length, ← HN.out]
            have h1 := hvn.out
            have h2 := hB.out
            have h3 := H8.out
            omega
          have hll' : Hid ((headOf s l).length ≤ 140737488355328) := Nat.le_of_add_right_le hll.out
          have R6 : Hid (Rd wr .u8 A6 (headOf s l)) := O6.out.rd (by rw [← HN6.out])
          clear htk hdk hhd OH hn6 OK
          go_wp2_with fail
          refine (crcCall A6 c6 n6 _ wr HN6 hbt hll' R6).mono ?_
          rintro e w7 ⟨rfl, k1⟩
          have O7 := Lib.hid (O6.out.chg k1 (fun _ _ h => h))
          have C7 : Hid (Chg (fun _ => False) w w7) := CK.out.trans k1 (fun _ _ h => h)
          clear k1
          go_wp2_with fail
          refine (appendSum _ _ _ w7 (vi_nonneg _) (vi_lt _) O7 hll.out).mono ?_
          rintro e w8 ⟨v8, rfl, k1, _, k3, k4⟩
          have O8 := Lib.hid k1
          have F8 : Hid (∀ y, v8.ownBlock = some y → w.heap.size ≤ y) := k4.ge FK.out C7.out.size
          have C8 : Hid (Chg (fun _ => False) w w8) := C7.out.fresh k3 FK.out
          clear k1 k3 k4
          go_wp2_with fail
          go_ret2
          rw [hS.out, if_pos hgood.out]
          obtain ⟨A8, c8, rfl, hc8, _⟩ := O8.out.slice
          exact ⟨_, _, _, rfl, rfl, O8.out, C8.out, F8.out, hc8⟩
  · have hS : Hid (sealOf s l = ([], 1)) := by rw [Hid, sealOf, if_pos h8]
    have h8i : ¬ (s.size : Int) = 8 := by omega
    go_enter Try.func40, Try.ntmps40
    go_wp2_with fail
    go_ret2
    rw [hS.out]
    exact ⟨_, _, _, rfl, made0 w⟩
end Go.Proofs.Ytcljbaoadmflgaa.Kit
