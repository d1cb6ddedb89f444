/- The walk of JournalForm. -/
import Derived.Test.YtlnomadhgoblkaaProg
import Derived.Test.YtlnomadhgoblkaaJk
import Derived.Test.YtlnomadhgoblkaaKitW
set_option linter.unusedVariables false
set_option linter.unusedSimpArgs false
namespace Go.Proofs.Ytlnomadhgoblkaa.Kit
open Go.RowKit
/-- n empty records -/
def blanks (n : Nat) : List SecV := List.replicate n ⟨1, []⟩
theorem blanks_length (n : Nat) : (blanks n).length = n := by simp [blanks]
theorem blanks_succ (n : Nat) : blanks (n + 1) = blanks n ++ [⟨1, []⟩] := by simp [blanks, List.replicate_succ']
theorem blank_rec (n : Nat) (h : n ≤ 300) : (recEnc n ⟨1, []⟩).length ≤ 30 := by
  rw [recEnc_length, recHd_length]
  have h1 := vb_len10 (n := n) (by omega)
  have h2 := vb_len10 (n := ([] : List Int).length) (by simp)
  simp only [List.length_nil] at h2 ⊢
  omega
theorem blanks_bytes : ∀ n, n ≤ 301 → (jnlBytes (blanks n)).length ≤ 8 + 30 * n
  | 0, _ => by decide
  | n + 1, h => by
    have h1 := blanks_bytes n (by omega)
    have h2 := blank_rec n (by omega)
    rw [blanks_succ, jnlBytes_snoc, List.length_append, blanks_length]
    omega
theorem blanks_app (n : Nat) (h : n ≤ 300) : jappRes (blanks n) ⟨1, []⟩ = (0, blanks (n + 1)) := by
  have h1 := blanks_bytes n (by omega)
  have h2 := blank_rec n h
  rw [jappRes, if_neg (by simp), if_neg (by simp), if_neg (by rw [blanks_length]; omega), blanks_succ]
theorem blanks_ok {n : Nat} {x : SecV} (h : n ≤ 300) (hx : okRec x) : jappRes (blanks n) x = (0, blanks n ++ [x]) := by
  have h1 := blanks_bytes n (by omega)
  obtain ⟨a, b, c⟩ := hx
  have h3 := vb_len10 (n := n) (by omega)
  have h4 := vb_len10 (n := x.body.length) (by omega)
  rw [jappRes, if_neg (by omega), if_neg (by omega), if_neg (by rw [blanks_length, recEnc_length, recHd_length]; omega)]
theorem blanks_bytes2 {n : Nat} {x : SecV} (h : n ≤ 300) (hx : okRec x) : (jnlBytes (blanks n ++ [x])).length ≤ 268435456 := by
  have h1 := blanks_bytes n (by omega)
  obtain ⟨a, b, c⟩ := hx
  have h3 := vb_len10 (n := n) (by omega)
  have h4 := vb_len10 (n := x.body.length) (by omega)
  rw [jnlBytes_snoc, List.length_append, blanks_length, recEnc_length, recHd_length]
  omega
/-- a record alone behind the head -/
theorem open_alone0 {x : SecV} (h : GoodRec x) : jopenRes (jhead ++ recEnc 0 x) = (some [x], (jhead ++ recEnc 0 x).length, 0) := by
  have e : jhead ++ recEnc 0 x = jnlBytes [x] := by simp [jnlBytes, jnlFrom]
  have h3 := vb_len10 (n := 0) (by omega)
  have h4 := vb_len10 (n := x.body.length) (by have := h.2.2.1; omega)
  have hl : (jnlBytes [x]).length ≤ 268435456 := by
    rw [← e, List.length_append, jhead_length, recEnc_length, recHd_length]
    have := h.2.2.1
    omega
  rw [e, open_whole (fun y hy => by rw [List.mem_singleton.1 hy]; exact h) hl]
theorem open_alone {n : Nat} {x : SecV} (h : GoodRec x) (h0 : 0 < n) (hn : n ≤ 300) : jopenRes (jhead ++ recEnc n x) = (some [], 8, 0) := by
  have h3 := vb_len10 (n := n) (by omega)
  have h4 := vb_len10 (n := x.body.length) (by have := h.2.2.1; omega)
  have := open_stop (X := jhead ++ recEnc n x) (rest := recEnc n x) (ls := []) (fun y hy => absurd hy (by simp)) (recEnc_byt h) (by simp [jnlBytes, jnlFrom]) (by
    rw [List.length_append, jhead_length, recEnc_length, recHd_length]
    have := h.2.2.1
    omega) (recRd_other h (by omega) h0)
  rw [this]
  rfl
set_option maxRecDepth 20000 in
set_option maxHeartbeats 6400000 in
theorem journalFormWalk (w : World) (x : SecV) (A : Option Addr) (m c : Nat) (HM : Hid (m = x.body.length)) (hmc : m ≤ c) (hcm : c ≤ maxLen) (hr : Hid (Rd w .u8 A x.body)) (hb : Hid (Byt x.body)) (hk0 : -9223372036854775808 ≤ x.id) (hk1 : x.id ≤ 9223372036854775807) (hmb : m ≤ 140737488351232) (q : Int) (q0 : -9223372036854775808 ≤ q) (q1 : q ≤ 9223372036854775807) :
    Calls Try.prog 4 #[.agg #[.int .i64 x.id, .slice A m c], .int .i64 q] w fun e w' => e = .returned (.bool true) ∧ Below w.heap.size w w' := by
  obtain ⟨wa, hwa⟩ : ∃ wa, wa = w.alloc (.cells #[.int .i64 x.id, .slice A m c] 31) := ⟨_, rfl⟩
  obtain ⟨h, hh⟩ : ∃ h, h = w.heap.size := ⟨_, rfl⟩
  have CA : Hid (Chg (fun _ => False) w wa) := by rw [hwa]; exact (Chg.refl _ w).alloc _
  have BX : Hid (Blk wa h 31 [.int .i64 x.id, .slice A m c]) := by rw [hwa, hh]; exact Blk.new _ _ _
  have HS : Hid (∀ W, Chg (fun _ => False) wa W → W.cell? ⟨h, 0, none⟩ = some (.int .i64 x.id) ∧ W.cell? ⟨h, 1, none⟩ = some (.slice A m c) ∧ Rd W .u8 A x.body ∧ (convert 29 9 (.slice A m c)).run Try.prog W = .ok (.string (strOf x.body)) W) := fun W hW =>
    ⟨(BX.out.chg hW id).at_ (i := 0) rfl, (BX.out.chg hW id).at_ (i := 1) rfl, hr.out.below (CA.out.trans hW (fun _ _ h => h)).done, conv_str W A m c x.body HM.out (hr.out.below (CA.out.trans hW (fun _ _ h => h)).done)⟩
  have HH := Lib.hid hh
  have HWA := Lib.hid hwa
  obtain ⟨s0, s1, _, _⟩ := HS.out wa (Chg.refl _ _)
  by_cases hok : okRec x
  · have HOK := Lib.hid hok
    obtain ⟨o1, o2, o3⟩ := hok
    have HG : Hid (GoodRec x) := ⟨o1, o2, o3, hb.out⟩
    have hm4 : m ≤ 4194304 := by rw [HM.out]; exact o3
    clear o3 hwa hh
    go_enter Try.func4, Try.ntmps4
    go_wp2_with fail
    rw [← HWA.out, ← HH.out]
    refine (rightYes HM.out HOK.out).mono ?_
    rintro e w1 ⟨rfl, k1⟩
    have C1 := Lib.hid k1
    clear k1 s0 s1
    by_cases hq0 : q < 0
    · go_wp2_with fail
      go_ret
      exact ⟨rfl, (CA.out.trans C1.out (fun _ _ h => h)).done⟩
    · by_cases hq1 : (300 : Int) < q
      · go_wp2_with fail
        go_ret
        exact ⟨rfl, (CA.out.trans C1.out (fun _ _ h => h)).done⟩
      · obtain ⟨p, rfl⟩ : ∃ p : Nat, q = (p : Int) := ⟨q.toNat, by omega⟩
        have hp3 : p ≤ 300 := by omega
        go_wp2_with fail
        refine (jnew _).mono ?_
        rintro e w2 ⟨gj, D, rfl, j1, j2, j3, j4⟩
        have C2 : Hid (Chg (fun _ => False) wa w2) := C1.out.trans j4 (fun _ _ h => h)
        have J2 : Hid (Jn w2 D gj (blanks 0)) := j1
        have D2 : Hid (∀ y, D y → wa.heap.size ≤ y) := fun y hy => Nat.le_trans C1.out.size (j2 y hy)
        have G2 : Hid (wa.heap.size ≤ gj) := Nat.le_trans C1.out.size j3
        clear j1 j2 j3 j4
        go_wp2_with fail
        go_loopw [7] (fun i wr => ∃ (k : Nat) (D' : Nat → Prop), k ≤ p ∧ i = .int .i64 k ∧ Hid (Jn wr D' gj (blanks k)) ∧ Hid (∀ y, D' y → wa.heap.size ≤ y) ∧ Hid (Chg (fun _ => False) wa wr)) (fun i _ => p - (intOf i).toNat)
        case atStart => exact ⟨0, D, Nat.zero_le _, rfl, J2, D2, C2⟩
        case round =>
          obtain ⟨k, D', hkp, rfl, hj, hd, hc⟩ := hrel
          by_cases hlt : k < p
          · have hR : Hid (jappRes (blanks k) ⟨1, []⟩ = (0, blanks (k + 1))) := blanks_app k (by omega)
            have hs : Hid ((jnlBytes (blanks k)).length ≤ 268435456) := Nat.le_trans (blanks_bytes k (by omega)) (by omega)
            have q2 : (k : Int) < (p : Int) := by omega
            go_wp2_with fail
            refine (jappend (x := ⟨1, []⟩) (A := none) (m := 0) (c := 0) hR hj hs (show Hid (0 = _) from rfl) (by omega) (fun z hz => by simp at hz) (Rd.nil _ _ _) (by decide) (by decide)).mono ?_
            rintro e w3 ⟨rfl, D3, k1, k2, k3⟩
            have J3 : Hid (Jn w3 D3 gj (blanks (k + 1))) := k1
            have C3 : Hid (Chg (fun _ => False) wa w3) := hc.out.old k3 (fun i hi => by
              rcases hi with rfl | hi
              · exact G2.out
              · exact hd.out i hi)
            have D3' : Hid (∀ y, D3 y → wa.heap.size ≤ y) := fun y hy => by
              rcases k2 y hy with h | h
              · exact hd.out y h
              · exact Nat.le_trans hc.out.size h
            clear k1 k2 k3
            go_wp2_with fail
            go_roundw
            case rel => exact ⟨k + 1, D3, by omega, by go_num, J3, D3', C3⟩
            case measure => simp [intOf]; omega
          · obtain rfl : k = p := by omega
            have hsB : Hid ((jnlBytes (blanks k)).length ≤ 268435456) := Nat.le_trans (blanks_bytes k (by omega)) (by omega)
            have hs2 : Hid ((jnlBytes (blanks k ++ [x])).length ≤ 268435456) := blanks_bytes2 hp3 HOK.out
            have hR2 : Hid (jappRes (blanks k) x = (0, blanks k ++ [x])) := blanks_ok hp3 HOK.out
            go_wp2_with fail
            refine (jbytesC hsB hj).mono ?_
            rintro e w3 ⟨A3, n3, c3, rfl, m3, hn3, hc3⟩
            have C3 : Hid (Chg (fun _ => False) wa w3) := hc.out.trans m3.chg (fun _ _ h => h)
            have J3 := Lib.hid (hj.out.chg0 m3.chg)
            have L3 : Hid (n3 = (jnlBytes (blanks k)).length) := m3.len
            obtain ⟨s0, s1, hrb, hcv⟩ := HS.out w3 C3.out
            have HRB := Lib.hid hrb
            clear m3 hrb hcv
            go_wp2_with fail
            refine (jappend hR2 J3 hsB HM (by omega) hb HRB hk0 hk1).mono ?_
            rintro e w4 ⟨rfl, D4, k1, k2, k3⟩
            have J4 : Hid (Jn w4 D4 gj (blanks k ++ [x])) := k1
            have C4 : Hid (Chg (fun _ => False) wa w4) := C3.out.old k3 (fun i hi => by
              rcases hi with rfl | hi
              · exact G2.out
              · exact hd.out i hi)
            clear k1 k2 k3 s0 s1
            go_wp2_with fail
            refine (jbytesC hs2 J4).mono ?_
            rintro e w5 ⟨A5, n5, c5, rfl, m5, hn5, hc5⟩
            have C5 : Hid (Chg (fun _ => False) wa w5) := C4.out.trans m5.chg (fun _ _ h => h)
            have L5 : Hid (n5 = (jnlBytes (blanks k) ++ recEnc k x).length) := by
              have := m5.len
              rw [jnlBytes_snoc, blanks_length] at this
              exact this
            have O5 : Hid (OwnB w5 (.slice A5 n5 c5) (jnlBytes (blanks k) ++ recEnc k x)) := by
              have := m5.own
              rw [jnlBytes_snoc, blanks_length] at this
              exact this
            have hnc5 := m5.cap
            have hvk : Hid ((vb k).length ≤ 10) := vb_len10 (by omega)
            have hk0' : (0 : Int) ≤ (k : Int) := by omega
            have h167 : Hid (OwnB (w5.alloc (.cells (nums .u8 [167]).toArray 5)) (.slice (some ⟨w5.heap.size, 0, none⟩) 1 1) [167]) := Own.lit w5 _ .u8 [167] (by simp [maxLen])
            have CB : Hid (Chg (fun _ => False) w5 (w5.alloc (.cells (nums .u8 [167]).toArray 5))) := (Chg.refl _ w5).alloc _
            clear m5
            go_wp2_with fail
            refine (show Calls Try.prog 21 _ (w5.alloc (.cells (nums .u8 [167]).toArray 5)) _ from appendUint' (.slice (some ⟨w5.heap.size, 0, none⟩) 1 1) [167] (k : Int) _ hk0' h167 (by rw [Int.toNat_natCast]; have := hvk.out; simp; omega)).mono ?_
            rintro e w6 ⟨v6, rfl, k1, _, k3, k4⟩
            rw [Int.toNat_natCast] at k1
            obtain ⟨L6, hL6⟩ : ∃ L6, L6 = [167] ++ vb k := ⟨_, rfl⟩
            rw [← hL6] at k1
            obtain ⟨A6, c6, hv6, _, _⟩ := k1.slice
            obtain ⟨n6, hn6⟩ : ∃ n6, n6 = L6.length := ⟨_, rfl⟩
            have hn6b : n6 ≤ 11 := by
              have := hvk.out
              rw [hn6, hL6, List.length_append]
              simp
              omega
            rw [← hn6] at hv6
            subst hv6
            have HL6 := Lib.hid hL6
            have HN6 := Lib.hid hn6
            have O6 := Lib.hid k1
            have F6 : Hid (∀ y, Value.ownBlock (.slice A6 n6 c6) = some y → w5.heap.size ≤ y) := k4.ge (blk_ge (Nat.le_refl _)) CB.out.size
            have C56 : Hid (Chg (fun _ => False) w5 w6) := CB.out.trans k3 (fun y hy hh => by have := blk_ge (b := w5.heap.size) (B := w5.heap.size) (Nat.le_refl _) y hh; omega)
            have E8 : IntKind.u8.wrap x.id = x.id := IntWalk.u8_in _ (by omega)
            have hsz : Hid ((strOf x.body).size = m) := by rw [Hid, strOf_size, HM.out]
            obtain ⟨s0, s1, hrb, hcv⟩ := HS.out w6 (C5.out.trans C56.out (fun _ _ h => h))
            clear k1 k3 k4 hL6 hn6 hrb hcv
            go_wp2_with (at_builtin; go_must (refine wp_app1 rfl _ _ 29 5 .u8 1 rfl Try.underlying29 infoU8 (by decide) (.slice A6 n6 c6) L6 x.id rfl O6.out rfl (by rw [← HN6.out]; omega) ?_); intro v7 w7 k1 k2 k3 k4; obtain ⟨L7, hL7⟩ : ∃ L7, L7 = L6 ++ [x.id] := ⟨_, rfl⟩; rw [← hL7] at k1; obtain ⟨A7, c7, hv7, _, _⟩ := k1.slice; obtain ⟨n7, hn7⟩ : ∃ n7, n7 = L7.length := ⟨_, rfl⟩; rw [← hn7] at hv7; subst hv7; have HL7 := Lib.hid hL7; have HN7 := Lib.hid hn7; have O7 := Lib.hid k1; have C57 : Hid (Chg (fun _ => False) w5 w7) := C56.out.trans k3 (fun y hy hh => by have := F6.out y hh; omega); have F7 : Hid (∀ y, Value.ownBlock (.slice A7 n7 c7) = some y → w5.heap.size ≤ y) := k4.ge F6.out C56.out.size; clear k1 k2 k3 k4 hL7 hn7; obtain ⟨t0, t1, _, hcv⟩ := HS.out w7 (C5.out.trans C57.out (fun _ _ h => h)); go_frame)
            clear hcv s0 s1 t0 t1
            refine (appendText (.slice A7 n7 c7) L7 (strOf x.body) _ (by rw [hsz.out]; omega) O7 (by rw [hsz.out, HL7.out, List.length_append, ← HN6.out]; simp; omega)).mono ?_
            rintro e w8 ⟨v8, rfl, k1, _, k3, k4⟩
            have C58 : Hid (Chg (fun _ => False) w5 w8) := C57.out.trans k3 (fun y hy hh => by have := F7.out y hh; omega)
            have F8 : Hid (∀ y, v8.ownBlock = some y → w5.heap.size ≤ y) := k4.ge F7.out C57.out.size
            obtain ⟨H8, hH8⟩ : ∃ H8, H8 = recHd k x := ⟨_, rfl⟩
            have O8a : OwnB w8 v8 H8 := by
              have := k1
              rw [hsz.out, bytesOf_strOf hb.out, HL7.out, HL6.out, HM.out] at this
              rw [hH8, recHd]
              simpa [List.append_assoc] using this
            obtain ⟨A8, c8, hv8, _, _⟩ := O8a.slice
            obtain ⟨n8, hn8⟩ : ∃ n8, n8 = H8.length := ⟨_, rfl⟩
            rw [← hn8] at hv8
            subst hv8
            have HN8 := Lib.hid hn8
            have O8 := Lib.hid O8a
            have hB8 : Hid (Byt H8) := by rw [hH8]; exact recHd_byt HG.out
            have hn8b : n8 ≤ 4194326 := by
              have e1 := vb_len10 (n := x.body.length) (by rw [← HM.out]; omega)
              have e2 := hvk.out
              rw [hn8, hH8, recHd_length, ← HM.out]
              rw [← HM.out] at e1
              omega
            have hl8 : Hid (H8.length ≤ 140737488355328) := by rw [Hid, ← hn8]; omega
            have R8 : Hid (Rd w8 .u8 A8 H8) := O8.out.rd (by rw [HN8.out])
            have HH8 := Lib.hid hH8
            clear hH8 hn8 O8a k1 k3 k4
            go_wp2_with fail
            refine (crcCall A8 c8 n8 H8 w8 HN8 hB8 hl8 R8).mono ?_
            rintro e w9 ⟨rfl, k1⟩
            have C59 : Hid (Chg (fun _ => False) w5 w9) := C58.out.trans k1 (fun _ _ h => h)
            have O9 := Lib.hid (O8.out.chg k1 (fun _ _ h => h))
            have v0 := vi_nonneg (crc H8)
            have v1 := vi_lt (crc H8)
            obtain ⟨z, hz⟩ : ∃ z, vi (crc H8) = z := ⟨_, rfl⟩
            rw [hz] at v0 v1 ⊢
            have HZ := Lib.hid hz
            have hB9 : Hid (OwnB (w9.alloc (.cells (nums .u8 (sumB z)).toArray 5)) (.slice (some ⟨w9.heap.size, 0, none⟩) 4 4) (sumB z)) := Own.lit w9 _ .u8 (sumB z) (by rw [sumB_length]; decide)
            clear k1 hz
            go_upto_region 21 with (at_builtin; go_must (refine wp_appn (W := w9.alloc (.cells (nums .u8 (sumB z)).toArray 5)) rfl _ _ 29 5 .u8 1 rfl Try.underlying29 infoU8 (by decide) (.slice A8 n8 c8) H8 rfl (O9.out.alloc _) _ 4 (sumB z) 4 rfl rfl (hB9.out.rd rfl) (by rw [sumB_length, ← HN8.out]; omega) ?_); intro v' w10 k1 k2 k3 k4; obtain ⟨A10, c10, hv, _, _⟩ := k1.slice; obtain ⟨Q, hQ⟩ : ∃ Q, Q = H8 ++ sumB z := ⟨_, rfl⟩; rw [← hQ] at k1 hv; obtain ⟨n10, hn10⟩ : ∃ n10, n10 = Q.length := ⟨_, rfl⟩; rw [← hn10] at hv; subst hv; have HQ := Lib.hid hQ; have HN10 := Lib.hid hn10; clear hQ hn10; have O10 := Lib.hid k1; have C510 : Hid (Chg (fun _ => False) w5 w10) := (C59.out.alloc _).trans k3 (fun y hy hh => by have := F8.out y hh; omega); clear k1 k2 k3 k4; go_frame)
            have hQE : Hid (Q = recEnc k x) := by rw [Hid, HQ.out, ← HZ.out, HH8.out, recEnc]
            have hn10 : n10 = n8 + 4 := by rw [HN10.out, HQ.out, List.length_append, sumB_length, ← HN8.out]
            have hn10b : n10 ≤ 4194330 := by omega
            have O510 := Lib.hid (O5.out.chg C510.out (fun _ _ h => h))
            have R510 : Hid (Rd w10 .u8 A5 (jnlBytes (blanks k) ++ recEnc k x)) := O510.out.rd (by rw [L5.out])
            have h5s : n5 = n3 + n10 := by rw [L5.out, L3.out, HN10.out, hQE.out, List.length_append]
            obtain ⟨ad, hA5⟩ : ∃ ad, A5 = some ad := by
              obtain ⟨ad, e, _⟩ := R510.out 0 (by rw [← L5.out, h5s, hn10]; omega)
              exact ⟨ad, e⟩
            subst hA5
            have RQ : Hid (Rd w10 .u8 (some (ad.add n3)) Q) := by
              have := R510.out.drop rfl n3
              rw [List.drop_left' (by rw [L3.out])] at this
              rw [hQE.out]
              exact this
            have R10 : Hid (Rd w10 .u8 A10 Q) := O10.out.rd (by rw [HN10.out])
            have hQl : Hid (Q.length ≤ 140737488355328) := by rw [Hid, ← HN10.out]; omega
            have H5S := Lib.hid h5s
            have g1 : ¬ (n5 : Int) < (n3 : Int) := by omega
            have g2 : ¬ n5 < n3 := by omega
            have g3 : (0 : Int) ≤ (n3 : Int) := by omega
            have g4 : (n3 : Int) ≤ (n5 : Int) := by omega
            have g5 : n5 ≤ c5 := hnc5
            have g6 : ¬ c5 = n3 := by omega
            have g7 : n5 - n3 = n10 := by omega
            have H58 := Lib.hid hn10
            clear h5s hn10
            go_wp2_with fail
            refine (sameBytes' (b := true) HN10 HN10 hQl RQ R10 (by rw [Hid]; simp)).mono ?_
            rintro e wq ⟨rfl, qa, rfl⟩
            obtain ⟨w11, hw11⟩ : ∃ w11, w11 = w10.drewN qa := ⟨_, rfl⟩
            have C11 : Hid (Chg (fun _ => False) w w11) := by rw [hw11]; exact ((CA.out.trans C5.out (fun _ _ h => h)).trans C510.out (fun _ _ h => h)).drewN _
            have R11 : Hid (Rd w11 .u8 A10 Q) := by rw [hw11]; exact R10.out.below ((Chg.refl (fun _ => False) w10).drewN qa).done
            rw [← hw11]
            clear hw11 g7
            have hJH : Hid (OwnB (w11.alloc (.cells (nums .u8 jhead).toArray 5 (8, 9))) (.slice (some ⟨w11.heap.size, 0, none⟩) 8 8) jhead) := Own.litF w11 _ .u8 jhead 8 rfl (by decide)
            have HKC : Hid ((convert 29 29 (.slice (some ⟨w11.heap.size, 0, none⟩) 8 8)).run Try.prog (w11.alloc (.cells #[.int .u8 80, .int .u8 65, .int .u8 89, .int .u8 74, .int .u8 82, .int .u8 78, .int .u8 76, .int .u8 49] 5)) = .ok (.slice (some ⟨w11.heap.size, 0, none⟩) 8 8) (w11.alloc (.cells (nums .u8 jhead).toArray 5 (8, 9)))) := Lib.run_convert_bytes_const (P := Try.prog) w11 29 5 (nums .u8 jhead).toArray 8 8 Try.underlying29 Try.underlying5
            have R11a : Hid (Rd (w11.alloc (.cells (nums .u8 jhead).toArray 5 (8, 9))) .u8 A10 Q) := R11.out.below (((Chg.refl (fun _ => False) w11).alloc _).done)
            go_wp2_with fail
            rw [HKC.out]
            go_upto_region 24 with (at_builtin; go_must (refine wp_appn (W := w11.alloc (.cells (nums .u8 jhead).toArray 5 (8, 9))) rfl _ _ 29 5 .u8 1 rfl Try.underlying29 infoU8 (by decide) (.slice (some ⟨w11.heap.size, 0, none⟩) 8 8) jhead rfl hJH.out A10 c10 Q n10 rfl HN10.out R11a.out (by rw [jhead_length, ← HN10.out]; omega) ?_); intro v' w12 k1 k2 k3 k4; obtain ⟨A12, c12, hv, hc12, hm12⟩ := k1.slice; obtain ⟨X, hX⟩ : ∃ X, X = jhead ++ Q := ⟨_, rfl⟩; rw [← hX] at k1 hv hc12; obtain ⟨n12, hn12⟩ : ∃ n12, n12 = X.length := ⟨_, rfl⟩; rw [← hn12] at hv hc12; subst hv; have HX := Lib.hid hX; have HN12 := Lib.hid hn12; clear hX hn12; have O12 := Lib.hid k1; have C12 : Hid (Chg (fun _ => False) w w12) := (C11.out.alloc _).trans k3 (fun y hy hh => by have := blk_ge (b := w11.heap.size) (B := w11.heap.size) (Nat.le_refl _) y hh; have := C11.out.size; omega); clear k1 k2 k3 k4; go_frame)
            have hbX : Hid (Byt X) := by rw [HX.out, hQE.out]; exact byt_mk jhead_byt (recEnc_byt HG.out)
            have RX : Hid (Rd w12 .u8 A12 X) := O12.out.rd (by rw [HN12.out])
            rcases Nat.eq_zero_or_pos k with h0 | h0
            · have hR : Hid (jopenRes X = (some [x], n12, 0)) := by
                rw [Hid, HN12.out, HX.out, hQE.out, h0]
                exact open_alone0 HG.out
              subst h0
              go_wp2_with fail
              refine (jopenIs hR HN12 hc12 hm12 hbX RX).mono ?_
              rintro e w13 ⟨gk, Dk, rfl, j1, j2, _, _⟩
              have J13 := Lib.hid j1
              have C13 : Hid (Chg (fun _ => False) w w13) := C12.out.trans j2 (fun _ _ h => h)
              clear j1 j2
              go_wp2_with fail
              refine (jcount Dk gk [x] 1 _ (show Hid (1 = _) from rfl) J13).mono ?_
              rintro e w14 ⟨rfl, rfl⟩
              go_wp2_with fail
              go_ret
              exact ⟨rfl, C13.out.done⟩
            · have hR : Hid (jopenRes X = (some [], 8, 0)) := by
                rw [Hid, HX.out, hQE.out]
                exact open_alone HG.out h0 hp3
              have h0i : ¬ (k : Int) = 0 := by omega
              have h0n : ¬ k = 0 := by omega
              go_wp2_with fail
              refine (jopenIs hR HN12 hc12 hm12 hbX RX).mono ?_
              rintro e w13 ⟨gk, Dk, rfl, j1, j2, _, _⟩
              have J13 := Lib.hid j1
              have C13 : Hid (Chg (fun _ => False) w w13) := C12.out.trans j2 (fun _ _ h => h)
              clear j1 j2
              go_wp2_with fail
              refine (jcount Dk gk [] 0 _ (show Hid (0 = _) from rfl) J13).mono ?_
              rintro e w14 ⟨rfl, rfl⟩
              go_wp2_with fail
              go_ret
              exact ⟨rfl, C13.out.done⟩
  · have HNOK := Lib.hid hok
    clear hwa hh hok
    go_enter Try.func4, Try.ntmps4
    go_wp2_with fail
    rw [← HWA.out]
    refine (rightNo HM.out HNOK.out).mono ?_
    rintro e w1 ⟨rfl, k1⟩
    have C1 : Hid (Chg (fun _ => False) w w1) := CA.out.trans k1 (fun _ _ h => h)
    clear k1
    go_wp2_with fail
    go_ret
    exact ⟨rfl, C1.out.done⟩
end Go.Proofs.Ytlnomadhgoblkaa.Kit
