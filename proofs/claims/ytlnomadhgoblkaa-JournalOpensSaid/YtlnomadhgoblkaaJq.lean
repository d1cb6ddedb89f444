/- The journal: Append. -/
import Derived.Test.YtlnomadhgoblkaaProg
import Derived.Test.YtlnomadhgoblkaaJp
set_option linter.unusedVariables false
set_option linter.unusedSimpArgs false
namespace Go.Proofs.Ytlnomadhgoblkaa.Kit
open Go.RowKit
theorem jnlFrom_len : ∀ (l : List SecV) (n : Nat), 8 * l.length ≤ (jnlFrom n l).length
  | [], _ => by simp
  | x :: xs, n => by
    have h1 := jnlFrom_len xs (n + 1)
    have h2 := recEnc_length n x
    have h3 := recHd_length n x
    have h4 := vb_pos n
    have h5 := vb_pos x.body.length
    rw [jnlFrom, List.length_append, List.length_cons]
    omega
theorem jnlBytes_len (l : List SecV) : 8 + 8 * l.length ≤ (jnlBytes l).length := by
  have := jnlFrom_len l 0
  rw [jnlBytes, List.length_append, show jhead.length = 8 from rfl]
  omega
/-- what Append answers; the records behind it -/
def jappRes (l : List SecV) (x : SecV) : Int × List SecV :=
  if x.id < 1 ∨ 255 < x.id then (1, l) else if 4194304 < x.body.length then (6, l) else if 268435456 < (jnlBytes l).length + (recEnc l.length x).length then (4, l) else (0, l ++ [x])
/-- what Append leaves -/
def RApp (D : Nat → Prop) (g : Nat) (l : List SecV) (R : Int × List SecV) (w : World) (e : Ending) (w' : World) : Prop :=
  e = .returned (.int .i64 R.1) ∧ ∃ D', Jn w' D' g R.2 ∧ (∀ y, D' y → D y ∨ w.heap.size ≤ y) ∧ Chg (fun y => y = g ∨ D y) w w'
theorem rapp_no {D : Nat → Prop} {g : Nat} {l : List SecV} {R : Int × List SecV} {z : Int} {w w' : World} (h : R = (z, l)) (hj : Jn w D g l) (c : Chg (fun _ => False) w w') : RApp D g l R w (.returned (.int .i64 z)) w' := by
  subst h
  exact ⟨rfl, D, hj.chg0 c, fun _ h => .inl h, c.mono fun _ _ h => h.elim⟩
set_option maxRecDepth 20000 in
set_option maxHeartbeats 6400000 in
theorem jappend {D : Nat → Prop} {g : Nat} {l : List SecV} {x : SecV} {R : Int × List SecV} {A : Option Addr} {m c : Nat} {w : World} (hR : Hid (jappRes l x = R)) (hj : Hid (Jn w D g l)) (hlen : Hid ((jnlBytes l).length ≤ 268435456)) (hm : Hid (m = x.body.length)) (hmc : m ≤ 140737488355328) (hb : Hid (Byt x.body)) (hr : Hid (Rd w .u8 A x.body)) (hk0 : -9223372036854775808 ≤ x.id) (hk1 : x.id ≤ 9223372036854775807) :
    Calls Try.prog 19 #[.pointer (some ⟨g, 0, none⟩), .agg #[.int .i64 x.id, .slice A m c]] w (RApp D g l R w) := by
  by_cases h1 : x.id < 1
  · have hE : Hid (R = (1, l)) := by rw [Hid, ← hR.out, jappRes, if_pos (.inl h1)]
    go_enter Try.func19, Try.ntmps19
    go_wp2_with fail
    go_ret
    exact rapp_no hE.out hj.out ((Chg.refl _ w).alloc _)
  · by_cases h2 : 255 < x.id
    · have hE : Hid (R = (1, l)) := by rw [Hid, ← hR.out, jappRes, if_pos (.inr h2)]
      go_enter Try.func19, Try.ntmps19
      go_wp2_with fail
      go_ret
      exact rapp_no hE.out hj.out ((Chg.refl _ w).alloc _)
    · by_cases h3 : 4194304 < m
      · have hE : Hid (R = (6, l)) := by rw [Hid, ← hR.out, jappRes, if_neg (by omega), if_pos (by rw [← hm.out]; exact h3)]
        go_enter Try.func19, Try.ntmps19
        go_wp2_with fail
        go_ret
        exact rapp_no hE.out hj.out ((Chg.refl _ w).alloc _)
      · obtain ⟨vB, vR, vE, bs, hbk, hv, d1, d2, d3, d4⟩ := hj.out.ex
        obtain ⟨AR, cR, hRv, hcR, _⟩ := hv.recs.row.slice
        obtain ⟨AB, cB, hBv, hcB, _⟩ := hv.bytes.slice
        obtain ⟨n, hn⟩ : ∃ n, n = l.length := ⟨_, rfl⟩
        obtain ⟨nb, hnb⟩ : ∃ nb, nb = (jnlBytes l).length := ⟨_, rfl⟩
        have hnl := jnlBytes_len l
        rw [← hn, ← hnb] at hnl
        have hnb2 : nb ≤ 268435456 := by rw [hnb]; exact hlen.out
        have hn25 : n ≤ 33554432 := by omega
        rw [← hn] at hRv
        rw [← hnb] at hBv
        have HN := Lib.hid hn
        have HNB := Lib.hid hnb
        have BK := Lib.hid hbk
        rw [hRv, hBv] at BK
        obtain ⟨wa, hwa⟩ : ∃ wa, wa = w.alloc (.cells #[.int .i64 x.id, .slice A m c] 31) := ⟨_, rfl⟩
        obtain ⟨h, hh⟩ : ∃ h, h = w.heap.size := ⟨_, rfl⟩
        have CA : Hid (Chg (fun _ => False) w wa) := by rw [hwa]; exact (Chg.refl _ w).alloc _
        have BX : Hid (Blk wa h 31 [.int .i64 x.id, .slice A m c]) := by rw [hwa, hh]; exact Blk.new _ _ _
        have HH := Lib.hid hh
        have HWA := Lib.hid hwa
        have h167 : Hid (OwnB (wa.alloc (.cells (nums .u8 [167]).toArray 5)) (.slice (some ⟨wa.heap.size, 0, none⟩) 1 1) [167]) := Own.lit wa _ .u8 [167] (by simp [maxLen])
        have CB : Hid (Chg (fun _ => False) wa (wa.alloc (.cells (nums .u8 [167]).toArray 5))) := (Chg.refl _ wa).alloc _
        have hwz : Hid (wa.heap.size = w.heap.size + 1) := by rw [hwa]; simp [Hid]
        have c1 : ((w.alloc (.cells #[.int .i64 x.id, .slice A m c] 31)).alloc (.cells #[.int .u8 167] 5)).cell? ⟨g, 1, none⟩ = some (.slice AR n cR) := by
          rw [← hwa]
          exact (CA.out.trans CB.out (fun _ _ h => h)).cell (fun h => h) (BK.out.at_ (i := 1) rfl)
        clear hRv hBv hbk hv d1 d2 d3 d4 hcR hcB hn hnb hnl hwa hh
        go_enter Try.func19, Try.ntmps19
        go_wp2_with fail
        rw [← hwz.out, ← HWA.out, ← HH.out]
        have hn0 : (0 : Int) ≤ (n : Int) := by omega
        have hvn : Hid ((vb n).length ≤ 10) := vb_len10 (by omega)
        refine (show Calls Try.prog 21 _ (wa.alloc (.cells (nums .u8 [167]).toArray 5)) _ from appendUint' (.slice (some ⟨wa.heap.size, 0, none⟩) 1 1) [167] (n : Int) _ hn0 h167 (by rw [Int.toNat_natCast]; have := hvn.out; simp; omega)).mono ?_
        rintro e w2 ⟨v2, rfl, k1, _, k3, k4⟩
        rw [Int.toNat_natCast] at k1
        obtain ⟨L2, hL2⟩ : ∃ L2, L2 = [167] ++ vb n := ⟨_, rfl⟩
        rw [← hL2] at k1
        obtain ⟨A2, c2, hv2, _, _⟩ := k1.slice
        obtain ⟨n2, hn2⟩ : ∃ n2, n2 = L2.length := ⟨_, rfl⟩
        have hn2b : n2 ≤ 11 := by
          have := hvn.out
          rw [hn2, hL2, List.length_append]
          simp
          omega
        rw [← hn2] at hv2
        subst hv2
        have HL2 := Lib.hid hL2
        have HN2 := Lib.hid hn2
        have O2 := Lib.hid k1
        have F2 : Hid (∀ y, Value.ownBlock (.slice A2 n2 c2) = some y → wa.heap.size ≤ y) := k4.ge (blk_ge (Nat.le_refl _)) CB.out.size
        have C2 : Hid (Chg (fun _ => False) wa w2) := CB.out.trans k3 (fun y hy hh => by have := blk_ge (b := wa.heap.size) (B := wa.heap.size) (Nat.le_refl _) y hh; omega)
        have HS : Hid (∀ W, Chg (fun _ => False) wa W → W.cell? ⟨h, 0, none⟩ = some (.int .i64 x.id) ∧ W.cell? ⟨h, 1, none⟩ = some (.slice A m c) ∧ (convert 29 9 (.slice A m c)).run Try.prog W = .ok (.string (strOf x.body)) W) := fun W hW =>
          ⟨(BX.out.chg hW id).at_ (i := 0) rfl, (BX.out.chg hW id).at_ (i := 1) rfl, conv_str W A m c x.body hm.out (hr.out.below (CA.out.trans hW (fun _ _ h => h)).done)⟩
        have E8 : IntKind.u8.wrap x.id = x.id := IntWalk.u8_in _ (by omega)
        have hsz : Hid ((strOf x.body).size = m) := by rw [Hid, strOf_size, hm.out]
        clear k1 k3 k4 hL2 hn2 c1
        go_wp2_with fail
        go_region_held3 (fun w' => w'.cell? ⟨h, 0, none⟩ = some (.int .i64 x.id) ∧ w'.cell? ⟨h, 1, none⟩ = some (.slice A m c) ∧ (convert 29 9 (.slice A m c)).run Try.prog w' = .ok (.string (strOf x.body)) w') (exact HS.out _ (by repeat (first | exact C2.out | exact C3.out | exact C4.out | refine Chg.drew ?_ | refine Chg.drewN ?_ _ | refine Chg.alloc ?_ _))) (first | ((refine st_appn rfl _ _ 29 5 .u8 1 rfl Try.underlying29 infoU8 (by decide) (.slice A2 n2 c2) L2 rfl (O2.out.chg (S := fun _ => False) (by repeat (first | exact Chg.refl _ _ | refine Chg.drew ?_ | refine Chg.drewN ?_ _ | refine Chg.alloc ?_ _)) (fun _ _ h => h)) (some ⟨w2.heap.size, 0, none⟩) 1 [x.id] 1 rfl rfl (rd_box1 x.id 5 (fun _ => rfl)) (by rw [← HN2.out]; simp; omega) ?_; intro v3 w3 k1 k2 k3 k4; obtain ⟨L3, hL3⟩ : ∃ L3, L3 = L2 ++ [x.id] := ⟨_, rfl⟩; rw [← hL3] at k1; obtain ⟨A3, c3, hv3, _, _⟩ := k1.slice; obtain ⟨n3, hn3⟩ : ∃ n3, n3 = L3.length := ⟨_, rfl⟩; rw [← hn3] at hv3; subst hv3; have HL3 := Lib.hid hL3; have HN3 := Lib.hid hn3; have O3 := Lib.hid k1; have C3 : Hid (Chg (fun _ => False) wa w3) := (show Chg (fun _ => False) wa _ from by repeat (first | exact C2.out | refine Chg.drew ?_ | refine Chg.drewN ?_ _ | refine Chg.alloc ?_ _)).trans k3 (fun y hy hh => by have := F2.out y hh; omega); have F3 : Hid (∀ y, Value.ownBlock (.slice A3 n3 c3) = some y → wa.heap.size ≤ y) := k4.ge F2.out (by have := C2.out.size; simp; omega); clear k1 k2 k3 k4 hL3 hn3)) | (go_at_call 22; refine (appendText (.slice A3 n3 c3) L3 (strOf x.body) _ (by rw [hsz.out]; omega) O3 (by rw [hsz.out, HL3.out, List.length_append, ← HN2.out]; simp; omega)).mono ?_; rintro e w4 ⟨v4, rfl, k1, _, k3, k4⟩; have K1 := Lib.hid k1; have C4 : Hid (Chg (fun _ => False) wa w4) := C3.out.trans k3 (fun y hy hh => by have := F3.out y hh; omega); have F4 : Hid (∀ y, v4.ownBlock = some y → wa.heap.size ≤ y) := k4.ge F3.out C3.out.size; clear k1 k3 k4))
        obtain ⟨H4, hH4⟩ : ∃ H4, H4 = recHd n x := ⟨_, rfl⟩
        have O4 : OwnB w4 v4 H4 := by
          have := K1.out
          rw [hsz.out, bytesOf_strOf hb.out, HL3.out, HL2.out, hm.out] at this
          rw [hH4, recHd]
          simpa [List.append_assoc] using this
        obtain ⟨A4, c4, hv4, _, _⟩ := O4.slice
        obtain ⟨n4, hn4⟩ : ∃ n4, n4 = H4.length := ⟨_, rfl⟩
        rw [← hn4] at hv4
        subst hv4
        have HN4 := Lib.hid hn4
        have O4h := Lib.hid O4
        have HG : Hid (GoodRec x) := ⟨h1, h2, by rw [← hm.out]; omega, hb.out⟩
        have hB4 : Hid (Byt H4) := by rw [hH4]; exact recHd_byt HG.out
        have hn4b : n4 ≤ 4194326 := by
          have e1 := vb_len10 (n := x.body.length) (by rw [← hm.out]; omega)
          have e2 := hvn.out
          rw [hn4, hH4, recHd_length, ← hm.out]
          rw [← hm.out] at e1
          omega
        have hl4 : Hid (H4.length ≤ 140737488355328) := by rw [Hid, ← hn4]; omega
        have R4 : Hid (Rd w4 .u8 A4 H4) := O4h.out.rd (by rw [HN4.out])
        have HH4 := Lib.hid hH4
        clear hH4 hn4 O4 K1
        go_wp2_with fail
        refine (crcCall A4 c4 n4 H4 w4 HN4 hB4 hl4 R4).mono ?_
        rintro e w5 ⟨rfl, k1⟩
        have C5 : Hid (Chg (fun _ => False) wa w5) := C4.out.trans k1 (fun _ _ h => h)
        have O5 := Lib.hid (O4h.out.chg k1 (fun _ _ h => h))
        have v0 := vi_nonneg (crc H4)
        have v1 := vi_lt (crc H4)
        obtain ⟨z, hz⟩ : ∃ z, vi (crc H4) = z := ⟨_, rfl⟩
        rw [hz] at v0 v1 ⊢
        have HZ := Lib.hid hz
        clear k1 hz
        go_wp2_with fail
        refine (sumBytes z w5 v0 v1).mono ?_
        rintro e w6 ⟨A6, c6, rfl, m1⟩
        have R6 : Hid (Rd w6 .u8 A6 (sumB z)) := m1.rd
        have C6 : Hid (Chg (fun _ => False) wa w6) := C5.out.trans m1.chg (fun _ _ h => h)
        have O6 := Lib.hid (O5.out.chg m1.chg (fun _ _ h => h))
        clear m1
        go_upto_region 8 with (at_builtin; go_must (refine wp_appn rfl _ _ 29 5 .u8 1 rfl Try.underlying29 infoU8 (by decide) (.slice A4 n4 c4) H4 rfl O6.out A6 c6 (sumB z) 4 rfl rfl R6.out (by rw [sumB_length, ← HN4.out]; omega) ?_); intro v7 w7 k1 k2 k3 k4; obtain ⟨A7, c7, hv7, hc7, _⟩ := k1.slice; obtain ⟨rB, hrB⟩ : ∃ rB, rB = H4 ++ sumB z := ⟨_, rfl⟩; rw [← hrB] at k1 hv7 hc7; obtain ⟨n7, hn7⟩ : ∃ n7, n7 = rB.length := ⟨_, rfl⟩; rw [← hn7] at hv7 hc7; subst hv7; have HRB := Lib.hid hrB; have HN7 := Lib.hid hn7; clear hrB hn7; have O7 := Lib.hid k1; have C7 : Hid (Chg (fun _ => False) wa w7) := C6.out.trans k3 (fun y hy hh => by have := F4.out y hh; omega); clear k1 k2 k3 k4; have e0 := (CA.out.trans C7.out (fun _ _ h => h)).cell (fun h => h) (BK.out.at_ (i := 0) rfl); go_frame)
        have hn7 : n7 = n4 + 4 := by rw [HN7.out, HRB.out, List.length_append, sumB_length, ← HN4.out]
        have hn7b : n7 ≤ 4194330 := by omega
        have hRE : Hid (rB = recEnc l.length x) := by rw [Hid, HRB.out, HH4.out, ← HZ.out, HH4.out, recEnc, HN.out]
        have HNE : Hid (n7 = (recEnc l.length x).length) := by rw [Hid, ← hRE.out]; exact HN7.out
        clear hn7
        by_cases hfull : 268435456 < nb + n7
        · have hE : Hid (R = (4, l)) := by rw [Hid, ← hR.out, jappRes, if_neg (by omega), if_neg (by rw [← hm.out]; exact h3), if_pos (by rw [← HNB.out, ← HNE.out]; exact hfull)]
          have hfi : (268435456 : Int) < (nb : Int) + (n7 : Int) := by omega
          clear hfull
          go_wp2_with fail
          go_ret
          exact rapp_no hE.out hj.out (CA.out.trans C7.out (fun _ _ h => h))
        · have hE : Hid (R = (0, l ++ [x])) := by rw [Hid, ← hR.out, jappRes, if_neg (by omega), if_neg (by rw [← hm.out]; exact h3), if_neg (by rw [← HNB.out, ← HNE.out]; exact hfull)]
          have hfi : ¬ (268435456 : Int) < (nb : Int) + (n7 : Int) := by omega
          have hJ7 := Lib.hid (hj.out.chg0 (CA.out.trans C7.out (fun _ _ h => h)))
          have r7 : Hid (Rd w7 .u8 A7 (recEnc l.length x)) := by rw [← hRE.out]; exact O7.out.rd (by rw [HN7.out])
          have hszs : Hid ((jnlBytes l).length + n7 ≤ 1073741824) := by rw [Hid, ← HNB.out]; omega
          have hll : l.length ≤ 1073741824 := by rw [← HN.out]; omega
          have HLL := Lib.hid hll
          have q0 := HS.out w7 C7.out
          have hr7 : Hid (∀ W, Chg (fun _ => False) wa W → Rd W .u8 A x.body) := fun W hW => hr.out.below (CA.out.trans hW (fun _ _ h => h)).done
          have hmx : m ≤ 140737488355328 := by omega
          clear hll hfull
          go_wp2_with fail
          go_region_held3 (fun w' => w'.cell? ⟨h, 0, none⟩ = some (.int .i64 x.id) ∧ w'.cell? ⟨h, 1, none⟩ = some (.slice A m c)) (first | exact ⟨B9.out.at_ (i := 0) rfl, B9.out.at_ (i := 1) rfl⟩ | exact ⟨(HS.out _ (by repeat (first | exact C7.out | exact C8.out | refine Chg.drew ?_ | refine Chg.drewN ?_ _ | refine Chg.alloc ?_ _))).1, (HS.out _ (by repeat (first | exact C7.out | exact C8.out | refine Chg.drew ?_ | refine Chg.drewN ?_ _ | refine Chg.alloc ?_ _))).2.1⟩) (first | (go_at_call 44; refine (cloneB A m c x.body _ hm hmx (hr7.out _ (by repeat (first | exact C7.out | refine Chg.drew ?_ | refine Chg.drewN ?_ _ | refine Chg.alloc ?_ _)))).mono ?_; rintro e w8 ⟨A8, n8, c8, rfl, m1⟩; have M8 := Lib.hid m1; have C78 : Hid (Chg (fun _ => False) w7 w8) := (show Chg (fun _ => False) w7 _ from by repeat (first | exact Chg.refl _ _ | refine Chg.drew ?_ | refine Chg.drewN ?_ _ | refine Chg.alloc ?_ _)).trans m1.chg (fun _ _ h => h); have C8 : Hid (Chg (fun _ => False) wa w8) := C7.out.trans C78.out (fun _ _ h => h); have J8 := Lib.hid (hJ7.out.chg0 C78.out); have r8 : Hid (Rd w8 .u8 A7 (recEnc l.length x)) := r7.out.below C78.out.done; have O8 := Lib.hid m1.own; have F8 : Hid (∀ y, Value.ownBlock (.slice A8 n8 c8) = some y → w7.heap.size ≤ y) := (fun y hy => Nat.le_trans (by simp) (m1.new y hy)); have hN8 : Hid (∀ y, Value.ownBlock (.slice A8 n8 c8) = some y → ¬ D y) := (fun y hy hd => by have t1 := m1.new y hy; have t2 := hJ7.out.size y hd; simp at t1; omega); clear m1) | (go_at_call 43; refine (jputI D g (.slice A8 n8 c8) l x A7 n7 c7 w8 J8 O8 hN8 HNE r8 hszs HLL.out).mono ?_; rintro e w9 ⟨rfl, k1, k2⟩; have J9 := Lib.hid k1; have C9 := Lib.hid k2; have B9 : Hid (Blk w9 h 31 [.int .i64 x.id, .slice A m c]) := (BX.out.chg C8.out id).chg k2 (fun hh => hh.elim (fun e => by have := hj.out.lt; have := HH.out; omega) (fun e => by have := hj.out.size _ e; have := HH.out; omega)); clear k1 k2))
          go_wp2_with fail
          go_ret
          rw [hE.out]
          refine ⟨rfl, _, J9.out, fun y hy => ?_, ?_⟩
          · rcases hy with hy | hy | hy
            · exact .inl hy
            · refine .inr ?_
              have h1 := F8.out y hy
              have h2 := C7.out.size
              have h3 := hwz.out
              omega
            · refine .inr ?_
              have h1 := C8.out.size
              have h3 := hwz.out
              omega
          · exact ((CA.out.trans C8.out (fun _ _ h => h)).mono (fun _ _ h => h.elim)).trans C9.out (fun _ _ h => h)
end Go.Proofs.Ytlnomadhgoblkaa.Kit
