/- Unseal and Seal, plainly: they undo each other; what is cut is refused. -/
import Derived.Test.YtcljbaoadmflgaaPlainU
set_option linter.unusedVariables false
set_option linter.unusedSimpArgs false
namespace Go.Proofs.Ytcljbaoadmflgaa.Kit
open Go.RowKit
theorem secsHd_enc {l : List Int} {L : List SecV} (hb : Byt l) (hl : l.length < 18446744073709551616) (h8 : 8 ≤ l.length) (hg : goodSecs L = true) (he : l.drop 8 = vb L.length ++ secsEnc L) : secsHd l = (L, 0, 0, l.length) := by
  have hg' := hg
  simp only [goodSecs, Bool.and_eq_true, decide_eq_true_eq] at hg'
  have hbd := byt_drop hb 8
  rw [he] at hbd
  have e1 : urd (l.drop 8) 18446744073709551615 = (((L.length : Nat) : Int), (vb L.length).length, 0) := by
    rw [he]
    exact urd_vb (by omega) (by omega) (byt_app hbd).2
  have hlen := congrArg List.length he
  simp only [List.length_drop, List.length_append] at hlen
  rw [secsHd_ok e1 (by omega), Int.toNat_natCast, secsRd_enc hb hl L 0 _ [] [] (Int.le_refl 0) (by omega) hg'.2 (by rw [← List.drop_drop, he, List.drop_left, List.append_nil])]
  simp only [List.nil_append, Prod.mk.injEq, true_and]
  omega
theorem secsHd_form {l : List Int} {L : List SecV} {q : Int} {z : Nat} (hb : Byt l) (h8 : 8 ≤ l.length) (h : secsHd l = (L, q, 0, z)) : goodSecs L = true ∧ l.drop 8 = vb L.length ++ (secsEnc L ++ l.drop z) ∧ z ≤ l.length := by
  obtain ⟨x, k, e, hu⟩ : ∃ x k e, urd (l.drop 8) 18446744073709551615 = (x, k, e) := ⟨_, _, _, rfl⟩
  by_cases he : e = 0
  · subst he
    by_cases h64 : 64 < x
    · rw [secsHd_big hu h64] at h
      simp at h
    · rw [secsHd_ok hu h64] at h
      obtain ⟨a1, a2, _, _, _, a6⟩ := urd_form (byt_drop hb 8) hu
      rw [List.length_drop] at a6
      obtain ⟨suf, c1, c2, c3, c4, c5, c6⟩ := secsRd_form hb _ 0 _ _ L q z (Int.le_refl 0) (by omega) h
      rw [List.nil_append] at c1
      subst c1
      refine ⟨by simp only [goodSecs, c6, Bool.and_true, decide_eq_true_eq]; omega, ?_, c5⟩
      rw [← c3, c2, ← a1, ← List.drop_drop]
      exact (List.take_append_drop _ _).symm
  · rw [secsHd_e hu he] at h
    simp at h
    omega
theorem secsOf_form {l : List Int} {L : List SecV} {q : Int} (hb : Byt l) (h8 : 8 ≤ l.length) (h : secsOf l = (L, q, 0)) : goodSecs L = true ∧ l.drop 8 = vb L.length ++ secsEnc L ∧ q = 0 := by
  obtain ⟨L', q', e', z, hh⟩ : ∃ a b c d, secsHd l = (a, b, c, d) := ⟨_, _, _, _, rfl⟩
  by_cases he : e' = 0
  · subst he
    by_cases hz : z < l.length
    · rw [secsOf, hh, if_neg (by simp), if_pos hz] at h
      simp at h
    · rw [secsOf, hh, if_neg (by simp), if_neg hz] at h
      simp only [Prod.mk.injEq, and_true] at h
      obtain ⟨rfl, rfl⟩ := h
      obtain ⟨g1, g2, g3⟩ := secsHd_form hb h8 hh
      rw [List.drop_eq_nil_of_le (by omega : l.length ≤ z), List.append_nil] at g2
      exact ⟨g1, g2, rfl⟩
  · rw [secsOf, hh, if_pos he] at h
    simp at h
    omega
theorem secsOf_enc {l : List Int} {L : List SecV} (hb : Byt l) (hl : l.length < 18446744073709551616) (h8 : 8 ≤ l.length) (hg : goodSecs L = true) (he : l.drop 8 = vb L.length ++ secsEnc L) : secsOf l = (L, 0, 0) := by
  have := secsHd_enc hb hl h8 hg he
  rw [secsOf, this, if_neg (by simp), if_neg (by simp)]
/-- what Unseal takes -/
theorem unseal_form {s : ByteArray} {l : List Int} {L : List SecV} {q : Int} (hb : Byt l) (h : unsealOf s l = (L, q, 0)) : s.size = 8 ∧ 13 ≤ l.length ∧ goodSecs L = true ∧ q = 0 ∧ l = headOf s L ++ sumB (vi (crc (headOf s L))) := by
  by_cases h8 : s.size = 8
  · obtain ⟨p, er, hB⟩ : ∃ p er, beginsP (bytesOf s) l 8 0 = (p, er) := ⟨_, _, rfl⟩
    by_cases he : er = 0
    · subst he
      by_cases h13 : l.length < 13
      · rw [unsealOf, if_neg (by simp [h8]), hB, if_neg (by simp), if_pos h13] at h
        simp at h
      · by_cases hs : sumB (vi (crc (l.take (l.length - 4)))) = l.drop (l.length - 4)
        · rw [unsealOf, if_neg (by simp [h8]), hB, if_neg (by simp), if_neg h13, if_neg (by simpa using hs)] at h
          have hlt : (l.take (l.length - 4)).length = l.length - 4 := by simp
          obtain ⟨g1, g2, g3⟩ := secsOf_form (byt_take hb _) (by omega) h
          obtain ⟨_, b2⟩ := (begins_iff h8).1 (by rw [hB])
          have hH : l.take (l.length - 4) = headOf s L := by
            rw [headOf, List.append_assoc, ← g2, ← b2, show l.take 8 = (l.take (l.length - 4)).take 8 by rw [List.take_take, Nat.min_eq_left (by omega)]]
            exact (List.take_append_drop _ _).symm
          refine ⟨h8, by omega, g1, g3, ?_⟩
          rw [← hH, hs]
          exact (List.take_append_drop _ _).symm
        · rw [unsealOf, if_neg (by simp [h8]), hB, if_neg (by simp), if_neg h13, if_pos hs] at h
          simp at h
    · rw [unsealOf, if_neg (by simp [h8]), hB, if_pos he] at h
      simp at h
      omega
  · rw [unsealOf, if_pos h8] at h
    simp at h
theorem seal_of_unseal {s : ByteArray} {l : List Int} {L : List SecV} {q : Int} (hb : Byt l) (h : unsealOf s l = (L, q, 0)) : sealOf s L = (l, 0) := by
  obtain ⟨h1, _, h3, _, h5⟩ := unseal_form hb h
  rw [sealOf, if_neg (by simp [h1]), if_pos h3, ← h5]
theorem unseal_of_seal {s : ByteArray} {L : List SecV} {B : List Int} (hbt : ∀ x ∈ L, Byt x.body) (hl : B.length < 18446744073709551616) (h : sealOf s L = (B, 0)) : unsealOf s B = (L, 0, 0) := by
  by_cases h8 : s.size = 8
  · by_cases hg : goodSecs L = true
    · rw [sealOf, if_neg (by simp [h8]), if_pos hg] at h
      simp only [Prod.mk.injEq, and_true] at h
      subst h
      have hH := headOf_length s L
      have hv := vb_pos L.length
      rw [List.length_append, sumB_length] at hl
      have hbH : Byt (headOf s L) := headOf_byt s L hbt
      have hlen : (headOf s L ++ sumB (vi (crc (headOf s L)))).length - 4 = (headOf s L).length := by rw [List.length_append, sumB_length]; omega
      have ht : (headOf s L ++ sumB (vi (crc (headOf s L)))).take ((headOf s L ++ sumB (vi (crc (headOf s L)))).length - 4) = headOf s L := by rw [hlen, List.take_left]
      have hd : (headOf s L ++ sumB (vi (crc (headOf s L)))).drop ((headOf s L ++ sumB (vi (crc (headOf s L)))).length - 4) = sumB (vi (crc (headOf s L))) := by rw [hlen, List.drop_left]
      have h8t : (headOf s L).take 8 = bytesOf s := by
        rw [headOf, List.append_assoc, List.take_left' (by rw [bytesOf_length, h8])]
      have h8d : (headOf s L).drop 8 = vb L.length ++ secsEnc L := by
        rw [headOf, List.append_assoc, List.drop_left' (by rw [bytesOf_length, h8])]
      have hB2 : (beginsP (bytesOf s) (headOf s L ++ sumB (vi (crc (headOf s L)))) 8 0).2 = 0 := by
        rw [begins_iff h8]
        refine ⟨by rw [List.length_append]; omega, ?_⟩
        rw [List.take_append_of_le_length (by omega), h8t]
      rw [unsealOf, if_neg (by simp [h8]), if_neg (by simp [hB2]), if_neg (by rw [List.length_append, sumB_length]; omega), hd, ht, if_neg (by simp)]
      exact secsOf_enc hbH (by omega) (by omega) hg h8d
    · rw [sealOf, if_neg (by simp [h8]), if_neg hg] at h
      simp at h
  · rw [sealOf, if_pos h8] at h
    simp at h
theorem seal_good {s : ByteArray} {L : List SecV} (h8 : s.size = 8) (hg : goodSecs L = true) : sealOf s L = (headOf s L ++ sumB (vi (crc (headOf s L))), 0) := by
  rw [sealOf, if_neg (by simp [h8]), if_pos hg]
theorem seal_bad {s : ByteArray} {L : List SecV} (h : ¬ (s.size = 8 ∧ goodSecs L = true)) : (sealOf s L).1 = [] ∧ (sealOf s L).2 ≠ 0 := by
  unfold sealOf
  split
  · simp
  · rename_i h8
    split
    · rename_i hg
      exact absurd ⟨by simpa using h8, hg⟩ h
    · simp
/-- where it went wrong, nothing is handed out; the place lies within -/
theorem secsRd_place {l : List Int} : ∀ (n : Nat) (last : Int) (p : Nat) (acc : List SecV), p ≤ l.length → 0 ≤ (secsRd l n last p acc).2.1 ∧ (secsRd l n last p acc).2.1 ≤ l.length ∧ ((secsRd l n last p acc).2.2.1 = 0 → (secsRd l n last p acc).2.2.2 ≤ l.length)
  | 0, last, p, acc, hp => ⟨Int.le_refl 0, by simp [secsRd], fun _ => hp⟩
  | n + 1, last, p, acc, hp => by
    obtain ⟨x, k, e, hu⟩ : ∃ x k e, urd (l.drop p) 18446744073709551615 = (x, k, e) := ⟨_, _, _, rfl⟩
    have a6 := urd_nle (l.drop p) 18446744073709551615
    rw [hu, List.length_drop] at a6
    simp only at a6
    by_cases he : e = 0
    · subst he
      by_cases hbad : x ≤ last ∨ 255 < x
      · rw [secsRd_bad hu hbad]
        simp
        omega
      · obtain ⟨y, k2, e2, hu2⟩ : ∃ z k2 e2, urd (l.drop (p + k)) 18446744073709551615 = (z, k2, e2) := ⟨_, _, _, rfl⟩
        have b6 := urd_nle (l.drop (p + k)) 18446744073709551615
        rw [hu2, List.length_drop] at b6
        simp only at b6
        by_cases he2 : e2 = 0
        · subst he2
          by_cases hfar : (l.length : Int) - ((p + k + k2 : Nat) : Int) < y
          · rw [secsRd_far hu hbad hu2 hfar]
            simp
          · rw [secsRd_ok hu hbad hu2 hfar]
            exact secsRd_place n x _ _ (by omega)
        · rw [secsRd_e2 hu hbad hu2 he2]
          refine ⟨?_, ?_, fun h => absurd h he2⟩ <;> simp only <;> split <;> omega
    · rw [secsRd_e1 hu he]
      refine ⟨?_, ?_, fun h => absurd h he⟩ <;> simp only <;> split <;> omega
theorem secsHd_place {l : List Int} (h8 : 8 ≤ l.length) : 0 ≤ (secsHd l).2.1 ∧ (secsHd l).2.1 ≤ l.length ∧ ((secsHd l).2.2.1 = 0 → (secsHd l).2.2.2 ≤ l.length) := by
  obtain ⟨x, k, e, hu⟩ : ∃ x k e, urd (l.drop 8) 18446744073709551615 = (x, k, e) := ⟨_, _, _, rfl⟩
  have a6 := urd_nle (l.drop 8) 18446744073709551615
  rw [hu, List.length_drop] at a6
  simp only at a6
  by_cases he : e = 0
  · subst he
    by_cases h64 : 64 < x
    · rw [secsHd_big hu h64]
      simp
      omega
    · rw [secsHd_ok hu h64]
      exact secsRd_place _ _ _ _ (by omega)
  · rw [secsHd_e hu he]
    refine ⟨?_, ?_, fun h => absurd h he⟩ <;> simp only <;> split <;> omega
theorem secsOf_no {l : List Int} (h8 : 8 ≤ l.length) : 0 ≤ (secsOf l).2.1 ∧ (secsOf l).2.1 ≤ l.length ∧ ((secsOf l).2.2 ≠ 0 → (secsOf l).1 = []) := by
  obtain ⟨h1, h2, h3⟩ := secsHd_place h8
  unfold secsOf
  split
  · exact ⟨h1, h2, fun _ => rfl⟩
  · split
    · exact ⟨by simp, by simp; omega, fun _ => rfl⟩
    · exact ⟨by simp, by simp, fun h => absurd rfl h⟩
theorem unseal_no (s : ByteArray) (l : List Int) : 0 ≤ (unsealOf s l).2.1 ∧ (unsealOf s l).2.1 ≤ l.length ∧ ((unsealOf s l).2.2 ≠ 0 → (unsealOf s l).1 = []) := by
  unfold unsealOf
  split
  · exact ⟨Int.le_refl 0, by simp, fun _ => rfl⟩
  · split
    · have := beginsP_place (m := bytesOf s) (l := l) 8 0 (by omega)
      exact ⟨this.1, this.2, fun _ => rfl⟩
    · split
      · exact ⟨by simp, by simp, fun _ => rfl⟩
      · rename_i h13
        split
        · refine ⟨by simp only; omega, by simp only; omega, fun _ => rfl⟩
        · have hlt : (l.take (l.length - 4)).length = l.length - 4 := by simp
          obtain ⟨h1, h2, h3⟩ := secsOf_no (l := l.take (l.length - 4)) (by omega)
          exact ⟨h1, by omega, h3⟩
/-- another mark -/
theorem unseal_other {s t : ByteArray} {L : List SecV} {B : List Int} (h : sealOf s L = (B, 0)) (hb : Byt B) (ht : t ≠ s) : (unsealOf t B).2.2 ≠ 0 := by
  intro h0
  obtain ⟨L', q, e, hU⟩ : ∃ a b c, unsealOf t B = (a, b, c) := ⟨_, _, _, rfl⟩
  rw [hU] at h0
  simp only at h0
  subst h0
  obtain ⟨t8, _, _, _, hB⟩ := unseal_form hb hU
  by_cases hs : s.size = 8 ∧ goodSecs L = true
  · rw [seal_good hs.1 hs.2] at h
    simp only [Prod.mk.injEq, and_true] at h
    have e1 : B.take 8 = bytesOf t := by
      rw [hB, headOf, List.append_assoc, List.append_assoc, List.take_left' (by rw [bytesOf_length, t8])]
    have e2 : B.take 8 = bytesOf s := by
      rw [← h, headOf, List.append_assoc, List.append_assoc, List.take_left' (by rw [bytesOf_length, hs.1])]
    exact ht (by rw [← strOf_bytesOf t, ← strOf_bytesOf s, ← e1, ← e2])
  · exact (seal_bad hs).2 (by rw [h])
/-- sections that begin others are those -/
theorem secsEnc_uniq : ∀ (L l : List SecV) (a b : Int) (R : List Int), L.length = l.length → 0 ≤ a → 0 ≤ b → goodFrom a L = true → goodFrom b l = true → Byt (secsEnc l) → (secsEnc l).length < 18446744073709551616 → secsEnc L ++ R = secsEnc l → R = []
  | [], [], _, _, R, _, _, _, _, _, _, _, h => by simpa [secsEnc] using h
  | [], _ :: _, _, _, _, h, _, _, _, _, _, _, _ => by simp at h
  | _ :: _, [], _, _, _, h, _, _, _, _, _, _, _ => by simp at h
  | x :: xs, y :: ys, a, b, R, hl, ha, hb, g1, g2, hbt, hlen, h => by
    obtain ⟨x1, x2, x3, x4⟩ := goodFrom_id ha g1
    obtain ⟨y1, y2, y3, y4⟩ := goodFrom_id hb g2
    rw [secsEnc_cons, secsEnc_cons, SecV.enc, SecV.enc] at h
    rw [secsEnc_cons, SecV.enc] at hbt hlen
    simp only [List.append_assoc] at h hbt hlen
    simp only [List.length_append] at hlen
    have hh := congrArg List.length h
    simp only [List.length_append] at hh
    have hbt2 := hbt
    rw [← h] at hbt2
    have u1 := urd_vb (n := x.id.toNat) (limit := 18446744073709551615) (by omega) (by omega) (byt_app hbt2).2
    have u2 := urd_vb (n := y.id.toNat) (limit := 18446744073709551615) (by omega) (by omega) (byt_app hbt).2
    rw [h, u2] at u1
    simp only [Prod.mk.injEq, and_true] at u1
    have e1 : x.id.toNat = y.id.toNat := by omega
    rw [e1] at h
    have h2 := List.append_cancel_left h
    have b1 := (byt_app hbt).2
    have b2 := b1
    rw [← h2] at b2
    have v1 := urd_vb (n := x.body.length) (limit := 18446744073709551615) (by omega) (by omega) (byt_app b2).2
    have v2 := urd_vb (n := y.body.length) (limit := 18446744073709551615) (by omega) (by omega) (byt_app b1).2
    rw [h2, v2] at v1
    simp only [Prod.mk.injEq, and_true] at v1
    have e2 : x.body.length = y.body.length := by omega
    rw [e2] at h2
    have h3 := List.append_cancel_left h2
    obtain ⟨_, h4⟩ := List.append_inj h3 e2
    exact secsEnc_uniq xs ys x.id y.id R (by simpa using hl) x3 y3 x4 y4 (byt_app (byt_app b1).2).2 (by omega) h4
/-- a cut is refused -/
theorem unseal_cut {s : ByteArray} {l : List SecV} {B : List Int} {cut : Nat} (h : sealOf s l = (B, 0)) (hbt : ∀ x ∈ l, Byt x.body) (hlen : B.length < 18446744073709551616) (hc : cut < B.length) : (unsealOf s (B.take cut)).2.2 ≠ 0 := by
  intro h0
  obtain ⟨L, q, e, hU⟩ : ∃ a b c, unsealOf s (B.take cut) = (a, b, c) := ⟨_, _, _, rfl⟩
  rw [hU] at h0
  simp only at h0
  subst h0
  by_cases hs : s.size = 8 ∧ goodSecs l = true
  · rw [seal_good hs.1 hs.2] at h
    simp only [Prod.mk.injEq, and_true] at h
    have hbH : Byt (headOf s l) := headOf_byt s l hbt
    have hbB : Byt B := by
      rw [← h]
      exact byt_mk hbH (sumB_byt _ (vi_nonneg _) (vi_lt _))
    obtain ⟨_, h13, hg, _, hB⟩ := unseal_form (byt_take hbB cut) hU
    have hlB : B.length = (headOf s l).length + 4 := by rw [← h, List.length_append, sumB_length]
    have hlt : (B.take cut).length = cut := by rw [List.length_take]; omega
    have hl2 := congrArg List.length hB
    rw [hlt, List.length_append, sumB_length] at hl2
    have hpre : headOf s L = (headOf s l).take (cut - 4) := by
      have e1 := congrArg (List.take (cut - 4)) hB
      rw [List.take_take, Nat.min_eq_left (by omega), List.take_left' (by omega), ← h, List.take_append_of_le_length (by omega)] at e1
      exact e1.symm
    have hsplit : headOf s L ++ (headOf s l).drop (cut - 4) = headOf s l := by
      rw [hpre]
      exact List.take_append_drop _ _
    unfold headOf at hsplit
    simp only [List.append_assoc] at hsplit
    have h2 := List.append_cancel_left hsplit
    have hbv : Byt (vb l.length ++ secsEnc l) := by
      have := hbH
      unfold headOf at this
      rw [List.append_assoc] at this
      exact (byt_app this).2
    have hbv2 := hbv
    rw [← h2] at hbv2
    have gl := hs.2
    simp only [goodSecs, Bool.and_eq_true, decide_eq_true_eq] at gl hg
    have hHl := headOf_length s l
    have u1 := urd_vb (n := L.length) (limit := 18446744073709551615) (by omega) (by omega) (byt_app hbv2).2
    have u2 := urd_vb (n := l.length) (limit := 18446744073709551615) (by omega) (by omega) (byt_app hbv).2
    rw [h2, u2] at u1
    simp only [Prod.mk.injEq, and_true] at u1
    have e1 : L.length = l.length := by omega
    rw [e1] at h2
    have h3 := List.append_cancel_left h2
    have hR := secsEnc_uniq L l 0 0 _ e1 (Int.le_refl 0) (Int.le_refl 0) hg.2 gl.2 (byt_app hbv).2 (by omega) h3
    have hR2 := congrArg List.length hR
    rw [show (bytesOf s ++ (vb l.length ++ secsEnc l)) = headOf s l from by rw [headOf, List.append_assoc], List.length_drop] at hR2
    simp at hR2
    omega
  · exact (seal_bad hs).2 (by rw [h])
end Go.Proofs.Ytcljbaoadmflgaa.Kit
