/- Unseal, plainly: what is sealed is opened; what is opened was sealed so; a cut is refused. -/
import Derived.Test.YtcljbaoadmflgaaUns
import Derived.Test.YtcljbaoadmflgaaSmall
import Derived.Test.YtcljbaoadmflgaaPlainB
set_option linter.unusedVariables false
set_option linter.unusedSimpArgs false
namespace Go.Proofs.Ytcljbaoadmflgaa.Kit
open Go.RowKit
theorem byt_app {a b : List Int} (h : Byt (a ++ b)) : Byt a ∧ Byt b := ⟨fun z hz => h z (List.mem_append_left _ hz), fun z hz => h z (List.mem_append_right _ hz)⟩
theorem byt_mk {a b : List Int} (h : Byt a) (k : Byt b) : Byt (a ++ b) := fun z hz => by
  rcases List.mem_append.1 hz with hz | hz
  · exact h z hz
  · exact k z hz
theorem byt_drop {a : List Int} (h : Byt a) (n : Nat) : Byt (a.drop n) := fun z hz => h z (List.mem_of_mem_drop hz)
theorem byt_take {a : List Int} (h : Byt a) (n : Nat) : Byt (a.take n) := fun z hz => h z (List.mem_of_mem_take hz)
/-! ## beginnings -/
theorem beginsP_ok {m l : List Int} : ∀ (f i : Nat), i + f ≤ m.length → ((beginsP m l f i).2 = 0 ↔ i + f ≤ l.length ∧ (l.drop i).take f = (m.drop i).take f) ∨ f = 0
  | 0, i, _ => .inr rfl
  | f + 1, i, hm => .inl (by
    by_cases h : l.length ≤ i
    · rw [beginsP_short h]
      simp
      omega
    · have hi : i < l.length := by omega
      have him : i < m.length := by omega
      by_cases he : l[i] = m[i]
      · rw [beginsP_next hi him he]
        rw [List.drop_eq_getElem_cons hi, List.drop_eq_getElem_cons him, List.take_succ_cons, List.take_succ_cons]
        rcases beginsP_ok (m := m) (l := l) f (i + 1) (by omega) with h1 | h1
        · rw [h1]
          constructor
          · rintro ⟨h2, h3⟩
            exact ⟨by omega, by rw [h3, he]⟩
          · rintro ⟨h2, h3⟩
            exact ⟨by omega, (List.cons.inj h3).2⟩
        · subst h1
          simp [beginsP, he]
          omega
      · rw [beginsP_bad hi him he, List.drop_eq_getElem_cons hi, List.drop_eq_getElem_cons him, List.take_succ_cons, List.take_succ_cons]
        simp [he])
theorem begins_iff {s : ByteArray} {l : List Int} (hs : s.size = 8) : (beginsP (bytesOf s) l 8 0).2 = 0 ↔ 8 ≤ l.length ∧ l.take 8 = bytesOf s := by
  rcases beginsP_ok (m := bytesOf s) (l := l) 8 0 (by rw [bytesOf_length]; omega) with h | h
  · rw [h]
    simp only [Nat.zero_add, List.drop_zero]
    rw [List.take_of_length_le (l := bytesOf s) (by rw [bytesOf_length]; omega)]
  · omega
theorem beginsP_zero {m l : List Int} : ∀ (f i : Nat), (beginsP m l f i).2 = 0 → (beginsP m l f i).1 = 0
  | 0, i, _ => rfl
  | f + 1, i, h => by
    unfold beginsP at h ⊢
    split at h
    · simp at h
    · rename_i h1
      rw [if_neg h1]
      split at h
      · simp at h
      · rename_i h2
        rw [if_neg h2]
        exact beginsP_zero f (i + 1) h
theorem beginsP_place {m l : List Int} : ∀ (f i : Nat), i ≤ l.length → 0 ≤ (beginsP m l f i).1 ∧ (beginsP m l f i).1 ≤ l.length
  | 0, i, _ => by
    show (0 : Int) ≤ 0 ∧ (0 : Int) ≤ l.length
    omega
  | f + 1, i, h => by
    unfold beginsP
    split
    · exact ⟨by simp, by simp; omega⟩
    · split
      · exact ⟨by simp, by simp; omega⟩
      · exact beginsP_place f (i + 1) (by omega)
/-! ## sections: read back -/
theorem goodFrom_id {last : Int} {x : SecV} {xs : List SecV} (h0 : 0 ≤ last) (h : goodFrom last (x :: xs) = true) : last < x.id ∧ x.id ≤ 255 ∧ 0 ≤ x.id ∧ goodFrom x.id xs = true := by
  simp only [goodFrom, Bool.and_eq_true, decide_eq_true_eq] at h
  exact ⟨h.1, h.2.1, by omega, h.2.2⟩
theorem secsEnc_cons (x : SecV) (xs : List SecV) : secsEnc (x :: xs) = x.enc ++ secsEnc xs := rfl
theorem secsRd_enc {l : List Int} (hb : Byt l) (hl : l.length < 18446744073709551616) : ∀ (suf : List SecV) (last : Int) (p : Nat) (acc : List SecV) (rest : List Int), 0 ≤ last → p ≤ l.length → goodFrom last suf = true → l.drop p = secsEnc suf ++ rest →
    secsRd l suf.length last p acc = (acc ++ suf, 0, 0, p + (secsEnc suf).length)
  | [], last, p, acc, rest, _, _, _, _ => by
    simp [secsRd, secsEnc]
  | x :: xs, last, p, acc, rest, h0, hp, hg, he => by
    obtain ⟨g1, g2, g3, g4⟩ := goodFrom_id h0 hg
    rw [secsEnc_cons, SecV.enc] at he
    simp only [List.append_assoc] at he
    have hbd := byt_drop hb p
    rw [he] at hbd
    have hlen := congrArg List.length he
    simp only [List.length_drop, List.length_append] at hlen
    have hbl : x.body.length < 18446744073709551616 := by omega
    have e1 : urd (l.drop p) 18446744073709551615 = (((x.id.toNat : Nat) : Int), (vb x.id.toNat).length, 0) := by
      rw [he]
      exact urd_vb (by omega) (by omega) (byt_app hbd).2
    have d1 : l.drop (p + (vb x.id.toNat).length) = vb x.body.length ++ (x.body ++ (secsEnc xs ++ rest)) := by
      rw [← List.drop_drop, he, List.drop_left]
    have e2 : urd (l.drop (p + (vb x.id.toNat).length)) 18446744073709551615 = (((x.body.length : Nat) : Int), (vb x.body.length).length, 0) := by
      rw [d1]
      exact urd_vb hbl (by omega) (byt_app (byt_app hbd).2).2
    have d2 : l.drop (p + (vb x.id.toNat).length + (vb x.body.length).length) = x.body ++ (secsEnc xs ++ rest) := by
      rw [← List.drop_drop, d1, List.drop_left]
    have d3 : l.drop (p + (vb x.id.toNat).length + (vb x.body.length).length + x.body.length) = secsEnc xs ++ rest := by
      rw [← List.drop_drop, d2, List.drop_left]
    rw [List.length_cons, secsRd_ok e1 (by omega) e2 (by omega)]
    rw [Int.toNat_natCast, d2, List.take_left]
    rw [secsRd_enc hb hl xs _ _ _ rest (by omega) (by omega) (by rw [show ((x.id.toNat : Nat) : Int) = x.id by omega]; exact g4) d3]
    have : (⟨((x.id.toNat : Nat) : Int), x.body⟩ : SecV) = x := by
      rw [show ((x.id.toNat : Nat) : Int) = x.id by omega]
    rw [this, secsEnc_cons, SecV.enc]
    simp only [List.append_assoc, List.length_append, List.cons_append, List.nil_append, Prod.mk.injEq, true_and]
    omega
theorem secsRd_form {l : List Int} (hb : Byt l) : ∀ (n : Nat) (last : Int) (p : Nat) (acc : List SecV) (L : List SecV) (q : Int) (z : Nat), 0 ≤ last → p ≤ l.length → secsRd l n last p acc = (L, q, 0, z) →
    ∃ suf, L = acc ++ suf ∧ suf.length = n ∧ l.drop p = secsEnc suf ++ l.drop z ∧ z = p + (secsEnc suf).length ∧ z ≤ l.length ∧ goodFrom last suf = true
  | 0, last, p, acc, L, q, z, _, hp, h => by
    simp only [secsRd, Prod.mk.injEq] at h
    obtain ⟨rfl, _, _, rfl⟩ := h
    exact ⟨[], by simp, rfl, by simp [secsEnc], by simp [secsEnc], hp, rfl⟩
  | n + 1, last, p, acc, L, q, z, h0, hp, h => by
    obtain ⟨x, k, e, hu⟩ : ∃ x k e, urd (l.drop p) 18446744073709551615 = (x, k, e) := ⟨_, _, _, rfl⟩
    by_cases he : e = 0
    · subst he
      by_cases hbad : x ≤ last ∨ 255 < x
      · rw [secsRd_bad hu hbad] at h
        simp at h
      · obtain ⟨y, k2, e2, hu2⟩ : ∃ z k2 e2, urd (l.drop (p + k)) 18446744073709551615 = (z, k2, e2) := ⟨_, _, _, rfl⟩
        by_cases he2 : e2 = 0
        · subst he2
          by_cases hfar : (l.length : Int) - ((p + k + k2 : Nat) : Int) < y
          · rw [secsRd_far hu hbad hu2 hfar] at h
            simp at h
          · rw [secsRd_ok hu hbad hu2 hfar] at h
            obtain ⟨a1, a2, _, _, _, a6⟩ := urd_form (byt_drop hb p) hu
            obtain ⟨b1, b2, _, _, _, b6⟩ := urd_form (byt_drop hb (p + k)) hu2
            rw [List.length_drop] at a6 b6
            obtain ⟨suf, c1, c2, c3, c4, c5, c6⟩ := secsRd_form hb n x _ _ L q z (by omega) (by omega) h
            refine ⟨⟨x, (l.drop (p + k + k2)).take y.toNat⟩ :: suf, ?_, by simp [c2], ?_, ?_, c5, ?_⟩
            · rw [c1]
              simp
            · have hbl : ((l.drop (p + k + k2)).take y.toNat).length = y.toNat := by
                simp
                omega
              rw [secsEnc_cons, SecV.enc, hbl]
              rw [show l.drop p = (l.drop p).take k ++ (l.drop (p + k)) by rw [← List.drop_drop]; exact (List.take_append_drop _ _).symm]
              rw [show l.drop (p + k) = (l.drop (p + k)).take k2 ++ (l.drop (p + k + k2)) by rw [← List.drop_drop (i := k2) (j := p + k)]; exact (List.take_append_drop _ _).symm]
              rw [a1, b1]
              conv => lhs; rhs; rhs; rw [show l.drop (p + k + k2) = (l.drop (p + k + k2)).take y.toNat ++ (l.drop (p + k + k2 + y.toNat)) by rw [← List.drop_drop (i := y.toNat) (j := p + k + k2)]; exact (List.take_append_drop _ _).symm]
              rw [c3]
              simp only [List.append_assoc]
            · have hbl : ((l.drop (p + k + k2)).take y.toNat).length = y.toNat := by
                simp
                omega
              have a7 := congrArg List.length a1
              have b7 := congrArg List.length b1
              rw [List.length_take, List.length_drop] at a7 b7
              rw [secsEnc_cons, SecV.enc, hbl, c4]
              simp only [List.length_append]
              rw [hbl, ← a7, ← b7]
              omega
            · simp only [goodFrom, c6, Bool.and_true, Bool.and_eq_true, decide_eq_true_eq]
              omega
        · rw [secsRd_e2 hu hbad hu2 he2] at h
          simp at h
          omega
    · rw [secsRd_e1 hu he] at h
      simp at h
      omega
end Go.Proofs.Ytcljbaoadmflgaa.Kit
