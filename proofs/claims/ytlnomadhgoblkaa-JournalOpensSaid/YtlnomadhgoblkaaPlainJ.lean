/- The journal, plainly: a record's bytes; what is read of any bytes. -/
import Derived.Test.YtlnomadhgoblkaaPlainV
import Derived.Test.YtlnomadhgoblkaaPlainK
import Derived.Test.YtlnomadhgoblkaaPlainM
set_option linter.unusedVariables false
set_option linter.unusedSimpArgs false
namespace Go.Proofs.Ytlnomadhgoblkaa.Kit
open Go.RowKit
/-- a record's bytes ahead of its sum; its bytes -/
def recHd (n : Nat) (x : SecV) : List Int := 167 :: (vb n ++ (x.id :: (vb x.body.length ++ x.body)))
def recEnc (n : Nat) (x : SecV) : List Int := recHd n x ++ sumB (vi (crc (recHd n x)))
def jnlFrom : Nat → List SecV → List Int
  | _, [] => []
  | n, x :: xs => recEnc n x ++ jnlFrom (n + 1) xs
/-- may the record be appended? -/
def GoodRec (x : SecV) : Prop := 1 ≤ x.id ∧ x.id ≤ 255 ∧ x.body.length ≤ 4194304 ∧ Byt x.body
theorem recHd_byt {n : Nat} {x : SecV} (h : GoodRec x) : Byt (recHd n x) := fun z hz => by
  rcases List.mem_cons.1 hz with rfl | hz
  · omega
  · rcases List.mem_append.1 hz with hz | hz
    · exact vb_byt _ z hz
    · rcases List.mem_cons.1 hz with rfl | hz
      · have := h.1
        have := h.2.1
        omega
      · rcases List.mem_append.1 hz with hz | hz
        · exact vb_byt _ z hz
        · exact h.2.2.2 z hz
theorem recEnc_byt {n : Nat} {x : SecV} (h : GoodRec x) : Byt (recEnc n x) := byt_mk (recHd_byt h) (sumB_byt _ (vi_nonneg _) (vi_lt _))
theorem recHd_length (n : Nat) (x : SecV) : (recHd n x).length = 2 + (vb n).length + (vb x.body.length).length + x.body.length := by
  simp [recHd]
  omega
theorem recEnc_length (n : Nat) (x : SecV) : (recEnc n x).length = (recHd n x).length + 4 := by rw [recEnc, List.length_append, sumB_length]
theorem jnlFrom_byt : ∀ (l : List SecV) (n : Nat), (∀ x ∈ l, GoodRec x) → Byt (jnlFrom n l)
  | [], n, _ => fun z hz => by simp [jnlFrom] at hz
  | x :: xs, n, h => byt_mk (recEnc_byt (h x (by simp))) (jnlFrom_byt xs (n + 1) (fun y hy => h y (by simp [hy])))
theorem jnlFrom_app : ∀ (l m : List SecV) (n : Nat), jnlFrom n (l ++ m) = jnlFrom n l ++ jnlFrom (n + l.length) m
  | [], m, n => by simp [jnlFrom]
  | x :: xs, m, n => by
    rw [List.cons_append, jnlFrom, jnlFrom, jnlFrom_app xs m (n + 1), List.append_assoc, List.length_cons, show n + 1 + xs.length = n + (xs.length + 1) by omega]
theorem jnlFrom_snoc (l : List SecV) (x : SecV) (n : Nat) : jnlFrom n (l ++ [x]) = jnlFrom n l ++ recEnc (n + l.length) x := by
  rw [jnlFrom_app, jnlFrom, jnlFrom, List.append_nil]
/-- the record that stands whole at the beginning; how many bytes it has -/
def recRd (l : List Int) (n : Nat) : Option (SecV × Nat) :=
  if l[0]? = some 167 then
    if (urd (l.drop 1) n).2.2 ≠ 0 ∨ (urd (l.drop 1) n).1 ≠ n then none
    else match l[1 + (urd (l.drop 1) n).2.1]? with
      | none => none
      | some kd => if kd = 0 then none
        else if (urd (l.drop (2 + (urd (l.drop 1) n).2.1)) 4194304).2.2 ≠ 0 then none
        else if l.length < 2 + (urd (l.drop 1) n).2.1 + (urd (l.drop (2 + (urd (l.drop 1) n).2.1)) 4194304).2.1 + (urd (l.drop (2 + (urd (l.drop 1) n).2.1)) 4194304).1.toNat + 4 then none
        else if (l.drop (2 + (urd (l.drop 1) n).2.1 + (urd (l.drop (2 + (urd (l.drop 1) n).2.1)) 4194304).2.1 + (urd (l.drop (2 + (urd (l.drop 1) n).2.1)) 4194304).1.toNat)).take 4 = sumB (vi (crc (l.take (2 + (urd (l.drop 1) n).2.1 + (urd (l.drop (2 + (urd (l.drop 1) n).2.1)) 4194304).2.1 + (urd (l.drop (2 + (urd (l.drop 1) n).2.1)) 4194304).1.toNat))))
        then some (⟨kd, (l.drop (2 + (urd (l.drop 1) n).2.1 + (urd (l.drop (2 + (urd (l.drop 1) n).2.1)) 4194304).2.1)).take (urd (l.drop (2 + (urd (l.drop 1) n).2.1)) 4194304).1.toNat⟩, 2 + (urd (l.drop 1) n).2.1 + (urd (l.drop (2 + (urd (l.drop 1) n).2.1)) 4194304).2.1 + (urd (l.drop (2 + (urd (l.drop 1) n).2.1)) 4194304).1.toNat + 4)
        else none
  else none
section
variable {l : List Int} {n k k2 : Nat} {x z e e2 kd : Int}
theorem recRd_1 (h : l[0]? ≠ some 167) : recRd l n = none := by rw [recRd, if_neg h]
theorem recRd_2 (hu : urd (l.drop 1) n = (x, k, e)) (he : e ≠ 0 ∨ x ≠ n) : recRd l n = none := by
  unfold recRd
  split
  · rw [hu, if_pos he]
  · rfl
theorem recRd_3 (hu : urd (l.drop 1) n = (x, k, 0)) (hk : l[1 + k]? = none ∨ l[1 + k]? = some 0) : recRd l n = none := by
  unfold recRd
  split
  · rw [hu]
    split
    · rfl
    · rcases hk with hk | hk
      · simp only [hk]
      · simp only [hk]
        rfl
  · rfl
theorem recRd_4 (hu : urd (l.drop 1) n = (x, k, 0)) (hv : urd (l.drop (2 + k)) 4194304 = (z, k2, e2)) (he : e2 ≠ 0) : recRd l n = none := by
  unfold recRd
  split
  · rw [hu]
    split
    · rfl
    · split
      · rfl
      · split
        · rfl
        · simp only [hv]
          rw [if_pos he]
  · rfl
theorem recRd_5 (hu : urd (l.drop 1) n = (x, k, 0)) (hv : urd (l.drop (2 + k)) 4194304 = (z, k2, 0)) (hl : l.length < 2 + k + k2 + z.toNat + 4) : recRd l n = none := by
  unfold recRd
  split
  · rw [hu]
    split
    · rfl
    · split
      · rfl
      · split
        · rfl
        · simp only [hv]
          rw [if_neg (by simp), if_pos hl]
  · rfl
theorem recRd_6 (hu : urd (l.drop 1) n = (x, k, 0)) (hv : urd (l.drop (2 + k)) 4194304 = (z, k2, 0)) (hs : (l.drop (2 + k + k2 + z.toNat)).take 4 ≠ sumB (vi (crc (l.take (2 + k + k2 + z.toNat))))) : recRd l n = none := by
  unfold recRd
  split
  · rw [hu]
    split
    · rfl
    · split
      · rfl
      · split
        · rfl
        · simp only [hv]
          split
          · rfl
          · split
            · rfl
            · first | rw [if_neg hs] | rfl
  · rfl
theorem recRd_ok (h0 : l[0]? = some 167) (hu : urd (l.drop 1) n = ((n : Int), k, 0)) (hk : l[1 + k]? = some kd) (hkd : kd ≠ 0) (hv : urd (l.drop (2 + k)) 4194304 = (z, k2, 0)) (hl : ¬ l.length < 2 + k + k2 + z.toNat + 4) (hs : (l.drop (2 + k + k2 + z.toNat)).take 4 = sumB (vi (crc (l.take (2 + k + k2 + z.toNat))))) :
    recRd l n = some (⟨kd, (l.drop (2 + k + k2)).take z.toNat⟩, 2 + k + k2 + z.toNat + 4) := by
  unfold recRd
  rw [if_pos h0, hu, if_neg (by simp)]
  simp only [hk, hv]
  rw [if_neg hkd, if_neg (by simp), if_neg hl, if_pos hs]
theorem recRd_cases (hb : Byt l) : recRd l n = none ∨ ∃ kd k k2 z, l[0]? = some 167 ∧ urd (l.drop 1) n = ((n : Int), k, 0) ∧ l[1 + k]? = some kd ∧ kd ≠ 0 ∧ urd (l.drop (2 + k)) 4194304 = (z, k2, 0) ∧ ¬ l.length < 2 + k + k2 + z.toNat + 4 ∧ (l.drop (2 + k + k2 + z.toNat)).take 4 = sumB (vi (crc (l.take (2 + k + k2 + z.toNat)))) := by
  by_cases h0 : l[0]? = some 167
  · obtain ⟨x, k, e, hu⟩ : ∃ x k e, urd (l.drop 1) n = (x, k, e) := ⟨_, _, _, rfl⟩
    by_cases he : e ≠ 0 ∨ x ≠ n
    · exact .inl (recRd_2 hu he)
    · have he0 : e = 0 := by omega
      have hx0 : x = n := by omega
      subst he0 hx0
      cases hk : l[1 + k]? with
      | none => exact .inl (recRd_3 hu (.inl hk))
      | some kd =>
        by_cases hkd : kd = 0
        · subst hkd
          exact .inl (recRd_3 hu (.inr hk))
        · obtain ⟨z, k2, e2, hv⟩ : ∃ x k' e, urd (l.drop (2 + k)) 4194304 = (x, k', e) := ⟨_, _, _, rfl⟩
          by_cases he2 : e2 = 0
          · subst he2
            by_cases hl : l.length < 2 + k + k2 + z.toNat + 4
            · exact .inl (recRd_5 hu hv hl)
            · by_cases hs : (l.drop (2 + k + k2 + z.toNat)).take 4 = sumB (vi (crc (l.take (2 + k + k2 + z.toNat))))
              · exact .inr ⟨kd, k, k2, z, h0, hu, hk, hkd, hv, hl, hs⟩
              · exact .inl (recRd_6 hu hv hs)
          · exact .inl (recRd_4 hu hv he2)
  · exact .inl (recRd_1 h0)
end
/-- what is read of a record's own bytes -/
theorem recRd_enc {n : Nat} {x : SecV} {rest : List Int} (h : GoodRec x) (hn : n < 18446744073709551616) (hr : Byt rest) : recRd (recEnc n x ++ rest) n = some (x, (recEnc n x).length) := by
  obtain ⟨L, hL⟩ : ∃ L, L = recEnc n x ++ rest := ⟨_, rfl⟩
  rw [← hL]
  have e0 : L = 167 :: (vb n ++ (x.id :: (vb x.body.length ++ (x.body ++ (sumB (vi (crc (recHd n x))) ++ rest))))) := by
    rw [hL, recEnc, recHd]
    simp only [List.append_assoc, List.cons_append]
  have hb : Byt L := by
    rw [hL]
    exact byt_mk (recEnc_byt h) hr
  have hb1 : Byt (vb n ++ (x.id :: (vb x.body.length ++ (x.body ++ (sumB (vi (crc (recHd n x))) ++ rest))))) := fun z hz => hb z (by rw [e0]; simp [hz])
  have d1 : L.drop 1 = vb n ++ (x.id :: (vb x.body.length ++ (x.body ++ (sumB (vi (crc (recHd n x))) ++ rest)))) := by rw [e0]; rfl
  have hu : urd (L.drop 1) n = ((n : Int), (vb n).length, 0) := by
    rw [d1]
    exact urd_vb hn (Int.le_refl _) (byt_app hb1).2
  have d2 : L.drop (1 + (vb n).length) = x.id :: (vb x.body.length ++ (x.body ++ (sumB (vi (crc (recHd n x))) ++ rest))) := by
    rw [← List.drop_drop, d1, List.drop_left]
  have hk : L[1 + (vb n).length]? = some x.id := by
    have := congrArg (·[0]?) d2
    simpa [List.getElem?_drop] using this
  have d3 : L.drop (2 + (vb n).length) = vb x.body.length ++ (x.body ++ (sumB (vi (crc (recHd n x))) ++ rest)) := by
    rw [show 2 + (vb n).length = 1 + (vb n).length + 1 by omega, ← List.drop_drop, d2]
    rfl
  have hb3 : Byt (vb x.body.length ++ (x.body ++ (sumB (vi (crc (recHd n x))) ++ rest))) := by rw [← d3]; exact byt_drop hb _
  have hv : urd (L.drop (2 + (vb n).length)) 4194304 = (((x.body.length : Nat) : Int), (vb x.body.length).length, 0) := by
    rw [d3]
    have := h.2.2.1
    exact urd_vb (by omega) (by omega) (byt_app hb3).2
  have d4 : L.drop (2 + (vb n).length + (vb x.body.length).length) = x.body ++ (sumB (vi (crc (recHd n x))) ++ rest) := by
    rw [← List.drop_drop, d3, List.drop_left]
  have d5 : L.drop (2 + (vb n).length + (vb x.body.length).length + x.body.length) = sumB (vi (crc (recHd n x))) ++ rest := by
    rw [← List.drop_drop, d4, List.drop_left]
  have t5 : L.take (2 + (vb n).length + (vb x.body.length).length + x.body.length) = recHd n x := by
    rw [← recHd_length, hL, recEnc, List.append_assoc, List.take_left]
  have hlen := recEnc_length n x
  have hh := recHd_length n x
  have hLl : L.length = (recEnc n x).length + rest.length := by rw [hL, List.length_append]
  have := recRd_ok (l := L) (n := n) (kd := x.id) (by rw [e0]; rfl) hu hk (by have := h.1; omega) hv (by rw [Int.toNat_natCast]; omega) (by
    rw [Int.toNat_natCast, d5, t5, List.take_left' (sumB_length _)])
  rw [this, Int.toNat_natCast, d4, List.take_left, hlen, hh]
/-- what is read is a record's own bytes -/
theorem recRd_form {l : List Int} {n sz : Nat} {x : SecV} (hb : Byt l) (h : recRd l n = some (x, sz)) : GoodRec x ∧ sz = (recEnc n x).length ∧ l.take sz = recEnc n x ∧ sz ≤ l.length := by
  rcases recRd_cases (n := n) hb with h' | ⟨kd, k, k2, z, h0, hu, hk, hkd, hv, hl, hs⟩
  · rw [h'] at h
    cases h
  · rw [recRd_ok h0 hu hk hkd hv hl hs] at h
    simp only [Option.some.injEq, Prod.mk.injEq] at h
    obtain ⟨rfl, rfl⟩ := h
    obtain ⟨a1, a2, a3, a4, a5, a6⟩ := urd_form (byt_drop hb 1) hu
    obtain ⟨b1, b2, b3, b4, b5, b6⟩ := urd_form (byt_drop hb (2 + k)) hv
    rw [List.length_drop] at a6 b6
    rw [Int.toNat_natCast] at a1
    have hkl : 1 + k < l.length := by
      rcases Nat.lt_or_ge (1 + k) l.length with h | h
      · exact h
      · rw [List.getElem?_eq_none h] at hk
        cases hk
    have hk1 : l[1 + k] = kd := by
      rw [List.getElem?_eq_getElem hkl] at hk
      injection hk
    have hkb := hb kd (by rw [← hk1]; exact List.getElem_mem hkl)
    have hbl : ((l.drop (2 + k + k2)).take z.toNat).length = z.toNat := by
      simp
      omega
    have l0 : 0 < l.length := by omega
    have h00 : l[0] = 167 := by
      rw [List.getElem?_eq_getElem l0] at h0
      injection h0
    have a7 := congrArg List.length a1
    have b7 := congrArg List.length b1
    rw [List.length_take, List.length_drop] at a7 b7
    have e : l.take (2 + k + k2 + z.toNat) = recHd n ⟨kd, (l.drop (2 + k + k2)).take z.toNat⟩ := by
      rw [recHd]
      simp only [hbl]
      have hcons : l = l[0] :: l.drop 1 := by simpa using List.drop_eq_getElem_cons l0
      have htk : l.take (2 + k + k2 + z.toNat) = l[0] :: (l.drop 1).take (1 + k + k2 + z.toNat) := by
        rw [show 2 + k + k2 + z.toNat = (1 + k + k2 + z.toNat) + 1 by omega]
        exact (congrArg (List.take _) hcons).trans (List.take_succ_cons)
      rw [htk, h00]
      congr 1
      rw [show 1 + k + k2 + z.toNat = k + (1 + (k2 + z.toNat)) by omega, List.take_add, a1, List.drop_drop]
      congr 1
      rw [List.drop_eq_getElem_cons hkl, show 1 + (k2 + z.toNat) = (k2 + z.toNat) + 1 by omega, List.take_succ_cons, hk1]
      congr 1
      rw [List.take_add, show 1 + k + 1 = 2 + k by omega, b1, List.drop_drop]
    have e2 : l.take (2 + k + k2 + z.toNat + 4) = recEnc n ⟨kd, (l.drop (2 + k + k2)).take z.toNat⟩ := by
      rw [List.take_add, hs, e, recEnc]
    have hsz := congrArg List.length e2
    rw [List.length_take, Nat.min_eq_left (by omega)] at hsz
    refine ⟨⟨?_, ?_, ?_, ?_⟩, hsz, e2, by omega⟩
    · show 1 ≤ kd
      omega
    · show kd ≤ 255
      omega
    · show ((l.drop (2 + k + k2)).take z.toNat).length ≤ 4194304
      rw [hbl]
      omega
    · exact byt_take (byt_drop hb _) _
theorem rec_uniq {n : Nat} {x y : SecV} {R R' : List Int} (hx : GoodRec x) (hy : GoodRec y) (hn : n < 18446744073709551616) (hR : Byt R) (hR' : Byt R') (h : recEnc n x ++ R = recEnc n y ++ R') : x = y := by
  have h1 := recRd_enc hx hn hR
  have h2 := recRd_enc hy hn hR'
  rw [h, h2] at h1
  simp only [Option.some.injEq, Prod.mk.injEq] at h1
  exact h1.1.symm
/-- a record that is cut is none -/
theorem recRd_cut {n m : Nat} {x : SecV} (h : GoodRec x) (hn : n < 18446744073709551616) (hm : m < (recEnc n x).length) : recRd ((recEnc n x).take m) n = none := by
  cases hr : recRd ((recEnc n x).take m) n with
  | none => rfl
  | some p =>
    obtain ⟨y, sz⟩ := p
    obtain ⟨g1, g2, g3, g4⟩ := recRd_form (byt_take (recEnc_byt h) m) hr
    rw [List.length_take] at g4
    rw [List.take_take, Nat.min_eq_left (by omega)] at g3
    have he : recEnc n y ++ (recEnc n x).drop sz = recEnc n x ++ [] := by
      rw [← g3, List.append_nil]
      exact List.take_append_drop _ _
    have := rec_uniq g1 h hn (byt_drop (recEnc_byt h) sz) (fun z hz => by simp at hz) he
    subst this
    omega
/-! ## a journal's bytes -/
/-- the records from a place on: all that stand whole; where they end -/
def jnlRd (l : List Int) : Nat → List SecV → Nat → List SecV × Nat
  | 0, acc, p => (acc, p)
  | f + 1, acc, p => match recRd (l.drop p) acc.length with
    | none => (acc, p)
    | some (x, sz) => jnlRd l f (acc ++ [x]) (p + sz)
theorem jnlRd_stop {l : List Int} {f p : Nat} {acc : List SecV} (h : recRd (l.drop p) acc.length = none) : jnlRd l f acc p = (acc, p) := by
  cases f with
  | zero => rfl
  | succ f => rw [jnlRd, h]
theorem jnlRd_step {l : List Int} {f p sz : Nat} {acc : List SecV} {x : SecV} (h : recRd (l.drop p) acc.length = some (x, sz)) : jnlRd l (f + 1) acc p = jnlRd l f (acc ++ [x]) (p + sz) := by
  rw [jnlRd, h]
theorem jnlRd_enc {l : List Int} : ∀ (xs : List SecV) (f p : Nat) (acc : List SecV) (rest : List Int), (∀ x ∈ xs, GoodRec x) → xs.length ≤ f → acc.length + xs.length < 18446744073709551616 → Byt rest → recRd rest (acc.length + xs.length) = none → l.drop p = jnlFrom acc.length xs ++ rest →
    jnlRd l f acc p = (acc ++ xs, p + (jnlFrom acc.length xs).length)
  | [], f, p, acc, rest, _, _, _, _, hn, h => by
    rw [jnlFrom, List.nil_append] at h
    rw [jnlRd_stop (by rw [h]; simpa using hn)]
    simp [jnlFrom]
  | x :: xs, f, p, acc, rest, hg, hf, hlt, hr, hn, h => by
    simp only [List.length_cons] at hf hlt hn
    obtain ⟨f, rfl⟩ : ∃ g, f = g + 1 := ⟨f - 1, by omega⟩
    rw [jnlFrom, List.append_assoc] at h
    have hb : Byt (jnlFrom (acc.length + 1) xs ++ rest) := byt_mk (jnlFrom_byt xs _ (fun y hy => hg y (by simp [hy]))) hr
    have h1 := recRd_enc (hg x (by simp)) (n := acc.length) (by omega) hb
    rw [← h] at h1
    rw [jnlRd_step h1]
    have h2 := jnlRd_enc xs f (p + (recEnc acc.length x).length) (acc ++ [x]) rest (fun y hy => hg y (by simp [hy])) (by omega) (by rw [List.length_append, List.length_singleton]; omega) hr (by rw [List.length_append, List.length_singleton, show acc.length + 1 + xs.length = acc.length + (xs.length + 1) by omega]; exact hn) (by
      rw [← List.drop_drop, h, List.drop_left, List.length_append, List.length_singleton])
    rw [h2]
    simp [jnlFrom]
    omega
theorem jnlRd_form {l : List Int} (hb : Byt l) : ∀ (f p : Nat) (acc : List SecV), p ≤ l.length → ∃ suf, (jnlRd l f acc p).1 = acc ++ suf ∧ (∀ x ∈ suf, GoodRec x) ∧ l.drop p = jnlFrom acc.length suf ++ l.drop (jnlRd l f acc p).2 ∧ (jnlRd l f acc p).2 = p + (jnlFrom acc.length suf).length ∧ (jnlRd l f acc p).2 ≤ l.length
  | 0, p, acc, hp => ⟨[], by simp [jnlRd], fun x hx => absurd hx (by simp), by simp [jnlRd, jnlFrom], by simp [jnlRd, jnlFrom], hp⟩
  | f + 1, p, acc, hp => by
    cases hr : recRd (l.drop p) acc.length with
    | none =>
      rw [jnlRd_stop hr]
      exact ⟨[], by simp, fun x hx => absurd hx (by simp), by simp [jnlFrom], by simp [jnlFrom], hp⟩
    | some q =>
      obtain ⟨x, sz⟩ := q
      obtain ⟨g1, g2, g3, g4⟩ := recRd_form (byt_drop hb p) hr
      rw [List.length_drop] at g4
      rw [jnlRd_step hr]
      obtain ⟨suf, s1, s2, s3, s4, s5⟩ := jnlRd_form hb f (p + sz) (acc ++ [x]) (by omega)
      rw [List.length_append, List.length_singleton] at s3 s4
      refine ⟨x :: suf, by rw [s1]; simp, fun y hy => ?_, ?_, ?_, s5⟩
      · rcases List.mem_cons.1 hy with rfl | hy
        · exact g1
        · exact s2 y hy
      · rw [jnlFrom, List.append_assoc, ← s3, ← g3, ← List.drop_drop]
        exact (List.take_append_drop _ _).symm
      · rw [s4, jnlFrom, List.length_append, ← g2]
        omega
/-- the whole journal's parse stops at no whole record -/
theorem jnlRd_end {l : List Int} (hb : Byt l) : ∀ (f p : Nat) (acc : List SecV), p ≤ l.length → l.length < p + 8 * f + 8 → recRd (l.drop (jnlRd l f acc p).2) (jnlRd l f acc p).1.length = none
  | 0, p, acc, hp, hf => by
    cases hr : recRd (l.drop p) acc.length with
    | none => exact hr
    | some q =>
      obtain ⟨x, sz⟩ := q
      obtain ⟨g1, g2, g3, g4⟩ := recRd_form (byt_drop hb p) hr
      rw [List.length_drop] at g4
      have h1 := recEnc_length acc.length x
      have h2 := recHd_length acc.length x
      have h3 := vb_pos acc.length
      have h4 := vb_pos x.body.length
      omega
  | f + 1, p, acc, hp, hf => by
    cases hr : recRd (l.drop p) acc.length with
    | none =>
      rw [jnlRd_stop hr]
      exact hr
    | some q =>
      obtain ⟨x, sz⟩ := q
      obtain ⟨g1, g2, g3, g4⟩ := recRd_form (byt_drop hb p) hr
      rw [List.length_drop] at g4
      rw [jnlRd_step hr]
      have h1 := recEnc_length acc.length x
      have h2 := recHd_length acc.length x
      have h3 := vb_pos acc.length
      have h4 := vb_pos x.body.length
      exact jnlRd_end hb f (p + sz) (acc ++ [x]) (by omega) (by omega)
end Go.Proofs.Ytlnomadhgoblkaa.Kit
