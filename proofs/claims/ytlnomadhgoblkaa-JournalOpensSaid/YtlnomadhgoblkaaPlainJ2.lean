/- The journal, plainly: what is opened of a cut, a spoilt, a turned journal. -/
import Derived.Test.YtlnomadhgoblkaaPlainJ
import Derived.Test.YtlnomadhgoblkaaPlainF
import Derived.Test.YtlnomadhgoblkaaJw
set_option linter.unusedVariables false
set_option linter.unusedSimpArgs false
namespace Go.Proofs.Ytlnomadhgoblkaa.Kit
open Go.RowKit
theorem jnl_split (l : List SecV) (k : Nat) (h : k ≤ l.length) : jnlBytes l = jnlBytes (l.take k) ++ jnlFrom k (l.drop k) := by
  have e := jnlFrom_app (l.take k) (l.drop k) 0
  rw [List.take_append_drop, List.length_take, Nat.min_eq_left h, Nat.zero_add] at e
  rw [jnlBytes, e, jnlBytes, List.append_assoc]
theorem jnl_mono (l : List SecV) (k m : Nat) (h : k ≤ m) : (jnlBytes (l.take k)).length ≤ (jnlBytes (l.take m)).length := by
  rcases Nat.lt_or_ge m l.length with hm | hm
  · have := jnl_split (l.take m) k (by rw [List.length_take]; omega)
    rw [List.take_take, Nat.min_eq_left h] at this
    rw [this, List.length_append]
    omega
  · rw [List.take_of_length_le hm]
    rcases Nat.lt_or_ge k l.length with hk | hk
    · have := jnl_split l k (Nat.le_of_lt hk)
      rw [this, List.length_append]
      omega
    · rw [List.take_of_length_le hk]
      exact Nat.le_refl _
theorem jnl_le (l : List SecV) (k : Nat) : (jnlBytes (l.take k)).length ≤ (jnlBytes l).length := by
  have := jnl_mono l k (max k l.length) (by omega)
  rwa [List.take_of_length_le (i := max k l.length) (by omega)] at this
theorem jnlBytes_byt {l : List SecV} (h : ∀ x ∈ l, GoodRec x) : Byt (jnlBytes l) := byt_mk jhead_byt (jnlFrom_byt l 0 h)
theorem jhead_length : jhead.length = 8 := rfl
theorem recRd_nil (n : Nat) : recRd [] n = none := recRd_1 (by simp)
theorem jnlRd_pre {l : List Int} : ∀ (xs : List SecV) (f p : Nat) (acc : List SecV) (rest : List Int), (∀ x ∈ xs, GoodRec x) → xs.length ≤ f → acc.length + xs.length < 18446744073709551616 → Byt rest → l.drop p = jnlFrom acc.length xs ++ rest →
    jnlRd l f acc p = jnlRd l (f - xs.length) (acc ++ xs) (p + (jnlFrom acc.length xs).length)
  | [], f, p, acc, rest, _, _, _, _, _ => by simp [jnlFrom]
  | x :: xs, f, p, acc, rest, hg, hf, hlt, hr, h => by
    simp only [List.length_cons] at hf hlt
    obtain ⟨f, rfl⟩ : ∃ g, f = g + 1 := ⟨f - 1, by omega⟩
    rw [jnlFrom, List.append_assoc] at h
    have hb : Byt (jnlFrom (acc.length + 1) xs ++ rest) := byt_mk (jnlFrom_byt xs _ (fun y hy => hg y (by simp [hy]))) hr
    have h1 := recRd_enc (hg x (by simp)) (n := acc.length) (by omega) hb
    rw [← h] at h1
    rw [jnlRd_step h1]
    have h2 := jnlRd_pre xs f (p + (recEnc acc.length x).length) (acc ++ [x]) rest (fun y hy => hg y (by simp [hy])) (by omega) (by rw [List.length_append, List.length_singleton]; omega) hr (by
      rw [← List.drop_drop, h, List.drop_left, List.length_append, List.length_singleton])
    rw [h2, List.length_cons, Nat.add_sub_add_right, List.append_assoc, List.singleton_append, List.length_append, List.length_singleton, jnlFrom, List.length_append, Nat.add_assoc]
/-- any bytes behind the head -/
theorem open_head {X R : List Int} (h : X = jhead ++ R) (hx : X.length ≤ 268435456) : jopenRes X = (some (jnlRd X X.length [] 8).1, (jnlRd X X.length [] 8).2, 0) := by
  have hl : X.length = 8 + R.length := by rw [h, List.length_append, jhead_length]
  have ht : X.take 8 = jhead.take X.length := by
    rw [List.take_of_length_le (l := jhead) (by rw [jhead_length]; omega), h]
    rfl
  rw [jopenRes, if_neg (by omega), if_neg (by rw [ht]; simp), if_neg (by omega)]
/-- records behind each other, behind them what is no record -/
theorem open_stop {X rest : List Int} {ls : List SecV} (hg : ∀ x ∈ ls, GoodRec x) (hr : Byt rest) (h : X = jnlBytes ls ++ rest) (hx : X.length ≤ 268435456) (hn : recRd rest ls.length = none) : jopenRes X = (some ls, (jnlBytes ls).length, 0) := by
  have h1 : X = jhead ++ (jnlFrom 0 ls ++ rest) := by rw [h, jnlBytes, List.append_assoc]
  have hlen := jnlBytes_len ls
  have hXl : X.length = (jnlBytes ls).length + rest.length := by rw [h, List.length_append]
  rw [open_head h1 hx]
  have := jnlRd_enc (l := X) ls X.length 8 [] rest hg (by omega) (by simp; omega) hr (by simpa using hn) (by rw [h1]; rfl)
  rw [this]
  simp [jnlBytes, jhead_length]
theorem open_whole {ls : List SecV} (hg : ∀ x ∈ ls, GoodRec x) (hx : (jnlBytes ls).length ≤ 268435456) : jopenRes (jnlBytes ls) = (some ls, (jnlBytes ls).length, 0) :=
  open_stop (rest := []) hg (fun z hz => by simp at hz) (by simp) hx (recRd_nil _)
theorem open_short {ls : List SecV} {cut : Nat} (h : cut < 8) : jopenRes ((jnlBytes ls).take cut) = (some [], 0, 0) := by
  have hl : ((jnlBytes ls).take cut).length = cut := by
    rw [List.length_take, Nat.min_eq_left]
    have := jnlBytes_len ls
    omega
  have ht : ((jnlBytes ls).take cut).take 8 = jhead.take ((jnlBytes ls).take cut).length := by
    rw [hl, List.take_take, Nat.min_eq_right (by omega), jnlBytes, List.take_append_of_le_length (by rw [jhead_length]; omega)]
  rw [jopenRes, if_neg (by omega), if_neg (by rw [ht]; simp), if_pos (by omega)]
/-- of a beginning: the records that stand whole in it -/
theorem open_cut {ls : List SecV} {cut k : Nat} (hg : ∀ x ∈ ls, GoodRec x) (hsz : (jnlBytes ls).length ≤ 268435456) (hcut : cut ≤ (jnlBytes ls).length) (hk : k ≤ ls.length) (h1 : (jnlBytes (ls.take k)).length ≤ cut) (h2 : k < ls.length → cut < (jnlBytes (ls.take (k + 1))).length) : jopenRes ((jnlBytes ls).take cut) = (some (ls.take k), (jnlBytes (ls.take k)).length, 0) := by
  have hlk : (ls.take k).length = k := by rw [List.length_take, Nat.min_eq_left hk]
  have hgk : ∀ x ∈ ls.take k, GoodRec x := fun x hx => hg x (List.mem_of_mem_take hx)
  have hsp := jnl_split ls k hk
  have hX : (jnlBytes ls).take cut = jnlBytes (ls.take k) ++ (jnlFrom k (ls.drop k)).take (cut - (jnlBytes (ls.take k)).length) := by
    conv => lhs; rw [hsp]
    rw [List.take_append, List.take_of_length_le h1]
  refine open_stop hgk (byt_take (jnlFrom_byt _ _ (fun x hx => hg x (List.mem_of_mem_drop hx))) _) hX (by rw [List.length_take]; omega) ?_
  rw [hlk]
  rcases Nat.lt_or_ge k ls.length with hlt | hge
  · have hd : ls.drop k = ls[k] :: ls.drop (k + 1) := List.drop_eq_getElem_cons hlt
    have hs2 : (jnlBytes (ls.take (k + 1))).length = (jnlBytes (ls.take k)).length + (recEnc k ls[k]).length := by
      rw [List.take_succ_eq_append_getElem hlt, jnlBytes_snoc, List.length_append, hlk]
    have h2' := h2 hlt
    have hll := jnlBytes_len ls
    rw [hd, jnlFrom, List.take_append_of_le_length (by omega)]
    exact recRd_cut (hg _ (List.getElem_mem hlt)) (by omega) (by omega)
  · rw [List.drop_of_length_le hge, jnlFrom, List.take_nil]
    exact recRd_nil _
/-- spoilt from a place on -/
theorem open_spoilt {ls : List SecV} {at_ k : Nat} {other X : List Int} (hg : ∀ x ∈ ls, GoodRec x) (ho : Byt other) (hX : X = (jnlBytes ls).take at_ ++ other) (hx : X.length ≤ 268435456) (hk : k ≤ ls.length) (h1 : (jnlBytes (ls.take k)).length ≤ at_) :
    ∃ suf n, jopenRes X = (some (ls.take k ++ suf), n, 0) ∧ (∀ x ∈ ls.take k ++ suf, GoodRec x) ∧ n ≤ X.length ∧ 8 ≤ n ∧ jnlBytes (ls.take k ++ suf) = X.take n := by
  have hlk : (ls.take k).length = k := by rw [List.length_take, Nat.min_eq_left hk]
  have hgk : ∀ x ∈ ls.take k, GoodRec x := fun x hx => hg x (List.mem_of_mem_take hx)
  obtain ⟨R, hR, hRb⟩ : ∃ R, X = jnlBytes (ls.take k) ++ R ∧ Byt R := by
    refine ⟨(jnlFrom k (ls.drop k)).take (at_ - (jnlBytes (ls.take k)).length) ++ other, ?_, byt_mk (byt_take (jnlFrom_byt _ _ (fun x hx => hg x (List.mem_of_mem_drop hx))) _) ho⟩
    rw [hX]
    conv => lhs; lhs; rw [jnl_split ls k hk]
    rw [List.take_append, List.take_of_length_le h1, List.append_assoc]
  have hXb : Byt X := by rw [hR]; exact byt_mk (jnlBytes_byt hgk) hRb
  have hX1 : X = jhead ++ (jnlFrom 0 (ls.take k) ++ R) := by rw [hR, jnlBytes, List.append_assoc]
  have hXl : X.length = (jnlBytes (ls.take k)).length + R.length := by rw [hR, List.length_append]
  have hlen := jnlBytes_len (ls.take k)
  rw [hlk] at hlen
  have hjl : (jnlBytes (ls.take k)).length = 8 + (jnlFrom 0 (ls.take k)).length := by rw [jnlBytes, List.length_append, jhead_length]
  have hp := jnlRd_pre (l := X) (ls.take k) X.length 8 [] R hgk (by rw [hlk]; omega) (by rw [hlk]; simp; omega) hRb (by rw [hX1]; rfl)
  rw [List.nil_append, List.length_nil] at hp
  obtain ⟨suf, s1, s2, s3, s4, s5⟩ := jnlRd_form hXb (X.length - (ls.take k).length) (8 + (jnlFrom 0 (ls.take k)).length) (ls.take k) (by omega)
  refine ⟨suf, _, ?_, ?_, s5, ?_, ?_⟩
  · rw [open_head hX1 hx, hp, s1]
  · intro x hx
    rcases List.mem_append.1 hx with hx | hx
    · exact hgk x hx
    · exact s2 x hx
  · rw [s4]
    omega
  · have e1 : X.take (8 + (jnlFrom 0 (ls.take k)).length) = jnlBytes (ls.take k) := by rw [← hjl, hR, List.take_left]
    have e2 := jnlFrom_app (ls.take k) suf 0
    rw [Nat.zero_add] at e2
    rw [s4, List.take_add, e1, s3, List.take_left, jnlBytes, e2, jnlBytes, List.append_assoc]
/-! ## a burst -/
theorem flip1_app (P W : List Int) (k : Nat) (hk : k / 8 < W.length) : flip1 (P ++ W) (8 * P.length + k) = P ++ flip1 W k := by
  unfold flip1
  rw [show (8 * P.length + k) / 8 = P.length + k / 8 by omega, show (8 * P.length + k) % 8 = k % 8 by omega, List.set_append_right _ _ (by omega), Nat.add_sub_cancel_left]
  congr 3
  simp [List.getD_eq_getElem?_getD, List.getElem?_append_right]
theorem flip1_far (W : List Int) (k : Nat) (hk : ¬ k / 8 < W.length) : flip1 W k = W := by rw [flip1, List.set_eq_of_length_le (by omega)]
theorem flips_app (P W : List Int) (frm : Nat) (T : V32) : ∀ i, flips (P ++ W) (8 * P.length + frm) T i = P ++ flips W frm T i
  | 0 => rfl
  | i + 1 => by
    have ih := flips_app P W frm T i
    unfold flips
    split
    · rw [ih, Nat.add_assoc]
      by_cases h : (frm + i) / 8 < W.length
      · exact flip1_app P _ _ (by rw [flips_length]; exact h)
      · rw [flip1_far (flips W frm T i) _ (by rw [flips_length]; exact h), flip1_far]
        rw [List.length_append, flips_length]
        omega
    · exact ih
theorem anyUp_app (p n frm : Nat) (T : V32) : ∀ i, anyUp (p + n) (8 * p + frm) T i = anyUp n frm T i
  | 0 => rfl
  | i + 1 => by
    unfold anyUp
    rw [anyUp_app p n frm T i, decide_eq_decide.2 (show (8 * p + frm + i) / 8 < p + n ↔ (frm + i) / 8 < n by omega)]
/-- a record's bytes ahead of its body -/
def recPre (n : Nat) (x : SecV) : List Int := 167 :: (vb n ++ (x.id :: vb x.body.length))
theorem recHd_pre (n : Nat) (x : SecV) : recHd n x = recPre n x ++ x.body := by simp [recHd, recPre]
theorem recPre_length (n : Nat) (x : SecV) : (recPre n x).length = 2 + (vb n).length + (vb x.body.length).length := by
  simp [recPre]
  omega
theorem recRd_burst {n frm : Nat} {x : SecV} {T : V32} {rest : List Int} (h : GoodRec x) (hn : n < 18446744073709551616) (hr : Byt rest) (ha : anyUp (x.body.length + 4) frm T 32 = true) :
    recRd (recPre n x ++ (flips (x.body ++ sumB (vi (crc (recHd n x)))) frm T 32 ++ rest)) n = none := by
  obtain ⟨W, hW⟩ : ∃ W, W = flips (x.body ++ sumB (vi (crc (recHd n x)))) frm T 32 := ⟨_, rfl⟩
  have hWl : W.length = x.body.length + 4 := by rw [hW, flips_length, List.length_append, sumB_length]
  have hWb : Byt W := by rw [hW]; exact flips_byt (byt_mk h.2.2.2 (sumB_byt _ (vi_nonneg _) (vi_lt _))) _ _ _
  rw [← hW]
  obtain ⟨L, hL⟩ : ∃ L, L = recPre n x ++ (W ++ rest) := ⟨_, rfl⟩
  rw [← hL]
  have e0 : L = 167 :: (vb n ++ (x.id :: (vb x.body.length ++ (W ++ rest)))) := by
    rw [hL, recPre]
    simp only [List.append_assoc, List.cons_append]
  have hpb : Byt (recPre n x) := (byt_app (by rw [← recHd_pre]; exact recHd_byt h : Byt (recPre n x ++ x.body))).1
  have hb : Byt L := by
    rw [hL]
    exact byt_mk hpb (byt_mk hWb hr)
  rcases recRd_cases (n := n) hb with h' | ⟨kd, k, k2, z, h0, hu, hk, hkd, hv, hl, hs⟩
  · exact h'
  · exfalso
    have d1 : L.drop 1 = vb n ++ (x.id :: (vb x.body.length ++ (W ++ rest))) := by rw [e0]; rfl
    have hb1 : Byt (vb n ++ (x.id :: (vb x.body.length ++ (W ++ rest)))) := by rw [← d1]; exact byt_drop hb 1
    have hu' : urd (L.drop 1) n = ((n : Int), (vb n).length, 0) := by
      rw [d1]
      exact urd_vb hn (Int.le_refl _) (byt_app hb1).2
    rw [hu'] at hu
    simp only [Prod.mk.injEq, true_and, and_true] at hu
    subst hu
    have d3 : L.drop (2 + (vb n).length) = vb x.body.length ++ (W ++ rest) := by
      rw [show 2 + (vb n).length = 1 + ((vb n).length + 1) by omega, ← List.drop_drop, d1, ← List.drop_drop, List.drop_left]
      rfl
    have hb3 : Byt (vb x.body.length ++ (W ++ rest)) := by rw [← d3]; exact byt_drop hb _
    have hv' : urd (L.drop (2 + (vb n).length)) 4194304 = (((x.body.length : Nat) : Int), (vb x.body.length).length, 0) := by
      rw [d3]
      have := h.2.2.1
      exact urd_vb (by omega) (by omega) (byt_app hb3).2
    rw [hv'] at hv
    simp only [Prod.mk.injEq, and_true] at hv
    obtain ⟨rfl, rfl⟩ := hv
    rw [Int.toNat_natCast] at hs
    have hpl := recPre_length n x
    rw [show 2 + (vb n).length + (vb x.body.length).length + x.body.length = (recPre n x).length + x.body.length by omega] at hs
    have t1 : L.take ((recPre n x).length + x.body.length) = recPre n x ++ W.take x.body.length := by
      rw [hL, List.take_length_add_append, List.take_append_of_le_length (by omega)]
    have t2 : (L.drop ((recPre n x).length + x.body.length)).take 4 = W.drop x.body.length := by
      rw [hL, List.drop_length_add_append, List.drop_append_of_le_length (by omega), List.take_left' (by rw [List.length_drop, hWl]; omega)]
    rw [t1, t2] at hs
    have hH' : Byt (recPre n x ++ W.take x.body.length) := byt_mk hpb (byt_take hWb _)
    refine code_burst (H := recHd n x) (H' := recPre n x ++ W.take x.body.length) (recHd_byt h) hH' (8 * (recPre n x).length + frm) T 32 (Nat.le_refl _) ?_ ?_
    · rw [← hs, List.append_assoc, List.take_append_drop]
      conv => rhs; rw [recHd_pre, List.append_assoc, ← recHd_pre]
      rw [flips_app, hW]
    · rw [recHd_pre, List.length_append, Nat.add_assoc, anyUp_app]
      exact ha
/-- of a journal with a burst in a record: the records ahead of it -/
theorem open_burst {ls : List SecV} {which frm : Nat} {x : SecV} {T : V32} {X : List Int} (hg : ∀ x ∈ ls, GoodRec x) (hsz : (jnlBytes ls).length ≤ 268435456) (hx : ls[which]? = some x) (ha : anyUp (x.body.length + 4) frm T 32 = true)
    (hX : X = jnlBytes (ls.take which) ++ (recPre which x ++ (flips (x.body ++ sumB (vi (crc (recHd which x)))) frm T 32 ++ jnlFrom (which + 1) (ls.drop (which + 1))))) : jopenRes X = (some (ls.take which), (jnlBytes (ls.take which)).length, 0) := by
  obtain ⟨hlt, hxe⟩ := List.getElem?_eq_some_iff.1 hx
  have hgx : GoodRec x := hg x (List.mem_of_getElem? hx)
  have hrest : Byt (jnlFrom (which + 1) (ls.drop (which + 1))) := jnlFrom_byt _ _ (fun y hy => hg y (List.mem_of_mem_drop hy))
  have hll := jnlBytes_len ls
  have hn := recRd_burst (n := which) (frm := frm) (T := T) hgx (by omega) hrest ha
  have hlk : (ls.take which).length = which := by rw [List.length_take, Nat.min_eq_left (Nat.le_of_lt hlt)]
  refine open_stop (fun y hy => hg y (List.mem_of_mem_take hy)) ?_ hX ?_ (by rw [hlk]; exact hn)
  · exact byt_mk (byt_app (by rw [← recHd_pre]; exact recHd_byt hgx : Byt (recPre which x ++ x.body))).1 (byt_mk (flips_byt (byt_mk hgx.2.2.2 (sumB_byt _ (vi_nonneg _) (vi_lt _))) _ _ _) hrest)
  · have e : (jnlBytes ls).length = X.length := by
      have hs := jnl_split ls which (Nat.le_of_lt hlt)
      rw [List.drop_eq_getElem_cons hlt, hxe, jnlFrom] at hs
      rw [hs, hX, recEnc, recHd_pre]
      simp only [List.length_append, flips_length]
      omega
    omega
/-- a record of another number is none -/
theorem recRd_other {n m : Nat} {x : SecV} (h : GoodRec x) (hn : n < 18446744073709551616) (hm : m < n) : recRd (recEnc n x) m = none := by
  have d1 : (recEnc n x).drop 1 = vb n ++ (x.id :: (vb x.body.length ++ (x.body ++ sumB (vi (crc (recHd n x)))))) := by
    rw [recEnc, recHd]
    simp
  have hb1 : Byt (vb n ++ (x.id :: (vb x.body.length ++ (x.body ++ sumB (vi (crc (recHd n x))))))) := by rw [← d1]; exact byt_drop (recEnc_byt h) 1
  rcases recRd_cases (n := m) (recEnc_byt (n := n) h) with h' | ⟨kd, k, k2, z, h0, hu, hk, hkd, hv, hl, hs⟩
  · exact h'
  · exfalso
    have h2 := urd_vb_no (limit := (m : Int)) hn (by omega) (byt_app hb1).2
    rw [← d1, hu] at h2
    simp at h2
end Go.Proofs.Ytlnomadhgoblkaa.Kit
