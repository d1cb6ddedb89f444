/- What varint answers, said of lists of bytes: the number, its one form. No program in sight. -/
import Derived.Test.YtlnomadhgoblkaaPlainO
import Derived.Test.YtlnomadhgoblkaaVlp
import Derived.Test.YtlnomadhgoblkaaOpen
set_option linter.unusedVariables false
set_option linter.unusedSimpArgs false
set_option linter.unnecessarySimpa false
namespace Go.Proofs.Ytlnomadhgoblkaa.Kit
open Go.RowKit
/-- the number that these bytes stand for -/
def val : List Int → Int
  | [] => 0
  | b :: t => b % 128 + 128 * val t
theorem val_nonneg : ∀ l : List Int, 0 ≤ val l
  | [] => by simp [val]
  | b :: t => by have := val_nonneg t; simp only [val]; omega
theorem val_snoc : ∀ (l : List Int) (b : Int), val (l ++ [b]) = val l + 128 ^ l.length * (b % 128)
  | [], b => by simp [val]
  | a :: t, b => by
    simp only [List.cons_append, val, val_snoc t b, List.length_cons]
    rw [Int.mul_add, Int.pow_succ, ← Int.mul_assoc, Int.mul_comm 128 (128 ^ t.length)]
    omega
theorem val_lt : ∀ l : List Int, val l < 128 ^ l.length
  | [] => by simp [val]
  | b :: t => by
    have := val_lt t
    simp only [val, List.length_cons, Int.pow_succ]
    omega
/-- a varint in its one form -/
def Good : List Int → Prop
  | [] => False
  | [b] => 0 ≤ b ∧ b ≤ 127
  | b :: c :: t => 128 ≤ b ∧ b ≤ 255 ∧ Good (c :: t) ∧ val (c :: t) ≠ 0
theorem good_vb : ∀ (l : List Int), Good l → vb (val l).toNat = l
  | [], h => h.elim
  | [b], h => by
    have h : 0 ≤ b ∧ b ≤ 127 := h
    have e : val [b] = b := by simp only [val]; omega
    rw [e, vb_last (by omega)]
    congr 1
    omega
  | b :: c :: t, h => by
    obtain ⟨h1, h2, h3, h4⟩ := h
    have ih := good_vb (c :: t) h3
    have h0 := val_nonneg (c :: t)
    have e : val (b :: c :: t) = b % 128 + 128 * val (c :: t) := rfl
    rw [e, vb_more (by omega)]
    congr 1
    · omega
    · rw [← ih]
      congr 1
      rw [ih]
      omega
theorem vb_good (n : Nat) : Good (vb n) ∧ val (vb n) = n := by
  induction n using Nat.strongRecOn with
  | _ n ih =>
    by_cases h : 127 < n
    · obtain ⟨h1, h2⟩ := ih (n / 128) (by omega)
      rw [vb_more h]
      cases hv : vb (n / 128) with
      | nil => rw [hv] at h1; exact h1.elim
      | cons c t =>
        rw [hv] at h1 h2
        refine ⟨⟨by omega, by omega, h1, by omega⟩, ?_⟩
        simp only [val] at h2 ⊢
        omega
    · rw [vb_last h]
      exact ⟨⟨by omega, by omega⟩, by simp only [val]; omega⟩
theorem vb_byt (n : Nat) : Byt (vb n) := by
  induction n using Nat.strongRecOn with
  | _ n ih =>
    by_cases h : 127 < n
    · rw [vb_more h]
      intro x hx
      rcases List.mem_cons.1 hx with rfl | hx
      · omega
      · exact ih (n / 128) (by omega) x hx
    · rw [vb_last h]
      intro x hx
      simp at hx
      omega
theorem vstep_val {b x : Int} (h0 : 0 ≤ b) (h1 : b < 256) (h2 : 0 ≤ x) : ∀ (i : Nat), i ≤ 8 ∨ (i = 9 ∧ b ≤ 1) → x < 128 ^ i → vstep b i x = x + 128 ^ i * (b % 128) := by
  intro i hi hx
  have hi' : i ≤ 9 := by omega
  have hb9 : i = 9 → b ≤ 1 := by omega
  clear hi
  match i, hi' with
  | 0, _ =>
    have e : IntKind.u64.wrap (b % 128) * 2 ^ (7 * 0) = (b % 128) * 1 := by rw [IntKind.wrap_u64]; omega
    have e2 : IntKind.u64.wrap ((b % 128) * 1) = (b % 128) * 1 := by rw [IntKind.wrap_u64]; omega
    have hx' : x < 1 := hx
    unfold vstep
    rw [u8_and127 _ h0 h1, e, e2, u64_orv0 _ _ h2 hx' (by omega) (by omega) (by omega)]
    omega
  | 1, _ =>
    have e : IntKind.u64.wrap (b % 128) * 2 ^ (7 * 1) = (b % 128) * 128 := by rw [IntKind.wrap_u64]; omega
    have e2 : IntKind.u64.wrap ((b % 128) * 128) = (b % 128) * 128 := by rw [IntKind.wrap_u64]; omega
    have hx' : x < 128 := hx
    unfold vstep
    rw [u8_and127 _ h0 h1, e, e2, u64_orv7 _ _ h2 hx' (by omega) (by omega) (by omega)]
    omega
  | 2, _ =>
    have e : IntKind.u64.wrap (b % 128) * 2 ^ (7 * 2) = (b % 128) * 16384 := by rw [IntKind.wrap_u64]; omega
    have e2 : IntKind.u64.wrap ((b % 128) * 16384) = (b % 128) * 16384 := by rw [IntKind.wrap_u64]; omega
    have hx' : x < 16384 := hx
    unfold vstep
    rw [u8_and127 _ h0 h1, e, e2, u64_orv14 _ _ h2 hx' (by omega) (by omega) (by omega)]
    omega
  | 3, _ =>
    have e : IntKind.u64.wrap (b % 128) * 2 ^ (7 * 3) = (b % 128) * 2097152 := by rw [IntKind.wrap_u64]; omega
    have e2 : IntKind.u64.wrap ((b % 128) * 2097152) = (b % 128) * 2097152 := by rw [IntKind.wrap_u64]; omega
    have hx' : x < 2097152 := hx
    unfold vstep
    rw [u8_and127 _ h0 h1, e, e2, u64_orv21 _ _ h2 hx' (by omega) (by omega) (by omega)]
    omega
  | 4, _ =>
    have e : IntKind.u64.wrap (b % 128) * 2 ^ (7 * 4) = (b % 128) * 268435456 := by rw [IntKind.wrap_u64]; omega
    have e2 : IntKind.u64.wrap ((b % 128) * 268435456) = (b % 128) * 268435456 := by rw [IntKind.wrap_u64]; omega
    have hx' : x < 268435456 := hx
    unfold vstep
    rw [u8_and127 _ h0 h1, e, e2, u64_orv28 _ _ h2 hx' (by omega) (by omega) (by omega)]
    omega
  | 5, _ =>
    have e : IntKind.u64.wrap (b % 128) * 2 ^ (7 * 5) = (b % 128) * 34359738368 := by rw [IntKind.wrap_u64]; omega
    have e2 : IntKind.u64.wrap ((b % 128) * 34359738368) = (b % 128) * 34359738368 := by rw [IntKind.wrap_u64]; omega
    have hx' : x < 34359738368 := hx
    unfold vstep
    rw [u8_and127 _ h0 h1, e, e2, u64_orv35 _ _ h2 hx' (by omega) (by omega) (by omega)]
    omega
  | 6, _ =>
    have e : IntKind.u64.wrap (b % 128) * 2 ^ (7 * 6) = (b % 128) * 4398046511104 := by rw [IntKind.wrap_u64]; omega
    have e2 : IntKind.u64.wrap ((b % 128) * 4398046511104) = (b % 128) * 4398046511104 := by rw [IntKind.wrap_u64]; omega
    have hx' : x < 4398046511104 := hx
    unfold vstep
    rw [u8_and127 _ h0 h1, e, e2, u64_orv42 _ _ h2 hx' (by omega) (by omega) (by omega)]
    omega
  | 7, _ =>
    have e : IntKind.u64.wrap (b % 128) * 2 ^ (7 * 7) = (b % 128) * 562949953421312 := by rw [IntKind.wrap_u64]; omega
    have e2 : IntKind.u64.wrap ((b % 128) * 562949953421312) = (b % 128) * 562949953421312 := by rw [IntKind.wrap_u64]; omega
    have hx' : x < 562949953421312 := hx
    unfold vstep
    rw [u8_and127 _ h0 h1, e, e2, u64_orv49 _ _ h2 hx' (by omega) (by omega) (by omega)]
    omega
  | 8, _ =>
    have e : IntKind.u64.wrap (b % 128) * 2 ^ (7 * 8) = (b % 128) * 72057594037927936 := by rw [IntKind.wrap_u64]; omega
    have e2 : IntKind.u64.wrap ((b % 128) * 72057594037927936) = (b % 128) * 72057594037927936 := by rw [IntKind.wrap_u64]; omega
    have hx' : x < 72057594037927936 := hx
    unfold vstep
    rw [u8_and127 _ h0 h1, e, e2, u64_orv56 _ _ h2 hx' (by omega) (by omega) (by omega)]
    omega
  | 9, _ =>
    have e : IntKind.u64.wrap (b % 128) * 2 ^ (7 * 9) = (b % 128) * 9223372036854775808 := by rw [IntKind.wrap_u64]; omega
    have e2 : IntKind.u64.wrap ((b % 128) * 9223372036854775808) = (b % 128) * 9223372036854775808 := by rw [IntKind.wrap_u64]; omega
    have hx' : x < 9223372036854775808 := hx
    unfold vstep
    rw [u8_and127 _ h0 h1, e, e2, u64_orv63 _ _ h2 hx' (by omega) (by omega) (by omega)]
    omega
  | n + 10, h => omega
/-- the first byte that ends a varint -/
structure Ends (l : List Int) (n : Nat) : Prop where
  lt : n < l.length
  small : ∀ h : n < l.length, l[n] ≤ 127
  big : ∀ j, (h : j < l.length) → j < n → 127 < l[j]
theorem vlp_char (l : List Int) (hb : Byt l) : ∀ (f i : Nat), i + f = 10 → i ≤ l.length → (∀ j, (h : j < l.length) → j < i → 127 < l[j]) → ∀ x, (i ≤ 9 → x = val (l.take i)) →
    (∃ n, Ends l n ∧ n < 10 ∧ (n = 0 ∨ ∀ h : n < l.length, l[n] ≠ 0) ∧ (n = 9 → ∀ h : n < l.length, l[n] ≤ 1) ∧ vlp l f i x = (val (l.take (n + 1)), (n : Int) + 1, 0)) ∨
    (∃ n, Ends l n ∧ n < 10 ∧ ((0 < n ∧ ∀ h : n < l.length, l[n] = 0) ∨ (n = 9 ∧ ∀ h : n < l.length, 1 < l[n])) ∧ vlp l f i x = (0, 0, 42)) ∨
    ((∀ j, (h : j < l.length) → j < 10 → 127 < l[j]) ∧ vlp l f i x = if l.length < 10 then (0, 0, 41) else (0, 0, 42))
  | 0, i, hi, hil, hbig, x, hx => by
    refine .inr (.inr ⟨fun j h hj => hbig j h (by omega), rfl⟩)
  | f + 1, i, hi, hil, hbig, x, hx => by
    by_cases hlt : i < l.length
    · have hbi := hb l[i] (List.getElem_mem hlt)
      by_cases hm : 127 < l[i]
      · have e : vlp l (f + 1) i x = vlp l f (i + 1) (vstep l[i] i x) := by
          rw [vlp, if_pos hlt]
          simp [hlt, hm]
        rw [e]
        refine vlp_char l hb f (i + 1) (by omega) (by omega) (fun j h hj => ?_) _ (fun h9 => ?_)
        · rcases Nat.lt_or_ge j i with h' | h'
          · exact hbig j h h'
          · have : j = i := by omega
            subst this
            exact hm
        · have hx' := hx (by omega)
          subst hx'
          have hl : (l.take i).length = i := by simp; omega
          have hv := val_lt (l.take i)
          rw [hl] at hv
          rw [vstep_val hbi.1 (by omega) (val_nonneg _) i (.inl (by omega)) hv, List.take_succ_eq_append_getElem hlt, val_snoc, hl]
      · have hE : Ends l i := ⟨hlt, fun _ => by omega, hbig⟩
        by_cases hbad : (0 < i ∧ l[i] = 0) ∨ (i = 9 ∧ 1 < l[i])
        · refine .inr (.inl ⟨i, hE, by omega, ?_, ?_⟩)
          · rcases hbad with h | h
            · exact .inl ⟨h.1, fun _ => h.2⟩
            · exact .inr ⟨h.1, fun _ => h.2⟩
          · rw [vlp, if_pos hlt, if_neg (by simp [hlt]; omega), if_pos (by simpa [hlt] using hbad)]
        · refine .inl ⟨i, hE, by omega, ?_, fun h9 _ => by omega, ?_⟩
          · rcases Nat.eq_zero_or_pos i with h | h
            · exact .inl h
            · exact .inr fun _ h' => hbad (.inl ⟨h, h'⟩)
          · rw [vlp, if_pos hlt, if_neg (by simp [hlt]; omega), if_neg (by simpa [hlt] using hbad)]
            have hx' := hx (by omega)
            subst hx'
            have hl : (l.take i).length = i := by simp; omega
            have hv := val_lt (l.take i)
            rw [hl] at hv
            have h9 : i ≤ 8 ∨ (i = 9 ∧ l[i] ≤ 1) := by omega
            have := vstep_val hbi.1 (by omega) (val_nonneg _) i h9 hv
            have e : l.getD i 0 = l[i] := by simp [hlt]
            rw [e, this, List.take_succ_eq_append_getElem hlt, val_snoc, hl]
    · refine .inr (.inr ⟨fun j h hj => hbig j h (by omega), ?_⟩)
      rw [vlp, if_neg hlt]
theorem Ends.unique {l : List Int} {n m : Nat} (h : Ends l n) (k : Ends l m) : n = m := by
  rcases Nat.lt_trichotomy n m with h1 | h1 | h1
  · have := k.big n h.lt h1
    have := h.small h.lt
    omega
  · exact h1
  · have := h.big m k.lt h1
    have := k.small k.lt
    omega
theorem val_pos {l : List Int} {n : Nat} (hn : n < l.length) (h0 : 0 ≤ l[n]) (h1 : l[n] ≤ 127) (hz : l[n] ≠ 0) : val (l.take (n + 1)) ≠ 0 := by
  rw [List.take_succ_eq_append_getElem hn, val_snoc]
  have h1 := val_nonneg (l.take n)
  have h2 : 0 < (128 : Int) ^ (l.take n).length := Int.pow_pos (by decide)
  have h3 : 0 < l[n] % 128 := by omega
  have := Int.mul_pos h2 h3
  omega
theorem good_take : ∀ (n : Nat) (l : List Int), Byt l → Ends l n → (n = 0 ∨ ∀ h : n < l.length, l[n] ≠ 0) → Good (l.take (n + 1))
  | 0, [], _, he, _ => absurd he.lt (by simp)
  | 0, b :: t, hb, he, _ => by
    have h1 := he.small he.lt
    have h2 := hb b (by simp)
    exact ⟨h2.1, h1⟩
  | n + 1, [], _, he, _ => absurd he.lt (by simp)
  | n + 1, b :: t, hb, he, hz => by
    have hlt : n < t.length := by have := he.lt; simp at this; omega
    have he' : Ends t n := ⟨hlt, fun h => by have := he.small he.lt; simpa using this, fun j h hj => by have := he.big (j + 1) (by simp; omega) (by omega); simpa using this⟩
    have hb' : Byt t := fun x hx => hb x (by simp [hx])
    have hzn : t[n] ≠ 0 := by
      rcases hz with h | h
      · omega
      · have := h he.lt
        simpa using this
    have ih := good_take n t hb' he' (.inr fun _ => hzn)
    have hbt := hb t[n] (by simp [List.getElem_mem])
    have hp := val_pos hlt hbt.1 (he'.small hlt) hzn
    have h1 := he.big 0 (by simp) (by omega)
    have h2 := hb b (by simp)
    rw [List.take_succ_cons]
    cases ht : t.take (n + 1) with
    | nil => rw [ht] at ih; exact ih.elim
    | cons c r =>
      rw [ht] at ih hp
      simp at h1
      exact ⟨by omega, h2.2, ih, hp⟩
theorem good_ends : ∀ (m : List Int), Good m → ∀ rest, Ends (m ++ rest) (m.length - 1) ∧ (m.length - 1 = 0 ∨ ∀ h : m.length - 1 < (m ++ rest).length, (m ++ rest)[m.length - 1] ≠ 0)
  | [], h, _ => h.elim
  | [b], h, rest => by
    have h : 0 ≤ b ∧ b ≤ 127 := h
    exact ⟨⟨by simp, fun _ => by simpa using h.2, fun j _ hj => absurd hj (by simp)⟩, .inl rfl⟩
  | b :: c :: t, h, rest => by
    obtain ⟨h1, h2, h3, h4⟩ := h
    obtain ⟨he, hz⟩ := good_ends (c :: t) h3 rest
    have hlt := he.lt
    refine ⟨⟨?_, ?_, ?_⟩, .inr ?_⟩
    · simp
      omega
    · intro h'
      have := he.small he.lt
      simpa using this
    · intro j hj hjn
      cases j with
      | zero => simp; omega
      | succ j => have := he.big j (by simp at hj ⊢; omega) (by simp at hjn ⊢; omega); simpa using this
    · intro h'
      rcases hz with hz | hz
      · have ht : t = [] := List.eq_nil_of_length_eq_zero (by simpa using hz)
        subst ht
        have h5 : 0 ≤ c ∧ c ≤ 127 := h3
        simp only [val] at h4
        simp
        omega
      · have := hz he.lt
        simpa using this
/-- what was written is read -/
theorem vlp_vb {n : Nat} (hn : n < 18446744073709551616) {rest : List Int} (hr : Byt rest) : vlp (vb n ++ rest) 10 0 0 = ((n : Int), ((vb n).length : Int), 0) := by
  obtain ⟨hg, hv⟩ := vb_good n
  obtain ⟨he, hz⟩ := good_ends _ hg rest
  have hl := vb_len10 hn
  have hp := vb_pos n
  have hb : Byt (vb n ++ rest) := fun x hx => by
    rcases List.mem_append.1 hx with h | h
    · exact vb_byt n x h
    · exact hr x h
  rcases vlp_char (vb n ++ rest) hb 10 0 (by omega) (by omega) (fun j _ hj => by omega) 0 (fun _ => by simp [val]) with ⟨m, hm, _, _, _, h⟩ | ⟨m, hm, _, hbad, h⟩ | ⟨hbig, h⟩
  · have e := hm.unique he
    subst e
    rw [h, show (vb n).length - 1 + 1 = (vb n).length by omega, List.take_left, hv]
    simp
    omega
  · have e := hm.unique he
    subst e
    exfalso
    rcases hbad with ⟨h1, h2⟩ | ⟨h1, h2⟩
    · rcases hz with hz | hz
      · omega
      · exact hz he.lt (h2 he.lt)
    · have h2 := h2 he.lt
      have h3 := he.small he.lt
      have e2 : (vb n ++ rest)[(vb n).length - 1]'he.lt = (vb n)[(vb n).length - 1] := by rw [List.getElem_append_left]
      rw [e2] at h2 h3
      have h4 : vb n = (vb n).take ((vb n).length - 1) ++ [(vb n)[(vb n).length - 1]] := by
        rw [← List.take_succ_eq_append_getElem, List.take_of_length_le (by omega)]
      have h5 := congrArg val h4
      rw [val_snoc, hv] at h5
      have h6 := val_nonneg ((vb n).take ((vb n).length - 1))
      have h7 : ((vb n).take ((vb n).length - 1)).length = 9 := by rw [List.length_take]; omega
      rw [h7] at h5
      generalize (vb n)[(vb n).length - 1] = q at *
      have h8 : q % 128 = q := by omega
      rw [h8, show (128 : Int) ^ 9 = 9223372036854775808 by rfl] at h5
      omega
  · exfalso
    have := hbig ((vb n).length - 1) he.lt (by omega)
    have := he.small he.lt
    omega
/-- what is read was written so -/
theorem vlp_form {l : List Int} (hb : Byt l) {x n : Int} (h : vlp l 10 0 0 = (x, n, 0)) : l.take n.toNat = vb x.toNat ∧ 0 ≤ x ∧ 1 ≤ n ∧ n ≤ l.length := by
  rcases vlp_char l hb 10 0 (by omega) (by omega) (fun j _ hj => by omega) 0 (fun _ => by simp [val]) with ⟨m, hm, _, hz, _, h'⟩ | ⟨m, hm, _, hbad, h'⟩ | ⟨hbig, h'⟩
  · rw [h] at h'
    simp only [Prod.mk.injEq] at h'
    obtain ⟨rfl, rfl, _⟩ := h'
    have hg := good_take m l hb hm hz
    have hlt := hm.lt
    refine ⟨?_, val_nonneg _, by omega, by omega⟩
    rw [good_vb _ hg]
    congr 1
  · rw [h] at h'
    simp at h'
  · rw [h] at h'
    split at h' <;> simp at h'
theorem urd_vb {n : Nat} {limit : Int} (hn : n < 18446744073709551616) (hl : (n : Int) ≤ limit) {rest : List Int} (hr : Byt rest) : urd (vb n ++ rest) limit = ((n : Int), (vb n).length, 0) := by
  unfold urd
  rw [vlp_vb hn hr]
  simp
  omega
theorem urd_vb_no {n : Nat} {limit : Int} (hn : n < 18446744073709551616) (hl : limit < n) {rest : List Int} (hr : Byt rest) : urd (vb n ++ rest) limit = (0, 0, 42) := by
  unfold urd
  rw [vlp_vb hn hr]
  simp
  omega
theorem urd_form {l : List Int} (hb : Byt l) {limit x : Int} {n : Nat} (h : urd l limit = (x, n, 0)) : l.take n = vb x.toNat ∧ 0 ≤ x ∧ x ≤ limit ∧ 1 ≤ n ∧ n ≤ 10 ∧ n ≤ l.length := by
  rcases urd_cases l limit with ⟨y, m, hv, hx, h1, h2, h3, hu⟩ | ⟨y, m, hv, hx, h1, h2, hu⟩ | ⟨y, m, er, hv, h1, hu⟩
  · rw [h] at hu
    simp only [Prod.mk.injEq] at hu
    obtain ⟨rfl, rfl, _⟩ := hu
    have := vlp_form hb hv
    exact ⟨this.1, this.2.1, hx, by omega, by omega, by omega⟩
  · rw [h] at hu
    simp at hu
  · rw [h] at hu
    simp only [Prod.mk.injEq] at hu
    omega
/-- no varint begins another -/
theorem vb_prefix {x y : Nat} (hx : x < 18446744073709551616) (hy : y < 18446744073709551616) (h : vb x = (vb y).take (vb x).length) : x = y := by
  have h1 := vlp_vb hx (rest := (vb y).drop (vb x).length) (fun z hz => vb_byt y z (List.mem_of_mem_drop hz))
  have h2 := vlp_vb hy (rest := []) (fun z hz => by simp at hz)
  have e : vb x ++ (vb y).drop (vb x).length = vb y ++ [] := by
    rw [List.append_nil]
    conv => lhs; lhs; rw [h]
    exact List.take_append_drop _ _
  rw [e, h2] at h1
  simp only [Prod.mk.injEq] at h1
  omega
theorem uz_zz (x : Int) : (if zz x % 2 = 0 then zz x / 2 else -(zz x / 2) - 1) = x := by
  unfold zz
  split <;> omega
/-- the zigzag keeps the size: a number and its neighbour beyond 0 -/
theorem vb_pair : ∀ (k n : Nat), n < 128 ^ (k + 1) → n % 2 = 0 → (vb n).length = (vb (n + 1)).length ∧ ∀ a b s t, vb n = a :: s → vb (n + 1) = b :: t → (a % 2 == b % 2) = false
  | 0, n, h, h2 => by
    rw [vb_last (n := n) (by omega), vb_last (n := n + 1) (by omega)]
    refine ⟨rfl, fun a b s t ha hb => ?_⟩
    injection ha with ha _
    injection hb with hb _
    subst ha hb
    simp
    omega
  | k + 1, n, h, h2 => by
    by_cases hn : 127 < n
    · rw [vb_more hn, vb_more (n := n + 1) (by omega), show (n + 1) / 128 = n / 128 by omega]
      refine ⟨by simp, fun a b s t ha hb => ?_⟩
      injection ha with ha _
      injection hb with hb _
      subst ha hb
      simp
      omega
    · rw [vb_last hn, vb_last (n := n + 1) (by omega)]
      refine ⟨rfl, fun a b s t ha hb => ?_⟩
      injection ha with ha _
      injection hb with hb _
      subst ha hb
      simp
      omega
end Go.Proofs.Ytlnomadhgoblkaa.Kit
