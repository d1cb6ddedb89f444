/- Texts that the row leans on: PlainV, PlainC, PlainC2, OctW, OctR, OctX, OctI. -/
import Derived.Test.YtlnomadhgoblkaaQJournalPairaa
import Derived.Test.YtlnomadhgoblkaaQJournalPairab
import Derived.IntWalk
import Derived.Test.YtlnomadhgoblkaaProg
import Derived.Lib.Hide
import Derived.Deep.RegionHeld3
import Derived.Lib.Zigzag
-- What varint answers, said of lists of bytes: the number, its one form. No program in sight.
set_option linter.unusedVariables false
set_option linter.unusedSimpArgs false
set_option linter.unnecessarySimpa false
namespace Go.Proofs.Ytlnomadhgoblkaa.Kit
open Go.RowKit
/-- the number that these bytes stand for -/
def val : List Int → Int
  | [] => 0
  | b :: t => b % 128 + 128 * val t
theorem val_nonneg : ∀ l : List Int, 0 ≤ val l
  | [] => by simp [val]
  | b :: t => by have := val_nonneg t; simp only [val]; omega
theorem val_snoc : ∀ (l : List Int) (b : Int), val (l ++ [b]) = val l + 128 ^ l.length * (b % 128)
  | [], b => by simp [val]
  | a :: t, b => by
    simp only [List.cons_append, val, val_snoc t b, List.length_cons]
    rw [Int.mul_add, Int.pow_succ, ← Int.mul_assoc, Int.mul_comm 128 (128 ^ t.length)]
    omega
theorem val_lt : ∀ l : List Int, val l < 128 ^ l.length
  | [] => by simp [val]
  | b :: t => by
    have := val_lt t
    simp only [val, List.length_cons, Int.pow_succ]
    omega
/-- a varint in its one form -/
def Good : List Int → Prop
  | [] => False
  | [b] => 0 ≤ b ∧ b ≤ 127
  | b :: c :: t => 128 ≤ b ∧ b ≤ 255 ∧ Good (c :: t) ∧ val (c :: t) ≠ 0
theorem good_vb : ∀ (l : List Int), Good l → vb (val l).toNat = l
  | [], h => h.elim
  | [b], h => by
    have h : 0 ≤ b ∧ b ≤ 127 := h
    have e : val [b] = b := by simp only [val]; omega
    rw [e, vb_last (by omega)]
    congr 1
    omega
  | b :: c :: t, h => by
    obtain ⟨h1, h2, h3, h4⟩ := h
    have ih := good_vb (c :: t) h3
    have h0 := val_nonneg (c :: t)
    have e : val (b :: c :: t) = b % 128 + 128 * val (c :: t) := rfl
    rw [e, vb_more (by omega)]
    congr 1
    · omega
    · rw [← ih]
      congr 1
      rw [ih]
      omega
theorem vb_good (n : Nat) : Good (vb n) ∧ val (vb n) = n := by
  induction n using Nat.strongRecOn with
  | _ n ih =>
    by_cases h : 127 < n
    · obtain ⟨h1, h2⟩ := ih (n / 128) (by omega)
      rw [vb_more h]
      cases hv : vb (n / 128) with
      | nil => rw [hv] at h1; exact h1.elim
      | cons c t =>
        rw [hv] at h1 h2
        refine ⟨⟨by omega, by omega, h1, by omega⟩, ?_⟩
        simp only [val] at h2 ⊢
        omega
    · rw [vb_last h]
      exact ⟨⟨by omega, by omega⟩, by simp only [val]; omega⟩
theorem vb_byt (n : Nat) : Byt (vb n) := by
  induction n using Nat.strongRecOn with
  | _ n ih =>
    by_cases h : 127 < n
    · rw [vb_more h]
      intro x hx
      rcases List.mem_cons.1 hx with rfl | hx
      · omega
      · exact ih (n / 128) (by omega) x hx
    · rw [vb_last h]
      intro x hx
      simp at hx
      omega
theorem vstep_val {b x : Int} (h0 : 0 ≤ b) (h1 : b < 256) (h2 : 0 ≤ x) : ∀ (i : Nat), i ≤ 8 ∨ (i = 9 ∧ b ≤ 1) → x < 128 ^ i → vstep b i x = x + 128 ^ i * (b % 128) := by
  intro i hi hx
  have hi' : i ≤ 9 := by omega
  have hb9 : i = 9 → b ≤ 1 := by omega
  clear hi
  match i, hi' with
  | 0, _ =>
    have e : IntKind.u64.wrap (b % 128) * 2 ^ (7 * 0) = (b % 128) * 1 := by rw [IntKind.wrap_u64]; omega
    have e2 : IntKind.u64.wrap ((b % 128) * 1) = (b % 128) * 1 := by rw [IntKind.wrap_u64]; omega
    have hx' : x < 1 := hx
    unfold vstep
    rw [u8_and127 _ h0 h1, e, e2, u64_orv0 _ _ h2 hx' (by omega) (by omega) (by omega)]
    omega
  | 1, _ =>
    have e : IntKind.u64.wrap (b % 128) * 2 ^ (7 * 1) = (b % 128) * 128 := by rw [IntKind.wrap_u64]; omega
    have e2 : IntKind.u64.wrap ((b % 128) * 128) = (b % 128) * 128 := by rw [IntKind.wrap_u64]; omega
    have hx' : x < 128 := hx
    unfold vstep
    rw [u8_and127 _ h0 h1, e, e2, u64_orv7 _ _ h2 hx' (by omega) (by omega) (by omega)]
    omega
  | 2, _ =>
    have e : IntKind.u64.wrap (b % 128) * 2 ^ (7 * 2) = (b % 128) * 16384 := by rw [IntKind.wrap_u64]; omega
    have e2 : IntKind.u64.wrap ((b % 128) * 16384) = (b % 128) * 16384 := by rw [IntKind.wrap_u64]; omega
    have hx' : x < 16384 := hx
    unfold vstep
    rw [u8_and127 _ h0 h1, e, e2, u64_orv14 _ _ h2 hx' (by omega) (by omega) (by omega)]
    omega
  | 3, _ =>
    have e : IntKind.u64.wrap (b % 128) * 2 ^ (7 * 3) = (b % 128) * 2097152 := by rw [IntKind.wrap_u64]; omega
    have e2 : IntKind.u64.wrap ((b % 128) * 2097152) = (b % 128) * 2097152 := by rw [IntKind.wrap_u64]; omega
    have hx' : x < 2097152 := hx
    unfold vstep
    rw [u8_and127 _ h0 h1, e, e2, u64_orv21 _ _ h2 hx' (by omega) (by omega) (by omega)]
    omega
  | 4, _ =>
    have e : IntKind.u64.wrap (b % 128) * 2 ^ (7 * 4) = (b % 128) * 268435456 := by rw [IntKind.wrap_u64]; omega
    have e2 : IntKind.u64.wrap ((b % 128) * 268435456) = (b % 128) * 268435456 := by rw [IntKind.wrap_u64]; omega
    have hx' : x < 268435456 := hx
    unfold vstep
    rw [u8_and127 _ h0 h1, e, e2, u64_orv28 _ _ h2 hx' (by omega) (by omega) (by omega)]
    omega
  | 5, _ =>
    have e : IntKind.u64.wrap (b % 128) * 2 ^ (7 * 5) = (b % 128) * 34359738368 := by rw [IntKind.wrap_u64]; omega
    have e2 : IntKind.u64.wrap ((b % 128) * 34359738368) = (b % 128) * 34359738368 := by rw [IntKind.wrap_u64]; omega
    have hx' : x < 34359738368 := hx
    unfold vstep
    rw [u8_and127 _ h0 h1, e, e2, u64_orv35 _ _ h2 hx' (by omega) (by omega) (by omega)]
    omega
  | 6, _ =>
    have e : IntKind.u64.wrap (b % 128) * 2 ^ (7 * 6) = (b % 128) * 4398046511104 := by rw [IntKind.wrap_u64]; omega
    have e2 : IntKind.u64.wrap ((b % 128) * 4398046511104) = (b % 128) * 4398046511104 := by rw [IntKind.wrap_u64]; omega
    have hx' : x < 4398046511104 := hx
    unfold vstep
    rw [u8_and127 _ h0 h1, e, e2, u64_orv42 _ _ h2 hx' (by omega) (by omega) (by omega)]
    omega
  | 7, _ =>
    have e : IntKind.u64.wrap (b % 128) * 2 ^ (7 * 7) = (b % 128) * 562949953421312 := by rw [IntKind.wrap_u64]; omega
    have e2 : IntKind.u64.wrap ((b % 128) * 562949953421312) = (b % 128) * 562949953421312 := by rw [IntKind.wrap_u64]; omega
    have hx' : x < 562949953421312 := hx
    unfold vstep
    rw [u8_and127 _ h0 h1, e, e2, u64_orv49 _ _ h2 hx' (by omega) (by omega) (by omega)]
    omega
  | 8, _ =>
    have e : IntKind.u64.wrap (b % 128) * 2 ^ (7 * 8) = (b % 128) * 72057594037927936 := by rw [IntKind.wrap_u64]; omega
    have e2 : IntKind.u64.wrap ((b % 128) * 72057594037927936) = (b % 128) * 72057594037927936 := by rw [IntKind.wrap_u64]; omega
    have hx' : x < 72057594037927936 := hx
    unfold vstep
    rw [u8_and127 _ h0 h1, e, e2, u64_orv56 _ _ h2 hx' (by omega) (by omega) (by omega)]
    omega
  | 9, _ =>
    have e : IntKind.u64.wrap (b % 128) * 2 ^ (7 * 9) = (b % 128) * 9223372036854775808 := by rw [IntKind.wrap_u64]; omega
    have e2 : IntKind.u64.wrap ((b % 128) * 9223372036854775808) = (b % 128) * 9223372036854775808 := by rw [IntKind.wrap_u64]; omega
    have hx' : x < 9223372036854775808 := hx
    unfold vstep
    rw [u8_and127 _ h0 h1, e, e2, u64_orv63 _ _ h2 hx' (by omega) (by omega) (by omega)]
    omega
  | n + 10, h => omega
/-- the first byte that ends a varint -/
structure Ends (l : List Int) (n : Nat) : Prop where
  lt : n < l.length
  small : ∀ h : n < l.length, l[n] ≤ 127
  big : ∀ j, (h : j < l.length) → j < n → 127 < l[j]
theorem vlp_char (l : List Int) (hb : Byt l) : ∀ (f i : Nat), i + f = 10 → i ≤ l.length → (∀ j, (h : j < l.length) → j < i → 127 < l[j]) → ∀ x, (i ≤ 9 → x = val (l.take i)) →
    (∃ n, Ends l n ∧ n < 10 ∧ (n = 0 ∨ ∀ h : n < l.length, l[n] ≠ 0) ∧ (n = 9 → ∀ h : n < l.length, l[n] ≤ 1) ∧ vlp l f i x = (val (l.take (n + 1)), (n : Int) + 1, 0)) ∨
    (∃ n, Ends l n ∧ n < 10 ∧ ((0 < n ∧ ∀ h : n < l.length, l[n] = 0) ∨ (n = 9 ∧ ∀ h : n < l.length, 1 < l[n])) ∧ vlp l f i x = (0, 0, 42)) ∨
    ((∀ j, (h : j < l.length) → j < 10 → 127 < l[j]) ∧ vlp l f i x = if l.length < 10 then (0, 0, 41) else (0, 0, 42))
  | 0, i, hi, hil, hbig, x, hx => by
    refine .inr (.inr ⟨fun j h hj => hbig j h (by omega), rfl⟩)
  | f + 1, i, hi, hil, hbig, x, hx => by
    by_cases hlt : i < l.length
    · have hbi := hb l[i] (List.getElem_mem hlt)
      by_cases hm : 127 < l[i]
      · have e : vlp l (f + 1) i x = vlp l f (i + 1) (vstep l[i] i x) := by
          rw [vlp, if_pos hlt]
          simp [hlt, hm]
        rw [e]
        refine vlp_char l hb f (i + 1) (by omega) (by omega) (fun j h hj => ?_) _ (fun h9 => ?_)
        · rcases Nat.lt_or_ge j i with h' | h'
          · exact hbig j h h'
          · have : j = i := by omega
            subst this
            exact hm
        · have hx' := hx (by omega)
          subst hx'
          have hl : (l.take i).length = i := by simp; omega
          have hv := val_lt (l.take i)
          rw [hl] at hv
          rw [vstep_val hbi.1 (by omega) (val_nonneg _) i (.inl (by omega)) hv, List.take_succ_eq_append_getElem hlt, val_snoc, hl]
      · have hE : Ends l i := ⟨hlt, fun _ => by omega, hbig⟩
        by_cases hbad : (0 < i ∧ l[i] = 0) ∨ (i = 9 ∧ 1 < l[i])
        · refine .inr (.inl ⟨i, hE, by omega, ?_, ?_⟩)
          · rcases hbad with h | h
            · exact .inl ⟨h.1, fun _ => h.2⟩
            · exact .inr ⟨h.1, fun _ => h.2⟩
          · rw [vlp, if_pos hlt, if_neg (by simp [hlt]; omega), if_pos (by simpa [hlt] using hbad)]
        · refine .inl ⟨i, hE, by omega, ?_, fun h9 _ => by omega, ?_⟩
          · rcases Nat.eq_zero_or_pos i with h | h
            · exact .inl h
            · exact .inr fun _ h' => hbad (.inl ⟨h, h'⟩)
          · rw [vlp, if_pos hlt, if_neg (by simp [hlt]; omega), if_neg (by simpa [hlt] using hbad)]
            have hx' := hx (by omega)
            subst hx'
            have hl : (l.take i).length = i := by simp; omega
            have hv := val_lt (l.take i)
            rw [hl] at hv
            have h9 : i ≤ 8 ∨ (i = 9 ∧ l[i] ≤ 1) := by omega
            have := vstep_val hbi.1 (by omega) (val_nonneg _) i h9 hv
            have e : l.getD i 0 = l[i] := by simp [hlt]
            rw [e, this, List.take_succ_eq_append_getElem hlt, val_snoc, hl]
    · refine .inr (.inr ⟨fun j h hj => hbig j h (by omega), ?_⟩)
      rw [vlp, if_neg hlt]
theorem Ends.unique {l : List Int} {n m : Nat} (h : Ends l n) (k : Ends l m) : n = m := by
  rcases Nat.lt_trichotomy n m with h1 | h1 | h1
  · have := k.big n h.lt h1
    have := h.small h.lt
    omega
  · exact h1
  · have := h.big m k.lt h1
    have := k.small k.lt
    omega
theorem val_pos {l : List Int} {n : Nat} (hn : n < l.length) (h0 : 0 ≤ l[n]) (h1 : l[n] ≤ 127) (hz : l[n] ≠ 0) : val (l.take (n + 1)) ≠ 0 := by
  rw [List.take_succ_eq_append_getElem hn, val_snoc]
  have h1 := val_nonneg (l.take n)
  have h2 : 0 < (128 : Int) ^ (l.take n).length := Int.pow_pos (by decide)
  have h3 : 0 < l[n] % 128 := by omega
  have := Int.mul_pos h2 h3
  omega
theorem good_take : ∀ (n : Nat) (l : List Int), Byt l → Ends l n → (n = 0 ∨ ∀ h : n < l.length, l[n] ≠ 0) → Good (l.take (n + 1))
  | 0, [], _, he, _ => absurd he.lt (by simp)
  | 0, b :: t, hb, he, _ => by
    have h1 := he.small he.lt
    have h2 := hb b (by simp)
    exact ⟨h2.1, h1⟩
  | n + 1, [], _, he, _ => absurd he.lt (by simp)
  | n + 1, b :: t, hb, he, hz => by
    have hlt : n < t.length := by have := he.lt; simp at this; omega
    have he' : Ends t n := ⟨hlt, fun h => by have := he.small he.lt; simpa using this, fun j h hj => by have := he.big (j + 1) (by simp; omega) (by omega); simpa using this⟩
    have hb' : Byt t := fun x hx => hb x (by simp [hx])
    have hzn : t[n] ≠ 0 := by
      rcases hz with h | h
      · omega
      · have := h he.lt
        simpa using this
    have ih := good_take n t hb' he' (.inr fun _ => hzn)
    have hbt := hb t[n] (by simp [List.getElem_mem])
    have hp := val_pos hlt hbt.1 (he'.small hlt) hzn
    have h1 := he.big 0 (by simp) (by omega)
    have h2 := hb b (by simp)
    rw [List.take_succ_cons]
    cases ht : t.take (n + 1) with
    | nil => rw [ht] at ih; exact ih.elim
    | cons c r =>
      rw [ht] at ih hp
      simp at h1
      exact ⟨by omega, h2.2, ih, hp⟩
theorem good_ends : ∀ (m : List Int), Good m → ∀ rest, Ends (m ++ rest) (m.length - 1) ∧ (m.length - 1 = 0 ∨ ∀ h : m.length - 1 < (m ++ rest).length, (m ++ rest)[m.length - 1] ≠ 0)
  | [], h, _ => h.elim
  | [b], h, rest => by
    have h : 0 ≤ b ∧ b ≤ 127 := h
    exact ⟨⟨by simp, fun _ => by simpa using h.2, fun j _ hj => absurd hj (by simp)⟩, .inl rfl⟩
  | b :: c :: t, h, rest => by
    obtain ⟨h1, h2, h3, h4⟩ := h
    obtain ⟨he, hz⟩ := good_ends (c :: t) h3 rest
    have hlt := he.lt
    refine ⟨⟨?_, ?_, ?_⟩, .inr ?_⟩
    · simp
      omega
    · intro h'
      have := he.small he.lt
      simpa using this
    · intro j hj hjn
      cases j with
      | zero => simp; omega
      | succ j => have := he.big j (by simp at hj ⊢; omega) (by simp at hjn ⊢; omega); simpa using this
    · intro h'
      rcases hz with hz | hz
      · have ht : t = [] := List.eq_nil_of_length_eq_zero (by simpa using hz)
        subst ht
        have h5 : 0 ≤ c ∧ c ≤ 127 := h3
        simp only [val] at h4
        simp
        omega
      · have := hz he.lt
        simpa using this
/-- what was written is read -/
theorem vlp_vb {n : Nat} (hn : n < 18446744073709551616) {rest : List Int} (hr : Byt rest) : vlp (vb n ++ rest) 10 0 0 = ((n : Int), ((vb n).length : Int), 0) := by
  obtain ⟨hg, hv⟩ := vb_good n
  obtain ⟨he, hz⟩ := good_ends _ hg rest
  have hl := vb_len10 hn
  have hp := vb_pos n
  have hb : Byt (vb n ++ rest) := fun x hx => by
    rcases List.mem_append.1 hx with h | h
    · exact vb_byt n x h
    · exact hr x h
  rcases vlp_char (vb n ++ rest) hb 10 0 (by omega) (by omega) (fun j _ hj => by omega) 0 (fun _ => by simp [val]) with ⟨m, hm, _, _, _, h⟩ | ⟨m, hm, _, hbad, h⟩ | ⟨hbig, h⟩
  · have e := hm.unique he
    subst e
    rw [h, show (vb n).length - 1 + 1 = (vb n).length by omega, List.take_left, hv]
    simp
    omega
  · have e := hm.unique he
    subst e
    exfalso
    rcases hbad with ⟨h1, h2⟩ | ⟨h1, h2⟩
    · rcases hz with hz | hz
      · omega
      · exact hz he.lt (h2 he.lt)
    · have h2 := h2 he.lt
      have h3 := he.small he.lt
      have e2 : (vb n ++ rest)[(vb n).length - 1]'he.lt = (vb n)[(vb n).length - 1] := by rw [List.getElem_append_left]
      rw [e2] at h2 h3
      have h4 : vb n = (vb n).take ((vb n).length - 1) ++ [(vb n)[(vb n).length - 1]] := by
        rw [← List.take_succ_eq_append_getElem, List.take_of_length_le (by omega)]
      have h5 := congrArg val h4
      rw [val_snoc, hv] at h5
      have h6 := val_nonneg ((vb n).take ((vb n).length - 1))
      have h7 : ((vb n).take ((vb n).length - 1)).length = 9 := by rw [List.length_take]; omega
      rw [h7] at h5
      generalize (vb n)[(vb n).length - 1] = q at *
      have h8 : q % 128 = q := by omega
      rw [h8, show (128 : Int) ^ 9 = 9223372036854775808 by rfl] at h5
      omega
  · exfalso
    have := hbig ((vb n).length - 1) he.lt (by omega)
    have := he.small he.lt
    omega
/-- what is read was written so -/
theorem vlp_form {l : List Int} (hb : Byt l) {x n : Int} (h : vlp l 10 0 0 = (x, n, 0)) : l.take n.toNat = vb x.toNat ∧ 0 ≤ x ∧ 1 ≤ n ∧ n ≤ l.length := by
  rcases vlp_char l hb 10 0 (by omega) (by omega) (fun j _ hj => by omega) 0 (fun _ => by simp [val]) with ⟨m, hm, _, hz, _, h'⟩ | ⟨m, hm, _, hbad, h'⟩ | ⟨hbig, h'⟩
  · rw [h] at h'
    simp only [Prod.mk.injEq] at h'
    obtain ⟨rfl, rfl, _⟩ := h'
    have hg := good_take m l hb hm hz
    have hlt := hm.lt
    refine ⟨?_, val_nonneg _, by omega, by omega⟩
    rw [good_vb _ hg]
    congr 1
  · rw [h] at h'
    simp at h'
  · rw [h] at h'
    split at h' <;> simp at h'
theorem urd_vb {n : Nat} {limit : Int} (hn : n < 18446744073709551616) (hl : (n : Int) ≤ limit) {rest : List Int} (hr : Byt rest) : urd (vb n ++ rest) limit = ((n : Int), (vb n).length, 0) := by
  unfold urd
  rw [vlp_vb hn hr]
  simp
  omega
theorem urd_vb_no {n : Nat} {limit : Int} (hn : n < 18446744073709551616) (hl : limit < n) {rest : List Int} (hr : Byt rest) : urd (vb n ++ rest) limit = (0, 0, 42) := by
  unfold urd
  rw [vlp_vb hn hr]
  simp
  omega
theorem urd_form {l : List Int} (hb : Byt l) {limit x : Int} {n : Nat} (h : urd l limit = (x, n, 0)) : l.take n = vb x.toNat ∧ 0 ≤ x ∧ x ≤ limit ∧ 1 ≤ n ∧ n ≤ 10 ∧ n ≤ l.length := by
  rcases urd_cases l limit with ⟨y, m, hv, hx, h1, h2, h3, hu⟩ | ⟨y, m, hv, hx, h1, h2, hu⟩ | ⟨y, m, er, hv, h1, hu⟩
  · rw [h] at hu
    simp only [Prod.mk.injEq] at hu
    obtain ⟨rfl, rfl, _⟩ := hu
    have := vlp_form hb hv
    exact ⟨this.1, this.2.1, hx, by omega, by omega, by omega⟩
  · rw [h] at hu
    simp at hu
  · rw [h] at hu
    simp only [Prod.mk.injEq] at hu
    omega
/-- no varint begins another -/
theorem vb_prefix {x y : Nat} (hx : x < 18446744073709551616) (hy : y < 18446744073709551616) (h : vb x = (vb y).take (vb x).length) : x = y := by
  have h1 := vlp_vb hx (rest := (vb y).drop (vb x).length) (fun z hz => vb_byt y z (List.mem_of_mem_drop hz))
  have h2 := vlp_vb hy (rest := []) (fun z hz => by simp at hz)
  have e : vb x ++ (vb y).drop (vb x).length = vb y ++ [] := by
    rw [List.append_nil]
    conv => lhs; lhs; rw [h]
    exact List.take_append_drop _ _
  rw [e, h2] at h1
  simp only [Prod.mk.injEq] at h1
  omega
theorem uz_zz (x : Int) : (if zz x % 2 = 0 then zz x / 2 else -(zz x / 2) - 1) = x := by
  unfold zz
  split <;> omega
/-- the zigzag keeps the size: a number and its neighbour beyond 0 -/
theorem vb_pair : ∀ (k n : Nat), n < 128 ^ (k + 1) → n % 2 = 0 → (vb n).length = (vb (n + 1)).length ∧ ∀ a b s t, vb n = a :: s → vb (n + 1) = b :: t → (a % 2 == b % 2) = false
  | 0, n, h, h2 => by
    rw [vb_last (n := n) (by omega), vb_last (n := n + 1) (by omega)]
    refine ⟨rfl, fun a b s t ha hb => ?_⟩
    injection ha with ha _
    injection hb with hb _
    subst ha hb
    simp
    omega
  | k + 1, n, h, h2 => by
    by_cases hn : 127 < n
    · rw [vb_more hn, vb_more (n := n + 1) (by omega), show (n + 1) / 128 = n / 128 by omega]
      refine ⟨by simp, fun a b s t ha hb => ?_⟩
      injection ha with ha _
      injection hb with hb _
      subst ha hb
      simp
      omega
    · rw [vb_last hn, vb_last (n := n + 1) (by omega)]
      refine ⟨rfl, fun a b s t ha hb => ?_⟩
      injection ha with ha _
      injection hb with hb _
      subst ha hb
      simp
      omega
end Go.Proofs.Ytlnomadhgoblkaa.Kit
-- The checksum: bit vectors beside the model's numbers.
set_option linter.unusedVariables false
set_option linter.unusedSimpArgs false
namespace Go.Proofs.Ytlnomadhgoblkaa.Kit
open Go.RowKit
abbrev V32 := BitVec 32
/-- a bit vector as the model's number -/
def vi (x : V32) : Int := (x.toNat : Int)
theorem vi_lt (x : V32) : vi x < 4294967296 := by have := x.isLt; unfold vi; omega
theorem vi_nonneg (x : V32) : 0 ≤ vi x := Int.natCast_nonneg _
theorem ofInt_vi (x : V32) : BitVec.ofInt 32 (vi x) = x := by rw [vi, BitVec.ofInt_natCast, BitVec.ofNat_toNat, BitVec.setWidth_eq]
theorem wrap_vi (x : V32) : IntKind.u32.wrap (x.toNat : Int) = vi x := IntWalk.u32_in _ ⟨vi_nonneg x, by have := vi_lt x; unfold vi at this; omega⟩
theorem bits_xor32 (a b : V32) : Go.bits .xor .u32 (vi a) (vi b) = vi (a ^^^ b) := by
  show IntKind.u32.wrap (((BitVec.ofInt 32 (vi a) ^^^ BitVec.ofInt 32 (vi b)).toNat : Nat) : Int) = _
  rw [ofInt_vi, ofInt_vi, wrap_vi]
theorem bits_and32 (a b : V32) : Go.bits .and .u32 (vi a) (vi b) = vi (a &&& b) := by
  show IntKind.u32.wrap (((BitVec.ofInt 32 (vi a) &&& BitVec.ofInt 32 (vi b)).toNat : Nat) : Int) = _
  rw [ofInt_vi, ofInt_vi, wrap_vi]
theorem vi_shr (a : V32) (k : Nat) : vi a / 2 ^ k = vi (a >>> k) := by
  unfold vi
  rw [BitVec.toNat_ushiftRight, Nat.shiftRight_eq_div_pow]
  simp
theorem vi_ofNat (n : Nat) (h : n < 4294967296) : vi (BitVec.ofNat 32 n) = (n : Int) := by
  unfold vi
  rw [BitVec.toNat_ofNat, Nat.mod_eq_of_lt h]
/-- half a step: a bit -/
def hv (x : V32) : V32 := if x &&& 1#32 = 1#32 then (x >>> 1) ^^^ 0xEDB88320#32 else x >>> 1
def hN : Nat → V32 → V32
  | 0, x => x
  | n + 1, x => hv (hN n x)
/-- the table of half a byte -/
def tbl (i : Nat) : V32 := hN 4 (BitVec.ofNat 32 i)
def tblCells : List Value := (List.range 16).map fun i => .int .u32 (vi (tbl i))
theorem and1_hit {y : V32} (h : y &&& 1#32 = 1#32) : Go.bits .and .u32 (vi y) 1 = 1 := by
  have := bits_and32 y 1#32
  rw [h] at this
  exact this
theorem and1_miss {y : V32} (h : ¬ y &&& 1#32 = 1#32) : (Go.bits .and .u32 (vi y) 1 == 1) = false := by
  have e := bits_and32 y 1#32
  rw [show Go.bits .and .u32 (vi y) 1 = vi (y &&& 1#32) from e, beq_eq_false_iff_ne]
  intro h'
  refine h (BitVec.eq_of_toNat_eq ?_)
  have : (((y &&& 1#32).toNat : Nat) : Int) = 1 := h'
  have h2 : (y &&& 1#32).toNat = 1 := by omega
  rw [h2]
  rfl
theorem hv_hit {y : V32} (h : y &&& 1#32 = 1#32) : Go.bits .xor .u32 (vi y / 2) 3988292384 = vi (hv y) := by
  have e := bits_xor32 (y >>> 1) 0xEDB88320#32
  rw [hv, if_pos h, ← e, ← vi_shr y 1]
  rfl
theorem hv_miss {y : V32} (h : ¬ y &&& 1#32 = 1#32) : vi y / 2 = vi (hv y) := by
  rw [hv, if_neg h, ← vi_shr y 1]
  rfl
/-- half a byte, by the table -/
def nib (y : V32) : V32 := tbl (y &&& 15#32).toNat ^^^ (y >>> 4)
def crcB (x : V32) (c : Int) : V32 := nib (nib (x ^^^ BitVec.ofInt 32 c))
def crcUp (l : List Int) : V32 := l.foldl crcB 0xFFFFFFFF#32
/-- the checksum -/
def crc (l : List Int) : V32 := ~~~ crcUp l
theorem crcUp_snoc (l : List Int) (c : Int) : crcUp (l ++ [c]) = crcB (crcUp l) c := by simp [crcUp]
theorem vi_ofInt {c : Int} (h0 : 0 ≤ c) (h1 : c < 4294967296) : vi (BitVec.ofInt 32 c) = c := by
  obtain ⟨n, rfl⟩ := Int.eq_ofNat_of_zero_le h0
  rw [BitVec.ofInt_natCast]
  exact vi_ofNat n (by omega)
theorem and15 (y : V32) : Go.bits .and .u32 (vi y) 15 = (((y &&& 15#32).toNat : Nat) : Int) := bits_and32 y 15#32
theorem and15_lt (y : V32) : (y &&& 15#32).toNat < 16 := by
  rw [BitVec.toNat_and]
  exact Nat.lt_of_le_of_lt Nat.and_le_right (by decide)
theorem nib_eq (y : V32) : Go.bits .xor .u32 (vi (tbl (y &&& 15#32).toNat)) (vi y / 16) = vi (nib y) := by
  rw [nib, ← bits_xor32, ← vi_shr y 4]
  rfl
theorem xor_eq {x : V32} {c : Int} (h0 : 0 ≤ c) (h1 : c ≤ 255) : Go.bits .xor .u32 (vi x) c = vi (x ^^^ BitVec.ofInt 32 c) := by
  rw [← bits_xor32, vi_ofInt h0 (by omega)]
theorem not_eq (x : V32) : Go.bits .xor .u32 IntKind.u32.max (vi x) = vi (~~~ x) := by
  rw [show IntKind.u32.max = vi (BitVec.allOnes 32) from by decide, bits_xor32, BitVec.allOnes_xor]
theorem tbl_get {n : Nat} (h : n < 16) : tblCells[n]? = some (.int .u32 (vi (tbl n))) := by simp [tblCells, h]
/-- a byte's step, in names alone -/
theorem crc_step (x : V32) {c : Int} (h0 : 0 ≤ c) (h1 : c ≤ 255) : ∃ (z0 z1 z2 t1 t2 : Int) (n1 n2 : Nat), Go.bits .xor .u32 (vi x) c = z0 ∧ Go.bits .and .u32 z0 15 = (n1 : Int) ∧ n1 < 16 ∧ tblCells[n1]? = some (.int .u32 t1) ∧ Go.bits .xor .u32 t1 (z0 / 16) = z1 ∧
    Go.bits .and .u32 z1 15 = (n2 : Int) ∧ n2 < 16 ∧ tblCells[n2]? = some (.int .u32 t2) ∧ Go.bits .xor .u32 t2 (z1 / 16) = z2 ∧ z2 = vi (crcB x c) :=
  ⟨_, _, _, _, _, _, _, xor_eq h0 h1, and15 _, and15_lt _, tbl_get (and15_lt _), nib_eq _, and15 _, and15_lt _, tbl_get (and15_lt _), nib_eq _, rfl⟩
end Go.Proofs.Ytlnomadhgoblkaa.Kit
-- The checksum by half bytes is the checksum bit by bit.
set_option linter.unusedVariables false
set_option linter.unusedSimpArgs false
namespace Go.Proofs.Ytlnomadhgoblkaa.Kit
open Go.RowKit
theorem low_iff (x : V32) : (x &&& 1#32 = 1#32) ↔ x.getLsbD 0 = true := by
  rw [BitVec.and_one_eq_setWidth_ofBool_getLsbD]
  cases x.getLsbD 0 <;> decide
def pol (b : Bool) : V32 := if b then 0xEDB88320#32 else 0#32
theorem hv_eq (x : V32) : hv x = (x >>> 1) ^^^ pol (x.getLsbD 0) := by
  unfold hv pol
  by_cases h : x &&& 1#32 = 1#32
  · rw [if_pos h, if_pos ((low_iff x).1 h)]
  · rw [if_neg h, if_neg (fun h' => h ((low_iff x).2 h')), BitVec.xor_zero]
theorem pol_xor (a b : Bool) : pol (a ^^ b) = pol a ^^^ pol b := by cases a <;> cases b <;> decide
theorem hv_xor (x y : V32) : hv (x ^^^ y) = hv x ^^^ hv y := by
  rw [hv_eq, hv_eq, hv_eq, BitVec.getLsbD_xor, pol_xor, BitVec.ushiftRight_xor_distrib]
  ac_rfl
theorem hv_even {x : V32} (h : x.getLsbD 0 = false) : hv x = x >>> 1 := by rw [hv_eq, h, pol]; simp
theorem hN_xor (n : Nat) (x y : V32) : hN n (x ^^^ y) = hN n x ^^^ hN n y := by
  induction n with
  | zero => rfl
  | succ n ih => rw [hN, ih, hv_xor]; rfl
theorem hN_even (n : Nat) (x : V32) (h : ∀ i, i < n → x.getLsbD i = false) : hN n x = x >>> n := by
  induction n with
  | zero => simp [hN]
  | succ n ih =>
    rw [hN, ih (fun i hi => h i (by omega)), hv_even, ← BitVec.shiftRight_add]
    have := h n (by omega)
    simpa using this
theorem hN_add (m n : Nat) (x : V32) : hN m (hN n x) = hN (m + n) x := by
  induction m with
  | zero => simp [hN]
  | succ m ih => rw [show m + 1 + n = (m + n) + 1 by omega, hN, hN, ih]
theorem low15 (y : V32) : y = (y &&& 15#32) ^^^ (y &&& ~~~15#32) := by
  apply BitVec.eq_of_getLsbD_eq
  intro i hi
  simp only [BitVec.getLsbD_xor, BitVec.getLsbD_and, BitVec.getLsbD_not, hi, decide_true, Bool.true_and]
  cases y.getLsbD i <;> cases (15#32).getLsbD i <;> rfl
theorem nib_hN (y : V32) : nib y = hN 4 y := by
  conv => rhs; rw [low15 y]
  rw [hN_xor, hN_even 4 (y &&& ~~~15#32), nib, tbl, BitVec.ofNat_toNat, BitVec.setWidth_eq]
  · congr 1
    apply BitVec.eq_of_getLsbD_eq
    intro i hi
    simp only [BitVec.getLsbD_ushiftRight, BitVec.getLsbD_and, BitVec.getLsbD_not]
    by_cases h : 4 + i < 32
    · have : (15#32).getLsbD (4 + i) = false := by
        rw [BitVec.getLsbD_ofNat, Nat.testBit_lt_two_pow (Nat.lt_of_lt_of_le (show 15 < 2 ^ 4 by decide) (Nat.pow_le_pow_right (by decide) (by omega)))]
        simp
      rw [this]
      simp [h]
    · rw [BitVec.getLsbD_of_ge y _ (by omega)]
      simp
  · intro i hi
    rcases (show i = 0 ∨ i = 1 ∨ i = 2 ∨ i = 3 by omega) with rfl | rfl | rfl | rfl <;> simp [BitVec.getLsbD_and]
theorem crcB_hN (x : V32) (c : Int) : crcB x c = hN 8 (x ^^^ BitVec.ofInt 32 c) := by
  rw [crcB, nib_hN, nib_hN, hN_add]
/-- the document's step: a bit -/
def rstep (y : V32) (b : Bool) : V32 := (y >>> 1) ^^^ pol (y.getLsbD 0 ^^ b)
def refN (x C : V32) : Nat → V32
  | 0 => x
  | j + 1 => rstep (refN x C j) (C.getLsbD j)
theorem refN_inv (x C : V32) (j : Nat) : refN x C j ^^^ (C >>> j) = hN j (x ^^^ C) := by
  induction j with
  | zero => simp [refN, hN]
  | succ j ih =>
    rw [hN, ← ih, refN, rstep, hv_eq, BitVec.getLsbD_xor, BitVec.ushiftRight_xor_distrib, BitVec.shiftRight_add, BitVec.getLsbD_ushiftRight, Nat.add_zero]
    ac_rfl
theorem refN_crcB (x : V32) {c : Int} (h0 : 0 ≤ c) (h1 : c ≤ 255) : refN x (BitVec.ofInt 32 c) 8 = crcB x c := by
  rw [crcB_hN, ← refN_inv]
  have : BitVec.ofInt 32 c >>> 8 = 0#32 := by
    apply BitVec.eq_of_toNat_eq
    have h := vi_ofInt (c := c) h0 (by omega)
    unfold vi at h
    rw [BitVec.toNat_ushiftRight, Nat.shiftRight_eq_div_pow]
    simp only [BitVec.toNat_ofNat]
    omega
  rw [this, BitVec.xor_zero]
theorem low_vi (y : V32) : vi y % 2 = if y.getLsbD 0 then 1 else 0 := by
  have h : y.getLsbD 0 = decide (y.toNat % 2 = 1) := by rw [BitVec.getLsbD, Nat.testBit_zero]
  rw [h]
  unfold vi
  by_cases e : y.toNat % 2 = 1
  · simp [e]
    omega
  · simp [e]
    omega
theorem bit_of {c : Int} (h0 : 0 ≤ c) (h1 : c ≤ 255) (j : Nat) : c / 2 ^ j % 2 = if (BitVec.ofInt 32 c).getLsbD j then 1 else 0 := by
  have h2 := vi_shr (BitVec.ofInt 32 c) j
  have h3 := low_vi (BitVec.ofInt 32 c >>> j)
  rw [vi_ofInt h0 (by omega)] at h2
  rw [h2, h3, BitVec.getLsbD_ushiftRight, Nat.add_zero]
/-- a bit's step of the document, in names alone -/
theorem crc_bit (y : V32) {c : Int} (h0 : 0 ≤ c) (h1 : c ≤ 255) (j : Nat) (m : Int) (hm : m = 2 ^ j) : ∃ (z z' : Int) (b : Bool), vi y = z ∧ 0 ≤ z ∧ z ≤ 4294967295 ∧ (z % 2 != c / m % 2) = b ∧ (b = true → Go.bits .xor .u32 (z / 2) 3988292384 = z') ∧ (b = false → z / 2 = z') ∧ z' = vi (rstep y ((BitVec.ofInt 32 c).getLsbD j)) := by
  subst hm
  refine ⟨vi y, vi (rstep y ((BitVec.ofInt 32 c).getLsbD j)), y.getLsbD 0 ^^ (BitVec.ofInt 32 c).getLsbD j, rfl, vi_nonneg y, by have := vi_lt y; omega, ?_, fun h => ?_, fun h => ?_, rfl⟩
  · rw [low_vi, bit_of h0 h1]
    cases y.getLsbD 0 <;> cases (BitVec.ofInt 32 c).getLsbD j <;> rfl
  · have e := bits_xor32 (y >>> 1) 0xEDB88320#32
    rw [rstep, h, pol, if_pos rfl, ← e, ← vi_shr y 1]
    rfl
  · rw [rstep, h, pol]
    simp only [Bool.false_eq_true, if_false, BitVec.xor_zero]
    rw [← vi_shr y 1]
    rfl
end Go.Proofs.Ytlnomadhgoblkaa.Kit
-- AppendUint, AppendInt, AppendText.
set_option linter.unusedVariables false
set_option linter.unusedSimpArgs false
set_option linter.unnecessarySimpa false
namespace Go.Proofs.Ytlnomadhgoblkaa.Kit
open Go.RowKit
theorem infoU8 : (Try.prog.info? 5).map (fun i => (i.zero, i.size, i.bytes)) = some (some (.int .u8 0), 1, 1) := by kernel_rfl
abbrev OwnB (w : World) (v : Value) (l : List Int) : Prop := Own w 5 .u8 v l
set_option maxHeartbeats 400000 in
theorem appendUint (v : Value) (l : List Int) (x : Int) (w : World) (hx : 0 ≤ x) (hown : OwnB w v l) (hlen : l.length + (vb x.toNat).length ≤ 140737488355328) :
    Calls Try.prog 21 #[v, .int .u64 x] w fun e w' => ∃ v', e = .returned v' ∧ OwnB w' v' (l ++ vb x.toNat) ∧ (∀ A n c, v = .slice A n c → Rd w' .u8 A l) ∧ Chg (fun g => v.ownBlock = some g) w w' ∧ Fresh w v v' := by
  have HL := Lib.hid hlen
  clear hlen
  have HO := Lib.hid hown
  clear hown
  go_enter Try.func21, Try.ntmps21
  go_wp2
  go_loopw [0, 1] (fun b q wr => ∃ (pre : List Int) (y : Int), q = .int .u64 y ∧ 0 ≤ y ∧ Hid (pre ++ vb y.toNat = l ++ vb x.toNat) ∧ Hid (∃ t, pre = l ++ t) ∧ Hid (OwnB wr b pre) ∧ Hid (∀ A n c, v = .slice A n c → Rd wr .u8 A l) ∧ Hid (Chg (fun g => v.ownBlock = some g) w wr) ∧ Hid (Fresh w v b)) (fun _ q _ => (intOf q).toNat)
  case atStart => exact ⟨l, x, rfl, hx, rfl, ⟨[], by simp⟩, HO.out, fun A n c h => by { obtain ⟨A', c', h', _, hr⟩ := HO.out.reads; rw [h'] at h; injection h with h _ _; exact h ▸ hr }, Chg.refl _ _, .inl rfl⟩
  case round =>
    obtain ⟨pre, y, rfl, hy, h1, ht, h2, h3, h4, h5⟩ := hrel
    by_cases hlt : 127 < y
    · go_wp2_with (at_builtin; go_must (refine wp_app1 rfl _ _ 29 5 .u8 1 rfl Try.underlying29 infoU8 (by decide) u0 pre _ rfl h2 rfl ?b1 ?_); (case b1 => have h := congrArg List.length h1.out; have := vb_pos y.toNat; simp at h; have := HL.out; omega); intro v' w1 k1 k2 k3 k4; have K1 := Lib.hid k1; have K2 := Lib.hid k2; have K3 := Lib.hid k3; have K4 := Lib.hid k4; clear k1 k2 k3 k4)
      go_roundw
      case rel =>
        obtain ⟨t, ht⟩ := ht.out
        refine ⟨_, y / 128, rfl, by omega, ?_, ⟨t ++ [_], by rw [ht, List.append_assoc]⟩, K1.out, old_view HO.out h3.out K2.out ht K3.out, h4.out.app h5.out K3.out, h5.out.trans K4.out h4.out.size⟩
        rw [List.append_assoc, List.singleton_append, ← byte_more hlt]
        exact h1.out
      case measure => simp [intOf]; omega
    · go_wp2_with (at_builtin; go_must (refine wp_app1 rfl _ _ 29 5 .u8 1 rfl Try.underlying29 infoU8 (by decide) u0 pre _ rfl h2 rfl ?b2 ?_); (case b2 => have h := congrArg List.length h1.out; have := vb_pos y.toNat; simp at h; have := HL.out; omega); intro v' w1 k1 k2 k3 k4; have K1 := Lib.hid k1; have K2 := Lib.hid k2; have K3 := Lib.hid k3; have K4 := Lib.hid k4; clear k1 k2 k3 k4)
      go_ret
      obtain ⟨t, ht⟩ := ht.out
      refine ⟨_, rfl, ?_, old_view HO.out h3.out K2.out ht K3.out, h4.out.app h5.out K3.out, h5.out.trans K4.out h4.out.size⟩
      have := K1.out
      rw [← byte_last hy hlt, h1.out] at this
      exact this
theorem rd_of_own {w : World} {e : TypeId} {k : IntKind} {v : Value} {l : List Int} (h : Own w e k v l) : ∀ A n c, v = .slice A n c → Rd w k A l := fun A n c h' => by
  obtain ⟨A', c', h'', _, hr⟩ := h.reads
  rw [h''] at h'
  injection h' with h' _ _
  exact h' ▸ hr
/-- what the three append calls leave -/
def Appended (v : Value) (l m : List Int) (w : World) (e : Ending) (w' : World) : Prop :=
  ∃ v', e = .returned v' ∧ OwnB w' v' (l ++ m) ∧ (∀ A n c, v = .slice A n c → Rd w' .u8 A l) ∧ Chg (fun g => v.ownBlock = some g) w w' ∧ Fresh w v v'
theorem appendUint' (v : Value) (l : List Int) (x : Int) (w : World) (hx : 0 ≤ x) (hown : Hid (OwnB w v l)) (hlen : l.length + (vb x.toNat).length ≤ 140737488355328) :
    Calls Try.prog 21 #[v, .int .u64 x] w (Appended v l (vb x.toNat) w) := appendUint v l x w hx hown hlen
theorem appendText (v : Value) (l : List Int) (s : ByteArray) (w : World) (hs : s.size ≤ 140737488355328) (hown : Hid (OwnB w v l)) (hlen : l.length + 10 + s.size ≤ 140737488355328) :
    Calls Try.prog 22 #[v, .string s] w (Appended v l (vb s.size ++ bytesOf s) w) := by
  have H1 : (vb s.size).length ≤ 10 := vb_len10 (by omega)
  go_enter Try.func22, Try.ntmps22
  go_wp2_with (first | (go_at_call 21; go_must (refine (appendUint' v l _ _ (by omega) hown (by simp; omega)).mono ?_); rintro e w' ⟨v', rfl, k1, k2, k3, k4⟩; have K1 := Lib.hid k1; have K2 := Lib.hid k2; have K3 := Lib.hid k3; have K4 := Lib.hid k4; clear k1 k2 k3 k4) | (at_builtin; go_must (refine wp_apps rfl _ _ 29 9 5 rfl Try.underlying29 Try.underlying9 infoU8 v' _ rfl K1.out s rfl ?b1 ?_); (case b1 => simp; omega); intro v'' w1 k1 k2 k3 k4; have N1 := Lib.hid k1; have N2 := Lib.hid k2; have N3 := Lib.hid k3; have N4 := Lib.hid k4; clear k1 k2 k3 k4))
  go_ret
  refine ⟨_, rfl, ?_, old_view hown.out K2.out N2.out rfl N3.out, K3.out.app K4.out N3.out, K4.out.trans N4.out K3.out.size⟩
  have := N1.out
  rw [List.append_assoc] at this
  exact this
end Go.Proofs.Ytlnomadhgoblkaa.Kit
-- The reader: NewReader, Place, Left, Uint.
set_option linter.unusedVariables false
set_option linter.unusedSimpArgs false
set_option linter.unnecessarySimpa false
namespace Go.Proofs.Ytlnomadhgoblkaa.Kit
open Go.RowKit
theorem min2_int (k k' : IntKind) (x y : Int) : Builtin.min2 (.int k x) (.int k' y) = pure (.int k (min x y)) := by
  simp only [Builtin.min2]; congr 1; congr 1; omega
theorem min_two (ats : Array TypeId) (ty : TypeId) (a b : Value) : Builtin.min_ ats ty #[a, b] = (Builtin.min2 a b >>= fun s => pure s) := by simp only [Builtin.min_, List.foldlM_cons, List.foldlM_nil]
theorem ret3 {w : World} {p : Int × Int × Int} {a b c : Int} (h : p = (a, b, c)) : Ending.returned (.tuple #[.int .u64 a, .int .i64 b, .int .i64 c]) = Ending.returned (.tuple #[.int .u64 p.1, .int .i64 p.2.1, .int .i64 p.2.2]) ∧ w = w := by rw [h]; exact ⟨rfl, rfl⟩
attribute [local go_sem] min2_int min_two
set_option maxHeartbeats 400000 in
theorem varint (A : Option Addr) (c : Nat) (l : List Int) (w : World) (hl : l.length ≤ 140737488355328) (hr : Rd w .u8 A l) :
    Calls Try.prog 88 #[.slice A l.length c] w fun e w' => e = .returned (.tuple #[.int .u64 (vlp l 10 0 0).1, .int .i64 (vlp l 10 0 0).2.1, .int .i64 (vlp l 10 0 0).2.2]) ∧ w = w' := by
  have HR := Lib.hid hr
  clear hr
  go_enter Try.func88, Try.ntmps88
  go_wp2
  go_loop [5, 10] (fun x i => ∃ k : Nat, k ≤ l.length ∧ k ≤ 10 ∧ i = .int .i64 k ∧ ∃ y, x = .int .u64 y ∧ Hid (vlp l 10 0 0 = vlp l (10 - k) k y)) (fun _ i => 10 - (intOf i).toNat)
  case atStart => exact ⟨0, by omega, by omega, rfl, 0, rfl, rfl⟩
  case round =>
    obtain ⟨k, hk, hk2, rfl, y, rfl, hv⟩ := hrel
    by_cases hlt : k < l.length ∧ k < 10
    · obtain ⟨h1, h2⟩ := hlt
      obtain ⟨ad, rfl, hcx⟩ := HR.out k h1
      by_cases h9 : k = 9
      · subst h9
        rw [show ad.add 9 = ⟨ad.block, ad.off + 9, none⟩ from rfl] at hcx
        by_cases h0 : 127 < l[9]
        · go_wp2
          go_round
          case rel => exact ⟨10, by omega, by omega, by go_num, _, rfl, hv.out.trans (vlp_more h1 h2 h0)⟩
          case measure => simp [intOf]
        · by_cases hz : l[9] = 0
          · have hz' : (l[9] == 0) = true := by simp [hz]
            go_wp2
            go_ret3
            rw [hv.out]
            exact ret3 (vlp_bad h1 h2 (by omega) (by omega))
          · have hz' : (l[9] == 0) = false := by simp [hz]
            by_cases ho : 1 < l[9]
            · go_wp2
              go_ret3
              rw [hv.out]
              exact ret3 (vlp_bad h1 h2 (by omega) (by omega))
            · go_wp2
              go_ret3
              rw [hv.out]
              exact ret3 (vlp_good h1 h2 (by omega) (by omega))
      · go_wp2
        · have h := ‹127 < l[k]›
          go_round
          case rel => exact ⟨k + 1, by omega, by omega, by go_num, _, rfl, hv.out.trans (vlp_more h1 h2 h)⟩
          case measure => simp [intOf]; omega
        · have h := ‹l[k] ≤ 127›
          go_ret3
          rw [hv.out]
          exact ret3 (vlp_bad h1 h2 h (.inl ⟨by omega, by assumption⟩))
        · have h := ‹l[k] ≤ 127›
          go_ret3
          rw [hv.out]
          exact ret3 (vlp_good h1 h2 h (by omega))
        · have h := ‹l[k] ≤ 127›
          go_ret3
          rw [hv.out]
          exact ret3 (vlp_good h1 h2 h (by omega))
    · go_wp2
      · go_ret3
        rw [hv.out]
        exact ret3 ((vlp_end hk hlt).trans (if_pos (by omega)))
      · go_ret3
        rw [hv.out]
        exact ret3 ((vlp_end hk hlt).trans (if_neg (by omega)))
/-- a reader of l, at at_, in block g; its bytes lie in v -/
structure Rdr (w : World) (g : Nat) (v : Value) (l : List Int) (at_ : Nat) : Prop where
  blk : Blk w g 148 [v, .int .i64 at_]
  own : OwnB w v l
  le : at_ ≤ l.length
  bound : l.length ≤ 140737488355328
namespace Rdr
variable {w w1 : World} {g : Nat} {v : Value} {l : List Int} {at_ : Nat}
theorem ne (h : Rdr w g v l at_) : v.ownBlock ≠ some g := OwnV.type_ne h.own h.blk (by decide)
theorem chg {S : Nat → Prop} (h : Rdr w g v l at_) (c : Chg S w w1) (hg : ¬ S g) (hv : ∀ k, v.ownBlock = some k → ¬ S k) : Rdr w1 g v l at_ := ⟨h.blk.chg c hg, h.own.chg c hv, h.le, h.bound⟩
theorem drewN (h : Rdr w g v l at_) (n : Nat) : Rdr (w.drewN n) g v l at_ := ⟨h.blk, h.own, h.le, h.bound⟩
theorem move (h : Rdr w g v l at_) {n : Nat} (hn : n ≤ l.length) : Rdr (w.setCell ⟨g, 1, none⟩ (.int .i64 n)) g v l n :=
  ⟨h.blk.set 1 _, h.own.chg ((Chg.refl (· = g) w).setCell (p := ⟨g, 1, none⟩) (fun _ => rfl) _) (fun k hk e => h.ne (by rw [hk, e])), hn, h.bound⟩
end Rdr
set_option maxHeartbeats 400000 in
theorem newReader (A : Option Addr) (c : Nat) (l : List Int) (w : World) (hl : l.length ≤ 140737488355328) (hr : Hid (Rd w .u8 A l)) :
    Calls Try.prog 74 #[.slice A l.length c] w fun e w' => ∃ g v, e = .returned (.pointer (some ⟨g, 0, none⟩)) ∧ Rdr w' g v l 0 ∧ w.heap.size ≤ g ∧ (∀ k, v.ownBlock = some k → w.heap.size ≤ k) ∧ Chg (fun _ => False) w w' := by
  go_enter Try.func74, Try.ntmps74
  go_wp2_with (at_builtin; go_must (refine wp_appn rfl _ _ 29 5 .u8 1 rfl Try.underlying29 infoU8 (by decide) (.slice (some ⟨w.heap.size, 0, none⟩) 0 0) [] rfl (Own.lit w 5 .u8 [] (by simp)) A c l _ rfl rfl (hr.out.below ((Chg.refl (fun _ => False) w).alloc _ |>.below (Nat.le_refl _) (fun _ h => h.elim))) (by simp; omega) ?_); intro v' w1 k1 k2 k3 k4; obtain ⟨A1, c1, rfl, _, _⟩ := k1.slice; have K1 := Lib.hid k1; have K3 := Lib.hid k3; have K4 := Lib.hid k4; clear k1 k2 k3 k4)
  go_ret
  have hc : Chg (fun _ => False) w (w1.alloc (.cells #[.slice A1 ([] ++ l).length c1, .int .i64 0] 148)) := (((Chg.refl _ w).alloc _).trans K3.out (fun i hi e => by
    simp [Value.ownBlock] at e
    omega)).alloc _
  refine ⟨w1.heap.size, .slice A1 l.length c1, rfl, ⟨Blk.new w1 _ _, (K1.out.alloc _), Nat.zero_le _, hl⟩, ?_, ?_, hc⟩
  · have := K3.out.size
    simp at this
    omega
  · intro k hk
    rcases K4.out with h | h
    · have h1 := h.symm.trans (show Value.ownBlock (.slice A1 ([] ++ l).length c1) = some k from hk)
      simp [Value.ownBlock] at h1
      omega
    · have := h k hk
      simp at this
      omega
theorem place (g : Nat) (v : Value) (l : List Int) (at_ : Nat) (w : World) (h : Hid (Rdr w g v l at_)) :
    Calls Try.prog 76 #[.pointer (some ⟨g, 0, none⟩)] w fun e w' => e = .returned (.int .i64 at_) ∧ w = w' := by
  have h1 := h.out.blk.at_ (i := 1) rfl
  go_enter Try.func76, Try.ntmps76
  go_wp2
  go_ret
  exact ⟨rfl, rfl⟩
theorem varint' (A : Option Addr) (c : Nat) (m : Nat) (l : List Int) (w : World) (hm : m = l.length) (hl : l.length ≤ 140737488355328) (hr : Hid (Rd w .u8 A l)) {x n er : Int} (h : Hid (vlp l 10 0 0 = (x, n, er))) :
    Calls Try.prog 88 #[.slice A m c] w fun e w' => e = .returned (.tuple #[.int .u64 x, .int .i64 n, .int .i64 er]) ∧ w = w' := by
  subst hm
  have := varint A c l w hl hr
  rw [h.out] at this
  exact this
/-- what a call on a reader leaves: the answer, the place -/
def RUint (g : Nat) (v : Value) (l : List Int) (at_ : Nat) (limit : Int) (w : World) (e : Ending) (w' : World) : Prop :=
  e = .returned (.tuple #[.int .u64 (urd (l.drop at_) limit).1, .int .i64 (urd (l.drop at_) limit).2.2]) ∧ Rdr w' g v l (at_ + (urd (l.drop at_) limit).2.1) ∧ Chg (· = g) w w'
theorem ruint_ok {g : Nat} {v : Value} {l : List Int} {at_ : Nat} {limit x n z : Int} {w : World} {k : Nat} (h : Rdr w g v l at_) (hu : urd (l.drop at_) limit = (x, n.toNat, 0)) (h1 : 1 ≤ n) (hn : n ≤ (l.drop at_).length) (hz : z = at_ + n) :
    RUint g v l at_ limit w (.returned (.tuple #[.int .u64 x, .int .i64 0])) ((w.setCell ⟨g, 1, none⟩ (.int .i64 z)).drewN k) := by
  have e : z = ((at_ + n.toNat : Nat) : Int) := by omega
  have hl : at_ + n.toNat ≤ l.length := by simp at hn; omega
  subst e
  unfold RUint
  rw [hu]
  exact ⟨rfl, (h.move hl).drewN k, ((Chg.refl (· = g) w).setCell (p := ⟨g, 1, none⟩) (fun _ => rfl) _).drewN k⟩
theorem ruint_no {g : Nat} {v : Value} {l : List Int} {at_ : Nat} {limit er : Int} {w : World} {k : Nat} (h : Rdr w g v l at_) (hu : urd (l.drop at_) limit = (0, 0, er)) :
    RUint g v l at_ limit w (.returned (.tuple #[.int .u64 0, .int .i64 er])) (w.drewN k) := by
  unfold RUint
  rw [hu]
  exact ⟨rfl, h.drewN k, (Chg.refl _ w).drewN k⟩
theorem rd_from {w : World} {k : IntKind} {A : Option Addr} {l : List Int} (h : Rd w k A l) (n : Nat) : Rd w k (A.map (·.add n)) (l.drop n) := by
  rcases A with _ | ad
  · intro i hi
    obtain ⟨ad, he, _⟩ := h (n + i) (by simp at hi; omega)
    cases he
  · exact h.drop rfl n
set_option maxHeartbeats 1600000 in
theorem uint (g : Nat) (v : Value) (l : List Int) (at_ : Nat) (limit : Int) (w : World) (h : Hid (Rdr w g v l at_)) :
    Calls Try.prog 75 #[.pointer (some ⟨g, 0, none⟩), .int .u64 limit] w (RUint g v l at_ limit w) := by
  obtain ⟨A, c, rfl, hc, _⟩ := h.out.own.slice
  have h0 := h.out.blk.at_ (i := 0) rfl
  have h1 := h.out.blk.at_ (i := 1) rfl
  have hf := h.out.blk.frozen (i := 1) (by simp)
  have h2 := h.out.le
  have h3 := h.out.bound
  have hrd := Lib.hid (h.out.own.rd rfl)
  have HD : Hid ((l.drop at_).length = l.length - at_) := List.length_drop
  have hdl : (l.drop at_).length ≤ 140737488355328 := by rw [HD.out]; omega
  have c1 : (0 : Int) ≤ (at_ : Int) := by omega
  have c2 : (at_ : Int) ≤ (l.length : Int) := by omega
  have c3 : (l.length : Int) ≤ (c : Int) := by omega
  by_cases hca : c = at_
  · have hrd2 : Hid (Rd w .u8 A (l.drop at_)) := by
      rw [show l.drop at_ = [] from List.drop_eq_nil_of_le (by omega)]
      exact Rd.nil _ _ _
    subst hca
    obtain ⟨x, n, er, hv⟩ : ∃ x n er, vlp (l.drop c) 10 0 0 = (x, n, er) := ⟨_, _, _, rfl⟩
    have he : er = 41 := by
      rw [show l.drop c = [] from List.drop_eq_nil_of_le (by omega)] at hv
      simp [vlp] at hv
      omega
    have hu : urd (l.drop c) limit = (0, 0, 41) := by unfold urd; rw [hv, he]; simp
    subst he
    have HV := Lib.hid hv
    have HU := Lib.hid hu
    clear hv hu
    go_enter Try.func75, Try.ntmps75
    go_wp2_with fail
    go_quiet ((go_at_call 88; go_must (refine Calls.quiet_of_same ((varint' _ _ _ (l.drop c) _ (by rw [HD.out]; omega) hdl (show Hid (Rd (w.drewN _) _ _ _) from hrd2) HV).mono fun _ _ h => ⟨h.1, h.2.symm⟩))))
    go_wp2
    go_ret2
    exact ruint_no h.out HU.out
  · have hrd2 : Hid (Rd w .u8 (A.map (·.add at_)) (l.drop at_)) := rd_from hrd.out at_
    rcases urd_cases (l.drop at_) limit with ⟨x, n, hv, hx, hn1, hn2, hn3, hu⟩ | ⟨x, n, hv, hx, hn1, hn2, hu⟩ | ⟨x, n, er, hv, hn1, hu⟩
    · have HV := Lib.hid hv
      have HU := Lib.hid hu
      clear hv hu
      go_enter Try.func75, Try.ntmps75
      go_wp2_with fail
      go_quiet ((go_at_call 88; go_must (refine Calls.quiet_of_same ((varint' _ _ _ (l.drop at_) _ HD.out.symm hdl (show Hid (Rd (w.drewN _) _ _ _) from hrd2) HV).mono fun _ _ h => ⟨h.1, h.2.symm⟩))))
      go_wp2
      go_ret2
      exact ruint_ok h.out HU.out hn1 hn3 rfl
    · have HV := Lib.hid hv
      have HU := Lib.hid hu
      clear hv hu
      go_enter Try.func75, Try.ntmps75
      go_wp2_with fail
      go_quiet ((go_at_call 88; go_must (refine Calls.quiet_of_same ((varint' _ _ _ (l.drop at_) _ HD.out.symm hdl (show Hid (Rd (w.drewN _) _ _ _) from hrd2) HV).mono fun _ _ h => ⟨h.1, h.2.symm⟩))))
      go_wp2
      go_ret2
      exact ruint_no h.out HU.out
    · have HV := Lib.hid hv
      have HU := Lib.hid hu
      clear hv hu
      have he : (er == 0) = false := by rcases hn1 with rfl | rfl <;> rfl
      have he' : (er != 0) = true := by rcases hn1 with rfl | rfl <;> rfl
      clear hn1
      go_enter Try.func75, Try.ntmps75
      go_wp2_with fail
      go_quiet ((go_at_call 88; go_must (refine Calls.quiet_of_same ((varint' _ _ _ (l.drop at_) _ HD.out.symm hdl (show Hid (Rd (w.drewN _) _ _ _) from hrd2) HV).mono fun _ _ h => ⟨h.1, h.2.symm⟩))))
      go_wp2
      go_ret2
      exact ruint_no h.out HU.out
end Go.Proofs.Ytlnomadhgoblkaa.Kit
-- The reader: Text.
set_option linter.unusedVariables false
set_option linter.unusedSimpArgs false
set_option linter.unnecessarySimpa false
namespace Go.Proofs.Ytlnomadhgoblkaa.Kit
open Go.RowKit
theorem uint' {g : Nat} {v : Value} {l : List Int} {at_ : Nat} {limit : Int} {w : World} {x er : Int} {n : Nat} (hu : Hid (urd (l.drop at_) limit = (x, n, er))) (h : Hid (Rdr w g v l at_)) :
    Calls Try.prog 75 #[.pointer (some ⟨g, 0, none⟩), .int .u64 limit] w fun e w' => e = .returned (.tuple #[.int .u64 x, .int .i64 er]) ∧ Rdr w' g v l (at_ + n) ∧ Chg (· = g) w w' := by
  have := uint g v l at_ limit w h
  unfold RUint at this
  rw [hu.out] at this
  exact this
def RText (g : Nat) (v : Value) (l : List Int) (at_ : Nat) (limit : Int) (w : World) (e : Ending) (w' : World) : Prop :=
  ∃ (s : List Int) (at2 : Nat) (er : Int), e = .returned (.tuple #[.string (strOf s), .int .i64 er]) ∧ Rdr w' g v l at2 ∧ Chg (· = g) w w' ∧
    ((limit < 0 ∧ s = [] ∧ er = 1 ∧ at2 = at_) ∨ (0 ≤ limit ∧ er ≠ 0 ∧ s = [] ∧ at2 = at_ ∧ er = (urd (l.drop at_) limit).2.2) ∨
     (0 ≤ limit ∧ (urd (l.drop at_) limit).2.2 = 0 ∧ (l.length : Int) - (at_ + (urd (l.drop at_) limit).2.1 : Nat) < (urd (l.drop at_) limit).1 ∧ s = [] ∧ er = 41 ∧ at2 = at_) ∨
     (0 ≤ limit ∧ (urd (l.drop at_) limit).2.2 = 0 ∧ (urd (l.drop at_) limit).1 ≤ (l.length : Int) - (at_ + (urd (l.drop at_) limit).2.1 : Nat) ∧ er = 0 ∧
        s = (l.drop (at_ + (urd (l.drop at_) limit).2.1)).take (urd (l.drop at_) limit).1.toNat ∧ at2 = at_ + (urd (l.drop at_) limit).2.1 + (urd (l.drop at_) limit).1.toNat))
theorem text_rd {w1 : World} {g : Nat} {A : Option Addr} {l : List Int} {a2 c p q : Nat} {z : Int} (h : Rdr w1 g (.slice A l.length c) l a2) : Rd (((w1.drewN p).setCell ⟨g, 1, none⟩ (.int .i64 z)).drewN q) .u8 A l :=
  ((h.drewN p).own.chg ((Chg.refl (· = g) _).setg 1 (.int .i64 z)) (fun i hi e => h.ne (by rw [hi, e]))).rd rfl
theorem conv_str (W : World) (A : Option Addr) (m c : Nat) (l : List Int) (hm : m = l.length) (hr : Rd W .u8 A l) : (convert 29 9 (.slice A m c)).run Try.prog W = .ok (.string (strOf l)) W :=
  run_conv_str W 29 9 5 Try.underlying29 Try.underlying5 Try.underlying9 A m c l hm hr
theorem text_len {l : List Int} {a2 k : Nat} (hk : a2 + k ≤ l.length) : (↑a2 + ↑k : Int).toNat - a2 = ((l.drop a2).take k).length := by
  rw [List.length_take, List.length_drop]
  omega
theorem rtext_far {g : Nat} {v : Value} {l : List Int} {at_ n a2 k nq : Nat} {limit : Int} {w w1 : World} (h : Rdr w g v l at_) (hu : urd (l.drop at_) limit = (↑k, n, 0)) (hk : (l.length : Int) - ((at_ + n : Nat) : Int) < k) (h2 : a2 = at_ + n)
    (hr : Rdr w1 g v l a2) (hc : Chg (· = g) w w1) (hn : 0 ≤ limit := by omega) : RText g v l at_ limit w (.returned (.tuple #[.string { data := #[] }, .int .i64 41])) (((w1.drewN nq).setCell ⟨g, 1, none⟩ (.int .i64 at_))) := by
  refine ⟨[], at_, 41, rfl, (hr.drewN nq).move h.le, (hc.drewN nq).setg 1 _, .inr (.inr (.inl ⟨hn, by rw [hu], by rw [hu]; exact hk, rfl, rfl, rfl⟩))⟩
theorem rtext_ok {g : Nat} {v : Value} {l : List Int} {at_ n a2 k p q : Nat} {limit : Int} {w w1 : World} (hn : 0 ≤ limit) (hu : urd (l.drop at_) limit = (↑k, n, 0)) (hk : ¬ (l.length : Int) - ((at_ + n : Nat) : Int) < k) (h2 : a2 = at_ + n)
    (hr : Rdr w1 g v l a2) (hc : Chg (· = g) w w1) : RText g v l at_ limit w (.returned (.tuple #[.string (strOf ((l.drop a2).take k)), .int .i64 0])) ((((w1.drewN p).setCell ⟨g, 1, none⟩ (.int .i64 (↑a2 + ↑k)))).drewN q) := by
  subst h2
  have hz : ((at_ + n : Nat) : Int) + (k : Int) = ((at_ + n + k : Nat) : Int) := by omega
  rw [hz]
  refine ⟨(l.drop (at_ + n)).take k, at_ + n + k, 0, rfl, ((hr.drewN p).move (by omega)).drewN q, ((hc.drewN p).setg 1 _).drewN q, .inr (.inr (.inr ⟨hn, by rw [hu], by rw [hu]; simp only; omega, rfl, by rw [hu]; simp, by rw [hu]; simp⟩))⟩
end Go.Proofs.Ytlnomadhgoblkaa.Kit
-- The reader: Int; small list functions of the laws.
set_option linter.unusedVariables false
set_option linter.unusedSimpArgs false
set_option linter.unnecessarySimpa false
namespace Go.Proofs.Ytlnomadhgoblkaa.Kit
open Go.RowKit
theorem i64_wrap_small {x : Int} (h0 : -9223372036854775808 ≤ x) (h1 : x < 9223372036854775808) : IntKind.i64.wrap x = x := by
  simp [IntKind.wrap, IntKind.bits, IntKind.signed]
  split <;> omega
theorem xor_zero_i64 (x : Int) (h0 : 0 ≤ x) (h1 : x < 9223372036854775808) : Go.bits .xor .i64 x 0 = x := by
  obtain ⟨n, rfl⟩ := Int.eq_ofNat_of_zero_le h0
  have e : (BitVec.ofInt IntKind.i64.bits ((n : Nat) : Int) ^^^ BitVec.ofInt IntKind.i64.bits 0).toNat = n := by
    rw [show BitVec.ofInt IntKind.i64.bits 0 = 0#64 from rfl, BitVec.ofInt_natCast]
    show (BitVec.ofNat 64 n ^^^ 0#64).toNat = n
    rw [BitVec.xor_zero, BitVec.toNat_ofNat]
    omega
  unfold Go.bits
  simp only [e]
  exact i64_wrap_small (by omega) (by omega)
theorem bits_xor_comm (x y : Int) : Go.bits .xor .i64 x y = Go.bits .xor .i64 y x := by
  unfold Go.bits
  simp only
  rw [BitVec.xor_comm]
theorem take_next {l m : List Int} {k : Nat} (h : l.take k = m.take k) (h1 : k < l.length) (h2 : k < m.length) (he : l[k] = m[k]) : l.take (k + 1) = m.take (k + 1) := by
  rw [List.take_succ_eq_append_getElem h1, List.take_succ_eq_append_getElem h2, h, he]
theorem ret_bool {a b : Bool} (h : a = b) : Ending.returned (.bool a) = .returned (.bool b) := by rw [h]
/-- two lists of bytes, read -/
theorem sameBytes (A B : Option Addr) (c d : Nat) (l m : List Int) (w : World) (hl : l.length ≤ 281474976710656) (hr : Hid (Rd w .u8 A l)) (hm : Hid (Rd w .u8 B m)) :
    Calls Try.prog 24 #[.slice A l.length c, .slice B m.length d] w fun e w' => e = .returned (.bool (decide (l = m))) ∧ ∃ n, w' = w.drewN n := by
  by_cases he : l.length = m.length
  · have HE := Lib.hid he
    have e1 : ((l.length : Int) != (m.length : Int)) = false := by simp [he]
    have e2 : ((l.length : Int) == (m.length : Int)) = true := by simp [he]
    clear he
    go_enter Try.func24, Try.ntmps24
    go_wp2
    go_loopw [5] (fun i wr => ∃ k : Nat, k ≤ l.length ∧ i = .int .i64 k ∧ Hid (l.take k = m.take k) ∧ ∃ n, wr = w.drewN n) (fun i _ => l.length - (intOf i).toNat)
    case atStart => exact ⟨0, Nat.zero_le _, rfl, rfl, 0, rfl⟩
    case round =>
      obtain ⟨k, hk, rfl, ht, nd, rfl⟩ := hrel
      by_cases hlt : k < l.length
      · have hlt2 : k < m.length := by have := HE.out; omega
        obtain ⟨a1, rfl, hc1⟩ := hr.out k hlt
        obtain ⟨a2, rfl, hc2⟩ := hm.out k hlt2
        have b1 : (0 : Int) ≤ (k : Int) := by omega
        have b2 : (k : Int) < (l.length : Int) := by omega
        have b3 : (k : Int) < (m.length : Int) := by omega
        by_cases hq : l[k] = m[k]
        · have HQ := Lib.hid hq
          have hq' : (l[k] != m[k]) = false := by simp [hq]
          clear hq
          go_wp2_with fail
          go_quiet (fail)
          go_wp2
          go_roundw
          case rel => exact ⟨k + 1, by omega, by go_num, take_next ht.out hlt hlt2 HQ.out, _, rfl⟩
          case measure => simp [intOf]; omega
        · have HQ := Lib.hid hq
          have hq' : (l[k] != m[k]) = true := by simp [hq]
          clear hq
          go_wp2_with fail
          go_quiet (fail)
          go_wp2
          go_ret
          exact ⟨ret_bool (decide_eq_false (fun h => HQ.out (by subst h; rfl))).symm, _, World.drewN_drewN ..⟩
      · go_wp2
        go_ret
        refine ⟨ret_bool (decide_eq_true ?_).symm, _, rfl⟩
        have := ht.out
        rw [List.take_of_length_le (by omega), List.take_of_length_le (by have := HE.out; omega)] at this
        exact this
  · have e1 : ((l.length : Int) != (m.length : Int)) = true := by simp; omega
    have HE := Lib.hid he
    clear he
    go_enter Try.func24, Try.ntmps24
    go_wp2
    go_ret
    exact ⟨ret_bool (decide_eq_false (fun h => HE.out (by rw [h]))).symm, 0, rfl⟩
end Go.Proofs.Ytlnomadhgoblkaa.Kit
