/- Texts that the row leans on: OctL1, OctLaw, Secs, PlainK, PlainM, PlainJ. -/
import Derived.Test.YtlnomadhgoblkaaProg
import Derived.Test.YtlnomadhgoblkaaQJournalPairab
import Derived.Test.YtlnomadhgoblkaaQJournalPairac
import Derived.Test.YtlnomadhgoblkaaQJournalPairaa
import Derived.IntWalk
import Derived.Lib.Hide
import Derived.Deep.OwnRows
-- The walks of OctetSigned and OctetOnly.
set_option linter.unusedVariables false
set_option linter.unusedSimpArgs false
set_option linter.unnecessarySimpa false
namespace Go.Proofs.Ytlnomadhgoblkaa.Kit
open Go.RowKit
/-- what an append onto nil leaves -/
structure Made (w w1 : World) (A : Option Addr) (n c : Nat) (l : List Int) : Prop where
  len : n = l.length
  own : OwnB w1 (.slice A n c) l
  chg : Chg (fun _ => False) w w1
  new : ∀ k, Value.ownBlock (.slice A n c) = some k → w.heap.size ≤ k
  cap : n ≤ c
theorem Made.rd {w w1 : World} {A : Option Addr} {n c : Nat} {l : List Int} (h : Made w w1 A n c l) : Rd w1 .u8 A l := h.own.rd (by rw [h.len])
theorem made {w w1 : World} {v' : Value} {l : List Int} (h : OwnB w1 v' ([] ++ l)) (hc : Chg (fun g => Value.ownBlock (.slice none 0 0) = some g) w w1) (hf : Fresh w (.slice none 0 0) v') : ∃ A n c, v' = .slice A n c ∧ Made w w1 A n c l := by
  rw [List.nil_append] at h
  obtain ⟨A, c, rfl, hcap, _⟩ := h.slice
  exact ⟨A, _, c, rfl, rfl, h, hc.mono (fun i _ e => by simp [Value.ownBlock] at e), hf.ge (fun i e => by simp [Value.ownBlock] at e) (Nat.le_refl _), hcap⟩
theorem appendUintNil (x : Int) (w : World) (h0 : 0 ≤ x) (h1 : x < 18446744073709551616) :
    Calls Try.prog 21 #[.slice none 0 0, .int .u64 x] w fun e w' => ∃ A n c, e = .returned (.slice A n c) ∧ Made w w' A n c (vb x.toNat) :=
  (appendUint _ [] x w h0 (Own.nil _ _ _) (by have := vb_len10 (n := x.toNat) (by omega); simp; omega)).mono fun e w' ⟨v', he, h2, _, h4, h5⟩ => by
    obtain ⟨A, n, c, rfl, h⟩ := made h2 h4 h5
    exact ⟨A, n, c, he, h⟩
theorem first_of {w : World} {A : Option Addr} {l : List Int} (h : Rd w .u8 A l) (hp : 0 < l.length) : ∃ ad a s, A = some ad ∧ l = a :: s ∧ w.cell? ad = some (.int .u8 a) := by
  obtain ⟨ad, e, hc⟩ := h 0 hp
  match l, hp with
  | a :: s, _ => exact ⟨ad, a, s, e, rfl, by simpa [Addr.add] using hc⟩
theorem zz_pair (x : Int) (h0 : -9223372036854775808 ≤ x) (h1 : x ≤ 9223372036854775807) : (vb (zz x).toNat).length = (vb (zz (-1 - x)).toNat).length ∧ ∀ a b s t, vb (zz x).toNat = a :: s → vb (zz (-1 - x)).toNat = b :: t → (a % 2 == b % 2) = false := by
  have hlt : ∀ y, -9223372036854775808 ≤ y → y ≤ 9223372036854775807 → (zz y).toNat < 128 ^ (9 + 1) := fun y a b => Nat.lt_of_lt_of_le (zz_lt a b) (by decide)
  by_cases hx : 0 ≤ x
  · have e : (zz (-1 - x)).toNat = (zz x).toNat + 1 := by unfold zz; rw [if_pos hx]; split <;> omega
    have := vb_pair 9 (zz x).toNat (hlt x h0 h1) (by unfold zz; split <;> omega)
    rw [e]
    exact this
  · have e : (zz x).toNat = (zz (-1 - x)).toNat + 1 := by unfold zz; rw [if_neg hx]; split <;> omega
    have := vb_pair 9 (zz (-1 - x)).toNat (hlt _ (by omega) (by omega)) (by unfold zz; split <;> omega)
    rw [e]
    exact ⟨this.1.symm, fun a b s t ha hb => by
      have := this.2 b a t s hb ha
      rw [beq_eq_false_iff_ne] at this ⊢
      exact this.symm⟩
theorem newReader' {A : Option Addr} {n c : Nat} {l : List Int} {w : World} (hn : Hid (n = l.length)) (hl : Hid (l.length ≤ 140737488355328)) (hr : Hid (Rd w .u8 A l)) :
    Calls Try.prog 74 #[.slice A n c] w fun e w' => ∃ g v, e = .returned (.pointer (some ⟨g, 0, none⟩)) ∧ Rdr w' g v l 0 ∧ w.heap.size ≤ g ∧ (∀ k, v.ownBlock = some k → w.heap.size ≤ k) ∧ Chg (fun _ => False) w w' := by
  rw [hn.out]
  exact newReader A c l w hl hr
theorem uintTo {g : Nat} {v : Value} {l : List Int} {at_ a2 : Nat} {limit : Int} {w : World} {x er : Int} {n : Nat} (hu : Hid (urd (l.drop at_) limit = (x, n, er))) (ha : Hid (at_ + n = a2)) (h : Hid (Rdr w g v l at_)) :
    Calls Try.prog 75 #[.pointer (some ⟨g, 0, none⟩), .int .u64 limit] w fun e w' => e = .returned (.tuple #[.int .u64 x, .int .i64 er]) ∧ Rdr w' g v l a2 ∧ Chg (· = g) w w' := by
  have := uint' hu h
  rw [ha.out] at this
  exact this
theorem sameBytesW' {A B : Option Addr} {n m c d : Nat} {l k : List Int} {w : World} {b : Bool} (hn : Hid (n = l.length)) (hm : Hid (m = k.length)) (hl : Hid (l.length ≤ 281474976710656)) (hr : Hid (Rd w .u8 A l)) (hk : Hid (Rd w .u8 B k)) (hb : Hid (decide (l = k) = b)) :
    Calls Try.prog 24 #[.slice A n c, .slice B m d] w fun e w' => e = .returned (.bool b) ∧ ∃ n, w' = w.drewN n := by
  rw [hn.out, hm.out, ← hb.out]
  exact sameBytes A B c d l k w hl hr hk
theorem sameBytes' {A B : Option Addr} {n m c d : Nat} {l k : List Int} {w : World} {b : Bool} (hn : Hid (n = l.length)) (hm : Hid (m = k.length)) (hl : Hid (l.length ≤ 140737488355328)) (hr : Hid (Rd w .u8 A l)) (hk : Hid (Rd w .u8 B k)) (hb : Hid (decide (l = k) = b)) :
    Calls Try.prog 24 #[.slice A n c, .slice B m d] w fun e w' => e = .returned (.bool b) ∧ ∃ n, w' = w.drewN n :=
  sameBytesW' hn hm (Nat.le_trans hl.out (by decide)) hr hk hb
set_option maxHeartbeats 1600000 in
theorem octetOnlyTail (x y : Int) (hx0 : 0 ≤ x) (hx1 : x ≤ 18446744073709551615) (hy0 : 0 ≤ y) (hy1 : y ≤ 18446744073709551615) : (¬ (vb y.toNat).length < (vb x.toNat).length → decide (vb x.toNat = (vb y.toNat).take (vb x.toNat).length) = decide (x = y)) := by
  intro h
  by_cases he : x = y
  · subst he
    simp
  · rw [decide_eq_false he, decide_eq_false]
    intro h'
    have := vb_prefix (by omega) (by omega) h'
    omega
end Go.Proofs.Ytlnomadhgoblkaa.Kit
-- The laws' own helpers: hand, untouched; the document's writers: joined, Varint, Zigzag, AppendUint, AppendInt, AppendText.
set_option linter.unusedVariables false
set_option linter.unusedSimpArgs false
namespace Go.Proofs.Ytlnomadhgoblkaa.Kit
open Go.RowKit
/-- the marks behind a list that is handed in -/
def marks : List Int := (List.range 90).map fun i : Nat => (100 : Int) + (i : Int)
theorem marks_length : marks.length = 90 := by simp [marks]
theorem marks_get (i : Nat) (h : i < 90) : marks[i]'(by rw [marks_length]; exact h) = 100 + (i : Int) := by simp [marks]
theorem size1 : (Try.prog.info? 5).map (·.size) = some 1 := by kernel_rfl
theorem set_mark {m : List Int} {k : Nat} (hk : k < 90) (y : Int) (hy : y = 100 + (k : Int)) : (m ++ marks.take k ++ List.replicate (90 - k) 0).set (m.length + k) y = m ++ marks.take (k + 1) ++ List.replicate (90 - (k + 1)) 0 := by
  subst hy
  have h1 : (marks.take k).length = k := by rw [List.length_take, marks_length]; omega
  rw [List.set_append_right _ _ (by simp [h1]), show m.length + k - (m ++ marks.take k).length = 0 by simp [h1], show 90 - k = (90 - (k + 1)) + 1 by omega, List.replicate_succ, List.set_cons_zero,
    List.take_succ_eq_append_getElem (by rw [marks_length]; exact hk), marks_get k hk]
  simp
set_option maxHeartbeats 800000 in
theorem hand_start (m : List Int) : m ++ List.drop m.length (List.replicate (m.length + 90) (0 : Int)) = m ++ marks.take 0 ++ List.replicate (90 - 0) 0 := by
  rw [List.drop_replicate, List.take_zero, List.append_nil, Nat.add_sub_cancel_left]
set_option maxRecDepth 20000 in
theorem handW (A : Option Addr) (c : Nat) (m : List Int) (w : World) (hm : m.length ≤ 140738025226240) (hr : Hid (Rd w .u8 A m)) :
    Calls Try.prog 51 #[.slice A m.length c] w fun e w' => ∃ g, e = .returned (.slice (some ⟨g, 0, none⟩) (m.length + 90) (m.length + 90)) ∧ OwnB w' (.slice (some ⟨g, 0, none⟩) (m.length + 90) (m.length + 90)) (m ++ marks) ∧ w.heap.size ≤ g ∧ Chg (fun _ => False) w w' := by
  have hmk : ∀ W : World, (Instr.makeSlice 29 (.int .i64 ((m.length : Int) + 90)) (.int .i64 ((m.length : Int) + 90))).run Try.prog W = .ok (.slice (some ⟨W.heap.size, 0, none⟩) (m.length + 90) (m.length + 90)) (W.alloc (.cells (madeCells #[.int .u8 0] (m.length + 90)) 5)) := fun W => by
    have := run_make_row' (P := Try.prog) 29 5 (.int .u8 0) 1 Try.underlying29 infoU8 rfl .i64 .i64 (m.length + 90) (by omega) (by omega) W
    rw [show ((m.length + 90 : Nat) : Int) = (m.length : Int) + 90 by omega] at this
    exact this
  have hz : Own (w.alloc (.cells (madeCells #[.int .u8 0] (m.length + 90)) 5)) 5 .u8 (.slice (some ⟨w.heap.size, 0, none⟩) (m.length + 90) (m.length + 90)) (List.replicate (m.length + 90) 0) := Own.zeros w _ _ _ _ (Nat.le_refl _) (by simp only [maxLen]; omega)
  have HZ := Lib.hid hz
  clear hz
  go_enter Try.func51, Try.ntmps51
  go_wp2_with ((with_reducible refine gate_copy ?_); go_must (refine wp_copyn rfl _ _ 29 5 .u8 rfl Try.underlying29 size1 (.slice (some ⟨w.heap.size, 0, none⟩) (m.length + 90) (m.length + 90)) _ rfl HZ.out A m.length c m rfl rfl (hr.out.below (((Chg.refl (fun _ => False) w).alloc _).below (Nat.le_refl _) (fun _ h => h.elim))) (by simp) ?_); intro w1 k1 k2; have K1 := Lib.hid k1; have K2 := Lib.hid k2; clear k1 k2)
  go_loopw [4] (fun i wr => ∃ k : Nat, k ≤ 90 ∧ i = .int .i64 k ∧ Hid (OwnB wr (.slice (some ⟨w.heap.size, 0, none⟩) (m.length + 90) (m.length + 90)) (m ++ marks.take k ++ List.replicate (90 - k) 0)) ∧ Hid (Chg (fun _ => False) w wr)) (fun i _ => 90 - (intOf i).toNat)
  case atStart =>
    refine ⟨0, by omega, rfl, ?_, ((Chg.refl _ w).alloc _).trans K2.out (fun i hi e => by simp [Value.ownBlock] at e; omega)⟩
    have := K1.out
    rw [hand_start m] at this
    exact this
  case round =>
    obtain ⟨k, hk, rfl, ho, hc⟩ := hrel
    by_cases hlt : k < 90
    · have hll : (m ++ marks.take k ++ List.replicate (90 - k) 0).length = m.length + 90 := by
        simp [marks_length]
        omega
      obtain ⟨⟨y, hce⟩, hfr⟩ : (∃ y, wr.cell? ⟨w.heap.size, m.length + k, none⟩ = some y) ∧ wr.frozen? ⟨w.heap.size, m.length + k, none⟩ = false := by
        have := Own.cellAt ho.out (i := m.length + k) (by rw [hll]; omega)
        exact ⟨⟨_, this.1⟩, this.2⟩
      have HL := Lib.hid hll
      have q1 : (0 : Int) ≤ (m.length : Int) + (k : Int) := by omega
      have q2 : (m.length : Int) + (k : Int) < (m.length : Int) + 90 := by omega
      clear hll
      go_wp2
      go_roundw
      case rel =>
        refine ⟨k + 1, by omega, by go_num, ?_, hc.out.setCell (p := ⟨w.heap.size, m.length + k, none⟩) (fun h => absurd h (by simp)) _⟩
        have := ho.out.store (i := m.length + k) (by rw [HL.out]; omega) (100 + (k : Int))
        rw [set_mark hlt _ rfl] at this
        exact this
      case measure => simp [intOf]; omega
    · obtain rfl : k = 90 := by omega
      go_wp2
      go_ret
      have := ho.out
      rw [List.take_of_length_le (by rw [marks_length]; omega)] at this
      simp at this
      exact ⟨_, rfl, this, Nat.le_refl _, hc.out⟩
theorem hand (A : Option Addr) (c : Nat) (m : List Int) (w : World) (hm : m.length ≤ 140737488351232) (hr : Hid (Rd w .u8 A m)) :
    Calls Try.prog 51 #[.slice A m.length c] w fun e w' => ∃ g, e = .returned (.slice (some ⟨g, 0, none⟩) (m.length + 90) (m.length + 90)) ∧ OwnB w' (.slice (some ⟨g, 0, none⟩) (m.length + 90) (m.length + 90)) (m ++ marks) ∧ w.heap.size ≤ g ∧ Chg (fun _ => False) w w' :=
  handW A c m w (Nat.le_trans hm (by decide)) hr
theorem untouched_cases (l b : List Int) (hl : l.length = b.length + 90) : decide (l = b ++ marks) = (decide (l.drop b.length = marks) && decide (l.take b.length = b)) := by
  by_cases h : l = b ++ marks
  · subst h
    simp
  · rw [decide_eq_false h]
    symm
    rw [Bool.and_eq_false_iff]
    by_cases h1 : l.drop b.length = marks
    · right
      rw [decide_eq_false_iff_not]
      intro h2
      exact h (by rw [← h1]; conv => rhs; lhs; rw [← h2]
                  exact (List.take_append_drop _ _).symm)
    · left
      rw [decide_eq_false_iff_not]
      exact h1
set_option maxRecDepth 20000 in
theorem untouchedW (A B : Option Addr) (c d n m : Nat) (l b : List Int) (w : World) (hn : n = l.length) (hm : m = b.length) (hc : n ≤ c) (hl : l.length = b.length + 90) (hb : b.length ≤ 140738025226240) (hr : Hid (Rd w .u8 A l)) (hr2 : Hid (Rd w .u8 B b)) :
    Calls Try.prog 53 #[.slice A n c, .slice B m d] w fun e w' => e = .returned (.bool (decide (l = b ++ marks))) ∧ ∃ n, w' = w.drewN n := by
  subst hm
  obtain ⟨ad, rfl⟩ : ∃ ad, A = some ad := by
    obtain ⟨ad, h, _⟩ := hr.out 0 (by omega)
    exact ⟨ad, h⟩
  have HL := Lib.hid hl
  obtain rfl : n = b.length + 90 := by omega
  clear hl hn
  go_enter Try.func53, Try.ntmps53
  go_wp2
  go_loop [5] (fun i => ∃ k : Nat, k ≤ 90 ∧ i = .int .i64 k ∧ Hid ((l.drop b.length).take k = marks.take k)) (fun i => 90 - (intOf i).toNat)
  case atStart => exact ⟨0, by omega, rfl, rfl⟩
  case round =>
    obtain ⟨k, hk, rfl, ht⟩ := hrel
    by_cases hlt : k < 90
    · obtain ⟨ad', he, hce⟩ := hr.out (b.length + k) (by have := HL.out; omega)
      injection he with he
      subst he
      by_cases hq : l[b.length + k]'(by have := HL.out; omega) = 100 + (k : Int)
      · have HQ := Lib.hid hq
        rw [hq] at hce
        go_wp2
        go_round
        case rel =>
          refine ⟨k + 1, by omega, by go_num, ?_⟩
          have h1 : k < (l.drop b.length).length := by have := HL.out; simp; omega
          have := take_next ht.out h1 (by rw [marks_length]; exact hlt) (by rw [marks_get k hlt, List.getElem_drop]; exact HQ.out)
          exact this
        case measure => simp [intOf]; omega
      · obtain ⟨y, hy⟩ : ∃ y, y = l[b.length + k]'(by have := HL.out; omega) := ⟨_, rfl⟩
        rw [← hy] at hce hq
        have HY := Lib.hid hy
        clear hy
        have HQ := Lib.hid hq
        have hq' : (y != 100 + (k : Int)) = true := by simp [hq]
        clear hq
        go_wp2
        go_ret
        refine ⟨ret_bool (decide_eq_false fun h => HQ.out ?_).symm, 0, rfl⟩
        rw [HY.out]
        subst h
        rw [List.getElem_append_right (by omega)]
        have := marks_get k hlt
        simpa using this
    · obtain rfl : k = 90 := by omega
      have hdm : l.drop b.length = marks := by
        have := ht.out
        rw [List.take_of_length_le (by have := HL.out; simp; omega), List.take_of_length_le (by rw [marks_length]; omega)] at this
        exact this
      have hs : Hid (decide (l.take b.length = b) = decide (l = b ++ marks)) := by rw [Hid, untouched_cases l b HL.out, decide_eq_true hdm]; simp
      have q1 : (b.length : Int) ≤ (c : Int) := by omega
      have q2 : Hid (b.length = (l.take b.length).length) := by rw [Hid, List.length_take]; have := HL.out; omega
      have q3 : Hid ((l.take b.length).length ≤ 281474976710656) := by rw [Hid, ← q2.out]; omega
      have q4 : Hid (Rd w .u8 (some ad) (l.take b.length)) := hr.out.take _
      go_wp2_with (go_at_call 24; go_must (refine (sameBytesW' q2 (show Hid _ from rfl) q3 q4 hr2 hs).mono ?_); rintro e w4 ⟨rfl, nq, rfl⟩)
      go_ret
      exact ⟨rfl, _, rfl⟩
theorem untouched (A B : Option Addr) (c d n m : Nat) (l b : List Int) (w : World) (hn : n = l.length) (hm : m = b.length) (hc : n ≤ c) (hl : l.length = b.length + 90) (hb : b.length ≤ 140737488351232) (hr : Hid (Rd w .u8 A l)) (hr2 : Hid (Rd w .u8 B b)) :
    Calls Try.prog 53 #[.slice A n c, .slice B m d] w fun e w' => e = .returned (.bool (decide (l = b ++ marks))) ∧ ∃ n, w' = w.drewN n :=
  untouchedW A B c d n m l b w hn hm hc hl (Nat.le_trans hb (by decide)) hr hr2
/-- the document's joined: both, in new memory -/
theorem joined (A B : Option Addr) (c d n m : Nat) (a b : List Int) (w : World) (hn : Hid (n = a.length)) (hm : Hid (m = b.length)) (hl : Hid (a.length + b.length ≤ 140737488355328)) (hr : Hid (Rd w .u8 A a)) (hr2 : Hid (Rd w .u8 B b)) :
    Calls Try.prog 89 #[.slice A n c, .slice B m d] w fun e w' => ∃ A' n' c', e = .returned (.slice A' n' c') ∧ Made w w' A' n' c' (a ++ b) := by
  have bd : (n : Int) + (m : Int) ≤ 140737488355328 := by have := hn.out; have := hm.out; have := hl.out; omega
  have hmk : ∀ W : World, (Instr.makeSlice 29 (.int .i64 0) (.int .i64 ((n : Int) + (m : Int)))).run Try.prog W = .ok (.slice (some ⟨W.heap.size, 0, none⟩) 0 (n + m)) (W.alloc (.cells (madeCells #[.int .u8 0] (n + m)) 5)) := fun W => by
    obtain ⟨i0, hi, hz0, hz1, hz2⟩ := info_parts infoU8
    have h := run_make (P := Try.prog) W 29 5 i0 (.int .u8 0) Try.underlying29 hi hz0 .i64 .i64 0 ((n : Int) + (m : Int)) (by omega) (by omega) (by rw [hz2]; omega) (by omega)
    rw [show ((n : Int) + (m : Int)).toNat = n + m by omega, hz1, Nat.mul_one] at h
    exact h
  have hz : Hid (Own (w.alloc (.cells (madeCells #[.int .u8 0] (n + m)) 5)) 5 .u8 (.slice (some ⟨w.heap.size, 0, none⟩) 0 (n + m)) []) := Own.zeros w _ _ 0 _ (Nat.zero_le _) (by simp only [maxLen]; omega)
  have ch0 : Hid (Chg (fun _ => False) w (w.alloc (.cells (madeCells #[.int .u8 0] (n + m)) 5))) := (Chg.refl _ w).alloc _
  have hra : Hid (Rd (w.alloc (.cells (madeCells #[.int .u8 0] (n + m)) 5)) .u8 A a) := hr.out.below ch0.out.done
  go_enter Try.func89, Try.ntmps89
  go_wp2_with (first | (at_builtin; (refine wp_appn rfl (.tmp 12) (.tmp 13) 29 5 .u8 1 rfl Try.underlying29 infoU8 (by decide) (.slice (some ⟨w.heap.size, 0, none⟩) 0 (n + m)) [] rfl hz.out A c a n rfl hn.out hra.out (by have := hl.out; simp; omega) ?_); intro v1 w1 k1 k2 k3 k4; have K1 := Lib.hid k1; have K3 := Lib.hid (ch0.out.fresh k3 (blk_ge (Nat.le_refl _))); have K4 := Lib.hid (k4.ge (blk_ge (Nat.le_refl _)) (ch0.out.size)); clear k1 k2 k3 k4; have R2 := Lib.hid (hr2.out.below K3.out.done)) | (at_builtin; (refine wp_appn rfl (.tmp 15) (.tmp 16) 29 5 .u8 1 rfl Try.underlying29 infoU8 (by decide) v1 ([] ++ a) rfl K1.out B d b m rfl hm.out R2.out (by have := hl.out; simp; omega) ?_); intro v2 w2 k1 k2 k3 k4; obtain ⟨A2, c2, rfl, NL, _⟩ := k1.slice; have N1 := Lib.hid k1; have NC := Lib.hid (K3.out.fresh k3 K4.out); have NF := Lib.hid (k4.ge K4.out K3.out.size); clear k1 k2 k3 k4))
  go_ret
  rw [List.nil_append] at N1
  have h1 := N1.out
  rw [List.length_append] at h1
  exact ⟨_, _, _, rfl, by simp, h1, NC.out, by simpa using NF.out, by simpa using NL⟩
theorem varintRef (x : Int) (w : World) (hx : 0 ≤ x) (hx1 : x ≤ 18446744073709551615) :
    Calls Try.prog 82 #[.int .u64 x] w fun e w' => ∃ A n c, e = .returned (.slice A n c) ∧ Made w w' A n c (vb x.toNat) := by
  have HL : Hid ((vb x.toNat).length ≤ 140737488355328) := Nat.le_trans (vb_len10 (by omega)) (by decide)
  go_enter Try.func82, Try.ntmps82
  go_wp2
  go_loopw [0, 3] (fun q b wr => ∃ (pre : List Int) (y : Int), q = .int .u64 y ∧ 0 ≤ y ∧ y ≤ 18446744073709551615 ∧ Hid (pre ++ vb y.toNat = vb x.toNat) ∧ Hid (OwnB wr b pre) ∧ Hid (Chg (fun _ => False) w wr) ∧ Hid (Fresh w (.slice none 0 0) b)) (fun q _ _ => (intOf q).toNat)
  case atStart => exact ⟨[], x, rfl, hx, hx1, rfl, Own.nil _ _ _, Chg.refl _ _, .inl rfl⟩
  case round =>
    obtain ⟨pre, y, rfl, hy, hy1, h1, h2, h4, h5⟩ := hrel
    by_cases hlt : 128 ≤ y
    · have hb := Lib.hid (byte_more (y := y) (by omega))
      go_wp2_with (at_builtin; go_must (refine wp_app1 rfl _ _ 29 5 .u8 1 rfl Try.underlying29 infoU8 (by decide) u3 pre _ rfl h2.out rfl ?b1 ?_); (case b1 => have h := congrArg List.length h1.out; have := vb_pos y.toNat; simp at h; have := HL.out; omega); intro v' w1 k1 k2 k3 k4; have K1 := Lib.hid k1; have K3 := Lib.hid k3; have K4 := Lib.hid k4; clear k1 k2 k3 k4)
      go_roundw
      case rel =>
        refine ⟨_, y / 128, rfl, by omega, by omega, ?_, K1.out, ((h4.out.fresh K3.out (h5.out.ge (fun i e => by simp [Value.ownBlock] at e) (Nat.le_refl _)))), h5.out.trans K4.out h4.out.size⟩
        have h := h1.out
        rw [hb.out, Lib.u8_or128_any _ (by omega) (by omega), show y % 256 % 128 + 128 = y % 128 + 128 by omega] at h
        rw [List.append_assoc, List.singleton_append]
        exact h
      case measure => simp [intOf]; omega
    · go_wp2_with (at_builtin; go_must (refine wp_app1 rfl _ _ 29 5 .u8 1 rfl Try.underlying29 infoU8 (by decide) u3 pre _ rfl h2.out rfl ?b2 ?_); (case b2 => have h := congrArg List.length h1.out; have := vb_pos y.toNat; simp at h; have := HL.out; omega); intro v' w1 k1 k2 k3 k4; have K1 := Lib.hid k1; have K3 := Lib.hid k3; have K4 := Lib.hid k4; clear k1 k2 k3 k4)
      go_ret
      obtain ⟨A, n, c, rfl, hM⟩ := made (w := w) (l := pre ++ [y]) (show OwnB w1 v' ([] ++ (pre ++ [y])) from K1.out) ((h4.out.fresh K3.out (h5.out.ge (fun i e => by simp [Value.ownBlock] at e) (Nat.le_refl _))).mono (fun _ _ h => h.elim)) (h5.out.trans K4.out h4.out.size)
      refine ⟨A, n, c, rfl, ?_⟩
      rw [← byte_last hy (by omega), h1.out] at hM
      exact hM
theorem joined' {A B : Option Addr} {c d n m : Nat} {a b : List Int} {w : World} (hn : Hid (n = a.length)) (hm : Hid (m = b.length)) (hl : Hid (a.length + b.length ≤ 140737488355328)) (hr : Hid (Rd w .u8 A a)) (hr2 : Hid (Rd w .u8 B b)) :
    Calls Try.prog 89 #[.slice A n c, .slice B m d] w fun e w' => ∃ A' n' c', e = .returned (.slice A' n' c') ∧ Made w w' A' n' c' (a ++ b) := joined A B c d n m a b w hn hm hl hr hr2
end Go.Proofs.Ytlnomadhgoblkaa.Kit
-- Sections: what is written of them; lists of sections that are read.
set_option linter.unusedVariables false
set_option linter.unusedSimpArgs false
namespace Go.Proofs.Ytlnomadhgoblkaa.Kit
open Go.RowKit
/-- a section -/
structure SecV where
  id : Int
  body : List Int
def SecV.enc (x : SecV) : List Int := vb x.id.toNat ++ (vb x.body.length ++ x.body)
def secsEnc (l : List SecV) : List Int := l.flatMap SecV.enc
/-- the four bytes of a checksum -/
def sumB (c : Int) : List Int := [c % 256, c / 256 % 256, c / 65536 % 256, c / 16777216]
theorem sumB_length (c : Int) : (sumB c).length = 4 := rfl
theorem sumB_byt (c : Int) (h0 : 0 ≤ c) (h1 : c < 4294967296) : Byt (sumB c) := fun z hz => by
  simp [sumB] at hz
  omega
/-- the Ids rise, from beyond last on -/
def goodFrom : Int → List SecV → Bool
  | _, [] => true
  | last, x :: xs => decide (last < x.id) && (decide (x.id ≤ 255) && goodFrom x.id xs)
def goodSecs (l : List SecV) : Bool := decide (l.length ≤ 64) && goodFrom 0 l
/-- what stands ahead of the sum -/
def headOf (s : ByteArray) (l : List SecV) : List Int := bytesOf s ++ vb l.length ++ secsEnc l
/-- what Seal answers -/
def sealOf (s : ByteArray) (l : List SecV) : List Int × Int :=
  if s.size ≠ 8 then ([], 1) else if goodSecs l = true then (headOf s l ++ sumB (vi (crc (headOf s l))), 0) else ([], 45)
/-- a list of sections, read -/
structure SecAt (w : World) (ad : Addr) (i : Nat) (x : SecV) : Prop where
  id : w.cell? (ad.add (i * 2)) = some (.int .i64 x.id)
  body : ∃ A c, w.cell? ⟨(ad.add (i * 2)).block, (ad.add (i * 2)).off + 1, none⟩ = some (.slice A x.body.length c) ∧ x.body.length ≤ c ∧ c ≤ maxLen ∧ Rd w .u8 A x.body
  byt : Byt x.body
  rng : -9223372036854775808 ≤ x.id ∧ x.id ≤ 9223372036854775807
def RdSecs (w : World) (A : Option Addr) (l : List SecV) : Prop := ∀ i (h : i < l.length), ∃ ad, A = some ad ∧ SecAt w ad i l[i]
theorem SecAt.below {w w' : World} {ad : Addr} {i : Nat} {x : SecV} (h : SecAt w ad i x) (hb : Below w.heap.size w w') : SecAt w' ad i x := by
  have c : ∀ {p : Addr} {v : Value}, w.cell? p = some v → w'.cell? p = some v := fun hc => (hb.cell (World.block_lt_of_cell? w _ hc)).trans hc
  obtain ⟨A, d, h1, h2, h3, h4⟩ := h.body
  exact ⟨c h.id, ⟨A, d, c h1, h2, h3, h4.below hb⟩, h.byt, h.rng⟩
theorem RdSecs.below {w w' : World} {A : Option Addr} {l : List SecV} (h : RdSecs w A l) (hb : Below w.heap.size w w') : RdSecs w' A l := fun i hi => by
  obtain ⟨ad, h1, h2⟩ := h i hi
  exact ⟨ad, h1, h2.below hb⟩
theorem RdSecs.nil (w : World) (A : Option Addr) : RdSecs w A [] := fun i h => absurd h (by simp)
theorem secsEnc_succ (l : List SecV) (k : Nat) (h : k < l.length) : secsEnc (l.take (k + 1)) = secsEnc (l.take k) ++ l[k].enc := by
  unfold secsEnc
  rw [List.take_succ_eq_append_getElem h, List.flatMap_append, List.flatMap_singleton]
/-- the Id ahead of place k -/
def lastAt (l : List SecV) : Nat → Int
  | 0 => 0
  | k + 1 => (l[k]?.map SecV.id).getD 0
theorem good_step {l : List SecV} {k : Nat} (h : k < l.length) : goodFrom (lastAt l k) (l.drop k) = (decide (lastAt l k < l[k].id) && (decide (l[k].id ≤ 255) && goodFrom (lastAt l (k + 1)) (l.drop (k + 1)))) := by
  rw [List.drop_eq_getElem_cons h, show lastAt l (k + 1) = l[k].id by simp [lastAt, List.getElem?_eq_getElem h]]
  rfl
theorem good_all : ∀ (l : List SecV) (la : Int), 0 ≤ la → goodFrom la l = true → ∀ x ∈ l, 0 < x.id ∧ x.id ≤ 255
  | [], _, _, _ => fun x hx => absurd hx (by simp)
  | y :: ys, la, h0, h => fun x hx => by
    simp only [goodFrom, Bool.and_eq_true, decide_eq_true_eq] at h
    rcases List.mem_cons.1 hx with rfl | hx
    · exact ⟨by omega, h.2.1⟩
    · exact good_all ys y.id (by omega) h.2.2 x hx
theorem bytesOf_strOf {l : List Int} (hb : Byt l) : bytesOf (strOf l) = l := by
  unfold bytesOf strOf
  rw [strOfNums_data, List.map_map]
  conv => rhs; rw [← List.map_id l]
  refine List.map_congr_left fun x hx => ?_
  have := hb x hx
  simp
  omega
theorem strOf_size (l : List Int) : (strOf l).size = l.length := strOfNums_size l
theorem vb_len3 {n : Nat} (h : n < 256) : (vb n).length ≤ 10 := vb_len10 (by omega)
theorem enc_len_le (x : SecV) (hi : x.id ≤ 255) (hl : x.body.length ≤ 1099511627776) : x.enc.length ≤ x.body.length + 20 := by
  have h1 : (vb x.id.toNat).length ≤ 10 := vb_len10 (by omega)
  have h2 : (vb x.body.length).length ≤ 10 := vb_len10 (by omega)
  simp only [SecV.enc, List.length_append]
  omega
theorem secsEnc_take_len (l : List SecV) (B : Nat) (hl : ∀ x ∈ l, x.enc.length ≤ B) (k : Nat) : (secsEnc (l.take k)).length ≤ k * B := by
  induction k with
  | zero => simp [secsEnc]
  | succ k ih =>
    rw [Nat.add_mul, Nat.one_mul]
    by_cases h : k < l.length
    · rw [secsEnc_succ l k h, List.length_append]
      exact Nat.add_le_add ih (hl l[k] (List.getElem_mem h))
    · have h1 : l.take k = l := List.take_of_length_le (Nat.le_of_not_lt h)
      have h2 : l.take (k + 1) = l := List.take_of_length_le (Nat.le_succ_of_le (Nat.le_of_not_lt h))
      rw [h1] at ih
      rw [h2]
      exact Nat.le_trans ih (Nat.le_add_right _ _)
theorem secsEnc_le (l : List SecV) (k : Nat) : (secsEnc (l.take k)).length ≤ (secsEnc l).length := by
  unfold secsEnc
  conv => rhs; rw [← List.take_append_drop k l]
  rw [List.flatMap_append, List.length_append]
  omega
theorem headOf_length (s : ByteArray) (l : List SecV) : (headOf s l).length = s.size + (vb l.length).length + (secsEnc l).length := by
  simp [headOf, bytesOf_length]
  omega
theorem secsEnc_byt (l : List SecV) (h : ∀ x ∈ l, Byt x.body) : Byt (secsEnc l) := by
  intro z hz
  obtain ⟨x, hx, hz⟩ := List.mem_flatMap.1 hz
  unfold SecV.enc at hz
  rcases List.mem_append.1 hz with hz | hz
  · exact vb_byt _ z hz
  · rcases List.mem_append.1 hz with hz | hz
    · exact vb_byt _ z hz
    · exact h x hx z hz
theorem bytesOf_byt' (s : ByteArray) : Byt (bytesOf s) := by
  intro z hz
  obtain ⟨b, _, rfl⟩ := List.mem_map.1 hz
  have := b.toNat_lt
  omega
theorem headOf_byt (s : ByteArray) (l : List SecV) (h : ∀ x ∈ l, Byt x.body) : Byt (headOf s l) := by
  intro z hz
  rcases List.mem_append.1 hz with hz | hz
  · rcases List.mem_append.1 hz with hz | hz
    · exact bytesOf_byt' s z hz
    · exact vb_byt _ z hz
  · exact secsEnc_byt l h z hz
theorem made0 (w : World) : Made w w none 0 0 [] := ⟨rfl, Own.nil _ _ _, Chg.refl _ _, fun k h => by simp [Value.ownBlock] at h, Nat.le_refl _⟩
end Go.Proofs.Ytlnomadhgoblkaa.Kit
-- The checksum finds every burst of at most 32 bits: the register, bit by bit.
set_option linter.unusedVariables false
set_option linter.unusedSimpArgs false
namespace Go.Proofs.Ytlnomadhgoblkaa.Kit
open Go.RowKit
/-- the register behind n bits -/
def reg (f : Nat → Bool) (x : V32) : Nat → V32
  | 0 => x
  | n + 1 => rstep (reg f x n) (f n)
theorem rstep_xor (x y : V32) (a b : Bool) : rstep (x ^^^ y) (a ^^ b) = rstep x a ^^^ rstep y b := by
  unfold rstep
  rw [BitVec.ushiftRight_xor_distrib, BitVec.getLsbD_xor]
  have : (x.getLsbD 0 ^^ y.getLsbD 0 ^^ (a ^^ b)) = ((x.getLsbD 0 ^^ a) ^^ (y.getLsbD 0 ^^ b)) := by
    cases x.getLsbD 0 <;> cases y.getLsbD 0 <;> cases a <;> cases b <;> rfl
  rw [this, pol_xor]
  ac_rfl
theorem rstep_false (x : V32) : rstep x false = hv x := by rw [rstep, hv_eq, Bool.xor_false]
theorem reg_congr {f g : Nat → Bool} {x : V32} : ∀ n, (∀ i, i < n → f i = g i) → reg f x n = reg g x n
  | 0, _ => rfl
  | n + 1, h => by
    rw [reg, reg, reg_congr n (fun i hi => h i (by omega)), h n (by omega)]
theorem reg_xor (f g : Nat → Bool) (x y : V32) : ∀ n, reg f x n ^^^ reg g y n = reg (fun i => f i ^^ g i) (x ^^^ y) n
  | 0 => rfl
  | n + 1 => by
    show rstep (reg f x n) (f n) ^^^ rstep (reg g y n) (g n) = rstep (reg _ _ n) (f n ^^ g n)
    rw [← rstep_xor, reg_xor f g x y n]
theorem reg_add (f : Nat → Bool) (x : V32) (a : Nat) : ∀ b, reg f x (a + b) = reg (fun i => f (a + i)) (reg f x a) b
  | 0 => rfl
  | b + 1 => by
    show rstep (reg f x (a + b)) (f (a + b)) = rstep (reg _ _ b) (f (a + b))
    rw [reg_add f x a b]
theorem reg_refN (C x : V32) : ∀ n, reg C.getLsbD x n = refN x C n
  | 0 => rfl
  | n + 1 => by
    rw [reg, refN, reg_refN C x n]
theorem reg_zeros (x : V32) : ∀ n, reg (fun _ => false) x n = hN n x
  | 0 => rfl
  | n + 1 => by
    rw [reg, reg_zeros x n, rstep_false]
    rfl
theorem hN_zero : ∀ n, hN n 0#32 = 0#32
  | 0 => rfl
  | n + 1 => by
    rw [hN, hN_zero n]
    decide
theorem hv_ne {x : V32} (h : x ≠ 0#32) : hv x ≠ 0#32 := by
  intro e
  apply h
  rw [hv_eq] at e
  have h0 : x.getLsbD 0 = false := by
    have h31 := congrArg (fun z : V32 => z.getLsbD 31) e
    simp only [BitVec.getLsbD_xor, BitVec.getLsbD_ushiftRight] at h31
    have h32 : x.getLsbD (1 + 31) = false := BitVec.getLsbD_of_ge x _ (by omega)
    rw [h32] at h31
    cases hx : x.getLsbD 0
    · rfl
    · rw [hx] at h31
      exact absurd h31 (by decide)
  rw [h0] at e
  have e2 : x >>> 1 = 0#32 := by simpa [pol] using e
  apply BitVec.eq_of_getLsbD_eq
  intro i hi
  rcases i with _ | i
  · rw [h0]
    simp
  · have := congrArg (fun z : V32 => z.getLsbD i) e2
    simp only [BitVec.getLsbD_ushiftRight, BitVec.getLsbD_zero] at this
    rw [Nat.add_comm] at this
    rw [this]
    simp
theorem hN_ne {x : V32} (h : x ≠ 0#32) : ∀ n, hN n x ≠ 0#32
  | 0 => h
  | n + 1 => hv_ne (hN_ne h n)
/-- m bits of T, not all 0, leave the register turned -/
theorem reg_burst (T : V32) (m : Nat) (h : ∃ i, i < m ∧ T.getLsbD i = true) : reg T.getLsbD 0#32 m ≠ 0#32 := by
  have h1 := refN_inv 0#32 T m
  rw [BitVec.zero_xor] at h1
  have h2 : T = (T ^^^ ((T >>> m) <<< m)) ^^^ ((T >>> m) <<< m) := by
    rw [BitVec.xor_assoc, BitVec.xor_self, BitVec.xor_zero]
  have h3 : hN m ((T >>> m) <<< m) = T >>> m := by
    rw [hN_even m _ (fun i hi => by
      rw [BitVec.getLsbD_shiftLeft]
      simp [hi])]
    apply BitVec.eq_of_getLsbD_eq
    intro i hi
    simp only [BitVec.getLsbD_ushiftRight, BitVec.getLsbD_shiftLeft]
    by_cases hmi : m + i < 32
    · simp [hmi]
    · have h0 : T.getLsbD (m + i) = false := BitVec.getLsbD_of_ge T (m + i) (by omega)
      simp [h0]
  rw [reg_refN]
  have h4 : refN 0#32 T m = hN m (T ^^^ ((T >>> m) <<< m)) := by
    have h5 : hN m T = hN m (T ^^^ ((T >>> m) <<< m)) ^^^ T >>> m := by
      conv => lhs; rw [h2, hN_xor, h3]
    rw [h5] at h1
    have h6 := congrArg (fun z => z ^^^ T >>> m) h1
    simp only [BitVec.xor_assoc, BitVec.xor_self, BitVec.xor_zero] at h6
    exact h6
  rw [h4]
  apply hN_ne
  obtain ⟨i, hi, hT⟩ := h
  intro e
  have := congrArg (fun z : V32 => z.getLsbD i) e
  simp only [BitVec.getLsbD_xor, BitVec.getLsbD_shiftLeft, BitVec.getLsbD_zero, hT] at this
  simp [hi] at this
/-! ## the bits of a list of bytes -/
def bitAt (l : List Int) (j : Nat) : Bool := (BitVec.ofInt 32 (l.getD (j / 8) 0)).getLsbD (j % 8)
theorem reg_crc {l : List Int} (hb : Byt l) (x : V32) : ∀ k, k ≤ l.length → reg (bitAt l) x (8 * k) = (l.take k).foldl crcB x
  | 0, _ => by simp [reg]
  | k + 1, hk => by
    have hkl : k < l.length := by omega
    rw [show 8 * (k + 1) = 8 * k + 8 by omega, reg_add, reg_crc hb x k (by omega), List.take_succ_eq_append_getElem hkl, List.foldl_append, List.foldl_cons, List.foldl_nil]
    have hc := hb l[k] (List.getElem_mem hkl)
    rw [← refN_crcB _ hc.1 hc.2, ← reg_refN]
    apply reg_congr
    intro i hi
    unfold bitAt
    rw [show (8 * k + i) / 8 = k by omega, show (8 * k + i) % 8 = i by omega, List.getD_eq_getElem?_getD, List.getElem?_eq_getElem hkl]
    rfl
/-- two lists that differ in some of 32 neighbouring bits alone -/
theorem crc_burst {B B' : List Int} (hb : Byt B) (hb' : Byt B') (hlen : B.length = B'.length) (x : V32) (frm m : Nat) (T : V32) (hm : frm + m ≤ 8 * B.length) (h1 : ∀ i, i < frm → bitAt B i = bitAt B' i)
    (h2 : ∀ i, i < m → (bitAt B (frm + i) ^^ bitAt B' (frm + i)) = T.getLsbD i) (h3 : ∀ i, frm + m ≤ i → i < 8 * B.length → bitAt B i = bitAt B' i) (hT : ∃ i, i < m ∧ T.getLsbD i = true) : B.foldl crcB x ≠ B'.foldl crcB x := by
  intro e
  have e1 := reg_crc hb x B.length (Nat.le_refl _)
  have e2 := reg_crc hb' x B'.length (Nat.le_refl _)
  rw [List.take_length] at e1 e2
  have hx := reg_xor (bitAt B) (bitAt B') x x (8 * B.length)
  rw [e1, hlen, e2, e, BitVec.xor_self, BitVec.xor_self, ← hlen] at hx
  have key : reg (fun i => bitAt B i ^^ bitAt B' i) 0#32 (8 * B.length) ≠ 0#32 := by
    rw [show 8 * B.length = frm + (m + (8 * B.length - frm - m)) by omega, reg_add, reg_add]
    rw [reg_congr (g := fun _ => false) frm (fun i hi => by simp [h1 i hi]), reg_zeros, hN_zero]
    rw [reg_congr (g := T.getLsbD) m (fun i hi => h2 i hi)]
    rw [reg_congr (g := fun _ => false) (8 * B.length - frm - m) (fun i hi => by
      have := h3 (frm + (m + i)) (by omega) (by omega)
      simp [this]), reg_zeros]
    exact hN_ne (reg_burst T m hT) _
  exact key hx.symm
/-- behind its own sum the register is the same for all -/
theorem sumB_bits (C : V32) (i : Nat) (hi : i < 32) : bitAt (sumB (vi C)) i = C.getLsbD i := by
  have hn : ∀ (k : Nat) (z : Int), z = ((C.toNat / 2 ^ (8 * k) % 256 : Nat) : Int) → ∀ j, j < 8 → (BitVec.ofInt 32 z).getLsbD j = C.getLsbD (8 * k + j) := by
    intro k z hz j hj
    subst hz
    rw [BitVec.ofInt_natCast, BitVec.getLsbD_ofNat, BitVec.getLsbD, Nat.testBit_mod_two_pow (x := C.toNat / 2 ^ (8 * k)) (j := 8) (i := j)]
    rw [Nat.testBit_div_two_pow]
    rw [decide_eq_true hj, decide_eq_true (p := j < 32) (by omega), Bool.true_and, Bool.true_and, Nat.add_comm]
  have hC := C.isLt
  unfold bitAt sumB vi
  rcases (by omega : i / 8 = 0 ∨ i / 8 = 1 ∨ i / 8 = 2 ∨ i / 8 = 3) with h | h | h | h
  · rw [h]
    rw [show (([(C.toNat : Int) % 256, (C.toNat : Int) / 256 % 256, (C.toNat : Int) / 65536 % 256, (C.toNat : Int) / 16777216] : List Int).getD 0 0) = (C.toNat : Int) % 256 from rfl]
    rw [hn 0 _ (by simp) (i % 8) (by omega)]
    congr 1
    omega
  · rw [h]
    rw [show (([(C.toNat : Int) % 256, (C.toNat : Int) / 256 % 256, (C.toNat : Int) / 65536 % 256, (C.toNat : Int) / 16777216] : List Int).getD 1 0) = (C.toNat : Int) / 256 % 256 from rfl]
    rw [hn 1 _ (by simp) (i % 8) (by omega)]
    congr 1
    omega
  · rw [h]
    rw [show (([(C.toNat : Int) % 256, (C.toNat : Int) / 256 % 256, (C.toNat : Int) / 65536 % 256, (C.toNat : Int) / 16777216] : List Int).getD 2 0) = (C.toNat : Int) / 65536 % 256 from rfl]
    rw [hn 2 _ (by simp) (i % 8) (by omega)]
    congr 1
    omega
  · rw [h]
    rw [show (([(C.toNat : Int) % 256, (C.toNat : Int) / 256 % 256, (C.toNat : Int) / 65536 % 256, (C.toNat : Int) / 16777216] : List Int).getD 3 0) = (C.toNat : Int) / 16777216 from rfl]
    rw [hn 3 _ (by simp; omega) (i % 8) (by omega)]
    congr 1
    omega
theorem crc_code (H : List Int) (hb : Byt H) : (H ++ sumB (vi (crc H))).foldl crcB 0xFFFFFFFF#32 = hN 32 0xFFFFFFFF#32 := by
  rw [List.foldl_append]
  have hr : H.foldl crcB 0xFFFFFFFF#32 = crcUp H := rfl
  rw [hr]
  have hs := sumB_byt (vi (crc H)) (vi_nonneg _) (vi_lt _)
  have h1 := reg_crc hs (crcUp H) 4 (by rw [sumB_length]; omega)
  rw [List.take_of_length_le (by rw [sumB_length]; omega)] at h1
  rw [← h1, reg_congr (g := (crc H).getLsbD) (8 * 4) (fun i hi => sumB_bits (crc H) i (by omega)), reg_refN]
  have h2 := refN_inv (crcUp H) (crc H) 32
  have h3 : crc H >>> 32 = 0#32 := by
    apply BitVec.eq_of_getLsbD_eq
    intro i hi
    rw [BitVec.getLsbD_ushiftRight, BitVec.getLsbD_of_ge _ _ (by omega)]
    simp
  rw [h3, BitVec.xor_zero] at h2
  rw [show 8 * 4 = 32 from rfl, h2, crc]
  congr 1
  apply BitVec.eq_of_getLsbD_eq
  intro i hi
  rw [BitVec.getLsbD_xor, BitVec.getLsbD_not, show (4294967295#32 : V32) = BitVec.allOnes 32 by decide, BitVec.getLsbD_allOnes]
  simp [hi]
end Go.Proofs.Ytlnomadhgoblkaa.Kit
-- Lists of bytes.
set_option linter.unusedVariables false
set_option linter.unusedSimpArgs false
namespace Go.Proofs.Ytlnomadhgoblkaa.Kit
open Go.RowKit
theorem byt_app {a b : List Int} (h : Byt (a ++ b)) : Byt a ∧ Byt b := ⟨fun z hz => h z (List.mem_append_left _ hz), fun z hz => h z (List.mem_append_right _ hz)⟩
theorem byt_mk {a b : List Int} (h : Byt a) (k : Byt b) : Byt (a ++ b) := fun z hz => by
  rcases List.mem_append.1 hz with hz | hz
  · exact h z hz
  · exact k z hz
theorem byt_drop {a : List Int} (h : Byt a) (n : Nat) : Byt (a.drop n) := fun z hz => h z (List.mem_of_mem_drop hz)
theorem byt_take {a : List Int} (h : Byt a) (n : Nat) : Byt (a.take n) := fun z hz => h z (List.mem_of_mem_take hz)
end Go.Proofs.Ytlnomadhgoblkaa.Kit
-- The journal, plainly: a record's bytes; what is read of any bytes.
set_option linter.unusedVariables false
set_option linter.unusedSimpArgs false
namespace Go.Proofs.Ytlnomadhgoblkaa.Kit
open Go.RowKit
/-- a record's bytes ahead of its sum; its bytes -/
def recHd (n : Nat) (x : SecV) : List Int := 167 :: (vb n ++ (x.id :: (vb x.body.length ++ x.body)))
def recEnc (n : Nat) (x : SecV) : List Int := recHd n x ++ sumB (vi (crc (recHd n x)))
def jnlFrom : Nat → List SecV → List Int
  | _, [] => []
  | n, x :: xs => recEnc n x ++ jnlFrom (n + 1) xs
/-- may the record be appended? -/
def GoodRec (x : SecV) : Prop := 1 ≤ x.id ∧ x.id ≤ 255 ∧ x.body.length ≤ 4194304 ∧ Byt x.body
theorem recHd_byt {n : Nat} {x : SecV} (h : GoodRec x) : Byt (recHd n x) := fun z hz => by
  rcases List.mem_cons.1 hz with rfl | hz
  · omega
  · rcases List.mem_append.1 hz with hz | hz
    · exact vb_byt _ z hz
    · rcases List.mem_cons.1 hz with rfl | hz
      · have := h.1
        have := h.2.1
        omega
      · rcases List.mem_append.1 hz with hz | hz
        · exact vb_byt _ z hz
        · exact h.2.2.2 z hz
theorem recEnc_byt {n : Nat} {x : SecV} (h : GoodRec x) : Byt (recEnc n x) := byt_mk (recHd_byt h) (sumB_byt _ (vi_nonneg _) (vi_lt _))
theorem recHd_length (n : Nat) (x : SecV) : (recHd n x).length = 2 + (vb n).length + (vb x.body.length).length + x.body.length := by
  simp [recHd]
  omega
theorem recEnc_length (n : Nat) (x : SecV) : (recEnc n x).length = (recHd n x).length + 4 := by rw [recEnc, List.length_append, sumB_length]
theorem jnlFrom_byt : ∀ (l : List SecV) (n : Nat), (∀ x ∈ l, GoodRec x) → Byt (jnlFrom n l)
  | [], n, _ => fun z hz => by simp [jnlFrom] at hz
  | x :: xs, n, h => byt_mk (recEnc_byt (h x (by simp))) (jnlFrom_byt xs (n + 1) (fun y hy => h y (by simp [hy])))
theorem jnlFrom_app : ∀ (l m : List SecV) (n : Nat), jnlFrom n (l ++ m) = jnlFrom n l ++ jnlFrom (n + l.length) m
  | [], m, n => by simp [jnlFrom]
  | x :: xs, m, n => by
    rw [List.cons_append, jnlFrom, jnlFrom, jnlFrom_app xs m (n + 1), List.append_assoc, List.length_cons, show n + 1 + xs.length = n + (xs.length + 1) by omega]
theorem jnlFrom_snoc (l : List SecV) (x : SecV) (n : Nat) : jnlFrom n (l ++ [x]) = jnlFrom n l ++ recEnc (n + l.length) x := by
  rw [jnlFrom_app, jnlFrom, jnlFrom, List.append_nil]
/-- the record that stands whole at the beginning; how many bytes it has -/
def recRd (l : List Int) (n : Nat) : Option (SecV × Nat) :=
  if l[0]? = some 167 then
    if (urd (l.drop 1) n).2.2 ≠ 0 ∨ (urd (l.drop 1) n).1 ≠ n then none
    else match l[1 + (urd (l.drop 1) n).2.1]? with
      | none => none
      | some kd => if kd = 0 then none
        else if (urd (l.drop (2 + (urd (l.drop 1) n).2.1)) 4194304).2.2 ≠ 0 then none
        else if l.length < 2 + (urd (l.drop 1) n).2.1 + (urd (l.drop (2 + (urd (l.drop 1) n).2.1)) 4194304).2.1 + (urd (l.drop (2 + (urd (l.drop 1) n).2.1)) 4194304).1.toNat + 4 then none
        else if (l.drop (2 + (urd (l.drop 1) n).2.1 + (urd (l.drop (2 + (urd (l.drop 1) n).2.1)) 4194304).2.1 + (urd (l.drop (2 + (urd (l.drop 1) n).2.1)) 4194304).1.toNat)).take 4 = sumB (vi (crc (l.take (2 + (urd (l.drop 1) n).2.1 + (urd (l.drop (2 + (urd (l.drop 1) n).2.1)) 4194304).2.1 + (urd (l.drop (2 + (urd (l.drop 1) n).2.1)) 4194304).1.toNat))))
        then some (⟨kd, (l.drop (2 + (urd (l.drop 1) n).2.1 + (urd (l.drop (2 + (urd (l.drop 1) n).2.1)) 4194304).2.1)).take (urd (l.drop (2 + (urd (l.drop 1) n).2.1)) 4194304).1.toNat⟩, 2 + (urd (l.drop 1) n).2.1 + (urd (l.drop (2 + (urd (l.drop 1) n).2.1)) 4194304).2.1 + (urd (l.drop (2 + (urd (l.drop 1) n).2.1)) 4194304).1.toNat + 4)
        else none
  else none
section
variable {l : List Int} {n k k2 : Nat} {x z e e2 kd : Int}
theorem recRd_1 (h : l[0]? ≠ some 167) : recRd l n = none := by rw [recRd, if_neg h]
theorem recRd_2 (hu : urd (l.drop 1) n = (x, k, e)) (he : e ≠ 0 ∨ x ≠ n) : recRd l n = none := by
  unfold recRd
  split
  · rw [hu, if_pos he]
  · rfl
theorem recRd_3 (hu : urd (l.drop 1) n = (x, k, 0)) (hk : l[1 + k]? = none ∨ l[1 + k]? = some 0) : recRd l n = none := by
  unfold recRd
  split
  · rw [hu]
    split
    · rfl
    · rcases hk with hk | hk
      · simp only [hk]
      · simp only [hk]
        rfl
  · rfl
theorem recRd_4 (hu : urd (l.drop 1) n = (x, k, 0)) (hv : urd (l.drop (2 + k)) 4194304 = (z, k2, e2)) (he : e2 ≠ 0) : recRd l n = none := by
  unfold recRd
  split
  · rw [hu]
    split
    · rfl
    · split
      · rfl
      · split
        · rfl
        · simp only [hv]
          rw [if_pos he]
  · rfl
theorem recRd_5 (hu : urd (l.drop 1) n = (x, k, 0)) (hv : urd (l.drop (2 + k)) 4194304 = (z, k2, 0)) (hl : l.length < 2 + k + k2 + z.toNat + 4) : recRd l n = none := by
  unfold recRd
  split
  · rw [hu]
    split
    · rfl
    · split
      · rfl
      · split
        · rfl
        · simp only [hv]
          rw [if_neg (by simp), if_pos hl]
  · rfl
theorem recRd_6 (hu : urd (l.drop 1) n = (x, k, 0)) (hv : urd (l.drop (2 + k)) 4194304 = (z, k2, 0)) (hs : (l.drop (2 + k + k2 + z.toNat)).take 4 ≠ sumB (vi (crc (l.take (2 + k + k2 + z.toNat))))) : recRd l n = none := by
  unfold recRd
  split
  · rw [hu]
    split
    · rfl
    · split
      · rfl
      · split
        · rfl
        · simp only [hv]
          split
          · rfl
          · split
            · rfl
            · first | rw [if_neg hs] | rfl
  · rfl
theorem recRd_ok (h0 : l[0]? = some 167) (hu : urd (l.drop 1) n = ((n : Int), k, 0)) (hk : l[1 + k]? = some kd) (hkd : kd ≠ 0) (hv : urd (l.drop (2 + k)) 4194304 = (z, k2, 0)) (hl : ¬ l.length < 2 + k + k2 + z.toNat + 4) (hs : (l.drop (2 + k + k2 + z.toNat)).take 4 = sumB (vi (crc (l.take (2 + k + k2 + z.toNat))))) :
    recRd l n = some (⟨kd, (l.drop (2 + k + k2)).take z.toNat⟩, 2 + k + k2 + z.toNat + 4) := by
  unfold recRd
  rw [if_pos h0, hu, if_neg (by simp)]
  simp only [hk, hv]
  rw [if_neg hkd, if_neg (by simp), if_neg hl, if_pos hs]
theorem recRd_cases (hb : Byt l) : recRd l n = none ∨ ∃ kd k k2 z, l[0]? = some 167 ∧ urd (l.drop 1) n = ((n : Int), k, 0) ∧ l[1 + k]? = some kd ∧ kd ≠ 0 ∧ urd (l.drop (2 + k)) 4194304 = (z, k2, 0) ∧ ¬ l.length < 2 + k + k2 + z.toNat + 4 ∧ (l.drop (2 + k + k2 + z.toNat)).take 4 = sumB (vi (crc (l.take (2 + k + k2 + z.toNat)))) := by
  by_cases h0 : l[0]? = some 167
  · obtain ⟨x, k, e, hu⟩ : ∃ x k e, urd (l.drop 1) n = (x, k, e) := ⟨_, _, _, rfl⟩
    by_cases he : e ≠ 0 ∨ x ≠ n
    · exact .inl (recRd_2 hu he)
    · have he0 : e = 0 := by omega
      have hx0 : x = n := by omega
      subst he0 hx0
      cases hk : l[1 + k]? with
      | none => exact .inl (recRd_3 hu (.inl hk))
      | some kd =>
        by_cases hkd : kd = 0
        · subst hkd
          exact .inl (recRd_3 hu (.inr hk))
        · obtain ⟨z, k2, e2, hv⟩ : ∃ x k' e, urd (l.drop (2 + k)) 4194304 = (x, k', e) := ⟨_, _, _, rfl⟩
          by_cases he2 : e2 = 0
          · subst he2
            by_cases hl : l.length < 2 + k + k2 + z.toNat + 4
            · exact .inl (recRd_5 hu hv hl)
            · by_cases hs : (l.drop (2 + k + k2 + z.toNat)).take 4 = sumB (vi (crc (l.take (2 + k + k2 + z.toNat))))
              · exact .inr ⟨kd, k, k2, z, h0, hu, hk, hkd, hv, hl, hs⟩
              · exact .inl (recRd_6 hu hv hs)
          · exact .inl (recRd_4 hu hv he2)
  · exact .inl (recRd_1 h0)
end
/-- what is read of a record's own bytes -/
theorem recRd_enc {n : Nat} {x : SecV} {rest : List Int} (h : GoodRec x) (hn : n < 18446744073709551616) (hr : Byt rest) : recRd (recEnc n x ++ rest) n = some (x, (recEnc n x).length) := by
  obtain ⟨L, hL⟩ : ∃ L, L = recEnc n x ++ rest := ⟨_, rfl⟩
  rw [← hL]
  have e0 : L = 167 :: (vb n ++ (x.id :: (vb x.body.length ++ (x.body ++ (sumB (vi (crc (recHd n x))) ++ rest))))) := by
    rw [hL, recEnc, recHd]
    simp only [List.append_assoc, List.cons_append]
  have hb : Byt L := by
    rw [hL]
    exact byt_mk (recEnc_byt h) hr
  have hb1 : Byt (vb n ++ (x.id :: (vb x.body.length ++ (x.body ++ (sumB (vi (crc (recHd n x))) ++ rest))))) := fun z hz => hb z (by rw [e0]; simp [hz])
  have d1 : L.drop 1 = vb n ++ (x.id :: (vb x.body.length ++ (x.body ++ (sumB (vi (crc (recHd n x))) ++ rest)))) := by rw [e0]; rfl
  have hu : urd (L.drop 1) n = ((n : Int), (vb n).length, 0) := by
    rw [d1]
    exact urd_vb hn (Int.le_refl _) (byt_app hb1).2
  have d2 : L.drop (1 + (vb n).length) = x.id :: (vb x.body.length ++ (x.body ++ (sumB (vi (crc (recHd n x))) ++ rest))) := by
    rw [← List.drop_drop, d1, List.drop_left]
  have hk : L[1 + (vb n).length]? = some x.id := by
    have := congrArg (·[0]?) d2
    simpa [List.getElem?_drop] using this
  have d3 : L.drop (2 + (vb n).length) = vb x.body.length ++ (x.body ++ (sumB (vi (crc (recHd n x))) ++ rest)) := by
    rw [show 2 + (vb n).length = 1 + (vb n).length + 1 by omega, ← List.drop_drop, d2]
    rfl
  have hb3 : Byt (vb x.body.length ++ (x.body ++ (sumB (vi (crc (recHd n x))) ++ rest))) := by rw [← d3]; exact byt_drop hb _
  have hv : urd (L.drop (2 + (vb n).length)) 4194304 = (((x.body.length : Nat) : Int), (vb x.body.length).length, 0) := by
    rw [d3]
    have := h.2.2.1
    exact urd_vb (by omega) (by omega) (byt_app hb3).2
  have d4 : L.drop (2 + (vb n).length + (vb x.body.length).length) = x.body ++ (sumB (vi (crc (recHd n x))) ++ rest) := by
    rw [← List.drop_drop, d3, List.drop_left]
  have d5 : L.drop (2 + (vb n).length + (vb x.body.length).length + x.body.length) = sumB (vi (crc (recHd n x))) ++ rest := by
    rw [← List.drop_drop, d4, List.drop_left]
  have t5 : L.take (2 + (vb n).length + (vb x.body.length).length + x.body.length) = recHd n x := by
    rw [← recHd_length, hL, recEnc, List.append_assoc, List.take_left]
  have hlen := recEnc_length n x
  have hh := recHd_length n x
  have hLl : L.length = (recEnc n x).length + rest.length := by rw [hL, List.length_append]
  have := recRd_ok (l := L) (n := n) (kd := x.id) (by rw [e0]; rfl) hu hk (by have := h.1; omega) hv (by rw [Int.toNat_natCast]; omega) (by
    rw [Int.toNat_natCast, d5, t5, List.take_left' (sumB_length _)])
  rw [this, Int.toNat_natCast, d4, List.take_left, hlen, hh]
/-- what is read is a record's own bytes -/
theorem recRd_form {l : List Int} {n sz : Nat} {x : SecV} (hb : Byt l) (h : recRd l n = some (x, sz)) : GoodRec x ∧ sz = (recEnc n x).length ∧ l.take sz = recEnc n x ∧ sz ≤ l.length := by
  rcases recRd_cases (n := n) hb with h' | ⟨kd, k, k2, z, h0, hu, hk, hkd, hv, hl, hs⟩
  · rw [h'] at h
    cases h
  · rw [recRd_ok h0 hu hk hkd hv hl hs] at h
    simp only [Option.some.injEq, Prod.mk.injEq] at h
    obtain ⟨rfl, rfl⟩ := h
    obtain ⟨a1, a2, a3, a4, a5, a6⟩ := urd_form (byt_drop hb 1) hu
    obtain ⟨b1, b2, b3, b4, b5, b6⟩ := urd_form (byt_drop hb (2 + k)) hv
    rw [List.length_drop] at a6 b6
    rw [Int.toNat_natCast] at a1
    have hkl : 1 + k < l.length := by
      rcases Nat.lt_or_ge (1 + k) l.length with h | h
      · exact h
      · rw [List.getElem?_eq_none h] at hk
        cases hk
    have hk1 : l[1 + k] = kd := by
      rw [List.getElem?_eq_getElem hkl] at hk
      injection hk
    have hkb := hb kd (by rw [← hk1]; exact List.getElem_mem hkl)
    have hbl : ((l.drop (2 + k + k2)).take z.toNat).length = z.toNat := by
      simp
      omega
    have l0 : 0 < l.length := by omega
    have h00 : l[0] = 167 := by
      rw [List.getElem?_eq_getElem l0] at h0
      injection h0
    have a7 := congrArg List.length a1
    have b7 := congrArg List.length b1
    rw [List.length_take, List.length_drop] at a7 b7
    have e : l.take (2 + k + k2 + z.toNat) = recHd n ⟨kd, (l.drop (2 + k + k2)).take z.toNat⟩ := by
      rw [recHd]
      simp only [hbl]
      have hcons : l = l[0] :: l.drop 1 := by simpa using List.drop_eq_getElem_cons l0
      have htk : l.take (2 + k + k2 + z.toNat) = l[0] :: (l.drop 1).take (1 + k + k2 + z.toNat) := by
        rw [show 2 + k + k2 + z.toNat = (1 + k + k2 + z.toNat) + 1 by omega]
        exact (congrArg (List.take _) hcons).trans (List.take_succ_cons)
      rw [htk, h00]
      congr 1
      rw [show 1 + k + k2 + z.toNat = k + (1 + (k2 + z.toNat)) by omega, List.take_add, a1, List.drop_drop]
      congr 1
      rw [List.drop_eq_getElem_cons hkl, show 1 + (k2 + z.toNat) = (k2 + z.toNat) + 1 by omega, List.take_succ_cons, hk1]
      congr 1
      rw [List.take_add, show 1 + k + 1 = 2 + k by omega, b1, List.drop_drop]
    have e2 : l.take (2 + k + k2 + z.toNat + 4) = recEnc n ⟨kd, (l.drop (2 + k + k2)).take z.toNat⟩ := by
      rw [List.take_add, hs, e, recEnc]
    have hsz := congrArg List.length e2
    rw [List.length_take, Nat.min_eq_left (by omega)] at hsz
    refine ⟨⟨?_, ?_, ?_, ?_⟩, hsz, e2, by omega⟩
    · show 1 ≤ kd
      omega
    · show kd ≤ 255
      omega
    · show ((l.drop (2 + k + k2)).take z.toNat).length ≤ 4194304
      rw [hbl]
      omega
    · exact byt_take (byt_drop hb _) _
theorem rec_uniq {n : Nat} {x y : SecV} {R R' : List Int} (hx : GoodRec x) (hy : GoodRec y) (hn : n < 18446744073709551616) (hR : Byt R) (hR' : Byt R') (h : recEnc n x ++ R = recEnc n y ++ R') : x = y := by
  have h1 := recRd_enc hx hn hR
  have h2 := recRd_enc hy hn hR'
  rw [h, h2] at h1
  simp only [Option.some.injEq, Prod.mk.injEq] at h1
  exact h1.1.symm
/-- a record that is cut is none -/
theorem recRd_cut {n m : Nat} {x : SecV} (h : GoodRec x) (hn : n < 18446744073709551616) (hm : m < (recEnc n x).length) : recRd ((recEnc n x).take m) n = none := by
  cases hr : recRd ((recEnc n x).take m) n with
  | none => rfl
  | some p =>
    obtain ⟨y, sz⟩ := p
    obtain ⟨g1, g2, g3, g4⟩ := recRd_form (byt_take (recEnc_byt h) m) hr
    rw [List.length_take] at g4
    rw [List.take_take, Nat.min_eq_left (by omega)] at g3
    have he : recEnc n y ++ (recEnc n x).drop sz = recEnc n x ++ [] := by
      rw [← g3, List.append_nil]
      exact List.take_append_drop _ _
    have := rec_uniq g1 h hn (byt_drop (recEnc_byt h) sz) (fun z hz => by simp at hz) he
    subst this
    omega
/-! ## a journal's bytes -/
/-- the records from a place on: all that stand whole; where they end -/
def jnlRd (l : List Int) : Nat → List SecV → Nat → List SecV × Nat
  | 0, acc, p => (acc, p)
  | f + 1, acc, p => match recRd (l.drop p) acc.length with
    | none => (acc, p)
    | some (x, sz) => jnlRd l f (acc ++ [x]) (p + sz)
theorem jnlRd_stop {l : List Int} {f p : Nat} {acc : List SecV} (h : recRd (l.drop p) acc.length = none) : jnlRd l f acc p = (acc, p) := by
  cases f with
  | zero => rfl
  | succ f => rw [jnlRd, h]
theorem jnlRd_step {l : List Int} {f p sz : Nat} {acc : List SecV} {x : SecV} (h : recRd (l.drop p) acc.length = some (x, sz)) : jnlRd l (f + 1) acc p = jnlRd l f (acc ++ [x]) (p + sz) := by
  rw [jnlRd, h]
theorem jnlRd_enc {l : List Int} : ∀ (xs : List SecV) (f p : Nat) (acc : List SecV) (rest : List Int), (∀ x ∈ xs, GoodRec x) → xs.length ≤ f → acc.length + xs.length < 18446744073709551616 → Byt rest → recRd rest (acc.length + xs.length) = none → l.drop p = jnlFrom acc.length xs ++ rest →
    jnlRd l f acc p = (acc ++ xs, p + (jnlFrom acc.length xs).length)
  | [], f, p, acc, rest, _, _, _, _, hn, h => by
    rw [jnlFrom, List.nil_append] at h
    rw [jnlRd_stop (by rw [h]; simpa using hn)]
    simp [jnlFrom]
  | x :: xs, f, p, acc, rest, hg, hf, hlt, hr, hn, h => by
    simp only [List.length_cons] at hf hlt hn
    obtain ⟨f, rfl⟩ : ∃ g, f = g + 1 := ⟨f - 1, by omega⟩
    rw [jnlFrom, List.append_assoc] at h
    have hb : Byt (jnlFrom (acc.length + 1) xs ++ rest) := byt_mk (jnlFrom_byt xs _ (fun y hy => hg y (by simp [hy]))) hr
    have h1 := recRd_enc (hg x (by simp)) (n := acc.length) (by omega) hb
    rw [← h] at h1
    rw [jnlRd_step h1]
    have h2 := jnlRd_enc xs f (p + (recEnc acc.length x).length) (acc ++ [x]) rest (fun y hy => hg y (by simp [hy])) (by omega) (by rw [List.length_append, List.length_singleton]; omega) hr (by rw [List.length_append, List.length_singleton, show acc.length + 1 + xs.length = acc.length + (xs.length + 1) by omega]; exact hn) (by
      rw [← List.drop_drop, h, List.drop_left, List.length_append, List.length_singleton])
    rw [h2]
    simp [jnlFrom]
    omega
theorem jnlRd_form {l : List Int} (hb : Byt l) : ∀ (f p : Nat) (acc : List SecV), p ≤ l.length → ∃ suf, (jnlRd l f acc p).1 = acc ++ suf ∧ (∀ x ∈ suf, GoodRec x) ∧ l.drop p = jnlFrom acc.length suf ++ l.drop (jnlRd l f acc p).2 ∧ (jnlRd l f acc p).2 = p + (jnlFrom acc.length suf).length ∧ (jnlRd l f acc p).2 ≤ l.length
  | 0, p, acc, hp => ⟨[], by simp [jnlRd], fun x hx => absurd hx (by simp), by simp [jnlRd, jnlFrom], by simp [jnlRd, jnlFrom], hp⟩
  | f + 1, p, acc, hp => by
    cases hr : recRd (l.drop p) acc.length with
    | none =>
      rw [jnlRd_stop hr]
      exact ⟨[], by simp, fun x hx => absurd hx (by simp), by simp [jnlFrom], by simp [jnlFrom], hp⟩
    | some q =>
      obtain ⟨x, sz⟩ := q
      obtain ⟨g1, g2, g3, g4⟩ := recRd_form (byt_drop hb p) hr
      rw [List.length_drop] at g4
      rw [jnlRd_step hr]
      obtain ⟨suf, s1, s2, s3, s4, s5⟩ := jnlRd_form hb f (p + sz) (acc ++ [x]) (by omega)
      rw [List.length_append, List.length_singleton] at s3 s4
      refine ⟨x :: suf, by rw [s1]; simp, fun y hy => ?_, ?_, ?_, s5⟩
      · rcases List.mem_cons.1 hy with rfl | hy
        · exact g1
        · exact s2 y hy
      · rw [jnlFrom, List.append_assoc, ← s3, ← g3, ← List.drop_drop]
        exact (List.take_append_drop _ _).symm
      · rw [s4, jnlFrom, List.length_append, ← g2]
        omega
/-- the whole journal's parse stops at no whole record -/
theorem jnlRd_end {l : List Int} (hb : Byt l) : ∀ (f p : Nat) (acc : List SecV), p ≤ l.length → l.length < p + 8 * f + 8 → recRd (l.drop (jnlRd l f acc p).2) (jnlRd l f acc p).1.length = none
  | 0, p, acc, hp, hf => by
    cases hr : recRd (l.drop p) acc.length with
    | none => exact hr
    | some q =>
      obtain ⟨x, sz⟩ := q
      obtain ⟨g1, g2, g3, g4⟩ := recRd_form (byt_drop hb p) hr
      rw [List.length_drop] at g4
      have h1 := recEnc_length acc.length x
      have h2 := recHd_length acc.length x
      have h3 := vb_pos acc.length
      have h4 := vb_pos x.body.length
      omega
  | f + 1, p, acc, hp, hf => by
    cases hr : recRd (l.drop p) acc.length with
    | none =>
      rw [jnlRd_stop hr]
      exact hr
    | some q =>
      obtain ⟨x, sz⟩ := q
      obtain ⟨g1, g2, g3, g4⟩ := recRd_form (byt_drop hb p) hr
      rw [List.length_drop] at g4
      rw [jnlRd_step hr]
      have h1 := recEnc_length acc.length x
      have h2 := recHd_length acc.length x
      have h3 := vb_pos acc.length
      have h4 := vb_pos x.body.length
      exact jnlRd_end hb f (p + sz) (acc ++ [x]) (by omega) (by omega)
end Go.Proofs.Ytlnomadhgoblkaa.Kit
