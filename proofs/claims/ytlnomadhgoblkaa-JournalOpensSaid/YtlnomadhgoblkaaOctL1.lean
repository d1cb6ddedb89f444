/- The walks of OctetSigned and OctetOnly. -/
import Derived.Test.YtlnomadhgoblkaaProg
import Derived.Test.YtlnomadhgoblkaaKit
import Derived.Test.YtlnomadhgoblkaaOpen
import Derived.Test.YtlnomadhgoblkaaPlainV
import Derived.Test.YtlnomadhgoblkaaOctW
import Derived.Test.YtlnomadhgoblkaaOctR
import Derived.Test.YtlnomadhgoblkaaOctX
import Derived.Test.YtlnomadhgoblkaaOctI
set_option linter.unusedVariables false
set_option linter.unusedSimpArgs false
set_option linter.unnecessarySimpa false
namespace Go.Proofs.Ytlnomadhgoblkaa.Kit
open Go.RowKit
/-- what an append onto nil leaves -/
structure Made (w w1 : World) (A : Option Addr) (n c : Nat) (l : List Int) : Prop where
  len : n = l.length
  own : OwnB w1 (.slice A n c) l
  chg : Chg (fun _ => False) w w1
  new : ∀ k, Value.ownBlock (.slice A n c) = some k → w.heap.size ≤ k
  cap : n ≤ c
theorem Made.rd {w w1 : World} {A : Option Addr} {n c : Nat} {l : List Int} (h : Made w w1 A n c l) : Rd w1 .u8 A l := h.own.rd (by rw [h.len])
theorem made {w w1 : World} {v' : Value} {l : List Int} (h : OwnB w1 v' ([] ++ l)) (hc : Chg (fun g => Value.ownBlock (.slice none 0 0) = some g) w w1) (hf : Fresh w (.slice none 0 0) v') : ∃ A n c, v' = .slice A n c ∧ Made w w1 A n c l := by
  rw [List.nil_append] at h
  obtain ⟨A, c, rfl, hcap, _⟩ := h.slice
  exact ⟨A, _, c, rfl, rfl, h, hc.mono (fun i _ e => by simp [Value.ownBlock] at e), hf.ge (fun i e => by simp [Value.ownBlock] at e) (Nat.le_refl _), hcap⟩
theorem appendUintNil (x : Int) (w : World) (h0 : 0 ≤ x) (h1 : x < 18446744073709551616) :
    Calls Try.prog 21 #[.slice none 0 0, .int .u64 x] w fun e w' => ∃ A n c, e = .returned (.slice A n c) ∧ Made w w' A n c (vb x.toNat) :=
  (appendUint _ [] x w h0 (Own.nil _ _ _) (by have := vb_len10 (n := x.toNat) (by omega); simp; omega)).mono fun e w' ⟨v', he, h2, _, h4, h5⟩ => by
    obtain ⟨A, n, c, rfl, h⟩ := made h2 h4 h5
    exact ⟨A, n, c, he, h⟩
theorem first_of {w : World} {A : Option Addr} {l : List Int} (h : Rd w .u8 A l) (hp : 0 < l.length) : ∃ ad a s, A = some ad ∧ l = a :: s ∧ w.cell? ad = some (.int .u8 a) := by
  obtain ⟨ad, e, hc⟩ := h 0 hp
  match l, hp with
  | a :: s, _ => exact ⟨ad, a, s, e, rfl, by simpa [Addr.add] using hc⟩
theorem zz_pair (x : Int) (h0 : -9223372036854775808 ≤ x) (h1 : x ≤ 9223372036854775807) : (vb (zz x).toNat).length = (vb (zz (-1 - x)).toNat).length ∧ ∀ a b s t, vb (zz x).toNat = a :: s → vb (zz (-1 - x)).toNat = b :: t → (a % 2 == b % 2) = false := by
  have hlt : ∀ y, -9223372036854775808 ≤ y → y ≤ 9223372036854775807 → (zz y).toNat < 128 ^ (9 + 1) := fun y a b => Nat.lt_of_lt_of_le (zz_lt a b) (by decide)
  by_cases hx : 0 ≤ x
  · have e : (zz (-1 - x)).toNat = (zz x).toNat + 1 := by unfold zz; rw [if_pos hx]; split <;> omega
    have := vb_pair 9 (zz x).toNat (hlt x h0 h1) (by unfold zz; split <;> omega)
    rw [e]
    exact this
  · have e : (zz x).toNat = (zz (-1 - x)).toNat + 1 := by unfold zz; rw [if_neg hx]; split <;> omega
    have := vb_pair 9 (zz (-1 - x)).toNat (hlt _ (by omega) (by omega)) (by unfold zz; split <;> omega)
    rw [e]
    exact ⟨this.1.symm, fun a b s t ha hb => by
      have := this.2 b a t s hb ha
      rw [beq_eq_false_iff_ne] at this ⊢
      exact this.symm⟩
theorem newReader' {A : Option Addr} {n c : Nat} {l : List Int} {w : World} (hn : Hid (n = l.length)) (hl : Hid (l.length ≤ 140737488355328)) (hr : Hid (Rd w .u8 A l)) :
    Calls Try.prog 74 #[.slice A n c] w fun e w' => ∃ g v, e = .returned (.pointer (some ⟨g, 0, none⟩)) ∧ Rdr w' g v l 0 ∧ w.heap.size ≤ g ∧ (∀ k, v.ownBlock = some k → w.heap.size ≤ k) ∧ Chg (fun _ => False) w w' := by
  rw [hn.out]
  exact newReader A c l w hl hr
theorem uintTo {g : Nat} {v : Value} {l : List Int} {at_ a2 : Nat} {limit : Int} {w : World} {x er : Int} {n : Nat} (hu : Hid (urd (l.drop at_) limit = (x, n, er))) (ha : Hid (at_ + n = a2)) (h : Hid (Rdr w g v l at_)) :
    Calls Try.prog 75 #[.pointer (some ⟨g, 0, none⟩), .int .u64 limit] w fun e w' => e = .returned (.tuple #[.int .u64 x, .int .i64 er]) ∧ Rdr w' g v l a2 ∧ Chg (· = g) w w' := by
  have := uint' hu h
  rw [ha.out] at this
  exact this
theorem sameBytes' {A B : Option Addr} {n m c d : Nat} {l k : List Int} {w : World} {b : Bool} (hn : Hid (n = l.length)) (hm : Hid (m = k.length)) (hl : Hid (l.length ≤ 140737488355328)) (hr : Hid (Rd w .u8 A l)) (hk : Hid (Rd w .u8 B k)) (hb : Hid (decide (l = k) = b)) :
    Calls Try.prog 24 #[.slice A n c, .slice B m d] w fun e w' => e = .returned (.bool b) ∧ ∃ n, w' = w.drewN n := by
  rw [hn.out, hm.out, ← hb.out]
  exact sameBytes A B c d l k w hl hr hk
set_option maxHeartbeats 1600000 in
theorem octetOnlyTail (x y : Int) (hx0 : 0 ≤ x) (hx1 : x ≤ 18446744073709551615) (hy0 : 0 ≤ y) (hy1 : y ≤ 18446744073709551615) : (¬ (vb y.toNat).length < (vb x.toNat).length → decide (vb x.toNat = (vb y.toNat).take (vb x.toNat).length) = decide (x = y)) := by
  intro h
  by_cases he : x = y
  · subst he
    simp
  · rw [decide_eq_false he, decide_eq_false]
    intro h'
    have := vb_prefix (by omega) (by omega) h'
    omega
end Go.Proofs.Ytlnomadhgoblkaa.Kit
