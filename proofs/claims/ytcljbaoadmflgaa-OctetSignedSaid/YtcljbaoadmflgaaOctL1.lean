/- The walks of OctetSigned and OctetOnly. -/
import Derived.Test.YtcljbaoadmflgaaProg
import Derived.Test.YtcljbaoadmflgaaKit
import Derived.Test.YtcljbaoadmflgaaOpen
import Derived.Test.YtcljbaoadmflgaaPlainV
import Derived.Test.YtcljbaoadmflgaaOctW
import Derived.Test.YtcljbaoadmflgaaOctR
import Derived.Test.YtcljbaoadmflgaaOctX
import Derived.Test.YtcljbaoadmflgaaOctI
set_option linter.unusedVariables false
set_option linter.unusedSimpArgs false
set_option linter.unnecessarySimpa false
namespace Go.Proofs.Ytcljbaoadmflgaa.Kit
open Go.RowKit
/-- what an append onto nil leaves -/
structure Made (w w1 : World) (A : Option Addr) (n c : Nat) (l : List Int) : Prop where
  len : n = l.length
  own : OwnB w1 (.slice A n c) l
  chg : Chg (fun _ => False) w w1
  new : ∀ k, Value.ownBlock (.slice A n c) = some k → w.heap.size ≤ k
theorem Made.rd {w w1 : World} {A : Option Addr} {n c : Nat} {l : List Int} (h : Made w w1 A n c l) : Rd w1 .u8 A l := h.own.rd (by rw [h.len])
theorem made {w w1 : World} {v' : Value} {l m : List Int} (h : OwnB w1 v' ([] ++ l)) (hc : Chg (fun g => Value.ownBlock (.slice none 0 0) = some g) w w1) (hf : Fresh w (.slice none 0 0) v') : ∃ A n c, v' = .slice A n c ∧ Made w w1 A n c l := by
  rw [List.nil_append] at h
  obtain ⟨A, c, rfl, _⟩ := h.slice
  exact ⟨A, _, c, rfl, rfl, h, hc.mono (fun i _ e => by simp [Value.ownBlock] at e), hf.ge (fun i e => by simp [Value.ownBlock] at e) (Nat.le_refl _)⟩
theorem appendIntNil (x : Int) (w : World) (h0 : -9223372036854775808 ≤ x) (h1 : x ≤ 9223372036854775807) :
    Calls Try.prog 19 #[.slice none 0 0, .int .i64 x] w fun e w' => ∃ A n c, e = .returned (.slice A n c) ∧ Made w w' A n c (vb (zz x).toNat) :=
  (appendInt _ [] x w h0 h1 (Own.nil _ _ _) (by simp)).mono fun e w' ⟨v', he, h2, _, h4, h5⟩ => by
    obtain ⟨A, n, c, rfl, h⟩ := made (m := []) h2 h4 h5
    exact ⟨A, n, c, he, h⟩
theorem appendUintNil (x : Int) (w : World) (h0 : 0 ≤ x) (h1 : x < 18446744073709551616) :
    Calls Try.prog 17 #[.slice none 0 0, .int .u64 x] w fun e w' => ∃ A n c, e = .returned (.slice A n c) ∧ Made w w' A n c (vb x.toNat) :=
  (appendUint _ [] x w h0 (Own.nil _ _ _) (by have := vb_len10 (n := x.toNat) (by omega); simp; omega)).mono fun e w' ⟨v', he, h2, _, h4, h5⟩ => by
    obtain ⟨A, n, c, rfl, h⟩ := made (m := []) h2 h4 h5
    exact ⟨A, n, c, he, h⟩
theorem first_of {w : World} {A : Option Addr} {l : List Int} (h : Rd w .u8 A l) (hp : 0 < l.length) : ∃ ad a s, A = some ad ∧ l = a :: s ∧ w.cell? ad = some (.int .u8 a) := by
  obtain ⟨ad, e, hc⟩ := h 0 hp
  match l, hp with
  | a :: s, _ => exact ⟨ad, a, s, e, rfl, by simpa [Addr.add] using hc⟩
theorem zz_pair (x : Int) (h0 : -9223372036854775808 ≤ x) (h1 : x ≤ 9223372036854775807) : (vb (zz x).toNat).length = (vb (zz (-1 - x)).toNat).length ∧ ∀ a b s t, vb (zz x).toNat = a :: s → vb (zz (-1 - x)).toNat = b :: t → (a % 2 == b % 2) = false := by
  have hlt : ∀ y, -9223372036854775808 ≤ y → y ≤ 9223372036854775807 → (zz y).toNat < 128 ^ (9 + 1) := fun y a b => Nat.lt_of_lt_of_le (zz_lt a b) (by decide)
  by_cases hx : 0 ≤ x
  · have e : (zz (-1 - x)).toNat = (zz x).toNat + 1 := by unfold zz; rw [if_pos hx]; split <;> omega
    have := vb_pair 9 (zz x).toNat (hlt x h0 h1) (by unfold zz; split <;> omega)
    rw [e]
    exact this
  · have e : (zz x).toNat = (zz (-1 - x)).toNat + 1 := by unfold zz; rw [if_neg hx]; split <;> omega
    have := vb_pair 9 (zz (-1 - x)).toNat (hlt _ (by omega) (by omega)) (by unfold zz; split <;> omega)
    rw [e]
    exact ⟨this.1.symm, fun a b s t ha hb => by
      have := this.2 b a t s hb ha
      rw [beq_eq_false_iff_ne] at this ⊢
      exact this.symm⟩
theorem int' {g : Nat} {v : Value} {l : List Int} {at_ : Nat} {w : World} {x y er : Int} {n : Nat} (hu : Hid (urd (l.drop at_) 18446744073709551615 = (x, n, er))) (hy : Hid (uz x = y)) (h : Hid (Rdr w g v l at_)) :
    Calls Try.prog 27 #[.pointer (some ⟨g, 0, none⟩)] w fun e w' => e = .returned (.tuple #[.int .i64 y, .int .i64 er]) ∧ Rdr w' g v l (at_ + n) ∧ Chg (· = g) w w' := by
  have := int g v l at_ w h
  rw [hu.out, hy.out] at this
  exact this
theorem newReader' {A : Option Addr} {n c : Nat} {l : List Int} {w : World} (hn : Hid (n = l.length)) (hl : Hid (l.length ≤ 140737488355328)) (hr : Hid (Rd w .u8 A l)) :
    Calls Try.prog 24 #[.slice A n c] w fun e w' => ∃ g v, e = .returned (.pointer (some ⟨g, 0, none⟩)) ∧ Rdr w' g v l 0 ∧ w.heap.size ≤ g ∧ (∀ k, v.ownBlock = some k → w.heap.size ≤ k) ∧ Chg (fun _ => False) w w' := by
  rw [hn.out]
  exact newReader A c l w hl hr
theorem left' {g : Nat} {v : Value} {l : List Int} {at_ : Nat} {w : World} {z : Int} (hz : Hid ((l.length : Int) - at_ = z)) (h : Hid (Rdr w g v l at_)) :
    Calls Try.prog 28 #[.pointer (some ⟨g, 0, none⟩)] w fun e w' => e = .returned (.int .i64 z) ∧ ∃ n, w' = w.drewN n := by
  rw [← hz.out]
  exact left g v l at_ w h
set_option maxHeartbeats 1600000 in
theorem octetSignedWalk (w : World) (x : Int) (h0 : -9223372036854775808 ≤ x) (h1 : x ≤ 9223372036854775807) :
    Calls Try.prog 5 #[.int .i64 x] w fun e w' => e = .returned (.bool true) ∧ Below w.heap.size w w' := by
  have hz := Lib.hid (zz_pair x h0 h1)
  have hlen := zz_len h0 h1
  have hpos := vb_pos (zz x).toNat
  have HL := Lib.hid hlen
  have HP := Lib.hid hpos
  clear hlen hpos
  go_enter Try.func5, Try.ntmps5
  go_wp2_with fail
  refine (appendIntNil _ _ h0 h1).mono ?_
  rintro e w1 ⟨A1, n1, c1, rfl, m1⟩
  have M1 := Lib.hid m1
  clear m1
  go_wp2_with fail
  refine (appendIntNil _ _ (by omega) (by omega)).mono ?_
  rintro e w2 ⟨A2, n2, c2, rfl, m2⟩
  have M2 := Lib.hid m2
  clear m2
  obtain ⟨hz1, hz2⟩ := hz.out
  obtain rfl : n1 = n2 := by rw [M1.out.len, M2.out.len, hz1]
  have b1 : (1 : Int) ≤ (n1 : Int) := by have := M1.out.len; have := HP.out; omega
  have b2 : (n1 : Int) ≤ 10 := by have := M1.out.len; have := HL.out; omega
  have r1 := M1.out.rd.chg M2.out.chg (fun _ _ _ h => h)
  have r2 := M2.out.rd
  obtain ⟨p1, a, s, rfl, hs, f1⟩ := first_of r1 HP.out
  obtain ⟨p2, b, t, rfl, ht, f2⟩ := first_of r2 (hz1 ▸ HP.out)
  have hq := hz2 a b s t hs ht
  have ba := vb_byt _ a (by rw [hs]; simp)
  have bb := vb_byt _ b (by rw [ht]; simp)
  obtain ⟨ba1, ba2⟩ := ba
  obtain ⟨bb1, bb2⟩ := bb
  have R1 := Lib.hid r1
  clear hz1 hz2 r1 r2 hs ht
  have g1 : decide ((10 : Int) < (n1 : Int)) = false := by simp; omega
  have g2 : decide ((n1 : Int) < 1) = false := by simp; omega
  have g3 : ((n1 : Int) != (n1 : Int)) = false := by simp
  have g4 : (0 : Int) < (n1 : Int) := by omega
  go_wp2_with fail
  go_quiet (fail)
  have hlen : Hid (n1 = (vb (zz x).toNat).length) := M1.out.len
  have hle : Hid ((vb (zz x).toNat).length ≤ 140737488355328) := Nat.le_trans HL.out (by decide)
  have hu : Hid (urd ((vb (zz x).toNat).drop 0) 18446744073709551615 = (zz x, (vb (zz x).toNat).length, 0)) := by
    have h := urd_vb (zz_lt h0 h1) (limit := 18446744073709551615) (by have := zz_lt h0 h1; omega) (rest := []) (fun z hz => by simp at hz)
    rw [List.append_nil] at h
    rw [Hid, List.drop_zero, h]
    have := zz_nonneg x
    simp
    omega
  have hy : Hid (uz (zz x) = x) := uz_zz x
  have hl0 : Hid (((vb (zz x).toNat).length : Int) - (0 + (vb (zz x).toNat).length : Nat) = 0) := by rw [Hid]; omega
  have hch : Hid (Chg (fun _ => False) w w2) := M1.out.chg.trans M2.out.chg (fun _ _ h => h)
  clear f1 f2
  go_wp2_with (first | (go_at_call 24; go_must (refine (newReader' hlen hle (show Hid (Rd (w2.drewN _) _ _ _) from R1)).mono ?_); rintro e w3 ⟨g, v, rfl, k1, k2, k3, k4⟩; have K1 := Lib.hid k1; have K4 := Lib.hid k4; have K2 := Lib.hid k2; have K3 := Lib.hid k3; clear k1 k2 k3 k4) | (go_at_call 27; go_must (refine (int' hu hy K1).mono ?_); rintro e w4 ⟨rfl, n1, n2⟩; have N1 := Lib.hid n1; have N2 := Lib.hid n2; clear n1 n2) | (go_at_call 28; go_must (refine (left' hl0 N1).mono ?_); rintro e w' ⟨rfl, nq, rfl⟩))
  go_ret
  refine ⟨rfl, (Chg.drewN (Chg.old (Chg.trans (hch.out.drewN _) K4.out (fun _ _ h => h)) N2.out (fun i e => ?_)) _).done⟩
  have h1 := K2.out
  have h2 := hch.out.size
  simp at h1
  omega
end Go.Proofs.Ytcljbaoadmflgaa.Kit
