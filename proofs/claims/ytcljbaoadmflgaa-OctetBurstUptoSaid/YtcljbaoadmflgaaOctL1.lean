/- The walks of OctetSigned and OctetOnly. -/
import Derived.Test.YtcljbaoadmflgaaProg
import Derived.Test.YtcljbaoadmflgaaKit
import Derived.Test.YtcljbaoadmflgaaOpen
import Derived.Test.YtcljbaoadmflgaaPlainV
import Derived.Test.YtcljbaoadmflgaaOctW
import Derived.Test.YtcljbaoadmflgaaOctR
import Derived.Test.YtcljbaoadmflgaaOctX
import Derived.Test.YtcljbaoadmflgaaOctI
set_option linter.unusedVariables false
set_option linter.unusedSimpArgs false
set_option linter.unnecessarySimpa false
namespace Go.Proofs.Ytcljbaoadmflgaa.Kit
open Go.RowKit
/-- what an append onto nil leaves -/
structure Made (w w1 : World) (A : Option Addr) (n c : Nat) (l : List Int) : Prop where
  len : n = l.length
  own : OwnB w1 (.slice A n c) l
  chg : Chg (fun _ => False) w w1
  new : ∀ k, Value.ownBlock (.slice A n c) = some k → w.heap.size ≤ k
  cap : n ≤ c
theorem Made.rd {w w1 : World} {A : Option Addr} {n c : Nat} {l : List Int} (h : Made w w1 A n c l) : Rd w1 .u8 A l := h.own.rd (by rw [h.len])
theorem made {w w1 : World} {v' : Value} {l : List Int} (h : OwnB w1 v' ([] ++ l)) (hc : Chg (fun g => Value.ownBlock (.slice none 0 0) = some g) w w1) (hf : Fresh w (.slice none 0 0) v') : ∃ A n c, v' = .slice A n c ∧ Made w w1 A n c l := by
  rw [List.nil_append] at h
  obtain ⟨A, c, rfl, hcap, _⟩ := h.slice
  exact ⟨A, _, c, rfl, rfl, h, hc.mono (fun i _ e => by simp [Value.ownBlock] at e), hf.ge (fun i e => by simp [Value.ownBlock] at e) (Nat.le_refl _), hcap⟩
theorem appendIntNil (x : Int) (w : World) (h0 : -9223372036854775808 ≤ x) (h1 : x ≤ 9223372036854775807) :
    Calls Try.prog 19 #[.slice none 0 0, .int .i64 x] w fun e w' => ∃ A n c, e = .returned (.slice A n c) ∧ Made w w' A n c (vb (zz x).toNat) :=
  (appendInt _ [] x w h0 h1 (Own.nil _ _ _) (by simp)).mono fun e w' ⟨v', he, h2, _, h4, h5⟩ => by
    obtain ⟨A, n, c, rfl, h⟩ := made h2 h4 h5
    exact ⟨A, n, c, he, h⟩
theorem appendUintNil (x : Int) (w : World) (h0 : 0 ≤ x) (h1 : x < 18446744073709551616) :
    Calls Try.prog 17 #[.slice none 0 0, .int .u64 x] w fun e w' => ∃ A n c, e = .returned (.slice A n c) ∧ Made w w' A n c (vb x.toNat) :=
  (appendUint _ [] x w h0 (Own.nil _ _ _) (by have := vb_len10 (n := x.toNat) (by omega); simp; omega)).mono fun e w' ⟨v', he, h2, _, h4, h5⟩ => by
    obtain ⟨A, n, c, rfl, h⟩ := made h2 h4 h5
    exact ⟨A, n, c, he, h⟩
theorem first_of {w : World} {A : Option Addr} {l : List Int} (h : Rd w .u8 A l) (hp : 0 < l.length) : ∃ ad a s, A = some ad ∧ l = a :: s ∧ w.cell? ad = some (.int .u8 a) := by
  obtain ⟨ad, e, hc⟩ := h 0 hp
  match l, hp with
  | a :: s, _ => exact ⟨ad, a, s, e, rfl, by simpa [Addr.add] using hc⟩
theorem zz_pair (x : Int) (h0 : -9223372036854775808 ≤ x) (h1 : x ≤ 9223372036854775807) : (vb (zz x).toNat).length = (vb (zz (-1 - x)).toNat).length ∧ ∀ a b s t, vb (zz x).toNat = a :: s → vb (zz (-1 - x)).toNat = b :: t → (a % 2 == b % 2) = false := by
  have hlt : ∀ y, -9223372036854775808 ≤ y → y ≤ 9223372036854775807 → (zz y).toNat < 128 ^ (9 + 1) := fun y a b => Nat.lt_of_lt_of_le (zz_lt a b) (by decide)
  by_cases hx : 0 ≤ x
  · have e : (zz (-1 - x)).toNat = (zz x).toNat + 1 := by unfold zz; rw [if_pos hx]; split <;> omega
    have := vb_pair 9 (zz x).toNat (hlt x h0 h1) (by unfold zz; split <;> omega)
    rw [e]
    exact this
  · have e : (zz x).toNat = (zz (-1 - x)).toNat + 1 := by unfold zz; rw [if_neg hx]; split <;> omega
    have := vb_pair 9 (zz (-1 - x)).toNat (hlt _ (by omega) (by omega)) (by unfold zz; split <;> omega)
    rw [e]
    exact ⟨this.1.symm, fun a b s t ha hb => by
      have := this.2 b a t s hb ha
      rw [beq_eq_false_iff_ne] at this ⊢
      exact this.symm⟩
theorem int' {g : Nat} {v : Value} {l : List Int} {at_ : Nat} {w : World} {x y er : Int} {n : Nat} (hu : Hid (urd (l.drop at_) 18446744073709551615 = (x, n, er))) (hy : Hid (uz x = y)) (h : Hid (Rdr w g v l at_)) :
    Calls Try.prog 27 #[.pointer (some ⟨g, 0, none⟩)] w fun e w' => e = .returned (.tuple #[.int .i64 y, .int .i64 er]) ∧ Rdr w' g v l (at_ + n) ∧ Chg (· = g) w w' := by
  have := int g v l at_ w h
  rw [hu.out, hy.out] at this
  exact this
theorem newReader' {A : Option Addr} {n c : Nat} {l : List Int} {w : World} (hn : Hid (n = l.length)) (hl : Hid (l.length ≤ 140737488355328)) (hr : Hid (Rd w .u8 A l)) :
    Calls Try.prog 24 #[.slice A n c] w fun e w' => ∃ g v, e = .returned (.pointer (some ⟨g, 0, none⟩)) ∧ Rdr w' g v l 0 ∧ w.heap.size ≤ g ∧ (∀ k, v.ownBlock = some k → w.heap.size ≤ k) ∧ Chg (fun _ => False) w w' := by
  rw [hn.out]
  exact newReader A c l w hl hr
theorem left' {g : Nat} {v : Value} {l : List Int} {at_ : Nat} {w : World} {z : Int} (hz : Hid ((l.length : Int) - at_ = z)) (h : Hid (Rdr w g v l at_)) :
    Calls Try.prog 28 #[.pointer (some ⟨g, 0, none⟩)] w fun e w' => e = .returned (.int .i64 z) ∧ ∃ n, w' = w.drewN n := by
  rw [← hz.out]
  exact left g v l at_ w h
theorem uintTo {g : Nat} {v : Value} {l : List Int} {at_ a2 : Nat} {limit : Int} {w : World} {x er : Int} {n : Nat} (hu : Hid (urd (l.drop at_) limit = (x, n, er))) (ha : Hid (at_ + n = a2)) (h : Hid (Rdr w g v l at_)) :
    Calls Try.prog 25 #[.pointer (some ⟨g, 0, none⟩), .int .u64 limit] w fun e w' => e = .returned (.tuple #[.int .u64 x, .int .i64 er]) ∧ Rdr w' g v l a2 ∧ Chg (· = g) w w' := by
  have := uint' hu h
  rw [ha.out] at this
  exact this
theorem sameBytes' {A B : Option Addr} {n m c d : Nat} {l k : List Int} {w : World} {b : Bool} (hn : Hid (n = l.length)) (hm : Hid (m = k.length)) (hl : Hid (l.length ≤ 140737488355328)) (hr : Hid (Rd w .u8 A l)) (hk : Hid (Rd w .u8 B k)) (hb : Hid (decide (l = k) = b)) :
    Calls Try.prog 23 #[.slice A n c, .slice B m d] w fun e w' => e = .returned (.bool b) ∧ ∃ n, w' = w.drewN n := by
  rw [hn.out, hm.out, ← hb.out]
  exact sameBytes A B c d l k w hl hr hk
set_option maxHeartbeats 1600000 in
theorem octetSignedWalk (w : World) (x : Int) (h0 : -9223372036854775808 ≤ x) (h1 : x ≤ 9223372036854775807) :
    Calls Try.prog 5 #[.int .i64 x] w fun e w' => e = .returned (.bool true) ∧ Below w.heap.size w w' := by
  have hz := Lib.hid (zz_pair x h0 h1)
  have hlen := zz_len h0 h1
  have hpos := vb_pos (zz x).toNat
  have HL := Lib.hid hlen
  have HP := Lib.hid hpos
  clear hlen hpos
  go_enter Try.func5, Try.ntmps5
  go_wp2_with fail
  refine (appendIntNil _ _ h0 h1).mono ?_
  rintro e w1 ⟨A1, n1, c1, rfl, m1⟩
  have M1 := Lib.hid m1
  clear m1
  go_wp2_with fail
  refine (appendIntNil _ _ (by omega) (by omega)).mono ?_
  rintro e w2 ⟨A2, n2, c2, rfl, m2⟩
  have M2 := Lib.hid m2
  clear m2
  obtain ⟨hz1, hz2⟩ := hz.out
  obtain rfl : n1 = n2 := by rw [M1.out.len, M2.out.len, hz1]
  have b1 : (1 : Int) ≤ (n1 : Int) := by have := M1.out.len; have := HP.out; omega
  have b2 : (n1 : Int) ≤ 10 := by have := M1.out.len; have := HL.out; omega
  have r1 := M1.out.rd.chg M2.out.chg (fun _ _ _ h => h)
  have r2 := M2.out.rd
  obtain ⟨p1, a, s, rfl, hs, f1⟩ := first_of r1 HP.out
  obtain ⟨p2, b, t, rfl, ht, f2⟩ := first_of r2 (hz1 ▸ HP.out)
  have hq := hz2 a b s t hs ht
  have ba := vb_byt _ a (by rw [hs]; simp)
  have bb := vb_byt _ b (by rw [ht]; simp)
  obtain ⟨ba1, ba2⟩ := ba
  obtain ⟨bb1, bb2⟩ := bb
  have R1 := Lib.hid r1
  clear hz1 hz2 r1 r2 hs ht
  have g1 : decide ((10 : Int) < (n1 : Int)) = false := by simp; omega
  have g2 : decide ((n1 : Int) < 1) = false := by simp; omega
  have g3 : ((n1 : Int) != (n1 : Int)) = false := by simp
  have g4 : (0 : Int) < (n1 : Int) := by omega
  go_wp2_with fail
  go_quiet (fail)
  have hlen : Hid (n1 = (vb (zz x).toNat).length) := M1.out.len
  have hle : Hid ((vb (zz x).toNat).length ≤ 140737488355328) := Nat.le_trans HL.out (by decide)
  have hu : Hid (urd ((vb (zz x).toNat).drop 0) 18446744073709551615 = (zz x, (vb (zz x).toNat).length, 0)) := by
    have h := urd_vb (zz_lt h0 h1) (limit := 18446744073709551615) (by have := zz_lt h0 h1; omega) (rest := []) (fun z hz => by simp at hz)
    rw [List.append_nil] at h
    rw [Hid, List.drop_zero, h]
    have := zz_nonneg x
    simp
    omega
  have hy : Hid (uz (zz x) = x) := uz_zz x
  have hl0 : Hid (((vb (zz x).toNat).length : Int) - (0 + (vb (zz x).toNat).length : Nat) = 0) := by rw [Hid]; omega
  have hch : Hid (Chg (fun _ => False) w w2) := M1.out.chg.trans M2.out.chg (fun _ _ h => h)
  clear f1 f2
  go_wp2_with (first | (go_at_call 24; go_must (refine (newReader' hlen hle (show Hid (Rd (w2.drewN _) _ _ _) from R1)).mono ?_); rintro e w3 ⟨g, v, rfl, k1, k2, k3, k4⟩; have K1 := Lib.hid k1; have K4 := Lib.hid k4; have K2 := Lib.hid k2; have K3 := Lib.hid k3; clear k1 k2 k3 k4) | (go_at_call 27; go_must (refine (int' hu hy K1).mono ?_); rintro e w4 ⟨rfl, n1, n2⟩; have N1 := Lib.hid n1; have N2 := Lib.hid n2; clear n1 n2) | (go_at_call 28; go_must (refine (left' hl0 N1).mono ?_); rintro e w' ⟨rfl, nq, rfl⟩))
  go_ret
  refine ⟨rfl, (Chg.drewN (Chg.old (Chg.trans (hch.out.drewN _) K4.out (fun _ _ h => h)) N2.out (fun i e => ?_)) _).done⟩
  have h1 := K2.out
  have h2 := hch.out.size
  simp at h1
  omega
set_option maxHeartbeats 1600000 in
theorem octetOnlyTail (x y : Int) (hx0 : 0 ≤ x) (hx1 : x ≤ 18446744073709551615) (hy0 : 0 ≤ y) (hy1 : y ≤ 18446744073709551615) : (¬ (vb y.toNat).length < (vb x.toNat).length → decide (vb x.toNat = (vb y.toNat).take (vb x.toNat).length) = decide (x = y)) := by
  intro h
  by_cases he : x = y
  · subst he
    simp
  · rw [decide_eq_false he, decide_eq_false]
    intro h'
    have := vb_prefix (by omega) (by omega) h'
    omega
set_option maxHeartbeats 1600000 in
theorem octetOnlyWalk (w : World) (A : Option Addr) (c : Nat) (l : List Int) (hr : Hid (Rd w .u8 A l)) (hl : l.length ≤ 140737488351232) (hb : Byt l) (hlc : l.length ≤ c) (x : Int) (hx0 : 0 ≤ x) (hx1 : x ≤ 18446744073709551615) (y : Int) (hy0 : 0 ≤ y) (hy1 : y ≤ 18446744073709551615) :
    Calls Try.prog 4 #[.slice A l.length c, .int .u64 x, .int .u64 y] w fun e w' => e = .returned (.bool true) ∧ Below w.heap.size w w' := by
  obtain ⟨X, N, er, hu⟩ : ∃ X N er, urd (l.drop 0) 18446744073709551615 = (X, N, er) := ⟨_, _, _, rfl⟩
  have HU := Lib.hid hu
  have HX := Lib.hid hx1
  have HY := Lib.hid hy1
  have HB := Lib.hid hb
  have hle : Hid (l.length ≤ 140737488355328) := Nat.le_trans hl (by decide)
  have hrng := urd_range (l.drop 0) 18446744073709551615
  have hno := urd_n (l.drop 0) 18446744073709551615
  rw [hu] at hrng hno
  clear hx1 hy1 hu hb
  have h0N : Hid (0 + N = N) := Nat.zero_add N
  by_cases he : er = 0
  · subst he
    have hf := Lib.hid (urd_form (l := l) (limit := 18446744073709551615) (x := X) (n := N) HB.out (by rw [← HU.out]; rfl))
    have HR := Lib.hid hrng
    have hX0 : 0 ≤ X := hrng.1
    clear hrng hno
    go_enter Try.func4, Try.ntmps4
    go_wp2_with fail
    refine (newReader' (show Hid _ from rfl) hle hr).mono ?_
    rintro e w1 ⟨g, v, rfl, k1, k2, k3, k4⟩
    have K1 := Lib.hid k1; have K2 := Lib.hid k2; have K3 := Lib.hid k3; have K4 := Lib.hid k4
    clear k1 k2 k3 k4
    go_wp2_with fail
    refine (uintTo HU h0N K1).mono ?_
    rintro e w2 ⟨rfl, k1, k2⟩
    have N1 := Lib.hid k1; have N2 := Lib.hid k2
    clear k1 k2
    go_wp2_with fail
    refine (place _ _ _ _ _ N1).mono ?_
    rintro e w3 ⟨rfl, rfl⟩
    go_wp2_with fail
    refine (appendUintNil _ _ hX0 HR.out.2).mono ?_
    rintro e w3 ⟨A3, n3, c3, rfl, m3⟩
    have M3 := Lib.hid m3
    clear m3
    obtain ⟨f1, f2, f3, f4, f5, f6⟩ := hf.out
    have q3 := K2.out
    have hch : Chg (fun _ => False) w w3 := (K4.out.old N2.out (fun i e => by omega)).trans M3.out.chg (fun _ _ h => h)
    have HC := Lib.hid hch
    have R3 : Hid (Rd w3 .u8 A (l.take N)) := (hr.out.below hch.done).take N
    have HT : Hid (decide (vb X.toNat = l.take N) = true) := by rw [Hid, f1]; simp
    have HTL : Hid (N = (l.take N).length) := by rw [Hid, List.length_take]; omega
    have HL3 : Hid ((vb X.toNat).length ≤ 140737488355328) := Nat.le_trans (vb_len10 (by have := HR.out; omega)) (by decide)
    have c1 : decide ((N : Int) < 1) = false := by simp; omega
    have c2 : decide ((10 : Int) < (N : Int)) = false := by simp; omega
    have c3 : decide (l.length < N) = false := by simp; omega
    have c3' : N ≤ l.length := f6
    have c4 : (N : Int) ≤ (c : Int) := by omega
    have c5 : (0 : Int) ≤ (N : Int) := by omega
    have L3 : Hid (n3 = (vb X.toNat).length) := M3.out.len
    have R4 : Hid (Rd w3 .u8 A3 (vb X.toNat)) := M3.out.rd
    clear f1 f2 f3 f4 f5 f6 q3 hch
    go_wp2_with fail
    refine (sameBytes' L3 HTL HL3 R4 R3 HT).mono ?_
    rintro e w4 ⟨rfl, nq, rfl⟩
    go_wp2_with fail
    refine (appendUintNil _ _ hx0 (by have := HX.out; omega)).mono ?_
    rintro e w4 ⟨A1, n1, c1, rfl, m3⟩
    have P1 := Lib.hid m3
    clear m3
    go_wp2_with fail
    refine (appendUintNil _ _ hy0 (by have := HY.out; omega)).mono ?_
    rintro e w5 ⟨A2, n2, c2, rfl, m3⟩
    have P2 := Lib.hid m3
    clear m3
    have hch2 : Hid (Chg (fun _ => False) w w5) := ((HC.out.drewN _).trans P1.out.chg (fun _ _ h => h)).trans P2.out.chg (fun _ _ h => h)
    have j1 : Hid (n1 = (vb x.toNat).length) := P1.out.len
    have j2 : Hid (n2 = (vb y.toNat).length) := P2.out.len
    have j3 : Hid ((vb x.toNat).length ≤ 10) := vb_len10 (by have := HX.out; omega)
    have j4 : 0 < n1 := by have := vb_pos x.toNat; have := j1.out; omega
    have j5 : decide ((0 : Int) < (n1 : Int)) = true := by simp; omega
    have j6 : ((n1 : Int) == 0) = false := by simp; omega
    by_cases hlt : n2 < n1
    · have j7 : decide (n2 < n1) = true := by simp; omega
      go_wp2_with fail
      go_ret
      exact ⟨rfl, hch2.out.done⟩
    · have j7 : decide (n2 < n1) = false := by simp; omega
      have j8 : (n1 : Int) ≤ (c2 : Int) := by have := P2.out.cap; omega
      have j9 : Hid (n1 = ((vb y.toNat).take n1).length) := by rw [Hid, List.length_take, ← j2.out]; omega
      have q1 : Hid (Rd w5 .u8 A1 (vb x.toNat)) := P1.out.rd.chg P2.out.chg (fun _ _ _ h => h)
      have q2 : Hid (Rd w5 .u8 A2 ((vb y.toNat).take n1)) := P2.out.rd.take n1
      have q3 : Hid ((vb x.toNat).length ≤ 140737488355328) := Nat.le_trans j3.out (by decide)
      have q4 : Hid (decide (vb x.toNat = (vb y.toNat).take n1) = decide (x = y)) := by
        rw [Hid, j1.out]
        exact octetOnlyTail x y hx0 HX.out hy0 HY.out (by rw [← j1.out, ← j2.out]; exact hlt)
      go_wp2_with fail
      refine (sameBytes' j1 j9 q3 q1 q2 q4).mono ?_
      rintro e w6 ⟨rfl, nq2, rfl⟩
      have q5 : (decide (x = y) == (x == y)) = true := by by_cases h : x = y <;> simp [h]
      go_wp2_with fail
      go_ret
      exact ⟨rfl, (hch2.out.drewN _).done⟩
  · have hz := hno he
    simp only [Prod.mk.injEq] at hz
    obtain ⟨rfl, rfl, _⟩ := hz
    have he1 : (er == 0) = false := by simp [he]
    have HE := Lib.hid he
    clear hrng hno he
    go_enter Try.func4, Try.ntmps4
    go_wp2_with fail
    refine (newReader' (show Hid _ from rfl) hle hr).mono ?_
    rintro e w1 ⟨g, v, rfl, k1, k2, k3, k4⟩
    have K1 := Lib.hid k1; have K2 := Lib.hid k2; have K3 := Lib.hid k3; have K4 := Lib.hid k4
    clear k1 k2 k3 k4
    go_wp2_with fail
    refine (uintTo HU (show Hid (0 + 0 = 0) from rfl) K1).mono ?_
    rintro e w2 ⟨rfl, k1, k2⟩
    have N1 := Lib.hid k1; have N2 := Lib.hid k2
    clear k1 k2
    go_wp2_with fail
    refine (place _ _ _ _ _ N1).mono ?_
    rintro e w3 ⟨rfl, rfl⟩
    have HC : Hid (Chg (fun _ => False) w w2) := K4.out.old N2.out (fun i e => by have := K2.out; omega)
    go_wp2_with fail
    refine (appendUintNil _ _ hx0 (by have := HX.out; omega)).mono ?_
    rintro e w4 ⟨A1, n1, c1, rfl, m3⟩
    have P1 := Lib.hid m3
    clear m3
    go_wp2_with fail
    refine (appendUintNil _ _ hy0 (by have := HY.out; omega)).mono ?_
    rintro e w5 ⟨A2, n2, c2, rfl, m3⟩
    have P2 := Lib.hid m3
    clear m3
    have hch2 : Hid (Chg (fun _ => False) w w5) := (HC.out.trans P1.out.chg (fun _ _ h => h)).trans P2.out.chg (fun _ _ h => h)
    have j1 : Hid (n1 = (vb x.toNat).length) := P1.out.len
    have j2 : Hid (n2 = (vb y.toNat).length) := P2.out.len
    have j3 : Hid ((vb x.toNat).length ≤ 10) := vb_len10 (by have := HX.out; omega)
    have j4 : 0 < n1 := by have := vb_pos x.toNat; have := j1.out; omega
    have j5 : decide ((0 : Int) < (n1 : Int)) = true := by simp; omega
    have j6 : ((n1 : Int) == 0) = false := by simp; omega
    by_cases hlt : n2 < n1
    · have j7 : decide (n2 < n1) = true := by simp; omega
      go_wp2_with fail
      go_ret
      exact ⟨rfl, hch2.out.done⟩
    · have j7 : decide (n2 < n1) = false := by simp; omega
      have j8 : (n1 : Int) ≤ (c2 : Int) := by have := P2.out.cap; omega
      have j9 : Hid (n1 = ((vb y.toNat).take n1).length) := by rw [Hid, List.length_take, ← j2.out]; omega
      have q1 : Hid (Rd w5 .u8 A1 (vb x.toNat)) := P1.out.rd.chg P2.out.chg (fun _ _ _ h => h)
      have q2 : Hid (Rd w5 .u8 A2 ((vb y.toNat).take n1)) := P2.out.rd.take n1
      have q3 : Hid ((vb x.toNat).length ≤ 140737488355328) := Nat.le_trans j3.out (by decide)
      have q4 : Hid (decide (vb x.toNat = (vb y.toNat).take n1) = decide (x = y)) := by
        rw [Hid, j1.out]
        exact octetOnlyTail x y hx0 HX.out hy0 HY.out (by rw [← j1.out, ← j2.out]; exact hlt)
      go_wp2_with fail
      refine (sameBytes' j1 j9 q3 q1 q2 q4).mono ?_
      rintro e w6 ⟨rfl, nq2, rfl⟩
      have q5 : (decide (x = y) == (x == y)) = true := by by_cases h : x = y <;> simp [h]
      go_wp2_with fail
      go_ret
      exact ⟨rfl, (hch2.out.drewN _).done⟩
end Go.Proofs.Ytcljbaoadmflgaa.Kit
