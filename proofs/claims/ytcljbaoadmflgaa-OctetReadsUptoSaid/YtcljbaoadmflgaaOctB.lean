/- The laws' helpers written and reads. -/
import Derived.Test.YtcljbaoadmflgaaProg
import Derived.Test.YtcljbaoadmflgaaOpenS
import Derived.Test.YtcljbaoadmflgaaOctL1
import Derived.Test.YtcljbaoadmflgaaOctT
import Derived.Test.YtcljbaoadmflgaaOctX
import Derived.Test.YtcljbaoadmflgaaPlainB
import Derived.IntWalk
import Derived.Lib.Hide
set_option linter.unusedVariables false
set_option linter.unusedSimpArgs false
namespace Go.Proofs.Ytcljbaoadmflgaa.Kit
open Go.RowKit
theorem textOk {g : Nat} {v : Value} {l : List Int} {at_ : Nat} {limit : Int} {w : World} {n k a2 : Nat} {s : ByteArray} (h0 : 0 ≤ limit) (hl : limit ≤ 9223372036854775807) (hu : Hid (urd (l.drop at_) limit = ((k : Int), n, 0))) (hle : Hid (at_ + n + k ≤ l.length)) (hs : Hid (strOf ((l.drop (at_ + n)).take k) = s)) (ha : Hid (at_ + n + k = a2)) (h : Hid (Rdr w g v l at_)) :
    Calls Try.prog 33 #[.pointer (some ⟨g, 0, none⟩), .int .i64 limit] w fun e w' => e = .returned (.tuple #[.string s, .int .i64 0]) ∧ Rdr w' g v l a2 ∧ Chg (· = g) w w' :=
  (text g v l at_ limit w hl h).mono fun e w' ⟨s', at2, er, he, k1, k2, k3⟩ => by
    have hle := hle.out
    rw [hu.out] at k3
    simp only at k3
    rcases k3 with ⟨h, _⟩ | ⟨_, h, _, _, h'⟩ | ⟨_, _, h, _⟩ | ⟨_, _, _, h1, h2, h3⟩
    · omega
    · exact absurd h' h
    · omega
    · rw [Int.toNat_natCast] at h2 h3
      rw [h2, hs.out] at he
      rw [h3, ha.out] at k1
      rw [h1] at he
      exact ⟨he, k1, k2⟩
theorem textBad {g : Nat} {v : Value} {l : List Int} {at_ : Nat} {limit : Int} {w : World} (h0 : 0 ≤ limit) (hl : limit ≤ 9223372036854775807) (hu : Hid ((urd (l.drop at_) limit).2.2 ≠ 0 ∨ (l.length : Int) - (at_ + (urd (l.drop at_) limit).2.1 : Nat) < (urd (l.drop at_) limit).1)) (h : Hid (Rdr w g v l at_)) :
    Calls Try.prog 33 #[.pointer (some ⟨g, 0, none⟩), .int .i64 limit] w fun e w' => ∃ s er, e = .returned (.tuple #[.string s, .int .i64 er]) ∧ (er == 0) = false ∧ Rdr w' g v l at_ ∧ Chg (· = g) w w' :=
  (text g v l at_ limit w hl h).mono fun e w' ⟨s', at2, er, he, k1, k2, k3⟩ => by
    rcases k3 with ⟨h, _⟩ | ⟨_, h, _, h2, _⟩ | ⟨_, h1, h, _, h2, h3⟩ | ⟨_, h1, h2, _⟩
    · omega
    · exact ⟨_, er, he, by simpa using h, h2 ▸ k1, k2⟩
    · exact ⟨_, er, he, by rw [h2]; rfl, h3 ▸ k1, k2⟩
    · rcases hu.out with h | h
      · exact absurd h1 h
      · omega
/-- an item as a value -/
def ItemV.val (o : ItemV) : Value := .agg #[.int .i64 o.kind, .int .u64 o.x, .int .i64 o.y, .string o.s]
theorem uintBad {g : Nat} {v : Value} {l : List Int} {at_ : Nat} {limit : Int} {w : World} (hu : Hid ((urd (l.drop at_) limit).2.2 ≠ 0)) (h : Hid (Rdr w g v l at_)) :
    Calls Try.prog 25 #[.pointer (some ⟨g, 0, none⟩), .int .u64 limit] w fun e w' => ∃ er, e = .returned (.tuple #[.int .u64 0, .int .i64 er]) ∧ (er == 0) = false ∧ Rdr w' g v l at_ ∧ Chg (· = g) w w' :=
  (uint' (show Hid (urd (l.drop at_) limit = (0, 0, (urd (l.drop at_) limit).2.2)) from urd_n _ _ hu.out) h).mono fun e w' ⟨he, k1, k2⟩ => ⟨_, he, by simpa using hu.out, k1, k2⟩
theorem intBad {g : Nat} {v : Value} {l : List Int} {at_ : Nat} {w : World} (hu : Hid ((urd (l.drop at_) 18446744073709551615).2.2 ≠ 0)) (h : Hid (Rdr w g v l at_)) :
    Calls Try.prog 27 #[.pointer (some ⟨g, 0, none⟩)] w fun e w' => ∃ y er, e = .returned (.tuple #[.int .i64 y, .int .i64 er]) ∧ (er == 0) = false ∧ Rdr w' g v l at_ ∧ Chg (· = g) w w' :=
  (int' (show Hid (urd (l.drop at_) 18446744073709551615 = (0, 0, (urd (l.drop at_) 18446744073709551615).2.2)) from urd_n _ _ hu.out) (show Hid (uz 0 = _) from rfl) h).mono fun e w' ⟨he, k1, k2⟩ => ⟨_, _, he, by simpa using hu.out, k1, k2⟩
set_option maxHeartbeats 1600000 in
theorem readsOk {g : Nat} {v : Value} {l : List Int} {at_ a2 : Nat} {w : World} (K X Y : Int) (s : ByteArray) {rest : List Int} (ho : (ItemV.mk K X Y s).ok) (hs : s.size ≤ 1048576) (hd : Hid (l.drop at_ = (ItemV.mk K X Y s).enc ++ rest)) (hr : Hid (Byt rest)) (ha : Hid (at_ + (ItemV.mk K X Y s).enc.length = a2)) (h : Hid (Rdr w g v l at_)) :
    Calls Try.prog 35 #[.pointer (some ⟨g, 0, none⟩), .agg #[.int .i64 K, .int .u64 X, .int .i64 Y, .string s]] w fun e w' => e = .returned (.bool true) ∧ Rdr w' g v l a2 ∧ Chg (· = g) w w' := by
  obtain ⟨_, ⟨x0, x1⟩, y0, y1⟩ := ho
  simp only at x0 x1 y0 y1
  unfold ItemV.enc ItemV.sel at hd ha
  simp only at hd ha
  have hx : Hid (Rdr (w.alloc (.cells #[.int .i64 K, .int .u64 X, .int .i64 Y, .string s] 66)) g v l at_) := h.out.chg (S := fun _ => False) ((Chg.refl _ w).alloc _) id (fun _ _ => id)
  by_cases h0 : Go.bits .and .i64 K 3 = 0
  · rw [if_pos h0] at hd ha
    have hu : Hid (urd (l.drop at_) X = (X, (vb X.toNat).length, 0)) := by
      have := urd_vb (n := X.toNat) (limit := X) (by omega) (by omega) hr.out
      rw [Hid, hd.out, this, Int.toNat_of_nonneg x0]
    clear hd x1
    go_enter Try.func35, Try.ntmps35
    go_wp2_with (go_at_call 25; go_must (refine (uintTo hu ha hx).mono ?_); rintro e w7 ⟨rfl, k1, k2⟩; have U1 := Lib.hid k1; have U2 := Lib.hid k2; clear k1 k2; have c1 := (((Blk.new w #[.int .i64 K, .int .u64 X, .int .i64 Y, .string s] 66).chg U2.out (fun e => by have := h.out.blk.lt; omega)).at_ (i := 1) rfl))
    go_ret
    exact ⟨rfl, U1.out, ((Chg.refl _ w).alloc _).trans U2.out (fun _ _ h => h)⟩
  · rw [if_neg h0] at hd ha
    have h0' : (Go.bits .and .i64 K 3 == 0) = false := by simpa using h0
    by_cases h1 : Go.bits .and .i64 K 3 = 1
    · rw [if_pos h1] at hd ha
      have hu : Hid (urd (l.drop at_) 18446744073709551615 = (zz Y, (vb (zz Y).toNat).length, 0)) := by
        have z0 := zz_nonneg Y
        have z1 := zz_lt y0 y1
        have := urd_vb (n := (zz Y).toNat) (limit := 18446744073709551615) z1 (by omega) hr.out
        rw [Hid, hd.out, this, Int.toNat_of_nonneg z0]
      rw [← (show Hid (at_ + (vb (zz Y).toNat).length = a2) from ha).out]
      clear hd x1 y0 y1
      go_enter Try.func35, Try.ntmps35
      go_wp2_with (go_at_call 27; go_must (refine (int' hu (show Hid (uz (zz Y) = Y) from uz_zz Y) hx).mono ?_); rintro e w7 ⟨rfl, k1, k2⟩; have U1 := Lib.hid k1; have U2 := Lib.hid k2; clear k1 k2; have c1 := (((Blk.new w #[.int .i64 K, .int .u64 X, .int .i64 Y, .string s] 66).chg U2.out (fun e => by have := h.out.blk.lt; omega)).at_ (i := 2) rfl))
      go_ret
      exact ⟨rfl, U1.out, ((Chg.refl _ w).alloc _).trans U2.out (fun _ _ h => h)⟩
    · rw [if_neg h1] at hd ha
      have h1' : (Go.bits .and .i64 K 3 == 1) = false := by simpa using h1
      have hu : Hid (urd (l.drop at_) (s.size : Int) = ((s.size : Int), (vb s.size).length, 0)) := by
        have := urd_vb (n := s.size) (limit := (s.size : Int)) (rest := bytesOf s ++ rest) (by omega) (by omega) (fun n hn => (List.mem_append.1 hn).elim (bytesOf_byt s n) (hr.out n))
        rw [Hid, hd.out, List.append_assoc, this]
      have hdd : l.drop (at_ + (vb s.size).length) = bytesOf s ++ rest := by
        rw [← List.drop_drop, hd.out, List.append_assoc, List.drop_left]
      have hle : Hid (at_ + (vb s.size).length + s.size ≤ l.length) := by
        have := congrArg List.length hd.out
        rw [List.length_drop, List.length_append, List.length_append, bytesOf_length] at this
        have := vb_pos s.size
        rw [Hid]
        omega
      have hss : Hid (strOf ((l.drop (at_ + (vb s.size).length)).take s.size) = s) := by
        rw [Hid, hdd, List.take_left' (bytesOf_length s), strOf_bytesOf]
      have ha' : Hid (at_ + (vb s.size).length + s.size = a2) := by
        have := ha.out
        rw [List.length_append, bytesOf_length] at this
        rw [Hid]
        omega
      clear hd x1 y0 y1 hdd
      go_enter Try.func35, Try.ntmps35
      go_wp2_with (go_at_call 33; go_must (refine (textOk (by omega) (by omega) hu hle hss ha' hx).mono ?_); rintro e w7 ⟨rfl, k1, k2⟩; have U1 := Lib.hid k1; have U2 := Lib.hid k2; clear k1 k2; have c1 := (((Blk.new w #[.int .i64 K, .int .u64 X, .int .i64 Y, .string s] 66).chg U2.out (fun e => by have := h.out.blk.lt; omega)).at_ (i := 3) rfl))
      go_ret
      exact ⟨rfl, U1.out, ((Chg.refl _ w).alloc _).trans U2.out (fun _ _ h => h)⟩
set_option maxHeartbeats 1600000 in
theorem readsCut {g : Nat} {v : Value} {l : List Int} {at_ k : Nat} {w : World} (K X Y : Int) (s : ByteArray) (ho : (ItemV.mk K X Y s).ok) (hs : s.size ≤ 1048576) (hd : Hid (l.drop at_ = (ItemV.mk K X Y s).enc.take k)) (hk : Hid (k < (ItemV.mk K X Y s).enc.length)) (h : Hid (Rdr w g v l at_)) :
    Calls Try.prog 35 #[.pointer (some ⟨g, 0, none⟩), .agg #[.int .i64 K, .int .u64 X, .int .i64 Y, .string s]] w fun e w' => e = .returned (.bool false) ∧ Rdr w' g v l at_ ∧ Chg (· = g) w w' := by
  obtain ⟨_, ⟨x0, x1⟩, y0, y1⟩ := ho
  simp only at x0 x1 y0 y1
  unfold ItemV.enc ItemV.sel at hd hk
  simp only at hd hk
  have hx : Hid (Rdr (w.alloc (.cells #[.int .i64 K, .int .u64 X, .int .i64 Y, .string s] 66)) g v l at_) := h.out.chg (S := fun _ => False) ((Chg.refl _ w).alloc _) id (fun _ _ => id)
  by_cases h0 : Go.bits .and .i64 K 3 = 0
  · rw [if_pos h0] at hd hk
    have hu : Hid ((urd (l.drop at_) X).2.2 ≠ 0) := by
      rw [Hid, hd.out]
      exact urd_cut (by omega) hk.out
    clear hd hk x1
    go_enter Try.func35, Try.ntmps35
    go_wp2_with (go_at_call 25; go_must (refine (uintBad hu hx).mono ?_); rintro e w7 ⟨er, rfl, he, k1, k2⟩; have U1 := Lib.hid k1; have U2 := Lib.hid k2; clear k1 k2; have c1 := (((Blk.new w #[.int .i64 K, .int .u64 X, .int .i64 Y, .string s] 66).chg U2.out (fun e => by have := h.out.blk.lt; omega)).at_ (i := 1) rfl))
    go_ret
    exact ⟨rfl, U1.out, ((Chg.refl _ w).alloc _).trans U2.out (fun _ _ h => h)⟩
  · rw [if_neg h0] at hd hk
    have h0' : (Go.bits .and .i64 K 3 == 0) = false := by simpa using h0
    by_cases h1 : Go.bits .and .i64 K 3 = 1
    · rw [if_pos h1] at hd hk
      have hu : Hid ((urd (l.drop at_) 18446744073709551615).2.2 ≠ 0) := by
        rw [Hid, hd.out]
        exact urd_cut (zz_lt y0 y1) hk.out
      clear hd hk x1 y0 y1
      go_enter Try.func35, Try.ntmps35
      go_wp2_with (go_at_call 27; go_must (refine (intBad hu hx).mono ?_); rintro e w7 ⟨y', er, rfl, he, k1, k2⟩; have U1 := Lib.hid k1; have U2 := Lib.hid k2; clear k1 k2; have c1 := (((Blk.new w #[.int .i64 K, .int .u64 X, .int .i64 Y, .string s] 66).chg U2.out (fun e => by have := h.out.blk.lt; omega)).at_ (i := 2) rfl))
      go_ret
      exact ⟨rfl, U1.out, ((Chg.refl _ w).alloc _).trans U2.out (fun _ _ h => h)⟩
    · rw [if_neg h1] at hd hk
      have h1' : (Go.bits .and .i64 K 3 == 1) = false := by simpa using h1
      have hu : Hid ((urd (l.drop at_) (s.size : Int)).2.2 ≠ 0 ∨ (l.length : Int) - (at_ + (urd (l.drop at_) (s.size : Int)).2.1 : Nat) < (urd (l.drop at_) (s.size : Int)).1) := by
        by_cases hlt : k < (vb s.size).length
        · left
          rw [hd.out, List.take_append_of_le_length (by omega)]
          exact urd_cut (by omega) hlt
        · right
          have hq := hk.out
          rw [List.length_append, bytesOf_length] at hq
          have hl := congrArg List.length hd.out
          rw [List.length_drop, List.length_take, List.length_append, bytesOf_length] at hl
          rw [hd.out, List.take_append, List.take_of_length_le (by omega), urd_vb (by omega) (by omega) (fun n hn => bytesOf_byt s n (List.mem_of_mem_take hn))]
          have := vb_pos s.size
          simp only
          omega
      clear hd hk x1 y0 y1
      go_enter Try.func35, Try.ntmps35
      go_wp2_with (go_at_call 33; go_must (refine (textBad (by omega) (by omega) hu hx).mono ?_); rintro e w7 ⟨s', er, rfl, he, k1, k2⟩; have U1 := Lib.hid k1; have U2 := Lib.hid k2; clear k1 k2; have c1 := (((Blk.new w #[.int .i64 K, .int .u64 X, .int .i64 Y, .string s] 66).chg U2.out (fun e => by have := h.out.blk.lt; omega)).at_ (i := 3) rfl))
      go_ret
      exact ⟨rfl, U1.out, ((Chg.refl _ w).alloc _).trans U2.out (fun _ _ h => h)⟩
theorem infoI64 : (Try.prog.info? 3).map (fun i => (i.zero, i.size, i.bytes)) = some (some (.int .i64 0), 1, 8) := by kernel_rfl
/-- two rows of the call's own in two blocks -/
def Apart (v1 v2 : Value) : Prop := ∀ g, v1.ownBlock = some g → v2.ownBlock = some g → False
theorem written_next {w wr w1 w2 : World} {b n b' n' : Value} {p p' : List Int} {q q' : List Int} {e1 e2 : TypeId} (R1 : Own wr e1 .u8 b p) (R2 : Own wr e2 .i64 n q) (R3 : Apart b n) (R4 : ∀ g, b.ownBlock = some g → w.heap.size ≤ g) (R5 : ∀ g, n.ownBlock = some g → w.heap.size ≤ g) (R6 : Chg (fun _ => False) w wr)
    (N1 : Own w1 e1 .u8 b' p') (N3 : Chg (fun g => b.ownBlock = some g) wr w1) (N4 : Fresh wr b b') (M1 : Own w2 e2 .i64 n' q') (M3 : Chg (fun g => n.ownBlock = some g) w1 w2) (M4 : Fresh w1 n n') :
    Hid (Own w2 e1 .u8 b' p') ∧ Hid (Own w2 e2 .i64 n' q') ∧ Hid (Apart b' n') ∧ Hid (∀ g, b'.ownBlock = some g → w.heap.size ≤ g) ∧ Hid (∀ g, n'.ownBlock = some g → w.heap.size ≤ g) ∧ Hid (Chg (fun _ => False) w w2) := by
  have hbn : Apart b' n := fun g h h' => by
    rcases N4 with k | k
    · exact R3 g (k ▸ h) h'
    · have h1 := k g h
      have h2 := R2.lt g h'
      omega
  refine ⟨N1.chg M3 (fun g h h' => hbn g h h'), M1, fun g h h' => ?_, N4.ge R4 R6.size, M4.ge R5 (Nat.le_trans R6.size N3.size), (R6.fresh N3 R4).fresh M3 R5⟩
  rcases M4 with k | k
  · exact hbn g h (k ▸ h')
  · have h1 := k g h'
    have h2 := N1.lt g h
    omega
set_option maxHeartbeats 1600000 in
set_option maxRecDepth 20000 in
theorem written (w : World) (B : Option Addr) (d : Nat) (os : List ItemV) (ho : Hid (RdItems w B os)) (hs : ∀ o ∈ os, o.s.size ≤ 1048576) (hol : os.length ≤ 1048576) (hod : os.length ≤ d) :
    Calls Try.prog 34 #[.slice B os.length d] w fun e w' => ∃ A1 c1 A2 c2, e = .returned (.tuple #[.slice A1 (encAll os).length c1, .slice A2 os.length c2]) ∧ Rd w' .u8 A1 (encAll os) ∧ (encAll os).length ≤ c1 ∧ Rd w' .i64 A2 (endsOf os os.length) ∧ Chg (fun _ => False) w w' := by
  have hall : Hid (∀ o ∈ os, o.ok ∧ o.s.size ≤ 1048576) := fun o hm => by
    obtain ⟨i, hi, rfl⟩ := List.getElem_of_mem hm
    obtain ⟨_, _, _, _, _, _, h⟩ := ho.out i hi
    exact ⟨h, hs _ hm⟩
  have hlen : Hid (∀ k, (encAll (os.take k)).length ≤ 1099522179072) := fun k => encAll_take_len os hall.out hol k
  go_enter Try.func34, Try.ntmps34
  go_wp2
  go_loopw [4, 5, 6] (fun b n i wr => ∃ k : Nat, k ≤ os.length ∧ i = .int .i64 k ∧ Hid (OwnB wr b (encAll (os.take k))) ∧ Hid (Own wr 3 .i64 n (endsOf os k)) ∧ Hid (Apart b n) ∧ Hid (∀ g, b.ownBlock = some g → w.heap.size ≤ g) ∧ Hid (∀ g, n.ownBlock = some g → w.heap.size ≤ g) ∧ Hid (Chg (fun _ => False) w wr)) (fun _ _ i _ => os.length - (intOf i).toNat)
  case atStart => exact ⟨0, Nat.zero_le _, rfl, Own.nil _ _ _, Own.nil _ _ _, fun g h => by simp [Value.ownBlock] at h, fun g h => by simp [Value.ownBlock] at h, fun g h => by simp [Value.ownBlock] at h, Chg.refl _ _⟩
  case round =>
    obtain ⟨k, hk, rfl, R1, R2, R3, R4, R5, R6⟩ := hrel
    by_cases hlt : k < os.length
    · obtain ⟨ad, rfl, f0, f1, f2, f3, fo⟩ := ho.out.below R6.out.done k hlt
      have hE := encAll_succ os k hlt
      have hl0 := hlen.out k
      have hS := (hall.out os[k] (List.getElem_mem hlt)).2
      unfold ItemV.enc ItemV.sel at hE
      obtain ⟨_, ⟨o3, o4⟩, o5, o6⟩ := fo
      generalize os[k].kind = K at f0 hE
      generalize os[k].x = X at f1 hE o3 o4
      generalize os[k].y = Y at f2 hE o5 o6
      generalize os[k].s = s at f3 hE hS
      have hE := Lib.hid hE
      have b1 : (0 : Int) ≤ (k : Int) := by omega
      have b2 : (k : Int) < (os.length : Int) := by omega
      have hX : (vb X.toNat).length ≤ 10 := vb_len10 (by omega)
      have hlU : (encAll (os.take k)).length + (vb X.toNat).length ≤ 140737488355328 := by omega
      have hlI : (encAll (os.take k)).length + 10 ≤ 140737488355328 := by omega
      have hlT : (encAll (os.take k)).length + 10 + s.size ≤ 140737488355328 := by omega
      have HU := Lib.hid hlU
      have HI := Lib.hid hlI
      have HT := Lib.hid hlT
      clear hlU hlI hlT hX hl0
      by_cases h0 : Go.bits .and .i64 K 3 = 0
      · simp only [if_pos h0] at hE
        go_wp2_with fail
        refine (appendUint' _ _ _ _ o3 R1 HU.out).mono ?_
        rintro e w1 ⟨v', rfl, k1, _, k3, k4⟩
        rw [← hE.out] at k1
        obtain ⟨A1, c1, hv, _, _⟩ := Own.slice k1
        obtain ⟨n1, hn1⟩ : ∃ n1 : Nat, n1 = (encAll (os.take (k + 1))).length := ⟨_, rfl⟩
        rw [← hn1] at hv
        subst hv
        have HN1 := Lib.hid hn1
        clear hn1
        have N1 := Lib.hid k1; have N3 := Lib.hid k3; have N4 := Lib.hid k4
        clear k1 k3 k4
        have O2 : Hid (Own w1 3 .i64 u5 (endsOf os k)) := R2.out.chg N3.out (fun g h h' => R3.out g h' h)
        go_wp2_with (at_builtin; go_must (refine wp_app1 rfl _ _ 62 3 .i64 8 rfl Try.underlying62 infoI64 (by decide) u5 (endsOf os k) _ rfl O2.out rfl ?b1 ?_); (case b1 => rw [endsOf_length]; omega); intro v2 w2 k1 k2 k3 k4; rw [HN1.out, ← endsOf_succ] at k1; have M1 := Lib.hid k1; have M3 := Lib.hid k3; have M4 := Lib.hid k4; clear k1 k2 k3 k4)
        go_roundw
        case rel => exact ⟨k + 1, by omega, by go_num, written_next R1.out R2.out R3.out R4.out R5.out R6.out N1.out N3.out N4.out M1.out M3.out M4.out⟩
        case measure => simp [intOf]; omega
      · simp only [if_neg h0] at hE
        have h0' : (Go.bits .and .i64 K 3 == 0) = false := by simpa using h0
        by_cases h1 : Go.bits .and .i64 K 3 = 1
        · simp only [if_pos h1] at hE
          go_wp2_with fail
          refine (appendInt _ _ _ _ o5 o6 R1 HI.out).mono ?_
          rintro e w1 ⟨v', rfl, k1, _, k3, k4⟩
          rw [← hE.out] at k1
          obtain ⟨A1, c1, hv, _, _⟩ := Own.slice k1
          obtain ⟨n1, hn1⟩ : ∃ n1 : Nat, n1 = (encAll (os.take (k + 1))).length := ⟨_, rfl⟩
          rw [← hn1] at hv
          subst hv
          have HN1 := Lib.hid hn1
          clear hn1
          have N1 := Lib.hid k1; have N3 := Lib.hid k3; have N4 := Lib.hid k4
          clear k1 k3 k4
          have O2 : Hid (Own w1 3 .i64 u5 (endsOf os k)) := R2.out.chg N3.out (fun g h h' => R3.out g h' h)
          go_wp2_with (at_builtin; go_must (refine wp_app1 rfl _ _ 62 3 .i64 8 rfl Try.underlying62 infoI64 (by decide) u5 (endsOf os k) _ rfl O2.out rfl ?b1 ?_); (case b1 => rw [endsOf_length]; omega); intro v2 w2 k1 k2 k3 k4; rw [HN1.out, ← endsOf_succ] at k1; have M1 := Lib.hid k1; have M3 := Lib.hid k3; have M4 := Lib.hid k4; clear k1 k2 k3 k4)
          go_roundw
          case rel => exact ⟨k + 1, by omega, by go_num, written_next R1.out R2.out R3.out R4.out R5.out R6.out N1.out N3.out N4.out M1.out M3.out M4.out⟩
          case measure => simp [intOf]; omega
        · simp only [if_neg h1] at hE
          have h1' : (Go.bits .and .i64 K 3 == 1) = false := by simpa using h1
          go_wp2_with fail
          refine (appendText _ _ _ _ (by omega) R1 HT.out).mono ?_
          rintro e w1 ⟨v', rfl, k1, _, k3, k4⟩
          rw [← hE.out] at k1
          obtain ⟨A1, c1, hv, _, _⟩ := Own.slice k1
          obtain ⟨n1, hn1⟩ : ∃ n1 : Nat, n1 = (encAll (os.take (k + 1))).length := ⟨_, rfl⟩
          rw [← hn1] at hv
          subst hv
          have HN1 := Lib.hid hn1
          clear hn1
          have N1 := Lib.hid k1; have N3 := Lib.hid k3; have N4 := Lib.hid k4
          clear k1 k3 k4
          have O2 : Hid (Own w1 3 .i64 u5 (endsOf os k)) := R2.out.chg N3.out (fun g h h' => R3.out g h' h)
          go_wp2_with (at_builtin; go_must (refine wp_app1 rfl _ _ 62 3 .i64 8 rfl Try.underlying62 infoI64 (by decide) u5 (endsOf os k) _ rfl O2.out rfl ?b1 ?_); (case b1 => rw [endsOf_length]; omega); intro v2 w2 k1 k2 k3 k4; rw [HN1.out, ← endsOf_succ] at k1; have M1 := Lib.hid k1; have M3 := Lib.hid k3; have M4 := Lib.hid k4; clear k1 k2 k3 k4)
          go_roundw
          case rel => exact ⟨k + 1, by omega, by go_num, written_next R1.out R2.out R3.out R4.out R5.out R6.out N1.out N3.out N4.out M1.out M3.out M4.out⟩
          case measure => simp [intOf]; omega
    · obtain rfl : k = os.length := by omega
      obtain ⟨A1, c1, rfl, q1, _⟩ := R1.out.slice
      obtain ⟨A2, c2, rfl, _, _⟩ := R2.out.slice
      go_wp2
      go_ret2
      have z1 := R1.out.rd rfl
      have z2 := R2.out.rd rfl
      rw [List.take_length] at z1 q1 ⊢
      rw [endsOf_length]
      exact ⟨_, _, _, _, rfl, z1, q1, z2, R6.out⟩
end Go.Proofs.Ytcljbaoadmflgaa.Kit
