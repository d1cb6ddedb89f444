/- The walk of OctetSeals. -/
import Derived.Test.YtcljbaoadmflgaaProg
import Derived.Test.YtcljbaoadmflgaaHand
import Derived.Test.YtcljbaoadmflgaaTurn
import Derived.Test.YtcljbaoadmflgaaSeal
import Derived.Test.YtcljbaoadmflgaaSealR
import Derived.Test.YtcljbaoadmflgaaBookI
import Derived.Test.YtcljbaoadmflgaaOctS
import Derived.Deep.QuietTactic
import Derived.BigQuiet
import Derived.RegionTactic
import Derived.ChangeAlike
import Derived.BigRegion
set_option linter.unusedVariables false
set_option linter.unusedSimpArgs false
namespace Go.Proofs.Ytcljbaoadmflgaa.Kit
open Go.RowKit
theorem sealOf_len (s : ByteArray) (l : List SecV) {N : Nat} (hN : (secsEnc l).length ≤ N) (hl : l.length ≤ 1048576) : (sealOf s l).1.length ≤ N + 22 := by
  unfold sealOf
  split
  · simp
  · rename_i h8
    split
    · rw [List.length_append, headOf_length, sumB_length]
      have h1 : (vb l.length).length ≤ 10 := vb_len10 (by omega)
      omega
    · simp
theorem secsEnc_bound (l : List SecV) (hl : l.length ≤ 1048576) (hb : ∀ x ∈ l, x.body.length ≤ 1048576) (hr : ∀ x ∈ l, x.id ≤ 9223372036854775807) : (secsEnc l).length ≤ 1099532599296 := by
  have h1 := secsEnc_take_len l 1048596 (fun x hx => by
    have h1 : (vb x.id.toNat).length ≤ 10 := vb_len10 (by have := hr x hx; omega)
    have h2 : (vb x.body.length).length ≤ 10 := vb_len10 (by have := hb x hx; omega)
    have h3 := hb x hx
    simp only [SecV.enc, List.length_append]
    omega) l.length
  rw [List.take_length] at h1
  exact Nat.le_trans h1 (Nat.le_trans (Nat.mul_le_mul_right _ hl) (by decide))
theorem RdSecs.all {w : World} {A : Option Addr} {l : List SecV} (h : RdSecs w A l) : (∀ x ∈ l, Byt x.body) ∧ ∀ x ∈ l, -9223372036854775808 ≤ x.id ∧ x.id ≤ 9223372036854775807 :=
  ⟨fun x hx => by
    obtain ⟨i, hi, rfl⟩ := List.getElem_of_mem hx
    obtain ⟨_, _, sa⟩ := h i hi
    exact sa.byt, fun x hx => by
    obtain ⟨i, hi, rfl⟩ := List.getElem_of_mem hx
    obtain ⟨_, _, sa⟩ := h i hi
    exact sa.rng⟩
theorem Handed.cap {w : World} {A : Option Addr} {n c : Nat} {b : Value} {l : List SecV} {now : List (List Int)} {gs : List Nat} (h : Handed w (.slice A n c) b l now gs) : n ≤ c ∧ c ≤ maxLen := by
  obtain ⟨A', c', hv, h1, h2⟩ := h.rowI.slice
  injection hv with h3 h4 h5
  subst h5
  exact ⟨by omega, h2⟩
theorem sealCall' {s : ByteArray} {A : Option Addr} {n c : Nat} {l : List SecV} {w : World} {S0 : List Int} {er : Int} (hS : Hid (sealOf s l = (S0, er))) (HN : Hid (n = l.length)) (hs : s.size ≤ 140737488355328) (hnl : n ≤ c) (hmx : c ≤ maxLen) (hr : Hid (RdSecs w A l)) (hB : Hid ((secsEnc l).length ≤ 140737488355200)) (hb : Hid (∀ x ∈ l, x.body.length ≤ 140737488355200)) :
    Calls Try.prog 40 #[.string s, .slice A n c] w fun e w' => ∃ A' n' c', e = .returned (.tuple #[.slice A' n' c', .int .i64 er]) ∧ Made w w' A' n' c' S0 := by
  have := sealCall s A n c l w HN hs hnl hmx hr hB hb
  rw [hS.out] at this
  exact this
theorem sealRef' {s : ByteArray} {A : Option Addr} {n c : Nat} {l : List SecV} {w : World} {S0 : List Int} {er : Int} (hS : Hid (sealOf s l = (S0, er))) (HN : Hid (n = l.length)) (hs : s.size ≤ 140737488355328) (hnl : n ≤ c) (hmx : c ≤ maxLen) (hr : Hid (RdSecs w A l)) (hB : Hid ((secsEnc l).length ≤ 140737488355200)) (hb : Hid (∀ x ∈ l, x.body.length ≤ 140737488355200)) :
    Calls Try.prog 41 #[.string s, .slice A n c] w fun e w' => ∃ A' n' c', e = .returned (.tuple #[.slice A' n' c', .int .i64 er]) ∧ Made w w' A' n' c' S0 := by
  have := sealRef s A n c l w HN hs hnl hmx hr hB hb
  rw [hS.out] at this
  exact this
theorem untouched' {A B : Option Addr} {c d n m : Nat} {b : List Int} {w : World} (hn : Hid (n = (b ++ marks).length)) (hm : Hid (m = b.length)) (hc : Hid (n ≤ c)) (hb : Hid (b.length ≤ 140737488351232)) (hr : Hid (Rd w .u8 A (b ++ marks))) (hr2 : Hid (Rd w .u8 B b)) :
    Calls Try.prog 38 #[.slice A n c, .slice B m d] w fun e w' => e = .returned (.bool true) ∧ ∃ n, w' = w.drewN n := by
  have := untouched A B c d n m (b ++ marks) b w hn.out hm.out hc.out (by rw [List.length_append, marks_length]) hb.out hr hr2
  rw [show decide (b ++ marks = b ++ marks) = true from decide_eq_true rfl] at this
  exact this
def hh : ByteArray := { data := #[104, 101, 97, 100, 104, 101, 97, 100] }
theorem hh_size : hh.size = 8 := rfl
set_option maxRecDepth 20000 in
set_option maxHeartbeats 6400000 in
theorem octetSealsWalk (w : World) (s : ByteArray) (hs : s.size ≤ 1048576) (A : Option Addr) (c : Nat) (l : List SecV) (hr : Hid (RdSecs w A l)) (hb : ∀ x ∈ l, x.body.length ≤ 1048576) (hl : l.length ≤ 1048576) (hc : l.length ≤ c) (hmx : c ≤ maxLen) :
    Calls Try.prog 11 #[.string s, .slice A l.length c] w fun e w' => e = .returned (.bool true) ∧ Below w.heap.size w w' := by
  obtain ⟨n, hn⟩ : ∃ n, n = l.length := ⟨_, rfl⟩
  have HN := Lib.hid hn
  have HB := Lib.hid hb
  have HALL := Lib.hid hr.out.all
  have HE : Hid ((secsEnc l).length ≤ 140737488355200) := Nat.le_trans (secsEnc_bound l hl hb (fun x hx => (HALL.out.2 x hx).2)) (by decide)
  have HS : Hid ((sealOf s l).1.length ≤ 1099532599318) := sealOf_len s l (secsEnc_bound l hl hb (fun x hx => (HALL.out.2 x hx).2)) hl
  have HB2 : Hid (∀ x ∈ l, x.body.length ≤ 140737488355200) := fun x hx => Nat.le_trans (hb x hx) (by decide)
  rw [← hn]
  rw [← hn] at hl hc
  clear hn hb
  go_enter Try.func11, Try.ntmps11
  go_wp2_with fail
  refine (handAll A n c l w HN hc hl hr HB).mono ?_
  rintro e w1 ⟨Ai, ci, Af, cf, gs, rfl, k1, k2, k3, k4, k5⟩
  have H1 := Lib.hid k1; have C1 := Lib.hid k2; have GS := Lib.hid k3; have FI := Lib.hid k4; have FF := Lib.hid k5
  obtain ⟨hci, hmi⟩ := k1.cap
  have RI : Hid (∀ W, Chg (fun _ => False) w1 W → RdSecs W Ai l) := fun W hW => (k1.chg0 hW).rd rfl (fun _ _ _ => rfl) (fun i h1 h2 => by simp) HALL.out.1 HALL.out.2 HB.out
  clear k1 k2 k3 k4 k5
  obtain ⟨S0, er, hS0⟩ : ∃ S0 er, sealOf s l = (S0, er) := ⟨_, _, rfl⟩
  obtain ⟨T0, et, hT0⟩ : ∃ T0 et, sealOf hh [] = (T0, et) := ⟨_, _, rfl⟩
  rw [hS0] at HS
  have HT : Hid (T0.length ≤ 140737488355328) := by
    have := sealOf_len hh [] (N := 0) (Nat.le_refl _) (by decide)
    rw [hT0] at this
    exact Nat.le_trans this (by decide)
  have HS' : Hid (S0.length ≤ 140737488355328) := Nat.le_trans HS.out (by decide)
  have HS0 := Lib.hid hS0
  have HT0 := Lib.hid hT0
  have nil0 : Hid (0 = ([] : List SecV).length) := rfl
  have nilE : Hid ((secsEnc []).length ≤ 140737488355200) := by rw [Hid]; decide
  have nilB : Hid (∀ x ∈ ([] : List SecV), x.body.length ≤ 140737488355200) := fun x h => absurd h (by simp)
  clear hS0 hT0
  have q1 : Hid (RdSecs w1 Ai l) := RI.out w1 (Chg.refl _ _)
  go_wp2_with fail
  refine (sealCall' HS0 HN (by omega) hci hmi q1 HE HB2).mono ?_
  rintro e w2 ⟨Ax, nx, cx, rfl, m1⟩
  have X2 := Lib.hid m1.own; have XL := Lib.hid m1.len; have XF := Lib.hid m1.new; have D2 := Lib.hid m1.chg
  clear m1 q1
  go_wp2_with fail
  refine (show Calls Try.prog 40 #[.string { data := #[104, 101, 97, 100, 104, 101, 97, 100] }, .slice none 0 0] w2 _ from sealCall' (s := hh) (l := []) HT0 nil0 (by decide) (Nat.le_refl _) (Nat.zero_le _) (RdSecs.nil _ _) nilE nilB).mono ?_
  rintro e w3 ⟨Ao, no, co, rfl, m1⟩
  have O3 := Lib.hid m1.own; have OL := Lib.hid m1.len; have OF := Lib.hid m1.new; have D3 := Lib.hid m1.chg
  clear m1
  go_wp2_with fail
  refine (show Calls Try.prog 41 #[.string { data := #[104, 101, 97, 100, 104, 101, 97, 100] }, .slice none 0 0] w3 _ from sealRef' (s := hh) (l := []) HT0 nil0 (by decide) (Nat.le_refl _) (Nat.zero_le _) (RdSecs.nil _ _) nilE nilB).mono ?_
  rintro e w4 ⟨An, nn, cn, rfl, m1⟩
  have N4 := Lib.hid m1.own; have NL := Lib.hid m1.len; have NF := Lib.hid m1.new; have D4 := Lib.hid m1.chg
  clear m1
  have C14 : Hid (Chg (fun _ => False) w1 w4) := (D2.out.trans D3.out (fun _ _ h => h)).trans D4.out (fun _ _ h => h)
  have q1 : Hid (RdSecs w4 Ai l) := RI.out w4 C14.out
  go_wp2_with fail
  refine (sealCall' HS0 HN (by omega) hci hmi q1 HE HB2).mono ?_
  rintro e w5 ⟨At, nt, ct, rfl, m1⟩
  have T5 := Lib.hid m1.own; have TL := Lib.hid m1.len; have TF := Lib.hid m1.new; have D5 := Lib.hid m1.chg
  clear m1 q1
  have C05 : Hid (Chg (fun _ => False) w w5) := (C1.out.trans C14.out (fun _ _ h => h)).trans D5.out (fun _ _ h => h)
  have q1 : Hid (RdSecs w5 A l) := hr.out.below C05.out.done
  go_wp2_with fail
  refine (sealRef' HS0 HN (by omega) hc hmx q1 HE HB2).mono ?_
  rintro e w6 ⟨Ay, ny, cy, rfl, m1⟩
  have Y6 := Lib.hid m1.own; have YL := Lib.hid m1.len; have YF := Lib.hid m1.new; have D6 := Lib.hid m1.chg
  clear m1 q1
  have T6 := Lib.hid (T5.out.chg D6.out (fun _ _ h => h))
  have N6 := Lib.hid ((N4.out.chg D5.out (fun _ _ h => h)).chg D6.out (fun _ _ h => h))
  have O6 := Lib.hid (((O3.out.chg D4.out (fun _ _ h => h)).chg D5.out (fun _ _ h => h)).chg D6.out (fun _ _ h => h))
  have X6 := Lib.hid ((((X2.out.chg D3.out (fun _ _ h => h)).chg D4.out (fun _ _ h => h)).chg D5.out (fun _ _ h => h)).chg D6.out (fun _ _ h => h))
  have C16 : Hid (Chg (fun _ => False) w1 w6) := (C14.out.trans D5.out (fun _ _ h => h)).trans D6.out (fun _ _ h => h)
  have H6 := Lib.hid (H1.out.chg0 C16.out)
  have hZ : Hid (w1.heap.size ≤ w2.heap.size ∧ w2.heap.size ≤ w3.heap.size ∧ w3.heap.size ≤ w4.heap.size ∧ w4.heap.size ≤ w5.heap.size ∧ w5.heap.size ≤ w6.heap.size) := ⟨D2.out.size, D3.out.size, D4.out.size, D5.out.size, D6.out.size⟩
  have hXb := Lib.hid X2.out.lt
  clear C14 D2 D3 D4 D5 C05 T5 N4 O3 X2
  have rx : Hid (Rd w6 .u8 Ax S0) := X6.out.rd (by rw [XL.out])
  have ry : Hid (Rd w6 .u8 Ay S0) := Y6.out.rd (by rw [YL.out])
  go_wp2_with fail
  refine (sameBytes' (b := true) XL YL HS' rx ry (by rw [Hid]; simp)).mono ?_
  rintro e wq ⟨rfl, qa, rfl⟩
  have rt : Hid (Rd (w6.drewN qa) .u8 At S0) := T6.out.rd (by rw [TL.out])
  have ry' : Hid (Rd (w6.drewN qa) .u8 Ay S0) := ry.out
  go_wp2_with fail
  refine (sameBytes' (b := true) TL YL HS' rt ry' (by rw [Hid]; simp)).mono ?_
  rintro e wq ⟨rfl, qb, rfl⟩
  have ro : Hid (Rd (w6.drewN (qa + qb)) .u8 Ao T0) := O6.out.rd (by rw [OL.out])
  have rn : Hid (Rd (w6.drewN (qa + qb)) .u8 An T0) := N6.out.rd (by rw [NL.out])
  go_wp2_with fail
  refine (sameBytes' (b := true) OL NL HT ro rn (by rw [Hid]; simp)).mono ?_
  rintro e wq ⟨rfl, qc, rfl⟩
  have T7 := Lib.hid (T6.out.drewN (qa + qb + qc))
  have N7 := Lib.hid (N6.out.drewN (qa + qb + qc))
  have O7 := Lib.hid (O6.out.drewN (qa + qb + qc))
  have X7 := Lib.hid (X6.out.drewN (qa + qb + qc))
  have Y7 := Lib.hid (Y6.out.drewN (qa + qb + qc))
  have H7 := Lib.hid (H6.out.chg0 ((Chg.refl _ w6).drewN (qa + qb + qc)))
  have C17 := Lib.hid (C16.out.drewN (qa + qb + qc))
  have hZ7 : Hid (w6.heap.size = (w6.drewN (qa + qb + qc)).heap.size) := rfl
  obtain ⟨w7, hw7⟩ : ∃ w7, w7 = (w6.drewN (qa + qb + qc)).alloc (.cells #[.slice none 0 0, .bool false, .slice none 0 0, .slice none 0 0] 49) := ⟨_, rfl⟩
  obtain ⟨gb, hgb⟩ : ∃ gb, gb = w6.heap.size := ⟨_, rfl⟩
  have A7 : Hid (Chg (fun _ => False) (w6.drewN (qa + qb + qc)) w7) := by rw [hw7]; exact (Chg.refl _ _).alloc _
  have B7 : Hid (BookI false gb 49 [] (fun _ => False) 0 w7) := by
    rw [hw7, hgb]
    exact BookI.new (Blk.new _ _ _)
  replace T7 := Lib.hid (T7.out.chg A7.out (fun _ _ h => h))
  replace N7 := Lib.hid (N7.out.chg A7.out (fun _ _ h => h))
  replace O7 := Lib.hid (O7.out.chg A7.out (fun _ _ h => h))
  replace X7 := Lib.hid (X7.out.chg A7.out (fun _ _ h => h))
  replace Y7 := Lib.hid (Y7.out.chg A7.out (fun _ _ h => h))
  replace H7 := Lib.hid (H7.out.chg0 A7.out)
  replace C17 := Lib.hid (C17.out.trans A7.out (fun _ _ h => h))
  have hgw : Hid (w6.heap.size = gb) := hgb.symm
  have Hb7 := Lib.hid hw7
  have hTb := Lib.hid T6.out.lt
  have hNb := Lib.hid N6.out.lt
  have hOb := Lib.hid O6.out.lt
  have hYb := Lib.hid Y6.out.lt
  have hA7s : Hid (w6.heap.size ≤ w7.heap.size) := A7.out.size
  clear T6 N6 O6 X6 Y6 H6 C16 rx ry rt ry' ro rn A7
  go_wp2_with fail
  rw [← hw7, ← hgb]
  clear hw7 hgb
  have hxD : Hid (∀ x, Value.ownBlock (.slice Ax nx cx) = some x → ¬ False) := fun _ _ h => h
  refine (putI false gb 49 [] (fun _ => False) 0 _ S0 w7 (by decide) (by decide) B7 X7 hxD (by decide) (by have := HS.out; omega) 0 rfl).mono ?_
  rintro e w8 ⟨rfl, k1, k2⟩
  have B8 := Lib.hid k1
  have P8 : Hid (Chg (fun x => x = gb ∨ Value.ownBlock (.slice Ax nx cx) = some x) w7 w8) := k2.mono fun x _ h => h.elim .inl (fun h => h.elim (fun h => h.elim) .inr)
  clear k1 k2
  have hapart : Hid (∀ {y : Nat}, w2.heap.size ≤ y → y < w6.heap.size → ¬ (y = gb ∨ Value.ownBlock (.slice Ax nx cx) = some y)) := fun {y} h1 h2 h => by
    have h3 := hgw.out
    rcases h with h | h
    · omega
    · have := hXb.out y h
      omega
  have T8 := Lib.hid (T7.out.chg P8.out (fun y hy => hapart.out (by have := TF.out y hy; have := hZ.out; omega) (hTb.out y hy)))
  have N8 := Lib.hid (N7.out.chg P8.out (fun y hy => hapart.out (by have := NF.out y hy; have := hZ.out; omega) (hNb.out y hy)))
  have O8 := Lib.hid (O7.out.chg P8.out (fun y hy => hapart.out (by have := OF.out y hy; have := hZ.out; omega) (hOb.out y hy)))
  have Y8 := Lib.hid (Y7.out.chg P8.out (fun y hy => hapart.out (by have := YF.out y hy; have := hZ.out; omega) (hYb.out y hy)))
  have hold : Hid (∀ {y : Nat}, y < w1.heap.size → ¬ (y = gb ∨ Value.ownBlock (.slice Ax nx cx) = some y)) := fun {y} h1 h => by
    have h3 := hgw.out
    have h4 := hZ.out
    rcases h with h | h
    · omega
    · have := XF.out y h
      omega
  have H8 := Lib.hid (H7.out.chg P8.out (fun y hy => hold.out (H1.out.rowI.lt y hy)) (fun y hy => hold.out (H1.out.rowF.lt y hy)) (fun g hg => hold.out (by
    obtain ⟨i, hi, rfl⟩ := List.getElem_of_mem hg
    have h1 := H1.out.lenG
    have h2 := H1.out.lenN
    exact (H1.out.own i (by omega) hi (by omega)).lt _ rfl)))
  have C08 : Hid (Chg (fun _ => False) w w8) := (C1.out.trans C17.out (fun _ _ h => h)).trans P8.out (fun x hx h => by
    have h3 := hgw.out
    have h4 := hZ.out
    have h5 := C1.out.size
    rcases h with h | h
    · omega
    · have := XF.out x h
      omega)
  have hS8 : Hid (w6.heap.size ≤ w8.heap.size) := Nat.le_trans hA7s.out P8.out.size
  clear T7 N7 O7 Y7 X7 H7 C17 P8
  go_wp2_with fail
  refine (keptI false gb 49 [] _ 1 w8 B8 (by decide) 0 rfl).mono ?_
  rintro e wq ⟨rfl, rfl⟩
  have rt : Hid (Rd w8 .u8 At S0) := T8.out.rd (by rw [TL.out])
  have ry : Hid (Rd w8 .u8 Ay S0) := Y8.out.rd (by rw [YL.out])
  go_wp2_with fail
  refine (sameBytes' (b := true) TL YL HS' rt ry (by rw [Hid]; simp)).mono ?_
  rintro e wq ⟨rfl, qd, rfl⟩
  have ro : Hid (Rd (w8.drewN qd) .u8 Ao T0) := O8.out.rd (by rw [OL.out])
  have rn : Hid (Rd (w8.drewN qd) .u8 An T0) := N8.out.rd (by rw [NL.out])
  go_wp2_with fail
  refine (sameBytes' (b := true) OL NL HT ro rn (by rw [Hid]; simp)).mono ?_
  rintro e wq ⟨rfl, qe, rfl⟩
  have T9 := Lib.hid (T8.out.drewN (qd + qe))
  have Y9 := Lib.hid (Y8.out.drewN (qd + qe))
  have H9 := Lib.hid (H8.out.chg0 ((Chg.refl _ w8).drewN (qd + qe)))
  have C09 := Lib.hid (C08.out.drewN (qd + qe))
  clear T8 N8 O8 Y8 H8 C08 B8 rt ry ro rn
  go_wp2_with fail
  obtain ⟨w9, hw9⟩ : ∃ w9, w9 = w8.drewN (qd + qe) := ⟨_, rfl⟩
  have hS9 : Hid (w6.heap.size ≤ w9.heap.size) := by rw [hw9]; exact hS8.out
  rw [← hw9] at T9 Y9 H9 C09 ⊢
  clear hw9
  have hlenG := Lib.hid H9.out.lenG
  have rowI := H9.out.rowI
  have rowF := H9.out.rowF
  rw [← HN.out] at rowI rowF
  have HRI := Lib.hid rowI
  have HRF := Lib.hid rowF
  clear rowI rowF
  go_loopw [19] (fun i wr => ∃ k : Nat, k ≤ n ∧ i = .int .i64 k ∧ Hid (∃ q, wr = w9.drewN q)) (fun i _ => n - (intOf i).toNat)
  case atStart => exact ⟨0, Nat.zero_le _, rfl, 0, rfl⟩
  case round =>
    obtain ⟨k, hk, rfl, HW⟩ := hrel
    by_cases hlt : k < n
    · have hkl : k < l.length := by rw [← HN.out]; exact hlt
      have hkg : k < gs.length := by rw [hlenG.out]; exact hkl
      have hkm : k < (l.map SecV.body).length := by simpa using hkl
      obtain ⟨ad, e0, sa⟩ := hr.out k hkl
      obtain ⟨B, d, f1, f2, f3, f4⟩ := sa.body
      have f0 := C09.out.cell (fun h => h) sa.id
      replace f1 := C09.out.cell (fun h => h) f1
      have F4 : Hid (Rd w9 .u8 B l[k].body) := f4.below C09.out.done
      obtain ⟨g1, g2⟩ := inCells_get l gs k hkl hkg
      have g3 := fullCells_get l gs k hkl hkg
      obtain ⟨aI, e1, i1, _⟩ := HRI.out.cells _ _ _ rfl _ _ g1
      obtain ⟨aI', e1', i2, _⟩ := HRI.out.cells _ _ _ rfl _ _ g2
      rw [e1] at e1'
      injection e1' with e1'
      subst e1'
      obtain ⟨aF, e2, j1, _⟩ := HRF.out.cells _ _ _ rfl _ _ g3
      have ow := H9.out.own k hkl hkg hkm
      rw [List.getElem_map] at ow
      obtain ⟨x, hx⟩ : ∃ x, x = l[k] := ⟨_, rfl⟩
      obtain ⟨g, hg⟩ : ∃ g, g = gs[k] := ⟨_, rfl⟩
      have hm1 := HB.out x (by rw [hx]; exact List.getElem_mem hkl)
      rw [← hx] at f0 f1 f2 F4 i1 i2 j1 ow
      rw [← hg] at i2 j1 ow
      obtain ⟨m, hm⟩ : ∃ m, m = x.body.length := ⟨_, rfl⟩
      rw [← hm] at f1 f2 hm1 i2 j1 ow
      have i2' : w9.cell? ⟨(aI.add (k * 2)).block, (aI.add (k * 2)).off + 1, none⟩ = some (.slice (some ⟨g, 0, none⟩) m (m + 90)) := by
        rw [show (⟨(aI.add (k * 2)).block, (aI.add (k * 2)).off + 1, none⟩ : Addr) = (aI.add (k * 2)).add 1 from rfl, Go.Deep.add_add]
        exact i2
      have HM := Lib.hid hm
      have hbl : Hid (x.body.length ≤ 140737488351232) := by rw [Hid, ← HM.out]; omega
      have hbl' : Hid (x.body.length ≤ 140737488355328) := Nat.le_trans hbl.out (by decide)
      have hM90 : Hid ((x.body ++ marks).length = m + 90) := by rw [Hid, List.length_append, marks_length, HM.out]
      have RF : Hid (Rd w9 .u8 (some ⟨g, 0, none⟩) (x.body ++ marks)) := ow.rd (by rw [hM90.out])
      have RB : Hid (Rd w9 .u8 (some ⟨g, 0, none⟩) x.body) := by
        have := RF.out.take x.body.length
        rw [List.take_left] at this
        exact this
      subst e0 e1 e2
      have b1 : (0 : Int) ≤ (k : Int) := by omega
      have b2 : (k : Int) < (n : Int) := by omega
      obtain ⟨q, hq⟩ := HW.out
      have f0 : wr.cell? (ad.add (k * 2)) = some (.int .i64 x.id) := by rw [hq]; exact f0
      have f1 : wr.cell? ⟨(ad.add (k * 2)).block, (ad.add (k * 2)).off + 1, none⟩ = some (.slice B m d) := by rw [hq]; exact f1
      have i1 : wr.cell? (aI.add (k * 2)) = some (.int .i64 x.id) := by rw [hq]; exact i1
      have i2' : wr.cell? ⟨(aI.add (k * 2)).block, (aI.add (k * 2)).off + 1, none⟩ = some (.slice (some ⟨g, 0, none⟩) m (m + 90)) := by rw [hq]; exact i2'
      have j1 : wr.cell? (aF.add k) = some (.slice (some ⟨g, 0, none⟩) (m + 90) (m + 90)) := by rw [hq]; exact j1
      have VF : Hid (∀ q, Rd (wr.drewN q) .u8 (some ⟨g, 0, none⟩) (x.body ++ marks)) := fun _ => by rw [hq]; exact RF.out
      have VB : Hid (∀ q, Rd (wr.drewN q) .u8 (some ⟨g, 0, none⟩) x.body) := fun _ => by rw [hq]; exact RB.out
      have V4 : Hid (∀ q, Rd (wr.drewN q) .u8 B x.body) := fun _ => by rw [hq]; exact F4.out
      have hM90s : Hid (m + 90 = (x.body ++ marks).length) := hM90.out.symm
      have hcc : Hid (m + 90 ≤ m + 90) := Nat.le_refl _
      have hne : (x.id != x.id) = false := by simp
      clear hx hg hm hq ow sa g1 g2 g3 hkl hkg hkm f4
      go_wp2_with fail
      go_quiet ((go_at_call 38; go_must (refine Calls.quiet_of (untouched' hM90s HM hcc hbl (show Hid (Rd (wr.drewN _) _ _ _) from VF.out _) (show Hid (Rd (wr.drewN _) _ _ _) from V4.out _)))))
      go_wp2_with fail
      obtain ⟨wr2, hq2⟩ : ∃ wr2, wr2 = wr.drewN nq := ⟨_, rfl⟩
      have f0 : wr2.cell? (ad.add (k * 2)) = some (.int .i64 x.id) := by rw [hq2]; exact f0
      have f1 : wr2.cell? ⟨(ad.add (k * 2)).block, (ad.add (k * 2)).off + 1, none⟩ = some (.slice B m d) := by rw [hq2]; exact f1
      have i1 : wr2.cell? (aI.add (k * 2)) = some (.int .i64 x.id) := by rw [hq2]; exact i1
      have i2' : wr2.cell? ⟨(aI.add (k * 2)).block, (aI.add (k * 2)).off + 1, none⟩ = some (.slice (some ⟨g, 0, none⟩) m (m + 90)) := by rw [hq2]; exact i2'
      have VB : Hid (∀ q, Rd (wr2.drewN q) .u8 (some ⟨g, 0, none⟩) x.body) := fun _ => by rw [hq2, World.drewN_drewN]; exact VB.out _
      have V4 : Hid (∀ q, Rd (wr2.drewN q) .u8 B x.body) := fun _ => by rw [hq2, World.drewN_drewN]; exact V4.out _
      have htr : Hid (decide (x.body = x.body) = true) := by rw [Hid]; simp
      rw [← hq2]
      have HQ2 := Lib.hid hq2
      clear hq2
      go_quiet ((go_at_call 23; go_must (refine Calls.quiet_of (sameBytes' HM HM hbl' (show Hid (Rd (wr2.drewN _) _ _ _) from VB.out _) (show Hid (Rd (wr2.drewN _) _ _ _) from V4.out _) htr))))
      go_wp2_with fail
      go_roundw
      case rel =>
        obtain ⟨q, hq⟩ := HW.out
        exact ⟨k + 1, by omega, by go_num, _, by rw [HQ2.out, hq, World.drewN_drewN, World.drewN_drewN]⟩
      case measure => simp [intOf]; omega
    · obtain rfl : k = n := by omega
      obtain ⟨q, hq⟩ := HW.out
      have T10 : Hid (OwnB wr (.slice At nt ct) S0) := by rw [hq]; exact T9.out.drewN q
      have hS10 : Hid (w6.heap.size ≤ wr.heap.size) := by rw [hq]; exact hS9.out
      have Y10 : Hid (OwnB wr (.slice Ay ny cy) S0) := by rw [hq]; exact Y9.out.drewN q
      have H10 : Hid (Handed wr (.slice Ai k ci) (.slice Af k cf) l (nowAt l 0) gs) := by rw [hq, nowAt_zero]; exact H9.out.chg0 ((Chg.refl _ w9).drewN q)
      have C10 : Hid (Chg (fun _ => False) w wr) := by rw [hq]; exact C09.out.drewN q
      have q1 : Hid (RdSecs wr Ai l) := H10.out.rd rfl (fun _ _ _ => rfl) (fun i h1 h2 => by simp [nowAt_zero]) HALL.out.1 HALL.out.2 HB.out
      clear hq HW T9 Y9 H9 C09
      go_wp2_with fail
      refine (sealCall' HS0 HN (by omega) hci hmi q1 HE HB2).mono ?_
      rintro e w11 ⟨Ag, ng, cg, rfl, m1⟩
      have rg : Hid (Rd w11 .u8 Ag S0) := m1.rd
      have GL := Lib.hid m1.len
      have D11 := Lib.hid m1.chg
      have Y11 := Lib.hid (Y10.out.chg D11.out (fun _ _ h => h))
      have ry : Hid (Rd w11 .u8 Ay S0) := Y11.out.rd (by rw [YL.out])
      clear m1 q1
      go_wp2_with fail
      refine (sameBytes' (b := true) GL YL HS' rg ry (by rw [Hid]; simp)).mono ?_
      rintro e wq ⟨rfl, qf, rfl⟩
      obtain ⟨w12, hw12⟩ : ∃ w12, w12 = w11.drewN qf := ⟨_, rfl⟩
      have D12 : Chg (fun _ => False) wr w12 := by rw [hw12]; exact D11.out.drewN qf
      have T12 := Lib.hid (T10.out.chg D12 (fun _ _ h => h))
      have Y12 := Lib.hid (Y10.out.chg D12 (fun _ _ h => h))
      have H12 := Lib.hid (H10.out.chg0 D12)
      have C12 := Lib.hid (C10.out.trans D12 (fun _ _ h => h))
      obtain ⟨w13, hw13⟩ : ∃ w13, w13 = w12.alloc (.cells #[] 80) := ⟨_, rfl⟩
      have A13 : Hid (Chg (fun _ => False) w12 w13) := by rw [hw13]; exact (Chg.refl _ w12).alloc _
      have S13 : Hid (Secs w13 (.slice (some ⟨w12.heap.size, 0, none⟩) 0 0) [] []) := by rw [hw13]; exact Secs.nil w12
      have T13 := Lib.hid (T12.out.chg A13.out (fun _ _ h => h))
      have Y13 := Lib.hid (Y12.out.chg A13.out (fun _ _ h => h))
      have H13 := Lib.hid (H12.out.chg0 A13.out)
      have C13 := Lib.hid (C12.out.trans A13.out (fun _ _ h => h))
      have hz12 : Hid (w11.heap.size = w12.heap.size) := by rw [hw12]; rfl
      obtain ⟨N, hN'⟩ : ∃ N, N = w11.heap.size := ⟨_, rfl⟩
      have hN : N = w12.heap.size := hN'.trans hz12.out
      have hTN : Hid (∀ y, Value.ownBlock (.slice At nt ct) = some y → y < N ∧ w4.heap.size ≤ y) := fun y hy => ⟨by rw [hN]; exact T12.out.lt y hy, TF.out y hy⟩
      have hYN : Hid (∀ y, Value.ownBlock (.slice Ay ny cy) = some y → y < N ∧ w5.heap.size ≤ y) := fun y hy => ⟨by rw [hN]; exact Y12.out.lt y hy, YF.out y hy⟩
      have hGN : Hid (∀ g ∈ gs, g < w1.heap.size) := fun g hg => by
        obtain ⟨i, hi, rfl⟩ := List.getElem_of_mem hg
        have h1 := H1.out.lenG
        have h2 := H1.out.lenN
        exact (H1.out.own i (by omega) hi (by omega)).lt _ rfl
      have hIN : Hid (∀ y, Value.ownBlock (.slice Ai k ci) = some y → y < N) := fun y hy => by rw [hN]; exact H12.out.rowI.lt y hy
      have hFN : Hid (∀ y, Value.ownBlock (.slice Af k cf) = some y → y < N) := fun y hy => by rw [hN]; exact H12.out.rowF.lt y hy
      have hN1 : Hid (w1.heap.size ≤ N) := by
        have h1 := hZ.out
        have h2 := D12.size
        have h3 := hS10.out
        rw [Hid, hN]
        rw [← hz12.out] at h2 ⊢
        omega
      rw [← hN] at S13
      have hNs : Hid (N ≤ w13.heap.size) := by rw [hw13, hN]; simp [Hid]
      clear rg ry D11 Y11 Y10 T10 H10 C10 D12 T12 Y12 H12 C12 A13
      go_wp2_with fail
      rw [← hw12, ← hw13, ← hN']
      clear hw12 hw13 hN hN' hz12
      go_loopw [23, 24] (fun v i wr => ∃ j : Nat, j ≤ k ∧ i = .int .i64 j ∧ ∃ bs, Hid (Secs wr v ((l.take j).map turn) bs) ∧ Hid (Handed wr (.slice Ai k ci) (.slice Af k cf) l (nowAt l j) gs) ∧ Hid (∀ y, v.ownBlock = some y → N ≤ y) ∧ Hid (∀ b ∈ bs, ∀ y, b.ownBlock = some y → N ≤ y) ∧ Hid (Chg (fun y => y ∈ gs ∨ N ≤ y) w13 wr)) (fun _ i _ => k - (intOf i).toNat)
      case atStart => exact ⟨0, Nat.zero_le _, rfl, [], S13.out, H13.out, fun y hy => by simp [Value.ownBlock] at hy; omega, fun b hb => absurd hb (by simp), Chg.refl _ _⟩
      case round =>
        obtain ⟨j, hj, rfl, bs, SJ, HJ, FJ, GJ, CJ⟩ := hrel
        have hjl0 : j ≤ l.length := by rw [← HN.out]; exact hj
        have htl : ((l.take j).map turn).length = j := by rw [List.length_map, List.length_take]; omega
        have HTL := Lib.hid htl
        have CWJ : Hid (Chg (fun _ => False) w wr) := C13.out.trans CJ.out (fun x hx h => by
          rcases h with h | h
          · have := GS.out x h; omega
          · have h1 := hN1.out; have h2 := C1.out.size; omega)
        obtain ⟨Av, cv, rfl, hcv, _⟩ := SJ.out.row.slice
        rw [htl] at SJ FJ hcv ⊢
        clear htl
        have rowI := HJ.out.rowI
        rw [← HN.out] at rowI
        have HRI := Lib.hid rowI
        clear rowI
        by_cases hlt2 : j < k
        · have hkl : j < l.length := by rw [← HN.out]; exact hlt2
          have hkg : j < gs.length := by rw [HJ.out.lenG]; exact hkl
          have hkm : j < (nowAt l j).length := by rw [nowAt_length l j hjl0]; exact hkl
          obtain ⟨ad, e0, sa⟩ := hr.out j hkl
          obtain ⟨B, d, f1, f2, f3, f4⟩ := sa.body
          have f0 := CWJ.out.cell (fun h => h) sa.id
          replace f1 := CWJ.out.cell (fun h => h) f1
          obtain ⟨g1, g2⟩ := inCells_get l gs j hkl hkg
          obtain ⟨aI, e1, _, _⟩ := HRI.out.cells _ _ _ rfl _ _ g1
          obtain ⟨aI', e1', i2, _⟩ := HRI.out.cells _ _ _ rfl _ _ g2
          rw [e1] at e1'
          injection e1' with e1'
          subst e1'
          have ow := HJ.out.own j hkl hkg hkm
          rw [nowAt_get l j hkl] at ow
          obtain ⟨x, hx⟩ : ∃ x, x = l[j] := ⟨_, rfl⟩
          obtain ⟨g, hg⟩ : ∃ g, g = gs[j] := ⟨_, rfl⟩
          have hm1 := HB.out x (by rw [hx]; exact List.getElem_mem hkl)
          have hbx := HALL.out.1 x (by rw [hx]; exact List.getElem_mem hkl)
          have hgg : Hid (g < w1.heap.size) := hGN.out g (by rw [hg]; exact List.getElem_mem hkg)
          rw [← hx] at f0 f1 f2 f4 i2 ow
          rw [← hg] at i2 ow
          obtain ⟨m, hm⟩ : ∃ m, m = x.body.length := ⟨_, rfl⟩
          rw [← hm] at f1 f2 hm1 i2 ow
          have i2' : wr.cell? ⟨(aI.add (j * 2)).block, (aI.add (j * 2)).off + 1, none⟩ = some (.slice (some ⟨g, 0, none⟩) m (m + 90)) := by
            rw [show (⟨(aI.add (j * 2)).block, (aI.add (j * 2)).off + 1, none⟩ : Addr) = (aI.add (j * 2)).add 1 from rfl, Go.Deep.add_add]
            exact i2
          have HM := Lib.hid hm
          have HX := Lib.hid hx
          have HG := Lib.hid hg
          have OW := Lib.hid ow
          have F4 := Lib.hid f4
          have HBX := Lib.hid hbx
          subst e0 e1
          have b1 : (0 : Int) ≤ (j : Int) := by omega
          have b2 : (j : Int) < (k : Int) := by omega
          have IC : Hid (∀ W, Chg (fun y => y = g ∨ N ≤ y) wr W → W.cell? ⟨(aI.add (j * 2)).block, (aI.add (j * 2)).off + 1, none⟩ = some (.slice (some ⟨g, 0, none⟩) m (m + 90))) := fun W hW => by
            obtain ⟨cur', hcu⟩ := OwnV.typed OW.out g rfl
            refine hW.cell (fun h => ?_) i2'
            obtain ⟨a9, e9, _, h9⟩ := HRI.out.cells _ _ _ rfl _ _ g2
            injection e9 with e9
            subst e9
            have h8 : (aI.add (j * 2)).block = aI.block := by unfold Addr.add; split <;> rfl
            rcases h with h | h
            · rw [show (⟨(aI.add (j * 2)).block, (aI.add (j * 2)).off + 1, none⟩ : Addr).block = aI.block from h8] at h
              exact HRI.out.type_ne hcu (by decide) (by rw [h9, h])
            · rw [show (⟨(aI.add (j * 2)).block, (aI.add (j * 2)).off + 1, none⟩ : Addr).block = aI.block from h8] at h
              have := hIN.out _ h9
              omega
          have XC : Hid (∀ W, Chg (fun _ => False) w W → W.cell? (ad.add (j * 2)) = some (.int .i64 x.id)) := fun W hW => by rw [HX.out]; exact hW.cell (fun h => h) sa.id
          have f1a : (wr.alloc (.cells #[] 5)).cell? ⟨(ad.add (j * 2)).block, (ad.add (j * 2)).off + 1, none⟩ = some (.slice B m d) := ((Chg.refl (fun _ => False) wr).alloc (.cells #[] 5)).cell (fun h => h) f1
          clear hx hg hm ow sa g1 g2 hkm f4 i2 hbx
          have hrB : Hid (Rd (wr.alloc (.cells #[] 5)) .u8 B x.body) := F4.out.below (CWJ.out.alloc _).done
          go_wp2_with (at_builtin; go_must (refine wp_appn rfl _ _ 22 5 .u8 1 rfl Try.underlying22 infoU8 (by decide) (.slice (some ⟨wr.heap.size, 0, none⟩) 0 0) [] rfl (Own.lit wr 5 .u8 [] (by simp)) B d x.body _ rfl HM.out hrB.out (by rw [← HM.out]; simp; omega) ?_); intro v' w14 k1 k2 k3 k4; obtain ⟨Ab, cb, hv, hcb, _⟩ := k1.slice; rw [List.nil_append, ← HM.out] at hv; subst hv; have N1 := Lib.hid k1; have N3 := Lib.hid k3; have N4 := Lib.hid k4; clear k1 k2 k3 k4; go_frame)
          have C14 : Hid (Chg (fun _ => False) wr w14) := ((Chg.refl _ wr).alloc _).fresh N3.out (blk_ge (Nat.le_refl _))
          have O14 : Hid (OwnB w14 (.slice Ab m cb) (t3Up x.body 0)) := by have := N1.out; rw [List.nil_append] at this; rw [Hid]; simpa [t3Up] using this
          have FB : Hid (∀ y, Value.ownBlock (.slice Ab m cb) = some y → wr.heap.size ≤ y) := N4.out.ge (blk_ge (Nat.le_refl _)) (by simp)
          have OW14 : Hid (OwnB w14 (.slice (some ⟨g, 0, none⟩) (m + 90) (m + 90)) (t3Up x.body 0 ++ marks)) := by have := OW.out.chg C14.out (fun _ _ h => h); rw [Hid]; simpa [t3Up] using this
          have hNw : Hid (N ≤ wr.heap.size) := Nat.le_trans hNs.out CJ.out.size
          have hgw2 : Hid (g < N) := Nat.lt_of_lt_of_le hgg.out hN1.out
          clear N1 N3 N4
          go_wp2_with fail
          obtain ⟨wo, hwo⟩ : ∃ wo, wo = wr := ⟨_, rfl⟩
          subst hwo
          go_loopw [26] (fun i wr => ∃ q : Nat, q ≤ m ∧ i = .int .i64 q ∧ Hid (OwnB wr (.slice Ab m cb) (t3Up x.body q)) ∧ Hid (OwnB wr (.slice (some ⟨g, 0, none⟩) (m + 90) (m + 90)) (t3Up x.body q ++ marks)) ∧ Hid (Chg (fun y => y = g ∨ Value.ownBlock (.slice Ab m cb) = some y) w14 wr)) (fun i _ => m - (intOf i).toNat)
          case atStart => exact ⟨0, Nat.zero_le _, rfl, O14.out, OW14.out, Chg.refl _ _⟩
          case round =>
            obtain ⟨q, hq, rfl, OB, OG, CQ⟩ := hrel
            have CQ2 : Hid (Chg (fun y => y = g ∨ N ≤ y) wo wr) := (C14.out.mono (fun _ _ h => h.elim)).trans CQ.out (fun y _ h => h.elim .inl (fun h => .inr (Nat.le_trans hNw.out (FB.out y h))))
            by_cases hlt3 : q < m
            · have hql : q < x.body.length := by rw [← HM.out]; exact hlt3
              have hln := t3Up_length x.body q (by omega)
              obtain ⟨g2, rfl, hob⟩ := own_some OB.out (by rw [hln]; omega)
              have hne : g2 ≠ g := by have := FB.out g2 hob; have := hNw.out; have := hgw2.out; omega
              have ca := OB.out.cellAt (i := q) (by rw [hln]; exact hql)
              rw [t3Up_get x.body q hql] at ca
              obtain ⟨p1, p2⟩ := ca
              obtain ⟨v, hv⟩ : ∃ v, v = x.body[q] := ⟨_, rfl⟩
              obtain ⟨t, ht⟩ : ∃ t, t = t3 v := ⟨_, rfl⟩
              have HT3 : Hid (Go.bits .xor .u8 v 51 = t) := ht.symm
              have htw : Go.bits .xor .u8 v 51 = t := HT3.out
              have OB2 := OB.out.store (i := q) (by rw [hln]; exact hql) (t3 x.body[q])
              have hs1 := t3Up_set x.body q hql []
              rw [List.append_nil, List.append_nil] at hs1
              rw [hs1, ← hv, ← ht] at OB2
              have OG1 := OG.out.chg (((Chg.refl (· = g2) wr).setg q (.int .u8 t))) (fun i hi h => by
                simp [Value.ownBlock] at hi
                omega)
              have OG2 := OG1.store (i := q) (by rw [List.length_append, hln]; omega) (t3 x.body[q])
              rw [t3Up_set x.body q hql marks, ← hv, ← ht] at OG2
              rw [← hv] at p1
              obtain ⟨w15, hw15⟩ : ∃ w15, w15 = wr.setCell ⟨g2, q, none⟩ (.int .u8 t) := ⟨_, rfl⟩
              rw [← hw15] at OB2 OG1 OG2
              have p3 : w15.cell? ⟨g2, q, none⟩ = some (.int .u8 t) := by
                have := ((OB.out.store (i := q) (by rw [hln]; exact hql) t).cellAt (i := q) (by rw [List.length_set, hln]; exact hql)).1.trans (by rw [List.getElem_set_self])
                rw [hw15]
                exact this
              obtain ⟨⟨y, p4⟩, p5⟩ : (∃ y, w15.cell? ⟨g, q, none⟩ = some y) ∧ w15.frozen? ⟨g, q, none⟩ = false := by
                have := OG1.cellAt (i := q) (by rw [List.length_append, hln]; omega)
                exact ⟨⟨_, this.1⟩, this.2⟩
              have C15 : Chg (fun y => y = g ∨ N ≤ y) wo w15 := by
                rw [hw15]
                exact CQ2.out.setCell (p := ⟨g2, q, none⟩) (fun _ => .inr (Nat.le_trans hNw.out (FB.out g2 hob))) _
              have p6 := IC.out w15 C15
              have OBH := Lib.hid OB2
              have OGH := Lib.hid OG2
              have b3 : (0 : Int) ≤ (q : Int) := by omega
              have b4 : (q : Int) < (m : Int) := by omega
              have H15 := Lib.hid hw15
              clear hln hs1 OB2 OG1 OG2 C15 ht hv
              go_wp2_with fail
              rw [← hw15]
              clear hw15
              go_region
              go_wp2_with fail
              go_roundw
              case rel => exact ⟨q + 1, by omega, by go_num, OBH.out.chg ((Chg.refl (· = g) w15).setg q (.int .u8 t)).drew (fun y hy h => by
                rw [hob] at hy
                injection hy with hy
                exact hne (hy.trans h)), OGH.out, (by rw [H15.out]; exact ((CQ.out.setCell (p := ⟨g2, q, none⟩) (fun _ => .inr hob) _).setCell (p := ⟨g, q, none⟩) (fun _ => .inl rfl) _).drew)⟩
              case measure => simp [intOf]; omega
            · obtain rfl : q = m := by omega
              have hfull : t3Up x.body q = x.body.map t3 := by rw [HM.out]; exact t3Up_all _
              have OBF := OB.out
              have OGF := OG.out
              rw [hfull] at OBF OGF
              have CWr : Hid (Chg (fun _ => False) w wr) := CWJ.out.trans CQ2.out (fun y hy h => by
                rcases h with h | h
                · subst h
                  have := GS.out y (by rw [HG.out]; exact List.getElem_mem _)
                  omega
                · have h1 := CWJ.out.size
                  have h2 := hN1.out
                  have h3 := C1.out.size
                  omega)
              have hlow : ∀ {y : Nat}, y < wo.heap.size → N ≤ y → ¬ (y = g ∨ Value.ownBlock (.slice Ab q cb) = some y) := fun {y} h1 h2 h => by
                have h3 := hgw2.out
                rcases h with h | h
                · omega
                · have := FB.out y h
                  omega
              have SR : Hid (Secs wr (.slice Av j cv) ((l.take j).map turn) bs) := (SJ.out.chg C14.out (fun _ _ h => h) (fun _ _ _ _ h => h)).chg CQ.out (fun y hy => by
                have h1 := SJ.out.row.lt y hy
                exact hlow h1 (FJ.out y hy)) (fun b hb y hy => by
                obtain ⟨i, hi, rfl⟩ := List.getElem_of_mem hb
                have h1 := SJ.out.lenB
                exact hlow ((SJ.out.own i (by omega) hi).lt y hy) (GJ.out _ hb y hy))
              have rowT := SR.out.row
              rw [HTL.out] at rowT
              have HRT := Lib.hid rowT
              have f0 := XC.out wr CWr.out
              have OBH := Lib.hid OBF
              have OGH := Lib.hid OGF
              clear hfull OBF OGF rowT OB OG hlow
              go_wp2_with (at_builtin; go_must (refine wp_app2 rfl _ _ 72 80 (.agg #[.int .i64 0, .slice none 0 0]) 32 rfl Try.underlying72 infoS rfl (by decide) (.slice Av j cv) j (tCells ((l.take j).map turn) bs) (.int .i64 x.id) (.slice Ab q cb) rfl rfl rfl HRT.out rfl (by omega) ?_); intro v' w16 k1 k2 k3; obtain ⟨A16, c16, rfl, _, _⟩ := k1.slice; have N1 := Lib.hid k1; have N2 := Lib.hid k2; have N3 := Lib.hid k3; clear k1 k2 k3; go_frame)
              have F16 : Hid (∀ y, Value.ownBlock (.slice A16 (j + 1) c16) = some y → N ≤ y) := N3.out.ge FJ.out (Nat.le_trans hNw.out CQ2.out.size)
              have OB16 : OwnB w16 (.slice Ab q cb) (turn x).body := OBH.out.chg N2.out (fun y hy e => by
                obtain ⟨cur', hcu⟩ := OwnV.typed OBH.out y hy
                exact HRT.out.type_ne hcu (by decide) e)
              have OG16 : OwnB w16 (.slice (some ⟨g, 0, none⟩) (q + 90) (q + 90)) (x.body.map t3 ++ marks) := OGH.out.chg N2.out (fun y hy e => by
                obtain ⟨cur', hcu⟩ := OwnV.typed OGH.out y hy
                exact HRT.out.type_ne hcu (by decide) e)
              have S16 := SR.out.snoc HTL.out N2.out (fun y hy ht => by
                obtain ⟨cur', hcu⟩ := ht
                exact HRT.out.type_ne hcu (by decide) hy) (x := turn x) N1.out OB16
              have htk : (l.take j).map turn ++ [turn x] = (l.take (j + 1)).map turn := by
                rw [List.take_succ_eq_append_getElem hkl, List.map_append, HX.out]
                rfl
              rw [htk] at S16
              have CC : Chg (fun y => y = g ∨ N ≤ y) wo w16 := CQ2.out.trans N2.out (fun y hy h => .inr (FJ.out y h))
              have hgu : ∃ cur, Blk wr g 5 cur := OwnV.typed OGH.out g rfl
              have hgu0 : ∃ cur, Blk wo g 5 cur := OwnV.typed OW.out g rfl
              have H16 := HJ.out.set hkl hkg CC (fun y hy h => by
                rcases h with h | h
                · obtain ⟨cur', hcu⟩ := hgu0
                  subst h
                  exact HRI.out.type_ne hcu (by decide) hy
                · have := hIN.out y hy
                  omega) (fun y hy h => by
                rcases h with h | h
                · obtain ⟨cur', hcu⟩ := hgu0
                  subst h
                  exact HJ.out.rowF.type_ne hcu (by decide) hy
                · have := hFN.out y hy
                  omega) (fun i hi hij h => by
                rcases h with h | h
                · rw [HG.out] at h
                  exact hij ((List.getElem_inj HJ.out.apart).1 h)
                · have h1 := hGN.out _ (List.getElem_mem hi)
                  have h2 := hN1.out
                  omega) (m := x.body.map t3) (by rw [← HX.out, ← HG.out, ← HM.out]; exact OG16) (by rw [← HX.out]; simp)
              rw [show x.body.map t3 = l[j].body.map t3 by rw [HX.out], nowAt_set l j hkl] at H16
              have C16 : Chg (fun y => y ∈ gs ∨ N ≤ y) w13 w16 := CJ.out.trans CC (fun y hy h => by
                rcases h with h | h
                · subst h
                  rw [HG.out]
                  exact .inl (List.getElem_mem _)
                · exact .inr h)
              have G16 : ∀ b ∈ bs ++ [Value.slice Ab q cb], ∀ y, b.ownBlock = some y → N ≤ y := fun b hb y hy => by
                rcases List.mem_append.1 hb with hb | hb
                · exact GJ.out b hb y hy
                · rw [List.mem_singleton] at hb
                  subst hb
                  exact Nat.le_trans hNw.out (FB.out y hy)
              have P1 := Lib.hid S16
              have P2 := Lib.hid H16
              have P3 := Lib.hid C16
              have P4 := Lib.hid G16
              clear S16 H16 C16 G16 CC OB16 OG16 htk hgu hgu0
              go_wp2_with fail
              go_roundw
              case rel => exact ⟨j + 1, by omega, by go_num, _, P1.out, P2.out, F16.out, P4.out, P3.out⟩
              case measure => simp [intOf]; omega
        · obtain rfl : j = k := by omega
          have htk : l.take j = l := List.take_of_length_le (by rw [← HN.out]; exact Nat.le_refl _)
          have hnw : nowAt l j = l.map (fun x => x.body.map t3) := by rw [HN.out]; exact nowAt_all l
          rw [htk] at SJ
          rw [hnw] at HJ
          have hvv := SJ.out.cap.2
          obtain ⟨hv2, hv3⟩ := hvv
          have HN2 : Hid (j = (l.map turn).length) := by rw [Hid, List.length_map]; exact HN.out
          have hbt2 : Hid (∀ x ∈ l.map turn, Byt x.body) := fun x hx => by
            obtain ⟨y, _, rfl⟩ := List.mem_map.1 hx
            intro z hz
            obtain ⟨z', _, rfl⟩ := List.mem_map.1 hz
            exact t3_byt z'
          have hrg2 : Hid (∀ x ∈ l.map turn, -9223372036854775808 ≤ x.id ∧ x.id ≤ 9223372036854775807) := fun x hx => by
            obtain ⟨y, hy, rfl⟩ := List.mem_map.1 hx
            exact HALL.out.2 y hy
          have hb2 : ∀ x ∈ l.map turn, x.body.length ≤ 1048576 := fun x hx => by
            obtain ⟨y, hy, rfl⟩ := List.mem_map.1 hx
            show (y.body.map t3).length ≤ 1048576
            rw [List.length_map]
            exact HB.out y hy
          have hE2 := secsEnc_bound (l.map turn) (by rw [← HN2.out]; exact hl) hb2 (fun x hx => (hrg2.out x hx).2)
          have HE2 : Hid ((secsEnc (l.map turn)).length ≤ 140737488355200) := Nat.le_trans hE2 (by decide)
          have HBB2 : Hid (∀ x ∈ l.map turn, x.body.length ≤ 140737488355200) := fun x hx => Nat.le_trans (hb2 x hx) (by decide)
          obtain ⟨S1, er1, hS1⟩ : ∃ S1 er1, sealOf s (l.map turn) = (S1, er1) := ⟨_, _, rfl⟩
          have HL1 : Hid (S1.length ≤ 140737488355328) := by
            have := sealOf_len s (l.map turn) hE2 (by rw [← HN2.out]; exact hl)
            rw [hS1] at this
            exact Nat.le_trans this (by decide)
          have HS1 := Lib.hid hS1
          have q1 : Hid (RdSecs wr Ai (l.map turn)) := HJ.out.rd (by simp) (fun i h1 h2 => by simp [turn]) (fun i h1 h2 => by simp [turn]) hbt2.out hrg2.out HB.out
          have q2 := Lib.hid (SJ.out.rd hbt2.out hrg2.out)
          have T14 := Lib.hid (T13.out.chg CJ.out (fun y hy h => by
            rcases h with h | h
            · have h1 := hGN.out y h
              have h2 := (hTN.out y hy).2
              have h3 := hZ.out
              omega
            · have := (hTN.out y hy).1
              omega))
          have Y14 := Lib.hid (Y13.out.chg CJ.out (fun y hy h => by
            rcases h with h | h
            · have h1 := hGN.out y h
              have h2 := (hYN.out y hy).2
              have h3 := hZ.out
              omega
            · have := (hYN.out y hy).1
              omega))
          clear htk hnw hb2 hE2 hS1 SJ HJ T13 Y13
          go_wp2_with fail
          refine (sealCall' HS1 HN2 (by omega) hci hmi q1 HE2 HBB2).mono ?_
          rintro e w17 ⟨A17, n17, c17, rfl, m1⟩
          have R17 := Lib.hid m1.rd
          have L17 := Lib.hid m1.len
          have D17 := Lib.hid m1.chg
          have q3 : Hid (RdSecs w17 Av (l.map turn)) := q2.out.below D17.out.done
          clear m1
          go_wp2_with fail
          refine (sealRef' HS1 HN2 (by omega) hv2 hv3 q3 HE2 HBB2).mono ?_
          rintro e w18 ⟨A18, n18, c18, rfl, m1⟩
          have R18 := Lib.hid m1.rd
          have L18 := Lib.hid m1.len
          have D18 := Lib.hid (D17.out.trans m1.chg (fun _ _ h => h))
          have R17' := Lib.hid (R17.out.below m1.chg.done)
          clear m1
          have rt : Hid (Rd w18 .u8 At S0) := (T14.out.chg D18.out (fun _ _ h => h)).rd (by rw [TL.out])
          have ry : Hid (Rd w18 .u8 Ay S0) := (Y14.out.chg D18.out (fun _ _ h => h)).rd (by rw [YL.out])
          go_wp2_with fail
          refine (sameBytes' (b := true) L17 L18 HL1 R17' R18 (by rw [Hid]; simp)).mono ?_
          rintro e wq ⟨rfl, qg, rfl⟩
          have rt' : Hid (Rd (w18.drewN qg) .u8 At S0) := rt.out
          have ry' : Hid (Rd (w18.drewN qg) .u8 Ay S0) := ry.out
          go_wp2_with fail
          refine (sameBytes' (b := true) TL YL HS' rt' ry' (by rw [Hid]; simp)).mono ?_
          rintro e wq ⟨rfl, qh, rfl⟩
          go_wp2_with fail
          go_ret
          exact ⟨rfl, ((CWJ.out.trans D18.out (fun _ _ h => h)).drewN _).done⟩
end Go.Proofs.Ytcljbaoadmflgaa.Kit
