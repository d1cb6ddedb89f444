/- The walk of OctetUnseals. -/
import Derived.Test.YtcljbaoadmflgaaProg
import Derived.Test.YtcljbaoadmflgaaUnsE
import Derived.Test.YtcljbaoadmflgaaAlike
import Derived.Test.YtcljbaoadmflgaaOctSl
set_option linter.unusedVariables false
set_option linter.unusedSimpArgs false
namespace Go.Proofs.Ytcljbaoadmflgaa.Kit
open Go.RowKit
def tx (i : Nat) (v : Int) : Int := Go.bits .xor .u8 v ((i : Int) % 3)
theorem tx_byt (i : Nat) (v : Int) : 0 ≤ tx i v ∧ tx i v ≤ 255 := by
  unfold tx
  show 0 ≤ IntKind.u8.wrap _ ∧ IntKind.u8.wrap _ ≤ 255
  rw [IntKind.wrap_u8]
  omega
/-- t up to k, then l -/
def upTo (t l : List Int) (k : Nat) : List Int := t.take k ++ l.drop k
theorem upTo_length {t l : List Int} (k : Nat) (ht : t.length = l.length) : (upTo t l k).length = l.length := by
  simp [upTo]
  omega
theorem upTo_set {t l : List Int} (k : Nat) (ht : t.length = l.length) (h : k < t.length) (m : List Int) : (upTo t l k ++ m).set k t[k] = upTo t l (k + 1) ++ m := by
  have h1 : (t.take k).length = k := by simp; omega
  unfold upTo
  rw [List.append_assoc, List.set_append_right _ _ (by omega), h1, Nat.sub_self, List.drop_eq_getElem_cons (by omega), List.cons_append, List.set_cons_zero, List.take_succ_eq_append_getElem h]
  simp only [List.append_assoc, List.cons_append, List.nil_append]
theorem upTo_zero (t l : List Int) : upTo t l 0 = l := by simp [upTo]
theorem upTo_all {t l : List Int} (ht : t.length = l.length) : upTo t l l.length = t := by
  unfold upTo
  rw [List.drop_length, List.append_nil, List.take_of_length_le (by omega)]
/-- each byte turned by its place -/
def txAll (l : List Int) : List Int := l.mapIdx tx
theorem txAll_length (l : List Int) : (txAll l).length = l.length := by simp [txAll]
theorem txAll_get (l : List Int) (k : Nat) (h : k < l.length) : (txAll l)[k]'(by rw [txAll_length]; exact h) = tx k l[k] := by simp [txAll]
theorem txAll_byt (l : List Int) : Byt (txAll l) := fun z hz => by
  obtain ⟨i, hi, rfl⟩ := List.getElem_of_mem hz
  rw [txAll_get l i (by rw [← txAll_length l]; exact hi)]
  exact tx_byt _ _
/-- what Unseal hands out: at most 64 sections, each body a part of the bytes -/
def SmallS (N : Nat) (L : List SecV) : Prop := L.length ≤ 64 ∧ ∀ x ∈ L, x.body.length ≤ N ∧ Byt x.body ∧ -9223372036854775808 ≤ x.id ∧ x.id ≤ 9223372036854775807
theorem secsRd_small {l : List Int} (hb : Byt l) : ∀ (n : Nat) (last : Int) (p : Nat) (acc : List SecV), 0 ≤ last → (∀ x ∈ acc, x.body.length ≤ l.length ∧ Byt x.body ∧ -9223372036854775808 ≤ x.id ∧ x.id ≤ 9223372036854775807) → (secsRd l n last p acc).1.length ≤ acc.length + n ∧ ∀ x ∈ (secsRd l n last p acc).1, x.body.length ≤ l.length ∧ Byt x.body ∧ -9223372036854775808 ≤ x.id ∧ x.id ≤ 9223372036854775807
  | 0, last, p, acc, h0, h => ⟨Nat.le_refl _, h⟩
  | n + 1, last, p, acc, h0, h => by
    obtain ⟨x, k, e, hu⟩ : ∃ x k e, urd (l.drop p) 18446744073709551615 = (x, k, e) := ⟨_, _, _, rfl⟩
    have hx := urd_range (l.drop p) 18446744073709551615
    rw [hu] at hx
    simp only at hx
    by_cases he : e = 0
    · subst he
      by_cases hbad : x ≤ last ∨ 255 < x
      · rw [secsRd_bad hu hbad]
        exact ⟨by simp, fun x hx => absurd hx (by simp)⟩
      · obtain ⟨z, k2, e2, hu2⟩ : ∃ z k2 e2, urd (l.drop (p + k)) 18446744073709551615 = (z, k2, e2) := ⟨_, _, _, rfl⟩
        by_cases he2 : e2 = 0
        · subst he2
          by_cases hfar : (l.length : Int) - ((p + k + k2 : Nat) : Int) < z
          · rw [secsRd_far hu hbad hu2 hfar]
            exact ⟨by simp, fun x hx => absurd hx (by simp)⟩
          · rw [secsRd_ok hu hbad hu2 hfar]
            obtain ⟨h1, h2⟩ := secsRd_small hb n x (p + k + k2 + z.toNat) (acc ++ [⟨x, (l.drop (p + k + k2)).take z.toNat⟩]) (by omega) (fun y hy => by
              rcases List.mem_append.1 hy with hy | hy
              · exact h y hy
              · rw [List.mem_singleton] at hy
                subst hy
                refine ⟨by simp; omega, fun q hq => hb q (List.mem_of_mem_drop (List.mem_of_mem_take hq)), by simp; omega, by simp; omega⟩)
            refine ⟨?_, h2⟩
            rw [List.length_append] at h1
            simp at h1
            omega
        · rw [secsRd_e2 hu hbad hu2 he2]
          exact ⟨by simp, fun x hx => absurd hx (by simp)⟩
    · rw [secsRd_e1 hu he]
      exact ⟨by simp, fun x hx => absurd hx (by simp)⟩
theorem secsHd_small {l : List Int} (hb : Byt l) : SmallS l.length (secsHd l).1 := by
  obtain ⟨x, k, e, hu⟩ : ∃ x k e, urd (l.drop 8) 18446744073709551615 = (x, k, e) := ⟨_, _, _, rfl⟩
  have hx := urd_range (l.drop 8) 18446744073709551615
  rw [hu] at hx
  simp only at hx
  by_cases he : e = 0
  · subst he
    by_cases h64 : 64 < x
    · rw [secsHd_big hu h64]
      exact ⟨by simp, fun x hx => absurd hx (by simp)⟩
    · rw [secsHd_ok hu h64]
      obtain ⟨h1, h2⟩ := secsRd_small hb x.toNat 0 (8 + k) [] (Int.le_refl 0) (fun x hx => absurd hx (by simp))
      exact ⟨by simp at h1; omega, h2⟩
  · rw [secsHd_e hu he]
    exact ⟨by simp, fun x hx => absurd hx (by simp)⟩
theorem SmallS.nil (N : Nat) : SmallS N [] := ⟨by simp, fun x hx => absurd hx (by simp)⟩
theorem SmallS.mono {N M : Nat} {L : List SecV} (h : SmallS N L) (hNM : N ≤ M) : SmallS M L := ⟨h.1, fun x hx => ⟨Nat.le_trans (h.2 x hx).1 hNM, (h.2 x hx).2⟩⟩
theorem unsealOf_small {s : ByteArray} {l : List Int} (hb : Byt l) : SmallS l.length (unsealOf s l).1 := by
  have hs := secsHd_small (l := l.take (l.length - 4)) (fun z hz => hb z (List.mem_of_mem_take hz))
  unfold unsealOf
  split
  · exact SmallS.nil _
  · split
    · exact SmallS.nil _
    · split
      · exact SmallS.nil _
      · split
        · exact SmallS.nil _
        · unfold secsOf
          split
          · exact SmallS.nil _
          · split
            · exact SmallS.nil _
            · exact hs.mono (by simp)
/-- the bodies that were put -/
def Done (bs : List Value) (k y : Nat) : Prop := ∃ j, j < k ∧ ∃ b, bs[j]? = some b ∧ b.ownBlock = some y
theorem Done.mono {bs : List Value} {k m y : Nat} (h : Done bs k y) (hk : k ≤ m) : Done bs m y := by
  obtain ⟨j, hj, r⟩ := h
  exact ⟨j, by omega, r⟩
theorem Done.mem {bs : List Value} {k y : Nat} (h : Done bs k y) : ∃ b ∈ bs, b.ownBlock = some y := by
  obtain ⟨j, _, b, hb, e⟩ := h
  exact ⟨b, List.mem_of_getElem? hb, e⟩
theorem Done.not {bs : List Value} {k j y : Nat} (ha : ApartL bs) (hk : k ≤ j) (hj : j < bs.length) (hy : bs[j].ownBlock = some y) : ¬ Done bs k y := by
  rintro ⟨i, hi, b, hb, e⟩
  have hil : i < bs.length := by omega
  rw [List.getElem?_eq_getElem hil] at hb
  injection hb with hb
  subst hb
  exact List.pairwise_iff_getElem.1 ha i j hil hj (by omega) y e hy
theorem unsealCall' {s : ByteArray} {A : Option Addr} {n c : Nat} {l : List Int} {w : World} {L : List SecV} {p e : Int} (hR : Hid (unsealOf s l = (L, p, e))) (HN : Hid (n = l.length)) (hnc : n ≤ c) (hmx : c ≤ maxLen) (hl : Hid (l.length ≤ 140737488355328)) (hb : Hid (Byt l)) (hr : Hid (Rd w .u8 A l)) (hss : s.size ≤ 140737488355328) :
    Calls Try.prog 44 #[.string s, .slice A n c] w fun ed w' => ∃ A c bs, ed = .returned (.tuple #[.slice A L.length c, .int .i64 p, .int .i64 e]) ∧ SecsMade (fun _ => False) w w' A L.length c L bs :=
  (unsealCall hR HN hnc hmx hl hb hr hss).mono fun ed w' ⟨A, n, c, bs, he, hm⟩ => by
    obtain ⟨rfl, _⟩ := hm.secs.cap
    exact ⟨A, c, bs, he, hm⟩
theorem unsealRef' {s : ByteArray} {A : Option Addr} {n c : Nat} {l : List Int} {w : World} {L : List SecV} {p e : Int} (hR : Hid (unsealOf s l = (L, p, e))) (HN : Hid (n = l.length)) (hnc : n ≤ c) (hmx : c ≤ maxLen) (hl : Hid (l.length ≤ 140737488355328)) (hb : Hid (Byt l)) (hr : Hid (Rd w .u8 A l)) (hss : s.size ≤ 140737488355328) :
    Calls Try.prog 45 #[.string s, .slice A n c] w fun ed w' => ∃ A c bs, ed = .returned (.tuple #[.slice A L.length c, .int .i64 p, .int .i64 e]) ∧ SecsMade (fun _ => False) w w' A L.length c L bs :=
  (unsealRef hR HN hnc hmx hl hb hr hss).mono fun ed w' ⟨A, n, c, bs, he, hm⟩ => by
    obtain ⟨rfl, _⟩ := hm.secs.cap
    exact ⟨A, c, bs, he, hm⟩
set_option maxRecDepth 20000 in
set_option maxHeartbeats 12800000 in
theorem octetUnsealsWalk (w : World) (s : ByteArray) (hs : s.size ≤ 140737488351232) (A : Option Addr) (c : Nat) (l : List Int) (hr : Hid (Rd w .u8 A l)) (hl : l.length ≤ 140737488351232) (hb : Byt l) (hc : l.length ≤ c) (hmx : c ≤ maxLen) :
    Calls Try.prog 12 #[.string s, .slice A l.length c] w fun e w' => e = .returned (.bool true) ∧ Below w.heap.size w w' := by
  obtain ⟨n, hn⟩ : ∃ n : Nat, n = l.length := ⟨_, rfl⟩
  have HN := Lib.hid hn
  have HB := Lib.hid hb
  have hle : Hid (l.length ≤ 140737488355328) := Nat.le_trans hl (by decide)
  have hl90 : n ≤ 140737488351232 := by omega
  have hnc : n ≤ c := by omega
  have HL := Lib.hid hl
  have hbl : Hid (l.length ≤ 140737488351232) := hl
  have hss : s.size ≤ 140737488355328 := by omega
  obtain ⟨L, p, e0, hU⟩ : ∃ L p e0, unsealOf s l = (L, p, e0) := ⟨_, _, _, rfl⟩
  have hsm := unsealOf_small (s := s) hb
  rw [hU] at hsm
  have HU := Lib.hid hU
  have HSM := Lib.hid hsm
  obtain ⟨m, hm⟩ : ∃ m : Nat, m = L.length := ⟨_, rfl⟩
  have hm64 : m ≤ 64 := by rw [hm]; exact hsm.1
  have HM := Lib.hid hm
  have HBB : Hid (∀ x ∈ L, x.body.length ≤ 140737488355328) := fun x hx => Nat.le_trans (hsm.2 x hx).1 hle.out
  have HBT : Hid (∀ x ∈ L, Byt x.body) := fun x hx => (hsm.2 x hx).2.1
  have HRG : Hid (∀ x ∈ L, -9223372036854775808 ≤ x.id ∧ x.id ≤ 9223372036854775807) := fun x hx => (hsm.2 x hx).2.2
  rw [← hn]
  clear hn hb hl hc hU hsm hm
  go_enter Try.func12, Try.ntmps12
  go_wp2_with fail
  refine (show Calls Try.prog 16 #[.slice A n c] w _ from HN.out ▸ hand A c l _ HL.out hr).mono ?_
  rintro e w1 ⟨g, rfl, k1, k2, k3⟩
  have I1 := Lib.hid k1; have hg := Lib.hid k2; have C1 := Lib.hid k3
  clear k1 k2 k3
  have hm90 : (l ++ marks).length = n + 90 := by rw [List.length_append, marks_length, HN.out]
  have H90 := Lib.hid hm90
  clear hm90
  have V1 : Hid (∀ W, OwnB W (.slice (some ⟨g, 0, none⟩) (n + 90) (n + 90)) (l ++ marks) → Rd W .u8 (some ⟨g, 0, none⟩) (l ++ marks) ∧ Rd W .u8 (some ⟨g, 0, none⟩) l) := fun W h => by
    have h1 := h.rd (A := some ⟨g, 0, none⟩) (c := n + 90) (by rw [H90.out])
    have h2 := h1.take l.length
    rw [List.take_left] at h2
    exact ⟨h1, h2⟩
  have q1 : Hid (Rd w1 .u8 (some ⟨g, 0, none⟩) l) := (V1.out w1 I1.out).2
  have b1 : (n : Int) ≤ (n : Int) + 90 := by omega
  have b0 : (0 : Int) ≤ (n : Int) := by omega
  have b9 : n + 90 ≤ maxLen := by simp only [maxLen]; omega
  go_wp2_with fail
  refine (unsealCall' HU HN (by omega) b9 hle HB q1 hss).mono ?_
  rintro e w2 ⟨Ax, cx, bx, rfl, m1⟩
  rw [← HM.out] at m1 ⊢
  have X2 := Lib.hid m1.secs; have XN := Lib.hid m1.new; have XB := Lib.hid m1.newB; have XA := Lib.hid m1.apart; have D2 := Lib.hid m1.chg
  clear m1 q1
  have I2 := Lib.hid (I1.out.chg D2.out (fun _ _ h => h))
  have q1 : Hid (Rd w2 .u8 (some ⟨g, 0, none⟩) l) := (V1.out w2 I2.out).2
  go_wp2_with fail
  refine (unsealCall' HU HN (by omega) b9 hle HB q1 hss).mono ?_
  rintro e w3 ⟨At, ct, bt, rfl, m1⟩
  rw [← HM.out] at m1 ⊢
  have T3 := Lib.hid m1.secs; have TN := Lib.hid m1.new; have TB := Lib.hid m1.newB; have D3 := Lib.hid m1.chg
  clear m1 q1
  have C3 : Hid (Chg (fun _ => False) w w3) := (C1.out.trans D2.out (fun _ _ h => h)).trans D3.out (fun _ _ h => h)
  have q1 : Hid (Rd w3 .u8 A l) := hr.out.below C3.out.done
  go_wp2_with fail
  refine (unsealRef' HU HN hnc hmx hle HB q1 hss).mono ?_
  rintro e w4 ⟨Ay, cy, by_, rfl, m1⟩
  rw [← HM.out] at m1 ⊢
  have Y4 := Lib.hid m1.secs; have YN := Lib.hid m1.new; have YB := Lib.hid m1.newB; have D4 := Lib.hid m1.chg
  clear m1 q1
  have I4 := Lib.hid ((I2.out.chg D3.out (fun _ _ h => h)).chg D4.out (fun _ _ h => h))
  have X4 := Lib.hid ((X2.out.chg D3.out (fun _ _ h => h) (fun _ _ _ _ h => h)).chg D4.out (fun _ _ h => h) (fun _ _ _ _ h => h))
  have T4 := Lib.hid (T3.out.chg D4.out (fun _ _ h => h) (fun _ _ _ _ h => h))
  have C4 : Hid (Chg (fun _ => False) w w4) := C3.out.trans D4.out (fun _ _ h => h)
  have hZ : Hid (w.heap.size ≤ w1.heap.size ∧ w1.heap.size ≤ w2.heap.size ∧ w2.heap.size ≤ w3.heap.size ∧ w3.heap.size ≤ w4.heap.size) := ⟨C1.out.size, D2.out.size, D3.out.size, D4.out.size⟩
  have hXlt : Hid ((∀ y, Value.ownBlock (.slice Ax m cx) = some y → y < w2.heap.size) ∧ ∀ b ∈ bx, ∀ y, b.ownBlock = some y → y < w2.heap.size) := ⟨X2.out.row.lt, fun b hb y hy => by
    obtain ⟨i, hi, rfl⟩ := List.getElem_of_mem hb
    exact (X2.out.own i (by rw [← X2.out.lenB]; exact hi) hi).lt y hy⟩
  have hTlt : Hid ((∀ y, Value.ownBlock (.slice At m ct) = some y → y < w4.heap.size) ∧ ∀ b ∈ bt, ∀ y, b.ownBlock = some y → y < w4.heap.size) := ⟨T4.out.row.lt, fun b hb y hy => by
    obtain ⟨i, hi, rfl⟩ := List.getElem_of_mem hb
    exact (T4.out.own i (by rw [← T4.out.lenB]; exact hi) hi).lt y hy⟩
  have hYlt : Hid ((∀ y, Value.ownBlock (.slice Ay m cy) = some y → y < w4.heap.size) ∧ ∀ b ∈ by_, ∀ y, b.ownBlock = some y → y < w4.heap.size) := ⟨Y4.out.row.lt, fun b hb y hy => by
    obtain ⟨i, hi, rfl⟩ := List.getElem_of_mem hb
    exact (Y4.out.own i (by rw [← Y4.out.lenB]; exact hi) hi).lt y hy⟩
  have hglt : Hid (g < w1.heap.size) := I1.out.lt g rfl
  have hcaps : m ≤ ct ∧ m ≤ cy ∧ m ≤ cx ∧ cx ≤ maxLen := ⟨T4.out.cap.2.1, Y4.out.cap.2.1, X4.out.cap.2⟩
  obtain ⟨hct, hcy, hcx, hcxm⟩ := hcaps
  have RXf : Hid (∀ W, Secs W (.slice Ax m cx) L bx → RdSecs W Ax L) := fun W h => h.rd HBT.out HRG.out
  have RTf : Hid (∀ W, Secs W (.slice At m ct) L bt → RdSecs W At L) := fun W h => h.rd HBT.out HRG.out
  have RYf : Hid (∀ W, Secs W (.slice Ay m cy) L by_ → RdSecs W Ay L) := fun W h => h.rd HBT.out HRG.out
  clear D2 D3 D4 C3 I2 I1 X2 T3
  have u1 : Hid (Rd w4 .u8 (some ⟨g, 0, none⟩) (l ++ marks)) := (V1.out w4 I4.out).1
  have u2 : Hid (Rd w4 .u8 A l) := hr.out.below C4.out.done
  have hcc : Hid (n + 90 ≤ n + 90) := Nat.le_refl _
  have H90s : Hid (n + 90 = (l ++ marks).length) := H90.out.symm
  go_wp2_with fail
  refine (untouched' H90s HN hcc hbl u1 u2).mono ?_
  rintro e wq ⟨rfl, qa, rfl⟩
  obtain ⟨w5, hw5⟩ : ∃ w5, w5 = w4.drewN qa := ⟨_, rfl⟩
  have I5 : Hid (OwnB w5 (.slice (some ⟨g, 0, none⟩) (n + 90) (n + 90)) (l ++ marks)) := by rw [hw5]; exact I4.out.drewN qa
  have C45 : Chg (fun _ => False) w4 w5 := by rw [hw5]; exact (Chg.refl _ w4).drewN qa
  have X5 := Lib.hid (X4.out.chg C45 (fun _ _ h => h) (fun _ _ _ _ h => h))
  have T5 := Lib.hid (T4.out.chg C45 (fun _ _ h => h) (fun _ _ _ _ h => h))
  have Y5 := Lib.hid (Y4.out.chg C45 (fun _ _ h => h) (fun _ _ _ _ h => h))
  have C5 : Hid (Chg (fun _ => False) w w5) := C4.out.trans C45 (fun _ _ h => h)
  have hS5 : Hid (w5.heap.size = w4.heap.size) := by rw [hw5]; rfl
  have r1 := Lib.hid (RTf.out w5 T5.out)
  have r2 := Lib.hid (RYf.out w5 Y5.out)
  rw [← hw5]
  clear hw5 C45 u1 u2 I4 X4 T4 Y4 C4
  go_wp2_with fail
  refine (alike HM (by omega) hct hcy HBB r1 r2).mono ?_
  rintro e wq ⟨rfl, qb, rfl⟩
  obtain ⟨w7, hw7⟩ : ∃ w7, w7 = (w5.drewN qb).alloc (.cells #[.slice none 0 0, .bool false, .slice none 0 0, .slice none 0 0] 49) := ⟨_, rfl⟩
  obtain ⟨gb, hgb⟩ : ∃ gb, gb = w5.heap.size := ⟨_, rfl⟩
  have A7 : Hid (Chg (fun _ => False) w5 w7) := by rw [hw7]; exact ((Chg.refl _ _).drewN _).alloc _
  have B7 : Hid (BookI false gb 49 [] (fun _ => False) 0 w7) := by
    rw [hw7, hgb]
    exact BookI.new (Blk.new (w5.drewN qb) _ _)
  have I7 := Lib.hid (I5.out.chg A7.out (fun _ _ h => h))
  have X7 := Lib.hid (X5.out.chg A7.out (fun _ _ h => h) (fun _ _ _ _ h => h))
  have T7 := Lib.hid (T5.out.chg A7.out (fun _ _ h => h) (fun _ _ _ _ h => h))
  have Y7 := Lib.hid (Y5.out.chg A7.out (fun _ _ h => h) (fun _ _ _ _ h => h))
  have C7 : Hid (Chg (fun _ => False) w w7) := C5.out.trans A7.out (fun _ _ h => h)
  have hgw : Hid (gb = w4.heap.size ∧ gb < w7.heap.size) := ⟨by rw [hgb, hS5.out], B7.out.lt⟩
  clear I5 X5 T5 Y5 C5 r1 r2 A7
  go_wp2_with fail
  rw [← hw7, ← hgb]
  clear hw7 hgb
  go_loopw [18] (fun i wr => ∃ k : Nat, k ≤ m ∧ i = .int .i64 k ∧ Hid (∃ q, wr = w7.drewN q)) (fun i _ => m - (intOf i).toNat)
  case atStart => exact ⟨0, Nat.zero_le _, rfl, 0, rfl⟩
  case round =>
    obtain ⟨k, hk, rfl, HW⟩ := hrel
    by_cases hlt : k < m
    · have hkl : k < L.length := by rw [← HM.out]; exact hlt
      have hwr : ∀ {A : Option Addr}, RdSecs w7 A L → RdSecs wr A L := fun h => by
        obtain ⟨q, hq⟩ := HW.out
        rw [hq]
        exact h.drewN q
      obtain ⟨ad, e0', sa⟩ := hwr (RXf.out _ X7.out) k hkl
      obtain ⟨B1, d1, f1, f2, f3, f4⟩ := sa.body
      have f0 := sa.id
      obtain ⟨ad', e1', sb⟩ := hwr (RYf.out _ Y7.out) k hkl
      obtain ⟨B2, d2, g1, g2, g3, g4⟩ := sb.body
      have g0 := sb.id
      obtain ⟨x, hx⟩ : ∃ x, x = L[k] := ⟨_, rfl⟩
      have hm1 := Lib.hid (HBB.out x (by rw [hx]; exact List.getElem_mem hkl))
      rw [← hx] at f0 f1 f2 f4 g0 g1 g2 g4
      obtain ⟨mm, hmm⟩ : ∃ mm, mm = x.body.length := ⟨_, rfl⟩
      rw [← hmm] at f1 f2 g1 g2
      have HMM := Lib.hid hmm
      have VB : Hid (∀ q, Rd (wr.drewN q) .u8 B1 x.body) := fun _ => f4
      have V4 : Hid (∀ q, Rd (wr.drewN q) .u8 B2 x.body) := fun _ => g4
      subst e0' e1'
      have b1 : (0 : Int) ≤ (k : Int) := by omega
      have b2 : (k : Int) < (m : Int) := by omega
      have hne : (x.id != x.id) = false := by simp
      clear hx hmm sa sb hkl f4 g4 hwr
      go_wp2_with fail
      go_quiet ((go_at_call 23; go_must (refine Calls.quiet_of (sameBytes' (b := true) HMM HMM hm1 (show Hid (Rd (wr.drewN _) _ _ _) from VB.out _) (show Hid (Rd (wr.drewN _) _ _ _) from V4.out _) (by rw [Hid]; simp)))))
      go_wp2_with fail
      go_roundw
      case rel =>
        obtain ⟨q, hq⟩ := HW.out
        exact ⟨k + 1, by omega, by go_num, _, by rw [hq, World.drewN_drewN]⟩
      case measure => simp [intOf]; omega
    · obtain rfl : k = m := by omega
      have C78 : Chg (fun _ => False) w7 wr := by
        obtain ⟨q, hq⟩ := HW.out
        rw [hq]
        exact (Chg.refl _ w7).drewN q
      have hS8 : Hid (wr.heap.size = w7.heap.size) := by
        obtain ⟨q, hq⟩ := HW.out
        rw [hq]
        rfl
      have I8 := Lib.hid (I7.out.chg C78 (fun _ _ h => h))
      have X8 := Lib.hid (X7.out.chg C78 (fun _ _ h => h) (fun _ _ _ _ h => h))
      have T8 := Lib.hid (T7.out.chg C78 (fun _ _ h => h) (fun _ _ _ _ h => h))
      have Y8 := Lib.hid (Y7.out.chg C78 (fun _ _ h => h) (fun _ _ _ _ h => h))
      have C8 : Hid (Chg (fun _ => False) w wr) := C7.out.trans C78 (fun _ _ h => h)
      have B8 := Lib.hid (B7.out.chg C78 (fun _ h => h.elim))
      obtain ⟨w8, hw8⟩ : ∃ w8, w8 = wr := ⟨_, rfl⟩
      subst hw8
      clear C78 I7 X7 T7 Y7 C7 B7 HW
      go_wp2_with fail
      go_loopw [19] (fun i wr => ∃ j : Nat, j ≤ k ∧ i = .int .i64 j ∧ ∃ D : Nat → Prop, Hid (BookI false gb 49 [] D j wr) ∧ Hid (∀ y, D y → Done bx j y ∨ w8.heap.size ≤ y) ∧ Hid (Chg (fun y => y = gb ∨ Done bx j y) w8 wr)) (fun i _ => k - (intOf i).toNat)
      case atStart => exact ⟨0, Nat.zero_le _, rfl, _, B8.out, fun y h => h.elim, Chg.refl _ _⟩
      case round =>
        obtain ⟨j, hj, rfl, D, BJ, DJ, CJ⟩ := hrel
        by_cases hlt2 : j < k
        · have hkl : j < L.length := by rw [← HM.out]; exact hlt2
          have hkb : j < bx.length := by rw [X8.out.lenB]; exact hkl
          have hxs : Hid (∀ y, (y = gb ∨ Done bx j y) → y = gb ∨ (w1.heap.size ≤ y ∧ y < w2.heap.size)) := fun y h => by
            rcases h with h | h
            · exact .inl h
            · obtain ⟨b, hb, e⟩ := h.mem
              exact .inr ⟨XB.out b hb y e, hXlt.out.2 b hb y e⟩
          have hrow : OwnV wr 80 2 (.slice Ax k cx) L.length (tCells L bx) := X8.out.row.chg CJ.out (fun y hy h => by
            rcases h with h | h
            · have h1 := hXlt.out.1 y hy
              have h2 := hgw.out.1
              have h3 := hZ.out
              omega
            · obtain ⟨b, hb, e⟩ := h.mem
              obtain ⟨i, hi, rfl⟩ := List.getElem_of_mem hb
              obtain ⟨cur, hcu⟩ := OwnV.typed (X8.out.own i (by rw [← X8.out.lenB]; exact hi) hi) y e
              exact X8.out.row.type_ne hcu (by decide) hy)
          obtain ⟨g1', g2⟩ := tCells_get L bx j hkl hkb
          rw [← HM.out] at hrow
          obtain ⟨ad, e0', c2, c3'⟩ := hrow.cells _ _ _ rfl _ _ g2
          have hob := (X8.out.own j hkl hkb).chg CJ.out (fun y hy h => by
            rcases h with h | h
            · have h1 := hXlt.out.2 _ (List.getElem_mem hkb) y hy
              have h2 := hgw.out.1
              have h3 := hZ.out
              omega
            · exact Done.not XA.out (Nat.le_refl _) hkb hy h)
          have hbd : Hid (∀ y, bx[j].ownBlock = some y → Done bx (j + 1) y ∧ ¬ Done bx j y ∧ w1.heap.size ≤ y ∧ y < w2.heap.size) := fun y hy => ⟨⟨j, by omega, bx[j], List.getElem?_eq_getElem hkb, hy⟩, Done.not XA.out (Nat.le_refl _) hkb hy, XB.out _ (List.getElem_mem hkb) y hy, hXlt.out.2 _ (List.getElem_mem hkb) y hy⟩
          obtain ⟨bv, hbv⟩ : ∃ bv, bv = bx[j] := ⟨_, rfl⟩
          obtain ⟨x, hx⟩ : ∃ x, x = L[j] := ⟨_, rfl⟩
          rw [← hbv] at c2 hob hbd
          rw [← hx] at hob
          have hxl : x.body.length ≤ 140737488355238 := by
            have h1 := (HSM.out.2 x (by rw [hx]; exact List.getElem_mem hkl)).1
            have h2 := HL.out
            omega
          have HOB := Lib.hid hob
          have f1 : wr.cell? ⟨(ad.add (j * 2)).block, (ad.add (j * 2)).off + 1, none⟩ = some bv := by
            rw [show (⟨(ad.add (j * 2)).block, (ad.add (j * 2)).off + 1, none⟩ : Addr) = (ad.add (j * 2)).add 1 from rfl, Go.Deep.add_add]
            exact c2
          have hN : Hid (∀ y, bv.ownBlock = some y → ¬ D y) := fun y hy hd => by
            obtain ⟨_, h1, h2, h3⟩ := hbd.out y hy
            rcases DJ.out y hd with h | h
            · exact h1 h
            · have h4 := hS8.out
              have h5 := hgw.out
              have h6 := hZ.out
              omega
          have hj2 : j ≤ 1099511627776 := by omega
          have HXL := Lib.hid hxl
          subst e0'
          have b1 : (0 : Int) ≤ (j : Int) := by omega
          have b2 : (j : Int) < (k : Int) := by omega
          clear hbv hx hob c2 g1' c3' g2 hkb hkl hrow hxl
          go_wp2_with fail
          refine (putI false gb 49 [] D j bv x.body wr (by decide) (by decide) BJ HOB hN hj2 HXL.out 0 rfl).mono ?_
          rintro e w9 ⟨rfl, k1, k2⟩
          have P1 := Lib.hid k1
          have P2 : Hid (Chg (fun y => y = gb ∨ Done bx (j + 1) y) w8 w9) := (CJ.out.mono (fun y _ h => h.imp id (fun h => h.mono (by omega)))).trans k2 (fun y hy h => by
            rcases h with h | h | h
            · exact .inl h
            · rcases DJ.out y h with h | h
              · exact .inr (h.mono (by omega))
              · omega
            · exact .inr (hbd.out y h).1)
          have P3 : Hid (∀ y, (D y ∨ bv.ownBlock = some y ∨ (wr.heap.size ≤ y ∧ y < w9.heap.size)) → Done bx (j + 1) y ∨ w8.heap.size ≤ y) := fun y h => by
            rcases h with h | h | h
            · exact (DJ.out y h).imp (fun h => h.mono (by omega)) id
            · exact .inl (hbd.out y h).1
            · have := CJ.out.size
              exact .inr (by omega)
          clear k1 k2
          go_wp2_with fail
          go_roundw
          case rel => exact ⟨j + 1, by omega, by go_num, _, P1, P3, P2⟩
          case measure => simp [intOf]; omega
        · obtain rfl : j = k := by omega
          have hSS : Hid (∀ {y : Nat}, w2.heap.size ≤ y → y < w4.heap.size → ¬ (y = gb ∨ Done bx j y)) := fun {y} h1 h2 h => by
            rcases h with h | h
            · have := hgw.out.1
              omega
            · obtain ⟨b, hb, e⟩ := h.mem
              have := hXlt.out.2 b hb y e
              omega
          have hSW : Hid (∀ {y : Nat}, y < w1.heap.size → ¬ (y = gb ∨ Done bx j y)) := fun {y} h1 h => by
            rcases h with h | h
            · have h2 := hgw.out.1
              have h3 := hZ.out
              omega
            · obtain ⟨b, hb, e⟩ := h.mem
              have := XB.out b hb y e
              omega
          have T9 := Lib.hid (T8.out.chg CJ.out (fun y hy => hSS.out (TN.out y hy) (hTlt.out.1 y hy)) (fun b hb y hy => hSS.out (TB.out b hb y hy) (hTlt.out.2 b hb y hy)))
          have Y9 := Lib.hid (Y8.out.chg CJ.out (fun y hy => hSS.out (Nat.le_trans hZ.out.2.2.1 (YN.out y hy)) (hYlt.out.1 y hy)) (fun b hb y hy => hSS.out (Nat.le_trans hZ.out.2.2.1 (YB.out b hb y hy)) (hYlt.out.2 b hb y hy)))
          have I9 := Lib.hid (I8.out.chg CJ.out (fun y hy => hSW.out (by simp [Value.ownBlock] at hy; have := hglt.out; omega)))
          have C9 : Hid (Chg (fun _ => False) w wr) := C8.out.trans CJ.out (fun y hy h => hSW.out (by have := hZ.out; omega) h)
          have hkk : j ≤ 1099511627776 := by omega
          have hS9 : Hid (w4.heap.size ≤ wr.heap.size) := by
            have h1 := CJ.out.size
            have h2 := hS8.out
            have h3 := hgw.out
            rw [Hid]
            omega
          clear I8 X8 T8 Y8 C8 B8 CJ DJ
          go_wp2_with fail
          refine (keptI false gb 49 [] D j wr BJ hkk 0 rfl).mono ?_
          rintro e wq ⟨rfl, rfl⟩
          have r1 := Lib.hid (RTf.out _ T9.out)
          have r2 := Lib.hid (RYf.out _ Y9.out)
          clear BJ
          go_wp2_with fail
          refine (alike HM hkk hct hcy HBB r1 r2).mono ?_
          rintro e wq ⟨rfl, qc, rfl⟩
          have u1 : Hid (Rd (wr.drewN qc) .u8 (some ⟨g, 0, none⟩) (l ++ marks)) := (V1.out _ I9.out).1
          have u2 : Hid (Rd (wr.drewN qc) .u8 A l) := hr.out.below (C9.out.drewN _).done
          go_wp2_with fail
          refine (untouched' H90s HN hcc hbl u1 u2).mono ?_
          rintro e wq ⟨rfl, qd, rfl⟩
          obtain ⟨w10, hw10⟩ : ∃ w10, w10 = wr.drewN (qc + qd) := ⟨_, rfl⟩
          have D10 : Chg (fun _ => False) wr w10 := by rw [hw10]; exact (Chg.refl _ wr).drewN _
          have hS10 : Hid (w4.heap.size ≤ w10.heap.size) := by rw [hw10]; exact hS9.out
          have T10 := Lib.hid (T9.out.chg D10 (fun _ _ h => h) (fun _ _ _ _ h => h))
          have Y10 := Lib.hid (Y9.out.chg D10 (fun _ _ h => h) (fun _ _ _ _ h => h))
          have I10 := Lib.hid (I9.out.chg D10 (fun _ _ h => h))
          have C10 : Hid (Chg (fun _ => False) w w10) := C9.out.trans D10 (fun _ _ h => h)
          have R10 : Hid (Rd (w10.alloc (.cells #[] 5)) .u8 A l) := hr.out.below (C10.out.alloc _).done
          have hwz : wr.heap.size = w10.heap.size := by rw [hw10]; rfl
          have HWZ := Lib.hid hwz
          have HW10 := Lib.hid hw10
          clear r1 r2 u1 u2 T9 Y9 I9 C9 D10 hSS hSW hS9 hwz hw10
          go_wp2_with (at_builtin; (try rw [← HW10.out]); (try rw [HWZ.out]); go_must (refine wp_appn rfl _ _ 22 5 .u8 1 rfl Try.underlying22 infoU8 (by decide) (.slice (some ⟨w10.heap.size, 0, none⟩) 0 0) [] rfl (Own.lit w10 5 .u8 [] (by simp)) A c l _ rfl HN.out R10.out (by have := HL.out; simp; omega) ?_); intro v' w11 k1 k2 k3 k4; obtain ⟨A1, c1, hv, hv2, hv3⟩ := k1.slice; rw [List.nil_append, ← HN.out] at hv hv2; subst hv; have N1 := Lib.hid k1; have N3 := Lib.hid k3; have N4 := Lib.hid k4; clear k1 k2 k3 k4; go_frame)
          have C11 : Hid (Chg (fun _ => False) w10 w11) := ((Chg.refl _ w10).alloc _).fresh N3.out (blk_ge (Nat.le_refl _))
          have T11 := Lib.hid (T10.out.chg C11.out (fun _ _ h => h) (fun _ _ _ _ h => h))
          have Y11 := Lib.hid (Y10.out.chg C11.out (fun _ _ h => h) (fun _ _ _ _ h => h))
          have I11 := Lib.hid (I10.out.chg C11.out (fun _ _ h => h))
          have CW11 : Hid (Chg (fun _ => False) w w11) := C10.out.trans C11.out (fun _ _ h => h)
          have hg2 : Hid (∀ i, Value.ownBlock (.slice A1 n c1) = some i → w10.heap.size ≤ i) := N4.out.ge (blk_ge (Nat.le_refl _)) (by simp)
          have HTL : Hid ((txAll l).length = l.length) := txAll_length l
          clear T10 Y10 I10 C10 N3 N4 C11 R10
          have HGL : Hid (g < w4.heap.size) := by have h1 := hglt.out; have h2 := hZ.out; rw [Hid]; omega
          have HKT : Hid (∀ (k : Nat) (h : k < l.length), (txAll l)[k]'(by rw [txAll_length]; exact h) = tx k l[k]) := txAll_get l
          obtain ⟨tl, htl⟩ : ∃ tl, tl = txAll l := ⟨_, rfl⟩
          have HTB : Hid (Byt tl) := by rw [htl]; exact txAll_byt l
          have HTX : Hid (∀ (k : Nat) (h : k < l.length) (h' : k < tl.length), tl[k] = tx k l[k]) := fun k h h' => by subst htl; exact HKT.out k h
          rw [← htl] at HTL
          clear htl HKT
          go_loopw [22] (fun i wr => ∃ k : Nat, k ≤ n ∧ i = .int .i64 k ∧ Hid (OwnB wr (.slice (some ⟨g, 0, none⟩) (n + 90) (n + 90)) (upTo tl l k ++ marks)) ∧ Hid (OwnB wr (.slice A1 n c1) (upTo tl l k)) ∧ Hid (Chg (fun y => y = g ∨ w10.heap.size ≤ y) w11 wr)) (fun i _ => n - (intOf i).toNat)
          case atStart => exact ⟨0, Nat.zero_le _, rfl, by rw [upTo_zero]; exact I11.out, by rw [upTo_zero]; exact N1.out, Chg.refl _ _⟩
          case round =>
            obtain ⟨k, hk, rfl, IW, OW, HC⟩ := hrel
            have CWW : Hid (Chg (fun _ => False) w wr) := CW11.out.trans HC.out (fun y hy h => by
              rcases h with h | h
              · have := hg.out; omega
              · have h1 := hS10.out; have h2 := hZ.out; omega)
            by_cases hlt3 : k < n
            · have hkl : k < l.length := by rw [← HN.out]; exact hlt3
              have hkt : k < tl.length := by rw [HTL.out]; exact hkl
              have hln := upTo_length k HTL.out
              obtain ⟨ad, rfl, hc⟩ := hr.out.below CWW.out.done k hkl
              obtain ⟨g2, rfl, hob⟩ := own_some OW.out (by rw [hln]; omega)
              have hne : g2 ≠ g := by have := hg2.out g2 hob; have h1 := hS10.out; have := HGL.out; omega
              obtain ⟨⟨y1, q1⟩, q2⟩ : (∃ y, wr.cell? ⟨g2, k, none⟩ = some y) ∧ wr.frozen? ⟨g2, k, none⟩ = false := by
                have := OW.out.cellAt (i := k) (by rw [hln]; exact hkl)
                exact ⟨⟨_, this.1⟩, this.2⟩
              obtain ⟨t, ht⟩ : ∃ t, t = tl[k] := ⟨_, rfl⟩
              have htx : Go.bits .xor .u8 l[k] ((k : Int) % 3) = t := by rw [ht, HTX.out k hkl hkt]; rfl
              have OW2 := OW.out.store (i := k) (by rw [hln]; exact hkl) t
              have hs1 := upTo_set k HTL.out hkt []
              rw [List.append_nil, List.append_nil, ← ht] at hs1
              rw [hs1] at OW2
              have hs2 := upTo_set k HTL.out hkt marks
              rw [← ht] at hs2
              have IW1 := IW.out.chg (((Chg.refl (· = g2) wr).setg k (.int .u8 t))) (fun i hi h => by
                simp [Value.ownBlock] at hi
                omega)
              have IW2 := IW1.store (i := k) (by rw [List.length_append, hln]; omega) t
              rw [hs2] at IW2
              obtain ⟨⟨y3, q6⟩, q7⟩ : (∃ y, (wr.setCell ⟨g2, k, none⟩ (.int .u8 t)).cell? ⟨g, k, none⟩ = some y) ∧ (wr.setCell ⟨g2, k, none⟩ (.int .u8 t)).frozen? ⟨g, k, none⟩ = false := by
                have := IW1.cellAt (i := k) (by rw [List.length_append, hln]; omega)
                exact ⟨⟨_, this.1⟩, this.2⟩
              have q5 : (wr.setCell ⟨g2, k, none⟩ (.int .u8 t)).cell? ⟨g2, k, none⟩ = some (.int .u8 t) := (OW.out.store (i := k) (by rw [hln]; exact hkl) t).cellAt (i := k) (by rw [List.length_set, hln]; exact hkl) |>.1.trans (by simp)
              have OWF := Lib.hid OW2
              have IWF := Lib.hid IW2
              generalize hv : l[k] = v at hc htx
              have b2 : (0 : Int) ≤ (k : Int) := by omega
              have b3 : (k : Int) < (n : Int) := by omega
              have b4 : (k : Int) < (n : Int) + 90 := by omega
              have E3 : IntKind.u8.wrap ((k : Int) % 3) = (k : Int) % 3 := IntWalk.u8_in _ (by omega)
              clear hln hkl hkt hs1 hs2 OW2 IW1 IW2 hv ht
              go_wp2_with fail
              go_roundw
              case rel => exact ⟨k + 1, by omega, by go_num, IWF.out, OWF.out.chg ((Chg.refl (· = g) _).setg k _) (fun i hi h => by simp [Value.ownBlock] at hi; omega), (HC.out.setCell (p := ⟨g2, k, none⟩) (fun h => .inr (hg2.out g2 hob)) _).setCell (p := ⟨g, k, none⟩) (fun h => .inl rfl) _⟩
              case measure => simp [intOf]; omega
            · obtain rfl : k = n := by omega
              have hfull : upTo tl l k = tl := by rw [HN.out]; exact upTo_all HTL.out
              have IW' := IW.out
              have OW' := OW.out
              rw [hfull] at IW' OW'
              have HN2 : Hid (k = tl.length) := by rw [Hid, HTL.out]; exact HN.out
              have hle2 : Hid (tl.length ≤ 140737488355328) := by rw [Hid, HTL.out]; exact hle.out
              have S1 : Hid (Rd wr .u8 (some ⟨g, 0, none⟩) tl) := by
                have h1 := IW'.rd (A := some ⟨g, 0, none⟩) (c := k + 90) (by rw [List.length_append, marks_length, ← HN2.out])
                have := h1.take tl.length
                rw [List.take_left] at this
                exact this
              have hlo : Hid (∀ {y : Nat}, w2.heap.size ≤ y → y < w4.heap.size → ¬ (y = g ∨ w10.heap.size ≤ y)) := fun {y} h1 h2 h => by
                have h3 := hglt.out
                have h4 := hZ.out
                have h5 := hS10.out
                omega
              have T12 := Lib.hid (T11.out.chg HC.out (fun y hy => hlo.out (TN.out y hy) (hTlt.out.1 y hy)) (fun b hb y hy => hlo.out (TB.out b hb y hy) (hTlt.out.2 b hb y hy)))
              have Y12 := Lib.hid (Y11.out.chg HC.out (fun y hy => hlo.out (Nat.le_trans hZ.out.2.2.1 (YN.out y hy)) (hYlt.out.1 y hy)) (fun b hb y hy => hlo.out (Nat.le_trans hZ.out.2.2.1 (YB.out b hb y hy)) (hYlt.out.2 b hb y hy)))
              obtain ⟨L2, p2, e2, hU2⟩ : ∃ L p e0, unsealOf s tl = (L, p, e0) := ⟨_, _, _, rfl⟩
              have hsm2 := unsealOf_small (s := s) HTB.out
              rw [hU2] at hsm2
              have HU2 := Lib.hid hU2
              obtain ⟨m2, hm2⟩ : ∃ m : Nat, m = L2.length := ⟨_, rfl⟩
              have hm64' : m2 ≤ 64 := by rw [hm2]; exact hsm2.1
              have HM2 := Lib.hid hm2
              have HBB2 : Hid (∀ x ∈ L2, x.body.length ≤ 140737488355328) := fun x hx => Nat.le_trans (hsm2.2 x hx).1 hle2.out
              have HBT2 : Hid (∀ x ∈ L2, Byt x.body) := fun x hx => (hsm2.2 x hx).2.1
              have HRG2 : Hid (∀ x ∈ L2, -9223372036854775808 ≤ x.id ∧ x.id ≤ 9223372036854775807) := fun x hx => (hsm2.2 x hx).2.2
              have OWH := Lib.hid OW'
              clear IW' OW' hfull hU2 hsm2 hm2 T11 Y11 hlo
              go_wp2_with fail
              refine (unsealCall' HU2 HN2 (by omega) b9 hle2 HTB S1 hss).mono ?_
              rintro e w12 ⟨A12, c12, b12, rfl, m1⟩
              rw [← HM2.out] at m1 ⊢
              have X12 := Lib.hid m1.secs
              have D12 := Lib.hid m1.chg
              clear m1
              have C12 : Hid (Chg (fun _ => False) w w12) := CWW.out.trans D12.out (fun _ _ h => h)
              have O12 : Hid (Rd w12 .u8 A1 tl) := (OWH.out.chg D12.out (fun _ _ h => h)).rd (by rw [← HN2.out])
              go_wp2_with fail
              refine (unsealRef' HU2 HN2 hv2 hv3 hle2 HTB O12 hss).mono ?_
              rintro e w13 ⟨A13, c13, b13, rfl, m1⟩
              rw [← HM2.out] at m1 ⊢
              have Z13 := Lib.hid m1.secs
              have D13 := Lib.hid m1.chg
              clear m1
              have X13 := Lib.hid (X12.out.chg D13.out (fun _ _ h => h) (fun _ _ _ _ h => h))
              have T13 := Lib.hid ((T12.out.chg D12.out (fun _ _ h => h) (fun _ _ _ _ h => h)).chg D13.out (fun _ _ h => h) (fun _ _ _ _ h => h))
              have Y13 := Lib.hid ((Y12.out.chg D12.out (fun _ _ h => h) (fun _ _ _ _ h => h)).chg D13.out (fun _ _ h => h) (fun _ _ _ _ h => h))
              have C13 : Hid (Chg (fun _ => False) w w13) := C12.out.trans D13.out (fun _ _ h => h)
              have r1 := Lib.hid (X13.out.rd HBT2.out HRG2.out)
              have r2 := Lib.hid (Z13.out.rd HBT2.out HRG2.out)
              have hk12 := X13.out.cap.2.1
              have hk13 := Z13.out.cap.2.1
              go_wp2_with fail
              refine (alike HM2 (by omega) hk12 hk13 HBB2 r1 r2).mono ?_
              rintro e wq ⟨rfl, qe, rfl⟩
              have r3 : Hid (RdSecs (w13.drewN qe) At L) := (RTf.out _ T13.out).drewN qe
              have r4 : Hid (RdSecs (w13.drewN qe) Ay L) := (RYf.out _ Y13.out).drewN qe
              go_wp2_with fail
              refine (alike HM hkk hct hcy HBB r3 r4).mono ?_
              rintro e wq ⟨rfl, qf, rfl⟩
              go_wp2_with fail
              go_ret
              exact ⟨rfl, (C13.out.drewN _).done⟩
end Go.Proofs.Ytcljbaoadmflgaa.Kit
