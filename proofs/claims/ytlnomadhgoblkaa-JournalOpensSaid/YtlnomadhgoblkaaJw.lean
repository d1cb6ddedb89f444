/- The journal: Open. -/
import Derived.Test.YtlnomadhgoblkaaProg
import Derived.Test.YtlnomadhgoblkaaJu
set_option linter.unusedVariables false
set_option linter.unusedSimpArgs false
namespace Go.Proofs.Ytlnomadhgoblkaa.Kit
open Go.RowKit
/-- what Open answers -/
def jopenRes (l : List Int) : Option (List SecV) × Nat × Int :=
  if 268435456 < l.length then (none, 0, 6) else if l.take 8 ≠ jhead.take l.length then (none, 0, 43) else if l.length < 8 then (some [], 0, 0) else (some (jnlRd l l.length [] 8).1, (jnlRd l l.length [] 8).2, 0)
def ROpen (w : World) (R : Option (List SecV) × Nat × Int) (e : Ending) (w' : World) : Prop :=
  match R with
  | (none, m, er) => e = .returned (.tuple #[.pointer none, .int .i64 m, .int .i64 er]) ∧ Chg (fun _ => False) w w'
  | (some ls, m, er) => ∃ g D, e = .returned (.tuple #[.pointer (some ⟨g, 0, none⟩), .int .i64 m, .int .i64 er]) ∧ Jn w' D g ls ∧ (∀ y, D y → w.heap.size ≤ y) ∧ w.heap.size ≤ g ∧ Chg (fun _ => False) w w'
attribute [local go_sem] min2_int min_two
theorem jopenLong {A : Option Addr} {n c : Nat} {l : List Int} {w : World} (HN : Hid (n = l.length)) (h : 268435456 < n) :
    Calls Try.prog 25 #[.slice A n c] w (ROpen w (jopenRes l)) := by
  have hE : Hid (jopenRes l = (none, 0, 6)) := by rw [Hid, jopenRes, if_pos (by rw [← HN.out]; exact h)]
  go_enter Try.func25, Try.ntmps25
  go_wp2_with fail
  go_ret3
  rw [hE.out]
  exact ⟨rfl, Chg.refl _ _⟩
theorem head_cut (q : Nat) (h : q ≤ 8) : (({ data := #[80, 65, 89, 74, 82, 78, 76, 49] } : ByteArray).extract 0 q) = strOf (jhead.take q) := by
  rcases (show q = 0 ∨ q = 1 ∨ q = 2 ∨ q = 3 ∨ q = 4 ∨ q = 5 ∨ q = 6 ∨ q = 7 ∨ q = 8 by omega) with rfl | rfl | rfl | rfl | rfl | rfl | rfl | rfl | rfl <;> rfl
theorem run_head (q : Nat) (h : q ≤ 8) (W : World) : (Instr.slice 9 (.string { data := #[80, 65, 89, 74, 82, 78, 76, 49] }) none (some (.int .i64 q)) none).run Try.prog W = .ok (.string (strOf (jhead.take q))) W := by
  have := run_slice_string_h (P := Try.prog) W 9 { data := #[80, 65, 89, 74, 82, 78, 76, 49] } Try.underlying9 .i64 (q : Int) (by omega) (by show (q : Int) ≤ 8; omega)
  rw [this, Int.toNat_natCast, head_cut q h]
set_option maxRecDepth 20000 in
theorem jopenMagic {A : Option Addr} {n c : Nat} {l : List Int} {w : World} (HN : Hid (n = l.length)) (hnc : n ≤ c) (hb : Hid (Byt l)) (hr : Hid (Rd w .u8 A l)) (h : ¬ 268435456 < n) (hm : l.take 8 ≠ jhead.take l.length) :
    Calls Try.prog 25 #[.slice A n c] w (ROpen w (jopenRes l)) := by
  have hE : Hid (jopenRes l = (none, 0, 43)) := by rw [Hid, jopenRes, if_neg (by rw [← HN.out]; exact h), if_pos hm]
  obtain ⟨q, hq⟩ : ∃ q, q = min n 8 := ⟨_, rfl⟩
  have hqi : min (n : Int) 8 = (q : Int) := by omega
  have b0 : (0 : Int) ≤ (q : Int) := by omega
  have b1 : (q : Int) ≤ (n : Int) := by omega
  have b2 : (n : Int) ≤ (c : Int) := by omega
  have b3 : (q : Int) ≤ (c : Int) := by omega
  have b4 : (q : Int) ≤ 8 := by omega
  have HQ : Hid (q = (l.take 8).length) := by rw [Hid, List.length_take, ← HN.out]; omega
  have QT : Hid (∀ W, Chg (fun _ => False) w W → (convert 29 9 (.slice A q c)).run Try.prog W = .ok (.string (strOf (l.take 8))) W) := fun W hW => conv_str W A q c (l.take 8) HQ.out ((hr.out.below hW.done).take 8)
  have qn : ∀ i, (convert 29 9 (.slice A q c)).run Try.prog (w.drewN i) = .ok (.string (strOf (l.take 8))) (w.drewN i) := fun i => QT.out _ ((Chg.refl _ w).drewN i)
  have ks := run_head q (by omega)
  have hml : ¬ l.take 8 = jhead.take q := fun e => hm (by
    rw [e, hq, ← HN.out]
    rcases Nat.lt_or_ge n 8 with h8 | h8
    · rw [Nat.min_eq_left (by omega)]
    · rw [Nat.min_eq_right h8, List.take_of_length_le (l := jhead) (i := 8) (by simp [jhead]), List.take_of_length_le (l := jhead) (by simp [jhead]; omega)])
  have hne : ((strOf (l.take 8)).toList == (strOf (jhead.take q)).toList) = false := by rw [str_beqJ (byt_take hb.out 8) (byt_take jhead_byt q)]; simpa using hml
  clear hq
  go_enter Try.func25, Try.ntmps25
  go_wp2_with fail
  go_quiet (fail)
  go_wp2_with fail
  go_ret3
  rw [hE.out]
  exact ⟨rfl, (Chg.refl _ w).drewN _⟩
set_option maxRecDepth 20000 in
theorem jopenShort {A : Option Addr} {n c : Nat} {l : List Int} {w : World} (HN : Hid (n = l.length)) (hnc : n ≤ c) (hb : Hid (Byt l)) (hr : Hid (Rd w .u8 A l)) (hm : l.take 8 = jhead.take l.length) (h8 : n < 8) :
    Calls Try.prog 25 #[.slice A n c] w (ROpen w (jopenRes l)) := by
  have hE : Hid (jopenRes l = (some [], 0, 0)) := by rw [Hid, jopenRes, if_neg (by rw [← HN.out]; omega), if_neg (by simpa using hm), if_pos (by rw [← HN.out]; exact h8)]
  have hqi : min (n : Int) 8 = (n : Int) := by omega
  have h0 : ¬ (268435456 < n) := by omega
  have b0 : (0 : Int) ≤ (n : Int) := by omega
  have b2 : (n : Int) ≤ (c : Int) := by omega
  have b4 : (n : Int) ≤ 8 := by omega
  have b5 : (n : Int) < 8 := by omega
  have hl8 : l.take 8 = l := List.take_of_length_le (by rw [← HN.out]; omega)
  have HQ : Hid (n = (l.take 8).length) := by rw [Hid, hl8]; exact HN.out
  have QT : Hid (∀ W, Chg (fun _ => False) w W → (convert 29 9 (.slice A n c)).run Try.prog W = .ok (.string (strOf (l.take 8))) W) := fun W hW => conv_str W A n c (l.take 8) HQ.out ((hr.out.below hW.done).take 8)
  have qn : ∀ i, (convert 29 9 (.slice A n c)).run Try.prog (w.drewN i) = .ok (.string (strOf (l.take 8))) (w.drewN i) := fun i => QT.out _ ((Chg.refl _ w).drewN i)
  have ks := run_head n (by omega)
  have hne : ((strOf (l.take 8)).toList == (strOf (jhead.take n)).toList) = true := by rw [str_beqJ (byt_take hb.out 8) (byt_take jhead_byt n)]; simpa [← HN.out] using hm
  clear hm hl8
  go_enter Try.func25, Try.ntmps25
  go_wp2_with fail
  go_quiet (fail)
  go_wp2_with fail
  refine (jnew _).mono ?_
  rintro e w1 ⟨g, D, rfl, m1, m2, m3, m4⟩
  have M1 := Lib.hid m1
  have M2 : Hid (∀ y, D y → w.heap.size ≤ y) := fun y hy => by have := m2 y hy; simpa using this
  have M3 : Hid (w.heap.size ≤ g) := by have := m3; simpa [Hid] using this
  have M4 : Hid (Chg (fun _ => False) w w1) := ((Chg.refl _ w).drewN _).trans m4 (fun _ _ h => h)
  clear m1 m2 m3 m4
  go_wp2_with fail
  go_ret3
  rw [hE.out]
  exact ⟨g, D, rfl, M1.out, M2.out, M3.out, M4.out⟩
/-- how far the opening has come, told from the world -/
def placeOf (g n : Nat) (w : World) : Nat := match w.cell? ⟨g, 1, none⟩ with
  | some (.int _ x) => n - x.toNat
  | _ => 0
structure OpenL (w0 w : World) (g gj : Nat) (A : Option Addr) (n c : Nat) (l : List Int) (p : Nat) (ls : List SecV) (D : Nat → Prop) (f : Nat) : Prop where
  opn : Opn w g gj A n c l p
  jn : Jn w D gj ls
  len : (jnlBytes ls).length = p
  rd : jnlRd l f ls p = jnlRd l l.length [] 8
  fuel : l.length < p + 8 * f + 8
  new : ∀ y, D y → w0.heap.size ≤ y ∧ y ≠ g
  chg : Chg (fun _ => False) w0 w
set_option maxRecDepth 20000 in
theorem jopenFull {A : Option Addr} {n c : Nat} {l : List Int} {w : World} (HN : Hid (n = l.length)) (hnc : n ≤ c) (hcm : c ≤ maxLen) (hb : Hid (Byt l)) (hr : Hid (Rd w .u8 A l)) (hm : l.take 8 = jhead.take l.length) (h8 : 8 ≤ n) (h0 : ¬ 268435456 < n) :
    Calls Try.prog 25 #[.slice A n c] w (ROpen w (jopenRes l)) := by
  have hE : Hid (jopenRes l = (some (jnlRd l l.length [] 8).1, (jnlRd l l.length [] 8).2, 0)) := by rw [Hid, jopenRes, if_neg (by rw [← HN.out]; exact h0), if_neg (by simpa using hm), if_neg (by rw [← HN.out]; omega)]
  have hqi : min (n : Int) 8 = 8 := by omega
  have b2 : (n : Int) ≤ (c : Int) := by omega
  have b3 : (8 : Int) ≤ (n : Int) := by omega
  have b4 : (8 : Int) ≤ (c : Int) := by omega
  have HQ : Hid (8 = (l.take 8).length) := by rw [Hid, List.length_take, ← HN.out]; omega
  have hh8 : jhead.take l.length = jhead.take 8 := by rw [List.take_of_length_le (l := jhead) (i := 8) (by simp [jhead]), List.take_of_length_le (l := jhead) (by rw [← HN.out]; simp [jhead]; omega)]
  have QT : Hid (∀ W, Chg (fun _ => False) w W → (convert 29 9 (.slice A 8 c)).run Try.prog W = .ok (.string (strOf (l.take 8))) W) := fun W hW => conv_str W A 8 c (l.take 8) HQ.out ((hr.out.below hW.done).take 8)
  have qn : ∀ i, (convert 29 9 (.slice A 8 c)).run Try.prog (w.drewN i) = .ok (.string (strOf (l.take 8))) (w.drewN i) := fun i => QT.out _ ((Chg.refl _ w).drewN i)
  have ks := run_head 8 (by omega)
  have hne : ((strOf (l.take 8)).toList == (strOf (jhead.take 8)).toList) = true := by rw [str_beqJ (byt_take hb.out 8) (byt_take jhead_byt 8)]; simpa [← hh8] using hm
  have hAb : Hid (∀ y, Value.ownBlock (.slice A n c) = some y → y < w.heap.size) := fun y hy => by
    obtain ⟨ad, e, hc⟩ := hr.out 0 (by rw [← HN.out]; omega)
    subst e
    have := World.block_lt_of_cell? w _ hc
    simp [Value.ownBlock] at hy
    rw [← hy]
    exact this
  have hne2 := hne
  rw [← head_cut 8 (by omega)] at hne2
  clear hm hh8
  go_enter Try.func25, Try.ntmps25
  go_wp2_with fail
  go_quiet (fail)
  go_wp2_with fail
  refine (jnew _).mono ?_
  rintro e w1 ⟨gj, D, rfl, m1, m2, m3, m4⟩
  have M1 := Lib.hid m1
  have M2 : Hid (∀ y, D y → w.heap.size ≤ y) := fun y hy => by have := m2 y hy; simpa using this
  have M3 : Hid (w.heap.size ≤ gj) := by have := m3; simpa [Hid] using this
  have M4 : Hid (Chg (fun _ => False) w w1) := ((Chg.refl _ w).drewN _).trans m4 (fun _ _ h => h)
  clear m1 m2 m3 m4
  go_wp2_with fail
  obtain ⟨w2, hw2⟩ : ∃ w2, w2 = w1.alloc (.cells #[.slice A n c, .int .i64 8, .pointer (some ⟨gj, 0, none⟩)] 110) := ⟨_, rfl⟩
  obtain ⟨g, hg⟩ : ∃ g, g = w1.heap.size := ⟨_, rfl⟩
  have C2 : Chg (fun _ => False) w1 w2 := by rw [hw2]; exact (Chg.refl _ w1).alloc _
  have hgj : gj < g := by rw [hg]; exact M1.out.lt
  have hDg : Hid (∀ y, D y → w.heap.size ≤ y ∧ y ≠ g) := fun y hy => ⟨M2.out y hy, fun e => by have := M1.out.size y hy; omega⟩
  have O2 : Opn w2 g gj A n c l 8 := ⟨by rw [hw2, hg]; exact Blk.new _ _ _, hr.out.below (M4.out.trans C2 (fun _ _ h => h)).done, HN.out, h8, hnc, hcm, by omega, fun e => by have := hAb.out g e; have := M4.out.size; omega, fun y hy => by have := hAb.out y hy; have := (M4.out.trans C2 (fun _ _ h => h)).size; omega⟩
  have L2 : Hid (OpenL w w2 g gj A n c l 8 [] D l.length) := ⟨O2, M1.out.chg0 C2, rfl, rfl, by omega, hDg.out, M4.out.trans C2 (fun _ _ h => h)⟩
  have hgw : Hid (w.heap.size ≤ g) := by have := M4.out.size; rw [Hid]; omega
  rw [← hw2, ← hg]
  clear hw2 hg C2 O2 M1 M2 M4 hDg
  go_loopw [] (fun wr => ∃ p ls D' f, Hid (OpenL w wr g gj A n c l p ls D' f)) (fun wr => placeOf g n wr)
  case atStart => exact ⟨8, [], D, l.length, L2⟩
  case round =>
    obtain ⟨p, ls, D', f, hl⟩ := hrel
    have hgD : Hid (¬ D' g) := fun h => (hl.out.new g h).2 rfl
    have hAD : Hid (∀ y, Value.ownBlock (.slice A n c) = some y → ¬ (y = gj ∨ D' y)) := fun y hy h => by
      have h1 := hAb.out y hy
      have h2 := M3.out
      rcases h with h | h
      · omega
      · have := hl.out.new y h
        omega
    have hne : g ≠ gj := by omega
    cases hR : recRd (l.drop p) ls.length with
    | none =>
      have HR := Lib.hid hR
      clear hR
      go_wp2_with fail
      refine (recC HR (Lib.hid hl.out.opn) (Lib.hid hl.out.jn) hb (Lib.hid hl.out.len) hne hgD hAD).mono ?_
      rintro e w3 ⟨rfl, k1, k2, k3⟩
      have K1 := Lib.hid k1
      have K2 := Lib.hid k2
      have K3 : Hid (Chg (fun _ => False) w w3) := hl.out.chg.trans k3 (fun y hy e => by have := hgw.out; omega)
      have hfin : Hid (jnlRd l l.length [] 8 = (ls, p)) := by rw [Hid, ← hl.out.rd]; exact jnlRd_stop HR.out
      have c1 := K1.out.blk.at_ (i := 1) rfl
      have hDn : Hid (∀ y, D' y → w.heap.size ≤ y) := fun y hy => (hl.out.new y hy).1
      clear k1 k2 k3
      go_wp2_with fail
      go_quiet (fail)
      go_wp2_with fail
      go_ret3
      rw [hE.out, hfin.out]
      exact ⟨gj, D', rfl, K2.out.chg0 ((Chg.refl _ w3).drewN _), hDn.out, M3.out, K3.out.drewN _⟩
    | some q =>
      obtain ⟨x, sz⟩ := q
      have HR := Lib.hid hR
      clear hR
      go_wp2_with fail
      refine (recC HR (Lib.hid hl.out.opn) (Lib.hid hl.out.jn) hb (Lib.hid hl.out.len) hne hgD hAD).mono ?_
      rintro e w3 ⟨rfl, k1, D3, k2, k3, k4⟩
      have hfr := recRd_form (byt_drop hb.out p) HR.out
      obtain ⟨g1, g2, g3, g4⟩ := hfr
      have hz : 8 ≤ sz := by
        have h1 := recEnc_length ls.length x
        have h2 := recHd_length ls.length x
        have h3 := vb_pos ls.length
        have h4 := vb_pos x.body.length
        omega
      rw [List.length_drop, ← HN.out] at g4
      have hpn := hl.out.opn.le
      have hfu := hl.out.fuel
      rw [← HN.out] at hfu
      obtain ⟨f, rfl⟩ : ∃ k, f = k + 1 := ⟨f - 1, by omega⟩
      have hwr := hl.out.chg.size
      have hgwr := hl.out.opn.blk.lt
      have NL : Hid (OpenL w w3 g gj A n c l (p + sz) (ls ++ [x]) D3 f) := ⟨k1, k2, by
        rw [jnlBytes_snoc, List.length_append, hl.out.len, g2], by
        rw [← jnlRd_step HR.out]; exact hl.out.rd, by rw [← HN.out]; omega, fun y hy => by
        rcases k3 y hy with h | h
        · exact hl.out.new y h
        · exact ⟨by omega, by omega⟩, hl.out.chg.trans k4 (fun y hy e => by
        rcases e with e | e | e
        · have := hgw.out; omega
        · have := M3.out; omega
        · have := hl.out.new y e; omega)⟩
      have hm1 : placeOf g n wr = n - p := by
        unfold placeOf
        rw [hl.out.opn.blk.at_ (i := 1) rfl]
        simp
      have hm2 : placeOf g n w3 = n - (p + sz) := by
        unfold placeOf
        rw [k1.blk.at_ (i := 1) rfl]
        simp
        omega
      have hm3 : Hid (placeOf g n w3 < placeOf g n wr) := by rw [Hid, hm1, hm2]; omega
      clear k1 k2 k3 k4 g1 g2 g3 g4 hz hfu hwr hgwr hm1 hm2
      go_wp2_with fail
      go_roundw
      case rel => exact ⟨p + sz, ls ++ [x], D3, f, NL⟩
      case measure => exact hm3.out
theorem jopen {A : Option Addr} {n c : Nat} {l : List Int} {w : World} (HN : Hid (n = l.length)) (hnc : n ≤ c) (hcm : c ≤ maxLen) (hb : Hid (Byt l)) (hr : Hid (Rd w .u8 A l)) :
    Calls Try.prog 25 #[.slice A n c] w (ROpen w (jopenRes l)) := by
  by_cases h0 : 268435456 < n
  · exact jopenLong HN h0
  · by_cases hm : l.take 8 = jhead.take l.length
    · by_cases h8 : n < 8
      · exact jopenShort HN hnc hb hr hm h8
      · exact jopenFull HN hnc hcm hb hr hm (by omega) h0
    · exact jopenMagic HN hnc hb hr h0 hm
end Go.Proofs.Ytlnomadhgoblkaa.Kit
