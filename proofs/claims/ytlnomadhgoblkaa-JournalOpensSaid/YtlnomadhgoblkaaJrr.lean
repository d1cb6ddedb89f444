/- merged: Jra Jrb Jrc Jrd Jrn Jro -/
import Derived.Test.YtlnomadhgoblkaaProg
import Derived.Test.YtlnomadhgoblkaaJk
import Derived.Test.YtlnomadhgoblkaaKitW
import Derived.Test.YtlnomadhgoblkaaCrcR
import Derived.Test.YtlnomadhgoblkaaOctLaw
import Derived.Test.YtlnomadhgoblkaaOctRi
import Derived.Test.YtlnomadhgoblkaaJre
/- The document's journal: a record's bytes; what holds of it between two calls; New, Count, copied, Record. -/
set_option linter.unusedVariables false
set_option linter.unusedSimpArgs false
namespace Go.Proofs.Ytlnomadhgoblkaa.Kit
open Go.RowKit
set_option maxRecDepth 20000 in
set_option maxHeartbeats 6400000 in
theorem rbytes {k : Nat} {x : SecV} {A : Option Addr} {m c : Nat} {w : World} (hk : k ≤ 1099511627776) (HM : Hid (m = x.body.length)) (hm4 : m ≤ 4194304) (o1 : 0 ≤ x.id) (o2 : x.id ≤ 255) (hb : Hid (Byt x.body)) (hr : Hid (Rd w .u8 A x.body)) :
    Calls Try.prog 68 #[.int .i64 k, .agg #[.int .i64 x.id, .slice A m c]] w fun e w' => ∃ A' n' c', e = .returned (.slice A' n' c') ∧ Made w w' A' n' c' (recEnc k x) := by
  obtain ⟨wa, hwa⟩ : ∃ wa, wa = w.alloc (.cells #[.int .i64 x.id, .slice A m c] 31) := ⟨_, rfl⟩
  obtain ⟨h, hh⟩ : ∃ h, h = w.heap.size := ⟨_, rfl⟩
  have CA : Hid (Chg (fun _ => False) w wa) := by rw [hwa]; exact (Chg.refl _ w).alloc _
  have BX : Hid (Blk wa h 31 [.int .i64 x.id, .slice A m c]) := by rw [hwa, hh]; exact Blk.new _ _ _
  have HS : Hid (∀ W, Chg (fun _ => False) wa W → W.cell? ⟨h, 0, none⟩ = some (.int .i64 x.id) ∧ W.cell? ⟨h, 1, none⟩ = some (.slice A m c) ∧ Rd W .u8 A x.body) := fun W hW =>
    ⟨(BX.out.chg hW id).at_ (i := 0) rfl, (BX.out.chg hW id).at_ (i := 1) rfl, hr.out.below (CA.out.trans hW (fun _ _ h => h)).done⟩
  have hws : Hid (wa.heap.size = w.heap.size + 1) := by rw [hwa]; simp [Hid]
  have HH := Lib.hid hh
  have HWA := Lib.hid hwa
  have hk0 : (0 : Int) ≤ (k : Int) := by omega
  have hk1 : (k : Int) ≤ 18446744073709551615 := by omega
  have hm0 : (0 : Int) ≤ (m : Int) := by omega
  have hm1 : (m : Int) ≤ 18446744073709551615 := by omega
  have hvk : Hid ((vb k).length ≤ 10) := vb_len10 (by omega)
  have hvm : Hid ((vb m).length ≤ 10) := vb_len10 (by omega)
  have E8 : IntKind.u8.wrap x.id = x.id := IntWalk.u8_in _ (by omega)
  clear hwa hh
  go_enter Try.func68, Try.ntmps68
  go_wp2_with fail
  rw [← hws.out, ← HWA.out, ← HH.out]
  have h167 : Hid (OwnB (wa.alloc (.cells (nums .u8 [167]).toArray 5)) (.slice (some ⟨wa.heap.size, 0, none⟩) 1 1) [167]) := Own.lit wa _ .u8 [167] (by simp [maxLen])
  have CB : Hid (Chg (fun _ => False) wa (wa.alloc (.cells (nums .u8 [167]).toArray 5))) := (Chg.refl _ wa).alloc _
  refine (show Calls Try.prog 82 _ (wa.alloc (.cells (nums .u8 [167]).toArray 5)) _ from varintRef (k : Int) _ hk0 hk1).mono ?_
  rintro e w1 ⟨A1, n1, c1, rfl, m1⟩
  have O1 : Hid (OwnB w1 (.slice (some ⟨wa.heap.size, 0, none⟩) 1 1) [167]) := h167.out.chg m1.chg (fun _ _ h => h)
  have R1 : Hid (Rd w1 .u8 A1 (vb k)) := by
    have := m1.rd
    rw [Int.toNat_natCast] at this
    exact this
  have L1 : Hid (n1 = (vb k).length) := by
    have := m1.len
    rw [Int.toNat_natCast] at this
    exact this
  have C1 : Hid (Chg (fun _ => False) wa w1) := CB.out.trans m1.chg (fun _ _ h => h)
  have G1 : Hid (∀ y, Value.ownBlock (.slice (some ⟨wa.heap.size, 0, none⟩) 1 1) = some y → wa.heap.size ≤ y) := blk_ge (Nat.le_refl _)
  clear m1
  go_upto_region 3 with (at_builtin; go_must (refine wp_appn rfl _ _ 29 5 .u8 1 rfl Try.underlying29 infoU8 (by decide) (.slice (some ⟨wa.heap.size, 0, none⟩) 1 1) [167] rfl O1.out A1 c1 (vb k) n1 rfl L1.out R1.out (by have := hvk.out; simp; omega) ?_); intro v2 w2 k1 k2 k3 k4; obtain ⟨L2, hL2⟩ : ∃ L2, L2 = [167] ++ vb k := ⟨_, rfl⟩; rw [← hL2] at k1; obtain ⟨A2, c2, hv2, _, _⟩ := k1.slice; obtain ⟨n2, hn2⟩ : ∃ n2, n2 = L2.length := ⟨_, rfl⟩; rw [← hn2] at hv2; subst hv2; have HL2 := Lib.hid hL2; have HN2 := Lib.hid hn2; have O2 := Lib.hid k1; have C2 : Hid (Chg (fun _ => False) wa w2) := C1.out.fresh k3 G1.out; have G2 : Hid (∀ y, Value.ownBlock (.slice A2 n2 c2) = some y → wa.heap.size ≤ y) := k4.ge G1.out C1.out.size; clear k1 k2 k3 k4 hL2 hn2)
  have hn2b : n2 ≤ 11 := by
    have := hvk.out
    rw [HN2.out, HL2.out, List.length_append]
    simp
    omega
  obtain ⟨s0, s1, _⟩ := HS.out w2 C2.out
  go_upto_region 4 with (at_builtin; go_must (refine wp_app1 rfl _ _ 29 5 .u8 1 rfl Try.underlying29 infoU8 (by decide) (.slice A2 n2 c2) L2 x.id rfl O2.out rfl (by rw [← HN2.out]; omega) ?_); intro v3 w3 k1 k2 k3 k4; obtain ⟨L3, hL3⟩ : ∃ L3, L3 = L2 ++ [x.id] := ⟨_, rfl⟩; rw [← hL3] at k1; obtain ⟨A3, c3, hv3, _, _⟩ := k1.slice; obtain ⟨n3, hn3⟩ : ∃ n3, n3 = L3.length := ⟨_, rfl⟩; rw [← hn3] at hv3; subst hv3; have HL3 := Lib.hid hL3; have HN3 := Lib.hid hn3; have O3 := Lib.hid k1; have C3 : Hid (Chg (fun _ => False) wa w3) := C2.out.fresh k3 G2.out; have G3 : Hid (∀ y, Value.ownBlock (.slice A3 n3 c3) = some y → wa.heap.size ≤ y) := k4.ge G2.out C2.out.size; clear k1 k2 k3 k4 hL3 hn3)
  clear s0 s1
  obtain ⟨s0, s1, _⟩ := HS.out w3 C3.out
  have hn3b : n3 ≤ 12 := by
    rw [HN3.out, HL3.out, List.length_append, ← HN2.out]
    simp
    omega
  go_wp2_with fail
  refine (show Calls Try.prog 82 _ w3 _ from varintRef (m : Int) _ hm0 hm1).mono ?_
  rintro e w4 ⟨A4, n4, c4, rfl, m4⟩
  have O4 := Lib.hid (O3.out.chg m4.chg (fun _ _ h => h))
  have R4 : Hid (Rd w4 .u8 A4 (vb m)) := by
    have := m4.rd
    rw [Int.toNat_natCast] at this
    exact this
  have L4 : Hid (n4 = (vb m).length) := by
    have := m4.len
    rw [Int.toNat_natCast] at this
    exact this
  have C4 : Hid (Chg (fun _ => False) wa w4) := C3.out.trans m4.chg (fun _ _ h => h)
  clear m4 s0 s1
  go_upto_region 5 with (at_builtin; go_must (refine wp_appn rfl _ _ 29 5 .u8 1 rfl Try.underlying29 infoU8 (by decide) (.slice A3 n3 c3) L3 rfl O4.out A4 c4 (vb m) n4 rfl L4.out R4.out (by have := hvm.out; rw [← HN3.out]; omega) ?_); intro v5 w5 k1 k2 k3 k4; obtain ⟨L5, hL5⟩ : ∃ L5, L5 = L3 ++ vb m := ⟨_, rfl⟩; rw [← hL5] at k1; obtain ⟨A5, c5, hv5, _, _⟩ := k1.slice; obtain ⟨n5, hn5⟩ : ∃ n5, n5 = L5.length := ⟨_, rfl⟩; rw [← hn5] at hv5; subst hv5; have HL5 := Lib.hid hL5; have HN5 := Lib.hid hn5; have O5 := Lib.hid k1; have C5 : Hid (Chg (fun _ => False) wa w5) := C4.out.fresh k3 G3.out; have G5 : Hid (∀ y, Value.ownBlock (.slice A5 n5 c5) = some y → wa.heap.size ≤ y) := k4.ge G3.out C4.out.size; clear k1 k2 k3 k4 hL5 hn5)
  have hn5b : n5 ≤ 22 := by
    have := hvm.out
    rw [HN5.out, HL5.out, List.length_append, ← HN3.out]
    omega
  obtain ⟨s0, s1, rb⟩ := HS.out w5 C5.out
  have R5 := Lib.hid rb
  clear rb
  go_upto_region 6 with (at_builtin; go_must (refine wp_appn rfl _ _ 29 5 .u8 1 rfl Try.underlying29 infoU8 (by decide) (.slice A5 n5 c5) L5 rfl O5.out A c x.body m rfl HM.out R5.out (by rw [← HN5.out, ← HM.out]; omega) ?_); intro v6 w6 k1 k2 k3 k4; obtain ⟨L6, hL6⟩ : ∃ L6, L6 = L5 ++ x.body := ⟨_, rfl⟩; rw [← hL6] at k1; obtain ⟨A6, c6, hv6, _, _⟩ := k1.slice; obtain ⟨n6, hn6⟩ : ∃ n6, n6 = L6.length := ⟨_, rfl⟩; rw [← hn6] at hv6; subst hv6; have HL6 := Lib.hid hL6; have HN6 := Lib.hid hn6; have O6 := Lib.hid k1; have C6 : Hid (Chg (fun _ => False) wa w6) := C5.out.fresh k3 G5.out; have G6 : Hid (∀ y, Value.ownBlock (.slice A6 n6 c6) = some y → wa.heap.size ≤ y) := k4.ge G5.out C5.out.size; clear k1 k2 k3 k4 hL6 hn6)
  have hH6 : Hid (L6 = recHd k x) := by
    rw [Hid, HL6.out, HL5.out, HL3.out, HL2.out, recHd, HM.out]
    simp
  have hn6b : n6 ≤ 4194326 := by
    rw [HN6.out, HL6.out, List.length_append, ← HN5.out, ← HM.out]
    omega
  have hb6 : Hid (Byt L6) := by
    rw [Hid, hH6.out]
    intro y hy
    rcases List.mem_cons.1 hy with rfl | hy
    · omega
    · rcases List.mem_append.1 hy with hy | hy
      · exact vb_byt _ y hy
      · rcases List.mem_cons.1 hy with rfl | hy
        · omega
        · rcases List.mem_append.1 hy with hy | hy
          · exact vb_byt _ y hy
          · exact hb.out y hy
  have hl6 : Hid (L6.length ≤ 140737488355328) := by rw [Hid, ← HN6.out]; omega
  clear s0 s1
  go_wp2_with fail
  refine (crcRef A6 c6 n6 L6 w6 HN6 hb6 hl6 (Lib.hid (O6.out.rd (by rw [HN6.out])))).mono ?_
  rintro e w7 ⟨rfl, rfl⟩
  have v0 := vi_nonneg (crc L6)
  have v1 := vi_lt (crc L6)
  obtain ⟨z, hz⟩ : ∃ z, vi (crc L6) = z := ⟨_, rfl⟩
  rw [hz] at v0 v1 ⊢
  have HZ := Lib.hid hz
  have hB7 : Hid (OwnB (w6.alloc (.cells (nums .u8 (sumB z)).toArray 5)) (.slice (some ⟨w6.heap.size, 0, none⟩) 4 4) (sumB z)) := Own.lit w6 _ .u8 (sumB z) (by rw [sumB_length]; decide)
  clear hz
  go_wp2_with (at_builtin; go_must (refine wp_appn (W := w6.alloc (.cells (nums .u8 (sumB z)).toArray 5)) rfl _ _ 29 5 .u8 1 rfl Try.underlying29 infoU8 (by decide) (.slice A6 n6 c6) L6 rfl (O6.out.alloc _) _ 4 (sumB z) 4 rfl rfl (hB7.out.rd rfl) (by rw [sumB_length, ← HN6.out]; omega) ?_); intro v' w8 k1 k2 k3 k4; obtain ⟨A8, c8, hv, hc8, _⟩ := k1.slice; have O8 := Lib.hid k1; have C8 : Hid (Chg (fun _ => False) wa w8) := (C6.out.alloc _).fresh k3 G6.out; have G8 : Hid (∀ y, Value.ownBlock v' = some y → wa.heap.size ≤ y) := k4.ge G6.out (by have := C6.out.size; simp; omega); clear k1 k2 k3 k4; subst hv; go_frame)
  go_ret
  have hQ : L6 ++ sumB z = recEnc k x := by rw [recEnc, ← hH6.out, HZ.out]
  rw [hQ] at O8 G8 hc8 ⊢
  exact ⟨A8, _, c8, rfl, rfl, O8.out, CA.out.trans C8.out (fun _ _ h => h), fun y hy => by have := G8.out y hy; have := CA.out.size; omega, hc8⟩
end Go.Proofs.Ytlnomadhgoblkaa.Kit

/- The document's journal: what holds of it between two calls; New, Count, copied, Record. -/
set_option linter.unusedVariables false
set_option linter.unusedSimpArgs false
namespace Go.Proofs.Ytlnomadhgoblkaa.Kit
open Go.RowKit
/-- the document's journal in block g, its parts in blocks of D -/
structure RJ (w : World) (D : Nat → Prop) (g : Nat) (l : List SecV) : Prop where
  ex : ∃ vR bs, Blk w g 113 [vR, .int .i64 ((jnlBytes l).length : Nat)] ∧ Recs w vR l bs ∧ (∀ y, vR.ownBlock = some y → D y) ∧ ∀ b ∈ bs, ∀ y, b.ownBlock = some y → D y
  size : ∀ x, D x → x < w.heap.size
  out : ¬ D g
theorem RJ.chg {w w1 : World} {D S : Nat → Prop} {g : Nat} {l : List SecV} (h : RJ w D g l) (c : Chg S w w1) (hS : ∀ x, S x → ¬ D x ∧ x ≠ g) : RJ w1 D g l := by
  obtain ⟨vR, bs, hb, hv, h2, h4⟩ := h.ex
  have hD : ∀ y, D y → ¬ S y := fun y hy hs => (hS y hs).1 hy
  exact ⟨⟨vR, bs, hb.chg c (fun hs => (hS g hs).2 rfl), hv.chg c (fun y hy => hD y (h2 y hy)) (fun b hbb y hy => hD y (h4 b hbb y hy)), h2, h4⟩, fun x hx => Nat.lt_of_lt_of_le (h.size x hx) c.size, h.out⟩
theorem RJ.chg0 {w w1 : World} {D : Nat → Prop} {g : Nat} {l : List SecV} (h : RJ w D g l) (c : Chg (fun _ => False) w w1) : RJ w1 D g l := h.chg c (fun _ h => h.elim)
theorem RJ.lt {w : World} {D : Nat → Prop} {g : Nat} {l : List SecV} (h : RJ w D g l) : g < w.heap.size := by
  obtain ⟨_, _, hb, _⟩ := h.ex
  exact hb.lt
theorem RJ.mono {w : World} {D E : Nat → Prop} {g : Nat} {l : List SecV} (h : RJ w D g l) (hE : ∀ x, D x → E x) (hs : ∀ x, E x → x < w.heap.size) (ho : ¬ E g) : RJ w E g l := by
  obtain ⟨vR, bs, hb, hv, h2, h4⟩ := h.ex
  exact ⟨⟨vR, bs, hb, hv, fun y hy => hE y (h2 y hy), fun b hbb y hy => hE y (h4 b hbb y hy)⟩, hs, ho⟩
theorem rnew (w : World) :
    Calls Try.prog 30 #[] w fun e w' => ∃ g, e = .returned (.pointer (some ⟨g, 0, none⟩)) ∧ RJ w' (fun _ => False) g [] ∧ w.heap.size ≤ g ∧ Chg (fun _ => False) w w' := by
  go_enter Try.func30, Try.ntmps30
  go_wp2_with fail
  go_ret
  refine ⟨w.heap.size, rfl, ⟨⟨.slice none 0 0, [], ?_, ⟨⟨rfl, .inl ⟨rfl, rfl⟩⟩, rfl, fun i h => absurd h (by simp)⟩, fun y hy => by simp [Value.ownBlock] at hy, fun b hb => absurd hb (by simp)⟩, fun _ h => h.elim, id⟩, Nat.le_refl _, (Chg.refl _ w).alloc _⟩
  exact Blk.new w #[.slice none 0 0, .int .i64 8] 113
theorem rcount {D : Nat → Prop} {g : Nat} {l : List SecV} {n : Nat} {w : World} (HN : Hid (n = l.length)) (hj : Hid (RJ w D g l)) :
    Calls Try.prog 32 #[.pointer (some ⟨g, 0, none⟩)] w fun e w' => e = .returned (.int .i64 n) ∧ w = w' := by
  obtain ⟨vR, bs, hb, hv, h2, h4⟩ := hj.out.ex
  obtain ⟨AR, cR, hR, hcR, _⟩ := hv.row.slice
  rw [← HN.out] at hR
  have c1 := hb.at_ (i := 0) rfl
  rw [hR] at c1
  clear hR hb hv h2 h4 hcR
  go_enter Try.func32, Try.ntmps32
  go_wp2_with fail
  go_ret
  exact ⟨rfl, rfl⟩
set_option maxRecDepth 20000 in
theorem rcopied {x : SecV} {A : Option Addr} {m c : Nat} {w : World} (HM : Hid (m = x.body.length)) (hm : m ≤ 4194304) (hr : Hid (Rd w .u8 A x.body)) :
    Calls Try.prog 69 #[.agg #[.int .i64 x.id, .slice A m c]] w fun e w' => ∃ A' c', e = .returned (.agg #[.int .i64 x.id, .slice A' m c']) ∧ OwnB w' (.slice A' m c') x.body ∧ Chg (fun _ => False) w w' ∧ ∀ k, Value.ownBlock (.slice A' m c') = some k → w.heap.size ≤ k := by
  obtain ⟨wa, hwa⟩ : ∃ wa, wa = (w.alloc (.cells #[.int .i64 x.id, .slice A m c] 31)).alloc (.cells #[.int .i64 0, .slice none 0 0] 31) := ⟨_, rfl⟩
  obtain ⟨h, hh⟩ : ∃ h, h = w.heap.size := ⟨_, rfl⟩
  have CA : Hid (Chg (fun _ => False) w wa) := by rw [hwa]; exact ((Chg.refl _ w).alloc _).alloc _
  have BX : Hid (Blk wa h 31 [.int .i64 x.id, .slice A m c]) := by rw [hwa, hh]; exact (Blk.new _ _ _).alloc _
  have BY : Hid (Blk wa (h + 1) 31 [.int .i64 0, .slice none 0 0]) := by
    rw [hwa, hh]
    have := Blk.new (w.alloc (.cells #[.int .i64 x.id, .slice A m c] 31)) #[.int .i64 0, .slice none 0 0] 31
    rw [show (w.alloc (.cells #[.int .i64 x.id, .slice A m c] 31)).heap.size = w.heap.size + 1 by simp] at this
    exact this
  have HH := Lib.hid hh
  have HWA := Lib.hid hwa
  have s0 := BX.out.at_ (i := 0) rfl
  have s1 := BX.out.at_ (i := 1) rfl
  have hmk : ∀ W : World, (Instr.makeSlice 29 (.int .i64 (m : Int)) (.int .i64 (m : Int))).run Try.prog W = .ok (.slice (some ⟨W.heap.size, 0, none⟩) m m) (W.alloc (.cells (madeCells #[.int .u8 0] m) 5)) := fun W => run_make_row' (P := Try.prog) 29 5 (.int .u8 0) 1 Try.underlying29 infoU8 rfl .i64 .i64 m (by omega) (by omega) W
  have hz : Hid (Own (wa.alloc (.cells (madeCells #[.int .u8 0] m) 5)) 5 .u8 (.slice (some ⟨wa.heap.size, 0, none⟩) m m) (List.replicate m 0)) := Own.zeros wa _ _ _ _ (Nat.le_refl _) (by simp only [maxLen]; omega)
  have CM : Hid (Chg (fun _ => False) wa (wa.alloc (.cells (madeCells #[.int .u8 0] m) 5))) := (Chg.refl _ wa).alloc _
  clear hwa hh
  go_enter Try.func69, Try.ntmps69
  go_upto_region 1 with fail
  rw [← HWA.out, ← HH.out]
  have hR1 : Hid (Rd (wa.alloc (.cells (madeCells #[.int .u8 0] m) 5)) .u8 A x.body) := hr.out.below (CA.out.trans CM.out (fun _ _ h => h)).done
  have BX1 := Lib.hid (BX.out.chg CM.out id)
  have s2 := BX1.out.at_ (i := 1) rfl
  have hxl : Hid (x.body.length ≤ (List.replicate m (0 : Int)).length) := by rw [Hid, List.length_replicate, HM.out]; exact Nat.le_refl _
  go_wp2_with ((with_reducible refine gate_copy ?_); go_must (refine wp_copyn rfl _ _ 29 5 .u8 rfl Try.underlying29 size1 (.slice (some ⟨wa.heap.size, 0, none⟩) m m) _ rfl hz.out A m c x.body rfl HM.out hR1.out hxl.out ?_); intro w1 k1 k2; have O1 : Hid (OwnB w1 (.slice (some ⟨wa.heap.size, 0, none⟩) m m) x.body) := (by have := k1; rw [List.drop_of_length_le (by rw [List.length_replicate, HM.out]; exact Nat.le_refl _), List.append_nil] at this; exact this); have K2 : Hid (Chg (fun y => y = wa.heap.size) wa w1) := (CM.out.mono (fun _ _ h => h.elim)).trans k2 (fun y hy h => by simp [Value.ownBlock] at h; exact h.symm); clear k1 k2; have BX2 := Lib.hid (BX.out.chg K2.out (fun e => by have := BX.out.lt; omega)); have BY2 := Lib.hid (BY.out.chg K2.out (fun e => by have := BY.out.lt; omega)); have t0 := BX2.out.at_ (i := 0) rfl; have y0 := BY2.out.at_ (i := 0) rfl; have y1 := BY2.out.at_ (i := 1) rfl; have fy0 := BY2.out.frozen (i := 0) (by simp); have fy1 := BY2.out.frozen (i := 1) (by simp); have B5 : Hid (Blk ((w1.setCell ⟨h + 1, 0, none⟩ (.int .i64 x.id)).setCell ⟨h + 1, 1, none⟩ (.slice (some ⟨wa.heap.size, 0, none⟩) m m)) (h + 1) 31 [.int .i64 x.id, .slice (some ⟨wa.heap.size, 0, none⟩) m m]) := (BY2.out.set 0 _).set 1 _; have z0 := B5.out.at_ (i := 0) rfl; have z1 := B5.out.at_ (i := 1) rfl; have yy1 := (BY2.out.set 0 (.int .i64 x.id)).at_ (i := 1) rfl; have yf1 := (BY2.out.set 0 (.int .i64 x.id)).frozen (i := 1) (by simp))
  refine bodyPost_ret (v := .agg #[.int .i64 x.id, .slice (some ⟨wa.heap.size, 0, none⟩) m m]) (by simp [results, Try.results69, go_sem, z0, z1]) rfl ⟨_, m, rfl, ?_, ?_, fun k hk => ?_⟩
  · refine O1.out.chg (S := fun y => y = h + 1) (((Chg.refl (fun y => y = h + 1) w1).setCell (p := ⟨h + 1, 0, none⟩) (fun _ => rfl) _).setCell (p := ⟨h + 1, 1, none⟩) (fun _ => rfl) _) (fun y hy e => OwnV.type_ne O1.out BY2.out (by decide) (by rw [hy, e]))
  · have hge : ¬ h + 1 < w.heap.size := by have := HH.out; omega
    have hwz : ¬ wa.heap.size < w.heap.size := by have := CA.out.size; omega
    exact ((CA.out.trans K2.out (fun y hy e => by omega)).setCell (p := ⟨h + 1, 0, none⟩) (fun e => absurd e hge) _).setCell (p := ⟨h + 1, 1, none⟩) (fun e => absurd e hge) _
  · have := blk_ge (b := wa.heap.size) (B := wa.heap.size) (Nat.le_refl _) k hk
    have := CA.out.size
    omega
theorem rrecordNo {D : Nat → Prop} {g : Nat} {l : List SecV} {n : Nat} {i : Int} {w : World} (HN : Hid (n = l.length)) (hi : i < 0 ∨ (n : Int) ≤ i) (hj : Hid (RJ w D g l)) :
    Calls Try.prog 56 #[.pointer (some ⟨g, 0, none⟩), .int .i64 i] w fun e w' => e = .returned (.tuple #[.agg #[.int .i64 0, .slice none 0 0], .int .i64 2]) ∧ Chg (fun _ => False) w w' := by
  obtain ⟨vR, bs, hb, hv, h2, h4⟩ := hj.out.ex
  obtain ⟨AR, cR, hR, hcR, _⟩ := hv.row.slice
  rw [← HN.out] at hR
  have c1 := hb.at_ (i := 0) rfl
  rw [hR] at c1
  obtain ⟨wa, hwa⟩ : ∃ wa, wa = w.alloc (.cells #[.int .i64 0, .slice none 0 0] 31) := ⟨_, rfl⟩
  obtain ⟨h, hh⟩ : ∃ h, h = w.heap.size := ⟨_, rfl⟩
  have CA : Hid (Chg (fun _ => False) w wa) := by rw [hwa]; exact (Chg.refl _ w).alloc _
  have BX : Hid (Blk wa h 31 [.int .i64 0, .slice none 0 0]) := by rw [hwa, hh]; exact Blk.new _ _ _
  have c1a : wa.cell? ⟨g, 0, none⟩ = some (.slice AR n cR) := CA.out.cell (fun h => h) c1
  have HH := Lib.hid hh
  have HWA := Lib.hid hwa
  have s0 := BX.out.at_ (i := 0) rfl
  have s1 := BX.out.at_ (i := 1) rfl
  have f0 := BX.out.frozen (i := 0) (by simp)
  have f1 := BX.out.frozen (i := 1) (by simp)
  have B5 : Hid (Blk ((wa.setCell ⟨h, 0, none⟩ (.int .i64 0)).setCell ⟨h, 1, none⟩ (.slice none 0 0)) h 31 [.int .i64 0, .slice none 0 0]) := (BX.out.set 0 _).set 1 _
  have z0 := B5.out.at_ (i := 0) rfl
  have z1 := B5.out.at_ (i := 1) rfl
  have yy1 := (BX.out.set 0 (.int .i64 0)).at_ (i := 1) rfl
  have yf1 := (BX.out.set 0 (.int .i64 0)).frozen (i := 1) (by simp)
  have hge : ¬ h < w.heap.size := by omega
  have CC : Hid (Chg (fun _ => False) w ((wa.setCell ⟨h, 0, none⟩ (.int .i64 0)).setCell ⟨h, 1, none⟩ (.slice none 0 0))) := (CA.out.setCell (p := ⟨h, 0, none⟩) (fun e => absurd e hge) _).setCell (p := ⟨h, 1, none⟩) (fun e => absurd e hge) _
  clear hR hb hv h2 h4 hcR hwa hh hge
  rcases hi with hi | hi
  · go_enter Try.func56, Try.ntmps56
    go_upto_region 1 with fail
    rw [← HWA.out, ← HH.out]
    go_wp2_with fail
    exact bodyPost_ret (v := .tuple #[.agg #[.int .i64 0, .slice none 0 0], .int .i64 2]) (by simp [results, Try.results56, go_sem, z0, z1]) rfl ⟨rfl, CC.out⟩
  · have h0 : ¬ i < 0 := by have : (0 : Int) ≤ (n : Int) := Int.natCast_nonneg _; omega
    go_enter Try.func56, Try.ntmps56
    go_upto_region 1 with fail
    rw [← HWA.out, ← HH.out]
    go_wp2_with fail
    exact bodyPost_ret (v := .tuple #[.agg #[.int .i64 0, .slice none 0 0], .int .i64 2]) (by simp [results, Try.results56, go_sem, z0, z1]) rfl ⟨rfl, CC.out⟩
/-- what a row of one's own holds of its i-th -/
theorem recs_at {w : World} {v : Value} {l : List SecV} {bs : List Value} (h : Recs w v l bs) {i : Nat} {x : SecV} (hx : l[i]? = some x) : ∃ ad Ab cb c, v = .slice (some ad) l.length c ∧ w.cell? (ad.add (i * 2)) = some (.int .i64 x.id) ∧ w.cell? ⟨(ad.add (i * 2)).block, (ad.add (i * 2)).off + 1, none⟩ = some (.slice Ab x.body.length cb) ∧ OwnB w (.slice Ab x.body.length cb) x.body ∧ .slice Ab x.body.length cb ∈ bs ∧ x.body.length ≤ cb := by
  obtain ⟨hil, hxe⟩ := List.getElem?_eq_some_iff.1 hx
  have hib : i < bs.length := by rw [h.lenB]; exact hil
  obtain ⟨g1, g2⟩ := tCells_get l bs i hil hib
  obtain ⟨A, c, hv, hc, _⟩ := h.row.slice
  have hrow := h.row
  rw [hv] at hrow
  obtain ⟨ad, e1, k1, _⟩ := hrow.cells _ _ _ rfl _ _ g1
  obtain ⟨ad', e2, k2, _⟩ := hrow.cells _ _ _ rfl _ _ g2
  rw [e1] at e2
  injection e2 with e2
  subst e2
  have hob := h.own i hil hib
  have hmem : bs[i] ∈ bs := List.getElem_mem hib
  rw [hxe] at hob k1
  obtain ⟨Ab, cb, hbv, hcb, hmb⟩ := hob.slice
  rw [hbv] at k2 hob hmem
  subst e1
  refine ⟨ad, Ab, cb, c, hv, k1, ?_, hob, hmem, hcb⟩
  rw [show (⟨(ad.add (i * 2)).block, (ad.add (i * 2)).off + 1, none⟩ : Addr) = (ad.add (i * 2)).add 1 from rfl, Go.Deep.add_add]
  exact k2
set_option maxRecDepth 20000 in
theorem rrecordOk {D : Nat → Prop} {g : Nat} {l : List SecV} {n i : Nat} {x : SecV} {w : World} (HN : Hid (n = l.length)) (hi : i < n) (hn : n ≤ 1073741824) (hx : Hid (l[i]? = some x)) (hxl : x.body.length ≤ 4194304) (hj : Hid (RJ w D g l)) :
    Calls Try.prog 56 #[.pointer (some ⟨g, 0, none⟩), .int .i64 i] w fun e w' => ∃ A m c, e = .returned (.tuple #[.agg #[.int .i64 x.id, .slice A m c], .int .i64 0]) ∧ OwnB w' (.slice A m c) x.body ∧ m = x.body.length ∧ Chg (fun _ => False) w w' ∧ ∀ k, Value.ownBlock (.slice A m c) = some k → w.heap.size ≤ k := by
  obtain ⟨vR, bs, hb, hv, h2, h4⟩ := hj.out.ex
  obtain ⟨ad, Ab, cb, cR, hR, k1, k2, hob, _, hcb⟩ := recs_at hv hx.out
  obtain ⟨mb, hmb⟩ : ∃ mb, mb = x.body.length := ⟨_, rfl⟩
  rw [← hmb] at k2 hob hcb
  rw [← HN.out] at hR
  have c1 := hb.at_ (i := 0) rfl
  rw [hR] at c1
  obtain ⟨wa, hwa⟩ : ∃ wa, wa = w.alloc (.cells #[.int .i64 0, .slice none 0 0] 31) := ⟨_, rfl⟩
  obtain ⟨h, hh⟩ : ∃ h, h = w.heap.size := ⟨_, rfl⟩
  have CA : Hid (Chg (fun _ => False) w wa) := by rw [hwa]; exact (Chg.refl _ w).alloc _
  have BX : Hid (Blk wa h 31 [.int .i64 0, .slice none 0 0]) := by rw [hwa, hh]; exact Blk.new _ _ _
  have c1a : wa.cell? ⟨g, 0, none⟩ = some (.slice (some ad) n cR) := CA.out.cell (fun h => h) c1
  have k1a := CA.out.cell (fun h => h) k1
  have k2a := CA.out.cell (fun h => h) k2
  have HMB := Lib.hid hmb
  have hmb4 : mb ≤ 4194304 := by rw [hmb]; exact hxl
  have RA : Hid (Rd wa .u8 Ab x.body) := (hob.chg CA.out (fun _ _ h => h)).rd (by rw [hmb])
  have HH := Lib.hid hh
  have HWA := Lib.hid hwa
  have b1 : (0 : Int) ≤ (i : Int) := by omega
  have b2 : (i : Int) < (n : Int) := by omega
  clear hR hb hv h2 h4 hwa hh hmb hob c1 k1 k2
  go_enter Try.func56, Try.ntmps56
  go_upto_region 1 with fail
  rw [← HWA.out, ← HH.out]
  go_wp2_with fail
  refine (rcopied HMB hmb4 RA).mono ?_
  rintro e w1 ⟨A1, c1', rfl, o1, k1, k2⟩
  have O1 := Lib.hid o1
  have K1 := Lib.hid k1
  have K2 := Lib.hid k2
  have BX1 := Lib.hid (BX.out.chg k1 id)
  have s0 := BX1.out.at_ (i := 0) rfl
  have s1 := BX1.out.at_ (i := 1) rfl
  have f0 := BX1.out.frozen (i := 0) (by simp)
  have f1 := BX1.out.frozen (i := 1) (by simp)
  have B5 : Hid (Blk ((w1.setCell ⟨h, 0, none⟩ (.int .i64 x.id)).setCell ⟨h, 1, none⟩ (.slice A1 mb c1')) h 31 [.int .i64 x.id, .slice A1 mb c1']) := (BX1.out.set 0 _).set 1 _
  have z0 := B5.out.at_ (i := 0) rfl
  have z1 := B5.out.at_ (i := 1) rfl
  have yy1 := (BX1.out.set 0 (.int .i64 x.id)).at_ (i := 1) rfl
  have yf1 := (BX1.out.set 0 (.int .i64 x.id)).frozen (i := 1) (by simp)
  have hge : ¬ h < w.heap.size := by have := HH.out; omega
  clear o1 k1 k2
  go_wp2_with fail
  refine bodyPost_ret (v := .tuple #[.agg #[.int .i64 x.id, .slice A1 mb c1'], .int .i64 0]) (by simp [results, Try.results56, go_sem, z0, z1]) rfl ⟨A1, mb, c1', rfl, ?_, HMB.out, ?_, fun k hk => Nat.le_trans CA.out.size (K2.out k hk)⟩
  · exact O1.out.chg (S := fun y => y = h) (((Chg.refl (fun y => y = h) w1).setCell (p := ⟨h, 0, none⟩) (fun _ => rfl) _).setCell (p := ⟨h, 1, none⟩) (fun _ => rfl) _) (fun y hy e => OwnV.type_ne O1.out BX1.out (by decide) (by rw [hy, e]))
  · exact ((CA.out.trans K1.out (fun _ _ h => h)).setCell (p := ⟨h, 0, none⟩) (fun e => absurd e hge) _).setCell (p := ⟨h, 1, none⟩) (fun e => absurd e hge) _
end Go.Proofs.Ytlnomadhgoblkaa.Kit

/- The document's journal: Append. -/
set_option linter.unusedVariables false
set_option linter.unusedSimpArgs false
namespace Go.Proofs.Ytlnomadhgoblkaa.Kit
open Go.RowKit
/-- what the document's Append leaves -/
def RRApp (D : Nat → Prop) (g : Nat) (R : Int × List SecV) (w : World) (e : Ending) (w' : World) : Prop :=
  e = .returned (.int .i64 R.1) ∧ ∃ D', RJ w' D' g R.2 ∧ (∀ y, D' y → D y ∨ w.heap.size ≤ y) ∧ Chg (fun y => y = g ∨ D y) w w'
theorem rrapp_no {D : Nat → Prop} {g : Nat} {l : List SecV} {R : Int × List SecV} {z : Int} {w w' : World} (h : R = (z, l)) (hj : RJ w D g l) (c : Chg (fun _ => False) w w') : RRApp D g R w (.returned (.int .i64 z)) w' := by
  subst h
  exact ⟨rfl, D, hj.chg0 c, fun _ h => .inl h, c.mono fun _ _ h => h.elim⟩
set_option maxRecDepth 20000 in
set_option maxHeartbeats 6400000 in
theorem rappend {D : Nat → Prop} {g : Nat} {l : List SecV} {x : SecV} {R : Int × List SecV} {A : Option Addr} {m c : Nat} {w : World} (hR : Hid (jappRes l x = R)) (hj : Hid (RJ w D g l)) (hlen : Hid ((jnlBytes l).length ≤ 268435456)) (hm : Hid (m = x.body.length)) (hmc : m ≤ 140737488355328) (hb : Hid (Byt x.body)) (hr : Hid (Rd w .u8 A x.body)) (hk0 : -9223372036854775808 ≤ x.id) (hk1 : x.id ≤ 9223372036854775807) :
    Calls Try.prog 55 #[.pointer (some ⟨g, 0, none⟩), .agg #[.int .i64 x.id, .slice A m c]] w (RRApp D g R w) := by
  obtain ⟨wa, hwa⟩ : ∃ wa, wa = w.alloc (.cells #[.int .i64 x.id, .slice A m c] 31) := ⟨_, rfl⟩
  obtain ⟨h, hh⟩ : ∃ h, h = w.heap.size := ⟨_, rfl⟩
  have CA : Hid (Chg (fun _ => False) w wa) := by rw [hwa]; exact (Chg.refl _ w).alloc _
  have BX : Hid (Blk wa h 31 [.int .i64 x.id, .slice A m c]) := by rw [hwa, hh]; exact Blk.new _ _ _
  have HS : Hid (∀ W, Chg (fun _ => False) wa W → W.cell? ⟨h, 0, none⟩ = some (.int .i64 x.id) ∧ W.cell? ⟨h, 1, none⟩ = some (.slice A m c) ∧ Rd W .u8 A x.body) := fun W hW =>
    ⟨(BX.out.chg hW id).at_ (i := 0) rfl, (BX.out.chg hW id).at_ (i := 1) rfl, hr.out.below (CA.out.trans hW (fun _ _ h => h)).done⟩
  have HH := Lib.hid hh
  have HWA := Lib.hid hwa
  obtain ⟨s0, s1, ra⟩ := HS.out wa (Chg.refl _ _)
  have RA := Lib.hid ra
  clear hwa hh ra
  by_cases h1 : x.id < 1
  · have hE : Hid (R = (1, l)) := by rw [Hid, ← hR.out, jappRes, if_pos (.inl h1)]
    go_enter Try.func55, Try.ntmps55
    go_upto_region 1 with fail
    rw [← HWA.out, ← HH.out]
    go_wp2_with fail
    go_ret
    exact rrapp_no hE.out hj.out CA.out
  · by_cases h2 : 255 < x.id
    · have hE : Hid (R = (1, l)) := by rw [Hid, ← hR.out, jappRes, if_pos (.inr h2)]
      go_enter Try.func55, Try.ntmps55
      go_upto_region 1 with fail
      rw [← HWA.out, ← HH.out]
      go_wp2_with fail
      go_ret
      exact rrapp_no hE.out hj.out CA.out
    · by_cases h3 : 4194304 < m
      · have hE : Hid (R = (6, l)) := by rw [Hid, ← hR.out, jappRes, if_neg (by omega), if_pos (by rw [← hm.out]; exact h3)]
        go_enter Try.func55, Try.ntmps55
        go_upto_region 1 with fail
        rw [← HWA.out, ← HH.out]
        go_wp2_with fail
        go_ret
        exact rrapp_no hE.out hj.out CA.out
      · obtain ⟨vR, bs, hbk, hv, d2, d4⟩ := hj.out.ex
        obtain ⟨AR, cR, hRv, hcR, _⟩ := hv.row.slice
        obtain ⟨n, hn⟩ : ∃ n, n = l.length := ⟨_, rfl⟩
        obtain ⟨nb, hnb⟩ : ∃ nb, nb = (jnlBytes l).length := ⟨_, rfl⟩
        have hnl := jnlBytes_len l
        rw [← hn, ← hnb] at hnl
        have hnb2 : nb ≤ 268435456 := by rw [hnb]; exact hlen.out
        have hn25 : n ≤ 33554432 := by omega
        rw [← hn] at hRv
        subst hRv
        rw [← hnb] at hbk
        have HN := Lib.hid hn
        have HNB := Lib.hid hnb
        have B0 : Hid (Blk wa g 113 [.slice AR n cR, .int .i64 (nb : Nat)]) := hbk.chg CA.out id
        have V0 : Hid (Recs wa (.slice AR n cR) l bs) := hv.chg CA.out (fun _ _ h => h) (fun _ _ _ _ h => h)
        have HD2 := Lib.hid d2
        have HD4 := Lib.hid d4
        have hgW : Hid (g < wa.heap.size) := B0.out.lt
        have hgh : Hid (g ≠ h) := fun e => BX.out.type_ne B0.out (by decide) e.symm
        have c0 := B0.out.at_ (i := 0) rfl
        have hn0 : (0 : Int) ≤ (n : Int) := by omega
        have hid2 : x.id ≤ 255 := by omega
        have hid1 : 0 ≤ x.id := by omega
        have hm4 : m ≤ 4194304 := by omega
        have RW : Hid (∀ W, Chg (fun _ => False) wa W → Hid (Rd W .u8 A x.body)) := fun W hW => RA.out.below hW.done
        clear hbk hv d2 d4 hcR hn hnb hnl
        go_enter Try.func55, Try.ntmps55
        go_upto_region 1 with fail
        rw [← HWA.out, ← HH.out]
        go_wp2_with fail
        go_region_held3 (fun w' => w'.cell? ⟨g, 0, none⟩ = some (.slice AR n cR) ∧ w'.cell? ⟨h, 0, none⟩ = some (.int .i64 x.id) ∧ w'.cell? ⟨h, 1, none⟩ = some (.slice A m c)) (first | exact ⟨c0, s0, s1⟩ | exact t5) (first | (go_at_call 68; (with_reducible refine (rbytes (x := x) (by omega) hm hm4 hid1 hid2 hb (RW.out _ (by repeat (first | exact Chg.refl _ _ | refine Chg.drew ?_ | refine Chg.drewN ?_ _)))).mono ?_); rintro e w2 ⟨A2, n2, c2, rfl, m2⟩; have C2 : Hid (Chg (fun _ => False) wa w2) := (show Chg (fun _ => False) wa _ from by repeat (first | exact Chg.refl _ _ | refine Chg.drew ?_ | refine Chg.drewN ?_ _)).trans m2.chg (fun _ _ h => h); have L2 : Hid (n2 = (recEnc n x).length) := m2.len; have t5 : w2.cell? ⟨g, 0, none⟩ = some (.slice AR n cR) ∧ w2.cell? ⟨h, 0, none⟩ = some (.int .i64 x.id) ∧ w2.cell? ⟨h, 1, none⟩ = some (.slice A m c) := ⟨C2.out.cell id c0, C2.out.cell id s0, C2.out.cell id s1⟩; clear m2))
        obtain ⟨t0, t1, t2⟩ := t5
        have B2 := Lib.hid (B0.out.chg C2.out id)
        have V2 := Lib.hid (V0.out.chg C2.out (fun _ _ h => h) (fun _ _ _ _ h => h))
        have e1 := B2.out.at_ (i := 1) rfl
        have hn2b : n2 ≤ 4194330 := by
          have h1 := vb_len10 (n := n) (by omega)
          have h2 := vb_len10 (n := x.body.length) (by rw [← hm.out]; omega)
          rw [L2.out, recEnc_length, recHd_length, ← hm.out]
          rw [← hm.out] at h2
          omega
        by_cases hfull : 268435456 < nb + n2
        · have hE : Hid (R = (4, l)) := by rw [Hid, ← hR.out, jappRes, if_neg (by omega), if_neg (by rw [← hm.out]; exact h3), if_pos (by rw [← HNB.out, ← HN.out, ← L2.out]; exact hfull)]
          have hfi : (268435456 : Int) < (nb : Int) + (n2 : Int) := by omega
          clear hfull
          go_wp2_with fail
          go_ret
          exact rrapp_no hE.out hj.out (CA.out.trans C2.out (fun _ _ h => h))
        · have hE : Hid (R = (0, l ++ [x])) := by rw [Hid, ← hR.out, jappRes, if_neg (by omega), if_neg (by rw [← hm.out]; exact h3), if_neg (by rw [← HNB.out, ← HN.out, ← L2.out]; exact hfull)]
          have hfi : ¬ (268435456 : Int) < (nb : Int) + (n2 : Int) := by omega
          have rowT := V2.out.row
          rw [← HN.out] at rowT
          have HRT := Lib.hid rowT
          have RW2 : Hid (∀ W, Chg (fun _ => False) w2 W → Hid (Rd W .u8 A x.body)) := fun W hW => RW.out W (C2.out.trans hW (fun _ _ h => h))
          have hgR : Hid (∀ y, Value.ownBlock (.slice AR n cR) = some y → y ≠ g) := fun y hy e => OwnV.type_ne HRT.out B2.out (by decide) (by rw [hy, e])
          clear rowT hfull
          go_upto_region 8 with fail
          go_cut [] from 6 to 43 (fun wx => ∃ A8 c8 A7 c7, Hid (Blk wx g 113 [.slice A8 (n + 1) c8, .int .i64 (nb : Nat)]) ∧ Hid (OwnV wx 31 2 (.slice A8 (n + 1) c8) (n + 1) (tCells l bs ++ [.int .i64 x.id, .slice A7 m c7])) ∧ Hid (OwnB wx (.slice A7 m c7) x.body) ∧ Hid (∀ y, Value.ownBlock (.slice A7 m c7) = some y → w2.heap.size ≤ y) ∧ Hid (Chg (fun y => y = g ∨ Value.ownBlock (.slice AR n cR) = some y) w2 wx) ∧ Hid (Fresh w2 (.slice AR n cR) (.slice A8 (n + 1) c8)))
          case first =>
            go_region_law (first | ((refine st_app2 rfl _ _ 49 31 (.agg #[.int .i64 0, .slice none 0 0]) 32 rfl Try.underlying49 infoRec rfl (by decide) (.slice AR n cR) n (tCells l bs) (.int .i64 x.id) (.slice A7 m c7) rfl rfl rfl (HRT.out.chg (S := fun _ => False) (by repeat (first | exact C25.out | exact Chg.refl _ _ | refine Chg.drew ?_ | refine Chg.drewN ?_ _ | refine Chg.alloc ?_ _)) (fun _ _ h => h)) w5.heap.size rfl (box_news2 _ _ _ (fun _ => rfl)) (by omega) ?_; intro v6 w6 k1 k2 k3; obtain ⟨A6, c6, rfl, _, _⟩ := k1.slice; have N1 := Lib.hid k1; have N2 : Hid (Chg (fun y => Value.ownBlock (.slice AR n cR) = some y) w2 w6) := (show Chg _ w2 _ from by repeat (first | exact C25.out.mono (fun _ _ h => h.elim) | exact Chg.refl _ _ | refine Chg.drew ?_ | refine Chg.drewN ?_ _ | refine Chg.alloc ?_ _)).trans k2 (fun _ _ h => h); have N3 : Hid (Fresh w2 (.slice AR n cR) (.slice A6 (n + 1) c6)) := k3.imp id (fun h y hy => Nat.le_trans (Nat.le_trans C25.out.size (by simp)) (h y hy)); have N5 : Hid (Chg (fun y => Value.ownBlock (.slice AR n cR) = some y) w5 w6) := (show Chg _ w5 _ from by repeat (first | exact Chg.refl _ _ | refine Chg.drew ?_ | refine Chg.drewN ?_ _ | refine Chg.alloc ?_ _)).trans k2 (fun _ _ h => h); clear k1 k2 k3; have B6 : Hid (Blk w6 g 113 [.slice AR n cR, .int .i64 (nb : Nat)]) := B2.out.chg N2.out (fun e => hgR.out g e rfl); have e6 := B6.out.at_ (i := 0) rfl; have f6 := B6.out.frozen (i := 0) (by simp))) | (go_simp; go_at_call 69; (with_reducible refine (rcopied (x := x) hm hm4 (RW2.out _ (by repeat (first | exact Chg.refl _ _ | refine Chg.drew ?_ | refine Chg.drewN ?_ _)))).mono ?_); rintro e w5 ⟨A7, c7, rfl, o7, k1, k2⟩; have C25 : Hid (Chg (fun _ => False) w2 w5) := (show Chg (fun _ => False) w2 _ from by repeat (first | exact Chg.refl _ _ | refine Chg.drew ?_ | refine Chg.drewN ?_ _)).trans k1 (fun _ _ h => h); have O7 := Lib.hid o7; have F7 : Hid (∀ y, Value.ownBlock (.slice A7 m c7) = some y → w2.heap.size ≤ y) := k2; have t05 : w5.cell? ⟨g, 0, none⟩ = some (.slice AR n cR) := C25.out.cell id t0; have t06 : (w5.alloc (.cells #[.int .i64 x.id, .slice A7 m c7] 31)).cell? ⟨g, 0, none⟩ = some (.slice AR n cR) := (C25.out.alloc _).cell id t0; have t07 : (w5.drew.alloc (.cells #[.int .i64 x.id, .slice A7 m c7] 31)).cell? ⟨g, 0, none⟩ = some (.slice AR n cR) := (C25.out.drew.alloc _).cell id t0; have t08 : (w5.drew.drew.alloc (.cells #[.int .i64 x.id, .slice A7 m c7] 31)).cell? ⟨g, 0, none⟩ = some (.slice AR n cR) := (C25.out.drew.drew.alloc _).cell id t0; clear o7 k1 k2; dsimp only))
            all_goals
              go_wp2_with fail
              go_meet
              case rel => exact ⟨A6, c6, A7, c7, B6.out.set 0 _, N1.out.chg ((Chg.refl (· = g) w6).setg 0 _) (fun y hy e => OwnV.type_ne N1.out B6.out (by decide) (by rw [hy, e])), (O7.out.chg N5.out (fun y hy e => by
                obtain ⟨cur, hcu⟩ := OwnV.typed O7.out y hy
                exact (HRT.out.chg C25.out (fun _ _ h => h)).type_ne hcu (by decide) e)).chg ((Chg.refl (· = g) w6).setg 0 _) (fun y hy e => by
                have h1 := F7.out y hy
                have h2 := hgW.out
                have h3 := C2.out.size
                omega), F7.out, (N2.out.mono (fun _ _ h => .inr h)).setCell (p := ⟨g, 0, none⟩) (fun _ => .inl rfl) _, N3.out⟩
          case rest =>
            obtain ⟨A8, c8, A7, c7, B9, N9, O9, F9, C9, Fr9⟩ := hcut
            have g1 := B9.out.at_ (i := 1) rfl
            have gf1 := B9.out.frozen (i := 1) (by simp)
            have R9 : Hid (Recs wc (.slice A8 (n + 1) c8) (l ++ [x]) (bs ++ [.slice A7 m c7])) := V2.out.snoc HN.out.symm C9.out (fun y hy ht => by
              obtain ⟨cur, hcu⟩ := ht
              rcases hy with hy | hy
              · rw [hy] at hcu
                exact hcu.type_ne B2.out (by decide) rfl
              · exact HRT.out.type_ne hcu (by decide) hy) N9.out O9.out
            have hsum : Hid ((nb : Int) + (n2 : Int) = (((jnlBytes (l ++ [x])).length : Nat) : Int)) := by
              rw [Hid, jnlBytes_snoc, List.length_append, ← HNB.out, ← HN.out, ← L2.out]
              omega
            clear t0 t1 t2 e1 hfi
            go_wp2_with fail
            go_ret
            rw [hE.out]
            have CZ : Chg (fun y => y = g) wc (wc.setCell ⟨g, 1, none⟩ (.int .i64 ((nb : Int) + (n2 : Int)))) := (Chg.refl (fun y => y = g) wc).setg 1 _
            have CW : Chg (fun y => y = g ∨ D y) w wc := ((CA.out.trans C2.out (fun _ _ h => h)).mono (fun _ _ h => h.elim)).trans C9.out (fun y hy h => by
              rcases h with h | h
              · exact .inl h
              · exact .inr (HD2.out y h))
            have hwz : w.heap.size ≤ w2.heap.size := Nat.le_trans CA.out.size C2.out.size
            refine ⟨rfl, fun y => D y ∨ (w.heap.size ≤ y ∧ y < wc.heap.size), ⟨⟨.slice A8 (n + 1) c8, bs ++ [.slice A7 m c7], ?_, ?_, fun y hy => ?_, fun b hb y hy => ?_⟩, fun y hy => ?_, fun hy => ?_⟩, fun y hy => hy.imp id And.left, CW.trans CZ (fun y hy e => .inl e)⟩
            · have := B9.out.set 1 (.int .i64 ((nb : Int) + (n2 : Int)))
              rw [← hsum.out]
              exact this
            · refine R9.out.chg CZ (fun y hy e => OwnV.type_ne R9.out.row B9.out (by decide) (by rw [hy, e])) (fun b hb y hy e => ?_)
              obtain ⟨i, hi, rfl⟩ := List.getElem_of_mem hb
              exact OwnV.type_ne (R9.out.own i (by rw [← R9.out.lenB]; exact hi) hi) B9.out (by decide) (by rw [hy, e])
            · rcases Fr9.out with h | h
              · exact .inl (HD2.out y (by rw [← h]; exact hy))
              · exact .inr ⟨Nat.le_trans hwz (h y hy), N9.out.lt y hy⟩
            · rcases List.mem_append.1 hb with hb | hb
              · exact .inl (HD4.out b hb y hy)
              · rw [List.mem_singleton.1 hb] at hy
                exact .inr ⟨Nat.le_trans hwz (F9.out y hy), O9.out.lt y hy⟩
            · have hz : (wc.setCell ⟨g, 1, none⟩ (.int .i64 ((nb : Int) + (n2 : Int)))).heap.size = wc.heap.size := by simp [World.setCell]
              rw [hz]
              rcases hy with hy | hy
              · exact Nat.lt_of_lt_of_le (hj.out.size y hy) CW.size
              · exact hy.2
            · rcases hy with hy | hy
              · exact hj.out.out hy
              · have := hj.out.lt
                omega
end Go.Proofs.Ytlnomadhgoblkaa.Kit

/- The document's journal: Bytes, Ends. -/
set_option linter.unusedVariables false
set_option linter.unusedSimpArgs false
namespace Go.Proofs.Ytlnomadhgoblkaa.Kit
open Go.RowKit
theorem jnl_take_succ {l : List SecV} {k : Nat} {x : SecV} (hx : l[k]? = some x) : jnlBytes (l.take (k + 1)) = jnlBytes (l.take k) ++ recEnc k x := by
  obtain ⟨hlt, hxe⟩ := List.getElem?_eq_some_iff.1 hx
  rw [List.take_succ_eq_append_getElem hlt, jnlBytes_snoc, hxe, List.length_take, Nat.min_eq_left (Nat.le_of_lt hlt)]
theorem jends_take_succ {l : List SecV} {k : Nat} (hk : k < l.length) : (jends l).take (k + 1) = (jends l).take k ++ [((jnlBytes (l.take (k + 1))).length : Int)] := by
  have hk' : k < (jends l).length := by rw [jends_length]; exact hk
  rw [List.take_succ_eq_append_getElem hk', jends_get]
set_option maxRecDepth 20000 in
set_option maxHeartbeats 6400000 in
theorem rjbytes {D : Nat → Prop} {g : Nat} {l : List SecV} {w : World} (hs : Hid ((jnlBytes l).length ≤ 268435456)) (hg : Hid (∀ x ∈ l, GoodRec x)) (hj : Hid (RJ w D g l)) :
    Calls Try.prog 57 #[.pointer (some ⟨g, 0, none⟩)] w fun e w' => ∃ A n c, e = .returned (.slice A n c) ∧ Made w w' A n c (jnlBytes l) := by
  obtain ⟨vR, bs, hb, hv, h2, h4⟩ := hj.out.ex
  obtain ⟨AR, cR, hR, hcR, _⟩ := hv.row.slice
  obtain ⟨n, hn⟩ : ∃ n, n = l.length := ⟨_, rfl⟩
  rw [← hn] at hR
  subst hR
  have c0 := hb.at_ (i := 0) rfl
  have HN := Lib.hid hn
  have HV := Lib.hid hv
  have hnb : n ≤ 33554432 := by
    have h1 := jnlBytes_len l
    have h2 := hs.out
    omega
  have C0 := Lib.hid c0
  have hJH : Hid (OwnB (w.alloc (.cells (nums .u8 jhead).toArray 5 (8, 9))) (.slice (some ⟨w.heap.size, 0, none⟩) 8 8) jhead) := Own.litF w _ .u8 jhead 8 rfl (by decide)
  have HKC : Hid ((convert 29 29 (.slice (some ⟨w.heap.size, 0, none⟩) 8 8)).run Try.prog (w.alloc (.cells #[.int .u8 80, .int .u8 65, .int .u8 89, .int .u8 74, .int .u8 82, .int .u8 78, .int .u8 76, .int .u8 49] 5)) = .ok (.slice (some ⟨w.heap.size, 0, none⟩) 8 8) (w.alloc (.cells (nums .u8 jhead).toArray 5 (8, 9)))) := Lib.run_convert_bytes_const (P := Try.prog) w 29 5 (nums .u8 jhead).toArray 8 8 Try.underlying29 Try.underlying5
  have CB : Hid (Chg (fun _ => False) w (w.alloc (.cells (nums .u8 jhead).toArray 5 (8, 9)))) := (Chg.refl _ w).alloc _
  clear hb hv h2 h4 hn c0
  go_enter Try.func57, Try.ntmps57
  go_wp2_with fail
  rw [HKC.out]
  go_wp2_with fail
  go_loopw [3, 4] (fun b i wr => ∃ (k : Nat), k ≤ n ∧ i = .int .i64 k ∧ Hid (OwnB wr b (jnlBytes (l.take k))) ∧ Hid (Chg (fun _ => False) w wr) ∧ Hid (∀ y, b.ownBlock = some y → w.heap.size ≤ y)) (fun _ i _ => n - (intOf i).toNat)
  case atStart => exact ⟨0, Nat.zero_le _, rfl, hJH.out, CB.out, blk_ge (Nat.le_refl _)⟩
  case round =>
    obtain ⟨k, hk, rfl, ho, hc, hf⟩ := hrel
    have c0 := hc.out.cell id C0.out
    by_cases hlt : k < n
    · obtain ⟨x, hx⟩ : ∃ x, l[k]? = some x := ⟨l[k]'(by rw [← HN.out]; exact hlt), List.getElem?_eq_getElem _⟩
      obtain ⟨ad, Ab, cb, cR', e1, k1, k2, hob, _, _⟩ := recs_at HV.out hx
      injection e1 with e1 _ _
      subst e1
      obtain ⟨mb, hmb⟩ : ∃ mb, mb = x.body.length := ⟨_, rfl⟩
      rw [← hmb] at k2 hob
      have HX := Lib.hid hx
      have HMB := Lib.hid hmb
      have hxg := hg.out x (List.mem_of_getElem? hx)
      have hmb4 : mb ≤ 4194304 := by rw [hmb]; exact hxg.2.2.1
      have hi1 : 0 ≤ x.id := by have := hxg.1; omega
      have hi2 : x.id ≤ 255 := hxg.2.1
      have HBX : Hid (Byt x.body) := hxg.2.2.2
      have RB : Hid (Rd wr .u8 Ab x.body) := (hob.chg hc.out (fun _ _ h => h)).rd (by rw [hmb])
      have t0 := hc.out.cell id k1
      have t1 := hc.out.cell id k2
      obtain ⟨Lk, hLk⟩ : ∃ Lk, Lk = jnlBytes (l.take k) := ⟨_, rfl⟩
      have hLs := jnl_take_succ hx
      rw [← hLk] at ho hLs
      have hle := jnl_le l (k + 1)
      rw [hLs, List.length_append] at hle
      obtain ⟨A3, c3, hv3, _, _⟩ := ho.out.slice
      obtain ⟨n3, hn3⟩ : ∃ n3, n3 = Lk.length := ⟨_, rfl⟩
      rw [← hn3] at hv3 hle
      subst hv3
      have HN3 := Lib.hid hn3
      have HLS := Lib.hid hLs
      have HLE := Lib.hid hle
      have q0 : (0 : Int) ≤ (k : Int) := by omega
      have q1 : (k : Int) < (n : Int) := by omega
      clear hx hmb hxg hob k1 k2 hLk hLs hle hn3
      go_wp2_with fail
      refine (rbytes (x := x) (by omega) HMB hmb4 hi1 hi2 HBX RB).mono ?_
      rintro e w2 ⟨A2, n2, c2, rfl, m2⟩
      have O2 := Lib.hid (ho.out.chg m2.chg (fun _ _ h => h))
      have R2 : Hid (Rd w2 .u8 A2 (recEnc k x)) := m2.rd
      have L2 : Hid (n2 = (recEnc k x).length) := m2.len
      have C2 : Hid (Chg (fun _ => False) w w2) := hc.out.trans m2.chg (fun _ _ h => h)
      clear m2
      go_wp2_with (at_builtin; go_must (refine wp_appn rfl _ _ 29 5 .u8 1 rfl Try.underlying29 infoU8 (by decide) (.slice A3 n3 c3) Lk rfl O2.out A2 c2 (recEnc k x) n2 rfl L2.out R2.out (by have h1 := HLE.out; have h2 := hs.out; rw [← HN3.out]; omega) ?_); intro v4 w4 k1 k2 k3 k4; have O4 := Lib.hid k1; have C4 : Hid (Chg (fun _ => False) w w4) := C2.out.fresh k3 hf.out; have G4 : Hid (∀ y, v4.ownBlock = some y → w.heap.size ≤ y) := k4.ge hf.out C2.out.size; clear k1 k2 k3 k4)
      go_roundw
      case rel => exact ⟨k + 1, by omega, by go_num, by rw [HLS.out]; exact O4.out, C4, G4⟩
      case measure => simp [intOf]; omega
    · obtain rfl : k = n := by omega
      have ho2 : OwnB wr u3 (jnlBytes l) := by
        have := ho.out
        rw [HN.out, List.take_length] at this
        exact this
      obtain ⟨A3, c3, hv3, hc3, _⟩ := ho2.slice
      have HO := Lib.hid ho2
      have HC3 := Lib.hid hc3
      subst hv3
      clear ho2 hc3 ho
      go_wp2_with fail
      go_ret
      exact ⟨A3, _, c3, rfl, rfl, HO.out, hc.out, hf.out, HC3.out⟩
set_option maxRecDepth 20000 in
set_option maxHeartbeats 6400000 in
theorem rjends {D : Nat → Prop} {g : Nat} {l : List SecV} {n : Nat} {w : World} (HN : Hid (n = l.length)) (hs : Hid ((jnlBytes l).length ≤ 268435456)) (hg : Hid (∀ x ∈ l, GoodRec x)) (hj : Hid (RJ w D g l)) :
    Calls Try.prog 58 #[.pointer (some ⟨g, 0, none⟩)] w fun e w' => ∃ A c, e = .returned (.slice A n c) ∧ Own w' 3 .i64 (.slice A n c) (jends l) ∧ Chg (fun _ => False) w w' ∧ (∀ k, Value.ownBlock (.slice A n c) = some k → w.heap.size ≤ k) := by
  obtain ⟨vR, bs, hb, hv, h2, h4⟩ := hj.out.ex
  obtain ⟨AR, cR, hR, hcR, _⟩ := hv.row.slice
  rw [← HN.out] at hR
  subst hR
  have c0 := hb.at_ (i := 0) rfl
  have HV := Lib.hid hv
  have hnb : n ≤ 33554432 := by
    have h1 := jnlBytes_len l
    have h2 := hs.out
    rw [← HN.out] at h1
    omega
  have C0 := Lib.hid c0
  clear hb hv h2 h4 c0
  go_enter Try.func58, Try.ntmps58
  go_wp2_with fail
  go_loopw [3, 4, 5] (fun b z i wr => ∃ (k : Nat), k ≤ n ∧ i = .int .i64 k ∧ z = .int .i64 ((jnlBytes (l.take k)).length : Nat) ∧ Hid (Own wr 3 .i64 b ((jends l).take k)) ∧ Hid (Chg (fun _ => False) w wr) ∧ Hid (∀ y, b.ownBlock = some y → w.heap.size ≤ y)) (fun _ _ i _ => n - (intOf i).toNat)
  case atStart => exact ⟨0, Nat.zero_le _, rfl, rfl, Own.nil _ _ _, Chg.refl _ _, fun y hy => by simp [Value.ownBlock] at hy⟩
  case round =>
    obtain ⟨k, hk, rfl, rfl, ho, hc, hf⟩ := hrel
    have c0 := hc.out.cell id C0.out
    by_cases hlt : k < n
    · have hkl : k < l.length := by rw [← HN.out]; exact hlt
      obtain ⟨x, hx⟩ : ∃ x, l[k]? = some x := ⟨l[k]'hkl, List.getElem?_eq_getElem _⟩
      obtain ⟨ad, Ab, cb, cR', e1, k1, k2, hob, _, _⟩ := recs_at HV.out hx
      injection e1 with e1 _ _
      subst e1
      obtain ⟨mb, hmb⟩ : ∃ mb, mb = x.body.length := ⟨_, rfl⟩
      rw [← hmb] at k2 hob
      have HMB := Lib.hid hmb
      have hxg := hg.out x (List.mem_of_getElem? hx)
      have hmb4 : mb ≤ 4194304 := by rw [hmb]; exact hxg.2.2.1
      have hi1 : 0 ≤ x.id := by have := hxg.1; omega
      have hi2 : x.id ≤ 255 := hxg.2.1
      have HBX : Hid (Byt x.body) := hxg.2.2.2
      have RB : Hid (Rd wr .u8 Ab x.body) := (hob.chg hc.out (fun _ _ h => h)).rd (by rw [hmb])
      have t0 := hc.out.cell id k1
      have t1 := hc.out.cell id k2
      have hLs := jnl_take_succ hx
      have hEs := jends_take_succ hkl
      have hle := jnl_le l (k + 1)
      obtain ⟨nk, hnk⟩ : ∃ nk, nk = (jnlBytes (l.take k)).length := ⟨_, rfl⟩
      obtain ⟨ne, hne⟩ : ∃ ne, ne = (jnlBytes (l.take (k + 1))).length := ⟨_, rfl⟩
      have hsm : nk + (recEnc k x).length = ne := by rw [hne, hLs, List.length_append, hnk]
      rw [← hne] at hEs hle
      rw [← hnk]
      obtain ⟨Lk, hLk⟩ : ∃ Lk, Lk = (jends l).take k := ⟨_, rfl⟩
      have hLkl : Lk.length = k := by rw [hLk, List.length_take, jends_length]; omega
      rw [← hLk] at ho hEs
      obtain ⟨A3, c3, hv3, _, _⟩ := ho.out.slice
      rw [hLkl] at hv3
      subst hv3
      have HES := Lib.hid hEs
      have HSM := Lib.hid hsm
      have HLL := Lib.hid hLkl
      have hne2 : ne ≤ 268435456 := Nat.le_trans hle hs.out
      have q0 : (0 : Int) ≤ (k : Int) := by omega
      have q1 : (k : Int) < (n : Int) := by omega
      have HNE := Lib.hid hne
      clear hx hmb hxg hob k1 k2 hLk hLs hle hsm hEs hLkl hne hnk
      go_wp2_with fail
      refine (rbytes (x := x) (by omega) HMB hmb4 hi1 hi2 HBX RB).mono ?_
      rintro e w2 ⟨A2, n2, c2, rfl, m2⟩
      have O2 := Lib.hid (ho.out.chg m2.chg (fun _ _ h => h))
      have C2 : Hid (Chg (fun _ => False) w w2) := hc.out.trans m2.chg (fun _ _ h => h)
      have hn2 : (nk : Int) + (n2 : Int) = (ne : Int) := by
        have := m2.len
        have := HSM.out
        omega
      clear m2
      go_wp2_with (at_builtin; go_must (refine wp_app1 rfl _ _ 23 3 .i64 8 rfl Try.underlying23 infoInt (by decide) (.slice A3 k c3) Lk (ne : Int) rfl O2.out rfl (by rw [HLL.out]; omega) ?_); intro v4 w4 k1 k2 k3 k4; have O4 := Lib.hid k1; have C4 : Hid (Chg (fun _ => False) w w4) := C2.out.fresh k3 hf.out; have G4 : Hid (∀ y, v4.ownBlock = some y → w.heap.size ≤ y) := k4.ge hf.out C2.out.size; clear k1 k2 k3 k4)
      go_roundw
      case rel => exact ⟨k + 1, by omega, by go_num, by rw [← HNE.out], by rw [HES.out]; exact O4.out, C4, G4⟩
      case measure => simp [intOf]; omega
    · obtain rfl : k = n := by omega
      have ho2 : Own wr 3 .i64 u3 (jends l) := by
        have := ho.out
        rw [List.take_of_length_le (by rw [jends_length, HN.out]; exact Nat.le_refl _)] at this
        exact this
      obtain ⟨A3, c3, hv3, hc3, _⟩ := ho2.slice
      rw [jends_length, ← HN.out] at hv3
      have HO := Lib.hid ho2
      subst hv3
      clear ho2 hc3 ho
      go_wp2_with fail
      go_ret
      exact ⟨A3, c3, rfl, HO.out, hc.out, hf.out⟩
end Go.Proofs.Ytlnomadhgoblkaa.Kit

/- The document's journal: the next record. -/
set_option linter.unusedVariables false
set_option linter.unusedSimpArgs false
namespace Go.Proofs.Ytlnomadhgoblkaa.Kit
open Go.RowKit
/-- a number read without a limit, and with one -/
theorem urd_lim {l : List Int} {L x er : Int} {n : Nat} (hL : L ≤ 18446744073709551615) (h : urd l 18446744073709551615 = (x, n, er)) : (er ≠ 0 → (urd l L).2.2 ≠ 0) ∧ (er = 0 → urd l L = if x > L then (0, 0, 42) else (x, n, 0)) := by
  unfold urd at h ⊢
  by_cases hv : (vlp l 10 0 0).2.2 = 0
  · rw [if_pos hv] at h ⊢
    by_cases hx : (vlp l 10 0 0).1 > 18446744073709551615
    · rw [if_pos hx] at h
      simp only [Prod.mk.injEq] at h
      obtain ⟨rfl, rfl, rfl⟩ := h
      rw [if_pos (by omega)]
      exact ⟨fun _ => by simp, fun h => absurd h (by decide)⟩
    · rw [if_neg hx] at h
      simp only [Prod.mk.injEq] at h
      obtain ⟨rfl, rfl, rfl⟩ := h
      exact ⟨fun h => absurd rfl h, fun _ => rfl⟩
  · rw [if_neg hv] at h ⊢
    simp only [Prod.mk.injEq] at h
    obtain ⟨rfl, rfl, rfl⟩ := h
    exact ⟨fun _ => hv, fun h => absurd h hv⟩
/-- what stands ahead of a record's sum is the record's own -/
theorem rec_head {l : List Int} {n k k2 : Nat} {kd z : Int} (hb : Byt l) (h0 : l[0]? = some 167) (hu : urd (l.drop 1) n = ((n : Int), k, 0)) (hk : l[1 + k]? = some kd) (hv : urd (l.drop (2 + k)) 4194304 = (z, k2, 0)) (hl : 2 + k + k2 + z.toNat ≤ l.length) :
    l.take (2 + k + k2 + z.toNat) = recHd n ⟨kd, (l.drop (2 + k + k2)).take z.toNat⟩ ∧ ((l.drop (2 + k + k2)).take z.toNat).length = z.toNat ∧ z.toNat ≤ 4194304 := by
  obtain ⟨a1, a2, a3, a4, a5, a6⟩ := urd_form (byt_drop hb 1) hu
  obtain ⟨b1, b2, b3, b4, b5, b6⟩ := urd_form (byt_drop hb (2 + k)) hv
  rw [List.length_drop] at a6 b6
  rw [Int.toNat_natCast] at a1
  have hkl : 1 + k < l.length := by
    rcases Nat.lt_or_ge (1 + k) l.length with h | h
    · exact h
    · rw [List.getElem?_eq_none h] at hk
      cases hk
  have hk1 : l[1 + k] = kd := by
    rw [List.getElem?_eq_getElem hkl] at hk
    injection hk
  have hbl : ((l.drop (2 + k + k2)).take z.toNat).length = z.toNat := by
    simp
    omega
  have l0 : 0 < l.length := by omega
  have h00 : l[0] = 167 := by
    rw [List.getElem?_eq_getElem l0] at h0
    injection h0
  refine ⟨?_, hbl, by omega⟩
  rw [recHd]
  simp only [hbl]
  have hcons : l = l[0] :: l.drop 1 := by simpa using List.drop_eq_getElem_cons l0
  have htk : l.take (2 + k + k2 + z.toNat) = l[0] :: (l.drop 1).take (1 + k + k2 + z.toNat) := by
    rw [show 2 + k + k2 + z.toNat = (1 + k + k2 + z.toNat) + 1 by omega]
    exact (congrArg (List.take _) hcons).trans (List.take_succ_cons)
  rw [htk, h00]
  congr 1
  rw [show 1 + k + k2 + z.toNat = k + (1 + (k2 + z.toNat)) by omega, List.take_add, a1, List.drop_drop]
  congr 1
  rw [List.drop_eq_getElem_cons hkl, show 1 + (k2 + z.toNat) = (k2 + z.toNat) + 1 by omega, List.take_succ_cons, hk1]
  congr 1
  rw [List.take_add, show 1 + k + 1 = 2 + k by omega, b1, List.drop_drop]
/-- a block of two cells, written over -/
theorem cell2_store {W : World} {h : Nat} {e : TypeId} {u0 u1 : Value} (B : Blk W h e [u0, u1]) (v0 v1 : Value) : W.cell? ⟨h, 0, none⟩ = some u0 ∧ W.frozen? ⟨h, 0, none⟩ = false ∧ (W.setCell ⟨h, 0, none⟩ v0).cell? ⟨h, 1, none⟩ = some u1 ∧ (W.setCell ⟨h, 0, none⟩ v0).frozen? ⟨h, 1, none⟩ = false ∧
    ((W.setCell ⟨h, 0, none⟩ v0).setCell ⟨h, 1, none⟩ v1).cell? ⟨h, 0, none⟩ = some v0 ∧ ((W.setCell ⟨h, 0, none⟩ v0).setCell ⟨h, 1, none⟩ v1).cell? ⟨h, 1, none⟩ = some v1 :=
  ⟨B.at_ (i := 0) rfl, B.frozen (i := 0) (by simp), (B.set 0 v0).at_ (i := 1) rfl, (B.set 0 v0).frozen (i := 1) (by simp), ((B.set 0 v0).set 1 v1).at_ (i := 0) rfl, ((B.set 0 v0).set 1 v1).at_ (i := 1) rfl⟩
def RNext (R : Option (SecV × Nat)) (w : World) (e : Ending) (w' : World) : Prop :=
  match R with
  | none => e = .returned (.tuple #[.agg #[.int .i64 0, .slice none 0 0], .int .i64 0]) ∧ Chg (fun _ => False) w w'
  | some (x, sz) => ∃ A m c, e = .returned (.tuple #[.agg #[.int .i64 x.id, .slice A m c], .int .i64 (sz : Nat)]) ∧ OwnB w' (.slice A m c) x.body ∧ m = x.body.length ∧ Chg (fun _ => False) w w' ∧ ∀ k, Value.ownBlock (.slice A m c) = some k → w.heap.size ≤ k
theorem rnext_no {R : Option (SecV × Nat)} {w w' : World} (h : R = none) (c : Chg (fun _ => False) w w') : RNext R w (.returned (.tuple #[.agg #[.int .i64 0, .slice none 0 0], .int .i64 0])) w' := by
  subst h
  exact ⟨rfl, c⟩
set_option maxRecDepth 20000 in
set_option maxHeartbeats 6400000 in
theorem rnext {A : Option Addr} {n c k : Nat} {l : List Int} {R : Option (SecV × Nat)} {w : World} (hR : Hid (recRd l k = R)) (HN : Hid (n = l.length)) (hn : n ≤ 268435456) (hk : k ≤ 33554432) (hb : Hid (Byt l)) (hr : Hid (Rd w .u8 A l)) :
    Calls Try.prog 67 #[.slice A n c, .int .i64 k] w (RNext R w) := by
  obtain ⟨wa, hwa⟩ : ∃ wa, wa = w.alloc (.cells #[.int .i64 0, .slice none 0 0] 31) := ⟨_, rfl⟩
  obtain ⟨h, hh⟩ : ∃ h, h = w.heap.size := ⟨_, rfl⟩
  have CA : Hid (Chg (fun _ => False) w wa) := by rw [hwa]; exact (Chg.refl _ w).alloc _
  have BA : Hid (Blk wa h 31 [.int .i64 0, .slice none 0 0]) := by rw [hwa, hh]; exact Blk.new _ _ _
  have hll : Hid (l.length ≤ 140737488355328) := by rw [Hid, ← HN.out]; omega
  have ra : Hid (Rd wa .u8 A l) := hr.out.below CA.out.done
  have HH := Lib.hid hh
  have HWA := Lib.hid hwa
  have hge : Hid (¬ h < w.heap.size) := by rw [Hid]; omega
  have FIN : Hid (∀ (W : World) (v0 v1 : Value), Chg (fun _ => False) wa W → Chg (fun _ => False) w ((W.setCell ⟨h, 0, none⟩ v0).setCell ⟨h, 1, none⟩ v1)) := fun W v0 v1 hW =>
    ((CA.out.trans hW (fun _ _ h => h)).setCell (p := ⟨h, 0, none⟩) (fun e => absurd e hge.out) _).setCell (p := ⟨h, 1, none⟩) (fun e => absurd e hge.out) _
  clear hwa hh
  go_enter Try.func67, Try.ntmps67
  go_upto_region 1 with fail
  rw [← HWA.out, ← HH.out]
  go_wp2_with fail
  refine (newReaderF HN hll ra).mono ?_
  rintro e w1 ⟨gR, vR, rfl, r1, r2, r3, r4⟩
  have RD1 := Lib.hid r1
  have GR : Hid (wa.heap.size ≤ gR) := r2
  have VR := Lib.hid r3
  have C1 := Lib.hid r4
  clear r1 r2 r3 r4
  go_wp2_with fail
  refine (takeF gR vR l 0 1 w1 RD1).mono ?_
  rintro e w2 ⟨A2, n2, c2, m2, at2, er2, rfl, k1, k2, k3, k4, k5⟩
  have C2 : Hid (Chg (fun _ => False) wa w2) := C1.out.old k4 (fun i hi => by rw [hi]; exact GR.out)
  have RD2 := Lib.hid k3
  have O2 := Lib.hid k2
  have BX2 := Lib.hid (BA.out.chg C2.out id)
  rcases k5 with ⟨hlt, _⟩ | ⟨_, hsh, rfl, _, _⟩ | ⟨_, hfit, rfl, hm2, hat⟩
  · omega
  · have hnone : Hid (R = none) := by
      rw [Hid, ← hR.out]
      exact recRd_1 (by
        have : l.length = 0 := by omega
        rw [List.eq_nil_of_length_eq_zero this]
        simp)
    obtain ⟨z1, z2, z3, z4, z5, z6⟩ := cell2_store BX2.out (.int .i64 0) (.slice none 0 0)
    clear k1 k2 k3 k4 hsh
    go_wp2_with fail
    exact bodyPost_ret (v := .tuple #[.agg #[.int .i64 0, .slice none 0 0], .int .i64 0]) (by simp [results, Try.results67, go_sem, z5, z6]) rfl (rnext_no hnone.out (FIN.out _ _ _ C2.out))
  · clear k1 k4
    obtain ⟨f0, hf0⟩ : ∃ f0, l[0]? = some f0 := ⟨l[0]'(by omega), List.getElem?_eq_getElem _⟩
    have hm2' : m2 = [f0] := by
      rw [hm2, List.drop_zero]
      rcases l with _ | ⟨a, r⟩
      · simp at hf0
      · simp at hf0
        subst hf0
        rfl
    subst hm2'
    have hat2 : at2 = 1 := by omega
    subst hat2
    obtain ⟨g2, rfl, _⟩ := own_some O2.out.1 (by simp)
    obtain ⟨p1, _⟩ := O2.out.1.cellAt (i := 0) (by simp)
    simp only [List.getElem_cons_zero] at p1
    have HF0 := Lib.hid hf0
    have hn2 : n2 = 1 := by
      obtain ⟨_, _, hv, _⟩ := O2.out.1.slice
      injection hv
    subst hn2
    clear hm2 hat hf0 k2 k3
    by_cases h167 : f0 = 167
    · subst h167
      obtain ⟨x3, s1, er3, hu3⟩ : ∃ x s e, urd (l.drop 1) 18446744073709551615 = (x, s, e) := ⟨_, _, _, rfl⟩
      have HU3 := Lib.hid hu3
      have hlim := urd_lim (L := (k : Int)) (by omega) hu3
      have HLIM := Lib.hid hlim
      clear hu3 hlim
      go_wp2_with fail
      refine (uintF HU3 (show Hid (1 + s1 = 1 + s1) from rfl) hb RD2).mono ?_
      rintro e w3 ⟨rfl, r1, r2⟩
      have RD3 := Lib.hid r1
      have C3 : Hid (Chg (fun _ => False) wa w3) := C2.out.old r2 (fun i hi => by rw [hi]; exact GR.out)
      have BX3 := Lib.hid (BA.out.chg C3.out id)
      clear r1 r2 p1
      by_cases he3 : er3 = 0
      · subst he3
        have hul := HLIM.out.2 rfl
        have ek : IntKind.u64.wrap (k : Int) = (k : Int) := IntWalk.u64_in _ (by omega)
        by_cases hx3 : x3 = (k : Int)
        · subst hx3
          rw [if_neg (by omega)] at hul
          have HU := Lib.hid hul
          have hxx : ((k : Int) != (k : Int)) = false := by simp
          clear hul
          go_wp2_with fail
          refine (takeF gR vR l (1 + s1) 1 w3 RD3).mono ?_
          rintro e w4 ⟨A4, n4, c4, m4, at4, er4, rfl, k1, k2, k3, k4, k5⟩
          have C4 : Hid (Chg (fun _ => False) wa w4) := C3.out.old k4 (fun i hi => by rw [hi]; exact GR.out)
          have RD4 := Lib.hid k3
          have O4 := Lib.hid k2
          have BX4 := Lib.hid (BA.out.chg C4.out id)
          rcases k5 with ⟨hlt, _⟩ | ⟨_, hsh, rfl, _, _⟩ | ⟨_, hfit4, rfl, hm4, hat4⟩
          · omega
          · have hnone : Hid (R = none) := by
              rw [Hid, ← hR.out]
              exact recRd_3 HU.out (.inl (List.getElem?_eq_none (by omega)))
            clear k1 k2 k3 k4 hsh
            obtain ⟨z1, z2, z3, z4, z5, z6⟩ := cell2_store BX4.out (.int .i64 0) (.slice none 0 0)
            go_wp2_with fail
            exact bodyPost_ret (v := .tuple #[.agg #[.int .i64 0, .slice none 0 0], .int .i64 0]) (by simp [results, Try.results67, go_sem, z5, z6]) rfl (rnext_no hnone.out (FIN.out _ _ _ C4.out))
          · obtain ⟨kd, hkd⟩ : ∃ f, l[1 + s1]? = some f := ⟨l[1 + s1]'(by omega), List.getElem?_eq_getElem _⟩
            have hm4' : m4 = [kd] := by
              obtain ⟨hl1, hl2⟩ := List.getElem?_eq_some_iff.1 hkd
              rw [hm4, List.drop_eq_getElem_cons hl1, hl2]
              rfl
            subst hm4'
            have hat4' : at4 = 2 + s1 := by omega
            subst hat4'
            obtain ⟨g4, rfl, _⟩ := own_some O4.out.1 (by simp)
            obtain ⟨p1, _⟩ := O4.out.1.cellAt (i := 0) (by simp)
            simp only [List.getElem_cons_zero] at p1
            have hn4 : n4 = 1 := by
              obtain ⟨_, _, hv, _⟩ := O4.out.1.slice
              injection hv
            subst hn4
            have hkb := hb.out kd (List.mem_of_getElem? hkd)
            have HKD := Lib.hid hkd
            clear hm4 hat4 hkd k1 k2 k3 k4
            by_cases hk0 : kd = 0
            · subst hk0
              have hnone : Hid (R = none) := by
                rw [Hid, ← hR.out]
                exact recRd_3 HU.out (.inr HKD.out)
              obtain ⟨z1, z2, z3, z4, z5, z6⟩ := cell2_store BX4.out (.int .i64 0) (.slice none 0 0)
              go_wp2_with fail
              exact bodyPost_ret (v := .tuple #[.agg #[.int .i64 0, .slice none 0 0], .int .i64 0]) (by simp [results, Try.results67, go_sem, z5, z6]) rfl (rnext_no hnone.out (FIN.out _ _ _ C4.out))
            · have hk0' : (kd == 0) = false := by simp [hk0]
              have HK0 := Lib.hid hk0
              obtain ⟨z5, s2, er5, hu5⟩ : ∃ x s e, urd (l.drop (2 + s1)) 4194304 = (x, s, e) := ⟨_, _, _, rfl⟩
              have HU5 := Lib.hid hu5
              clear hu5 hk0
              go_wp2_with fail
              refine (uintF HU5 (show Hid (2 + s1 + s2 = 2 + s1 + s2) from rfl) hb RD4).mono ?_
              rintro e w5 ⟨rfl, r1, r2⟩
              have RD5 := Lib.hid r1
              have C5 : Hid (Chg (fun _ => False) wa w5) := C4.out.old r2 (fun i hi => by rw [hi]; exact GR.out)
              have O45 := Lib.hid (O4.out.1.chg r2 (fun y hy e => OwnV.type_ne O4.out.1 RD4.out.blk (by decide) (by rw [hy, e])))
              have BX5 := Lib.hid (BA.out.chg C5.out id)
              clear r1 r2 p1
              by_cases he5 : er5 = 0
              · subst he5
                have hzf := urd_form (byt_drop hb.out (2 + s1)) HU5.out
                obtain ⟨hz0, hz4⟩ : 0 ≤ z5 ∧ z5 ≤ 4194304 := ⟨hzf.2.1, hzf.2.2.1⟩
                have ez : IntKind.i64.wrap z5 = z5 := IntWalk.i64_in _ (by omega)
                clear hzf
                go_wp2_with fail
                refine (takeF gR vR l (2 + s1 + s2) z5 w5 RD5).mono ?_
                rintro e w6 ⟨A6, n6, c6, m6, at6, er6, rfl, k1, k2, k3, k4, k5⟩
                have C6 : Hid (Chg (fun _ => False) wa w6) := C5.out.old k4 (fun i hi => by rw [hi]; exact GR.out)
                have RD6 := Lib.hid k3
                have O6 := Lib.hid k2.1
                have F6 : Hid (∀ y, Value.ownBlock (.slice A6 n6 c6) = some y → wa.heap.size ≤ y) := fun y hy => Nat.le_trans C5.out.size (k2.2 y hy)
                have O46 := Lib.hid (O45.out.chg k4 (fun y hy e => OwnV.type_ne O45.out RD5.out.blk (by decide) (by rw [hy, e])))
                have BX6 := Lib.hid (BA.out.chg C6.out id)
                have L6 := Lib.hid k1
                rcases k5 with ⟨hlt, _⟩ | ⟨_, hsh, rfl, _, _⟩ | ⟨_, hfit6, rfl, hm6, hat6⟩
                · omega
                · have hnone : Hid (R = none) := by
                    rw [Hid, ← hR.out]
                    exact recRd_5 HU.out HU5.out (by omega)
                  clear k1 k2 k3 k4 hsh
                  obtain ⟨z1, z2, z3, z4, z5, z6⟩ := cell2_store BX6.out (.int .i64 0) (.slice none 0 0)
                  go_wp2_with fail
                  exact bodyPost_ret (v := .tuple #[.agg #[.int .i64 0, .slice none 0 0], .int .i64 0]) (by simp [results, Try.results67, go_sem, z5, z6]) rfl (rnext_no hnone.out (FIN.out _ _ _ C6.out))
                · have HM6 := Lib.hid hm6
                  subst hat6
                  clear k1 k2 k3 k4 hm6
                  go_wp2_with fail
                  refine (takeF gR vR l (2 + s1 + s2 + z5.toNat) 4 w6 RD6).mono ?_
                  rintro e w7 ⟨A7, n7, c7, m7, at7, er7, rfl, k1, k2, k3, k4, k5⟩
                  have C7 : Hid (Chg (fun _ => False) wa w7) := C6.out.old k4 (fun i hi => by rw [hi]; exact GR.out)
                  have RD7 := Lib.hid k3
                  have O7 := Lib.hid k2.1
                  have O47 := Lib.hid (O46.out.chg k4 (fun y hy e => OwnV.type_ne O46.out RD6.out.blk (by decide) (by rw [hy, e])))
                  have O67 := Lib.hid (O6.out.chg k4 (fun y hy e => OwnV.type_ne O6.out RD6.out.blk (by decide) (by rw [hy, e])))
                  have BX7 := Lib.hid (BA.out.chg C7.out id)
                  rcases k5 with ⟨hlt, _⟩ | ⟨_, hsh, rfl, _, _⟩ | ⟨_, hfit7, rfl, hm7, hat7⟩
                  · omega
                  · have hnone : Hid (R = none) := by
                      rw [Hid, ← hR.out]
                      exact recRd_5 HU.out HU5.out (by omega)
                    clear k1 k2 k3 k4 hsh
                    obtain ⟨z1, z2, z3, z4, z5, z6⟩ := cell2_store BX7.out (.int .i64 0) (.slice none 0 0)
                    go_wp2_with fail
                    exact bodyPost_ret (v := .tuple #[.agg #[.int .i64 0, .slice none 0 0], .int .i64 0]) (by simp [results, Try.results67, go_sem, z5, z6]) rfl (rnext_no hnone.out (FIN.out _ _ _ C7.out))
                  · have hlen : 2 + s1 + s2 + z5.toNat + 4 ≤ l.length := by omega
                    obtain ⟨hd1, hd2, hd3⟩ := rec_head hb.out HF0.out HU.out HKD.out HU5.out (by omega)
                    obtain ⟨x, hx⟩ : ∃ x : SecV, x = ⟨kd, (l.drop (2 + s1 + s2)).take z5.toNat⟩ := ⟨_, rfl⟩
                    have hxb : x.body = m6 := by rw [hx, HM6.out]
                    have hxid : x.id = kd := by rw [hx]
                    rw [← hx] at hd1
                    have hm6l : m6.length = z5.toNat := by rw [HM6.out]; exact hd2
                    have hbm6 : Byt m6 := by rw [HM6.out]; exact byt_take (byt_drop hb.out _) _
                    have hn6 : n6 = x.body.length := by rw [hxb]; exact L6.out
                    have hm7l : m7.length = 4 := by
                      rw [hm7, List.length_take, List.length_drop]
                      show min 4 _ = 4
                      omega
                    have hn7 : n7 = 4 := by rw [k1, hm7l]
                    subst hn7
                    obtain ⟨g7, rfl, _⟩ := own_some O7.out (by omega)
                    obtain ⟨p1, _⟩ := O47.out.cellAt (i := 0) (by simp)
                    simp only [List.getElem_cons_zero] at p1
                    have HX := Lib.hid hx
                    have HXB := Lib.hid hxb
                    have HXI := Lib.hid hxid
                    have HD1 := Lib.hid hd1
                    have HM7 := Lib.hid hm7
                    have HM7L := Lib.hid hm7l
                    have HAT7 := Lib.hid hat7
                    have HN6 := Lib.hid hn6
                    have hn64 : n6 ≤ 4194304 := by rw [hn6, hxb, hm6l]; exact hd3
                    have HBM : Hid (Byt x.body) := by rw [Hid, hxb]; exact hbm6
                    have hkd1 : 0 ≤ x.id := by rw [hxid]; omega
                    have hkd2 : x.id ≤ 255 := by rw [hxid]; omega
                    have O67x : Hid (OwnB w7 (.slice A6 n6 c6) x.body) := by rw [Hid, hxb]; exact O67.out
                    rw [← hxid] at p1
                    have ekd : IntKind.i64.wrap x.id = x.id := IntWalk.i64_in _ (by omega)
                    have HLEN := Lib.hid hlen
                    clear hx hxb hxid hd1 hd2 hd3 hm6l hbm6 hm7 hm7l hn6 hat7 hlen k1 k2 k3 k4 O67
                    go_upto_region 21 with fail
                    obtain ⟨w8, hw8⟩ : ∃ w8, w8 = w7.alloc (.cells #[.int .i64 x.id, .slice A6 n6 c6] 31) := ⟨_, rfl⟩
                    obtain ⟨hv, hhv⟩ : ∃ hv, hv = w7.heap.size := ⟨_, rfl⟩
                    have C78 : Hid (Chg (fun _ => False) w7 w8) := by rw [hw8]; exact (Chg.refl _ w7).alloc _
                    have BV8 : Hid (Blk w8 hv 31 [.int .i64 x.id, .slice A6 n6 c6]) := by rw [hw8, hhv]; exact Blk.new _ _ _
                    have O68 := Lib.hid (O67x.out.chg C78.out (fun _ _ h => h))
                    have R68 : Hid (Rd w8 .u8 A6 x.body) := O68.out.rd (by rw [HN6.out])
                    have q0 := BV8.out.at_ (i := 0) rfl
                    have q1 := BV8.out.at_ (i := 1) rfl
                    rw [← hw8, ← hhv]
                    clear hw8 hhv p1
                    go_wp2_with fail
                    refine (rbytes (x := x) (by omega) HN6 hn64 hkd1 hkd2 HBM R68).mono ?_
                    rintro e w9 ⟨A9, n9, c9, rfl, m9⟩
                    have C79 : Hid (Chg (fun _ => False) w7 w9) := C78.out.trans m9.chg (fun _ _ h => h)
                    have C9 : Hid (Chg (fun _ => False) wa w9) := C7.out.trans C79.out (fun _ _ h => h)
                    have R9 : Hid (Rd w9 .u8 A9 (recEnc k x)) := m9.rd
                    have L9 : Hid (n9 = (recEnc k x).length) := m9.len
                    have O79 := Lib.hid (O7.out.chg C79.out (fun _ _ h => h))
                    have O69 := Lib.hid (O67x.out.chg C79.out (fun _ _ h => h))
                    have BV9 := Lib.hid (BV8.out.chg m9.chg id)
                    have BX9 := Lib.hid (BX7.out.chg C79.out id)
                    have RD9 := Lib.hid (RD7.out.chg C79.out id (fun _ _ h => h))
                    have hn9 : n9 = (recHd k x).length + 4 := by rw [L9.out, recEnc_length]
                    have hn9b : n9 ≤ 4194340 := by
                      have h1 := vb_len10 (n := k) (by omega)
                      have h2 := vb_len10 (n := x.body.length) (by rw [← HN6.out]; omega)
                      rw [hn9, recHd_length, ← HN6.out]
                      rw [← HN6.out] at h2
                      omega
                    obtain ⟨nh, hnh⟩ : ∃ nh, nh = (recHd k x).length := ⟨_, rfl⟩
                    rw [← hnh] at hn9
                    have HNH := Lib.hid hnh
                    have HN9 := Lib.hid hn9
                    have e4 : (n9 : Int) - 4 = (nh : Int) := by omega
                    have e4w : IntKind.i64.wrap ((n9 : Int) - 4) = (nh : Int) := by rw [e4]; exact IntWalk.i64_in _ (by omega)
                    clear m9 q0 q1 hnh hn9
                    go_wp2_with fail
                    go_loopw [16] (fun i wr => ∃ j : Nat, j ≤ 4 ∧ i = .int .i64 j ∧ Hid (m7.take j = (sumB (vi (crc (recHd k x)))).take j) ∧ Hid (Chg (fun _ => False) w9 wr)) (fun i _ => 4 - (intOf i).toNat)
                    case atStart => exact ⟨0, by omega, rfl, rfl, Chg.refl _ _⟩
                    case round =>
                      obtain ⟨j, hj, rfl, hmj, hc⟩ := hrel
                      have BXr := Lib.hid (BX9.out.chg hc.out id)
                      have C9r : Hid (Chg (fun _ => False) wa wr) := C9.out.trans hc.out (fun _ _ h => h)
                      by_cases hlt : j < 4
                      · have hj7 : j < m7.length := by rw [HM7L.out]; exact hlt
                        obtain ⟨pa, _⟩ := (O79.out.chg hc.out (fun _ _ h => h)).cellAt hj7
                        have hjs : j < (sumB (vi (crc (recHd k x)))).length := hlt
                        have hjr : nh + j < (recEnc k x).length := by rw [← L9.out, HN9.out]; omega
                        obtain ⟨ad9, ha9, pb⟩ := (R9.out.below hc.out.done) (nh + j) hjr
                        subst ha9
                        have hgb : (recEnc k x)[nh + j] = (sumB (vi (crc (recHd k x))))[j] := by
                          simp only [recEnc]
                          rw [List.getElem_append_right (by rw [HNH.out]; omega)]
                          congr 1
                          rw [HNH.out]
                          omega
                        rw [hgb] at pb
                        obtain ⟨a, ha⟩ : ∃ a, a = m7[j] := ⟨_, rfl⟩
                        obtain ⟨b, hbb⟩ : ∃ b, b = (sumB (vi (crc (recHd k x))))[j] := ⟨_, rfl⟩
                        rw [← ha] at pa
                        rw [← hbb] at pb
                        have HA := Lib.hid ha
                        have HB := Lib.hid hbb
                        obtain ⟨U, hU⟩ : ∃ U, U = nh + j := ⟨_, rfl⟩
                        rw [← hU] at pb
                        have e5w : IntKind.i64.wrap ((nh : Int) + (j : Int)) = (U : Int) := by rw [show (nh : Int) + (j : Int) = (U : Int) by omega]; exact IntWalk.i64_in _ (by omega)
                        have y1 : (0 : Int) ≤ (U : Int) := by omega
                        have y2 : (U : Int) < (n9 : Int) := by have := HN9.out; omega
                        have y3 : (j : Int) < 4 := by omega
                        have y4 : (0 : Int) ≤ (j : Int) := by omega
                        clear ha hbb hgb hjr hU e4
                        by_cases hab : a = b
                        · have hab2 : (a != b) = false := by simp [hab]
                          have HAB := Lib.hid hab
                          clear hab
                          go_wp2_with fail
                          go_quiet (fail)
                          go_wp2_with fail
                          go_roundw
                          case rel => exact ⟨j + 1, by omega, by go_num, take_next hmj.out hj7 hjs (by rw [← HA.out, ← HB.out, HAB.out]), hc.out.drewN _⟩
                          case measure => simp [intOf]; omega
                        · have hab2 : (a != b) = true := by simp [hab]
                          have hnone : Hid (R = none) := by
                            rw [Hid, ← hR.out]
                            refine recRd_6 HU.out HU5.out (fun e => hab ?_)
                            rw [HD1.out] at e
                            have e2 : m7 = sumB (vi (crc (recHd k x))) := by rw [HM7.out]; exact e
                            rw [HA.out, HB.out]
                            simp only [e2]
                          clear hab
                          go_wp2_with fail
                          go_quiet (fail)
                          obtain ⟨wz, hwz⟩ : ∃ wz, wz = wr.drewN nq := ⟨_, rfl⟩
                          have Cz : Hid (Chg (fun _ => False) wa wz) := by rw [hwz]; exact C9r.out.drewN nq
                          have BXz : Hid (Blk wz h 31 [.int .i64 0, .slice none 0 0]) := by rw [hwz]; exact BXr.out.drewN nq
                          rw [← hwz]
                          clear hwz
                          obtain ⟨z1, z2, z3, z4, z5, z6⟩ := cell2_store BXz.out (.int .i64 0) (.slice none 0 0)
                          go_wp2_with fail
                          exact bodyPost_ret (v := .tuple #[.agg #[.int .i64 0, .slice none 0 0], .int .i64 0]) (by simp [results, Try.results67, go_sem, z5, z6]) rfl (rnext_no hnone.out (FIN.out _ _ _ Cz.out))
                      · obtain rfl : j = 4 := by omega
                        have hm7s : m7 = sumB (vi (crc (recHd k x))) := by
                          have := hmj.out
                          rw [List.take_of_length_le (by rw [HM7L.out]; exact Nat.le_refl _), List.take_of_length_le (by rw [sumB_length]; exact Nat.le_refl _)] at this
                          exact this
                        have hsome : Hid (R = some (x, at7)) := by
                          have := recRd_ok HF0.out HU.out HKD.out HK0.out HU5.out (by have := HLEN.out; omega) (by
                            rw [HD1.out, ← hm7s, HM7.out]
                            rfl)
                          rw [Hid, ← hR.out, this, HX.out, HAT7.out]
                          rfl
                        have O6r := Lib.hid (O69.out.chg hc.out (fun _ _ h => h))
                        have BVr := Lib.hid (BV9.out.chg hc.out id)
                        have RDr := Lib.hid (RD9.out.chg hc.out id (fun _ _ h => h))
                        have q0 := BVr.out.at_ (i := 0) rfl
                        have q1 := BVr.out.at_ (i := 1) rfl
                        clear hm7s e4 e4w
                        obtain ⟨z1, z2, z3, z4, z5', z6⟩ := cell2_store BXr.out (.int .i64 x.id) (.slice A6 n6 c6)
                        go_wp2_with fail
                        go_region_with (go_at_call 81; (with_reducible refine (placeF gR vR l at7 _ (Lib.hid (RDr.out.chg (by repeat (first | exact Chg.refl _ _ | refine Chg.drew ?_ | refine Chg.drewN ?_ _)) id (fun _ _ h => h)))).mono ?_); rintro e w11 ⟨rfl, rfl⟩)
                        all_goals
                          go_wp2_with fail
                          refine bodyPost_ret (v := .tuple #[.agg #[.int .i64 x.id, .slice A6 n6 c6], .int .i64 (at7 : Nat)]) (by simp [results, Try.results67, go_sem, z5', z6]) rfl ?_
                          rw [hsome.out]
                          exact ⟨A6, n6, c6, rfl, (O6r.out.chg (S := fun y => y = h) (((Chg.refl (fun y => y = h) wr).setCell (p := ⟨h, 0, none⟩) (fun _ => rfl) _).setCell (p := ⟨h, 1, none⟩) (fun _ => rfl) _) (fun y hy e => OwnV.type_ne O6r.out BXr.out (by decide) (by rw [hy, e]))).drew, HN6.out, (FIN.out _ _ _ C9r.out).drew, fun y hy => Nat.le_trans CA.out.size (F6.out y hy)⟩
              · have hnone : Hid (R = none) := by
                  rw [Hid, ← hR.out]
                  exact recRd_4 HU.out HU5.out he5
                have hne5 : (er5 != 0) = true := by simp [he5]
                clear he5
                obtain ⟨z1, z2, z3, z4, z5, z6⟩ := cell2_store BX5.out (.int .i64 0) (.slice none 0 0)
                go_wp2_with fail
                exact bodyPost_ret (v := .tuple #[.agg #[.int .i64 0, .slice none 0 0], .int .i64 0]) (by simp [results, Try.results67, go_sem, z5, z6]) rfl (rnext_no hnone.out (FIN.out _ _ _ C5.out))
        · have hnone : Hid (R = none) := by
            rw [Hid, ← hR.out]
            by_cases hgt : x3 > (k : Int)
            · rw [if_pos hgt] at hul
              exact recRd_2 hul (.inl (by decide))
            · rw [if_neg hgt] at hul
              exact recRd_2 hul (.inr hx3)
          have hxx : (x3 != (k : Int)) = true := by simp [hx3]
          clear hul hx3
          obtain ⟨z1, z2, z3, z4, z5, z6⟩ := cell2_store BX3.out (.int .i64 0) (.slice none 0 0)
          go_wp2_with fail
          exact bodyPost_ret (v := .tuple #[.agg #[.int .i64 0, .slice none 0 0], .int .i64 0]) (by simp [results, Try.results67, go_sem, z5, z6]) rfl (rnext_no hnone.out (FIN.out _ _ _ C3.out))
      · have hnone : Hid (R = none) := by
          rw [Hid, ← hR.out]
          exact recRd_2 (x := (urd (l.drop 1) k).1) (k := (urd (l.drop 1) k).2.1) (e := (urd (l.drop 1) k).2.2) rfl (.inl (HLIM.out.1 he3))
        have hne3 : (er3 != 0) = true := by simp [he3]
        clear he3
        obtain ⟨z1, z2, z3, z4, z5, z6⟩ := cell2_store BX3.out (.int .i64 0) (.slice none 0 0)
        go_wp2_with fail
        exact bodyPost_ret (v := .tuple #[.agg #[.int .i64 0, .slice none 0 0], .int .i64 0]) (by simp [results, Try.results67, go_sem, z5, z6]) rfl (rnext_no hnone.out (FIN.out _ _ _ C3.out))
    · have hnone : Hid (R = none) := by
        rw [Hid, ← hR.out]
        exact recRd_1 (by
          rw [HF0.out]
          intro e
          injection e with e
          exact h167 e)
      have hne : (f0 != 167) = true := by simp [h167]
      clear h167
      obtain ⟨z1, z2, z3, z4, z5, z6⟩ := cell2_store BX2.out (.int .i64 0) (.slice none 0 0)
      go_wp2_with fail
      exact bodyPost_ret (v := .tuple #[.agg #[.int .i64 0, .slice none 0 0], .int .i64 0]) (by simp [results, Try.results67, go_sem, z5, z6]) rfl (rnext_no hnone.out (FIN.out _ _ _ C2.out))
end Go.Proofs.Ytlnomadhgoblkaa.Kit

/- The document's journal: Open. -/
set_option linter.unusedVariables false
set_option linter.unusedSimpArgs false
namespace Go.Proofs.Ytlnomadhgoblkaa.Kit
open Go.RowKit
def RROpen (w : World) (R : Option (List SecV) × Nat × Int) (e : Ending) (w' : World) : Prop :=
  match R with
  | (none, m, er) => e = .returned (.tuple #[.pointer none, .int .i64 m, .int .i64 er]) ∧ Chg (fun _ => False) w w'
  | (some ls, m, er) => ∃ g D, e = .returned (.tuple #[.pointer (some ⟨g, 0, none⟩), .int .i64 m, .int .i64 er]) ∧ RJ w' D g ls ∧ (∀ y, D y → w.heap.size ≤ y) ∧ w.heap.size ≤ g ∧ Chg (fun _ => False) w w'
/-- the records read so far -/
structure ROpL (w0 w : World) (gj : Nat) (l : List Int) (f p : Nat) (ls : List SecV) (D : Nat → Prop) : Prop where
  rj : RJ w D gj ls
  size : (jnlBytes ls).length = p
  eq : jnlRd l l.length [] 8 = jnlRd l f ls p
  fuel : l.length + 8 ≤ f + p
  le : p ≤ l.length
  new : ∀ y, D y → w0.heap.size ≤ y
  chg : Chg (fun _ => False) w0 w
set_option maxRecDepth 20000 in
set_option maxHeartbeats 6400000 in
theorem ropen {A : Option Addr} {n c : Nat} {l : List Int} {R : Option (List SecV) × Nat × Int} {w : World} (hR : Hid (jopenRes l = R)) (HN : Hid (n = l.length)) (hnc : n ≤ c) (hcm : c ≤ maxLen) (hb : Hid (Byt l)) (hr : Hid (Rd w .u8 A l)) :
    Calls Try.prog 52 #[.slice A n c] w (RROpen w R) := by
  by_cases h0 : 268435456 < n
  · have hE : Hid (R = (none, 0, 6)) := by rw [Hid, ← hR.out, jopenRes, if_pos (by rw [← HN.out]; exact h0)]
    go_enter Try.func52, Try.ntmps52
    go_wp2_with fail
    go_ret3
    rw [hE.out]
    exact ⟨rfl, Chg.refl _ _⟩
  · have h0i : ¬ (268435456 : Int) < (n : Int) := by omega
    go_enter Try.func52, Try.ntmps52
    have hidx : Hid (∀ (k : Nat) (z : Int), jhead[k]? = some z → ∀ h, ((({ data := #[80, 65, 89, 74, 82, 78, 76, 49] } : ByteArray)[k]'h).toNat : Int) = z) := by
      intro k z hz h
      have hk : k < 8 := h
      have hcas : k = 0 ∨ k = 1 ∨ k = 2 ∨ k = 3 ∨ k = 4 ∨ k = 5 ∨ k = 6 ∨ k = 7 := by omega
      rcases hcas with rfl | rfl | rfl | rfl | rfl | rfl | rfl | rfl <;> (simp only [jhead, List.getElem?_cons_zero, List.getElem?_cons_succ, Option.some.injEq] at hz; subst hz; rfl)
    go_wp2_with fail
    go_loopw [5] (fun i wr => ∃ k : Nat, k ≤ 8 ∧ k ≤ n ∧ i = .int .i64 k ∧ Hid (l.take k = jhead.take k) ∧ Hid (Chg (fun _ => False) w wr)) (fun i _ => 8 - (intOf i).toNat)
    case atStart => exact ⟨0, by omega, Nat.zero_le _, rfl, rfl, Chg.refl _ _⟩
    case round =>
      obtain ⟨k, hk8, hkn, rfl, ht, hc⟩ := hrel
      by_cases hlt8 : k < 8
      · have hlt8i : (k : Int) < 8 := by omega
        by_cases hkn2 : k = n
        · have hE : Hid (R = (some [], 0, 0)) := by
            rw [Hid, ← hR.out, jopenRes, if_neg (by rw [← HN.out]; exact h0), if_neg, if_pos (by rw [← HN.out]; omega)]
            rw [List.take_of_length_le (l := l) (by rw [← HN.out]; omega), ← HN.out, ← hkn2, ← ht.out, List.take_of_length_le (by rw [← HN.out]; omega)]
            simp
          subst hkn2
          go_wp2_with fail
          refine (rnew _).mono ?_
          rintro e w2 ⟨g, rfl, k1, k2, k3⟩
          have K1 := Lib.hid k1
          have K2 : Hid (wr.heap.size ≤ g) := k2
          have C2 : Hid (Chg (fun _ => False) w w2) := hc.out.trans k3 (fun _ _ h => h)
          clear k1 k2 k3
          go_wp2_with fail
          go_ret3
          rw [hE.out]
          exact ⟨g, _, rfl, K1.out, fun _ h => h.elim, Nat.le_trans hc.out.size K2.out, C2.out⟩
        · have hlt : k < n := by omega
          have hne : ((k : Int) == (n : Int)) = false := by
            rw [beq_eq_false_iff_ne]
            omega
          have hkl : k < l.length := by rw [← HN.out]; exact hlt
          obtain ⟨adb, hA, hcb⟩ := (hr.out.below hc.out.done) k hkl
          subst hA
          obtain ⟨y, hy⟩ : ∃ y, y = l[k] := ⟨_, rfl⟩
          rw [← hy] at hcb
          have HY : Hid (l[k]? = some y) := by rw [Hid, hy, List.getElem?_eq_getElem]
          obtain ⟨z, hz⟩ : ∃ z, jhead[k]? = some z := ⟨jhead[k]'(by rw [jhead_length]; exact hlt8), List.getElem?_eq_getElem _⟩
          have HZ := Lib.hid hz
          have hix := hidx.out k z hz
          have q2 : (0 : Int) ≤ (k : Int) := by omega
          have q3 : (k : Int) < (n : Int) := by omega
          clear hz hy hkn2
          by_cases hyz : y = z
          · have HYZ := Lib.hid hyz
            have hyz2 : (y != z) = false := by simp [hyz]
            have hlast : Hid (l.take (k + 1) = jhead.take (k + 1)) := by
              have h1 : k < jhead.length := hlt8
              refine take_next ht.out hkl h1 ?_
              have e1 := HY.out
              have e2 := HZ.out
              rw [List.getElem?_eq_getElem hkl] at e1
              rw [List.getElem?_eq_getElem h1] at e2
              injection e1 with e1
              injection e2 with e2
              rw [e1, e2, hyz]
            clear hyz
            go_wp2_with fail
            go_quiet (fail)
            go_wp2_with fail
            go_roundw
            case rel => exact ⟨k + 1, by omega, by omega, by go_num, hlast, hc.out.drewN _⟩
            case measure => simp [intOf]; omega
          · have hyz2 : (y != z) = true := by simp [hyz]
            have hE : Hid (R = (none, 0, 43)) := by
              rw [Hid, ← hR.out]
              refine open_magic (k := k) (by rw [← HN.out]; omega) hkl hlt8 ?_
              rw [HY.out, HZ.out]
              intro e
              injection e with e
              exact hyz e
            clear hyz
            go_wp2_with fail
            go_quiet (fail)
            go_wp2_with fail
            go_ret3
            rw [hE.out]
            exact ⟨rfl, hc.out.drewN _⟩
      · obtain rfl : k = 8 := by omega
        have hX : l = jhead ++ l.drop 8 := by
          have h1 := ht.out
          rw [List.take_of_length_le (l := jhead) (by rw [jhead_length]; exact Nat.le_refl _)] at h1
          conv => lhs; rw [← List.take_append_drop 8 l, h1]
        have hE : Hid (R = (some (jnlRd l l.length [] 8).1, (jnlRd l l.length [] 8).2, 0)) := by
          rw [Hid, ← hR.out]
          exact open_head hX (by rw [← HN.out]; omega)
        clear hX
        go_wp2_with fail
        refine (rnew _).mono ?_
        rintro e w2 ⟨gj, rfl, k1, k2, k3⟩
        have K1 := Lib.hid k1
        have G2 : Hid (w.heap.size ≤ gj) := Nat.le_trans hc.out.size k2
        have C2 : Hid (Chg (fun _ => False) w w2) := hc.out.trans k3 (fun _ _ h => h)
        clear k1 k2 k3
        go_wp2_with fail
        go_loopg [] n (fun f wq => ∃ p ls D, p ≤ n ∧ Hid (ROpL w wq gj l f p ls D))
        case atStart => exact ⟨8, [], _, hkn, ⟨K1.out, rfl, by rw [HN.out], by rw [HN.out]; exact Nat.le_refl _, by rw [← HN.out]; exact hkn, fun _ h => h.elim, C2.out⟩⟩
        case round =>
          obtain ⟨p, ls, D, hpn, hq⟩ := hrel
          obtain ⟨vR, bs, hbk, hv, d2, d4⟩ := hq.out.rj.ex
          obtain ⟨AR, cR, hRv, hcR, _⟩ := hv.row.slice
          obtain ⟨nl, hnl⟩ : ∃ nl, nl = ls.length := ⟨_, rfl⟩
          rw [← hnl] at hRv
          subst hRv
          rw [hq.out.size] at hbk
          have hnlb : nl ≤ 33554432 := by
            have h1 := jnlBytes_len ls
            have h2 := hq.out.size
            omega
          have BK := Lib.hid hbk
          have HV := Lib.hid hv
          have HD2 := Lib.hid d2
          have HD4 := Lib.hid d4
          have HNL := Lib.hid hnl
          have t0 := hbk.at_ (i := 0) rfl
          have t1 := hbk.at_ (i := 1) rfl
          have TA : Hid (∀ W, Chg (fun _ => False) wr W → W.cell? ⟨gj, 0, none⟩ = some (.slice AR nl cR) ∧ W.cell? ⟨gj, 1, none⟩ = some (.int .i64 (p : Nat))) := fun W hW => ⟨hW.cell id t0, hW.cell id t1⟩
          obtain ⟨ad, hA⟩ : ∃ ad, A = some ad := by
            obtain ⟨ad, e, _⟩ := hr.out 0 (by rw [← HN.out]; omega)
            exact ⟨ad, e⟩
          subst hA
          have RL : Hid (∀ W, Chg (fun _ => False) wr W → Hid (Rd W .u8 (some (ad.add p)) (l.drop p))) := fun W hW => (hr.out.below (hq.out.chg.trans hW (fun _ _ h => h)).done).drop rfl p
          obtain ⟨RN, hRN⟩ : ∃ RN, recRd (l.drop p) nl = RN := ⟨_, rfl⟩
          have HRN := Lib.hid hRN
          have hbD : Hid (Byt (l.drop p)) := byt_drop hb.out p
          have q0 : (0 : Int) ≤ (p : Int) := by omega
          have q1 : (p : Int) ≤ (n : Int) := by omega
          have HLD : Hid (n - p = (l.drop p).length) := by rw [Hid, List.length_drop, ← HN.out]
          clear hbk hv d2 d4 hnl hRN hcR
          go_upto_region 11 with fail
          go_cut [7, 8] from 29 to 43 (fun rp nn wx => ∃ hx : Nat, rp = .pointer (some ⟨hx, 0, none⟩) ∧ Hid (Chg (fun _ => False) wr wx) ∧ ((Hid (RN = none) ∧ nn = .int .i64 0) ∨ ∃ (x : SecV) (sz : Nat) (A7 : Option Addr) (m c7 : Nat), Hid (RN = some (x, sz)) ∧ nn = .int .i64 sz ∧ Hid (Blk wx hx 31 [.int .i64 x.id, .slice A7 m c7]) ∧ Hid (OwnB wx (.slice A7 m c7) x.body) ∧ Hid (m = x.body.length) ∧ Hid (∀ y, Value.ownBlock (.slice A7 m c7) = some y → wr.heap.size ≤ y)))
          case first =>
            by_cases hcp : c = p
            · have hnp : n - p = 0 := by omega
              have hdn : l.drop p = [] := List.drop_of_length_le (by rw [← HN.out]; omega)
              have hRN0 : RN = none := by
                rw [← HRN.out, hdn]
                exact recRd_nil _
              subst hRN0
              have RL0 : Hid (∀ W, Chg (fun _ => False) wr W → Hid (Rd W .u8 (some ad) (l.drop p))) := fun W _ => by
                rw [hdn]
                exact Rd.nil _ _ _
              have HLD0 : Hid (0 = (l.drop p).length) := by rw [hdn]; rfl
              clear hdn
              have hcp2 := hcp.symm
              subst hcp2
              go_region_held3 (fun w' => w'.cell? ⟨gj, 0, none⟩ = some (.slice AR nl cR) ∧ w'.cell? ⟨gj, 1, none⟩ = some (.int .i64 (p : Nat))) (exact TA.out _ (by repeat (first | exact C5.out | exact Chg.refl _ _ | refine Chg.drew ?_ | refine Chg.drewN ?_ _ | refine Chg.alloc ?_ _ | refine Chg.setCell ?_ (fun e => absurd e (Nat.lt_irrefl _)) _))) (first | (go_at_call 67; (with_reducible refine (rnext HRN HLD0 (by omega) (by omega) hbD (RL0.out _ (by repeat (first | exact Chg.refl _ _ | refine Chg.drew ?_ | refine Chg.drewN ?_ _ | refine Chg.alloc ?_ _)))).mono ?_); rintro e w5 ⟨rfl, k1⟩; have C5 : Hid (Chg (fun _ => False) wr w5) := (show Chg (fun _ => False) wr _ from by repeat (first | exact Chg.refl _ _ | refine Chg.drew ?_ | refine Chg.drewN ?_ _ | refine Chg.alloc ?_ _)).trans k1 (fun _ _ h => h); (try (have BB : Hid (Blk w5 wr.heap.size 31 [.int .i64 0, .slice none 0 0]) := Blk.chg (by first | exact (Blk.new wr #[.int .i64 0, .slice none 0 0] 31) | exact (Blk.new wr #[.int .i64 0, .slice none 0 0] 31).drew | exact (Blk.new wr #[.int .i64 0, .slice none 0 0] 31).drew.drew | exact (Blk.new wr.drew #[.int .i64 0, .slice none 0 0] 31) | exact (Blk.new wr.drew #[.int .i64 0, .slice none 0 0] 31).drew | exact (Blk.new wr.drew #[.int .i64 0, .slice none 0 0] 31).drew.drew | exact (Blk.new wr.drew.drew #[.int .i64 0, .slice none 0 0] 31) | exact (Blk.new wr.drew.drew #[.int .i64 0, .slice none 0 0] 31).drew | exact (Blk.new wr.drew.drew #[.int .i64 0, .slice none 0 0] 31).drew.drew) k1 id; obtain ⟨z1, z2, z3, z4, z5, z6⟩ := cell2_store BB.out (.int .i64 0) (.slice none 0 0))); clear k1))
              all_goals
                go_wp2_with fail
                go_meet
                case rel =>
                  first
                  | exact ⟨_, rfl, by repeat (first | exact C5.out | exact Chg.refl _ _ | refine Chg.drew ?_ | refine Chg.drewN ?_ _ | refine Chg.alloc ?_ _ | refine Chg.setCell ?_ (fun e => absurd e (Nat.lt_irrefl _)) _), .inl ⟨(by first | exact rfl | exact True.intro), rfl⟩⟩
                  | exact ⟨_, rfl, by repeat (first | exact C5.out | exact Chg.refl _ _ | refine Chg.drew ?_ | refine Chg.drewN ?_ _ | refine Chg.alloc ?_ _ | refine Chg.setCell ?_ (fun e => absurd e (Nat.lt_irrefl _)) _), .inl ⟨(by first | exact rfl | exact True.intro), rfl⟩⟩
            · have hcp2 : ¬ (c : Int) = (p : Int) := by omega
              rcases RN with _ | ⟨x, sz⟩
              · go_region_held3 (fun w' => w'.cell? ⟨gj, 0, none⟩ = some (.slice AR nl cR) ∧ w'.cell? ⟨gj, 1, none⟩ = some (.int .i64 (p : Nat))) (exact TA.out _ (by repeat (first | exact C5.out | exact Chg.refl _ _ | refine Chg.drew ?_ | refine Chg.drewN ?_ _ | refine Chg.alloc ?_ _ | refine Chg.setCell ?_ (fun e => absurd e (Nat.lt_irrefl _)) _))) (first | (go_at_call 67; (with_reducible refine (rnext HRN HLD (by omega) (by omega) hbD (RL.out _ (by repeat (first | exact Chg.refl _ _ | refine Chg.drew ?_ | refine Chg.drewN ?_ _ | refine Chg.alloc ?_ _)))).mono ?_); rintro e w5 ⟨rfl, k1⟩; have C5 : Hid (Chg (fun _ => False) wr w5) := (show Chg (fun _ => False) wr _ from by repeat (first | exact Chg.refl _ _ | refine Chg.drew ?_ | refine Chg.drewN ?_ _ | refine Chg.alloc ?_ _)).trans k1 (fun _ _ h => h); (try (have BB : Hid (Blk w5 wr.heap.size 31 [.int .i64 0, .slice none 0 0]) := Blk.chg (by first | exact (Blk.new wr #[.int .i64 0, .slice none 0 0] 31) | exact (Blk.new wr #[.int .i64 0, .slice none 0 0] 31).drew | exact (Blk.new wr #[.int .i64 0, .slice none 0 0] 31).drew.drew | exact (Blk.new wr.drew #[.int .i64 0, .slice none 0 0] 31) | exact (Blk.new wr.drew #[.int .i64 0, .slice none 0 0] 31).drew | exact (Blk.new wr.drew #[.int .i64 0, .slice none 0 0] 31).drew.drew | exact (Blk.new wr.drew.drew #[.int .i64 0, .slice none 0 0] 31) | exact (Blk.new wr.drew.drew #[.int .i64 0, .slice none 0 0] 31).drew | exact (Blk.new wr.drew.drew #[.int .i64 0, .slice none 0 0] 31).drew.drew) k1 id; obtain ⟨z1, z2, z3, z4, z5, z6⟩ := cell2_store BB.out (.int .i64 0) (.slice none 0 0))); clear k1))
                all_goals
                  go_wp2_with fail
                  go_meet
                  case rel =>
                    first
                    | exact ⟨_, rfl, by repeat (first | exact C5.out | exact Chg.refl _ _ | refine Chg.drew ?_ | refine Chg.drewN ?_ _ | refine Chg.alloc ?_ _ | refine Chg.setCell ?_ (fun e => absurd e (Nat.lt_irrefl _)) _), .inl ⟨(by first | exact rfl | exact True.intro), rfl⟩⟩
                    | exact ⟨_, rfl, by repeat (first | exact C5.out | exact Chg.refl _ _ | refine Chg.drew ?_ | refine Chg.drewN ?_ _ | refine Chg.alloc ?_ _ | refine Chg.setCell ?_ (fun e => absurd e (Nat.lt_irrefl _)) _), .inl ⟨(by first | exact rfl | exact True.intro), rfl⟩⟩
              · go_region_held3 (fun w' => w'.cell? ⟨gj, 0, none⟩ = some (.slice AR nl cR) ∧ w'.cell? ⟨gj, 1, none⟩ = some (.int .i64 (p : Nat))) (exact TA.out _ (by repeat (first | exact C5.out | exact Chg.refl _ _ | refine Chg.drew ?_ | refine Chg.drewN ?_ _ | refine Chg.alloc ?_ _ | refine Chg.setCell ?_ (fun e => absurd e (Nat.lt_irrefl _)) _))) (first | (go_at_call 67; (with_reducible refine (rnext HRN HLD (by omega) (by omega) hbD (RL.out _ (by repeat (first | exact Chg.refl _ _ | refine Chg.drew ?_ | refine Chg.drewN ?_ _ | refine Chg.alloc ?_ _)))).mono ?_); rintro e w5 ⟨A7, m7, c7, rfl, o7, l7, k1, k2⟩; have C5 : Hid (Chg (fun _ => False) wr w5) := (show Chg (fun _ => False) wr _ from by repeat (first | exact Chg.refl _ _ | refine Chg.drew ?_ | refine Chg.drewN ?_ _ | refine Chg.alloc ?_ _)).trans k1 (fun _ _ h => h); (try (have BB : Hid (Blk w5 wr.heap.size 31 [.int .i64 0, .slice none 0 0]) := Blk.chg (by first | exact (Blk.new wr #[.int .i64 0, .slice none 0 0] 31) | exact (Blk.new wr #[.int .i64 0, .slice none 0 0] 31).drew | exact (Blk.new wr #[.int .i64 0, .slice none 0 0] 31).drew.drew | exact (Blk.new wr.drew #[.int .i64 0, .slice none 0 0] 31) | exact (Blk.new wr.drew #[.int .i64 0, .slice none 0 0] 31).drew | exact (Blk.new wr.drew #[.int .i64 0, .slice none 0 0] 31).drew.drew | exact (Blk.new wr.drew.drew #[.int .i64 0, .slice none 0 0] 31) | exact (Blk.new wr.drew.drew #[.int .i64 0, .slice none 0 0] 31).drew | exact (Blk.new wr.drew.drew #[.int .i64 0, .slice none 0 0] 31).drew.drew) k1 id; obtain ⟨z1, z2, z3, z4, z5, z6⟩ := cell2_store BB.out (.int .i64 x.id) (.slice A7 m7 c7))); have O7 := Lib.hid o7; have L7 := Lib.hid l7; have F7 : Hid (∀ y, Value.ownBlock (.slice A7 m7 c7) = some y → wr.heap.size ≤ y) := (fun y hy => Nat.le_trans (by simp) (k2 y hy)); clear o7 l7 k1 k2))
                all_goals
                  go_wp2_with fail
                  go_meet
                  case rel =>
                    first
                    | exact ⟨_, rfl, by repeat (first | exact C5.out | exact Chg.refl _ _ | refine Chg.drew ?_ | refine Chg.drewN ?_ _ | refine Chg.alloc ?_ _ | refine Chg.setCell ?_ (fun e => absurd e (Nat.lt_irrefl _)) _), .inr ⟨x, sz, A7, m7, c7, (by first | exact rfl | exact True.intro), rfl, (Blk.new w5 #[.int .i64 x.id, .slice A7 m7 c7] 31), O7.out.alloc _, L7.out, F7.out⟩⟩
                    | exact ⟨_, rfl, by repeat (first | exact C5.out | exact Chg.refl _ _ | refine Chg.drew ?_ | refine Chg.drewN ?_ _ | refine Chg.alloc ?_ _ | refine Chg.setCell ?_ (fun e => absurd e (Nat.lt_irrefl _)) _), .inr ⟨x, sz, A7, m7, c7, (by first | exact rfl | exact True.intro), rfl, (BB.out.set 0 _).set 1 _, O7.out.chg (S := fun y => y = wr.heap.size) (((Chg.refl (fun y => y = wr.heap.size) w5).setCell (p := ⟨wr.heap.size, 0, none⟩) (fun _ => rfl) _).setCell (p := ⟨wr.heap.size, 1, none⟩) (fun _ => rfl) _) (fun y hy e => OwnV.type_ne O7.out BB.out (by decide) (by rw [hy, e])), L7.out, F7.out⟩⟩
          case rest =>
            obtain ⟨hx, rfl, CX, hres⟩ := hcut
            have BG := Lib.hid (BK.out.chg CX.out id)
            have VG := Lib.hid (HV.out.chg CX.out (fun _ _ h => h) (fun _ _ _ _ h => h))
            have Cw : Hid (Chg (fun _ => False) w wc) := hq.out.chg.trans CX.out (fun _ _ h => h)
            obtain ⟨g0c, g1c⟩ := TA.out wc CX.out
            clear t0 t1
            rcases hres with ⟨hnone, rfl⟩ | ⟨x, sz, A7, m, c7, hsome, rfl, BX, OX, LX, FX⟩
            · have hend : Hid (jnlRd l l.length [] 8 = (ls, p)) := by
                rw [Hid, hq.out.eq]
                exact jnlRd_stop (by rw [← HNL.out, HRN.out]; exact hnone.out)
              have hE2 : Hid (R = (some ls, p, 0)) := by rw [Hid, hE.out, hend.out]
              have RJ2 : Hid (RJ wc D gj ls) := hq.out.rj.chg0 CX.out
              have q5 : Hid (∀ q, (wc.drewN q).cell? ⟨gj, 1, none⟩ = some (.int .i64 (p : Nat))) := fun q => g1c
              go_wp2_with fail
              go_quiet (fail)
              go_wp2_with fail
              go_ret3
              rw [hE2.out]
              exact ⟨gj, D, rfl, RJ2.out.chg0 ((Chg.refl _ wc).drewN _), hq.out.new, G2.out, Cw.out.drewN _⟩
            · obtain ⟨x1, x2, x3, x4⟩ := recRd_form hbD.out (show recRd (l.drop p) nl = some (x, sz) by rw [HRN.out]; exact hsome.out)
              rw [List.length_drop] at x4
              have hsz8 : 8 ≤ sz := by
                have h1 := recEnc_length nl x
                have h2 := recHd_length nl x
                have h3 := vb_pos nl
                have h4 := vb_pos x.body.length
                omega
              have hs0 : ((sz : Int) == 0) = false := by
                rw [beq_eq_false_iff_ne]
                omega
              have hpl := hq.out.le
              have hfu := hq.out.fuel
              have hpsz : p + sz ≤ l.length := by omega
              have HG := Lib.hid x1
              have HS8 := Lib.hid hsz8
              have HSZ := Lib.hid x2
              have HPS := Lib.hid hpsz
              have HFU : Hid (1 ≤ gk) := by rw [Hid]; omega
              have hpsb : p + sz ≤ 268435456 := by rw [← HN.out] at hpsz; omega
              have rowT := VG.out.row
              rw [← HNL.out] at rowT
              have HRT := Lib.hid rowT
              have hgR : Hid (∀ y, Value.ownBlock (.slice AR nl cR) = some y → y ≠ gj) := fun y hy e => OwnV.type_ne HRT.out BG.out (by decide) (by rw [hy, e])
              have d2 := BX.out.at_ (i := 0) rfl
              have d3 := BX.out.at_ (i := 1) rfl
              have d1a : (wc.alloc (.cells #[.int .i64 x.id, .slice A7 m c7] 31)).drew.cell? ⟨gj, 0, none⟩ = some (.slice AR nl cR) := (((Chg.refl (fun _ => False) wc).alloc _).drew).cell (fun h => h) g0c
              clear x1 x2 x3 x4 hpl hfu hpsz rowT hsz8
              go_upto_region 13 with fail
              go_cut [] from 29 to 58 (fun wx => ∃ A6 c6, Hid (Blk wx gj 113 [.slice A6 (nl + 1) c6, .int .i64 (p : Nat)]) ∧ Hid (OwnV wx 31 2 (.slice A6 (nl + 1) c6) (nl + 1) (tCells ls bs ++ [.int .i64 x.id, .slice A7 m c7])) ∧ Hid (Chg (fun y => y = gj ∨ Value.ownBlock (.slice AR nl cR) = some y) wc wx) ∧ Hid (Fresh wc (.slice AR nl cR) (.slice A6 (nl + 1) c6)))
              case first =>
                go_region_law (first | ((refine st_app2 rfl _ _ 49 31 (.agg #[.int .i64 0, .slice none 0 0]) 32 rfl Try.underlying49 infoRec rfl (by decide) (.slice AR nl cR) nl (tCells ls bs) (.int .i64 x.id) (.slice A7 m c7) rfl rfl rfl (HRT.out.chg (S := fun _ => False) (by repeat (first | exact Chg.refl _ _ | refine Chg.drew ?_ | refine Chg.drewN ?_ _ | refine Chg.alloc ?_ _)) (fun _ _ h => h)) wc.heap.size rfl (box_news2 _ _ _ (fun _ => rfl)) (by omega) ?_; intro v6 w6 k1 k2 k3; obtain ⟨A6, c6, rfl, _, _⟩ := k1.slice; have N1 := Lib.hid k1; have N2 : Hid (Chg (fun y => Value.ownBlock (.slice AR nl cR) = some y) wc w6) := (show Chg _ wc _ from by repeat (first | exact Chg.refl _ _ | refine Chg.drew ?_ | refine Chg.drewN ?_ _ | refine Chg.alloc ?_ _)).trans k2 (fun _ _ h => h); have N3 : Hid (Fresh wc (.slice AR nl cR) (.slice A6 (nl + 1) c6)) := k3.imp id (fun h y hy => Nat.le_trans (by simp) (h y hy)); clear k1 k2 k3; have B6 : Hid (Blk w6 gj 113 [.slice AR nl cR, .int .i64 (p : Nat)]) := BG.out.chg N2.out (fun e => hgR.out gj e rfl); have e6 := B6.out.at_ (i := 0) rfl; have f6 := B6.out.frozen (i := 0) (by simp))))
                all_goals
                  go_wp2_with fail
                  go_meet
                  case rel => exact ⟨A6, c6, B6.out.set 0 _, N1.out.chg ((Chg.refl (· = gj) w6).setg 0 _) (fun y hy e => OwnV.type_ne N1.out B6.out (by decide) (by rw [hy, e])), (N2.out.mono (fun _ _ h => .inr h)).setCell (p := ⟨gj, 0, none⟩) (fun _ => .inl rfl) _, N3.out⟩
              case rest =>
                obtain ⟨A6, c6, B6, N6, C6, F6⟩ := hcut
                have e1 := B6.out.at_ (i := 1) rfl
                have f1 := B6.out.frozen (i := 1) (by simp)
                have O6 : Hid (OwnB wc (.slice A7 m c7) x.body) := OX.out.chg C6.out (fun y hy h => by
                  rcases h with h | h
                  · exact OwnV.type_ne OX.out BG.out (by decide) (by rw [hy, h])
                  · obtain ⟨cur, hcu⟩ := OwnV.typed OX.out y hy
                    exact HRT.out.type_ne hcu (by decide) h)
                have R6 : Hid (Recs wc (.slice A6 (nl + 1) c6) (ls ++ [x]) (bs ++ [.slice A7 m c7])) := VG.out.snoc HNL.out.symm C6.out (fun y hy ht => by
                  obtain ⟨cur, hcu⟩ := ht
                  rcases hy with hy | hy
                  · rw [hy] at hcu
                    exact hcu.type_ne BG.out (by decide) rfl
                  · exact HRT.out.type_ne hcu (by decide) hy) N6.out O6.out
                clear g0c g1c d2 d3 d1a
                go_wp2_with fail
                go_roundg (gk - 1)
                case measure =>
                  have := HFU.out
                  omega
                case rel =>
                  have CZ : Chg (fun y => y = gj) wc (wc.setCell ⟨gj, 1, none⟩ (.int .i64 ((p : Int) + (sz : Int)))) := (Chg.refl (fun y => y = gj) wc).setg 1 _
                  have hlen : (jnlBytes (ls ++ [x])).length = p + sz := by
                    rw [jnlBytes_snoc, List.length_append, hq.out.size, HSZ.out, HNL.out]
                  refine ⟨p + sz, ls ++ [x], fun y => D y ∨ (w.heap.size ≤ y ∧ y < wc.heap.size ∧ y ≠ gj), by rw [HN.out]; exact HPS.out, ⟨⟨.slice A6 (nl + 1) c6, bs ++ [.slice A7 m c7], ?_, ?_, fun y hy => ?_, fun b hb y hy => ?_⟩, fun y hy => ?_, fun hy => ?_⟩, hlen, ?_, ?_, HPS.out, fun y hy => ?_, ?_⟩
                  · have := B6.out.set 1 (.int .i64 ((p : Int) + (sz : Int)))
                    rw [hlen]
                    exact this
                  · refine R6.out.chg CZ (fun y hy e => OwnV.type_ne R6.out.row B6.out (by decide) (by rw [hy, e])) (fun b hb y hy e => ?_)
                    obtain ⟨i, hi, rfl⟩ := List.getElem_of_mem hb
                    exact OwnV.type_ne (R6.out.own i (by rw [← R6.out.lenB]; exact hi) hi) B6.out (by decide) (by rw [hy, e])
                  · rcases F6.out with h | h
                    · exact .inl (HD2.out y (by rw [← h]; exact hy))
                    · exact .inr ⟨Nat.le_trans Cw.out.size (h y hy), N6.out.lt y hy, fun e => OwnV.type_ne N6.out B6.out (by decide) (by rw [hy, e])⟩
                  · rcases List.mem_append.1 hb with hb | hb
                    · exact .inl (HD4.out b hb y hy)
                    · rw [List.mem_singleton.1 hb] at hy
                      exact .inr ⟨Nat.le_trans hq.out.chg.size (FX.out y hy), O6.out.lt y hy, fun e => OwnV.type_ne O6.out B6.out (by decide) (by rw [hy, e])⟩
                  · have hz : (wc.setCell ⟨gj, 1, none⟩ (.int .i64 ((p : Int) + (sz : Int)))).heap.size = wc.heap.size := by simp [World.setCell]
                    rw [hz]
                    rcases hy with hy | hy
                    · exact Nat.lt_of_lt_of_le (hq.out.rj.size y hy) (Nat.le_trans CX.out.size C6.out.size)
                    · exact hy.2.1
                  · rcases hy with hy | hy
                    · exact hq.out.rj.out hy
                    · exact hy.2.2 rfl
                  · rw [hq.out.eq]
                    have hgk : gk = (gk - 1) + 1 := by have := HFU.out; omega
                    rw [hgk]
                    exact jnlRd_step (by rw [← HNL.out, HRN.out]; exact hsome.out)
                  · have h1 := hq.out.fuel
                    have h2 := HFU.out
                    have h3 := HS8.out
                    omega
                  · rcases hy with hy | hy
                    · exact hq.out.new y hy
                    · exact hy.1
                  · refine (Cw.out.old C6.out (fun y hy => ?_)).old CZ (fun y hy => by rw [hy]; exact G2.out)
                    rcases hy with hy | hy
                    · rw [hy]
                      exact G2.out
                    · exact hq.out.new y (HD2.out y hy)
end Go.Proofs.Ytlnomadhgoblkaa.Kit

