/- The laws' own helpers: hand, untouched; the document's writers: joined, Varint, Zigzag, AppendUint, AppendInt, AppendText. -/
import Derived.Test.YtlnomadhgoblkaaProg
import Derived.Test.YtlnomadhgoblkaaKit
import Derived.Test.YtlnomadhgoblkaaPlainO
import Derived.Test.YtlnomadhgoblkaaOctW
import Derived.Test.YtlnomadhgoblkaaOctL1
import Derived.IntWalk
import Derived.Lib.Hide
import Derived.Deep.OwnRows
set_option linter.unusedVariables false
set_option linter.unusedSimpArgs false
namespace Go.Proofs.Ytlnomadhgoblkaa.Kit
open Go.RowKit
/-- the marks behind a list that is handed in -/
def marks : List Int := (List.range 90).map fun i : Nat => (100 : Int) + (i : Int)
theorem marks_length : marks.length = 90 := by simp [marks]
theorem marks_get (i : Nat) (h : i < 90) : marks[i]'(by rw [marks_length]; exact h) = 100 + (i : Int) := by simp [marks]
theorem size1 : (Try.prog.info? 5).map (·.size) = some 1 := by kernel_rfl
theorem set_mark {m : List Int} {k : Nat} (hk : k < 90) (y : Int) (hy : y = 100 + (k : Int)) : (m ++ marks.take k ++ List.replicate (90 - k) 0).set (m.length + k) y = m ++ marks.take (k + 1) ++ List.replicate (90 - (k + 1)) 0 := by
  subst hy
  have h1 : (marks.take k).length = k := by rw [List.length_take, marks_length]; omega
  rw [List.set_append_right _ _ (by simp [h1]), show m.length + k - (m ++ marks.take k).length = 0 by simp [h1], show 90 - k = (90 - (k + 1)) + 1 by omega, List.replicate_succ, List.set_cons_zero,
    List.take_succ_eq_append_getElem (by rw [marks_length]; exact hk), marks_get k hk]
  simp
set_option maxHeartbeats 800000 in
theorem hand_start (m : List Int) : m ++ List.drop m.length (List.replicate (m.length + 90) (0 : Int)) = m ++ marks.take 0 ++ List.replicate (90 - 0) 0 := by
  rw [List.drop_replicate, List.take_zero, List.append_nil, Nat.add_sub_cancel_left]
set_option maxRecDepth 20000 in
theorem hand (A : Option Addr) (c : Nat) (m : List Int) (w : World) (hm : m.length ≤ 140737488351232) (hr : Hid (Rd w .u8 A m)) :
    Calls Try.prog 51 #[.slice A m.length c] w fun e w' => ∃ g, e = .returned (.slice (some ⟨g, 0, none⟩) (m.length + 90) (m.length + 90)) ∧ OwnB w' (.slice (some ⟨g, 0, none⟩) (m.length + 90) (m.length + 90)) (m ++ marks) ∧ w.heap.size ≤ g ∧ Chg (fun _ => False) w w' := by
  have hmk : ∀ W : World, (Instr.makeSlice 29 (.int .i64 ((m.length : Int) + 90)) (.int .i64 ((m.length : Int) + 90))).run Try.prog W = .ok (.slice (some ⟨W.heap.size, 0, none⟩) (m.length + 90) (m.length + 90)) (W.alloc (.cells (madeCells #[.int .u8 0] (m.length + 90)) 5)) := fun W => by
    have := run_make_row' (P := Try.prog) 29 5 (.int .u8 0) 1 Try.underlying29 infoU8 rfl .i64 .i64 (m.length + 90) (by omega) (by omega) W
    rw [show ((m.length + 90 : Nat) : Int) = (m.length : Int) + 90 by omega] at this
    exact this
  have hz : Own (w.alloc (.cells (madeCells #[.int .u8 0] (m.length + 90)) 5)) 5 .u8 (.slice (some ⟨w.heap.size, 0, none⟩) (m.length + 90) (m.length + 90)) (List.replicate (m.length + 90) 0) := Own.zeros w _ _ _ _ (Nat.le_refl _) (by simp only [maxLen]; omega)
  have HZ := Lib.hid hz
  clear hz
  go_enter Try.func51, Try.ntmps51
  go_wp2_with ((with_reducible refine gate_copy ?_); go_must (refine wp_copyn rfl _ _ 29 5 .u8 rfl Try.underlying29 size1 (.slice (some ⟨w.heap.size, 0, none⟩) (m.length + 90) (m.length + 90)) _ rfl HZ.out A m.length c m rfl rfl (hr.out.below (((Chg.refl (fun _ => False) w).alloc _).below (Nat.le_refl _) (fun _ h => h.elim))) (by simp) ?_); intro w1 k1 k2; have K1 := Lib.hid k1; have K2 := Lib.hid k2; clear k1 k2)
  go_loopw [4] (fun i wr => ∃ k : Nat, k ≤ 90 ∧ i = .int .i64 k ∧ Hid (OwnB wr (.slice (some ⟨w.heap.size, 0, none⟩) (m.length + 90) (m.length + 90)) (m ++ marks.take k ++ List.replicate (90 - k) 0)) ∧ Hid (Chg (fun _ => False) w wr)) (fun i _ => 90 - (intOf i).toNat)
  case atStart =>
    refine ⟨0, by omega, rfl, ?_, ((Chg.refl _ w).alloc _).trans K2.out (fun i hi e => by simp [Value.ownBlock] at e; omega)⟩
    have := K1.out
    rw [hand_start m] at this
    exact this
  case round =>
    obtain ⟨k, hk, rfl, ho, hc⟩ := hrel
    by_cases hlt : k < 90
    · have hll : (m ++ marks.take k ++ List.replicate (90 - k) 0).length = m.length + 90 := by
        simp [marks_length]
        omega
      obtain ⟨⟨y, hce⟩, hfr⟩ : (∃ y, wr.cell? ⟨w.heap.size, m.length + k, none⟩ = some y) ∧ wr.frozen? ⟨w.heap.size, m.length + k, none⟩ = false := by
        have := Own.cellAt ho.out (i := m.length + k) (by rw [hll]; omega)
        exact ⟨⟨_, this.1⟩, this.2⟩
      have HL := Lib.hid hll
      have q1 : (0 : Int) ≤ (m.length : Int) + (k : Int) := by omega
      have q2 : (m.length : Int) + (k : Int) < (m.length : Int) + 90 := by omega
      clear hll
      go_wp2
      go_roundw
      case rel =>
        refine ⟨k + 1, by omega, by go_num, ?_, hc.out.setCell (p := ⟨w.heap.size, m.length + k, none⟩) (fun h => absurd h (by simp)) _⟩
        have := ho.out.store (i := m.length + k) (by rw [HL.out]; omega) (100 + (k : Int))
        rw [set_mark hlt _ rfl] at this
        exact this
      case measure => simp [intOf]; omega
    · obtain rfl : k = 90 := by omega
      go_wp2
      go_ret
      have := ho.out
      rw [List.take_of_length_le (by rw [marks_length]; omega)] at this
      simp at this
      exact ⟨_, rfl, this, Nat.le_refl _, hc.out⟩
theorem untouched_cases (l b : List Int) (hl : l.length = b.length + 90) : decide (l = b ++ marks) = (decide (l.drop b.length = marks) && decide (l.take b.length = b)) := by
  by_cases h : l = b ++ marks
  · subst h
    simp
  · rw [decide_eq_false h]
    symm
    rw [Bool.and_eq_false_iff]
    by_cases h1 : l.drop b.length = marks
    · right
      rw [decide_eq_false_iff_not]
      intro h2
      exact h (by rw [← h1]; conv => rhs; lhs; rw [← h2]
                  exact (List.take_append_drop _ _).symm)
    · left
      rw [decide_eq_false_iff_not]
      exact h1
set_option maxRecDepth 20000 in
theorem untouched (A B : Option Addr) (c d n m : Nat) (l b : List Int) (w : World) (hn : n = l.length) (hm : m = b.length) (hc : n ≤ c) (hl : l.length = b.length + 90) (hb : b.length ≤ 140737488351232) (hr : Hid (Rd w .u8 A l)) (hr2 : Hid (Rd w .u8 B b)) :
    Calls Try.prog 53 #[.slice A n c, .slice B m d] w fun e w' => e = .returned (.bool (decide (l = b ++ marks))) ∧ ∃ n, w' = w.drewN n := by
  subst hm
  obtain ⟨ad, rfl⟩ : ∃ ad, A = some ad := by
    obtain ⟨ad, h, _⟩ := hr.out 0 (by omega)
    exact ⟨ad, h⟩
  have HL := Lib.hid hl
  obtain rfl : n = b.length + 90 := by omega
  clear hl hn
  go_enter Try.func53, Try.ntmps53
  go_wp2
  go_loop [5] (fun i => ∃ k : Nat, k ≤ 90 ∧ i = .int .i64 k ∧ Hid ((l.drop b.length).take k = marks.take k)) (fun i => 90 - (intOf i).toNat)
  case atStart => exact ⟨0, by omega, rfl, rfl⟩
  case round =>
    obtain ⟨k, hk, rfl, ht⟩ := hrel
    by_cases hlt : k < 90
    · obtain ⟨ad', he, hce⟩ := hr.out (b.length + k) (by have := HL.out; omega)
      injection he with he
      subst he
      by_cases hq : l[b.length + k]'(by have := HL.out; omega) = 100 + (k : Int)
      · have HQ := Lib.hid hq
        rw [hq] at hce
        go_wp2
        go_round
        case rel =>
          refine ⟨k + 1, by omega, by go_num, ?_⟩
          have h1 : k < (l.drop b.length).length := by have := HL.out; simp; omega
          have := take_next ht.out h1 (by rw [marks_length]; exact hlt) (by rw [marks_get k hlt, List.getElem_drop]; exact HQ.out)
          exact this
        case measure => simp [intOf]; omega
      · obtain ⟨y, hy⟩ : ∃ y, y = l[b.length + k]'(by have := HL.out; omega) := ⟨_, rfl⟩
        rw [← hy] at hce hq
        have HY := Lib.hid hy
        clear hy
        have HQ := Lib.hid hq
        have hq' : (y != 100 + (k : Int)) = true := by simp [hq]
        clear hq
        go_wp2
        go_ret
        refine ⟨ret_bool (decide_eq_false fun h => HQ.out ?_).symm, 0, rfl⟩
        rw [HY.out]
        subst h
        rw [List.getElem_append_right (by omega)]
        have := marks_get k hlt
        simpa using this
    · obtain rfl : k = 90 := by omega
      have hdm : l.drop b.length = marks := by
        have := ht.out
        rw [List.take_of_length_le (by have := HL.out; simp; omega), List.take_of_length_le (by rw [marks_length]; omega)] at this
        exact this
      have hs : Hid (decide (l.take b.length = b) = decide (l = b ++ marks)) := by rw [Hid, untouched_cases l b HL.out, decide_eq_true hdm]; simp
      have q1 : (b.length : Int) ≤ (c : Int) := by omega
      have q2 : Hid (b.length = (l.take b.length).length) := by rw [Hid, List.length_take]; have := HL.out; omega
      have q3 : Hid ((l.take b.length).length ≤ 140737488355328) := by rw [Hid, ← q2.out]; omega
      have q4 : Hid (Rd w .u8 (some ad) (l.take b.length)) := hr.out.take _
      go_wp2_with (go_at_call 24; go_must (refine (sameBytes' q2 (show Hid _ from rfl) q3 q4 hr2 hs).mono ?_); rintro e w4 ⟨rfl, nq, rfl⟩)
      go_ret
      exact ⟨rfl, _, rfl⟩
/-- the document's joined: both, in new memory -/
theorem joined (A B : Option Addr) (c d n m : Nat) (a b : List Int) (w : World) (hn : Hid (n = a.length)) (hm : Hid (m = b.length)) (hl : Hid (a.length + b.length ≤ 140737488355328)) (hr : Hid (Rd w .u8 A a)) (hr2 : Hid (Rd w .u8 B b)) :
    Calls Try.prog 89 #[.slice A n c, .slice B m d] w fun e w' => ∃ A' n' c', e = .returned (.slice A' n' c') ∧ Made w w' A' n' c' (a ++ b) := by
  have bd : (n : Int) + (m : Int) ≤ 140737488355328 := by have := hn.out; have := hm.out; have := hl.out; omega
  have hmk : ∀ W : World, (Instr.makeSlice 29 (.int .i64 0) (.int .i64 ((n : Int) + (m : Int)))).run Try.prog W = .ok (.slice (some ⟨W.heap.size, 0, none⟩) 0 (n + m)) (W.alloc (.cells (madeCells #[.int .u8 0] (n + m)) 5)) := fun W => by
    obtain ⟨i0, hi, hz0, hz1, hz2⟩ := info_parts infoU8
    have h := run_make (P := Try.prog) W 29 5 i0 (.int .u8 0) Try.underlying29 hi hz0 .i64 .i64 0 ((n : Int) + (m : Int)) (by omega) (by omega) (by rw [hz2]; omega) (by omega)
    rw [show ((n : Int) + (m : Int)).toNat = n + m by omega, hz1, Nat.mul_one] at h
    exact h
  have hz : Hid (Own (w.alloc (.cells (madeCells #[.int .u8 0] (n + m)) 5)) 5 .u8 (.slice (some ⟨w.heap.size, 0, none⟩) 0 (n + m)) []) := Own.zeros w _ _ 0 _ (Nat.zero_le _) (by simp only [maxLen]; omega)
  have ch0 : Hid (Chg (fun _ => False) w (w.alloc (.cells (madeCells #[.int .u8 0] (n + m)) 5))) := (Chg.refl _ w).alloc _
  have hra : Hid (Rd (w.alloc (.cells (madeCells #[.int .u8 0] (n + m)) 5)) .u8 A a) := hr.out.below ch0.out.done
  go_enter Try.func89, Try.ntmps89
  go_wp2_with (first | (at_builtin; (refine wp_appn rfl (.tmp 12) (.tmp 13) 29 5 .u8 1 rfl Try.underlying29 infoU8 (by decide) (.slice (some ⟨w.heap.size, 0, none⟩) 0 (n + m)) [] rfl hz.out A c a n rfl hn.out hra.out (by have := hl.out; simp; omega) ?_); intro v1 w1 k1 k2 k3 k4; have K1 := Lib.hid k1; have K3 := Lib.hid (ch0.out.fresh k3 (blk_ge (Nat.le_refl _))); have K4 := Lib.hid (k4.ge (blk_ge (Nat.le_refl _)) (ch0.out.size)); clear k1 k2 k3 k4; have R2 := Lib.hid (hr2.out.below K3.out.done)) | (at_builtin; (refine wp_appn rfl (.tmp 15) (.tmp 16) 29 5 .u8 1 rfl Try.underlying29 infoU8 (by decide) v1 ([] ++ a) rfl K1.out B d b m rfl hm.out R2.out (by have := hl.out; simp; omega) ?_); intro v2 w2 k1 k2 k3 k4; obtain ⟨A2, c2, rfl, NL, _⟩ := k1.slice; have N1 := Lib.hid k1; have NC := Lib.hid (K3.out.fresh k3 K4.out); have NF := Lib.hid (k4.ge K4.out K3.out.size); clear k1 k2 k3 k4))
  go_ret
  rw [List.nil_append] at N1
  have h1 := N1.out
  rw [List.length_append] at h1
  exact ⟨_, _, _, rfl, by simp, h1, NC.out, by simpa using NF.out, by simpa using NL⟩
theorem varintRef (x : Int) (w : World) (hx : 0 ≤ x) (hx1 : x ≤ 18446744073709551615) :
    Calls Try.prog 82 #[.int .u64 x] w fun e w' => ∃ A n c, e = .returned (.slice A n c) ∧ Made w w' A n c (vb x.toNat) := by
  have HL : Hid ((vb x.toNat).length ≤ 140737488355328) := Nat.le_trans (vb_len10 (by omega)) (by decide)
  go_enter Try.func82, Try.ntmps82
  go_wp2
  go_loopw [0, 3] (fun q b wr => ∃ (pre : List Int) (y : Int), q = .int .u64 y ∧ 0 ≤ y ∧ y ≤ 18446744073709551615 ∧ Hid (pre ++ vb y.toNat = vb x.toNat) ∧ Hid (OwnB wr b pre) ∧ Hid (Chg (fun _ => False) w wr) ∧ Hid (Fresh w (.slice none 0 0) b)) (fun q _ _ => (intOf q).toNat)
  case atStart => exact ⟨[], x, rfl, hx, hx1, rfl, Own.nil _ _ _, Chg.refl _ _, .inl rfl⟩
  case round =>
    obtain ⟨pre, y, rfl, hy, hy1, h1, h2, h4, h5⟩ := hrel
    by_cases hlt : 128 ≤ y
    · have hb := Lib.hid (byte_more (y := y) (by omega))
      go_wp2_with (at_builtin; go_must (refine wp_app1 rfl _ _ 29 5 .u8 1 rfl Try.underlying29 infoU8 (by decide) u3 pre _ rfl h2.out rfl ?b1 ?_); (case b1 => have h := congrArg List.length h1.out; have := vb_pos y.toNat; simp at h; have := HL.out; omega); intro v' w1 k1 k2 k3 k4; have K1 := Lib.hid k1; have K3 := Lib.hid k3; have K4 := Lib.hid k4; clear k1 k2 k3 k4)
      go_roundw
      case rel =>
        refine ⟨_, y / 128, rfl, by omega, by omega, ?_, K1.out, ((h4.out.fresh K3.out (h5.out.ge (fun i e => by simp [Value.ownBlock] at e) (Nat.le_refl _)))), h5.out.trans K4.out h4.out.size⟩
        have h := h1.out
        rw [hb.out, Lib.u8_or128_any _ (by omega) (by omega), show y % 256 % 128 + 128 = y % 128 + 128 by omega] at h
        rw [List.append_assoc, List.singleton_append]
        exact h
      case measure => simp [intOf]; omega
    · go_wp2_with (at_builtin; go_must (refine wp_app1 rfl _ _ 29 5 .u8 1 rfl Try.underlying29 infoU8 (by decide) u3 pre _ rfl h2.out rfl ?b2 ?_); (case b2 => have h := congrArg List.length h1.out; have := vb_pos y.toNat; simp at h; have := HL.out; omega); intro v' w1 k1 k2 k3 k4; have K1 := Lib.hid k1; have K3 := Lib.hid k3; have K4 := Lib.hid k4; clear k1 k2 k3 k4)
      go_ret
      obtain ⟨A, n, c, rfl, hM⟩ := made (w := w) (l := pre ++ [y]) (show OwnB w1 v' ([] ++ (pre ++ [y])) from K1.out) ((h4.out.fresh K3.out (h5.out.ge (fun i e => by simp [Value.ownBlock] at e) (Nat.le_refl _))).mono (fun _ _ h => h.elim)) (h5.out.trans K4.out h4.out.size)
      refine ⟨A, n, c, rfl, ?_⟩
      rw [← byte_last hy (by omega), h1.out] at hM
      exact hM
theorem joined' {A B : Option Addr} {c d n m : Nat} {a b : List Int} {w : World} (hn : Hid (n = a.length)) (hm : Hid (m = b.length)) (hl : Hid (a.length + b.length ≤ 140737488355328)) (hr : Hid (Rd w .u8 A a)) (hr2 : Hid (Rd w .u8 B b)) :
    Calls Try.prog 89 #[.slice A n c, .slice B m d] w fun e w' => ∃ A' n' c', e = .returned (.slice A' n' c') ∧ Made w w' A' n' c' (a ++ b) := joined A B c d n m a b w hn hm hl hr hr2
end Go.Proofs.Ytlnomadhgoblkaa.Kit
