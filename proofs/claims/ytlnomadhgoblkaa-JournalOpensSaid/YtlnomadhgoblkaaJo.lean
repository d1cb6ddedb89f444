/- The journal: New, Count, Bytes, Ends, Record. -/
import Derived.Test.YtlnomadhgoblkaaProg
import Derived.Test.YtlnomadhgoblkaaJn
import Derived.Lib.SlBytesConst
set_option linter.unusedVariables false
set_option linter.unusedSimpArgs false
namespace Go.Proofs.Ytlnomadhgoblkaa.Kit
open Go.RowKit
theorem jputI (D : Nat → Prop) (g : Nat) (b : Value) (l : List SecV) (x : SecV) (A : Option Addr) (n c : Nat) (w : World) (hj : Hid (Jn w D g l)) (hbo : Hid (OwnB w b x.body)) (hba : Hid (∀ y, b.ownBlock = some y → ¬ D y))
    (HN : Hid (n = (recEnc l.length x).length)) (hr : Hid (Rd w .u8 A (recEnc l.length x))) (hsz : Hid ((jnlBytes l).length + n ≤ 1073741824)) (hll : l.length ≤ 1073741824) :
    Calls Try.prog 43 #[.pointer (some ⟨g, 0, none⟩), .agg #[.int .i64 x.id, b], .slice A n c] w fun e w' => e = .returned (.tuple #[]) ∧ Jn w' (fun y => D y ∨ b.ownBlock = some y ∨ (w.heap.size ≤ y ∧ y < w'.heap.size)) g (l ++ [x]) ∧ Chg (fun y => y = g ∨ D y) w w' := by
  obtain ⟨vB, vR, vE, bs, hb, hv, h1, h2, h3, h4⟩ := hj.out.ex
  refine (jput g vB vR vE b bs l x A n c w hb hv hbo (fun y hy e => hba.out y hy (h1 y e)) HN hr hsz hll).mono ?_
  rintro e w' ⟨rfl, vB', vR', vE', k1, k2, k3, k4, k5, k6⟩
  have hf : ∀ {v v' : Value}, (∀ y, v.ownBlock = some y → D y) → Fresh w v v' → (∀ y, v'.ownBlock = some y → y < w'.heap.size) → ∀ y, v'.ownBlock = some y → D y ∨ b.ownBlock = some y ∨ (w.heap.size ≤ y ∧ y < w'.heap.size) := fun hd hfr hlt y hy => by
    rcases hfr with h | h
    · exact .inl (hd y (h ▸ hy))
    · exact .inr (.inr ⟨h y hy, hlt y hy⟩)
  refine ⟨rfl, ⟨⟨vB', vR', vE', bs ++ [b], k1, k2, hf h1 k4 k2.bytes.lt, hf h2 k5 k2.recs.row.lt, hf h3 k6 k2.ends.lt, fun b' hb' y hy => ?_⟩, fun y hy => ?_, fun hy => ?_⟩, k3.mono fun y hy h => ?_⟩
  · rcases List.mem_append.1 hb' with hb' | hb'
    · exact .inl (h4 b' hb' y hy)
    · rw [List.mem_singleton] at hb'
      subst hb'
      exact .inr (.inl hy)
  · rcases hy with hy | hy | hy
    · exact Nat.lt_of_lt_of_le (hj.out.size y hy) k3.size
    · exact Nat.lt_of_lt_of_le (hbo.out.lt y hy) k3.size
    · exact hy.2
  · rcases hy with hy | hy | hy
    · exact hj.out.out hy
    · exact OwnV.type_ne hbo.out hb (by decide) hy
    · have := hb.lt
      omega
  · rcases h with h | h | h | h
    · exact .inl h
    · exact .inr (h1 y h)
    · exact .inr (h2 y h)
    · exact .inr (h3 y h)
/-- the bytes of a constant text: the block's mark stands behind its last cell -/
theorem Own.litF (w : World) (e : TypeId) (k : IntKind) (l : List Int) (n : Nat) (hn : n = l.length) (hm : l.length ≤ maxLen) : Own (w.alloc (.cells (nums k l).toArray e (n, n + 1))) e k (.slice (some ⟨w.heap.size, 0, none⟩) l.length l.length) l := by
  refine ⟨by simp [nums], .inr ⟨w.heap.size, l.length, nums k l, rfl, ⟨(n, n + 1), ?_, fun i hi => ?_⟩, Nat.le_refl _, hm, by simp [nums], by rw [Nat.mul_one, List.take_of_length_le (by simp [nums])]⟩⟩
  · show (w.heap.push _)[w.heap.size]? = _
    simp
  · simp [nums] at hi
    simp
    omega
set_option maxRecDepth 20000 in
theorem jnew (w : World) :
    Calls Try.prog 18 #[] w fun e w' => ∃ g D, e = .returned (.pointer (some ⟨g, 0, none⟩)) ∧ Jn w' D g [] ∧ (∀ x, D x → w.heap.size ≤ x) ∧ w.heap.size ≤ g ∧ Chg (fun _ => False) w w' := by
  have kc := fun (w : World) (C : Array Value) (n c : Nat) => Lib.run_convert_bytes_const (P := Try.prog) w 29 5 C n c Try.underlying29 Try.underlying5
  go_enter Try.func18, Try.ntmps18
  go_wp2_with fail
  go_ret
  obtain ⟨w1, hw1⟩ : ∃ w1, w1 = w.alloc (.cells (nums .u8 jhead).toArray 5 (8, 9)) := ⟨_, rfl⟩
  have O1 : OwnB w1 (.slice (some ⟨w.heap.size, 0, none⟩) 8 8) jhead := by rw [hw1]; exact Own.litF w _ .u8 jhead 8 rfl (by decide)
  have C1 : Chg (fun _ => False) w w1 := by rw [hw1]; exact (Chg.refl _ w).alloc _
  have hs : w1.heap.size = w.heap.size + 1 := by rw [hw1]; simp
  refine ⟨w.heap.size + 1, fun y => y = w.heap.size, rfl, ?_, fun x hx => by omega, by omega, ?_⟩
  · refine ⟨⟨.slice (some ⟨w.heap.size, 0, none⟩) 8 8, .slice none 0 0, .slice none 0 0, [], ?_, ⟨?_, ?_, ?_, fun b hb => absurd hb (by simp)⟩, fun y hy => ?_, fun y hy => by simp [Value.ownBlock] at hy, fun y hy => by simp [Value.ownBlock] at hy, fun b hb => absurd hb (by simp)⟩, fun y hy => ?_, fun h => ?_⟩
    · have := Blk.new w1 #[.slice (some ⟨w.heap.size, 0, none⟩) 8 8, .slice none 0 0, .slice none 0 0] 88
      rw [hs, hw1] at this
      exact this
    · have := O1.alloc (.cells #[.slice (some ⟨w.heap.size, 0, none⟩) 8 8, .slice none 0 0, .slice none 0 0] 88)
      rw [hw1] at this
      rw [jnlBytes, jnlFrom, List.append_nil]
      exact this
    · exact ⟨⟨rfl, .inl ⟨rfl, rfl⟩⟩, rfl, fun i h => absurd h (by simp)⟩
    · exact Own.nil _ _ _
    · simp [Value.ownBlock] at hy
      exact hy.symm
    · rw [hy]
      simp
      omega
    · omega
  · have := C1.alloc (.cells #[.slice (some ⟨w.heap.size, 0, none⟩) 8 8, .slice none 0 0, .slice none 0 0] 88)
    rw [hw1] at this
    exact this
theorem jcount (D : Nat → Prop) (g : Nat) (l : List SecV) (n : Nat) (w : World) (HN : Hid (n = l.length)) (hj : Hid (Jn w D g l)) :
    Calls Try.prog 26 #[.pointer (some ⟨g, 0, none⟩)] w fun e w' => e = .returned (.int .i64 n) ∧ w = w' := by
  obtain ⟨vB, vR, vE, bs, hb, hv, h1, h2, h3, h4⟩ := hj.out.ex
  obtain ⟨AR, cR, hR, hcR, _⟩ := hv.recs.row.slice
  rw [← HN.out] at hR
  have c1 := hb.at_ (i := 1) rfl
  rw [hR] at c1
  clear hR hb hv h1 h2 h3 h4 hcR
  go_enter Try.func26, Try.ntmps26
  go_wp2_with fail
  go_ret
  exact ⟨rfl, rfl⟩
set_option maxRecDepth 20000 in
theorem jbytes (D : Nat → Prop) (g : Nat) (l : List SecV) (w : World) (hl : Hid ((jnlBytes l).length ≤ 140737488355328)) (hj : Hid (Jn w D g l)) :
    Calls Try.prog 20 #[.pointer (some ⟨g, 0, none⟩)] w fun e w' => ∃ A n c, e = .returned (.slice A n c) ∧ Made w w' A n c (jnlBytes l) := by
  obtain ⟨vB, vR, vE, bs, hb, hv, h1, h2, h3, h4⟩ := hj.out.ex
  obtain ⟨AB, cB, hB, hcB, _⟩ := hv.bytes.slice
  have c0 := hb.at_ (i := 0) rfl
  rw [hB] at c0
  have hr : Hid (Rd w .u8 AB (jnlBytes l)) := hv.bytes.rd hB
  obtain ⟨j, hj2⟩ : ∃ j, j = jnlBytes l := ⟨_, rfl⟩
  rw [← hj2] at c0 hl hr ⊢
  obtain ⟨nb, hnb⟩ : ∃ nb, nb = j.length := ⟨_, rfl⟩
  rw [← hnb] at c0
  have HNB := Lib.hid hnb
  have hl2 : nb ≤ 140737488355328 := by rw [hnb]; exact hl.out
  clear hB hb hv h1 h2 h3 h4 hcB hnb hj2
  go_enter Try.func20, Try.ntmps20
  go_wp2_with fail
  refine (cloneB AB nb cB j w HNB hl2 hr).mono ?_
  rintro e w1 ⟨A1, n1, c1, rfl, m1⟩
  have M1 := Lib.hid m1
  clear m1
  go_wp2_with fail
  go_ret
  exact ⟨A1, n1, c1, rfl, M1.out⟩
set_option maxRecDepth 20000 in
theorem cloneI (A : Option Addr) (n c : Nat) (l : List Int) (w : World) (HN : Hid (n = l.length)) (hl : n ≤ 17592186044416) (hr : Hid (Rd w .i64 A l)) :
    Calls Try.prog 60 #[.slice A n c] w fun e w' => ∃ A' c', e = .returned (.slice A' n c') ∧ Own w' 3 .i64 (.slice A' n c') l ∧ Chg (fun _ => False) w w' ∧ (∀ k, Value.ownBlock (.slice A' n c') = some k → w.heap.size ≤ k) := by
  rcases A with _ | ad
  · have h0 : l = [] := by
      rcases l with _ | ⟨x, xs⟩
      · rfl
      · obtain ⟨_, h, _⟩ := hr.out 0 (by simp)
        cases h
    have hn0 : n = 0 := by rw [HN.out, h0]; rfl
    subst hn0
    have HL0 := Lib.hid h0
    have hnil : ∀ W : World, (binOp .eql 23 (.slice none 0 c) (.slice none 0 0)).run Try.prog W = .ok (.bool true) W := fun W => run_eql_nil_slice W _ _ none 0 c 0 0 Try.underlying23
    clear h0
    go_enter Try.func60, Try.ntmps60
    go_wp2_with fail
    go_ret
    refine ⟨none, 0, rfl, ?_⟩
    rw [HL0.out]
    exact ⟨Own.nil _ _ _, Chg.refl _ _, fun k h => by simp [Value.ownBlock] at h⟩
  · have hnil : ∀ W : World, (binOp .eql 23 (.slice (some ad) n c) (.slice none 0 0)).run Try.prog W = .ok (.bool false) W := fun W => run_eql_nil_slice W _ _ (some ad) n c 0 0 Try.underlying23
    have hr1 : Hid (Rd (w.alloc (.cells #[] 3)) .i64 (some ad) l) := hr.out.below (((Chg.refl (fun _ => False) w).alloc _).done)
    go_enter Try.func60, Try.ntmps60
    go_wp2_with (at_builtin; go_must (refine wp_appn rfl _ _ 23 3 .i64 8 rfl Try.underlying23 infoInt (by decide) (.slice (some ⟨w.heap.size, 0, none⟩) 0 0) [] rfl (Own.lit w 3 .i64 [] (by simp)) (some ad) c l n rfl HN.out hr1.out (by rw [← HN.out]; simp; omega) ?_); intro v' w1 k1 k2 k3 k4; rw [List.nil_append] at k1; obtain ⟨A1, c1, hv, hc1, _⟩ := k1.slice; rw [← HN.out] at hv hc1; subst hv; have K1 := Lib.hid k1; have K3 := Lib.hid k3; have K4 := Lib.hid k4; clear k1 k2 k3 k4)
    go_ret
    exact ⟨A1, c1, rfl, K1.out, ((Chg.refl _ w).alloc _).fresh K3.out (blk_ge (Nat.le_refl _)), K4.out.ge (blk_ge (Nat.le_refl _)) (by simp)⟩
theorem jendsCall (D : Nat → Prop) (g : Nat) (l : List SecV) (n : Nat) (w : World) (HN : Hid (n = l.length)) (hn : n ≤ 17592186044416) (hj : Hid (Jn w D g l)) :
    Calls Try.prog 34 #[.pointer (some ⟨g, 0, none⟩)] w fun e w' => ∃ A c, e = .returned (.slice A n c) ∧ Own w' 3 .i64 (.slice A n c) (jends l) ∧ Chg (fun _ => False) w w' ∧ (∀ k, Value.ownBlock (.slice A n c) = some k → w.heap.size ≤ k) := by
  obtain ⟨vB, vR, vE, bs, hb, hv, h1, h2, h3, h4⟩ := hj.out.ex
  obtain ⟨AE, cE, hE, hcE, _⟩ := hv.ends.slice
  have c2 := hb.at_ (i := 2) rfl
  have hr : Hid (Rd w .i64 AE (jends l)) := hv.ends.rd hE
  rw [hE, jends_length, ← HN.out] at c2
  have HNE : Hid (n = (jends l).length) := by rw [Hid, jends_length]; exact HN.out
  obtain ⟨j, hj2⟩ : ∃ j, j = jends l := ⟨_, rfl⟩
  rw [← hj2] at hr HNE ⊢
  clear hE hb hv h1 h2 h3 h4 hcE hj2
  go_enter Try.func34, Try.ntmps34
  go_wp2_with fail
  refine (cloneI AE n cE j w HNE hn hr).mono ?_
  rintro e w1 ⟨A1, c1, rfl, m1, m2, m3⟩
  have M1 := Lib.hid m1; have M2 := Lib.hid m2; have M3 := Lib.hid m3
  clear m1 m2 m3
  go_wp2_with fail
  go_ret
  exact ⟨A1, c1, rfl, M1.out, M2.out, M3.out⟩
end Go.Proofs.Ytlnomadhgoblkaa.Kit
