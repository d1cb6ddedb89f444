/- The laws' Book: kept. -/
import Derived.Test.YtcljbaoadmflgaaProg
import Derived.Test.YtcljbaoadmflgaaBook
set_option linter.unusedVariables false
set_option linter.unusedSimpArgs false
namespace Go.Proofs.Ytcljbaoadmflgaa.Kit
open Go.RowKit
theorem entVals_get (es : List Ent) : ∀ (i : Nat) (h : i < es.length), (entVals es)[2 * i]? = some es[i].v ∧ (entVals es)[2 * i + 1]? = some es[i].u := by
  induction es with
  | nil => intro i h; simp at h
  | cons x xs ih =>
    intro i h
    rcases i with _ | i
    · simp [entVals]
    · have := ih i (by simpa using h)
      simp only [entVals, List.flatMap_cons] at this ⊢
      rw [show 2 * (i + 1) = 2 * i + 1 + 1 by omega]
      simpa using this
theorem marks_at (n : Nat) (m : Int) (j : Nat) (h : j < (List.replicate n m ++ List.replicate 90 (m + 121)).length) : (List.replicate n m ++ List.replicate 90 (m + 121))[j] = if j < n then m else m + 121 := by
  split
  · rename_i hj
    rw [List.getElem_append_left (by simpa using hj), List.getElem_replicate]
  · rename_i hj
    rw [List.getElem_append_right (by simpa using hj), List.getElem_replicate]
/-- what stands at place i of the lists -/
theorem lists_at {w : World} {L : Value} {bs : Nat → Prop} {es : List Ent} (h : BookL w L bs es) (i : Nat) (hi : i < 2 * es.length) : ∃ (A A0 : Option Addr) (len c n0 c0 i0 : Nat), (i : Int) - (i : Int) % 2 = (i0 : Int) ∧ i0 ≤ i ∧ n0 ≤ len ∧ len ≤ c ∧ c ≤ maxLen ∧
    (entVals es)[i]? = some (.slice A len c) ∧ (entVals es)[i0]? = some (.slice A0 n0 c0) ∧ ∀ j, j < len → ∃ ad, A = some ad ∧ w.cell? (ad.add j) = some (.int .u8 (if j < n0 then mk (i / 2) else mk (i / 2) + 121)) := by
  have hq : i / 2 < es.length := by omega
  have hg := entVals_get es (i / 2) hq
  have he := h.ent (i / 2) hq
  obtain ⟨A0, c0, h0, hl0, hm0, hr0⟩ := he.v.reads
  obtain ⟨A1, c1, h1, hl1, hm1, hr1⟩ := he.u.reads
  rw [List.length_replicate] at h0
  rw [h0, h1] at hg
  rcases Nat.mod_two_eq_zero_or_one i with hp | hp
  · have hi2 : 2 * (i / 2) = i := by omega
    rw [hi2] at hg
    rw [List.length_replicate] at hl0
    refine ⟨A0, A0, _, c0, _, c0, i, by omega, Nat.le_refl _, Nat.le_refl _, hl0, hm0, hg.1, hg.1, fun j hj => ?_⟩
    obtain ⟨ad, e, hc⟩ := hr0 j (by simpa using hj)
    refine ⟨ad, e, ?_⟩
    rw [hc, if_pos hj, List.getElem_replicate]
  · have hi2 : 2 * (i / 2) + 1 = i := by omega
    rw [hi2] at hg
    refine ⟨A1, A0, _, c1, _, c0, 2 * (i / 2), by omega, by omega, by simp, hl1, hm1, hg.2, hg.1, fun j hj => ?_⟩
    obtain ⟨ad, e, hc⟩ := hr1 j hj
    refine ⟨ad, e, ?_⟩
    rw [hc, marks_at]
set_option maxRecDepth 20000 in
set_option maxHeartbeats 1600000 in
theorem kept (g o : Nat) (e : TypeId) (cur : List Value) (L : Value) (es : List Ent) (bs : Nat → Prop) (w : World)
    (hb : Hid (Blk w g e cur)) (h0 : cur[o]? = some L) (hL : Hid (BookL w L bs es)) (hk : es.length ≤ 1099511627776) :
    Calls Try.prog 43 #[.pointer (some ⟨g, o, none⟩)] w (fun e1 w' => e1 = .returned (.bool true) ∧ w = w') := by
  obtain ⟨AL, cL, rfl, hcL, hmL⟩ := hL.out.row.slice
  have c0 := hb.out.at_ h0
  obtain ⟨n2, hn2⟩ : ∃ n2 : Nat, n2 = 2 * es.length := ⟨_, rfl⟩
  have hr := hL.out.row
  rw [← hn2] at c0 hcL hr
  have HR := Lib.hid hr
  have HN2 := Lib.hid hn2
  have q1 : (n2 : Int) ≤ 2199023255552 := by omega
  clear hn2 hr
  go_enter Try.func43, Try.ntmps43
  go_wp2_with fail
  go_loop [3] (fun i => ∃ k : Nat, k ≤ n2 ∧ i = .int .i64 k) (fun i => n2 - (intOf i).toNat)
  case atStart => exact ⟨0, Nat.zero_le _, rfl⟩
  case round =>
    obtain ⟨k, hk2, rfl⟩ := hrel
    by_cases hlt : k < n2
    · obtain ⟨A, A0, len, c, n0, d0, i0, hi0, hile, hn0, hlc, hcm, g1, g2, hcell⟩ := lists_at hL.out k (by have := HN2.out; omega)
      obtain ⟨ad, rfl, d1, _⟩ := HR.out.cells _ _ _ rfl _ _ g1
      obtain ⟨ad', e', d2, _⟩ := HR.out.cells _ _ _ rfl _ _ g2
      injection e' with e'
      subst e'
      have hm := mk_range (k / 2)
      have hw : 1 + (k : Int) / 2 % 120 = mk (k / 2) := by unfold mk; omega
      obtain ⟨m, hmm⟩ : ∃ m : Int, m = mk (k / 2) := ⟨_, rfl⟩
      rw [← hmm] at hm hw hcell
      obtain ⟨m1, m2⟩ := hm
      have hw2 : IntKind.u8.wrap (m + 121) = m + 121 := IntWalk.u8_in _ (by omega)
      have HC := Lib.hid hcell
      have b1 : (0 : Int) ≤ (k : Int) := by omega
      have b2 : (k : Int) < (n2 : Int) := by omega
      have b3 : (i0 : Int) < (n2 : Int) := by omega
      have b4 : (len : Int) ≤ 9223372036854775807 := by simp only [maxLen] at hcm; omega
      clear hmm hcell g1 g2
      go_wp2_with fail
      go_loop [6] (fun j => ∃ q : Nat, q ≤ len ∧ j = .int .i64 q) (fun j => len - (intOf j).toNat)
      case atStart => exact ⟨0, Nat.zero_le _, rfl⟩
      case round =>
        obtain ⟨q, hq, rfl⟩ := hrel
        by_cases hql : q < len
        · obtain ⟨au, rfl, hcu⟩ := HC.out q hql
          have b5 : (0 : Int) ≤ (q : Int) := by omega
          have b6 : (q : Int) < (len : Int) := by omega
          by_cases hqn : q < n0
          · rw [if_pos hqn] at hcu
            have b7 : (q : Int) < (n0 : Int) := by omega
            go_wp2_with fail
            go_round
            case rel => exact ⟨q + 1, by omega, by go_num⟩
            case measure => simp [intOf]; omega
          · rw [if_neg hqn] at hcu
            have b7 : ¬ (q : Int) < (n0 : Int) := by omega
            have b8 : (n0 : Int) ≤ (q : Int) := by omega
            go_wp2_with fail
            go_round
            case rel => exact ⟨q + 1, by omega, by go_num⟩
            case measure => simp [intOf]; omega
        · obtain rfl : q = len := by omega
          go_wp2_with fail
          go_round
          case rel => exact ⟨k + 1, by omega, by go_num⟩
          case measure => simp [intOf]; omega
    · obtain rfl : k = n2 := by omega
      go_wp2_with fail
      go_ret
      exact ⟨rfl, rfl⟩
end Go.Proofs.Ytcljbaoadmflgaa.Kit
