/- The reader: Int, Take, Text. -/
import Derived.Test.YtcljbaoadmflgaaProg
import Derived.Test.YtcljbaoadmflgaaKit
import Derived.Test.YtcljbaoadmflgaaOctW
import Derived.Test.YtcljbaoadmflgaaOctR
import Derived.Deep.RegionHeld3
import Derived.IntWalk
set_option linter.unusedVariables false
set_option linter.unusedSimpArgs false
set_option linter.unnecessarySimpa false
namespace Go.Proofs.Ytcljbaoadmflgaa.Kit
open Go.RowKit
/-- what Take leaves -/
def RTake (g : Nat) (v : Value) (l : List Int) (at_ : Nat) (n : Int) (w : World) (e : Ending) (w' : World) : Prop :=
  ∃ (v2 : Value) (m : List Int) (at2 : Nat) (er : Int), e = .returned (.tuple #[v2, .int .i64 er]) ∧ OwnB w' v2 m ∧ (∀ k, v2.ownBlock = some k → w.heap.size ≤ k) ∧ Rdr w' g v l at2 ∧ Chg (· = g) w w' ∧
    ((n < 0 ∧ er = 1 ∧ m = [] ∧ at2 = at_) ∨ (0 ≤ n ∧ (l.length : Int) - at_ < n ∧ er = 41 ∧ m = [] ∧ at2 = at_) ∨ (0 ≤ n ∧ n ≤ (l.length : Int) - at_ ∧ er = 0 ∧ m = (l.drop at_).take n.toNat ∧ at2 = at_ + n.toNat))
theorem rtake_ok {g : Nat} {v : Value} {l : List Int} {at_ k nq m c1 : Nat} {A1 : Option Addr} {w w1 : World} (h : Rdr w g v l at_) (hle : at_ + k ≤ l.length) (hl : k = ((l.drop at_).take k).length)
    (h1 : OwnB w1 (.slice A1 ([] ++ (l.drop at_).take k).length c1) ([] ++ (l.drop at_).take k))
    (h3 : Chg (fun i => Value.ownBlock (.slice (some ⟨w.heap.size, 0, none⟩) 0 0) = some i) (((w.drewN nq).setCell ⟨g, 1, none⟩ (.int .i64 (↑at_ + ↑k))).alloc (.cells #[] 5)).drew w1)
    (h4 : Fresh (((w.drewN nq).setCell ⟨g, 1, none⟩ (.int .i64 (↑at_ + ↑k))).alloc (.cells #[] 5)).drew (.slice (some ⟨w.heap.size, 0, none⟩) 0 0) (.slice A1 ([] ++ (l.drop at_).take k).length c1)) (hm : m = k := by omega) :
    RTake g v l at_ k w (.returned (.tuple #[.slice A1 m c1, .int .i64 0])) w1 := by
  rw [List.nil_append, ← hl] at h4
  have h1' : OwnB w1 (.slice A1 k c1) ((l.drop at_).take k) := by
    rw [List.nil_append, ← hl] at h1
    exact h1
  subst hm
  refine ⟨_, (l.drop at_).take m, at_ + m, 0, rfl, h1', h4.ge (blk_ge (Nat.le_refl _)) (by simp), ?_, ?_, .inr (.inr ⟨by omega, by omega, rfl, by simp, by simp⟩)⟩
  · have hz : ((at_ : Int) + (m : Int)) = ((at_ + m : Nat) : Int) := by omega
    rw [hz] at h3
    refine ((h.drewN nq).move hle).chg (S := fun _ => False) (((Chg.refl _ _).alloc _).drew.fresh h3 (blk_ge (by simp))) id (fun _ _ => id)
  · exact ((((Chg.refl (· = g) w).drewN nq).setg 1 _).alloc _).drew.fresh h3 (blk_ge (Nat.le_refl _))
set_option maxHeartbeats 1600000 in
theorem take (g : Nat) (v : Value) (l : List Int) (at_ : Nat) (n : Int) (w : World) (h : Hid (Rdr w g v l at_)) :
    Calls Try.prog 32 #[.pointer (some ⟨g, 0, none⟩), .int .i64 n] w (RTake g v l at_ n w) := by
  obtain ⟨A, c, rfl, hc, _⟩ := h.out.own.slice
  have h0 := h.out.blk.at_ (i := 0) rfl
  have h1 := h.out.blk.at_ (i := 1) rfl
  have hf := h.out.blk.frozen (i := 1) (by simp)
  have h2 := h.out.le
  have h3 := h.out.bound
  have hrd := Lib.hid (h.out.own.rd rfl)
  have c1 : (0 : Int) ≤ (at_ : Int) := by omega
  have c2 : (at_ : Int) ≤ (l.length : Int) := by omega
  have c3 : (l.length : Int) ≤ (c : Int) := by omega
  by_cases hn : n < 0
  · go_enter Try.func32, Try.ntmps32
    go_wp2_with fail
    go_ret2
    exact ⟨_, [], at_, 1, rfl, Own.nil _ _ _, by simp [Value.ownBlock], h.out, Chg.refl _ _, .inl ⟨hn, rfl, rfl, rfl⟩⟩
  · by_cases hm : (l.length : Int) - at_ < n
    · go_enter Try.func32, Try.ntmps32
      go_wp2_with (go_at_call 28; refine (left g _ l at_ _ h).mono ?_; rintro e w' ⟨rfl, nq, rfl⟩)
      go_ret2
      exact ⟨_, [], at_, 41, rfl, Own.nil _ _ _, by simp [Value.ownBlock], h.out.drewN _, (Chg.refl _ _).drewN _, .inr (.inl ⟨by omega, hm, rfl, rfl, rfl⟩)⟩
    · obtain ⟨k, rfl⟩ : ∃ k : Nat, n = k := ⟨n.toNat, by omega⟩
      have hab : ∀ ad, A = some ad → 0 < l.length → ¬ ad.block = g := fun ad e _ hg => h.out.ne (by rw [e]; simp [Value.ownBlock, hg])
      have hle : at_ + k ≤ l.length := by omega
      have F0 : ∀ nq, ((w.drewN nq).setCell ⟨g, 1, none⟩ (.int .i64 (↑at_ + ↑k))).cell? ⟨g, 0, none⟩ = some (.slice A l.length c) := fun nq => ((h.out.blk.drewN nq).set 1 _).at_ (i := 0) rfl
      have F1 : ∀ nq, ((w.drewN nq).setCell ⟨g, 1, none⟩ (.int .i64 (↑at_ + ↑k))).cell? ⟨g, 1, none⟩ = some (.int .i64 (↑at_ + ↑k)) := fun nq => ((h.out.blk.drewN nq).set 1 _).at_ (i := 1) rfl
      have HL : Hid (k = ((l.drop at_).take k).length) := by
        have : k ≤ l.length - at_ := by omega
        show k = _
        simp
        omega
      have c4 : (at_ : Int) + (k : Int) ≤ (c : Int) := by omega
      have c5 : (at_ : Int) ≤ (at_ : Int) + (k : Int) := by omega
      have c6 : (0 : Int) ≤ (at_ : Int) + (k : Int) := by omega
      have E1 : IntKind.i64.wrap (at_ : Int) = (at_ : Int) := IntWalk.i64_in _ (by omega)
      by_cases hca : c = at_
      · have HRD : Hid (∀ W, Chg (· = g) w W → Rd W .u8 A ((l.drop at_).take k)) := fun W hW => by
          rw [show (l.drop at_).take k = [] from List.eq_nil_of_length_eq_zero (by rw [← HL.out]; omega)]
          exact Rd.nil _ _ _
        subst hca
        go_enter Try.func32, Try.ntmps32
        go_wp2_with (go_at_call 28; refine (left g _ l _ _ h).mono ?_; rintro e w' ⟨rfl, nq, rfl⟩)
        go_region_held3 (fun w' => w'.cell? ⟨g, 0, none⟩ = some (.slice A l.length c) ∧ w'.cell? ⟨g, 1, none⟩ = some (.int .i64 (↑c + ↑k))) (first | exact ⟨F0 _, F1 _⟩ | go_keep | ((try dsimp only); refine ⟨?_, ?_⟩ <;> (refine K3.out.cell ?_ (by go_keep); simp [Value.ownBlock]; have := h.out.blk.lt; omega))) ((refine st_appn rfl _ _ 22 5 .u8 1 rfl Try.underlying22 infoU8 (by decide) (.slice (some ⟨w.heap.size, 0, none⟩) 0 0) [] rfl (Own.lit' _ 5 .u8 [] _ (by simp) (by simp)).drew _ _ ((l.drop c).take k) _ rfl (by rw [← HL.out]; omega) (HRD.out _ (by repeat (first | exact Chg.refl _ _ | refine Chg.drew ?_ | refine Chg.drewN ?_ _ | refine Chg.alloc ?_ _ | refine Chg.setg ?_ _ _))) (by rw [← HL.out]; simp; omega) ?_; intro v' w1 k1 k2 k3 k4; obtain ⟨A1, c1, rfl, _, _⟩ := k1.slice; have K1 := Lib.hid k1; have K3 := Lib.hid k3; have K4 := Lib.hid k4; clear k1 k2 k3 k4))
        go_wp2
        go_ret2
        exact rtake_ok h.out hle HL.out K1.out K3.out K4.out
      · have HRD : Hid (∀ W, Chg (· = g) w W → Rd W .u8 (A.map (·.add at_)) ((l.drop at_).take k)) := fun W hW => (rd_from (hrd.out.chg hW hab) at_).take k
        go_enter Try.func32, Try.ntmps32
        go_wp2_with (go_at_call 28; refine (left g _ l _ _ h).mono ?_; rintro e w' ⟨rfl, nq, rfl⟩)
        go_region_held3 (fun w' => w'.cell? ⟨g, 0, none⟩ = some (.slice A l.length c) ∧ w'.cell? ⟨g, 1, none⟩ = some (.int .i64 (↑at_ + ↑k))) (first | exact ⟨F0 _, F1 _⟩ | go_keep | ((try dsimp only); refine ⟨?_, ?_⟩ <;> (refine K3.out.cell ?_ (by go_keep); simp [Value.ownBlock]; have := h.out.blk.lt; omega))) ((refine st_appn rfl _ _ 22 5 .u8 1 rfl Try.underlying22 infoU8 (by decide) (.slice (some ⟨w.heap.size, 0, none⟩) 0 0) [] rfl (Own.lit' _ 5 .u8 [] _ (by simp) (by simp)).drew _ _ ((l.drop at_).take k) _ rfl (by rw [← HL.out]; omega) (HRD.out _ (by repeat (first | exact Chg.refl _ _ | refine Chg.drew ?_ | refine Chg.drewN ?_ _ | refine Chg.alloc ?_ _ | refine Chg.setg ?_ _ _))) (by rw [← HL.out]; simp; omega) ?_; intro v' w1 k1 k2 k3 k4; obtain ⟨A1, c1, rfl, _, _⟩ := k1.slice; have K1 := Lib.hid k1; have K3 := Lib.hid k3; have K4 := Lib.hid k4; clear k1 k2 k3 k4))
        go_wp2
        go_ret2
        exact rtake_ok h.out hle HL.out K1.out K3.out K4.out
end Go.Proofs.Ytcljbaoadmflgaa.Kit
