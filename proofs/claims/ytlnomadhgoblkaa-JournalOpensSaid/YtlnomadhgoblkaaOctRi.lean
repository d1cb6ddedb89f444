/- The document's reader: Take. -/
import Derived.Test.YtlnomadhgoblkaaProg
import Derived.Test.YtlnomadhgoblkaaOctRh
import Derived.Test.YtlnomadhgoblkaaOctX
import Derived.Test.YtlnomadhgoblkaaOctLaw
import Derived.Deep.RegionHeld3
set_option linter.unusedVariables false
set_option linter.unusedSimpArgs false
namespace Go.Proofs.Ytlnomadhgoblkaa.Kit
open Go.RowKit
/-- what the document's Take leaves -/
def RTakeF (g : Nat) (v : Value) (l : List Int) (at_ : Nat) (n : Int) (w : World) (e : Ending) (w' : World) : Prop :=
  ∃ (A2 : Option Addr) (n2 c2 : Nat) (m : List Int) (at2 : Nat) (er : Int), e = .returned (.tuple #[.slice A2 n2 c2, .int .i64 er]) ∧ n2 = m.length ∧ (OwnB w' (.slice A2 n2 c2) m ∧ ∀ k, Value.ownBlock (.slice A2 n2 c2) = some k → w.heap.size ≤ k) ∧ RdrF w' g v l at2 ∧ Chg (· = g) w w' ∧
    ((n < 0 ∧ er = 1 ∧ m = [] ∧ at2 = at_) ∨ (0 ≤ n ∧ (l.length : Int) - at_ < n ∧ er = 41 ∧ m = [] ∧ at2 = at_) ∨ (0 ≤ n ∧ n ≤ (l.length : Int) - at_ ∧ er = 0 ∧ m = (l.drop at_).take n.toNat ∧ at2 = at_ + n.toNat))
theorem takeF_end {g : Nat} {v : Value} {l : List Int} {at_ k nq n1 e1 : Nat} {A1 : Option Addr} {w w1 : World} (h : RdrF w g v l at_) (hk : (k : Int) ≤ (l.length : Int) - at_) (m1 : Made (w.drewN nq) w1 A1 n1 e1 ((l.drop at_).take k ++ [])) :
    RTakeF g v l at_ k w (.returned (.tuple #[.slice A1 n1 e1, .int .i64 0])) (w1.setCell ⟨g, 1, none⟩ (.int .i64 ((at_ : Int) + k))) := by
  have hc : Chg (fun _ => False) w w1 := ((Chg.refl _ w).drewN nq).trans m1.chg (fun _ _ h => h)
  rw [List.append_nil] at m1
  have hz : ((at_ : Int) + k) = ((at_ + k : Nat) : Int) := by omega
  rw [hz]
  have := h.le
  refine ⟨A1, n1, e1, (l.drop at_).take k, at_ + k, 0, rfl, m1.len, ?_, (h.chg hc id (fun _ _ => id)).move (by omega), (hc.mono (fun _ _ h => h.elim)).setg 1 _, .inr (.inr ⟨by omega, by omega, rfl, by simp, by simp⟩)⟩
  refine ⟨m1.own.chg ((Chg.refl (· = g) w1).setg 1 _) (fun k hk e => ?_), fun k hk => m1.new k hk⟩
  have h1 := m1.new k hk
  have h2 := h.blk.lt
  have h3 : (w.drewN nq).heap.size = w.heap.size := rfl
  omega
set_option maxRecDepth 20000 in
set_option maxHeartbeats 1600000 in
theorem takeF (g : Nat) (v : Value) (l : List Int) (at_ : Nat) (n : Int) (w : World) (h : Hid (RdrF w g v l at_)) :
    Calls Try.prog 79 #[.pointer (some ⟨g, 0, none⟩), .int .i64 n] w (RTakeF g v l at_ n w) := by
  by_cases hn : n < 0
  · go_enter Try.func79, Try.ntmps79
    go_wp2_with fail
    go_ret2
    exact ⟨none, 0, 0, [], at_, 1, rfl, rfl, ⟨Own.nil _ _ _, fun k h => by simp [Value.ownBlock] at h⟩, h.out, Chg.refl _ _, .inl ⟨hn, rfl, rfl, rfl⟩⟩
  · by_cases hm : (l.length : Int) - at_ < n
    · go_enter Try.func79, Try.ntmps79
      go_wp2_with (go_at_call 90; refine (leftF (show Hid _ from rfl) h).mono ?_; rintro e w' ⟨rfl, nq, rfl⟩)
      go_ret2
      exact ⟨none, 0, 0, [], at_, 41, rfl, rfl, ⟨Own.nil _ _ _, fun k h => by simp [Value.ownBlock] at h⟩, h.out.drewN _, (Chg.refl _ _).drewN _, .inr (.inl ⟨by omega, hm, rfl, rfl, rfl⟩)⟩
    · obtain ⟨k, rfl⟩ : ∃ k : Nat, n = k := ⟨n.toNat, by omega⟩
      obtain ⟨A, c, rfl, hc, _⟩ := h.out.own.slice
      have h0 := h.out.blk.at_ (i := 0) rfl
      have h1 := h.out.blk.at_ (i := 1) rfl
      have h2 := h.out.le
      have h3 := h.out.bound
      have c1 : (0 : Int) ≤ (at_ : Int) := by omega
      have c2 : (at_ : Int) ≤ (l.length : Int) := by omega
      have c3 : (l.length : Int) ≤ (c : Int) := by omega
      have c4 : (at_ : Int) + (k : Int) ≤ (c : Int) := by omega
      have c5 : (at_ : Int) ≤ (at_ : Int) + (k : Int) := by omega
      have c6 : (0 : Int) ≤ (at_ : Int) + (k : Int) := by omega
      have hrd := Lib.hid (h.out.own.rd rfl)
      have E1 : IntKind.i64.wrap ((at_ : Int) + (k : Int)) = (at_ : Int) + (k : Int) := IntWalk.i64_in _ (by omega)
      have hf1 : Hid (∀ W, Chg (fun _ => False) w W → W.frozen? ⟨g, 1, none⟩ = false) := fun W hW => (h.out.blk.chg hW id).frozen (i := 1) (by simp)
      have HTL : Hid ((↑at_ + ↑k : Int).toNat - at_ = ((l.drop at_).take k).length) := text_len (by omega)
      have HLE : Hid (((l.drop at_).take k).length + ([] : List Int).length ≤ 140737488355328) := by rw [Hid, ← HTL.out]; simp; omega
      have hz := Lib.hid (show (l.length : Int) - (at_ : Int) = (l.length : Int) - (at_ : Int) from rfl)
      by_cases hca : c = at_
      · have HR : Hid (∀ W : World, Rd W .u8 A ((l.drop at_).take k)) := fun W => by
          rw [List.drop_eq_nil_of_le (by omega), List.take_nil]
          exact Rd.nil _ _ _
        have HTL0 : Hid (0 = ((l.drop at_).take k).length) := by rw [Hid, ← HTL.out]; omega
        subst hca
        go_enter Try.func79, Try.ntmps79
        go_wp2_with (go_at_call 90; refine (leftF (show Hid ((l.length : Int) - c = (l.length : Int) - c) from rfl) h).mono ?_; rintro e w' ⟨rfl, nq, rfl⟩)
        go_region_held3 (fun w' => w'.cell? ⟨g, 0, none⟩ = some (.slice A l.length c) ∧ w'.cell? ⟨g, 1, none⟩ = some (.int .i64 c)) (first | exact ⟨h0, h1⟩ | go_keep | exact ⟨K1.out.chg.cell id (by go_keep), K1.out.chg.cell id (by go_keep)⟩) (first | (go_at_call 89; refine (joined _ none _ 0 _ 0 ((l.drop c).take k) [] _ HTL0 (show Hid _ from rfl) HLE (HR.out _) (Rd.nil _ _ _)).mono ?_; rintro e w1 ⟨A1, n1, e1, rfl, m1⟩; have K1 := Lib.hid m1; clear m1))
        have q1 : w1.cell? ⟨g, 1, none⟩ = some (.int .i64 c) := K1.out.chg.cell id (show (w.drewN _).cell? _ = _ from h1)
        have q2 := hf1.out w1 ((((Chg.refl _ w).drewN _)).trans K1.out.chg (fun _ _ h => h))
        go_wp2
        go_ret2
        exact takeF_end h.out (by omega) K1.out
      · have HR : Hid (∀ W, Chg (fun _ => False) w W → Rd W .u8 (A.map (·.add at_)) ((l.drop at_).take k)) := fun W hW => (rd_from (hrd.out.chg hW (fun _ _ _ => id)) at_).take k
        go_enter Try.func79, Try.ntmps79
        go_wp2_with (go_at_call 90; refine (leftF (show Hid ((l.length : Int) - at_ = (l.length : Int) - at_) from rfl) h).mono ?_; rintro e w' ⟨rfl, nq, rfl⟩)
        go_region_held3 (fun w' => w'.cell? ⟨g, 0, none⟩ = some (.slice A l.length c) ∧ w'.cell? ⟨g, 1, none⟩ = some (.int .i64 at_)) (first | exact ⟨h0, h1⟩ | go_keep | exact ⟨K1.out.chg.cell id (by go_keep), K1.out.chg.cell id (by go_keep)⟩) (first | (go_at_call 89; refine (joined _ none _ 0 _ 0 ((l.drop at_).take k) [] _ HTL (show Hid _ from rfl) HLE (HR.out _ (by repeat (first | exact Chg.refl _ _ | refine Chg.drew ?_ | refine Chg.drewN ?_ _))) (Rd.nil _ _ _)).mono ?_; rintro e w1 ⟨A1, n1, e1, rfl, m1⟩; have K1 := Lib.hid m1; clear m1))
        have q1 : w1.cell? ⟨g, 1, none⟩ = some (.int .i64 at_) := K1.out.chg.cell id (show (w.drewN _).cell? _ = _ from h1)
        have q2 := hf1.out w1 ((((Chg.refl _ w).drewN _)).trans K1.out.chg (fun _ _ h => h))
        go_wp2
        go_ret2
        exact takeF_end h.out (by omega) K1.out
end Go.Proofs.Ytlnomadhgoblkaa.Kit
