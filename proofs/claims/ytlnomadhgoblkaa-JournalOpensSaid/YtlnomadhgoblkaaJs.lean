/- The journal: take. -/
import Derived.Test.YtlnomadhgoblkaaProg
import Derived.Test.YtlnomadhgoblkaaJr
set_option linter.unusedVariables false
set_option linter.unusedSimpArgs false
namespace Go.Proofs.Ytlnomadhgoblkaa.Kit
open Go.RowKit
set_option maxHeartbeats 3200000 in
theorem takeOk {g gj : Nat} {A : Option Addr} {n c : Nat} {l : List Int} {p m p2 : Nat} {w : World} (h : Hid (Opn w g gj A n c l p)) (hp2 : Hid (p + m = p2)) (hm : Hid (p2 ≤ n)) :
    Calls Try.prog 66 #[.pointer (some ⟨g, 0, none⟩), .int .i64 m] w fun e w' => ∃ A1 n1 c1, e = .returned (.tuple #[.slice A1 n1 c1, .bool true]) ∧ Opn w' g gj A n c l p2 ∧ n1 = m ∧ OwnB w' (.slice A1 n1 c1) ((l.drop p).take m) ∧ Chg (· = g) w w' ∧ (∀ k, Value.ownBlock (.slice A1 n1 c1) = some k → w.heap.size ≤ k) := by
  have hle := h.out.le
  have hbd := h.out.bound
  have hcap := h.out.cap
  have hmx := h.out.mx
  have h1 := h.out.blk.at_ (i := 1) rfl
  have f1 := h.out.blk.frozen (i := 1) (by simp)
  have hpp := hp2.out
  have hmm := hm.out
  have hg : ((n - p : Nat) : Int) ≥ (m : Int) := by omega
  have hg2 : ¬ ((m : Int) > ((n - p : Nat) : Int)) := by omega
  have E1 : IntKind.i64.wrap ((p : Int) + (m : Int)) = (p2 : Int) := by rw [IntWalk.i64_in _ (by omega)]; omega
  have E2 : IntKind.i64.wrap ((p2 : Int) - (m : Int)) = (p : Int) := by rw [IntWalk.i64_in _ (by omega)]; omega
  have b0 : (0 : Int) ≤ (p : Int) := by omega
  have b1 : (p : Int) ≤ (p2 : Int) := by omega
  have b3 : (p2 : Int) ≤ (c : Int) := by omega
  have HN : Hid (p2 - p = ((l.drop p).take m).length) := by
    have := h.out.len
    rw [Hid, List.length_take, List.length_drop]
    omega
  by_cases hcp : c = p
  · subst hcp
    have HNIL : Hid ((l.drop c).take m = []) := by rw [Hid, List.drop_of_length_le (by rw [← h.out.len]; omega), List.take_nil]
    go_enter Try.func66, Try.ntmps66
    go_wp2_with fail
    refine (restC h).mono ?_
    rintro e w1 ⟨⟨A1, c1, rfl⟩, q, rfl⟩
    go_wp2_with fail
    obtain ⟨w1, hw1⟩ : ∃ w1, w1 = (w.drewN q).setCell ⟨g, 1, none⟩ (.int .i64 (p2 : Int)) := ⟨_, rfl⟩
    have J1 : Hid (Opn w1 g gj A n c l p2) := by rw [hw1]; exact (h.out.drewN q).move hmm
    have K1 : Hid (Chg (· = g) w w1) := by rw [hw1]; exact ((Chg.refl (· = g) w).drewN q).setg 1 _
    have S1 : Hid (w1.heap.size = w.heap.size) := by rw [hw1]; simp [Hid]
    have m0 := J1.out.blk.at_ (i := 0) rfl
    have m1 := J1.out.blk.at_ (i := 1) rfl
    have HR : Hid (∀ W, Chg (fun _ => False) w1 W → Rd W .u8 A ((l.drop c).take m)) := fun W hW => by rw [HNIL.out]; intro i hi; simp at hi
    rw [← hw1]
    clear hw1 f1 h1
    go_region_held3 (fun w' => w'.cell? ⟨g, 0, none⟩ = some (.slice A n c) ∧ w'.cell? ⟨g, 1, none⟩ = some (.int .i64 p2)) (first | exact ⟨m0, m1⟩ | exact ⟨(J1.out.chg0 C1.out.chg).blk.at_ (i := 0) rfl, (J1.out.chg0 C1.out.chg).blk.at_ (i := 1) rfl⟩ | go_keep) (first | (go_at_call 44; refine (cloneB _ _ _ _ _ HN (by omega) (HR.out _ (by repeat (first | exact Chg.refl _ _ | refine Chg.drew ?_ | refine Chg.drewN ?_ _)))).mono ?_; rintro e w2 ⟨A2, n2, c2, rfl, k1⟩; have C1 : Hid (Made w1 w2 A2 n2 c2 ((l.drop c).take m)) := ⟨k1.len, k1.own, (show Chg (fun _ => False) w1 _ from by repeat (first | exact Chg.refl _ _ | refine Chg.drew ?_ | refine Chg.drewN ?_ _)).trans k1.chg (fun _ _ h => h), k1.new, k1.cap⟩; clear k1))
    all_goals
      go_wp2_with fail
      go_ret2
      refine ⟨_, _, _, rfl, J1.out.chg0 C1.out.chg, ?_, C1.out.own, K1.out.trans C1.out.chg (fun _ _ h => h.elim), fun k hk => by rw [← S1.out]; exact C1.out.new k hk⟩
      have := C1.out.len
      rw [this, ← HN.out]
      omega
  · go_enter Try.func66, Try.ntmps66
    go_wp2_with fail
    refine (restC h).mono ?_
    rintro e w1 ⟨⟨A1, c1, rfl⟩, q, rfl⟩
    go_wp2_with fail
    obtain ⟨w1, hw1⟩ : ∃ w1, w1 = (w.drewN q).setCell ⟨g, 1, none⟩ (.int .i64 (p2 : Int)) := ⟨_, rfl⟩
    have J1 : Hid (Opn w1 g gj A n c l p2) := by rw [hw1]; exact (h.out.drewN q).move hmm
    have K1 : Hid (Chg (· = g) w w1) := by rw [hw1]; exact ((Chg.refl (· = g) w).drewN q).setg 1 _
    have S1 : Hid (w1.heap.size = w.heap.size) := by rw [hw1]; simp [Hid]
    have m0 := J1.out.blk.at_ (i := 0) rfl
    have m1 := J1.out.blk.at_ (i := 1) rfl
    have HR : Hid (∀ W, Chg (fun _ => False) w1 W → Rd W .u8 (A.map (·.add p)) ((l.drop p).take m)) := fun W hW => (rd_from (J1.out.rd.chg hW (fun _ _ _ => id)) p).take m
    rw [← hw1]
    clear hw1 f1 h1
    go_region_held3 (fun w' => w'.cell? ⟨g, 0, none⟩ = some (.slice A n c) ∧ w'.cell? ⟨g, 1, none⟩ = some (.int .i64 p2)) (first | exact ⟨m0, m1⟩ | exact ⟨(J1.out.chg0 C1.out.chg).blk.at_ (i := 0) rfl, (J1.out.chg0 C1.out.chg).blk.at_ (i := 1) rfl⟩ | go_keep) (first | (go_at_call 44; refine (cloneB _ _ _ _ _ HN (by omega) (HR.out _ (by repeat (first | exact Chg.refl _ _ | refine Chg.drew ?_ | refine Chg.drewN ?_ _)))).mono ?_; rintro e w2 ⟨A2, n2, c2, rfl, k1⟩; have C1 : Hid (Made w1 w2 A2 n2 c2 ((l.drop p).take m)) := ⟨k1.len, k1.own, (show Chg (fun _ => False) w1 _ from by repeat (first | exact Chg.refl _ _ | refine Chg.drew ?_ | refine Chg.drewN ?_ _)).trans k1.chg (fun _ _ h => h), k1.new, k1.cap⟩; clear k1))
    all_goals
      go_wp2_with fail
      go_ret2
      refine ⟨_, _, _, rfl, J1.out.chg0 C1.out.chg, ?_, C1.out.own, K1.out.trans C1.out.chg (fun _ _ h => h.elim), fun k hk => by rw [← S1.out]; exact C1.out.new k hk⟩
      have := C1.out.len
      rw [this, ← HN.out]
      omega
end Go.Proofs.Ytlnomadhgoblkaa.Kit
