/- The document's reader: Uint. -/
import Derived.Test.YtlnomadhgoblkaaProg
import Derived.Test.YtlnomadhgoblkaaOctRg
import Derived.Deep.RegionHeld3
set_option linter.unusedVariables false
set_option linter.unusedSimpArgs false
namespace Go.Proofs.Ytlnomadhgoblkaa.Kit
open Go.RowKit
theorem urd_nle (l : List Int) (limit : Int) : (urd l limit).2.1 ≤ l.length := by
  rcases urd_cases l limit with ⟨x, n, _, _, _, _, h, hu⟩ | ⟨x, n, _, _, _, _, hu⟩ | ⟨x, n, er, _, _, hu⟩ <;> rw [hu] <;> simp <;> omega
theorem uintF_end {g : Nat} {v : Value} {l : List Int} {at_ a2 n : Nat} {w w1 : World} (h : RdrF w g v l at_) (k : Chg (fun _ => False) w.drew w1) (ha : at_ + n = a2) (hn : n ≤ l.length - at_) : RdrF (w1.setCell ⟨g, 1, none⟩ (.int .i64 ((at_ : Int) + n))) g v l a2 ∧ Chg (· = g) w (w1.setCell ⟨g, 1, none⟩ (.int .i64 ((at_ : Int) + n))) := by
  subst ha
  have hc : Chg (fun _ => False) w w1 := ((Chg.refl _ w).drew).trans k (fun _ _ h => h)
  have := h.le
  have hz : ((at_ : Int) + n) = ((at_ + n : Nat) : Int) := by omega
  rw [hz]
  exact ⟨(h.chg hc id (fun _ _ => id)).move (by omega), (hc.mono (fun _ _ h => h.elim)).setg 1 _⟩
set_option maxRecDepth 20000 in
set_option maxHeartbeats 1600000 in
theorem uintF {g : Nat} {v : Value} {l : List Int} {at_ : Nat} {limit : Int} {w : World} {x er : Int} {n a2 : Nat} (hu : Hid (urd (l.drop at_) limit = (x, n, er))) (ha : Hid (at_ + n = a2)) (hb : Hid (Byt l)) (h : Hid (RdrF w g v l at_)) :
    Calls Try.prog 80 #[.pointer (some ⟨g, 0, none⟩), .int .u64 limit] w fun e w' => e = .returned (.tuple #[.int .u64 x, .int .i64 er]) ∧ RdrF w' g v l a2 ∧ Chg (· = g) w w' := by
  obtain ⟨A, c, rfl, hc, _⟩ := h.out.own.slice
  have h0 := h.out.blk.at_ (i := 0) rfl
  have h1 := h.out.blk.at_ (i := 1) rfl
  have h2 := h.out.le
  have h3 := h.out.bound
  have c1 : (0 : Int) ≤ (at_ : Int) := by omega
  have c2 : (at_ : Int) ≤ (l.length : Int) := by omega
  have c3 : (l.length : Int) ≤ (c : Int) := by omega
  have hrd := Lib.hid (h.out.own.rd rfl)
  have HB : Hid (Byt (l.drop at_)) := fun z hz => hb.out z (List.mem_of_mem_drop hz)
  have HLE : Hid ((l.drop at_).length ≤ 140737488355328) := by rw [Hid, List.length_drop]; omega
  have HD : Hid (l.length - at_ = (l.drop at_).length) := by rw [Hid, List.length_drop]
  have hnl : Hid (n ≤ l.length - at_) := by
    have := urd_nle (l.drop at_) limit
    rw [hu.out, List.length_drop] at this
    exact this
  have hf1 : Hid (∀ W, Chg (fun _ => False) w.drew W → W.frozen? ⟨g, 1, none⟩ = false) := fun W hW => (h.out.blk.drew.chg hW id).frozen (i := 1) (by simp)
  have E1 : IntKind.i64.wrap ((at_ : Int) + (n : Int)) = (at_ : Int) + (n : Int) := IntWalk.i64_in _ (by have := hnl.out; omega)
  by_cases hca : c = at_
  · have HR : Hid (∀ W : World, Rd W .u8 A (l.drop at_)) := fun W => by
      rw [List.drop_eq_nil_of_le (by omega)]
      exact Rd.nil _ _ _
    have HD0 : Hid (0 = (l.drop at_).length) := by rw [Hid, List.length_drop]; omega
    subst hca
    go_enter Try.func80, Try.ntmps80
    go_wp2_with fail
    go_region_held3 (fun w' => w'.cell? ⟨g, 0, none⟩ = some (.slice A l.length c) ∧ w'.cell? ⟨g, 1, none⟩ = some (.int .i64 c)) (first | exact ⟨h0, h1⟩ | go_keep | exact ⟨K1.out.cell id (by go_keep), K1.out.cell id (by go_keep)⟩) (first | (go_at_call 91; refine (ahead _ _ _ (l.drop c) limit _ HD0 HB HLE (HR.out _)).mono ?_; rintro e w1 ⟨rfl, k1⟩; rw [hu.out] at *; have K1 := Lib.hid k1; clear k1))
    have q1 : w1.cell? ⟨g, 1, none⟩ = some (.int .i64 c) := K1.out.cell id h1
    have q2 := hf1.out _ K1.out
    go_wp2
    go_ret2
    obtain ⟨r1, r2⟩ := uintF_end h.out K1.out ha.out hnl.out
    exact ⟨rfl, r1, r2⟩
  · have HR : Hid (∀ W, Chg (fun _ => False) w W → Rd W .u8 (A.map (·.add at_)) (l.drop at_)) := fun W hW => rd_from (hrd.out.chg hW (fun _ _ _ => id)) at_
    go_enter Try.func80, Try.ntmps80
    go_wp2_with fail
    go_region_held3 (fun w' => w'.cell? ⟨g, 0, none⟩ = some (.slice A l.length c) ∧ w'.cell? ⟨g, 1, none⟩ = some (.int .i64 at_)) (first | exact ⟨h0, h1⟩ | go_keep | exact ⟨K1.out.cell id (by go_keep), K1.out.cell id (by go_keep)⟩) (first | (go_at_call 91; refine (ahead _ _ _ (l.drop at_) limit _ HD HB HLE (HR.out _ (by repeat (first | exact Chg.refl _ _ | refine Chg.drew ?_ | refine Chg.drewN ?_ _)))).mono ?_; rintro e w1 ⟨rfl, k1⟩; rw [hu.out] at *; have K1 := Lib.hid k1; clear k1))
    have q1 : w1.cell? ⟨g, 1, none⟩ = some (.int .i64 at_) := K1.out.cell id h1
    have q2 := hf1.out _ K1.out
    go_wp2
    go_ret2
    obtain ⟨r1, r2⟩ := uintF_end h.out K1.out ha.out hnl.out
    exact ⟨rfl, r1, r2⟩
theorem leftF {g : Nat} {v : Value} {l : List Int} {at_ : Nat} {w : World} {z : Int} (hz : Hid ((l.length : Int) - at_ = z)) (h : Hid (RdrF w g v l at_)) :
    Calls Try.prog 90 #[.pointer (some ⟨g, 0, none⟩)] w fun e w' => e = .returned (.int .i64 z) ∧ ∃ n, w' = w.drewN n := by
  obtain ⟨A, c, rfl, hc, _⟩ := h.out.own.slice
  have h0 := h.out.blk.at_ (i := 0) rfl
  have h1 := h.out.blk.at_ (i := 1) rfl
  have h2 := h.out.le
  have h3 := h.out.bound
  rw [← hz.out]
  go_enter Try.func90, Try.ntmps90
  go_wp2_with fail
  go_quiet (fail)
  go_wp2
  go_ret
  exact ⟨rfl, _, rfl⟩
end Go.Proofs.Ytlnomadhgoblkaa.Kit
