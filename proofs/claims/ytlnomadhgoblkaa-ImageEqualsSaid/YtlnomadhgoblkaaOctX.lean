/- The reader: Text. -/
import Derived.Test.YtlnomadhgoblkaaProg
import Derived.Test.YtlnomadhgoblkaaKit
import Derived.Test.YtlnomadhgoblkaaOctW
import Derived.Test.YtlnomadhgoblkaaOctR
import Derived.IntWalk
set_option linter.unusedVariables false
set_option linter.unusedSimpArgs false
set_option linter.unnecessarySimpa false
namespace Go.Proofs.Ytlnomadhgoblkaa.Kit
open Go.RowKit
theorem uint' {g : Nat} {v : Value} {l : List Int} {at_ : Nat} {limit : Int} {w : World} {x er : Int} {n : Nat} (hu : Hid (urd (l.drop at_) limit = (x, n, er))) (h : Hid (Rdr w g v l at_)) :
    Calls Try.prog 75 #[.pointer (some ⟨g, 0, none⟩), .int .u64 limit] w fun e w' => e = .returned (.tuple #[.int .u64 x, .int .i64 er]) ∧ Rdr w' g v l (at_ + n) ∧ Chg (· = g) w w' := by
  have := uint g v l at_ limit w h
  unfold RUint at this
  rw [hu.out] at this
  exact this
def RText (g : Nat) (v : Value) (l : List Int) (at_ : Nat) (limit : Int) (w : World) (e : Ending) (w' : World) : Prop :=
  ∃ (s : List Int) (at2 : Nat) (er : Int), e = .returned (.tuple #[.string (strOf s), .int .i64 er]) ∧ Rdr w' g v l at2 ∧ Chg (· = g) w w' ∧
    ((limit < 0 ∧ s = [] ∧ er = 1 ∧ at2 = at_) ∨ (0 ≤ limit ∧ er ≠ 0 ∧ s = [] ∧ at2 = at_ ∧ er = (urd (l.drop at_) limit).2.2) ∨
     (0 ≤ limit ∧ (urd (l.drop at_) limit).2.2 = 0 ∧ (l.length : Int) - (at_ + (urd (l.drop at_) limit).2.1 : Nat) < (urd (l.drop at_) limit).1 ∧ s = [] ∧ er = 41 ∧ at2 = at_) ∨
     (0 ≤ limit ∧ (urd (l.drop at_) limit).2.2 = 0 ∧ (urd (l.drop at_) limit).1 ≤ (l.length : Int) - (at_ + (urd (l.drop at_) limit).2.1 : Nat) ∧ er = 0 ∧
        s = (l.drop (at_ + (urd (l.drop at_) limit).2.1)).take (urd (l.drop at_) limit).1.toNat ∧ at2 = at_ + (urd (l.drop at_) limit).2.1 + (urd (l.drop at_) limit).1.toNat))
theorem text_rd {w1 : World} {g : Nat} {A : Option Addr} {l : List Int} {a2 c p q : Nat} {z : Int} (h : Rdr w1 g (.slice A l.length c) l a2) : Rd (((w1.drewN p).setCell ⟨g, 1, none⟩ (.int .i64 z)).drewN q) .u8 A l :=
  ((h.drewN p).own.chg ((Chg.refl (· = g) _).setg 1 (.int .i64 z)) (fun i hi e => h.ne (by rw [hi, e]))).rd rfl
theorem conv_str (W : World) (A : Option Addr) (m c : Nat) (l : List Int) (hm : m = l.length) (hr : Rd W .u8 A l) : (convert 29 9 (.slice A m c)).run Try.prog W = .ok (.string (strOf l)) W :=
  run_conv_str W 29 9 5 Try.underlying29 Try.underlying5 Try.underlying9 A m c l hm hr
theorem text_len {l : List Int} {a2 k : Nat} (hk : a2 + k ≤ l.length) : (↑a2 + ↑k : Int).toNat - a2 = ((l.drop a2).take k).length := by
  rw [List.length_take, List.length_drop]
  omega
theorem rtext_far {g : Nat} {v : Value} {l : List Int} {at_ n a2 k nq : Nat} {limit : Int} {w w1 : World} (h : Rdr w g v l at_) (hu : urd (l.drop at_) limit = (↑k, n, 0)) (hk : (l.length : Int) - ((at_ + n : Nat) : Int) < k) (h2 : a2 = at_ + n)
    (hr : Rdr w1 g v l a2) (hc : Chg (· = g) w w1) (hn : 0 ≤ limit := by omega) : RText g v l at_ limit w (.returned (.tuple #[.string { data := #[] }, .int .i64 41])) (((w1.drewN nq).setCell ⟨g, 1, none⟩ (.int .i64 at_))) := by
  refine ⟨[], at_, 41, rfl, (hr.drewN nq).move h.le, (hc.drewN nq).setg 1 _, .inr (.inr (.inl ⟨hn, by rw [hu], by rw [hu]; exact hk, rfl, rfl, rfl⟩))⟩
theorem rtext_ok {g : Nat} {v : Value} {l : List Int} {at_ n a2 k p q : Nat} {limit : Int} {w w1 : World} (hn : 0 ≤ limit) (hu : urd (l.drop at_) limit = (↑k, n, 0)) (hk : ¬ (l.length : Int) - ((at_ + n : Nat) : Int) < k) (h2 : a2 = at_ + n)
    (hr : Rdr w1 g v l a2) (hc : Chg (· = g) w w1) : RText g v l at_ limit w (.returned (.tuple #[.string (strOf ((l.drop a2).take k)), .int .i64 0])) ((((w1.drewN p).setCell ⟨g, 1, none⟩ (.int .i64 (↑a2 + ↑k)))).drewN q) := by
  subst h2
  have hz : ((at_ + n : Nat) : Int) + (k : Int) = ((at_ + n + k : Nat) : Int) := by omega
  rw [hz]
  refine ⟨(l.drop (at_ + n)).take k, at_ + n + k, 0, rfl, ((hr.drewN p).move (by omega)).drewN q, ((hc.drewN p).setg 1 _).drewN q, .inr (.inr (.inr ⟨hn, by rw [hu], by rw [hu]; simp only; omega, rfl, by rw [hu]; simp, by rw [hu]; simp⟩))⟩
end Go.Proofs.Ytlnomadhgoblkaa.Kit
