/- The document's reader: NewReader, Place, Left, Unzig. -/
import Derived.Test.YtlnomadhgoblkaaProg
import Derived.Test.YtlnomadhgoblkaaOctLaw
import Derived.Test.YtlnomadhgoblkaaOctRf
set_option linter.unusedVariables false
set_option linter.unusedSimpArgs false
namespace Go.Proofs.Ytlnomadhgoblkaa.Kit
open Go.RowKit
/-- a slice of bytes that is read, as a value -/
structure RdV (w : World) (v : Value) (l : List Int) : Prop where
  slice : ∃ A c, v = .slice A l.length c ∧ l.length ≤ c ∧ c ≤ maxLen
  all : ∀ A n c, v = .slice A n c → Rd w .u8 A l
namespace RdV
variable {w w1 : World} {v : Value} {l : List Int}
theorem rd (h : RdV w v l) {A : Option Addr} {c : Nat} (hv : v = .slice A l.length c) : Rd w .u8 A l := h.all _ _ _ hv
theorem chg {S : Nat → Prop} (h : RdV w v l) (c : Chg S w w1) (hS : ∀ k, v.ownBlock = some k → ¬ S k) : RdV w1 v l :=
  ⟨h.slice, fun A n c0 hv => (h.all A n c0 hv).chg c fun ad e _ => hS _ (by rw [hv, e]; rfl)⟩
theorem drewN (h : RdV w v l) (n : Nat) : RdV (w.drewN n) v l := ⟨h.slice, h.all⟩
theorem alloc (h : RdV w v l) (o : Obj) : RdV (w.alloc o) v l := h.chg (S := fun _ => False) ((Chg.refl _ w).alloc o) (fun _ _ h => h)
end RdV
theorem Own.rdV {w : World} {v : Value} {l : List Int} (h : OwnB w v l) : RdV w v l := ⟨h.slice, rd_of_own h⟩
/-- the document's reader of l, at at_, in block g; its bytes lie in v -/
structure RdrF (w : World) (g : Nat) (v : Value) (l : List Int) (at_ : Nat) : Prop where
  blk : Blk w g 153 [v, .int .i64 at_]
  own : RdV w v l
  le : at_ ≤ l.length
  bound : l.length ≤ 140737488355328
  ne : v.ownBlock ≠ some g
namespace RdrF
variable {w w1 : World} {g : Nat} {v : Value} {l : List Int} {at_ : Nat}
theorem chg {S : Nat → Prop} (h : RdrF w g v l at_) (c : Chg S w w1) (hg : ¬ S g) (hv : ∀ k, v.ownBlock = some k → ¬ S k) : RdrF w1 g v l at_ := ⟨h.blk.chg c hg, h.own.chg c hv, h.le, h.bound, h.ne⟩
theorem drewN (h : RdrF w g v l at_) (n : Nat) : RdrF (w.drewN n) g v l at_ := ⟨h.blk, h.own.drewN n, h.le, h.bound, h.ne⟩
theorem move (h : RdrF w g v l at_) {n : Nat} (hn : n ≤ l.length) : RdrF (w.setCell ⟨g, 1, none⟩ (.int .i64 n)) g v l n :=
  ⟨h.blk.set 1 _, h.own.chg ((Chg.refl (· = g) w).setCell (p := ⟨g, 1, none⟩) (fun _ => rfl) _) (fun k hk e => h.ne (by rw [hk, e])), hn, h.bound, h.ne⟩
end RdrF
theorem newReaderF {A : Option Addr} {n c : Nat} {l : List Int} {w : World} (hn : Hid (n = l.length)) (hl : Hid (l.length ≤ 140737488355328)) (hr : Hid (Rd w .u8 A l)) :
    Calls Try.prog 78 #[.slice A n c] w fun e w' => ∃ g v, e = .returned (.pointer (some ⟨g, 0, none⟩)) ∧ RdrF w' g v l 0 ∧ w.heap.size ≤ g ∧ (∀ k, v.ownBlock = some k → w.heap.size ≤ k) ∧ Chg (fun _ => False) w w' := by
  go_enter Try.func78, Try.ntmps78
  go_wp2_with fail
  refine (joined A none c 0 n 0 l [] w hn (show Hid _ from rfl) (by simpa using hl) hr (Rd.nil _ _ _)).mono ?_
  rintro e w1 ⟨A1, n1, c1, rfl, m1⟩
  rw [List.append_nil] at m1
  have M1 := Lib.hid m1
  clear m1
  go_wp2_with fail
  go_ret
  refine ⟨w1.heap.size, _, rfl, ⟨Blk.new w1 _ _, (Own.rdV M1.out.own).alloc _, Nat.zero_le _, hl.out, fun e => Nat.lt_irrefl _ (M1.out.own.lt _ e)⟩, M1.out.chg.size, M1.out.new, M1.out.chg.alloc _⟩
theorem placeF (g : Nat) (v : Value) (l : List Int) (at_ : Nat) (w : World) (h : Hid (RdrF w g v l at_)) :
    Calls Try.prog 81 #[.pointer (some ⟨g, 0, none⟩)] w fun e w' => e = .returned (.int .i64 at_) ∧ w = w' := by
  have h1 := h.out.blk.at_ (i := 1) rfl
  go_enter Try.func81, Try.ntmps81
  go_wp2
  go_ret
  exact ⟨rfl, rfl⟩
end Go.Proofs.Ytlnomadhgoblkaa.Kit
