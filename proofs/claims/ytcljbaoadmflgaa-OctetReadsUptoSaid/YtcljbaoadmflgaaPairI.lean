/- The laws' Pair: the program's reader and the document's: one step. -/
import Derived.Test.YtcljbaoadmflgaaProg
import Derived.Test.YtcljbaoadmflgaaBookI
import Derived.Test.YtcljbaoadmflgaaOctB
import Derived.Test.YtcljbaoadmflgaaOctRj
set_option linter.unusedVariables false
set_option linter.unusedSimpArgs false
namespace Go.Proofs.Ytcljbaoadmflgaa.Kit
open Go.RowKit
/-- what Text answers -/
def tx (l : List Int) (at_ : Nat) (limit : Int) : List Int × Nat × Int :=
  if limit < 0 then ([], at_, 1) else if (urd (l.drop at_) limit).2.2 ≠ 0 then ([], at_, (urd (l.drop at_) limit).2.2) else if (l.length : Int) - (at_ + (urd (l.drop at_) limit).2.1 : Nat) < (urd (l.drop at_) limit).1 then ([], at_, 41) else
    ((l.drop (at_ + (urd (l.drop at_) limit).2.1)).take (urd (l.drop at_) limit).1.toNat, at_ + (urd (l.drop at_) limit).2.1 + (urd (l.drop at_) limit).1.toNat, 0)
theorem tx_of {l : List Int} {at_ at2 : Nat} {limit er : Int} {s : List Int} (h : (limit < 0 ∧ s = [] ∧ er = 1 ∧ at2 = at_) ∨ (0 ≤ limit ∧ er ≠ 0 ∧ s = [] ∧ at2 = at_ ∧ er = (urd (l.drop at_) limit).2.2) ∨
     (0 ≤ limit ∧ (urd (l.drop at_) limit).2.2 = 0 ∧ (l.length : Int) - (at_ + (urd (l.drop at_) limit).2.1 : Nat) < (urd (l.drop at_) limit).1 ∧ s = [] ∧ er = 41 ∧ at2 = at_) ∨
     (0 ≤ limit ∧ (urd (l.drop at_) limit).2.2 = 0 ∧ (urd (l.drop at_) limit).1 ≤ (l.length : Int) - (at_ + (urd (l.drop at_) limit).2.1 : Nat) ∧ er = 0 ∧
        s = (l.drop (at_ + (urd (l.drop at_) limit).2.1)).take (urd (l.drop at_) limit).1.toNat ∧ at2 = at_ + (urd (l.drop at_) limit).2.1 + (urd (l.drop at_) limit).1.toNat)) : (s, at2, er) = tx l at_ limit := by
  unfold tx
  rcases h with ⟨h, rfl, rfl, rfl⟩ | ⟨h, h1, rfl, rfl, rfl⟩ | ⟨h, h1, h2, rfl, rfl, rfl⟩ | ⟨h, h1, h2, rfl, rfl, rfl⟩
  · rw [if_pos h]
  · rw [if_neg (by omega), if_pos h1]
  · rw [if_neg (by omega), if_neg (by rw [h1]; simp), if_pos h2]
  · rw [if_neg (by omega), if_neg (by rw [h1]; simp), if_neg (by omega)]
/-- what Take answers -/
def tk (l : List Int) (at_ : Nat) (n : Int) : List Int × Nat × Int :=
  if n < 0 then ([], at_, 1) else if (l.length : Int) - at_ < n then ([], at_, 41) else ((l.drop at_).take n.toNat, at_ + n.toNat, 0)
theorem tk_of {l m : List Int} {at_ at2 : Nat} {n er : Int} (h : (n < 0 ∧ er = 1 ∧ m = [] ∧ at2 = at_) ∨ (0 ≤ n ∧ (l.length : Int) - at_ < n ∧ er = 41 ∧ m = [] ∧ at2 = at_) ∨ (0 ≤ n ∧ n ≤ (l.length : Int) - at_ ∧ er = 0 ∧ m = (l.drop at_).take n.toNat ∧ at2 = at_ + n.toNat)) : (m, at2, er) = tk l at_ n := by
  unfold tk
  rcases h with ⟨h, rfl, rfl, rfl⟩ | ⟨h, h1, rfl, rfl, rfl⟩ | ⟨h, h1, rfl, rfl, rfl⟩
  · rw [if_pos h]
  · rw [if_neg (by omega), if_pos h1]
  · rw [if_neg (by omega), if_neg (by omega)]
theorem tk_len (l : List Int) (at_ : Nat) (n : Int) : (tk l at_ n).1.length ≤ l.length := by
  unfold tk
  split
  · simp
  split
  · simp
  · simp
    omega
theorem textP {g : Nat} {v : Value} {l : List Int} {at_ a2 : Nat} {limit er : Int} {s : List Int} {w : World} (hl : limit ≤ 9223372036854775807) (ht : Hid (tx l at_ limit = (s, a2, er))) (h : Hid (Rdr w g v l at_)) :
    Calls Try.prog 33 #[.pointer (some ⟨g, 0, none⟩), .int .i64 limit] w fun e w' => e = .returned (.tuple #[.string (strOf s), .int .i64 er]) ∧ Rdr w' g v l a2 ∧ Chg (· = g) w w' :=
  (text g v l at_ limit w hl h).mono fun e w' ⟨s', at2, er', he, k1, k2, k3⟩ => by
    have := (tx_of k3).trans ht.out
    simp only [Prod.mk.injEq] at this
    obtain ⟨rfl, rfl, rfl⟩ := this
    exact ⟨he, k1, k2⟩
theorem textQ {g : Nat} {v : Value} {l : List Int} {at_ a2 : Nat} {limit er : Int} {s : List Int} {w : World} (hl : limit ≤ 9223372036854775807) (ht : Hid (tx l at_ limit = (s, a2, er))) (hb : Hid (Byt l)) (h : Hid (RdrF w g v l at_)) :
    Calls Try.prog 57 #[.pointer (some ⟨g, 0, none⟩), .int .i64 limit] w fun e w' => e = .returned (.tuple #[.string (strOf s), .int .i64 er]) ∧ RdrF w' g v l a2 ∧ Chg (· = g) w w' :=
  (textF g v l at_ limit w hl hb h).mono fun e w' ⟨s', at2, er', he, k1, k2, k3⟩ => by
    have := (tx_of k3).trans ht.out
    simp only [Prod.mk.injEq] at this
    obtain ⟨rfl, rfl, rfl⟩ := this
    exact ⟨he, k1, k2⟩
theorem takeP {g : Nat} {v : Value} {l : List Int} {at_ a2 : Nat} {n er : Int} {m : List Int} {w : World} (ht : Hid (tk l at_ n = (m, a2, er))) (h : Hid (Rdr w g v l at_)) :
    Calls Try.prog 32 #[.pointer (some ⟨g, 0, none⟩), .int .i64 n] w fun e w' => ∃ v2, e = .returned (.tuple #[v2, .int .i64 er]) ∧ OwnB w' v2 m ∧ (∀ k, v2.ownBlock = some k → w.heap.size ≤ k) ∧ Rdr w' g v l a2 ∧ Chg (· = g) w w' :=
  (take g v l at_ n w h).mono fun e w' ⟨v2, m', at2, er', he, k1, k2, k3, k4, k5⟩ => by
    have := (tk_of k5).trans ht.out
    simp only [Prod.mk.injEq] at this
    obtain ⟨rfl, rfl, rfl⟩ := this
    exact ⟨v2, he, k1, k2, k3, k4⟩
theorem takeQ {g : Nat} {v : Value} {l : List Int} {at_ a2 : Nat} {n er : Int} {m : List Int} {w : World} (ht : Hid (tk l at_ n = (m, a2, er))) (h : Hid (RdrF w g v l at_)) :
    Calls Try.prog 58 #[.pointer (some ⟨g, 0, none⟩), .int .i64 n] w fun e w' => ∃ A2 n2 c2, e = .returned (.tuple #[.slice A2 n2 c2, .int .i64 er]) ∧ n2 = m.length ∧ Rd w' .u8 A2 m ∧ RdrF w' g v l a2 ∧ Chg (· = g) w w' :=
  (takeF g v l at_ n w h).mono fun e w' ⟨A2, n2, c2, m', at2, er', he, k1, k2, k3, k4, k5⟩ => by
    have := (tk_of k5).trans ht.out
    simp only [Prod.mk.injEq] at this
    obtain ⟨rfl, rfl, rfl⟩ := this
    exact ⟨A2, n2, c2, he, k1, k2, k3, k4⟩
/-- a pair in block g: the program's reader at a1, the document's at a2 -/
structure PairI (late : Bool) (g gP gR : Nat) (v vR : Value) (l : List Int) (a1 a2 : Nat) (D : Nat → Prop) (k : Nat) (w : World) : Prop where
  book : BookI late g 51 [.pointer (some ⟨gP, 0, none⟩), .pointer (some ⟨gR, 0, none⟩)] D k w
  p : Rdr w gP v l a1
  r : RdrF w gR vR l a2
  bp : ¬ D gP
  br : ¬ D gR
  bv : ∀ x, v.ownBlock = some x → ¬ D x
  bvr : ∀ x, vR.ownBlock = some x → ¬ D x
namespace PairI
variable {late : Bool} {g gP gR : Nat} {v vR : Value} {l : List Int} {a1 a2 k : Nat} {D : Nat → Prop} {w w1 : World}
theorem blk (h : PairI late g gP gR v vR l a1 a2 D k w) : ∃ rest, Blk w g 51 (.pointer (some ⟨gP, 0, none⟩) :: .pointer (some ⟨gR, 0, none⟩) :: rest) := by
  obtain ⟨L, raw, was, hb, _⟩ := h.book.ex
  exact ⟨_, hb⟩
theorem c0 (h : PairI late g gP gR v vR l a1 a2 D k w) : w.cell? ⟨g, 0, none⟩ = some (.pointer (some ⟨gP, 0, none⟩)) := by
  obtain ⟨rest, hb⟩ := h.blk
  exact hb.at_ rfl
theorem c1 (h : PairI late g gP gR v vR l a1 a2 D k w) : w.cell? ⟨g, 1, none⟩ = some (.pointer (some ⟨gR, 0, none⟩)) := by
  obtain ⟨rest, hb⟩ := h.blk
  exact hb.at_ rfl
theorem neP (h : PairI late g gP gR v vR l a1 a2 D k w) : gP ≠ g := by
  obtain ⟨rest, hb⟩ := h.blk
  exact h.p.blk.type_ne hb (by decide)
theorem neR (h : PairI late g gP gR v vR l a1 a2 D k w) : gR ≠ g := by
  obtain ⟨rest, hb⟩ := h.blk
  exact h.r.blk.type_ne hb (by decide)
theorem nePR (h : PairI late g gP gR v vR l a1 a2 D k w) : gP ≠ gR := h.p.blk.type_ne h.r.blk (by decide)
theorem neV (h : PairI late g gP gR v vR l a1 a2 D k w) : v.ownBlock ≠ some g ∧ vR.ownBlock ≠ some g := by
  obtain ⟨rest, hb⟩ := h.blk
  exact ⟨OwnV.type_ne h.p.own hb (by decide), OwnV.type_ne h.r.own hb (by decide)⟩
/-- what lies apart does not count -/
theorem chg {S : Nat → Prop} (h : PairI late g gP gR v vR l a1 a2 D k w) (c : Chg S w w1) (h0 : ∀ x, S x → ¬ D x) (h1 : ¬ S g) (h2 : ¬ S gP) (h3 : ¬ S gR) (h4 : ∀ x, v.ownBlock = some x → ¬ S x) (h5 : ∀ x, vR.ownBlock = some x → ¬ S x) : PairI late g gP gR v vR l a1 a2 D k w1 :=
  ⟨h.book.chg c (fun x hx => ⟨h0 x hx, fun e => h1 (e ▸ hx)⟩), h.p.chg c h2 h4, h.r.chg c h3 h5, h.bp, h.br, h.bv, h.bvr⟩
theorem chg0 {S : Nat → Prop} (h : PairI late g gP gR v vR l a1 a2 D k w) (c : Chg S w w1) (hS : ∀ x, S x → w.heap.size ≤ x) : PairI late g gP gR v vR l a1 a2 D k w1 :=
  h.chg (S := fun _ => False) (c.mono fun x hx hs => by have := hS x hs; omega) (fun _ h => h.elim) id id id (fun _ _ => id) (fun _ _ => id)
theorem moveP {b : Nat} (h : PairI late g gP gR v vR l a1 a2 D k w) (hp : Rdr w1 gP v l b) (c : Chg (· = gP) w w1) : PairI late g gP gR v vR l b a2 D k w1 :=
  ⟨h.book.chg c (fun x hx => by subst hx; exact ⟨h.bp, h.neP⟩), hp, h.r.chg c (fun e => h.nePR e.symm) (fun x hx e => OwnV.type_ne h.r.own h.p.blk (by decide) (by rw [hx, e])), h.bp, h.br, h.bv, h.bvr⟩
theorem moveR {b : Nat} (h : PairI late g gP gR v vR l a1 a2 D k w) (hr : RdrF w1 gR vR l b) (c : Chg (· = gR) w w1) : PairI late g gP gR v vR l a1 b D k w1 :=
  ⟨h.book.chg c (fun x hx => by subst hx; exact ⟨h.br, h.neR⟩), h.p.chg c h.nePR (fun x hx e => OwnV.type_ne h.p.own h.r.blk (by decide) (by rw [hx, e])), hr, h.bp, h.br, h.bv, h.bvr⟩
/-- the book's own call -/
theorem put {k' N : Nat} {D' S : Nat → Prop} (h : PairI late g gP gR v vR l a1 a2 D k w) (hb : BookI late g 51 [.pointer (some ⟨gP, 0, none⟩), .pointer (some ⟨gR, 0, none⟩)] D' k' w1) (c : Chg S w w1) (hS : ∀ x, S x → x = g ∨ D x ∨ N ≤ x) (hD : ∀ x, D' x → D x ∨ N ≤ x)
    (hP : gP < N) (hR : gR < N) (hv : ∀ x, v.ownBlock = some x → x < N) (hvr : ∀ x, vR.ownBlock = some x → x < N) : PairI late g gP gR v vR l a1 a2 D' k' w1 := by
  have hB : ∀ x, ¬ D x → x < N → x ≠ g → ¬ S x := fun x h0 h1 h2 h3 => by
    rcases hS x h3 with h | h | h
    · exact h2 h
    · exact h0 h
    · omega
  have hD' : ∀ x, ¬ D x → x < N → ¬ D' x := fun x h0 h1 h2 => by
    rcases hD x h2 with h | h
    · exact h0 h
    · omega
  have hV := h.neV
  exact ⟨hb, h.p.chg c (hB _ h.bp hP h.neP) (fun x hx => hB x (h.bv x hx) (hv x hx) (fun e => hV.1 (by rw [hx, e]))), h.r.chg c (hB _ h.br hR h.neR) (fun x hx => hB x (h.bvr x hx) (hvr x hx) (fun e => hV.2 (by rw [hx, e]))), hD' _ h.bp hP, hD' _ h.br hR, fun x hx => hD' x (h.bv x hx) (hv x hx), fun x hx => hD' x (h.bvr x hx) (hvr x hx)⟩
end PairI
end Go.Proofs.Ytcljbaoadmflgaa.Kit
