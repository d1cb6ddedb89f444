/- Unseal, plainly: what it answers of a list of bytes; sections that are handed out. -/
import Derived.Test.YtcljbaoadmflgaaProg
import Derived.Test.YtcljbaoadmflgaaSecs
import Derived.Test.YtcljbaoadmflgaaTurn
set_option linter.unusedVariables false
set_option linter.unusedSimpArgs false
namespace Go.Proofs.Ytcljbaoadmflgaa.Kit
open Go.RowKit
/-- the sections from a place on: the list, the place, the error, where the reader stands -/
def secsRd (l : List Int) : Nat → Int → Nat → List SecV → List SecV × Int × Int × Nat
  | 0, _, p, acc => (acc, 0, 0, p)
  | n + 1, last, p, acc =>
    if (urd (l.drop p) 18446744073709551615).2.2 ≠ 0 then ([], (if (urd (l.drop p) 18446744073709551615).2.2 = 41 then (l.length : Int) else (p : Int)), (urd (l.drop p) 18446744073709551615).2.2, 0)
    else if (urd (l.drop p) 18446744073709551615).1 ≤ last ∨ 255 < (urd (l.drop p) 18446744073709551615).1 then ([], (p : Int), 45, 0)
    else if (urd (l.drop (p + (urd (l.drop p) 18446744073709551615).2.1)) 18446744073709551615).2.2 ≠ 0 then ([], (if (urd (l.drop (p + (urd (l.drop p) 18446744073709551615).2.1)) 18446744073709551615).2.2 = 41 then (l.length : Int) else ((p + (urd (l.drop p) 18446744073709551615).2.1 : Nat) : Int)), (urd (l.drop (p + (urd (l.drop p) 18446744073709551615).2.1)) 18446744073709551615).2.2, 0)
    else if (l.length : Int) - ((p + (urd (l.drop p) 18446744073709551615).2.1 + (urd (l.drop (p + (urd (l.drop p) 18446744073709551615).2.1)) 18446744073709551615).2.1 : Nat) : Int) < (urd (l.drop (p + (urd (l.drop p) 18446744073709551615).2.1)) 18446744073709551615).1 then ([], (l.length : Int), 41, 0)
    else secsRd l n (urd (l.drop p) 18446744073709551615).1 (p + (urd (l.drop p) 18446744073709551615).2.1 + (urd (l.drop (p + (urd (l.drop p) 18446744073709551615).2.1)) 18446744073709551615).2.1 + (urd (l.drop (p + (urd (l.drop p) 18446744073709551615).2.1)) 18446744073709551615).1.toNat)
      (acc ++ [⟨(urd (l.drop p) 18446744073709551615).1, (l.drop (p + (urd (l.drop p) 18446744073709551615).2.1 + (urd (l.drop (p + (urd (l.drop p) 18446744073709551615).2.1)) 18446744073709551615).2.1)).take (urd (l.drop (p + (urd (l.drop p) 18446744073709551615).2.1)) 18446744073709551615).1.toNat⟩])
section
variable {l : List Int} {n p k k2 : Nat} {last x z e e2 : Int} {acc : List SecV}
theorem secsRd_e1 (h : urd (l.drop p) 18446744073709551615 = (x, k, e)) (he : e ≠ 0) : secsRd l (n + 1) last p acc = ([], (if e = 41 then (l.length : Int) else (p : Int)), e, 0) := by
  rw [secsRd, h, if_pos he]
theorem secsRd_bad (h : urd (l.drop p) 18446744073709551615 = (x, k, 0)) (hx : x ≤ last ∨ 255 < x) : secsRd l (n + 1) last p acc = ([], (p : Int), 45, 0) := by
  rw [secsRd, h, if_neg (by simp), if_pos hx]
theorem secsRd_e2 (h : urd (l.drop p) 18446744073709551615 = (x, k, 0)) (hx : ¬ (x ≤ last ∨ 255 < x)) (h2 : urd (l.drop (p + k)) 18446744073709551615 = (z, k2, e2)) (he : e2 ≠ 0) :
    secsRd l (n + 1) last p acc = ([], (if e2 = 41 then (l.length : Int) else ((p + k : Nat) : Int)), e2, 0) := by
  rw [secsRd, h, if_neg (by simp), if_neg hx]
  simp only [h2]
  rw [if_pos he]
theorem secsRd_far (h : urd (l.drop p) 18446744073709551615 = (x, k, 0)) (hx : ¬ (x ≤ last ∨ 255 < x)) (h2 : urd (l.drop (p + k)) 18446744073709551615 = (z, k2, 0)) (hz : (l.length : Int) - ((p + k + k2 : Nat) : Int) < z) :
    secsRd l (n + 1) last p acc = ([], (l.length : Int), 41, 0) := by
  rw [secsRd, h, if_neg (by simp), if_neg hx]
  simp only [h2]
  rw [if_neg (by simp), if_pos hz]
theorem secsRd_ok (h : urd (l.drop p) 18446744073709551615 = (x, k, 0)) (hx : ¬ (x ≤ last ∨ 255 < x)) (h2 : urd (l.drop (p + k)) 18446744073709551615 = (z, k2, 0)) (hz : ¬ (l.length : Int) - ((p + k + k2 : Nat) : Int) < z) :
    secsRd l (n + 1) last p acc = secsRd l n x (p + k + k2 + z.toNat) (acc ++ [⟨x, (l.drop (p + k + k2)).take z.toNat⟩]) := by
  rw [secsRd, h, if_neg (by simp), if_neg hx]
  simp only [h2]
  rw [if_neg (by simp), if_neg hz]
end
/-- the number of sections, and they -/
def secsHd (l : List Int) : List SecV × Int × Int × Nat :=
  if (urd (l.drop 8) 18446744073709551615).2.2 ≠ 0 then ([], (if (urd (l.drop 8) 18446744073709551615).2.2 = 41 then (l.length : Int) else 8), (urd (l.drop 8) 18446744073709551615).2.2, 0)
  else if 64 < (urd (l.drop 8) 18446744073709551615).1 then ([], 8, 45, 0)
  else secsRd l (urd (l.drop 8) 18446744073709551615).1.toNat 0 (8 + (urd (l.drop 8) 18446744073709551615).2.1) []
theorem secsHd_e {l : List Int} {x e : Int} {k : Nat} (h : urd (l.drop 8) 18446744073709551615 = (x, k, e)) (he : e ≠ 0) : secsHd l = ([], (if e = 41 then (l.length : Int) else 8), e, 0) := by
  rw [secsHd, h, if_pos he]
theorem secsHd_big {l : List Int} {x : Int} {k : Nat} (h : urd (l.drop 8) 18446744073709551615 = (x, k, 0)) (hx : 64 < x) : secsHd l = ([], 8, 45, 0) := by
  rw [secsHd, h, if_neg (by simp), if_pos hx]
theorem secsHd_ok {l : List Int} {x : Int} {k : Nat} (h : urd (l.drop 8) 18446744073709551615 = (x, k, 0)) (hx : ¬ 64 < x) : secsHd l = secsRd l x.toNat 0 (8 + k) [] := by
  rw [secsHd, h, if_neg (by simp), if_neg hx]
/-- all of the bytes ahead of the sum -/
def secsOf (l : List Int) : List SecV × Int × Int :=
  if (secsHd l).2.2.1 ≠ 0 then ([], (secsHd l).2.1, (secsHd l).2.2.1) else if (secsHd l).2.2.2 < l.length then ([], ((secsHd l).2.2.2 : Int), 46) else ((secsHd l).1, 0, 0)
/-- where l parts from the mark -/
def beginsP (m l : List Int) : Nat → Nat → Int × Int
  | 0, _ => (0, 0)
  | f + 1, i => if l.length ≤ i then ((i : Int), 41) else if l[i]? ≠ m[i]? then ((i : Int), 43) else beginsP m l f (i + 1)
/-- what Unseal answers -/
def unsealOf (s : ByteArray) (l : List Int) : List SecV × Int × Int :=
  if s.size ≠ 8 then ([], 0, 1) else if (beginsP (bytesOf s) l 8 0).2 ≠ 0 then ([], (beginsP (bytesOf s) l 8 0).1, (beginsP (bytesOf s) l 8 0).2)
  else if l.length < 13 then ([], (l.length : Int), 41) else if sumB (vi (crc (l.take (l.length - 4)))) ≠ l.drop (l.length - 4) then ([], ((l.length - 4 : Nat) : Int), 44)
  else secsOf (l.take (l.length - 4))
/-- blocks of bodies, all unlike -/
def ApartL (bs : List Value) : Prop := bs.Pairwise fun a b => ∀ y, a.ownBlock = some y → b.ownBlock ≠ some y
/-- sections in new memory -/
structure SecsMade (S : Nat → Prop) (w w1 : World) (A : Option Addr) (n c : Nat) (l : List SecV) (bs : List Value) : Prop where
  secs : Secs w1 (.slice A n c) l bs
  chg : Chg S w w1
  new : ∀ k, Value.ownBlock (.slice A n c) = some k → w.heap.size ≤ k
  newB : ∀ b ∈ bs, ∀ k, b.ownBlock = some k → w.heap.size ≤ k
  apart : ApartL bs
theorem Secs.none (w : World) : Secs w (.slice none 0 0) [] [] := ⟨⟨rfl, .inl ⟨rfl, rfl⟩⟩, rfl, fun i h => absurd h (by simp)⟩
theorem SecsMade.none {S : Nat → Prop} {w w1 : World} (h : Chg S w w1) : SecsMade S w w1 none 0 0 [] [] := ⟨Secs.none w1, h, fun k hk => by simp [Value.ownBlock] at hk, fun b hb => absurd hb (by simp), .nil⟩
theorem ApartL.snoc {bs : List Value} {b : Value} (h : ApartL bs) (hb : ∀ x ∈ bs, ∀ y, x.ownBlock = some y → b.ownBlock ≠ some y) : ApartL (bs ++ [b]) := by
  unfold ApartL
  rw [List.pairwise_append]
  exact ⟨h, by simp, fun x hx z hz y hy => by
    rw [List.mem_singleton] at hz
    subst hz
    exact hb x hx y hy⟩
end Go.Proofs.Ytcljbaoadmflgaa.Kit
