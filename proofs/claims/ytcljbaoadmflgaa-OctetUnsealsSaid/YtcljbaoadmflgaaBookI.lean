/- The laws' Book, both ways: what holds of it between two calls; put, kept. -/
import Derived.Test.YtcljbaoadmflgaaProg
import Derived.Test.YtcljbaoadmflgaaBookK
import Derived.Test.YtcljbaoadmflgaaBookP
set_option linter.unusedVariables false
set_option linter.unusedSimpArgs false
namespace Go.Proofs.Ytcljbaoadmflgaa.Kit
open Go.RowKit
/-- A book in block g behind pre: its rows and what was put into it lie in blocks of D; at most k puts. -/
structure BookI (late : Bool) (g : Nat) (e : TypeId) (pre : List Value) (D : Nat → Prop) (k : Nat) (w : World) : Prop where
  ex : ∃ L raw was, Blk w g e (pre ++ [L, .bool late, raw, was]) ∧ (∀ x, L.ownBlock = some x → D x) ∧ (∀ x, raw.ownBlock = some x → D x) ∧ (∀ x, was.ownBlock = some x → D x) ∧
    (late = false → ∃ es : List Ent, es.length ≤ k ∧ BookL w L D es) ∧
    (late = true → L = .slice none 0 0 ∧ ∃ ls : List LEnt, ls.length ≤ k ∧ LateL w raw was D ls)
  size : ∀ x, D x → x < w.heap.size
  out : ¬ D g
theorem LateL.chg {w w1 : World} {raw was : Value} {bs S : Nat → Prop} {ls : List LEnt} (h : LateL w raw was bs ls) (c : Chg S w w1) (h1 : ∀ x, raw.ownBlock = some x → ¬ S x) (h2 : ∀ x, was.ownBlock = some x → ¬ S x) (hS : ∀ g, bs g → ¬ S g) : LateL w1 raw was bs ls :=
  ⟨h.rowR.chg c h1, h.rowW.chg c h2, fun x hx => (h.ent x hx).chg c fun g hg _ => hS g hg, h.apart, h.ne⟩
theorem LateL.mono {w : World} {raw was : Value} {bs cs : Nat → Prop} {ls : List LEnt} (h : LateL w raw was bs ls) (hS : ∀ g, bs g → cs g) : LateL w raw was cs ls :=
  ⟨h.rowR, h.rowW, fun x hx => (h.ent x hx).mono hS, h.apart, h.ne⟩
theorem LateL.none (w : World) (bs : Nat → Prop) : LateL w (.slice none 0 0) (.slice none 0 0) bs [] :=
  ⟨OwnV.nil _ _ _, OwnV.nil _ _ _, fun x hx => absurd hx (by simp), .nil, fun g hg => by simp [Value.ownBlock] at hg⟩
theorem BookI.lt {late : Bool} {g : Nat} {e : TypeId} {pre : List Value} {D : Nat → Prop} {k : Nat} {w : World} (h : BookI late g e pre D k w) : g < w.heap.size := by
  obtain ⟨L, raw, was, hb, _⟩ := h.ex
  exact hb.lt
theorem BookI.chg {late : Bool} {g : Nat} {e : TypeId} {pre : List Value} {D : Nat → Prop} {k : Nat} {w w1 : World} {S : Nat → Prop} (h : BookI late g e pre D k w) (c : Chg S w w1) (hS : ∀ x, S x → ¬ D x ∧ x ≠ g) : BookI late g e pre D k w1 := by
  obtain ⟨L, raw, was, hb, h1, h2, h3, h4, h5⟩ := h.ex
  have hB : ∀ x, D x → ¬ S x := fun x hx hs => (hS x hs).1 hx
  refine ⟨⟨L, raw, was, hb.chg c (fun hs => (hS g hs).2 rfl), h1, h2, h3, fun hl => ?_, fun hl => ?_⟩, fun x hx => Nat.lt_of_lt_of_le (h.size x hx) c.size, h.out⟩
  · obtain ⟨es, hk, hL⟩ := h4 hl
    exact ⟨es, hk, hL.chg c (fun x hx => hB x (h1 x hx)) (fun x hx => hB x hx)⟩
  · obtain ⟨hL, ls, hk, hr⟩ := h5 hl
    exact ⟨hL, ls, hk, hr.chg c (fun x hx => hB x (h2 x hx)) (fun x hx => hB x (h3 x hx)) (fun x hx => hB x hx)⟩
theorem BookI.drewN {late : Bool} {g : Nat} {e : TypeId} {pre : List Value} {D : Nat → Prop} {k : Nat} {w : World} (h : BookI late g e pre D k w) (n : Nat) : BookI late g e pre D k (w.drewN n) :=
  h.chg (S := fun _ => False) ((Chg.refl _ w).drewN n) (fun _ h => h.elim)
/-- a book that is new -/
theorem BookI.new {late : Bool} {g : Nat} {e : TypeId} {pre : List Value} {w : World} (hb : Blk w g e (pre ++ [.slice none 0 0, .bool late, .slice none 0 0, .slice none 0 0])) : BookI late g e pre (fun _ => False) 0 w :=
  ⟨⟨_, _, _, hb, fun x hx => by simp [Value.ownBlock] at hx, fun x hx => by simp [Value.ownBlock] at hx, fun x hx => by simp [Value.ownBlock] at hx, fun _ => ⟨[], by simp, BookL.none _ _⟩, fun _ => ⟨rfl, [], by simp, LateL.none _ _⟩⟩, fun _ h => h.elim, id⟩
theorem putI (late : Bool) (g : Nat) (e : TypeId) (pre : List Value) (D : Nat → Prop) (k : Nat) (lv : Value) (l : List Int) (w : World) (he : e ≠ 5) (he2 : e ≠ 22) (hI : Hid (BookI late g e pre D k w)) (hl : Hid (OwnB w lv l)) (hN : Hid (∀ x, lv.ownBlock = some x → ¬ D x)) (hk : k ≤ 1099511627776) (hn : l.length ≤ 140737488355238) (o : Nat) (ho : o = pre.length) :
    Calls Try.prog 42 #[.pointer (some ⟨g, o, none⟩), lv] w (fun e1 w' => e1 = .returned (.tuple #[]) ∧ BookI late g e pre (fun x => D x ∨ lv.ownBlock = some x ∨ (w.heap.size ≤ x ∧ x < w'.heap.size)) (k + 1) w' ∧ Chg (fun x => x = g ∨ D x ∨ lv.ownBlock = some x) w w') := by
  obtain ⟨L, raw, was, hb, h1, h2, h3, h4, h5⟩ := hI.out.ex
  have hs := hI.out.size
  have hng : ∀ w' : World, ¬ (D g ∨ lv.ownBlock = some g ∨ (w.heap.size ≤ g ∧ g < w'.heap.size)) := fun w' h => by
    rcases h with h | h | h
    · exact hI.out.out h
    · exact OwnV.type_ne hl.out hb he.symm h
    · have := hb.lt
      omega
  subst ho
  cases late
  · obtain ⟨es, hk2, hL⟩ := h4 rfl
    refine (putM g pre.length e _ L lv l es D w he he2 hb (by simp) (by simp) hL hl hN hs (by omega) hn).mono ?_
    rintro e1 w' ⟨L', lv', rfl, k1, k2, k3, k4⟩
    have hsz := k3.size
    have hL'lt := k2.row.lt
    refine ⟨rfl, ⟨⟨L', raw, was, by simpa using k1, fun x hx => ?_, fun x hx => .inl (h2 x hx), fun x hx => .inl (h3 x hx), fun _ => ⟨_, ?_, k2⟩, fun h => by cases h⟩, fun x hx => ?_, hng w'⟩, k3.mono fun x hx h => ?_⟩
    · rcases k4 with k4 | k4
      · exact .inl (h1 x (k4 ▸ hx))
      · exact .inr (.inr ⟨k4 x hx, hL'lt x hx⟩)
    · simp
      omega
    · rcases hx with hx | hx | hx
      · exact Nat.lt_of_lt_of_le (hs x hx) hsz
      · exact Nat.lt_of_lt_of_le (hl.out.lt x hx) hsz
      · exact hx.2
    · rcases h with h | h | h
      · exact .inl h
      · exact .inr (.inl (h1 x h))
      · exact .inr (.inr h)
  · obtain ⟨rfl, ls, hk2, hr⟩ := h5 rfl
    refine (putL g pre.length e _ raw was lv l ls D w he he2 hb (by simp) (by simp) (by simp) hr hl hN hs (by omega) hn).mono ?_
    rintro e1 w' ⟨raw', was', lu, rfl, k1, k2, k3, k4, k5⟩
    have hsz := k3.size
    have hRlt := k2.rowR.lt
    have hWlt := k2.rowW.lt
    refine ⟨rfl, ⟨⟨.slice none 0 0, raw', was', by simpa using k1, fun x hx => .inl (h1 x hx), fun x hx => ?_, fun x hx => ?_, fun h => (by cases h), fun _ => ⟨rfl, _, ?_, k2⟩⟩, fun x hx => ?_, hng w'⟩, k3.mono fun x hx h => ?_⟩
    · rcases k4 with k4 | k4
      · exact .inl (h2 x (k4 ▸ hx))
      · exact .inr (.inr ⟨k4 x hx, hRlt x hx⟩)
    · rcases k5 with k5 | k5
      · exact .inl (h3 x (k5 ▸ hx))
      · exact .inr (.inr ⟨k5 x hx, hWlt x hx⟩)
    · simp
      omega
    · rcases hx with hx | hx | hx
      · exact Nat.lt_of_lt_of_le (hs x hx) hsz
      · exact Nat.lt_of_lt_of_le (hl.out.lt x hx) hsz
      · exact hx.2
    · rcases h with h | h | h
      · exact .inl h
      · exact .inr (.inl (h2 x h))
      · exact .inr (.inl (h3 x h))
theorem keptI (late : Bool) (g : Nat) (e : TypeId) (pre : List Value) (D : Nat → Prop) (k : Nat) (w : World) (hI : Hid (BookI late g e pre D k w)) (hk : k ≤ 1099511627776) (o : Nat) (ho : o = pre.length) :
    Calls Try.prog 43 #[.pointer (some ⟨g, o, none⟩)] w (fun e1 w' => e1 = .returned (.bool true) ∧ w = w') := by
  obtain ⟨L, raw, was, hb, h1, h2, h3, h4, h5⟩ := hI.out.ex
  subst ho
  cases late
  · obtain ⟨es, hk2, hL⟩ := h4 rfl
    exact kept g pre.length e _ L es _ w hb (by simp) hL (by omega)
  · obtain ⟨rfl, _⟩ := h5 rfl
    exact kept g pre.length e _ _ [] (fun _ => False) w hb (by simp) (BookL.none _ _) (by simp)
end Go.Proofs.Ytcljbaoadmflgaa.Kit
