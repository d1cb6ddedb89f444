/- Records in rows of their own (struct of a number and a list of bytes); append of such. -/
import Derived.Test.YtlnomadhgoblkaaProg
import Derived.Test.YtlnomadhgoblkaaSecs
import Derived.Test.YtlnomadhgoblkaaCells2
import Derived.Deep.Slices
set_option linter.unusedVariables false
set_option linter.unusedSimpArgs false
namespace Go.Proofs.Ytlnomadhgoblkaa.Kit
open Go.RowKit
theorem infoRec : (Try.prog.info? 31).map (fun i => (i.zero, i.size, i.bytes)) = some (some (.agg #[.int .i64 0, .slice none 0 0]), 2, 32) := by kernel_rfl
/-- sections in rows of their own -/
structure Recs (w : World) (v : Value) (l : List SecV) (bs : List Value) : Prop where
  row : OwnV w 31 2 v l.length (tCells l bs)
  lenB : bs.length = l.length
  own : ∀ i (h : i < l.length) (hb : i < bs.length), OwnB w bs[i] l[i].body
theorem Recs.chg {w w1 : World} {v : Value} {l : List SecV} {bs : List Value} {S : Nat → Prop} (h : Recs w v l bs) (c : Chg S w w1) (h1 : ∀ y, v.ownBlock = some y → ¬ S y) (h2 : ∀ b ∈ bs, ∀ y, b.ownBlock = some y → ¬ S y) : Recs w1 v l bs :=
  ⟨h.row.chg c h1, h.lenB, fun i hi hb => (h.own i hi hb).chg c (h2 _ (List.getElem_mem hb))⟩
theorem Recs.nil (w : World) : Recs (w.alloc (.cells #[] 31)) (.slice (some ⟨w.heap.size, 0, none⟩) 0 0) [] [] :=
  ⟨⟨rfl, .inr ⟨w.heap.size, 0, [], rfl, Blk.new' w [] _, Nat.le_refl _, Nat.zero_le _, by simp, rfl⟩⟩, rfl, fun i h => absurd h (by simp)⟩
theorem Recs.snoc {w w3 : World} {v v' b : Value} {l : List SecV} {bs : List Value} {x : SecV} {k : Nat} {S : Nat → Prop} (h : Recs w v l bs) (hk : l.length = k) (c : Chg S w w3) (hS : ∀ y, S y → ¬ ∃ cur, Blk w y 5 cur)
    (hI : OwnV w3 31 2 v' (k + 1) (tCells l bs ++ [.int .i64 x.id, b])) (hO : OwnB w3 b x.body) : Recs w3 v' (l ++ [x]) (bs ++ [b]) := by
  have h1 := h.lenB
  refine ⟨?_, by simp [h1], fun i hi hib => ?_⟩
  · rw [tCells_snoc _ _ _ _ h1.symm, List.length_append, List.length_singleton, hk]
    exact hI
  · by_cases hlt : i < l.length
    · rw [List.getElem_append_left (by omega), List.getElem_append_left hlt]
      have ho := h.own i hlt (by omega)
      exact ho.chg c fun y hy hs => hS y hs (OwnV.typed ho y hy)
    · have : i = l.length := by simp at hi; omega
      subst this
      rw [List.getElem_append_right (by omega), List.getElem_append_right (Nat.le_refl _)]
      simp only [Nat.sub_self, h1, List.getElem_cons_zero]
      exact hO
theorem Recs.rd {w : World} {A : Option Addr} {n c : Nat} {l : List SecV} {bs : List Value} (h : Recs w (.slice A n c) l bs) (hbt : ∀ x ∈ l, Byt x.body) (hrg : ∀ x ∈ l, -9223372036854775808 ≤ x.id ∧ x.id ≤ 9223372036854775807) : RdSecs w A l := fun i hi => by
  have hi2 : i < bs.length := by rw [h.lenB]; omega
  obtain ⟨g1, g2⟩ := tCells_get l bs i hi hi2
  have hnn : n = l.length := by
    obtain ⟨A', c', hv, _⟩ := h.row.slice
    injection hv with _ hn _
  have hrow := h.row
  rw [← hnn] at hrow
  obtain ⟨ad, rfl, k1, _⟩ := hrow.cells _ _ _ rfl _ _ g1
  obtain ⟨ad', e', k2, _⟩ := hrow.cells _ _ _ rfl _ _ g2
  injection e' with e'
  subst e'
  have ho := h.own i hi hi2
  obtain ⟨Ab, cb, hv, h1, h2⟩ := ho.slice
  refine ⟨ad, rfl, k1, ⟨Ab, cb, ?_, h1, h2, ho.rd hv⟩, hbt _ (List.getElem_mem hi), hrg _ (List.getElem_mem hi)⟩
  rw [show (⟨(ad.add (i * 2)).block, (ad.add (i * 2)).off + 1, none⟩ : Addr) = (ad.add (i * 2)).add 1 from rfl, Go.Deep.add_add, ← hv]
  exact k2
theorem Recs.cap {w : World} {A : Option Addr} {n c : Nat} {l : List SecV} {bs : List Value} (h : Recs w (.slice A n c) l bs) : n = l.length ∧ n ≤ c ∧ c ≤ maxLen := by
  obtain ⟨A', c', hv, h1, h2⟩ := h.row.slice
  injection hv with h3 h4 h5
  subst h5
  exact ⟨h4, by omega, h2⟩
end Go.Proofs.Ytlnomadhgoblkaa.Kit
