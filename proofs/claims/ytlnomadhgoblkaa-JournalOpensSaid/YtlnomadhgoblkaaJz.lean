/- The journal's laws: filled. -/
import Derived.Test.YtlnomadhgoblkaaProg
import Derived.Test.YtlnomadhgoblkaaJy
set_option linter.unusedVariables false
set_option linter.unusedSimpArgs false
namespace Go.Proofs.Ytlnomadhgoblkaa.Kit
open Go.RowKit
/-- a row of records of its own whose bodies are read -/
structure RecsR (w0 w : World) (v : Value) (l : List SecV) (bs : List Value) : Prop where
  row : OwnV w 31 2 v l.length (tCells l bs)
  lenB : bs.length = l.length
  rd : ∀ i (h : i < l.length) (hb : i < bs.length), ∃ A c, bs[i] = .slice A l[i].body.length c ∧ l[i].body.length ≤ c ∧ c ≤ maxLen ∧ Rd w0 .u8 A l[i].body
  byt : ∀ x ∈ l, Byt x.body
  rng : ∀ x ∈ l, -9223372036854775808 ≤ x.id ∧ x.id ≤ 9223372036854775807
theorem RecsR.secs {w0 w : World} {A : Option Addr} {n c : Nat} {l : List SecV} {bs : List Value} (h : RecsR w0 w (.slice A n c) l bs) (hc : Chg (fun _ => False) w0 w) : RdSecs w A l := fun i hi => by
  have hi2 : i < bs.length := by rw [h.lenB]; omega
  obtain ⟨g1, g2⟩ := tCells_get l bs i hi hi2
  have hnn : n = l.length := by
    obtain ⟨A', c', hv, _⟩ := h.row.slice
    injection hv with _ hn _
  have hrow := h.row
  rw [← hnn] at hrow
  obtain ⟨ad, rfl, k1, _⟩ := hrow.cells _ _ _ rfl _ _ g1
  obtain ⟨ad', e', k2, _⟩ := hrow.cells _ _ _ rfl _ _ g2
  injection e' with e'
  subst e'
  obtain ⟨Ab, cb, hv, h1, h2, h3⟩ := h.rd i hi hi2
  refine ⟨ad, rfl, k1, ⟨Ab, cb, ?_, h1, h2, h3.below hc.done⟩, h.byt _ (List.getElem_mem hi), h.rng _ (List.getElem_mem hi)⟩
  rw [show (⟨(ad.add (i * 2)).block, (ad.add (i * 2)).off + 1, none⟩ : Addr) = (ad.add (i * 2)).add 1 from rfl, Go.Deep.add_add, ← hv]
  exact k2
theorem RecsR.nil (w0 w : World) : RecsR w0 w (.slice none 0 0) [] [] := ⟨OwnV.nil _ _ _, rfl, fun i hi => absurd hi (by simp), fun x hx => absurd hx (by simp), fun x hx => absurd hx (by simp)⟩
theorem RecsR.chg {w0 w w1 : World} {v : Value} {l : List SecV} {bs : List Value} {S : Nat → Prop} (h : RecsR w0 w v l bs) (k : Chg S w w1) (hS : ∀ y, v.ownBlock = some y → ¬ S y) : RecsR w0 w1 v l bs := ⟨h.row.chg k hS, h.lenB, h.rd, h.byt, h.rng⟩
theorem RecsR.snoc {w0 w w1 : World} {v v' : Value} {l : List SecV} {bs : List Value} {x : SecV} {A : Option Addr} {n c : Nat} (h : RecsR w0 w v l bs) (hr : OwnV w1 31 2 v' (l.length + 1) (tCells l bs ++ [.int .i64 x.id, .slice A n c])) (hn : n = x.body.length) (hnc : n ≤ c) (hc : c ≤ maxLen) (hrd : Rd w0 .u8 A x.body) (hb : Byt x.body) (hg : -9223372036854775808 ≤ x.id ∧ x.id ≤ 9223372036854775807) : RecsR w0 w1 v' (l ++ [x]) (bs ++ [.slice A n c]) := by
  refine ⟨?_, by simp [h.lenB], fun i hi hb' => ?_, fun y hy => ?_, fun y hy => ?_⟩
  · rw [tCells_snoc _ _ _ _ h.lenB.symm, List.length_append]
    exact hr
  · by_cases hlt : i < l.length
    · have hlb : i < bs.length := by rw [h.lenB]; exact hlt
      obtain ⟨A', c', e, h1, h2, h3⟩ := h.rd i hlt hlb
      refine ⟨A', c', ?_, ?_⟩
      · rw [List.getElem_append_left hlb, List.getElem_append_left hlt]
        exact e
      · rw [List.getElem_append_left hlt]
        exact ⟨h1, h2, h3⟩
    · have hil : i = l.length := by
        rw [List.length_append, List.length_singleton] at hi
        omega
      subst hil
      refine ⟨A, c, ?_, ?_⟩
      · rw [List.getElem_append_right (by rw [h.lenB]; omega), List.getElem_append_right (by omega)]
        simp [hn]
      · rw [List.getElem_append_right (by omega)]
        simp only [Nat.sub_self, List.getElem_cons_zero]
        exact ⟨by rw [← hn]; exact hnc, hc, hrd⟩
  · rcases List.mem_append.1 hy with hy | hy
    · exact h.byt y hy
    · rw [List.mem_singleton.1 hy]
      exact hb
  · rcases List.mem_append.1 hy with hy | hy
    · exact h.rng y hy
    · rw [List.mem_singleton.1 hy]
      exact hg
/-- what a list of records leaves in a journal -/
def jfill (l : List SecV) : List SecV := l.foldl (fun acc x => (jappRes acc x).2) []
theorem jfill_snoc (l : List SecV) (x : SecV) : jfill (l ++ [x]) = (jappRes (jfill l) x).2 := by
  rw [jfill, List.foldl_append]
  rfl
theorem jappRes_cases (l : List SecV) (x : SecV) : (¬ okRec x ∧ ((jappRes l x = (1, l)) ∨ jappRes l x = (6, l))) ∨ (okRec x ∧ ((268435456 < (jnlBytes l).length + (recEnc l.length x).length ∧ jappRes l x = (4, l)) ∨ (¬ 268435456 < (jnlBytes l).length + (recEnc l.length x).length ∧ jappRes l x = (0, l ++ [x])))) := by
  unfold jappRes okRec
  by_cases h1 : x.id < 1 ∨ 255 < x.id
  · rw [if_pos h1]
    exact .inl ⟨fun h => by omega, .inl rfl⟩
  · rw [if_neg h1]
    by_cases h2 : 4194304 < x.body.length
    · rw [if_pos h2]
      exact .inl ⟨fun h => by omega, .inr rfl⟩
    · rw [if_neg h2]
      refine .inr ⟨by omega, ?_⟩
      by_cases h3 : 268435456 < (jnlBytes l).length + (recEnc l.length x).length
      · rw [if_pos h3]
        exact .inl ⟨h3, rfl⟩
      · rw [if_neg h3]
        exact .inr ⟨h3, rfl⟩
end Go.Proofs.Ytlnomadhgoblkaa.Kit
