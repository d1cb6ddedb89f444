/- Unseal: what it hands out is small; the calls in names. -/
import Derived.Test.YtcljbaoadmflgaaProg
import Derived.Test.YtcljbaoadmflgaaUnsD
set_option linter.unusedVariables false
set_option linter.unusedSimpArgs false
namespace Go.Proofs.Ytcljbaoadmflgaa.Kit
open Go.RowKit
/-- what Unseal hands out: at most 64 sections, each body a part of the bytes -/
def SmallS (N : Nat) (L : List SecV) : Prop := L.length ≤ 64 ∧ ∀ x ∈ L, x.body.length ≤ N ∧ Byt x.body ∧ -9223372036854775808 ≤ x.id ∧ x.id ≤ 9223372036854775807
theorem secsRd_small {l : List Int} (hb : Byt l) : ∀ (n : Nat) (last : Int) (p : Nat) (acc : List SecV), 0 ≤ last → (∀ x ∈ acc, x.body.length ≤ l.length ∧ Byt x.body ∧ -9223372036854775808 ≤ x.id ∧ x.id ≤ 9223372036854775807) → (secsRd l n last p acc).1.length ≤ acc.length + n ∧ ∀ x ∈ (secsRd l n last p acc).1, x.body.length ≤ l.length ∧ Byt x.body ∧ -9223372036854775808 ≤ x.id ∧ x.id ≤ 9223372036854775807
  | 0, last, p, acc, h0, h => ⟨Nat.le_refl _, h⟩
  | n + 1, last, p, acc, h0, h => by
    obtain ⟨x, k, e, hu⟩ : ∃ x k e, urd (l.drop p) 18446744073709551615 = (x, k, e) := ⟨_, _, _, rfl⟩
    have hx := urd_range (l.drop p) 18446744073709551615
    rw [hu] at hx
    simp only at hx
    by_cases he : e = 0
    · subst he
      by_cases hbad : x ≤ last ∨ 255 < x
      · rw [secsRd_bad hu hbad]
        exact ⟨by simp, fun x hx => absurd hx (by simp)⟩
      · obtain ⟨z, k2, e2, hu2⟩ : ∃ z k2 e2, urd (l.drop (p + k)) 18446744073709551615 = (z, k2, e2) := ⟨_, _, _, rfl⟩
        by_cases he2 : e2 = 0
        · subst he2
          by_cases hfar : (l.length : Int) - ((p + k + k2 : Nat) : Int) < z
          · rw [secsRd_far hu hbad hu2 hfar]
            exact ⟨by simp, fun x hx => absurd hx (by simp)⟩
          · rw [secsRd_ok hu hbad hu2 hfar]
            obtain ⟨h1, h2⟩ := secsRd_small hb n x (p + k + k2 + z.toNat) (acc ++ [⟨x, (l.drop (p + k + k2)).take z.toNat⟩]) (by omega) (fun y hy => by
              rcases List.mem_append.1 hy with hy | hy
              · exact h y hy
              · rw [List.mem_singleton] at hy
                subst hy
                refine ⟨by simp; omega, fun q hq => hb q (List.mem_of_mem_drop (List.mem_of_mem_take hq)), by simp; omega, by simp; omega⟩)
            refine ⟨?_, h2⟩
            rw [List.length_append] at h1
            simp at h1
            omega
        · rw [secsRd_e2 hu hbad hu2 he2]
          exact ⟨by simp, fun x hx => absurd hx (by simp)⟩
    · rw [secsRd_e1 hu he]
      exact ⟨by simp, fun x hx => absurd hx (by simp)⟩
theorem secsHd_small {l : List Int} (hb : Byt l) : SmallS l.length (secsHd l).1 := by
  obtain ⟨x, k, e, hu⟩ : ∃ x k e, urd (l.drop 8) 18446744073709551615 = (x, k, e) := ⟨_, _, _, rfl⟩
  have hx := urd_range (l.drop 8) 18446744073709551615
  rw [hu] at hx
  simp only at hx
  by_cases he : e = 0
  · subst he
    by_cases h64 : 64 < x
    · rw [secsHd_big hu h64]
      exact ⟨by simp, fun x hx => absurd hx (by simp)⟩
    · rw [secsHd_ok hu h64]
      obtain ⟨h1, h2⟩ := secsRd_small hb x.toNat 0 (8 + k) [] (Int.le_refl 0) (fun x hx => absurd hx (by simp))
      exact ⟨by simp at h1; omega, h2⟩
  · rw [secsHd_e hu he]
    exact ⟨by simp, fun x hx => absurd hx (by simp)⟩
theorem SmallS.nil (N : Nat) : SmallS N [] := ⟨by simp, fun x hx => absurd hx (by simp)⟩
theorem SmallS.mono {N M : Nat} {L : List SecV} (h : SmallS N L) (hNM : N ≤ M) : SmallS M L := ⟨h.1, fun x hx => ⟨Nat.le_trans (h.2 x hx).1 hNM, (h.2 x hx).2⟩⟩
theorem unsealOf_small {s : ByteArray} {l : List Int} (hb : Byt l) : SmallS l.length (unsealOf s l).1 := by
  have hs := secsHd_small (l := l.take (l.length - 4)) (fun z hz => hb z (List.mem_of_mem_take hz))
  unfold unsealOf
  split
  · exact SmallS.nil _
  · split
    · exact SmallS.nil _
    · split
      · exact SmallS.nil _
      · split
        · exact SmallS.nil _
        · unfold secsOf
          split
          · exact SmallS.nil _
          · split
            · exact SmallS.nil _
            · exact hs.mono (by simp)
theorem unsealCall' {s : ByteArray} {A : Option Addr} {n c : Nat} {l : List Int} {w : World} {L : List SecV} {p e : Int} (hR : Hid (unsealOf s l = (L, p, e))) (HN : Hid (n = l.length)) (hnc : n ≤ c) (hmx : c ≤ maxLen) (hl : Hid (l.length ≤ 140737488355328)) (hb : Hid (Byt l)) (hr : Hid (Rd w .u8 A l)) (hss : s.size ≤ 140737488355328) :
    Calls Try.prog 44 #[.string s, .slice A n c] w fun ed w' => ∃ A c bs, ed = .returned (.tuple #[.slice A L.length c, .int .i64 p, .int .i64 e]) ∧ SecsMade (fun _ => False) w w' A L.length c L bs :=
  (unsealCall hR HN hnc hmx hl hb hr hss).mono fun ed w' ⟨A, n, c, bs, he, hm⟩ => by
    obtain ⟨rfl, _⟩ := hm.secs.cap
    exact ⟨A, c, bs, he, hm⟩
end Go.Proofs.Ytcljbaoadmflgaa.Kit
