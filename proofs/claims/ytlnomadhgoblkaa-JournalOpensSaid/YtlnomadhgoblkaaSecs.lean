/- Sections: what is written of them; lists of sections that are read. -/
import Derived.Test.YtlnomadhgoblkaaProg
import Derived.Test.YtlnomadhgoblkaaOctLaw
import Derived.Test.YtlnomadhgoblkaaOctX
import Derived.Test.YtlnomadhgoblkaaPlainV
import Derived.Test.YtlnomadhgoblkaaPlainC
set_option linter.unusedVariables false
set_option linter.unusedSimpArgs false
namespace Go.Proofs.Ytlnomadhgoblkaa.Kit
open Go.RowKit
/-- a section -/
structure SecV where
  id : Int
  body : List Int
def SecV.enc (x : SecV) : List Int := vb x.id.toNat ++ (vb x.body.length ++ x.body)
def secsEnc (l : List SecV) : List Int := l.flatMap SecV.enc
/-- the four bytes of a checksum -/
def sumB (c : Int) : List Int := [c % 256, c / 256 % 256, c / 65536 % 256, c / 16777216]
theorem sumB_length (c : Int) : (sumB c).length = 4 := rfl
theorem sumB_byt (c : Int) (h0 : 0 ≤ c) (h1 : c < 4294967296) : Byt (sumB c) := fun z hz => by
  simp [sumB] at hz
  omega
/-- the Ids rise, from beyond last on -/
def goodFrom : Int → List SecV → Bool
  | _, [] => true
  | last, x :: xs => decide (last < x.id) && (decide (x.id ≤ 255) && goodFrom x.id xs)
def goodSecs (l : List SecV) : Bool := decide (l.length ≤ 64) && goodFrom 0 l
/-- what stands ahead of the sum -/
def headOf (s : ByteArray) (l : List SecV) : List Int := bytesOf s ++ vb l.length ++ secsEnc l
/-- what Seal answers -/
def sealOf (s : ByteArray) (l : List SecV) : List Int × Int :=
  if s.size ≠ 8 then ([], 1) else if goodSecs l = true then (headOf s l ++ sumB (vi (crc (headOf s l))), 0) else ([], 45)
/-- a list of sections, read -/
structure SecAt (w : World) (ad : Addr) (i : Nat) (x : SecV) : Prop where
  id : w.cell? (ad.add (i * 2)) = some (.int .i64 x.id)
  body : ∃ A c, w.cell? ⟨(ad.add (i * 2)).block, (ad.add (i * 2)).off + 1, none⟩ = some (.slice A x.body.length c) ∧ x.body.length ≤ c ∧ c ≤ maxLen ∧ Rd w .u8 A x.body
  byt : Byt x.body
  rng : -9223372036854775808 ≤ x.id ∧ x.id ≤ 9223372036854775807
def RdSecs (w : World) (A : Option Addr) (l : List SecV) : Prop := ∀ i (h : i < l.length), ∃ ad, A = some ad ∧ SecAt w ad i l[i]
theorem SecAt.below {w w' : World} {ad : Addr} {i : Nat} {x : SecV} (h : SecAt w ad i x) (hb : Below w.heap.size w w') : SecAt w' ad i x := by
  have c : ∀ {p : Addr} {v : Value}, w.cell? p = some v → w'.cell? p = some v := fun hc => (hb.cell (World.block_lt_of_cell? w _ hc)).trans hc
  obtain ⟨A, d, h1, h2, h3, h4⟩ := h.body
  exact ⟨c h.id, ⟨A, d, c h1, h2, h3, h4.below hb⟩, h.byt, h.rng⟩
theorem RdSecs.below {w w' : World} {A : Option Addr} {l : List SecV} (h : RdSecs w A l) (hb : Below w.heap.size w w') : RdSecs w' A l := fun i hi => by
  obtain ⟨ad, h1, h2⟩ := h i hi
  exact ⟨ad, h1, h2.below hb⟩
theorem RdSecs.nil (w : World) (A : Option Addr) : RdSecs w A [] := fun i h => absurd h (by simp)
theorem secsEnc_succ (l : List SecV) (k : Nat) (h : k < l.length) : secsEnc (l.take (k + 1)) = secsEnc (l.take k) ++ l[k].enc := by
  unfold secsEnc
  rw [List.take_succ_eq_append_getElem h, List.flatMap_append, List.flatMap_singleton]
/-- the Id ahead of place k -/
def lastAt (l : List SecV) : Nat → Int
  | 0 => 0
  | k + 1 => (l[k]?.map SecV.id).getD 0
theorem good_step {l : List SecV} {k : Nat} (h : k < l.length) : goodFrom (lastAt l k) (l.drop k) = (decide (lastAt l k < l[k].id) && (decide (l[k].id ≤ 255) && goodFrom (lastAt l (k + 1)) (l.drop (k + 1)))) := by
  rw [List.drop_eq_getElem_cons h, show lastAt l (k + 1) = l[k].id by simp [lastAt, List.getElem?_eq_getElem h]]
  rfl
theorem good_all : ∀ (l : List SecV) (la : Int), 0 ≤ la → goodFrom la l = true → ∀ x ∈ l, 0 < x.id ∧ x.id ≤ 255
  | [], _, _, _ => fun x hx => absurd hx (by simp)
  | y :: ys, la, h0, h => fun x hx => by
    simp only [goodFrom, Bool.and_eq_true, decide_eq_true_eq] at h
    rcases List.mem_cons.1 hx with rfl | hx
    · exact ⟨by omega, h.2.1⟩
    · exact good_all ys y.id (by omega) h.2.2 x hx
theorem bytesOf_strOf {l : List Int} (hb : Byt l) : bytesOf (strOf l) = l := by
  unfold bytesOf strOf
  rw [strOfNums_data, List.map_map]
  conv => rhs; rw [← List.map_id l]
  refine List.map_congr_left fun x hx => ?_
  have := hb x hx
  simp
  omega
theorem strOf_size (l : List Int) : (strOf l).size = l.length := strOfNums_size l
theorem vb_len3 {n : Nat} (h : n < 256) : (vb n).length ≤ 10 := vb_len10 (by omega)
theorem enc_len_le (x : SecV) (hi : x.id ≤ 255) (hl : x.body.length ≤ 1099511627776) : x.enc.length ≤ x.body.length + 20 := by
  have h1 : (vb x.id.toNat).length ≤ 10 := vb_len10 (by omega)
  have h2 : (vb x.body.length).length ≤ 10 := vb_len10 (by omega)
  simp only [SecV.enc, List.length_append]
  omega
theorem secsEnc_take_len (l : List SecV) (B : Nat) (hl : ∀ x ∈ l, x.enc.length ≤ B) (k : Nat) : (secsEnc (l.take k)).length ≤ k * B := by
  induction k with
  | zero => simp [secsEnc]
  | succ k ih =>
    rw [Nat.add_mul, Nat.one_mul]
    by_cases h : k < l.length
    · rw [secsEnc_succ l k h, List.length_append]
      exact Nat.add_le_add ih (hl l[k] (List.getElem_mem h))
    · have h1 : l.take k = l := List.take_of_length_le (Nat.le_of_not_lt h)
      have h2 : l.take (k + 1) = l := List.take_of_length_le (Nat.le_succ_of_le (Nat.le_of_not_lt h))
      rw [h1] at ih
      rw [h2]
      exact Nat.le_trans ih (Nat.le_add_right _ _)
theorem secsEnc_le (l : List SecV) (k : Nat) : (secsEnc (l.take k)).length ≤ (secsEnc l).length := by
  unfold secsEnc
  conv => rhs; rw [← List.take_append_drop k l]
  rw [List.flatMap_append, List.length_append]
  omega
theorem headOf_length (s : ByteArray) (l : List SecV) : (headOf s l).length = s.size + (vb l.length).length + (secsEnc l).length := by
  simp [headOf, bytesOf_length]
  omega
theorem secsEnc_byt (l : List SecV) (h : ∀ x ∈ l, Byt x.body) : Byt (secsEnc l) := by
  intro z hz
  obtain ⟨x, hx, hz⟩ := List.mem_flatMap.1 hz
  unfold SecV.enc at hz
  rcases List.mem_append.1 hz with hz | hz
  · exact vb_byt _ z hz
  · rcases List.mem_append.1 hz with hz | hz
    · exact vb_byt _ z hz
    · exact h x hx z hz
theorem bytesOf_byt' (s : ByteArray) : Byt (bytesOf s) := by
  intro z hz
  obtain ⟨b, _, rfl⟩ := List.mem_map.1 hz
  have := b.toNat_lt
  omega
theorem headOf_byt (s : ByteArray) (l : List SecV) (h : ∀ x ∈ l, Byt x.body) : Byt (headOf s l) := by
  intro z hz
  rcases List.mem_append.1 hz with hz | hz
  · rcases List.mem_append.1 hz with hz | hz
    · exact bytesOf_byt' s z hz
    · exact vb_byt _ z hz
  · exact secsEnc_byt l h z hz
theorem made0 (w : World) : Made w w none 0 0 [] := ⟨rfl, Own.nil _ _ _, Chg.refl _ _, fun k h => by simp [Value.ownBlock] at h, Nat.le_refl _⟩
end Go.Proofs.Ytlnomadhgoblkaa.Kit
