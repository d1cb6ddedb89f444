/- Items written one behind the other: the plain law. -/
import Derived.Test.YtcljbaoadmflgaaOpenS
import Derived.Test.YtcljbaoadmflgaaPlainV
import Derived.Test.YtcljbaoadmflgaaOctI
set_option linter.unusedVariables false
set_option linter.unusedSimpArgs false
namespace Go.Proofs.Ytcljbaoadmflgaa.Kit
open Go.RowKit
def ItemV.sel (o : ItemV) : Int := Go.bits .and .i64 o.kind 3
/-- an item's bytes -/
def ItemV.enc (o : ItemV) : List Int := if o.sel = 0 then vb o.x.toNat else if o.sel = 1 then vb (zz o.y).toNat else vb o.s.size ++ bytesOf o.s
def encAll (l : List ItemV) : List Int := l.flatMap ItemV.enc
theorem bytesOf_byt (s : ByteArray) : Byt (bytesOf s) := by
  intro n hn
  simp only [bytesOf, List.mem_map] at hn
  obtain ⟨b, _, rfl⟩ := hn
  have := b.toNat_lt
  omega
theorem enc_byt (o : ItemV) : Byt o.enc := by
  unfold ItemV.enc
  split
  · exact vb_byt _
  · split
    · exact vb_byt _
    · intro n hn
      rcases List.mem_append.1 hn with h | h
      · exact vb_byt _ n h
      · exact bytesOf_byt _ n h
theorem enc_pos (o : ItemV) : 0 < o.enc.length := by
  unfold ItemV.enc
  split
  · exact vb_pos _
  · split
    · exact vb_pos _
    · have := vb_pos o.s.size
      simp
      omega
theorem encAll_byt (l : List ItemV) : Byt (encAll l) := by
  intro n hn
  obtain ⟨o, _, h⟩ := List.mem_flatMap.1 hn
  exact enc_byt o n h
theorem enc_len (o : ItemV) (h : o.ok) (hs : o.s.size ≤ 1048576) : o.enc.length ≤ 1048586 := by
  obtain ⟨_, ⟨h1, h2⟩, h3, h4⟩ := h
  unfold ItemV.enc
  split
  · have := vb_len10 (n := o.x.toNat) (by omega)
    omega
  · split
    · have := zz_len h3 h4
      omega
    · have := vb_len10 (n := o.s.size) (by omega)
      rw [List.length_append, bytesOf_length]
      omega
theorem encAll_len (l : List ItemV) (h : ∀ o ∈ l, o.ok ∧ o.s.size ≤ 1048576) : (encAll l).length ≤ l.length * 1048586 := by
  induction l with
  | nil => simp [encAll]
  | cons o r ih =>
    have h1 := enc_len o (h o (by simp)).1 (h o (by simp)).2
    have h2 := ih (fun q hq => h q (by simp [hq]))
    simp only [encAll, List.flatMap_cons, List.length_append, List.length_cons] at h2 ⊢
    omega
theorem encAll_take_len (l : List ItemV) (h : ∀ o ∈ l, o.ok ∧ o.s.size ≤ 1048576) (hl : l.length ≤ 1048576) (k : Nat) : (encAll (l.take k)).length ≤ 1099522179072 := by
  have h1 := encAll_len (l.take k) (fun o ho => h o (List.mem_of_mem_take ho))
  have h2 : (l.take k).length ≤ 1048576 := by rw [List.length_take]; omega
  have h3 : (l.take k).length * 1048586 ≤ 1048576 * 1048586 := Nat.mul_le_mul_right _ h2
  omega
theorem encAll_succ (l : List ItemV) (k : Nat) (h : k < l.length) : encAll (l.take (k + 1)) = encAll (l.take k) ++ l[k].enc := by
  rw [List.take_succ_eq_append_getElem h, encAll, List.flatMap_append]
  simp [encAll]
theorem encAll_split (l : List ItemV) (k : Nat) (h : k < l.length) : encAll l = encAll (l.take k) ++ (l[k].enc ++ encAll (l.drop (k + 1))) := by
  conv => lhs; rw [← List.take_append_drop k l]
  rw [encAll, List.flatMap_append, List.drop_eq_getElem_cons h, List.flatMap_cons]
  rfl
/-- where each ends -/
def endsOf (l : List ItemV) (k : Nat) : List Int := (List.range k).map fun i => ((encAll (l.take (i + 1))).length : Int)
theorem endsOf_length (l : List ItemV) (k : Nat) : (endsOf l k).length = k := by simp [endsOf]
theorem endsOf_succ (l : List ItemV) (k : Nat) : endsOf l (k + 1) = endsOf l k ++ [((encAll (l.take (k + 1))).length : Int)] := by simp [endsOf, List.range_succ]
theorem endsOf_get (l : List ItemV) (k i : Nat) (h : i < (endsOf l k).length) : (endsOf l k)[i] = ((encAll (l.take (i + 1))).length : Int) := by simp [endsOf]
/-- a beginning of a varint is none -/
theorem urd_cut {n k : Nat} {limit : Int} (hn : n < 18446744073709551616) (hk : k < (vb n).length) : (urd ((vb n).take k) limit).2.2 ≠ 0 := by
  intro h
  obtain ⟨x, m, er, hu⟩ : ∃ x m er, urd ((vb n).take k) limit = (x, m, er) := ⟨_, _, _, rfl⟩
  rw [hu] at h
  simp only at h
  subst h
  have hr := urd_range ((vb n).take k) limit
  rw [hu] at hr
  obtain ⟨h1, h2, h3, h4, h5, h6⟩ := urd_form (fun z hz => vb_byt n z (List.mem_of_mem_take hz)) hu
  rw [List.take_take] at h1
  have hmk : m ≤ k := by
    rw [List.length_take] at h6
    omega
  rw [Nat.min_eq_left hmk] at h1
  have hl := congrArg List.length h1
  rw [List.length_take] at hl
  have e := vb_prefix (x := x.toNat) (y := n) (by omega) hn (by rw [← hl, ← h1]; congr 1; omega)
  rw [e] at hl
  omega
theorem strOf_bytesOf (s : ByteArray) : strOf (bytesOf s) = s := by
  apply ByteArray.ext
  apply Array.ext'
  simp only [strOf, strOfNums, bytesOf, List.map_map]
  rw [show ((fun n : Int => UInt8.ofNat n.toNat) ∘ fun b : UInt8 => (b.toNat : Int)) = id from by funext b; simp]
  simp
end Go.Proofs.Ytcljbaoadmflgaa.Kit
