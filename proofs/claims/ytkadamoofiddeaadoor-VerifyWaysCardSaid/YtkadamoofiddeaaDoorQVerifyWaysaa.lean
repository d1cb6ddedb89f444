/- Texts that the row leans on: Kit, PlainO, OctW, Vlp, OctR, OctX, OctI, PgA. -/
import Derived.WalkKit
import Derived.WalkSpells
import Derived.KernelRfl
import Derived.BigQuiet
import Derived.Deep.QuietTactic
import Derived.Deep.LoopGhost
import Derived.Laws.CopyOwn
import Derived.Laws.BytesArg
import Derived.Lib.ConvBytes
import Derived.Lib.AppendStr
import Derived.Carry
import Derived.Lib.Varint
import Derived.Lib.VarintBits
import Derived.Lib.Zigzag
import Derived.Test.YtkadamoofiddeaaDoorProg
import Derived.Lib.Hide
import Derived.Laws.Bits64
import Derived.Deep.RegionHeld3
import Derived.IntWalk
-- Words of this seat: what has changed between two worlds (Chg), a block known whole (Blk), a slice over a block of the call's own (OwnV), append and copy onto it.
set_option linter.unusedVariables false
set_option linter.unusedSimpArgs false
set_option linter.unnecessarySimpa false
namespace Go.Proofs.YtkadamoofiddeaaDoor.Kit
open Go.RowKit

/-! ## what has changed: of w's blocks those of S alone -/
structure Chg (S : Nat → Prop) (w w' : World) : Prop where
  os : w'.os = w.os
  tape : w'.tape = w.tape
  output : w'.output = w.output
  size : w.heap.size ≤ w'.heap.size
  block : ∀ k, k < w.heap.size → ¬ S k → w'.heap[k]? = w.heap[k]?

namespace Chg
variable {S T : Nat → Prop} {w w1 w2 : World}
theorem refl (S : Nat → Prop) (w : World) : Chg S w w := ⟨rfl, rfl, rfl, Nat.le_refl _, fun _ _ _ => rfl⟩
theorem trans (h : Chg S w w1) (k : Chg T w1 w2) (hT : ∀ i, i < w.heap.size → T i → S i) : Chg S w w2 :=
  ⟨k.os.trans h.os, k.tape.trans h.tape, k.output.trans h.output, Nat.le_trans h.size k.size,
    fun i hi hs => (k.block i (Nat.lt_of_lt_of_le hi h.size) (fun ht => hs (hT i hi ht))).trans (h.block i hi hs)⟩
theorem mono (h : Chg S w w1) (hT : ∀ i, i < w.heap.size → S i → T i) : Chg T w w1 :=
  ⟨h.os, h.tape, h.output, h.size, fun i hi ht => h.block i hi (fun hs => ht (hT i hi hs))⟩
theorem drewN (h : Chg S w w1) (n : Nat) : Chg S w (w1.drewN n) := ⟨h.os, h.tape, h.output, h.size, h.block⟩
theorem drew (h : Chg S w w1) : Chg S w w1.drew := ⟨h.os, h.tape, h.output, h.size, h.block⟩
theorem alloc (h : Chg S w w1) (o : Obj) : Chg S w (w1.alloc o) :=
  ⟨h.os, h.tape, h.output, Nat.le_trans h.size (by simp), fun i hi hs => (Below.heap_alloc w1 o i (Nat.lt_of_lt_of_le hi h.size)).trans (h.block i hi hs)⟩
theorem setCell (h : Chg S w w1) {p : Addr} (hp : p.block < w.heap.size → S p.block) (u : Value) : Chg S w (w1.setCell p u) :=
  ⟨h.os, h.tape, h.output, by simpa [World.setCell] using h.size, fun i hi hs => (Below.heap_setCell w1 p u i (by
    rintro rfl
    exact hs (hp hi))).trans (h.block i hi hs)⟩
theorem setg {g : Nat} (h : Chg (fun x => x = g) w w1) (i : Nat) (u : Value) : Chg (fun x => x = g) w (w1.setCell ⟨g, i, none⟩ u) := h.setCell (p := ⟨g, i, none⟩) (fun _ => rfl) u
theorem below (h : Chg S w w1) {B : Nat} (hB : B ≤ w.heap.size) (hS : ∀ i, S i → B ≤ i) : Below B w w1 :=
  ⟨h.os, h.tape, h.output, h.size, fun i hi => h.block i (by omega) (fun hs => by have := hS i hs; omega)⟩
/-- what a later step changed is new since w -/
theorem old (h : Chg S w w1) (k : Chg T w1 w2) (hT : ∀ i, T i → w.heap.size ≤ i) : Chg S w w2 := h.trans k fun i hi ht => by have := hT i ht; omega
theorem done (h : Chg (fun _ => False) w w1) : Below w.heap.size w w1 := h.below (Nat.le_refl _) (fun _ h => h.elim)
theorem of_below (h : Below w.heap.size w w1) (S : Nat → Prop) : Chg S w w1 := ⟨h.os, h.tape, h.output, h.size, fun i hi _ => h.block i hi⟩
theorem cell (h : Chg S w w1) {p : Addr} {v : Value} (hp : ¬ S p.block) (hc : w.cell? p = some v) : w1.cell? p = some v :=
  (World.cell?_of_block (w := w) (h.block p.block (World.block_lt_of_cell? w p hc) hp)).trans hc
theorem obj (h : Chg S w w1) {g : Nat} {o : Obj} (hp : ¬ S g) (hc : w.heap[g]? = some o) : w1.heap[g]? = some o :=
  (h.block g (Array.getElem?_eq_some_iff.1 hc).1 hp).trans hc
end Chg
theorem below_trans {w0 w w1 : World} {S : Nat → Prop} {B : Nat} (h : Below B w0 w) (hB : B ≤ w0.heap.size) (k : Chg S w w1) (hS : ∀ i, S i → B ≤ i) : Below B w0 w1 :=
  h.trans (k.below (Nat.le_trans hB h.size) hS)

/-! ## a block known whole, none of its cells frozen -/
def Blk (w : World) (g : Nat) (e : TypeId) (cur : List Value) : Prop :=
  ∃ fr : Nat × Nat, w.heap[g]? = some (.cells cur.toArray e fr) ∧ ∀ i, i < cur.length → ¬ (fr.1 ≤ i ∧ i < fr.2)

namespace Blk
variable {w w1 : World} {g : Nat} {e e' : TypeId} {cur cur' : List Value}
theorem mk0 (h : w.heap[g]? = some (.cells cur.toArray e (0, 0))) : Blk w g e cur := ⟨(0, 0), h, fun i _ => by simp⟩
theorem lt (h : Blk w g e cur) : g < w.heap.size := by
  obtain ⟨fr, h, _⟩ := h
  exact (Array.getElem?_eq_some_iff.1 h).1
theorem cell (h : Blk w g e cur) (i : Nat) : w.cell? ⟨g, i, none⟩ = cur[i]? := by
  obtain ⟨fr, h, _⟩ := h
  simp [World.cell?, h]
theorem at_ (h : Blk w g e cur) {i : Nat} {v : Value} (hv : cur[i]? = some v) : w.cell? ⟨g, i, none⟩ = some v := (h.cell i).trans hv
theorem frozen (h : Blk w g e cur) {i : Nat} (hi : i < cur.length) : w.frozen? ⟨g, i, none⟩ = false := by
  obtain ⟨fr, h, hf⟩ := h
  have := hf i hi
  simp only [World.frozen?, h]
  simp only [Bool.and_eq_false_iff, decide_eq_false_iff_not]
  omega
theorem chg {S : Nat → Prop} (h : Blk w g e cur) (c : Chg S w w1) (hS : ¬ S g) : Blk w1 g e cur := by
  obtain ⟨fr, h, hf⟩ := h
  exact ⟨fr, c.obj hS h, hf⟩
theorem below (h : Blk w g e cur) {w0 : World} {B : Nat} (b : Below B w w1) (hg : g < B) : Blk w1 g e cur := by
  obtain ⟨fr, h, hf⟩ := h
  exact ⟨fr, (b.block g hg).trans h, hf⟩
theorem alloc (h : Blk w g e cur) (o : Obj) : Blk (w.alloc o) g e cur := h.chg (S := fun _ => False) ((Chg.refl _ w).alloc o) id
theorem drewN (h : Blk w g e cur) (n : Nat) : Blk (w.drewN n) g e cur := h
theorem drew (h : Blk w g e cur) : Blk w.drew g e cur := h
theorem set (h : Blk w g e cur) (i : Nat) (v : Value) : Blk (w.setCell ⟨g, i, none⟩ v) g e (cur.set i v) := by
  obtain ⟨fr, h, hf⟩ := h
  refine ⟨fr, ?_, fun j hj => hf j (by simpa using hj)⟩
  simp [World.setCell, Array.getElem?_modify, h]
theorem set_other (h : Blk w g e cur) {p : Addr} (hp : g ≠ p.block) (v : Value) : Blk (w.setCell p v) g e cur := by
  obtain ⟨fr, h, hf⟩ := h
  exact ⟨fr, (Below.heap_setCell w p v g hp).trans h, hf⟩
theorem new (w : World) (cs : Array Value) (e : TypeId) : Blk (w.alloc (.cells cs e)) w.heap.size e cs.toList := by
  refine ⟨(0, 0), ?_, fun i _ => by simp⟩
  rw [heap_alloc_new]
theorem new' (w : World) (cs : List Value) (e : TypeId) : Blk (w.alloc (.cells cs.toArray e)) w.heap.size e cs := by
  have := Blk.new w cs.toArray e
  simpa using this
theorem type_ne (h : Blk w g e cur) {g' : Nat} (h' : Blk w g' e' cur') (hne : e ≠ e') : g ≠ g' := by
  rintro rfl
  obtain ⟨fr, h, _⟩ := h
  obtain ⟨fr', h', _⟩ := h'
  rw [h] at h'
  injection h' with h'
  injection h' with _ h' _
  exact hne h'
theorem inj (h : Blk w g e cur) (h' : Blk w g e' cur') : cur = cur' := by
  obtain ⟨fr, h, _⟩ := h
  obtain ⟨fr', h', _⟩ := h'
  rw [h] at h'
  injection h' with h'
  injection h' with h' _ _
  simpa using congrArg Array.toList h'
end Blk

/-- Storing a list of cells into a block from a place on. -/
theorem run_storeCells (P : Program) (g : Nat) (e : TypeId) : ∀ (vs : List Value) (o i : Nat) (cur : List Value) (w : World), Blk w g e cur → o + i + vs.length ≤ cur.length → (∀ v ∈ vs, v.oneCell' = true) →
    ∃ w', (storeCells ⟨g, o, none⟩ vs i).run P w = .ok () w' ∧ Blk w' g e (cur.take (o + i) ++ vs ++ cur.drop (o + i + vs.length)) ∧ Chg (· = g) w w'
  | [], o, i, cur, w, hb, _, _ => ⟨w, rfl, by simpa using hb, Chg.refl _ _⟩
  | v :: rest, o, i, cur, w, hb, hl, h1 => by
    have hi : o + i < cur.length := by simp at hl; omega
    have hadd : (⟨g, o, none⟩ : Addr).add i = ⟨g, o + i, none⟩ := by unfold Addr.add; split <;> simp_all
    have hcell : w.cell? ⟨g, o + i, none⟩ = some cur[o + i] := by rw [hb.cell]; simp [hi]
    have hfro : w.frozen? ⟨g, o + i, none⟩ = false := hb.frozen hi
    have hst : (store ((⟨g, o, none⟩ : Addr).add i) v).run P w = .ok () (w.setCell ⟨g, o + i, none⟩ v) := by
      rw [hadd, run_store P w _ v _ (h1 v (by simp)), hcell]
      simp [hfro]
    obtain ⟨w', hr, hb', hc⟩ := run_storeCells P g e rest o (i + 1) (cur.set (o + i) v) (w.setCell ⟨g, o + i, none⟩ v) (hb.set _ _) (by simp at hl ⊢; omega) (fun x hx => h1 x (by simp [hx]))
    refine ⟨w', ?_, ?_, (((Chg.refl (· = g) w).setCell (p := ⟨g, o + i, none⟩) (fun _ => rfl) v)).trans hc (fun _ _ h => h)⟩
    · simp only [storeCells, Sem.run_bind, hst, Result.andThen_ok, hr]
    · have e1 : (cur.set (o + i) v).take (o + (i + 1)) ++ rest ++ (cur.set (o + i) v).drop (o + (i + 1) + rest.length) = cur.take (o + i) ++ (v :: rest) ++ cur.drop (o + i + (v :: rest).length) := by
        apply List.ext_getElem?
        intro j
        simp only [List.length_cons]
        rcases Nat.lt_trichotomy j (o + i) with hj | hj | hj
        · simp only [List.getElem?_append, List.length_append, List.length_take, List.length_set, List.getElem?_take, List.getElem?_set]
          repeat' split
          all_goals first | rfl | omega
        · subst hj
          simp only [List.getElem?_append, List.length_append, List.length_take, List.length_set, List.getElem?_take, List.getElem?_set]
          have h1 : min (o + (i + 1)) cur.length = o + i + 1 := by omega
          have h2 : min (o + i) cur.length = o + i := by omega
          rw [h1, h2, if_pos (by omega), if_pos (by omega), if_pos (by omega)]
          simp [hi]
        · simp only [List.getElem?_append, List.length_append, List.length_take, List.length_set, List.length_cons, List.getElem?_drop, List.getElem?_take, List.getElem?_set]
          have h1 : min (o + (i + 1)) cur.length = o + i + 1 := by omega
          have h2 : min (o + i) cur.length = o + i := by omega
          rw [h1, h2]
          rw [if_neg (by omega : ¬ j < o + i)]
          rw [if_neg (by omega : ¬ j < o + i + 1)]
          by_cases hr : j < o + i + 1 + rest.length
          · rw [if_pos (by omega), if_pos (by omega), show j - (o + i) = (j - (o + i + 1)) + 1 from by omega, List.getElem?_cons_succ]
          · rw [if_neg (by omega), if_neg (by omega), if_neg (by omega)]
            congr 1
            omega
      rw [← e1]
      exact hb'

/-! ## a slice over a block of the call's own: n elements of sz cells each -/
def OwnV (w : World) (e : TypeId) (sz : Nat) (v : Value) (n : Nat) (cs : List Value) : Prop :=
  cs.length = n * sz ∧ ((v = .slice none 0 0 ∧ n = 0) ∨
    ∃ g cap cur, v = .slice (some ⟨g, 0, none⟩) n cap ∧ Blk w g e cur ∧ n ≤ cap ∧ cap ≤ maxLen ∧ cap * sz ≤ cur.length ∧ cur.take (n * sz) = cs)

namespace OwnV
variable {w w1 : World} {e : TypeId} {sz n : Nat} {v : Value} {cs : List Value}
theorem nil (w : World) (e : TypeId) (sz : Nat) : OwnV w e sz (.slice none 0 0) 0 [] := ⟨by simp, .inl ⟨rfl, rfl⟩⟩
theorem lt (h : OwnV w e sz v n cs) : ∀ k, v.ownBlock = some k → k < w.heap.size := by
  intro k hk
  rcases h.2 with ⟨rfl, _⟩ | ⟨g, cap, cur, rfl, hb, _⟩
  · simp [Value.ownBlock] at hk
  · simp [Value.ownBlock] at hk
    subst hk
    exact hb.lt
theorem chg {S : Nat → Prop} (h : OwnV w e sz v n cs) (c : Chg S w w1) (hS : ∀ k, v.ownBlock = some k → ¬ S k) : OwnV w1 e sz v n cs := by
  refine ⟨h.1, ?_⟩
  rcases h.2 with hn | ⟨g, cap, cur, rfl, hb, r⟩
  · exact .inl hn
  · exact .inr ⟨g, cap, cur, rfl, hb.chg c (hS g rfl), r⟩
theorem slice (h : OwnV w e sz v n cs) : ∃ A c, v = .slice A n c ∧ n ≤ c ∧ c ≤ maxLen := by
  rcases h.2 with ⟨rfl, rfl⟩ | ⟨g, cap, cur, rfl, hb, h1, h2, _⟩
  · exact ⟨_, _, rfl, Nat.le_refl _, by simp [maxLen]⟩
  · exact ⟨_, _, rfl, h1, h2⟩
theorem typed (h : OwnV w e sz v n cs) (k : Nat) (hk : v.ownBlock = some k) : ∃ cur, Blk w k e cur := by
  rcases h.2 with ⟨rfl, _⟩ | ⟨g, cap, cur, rfl, hb, _⟩
  · simp [Value.ownBlock] at hk
  · simp [Value.ownBlock] at hk
    subst hk
    exact ⟨cur, hb⟩
/-- two rows of unlike element types -/
theorem type_ne (h : OwnV w e sz v n cs) {g : Nat} {e' : TypeId} {cur : List Value} (hb : Blk w g e' cur) (hne : e ≠ e') : v.ownBlock ≠ some g := by
  intro hk
  obtain ⟨cur', hb'⟩ := h.typed g hk
  exact hb'.type_ne hb hne rfl
theorem cells (h : OwnV w e sz v n cs) : ∀ A m c, v = .slice A m c → ∀ j u, cs[j]? = some u → ∃ ad, A = some ad ∧ w.cell? (ad.add j) = some u ∧ v.ownBlock = some ad.block := by
  intro A m c hv j u hu
  rcases h.2 with ⟨rfl, rfl⟩ | ⟨g, cap, cur, rfl, hb, h1, h2, h3, h4⟩
  · have : cs = [] := List.eq_nil_of_length_eq_zero (by simpa using h.1)
    simp [this] at hu
  · injection hv with hA _ _
    subst hA
    refine ⟨_, rfl, ?_, rfl⟩
    have hadd : (⟨g, 0, none⟩ : Addr).add j = ⟨g, j, none⟩ := by unfold Addr.add; split <;> simp_all
    rw [hadd, hb.cell]
    rw [← h4, List.getElem?_take] at hu
    split at hu
    · exact hu
    · cases hu
/-- cut to its first m elements -/
theorem cut {A : Option Addr} {c : Nat} (h : OwnV w e sz (.slice A n c) n cs) {m : Nat} (hm : m ≤ n) : OwnV w e sz (.slice A m c) m (cs.take (m * sz)) := by
  refine ⟨?_, ?_⟩
  · rw [List.length_take, h.1]
    exact Nat.min_eq_left (Nat.mul_le_mul_right _ hm)
  · rcases h.2 with ⟨h1, rfl⟩ | ⟨g, cap, cur, h0, hb, h1, h2, h3, h4⟩
    · injection h1 with hA _ hc
      subst hA hc
      have : m = 0 := by omega
      subst this
      exact .inl ⟨rfl, rfl⟩
    · injection h0 with hA _ hc
      subst hA hc
      refine .inr ⟨g, c, cur, rfl, hb, by omega, h2, h3, ?_⟩
      rw [← h4, List.take_take]
      congr 1
      exact (Nat.min_eq_left (Nat.mul_le_mul_right _ hm)).symm
end OwnV

section
variable {P : Program} (w : World)
/-- append onto a row of one's own, from a slice that is read (nil let in). -/
theorem run_app (t ty e : TypeId) (z : Value) (sz bytes : Nat) (ht : P.underlying t = some (.slice e)) (hinfo : (P.info? e).map (fun i => (i.zero, i.size, i.bytes)) = some (some z, sz, bytes))
    (hzs : z.cells.size = sz) (hsz : 0 < sz) (hby : 0 < bytes)
    (v : Value) (n : Nat) (cs : List Value) (hown : OwnV w e sz v n cs)
    (A : Option Addr) (m c : Nat) (news : List Value) (hl : news.length = m * sz) (hnews : ∀ j u, news[j]? = some u → ∃ ad, A = some ad ∧ w.cell? (ad.add j) = some u) (h1 : ∀ u ∈ news, u.oneCell' = true)
    (hbytes : (n + m) * bytes ≤ 140737488355328) :
    ∃ v' w', (Builtin.append_ #[t, t] ty #[v, .slice A m c]).run P w = .ok v' w' ∧ OwnV w' e sz v' (n + m) (cs ++ news) ∧ OwnV w' e sz v n cs ∧ Chg (fun k => v.ownBlock = some k) w w' ∧
      (v'.ownBlock = v.ownBlock ∨ v'.ownBlock = some w.heap.size) := by
  obtain ⟨i, hi, hzz⟩ := Option.map_eq_some_iff.1 hinfo
  simp only [Prod.mk.injEq] at hzz
  obtain ⟨hz, rfl, rfl⟩ := hzz
  have hnm : n + m ≤ 140737488355328 := Nat.le_trans (Nat.le_mul_of_pos_right _ hby) hbytes
  have hlen : (cs ++ news).length = (n + m) * i.size := by rw [List.length_append, hown.1, hl, Nat.add_mul]
  rcases A with _ | a
  · have h0 : m = 0 := by
      rcases Nat.eq_zero_or_pos m with h0 | h0
      · exact h0
      · have hp : 0 < news.length := by rw [hl]; exact Nat.mul_pos h0 hsz
        obtain ⟨ad, h, _⟩ := hnews 0 news[0] (by rw [List.getElem?_eq_getElem hp])
        cases h
    subst h0
    obtain rfl : news = [] := List.eq_nil_of_length_eq_zero (by simpa using hl)
    refine ⟨v, w, ?_, by simpa using hown, hown, Chg.refl _ _, .inl rfl⟩
    rcases hown.2 with ⟨rfl, hn⟩ | ⟨g, cap, cur, rfl, _, hnc, _⟩
    · simp [Builtin.append_, run_underlying ht, sizeOf, typeInfo, hi, Builtin.lenOf, Builtin.firstCells]
    · simp [Builtin.append_, run_underlying ht, sizeOf, typeInfo, hi, Builtin.lenOf, Builtin.firstCells, hnc, storeCells]
  · have hcells : ∀ j u, news[j]? = some u → w.cell? (a.add j) = some u := by
      intro j u hu
      obtain ⟨ad, h, hc⟩ := hnews j u hu
      injection h with h
      subst h
      exact hc
    have grown : ∀ (old : Nat), old < n + m →
        OwnV (w.drew.alloc (.cells (cs.toArray ++ news.toArray ++ Builtin.zeroCells z.cells (grownCap w (n + m) old e - (n + m))) e)) e i.size
          (.slice (some ⟨w.heap.size, 0, none⟩) (n + m) (grownCap w (n + m) old e)) (n + m) (cs ++ news) ∧
        OwnV (w.drew.alloc (.cells (cs.toArray ++ news.toArray ++ Builtin.zeroCells z.cells (grownCap w (n + m) old e - (n + m))) e)) e i.size v n cs ∧
        Chg (fun k => v.ownBlock = some k) w (w.drew.alloc (.cells (cs.toArray ++ news.toArray ++ Builtin.zeroCells z.cells (grownCap w (n + m) old e - (n + m))) e)) := by
      intro old ho
      have hge := grownCap_ge w (n + m) old e
      have hcm : grownCap w (n + m) old e ≤ maxLen := grownCap_le_maxLen w (n + m) old e (by simp only [maxLen]; omega)
      have hc0 : Chg (fun _ => False) w (w.drew.alloc (.cells (cs.toArray ++ news.toArray ++ Builtin.zeroCells z.cells (grownCap w (n + m) old e - (n + m))) e)) := ((Chg.refl _ w).drew).alloc _
      refine ⟨⟨hlen, .inr ⟨w.heap.size, _, _, rfl, Blk.new w.drew _ e, hge, hcm, ?_, ?_⟩⟩, hown.chg hc0 (fun _ _ h => h), hc0.mono (fun _ _ h => h.elim)⟩
      · simp only [Array.toList_append, List.length_append, Array.length_toList, size_zeroCells, hzs, hown.1, hl]
        rw [← Nat.add_mul, ← Nat.add_mul]
        exact Nat.le_of_eq (by congr 1; omega)
      · simp only [Array.toList_append, List.append_assoc]
        rw [← List.append_assoc, ← hlen]
        exact List.take_left
    rcases hown.2 with ⟨rfl, rfl⟩ | ⟨g, cap, cur, rfl, hb, hnc, hcm, hcs, htake⟩
    · have hx : cs = [] := List.eq_nil_of_length_eq_zero (by simpa using hown.1)
      subst hx
      by_cases hm : m = 0
      · subst hm
        obtain rfl : news = [] := List.eq_nil_of_length_eq_zero (by simpa using hl)
        refine ⟨.slice none 0 0, w, ?_, OwnV.nil _ _ _, OwnV.nil _ _ _, Chg.refl _ _, .inl rfl⟩
        simp [Builtin.append_, run_underlying ht, sizeOf, typeInfo, hi, Builtin.lenOf, Builtin.firstCells, loadCells, loadCellsFrom]
      · have hr := run_append_nil (P := P) w t ty e i z ht hi hz a m c news hl hcells (by omega) (by omega) (by have hb := hbytes; simp only [Nat.zero_add] at hb; omega)
        have hgr := grown 0 (by omega)
        simp only [Nat.zero_add, List.nil_append, Array.empty_append] at hgr ⊢
        exact ⟨_, _, hr, hgr.1, hgr.2.1, hgr.2.2, .inr rfl⟩
    · by_cases hroom : n + m ≤ cap
      · have hfit : n * i.size + news.length ≤ cur.length := by rw [hl, ← Nat.add_mul]; exact Nat.le_trans (Nat.mul_le_mul_right _ hroom) hcs
        have hf := run_firstCells_some (P := P) w i.size m a m c news hl hcells
        obtain ⟨w', hr, hb', hc⟩ := run_storeCells P g e news (n * i.size) 0 cur w hb (by simpa using hfit) h1
        refine ⟨.slice (some ⟨g, 0, none⟩) (n + m) cap, w', ?_, ⟨hlen, .inr ⟨g, cap, _, rfl, hb', hroom, hcm, ?_, ?_⟩⟩, ⟨hown.1, .inr ⟨g, cap, _, rfl, hb', hnc, hcm, ?_, ?_⟩⟩, hc.mono (fun k _ hk => by subst hk; rfl), .inl rfl⟩
        · have hadd : (⟨g, 0, none⟩ : Addr).add (n * i.size) = ⟨g, n * i.size, none⟩ := by unfold Addr.add; split <;> simp_all
          simp [Builtin.append_, run_underlying ht, sizeOf, typeInfo, hi, Builtin.lenOf, hroom, hf, hadd, hr]
        · simp only [List.length_append, List.length_take, List.length_drop]
          omega
        · rw [Nat.add_zero, htake, ← hlen]
          exact List.take_left
        · simp only [List.length_append, List.length_take, List.length_drop]
          omega
        · rw [Nat.add_zero, htake, ← hown.1, List.append_assoc]
          exact List.take_left
      · have holds : ∀ j u, cs[j]? = some u → w.cell? ((⟨g, 0, none⟩ : Addr).add j) = some u := by
          intro j u hu
          obtain ⟨ad, h, hc, _⟩ := hown.cells _ _ _ rfl j u hu
          injection h with h
          subst h
          exact hc
        have hr := run_append_grow (P := P) w t ty e i z ht hi hz ⟨g, 0, none⟩ n cap cs hown.1 holds a m c news hl hcells (by omega) (by omega) (growslice_fits (by omega) hbytes)
        have hgr := grown cap (by omega)
        exact ⟨_, _, hr, hgr.1, hgr.2.1, hgr.2.2, .inr rfl⟩
end

section
variable {P : Program} {ops : Array Oper} {rest : List Oper} {o : Oper} {a : Act} {Q : Exit → Act → World → Prop}
/-- at the operation: behind 'at_builtin' -/
theorem ow_app {W : World} {K : Act → World → Prop} (s x : Operand) (t e : TypeId) (z : Value) (sz bytes : Nat)
    (ho : o.op = .call { callee := .builtin .append, args := #[s, x], argTypes := #[t, t] })
    (ht : P.underlying t = some (.slice e)) (hinfo : (P.info? e).map (fun i => (i.zero, i.size, i.bytes)) = some (some z, sz, bytes)) (hzs : z.cells.size = sz) (hsz : 0 < sz) (hby : 0 < bytes)
    (v : Value) (n : Nat) (cs : List Value) (hs : a.eval s = v) (hown : OwnV W e sz v n cs)
    (A : Option Addr) (m c : Nat) (news : List Value) (hx : a.eval x = .slice A m c) (hl : news.length = m * sz) (hnews : ∀ j u, news[j]? = some u → ∃ ad, A = some ad ∧ W.cell? (ad.add j) = some u) (h1 : ∀ u ∈ news, u.oneCell' = true)
    (hbytes : (n + m) * bytes ≤ 140737488355328)
    (h : ∀ v' w', OwnV w' e sz v' (n + m) (cs ++ news) → OwnV w' e sz v n cs → Chg (fun k => v.ownBlock = some k) W w' → (v'.ownBlock = v.ownBlock ∨ v'.ownBlock = some W.heap.size) → K (a.put o.dst v') w') :
    o.wp P a W K Q := by
  obtain ⟨v', w', hr, h2, h3, h4, h5⟩ := run_app (P := P) W t o.type e z sz bytes ht hinfo hzs hsz hby v n cs hown A m c news hl hnews h1 hbytes
  unfold Oper.wp execOp
  simp only [ho, resolve, invoke, builtin, Sem.run_bind, Sem.run_pure, Result.andThen_ok, List.map_toArray, List.map_cons, List.map_nil, hs, hx, hr]
  exact h v' w' h2 h3 h4 h5
end

/-! ## bytes and whole numbers -/
def nums (k : IntKind) (l : List Int) : List Value := l.map (Value.int k)
theorem nums_length (k : IntKind) (l : List Int) : (nums k l).length = l.length := by simp [nums]
theorem nums_append (k : IntKind) (l m : List Int) : nums k (l ++ m) = nums k l ++ nums k m := by simp [nums]
theorem nums_one (k : IntKind) (x : Int) : nums k [x] = [.int k x] := rfl
theorem nums_cell (k : IntKind) (l : List Int) : ∀ u ∈ nums k l, u.oneCell' = true := by
  intro u hu
  simp only [nums, List.mem_map] at hu
  obtain ⟨q, _, rfl⟩ := hu
  rfl
theorem nums_get (k : IntKind) (l : List Int) (j : Nat) (h : j < l.length) : (nums k l)[j]? = some (.int k l[j]) := by simp [nums, h]
theorem nums_inj {k : IntKind} {l m : List Int} (h : nums k l = nums k m) : l = m := by
  have := congrArg (List.map (fun v : Value => match v with | .int _ n => n | _ => 0)) h
  simpa [nums, List.map_map, Function.comp_def] using this

/-- A slice of whole numbers that is read. -/
def Rd (w : World) (k : IntKind) (A : Option Addr) (l : List Int) : Prop := ∀ i, (h : i < l.length) → ∃ ad, A = some ad ∧ w.cell? (ad.add i) = some (.int k l[i])
/-- A slice of whole numbers over a block of the call's own. -/
def Own (w : World) (e : TypeId) (k : IntKind) (v : Value) (l : List Int) : Prop := OwnV w e 1 v l.length (nums k l)

namespace Rd
variable {w w1 : World} {k : IntKind} {A : Option Addr} {l : List Int}
theorem nil (w : World) (k : IntKind) (A : Option Addr) : Rd w k A [] := fun i h => absurd h (by simp)
theorem chg {S : Nat → Prop} (h : Rd w k A l) (c : Chg S w w1) (hS : ∀ ad, A = some ad → 0 < l.length → ¬ S ad.block) : Rd w1 k A l := fun i hi => by
  obtain ⟨ad, e, hc⟩ := h i hi
  exact ⟨ad, e, c.cell (by rw [show (ad.add i).block = ad.block from by unfold Addr.add; split <;> rfl]; exact hS ad e (by omega)) hc⟩
theorem below (h : Rd w k A l) (b : Below w.heap.size w w1) : Rd w1 k A l := fun i hi => by
  obtain ⟨ad, e, hc⟩ := h i hi
  exact ⟨ad, e, (b.cell (World.block_lt_of_cell? w _ hc)).trans hc⟩
theorem lt (h : Rd w k A l) : ∀ ad, A = some ad → 0 < l.length → ad.block < w.heap.size := fun ad e hl => by
  obtain ⟨ad', e', hc⟩ := h 0 hl
  rw [e] at e'
  injection e' with e'
  subst e'
  have := World.block_lt_of_cell? w _ hc
  rwa [show (ad.add 0).block = ad.block from by unfold Addr.add; split <;> rfl] at this
theorem news (h : Rd w k A l) : ∀ j u, (nums k l)[j]? = some u → ∃ ad, A = some ad ∧ w.cell? (ad.add j) = some u := by
  intro j u hu
  have hj : j < l.length := by
    rcases Nat.lt_or_ge j l.length with h | h
    · exact h
    · simp [nums, List.getElem?_eq_none h] at hu
  obtain ⟨ad, e, hc⟩ := h j hj
  rw [nums_get k l j hj] at hu
  injection hu with hu
  subst hu
  exact ⟨ad, e, hc⟩
theorem drop (h : Rd w k A l) {ad : Addr} (e : A = some ad) (n : Nat) : Rd w k (some (ad.add n)) (l.drop n) := fun i hi => by
  have hi' : n + i < l.length := by simp at hi; omega
  obtain ⟨ad', e', hc⟩ := h (n + i) hi'
  rw [e] at e'
  injection e' with e'
  subst e'
  refine ⟨_, rfl, ?_⟩
  have : (ad.add n).add i = ad.add (n + i) := by
    unfold Addr.add
    by_cases h1 : n = 0
    · subst h1; simp
    · by_cases h2 : i = 0
      · subst h2; simp [h1]
      · rw [if_neg h1, if_neg h2, if_neg (by omega)]
        simp [Nat.add_assoc]
  rw [this, hc]
  simp
theorem take (h : Rd w k A l) (n : Nat) : Rd w k A (l.take n) := fun i hi => by
  have hi' : i < l.length := by simp at hi; omega
  obtain ⟨ad, e, hc⟩ := h i hi'
  exact ⟨ad, e, by rw [hc]; simp⟩
end Rd

namespace Own
variable {w w1 : World} {e : TypeId} {k : IntKind} {v : Value} {l : List Int}
theorem nil (w : World) (e : TypeId) (k : IntKind) : Own w e k (.slice none 0 0) [] := OwnV.nil w e 1
theorem lt (h : Own w e k v l) : ∀ g, v.ownBlock = some g → g < w.heap.size := OwnV.lt h
theorem chg {S : Nat → Prop} (h : Own w e k v l) (c : Chg S w w1) (hS : ∀ g, v.ownBlock = some g → ¬ S g) : Own w1 e k v l := OwnV.chg h c hS
theorem slice (h : Own w e k v l) : ∃ A c, v = .slice A l.length c ∧ l.length ≤ c ∧ c ≤ maxLen := OwnV.slice h
theorem rd (h : Own w e k v l) {A : Option Addr} {c : Nat} (hv : v = .slice A l.length c) : Rd w k A l := fun i hi => by
  obtain ⟨ad, e, hc, _⟩ := OwnV.cells h A _ c hv i _ (nums_get k l i hi)
  exact ⟨ad, e, hc⟩
theorem reads (h : Own w e k v l) : ∃ A c, v = .slice A l.length c ∧ l.length ≤ c ∧ Rd w k A l := by
  obtain ⟨A, c, hv, hc, _⟩ := h.slice
  exact ⟨A, c, hv, hc, h.rd hv⟩
theorem alloc (h : Own w e k v l) (o : Obj) : Own (w.alloc o) e k v l := h.chg (S := fun _ => False) ((Chg.refl _ w).alloc o) (fun _ _ h => h)
theorem drewN (h : Own w e k v l) (n : Nat) : Own (w.drewN n) e k v l := h
theorem drew (h : Own w e k v l) : Own w.drew e k v l := h
theorem cut {A : Option Addr} {c : Nat} (h : Own w e k (.slice A l.length c) l) {m : Nat} (hm : m ≤ l.length) : Own w e k (.slice A m c) (l.take m) := by
  have hl : (l.take m).length = m := by simp; omega
  have := OwnV.cut (m := m) h hm
  unfold Own
  rw [hl]
  simpa [nums, List.map_take] using this
/-- a new block that was written out -/
theorem lit (w : World) (e : TypeId) (k : IntKind) (l : List Int) (hm : l.length ≤ maxLen) : Own (w.alloc (.cells (nums k l).toArray e)) e k (.slice (some ⟨w.heap.size, 0, none⟩) l.length l.length) l :=
  ⟨by simp [nums], .inr ⟨w.heap.size, l.length, _, rfl, Blk.new' w _ e, Nat.le_refl _, hm, by simp [nums], by rw [Nat.mul_one, List.take_of_length_le (by simp [nums])]⟩⟩
theorem lit' (w : World) (e : TypeId) (k : IntKind) (l : List Int) (b : Nat) (hb : b = w.heap.size) (hm : l.length ≤ maxLen) : Own (w.alloc (.cells (nums k l).toArray e)) e k (.slice (some ⟨b, 0, none⟩) l.length l.length) l := by
  subst hb
  exact lit w e k l hm
end Own

/-- v' lies where v lay, or in a block that w did not have. -/
def Fresh (w : World) (v v' : Value) : Prop := v'.ownBlock = v.ownBlock ∨ ∀ g, v'.ownBlock = some g → w.heap.size ≤ g
theorem Fresh.refl (w : World) (v : Value) : Fresh w v v := .inl rfl
theorem Fresh.trans {w w1 : World} {v v1 v2 : Value} (h : Fresh w v v1) (k : Fresh w1 v1 v2) (hs : w.heap.size ≤ w1.heap.size) : Fresh w v v2 := by
  rcases k with k | k
  · rcases h with h | h
    · exact .inl (k.trans h)
    · exact .inr fun g hg => h g (k ▸ hg)
  · exact .inr fun g hg => Nat.le_trans hs (k g hg)
theorem Chg.fresh {S : Nat → Prop} {w W w1 : World} {v : Value} (h : Chg S w W) (k : Chg (fun i => v.ownBlock = some i) W w1) (hv : ∀ i, v.ownBlock = some i → w.heap.size ≤ i) : Chg S w w1 :=
  h.trans k fun i hi e => by
    have := hv i e
    omega
theorem Fresh.ge {W : World} {v v' : Value} {B : Nat} (h : Fresh W v v') (hv : ∀ i, v.ownBlock = some i → B ≤ i) (hB : B ≤ W.heap.size) : ∀ i, v'.ownBlock = some i → B ≤ i := by
  intro i hi
  rcases h with h | h
  · exact hv i (h ▸ hi)
  · exact Nat.le_trans hB (h i hi)
theorem blk_ge {b n c B : Nat} (h : B ≤ b) : ∀ i, Value.ownBlock (.slice (some ⟨b, 0, none⟩) n c) = some i → B ≤ i := by
  intro i hi
  simp [Value.ownBlock] at hi
  omega
theorem Chg.app {w w1 w2 : World} {v v1 : Value} (h : Chg (fun g => v.ownBlock = some g) w w1) (hf : Fresh w v v1) (k : Chg (fun g => v1.ownBlock = some g) w1 w2) : Chg (fun g => v.ownBlock = some g) w w2 :=
  h.trans k fun i hi he => by
    rcases hf with hf | hf
    · exact hf ▸ he
    · have := hf i he
      omega
theorem Own.base {w : World} {e : TypeId} {k : IntKind} {v : Value} {l : List Int} (h : Own w e k v l) {g : Nat} (hg : v.ownBlock = some g) : ∃ c, v = .slice (some ⟨g, 0, none⟩) l.length c := by
  rcases h.2 with ⟨rfl, _⟩ | ⟨g', cap, cur, rfl, _⟩
  · simp [Value.ownBlock] at hg
  · simp [Value.ownBlock] at hg
    subst hg
    exact ⟨cap, rfl⟩
/-- what stood in v is read there still, behind an append to u, which began with it -/
theorem old_view {w w1 w2 : World} {e : TypeId} {k : IntKind} {v u : Value} {l pre t : List Int} (hv : Own w e k v l) (hR : ∀ A n c, v = .slice A n c → Rd w1 k A l) (hu : Own w2 e k u pre) (hp : pre = l ++ t)
    (hc : Chg (fun g => u.ownBlock = some g) w1 w2) : ∀ A n c, v = .slice A n c → Rd w2 k A l := by
  intro A n c hA
  have h0 := hR A n c hA
  by_cases hl : 0 < l.length
  · obtain ⟨ad, rfl, _⟩ := h0 0 hl
    have hg : v.ownBlock = some ad.block := by rw [hA]; rfl
    by_cases hb : u.ownBlock = some ad.block
    · obtain ⟨c1, h1⟩ := hv.base hg
      obtain ⟨c2, h2⟩ := hu.base hb
      rw [hA] at h1
      injection h1 with h1 _ _
      injection h1 with h1
      rw [h1]
      have := (hu.rd h2).take l.length
      rw [hp, List.take_left] at this
      exact this
    · exact h0.chg hc fun ad' e' _ he => by
        injection e' with e'
        subst e'
        exact hb he
  · have : l = [] := List.eq_nil_of_length_eq_zero (by omega)
    subst this
    exact Rd.nil _ _ _
section
variable {P : Program} {ops : Array Oper} {rest : List Oper} {o : Oper} {a : Act} {Q : Exit → Act → World → Prop}
/-- append(v, ys...) of whole numbers -/
theorem ow_appn {W : World} {K : Act → World → Prop} (s x : Operand) (t e : TypeId) (k : IntKind) (bytes : Nat)
    (ho : o.op = .call { callee := .builtin .append, args := #[s, x], argTypes := #[t, t] })
    (ht : P.underlying t = some (.slice e)) (hinfo : (P.info? e).map (fun i => (i.zero, i.size, i.bytes)) = some (some (.int k 0), 1, bytes)) (hby : 0 < bytes)
    (v : Value) (l : List Int) (hs : a.eval s = v) (hown : Own W e k v l)
    (A : Option Addr) (c : Nat) (m : List Int) (n : Nat) (hx : a.eval x = .slice A n c) (hn : n = m.length) (hr : Rd W k A m) (hbytes : (l.length + m.length) * bytes ≤ 140737488355328)
    (h : ∀ v' w', Own w' e k v' (l ++ m) → Own w' e k v l → Chg (fun g => v.ownBlock = some g) W w' → Fresh W v v' → K (a.put o.dst v') w') : o.wp P a W K Q := by
  subst hn
  refine ow_app s x t e (.int k 0) 1 bytes ho ht hinfo rfl (by decide) hby v l.length (nums k l) hs hown A m.length c (nums k m) hx (by simp [nums]) hr.news (nums_cell k m) hbytes fun v' w' h2 h3 h4 h5 => h v' w' ?_ h3 h4 (h5.imp id fun h5 g hg => by rw [h5] at hg; injection hg with hg; omega)
  unfold Own
  rw [nums_append, List.length_append]
  exact h2
theorem wp_appn {W : World} (hgd : o.guard = none) (s x : Operand) (t e : TypeId) (k : IntKind) (bytes : Nat)
    (ho : o.op = .call { callee := .builtin .append, args := #[s, x], argTypes := #[t, t] })
    (ht : P.underlying t = some (.slice e)) (hinfo : (P.info? e).map (fun i => (i.zero, i.size, i.bytes)) = some (some (.int k 0), 1, bytes)) (hby : 0 < bytes)
    (v : Value) (l : List Int) (hs : a.eval s = v) (hown : Own W e k v l)
    (A : Option Addr) (c : Nat) (m : List Int) (n : Nat) (hx : a.eval x = .slice A n c) (hn : n = m.length) (hr : Rd W k A m) (hbytes : (l.length + m.length) * bytes ≤ 140737488355328)
    (h : ∀ v' w', Own w' e k v' (l ++ m) → Own w' e k v l → Chg (fun g => v.ownBlock = some g) W w' → Fresh W v v' → wpList P ops Q rest (a.put o.dst v') w') : wpList P ops Q (o :: rest) a W :=
  wpList_plain hgd fun _ hK => ow_appn s x t e k bytes ho ht hinfo hby v l hs hown A c m n hx hn hr hbytes fun v' w' h2 h3 h4 h5 => hK _ _ (h v' w' h2 h3 h4 h5)
theorem st_appn {W : World} {K : Act → World → Prop} {E : Prop} (hgd : o.guard = none) (s x : Operand) (t e : TypeId) (k : IntKind) (bytes : Nat)
    (ho : o.op = .call { callee := .builtin .append, args := #[s, x], argTypes := #[t, t] })
    (ht : P.underlying t = some (.slice e)) (hinfo : (P.info? e).map (fun i => (i.zero, i.size, i.bytes)) = some (some (.int k 0), 1, bytes)) (hby : 0 < bytes)
    (v : Value) (l : List Int) (hs : a.eval s = v) (hown : Own W e k v l)
    (A : Option Addr) (c : Nat) (m : List Int) (n : Nat) (hx : a.eval x = .slice A n c) (hn : n = m.length) (hr : Rd W k A m) (hbytes : (l.length + m.length) * bytes ≤ 140737488355328)
    (h : ∀ v' w', Own w' e k v' (l ++ m) → Own w' e k v l → Chg (fun g => v.ownBlock = some g) W w' → Fresh W v v' → K (a.put o.dst v') w') : if Region.wanted o (yielded ops a.tmps) = true then o.wp P a W K Q else E := by
  rw [if_pos (by simp [Region.wanted, hgd])]
  exact ow_appn s x t e k bytes ho ht hinfo hby v l hs hown A c m n hx hn hr hbytes h
/-- append(v, y): the world is 'W.alloc' of the box of y -/
theorem wp_app1 {W : World} (hgd : o.guard = none) (s x : Operand) (t e : TypeId) (k : IntKind) (bytes : Nat)
    (ho : o.op = .call { callee := .builtin .append, args := #[s, x], argTypes := #[t, t] })
    (ht : P.underlying t = some (.slice e)) (hinfo : (P.info? e).map (fun i => (i.zero, i.size, i.bytes)) = some (some (.int k 0), 1, bytes)) (hby : 0 < bytes)
    (v : Value) (l : List Int) (y : Int) (hs : a.eval s = v) (hown : Own W e k v l)
    (hx : a.eval x = .slice (some ⟨W.heap.size, 0, none⟩) 1 1) (hbytes : (l.length + 1) * bytes ≤ 140737488355328)
    (h : ∀ v' w', Own w' e k v' (l ++ [y]) → Own w' e k v l → Chg (fun g => v.ownBlock = some g) W w' → Fresh W v v' → wpList P ops Q rest (a.put o.dst v') w') :
    wpList P ops Q (o :: rest) a (W.alloc (.cells #[.int k y] e)) := by
  refine wp_appn (W := W.alloc (.cells #[.int k y] e)) hgd s x t e k bytes ho ht hinfo hby v l hs (hown.alloc _) _ 1 [y] 1 hx rfl ?_ hbytes fun v' w' h2 h3 h4 h5 => h v' w' h2 h3 ?_ ?_
  · intro i hi
    have : i = 0 := by simp at hi; omega
    subst this
    refine ⟨_, rfl, ?_⟩
    have := (Blk.new W #[.int k y] e).cell 0
    rw [show (⟨W.heap.size, 0, none⟩ : Addr).add 0 = ⟨W.heap.size, 0, none⟩ from rfl, this]
    rfl
  · exact ((Chg.refl _ W).alloc _).trans h4 (fun _ _ h => h)
  · exact h5.imp id fun h5 g hg => by
      have := h5 g hg
      simp at this
      omega
end

/-! ## strings -/
def bytesOf (s : ByteArray) : List Int := s.data.toList.map fun b => (b.toNat : Int)
theorem data_length (s : ByteArray) : s.data.toList.length = s.size := by rw [Array.length_toList]; rfl
theorem bytesOf_length (s : ByteArray) : (bytesOf s).length = s.size := by rw [bytesOf, List.length_map, data_length]
theorem strCells_eq (s : ByteArray) : Lib.strCells s = nums .u8 (bytesOf s) := by simp [Lib.strCells, nums, bytesOf, List.map_map, Function.comp_def]
section
variable {P : Program} (w : World)
theorem run_apps (t u ty e : TypeId) (ht : P.underlying t = some (.slice e)) (hu : P.underlying u = some .string) (hinfo : (P.info? e).map (fun i => (i.zero, i.size, i.bytes)) = some (some (.int .u8 0), 1, 1))
    (v : Value) (l : List Int) (hown : Own w e .u8 v l) (s : ByteArray) (hbytes : l.length + s.size ≤ 140737488355328) :
    ∃ v' w', (Builtin.append_ #[t, u] ty #[v, .string s]).run P w = .ok v' w' ∧ Own w' e .u8 v' (l ++ bytesOf s) ∧ Own w' e .u8 v l ∧ Chg (fun k => v.ownBlock = some k) w w' ∧ Fresh w v v' := by
  obtain ⟨i, hi, hzz⟩ := Option.map_eq_some_iff.1 hinfo
  simp only [Prod.mk.injEq] at hzz
  obtain ⟨hz, hs1, hb1⟩ := hzz
  have hls : (nums .u8 (bytesOf s)).length = s.size := by rw [nums_length, bytesOf_length]
  have grown : ∀ (old : Nat), old < l.length + s.size →
      Own (w.drew.alloc (.cells ((nums .u8 l).toArray ++ (Lib.strCells s).toArray ++ Builtin.zeroCells (Value.int .u8 0).cells (grownCap w (l.length + s.size) old e - (l.length + s.size))) e)) e .u8
        (.slice (some ⟨w.heap.size, 0, none⟩) (l.length + s.size) (grownCap w (l.length + s.size) old e)) (l ++ bytesOf s) ∧
      Own (w.drew.alloc (.cells ((nums .u8 l).toArray ++ (Lib.strCells s).toArray ++ Builtin.zeroCells (Value.int .u8 0).cells (grownCap w (l.length + s.size) old e - (l.length + s.size))) e)) e .u8 v l ∧
      Chg (fun k => v.ownBlock = some k) w (w.drew.alloc (.cells ((nums .u8 l).toArray ++ (Lib.strCells s).toArray ++ Builtin.zeroCells (Value.int .u8 0).cells (grownCap w (l.length + s.size) old e - (l.length + s.size))) e)) := by
    intro old ho
    have hge := grownCap_ge w (l.length + s.size) old e
    have hcm : grownCap w (l.length + s.size) old e ≤ maxLen := grownCap_le_maxLen w (l.length + s.size) old e (by simp only [maxLen]; omega)
    have hc0 : Chg (fun _ => False) w (w.drew.alloc (.cells ((nums .u8 l).toArray ++ (Lib.strCells s).toArray ++ Builtin.zeroCells (Value.int .u8 0).cells (grownCap w (l.length + s.size) old e - (l.length + s.size))) e)) := ((Chg.refl _ w).drew).alloc _
    refine ⟨?_, hown.chg hc0 (fun _ _ h => h), hc0.mono (fun _ _ h => h.elim)⟩
    unfold Own
    rw [List.length_append, bytesOf_length, nums_append]
    refine ⟨by simp [hls, nums_length], .inr ⟨w.heap.size, _, _, rfl, Blk.new w.drew _ e, hge, hcm, ?_, ?_⟩⟩
    · simp only [Array.toList_append, List.length_append, Array.length_toList, size_zeroCells, strCells_eq, List.size_toArray, hls, nums_length]
      simp [Value.cells]
      omega
    · simp only [Array.toList_append, List.append_assoc, strCells_eq]
      rw [← List.append_assoc, List.take_left' (by simp [hls, nums_length])]
  rcases hown.2 with ⟨rfl, hn⟩ | ⟨g, cap, cur, rfl, hb, hnc, hcm, hcs, htake⟩
  · have hx : l = [] := List.eq_nil_of_length_eq_zero hn
    subst hx
    by_cases hm : s.size = 0
    · have hbs : bytesOf s = [] := List.eq_nil_of_length_eq_zero (by rw [bytesOf_length, hm])
      refine ⟨.slice none 0 0, w, ?_, by rw [hbs]; exact Own.nil _ _ _, Own.nil _ _ _, Chg.refl _ _, .inl rfl⟩
      simp [Builtin.append_, run_underlying ht, run_underlying hu, sizeOf, typeInfo, hi, Builtin.lenOf, Builtin.firstCells, hm]
    · have hr := run_append_nil_string (P := P) w t u ty e i (.int .u8 0) ht hu hi hz s (by omega) (by simp at hbytes; omega) (by simp at hbytes; rw [hb1]; omega)
      have hgr := grown 0 (by simp; omega)
      simp only [List.length_nil, Nat.zero_add, List.nil_append] at hgr ⊢
      rw [show (nums IntKind.u8 []).toArray = #[] from rfl, Array.empty_append, show (Lib.strCells s).toArray = s.data.map (fun b => Value.int .u8 b.toNat) from by apply Array.ext'; simp [Lib.strCells]] at hgr
      refine ⟨_, _, hr, hgr.1, hgr.2.1, hgr.2.2, .inr fun g hg => ?_⟩
      simp [Value.ownBlock] at hg
      omega
  · by_cases hroom : l.length + s.size ≤ cap
    · have hf := Lib.run_firstCells_string (P := P) (w := w) i.size s
      obtain ⟨w', hr, hb', hc⟩ := run_storeCells P g e (nums .u8 (bytesOf s)) l.length 0 cur w hb (by rw [hls]; omega) (nums_cell _ _)
      refine ⟨.slice (some ⟨g, 0, none⟩) (l.length + s.size) cap, w', ?_, ?_, ⟨by simp [nums_length], .inr ⟨g, cap, _, rfl, hb', hnc, hcm, ?_, ?_⟩⟩, hc.mono (fun k _ hk => by subst hk; rfl), .inl rfl⟩
      · have hadd : (⟨g, 0, none⟩ : Addr).add (l.length * i.size) = ⟨g, l.length, none⟩ := by rw [hs1]; unfold Addr.add; split <;> simp_all
        rw [← strCells_eq] at hr
        simp [Builtin.append_, run_underlying ht, run_underlying hu, sizeOf, typeInfo, hi, Builtin.lenOf, hroom, hf, hadd, hr]
      · unfold Own
        rw [List.length_append, bytesOf_length, nums_append]
        refine ⟨by simp [hls, nums_length], .inr ⟨g, cap, _, rfl, hb', hroom, hcm, ?_, ?_⟩⟩
        · simp only [List.length_append, List.length_take, List.length_drop, hls]
          omega
        · rw [Nat.mul_one] at htake
          rw [Nat.add_zero, htake, List.take_left' (by simp [hls, nums_length])]
      · simp only [List.length_append, List.length_take, List.length_drop, hls]
        omega
      · rw [Nat.mul_one] at htake ⊢
        rw [Nat.add_zero, htake, List.append_assoc, List.take_left' (by simp [nums_length])]
    · have holds : ∀ j u, (nums .u8 l)[j]? = some u → w.cell? ((⟨g, 0, none⟩ : Addr).add j) = some u := by
        intro j u hu'
        obtain ⟨ad, h, hc, _⟩ := OwnV.cells hown _ _ _ rfl j u hu'
        injection h with h
        subst h
        exact hc
      have hr := Lib.run_append_grow_string (P := P) (w := w) t u ty e i (.int .u8 0) ht hu hi hz ⟨g, 0, none⟩ l.length cap (nums .u8 l) (by rw [nums_length, hs1, Nat.mul_one]) holds s (by omega) (by omega) (growslice_fits (by omega) (by rw [hb1]; omega))
      have hgr := grown cap (by omega)
      refine ⟨_, _, hr, hgr.1, hgr.2.1, hgr.2.2, .inr fun g' hg => ?_⟩
      simp [Value.ownBlock] at hg
      omega
end
section
variable {P : Program} {ops : Array Oper} {rest : List Oper} {o : Oper} {a : Act} {Q : Exit → Act → World → Prop}
/-- append(v, s...), s a string -/
theorem ow_apps {W : World} {K : Act → World → Prop} (s x : Operand) (t u e : TypeId)
    (ho : o.op = .call { callee := .builtin .append, args := #[s, x], argTypes := #[t, u] })
    (ht : P.underlying t = some (.slice e)) (hu : P.underlying u = some .string) (hinfo : (P.info? e).map (fun i => (i.zero, i.size, i.bytes)) = some (some (.int .u8 0), 1, 1))
    (v : Value) (l : List Int) (hs : a.eval s = v) (hown : Own W e .u8 v l) (y : ByteArray) (hx : a.eval x = .string y) (hbytes : l.length + y.size ≤ 140737488355328)
    (h : ∀ v' w', Own w' e .u8 v' (l ++ bytesOf y) → Own w' e .u8 v l → Chg (fun g => v.ownBlock = some g) W w' → Fresh W v v' → K (a.put o.dst v') w') : o.wp P a W K Q := by
  obtain ⟨v', w', hr, h2, h3, h4, h5⟩ := run_apps (P := P) W t u o.type e ht hu hinfo v l hown y hbytes
  unfold Oper.wp execOp
  simp only [ho, resolve, invoke, builtin, Sem.run_bind, Sem.run_pure, Result.andThen_ok, List.map_toArray, List.map_cons, List.map_nil, hs, hx, hr]
  exact h v' w' h2 h3 h4 h5
theorem wp_apps {W : World} (hgd : o.guard = none) (s x : Operand) (t u e : TypeId)
    (ho : o.op = .call { callee := .builtin .append, args := #[s, x], argTypes := #[t, u] })
    (ht : P.underlying t = some (.slice e)) (hu : P.underlying u = some .string) (hinfo : (P.info? e).map (fun i => (i.zero, i.size, i.bytes)) = some (some (.int .u8 0), 1, 1))
    (v : Value) (l : List Int) (hs : a.eval s = v) (hown : Own W e .u8 v l) (y : ByteArray) (hx : a.eval x = .string y) (hbytes : l.length + y.size ≤ 140737488355328)
    (h : ∀ v' w', Own w' e .u8 v' (l ++ bytesOf y) → Own w' e .u8 v l → Chg (fun g => v.ownBlock = some g) W w' → Fresh W v v' → wpList P ops Q rest (a.put o.dst v') w') : wpList P ops Q (o :: rest) a W :=
  wpList_plain hgd fun _ hK => ow_apps s x t u e ho ht hu hinfo v l hs hown y hx hbytes fun v' w' h2 h3 h4 h5 => hK _ _ (h v' w' h2 h3 h4 h5)
theorem st_apps {W : World} {K : Act → World → Prop} {E : Prop} (hgd : o.guard = none) (s x : Operand) (t u e : TypeId)
    (ho : o.op = .call { callee := .builtin .append, args := #[s, x], argTypes := #[t, u] })
    (ht : P.underlying t = some (.slice e)) (hu : P.underlying u = some .string) (hinfo : (P.info? e).map (fun i => (i.zero, i.size, i.bytes)) = some (some (.int .u8 0), 1, 1))
    (v : Value) (l : List Int) (hs : a.eval s = v) (hown : Own W e .u8 v l) (y : ByteArray) (hx : a.eval x = .string y) (hbytes : l.length + y.size ≤ 140737488355328)
    (h : ∀ v' w', Own w' e .u8 v' (l ++ bytesOf y) → Own w' e .u8 v l → Chg (fun g => v.ownBlock = some g) W w' → Fresh W v v' → K (a.put o.dst v') w') : if Region.wanted o (yielded ops a.tmps) = true then o.wp P a W K Q else E := by
  rw [if_pos (by simp [Region.wanted, hgd])]
  exact ow_apps s x t u e ho ht hu hinfo v l hs hown y hx hbytes h
end
/-- the string of these bytes -/
def strOf (l : List Int) : ByteArray := strOfNums l
theorem Rd.spot {w : World} {k : IntKind} {ad : Addr} {l : List Int} (h : Rd w k (some ad) l) (hl : 0 < l.length) : ad = ⟨ad.block, ad.off, none⟩ := by
  obtain ⟨ad', e, hc⟩ := h 0 hl
  injection e with e
  subst e
  rcases ad with ⟨b, o, _ | s⟩
  · rfl
  · rw [show (Addr.mk b o (some s)).add 0 = ⟨b, o, some s⟩ from rfl] at hc
    simp [World.cell?] at hc
    split at hc <;> simp at hc
theorem run_conv_str {P : Program} (w : World) (src dst e : TypeId) (hs : P.underlying src = some (.slice e)) (he : P.underlying e = some (.int .u8)) (hd : P.underlying dst = some .string)
    (A : Option Addr) (m c : Nat) (l : List Int) (hm : m = l.length) (hr : Rd w .u8 A l) : (convert src dst (.slice A m c)).run P w = .ok (.string (strOf l)) w := by
  subst hm
  rcases Nat.eq_zero_or_pos l.length with hz | hz
  · obtain rfl : l = [] := List.eq_nil_of_length_eq_zero hz
    rcases A with _ | ad
    · exact run_convert_bytes_nil w src e hs he 0 c dst hd
    · rw [run_convert_bytes_string w src dst e (some ad) _ c hs he hd]
      exact run_bytesToString w ad 0 c [] rfl
  · obtain ⟨ad, rfl, _⟩ := hr 0 hz
    have hsp := hr.spot hz
    rw [hsp] at hr ⊢
    refine run_convert_bytes_arg w src e hs he ad.block ad.off l.length c l rfl (fun i hi => ?_) dst hd
    obtain ⟨ad', e', hc⟩ := hr i hi
    injection e' with e'
    subst e'
    rw [show (Addr.mk ad.block ad.off none).add i = ⟨ad.block, ad.off + i, none⟩ from by
      unfold Addr.add
      split
      · next h0 => subst h0; rfl
      · rfl] at hc
    rw [hc]
    simp [List.getD_eq_getElem?_getD, List.getElem?_eq_getElem hi]
/-! ## make, copy, a store into a row of one's own -/
theorem madeCells_one (z : Value) (n : Nat) : madeCells #[z] n = (List.replicate n z).toArray := by
  apply Array.ext'
  rw [toList_madeCells_one]
theorem Own.zeros (w : World) (e : TypeId) (k : IntKind) (n c : Nat) (hc : n ≤ c) (hm : c ≤ maxLen) : Own (w.alloc (.cells (madeCells #[.int k 0] c) e)) e k (.slice (some ⟨w.heap.size, 0, none⟩) n c) (List.replicate n 0) := by
  refine ⟨by simp [nums], .inr ⟨w.heap.size, c, List.replicate c (.int k 0), by simp, ?_, by simpa using hc, hm, by simp, ?_⟩⟩
  · rw [madeCells_one]
    exact Blk.new' w _ e
  · simp [nums, List.take_replicate, Nat.min_eq_left hc]
theorem Own.store {w : World} {e : TypeId} {k : IntKind} {g n c : Nat} {l : List Int} (h : Own w e k (.slice (some ⟨g, 0, none⟩) n c) l) {i : Nat} (hi : i < l.length) (x : Int) : Own (w.setCell ⟨g, i, none⟩ (.int k x)) e k (.slice (some ⟨g, 0, none⟩) n c) (l.set i x) := by
  unfold Own at h ⊢
  rw [List.length_set]
  rcases h.2 with ⟨h1, _⟩ | ⟨g', cap, cur, h0, hb, h1, h2, h3, h4⟩
  · injection h1 with h1
    cases h1
  · injection h0 with hA hn hc
    injection hA with hA
    injection hA with hA
    subst hA hn hc
    refine ⟨by simp [nums], .inr ⟨g, c, _, rfl, hb.set i _, h1, h2, by simpa using h3, ?_⟩⟩
    rw [Nat.mul_one] at h4 ⊢
    rw [List.take_set, h4]
    simp [nums, List.map_set]
theorem Own.block {w : World} {e : TypeId} {k : IntKind} {v : Value} {l : List Int} (h : Own w e k v l) (hl : 0 < l.length) : ∃ g c, v = .slice (some ⟨g, 0, none⟩) l.length c ∧ l.length ≤ c ∧ ∃ cur, Blk w g e cur ∧ l.length ≤ cur.length ∧ cur.take l.length = nums k l := by
  rcases h.2 with ⟨_, h1⟩ | ⟨g, cap, cur, h0, hb, h1, h2, h3, h4⟩
  · omega
  · rw [Nat.mul_one] at h3 h4
    exact ⟨g, cap, h0, h1, cur, hb, by omega, h4⟩
theorem Own.cellAt {w : World} {e : TypeId} {k : IntKind} {g n c : Nat} {l : List Int} (h : Own w e k (.slice (some ⟨g, 0, none⟩) n c) l) {i : Nat} (hi : i < l.length) : w.cell? ⟨g, i, none⟩ = some (.int k l[i]) ∧ w.frozen? ⟨g, i, none⟩ = false := by
  obtain ⟨g', c', h0, _, cur, hb, hl, ht⟩ := h.block (by omega)
  injection h0 with hA _ _
  injection hA with hA
  injection hA with hA
  subst hA
  refine ⟨?_, hb.frozen (by omega)⟩
  refine hb.at_ ?_
  have := congrArg (·[i]?) ht
  simp only [List.getElem?_take, hi, if_true] at this
  rw [this, nums_get k l i hi]
theorem run_copyn {P : Program} (w : World) (t ty e : TypeId) (k : IntKind) (ht : P.underlying t = some (.slice e)) (hsz : (P.info? e).map (·.size) = some 1)
    (v : Value) (l : List Int) (hown : Own w e k v l) (A : Option Addr) (m c : Nat) (xs : List Int) (hm : m = xs.length) (hr : Rd w k A xs) (hle : xs.length ≤ l.length) :
    ∃ w', (Builtin.copy_ #[t, t] ty #[v, .slice A m c]).run P w = .ok (goInt xs.length) w' ∧ Own w' e k v (xs ++ l.drop xs.length) ∧ Chg (fun g => v.ownBlock = some g) w w' := by
  subst hm
  obtain ⟨i, hi, hs1⟩ := Option.map_eq_some_iff.1 hsz
  have hmin : Nat.min xs.length l.length = xs.length := Nat.min_eq_left hle
  rcases Nat.eq_zero_or_pos xs.length with hz | hz
  · obtain rfl : xs = [] := List.eq_nil_of_length_eq_zero hz
    obtain ⟨A', c', hv, _⟩ := hown.slice
    refine ⟨w, ?_, by simpa using hown, Chg.refl _ _⟩
    subst hv
    rcases A with _ | a <;> rcases A' with _ | a' <;> simp [Builtin.copy_, run_underlying ht, sizeOf, typeInfo, hi, Builtin.lenOf, Builtin.firstCells, loadCells, loadCellsFrom, storeCells]
  · obtain ⟨ad, rfl, _⟩ := hr 0 hz
    obtain ⟨g, c', rfl, _, cur, hb, hl, ht4⟩ := hown.block (by omega)
    have hf := run_firstCells_some (P := P) w i.size xs.length ad xs.length c (nums k xs) (by rw [hs1, nums_length, Nat.mul_one]) (fun j u hu => by
      obtain ⟨ad', e', hc⟩ := hr.news j u hu
      injection e' with e'
      subst e'
      exact hc)
    obtain ⟨w', hr', hb', hc⟩ := run_storeCells P g e (nums k xs) 0 0 cur w hb (by rw [nums_length]; omega) (nums_cell _ _)
    refine ⟨w', ?_, ?_, hc.mono (fun i _ h => by subst h; rfl)⟩
    · simp [Builtin.copy_, run_underlying ht, sizeOf, typeInfo, hi, Builtin.lenOf, hmin, hf, hr']
    · rcases hown.2 with ⟨h1, _⟩ | ⟨g', cap, cur', h0, hb2, h1, h2, h3, h4⟩
      · injection h1 with h1
        cases h1
      · injection h0 with hA _ hc2
        injection hA with hA
        injection hA with hA
        subst hA hc2
        have hcur := hb.inj hb2
        subst hcur
        unfold Own
        have hlen : (xs ++ l.drop xs.length).length = l.length := by simp; omega
        rw [hlen]
        refine ⟨by simp [nums]; omega, .inr ⟨g, c', _, rfl, hb', h1, h2, ?_, ?_⟩⟩
        · simp only [List.length_append, List.length_take, List.length_drop, nums_length]
          omega
        · rw [Nat.mul_one] at h4 ⊢
          simp only [Nat.zero_add, List.take_zero, List.nil_append, nums_length]
          rw [nums_append, List.take_append, List.take_of_length_le (by rw [nums_length]; exact hle), nums_length]
          congr 1
          rw [List.take_drop, show xs.length + (l.length - xs.length) = l.length by omega, h4]
          simp [nums, List.map_drop]
section
variable {P : Program} {ops : Array Oper} {rest : List Oper} {o : Oper} {a : Act} {Q : Exit → Act → World → Prop}
/-- copy(v, ys): no more than v has room for -/
theorem wp_copyn {W : World} (hgd : o.guard = none) (s x : Operand) (t e : TypeId) (k : IntKind) (ho : o.op = .call { callee := .builtin .copy, args := #[s, x], argTypes := #[t, t] })
    (ht : P.underlying t = some (.slice e)) (hsz : (P.info? e).map (·.size) = some 1)
    (v : Value) (l : List Int) (hs : a.eval s = v) (hown : Own W e k v l) (A : Option Addr) (m c : Nat) (xs : List Int) (hx : a.eval x = .slice A m c) (hm : m = xs.length) (hr : Rd W k A xs) (hle : xs.length ≤ l.length)
    (h : ∀ w', Own w' e k v (xs ++ l.drop xs.length) → Chg (fun g => v.ownBlock = some g) W w' → wpList P ops Q rest (a.put o.dst (goInt xs.length)) w') : wpList P ops Q (o :: rest) a W := by
  obtain ⟨w', hrun, h2, h3⟩ := run_copyn (P := P) W t o.type e k ht hsz v l hown A m c xs hm hr hle
  refine wpList_plain hgd fun K hK => ?_
  unfold Oper.wp execOp
  simp only [ho, resolve, invoke, builtin, Sem.run_bind, Sem.run_pure, Result.andThen_ok, List.map_toArray, List.map_cons, List.map_nil, hs, hx, hrun]
  exact hK _ _ (h w' h2 h3)
end
/-- a guard: is the next operation a copy? -/
theorem gate_copy {P : Program} {ops : Array Oper} {Q : Exit → Act → World → Prop} {rest : List Oper} {a : Act} {w : World} {dst : Option Tmp} {xs : Array Operand} {ts : Array TypeId} {ty : TypeId} {pos : String} {af : Array Edge} {gd : Option (Tmp × Bool)}
    (h : wpList P ops Q (⟨dst, .call ⟨.builtin .copy, xs, ts⟩, ty, pos, af, gd⟩ :: rest) a w) : wpList P ops Q (⟨dst, .call ⟨.builtin .copy, xs, ts⟩, ty, pos, af, gd⟩ :: rest) a w := h
/-! ## []byte(s) -/
theorem bytesWorld_chg (W : World) (e : TypeId) (s : ByteArray) : Chg (fun _ => False) W (Lib.bytesWorld W e s) := by
  refine ⟨?_, ?_, ?_, ?_, fun k hk _ => Lib.bytesWorld_at_old W e s k hk⟩
  · simp [Lib.bytesWorld, World.freeze, World.alloc, World.drew, -World.alloc_eq, -World.drew_eq]
  · simp [Lib.bytesWorld, World.freeze, World.alloc, World.drew, -World.alloc_eq, -World.drew_eq]
  · simp [Lib.bytesWorld, World.freeze, World.alloc, World.drew, -World.alloc_eq, -World.drew_eq]
  · rw [Lib.bytesWorld_size]
    omega
theorem bytesCells_list (W : World) (e : TypeId) (s : ByteArray) : (Lib.bytesCells W e s).toList = nums .u8 (bytesOf s) ++ List.replicate (grownCap W s.size 0 e - s.size) (.int .u8 0) := by
  simp [Lib.bytesCells, nums, bytesOf, Function.comp_def]
theorem bytesWorld_own (W : World) (e : TypeId) (s : ByteArray) (hs : s.size ≤ 9223372036854775807) : Own (Lib.bytesWorld W e s) e .u8 (.slice (some ⟨W.heap.size, 0, none⟩) s.size (grownCap W s.size 0 e)) (bytesOf s) := by
  have hge := grownCap_ge W s.size 0 e
  have hle : grownCap W s.size 0 e ≤ maxLen := grownCap_le_maxLen W s.size 0 e (by simpa [maxLen] using hs)
  have hl : (nums .u8 (bytesOf s)).length = s.size := by rw [nums_length, bytesOf_length]
  unfold Own
  rw [bytesOf_length]
  refine ⟨by rw [hl, Nat.mul_one], .inr ⟨W.heap.size, _, (Lib.bytesCells W e s).toList, rfl, ⟨_, by rw [Array.toArray_toList]; exact Lib.bytesWorld_at_new W e s, fun i hi => ?_⟩, hge, hle, ?_, ?_⟩⟩
  · simp at hi
    simp only
    omega
  · rw [bytesCells_list, List.length_append, hl, List.length_replicate]
    omega
  · rw [bytesCells_list, Nat.mul_one, List.take_left' hl]
theorem own_some {w : World} {e : TypeId} {k : IntKind} {A : Option Addr} {n c : Nat} {l : List Int} (h : Own w e k (.slice A n c) l) (hl : 0 < l.length) : ∃ g, A = some ⟨g, 0, none⟩ ∧ Value.ownBlock (.slice A n c) = some g := by
  rcases h.2 with ⟨_, h0⟩ | ⟨g', cap, cur, hv, _⟩
  · omega
  · injection hv with hA hn hc
    subst hA
    exact ⟨g', rfl, rfl⟩
end Go.Proofs.YtkadamoofiddeaaDoor.Kit
-- Plain words for octet: varints as lists of numbers.
set_option linter.unusedVariables false
set_option linter.unusedSimpArgs false
set_option linter.unnecessarySimpa false
namespace Go.Proofs.YtkadamoofiddeaaDoor.Kit
open Go.RowKit
/-- the varint of n -/
def vb (n : Nat) : List Int := if h : 127 < n then ((n % 128 + 128 : Nat) : Int) :: vb (n / 128) else [(n : Int)]
termination_by n
decreasing_by omega
theorem vb_more {n : Nat} (h : 127 < n) : vb n = ((n % 128 + 128 : Nat) : Int) :: vb (n / 128) := by rw [vb, dif_pos h]
theorem vb_last {n : Nat} (h : ¬ 127 < n) : vb n = [(n : Int)] := by rw [vb, dif_neg h]
theorem vb_pos (n : Nat) : 0 < (vb n).length := by rw [vb]; split <;> simp
theorem vb_len : ∀ (k n : Nat), n < 128 ^ (k + 1) → (vb n).length ≤ k + 1
  | 0, n, h => by rw [vb_last (by omega)]; simp
  | k + 1, n, h => by
    by_cases hn : 127 < n
    · rw [vb_more hn]
      have := vb_len k (n / 128) (by rw [Nat.div_lt_iff_lt_mul (by decide), ← Nat.pow_succ]; exact h)
      simp only [List.length_cons]
      omega
    · rw [vb_last hn]; simp
theorem vb_len10 {n : Nat} (h : n < 18446744073709551616) : (vb n).length ≤ 10 := vb_len 9 n (Nat.lt_of_lt_of_le h (by decide))
/-- what the loop appends: a number above 127 -/
theorem byte_more {y : Int} (h : 127 < y) : vb y.toNat = Go.bits .or .u8 (y % 256) 128 :: vb (y / 128).toNat := by
  rw [vb_more (by omega), Lib.u8_or128_any _ (by omega) (by omega)]
  congr 1
  · omega
  · congr 1
    omega
theorem byte_last {y : Int} (h0 : 0 ≤ y) (h : y ≤ 127) : vb y.toNat = [y] := by
  rw [vb_last (by omega)]
  congr 1
  omega
/-- the zigzag number of x, as a whole number -/
def zz (x : Int) : Int := if 0 ≤ x then 2 * x else -2 * x - 1
theorem zz_nonneg (x : Int) : 0 ≤ zz x := by unfold zz; split <;> omega
theorem zz_lt {x : Int} (h0 : -9223372036854775808 ≤ x) (h1 : x ≤ 9223372036854775807) : (zz x).toNat < 18446744073709551616 := by unfold zz; split <;> omega
theorem zz_len {x : Int} (h0 : -9223372036854775808 ≤ x) (h1 : x ≤ 9223372036854775807) : (vb (zz x).toNat).length ≤ 10 := vb_len10 (zz_lt h0 h1)
theorem zz_eq {x : Int} (h0 : -9223372036854775808 ≤ x) (h1 : x ≤ 9223372036854775807) :
    Go.bits .xor .u64 (IntKind.u64.wrap (IntKind.u64.wrap x * 2)) (IntKind.u64.wrap (x / 9223372036854775808)) = zz x := by
  by_cases hx : 0 ≤ x
  · have e1 : x / 9223372036854775808 = 0 := by omega
    rw [e1, IntKind.wrap_u64 0, IntKind.wrap_u64, IntKind.wrap_u64]
    have e2 : x % 18446744073709551616 * 2 % 18446744073709551616 = ((2 * x.toNat : Nat) : Int) := by omega
    have e3 : (0 : Int) % 18446744073709551616 = ((0 : Nat) : Int) := by omega
    rw [e2, e3, bits_xor_u64_nat _ _ (by omega) (by omega), Nat.xor_zero]
    unfold zz
    rw [if_pos hx]
    omega
  · have e1 : x / 9223372036854775808 = -1 := by omega
    rw [e1, IntKind.wrap_u64 (-1), IntKind.wrap_u64, IntKind.wrap_u64]
    have e2 : x % 18446744073709551616 * 2 % 18446744073709551616 = ((18446744073709551616 + 2 * x).toNat : Int) := by omega
    have e3 : (-1 : Int) % 18446744073709551616 = ((2 ^ 64 - 1 : Nat) : Int) := by decide
    rw [e2, e3, bits_xor_u64_nat _ _ (by omega) (by decide), Nat.xor_comm, Lib.xor_ones64 _ (by omega)]
    unfold zz
    rw [if_neg hx]
    omega
end Go.Proofs.YtkadamoofiddeaaDoor.Kit
-- AppendUint, AppendInt, AppendText.
set_option linter.unusedVariables false
set_option linter.unusedSimpArgs false
set_option linter.unnecessarySimpa false
namespace Go.Proofs.YtkadamoofiddeaaDoor.Kit
open Go.RowKit
theorem infoU8 : (Tryd.prog.info? 5).map (fun i => (i.zero, i.size, i.bytes)) = some (some (.int .u8 0), 1, 1) := by kernel_rfl
abbrev OwnB (w : World) (v : Value) (l : List Int) : Prop := Own w 5 .u8 v l
theorem rd_of_own {w : World} {e : TypeId} {k : IntKind} {v : Value} {l : List Int} (h : Own w e k v l) : ∀ A n c, v = .slice A n c → Rd w k A l := fun A n c h' => by
  obtain ⟨A', c', h'', _, hr⟩ := h.reads
  rw [h''] at h'
  injection h' with h' _ _
  exact h' ▸ hr
/-- what the three append calls leave -/
def Appended (v : Value) (l m : List Int) (w : World) (e : Ending) (w' : World) : Prop :=
  ∃ v', e = .returned v' ∧ OwnB w' v' (l ++ m) ∧ (∀ A n c, v = .slice A n c → Rd w' .u8 A l) ∧ Chg (fun g => v.ownBlock = some g) w w' ∧ Fresh w v v'
end Go.Proofs.YtkadamoofiddeaaDoor.Kit
-- What varint and Uint answer, as the code reckons it.
set_option linter.unusedVariables false
set_option linter.unusedSimpArgs false
set_option linter.unnecessarySimpa false
namespace Go.Proofs.YtkadamoofiddeaaDoor.Kit
open Go.RowKit
/-- one round of varint -/
def vstep (b : Int) (i : Nat) (x : Int) : Int := Go.bits .or .u64 x (IntKind.u64.wrap ((IntKind.u64.wrap (Go.bits .and .u8 b 127)) * 2 ^ (7*i)))
/-- what varint answers: the number, how many bytes, the error -/
def vlp (l : List Int) : Nat → Nat → Int → (Int × Int × Int)
  | 0, _, _ => if l.length < 10 then (0, 0, 41) else (0, 0, 42)
  | f + 1, i, x => if i < l.length then (if l.getD i 0 > 127 then vlp l f (i + 1) (vstep (l.getD i 0) i x) else if (0 < i ∧ l.getD i 0 = 0) ∨ (i = 9 ∧ l.getD i 0 > 1) then (0, 0, 42) else (vstep (l.getD i 0) i x, (i : Int) + 1, 0))
      else (if l.length < 10 then (0, 0, 41) else (0, 0, 42))
theorem vlp_more {l : List Int} {k : Nat} {y : Int} (h1 : k < l.length) (h2 : k < 10) (h : 127 < l[k]) : vlp l (10 - k) k y = vlp l (10 - (k + 1)) (k + 1) (vstep l[k] k y) := by
  rw [show 10 - k = (10 - (k + 1)) + 1 from by omega, vlp, if_pos h1]
  simp [h1, h]
theorem vlp_bad {l : List Int} {k : Nat} {y : Int} (h1 : k < l.length) (h2 : k < 10) (h : l[k] ≤ 127) (hb : (0 < k ∧ l[k] = 0) ∨ (k = 9 ∧ 1 < l[k])) : vlp l (10 - k) k y = (0, 0, 42) := by
  rw [show 10 - k = (10 - (k + 1)) + 1 from by omega, vlp, if_pos h1, if_neg (by simp [h1]; omega), if_pos (by simpa [h1] using hb)]
theorem vlp_good {l : List Int} {k : Nat} {y : Int} (h1 : k < l.length) (h2 : k < 10) (h : l[k] ≤ 127) (hb : ¬ ((0 < k ∧ l[k] = 0) ∨ (k = 9 ∧ 1 < l[k]))) : vlp l (10 - k) k y = (vstep l[k] k y, (k : Int) + 1, 0) := by
  rw [show 10 - k = (10 - (k + 1)) + 1 from by omega, vlp, if_pos h1, if_neg (by simp [h1]; omega), if_neg (by simpa [h1] using hb)]
  simp [h1]
theorem vlp_end {l : List Int} {k : Nat} {y : Int} (h1 : k ≤ l.length) (h : ¬ (k < l.length ∧ k < 10)) : vlp l (10 - k) k y = if l.length < 10 then (0, 0, 41) else (0, 0, 42) := by
  by_cases hk : k < 10
  · rw [show 10 - k = (10 - (k + 1)) + 1 from by omega, vlp, if_neg (by omega)]
  · rw [show 10 - k = 0 from by omega, vlp]
/-- what Uint answers over the bytes ahead: the number, how many bytes, the error -/
def urd (l : List Int) (limit : Int) : Int × Nat × Int :=
  if (vlp l 10 0 0).2.2 = 0 then (if (vlp l 10 0 0).1 > limit then (0, 0, 42) else ((vlp l 10 0 0).1, (vlp l 10 0 0).2.1.toNat, 0)) else (0, 0, (vlp l 10 0 0).2.2)
theorem vlp_ok : ∀ (f : Nat) (l : List Int) (i : Nat) (x : Int), (vlp l f i x).2.2 = 0 ∨ (vlp l f i x).2.2 = 41 ∨ (vlp l f i x).2.2 = 42
  | 0, l, i, x => by simp only [vlp]; split <;> simp
  | f + 1, l, i, x => by
    simp only [vlp]
    have ih := vlp_ok f l (i + 1) (vstep (l.getD i 0) i x)
    repeat' split
    all_goals first | exact ih | simp
theorem vlp_n : ∀ (f : Nat) (l : List Int) (i : Nat) (x : Int), (vlp l f i x).2.2 = 0 → (i : Int) + 1 ≤ (vlp l f i x).2.1 ∧ (vlp l f i x).2.1 ≤ i + f ∧ (vlp l f i x).2.1 ≤ l.length
  | 0, l, i, x => by simp only [vlp]; split <;> simp
  | f + 1, l, i, x => by
    simp only [vlp]
    have ih := vlp_n f l (i + 1) (vstep (l.getD i 0) i x)
    repeat' split
    all_goals first
      | (intro h; have := ih h; omega)
      | (intro h; refine ⟨by simp, by simp; omega, by simp; omega⟩)
      | (intro h; simp at h)
theorem urd_cases (l : List Int) (limit : Int) : (∃ x n : Int, vlp l 10 0 0 = (x, n, 0) ∧ x ≤ limit ∧ 1 ≤ n ∧ n ≤ 10 ∧ n ≤ l.length ∧ urd l limit = (x, n.toNat, 0)) ∨ (∃ x n : Int, vlp l 10 0 0 = (x, n, 0) ∧ limit < x ∧ 1 ≤ n ∧ n ≤ 10 ∧ urd l limit = (0, 0, 42)) ∨
    (∃ x n er : Int, vlp l 10 0 0 = (x, n, er) ∧ (er = 41 ∨ er = 42) ∧ urd l limit = (0, 0, er)) := by
  obtain ⟨x, n, er, h⟩ : ∃ x n er, vlp l 10 0 0 = (x, n, er) := ⟨_, _, _, rfl⟩
  have h1 := vlp_ok 10 l 0 0
  have h2 := vlp_n 10 l 0 0
  unfold urd
  rw [h] at h1 h2 ⊢
  simp only at h1 h2 ⊢
  by_cases h0 : er = 0
  · subst h0
    have h2 := h2 rfl
    by_cases hx : x > limit
    · exact .inr (.inl ⟨x, n, rfl, hx, by omega, by omega, by simp [hx]⟩)
    · exact .inl ⟨x, n, rfl, by omega, by omega, by omega, by omega, by simp [hx]⟩
  · exact .inr (.inr ⟨x, n, er, rfl, by omega, by simp [h0]⟩)
theorem wrap_range (x : Int) : 0 ≤ IntKind.u64.wrap x ∧ IntKind.u64.wrap x < 18446744073709551616 := by rw [IntKind.wrap_u64]; omega
theorem vstep_range (b : Int) (i : Nat) (x : Int) : 0 ≤ vstep b i x ∧ vstep b i x < 18446744073709551616 := wrap_range _
theorem vlp_range : ∀ (f : Nat) (l : List Int) (i : Nat) (x : Int), 0 ≤ (vlp l f i x).1 ∧ (vlp l f i x).1 < 18446744073709551616
  | 0, l, i, x => by simp only [vlp]; split <;> decide
  | f + 1, l, i, x => by
    simp only [vlp]
    have ih := vlp_range f l (i + 1) (vstep (l.getD i 0) i x)
    have hs := vstep_range (l.getD i 0) i x
    repeat' split
    all_goals first | exact ih | exact hs | decide
theorem urd_range (l : List Int) (limit : Int) : 0 ≤ (urd l limit).1 ∧ (urd l limit).1 < 18446744073709551616 := by
  have := vlp_range 10 l 0 0
  unfold urd
  repeat' split
  all_goals first | exact this | simp
theorem urd_er (l : List Int) (limit : Int) : (urd l limit).2.2 = 0 ∨ (urd l limit).2.2 = 41 ∨ (urd l limit).2.2 = 42 := by
  have := vlp_ok 10 l 0 0
  unfold urd
  repeat' split
  all_goals first | exact this | simp
theorem urd_le (l : List Int) (limit : Int) (h : (urd l limit).2.2 = 0) : (urd l limit).1 ≤ limit := by
  unfold urd at h ⊢
  split
  · rename_i h0
    rw [if_pos h0] at h
    split
    · rename_i h1
      rw [if_pos h1] at h
      simp at h
    · simp only
      omega
  · rename_i h0
    rw [if_neg h0] at h
    exact absurd h h0
theorem urd_n (l : List Int) (limit : Int) (h : (urd l limit).2.2 ≠ 0) : urd l limit = (0, 0, (urd l limit).2.2) := by
  unfold urd at h ⊢
  split
  · rename_i h0
    rw [if_pos h0] at h
    split
    · rfl
    · rename_i h1
      rw [if_neg h1] at h
      simp at h
  · rfl
end Go.Proofs.YtkadamoofiddeaaDoor.Kit
-- The reader: NewReader, Place, Left, Uint.
set_option linter.unusedVariables false
set_option linter.unusedSimpArgs false
set_option linter.unnecessarySimpa false
namespace Go.Proofs.YtkadamoofiddeaaDoor.Kit
open Go.RowKit
theorem min2_int (k k' : IntKind) (x y : Int) : Builtin.min2 (.int k x) (.int k' y) = pure (.int k (min x y)) := by
  simp only [Builtin.min2]; congr 1; congr 1; omega
theorem min_two (ats : Array TypeId) (ty : TypeId) (a b : Value) : Builtin.min_ ats ty #[a, b] = (Builtin.min2 a b >>= fun s => pure s) := by simp only [Builtin.min_, List.foldlM_cons, List.foldlM_nil]
theorem ret3 {w : World} {p : Int × Int × Int} {a b c : Int} (h : p = (a, b, c)) : Ending.returned (.tuple #[.int .u64 a, .int .i64 b, .int .i64 c]) = Ending.returned (.tuple #[.int .u64 p.1, .int .i64 p.2.1, .int .i64 p.2.2]) ∧ w = w := by rw [h]; exact ⟨rfl, rfl⟩
attribute [local go_sem] min2_int min_two
namespace Rdr
variable {w w1 : World} {g : Nat} {v : Value} {l : List Int} {at_ : Nat}
end Rdr
theorem rd_from {w : World} {k : IntKind} {A : Option Addr} {l : List Int} (h : Rd w k A l) (n : Nat) : Rd w k (A.map (·.add n)) (l.drop n) := by
  rcases A with _ | ad
  · intro i hi
    obtain ⟨ad, he, _⟩ := h (n + i) (by simp at hi; omega)
    cases he
  · exact h.drop rfl n
end Go.Proofs.YtkadamoofiddeaaDoor.Kit
-- The reader: Text.
set_option linter.unusedVariables false
set_option linter.unusedSimpArgs false
set_option linter.unnecessarySimpa false
namespace Go.Proofs.YtkadamoofiddeaaDoor.Kit
open Go.RowKit
theorem text_len {l : List Int} {a2 k : Nat} (hk : a2 + k ≤ l.length) : (↑a2 + ↑k : Int).toNat - a2 = ((l.drop a2).take k).length := by
  rw [List.length_take, List.length_drop]
  omega
end Go.Proofs.YtkadamoofiddeaaDoor.Kit
-- The reader: Int; small list functions of the laws.
set_option linter.unusedVariables false
set_option linter.unusedSimpArgs false
set_option linter.unnecessarySimpa false
namespace Go.Proofs.YtkadamoofiddeaaDoor.Kit
open Go.RowKit
theorem i64_wrap_small {x : Int} (h0 : -9223372036854775808 ≤ x) (h1 : x < 9223372036854775808) : IntKind.i64.wrap x = x := by
  simp [IntKind.wrap, IntKind.bits, IntKind.signed]
  split <;> omega
theorem xor_zero_i64 (x : Int) (h0 : 0 ≤ x) (h1 : x < 9223372036854775808) : Go.bits .xor .i64 x 0 = x := by
  obtain ⟨n, rfl⟩ := Int.eq_ofNat_of_zero_le h0
  have e : (BitVec.ofInt IntKind.i64.bits ((n : Nat) : Int) ^^^ BitVec.ofInt IntKind.i64.bits 0).toNat = n := by
    rw [show BitVec.ofInt IntKind.i64.bits 0 = 0#64 from rfl, BitVec.ofInt_natCast]
    show (BitVec.ofNat 64 n ^^^ 0#64).toNat = n
    rw [BitVec.xor_zero, BitVec.toNat_ofNat]
    omega
  unfold Go.bits
  simp only [e]
  exact i64_wrap_small (by omega) (by omega)
theorem bits_xor_comm (x y : Int) : Go.bits .xor .i64 x y = Go.bits .xor .i64 y x := by
  unfold Go.bits
  simp only
  rw [BitVec.xor_comm]
theorem take_next {l m : List Int} {k : Nat} (h : l.take k = m.take k) (h1 : k < l.length) (h2 : k < m.length) (he : l[k] = m[k]) : l.take (k + 1) = m.take (k + 1) := by
  rw [List.take_succ_eq_append_getElem h1, List.take_succ_eq_append_getElem h2, h, he]
theorem ret_bool {a b : Bool} (h : a = b) : Ending.returned (.bool a) = .returned (.bool b) := by rw [h]
end Go.Proofs.YtkadamoofiddeaaDoor.Kit
-- Programs: what is read of them.
set_option linter.unusedVariables false
set_option linter.unusedSimpArgs false
namespace Go.Proofs.YtkadamoofiddeaaDoor.Kit
open Go.RowKit
/-- cells that are read from an address on -/
def RdG (w : World) (A : Option Addr) (cs : List Value) : Prop := ∀ j u, cs[j]? = some u → ∃ ad, A = some ad ∧ w.cell? (ad.add j) = some u
namespace RdG
variable {w w1 : World} {A : Option Addr} {cs ds : List Value}
theorem nil (w : World) (A : Option Addr) : RdG w A [] := fun j u h => by simp at h
theorem chg {S : Nat → Prop} (h : RdG w A cs) (c : Chg S w w1) (hS : ∀ ad, A = some ad → 0 < cs.length → ¬ S ad.block) : RdG w1 A cs := fun j u hu => by
  obtain ⟨ad, e, hc⟩ := h j u hu
  have hl : 0 < cs.length := by
    have := (List.getElem?_eq_some_iff.1 hu).1
    omega
  exact ⟨ad, e, c.cell (by rw [show (ad.add j).block = ad.block from by unfold Addr.add; split <;> rfl]; exact hS ad e hl) hc⟩
theorem chg0 (h : RdG w A cs) (c : Chg (fun _ => False) w w1) : RdG w1 A cs := h.chg c (fun _ _ _ h => h)
theorem below (h : RdG w A cs) (b : Below w.heap.size w w1) : RdG w1 A cs := fun j u hu => by
  obtain ⟨ad, e, hc⟩ := h j u hu
  exact ⟨ad, e, (b.cell (World.block_lt_of_cell? w _ hc)).trans hc⟩
theorem lt (h : RdG w A cs) : ∀ ad, A = some ad → 0 < cs.length → ad.block < w.heap.size := fun ad e hl => by
  obtain ⟨ad', e', hc⟩ := h 0 cs[0] (List.getElem?_eq_getElem hl)
  rw [e] at e'
  injection e' with e'
  subst e'
  have := World.block_lt_of_cell? w _ hc
  rwa [show (ad.add 0).block = ad.block from by unfold Addr.add; split <;> rfl] at this
theorem left (h : RdG w A (cs ++ ds)) : RdG w A cs := fun j u hu => h j u (by rw [List.getElem?_append_left (List.getElem?_eq_some_iff.1 hu).1]; exact hu)
theorem take (h : RdG w A cs) (n : Nat) : RdG w A (cs.take n) := fun j u hu => h j u (by
  rw [List.getElem?_take] at hu
  split at hu
  · exact hu
  · cases hu)
theorem some_of (h : RdG w A cs) (hl : 0 < cs.length) : ∃ ad, A = some ad := by
  obtain ⟨ad, e, _⟩ := h 0 cs[0] (List.getElem?_eq_getElem hl)
  exact ⟨ad, e⟩
end RdG
theorem Rd.toG {w : World} {k : IntKind} {A : Option Addr} {l : List Int} (h : Rd w k A l) : RdG w A (nums k l) := h.news
theorem RdG.toRd {w : World} {k : IntKind} {A : Option Addr} {l : List Int} (h : RdG w A (nums k l)) : Rd w k A l := fun i hi => h i _ (nums_get k l i hi)
theorem OwnV.toG {w : World} {e : TypeId} {sz n c : Nat} {A : Option Addr} {cs : List Value} (h : OwnV w e sz (.slice A n c) n cs) : RdG w A cs := fun j u hu => by
  obtain ⟨ad, e1, e2, _⟩ := h.cells A n c rfl j u hu
  exact ⟨ad, e1, e2⟩
/-- a slice of n elements, sz cells each, that reads so -/
structure SlG (w : World) (v : Value) (sz n : Nat) (cs : List Value) : Prop where
  ex : ∃ A c, v = .slice A n c ∧ n ≤ c ∧ c ≤ maxLen ∧ RdG w A cs
  len : cs.length = n * sz
theorem SlG.chg {w w1 : World} {v : Value} {sz n : Nat} {cs : List Value} {S : Nat → Prop} (h : SlG w v sz n cs) (c : Chg S w w1) (hS : ∀ g, v.ownBlock = some g → ¬ S g) : SlG w1 v sz n cs := by
  obtain ⟨A, k, rfl, h1, h2, h3⟩ := h.ex
  exact ⟨⟨A, k, rfl, h1, h2, h3.chg c (fun ad e _ => hS ad.block (by rw [e]; rfl))⟩, h.len⟩
theorem SlG.chg0 {w w1 : World} {v : Value} {sz n : Nat} {cs : List Value} (h : SlG w v sz n cs) (c : Chg (fun _ => False) w w1) : SlG w1 v sz n cs := h.chg c (fun _ _ h => h)
/-- behind its end: a mark (nil has none) -/
def MkG (w : World) (v : Value) (n : Nat) (cs mark : List Value) : Prop := (∃ c, v = .slice none n c) ∨ ∃ ad c, v = .slice (some ad) n c ∧ n + 1 ≤ c ∧ RdG w (some ad) (cs ++ mark)
theorem MkG.chg {w w1 : World} {v : Value} {n : Nat} {cs mark : List Value} {S : Nat → Prop} (h : MkG w v n cs mark) (c : Chg S w w1) (hS : ∀ g, v.ownBlock = some g → ¬ S g) : MkG w1 v n cs mark := by
  rcases h with h | ⟨ad, k, rfl, h1, h2⟩
  · exact .inl h
  · exact .inr ⟨ad, k, rfl, h1, h2.chg c (fun ad' e _ => by injection e with e; subst e; exact hS ad.block rfl)⟩
theorem MkG.chg0 {w w1 : World} {v : Value} {n : Nat} {cs mark : List Value} (h : MkG w v n cs mark) (c : Chg (fun _ => False) w w1) : MkG w1 v n cs mark := h.chg c (fun _ _ h => h)
/-- an instruction, a day's code, a program -/
structure InsV where
  op : Int
  a : Int
  b : Int
deriving DecidableEq
structure SegV where
  day : Int
  code : List InsV
deriving DecidableEq
structure ProgV where
  names : List ByteArray
  curs : List ByteArray
  pool : List Int
  horizon : Int
  cells : Int
  slots : Int
  stack : Int
  days : List SegV
deriving DecidableEq
def insCells (l : List InsV) : List Value := l.flatMap fun x => [.int .i64 x.op, .int .i64 x.a, .int .i64 x.b]
theorem insCells_length (l : List InsV) : (insCells l).length = l.length * 3 := by
  induction l with
  | nil => rfl
  | cons x xs ih =>
    simp only [insCells, List.flatMap_cons, List.length_append, List.length_cons, List.length_nil] at ih ⊢
    omega
theorem insCells_append (l m : List InsV) : insCells (l ++ m) = insCells l ++ insCells m := by simp [insCells]
theorem insCells_get : ∀ (l : List InsV) (i : Nat) (h : i < l.length), (insCells l)[i * 3]? = some (.int .i64 l[i].op) ∧ (insCells l)[i * 3 + 1]? = some (.int .i64 l[i].a) ∧ (insCells l)[i * 3 + 2]? = some (.int .i64 l[i].b)
  | [], i, h => absurd h (by simp)
  | x :: xs, 0, _ => ⟨rfl, rfl, rfl⟩
  | x :: xs, i + 1, h => by
    have := insCells_get xs i (by simpa using h)
    rw [show (i + 1) * 3 = i * 3 + 1 + 1 + 1 by omega]
    exact this
/-- the cells of the days, whose codes are the slices vs -/
def dayCells : List SegV → List Value → List Value
  | x :: xs, v :: vs => .int .i64 x.day :: v :: dayCells xs vs
  | _, _ => []
theorem dayCells_snoc : ∀ (l : List SegV) (vs : List Value) (x : SegV) (v : Value), l.length = vs.length → dayCells (l ++ [x]) (vs ++ [v]) = dayCells l vs ++ [.int .i64 x.day, v]
  | [], [], x, v, _ => rfl
  | y :: ys, u :: us, x, v, e => by
    show _ :: _ :: dayCells (ys ++ [x]) (us ++ [v]) = _
    rw [dayCells_snoc ys us x v (by simpa using e)]
    rfl
  | [], _ :: _, _, _, e => by simp at e
  | _ :: _, [], _, _, e => by simp at e
theorem dayCells_length : ∀ (l : List SegV) (vs : List Value), l.length = vs.length → (dayCells l vs).length = l.length * 2
  | [], [], _ => rfl
  | y :: ys, u :: us, e => by
    show (dayCells ys us).length + 1 + 1 = _
    rw [dayCells_length ys us (by simpa using e), List.length_cons]
    omega
  | [], _ :: _, e => by simp at e
  | _ :: _, [], e => by simp at e
theorem dayCells_get : ∀ (l : List SegV) (vs : List Value) (i : Nat) (h : i < l.length) (h' : i < vs.length), (dayCells l vs)[i * 2]? = some (.int .i64 l[i].day) ∧ (dayCells l vs)[i * 2 + 1]? = some vs[i]
  | [], _, i, h, _ => absurd h (by simp)
  | _ :: _, [], i, _, h => absurd h (by simp)
  | x :: xs, v :: vs, 0, _, _ => ⟨rfl, rfl⟩
  | x :: xs, v :: vs, i + 1, h, h' => by
    have := dayCells_get xs vs i (by simpa using h) (by simpa using h')
    rw [show (i + 1) * 2 = i * 2 + 1 + 1 by omega]
    exact this
def strs (l : List ByteArray) : List Value := l.map Value.string
theorem strs_length (l : List ByteArray) : (strs l).length = l.length := by simp [strs]
theorem strs_get (l : List ByteArray) (i : Nat) (h : i < l.length) : (strs l)[i]? = some (.string l[i]) := by simp [strs, h]
/-- a program's slices; the slices of its days' codes -/
structure ProgS where
  names : Value
  curs : Value
  pool : Value
  days : Value
  codes : List Value
def progVal (s : ProgS) (p : ProgV) : Value := .agg #[s.names, s.curs, s.pool, .int .i64 p.horizon, .int .i64 p.cells, .int .i64 p.slots, .int .i64 p.stack, s.days]
structure RdProg (w : World) (s : ProgS) (p : ProgV) : Prop where
  names : SlG w s.names 1 p.names.length (strs p.names)
  curs : SlG w s.curs 1 p.curs.length (strs p.curs)
  pool : SlG w s.pool 1 p.pool.length (nums .i64 p.pool)
  days : SlG w s.days 2 p.days.length (dayCells p.days s.codes)
  lenC : p.days.length = s.codes.length
  code : ∀ i (h : i < p.days.length) (h' : i < s.codes.length), SlG w s.codes[i] 3 p.days[i].code.length (insCells p.days[i].code)
theorem RdProg.chg0 {w w1 : World} {s : ProgS} {p : ProgV} (h : RdProg w s p) (c : Chg (fun _ => False) w w1) : RdProg w1 s p :=
  ⟨h.names.chg0 c, h.curs.chg0 c, h.pool.chg0 c, h.days.chg0 c, h.lenC, fun i hi hi' => (h.code i hi hi').chg0 c⟩
/-- how long its lists may be -/
structure SmallP (p : ProgV) : Prop where
  names : p.names.length * 16 ≤ 140737488351232
  curs : p.curs.length * 16 ≤ 140737488351232
  pool : p.pool.length * 8 ≤ 140737488351232
  days : p.days.length * 32 ≤ 140737488351232
  code : ∀ x ∈ p.days, x.code.length * 24 ≤ 140737488351232
def behind : ByteArray := ⟨#[66, 101, 104, 105, 110, 100]⟩
/-- a program in new memory, marks behind the ends of its lists -/
structure Marked (w : World) (s : ProgS) (p : ProgV) : Prop where
  names : MkG w s.names p.names.length (strs p.names) [.string behind]
  curs : MkG w s.curs p.curs.length (strs p.curs) [.string behind]
  pool : MkG w s.pool p.pool.length (nums .i64 p.pool) [.int .i64 (-4711)]
  code : ∀ i (h : i < p.days.length) (h' : i < s.codes.length), MkG w s.codes[i] p.days[i].code.length (insCells p.days[i].code) [.int .i64 (-4711), .int .i64 0, .int .i64 0]
theorem Marked.chg0 {w w1 : World} {s : ProgS} {p : ProgV} (h : Marked w s p) (c : Chg (fun _ => False) w w1) : Marked w1 s p :=
  ⟨h.names.chg0 c, h.curs.chg0 c, h.pool.chg0 c, fun i hi hi' => (h.code i hi hi').chg0 c⟩
end Go.Proofs.YtkadamoofiddeaaDoor.Kit
