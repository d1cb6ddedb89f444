/- Texts that the row leans on: Jpb, Jpc, OpenG, OpenW. -/
import Derived.Test.YtlnomadhgoblkaaProg
import Derived.Test.YtlnomadhgoblkaaQJournalPairan
import Derived.Deep.RegionHeld3
import Derived.Test.YtlnomadhgoblkaaQJournalPairab
import Derived.Deep.Slices
import Derived.Deep.Fields
import Derived.SizedLaws
-- The journal's law.go: sameInts; step of the reading calls.
set_option linter.unusedVariables false
set_option linter.unusedSimpArgs false
namespace Go.Proofs.Ytlnomadhgoblkaa.Kit
open Go.RowKit
/-- two lists of ints, read, that are the same -/
theorem sameIntsT {A B : Option Addr} {n c d : Nat} {l : List Int} {w : World} (hn : Hid (n = l.length)) (hl : n ≤ 17592186044416) (hr : Hid (Rd w .i64 A l)) (hm : Hid (Rd w .i64 B l)) :
    Calls Try.prog 59 #[.slice A n c, .slice B n d] w fun e w' => e = .returned (.bool true) ∧ ∃ n, w' = w.drewN n := by
  go_enter Try.func59, Try.ntmps59
  go_wp2
  go_loopw [5] (fun i wr => ∃ k : Nat, k ≤ n ∧ i = .int .i64 k ∧ ∃ q, wr = w.drewN q) (fun i _ => n - (intOf i).toNat)
  case atStart => exact ⟨0, Nat.zero_le _, rfl, 0, rfl⟩
  case round =>
    obtain ⟨k, hk, rfl, nd, rfl⟩ := hrel
    by_cases hlt : k < n
    · have hlt2 : k < l.length := by have := hn.out; omega
      obtain ⟨a1, rfl, hc1⟩ := hr.out k hlt2
      obtain ⟨a2, rfl, hc2⟩ := hm.out k hlt2
      have b1 : (0 : Int) ≤ (k : Int) := by omega
      have b2 : (k : Int) < (n : Int) := by omega
      have hq' : (l[k] != l[k]) = false := by simp
      go_wp2_with fail
      go_quiet (fail)
      go_wp2
      go_roundw
      case rel => exact ⟨k + 1, by omega, by go_num, _, rfl⟩
      case measure => simp [intOf]; omega
    · go_wp2
      go_ret
      exact ⟨rfl, _, rfl⟩
/-- what a reading call on a Pair leaves -/
def RQ (late : Bool) (g gP gR : Nat) (DP DR DB : Nat → Prop) (ls : List SecV) (k : Nat) (w : World) (e : Ending) (w' : World) : Prop :=
  e = .returned (.bool true) ∧ ∃ DB' k', k' ≤ k + 1 ∧ PairJ late g gP gR DP DR DB' ls k' w' ∧ (∀ x, DB' x → DB x ∨ w.heap.size ≤ x) ∧ Chg (fun x => x = g ∨ DB x) w w'
/-- the box of the call -/
theorem opBoxJ (w : World) (K kr no : Int) (Ar Ab : Option Addr) (nr cr nb cb : Nat) : ∀ W, Chg (fun x => w.heap.size < x ∨ x < w.heap.size) (w.alloc (.cells #[.int .i64 K, .int .i64 kr, .slice Ar nr cr, .int .i64 no, .slice Ab nb cb] 69)) W →
    W.cell? ⟨w.heap.size, 0, none⟩ = some (.int .i64 K) ∧ W.cell? ⟨w.heap.size, 1, none⟩ = some (.int .i64 kr) ∧ W.cell? ⟨w.heap.size, 2, none⟩ = some (.slice Ar nr cr) ∧ W.cell? ⟨w.heap.size, 3, none⟩ = some (.int .i64 no) ∧ W.cell? ⟨w.heap.size, 4, none⟩ = some (.slice Ab nb cb) := by
  intro W hW
  have := (Blk.new w #[.int .i64 K, .int .i64 kr, .slice Ar nr cr, .int .i64 no, .slice Ab nb cb] 69).chg hW (by omega)
  exact ⟨this.at_ rfl, this.at_ rfl, this.at_ rfl, this.at_ rfl, this.at_ rfl⟩
/-- a record by its number, as both journals tell it -/
def recAt (ls : List SecV) (i : Int) : Int × List Int × Int :=
  if i < 0 then (0, [], 2) else match ls[i.toNat]? with
  | some x => (x.id, x.body, 0)
  | none => (0, [], 2)
theorem recAt_cases (ls : List SecV) (i : Int) : (∃ (j : Nat) (x : SecV), i = j ∧ j < ls.length ∧ ls[j]? = some x ∧ recAt ls i = (x.id, x.body, 0)) ∨ ((i < 0 ∨ (ls.length : Int) ≤ i) ∧ recAt ls i = (0, [], 2)) := by
  by_cases h0 : i < 0
  · exact .inr ⟨.inl h0, by rw [recAt, if_pos h0]⟩
  · by_cases h1 : i.toNat < ls.length
    · refine .inl ⟨i.toNat, ls[i.toNat], by omega, h1, List.getElem?_eq_getElem h1, ?_⟩
      rw [recAt, if_neg h0, List.getElem?_eq_getElem h1]
    · refine .inr ⟨.inr (by omega), ?_⟩
      rw [recAt, if_neg h0, List.getElem?_eq_none (by omega)]
theorem recAt_len {ls : List SecV} {i kd er : Int} {bd : List Int} (hg : ∀ x ∈ ls, GoodRec x) (h : recAt ls i = (kd, bd, er)) : bd.length ≤ 4194304 := by
  rcases recAt_cases ls i with ⟨j, x, _, _, h2, h3⟩ | ⟨_, h3⟩
  · rw [h3] at h
    cases h
    exact (hg x (List.mem_of_getElem? h2)).2.2.1
  · rw [h3] at h
    cases h
    exact Nat.zero_le _
theorem len_small {ls : List SecV} (h : (jnlBytes ls).length ≤ 268435456) : ls.length ≤ 1073741824 := by
  have := jnlBytes_len ls
  omega
def RRec (R : Int × List Int × Int) (w : World) (e : Ending) (w' : World) : Prop :=
  ∃ A m c, e = .returned (.tuple #[.agg #[.int .i64 R.1, .slice A m c], .int .i64 R.2.2]) ∧ OwnB w' (.slice A m c) R.2.1 ∧ m = R.2.1.length ∧ Chg (fun _ => False) w w' ∧ ∀ k, Value.ownBlock (.slice A m c) = some k → w.heap.size ≤ k
theorem jrecAny {D : Nat → Prop} {g : Nat} {l : List SecV} {i : Int} {R : Int × List Int × Int} {w : World} (HR : Hid (recAt l i = R)) (hs : Hid ((jnlBytes l).length ≤ 268435456)) (hg : Hid (∀ x ∈ l, GoodRec x)) (hj : Hid (Jn w D g l)) :
    Calls Try.prog 35 #[.pointer (some ⟨g, 0, none⟩), .int .i64 i] w (RRec R w) := by
  rw [← HR.out]
  rcases recAt_cases l i with ⟨j, x, rfl, h1, h2, h3⟩ | ⟨h1, h3⟩
  · rw [h3]
    exact (jrecordOk D g l l.length j x w rfl h1 (len_small hs.out) h2 ((hg.out x (List.mem_of_getElem? h2)).2.2.1) hj).mono fun e w' h => h
  · rw [h3]
    exact (jrecordNo D g l l.length i w rfl h1 hj).mono fun e w' h => ⟨none, 0, 0, h.1, Own.nil _ _ _, rfl, h.2, fun k hk => by simp [Value.ownBlock] at hk⟩
theorem rrecAny {D : Nat → Prop} {g : Nat} {l : List SecV} {i : Int} {R : Int × List Int × Int} {w : World} (HR : Hid (recAt l i = R)) (hs : Hid ((jnlBytes l).length ≤ 268435456)) (hg : Hid (∀ x ∈ l, GoodRec x)) (hj : Hid (RJ w D g l)) :
    Calls Try.prog 56 #[.pointer (some ⟨g, 0, none⟩), .int .i64 i] w (RRec R w) := by
  rw [← HR.out]
  rcases recAt_cases l i with ⟨j, x, rfl, h1, h2, h3⟩ | ⟨h1, h3⟩
  · rw [h3]
    exact (rrecordOk (n := l.length) rfl h1 (len_small hs.out) h2 ((hg.out x (List.mem_of_getElem? h2)).2.2.1) hj).mono fun e w' h => h
  · rw [h3]
    exact (rrecordNo (n := l.length) rfl h1 hj).mono fun e w' h => ⟨none, 0, 0, h.1, Own.nil _ _ _, rfl, h.2, fun k hk => by simp [Value.ownBlock] at hk⟩
/-- put ends a reading call -/
theorem rq_put {late : Bool} {g gP gR : Nat} {DP DR DB : Nat → Prop} {ls : List SecV} {k : Nat} {w wa w' : World} {lv : Value} (h : PairJ late g gP gR DP DR DB ls k wa) (c0 : Chg (fun _ => False) w wa) (hlt : ∀ x, Foot g gP gR DP DR DB x → x < w.heap.size)
    (b : BookI late g 65 [.pointer (some ⟨gP, 0, none⟩), .pointer (some ⟨gR, 0, none⟩)] (fun x => DB x ∨ lv.ownBlock = some x ∨ (wa.heap.size ≤ x ∧ x < w'.heap.size)) (k + 1) w')
    (c : Chg (fun x => x = g ∨ DB x ∨ lv.ownBlock = some x) wa w') (hN : ∀ x, lv.ownBlock = some x → w.heap.size ≤ x) : RQ late g gP gR DP DR DB ls k w (.returned (.bool true)) w' := by
  have hs := c0.size
  refine ⟨rfl, _, k + 1, Nat.le_refl _, h.put b c (fun x hx hd => by have h1 := hN x hx; have h2 := hlt x hd; omega), fun x hx => ?_, (c0.mono (fun _ _ h => h.elim)).trans c (fun x hx h => ?_)⟩
  · rcases hx with hx | hx | hx
    · exact .inl hx
    · exact .inr (hN x hx)
    · exact .inr (by omega)
  · rcases h with h | h | h
    · exact .inl h
    · exact .inr h
    · have := hN x h
      omega
section
variable {late : Bool} {g gP gR : Nat} {DP DR DB : Nat → Prop} {ls : List SecV} {k : Nat} {w : World} {kr no : Int}
set_option maxRecDepth 20000 in
set_option maxHeartbeats 6400000 in
theorem pstepCount (h : Hid (PairJ late g gP gR DP DR DB ls k w))  {Ar Ab : Option Addr} {nr cr nb cb : Nat} :
    Calls Try.prog 33 #[.pointer (some ⟨g, 0, none⟩), .agg #[.int .i64 2, .int .i64 kr, .slice Ar nr cr, .int .i64 no, .slice Ab nb cb]] w (RQ late g gP gR DP DR DB ls k w) := by
  obtain ⟨nl, hnl⟩ : ∃ n, n = ls.length := ⟨_, rfl⟩
  have HN := Lib.hid hnl
  clear hnl
  have HX := Lib.hid (opBoxJ w 2 kr no Ar Ab nr cr nb cb)
  have H0 : Hid (PairJ late g gP gR DP DR DB ls k (w.alloc (.cells #[.int .i64 2, .int .i64 kr, .slice Ar nr cr, .int .i64 no, .slice Ab nb cb] 69))) := h.out.chg0 ((Chg.refl _ w).alloc _)
  have hgl : Hid (∀ x, Foot g gP gR DP DR DB x → x < w.heap.size) := h.out.lt
  obtain ⟨p0, p1, _, _⟩ := H0.out.cells
  obtain ⟨x0, x1, x2, x3, x4⟩ := HX.out _ (Chg.refl _ _)
  go_enter Try.func33, Try.ntmps33
  go_wp2_with fail
  refine (jcount DP gP ls nl _ HN H0.out.p).mono ?_
  rintro e w1 ⟨rfl, rfl⟩
  go_wp2_with fail
  refine (rcount HN H0.out.r).mono ?_
  rintro e w2 ⟨rfl, rfl⟩
  go_wp2_with fail
  go_ret
  exact ⟨rfl, DB, k, by omega, H0.out, fun _ h => .inl h, (Chg.refl _ w).alloc _⟩
set_option maxRecDepth 20000 in
set_option maxHeartbeats 6400000 in
theorem pstepBytes (h : Hid (PairJ late g gP gR DP DR DB ls k w)) (hk : k ≤ 4398046511104) {Ar Ab : Option Addr} {nr cr nb cb : Nat} :
    Calls Try.prog 33 #[.pointer (some ⟨g, 0, none⟩), .agg #[.int .i64 4, .int .i64 kr, .slice Ar nr cr, .int .i64 no, .slice Ab nb cb]] w (RQ late g gP gR DP DR DB ls k w) := by
  obtain ⟨nl, hnl⟩ : ∃ n, n = ls.length := ⟨_, rfl⟩
  have HN := Lib.hid hnl
  clear hnl
  have HX := Lib.hid (opBoxJ w 4 kr no Ar Ab nr cr nb cb)
  have H0 : Hid (PairJ late g gP gR DP DR DB ls k (w.alloc (.cells #[.int .i64 4, .int .i64 kr, .slice Ar nr cr, .int .i64 no, .slice Ab nb cb] 69))) := h.out.chg0 ((Chg.refl _ w).alloc _)
  have hgl : Hid (∀ x, Foot g gP gR DP DR DB x → x < w.heap.size) := h.out.lt
  obtain ⟨p0, p1, _, _⟩ := H0.out.cells
  obtain ⟨x0, x1, x2, x3, x4⟩ := HX.out _ (Chg.refl _ _)
  go_enter Try.func33, Try.ntmps33
  go_wp2_with fail
  have hsm : Hid ((jnlBytes ls).length ≤ 268435456) := h.out.small
  have hgd : Hid (∀ x ∈ ls, GoodRec x) := h.out.good
  refine (jbytesC hsm H0.out.p).mono ?_
  rintro e w1 ⟨A1, n1, c1, rfl, m1, hn1, hc1⟩
  have M1 := Lib.hid m1
  have C1 : Hid (Chg (fun _ => False) w w1) := ((Chg.refl _ w).alloc _).trans m1.chg (fun _ _ h => h)
  have P1 := Lib.hid (H0.out.chg0 m1.chg)
  have L1 : Hid (n1 = (jnlBytes ls).length) := m1.len
  have F1 : Hid (∀ x, Value.ownBlock (.slice A1 n1 c1) = some x → w.heap.size ≤ x) := fun x hx => by have := m1.new x hx; simp at this; omega
  clear m1 p0 p1 x0 x1 x2 x3 x4
  obtain ⟨p0, p1, _, _⟩ := P1.out.cells
  go_wp2_with fail
  refine (rjbytes hsm hgd P1.out.r).mono ?_
  rintro e w2 ⟨A2, n2, c2, rfl, m2⟩
  have P2 := Lib.hid (P1.out.chg0 m2.chg)
  have C2 : Hid (Chg (fun _ => False) w w2) := C1.out.trans m2.chg (fun _ _ h => h)
  have V2 : Hid (OwnB w2 (.slice A1 n1 c1) (jnlBytes ls)) := M1.out.own.chg m2.chg (fun _ _ h => h)
  have R2 : Hid (Rd w2 .u8 A1 (jnlBytes ls)) := V2.out.rd (by rw [← L1.out])
  have L2 : Hid (n2 = (jnlBytes ls).length) := m2.len
  have Q2 : Hid (Rd w2 .u8 A2 (jnlBytes ls)) := m2.own.rd (by rw [← L2.out])
  clear m2
  go_wp2_with fail
  refine (sameBytes' (b := true) L1 L2 (by rw [Hid, ← L1.out]; omega) R2 Q2 (by rw [Hid]; simp)).mono ?_
  rintro e w3 ⟨rfl, nq, rfl⟩
  have P3 : Hid (PairJ late g gP gR DP DR DB ls k (w2.drewN nq)) := P2.out.chg0 ((Chg.refl _ w2).drewN nq)
  have V3 : Hid (OwnB (w2.drewN nq) (.slice A1 n1 c1) (jnlBytes ls)) := V2.out.drewN nq
  have hgD : Hid (∀ x, Value.ownBlock (.slice A1 n1 c1) = some x → ¬ DB x) := fun x hx hd => by
    have h1 := F1.out x hx
    have h2 := h.out.book.size x hd
    omega
  go_wp2_with fail
  refine (putI2 late g 65 _ DB k _ _ _ (by decide) (by decide) P3.out.book V3 hgD hk (by rw [← L1.out]; omega) 2 rfl).mono ?_
  rintro e w4 ⟨rfl, b4, c4, _⟩
  have RQ4 := Lib.hid (rq_put P3.out (C2.out.drewN nq) hgl.out b4 c4 F1.out)
  clear b4 c4
  go_wp2_with fail
  go_ret
  exact RQ4.out
set_option maxRecDepth 20000 in
set_option maxHeartbeats 6400000 in
theorem pstepRec (h : Hid (PairJ late g gP gR DP DR DB ls k w)) (hk : k ≤ 4398046511104) {Ar Ab : Option Addr} {nr cr nb cb : Nat} :
    Calls Try.prog 33 #[.pointer (some ⟨g, 0, none⟩), .agg #[.int .i64 3, .int .i64 kr, .slice Ar nr cr, .int .i64 no, .slice Ab nb cb]] w (RQ late g gP gR DP DR DB ls k w) := by
  obtain ⟨nl, hnl⟩ : ∃ n, n = ls.length := ⟨_, rfl⟩
  have HN := Lib.hid hnl
  clear hnl
  have HX := Lib.hid (opBoxJ w 3 kr no Ar Ab nr cr nb cb)
  have H0 : Hid (PairJ late g gP gR DP DR DB ls k (w.alloc (.cells #[.int .i64 3, .int .i64 kr, .slice Ar nr cr, .int .i64 no, .slice Ab nb cb] 69))) := h.out.chg0 ((Chg.refl _ w).alloc _)
  have hgl : Hid (∀ x, Foot g gP gR DP DR DB x → x < w.heap.size) := h.out.lt
  obtain ⟨p0, p1, _, _⟩ := H0.out.cells
  obtain ⟨x0, x1, x2, x3, x4⟩ := HX.out _ (Chg.refl _ _)
  go_enter Try.func33, Try.ntmps33
  go_wp2_with fail
  obtain ⟨w0, hw0⟩ : ∃ w0, w0 = w.alloc (.cells #[.int .i64 3, .int .i64 kr, .slice Ar nr cr, .int .i64 no, .slice Ab nb cb] 69) := ⟨_, rfl⟩
  rw [← hw0]
  rw [← hw0] at H0 HX
  have C0 : Hid (Chg (fun _ => False) w w0) := by rw [hw0]; exact (Chg.refl _ w).alloc _
  have hb0 : Hid (w.heap.size < w0.heap.size) := by rw [hw0, Hid]; simp
  have TA : Hid (∀ W, Chg (fun _ => False) w0 W → W.cell? ⟨g, 0, none⟩ = some (.pointer (some ⟨gP, 0, none⟩)) ∧ W.cell? ⟨w.heap.size, 3, none⟩ = some (.int .i64 no)) := fun W cW => ⟨(H0.out.chg0 cW).cells.1, (HX.out W (cW.mono (fun _ _ h => h.elim))).2.2.2.1⟩
  have TB : Hid (∀ W, Chg (fun _ => False) w0 W → W.cell? ⟨g, 1, none⟩ = some (.pointer (some ⟨gR, 0, none⟩)) ∧ W.cell? ⟨w.heap.size, 3, none⟩ = some (.int .i64 no)) := fun W cW => ⟨(H0.out.chg0 cW).cells.2.1, (HX.out W (cW.mono (fun _ _ h => h.elim))).2.2.2.1⟩
  have hsm : Hid ((jnlBytes ls).length ≤ 268435456) := h.out.small
  have hgd : Hid (∀ x ∈ ls, GoodRec x) := h.out.good
  have JP0 : Hid (∀ W, Chg (fun _ => False) w0 W → Hid (Jn W DP gP ls)) := fun W cW => H0.out.p.chg0 cW
  have JR0 : Hid (∀ W, Chg (fun _ => False) w0 W → Hid (RJ W DR gR ls)) := fun W cW => H0.out.r.chg0 cW
  obtain ⟨kd, bd, er, hra⟩ : ∃ a b c, recAt ls no = (a, b, c) := ⟨_, _, _, rfl⟩
  have HRA := Lib.hid hra
  clear hra hw0 p0 p1 x0 x1 x2 x3 x4
  obtain ⟨t0, t1⟩ := TA.out w0 (Chg.refl _ _)
  go_cut [11, 12] from 27 to 97 (fun rp nn wx => ∃ hx : Nat, rp = .pointer (some ⟨hx, 0, none⟩) ∧ Hid (Chg (fun _ => False) w0 wx) ∧ ∃ (A7 : Option Addr) (m c7 : Nat), nn = .int .i64 er ∧ Hid (Blk wx hx 31 [.int .i64 kd, .slice A7 m c7]) ∧ Hid (OwnB wx (.slice A7 m c7) bd) ∧ Hid (m = bd.length) ∧ Hid (∀ y, Value.ownBlock (.slice A7 m c7) = some y → w0.heap.size ≤ y) ∧ Hid (w0.heap.size ≤ hx))
  case first =>
    go_region_held3 (fun w' => w'.cell? ⟨g, 0, none⟩ = some (.pointer (some ⟨gP, 0, none⟩)) ∧ w'.cell? ⟨w.heap.size, 3, none⟩ = some (.int .i64 no)) (exact TA.out _ (by repeat (first | exact C5.out | exact Chg.refl _ _ | refine Chg.drew ?_ | refine Chg.drewN ?_ _ | refine Chg.alloc ?_ _ | refine Chg.setCell ?_ (fun e => absurd e (Nat.lt_irrefl _)) _))) (first | (go_at_call 35; (with_reducible refine (jrecAny HRA hsm hgd (JP0.out _ (by repeat (first | exact Chg.refl _ _ | refine Chg.drew ?_ | refine Chg.drewN ?_ _ | refine Chg.alloc ?_ _)))).mono ?_); rintro e w5 ⟨A7, m7, c7, rfl, o7, l7, k1, k2⟩; have C5 : Hid (Chg (fun _ => False) w0 w5) := (show Chg (fun _ => False) w0 _ from by repeat (first | exact Chg.refl _ _ | refine Chg.drew ?_ | refine Chg.drewN ?_ _ | refine Chg.alloc ?_ _)).trans k1 (fun _ _ h => h); (try (have BB : Hid (Blk w5 w0.heap.size 31 [.int .i64 0, .slice none 0 0]) := Blk.chg (by first | exact (Blk.new w0 #[.int .i64 0, .slice none 0 0] 31) | exact (Blk.new w0 #[.int .i64 0, .slice none 0 0] 31).drew | exact (Blk.new w0 #[.int .i64 0, .slice none 0 0] 31).drew.drew | exact (Blk.new w0.drew #[.int .i64 0, .slice none 0 0] 31) | exact (Blk.new w0.drew #[.int .i64 0, .slice none 0 0] 31).drew | exact (Blk.new w0.drew #[.int .i64 0, .slice none 0 0] 31).drew.drew | exact (Blk.new w0.drew.drew #[.int .i64 0, .slice none 0 0] 31) | exact (Blk.new w0.drew.drew #[.int .i64 0, .slice none 0 0] 31).drew | exact (Blk.new w0.drew.drew #[.int .i64 0, .slice none 0 0] 31).drew.drew) k1 id; obtain ⟨z1, z2, z3, z4, z5, z6⟩ := cell2_store BB.out (.int .i64 kd) (.slice A7 m7 c7))); have O7 := Lib.hid o7; have L7 := Lib.hid l7; have F7 : Hid (∀ y, Value.ownBlock (.slice A7 m7 c7) = some y → w0.heap.size ≤ y) := (fun y hy => Nat.le_trans (by simp) (k2 y hy)); clear o7 l7 k1 k2))
    all_goals
      go_wp2_with fail
      go_meet
      case rel =>
        first
        | exact ⟨_, rfl, by repeat (first | exact C5.out | exact Chg.refl _ _ | refine Chg.drew ?_ | refine Chg.drewN ?_ _ | refine Chg.alloc ?_ _ | refine Chg.setCell ?_ (fun e => absurd e (Nat.lt_irrefl _)) _), A7, m7, c7, rfl, (Blk.new w5 #[.int .i64 kd, .slice A7 m7 c7] 31), O7.out.alloc _, L7.out, F7.out, by first | exact True.intro | exact C5.out.size | exact Nat.le_refl _⟩
        | exact ⟨_, rfl, by repeat (first | exact C5.out | exact Chg.refl _ _ | refine Chg.drew ?_ | refine Chg.drewN ?_ _ | refine Chg.alloc ?_ _ | refine Chg.setCell ?_ (fun e => absurd e (Nat.lt_irrefl _)) _), A7, m7, c7, rfl, (BB.out.set 0 _).set 1 _, O7.out.chg (S := fun y => y = w0.heap.size) (((Chg.refl (fun y => y = w0.heap.size) w5).setCell (p := ⟨w0.heap.size, 0, none⟩) (fun _ => rfl) _).setCell (p := ⟨w0.heap.size, 1, none⟩) (fun _ => rfl) _) (fun y hy e => OwnV.type_ne O7.out BB.out (by decide) (by rw [hy, e])), L7.out, F7.out, by first | exact True.intro | exact C5.out.size | exact Nat.le_refl _⟩
  case rest =>
    obtain ⟨h1, rfl, C1, A1, m1, c1, rfl, B1, O1, L1, F1, G1⟩ := hcut
    obtain ⟨w1, hw1⟩ : ∃ x, x = wc := ⟨_, rfl⟩
    subst hw1
    have TB1 : Hid (∀ W, Chg (fun _ => False) w1 W → W.cell? ⟨g, 1, none⟩ = some (.pointer (some ⟨gR, 0, none⟩)) ∧ W.cell? ⟨w.heap.size, 3, none⟩ = some (.int .i64 no)) := fun W cW => TB.out W (C1.out.trans cW (fun _ _ h => h))
    have JR1 : Hid (∀ W, Chg (fun _ => False) w1 W → Hid (RJ W DR gR ls)) := fun W cW => JR0.out W (C1.out.trans cW (fun _ _ h => h))
    clear t0 t1
    obtain ⟨t0, t1⟩ := TB1.out w1 (Chg.refl _ _)
    go_upto_region 15 with fail
    go_cut [13, 14] from 27 to 107 (fun rp nn wx => ∃ hx : Nat, rp = .pointer (some ⟨hx, 0, none⟩) ∧ Hid (Chg (fun _ => False) w1 wx) ∧ ∃ (A7 : Option Addr) (m c7 : Nat), nn = .int .i64 er ∧ Hid (Blk wx hx 31 [.int .i64 kd, .slice A7 m c7]) ∧ Hid (OwnB wx (.slice A7 m c7) bd) ∧ Hid (m = bd.length) ∧ Hid (∀ y, Value.ownBlock (.slice A7 m c7) = some y → w1.heap.size ≤ y) ∧ Hid (w1.heap.size ≤ hx))
    case first =>
      go_region_held3 (fun w' => w'.cell? ⟨g, 1, none⟩ = some (.pointer (some ⟨gR, 0, none⟩)) ∧ w'.cell? ⟨w.heap.size, 3, none⟩ = some (.int .i64 no)) (exact TB1.out _ (by repeat (first | exact C5.out | exact Chg.refl _ _ | refine Chg.drew ?_ | refine Chg.drewN ?_ _ | refine Chg.alloc ?_ _ | refine Chg.setCell ?_ (fun e => absurd e (Nat.lt_irrefl _)) _))) (first | (go_at_call 56; (with_reducible refine (rrecAny HRA hsm hgd (JR1.out _ (by repeat (first | exact Chg.refl _ _ | refine Chg.drew ?_ | refine Chg.drewN ?_ _ | refine Chg.alloc ?_ _)))).mono ?_); rintro e w5 ⟨A7, m7, c7, rfl, o7, l7, k1, k2⟩; have C5 : Hid (Chg (fun _ => False) w1 w5) := (show Chg (fun _ => False) w1 _ from by repeat (first | exact Chg.refl _ _ | refine Chg.drew ?_ | refine Chg.drewN ?_ _ | refine Chg.alloc ?_ _)).trans k1 (fun _ _ h => h); (try (have BB : Hid (Blk w5 w1.heap.size 31 [.int .i64 0, .slice none 0 0]) := Blk.chg (by first | exact (Blk.new w1 #[.int .i64 0, .slice none 0 0] 31) | exact (Blk.new w1 #[.int .i64 0, .slice none 0 0] 31).drew | exact (Blk.new w1 #[.int .i64 0, .slice none 0 0] 31).drew.drew | exact (Blk.new w1.drew #[.int .i64 0, .slice none 0 0] 31) | exact (Blk.new w1.drew #[.int .i64 0, .slice none 0 0] 31).drew | exact (Blk.new w1.drew #[.int .i64 0, .slice none 0 0] 31).drew.drew | exact (Blk.new w1.drew.drew #[.int .i64 0, .slice none 0 0] 31) | exact (Blk.new w1.drew.drew #[.int .i64 0, .slice none 0 0] 31).drew | exact (Blk.new w1.drew.drew #[.int .i64 0, .slice none 0 0] 31).drew.drew) k1 id; obtain ⟨z1, z2, z3, z4, z5, z6⟩ := cell2_store BB.out (.int .i64 kd) (.slice A7 m7 c7))); have O7 := Lib.hid o7; have L7 := Lib.hid l7; have F7 : Hid (∀ y, Value.ownBlock (.slice A7 m7 c7) = some y → w1.heap.size ≤ y) := (fun y hy => Nat.le_trans (by simp) (k2 y hy)); clear o7 l7 k1 k2))
      all_goals
        go_wp2_with fail
        go_meet
        case rel =>
          first
          | exact ⟨_, rfl, by repeat (first | exact C5.out | exact Chg.refl _ _ | refine Chg.drew ?_ | refine Chg.drewN ?_ _ | refine Chg.alloc ?_ _ | refine Chg.setCell ?_ (fun e => absurd e (Nat.lt_irrefl _)) _), A7, m7, c7, rfl, (Blk.new w5 #[.int .i64 kd, .slice A7 m7 c7] 31), O7.out.alloc _, L7.out, F7.out, by first | exact True.intro | exact C5.out.size | exact Nat.le_refl _⟩
          | exact ⟨_, rfl, by repeat (first | exact C5.out | exact Chg.refl _ _ | refine Chg.drew ?_ | refine Chg.drewN ?_ _ | refine Chg.alloc ?_ _ | refine Chg.setCell ?_ (fun e => absurd e (Nat.lt_irrefl _)) _), A7, m7, c7, rfl, (BB.out.set 0 _).set 1 _, O7.out.chg (S := fun y => y = w1.heap.size) (((Chg.refl (fun y => y = w1.heap.size) w5).setCell (p := ⟨w1.heap.size, 0, none⟩) (fun _ => rfl) _).setCell (p := ⟨w1.heap.size, 1, none⟩) (fun _ => rfl) _) (fun y hy e => OwnV.type_ne O7.out BB.out (by decide) (by rw [hy, e])), L7.out, F7.out, by first | exact True.intro | exact C5.out.size | exact Nat.le_refl _⟩
    case rest =>
      obtain ⟨h2, rfl, C2, A2, m2, c2, rfl, B2, O2, L2, F2, G2⟩ := hcut
      obtain ⟨w2, hw2⟩ : ∃ x, x = wc := ⟨_, rfl⟩
      subst hw2
      clear t0 t1
      have B12 : Hid (Blk w2 h1 31 [.int .i64 kd, .slice A1 m1 c1]) := B1.out.chg C2.out id
      have O12 : Hid (OwnB w2 (.slice A1 m1 c1) bd) := O1.out.chg C2.out (fun _ _ h => h)
      have R1 : Hid (∀ W, Chg (fun _ => False) w2 W → Hid (Rd W .u8 A1 bd)) := fun W cW => (O12.out.rd (by rw [← L1.out])).below cW.done
      have R2 : Hid (∀ W, Chg (fun _ => False) w2 W → Hid (Rd W .u8 A2 bd)) := fun W cW => (O2.out.rd (by rw [← L2.out])).below cW.done
      have TC : Hid (∀ W, Chg (fun _ => False) w2 W → W.cell? ⟨h1, 0, none⟩ = some (.int .i64 kd) ∧ W.cell? ⟨h1, 1, none⟩ = some (.slice A1 m1 c1) ∧ W.cell? ⟨h2, 0, none⟩ = some (.int .i64 kd) ∧ W.cell? ⟨h2, 1, none⟩ = some (.slice A2 m2 c2)) := fun W cW => ⟨(B12.out.chg cW id).at_ (i := 0) rfl, (B12.out.chg cW id).at_ (i := 1) rfl, (B2.out.chg cW id).at_ (i := 0) rfl, (B2.out.chg cW id).at_ (i := 1) rfl⟩
      have hbl : Hid (bd.length ≤ 4194304) := recAt_len hgd.out HRA.out
      have hbl2 : Hid (bd.length ≤ 140737488355328) := Nat.le_trans hbl.out (by decide)
      have HEQ : Hid (decide (bd = bd) = true) := by rw [Hid]; simp
      obtain ⟨t0, t1, t2, t3⟩ := TC.out w2 (Chg.refl _ _)
      have P2 : Hid (PairJ late g gP gR DP DR DB ls k w2) := (H0.out.chg0 C1.out).chg0 C2.out
      have C02 : Hid (Chg (fun _ => False) w w2) := (C0.out.trans C1.out (fun _ _ h => h)).trans C2.out (fun _ _ h => h)
      have eK : (kd == kd) = true := by simp
      have eE : (er == er) = true := by simp
      go_wp2_with fail
      refine (sameBytes' (b := true) L1 L2 hbl2 (R1.out _ (Chg.refl _ _)) (R2.out _ (Chg.refl _ _)) (by rw [Hid]; simp)).mono ?_
      rintro e w3 ⟨rfl, nq, rfl⟩
      obtain ⟨t4, t5, t6, t7⟩ := TC.out (w2.drewN nq) ((Chg.refl _ w2).drewN nq)
      have PW : Hid (∀ W, Chg (fun _ => False) w2 W → PairJ late g gP gR DP DR DB ls k W) := fun W cW => P2.out.chg0 cW
      have VW : Hid (∀ W, Chg (fun _ => False) w2 W → OwnB W (.slice A1 m1 c1) bd) := fun W cW => O12.out.chg cW (fun _ _ h => h)
      have F1w : Hid (∀ x, Value.ownBlock (.slice A1 m1 c1) = some x → w.heap.size ≤ x) := fun x hx => Nat.le_trans (Nat.le_of_lt hb0.out) (F1.out x hx)
      have hgD : Hid (∀ x, Value.ownBlock (.slice A1 m1 c1) = some x → ¬ DB x) := fun x hx hd => by
        have h1 := F1w.out x hx
        have h2 := h.out.book.size x hd
        omega
      have hbl3 : bd.length ≤ 140738025226240 := Nat.le_trans hbl.out (by decide)
      go_wp2_with fail
      go_region_with (go_at_call 54; (with_reducible refine (putI2 late g 65 _ DB k _ _ _ (by decide) (by decide) (Lib.hid (PW.out _ (by repeat (first | exact Chg.refl _ _ | refine Chg.drew ?_ | refine Chg.drewN ?_ _ | refine Chg.alloc ?_ _))).book) (Lib.hid (VW.out _ (by repeat (first | exact Chg.refl _ _ | refine Chg.drew ?_ | refine Chg.drewN ?_ _ | refine Chg.alloc ?_ _)))) hgD hk hbl3 2 rfl).mono ?_); rintro e w4 ⟨rfl, b4, c4, _⟩; have RQ4 := Lib.hid (rq_put (PW.out _ (by repeat (first | exact Chg.refl _ _ | refine Chg.drew ?_ | refine Chg.drewN ?_ _ | refine Chg.alloc ?_ _))) (C02.out.trans (show Chg (fun _ => False) w2 _ from by repeat (first | exact Chg.refl _ _ | refine Chg.drew ?_ | refine Chg.drewN ?_ _ | refine Chg.alloc ?_ _)) (fun _ _ h => h)) hgl.out b4 c4 F1w.out); clear b4 c4)
      all_goals
        go_wp2_with fail
        go_ret
        exact RQ4.out
set_option maxRecDepth 20000 in
set_option maxHeartbeats 6400000 in
theorem pstepEnds (h : Hid (PairJ late g gP gR DP DR DB ls k w))  {Ar Ab : Option Addr} {nr cr nb cb : Nat} :
    Calls Try.prog 33 #[.pointer (some ⟨g, 0, none⟩), .agg #[.int .i64 5, .int .i64 kr, .slice Ar nr cr, .int .i64 no, .slice Ab nb cb]] w (RQ late g gP gR DP DR DB ls k w) := by
  obtain ⟨nl, hnl⟩ : ∃ n, n = ls.length := ⟨_, rfl⟩
  have HN := Lib.hid hnl
  clear hnl
  have HX := Lib.hid (opBoxJ w 5 kr no Ar Ab nr cr nb cb)
  have H0 : Hid (PairJ late g gP gR DP DR DB ls k (w.alloc (.cells #[.int .i64 5, .int .i64 kr, .slice Ar nr cr, .int .i64 no, .slice Ab nb cb] 69))) := h.out.chg0 ((Chg.refl _ w).alloc _)
  have hgl : Hid (∀ x, Foot g gP gR DP DR DB x → x < w.heap.size) := h.out.lt
  obtain ⟨p0, p1, _, _⟩ := H0.out.cells
  obtain ⟨x0, x1, x2, x3, x4⟩ := HX.out _ (Chg.refl _ _)
  go_enter Try.func33, Try.ntmps33
  go_wp2_with fail
  have hsm : Hid ((jnlBytes ls).length ≤ 268435456) := h.out.small
  have hgd : Hid (∀ x ∈ ls, GoodRec x) := h.out.good
  have hnl : nl ≤ 17592186044416 := by
    have := len_small hsm.out
    rw [HN.out]
    omega
  refine (jendsCall DP gP ls nl _ HN hnl H0.out.p).mono ?_
  rintro e w1 ⟨A1, c1, rfl, o1, k1, f1⟩
  have O1 := Lib.hid o1
  have P1 := Lib.hid (H0.out.chg0 k1)
  have C1 : Hid (Chg (fun _ => False) w w1) := ((Chg.refl _ w).alloc _).trans k1 (fun _ _ h => h)
  have F1 : Hid (∀ x, Value.ownBlock (.slice A1 nl c1) = some x → w.heap.size ≤ x) := fun x hx => by have := f1 x hx; simp at this; omega
  clear o1 k1 f1 p0 p1 x0 x1 x2 x3 x4
  obtain ⟨p0, p1, _, _⟩ := P1.out.cells
  go_wp2_with fail
  refine (rjends HN hsm hgd P1.out.r).mono ?_
  rintro e w2 ⟨A2, c2, rfl, o2, k2, f2⟩
  have O2 := Lib.hid o2
  have P2 := Lib.hid (P1.out.chg0 k2)
  have C12 : Hid (Chg (fun _ => False) w1 w2) := k2
  have C2 : Hid (Chg (fun _ => False) w w2) := C1.out.trans k2 (fun _ _ h => h)
  have F2 : Hid (∀ x, Value.ownBlock (.slice A2 nl c2) = some x → w1.heap.size ≤ x) := f2
  clear o2 k2 f2 p0 p1
  obtain ⟨p0, p1, _, _⟩ := P2.out.cells
  go_wp2_with fail
  refine (jendsCall DP gP ls nl _ HN hnl P2.out.p).mono ?_
  rintro e w3 ⟨A3, c3, rfl, o3, k3, f3⟩
  have O3 := Lib.hid o3
  have P3 := Lib.hid (P2.out.chg0 k3)
  have C23 : Hid (Chg (fun _ => False) w2 w3) := k3
  have C3 : Hid (Chg (fun _ => False) w w3) := C2.out.trans k3 (fun _ _ h => h)
  have F3 : Hid (∀ x, Value.ownBlock (.slice A3 nl c3) = some x → w2.heap.size ≤ x) := f3
  clear o3 k3 f3
  have HE : Hid (nl = (jends ls).length) := by rw [Hid, jends_length]; exact HN.out
  have O13 : Hid (Own w3 3 .i64 (.slice A1 nl c1) (jends ls)) := O1.out.chg (C12.out.trans C23.out (fun _ _ h => h)) (fun _ _ h => h)
  have O23 : Hid (Own w3 3 .i64 (.slice A2 nl c2) (jends ls)) := O2.out.chg C23.out (fun _ _ h => h)
  have O33 : Hid (Own w3 3 .i64 (.slice A3 nl c3) (jends ls)) := O3
  have R13 : Hid (Rd w3 .i64 A1 (jends ls)) := O13.out.rd (by rw [← HE.out])
  have R23 : Hid (Rd w3 .i64 A2 (jends ls)) := O23.out.rd (by rw [← HE.out])
  have R33 : Hid (Rd w3 .i64 A3 (jends ls)) := O33.out.rd (by rw [← HE.out])
  have B13 : Hid (w.heap.size ≤ w1.heap.size ∧ w1.heap.size ≤ w2.heap.size) := ⟨C1.out.size, C12.out.size⟩
  have X12 : Hid (∀ x, Value.ownBlock (.slice A1 nl c1) = some x → x < w1.heap.size) := O1.out.lt
  clear P2 p0 p1 O3
  go_wp2_with fail
  refine (sameIntsT HE hnl R13 R23).mono ?_
  rintro e w4 ⟨rfl, q4, rfl⟩
  have R24 : Hid (Rd (w3.drewN q4) .i64 A2 (jends ls)) := R23
  have R34 : Hid (Rd (w3.drewN q4) .i64 A3 (jends ls)) := R33
  go_wp2_with fail
  refine (sameIntsT HE hnl R34 R24).mono ?_
  rintro e w5 ⟨rfl, q5, rfl⟩
  have b0 : Hid (∀ x, Value.ownBlock (.slice A1 nl c1) = some x → ¬ Foot g gP gR DP DR DB x) := fun x hx hd => by
    have h1 := F1.out x hx
    have h2 := hgl.out x hd
    omega
  clear R13 R24 R34
  go_wp2_with fail
  go_loopw [23] (fun i wr => ∃ kk : Nat, kk ≤ nl ∧ i = .int .i64 kk ∧ Hid (Own wr 3 .i64 (.slice A1 nl c1) (fillUp (jends ls) (-7) kk)) ∧ Hid (Chg (fun x => Value.ownBlock (.slice A1 nl c1) = some x) w3 wr)) (fun i _ => nl - (intOf i).toNat)
  case atStart => exact ⟨0, Nat.zero_le _, rfl, by have := O13.out.drewN (q4 + q5); rw [Hid]; simpa [fillUp] using this, (Chg.refl _ w3).drewN (q4 + q5)⟩
  case round =>
    obtain ⟨kk, hk2, rfl, ho, hc2⟩ := hrel
    by_cases hlt : kk < nl
    · have hll : (fillUp (jends ls) (-7) kk).length = nl := (fillUp_length _ _ kk (by rw [← HE.out]; exact hk2)).trans HE.out.symm
      obtain ⟨ga, rfl, hga⟩ := own_some ho.out (by rw [hll]; omega)
      obtain ⟨⟨y, hce⟩, hfr⟩ : (∃ y, wr.cell? ⟨ga, kk, none⟩ = some y) ∧ wr.frozen? ⟨ga, kk, none⟩ = false := by
        have := Own.cellAt ho.out (i := kk) (by rw [hll]; omega)
        exact ⟨⟨_, this.1⟩, this.2⟩
      have HLT := Lib.hid hlt
      have b1 : (0 : Int) ≤ (kk : Int) := by omega
      have b2 : (kk : Int) < (nl : Int) := by omega
      clear hll
      go_wp2_with fail
      go_roundw
      case rel =>
        refine ⟨kk + 1, by omega, by go_num, ?_, hc2.out.setCell (p := ⟨ga, kk, none⟩) (fun _ => hga) _⟩
        have := ho.out.store (i := kk) (by rw [fillUp_length _ _ kk (by rw [← HE.out]; exact hk2), ← HE.out]; exact HLT.out) (-7)
        rw [fillUp_set _ _ kk (by rw [← HE.out]; exact HLT.out)] at this
        exact this
      case measure => simp [intOf]; omega
    · have h3n : Hid (∀ x, Value.ownBlock (.slice A3 nl c3) = some x → ¬ Value.ownBlock (.slice A1 nl c1) = some x) := fun x hx hx1 => by
        have h1 := F3.out x hx
        have h2 := X12.out x hx1
        have h3 := B13.out
        omega
      have h2n : Hid (∀ x, Value.ownBlock (.slice A2 nl c2) = some x → ¬ Value.ownBlock (.slice A1 nl c1) = some x) := fun x hx hx1 => by
        have h1 := F2.out x hx
        have h2 := X12.out x hx1
        have h3 := B13.out
        omega
      have S3 : Hid (Rd wr .i64 A3 (jends ls)) := (O33.out.chg hc2.out h3n.out).rd (by rw [← HE.out])
      have S2 : Hid (Rd wr .i64 A2 (jends ls)) := (O23.out.chg hc2.out h2n.out).rd (by rw [← HE.out])
      have PF : Hid (PairJ late g gP gR DP DR DB ls k wr) := P3.out.chg hc2.out b0.out
      have CF : Hid (Chg (fun x => x = g ∨ DB x) w wr) := (C3.out.mono (fun _ _ h => h.elim)).trans hc2.out (fun x hx h => by
        have := F1.out x h
        omega)
      go_wp2_with fail
      refine (sameIntsT HE hnl S3 S2).mono ?_
      rintro e w6 ⟨rfl, q6, rfl⟩
      go_wp2_with fail
      go_ret
      exact ⟨rfl, DB, k, by omega, PF.out.chg0 ((Chg.refl _ wr).drewN q6), fun _ h => .inl h, CF.out.drewN q6⟩
end
end Go.Proofs.Ytlnomadhgoblkaa.Kit
-- JournalOpens.
set_option linter.unusedVariables false
set_option linter.unusedSimpArgs false
namespace Go.Proofs.Ytlnomadhgoblkaa.Kit
open Go.RowKit
/-- a pair that is new -/
theorem pairJNew {gP gR : Nat} {DP : Nat → Prop} {w : World} (hj : Jn w DP gP []) (hr : RJ w (fun _ => False) gR []) (hpr : ∀ x, (DP x ∨ x = gP) → x ≠ gR) (late : Bool) :
    PairJ late w.heap.size gP gR DP (fun _ => False) (fun _ => False) [] 0 (w.alloc (.cells #[.pointer (some ⟨gP, 0, none⟩), .pointer (some ⟨gR, 0, none⟩), .slice none 0 0, .bool late, .slice none 0 0, .slice none 0 0] 65)) :=
  ⟨BookI.new (Blk.new w _ _), hj.chg0 ((Chg.refl _ w).alloc _), hr.chg0 ((Chg.refl _ w).alloc _), fun x hx => absurd hx (by simp), by decide, fun x hx => ⟨id, fun e => by
    rcases hx with hx | hx
    · have := hj.size x hx
      omega
    · have := hj.lt
      omega⟩, fun x hx => ⟨id, fun e => by
    rcases hx with hx | hx
    · exact hx
    · have := hr.lt
      omega⟩, fun x hx hd => hd.elim id (hpr x hx)⟩
set_option maxRecDepth 20000 in
set_option maxHeartbeats 6400000 in
theorem journalOpensWalk {B : Option Addr} {no cb : Nat} {ot : List Int} {w : World} (HNO : Hid (no = ot.length)) (hno : no ≤ 140737488351232) (hcb : no ≤ cb) (hcm : cb ≤ maxLen) (hbb : Hid (Byt ot)) (hrb : Hid (Rd w .u8 B ot)) :
    Calls Try.prog 8 #[.slice B no cb] w fun e w' => e = .returned (.bool true) ∧ Below w.heap.size w w' := by
  go_enter Try.func8, Try.ntmps8
  go_wp2_with fail
  refine (jnew _).mono ?_
  rintro e w1 ⟨gP, DP, rfl, j1, n1, n1', c1⟩
  have J1 := Lib.hid j1
  have N1 : Hid ((∀ x, DP x → w.heap.size ≤ x) ∧ w.heap.size ≤ gP) := ⟨n1, n1'⟩
  have C1 := Lib.hid c1
  clear j1 n1 n1' c1
  go_wp2_with fail
  refine (rnew _).mono ?_
  rintro e w2 ⟨gR, rfl, r2, n2, c2⟩
  have HP := Lib.hid (pairJNew (J1.out.chg0 c2) r2 (fun x hx e => by
    rcases hx with hx | hx
    · have := J1.out.size x hx
      omega
    · have := J1.out.lt
      omega) false)
  have C2 : Hid (Chg (fun _ => False) w w2) := C1.out.trans c2 (fun _ _ h => h)
  have N2 : Hid (w.heap.size ≤ gR) := Nat.le_trans C1.out.size n2
  clear r2 n2 c2
  have hcl := HP.out.cells
  obtain ⟨p0, p1, _, _⟩ := hcl
  go_upto_region 4 with fail
  obtain ⟨w3, hw3⟩ : ∃ w3, w3 = w2.alloc (.cells #[.pointer (some ⟨gP, 0, none⟩), .pointer (some ⟨gR, 0, none⟩), .slice none 0 0, .bool false, .slice none 0 0, .slice none 0 0] 65) := ⟨_, rfl⟩
  obtain ⟨gp, hgp⟩ : ∃ gp, gp = w2.heap.size := ⟨_, rfl⟩
  rw [← hw3, ← hgp]
  rw [← hw3, ← hgp] at HP
  have C3 : Hid (Chg (fun _ => False) w w3) := by rw [hw3]; exact C2.out.alloc _
  have hgg : Hid (w.heap.size ≤ gp) := by rw [hgp]; exact C2.out.size
  have F0 : Hid (∀ x, Foot gp gP gR DP (fun _ => False) (fun _ => False) x → w.heap.size ≤ x) := fun x hx => by
    rcases hx with hx | hx | hx | hx | hx | hx
    · rw [hx]; exact hgg.out
    · exact hx.elim
    · exact N1.out.1 x hx
    · rw [hx]; exact N1.out.2
    · exact hx.elim
    · rw [hx]; exact N2.out
  have R3 : Hid (Rd w3 .u8 B ot) := hrb.out.below C3.out.done
  clear hw3 hgp p0 p1 J1 N1 C1 C2 N2
  go_wp2_with fail
  refine (popen HP (by decide) HNO (Nat.le_trans hno (by decide)) hcb hcm hbb R3).mono ?_
  rintro e w4 ⟨rfl, ⟨gP4, gR4, DP4, DR4, DB4, ls, p4, f4⟩, c4⟩
  have P4 := Lib.hid p4
  have F4 : Hid (∀ x, Foot gp gP4 gR4 DP4 DR4 DB4 x → w.heap.size ≤ x) := fun x hx => by
    rcases f4 x hx with h | h
    · exact F0.out x h
    · exact Nat.le_trans C3.out.size h
  have C4 : Hid (Chg (fun _ => False) w w4) := C3.out.trans c4 (fun x hx h => by have := F0.out x h; omega)
  clear p4 f4 c4
  obtain ⟨nl, hnl⟩ : ∃ n, n = ls.length := ⟨_, rfl⟩
  have HN := Lib.hid hnl
  have hnb : nl ≤ 1073741824 := by rw [hnl]; exact len_small P4.out.small
  clear hnl
  go_wp2_with fail
  go_loopw [4, 5] (fun ok i wr => ∃ (kk : Nat) (DBk : Nat → Prop) (k : Nat), kk ≤ nl + 2 ∧ i = .int .i64 ((kk : Int) - 1) ∧ ok = .bool true ∧ k ≤ kk + 1 ∧ Hid (PairJ false gp gP4 gR4 DP4 DR4 DBk ls k wr) ∧ Hid (∀ x, Foot gp gP4 gR4 DP4 DR4 DBk x → w.heap.size ≤ x) ∧ Hid (Chg (fun _ => False) w wr)) (fun _ i _ => nl + 2 - ((intOf i) + 1).toNat)
  case atStart => exact ⟨0, DB4, 1, by omega, rfl, rfl, by omega, P4, F4, C4⟩
  case round =>
    obtain ⟨kk, DBk, k, hkk, rfl, rfl, hk, PK, FK, CK⟩ := hrel
    obtain ⟨p0, p1, _, _⟩ := PK.out.cells
    have wrap1 : IntKind.i64.wrap ((kk : Int) - 1 + 1) = (kk : Int) := by rw [IntWalk.i64_in _ (by omega)]; omega
    have wrap2 : IntKind.i64.wrap (kk : Int) = (kk : Int) := IntWalk.i64_in _ (by omega)
    go_wp2_with fail
    refine (rcount HN PK.out.r).mono ?_
    rintro e w5 ⟨rfl, rfl⟩
    by_cases hlt : kk ≤ nl + 1
    · have b1 : (kk : Int) - 1 ≤ (nl : Int) := by omega
      go_wp2_with fail
      refine (pstepRec PK (by omega)).mono ?_
      rintro e w6 ⟨rfl, DB6, k6, hk6, p6, f6, c6⟩
      have P6 := Lib.hid p6
      have F6 : Hid (∀ x, Foot gp gP4 gR4 DP4 DR4 DB6 x → w.heap.size ≤ x) := fun x hx => by
        rcases hx with hx | hx | hx
        · exact FK.out x (.inl hx)
        · rcases f6 x hx with h | h
          · exact FK.out x (.inr (.inl h))
          · exact Nat.le_trans CK.out.size h
        · exact FK.out x (.inr (.inr hx))
      have C6 : Hid (Chg (fun _ => False) w w6) := CK.out.trans c6 (fun x hx h => by
        have := FK.out x (h.elim .inl (fun h => .inr (.inl h)))
        omega)
      clear p6 f6 c6
      go_wp2_with fail
      go_roundw
      case rel => exact ⟨kk + 1, DB6, k6, by omega, by (first | rfl | go_num | (congr 1; omega)), rfl, by omega, P6, F6, C6⟩
      case measure => simp [intOf]; omega
    · have b1 : ¬ (kk : Int) - 1 ≤ (nl : Int) := by omega
      go_wp2_with fail
      refine (pstepBytes (kr := 0) (no := 0) PK (by omega)).mono ?_
      rintro e w6 ⟨rfl, DB6, k6, hk6, p6, f6, c6⟩
      have P6 := Lib.hid p6
      have F6 : Hid (∀ x, Foot gp gP4 gR4 DP4 DR4 DB6 x → w.heap.size ≤ x) := fun x hx => by
        rcases hx with hx | hx | hx
        · exact FK.out x (.inl hx)
        · rcases f6 x hx with h | h
          · exact FK.out x (.inr (.inl h))
          · exact Nat.le_trans CK.out.size h
        · exact FK.out x (.inr (.inr hx))
      have C6 : Hid (Chg (fun _ => False) w w6) := CK.out.trans c6 (fun x hx h => by
        have := FK.out x (h.elim .inl (fun h => .inr (.inl h)))
        omega)
      clear p6 f6 c6
      go_wp2_with fail
      refine (pstepEnds (kr := 0) (no := 0) P6).mono ?_
      rintro e w7 ⟨rfl, DB7, k7, hk7, p7, f7, c7⟩
      have P7 := Lib.hid p7
      have F7 : Hid (∀ x, Foot gp gP4 gR4 DP4 DR4 DB7 x → w.heap.size ≤ x) := fun x hx => by
        rcases hx with hx | hx | hx
        · exact F6.out x (.inl hx)
        · rcases f7 x hx with h | h
          · exact F6.out x (.inr (.inl h))
          · exact Nat.le_trans C6.out.size h
        · exact F6.out x (.inr (.inr hx))
      have C7 : Hid (Chg (fun _ => False) w w7) := C6.out.trans c7 (fun x hx h => by
        have := F6.out x (h.elim .inl (fun h => .inr (.inl h)))
        omega)
      clear p7 f7 c7
      go_wp2_with fail
      refine (pstepCount (kr := 0) (no := 0) P7).mono ?_
      rintro e w8 ⟨rfl, DB8, k8, hk8, p8, f8, c8⟩
      have C8 : Hid (Chg (fun _ => False) w w8) := C7.out.trans c8 (fun x hx h => by
        have := F7.out x (h.elim .inl (fun h => .inr (.inl h)))
        omega)
      clear p8 f8 c8
      go_wp2_with fail
      go_ret
      exact ⟨rfl, C8.out.done⟩
end Go.Proofs.Ytlnomadhgoblkaa.Kit
-- (general part) Opening arguments: slices of structs of one-cell fields; lists of reader calls (Op) and of items (Item).
set_option linter.unusedVariables false
set_option linter.unusedSimpArgs false
namespace Go.Proofs.Ytlnomadhgoblkaa.Kit
open Go.ChangeShapes Go.RowKit Go.Deep
/-- a field's datum inside the datum of a slice of structs -/
def Inside {H : Type} (y d : DataW H) : Prop := ∃ el sp parts, d = .slice el sp ∧ DataW.agg parts ∈ el ∧ y ∈ parts
/-- a slice of structs whose fields have one cell each: a value for each field of each element, and each reads as its type says -/
theorem open_structs {H : Type} {enc : TypeId × Value → H} {P : Program} {W : World} {base : Nat} {spare : Nat → Bool} {held : Bool} {t e : TypeId} {fs : Array Field} {a : Option Addr} {len cap : Nat} {d : DataW H} {ps : List MemPlace}
    (hu : P.underlying t = some (.slice e)) (he : P.underlying e = some (.struct fs)) (hone : oneCellFields P fs = true) (hC : P.cellsOf e = fs.size) (h : DataW.Trod enc P W base spare held t (.slice a len cap) d ps) :
    len ≤ cap ∧ cap ≤ maxLen ∧ ∃ R : Nat → Nat → Value, ∀ i, i < len → ∃ ad, a = some ad ∧ base ≤ ad.block ∧ ∀ j f, fs[j]? = some f → W.cell? (ad.add (i * fs.size + j)) = some (R i j) ∧ ∃ n y, DataW.trod enc P W base spare held n f.type [R i j] = some y ∧ Inside y.1 d := by
  obtain ⟨fuel, hf⟩ := h
  rcases open_slice hu hf with ⟨hcs, _⟩ | ⟨x, l, c, m, n, D, Pl, hcs, hb, hl, hm, hmm, hx, hi⟩
  · simp [Value.cells] at hcs
    obtain ⟨rfl, rfl, rfl⟩ := hcs
    exact ⟨Nat.le_refl _, Nat.zero_le _, fun _ _ => .bool false, fun i hi => absurd hi (by omega)⟩
  · simp [Value.cells] at hcs
    obtain ⟨rfl, rfl, rfl⟩ := hcs
    refine ⟨hl, hm, fun i j => (W.cell? (x.add (i * fs.size + j))).getD (.bool false), fun i hlt => ⟨x, rfl, hb, fun j f hj => ?_⟩⟩
    have hlm : len ≤ m := by
      rw [hmm]
      split
      · exact hl
      · exact Nat.le_refl _
    obtain ⟨cs, hc, ht⟩ := hi i (by omega)
    rw [hC] at hc
    obtain ⟨ys, n', _, hag, _, hyl, hfd⟩ := DataW.trod_struct he ht
    obtain ⟨_, hcl, hat⟩ := World.cells?_some hc
    obtain ⟨ho, hk⟩ := hone_of hone j f hj
    have hjl : j < fs.size := (Array.getElem?_eq_some_iff.1 hj).1
    have hcell := hat j hjl
    have hv : cs[j]? = some (cs[j]'(by omega)) := List.getElem?_eq_getElem (by omega)
    have hg : W.cell? (x.add (i * fs.size + j)) = some (cs[j]'(by omega)) := by
      rw [← Go.Deep.add_add, hcell, hv]
    have h1 := hfd j f hj
    rw [ho, hk, List.drop_eq_getElem_cons (by omega : j < cs.length)] at h1
    have hR : (W.cell? (x.add (i * fs.size + j))).getD (.bool false) = cs[j]'(by omega) := by rw [hg]; rfl
    show W.cell? _ = some ((W.cell? (x.add (i * fs.size + j))).getD (.bool false)) ∧ ∃ n y, DataW.trod enc P W base spare held n f.type [(W.cell? (x.add (i * fs.size + j))).getD (.bool false)] = some y ∧ Inside y.1 d
    rw [hR]
    refine ⟨hg, n', ys[j]'(by omega), ?_, _, _, _, (Prod.mk.inj hx).1, List.mem_map.2 ⟨i, List.mem_range.2 hlt, (Prod.mk.inj hag).1⟩, List.mem_map.2 ⟨_, List.getElem_mem (by omega), rfl⟩⟩
    rw [List.getElem?_eq_getElem (by omega : j < ys.length)] at h1
    exact h1
/-- the number in a cell -/
def numIn : Value → Int
  | .int _ n => n
  | _ => 0
def strIn : Value → ByteArray
  | .string s => s
  | _ => ByteArray.empty
theorem is_int {H : Type} {enc : TypeId × Value → H} {P : Program} {W : World} {base : Nat} {spare : Nat → Bool} {held : Bool} {t : TypeId} {k : IntKind} {n : Nat} {v : Value} {y : DataW H × List MemPlace} (hu : P.underlying t = some (.int k)) (h : DataW.trod enc P W base spare held n t [v] = some y) : v = .int k (numIn v) ∧ (Lit.int k (numIn v)).wf = true := by
  obtain ⟨z, hz, _, hw⟩ := DataW.trod_int hu h
  simp at hz
  subst hz
  exact ⟨rfl, hw⟩
theorem is_str {H : Type} {enc : TypeId × Value → H} {P : Program} {W : World} {base : Nat} {spare : Nat → Bool} {held : Bool} {t : TypeId} {n : Nat} {v : Value} {y : DataW H × List MemPlace} (hu : P.underlying t = some .string) (h : DataW.trod enc P W base spare held n t [v] = some y) : v = .string (strIn v) ∧ y.1 = .lit (.string (strIn v).data.toList) := by
  obtain ⟨z, hz, hy, hw⟩ := DataW.trod_string hu h
  simp at hz
  subst hz
  exact ⟨rfl, by rw [hy]; rfl⟩
end Go.Proofs.Ytlnomadhgoblkaa.Kit
-- (general part) Opening arguments: how much each slice that lies inside an argument takes at most.
set_option linter.unusedVariables false
set_option linter.unusedSimpArgs false
namespace Go.Proofs.Ytlnomadhgoblkaa.Kit
open Go.ChangeShapes Go.RowKit Go.Deep
/-- each string, slice and map met in reading takes at most so much -/
def Light {H : Type} (P : Program) (t : TypeId) (d : DataW H) : Prop := ∀ x ∈ d.weights P t, x ≤ reachBytes
theorem light_arg {H : Type} {P : Program} {ts : List TypeId} {ds : List (DataW H)} {j : Nat} {t : TypeId} {d : DataW H} (h : (DataW.weightsEach P ts ds).all (· ≤ reachBytes) = true) (ht : ts[j]? = some t) (hd : ds[j]? = some d) : Light P t d := fun x hx => by
  have := List.all_eq_true.1 h _ (DataW.weights_mem_each ht hd x hx)
  simpa using this
theorem weights_mem_all {H : Type} {P : Program} {e : TypeId} : ∀ {l : List (DataW H)} {d : DataW H}, d ∈ l → ∀ n ∈ d.weights P e, n ∈ DataW.weightsAll P e l
  | x :: r, d, h, n, hn => by
    simp only [DataW.weightsAll, List.mem_append]
    rcases List.mem_cons.1 h with rfl | h
    · exact .inl hn
    · exact .inr (weights_mem_all h n hn)
theorem light_elem {H : Type} {P : Program} {t e : TypeId} {el sp : List (DataW H)} (hu : P.underlying t = some (.slice e)) (h : Light P t (.slice el sp)) : (el.length + sp.length) * P.bytesOf e ≤ reachBytes ∧ ∀ d ∈ el, Light P e d := by
  refine ⟨h _ (by simp [DataW.weights, hu]), fun d hd x hx => h x ?_⟩
  simp only [DataW.weights, hu, List.mem_cons, List.mem_append]
  exact .inr (.inl (weights_mem_all hd x hx))
theorem light_field {H : Type} {P : Program} {t : TypeId} {fs : Array Field} {parts : List (DataW H)} {j : Nat} {f : Field} {y : DataW H} (hu : P.underlying t = some (.struct fs)) (h : Light P t (.agg parts)) (hj : fs[j]? = some f) (hy : parts[j]? = some y) : Light P f.type y := fun x hx => h x (by
  simp only [DataW.weights, hu]
  refine DataW.weights_mem_each (j := j) (t := f.type) ?_ hy x hx
  rw [List.getElem?_map, Array.getElem?_toList, hj]
  rfl)
theorem light_str {H : Type} {P : Program} {t : TypeId} {b : List UInt8} (h : Light (H := H) P t (.lit (.string b))) : b.length ≤ reachBytes := h _ (by simp [DataW.weights])
/-- a slice's length -/
theorem light_len {H : Type} {enc : TypeId × Value → H} {P : Program} {W : World} {base : Nat} {spare : Nat → Bool} {held : Bool} {t e : TypeId} {a : Option Addr} {len cap : Nat} {d : DataW H} {ps : List MemPlace} {B : Nat}
    (hu : P.underlying t = some (.slice e)) (hB : P.bytesOf e = B) (h : DataW.Trod enc P W base spare held t (.slice a len cap) d ps) (hl : Light P t d) : len * B ≤ 140737488351232 := by
  obtain ⟨fuel, hf⟩ := h
  rcases open_slice hu hf with ⟨hcs, _⟩ | ⟨x, l, c, m, n, D, Pl, hcs, hb, hle, hm, hmm, hx, hi⟩
  · simp [Value.cells] at hcs
    obtain ⟨rfl, rfl, rfl⟩ := hcs
    simp
  · simp [Value.cells] at hcs
    obtain ⟨rfl, rfl, rfl⟩ := hcs
    obtain ⟨hx, _⟩ := Prod.mk.inj hx
    subst hx
    have z := (light_elem hu hl).1
    rw [hB] at z
    refine Nat.le_trans (Nat.mul_le_mul_right _ ?_) z
    simp
/-- a slice of structs whose fields have one cell each: a value for each field of each element; each reads as its type says, and is light -/
theorem open_structsL {H : Type} {enc : TypeId × Value → H} {P : Program} {W : World} {base : Nat} {spare : Nat → Bool} {held : Bool} {t e : TypeId} {fs : Array Field} {a : Option Addr} {len cap : Nat} {d : DataW H} {ps : List MemPlace}
    (hu : P.underlying t = some (.slice e)) (he : P.underlying e = some (.struct fs)) (hone : oneCellFields P fs = true) (hC : P.cellsOf e = fs.size) (h : DataW.Trod enc P W base spare held t (.slice a len cap) d ps) (hL : Light P t d) :
    len ≤ cap ∧ cap ≤ maxLen ∧ ∃ R : Nat → Nat → Value, ∀ i, i < len → ∃ ad, a = some ad ∧ base ≤ ad.block ∧ ∀ j f, fs[j]? = some f → W.cell? (ad.add (i * fs.size + j)) = some (R i j) ∧ ∃ n y, DataW.trod enc P W base spare held n f.type [R i j] = some y ∧ Light P f.type y.1 := by
  obtain ⟨fuel, hf⟩ := h
  rcases open_slice hu hf with ⟨hcs, _⟩ | ⟨x, l, c, m, n, D, Pl, hcs, hb, hl, hm, hmm, hx, hi⟩
  · simp [Value.cells] at hcs
    obtain ⟨rfl, rfl, rfl⟩ := hcs
    exact ⟨Nat.le_refl _, Nat.zero_le _, fun _ _ => .bool false, fun i hi => absurd hi (by omega)⟩
  · simp [Value.cells] at hcs
    obtain ⟨rfl, rfl, rfl⟩ := hcs
    have hd := (Prod.mk.inj hx).1
    rw [hd] at hL
    have hE := (light_elem hu hL).2
    refine ⟨hl, hm, fun i j => (W.cell? (x.add (i * fs.size + j))).getD (.bool false), fun i hlt => ⟨x, rfl, hb, fun j f hj => ?_⟩⟩
    have hlm : len ≤ m := by
      rw [hmm]
      split
      · exact hl
      · exact Nat.le_refl _
    obtain ⟨cs, hc, ht⟩ := hi i (by omega)
    rw [hC] at hc
    obtain ⟨ys, n', _, hag, _, hyl, hfd⟩ := DataW.trod_struct he ht
    obtain ⟨_, hcl, hat⟩ := World.cells?_some hc
    obtain ⟨ho, hk⟩ := hone_of hone j f hj
    have hjl : j < fs.size := (Array.getElem?_eq_some_iff.1 hj).1
    have hcell := hat j hjl
    have hv : cs[j]? = some (cs[j]'(by omega)) := List.getElem?_eq_getElem (by omega)
    have hg : W.cell? (x.add (i * fs.size + j)) = some (cs[j]'(by omega)) := by
      rw [← Go.Deep.add_add, hcell, hv]
    have h1 := hfd j f hj
    rw [ho, hk, List.drop_eq_getElem_cons (by omega : j < cs.length)] at h1
    have hR : (W.cell? (x.add (i * fs.size + j))).getD (.bool false) = cs[j]'(by omega) := by rw [hg]; rfl
    show W.cell? _ = some ((W.cell? (x.add (i * fs.size + j))).getD (.bool false)) ∧ ∃ n y, DataW.trod enc P W base spare held n f.type [(W.cell? (x.add (i * fs.size + j))).getD (.bool false)] = some y ∧ Light P f.type y.1
    rw [hR]
    refine ⟨hg, n', ys[j]'(by omega), ?_, ?_⟩
    · rw [List.getElem?_eq_getElem (by omega : j < ys.length)] at h1
      exact h1
    · have hD := hE (D i) (List.mem_map.2 ⟨i, List.mem_range.2 hlt, rfl⟩)
      rw [(Prod.mk.inj hag).1] at hD
      refine light_field he hD hj ?_
      rw [List.getElem?_map, List.getElem?_eq_getElem (by omega : j < ys.length)]
      rfl
theorem is_sliceL {H : Type} {enc : TypeId × Value → H} {P : Program} {W : World} {base : Nat} {spare : Nat → Bool} {held : Bool} {t e : TypeId} {n : Nat} {v : Value} {y : DataW H × List MemPlace} (hu : P.underlying t = some (.slice e)) (h : DataW.trod enc P W base spare held n t [v] = some y) : ∃ a len cap, v = .slice a len cap ∧ len ≤ cap ∧ cap ≤ maxLen ∧ DataW.Trod enc P W base spare held t (.slice a len cap) y.1 y.2 := by
  rcases open_slice hu h with ⟨hcs, _⟩ | ⟨x, l, c, m, n, D, Pl, hcs, hb, hl, hm, hmm, hx, hi⟩
  · simp at hcs
    subst hcs
    exact ⟨_, _, _, rfl, Nat.le_refl _, Nat.zero_le _, ⟨_, by simpa [Value.cells] using h⟩⟩
  · simp at hcs
    subst hcs
    exact ⟨_, _, _, rfl, hl, hm, ⟨_, by simpa [Value.cells] using h⟩⟩
end Go.Proofs.Ytlnomadhgoblkaa.Kit
