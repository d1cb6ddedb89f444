/- The laws' Pair: the walk of step. (Printed by gen_PairS.py.) -/
import Derived.Test.YtcljbaoadmflgaaProg
import Derived.Test.YtcljbaoadmflgaaPairI
import Derived.Deep.RegionHeld3
set_option linter.unusedVariables false
set_option linter.unusedSimpArgs false
namespace Go.Proofs.Ytcljbaoadmflgaa.Kit
open Go.RowKit
/-- what step leaves -/
def RStep (late : Bool) (g gP gR : Nat) (v vR : Value) (l : List Int) (D : Nat → Prop) (k : Nat) (w : World) (e : Ending) (w' : World) : Prop :=
  e = .returned (.bool true) ∧ ∃ a2 k' D', k' ≤ k + 1 ∧ PairI late g gP gR v vR l a2 a2 D' k' w' ∧ (∀ x, D' x → D x ∨ w.heap.size ≤ x) ∧ Chg (fun x => x = g ∨ x = gP ∨ x = gR ∨ D x) w w'
section
variable {late : Bool} {g gP gR : Nat} {v vR : Value} {l : List Int} {at_ k : Nat} {D : Nat → Prop} {w : World}
/-- the box of the call -/
theorem opBox (w : World) (K X Y : Int) : ∀ W, Chg (fun x => w.heap.size < x ∨ x < w.heap.size) (w.alloc (.cells #[.int .i64 K, .int .u64 X, .int .i64 Y] 54)) W → W.cell? ⟨w.heap.size, 0, none⟩ = some (.int .i64 K) ∧ W.cell? ⟨w.heap.size, 1, none⟩ = some (.int .u64 X) ∧ W.cell? ⟨w.heap.size, 2, none⟩ = some (.int .i64 Y) := fun W hW => by
  have := (Blk.new w #[.int .i64 K, .int .u64 X, .int .i64 Y] 54).chg hW (by omega)
  exact ⟨this.at_ rfl, this.at_ rfl, this.at_ rfl⟩
set_option maxRecDepth 20000 in
set_option maxHeartbeats 1600000 in
theorem stepUint (X Y : Int) (hb : Hid (Byt l)) (h : Hid (PairI late g gP gR v vR l at_ at_ D k w)) :
    Calls Try.prog 31 #[.pointer (some ⟨g, 0, none⟩), .agg #[.int .i64 1, .int .u64 X, .int .i64 Y]] w (RStep late g gP gR v vR l D k w) := by
  obtain ⟨x, n, er, hu⟩ : ∃ x n er, urd (l.drop at_) X = (x, n, er) := ⟨_, _, _, rfl⟩
  have HU := Lib.hid hu
  obtain ⟨a2, ha⟩ : ∃ a2, at_ + n = a2 := ⟨_, rfl⟩
  have HA := Lib.hid ha
  clear hu ha
  have HX := Lib.hid (opBox w 1 X Y)
  have H0 : Hid (PairI late g gP gR v vR l at_ at_ D k (w.alloc (.cells #[.int .i64 1, .int .u64 X, .int .i64 Y] 54))) := h.out.chg0 (S := fun _ => False) ((Chg.refl _ w).alloc _) (fun x h => h.elim)
  have hgP : Hid (gP < w.heap.size) := h.out.p.blk.lt
  have hgR : Hid (gR < w.heap.size) := h.out.r.blk.lt
  have nP : Hid (¬ g = gP) := fun e => h.out.neP e.symm
  have nR : Hid (¬ g = gR) := fun e => h.out.neR e.symm
  have mP : Hid (¬ w.heap.size = gP) := by have := hgP.out; rw [Hid]; omega
  have mR : Hid (¬ w.heap.size = gR) := by have := hgR.out; rw [Hid]; omega
  have p0 := H0.out.c0
  have p1 := H0.out.c1
  go_enter Try.func31, Try.ntmps31
  go_wp2_with fail
  clear p0 p1
  obtain ⟨w0, hw0⟩ : ∃ w0, w0 = w.alloc (.cells #[.int .i64 1, .int .u64 X, .int .i64 Y] 54) := ⟨_, rfl⟩
  rw [← hw0]
  rw [← hw0] at H0 HX
  have C0 : Hid (Chg (fun _ => False) w w0) := by rw [hw0]; exact (Chg.refl _ w).alloc _
  have G0 : Hid (Chg (fun x => w.heap.size < x ∨ x < w.heap.size) w0 w0) := Chg.refl _ _
  obtain ⟨x0, x1, x2⟩ := HX.out w0 (Chg.refl _ _)
  have p0 := H0.out.c0
  have p1 := H0.out.c1
  clear hw0
  have C0' : Hid (Chg (fun x => x = g ∨ x = gP ∨ x = gR ∨ D x) w w0) := C0.out.mono (fun _ _ h => h.elim)
  go_region_held3 (fun w' => w'.cell? ⟨g, 0, none⟩ = some (.pointer (some ⟨gP, 0, none⟩)) ∧ w'.cell? ⟨w.heap.size, 1, none⟩ = some (.int .u64 X)) (first | exact ⟨p0, x1⟩ | go_keep | exact ⟨K2.out.cell nP.out (by go_keep), K2.out.cell mP.out (by go_keep)⟩) (first | (go_at_call 25; refine (uintTo HU HA (H0.out.chg0 (S := fun _ => False) (by repeat (first | exact Chg.refl _ _ | refine Chg.drew ?_ | refine Chg.drewN ?_ _)) (fun x h => h.elim)).p).mono ?_; rintro e w1 ⟨rfl, k1, k2⟩; have K1 := Lib.hid k1; have K2 := Lib.hid k2; clear k1 k2))
  have KP : Hid (Chg (fun x => x = gP) w0 w1) := by first | exact K2.out | exact ((Chg.refl _ _).drew).trans K2.out (fun _ _ h => h)
  have P1 : Hid (PairI late g gP gR v vR l a2 at_ D k w1) := (H0.out.chg0 (S := fun _ => False) (by repeat (first | exact Chg.refl _ _ | refine Chg.drew ?_ | refine Chg.drewN ?_ _)) (fun x h => h.elim)).moveP K1.out K2.out
  have C0'n : Hid (Chg (fun x => x = g ∨ x = gP ∨ x = gR ∨ D x) w w1) := (C0'.out.trans KP.out (fun _ _ h => by subst h; simp))
  have G0n : Hid (Chg (fun x => w.heap.size < x ∨ x < w.heap.size) w0 w1) := G0.out.trans KP.out (fun _ _ h => by subst h; exact .inr hgP.out)
  clear x0 x1 x2 p0 p1
  obtain ⟨x0, x1, x2⟩ := HX.out w1 G0n.out
  have p0 := P1.out.c0
  have p1 := P1.out.c1
  clear K1 K2
  go_wp2_with fail
  go_region_held3 (fun w' => w'.cell? ⟨g, 1, none⟩ = some (.pointer (some ⟨gR, 0, none⟩)) ∧ w'.cell? ⟨w.heap.size, 1, none⟩ = some (.int .u64 X)) (first | exact ⟨p1, x1⟩ | go_keep | exact ⟨K2.out.cell nR.out (by go_keep), K2.out.cell mR.out (by go_keep)⟩) (first | (go_at_call 55; refine (uintF HU HA hb (P1.out.chg0 (S := fun _ => False) (by repeat (first | exact Chg.refl _ _ | refine Chg.drew ?_ | refine Chg.drewN ?_ _)) (fun x h => h.elim)).r).mono ?_; rintro e w2 ⟨rfl, k1, k2⟩; have K1 := Lib.hid k1; have K2 := Lib.hid k2; clear k1 k2))
  have KP : Hid (Chg (fun x => x = gR) w1 w2) := by first | exact K2.out | exact ((Chg.refl _ _).drew).trans K2.out (fun _ _ h => h)
  have P2 : Hid (PairI late g gP gR v vR l a2 a2 D k w2) := (P1.out.chg0 (S := fun _ => False) (by repeat (first | exact Chg.refl _ _ | refine Chg.drew ?_ | refine Chg.drewN ?_ _)) (fun x h => h.elim)).moveR K1.out K2.out
  have C0'nn : Hid (Chg (fun x => x = g ∨ x = gP ∨ x = gR ∨ D x) w w2) := (C0'n.out.trans KP.out (fun _ _ h => by subst h; simp))
  have G0nn : Hid (Chg (fun x => w.heap.size < x ∨ x < w.heap.size) w0 w2) := G0n.out.trans KP.out (fun _ _ h => by subst h; exact .inr hgR.out)
  clear x0 x1 x2 p0 p1
  obtain ⟨x0, x1, x2⟩ := HX.out w2 G0nn.out
  have p0 := P2.out.c0
  have p1 := P2.out.c1
  go_wp2_with fail
  go_ret
  exact ⟨rfl, a2, k, D, Nat.le_succ k, P2.out, fun _ => .inl, C0'nn.out⟩
set_option maxRecDepth 20000 in
set_option maxHeartbeats 1600000 in
theorem stepText (X Y : Int) (hY : Y ≤ 9223372036854775807) (hb : Hid (Byt l)) (h : Hid (PairI late g gP gR v vR l at_ at_ D k w)) :
    Calls Try.prog 31 #[.pointer (some ⟨g, 0, none⟩), .agg #[.int .i64 3, .int .u64 X, .int .i64 Y]] w (RStep late g gP gR v vR l D k w) := by
  obtain ⟨s, a2, er, ht⟩ : ∃ s a2 er, tx l at_ Y = (s, a2, er) := ⟨_, _, _, rfl⟩
  have HT := Lib.hid ht
  clear ht
  have HX := Lib.hid (opBox w 3 X Y)
  have H0 : Hid (PairI late g gP gR v vR l at_ at_ D k (w.alloc (.cells #[.int .i64 3, .int .u64 X, .int .i64 Y] 54))) := h.out.chg0 (S := fun _ => False) ((Chg.refl _ w).alloc _) (fun x h => h.elim)
  have hgP : Hid (gP < w.heap.size) := h.out.p.blk.lt
  have hgR : Hid (gR < w.heap.size) := h.out.r.blk.lt
  have nP : Hid (¬ g = gP) := fun e => h.out.neP e.symm
  have nR : Hid (¬ g = gR) := fun e => h.out.neR e.symm
  have mP : Hid (¬ w.heap.size = gP) := by have := hgP.out; rw [Hid]; omega
  have mR : Hid (¬ w.heap.size = gR) := by have := hgR.out; rw [Hid]; omega
  have p0 := H0.out.c0
  have p1 := H0.out.c1
  go_enter Try.func31, Try.ntmps31
  go_wp2_with fail
  clear p0 p1
  obtain ⟨w0, hw0⟩ : ∃ w0, w0 = w.alloc (.cells #[.int .i64 3, .int .u64 X, .int .i64 Y] 54) := ⟨_, rfl⟩
  rw [← hw0]
  rw [← hw0] at H0 HX
  have C0 : Hid (Chg (fun _ => False) w w0) := by rw [hw0]; exact (Chg.refl _ w).alloc _
  have G0 : Hid (Chg (fun x => w.heap.size < x ∨ x < w.heap.size) w0 w0) := Chg.refl _ _
  obtain ⟨x0, x1, x2⟩ := HX.out w0 (Chg.refl _ _)
  have p0 := H0.out.c0
  have p1 := H0.out.c1
  clear hw0
  have C0' : Hid (Chg (fun x => x = g ∨ x = gP ∨ x = gR ∨ D x) w w0) := C0.out.mono (fun _ _ h => h.elim)
  go_region_held3 (fun w' => w'.cell? ⟨g, 0, none⟩ = some (.pointer (some ⟨gP, 0, none⟩)) ∧ w'.cell? ⟨w.heap.size, 2, none⟩ = some (.int .i64 Y)) (first | exact ⟨p0, x2⟩ | go_keep | exact ⟨K2.out.cell nP.out (by go_keep), K2.out.cell mP.out (by go_keep)⟩) (first | (go_at_call 33; refine (textP hY HT (H0.out.chg0 (S := fun _ => False) (by repeat (first | exact Chg.refl _ _ | refine Chg.drew ?_ | refine Chg.drewN ?_ _)) (fun x h => h.elim)).p).mono ?_; rintro e w1 ⟨rfl, k1, k2⟩; have K1 := Lib.hid k1; have K2 := Lib.hid k2; clear k1 k2))
  have KP : Hid (Chg (fun x => x = gP) w0 w1) := by first | exact K2.out | exact ((Chg.refl _ _).drew).trans K2.out (fun _ _ h => h)
  have P1 : Hid (PairI late g gP gR v vR l a2 at_ D k w1) := (H0.out.chg0 (S := fun _ => False) (by repeat (first | exact Chg.refl _ _ | refine Chg.drew ?_ | refine Chg.drewN ?_ _)) (fun x h => h.elim)).moveP K1.out K2.out
  have C0'n : Hid (Chg (fun x => x = g ∨ x = gP ∨ x = gR ∨ D x) w w1) := (C0'.out.trans KP.out (fun _ _ h => by subst h; simp))
  have G0n : Hid (Chg (fun x => w.heap.size < x ∨ x < w.heap.size) w0 w1) := G0.out.trans KP.out (fun _ _ h => by subst h; exact .inr hgP.out)
  clear x0 x1 x2 p0 p1
  obtain ⟨x0, x1, x2⟩ := HX.out w1 G0n.out
  have p0 := P1.out.c0
  have p1 := P1.out.c1
  clear K1 K2
  go_wp2_with fail
  go_region_held3 (fun w' => w'.cell? ⟨g, 1, none⟩ = some (.pointer (some ⟨gR, 0, none⟩)) ∧ w'.cell? ⟨w.heap.size, 2, none⟩ = some (.int .i64 Y)) (first | exact ⟨p1, x2⟩ | go_keep | exact ⟨K2.out.cell nR.out (by go_keep), K2.out.cell mR.out (by go_keep)⟩) (first | (go_at_call 57; refine (textQ hY HT hb (P1.out.chg0 (S := fun _ => False) (by repeat (first | exact Chg.refl _ _ | refine Chg.drew ?_ | refine Chg.drewN ?_ _)) (fun x h => h.elim)).r).mono ?_; rintro e w2 ⟨rfl, k1, k2⟩; have K1 := Lib.hid k1; have K2 := Lib.hid k2; clear k1 k2))
  have KP : Hid (Chg (fun x => x = gR) w1 w2) := by first | exact K2.out | exact ((Chg.refl _ _).drew).trans K2.out (fun _ _ h => h)
  have P2 : Hid (PairI late g gP gR v vR l a2 a2 D k w2) := (P1.out.chg0 (S := fun _ => False) (by repeat (first | exact Chg.refl _ _ | refine Chg.drew ?_ | refine Chg.drewN ?_ _)) (fun x h => h.elim)).moveR K1.out K2.out
  have C0'nn : Hid (Chg (fun x => x = g ∨ x = gP ∨ x = gR ∨ D x) w w2) := (C0'n.out.trans KP.out (fun _ _ h => by subst h; simp))
  have G0nn : Hid (Chg (fun x => w.heap.size < x ∨ x < w.heap.size) w0 w2) := G0n.out.trans KP.out (fun _ _ h => by subst h; exact .inr hgR.out)
  clear x0 x1 x2 p0 p1
  obtain ⟨x0, x1, x2⟩ := HX.out w2 G0nn.out
  have p0 := P2.out.c0
  have p1 := P2.out.c1
  go_wp2_with fail
  go_ret
  exact ⟨rfl, a2, k, D, Nat.le_succ k, P2.out, fun _ => .inl, C0'nn.out⟩
theorem intTo {g : Nat} {v : Value} {l : List Int} {at_ a2 : Nat} {w : World} {x y er : Int} {n : Nat} (hu : Hid (urd (l.drop at_) 18446744073709551615 = (x, n, er))) (hy : Hid (uz x = y)) (ha : Hid (at_ + n = a2)) (h : Hid (Rdr w g v l at_)) :
    Calls Try.prog 27 #[.pointer (some ⟨g, 0, none⟩)] w fun e w' => e = .returned (.tuple #[.int .i64 y, .int .i64 er]) ∧ Rdr w' g v l a2 ∧ Chg (· = g) w w' := by
  have := int' hu hy h
  rw [ha.out] at this
  exact this
theorem intTo' {g : Nat} {v : Value} {l : List Int} {at_ a2 : Nat} {w : World} {x y er : Int} {n : Nat} (hu : Hid (urd (l.drop at_) 18446744073709551615 = (x, n, er))) (hy : Hid (uz x = y)) (ha : Hid (at_ + n = a2)) (hb : Hid (Byt l)) (h : Hid (RdrF w g v l at_)) :
    Calls Try.prog 56 #[.pointer (some ⟨g, 0, none⟩)] w fun e w' => e = .returned (.tuple #[.int .i64 y, .int .i64 er]) ∧ RdrF w' g v l a2 ∧ Chg (· = g) w w' := by
  have := intF hu ha hb h
  rw [hy.out] at this
  exact this
set_option maxRecDepth 20000 in
set_option maxHeartbeats 1600000 in
theorem stepInt (X Y : Int) (hb : Hid (Byt l)) (h : Hid (PairI late g gP gR v vR l at_ at_ D k w)) :
    Calls Try.prog 31 #[.pointer (some ⟨g, 0, none⟩), .agg #[.int .i64 2, .int .u64 X, .int .i64 Y]] w (RStep late g gP gR v vR l D k w) := by
  obtain ⟨x, n, er, hu⟩ : ∃ x n er, urd (l.drop at_) 18446744073709551615 = (x, n, er) := ⟨_, _, _, rfl⟩
  have HU := Lib.hid hu
  obtain ⟨y, hy⟩ : ∃ y, uz x = y := ⟨_, rfl⟩
  have HY := Lib.hid hy
  obtain ⟨a2, ha⟩ : ∃ a2, at_ + n = a2 := ⟨_, rfl⟩
  have HA := Lib.hid ha
  clear hu hy ha
  have HX := Lib.hid (opBox w 2 X Y)
  have H0 : Hid (PairI late g gP gR v vR l at_ at_ D k (w.alloc (.cells #[.int .i64 2, .int .u64 X, .int .i64 Y] 54))) := h.out.chg0 (S := fun _ => False) ((Chg.refl _ w).alloc _) (fun x h => h.elim)
  have hgP : Hid (gP < w.heap.size) := h.out.p.blk.lt
  have hgR : Hid (gR < w.heap.size) := h.out.r.blk.lt
  have nP : Hid (¬ g = gP) := fun e => h.out.neP e.symm
  have nR : Hid (¬ g = gR) := fun e => h.out.neR e.symm
  have mP : Hid (¬ w.heap.size = gP) := by have := hgP.out; rw [Hid]; omega
  have mR : Hid (¬ w.heap.size = gR) := by have := hgR.out; rw [Hid]; omega
  have p0 := H0.out.c0
  have p1 := H0.out.c1
  go_enter Try.func31, Try.ntmps31
  go_wp2_with fail
  clear p0 p1
  obtain ⟨w0, hw0⟩ : ∃ w0, w0 = w.alloc (.cells #[.int .i64 2, .int .u64 X, .int .i64 Y] 54) := ⟨_, rfl⟩
  rw [← hw0]
  rw [← hw0] at H0 HX
  have C0 : Hid (Chg (fun _ => False) w w0) := by rw [hw0]; exact (Chg.refl _ w).alloc _
  have G0 : Hid (Chg (fun x => w.heap.size < x ∨ x < w.heap.size) w0 w0) := Chg.refl _ _
  obtain ⟨x0, x1, x2⟩ := HX.out w0 (Chg.refl _ _)
  have p0 := H0.out.c0
  have p1 := H0.out.c1
  clear hw0
  have C0' : Hid (Chg (fun x => x = g ∨ x = gP ∨ x = gR ∨ D x) w w0) := C0.out.mono (fun _ _ h => h.elim)
  refine (intTo HU HY HA H0.out.p).mono ?_
  rintro e w1 ⟨rfl, k1, k2⟩
  have K1 := Lib.hid k1
  have K2 := Lib.hid k2
  clear k1 k2
  have KP : Hid (Chg (fun x => x = gP) w0 w1) := by first | exact K2.out | exact ((Chg.refl _ _).drew).trans K2.out (fun _ _ h => h)
  have P1 : Hid (PairI late g gP gR v vR l a2 at_ D k w1) := (H0.out.chg0 (S := fun _ => False) (by repeat (first | exact Chg.refl _ _ | refine Chg.drew ?_ | refine Chg.drewN ?_ _)) (fun x h => h.elim)).moveP K1.out K2.out
  have C0'n : Hid (Chg (fun x => x = g ∨ x = gP ∨ x = gR ∨ D x) w w1) := (C0'.out.trans KP.out (fun _ _ h => by subst h; simp))
  have G0n : Hid (Chg (fun x => w.heap.size < x ∨ x < w.heap.size) w0 w1) := G0.out.trans KP.out (fun _ _ h => by subst h; exact .inr hgP.out)
  clear x0 x1 x2 p0 p1
  obtain ⟨x0, x1, x2⟩ := HX.out w1 G0n.out
  have p0 := P1.out.c0
  have p1 := P1.out.c1
  clear K1 K2
  go_wp2_with fail
  refine (intTo' HU HY HA hb P1.out.r).mono ?_
  rintro e w2 ⟨rfl, k1, k2⟩
  have K1 := Lib.hid k1
  have K2 := Lib.hid k2
  clear k1 k2
  have KP : Hid (Chg (fun x => x = gR) w1 w2) := by first | exact K2.out | exact ((Chg.refl _ _).drew).trans K2.out (fun _ _ h => h)
  have P2 : Hid (PairI late g gP gR v vR l a2 a2 D k w2) := (P1.out.chg0 (S := fun _ => False) (by repeat (first | exact Chg.refl _ _ | refine Chg.drew ?_ | refine Chg.drewN ?_ _)) (fun x h => h.elim)).moveR K1.out K2.out
  have C0'nn : Hid (Chg (fun x => x = g ∨ x = gP ∨ x = gR ∨ D x) w w2) := (C0'n.out.trans KP.out (fun _ _ h => by subst h; simp))
  have G0nn : Hid (Chg (fun x => w.heap.size < x ∨ x < w.heap.size) w0 w2) := G0n.out.trans KP.out (fun _ _ h => by subst h; exact .inr hgR.out)
  clear x0 x1 x2 p0 p1
  obtain ⟨x0, x1, x2⟩ := HX.out w2 G0nn.out
  have p0 := P2.out.c0
  have p1 := P2.out.c1
  go_wp2_with fail
  go_ret
  exact ⟨rfl, a2, k, D, Nat.le_succ k, P2.out, fun _ => .inl, C0'nn.out⟩
set_option maxRecDepth 20000 in
set_option maxHeartbeats 1600000 in
theorem stepPlace (X Y : Int) (hb : Hid (Byt l)) (h : Hid (PairI late g gP gR v vR l at_ at_ D k w)) :
    Calls Try.prog 31 #[.pointer (some ⟨g, 0, none⟩), .agg #[.int .i64 5, .int .u64 X, .int .i64 Y]] w (RStep late g gP gR v vR l D k w) := by
  have HX := Lib.hid (opBox w 5 X Y)
  have H0 : Hid (PairI late g gP gR v vR l at_ at_ D k (w.alloc (.cells #[.int .i64 5, .int .u64 X, .int .i64 Y] 54))) := h.out.chg0 (S := fun _ => False) ((Chg.refl _ w).alloc _) (fun x h => h.elim)
  have hgP : Hid (gP < w.heap.size) := h.out.p.blk.lt
  have hgR : Hid (gR < w.heap.size) := h.out.r.blk.lt
  have nP : Hid (¬ g = gP) := fun e => h.out.neP e.symm
  have nR : Hid (¬ g = gR) := fun e => h.out.neR e.symm
  have mP : Hid (¬ w.heap.size = gP) := by have := hgP.out; rw [Hid]; omega
  have mR : Hid (¬ w.heap.size = gR) := by have := hgR.out; rw [Hid]; omega
  have p0 := H0.out.c0
  have p1 := H0.out.c1
  go_enter Try.func31, Try.ntmps31
  go_wp2_with fail
  clear p0 p1
  obtain ⟨w0, hw0⟩ : ∃ w0, w0 = w.alloc (.cells #[.int .i64 5, .int .u64 X, .int .i64 Y] 54) := ⟨_, rfl⟩
  rw [← hw0]
  rw [← hw0] at H0 HX
  have C0 : Hid (Chg (fun _ => False) w w0) := by rw [hw0]; exact (Chg.refl _ w).alloc _
  have G0 : Hid (Chg (fun x => w.heap.size < x ∨ x < w.heap.size) w0 w0) := Chg.refl _ _
  obtain ⟨x0, x1, x2⟩ := HX.out w0 (Chg.refl _ _)
  have p0 := H0.out.c0
  have p1 := H0.out.c1
  clear hw0
  have C0' : Hid (Chg (fun x => x = g ∨ x = gP ∨ x = gR ∨ D x) w w0) := C0.out.mono (fun _ _ h => h.elim)
  refine (place _ _ _ _ _ (show Hid _ from H0.out.p)).mono ?_
  rintro e w1 ⟨rfl, rfl⟩
  go_wp2_with fail
  refine (placeF _ _ _ _ _ (show Hid _ from H0.out.r)).mono ?_
  rintro e w1 ⟨rfl, rfl⟩
  go_wp2_with fail
  go_ret
  exact ⟨rfl, at_, k, D, Nat.le_succ k, H0.out, fun _ => .inl, C0'.out⟩
set_option maxRecDepth 20000 in
set_option maxHeartbeats 1600000 in
theorem stepLeft (X Y : Int) (hb : Hid (Byt l)) (h : Hid (PairI late g gP gR v vR l at_ at_ D k w)) :
    Calls Try.prog 31 #[.pointer (some ⟨g, 0, none⟩), .agg #[.int .i64 6, .int .u64 X, .int .i64 Y]] w (RStep late g gP gR v vR l D k w) := by
  obtain ⟨z, hz⟩ : ∃ z : Int, (l.length : Int) - at_ = z := ⟨_, rfl⟩
  have HZ := Lib.hid hz
  clear hz
  have HX := Lib.hid (opBox w 6 X Y)
  have H0 : Hid (PairI late g gP gR v vR l at_ at_ D k (w.alloc (.cells #[.int .i64 6, .int .u64 X, .int .i64 Y] 54))) := h.out.chg0 (S := fun _ => False) ((Chg.refl _ w).alloc _) (fun x h => h.elim)
  have hgP : Hid (gP < w.heap.size) := h.out.p.blk.lt
  have hgR : Hid (gR < w.heap.size) := h.out.r.blk.lt
  have nP : Hid (¬ g = gP) := fun e => h.out.neP e.symm
  have nR : Hid (¬ g = gR) := fun e => h.out.neR e.symm
  have mP : Hid (¬ w.heap.size = gP) := by have := hgP.out; rw [Hid]; omega
  have mR : Hid (¬ w.heap.size = gR) := by have := hgR.out; rw [Hid]; omega
  have p0 := H0.out.c0
  have p1 := H0.out.c1
  go_enter Try.func31, Try.ntmps31
  go_wp2_with fail
  clear p0 p1
  obtain ⟨w0, hw0⟩ : ∃ w0, w0 = w.alloc (.cells #[.int .i64 6, .int .u64 X, .int .i64 Y] 54) := ⟨_, rfl⟩
  rw [← hw0]
  rw [← hw0] at H0 HX
  have C0 : Hid (Chg (fun _ => False) w w0) := by rw [hw0]; exact (Chg.refl _ w).alloc _
  have G0 : Hid (Chg (fun x => w.heap.size < x ∨ x < w.heap.size) w0 w0) := Chg.refl _ _
  obtain ⟨x0, x1, x2⟩ := HX.out w0 (Chg.refl _ _)
  have p0 := H0.out.c0
  have p1 := H0.out.c1
  clear hw0
  have C0' : Hid (Chg (fun x => x = g ∨ x = gP ∨ x = gR ∨ D x) w w0) := C0.out.mono (fun _ _ h => h.elim)
  refine (left' HZ (show Hid _ from H0.out.p)).mono ?_
  rintro e w1 ⟨rfl, q1, rfl⟩
  have p1 : (w0.drewN q1).cell? ⟨g, 1, none⟩ = some (.pointer (some ⟨gR, 0, none⟩)) := p1
  go_wp2_with fail
  refine (leftF HZ (show Hid _ from H0.out.r.drewN q1)).mono ?_
  rintro e w1 ⟨rfl, q2, rfl⟩
  go_wp2_with fail
  go_ret
  exact ⟨rfl, at_, k, D, Nat.le_succ k, H0.out.chg0 (S := fun _ => False) ((Chg.refl _ w0).drewN (q1 + q2)) (fun x h => h.elim), fun _ => .inl, C0'.out.drewN (q1 + q2)⟩
set_option maxRecDepth 20000 in
set_option maxHeartbeats 1600000 in
theorem stepTake (X Y : Int) (hlen : l.length ≤ 1048576) (hk : k ≤ 1099511627776) (hb : Hid (Byt l)) (h : Hid (PairI late g gP gR v vR l at_ at_ D k w)) :
    Calls Try.prog 31 #[.pointer (some ⟨g, 0, none⟩), .agg #[.int .i64 4, .int .u64 X, .int .i64 Y]] w (RStep late g gP gR v vR l D k w) := by
  obtain ⟨m, a2, er, ht⟩ : ∃ m a2 er, tk l at_ Y = (m, a2, er) := ⟨_, _, _, rfl⟩
  have HT := Lib.hid ht
  have hml := tk_len l at_ Y
  rw [ht] at hml
  simp only at hml
  have HML : Hid (m.length ≤ 1048576) := Nat.le_trans hml hlen
  clear ht hml
  have HX := Lib.hid (opBox w 4 X Y)
  have H0 : Hid (PairI late g gP gR v vR l at_ at_ D k (w.alloc (.cells #[.int .i64 4, .int .u64 X, .int .i64 Y] 54))) := h.out.chg0 (S := fun _ => False) ((Chg.refl _ w).alloc _) (fun x h => h.elim)
  have hgP : Hid (gP < w.heap.size) := h.out.p.blk.lt
  have hgR : Hid (gR < w.heap.size) := h.out.r.blk.lt
  have nP : Hid (¬ g = gP) := fun e => h.out.neP e.symm
  have nR : Hid (¬ g = gR) := fun e => h.out.neR e.symm
  have mP : Hid (¬ w.heap.size = gP) := by have := hgP.out; rw [Hid]; omega
  have mR : Hid (¬ w.heap.size = gR) := by have := hgR.out; rw [Hid]; omega
  have p0 := H0.out.c0
  have p1 := H0.out.c1
  go_enter Try.func31, Try.ntmps31
  go_wp2_with fail
  clear p0 p1
  obtain ⟨w0, hw0⟩ : ∃ w0, w0 = w.alloc (.cells #[.int .i64 4, .int .u64 X, .int .i64 Y] 54) := ⟨_, rfl⟩
  rw [← hw0]
  rw [← hw0] at H0 HX
  have C0 : Hid (Chg (fun _ => False) w w0) := by rw [hw0]; exact (Chg.refl _ w).alloc _
  have G0 : Hid (Chg (fun x => w.heap.size < x ∨ x < w.heap.size) w0 w0) := Chg.refl _ _
  obtain ⟨x0, x1, x2⟩ := HX.out w0 (Chg.refl _ _)
  have p0 := H0.out.c0
  have p1 := H0.out.c1
  clear hw0
  have C0' : Hid (Chg (fun x => x = g ∨ x = gP ∨ x = gR ∨ D x) w w0) := C0.out.mono (fun _ _ h => h.elim)
  go_region_held3 (fun w' => w'.cell? ⟨g, 0, none⟩ = some (.pointer (some ⟨gP, 0, none⟩)) ∧ w'.cell? ⟨w.heap.size, 2, none⟩ = some (.int .i64 Y)) (first | exact ⟨p0, x2⟩ | go_keep | exact ⟨K2.out.cell nP.out (by go_keep), K2.out.cell mP.out (by go_keep)⟩) (first | (go_at_call 32; refine (takeP HT (H0.out.chg0 (S := fun _ => False) (by repeat (first | exact Chg.refl _ _ | refine Chg.drew ?_ | refine Chg.drewN ?_ _)) (fun x h => h.elim)).p).mono ?_; rintro e w1 ⟨u, rfl, k4, k5, k1, k2⟩; obtain ⟨A1, c1, hu, _, _⟩ := k4.slice; obtain ⟨q, hq⟩ : ∃ q, q = m.length := ⟨_, rfl⟩; rw [← hq] at hu; subst hu; have HQ := Lib.hid hq; have K1 := Lib.hid k1; have K2 := Lib.hid k2; have K4 := Lib.hid k4; have K5 := Lib.hid k5; clear k1 k2 k4 k5 hq))
  have KP : Hid (Chg (fun x => x = gP) w0 w1) := by first | exact K2.out | exact ((Chg.refl _ _).drew).trans K2.out (fun _ _ h => h)
  have P1 : Hid (PairI late g gP gR v vR l a2 at_ D k w1) := (H0.out.chg0 (S := fun _ => False) (by repeat (first | exact Chg.refl _ _ | refine Chg.drew ?_ | refine Chg.drewN ?_ _)) (fun x h => h.elim)).moveP K1.out K2.out
  have C0'n : Hid (Chg (fun x => x = g ∨ x = gP ∨ x = gR ∨ D x) w w1) := (C0'.out.trans KP.out (fun _ _ h => by subst h; simp))
  have G0n : Hid (Chg (fun x => w.heap.size < x ∨ x < w.heap.size) w0 w1) := G0.out.trans KP.out (fun _ _ h => by subst h; exact .inr hgP.out)
  clear x0 x1 x2 p0 p1
  obtain ⟨x0, x1, x2⟩ := HX.out w1 G0n.out
  have p0 := P1.out.c0
  have p1 := P1.out.c1
  have CP : Hid (Chg (fun x => x = gP) w0 w1) := (KP.out)
  have B1 : Hid (w.heap.size ≤ w0.heap.size ∧ w0.heap.size ≤ w1.heap.size) := ⟨C0.out.size, G0n.out.size⟩
  clear K1 K2
  go_wp2_with fail
  go_region_held3 (fun w' => w'.cell? ⟨g, 1, none⟩ = some (.pointer (some ⟨gR, 0, none⟩)) ∧ w'.cell? ⟨w.heap.size, 2, none⟩ = some (.int .i64 Y)) (first | exact ⟨p1, x2⟩ | go_keep | exact ⟨K2.out.cell nR.out (by go_keep), K2.out.cell mR.out (by go_keep)⟩) (first | (go_at_call 58; refine (takeQ HT (P1.out.chg0 (S := fun _ => False) (by repeat (first | exact Chg.refl _ _ | refine Chg.drew ?_ | refine Chg.drewN ?_ _)) (fun x h => h.elim)).r).mono ?_; rintro e w2 ⟨A2, n2, c2, rfl, k4, k5, k1, k2⟩; have K1 := Lib.hid k1; have K2 := Lib.hid k2; have K6 := Lib.hid k4; have K7 := Lib.hid k5; clear k1 k2 k4 k5))
  have KP : Hid (Chg (fun x => x = gR) w1 w2) := by first | exact K2.out | exact ((Chg.refl _ _).drew).trans K2.out (fun _ _ h => h)
  have P2 : Hid (PairI late g gP gR v vR l a2 a2 D k w2) := (P1.out.chg0 (S := fun _ => False) (by repeat (first | exact Chg.refl _ _ | refine Chg.drew ?_ | refine Chg.drewN ?_ _)) (fun x h => h.elim)).moveR K1.out K2.out
  have C0'nn : Hid (Chg (fun x => x = g ∨ x = gP ∨ x = gR ∨ D x) w w2) := (C0'n.out.trans KP.out (fun _ _ h => by subst h; simp))
  have G0nn : Hid (Chg (fun x => w.heap.size < x ∨ x < w.heap.size) w0 w2) := G0n.out.trans KP.out (fun _ _ h => by subst h; exact .inr hgR.out)
  clear x0 x1 x2 p0 p1
  obtain ⟨x0, x1, x2⟩ := HX.out w2 G0nn.out
  have p0 := P2.out.c0
  have p1 := P2.out.c1
  have CX : Hid (Chg (fun x => x = gP ∨ x = gR) w0 w2) := (CP.out.mono (fun _ _ h => .inl h)).trans KP.out (fun _ _ h => .inr h)
  have V2 : Hid (OwnB w2 (.slice A1 q c1) m) := K4.out.chg KP.out (fun x hx e1 => by
    have h1 := K5.out x hx
    have h2 := P1.out.r.blk.lt
    have h3 := hgR.out
    have h4 := B1.out.1
    simp at h1
    omega)
  have R2 : Hid (Rd w2 .u8 A1 m) := V2.out.rd (by rw [HQ.out])
  have hml : Hid (m.length ≤ 140737488355328) := by have := HML.out; rw [Hid]; omega
  go_wp2_with fail
  refine (sameBytes' (b := true) HQ K6 hml R2 K7 (by rw [Hid]; simp)).mono ?_
  rintro e w3 ⟨rfl, nq, rfl⟩
  have V3 : Hid (OwnB (w2.drewN nq) (.slice A1 q c1) m) := V2.out.drewN nq
  have P3 : Hid (PairI late g gP gR v vR l a2 a2 D k (w2.drewN nq)) := P2.out.chg0 (S := fun _ => False) ((Chg.refl _ w2).drewN nq) (fun x h => h.elim)
  have hvb : Hid ((∀ x, v.ownBlock = some x → x < w.heap.size) ∧ ∀ x, vR.ownBlock = some x → x < w.heap.size) := ⟨h.out.p.own.lt, h.out.r.own.lt⟩
  have HN2 : Hid (∀ x, Value.ownBlock (.slice A1 q c1) = some x → w.heap.size ≤ x) := fun x hx => by
    have h1 := K5.out x hx
    have h4 := B1.out.1
    simp at h1
    omega
  go_wp2_with fail
  have hnD : Hid (∀ x, Value.ownBlock (.slice A1 q c1) = some x → ¬ D x) := fun x hx hd => by
    have h1 := HN2.out x hx
    have h2 := h.out.book.size x hd
    omega
  refine (putI late g 51 _ D k _ m _ (by decide) (by decide) P3.out.book V3 hnD hk (by have := HML.out; omega) 2 rfl).mono ?_
  rintro e w4 ⟨rfl, k1, k2⟩
  have hs2 : w.heap.size ≤ (w2.drewN nq).heap.size := (C0'nn.out.drewN nq).size
  have P4 := Lib.hid (P3.out.put (N := w.heap.size) k1 k2 (fun x hx => by
    rcases hx with hx | hx | hx
    · exact .inl hx
    · exact .inr (.inl hx)
    · exact .inr (.inr (HN2.out x hx))) (fun x hx => by
    rcases hx with hx | hx | hx
    · exact .inl hx
    · exact .inr (HN2.out x hx)
    · exact .inr (Nat.le_trans hs2 hx.1)) hgP.out hgR.out hvb.out.1 hvb.out.2)
  have K2' := Lib.hid k2
  clear k1 k2
  go_wp2_with fail
  go_ret
  refine ⟨rfl, a2, k + 1, _, Nat.le_refl _, P4.out, fun x hx => ?_, (C0'nn.out.drewN nq).trans K2'.out (fun x hx h => ?_)⟩
  · rcases hx with hx | hx | hx
    · exact .inl hx
    · exact .inr (HN2.out x hx)
    · exact .inr (Nat.le_trans hs2 hx.1)
  · rcases h with h | h | h
    · exact .inl h
    · exact .inr (.inr (.inr h))
    · have := HN2.out x h
      omega
set_option maxRecDepth 20000 in
set_option maxHeartbeats 1600000 in
theorem stepElse (X Y : Int) (K : Int) (hK : K ≠ 1 ∧ K ≠ 2 ∧ K ≠ 3 ∧ K ≠ 4 ∧ K ≠ 5 ∧ K ≠ 6) (hb : Hid (Byt l)) (h : Hid (PairI late g gP gR v vR l at_ at_ D k w)) :
    Calls Try.prog 31 #[.pointer (some ⟨g, 0, none⟩), .agg #[.int .i64 K, .int .u64 X, .int .i64 Y]] w (RStep late g gP gR v vR l D k w) := by
  obtain ⟨e1, e2, e3, e4, e5, e6⟩ := hK
  have HX := Lib.hid (opBox w K X Y)
  have H0 : Hid (PairI late g gP gR v vR l at_ at_ D k (w.alloc (.cells #[.int .i64 K, .int .u64 X, .int .i64 Y] 54))) := h.out.chg0 (S := fun _ => False) ((Chg.refl _ w).alloc _) (fun x h => h.elim)
  have hgP : Hid (gP < w.heap.size) := h.out.p.blk.lt
  have hgR : Hid (gR < w.heap.size) := h.out.r.blk.lt
  have nP : Hid (¬ g = gP) := fun e => h.out.neP e.symm
  have nR : Hid (¬ g = gR) := fun e => h.out.neR e.symm
  have mP : Hid (¬ w.heap.size = gP) := by have := hgP.out; rw [Hid]; omega
  have mR : Hid (¬ w.heap.size = gR) := by have := hgR.out; rw [Hid]; omega
  have p0 := H0.out.c0
  have p1 := H0.out.c1
  go_enter Try.func31, Try.ntmps31
  go_wp2_with fail
  clear p0 p1
  go_ret
  exact ⟨rfl, at_, k, D, Nat.le_succ k, H0.out, fun _ => .inl, ((Chg.refl _ w).alloc _)⟩
theorem step (o : OpV) (ho : o.ok) (hlen : l.length ≤ 1048576) (hk : k ≤ 1099511627776) (hb : Hid (Byt l)) (h : Hid (PairI late g gP gR v vR l at_ at_ D k w)) :
    Calls Try.prog 31 #[.pointer (some ⟨g, 0, none⟩), .agg #[.int .i64 o.kind, .int .u64 o.limit, .int .i64 o.n]] w (RStep late g gP gR v vR l D k w) := by
  obtain ⟨K, X, Y⟩ := o
  obtain ⟨_, _, _, hY⟩ := ho
  simp only at hY ⊢
  by_cases h1 : K = 1
  · subst h1; exact stepUint X Y hb h
  by_cases h2 : K = 2
  · subst h2; exact stepInt X Y hb h
  by_cases h3 : K = 3
  · subst h3; exact stepText X Y hY hb h
  by_cases h4 : K = 4
  · subst h4; exact stepTake X Y hlen hk hb h
  by_cases h5 : K = 5
  · subst h5; exact stepPlace X Y hb h
  by_cases h6 : K = 6
  · subst h6; exact stepLeft X Y hb h
  exact stepElse X Y K ⟨h1, h2, h3, h4, h5, h6⟩ hb h
end
end Go.Proofs.Ytcljbaoadmflgaa.Kit

