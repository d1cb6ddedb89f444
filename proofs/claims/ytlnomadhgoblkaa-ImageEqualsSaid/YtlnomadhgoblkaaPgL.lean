/- ImageEquals. -/
import Derived.Test.YtlnomadhgoblkaaProg
import Derived.Test.YtlnomadhgoblkaaPgI
import Derived.Test.YtlnomadhgoblkaaOpenP
import Derived.Deep.RegionHeld3
set_option linter.unusedVariables false
set_option linter.unusedSimpArgs false
namespace Go.Proofs.Ytlnomadhgoblkaa.Kit
open Go.RowKit
/-- a program in memory, its slices written out -/
def AtP (w : World) (p : ProgV) (v : Array Value) : Prop := ∃ s, progVal s p = .agg v ∧ RdProg w s p
def AtM (w : World) (p : ProgV) (v : Array Value) : Prop := ∃ s, progVal s p = .agg v ∧ RdProg w s p ∧ Marked w s p
theorem AtP.chg0 {w w1 : World} {p : ProgV} {v : Array Value} (h : AtP w p v) (c : Chg (fun _ => False) w w1) : AtP w1 p v := by
  obtain ⟨s, e, r⟩ := h
  exact ⟨s, e, r.chg0 c⟩
theorem AtM.chg0 {w w1 : World} {p : ProgV} {v : Array Value} (h : AtM w p v) (c : Chg (fun _ => False) w w1) : AtM w1 p v := by
  obtain ⟨s, e, r, m⟩ := h
  exact ⟨s, e, r.chg0 c, m.chg0 c⟩
theorem AtM.p {w : World} {p : ProgV} {v : Array Value} (h : AtM w p v) : AtP w p v := by
  obtain ⟨s, e, r, m⟩ := h
  exact ⟨s, e, r⟩
theorem imageEqualA {p q : ProgV} {v u : Array Value} {w : World} {b : Bool} (hp : Hid (AtP w p v)) (hq : Hid (AtP w q u)) (sp : SmallP p) (sq : SmallP q) (hb : Hid (decide (p = q) = b)) :
    Calls Try.prog 14 #[.agg v, .agg u] w fun e w' => e = .returned (.bool b) ∧ Chg (fun _ => False) w w' := by
  obtain ⟨s, e, r⟩ := hp.out
  obtain ⟨t, e2, r2⟩ := hq.out
  rw [← e, ← e2]
  exact imageEqual r r2 sp sq hb
theorem refEqualA {p q : ProgV} {v u : Array Value} {w : World} {b : Bool} (hp : Hid (AtP w p v)) (hq : Hid (AtP w q u)) (sp : SmallP p) (sq : SmallP q) (hb : Hid (decide (p = q) = b)) :
    Calls Try.prog 15 #[.agg v, .agg u] w fun e w' => e = .returned (.bool b) ∧ Chg (fun _ => False) w w' := by
  obtain ⟨s, e, r⟩ := hp.out
  obtain ⟨t, e2, r2⟩ := hq.out
  rw [← e, ← e2]
  exact refEqual r r2 sp sq hb
theorem intactA {p : ProgV} {v u : Array Value} {w : World} (hp : Hid (AtM w p v)) (hq : Hid (AtP w p u)) (sp : SmallP p) :
    Calls Try.prog 16 #[.agg v, .agg u] w fun e w' => e = .returned (.bool true) ∧ Chg (fun _ => False) w w' := by
  obtain ⟨s, e, r, m⟩ := hp.out
  obtain ⟨t, e2, r2⟩ := hq.out
  rw [← e, ← e2]
  exact intactP r m r2 sp
/-- what own answers: the lists' lengths and the numbers are the program's -/
theorem ownA {p : ProgV} {v : Array Value} {n1 n2 n3 n4 : Nat} {i1 i2 i3 i4 : Int} {w : World} (hp : Hid (AtP w p v)) (sp : SmallP p) (hn : Hid (n1 = p.names.length ∧ n2 = p.curs.length ∧ n3 = p.pool.length ∧ n4 = p.days.length ∧ i1 = p.horizon ∧ i2 = p.cells ∧ i3 = p.slots ∧ i4 = p.stack)) :
    Calls Try.prog 13 #[.agg v] w fun e w' => ∃ X1 X2 X3 X4 x1 x2 x3 x4, e = .returned (.agg #[.slice X1 n1 x1, .slice X2 n2 x2, .slice X3 n3 x3, .int .i64 i1, .int .i64 i2, .int .i64 i3, .int .i64 i4, .slice X4 n4 x4]) ∧ AtM w' p #[.slice X1 n1 x1, .slice X2 n2 x2, .slice X3 n3 x3, .int .i64 i1, .int .i64 i2, .int .i64 i3, .int .i64 i4, .slice X4 n4 x4] ∧ Chg (fun _ => False) w w' := by
  obtain ⟨s, e, r⟩ := hp.out
  rw [← e]
  refine (ownP r sp).mono ?_
  rintro e w1 ⟨s1, rfl, r1, m1, c1⟩
  obtain ⟨a1, a2, a3, a4, X1, X2, X3, X4, x1, x2, x3, x4, h⟩ := r1.apart
  obtain ⟨q1, q2, q3, q4, q5, q6, q7, q8⟩ := hn.out
  have he := h.eq
  rw [h.ln, h.lc, h.lk, h.ld, ← q1, ← q2, ← q3, ← q4, ← q5, ← q6, ← q7, ← q8] at he
  exact ⟨X1, X2, X3, X4, x1, x2, x3, x4, by rw [he], ⟨s1, he, r1, m1⟩, c1⟩
set_option maxRecDepth 20000 in
set_option maxHeartbeats 6400000 in
theorem imageEqualsW {p q : ProgV} {w : World} {n1 n2 n3 n4 m1 m2 m3 m4 c1 c2 c3 c4 d1 d2 d3 d4 : Nat} {A1 A2 A3 A4 B1 B2 B3 B4 : Option Addr} {i1 i2 i3 i4 j1 j2 j3 j4 : Int} (hp : Hid (AtP w p #[.slice A1 n1 c1, .slice A2 n2 c2, .slice A3 n3 c3, .int .i64 i1, .int .i64 i2, .int .i64 i3, .int .i64 i4, .slice A4 n4 c4])) (hq : Hid (AtP w q #[.slice B1 m1 d1, .slice B2 m2 d2, .slice B3 m3 d3, .int .i64 j1, .int .i64 j2, .int .i64 j3, .int .i64 j4, .slice B4 m4 d4])) (sp : SmallP p) (sq : SmallP q)
    (hn : Hid (n1 = p.names.length ∧ n2 = p.curs.length ∧ n3 = p.pool.length ∧ n4 = p.days.length ∧ i1 = p.horizon ∧ i2 = p.cells ∧ i3 = p.slots ∧ i4 = p.stack)) (hm : Hid (m1 = q.names.length ∧ m2 = q.curs.length ∧ m3 = q.pool.length ∧ m4 = q.days.length ∧ j1 = q.horizon ∧ j2 = q.cells ∧ j3 = q.slots ∧ j4 = q.stack)) :
    Calls Try.prog 3 #[.agg #[.slice A1 n1 c1, .slice A2 n2 c2, .slice A3 n3 c3, .int .i64 i1, .int .i64 i2, .int .i64 i3, .int .i64 i4, .slice A4 n4 c4], .agg #[.slice B1 m1 d1, .slice B2 m2 d2, .slice B3 m3 d3, .int .i64 j1, .int .i64 j2, .int .i64 j3, .int .i64 j4, .slice B4 m4 d4]] w fun e w' => e = .returned (.bool true) ∧ Chg (fun _ => False) w w' := by
  obtain ⟨bq, hbq⟩ : ∃ b, decide (p = q) = b := ⟨_, rfl⟩
  have HBQ := Lib.hid hbq
  have SP := Lib.hid sp
  have SQ := Lib.hid sq
  clear hbq sp sq
  obtain ⟨g, hg⟩ : ∃ g, g = w.heap.size := ⟨_, rfl⟩
  obtain ⟨w0, hw0⟩ : ∃ x, x = (w.alloc (.cells #[.slice A1 n1 c1, .slice A2 n2 c2, .slice A3 n3 c3, .int .i64 i1, .int .i64 i2, .int .i64 i3, .int .i64 i4, .slice A4 n4 c4] 26)).alloc (.cells #[.slice B1 m1 d1, .slice B2 m2 d2, .slice B3 m3 d3, .int .i64 j1, .int .i64 j2, .int .i64 j3, .int .i64 j4, .slice B4 m4 d4] 26) := ⟨_, rfl⟩
  have C0 : Hid (Chg (fun _ => False) w w0) := by rw [hw0]; exact ((Chg.refl _ w).alloc _).alloc _
  have E1 : Hid (Blk w0 g 26 [.slice A1 n1 c1, .slice A2 n2 c2, .slice A3 n3 c3, .int .i64 i1, .int .i64 i2, .int .i64 i3, .int .i64 i4, .slice A4 n4 c4]) := by rw [hw0, hg]; exact (Blk.new w _ _).alloc _
  have E2 : Hid (Blk w0 (g + 1) 26 [.slice B1 m1 d1, .slice B2 m2 d2, .slice B3 m3 d3, .int .i64 j1, .int .i64 j2, .int .i64 j3, .int .i64 j4, .slice B4 m4 d4]) := by
    have hh := Blk.new (w.alloc (.cells #[.slice A1 n1 c1, .slice A2 n2 c2, .slice A3 n3 c3, .int .i64 i1, .int .i64 i2, .int .i64 i3, .int .i64 i4, .slice A4 n4 c4] 26)) #[.slice B1 m1 d1, .slice B2 m2 d2, .slice B3 m3 d3, .int .i64 j1, .int .i64 j2, .int .i64 j3, .int .i64 j4, .slice B4 m4 d4] 26
    rw [show (w.alloc (.cells #[.slice A1 n1 c1, .slice A2 n2 c2, .slice A3 n3 c3, .int .i64 i1, .int .i64 i2, .int .i64 i3, .int .i64 i4, .slice A4 n4 c4] 26)).heap.size = w.heap.size + 1 by simp] at hh
    rw [hw0, hg]
    exact hh
  go_enter Try.func3, Try.ntmps3
  go_wp2_with fail
  rw [← hw0, ← hg]
  clear hw0 hg
  refine (ownA (Lib.hid (hp.out.chg0 C0.out)) SP.out hn).mono ?_
  rintro e w1 ⟨X1, X2, X3, X4, x1, x2, x3, x4, rfl, mx, cx⟩
  have MX := Lib.hid mx
  have C1 : Hid (Chg (fun _ => False) w w1) := C0.out.trans cx (fun _ _ h => h)
  have E11 : Hid (Blk w1 g 26 [.slice A1 n1 c1, .slice A2 n2 c2, .slice A3 n3 c3, .int .i64 i1, .int .i64 i2, .int .i64 i3, .int .i64 i4, .slice A4 n4 c4]) := E1.out.chg cx (fun h => h)
  have E21 : Hid (Blk w1 (g + 1) 26 [.slice B1 m1 d1, .slice B2 m2 d2, .slice B3 m3 d3, .int .i64 j1, .int .i64 j2, .int .i64 j3, .int .i64 j4, .slice B4 m4 d4]) := E2.out.chg cx (fun h => h)
  clear mx cx C0 E1 E2
  obtain ⟨w2, hw2⟩ : ∃ x, x = w1.alloc (.cells #[.slice X1 n1 x1, .slice X2 n2 x2, .slice X3 n3 x3, .int .i64 i1, .int .i64 i2, .int .i64 i3, .int .i64 i4, .slice X4 n4 x4] 26) := ⟨_, rfl⟩
  obtain ⟨g5, hg5⟩ : ∃ x, x = w1.heap.size := ⟨_, rfl⟩
  have C12 : Hid (Chg (fun _ => False) w1 w2) := by rw [hw2]; exact (Chg.refl _ w1).alloc _
  have C2 : Hid (Chg (fun _ => False) w w2) := C1.out.trans C12.out (fun _ _ h => h)
  have E12 : Hid (Blk w2 g 26 [.slice A1 n1 c1, .slice A2 n2 c2, .slice A3 n3 c3, .int .i64 i1, .int .i64 i2, .int .i64 i3, .int .i64 i4, .slice A4 n4 c4]) := E11.out.chg C12.out (fun h => h)
  have E22 : Hid (Blk w2 (g + 1) 26 [.slice B1 m1 d1, .slice B2 m2 d2, .slice B3 m3 d3, .int .i64 j1, .int .i64 j2, .int .i64 j3, .int .i64 j4, .slice B4 m4 d4]) := E21.out.chg C12.out (fun h => h)
  have E32 : Hid (Blk w2 g5 26 [.slice X1 n1 x1, .slice X2 n2 x2, .slice X3 n3 x3, .int .i64 i1, .int .i64 i2, .int .i64 i3, .int .i64 i4, .slice X4 n4 x4]) := by rw [hw2, hg5]; exact Blk.new w1 _ _
  have f0 := E22.out.at_ (i := 0) rfl
  have f1 := E22.out.at_ (i := 1) rfl
  have f2 := E22.out.at_ (i := 2) rfl
  have f3 := E22.out.at_ (i := 3) rfl
  have f4 := E22.out.at_ (i := 4) rfl
  have f5 := E22.out.at_ (i := 5) rfl
  have f6 := E22.out.at_ (i := 6) rfl
  have f7 := E22.out.at_ (i := 7) rfl
  rw [hw2] at f0 f1 f2 f3 f4 f5 f6 f7
  go_wp2_with fail
  rw [← hw2, ← hg5]
  clear hw2 hg5 f0 f1 f2 f3 f4 f5 f6 f7 E11 E21
  refine (ownA (Lib.hid (hq.out.chg0 C2.out)) SQ.out hm).mono ?_
  rintro e w3 ⟨Y1, Y2, Y3, Y4, y1, y2, y3, y4, rfl, my, cy⟩
  have MX3 := Lib.hid ((MX.out.chg0 C12.out).chg0 cy)
  have MY3 := Lib.hid my
  have C3 : Hid (Chg (fun _ => False) w w3) := C2.out.trans cy (fun _ _ h => h)
  have E13 : Hid (Blk w3 g 26 [.slice A1 n1 c1, .slice A2 n2 c2, .slice A3 n3 c3, .int .i64 i1, .int .i64 i2, .int .i64 i3, .int .i64 i4, .slice A4 n4 c4]) := E12.out.chg cy (fun h => h)
  have E23 : Hid (Blk w3 (g + 1) 26 [.slice B1 m1 d1, .slice B2 m2 d2, .slice B3 m3 d3, .int .i64 j1, .int .i64 j2, .int .i64 j3, .int .i64 j4, .slice B4 m4 d4]) := E22.out.chg cy (fun h => h)
  have E33 : Hid (Blk w3 g5 26 [.slice X1 n1 x1, .slice X2 n2 x2, .slice X3 n3 x3, .int .i64 i1, .int .i64 i2, .int .i64 i3, .int .i64 i4, .slice X4 n4 x4]) := E32.out.chg cy (fun h => h)
  clear my cy MX C1 C12 C2 E12 E22 E32
  go_upto_region 3 with fail
  obtain ⟨w4, hw4⟩ : ∃ x, x = w3.alloc (.cells #[.slice Y1 m1 y1, .slice Y2 m2 y2, .slice Y3 m3 y3, .int .i64 j1, .int .i64 j2, .int .i64 j3, .int .i64 j4, .slice Y4 m4 y4] 26) := ⟨_, rfl⟩
  obtain ⟨g6, hg6⟩ : ∃ x, x = w3.heap.size := ⟨_, rfl⟩
  have C34 : Hid (Chg (fun _ => False) w3 w4) := by rw [hw4]; exact (Chg.refl _ w3).alloc _
  have C4 : Hid (Chg (fun _ => False) w w4) := C3.out.trans C34.out (fun _ _ h => h)
  have E14 : Hid (Blk w4 g 26 [.slice A1 n1 c1, .slice A2 n2 c2, .slice A3 n3 c3, .int .i64 i1, .int .i64 i2, .int .i64 i3, .int .i64 i4, .slice A4 n4 c4]) := E13.out.chg C34.out (fun h => h)
  have E24 : Hid (Blk w4 (g + 1) 26 [.slice B1 m1 d1, .slice B2 m2 d2, .slice B3 m3 d3, .int .i64 j1, .int .i64 j2, .int .i64 j3, .int .i64 j4, .slice B4 m4 d4]) := E23.out.chg C34.out (fun h => h)
  have E34 : Hid (Blk w4 g5 26 [.slice X1 n1 x1, .slice X2 n2 x2, .slice X3 n3 x3, .int .i64 i1, .int .i64 i2, .int .i64 i3, .int .i64 i4, .slice X4 n4 x4]) := E33.out.chg C34.out (fun h => h)
  have E44 : Hid (Blk w4 g6 26 [.slice Y1 m1 y1, .slice Y2 m2 y2, .slice Y3 m3 y3, .int .i64 j1, .int .i64 j2, .int .i64 j3, .int .i64 j4, .slice Y4 m4 y4]) := by rw [hw4, hg6]; exact Blk.new w3 _ _
  have MX4 := Lib.hid (MX3.out.chg0 C34.out)
  have MY4 := Lib.hid (MY3.out.chg0 C34.out)
  have PA4 : Hid (AtP w4 p #[.slice A1 n1 c1, .slice A2 n2 c2, .slice A3 n3 c3, .int .i64 i1, .int .i64 i2, .int .i64 i3, .int .i64 i4, .slice A4 n4 c4]) := hp.out.chg0 C4.out
  have PB4 : Hid (AtP w4 q #[.slice B1 m1 d1, .slice B2 m2 d2, .slice B3 m3 d3, .int .i64 j1, .int .i64 j2, .int .i64 j3, .int .i64 j4, .slice B4 m4 d4]) := hq.out.chg0 C4.out
  rw [← hw4, ← hg6]
  clear hw4 hg6 E13 E23 E33 MX3 MY3 C3 C34
  have TA : Hid (∀ W, Chg (fun _ => False) w4 W → W.cell? ⟨g, 0, none⟩ = some (.slice A1 n1 c1) ∧ W.cell? ⟨g, 1, none⟩ = some (.slice A2 n2 c2) ∧ W.cell? ⟨g, 2, none⟩ = some (.slice A3 n3 c3) ∧ W.cell? ⟨g, 3, none⟩ = some (.int .i64 i1) ∧ W.cell? ⟨g, 4, none⟩ = some (.int .i64 i2) ∧ W.cell? ⟨g, 5, none⟩ = some (.int .i64 i3) ∧ W.cell? ⟨g, 6, none⟩ = some (.int .i64 i4) ∧ W.cell? ⟨g, 7, none⟩ = some (.slice A4 n4 c4) ∧ W.cell? ⟨(g + 1), 0, none⟩ = some (.slice B1 m1 d1) ∧ W.cell? ⟨(g + 1), 1, none⟩ = some (.slice B2 m2 d2) ∧ W.cell? ⟨(g + 1), 2, none⟩ = some (.slice B3 m3 d3) ∧ W.cell? ⟨(g + 1), 3, none⟩ = some (.int .i64 j1) ∧ W.cell? ⟨(g + 1), 4, none⟩ = some (.int .i64 j2) ∧ W.cell? ⟨(g + 1), 5, none⟩ = some (.int .i64 j3) ∧ W.cell? ⟨(g + 1), 6, none⟩ = some (.int .i64 j4) ∧ W.cell? ⟨(g + 1), 7, none⟩ = some (.slice B4 m4 d4) ∧ W.cell? ⟨g5, 0, none⟩ = some (.slice X1 n1 x1) ∧ W.cell? ⟨g5, 1, none⟩ = some (.slice X2 n2 x2) ∧ W.cell? ⟨g5, 2, none⟩ = some (.slice X3 n3 x3) ∧ W.cell? ⟨g5, 3, none⟩ = some (.int .i64 i1) ∧ W.cell? ⟨g5, 4, none⟩ = some (.int .i64 i2) ∧ W.cell? ⟨g5, 5, none⟩ = some (.int .i64 i3) ∧ W.cell? ⟨g5, 6, none⟩ = some (.int .i64 i4) ∧ W.cell? ⟨g5, 7, none⟩ = some (.slice X4 n4 x4) ∧ W.cell? ⟨g6, 0, none⟩ = some (.slice Y1 m1 y1) ∧ W.cell? ⟨g6, 1, none⟩ = some (.slice Y2 m2 y2) ∧ W.cell? ⟨g6, 2, none⟩ = some (.slice Y3 m3 y3) ∧ W.cell? ⟨g6, 3, none⟩ = some (.int .i64 j1) ∧ W.cell? ⟨g6, 4, none⟩ = some (.int .i64 j2) ∧ W.cell? ⟨g6, 5, none⟩ = some (.int .i64 j3) ∧ W.cell? ⟨g6, 6, none⟩ = some (.int .i64 j4) ∧ W.cell? ⟨g6, 7, none⟩ = some (.slice Y4 m4 y4)) := fun W cW => ⟨(E14.out.chg cW (fun h => h)).at_ (i := 0) rfl, (E14.out.chg cW (fun h => h)).at_ (i := 1) rfl, (E14.out.chg cW (fun h => h)).at_ (i := 2) rfl, (E14.out.chg cW (fun h => h)).at_ (i := 3) rfl, (E14.out.chg cW (fun h => h)).at_ (i := 4) rfl, (E14.out.chg cW (fun h => h)).at_ (i := 5) rfl, (E14.out.chg cW (fun h => h)).at_ (i := 6) rfl, (E14.out.chg cW (fun h => h)).at_ (i := 7) rfl, (E24.out.chg cW (fun h => h)).at_ (i := 0) rfl, (E24.out.chg cW (fun h => h)).at_ (i := 1) rfl, (E24.out.chg cW (fun h => h)).at_ (i := 2) rfl, (E24.out.chg cW (fun h => h)).at_ (i := 3) rfl, (E24.out.chg cW (fun h => h)).at_ (i := 4) rfl, (E24.out.chg cW (fun h => h)).at_ (i := 5) rfl, (E24.out.chg cW (fun h => h)).at_ (i := 6) rfl, (E24.out.chg cW (fun h => h)).at_ (i := 7) rfl, (E34.out.chg cW (fun h => h)).at_ (i := 0) rfl, (E34.out.chg cW (fun h => h)).at_ (i := 1) rfl, (E34.out.chg cW (fun h => h)).at_ (i := 2) rfl, (E34.out.chg cW (fun h => h)).at_ (i := 3) rfl, (E34.out.chg cW (fun h => h)).at_ (i := 4) rfl, (E34.out.chg cW (fun h => h)).at_ (i := 5) rfl, (E34.out.chg cW (fun h => h)).at_ (i := 6) rfl, (E34.out.chg cW (fun h => h)).at_ (i := 7) rfl, (E44.out.chg cW (fun h => h)).at_ (i := 0) rfl, (E44.out.chg cW (fun h => h)).at_ (i := 1) rfl, (E44.out.chg cW (fun h => h)).at_ (i := 2) rfl, (E44.out.chg cW (fun h => h)).at_ (i := 3) rfl, (E44.out.chg cW (fun h => h)).at_ (i := 4) rfl, (E44.out.chg cW (fun h => h)).at_ (i := 5) rfl, (E44.out.chg cW (fun h => h)).at_ (i := 6) rfl, (E44.out.chg cW (fun h => h)).at_ (i := 7) rfl⟩
  have KE : Hid (∀ W, Chg (fun _ => False) w4 W → Calls Try.prog 14 #[.agg #[.slice X1 n1 x1, .slice X2 n2 x2, .slice X3 n3 x3, .int .i64 i1, .int .i64 i2, .int .i64 i3, .int .i64 i4, .slice X4 n4 x4], .agg #[.slice Y1 m1 y1, .slice Y2 m2 y2, .slice Y3 m3 y3, .int .i64 j1, .int .i64 j2, .int .i64 j3, .int .i64 j4, .slice Y4 m4 y4]] W fun e w' => e = .returned (.bool bq) ∧ Chg (fun _ => False) W w') := fun W cW => imageEqualA (Lib.hid (MX4.out.p.chg0 cW)) (Lib.hid (MY4.out.p.chg0 cW)) SP.out SQ.out HBQ
  have KR : Hid (∀ W, Chg (fun _ => False) w4 W → Calls Try.prog 15 #[.agg #[.slice A1 n1 c1, .slice A2 n2 c2, .slice A3 n3 c3, .int .i64 i1, .int .i64 i2, .int .i64 i3, .int .i64 i4, .slice A4 n4 c4], .agg #[.slice B1 m1 d1, .slice B2 m2 d2, .slice B3 m3 d3, .int .i64 j1, .int .i64 j2, .int .i64 j3, .int .i64 j4, .slice B4 m4 d4]] W fun e w' => e = .returned (.bool bq) ∧ Chg (fun _ => False) W w') := fun W cW => refEqualA (Lib.hid (PA4.out.chg0 cW)) (Lib.hid (PB4.out.chg0 cW)) SP.out SQ.out HBQ
  have KO : Hid (∀ W, Chg (fun _ => False) w4 W → Calls Try.prog 13 #[.agg #[.slice A1 n1 c1, .slice A2 n2 c2, .slice A3 n3 c3, .int .i64 i1, .int .i64 i2, .int .i64 i3, .int .i64 i4, .slice A4 n4 c4]] W fun e w' => ∃ Z1 Z2 Z3 Z4 z1 z2 z3 z4, e = .returned (.agg #[.slice Z1 n1 z1, .slice Z2 n2 z2, .slice Z3 n3 z3, .int .i64 i1, .int .i64 i2, .int .i64 i3, .int .i64 i4, .slice Z4 n4 z4]) ∧ AtM w' p #[.slice Z1 n1 z1, .slice Z2 n2 z2, .slice Z3 n3 z3, .int .i64 i1, .int .i64 i2, .int .i64 i3, .int .i64 i4, .slice Z4 n4 z4] ∧ Chg (fun _ => False) W w') := fun W cW => ownA (Lib.hid (PA4.out.chg0 cW)) SP.out hn
  have KQ : Hid (∀ W, Chg (fun _ => False) w4 W → Calls Try.prog 13 #[.agg #[.slice B1 m1 d1, .slice B2 m2 d2, .slice B3 m3 d3, .int .i64 j1, .int .i64 j2, .int .i64 j3, .int .i64 j4, .slice B4 m4 d4]] W fun e w' => ∃ U1 U2 U3 U4 u1 u2 u3 u4, e = .returned (.agg #[.slice U1 m1 u1, .slice U2 m2 u2, .slice U3 m3 u3, .int .i64 j1, .int .i64 j2, .int .i64 j3, .int .i64 j4, .slice U4 m4 u4]) ∧ AtM w' q #[.slice U1 m1 u1, .slice U2 m2 u2, .slice U3 m3 u3, .int .i64 j1, .int .i64 j2, .int .i64 j3, .int .i64 j4, .slice U4 m4 u4] ∧ Chg (fun _ => False) W w') := fun W cW => ownA (Lib.hid (PB4.out.chg0 cW)) SQ.out hm
  have KI : Hid (∀ W, Chg (fun _ => False) w4 W → Calls Try.prog 16 #[.agg #[.slice X1 n1 x1, .slice X2 n2 x2, .slice X3 n3 x3, .int .i64 i1, .int .i64 i2, .int .i64 i3, .int .i64 i4, .slice X4 n4 x4], .agg #[.slice A1 n1 c1, .slice A2 n2 c2, .slice A3 n3 c3, .int .i64 i1, .int .i64 i2, .int .i64 i3, .int .i64 i4, .slice A4 n4 c4]] W fun e w' => e = .returned (.bool true) ∧ Chg (fun _ => False) W w') := fun W cW => intactA (Lib.hid (MX4.out.chg0 cW)) (Lib.hid (PA4.out.chg0 cW)) SP.out
  have KJ : Hid (∀ W, Chg (fun _ => False) w4 W → Calls Try.prog 16 #[.agg #[.slice Y1 m1 y1, .slice Y2 m2 y2, .slice Y3 m3 y3, .int .i64 j1, .int .i64 j2, .int .i64 j3, .int .i64 j4, .slice Y4 m4 y4], .agg #[.slice B1 m1 d1, .slice B2 m2 d2, .slice B3 m3 d3, .int .i64 j1, .int .i64 j2, .int .i64 j3, .int .i64 j4, .slice B4 m4 d4]] W fun e w' => e = .returned (.bool true) ∧ Chg (fun _ => False) W w') := fun W cW => intactA (Lib.hid (MY4.out.chg0 cW)) (Lib.hid (PB4.out.chg0 cW)) SQ.out
  have CC : Hid (Chg (fun _ => False) w4 w4) := Chg.refl _ _
  go_region_held3 (fun w' => w'.cell? ⟨g, 0, none⟩ = some (.slice A1 n1 c1) ∧ w'.cell? ⟨g, 1, none⟩ = some (.slice A2 n2 c2) ∧ w'.cell? ⟨g, 2, none⟩ = some (.slice A3 n3 c3) ∧ w'.cell? ⟨g, 3, none⟩ = some (.int .i64 i1) ∧ w'.cell? ⟨g, 4, none⟩ = some (.int .i64 i2) ∧ w'.cell? ⟨g, 5, none⟩ = some (.int .i64 i3) ∧ w'.cell? ⟨g, 6, none⟩ = some (.int .i64 i4) ∧ w'.cell? ⟨g, 7, none⟩ = some (.slice A4 n4 c4) ∧ w'.cell? ⟨(g + 1), 0, none⟩ = some (.slice B1 m1 d1) ∧ w'.cell? ⟨(g + 1), 1, none⟩ = some (.slice B2 m2 d2) ∧ w'.cell? ⟨(g + 1), 2, none⟩ = some (.slice B3 m3 d3) ∧ w'.cell? ⟨(g + 1), 3, none⟩ = some (.int .i64 j1) ∧ w'.cell? ⟨(g + 1), 4, none⟩ = some (.int .i64 j2) ∧ w'.cell? ⟨(g + 1), 5, none⟩ = some (.int .i64 j3) ∧ w'.cell? ⟨(g + 1), 6, none⟩ = some (.int .i64 j4) ∧ w'.cell? ⟨(g + 1), 7, none⟩ = some (.slice B4 m4 d4) ∧ w'.cell? ⟨g5, 0, none⟩ = some (.slice X1 n1 x1) ∧ w'.cell? ⟨g5, 1, none⟩ = some (.slice X2 n2 x2) ∧ w'.cell? ⟨g5, 2, none⟩ = some (.slice X3 n3 x3) ∧ w'.cell? ⟨g5, 3, none⟩ = some (.int .i64 i1) ∧ w'.cell? ⟨g5, 4, none⟩ = some (.int .i64 i2) ∧ w'.cell? ⟨g5, 5, none⟩ = some (.int .i64 i3) ∧ w'.cell? ⟨g5, 6, none⟩ = some (.int .i64 i4) ∧ w'.cell? ⟨g5, 7, none⟩ = some (.slice X4 n4 x4) ∧ w'.cell? ⟨g6, 0, none⟩ = some (.slice Y1 m1 y1) ∧ w'.cell? ⟨g6, 1, none⟩ = some (.slice Y2 m2 y2) ∧ w'.cell? ⟨g6, 2, none⟩ = some (.slice Y3 m3 y3) ∧ w'.cell? ⟨g6, 3, none⟩ = some (.int .i64 j1) ∧ w'.cell? ⟨g6, 4, none⟩ = some (.int .i64 j2) ∧ w'.cell? ⟨g6, 5, none⟩ = some (.int .i64 j3) ∧ w'.cell? ⟨g6, 6, none⟩ = some (.int .i64 j4) ∧ w'.cell? ⟨g6, 7, none⟩ = some (.slice Y4 m4 y4)) (exact TA.out _ (by repeat (first | exact CC.out | exact Chg.refl _ _ | refine Chg.drew ?_ | refine Chg.drewN ?_ _ | refine Chg.alloc ?_ _))) (first | (go_at_call 14; (with_reducible refine (KE.out _ (by repeat (first | exact CC.out | exact Chg.refl _ _ | refine Chg.drew ?_ | refine Chg.drewN ?_ _ | refine Chg.alloc ?_ _))).mono ?_); rintro e wn ⟨rfl, cc⟩; have CC : Hid (Chg (fun _ => False) w4 wn) := (show Chg (fun _ => False) w4 _ from (by repeat (first | exact CC.out | exact Chg.refl _ _ | refine Chg.drew ?_ | refine Chg.drewN ?_ _ | refine Chg.alloc ?_ _))).trans cc (fun _ _ h => h); clear cc) | (go_at_call 15; (with_reducible refine (KR.out _ (by repeat (first | exact CC.out | exact Chg.refl _ _ | refine Chg.drew ?_ | refine Chg.drewN ?_ _ | refine Chg.alloc ?_ _))).mono ?_); rintro e wn ⟨rfl, cc⟩; have CC : Hid (Chg (fun _ => False) w4 wn) := (show Chg (fun _ => False) w4 _ from (by repeat (first | exact CC.out | exact Chg.refl _ _ | refine Chg.drew ?_ | refine Chg.drewN ?_ _ | refine Chg.alloc ?_ _))).trans cc (fun _ _ h => h); clear cc) | (go_at_call 13; (with_reducible refine (KO.out _ (by repeat (first | exact CC.out | exact Chg.refl _ _ | refine Chg.drew ?_ | refine Chg.drewN ?_ _ | refine Chg.alloc ?_ _))).mono ?_); rintro e wn ⟨Z1, Z2, Z3, Z4, z1, z2, z3, z4, rfl, mz, cc⟩; have MZ := Lib.hid mz; have C4n : Hid (Chg (fun _ => False) w4 wn) := (show Chg (fun _ => False) w4 _ from (by repeat (first | exact CC.out | exact Chg.refl _ _ | refine Chg.drew ?_ | refine Chg.drewN ?_ _ | refine Chg.alloc ?_ _))).trans cc (fun _ _ h => h); have K2 : Hid (∀ W, Chg (fun _ => False) wn W → Calls Try.prog 14 #[.agg #[.slice X1 n1 x1, .slice X2 n2 x2, .slice X3 n3 x3, .int .i64 i1, .int .i64 i2, .int .i64 i3, .int .i64 i4, .slice X4 n4 x4], .agg #[.slice Z1 n1 z1, .slice Z2 n2 z2, .slice Z3 n3 z3, .int .i64 i1, .int .i64 i2, .int .i64 i3, .int .i64 i4, .slice Z4 n4 z4]] W fun e w' => e = .returned (.bool true) ∧ Chg (fun _ => False) W w') := (fun W cW => imageEqualA (Lib.hid (MX4.out.p.chg0 (C4n.out.trans cW (fun _ _ h => h)))) (Lib.hid (MZ.out.p.chg0 cW)) SP.out SP.out (Lib.hid (by simp))); have CZ : Hid (Chg (fun _ => False) wn wn) := Chg.refl _ _; have CC : Hid (Chg (fun _ => False) w4 wn) := C4n; clear cc mz C4n) | (go_at_call 14; (with_reducible refine (K2.out _ (by repeat (first | exact CZ.out | exact Chg.refl _ _ | refine Chg.drew ?_ | refine Chg.drewN ?_ _ | refine Chg.alloc ?_ _))).mono ?_); rintro e wn ⟨rfl, cc⟩; have CC : Hid (Chg (fun _ => False) w4 wn) := (show Chg (fun _ => False) w4 _ from (by repeat (first | exact CC.out | exact Chg.refl _ _ | refine Chg.drew ?_ | refine Chg.drewN ?_ _ | refine Chg.alloc ?_ _))).trans cc (fun _ _ h => h); clear cc) | (go_at_call 13; (with_reducible refine (KQ.out _ (by repeat (first | exact CC.out | exact Chg.refl _ _ | refine Chg.drew ?_ | refine Chg.drewN ?_ _ | refine Chg.alloc ?_ _))).mono ?_); rintro e wn ⟨U1, U2, U3, U4, u1, u2, u3, u4, rfl, mz, cc⟩; have MZ := Lib.hid mz; have C4n : Hid (Chg (fun _ => False) w4 wn) := (show Chg (fun _ => False) w4 _ from (by repeat (first | exact CC.out | exact Chg.refl _ _ | refine Chg.drew ?_ | refine Chg.drewN ?_ _ | refine Chg.alloc ?_ _))).trans cc (fun _ _ h => h); have K3 : Hid (∀ W, Chg (fun _ => False) wn W → Calls Try.prog 14 #[.agg #[.slice U1 m1 u1, .slice U2 m2 u2, .slice U3 m3 u3, .int .i64 j1, .int .i64 j2, .int .i64 j3, .int .i64 j4, .slice U4 m4 u4], .agg #[.slice Y1 m1 y1, .slice Y2 m2 y2, .slice Y3 m3 y3, .int .i64 j1, .int .i64 j2, .int .i64 j3, .int .i64 j4, .slice Y4 m4 y4]] W fun e w' => e = .returned (.bool true) ∧ Chg (fun _ => False) W w') := (fun W cW => imageEqualA (Lib.hid (MZ.out.p.chg0 cW)) (Lib.hid (MY4.out.p.chg0 (C4n.out.trans cW (fun _ _ h => h)))) SQ.out SQ.out (Lib.hid (by simp))); have CZ : Hid (Chg (fun _ => False) wn wn) := Chg.refl _ _; have CC : Hid (Chg (fun _ => False) w4 wn) := C4n; clear cc mz C4n) | (go_at_call 14; (with_reducible refine (K3.out _ (by repeat (first | exact CZ.out | exact Chg.refl _ _ | refine Chg.drew ?_ | refine Chg.drewN ?_ _ | refine Chg.alloc ?_ _))).mono ?_); rintro e wn ⟨rfl, cc⟩; have CC : Hid (Chg (fun _ => False) w4 wn) := (show Chg (fun _ => False) w4 _ from (by repeat (first | exact CC.out | exact Chg.refl _ _ | refine Chg.drew ?_ | refine Chg.drewN ?_ _ | refine Chg.alloc ?_ _))).trans cc (fun _ _ h => h); clear cc) | (go_at_call 16; (with_reducible refine (KI.out _ (by repeat (first | exact CC.out | exact Chg.refl _ _ | refine Chg.drew ?_ | refine Chg.drewN ?_ _ | refine Chg.alloc ?_ _))).mono ?_); rintro e wn ⟨rfl, cc⟩; have CC : Hid (Chg (fun _ => False) w4 wn) := (show Chg (fun _ => False) w4 _ from (by repeat (first | exact CC.out | exact Chg.refl _ _ | refine Chg.drew ?_ | refine Chg.drewN ?_ _ | refine Chg.alloc ?_ _))).trans cc (fun _ _ h => h); clear cc) | (go_at_call 16; (with_reducible refine (KJ.out _ (by repeat (first | exact CC.out | exact Chg.refl _ _ | refine Chg.drew ?_ | refine Chg.drewN ?_ _ | refine Chg.alloc ?_ _))).mono ?_); rintro e wn ⟨rfl, cc⟩; have CC : Hid (Chg (fun _ => False) w4 wn) := (show Chg (fun _ => False) w4 _ from (by repeat (first | exact CC.out | exact Chg.refl _ _ | refine Chg.drew ?_ | refine Chg.drewN ?_ _ | refine Chg.alloc ?_ _))).trans cc (fun _ _ h => h); clear cc))
  all_goals
    go_wp2_with fail
    go_ret
    exact ⟨rfl, C4.out.trans CC.out (fun _ _ h => h)⟩
theorem imageEqualsWalk (w : World) (s : ProgS) (p : ProgV) (hr : Hid (RdProg w s p)) (ok : ProgOk p) (t : ProgS) (q : ProgV) (hr2 : Hid (RdProg w t q)) (ok2 : ProgOk q) :
    Calls Try.prog 3 #[progVal s p, progVal t q] w fun e w' => e = .returned (.bool true) ∧ Below w.heap.size w w' := by
  obtain ⟨_, _, _, _, A1, A2, A3, A4, c1, c2, c3, c4, h⟩ := hr.out.apart
  obtain ⟨_, _, _, _, B1, B2, B3, B4, d1, d2, d3, d4, h2⟩ := hr2.out.apart
  rw [h.eq, h2.eq]
  refine (imageEqualsW (Lib.hid ⟨s, h.eq, hr.out⟩) (Lib.hid ⟨t, h2.eq, hr2.out⟩) ok.small ok2.small (Lib.hid ⟨h.ln, h.lc, h.lk, h.ld, rfl, rfl, rfl, rfl⟩) (Lib.hid ⟨h2.ln, h2.lc, h2.lk, h2.ld, rfl, rfl, rfl, rfl⟩)).mono ?_
  rintro e w1 ⟨rfl, c⟩
  exact ⟨rfl, c.done⟩
end Go.Proofs.Ytlnomadhgoblkaa.Kit
