/- Texts that the row leans on: Jpe, Jpg, OpenO, OpenB, Jpi. -/
import Derived.Test.YtlnomadhgoblkaaProg
import Derived.Test.YtlnomadhgoblkaaQJournalPairao
import Derived.Deep.RegionHeld3
import Derived.Test.YtlnomadhgoblkaaQJournalPairaj
import Derived.Test.YtlnomadhgoblkaaQJournalPairab
import Derived.Deep.Slices
-- The journal's law.go: step of Append.
set_option linter.unusedVariables false
set_option linter.unusedSimpArgs false
namespace Go.Proofs.Ytlnomadhgoblkaa.Kit
open Go.RowKit
theorem app_good {l : List SecV} {x : SecV} {R : Int × List SecV} (hg : ∀ y ∈ l, GoodRec y) (hs : (jnlBytes l).length ≤ 268435456) (hb : Byt x.body) (h : jappRes l x = R) : (∀ y ∈ R.2, GoodRec y) ∧ (jnlBytes R.2).length ≤ 268435456 := by
  unfold jappRes at h
  split at h
  · subst h
    exact ⟨hg, hs⟩
  · split at h
    · subst h
      exact ⟨hg, hs⟩
    · split at h
      · subst h
        exact ⟨hg, hs⟩
      · subst h
        refine ⟨fun y hy => ?_, ?_⟩
        · rcases List.mem_append.1 hy with hy | hy
          · exact hg y hy
          · rw [List.mem_singleton] at hy
            subst hy
            exact ⟨by omega, by omega, by omega, hb⟩
        · show (jnlBytes (l ++ [x])).length ≤ 268435456
          rw [jnlBytes_snoc, List.length_append]
          omega
set_option maxRecDepth 20000 in
set_option maxHeartbeats 6400000 in
theorem pstepAppend {late : Bool} {g gP gR : Nat} {DP DR DB : Nat → Prop} {ls : List SecV} {k : Nat} {w : World} {no : Int} {x : SecV} (h : Hid (PairJ late g gP gR DP DR DB ls k w)) (hk : k ≤ 4398046511104) {Ar Ab : Option Addr} {nr cr nb cb : Nat}
    (HNR : Hid (nr = x.body.length)) (hnr : nr ≤ 140737488351232) (hcr : nr ≤ cr) (hbb : Hid (Byt x.body)) (hrb : Hid (∀ W, Chg (Foot g gP gR DP DR DB) w W → Rd W .u8 Ar x.body)) (hk0 : -9223372036854775808 ≤ x.id) (hk1 : x.id ≤ 9223372036854775807) :
    Calls Try.prog 33 #[.pointer (some ⟨g, 0, none⟩), .agg #[.int .i64 1, .int .i64 x.id, .slice Ar nr cr, .int .i64 no, .slice Ab nb cb]] w (PairR late g (Foot g gP gR DP DR DB) (k + 1) w) := by
  obtain ⟨R, hR⟩ : ∃ R, jappRes ls x = R := ⟨_, rfl⟩
  have HR := Lib.hid hR
  clear hR
  have HX := Lib.hid (opBoxJ w 1 x.id no Ar Ab nr cr nb cb)
  have H0 : Hid (PairJ late g gP gR DP DR DB ls k (w.alloc (.cells #[.int .i64 1, .int .i64 x.id, .slice Ar nr cr, .int .i64 no, .slice Ab nb cb] 69))) := h.out.chg0 ((Chg.refl _ w).alloc _)
  have hgl : Hid (∀ x, Foot g gP gR DP DR DB x → x < w.heap.size) := h.out.lt
  obtain ⟨p0, p1, _, _⟩ := H0.out.cells
  obtain ⟨x0, x1, x2, x3, x4⟩ := HX.out _ (Chg.refl _ _)
  go_enter Try.func33, Try.ntmps33
  go_wp2_with fail
  obtain ⟨w0, hw0⟩ : ∃ w0, w0 = w.alloc (.cells #[.int .i64 1, .int .i64 x.id, .slice Ar nr cr, .int .i64 no, .slice Ab nb cb] 69) := ⟨_, rfl⟩
  rw [← hw0]
  rw [← hw0] at H0 HX
  have C0 : Hid (Chg (fun _ => False) w w0) := by rw [hw0]; exact (Chg.refl _ w).alloc _
  have hb0 : Hid (w.heap.size < w0.heap.size) := by rw [hw0, Hid]; simp
  have R0 : Hid (Rd w0 .u8 Ar x.body) := hrb.out w0 (C0.out.mono (fun _ _ h => h.elim))
  clear hw0 p0 p1 x0 x1 x2 x3 x4
  refine (show Calls Try.prog 51 #[.slice Ar nr cr] _ _ from by
    rw [HNR.out]
    exact hand Ar cr x.body _ (by rw [← HNR.out]; exact hnr) R0).mono ?_
  rintro e w1 ⟨gi, rfl, i1, i2, i3⟩
  have HT : Hid ((x.body ++ marks).take nr = x.body) := by rw [Hid, HNR.out, List.take_left]
  have HML : Hid ((x.body ++ marks).length = nr + 90) := by rw [Hid, List.length_append, marks_length, HNR.out]
  rw [← HNR.out] at i1 ⊢
  have I1 := Lib.hid i1
  have I2 := Lib.hid i2
  have C01 := Lib.hid i3
  clear i1 i2 i3
  obtain ⟨p0, p1, _, _⟩ := (H0.out.chg0 C01.out).cells
  obtain ⟨x0, x1, x2, x3, x4⟩ := HX.out w1 (C01.out.mono (fun _ _ h => h.elim))
  go_wp2_with fail
  have hsm : Hid ((jnlBytes ls).length ≤ 268435456) := h.out.small
  have hnr2 : nr ≤ 140737488355328 := by omega
  have JW : Hid (∀ W, Chg (fun _ => False) w1 W → Hid (Jn W DP gP ls)) := fun W cW => ((H0.out.chg0 C01.out).chg0 cW).p
  have RW : Hid (∀ W, Chg (fun _ => False) w1 W → Hid (Rd W .u8 (some ⟨gi, 0, none⟩) x.body)) := fun W cW => by
    have hh := (I1.out.rd (by rw [← HML.out])).take nr
    rw [HT.out] at hh
    exact hh.below cW.done
  have TA : Hid (∀ W, Chg (fun y => y = gP ∨ DP y) w1 W → W.cell? ⟨g, 0, none⟩ = some (.pointer (some ⟨gP, 0, none⟩)) ∧ W.cell? ⟨w.heap.size, 1, none⟩ = some (.int .i64 x.id) ∧ W.cell? ⟨w.heap.size, 2, none⟩ = some (.slice Ar nr cr)) := fun W cW => by
    have hS : ∀ y, (y = gP ∨ DP y) → y < w.heap.size ∧ y ≠ g := fun y hy => hy.elim (fun e => ⟨hgl.out y (.inr (.inr (.inr (.inl e)))), (h.out.pb y (.inr e)).2⟩) (fun e => ⟨hgl.out y (.inr (.inr (.inl e))), (h.out.pb y (.inl e)).2⟩)
    have hb := HX.out W ((C01.out.mono (fun _ _ h => h.elim)).trans cW (fun y _ hy => .inr (hS y hy).1))
    exact ⟨cW.cell (fun hh => (hS g hh).2 rfl) (H0.out.chg0 C01.out).cells.1, hb.2.1, hb.2.2.1⟩
  go_cut [6] from 27 to 47 (fun ev wx => ∃ DP2 : Nat → Prop, ev = .int .i64 R.1 ∧ Hid (Jn wx DP2 gP R.2) ∧ Hid (∀ y, DP2 y → DP y ∨ w1.heap.size ≤ y) ∧ Hid (Chg (fun y => y = gP ∨ DP y) w1 wx))
  case first =>
    have b1 : (nr : Int) ≤ (nr : Int) + 90 := by omega
    have b0 : (0 : Int) ≤ (nr : Int) := by omega
    go_region_held3 (fun w' => w'.cell? ⟨g, 0, none⟩ = some (.pointer (some ⟨gP, 0, none⟩)) ∧ w'.cell? ⟨w.heap.size, 1, none⟩ = some (.int .i64 x.id) ∧ w'.cell? ⟨w.heap.size, 2, none⟩ = some (.slice Ar nr cr)) (exact TA.out _ (by repeat (first | exact C12.out | exact Chg.refl _ _ | refine Chg.drew ?_ | refine Chg.drewN ?_ _ | refine Chg.alloc ?_ _))) (first | (go_at_call 19; (with_reducible refine (jappend HR (JW.out _ (by repeat (first | exact Chg.refl _ _ | refine Chg.drew ?_ | refine Chg.drewN ?_ _ | refine Chg.alloc ?_ _))) hsm HNR hnr2 hbb (RW.out _ (by repeat (first | exact Chg.refl _ _ | refine Chg.drew ?_ | refine Chg.drewN ?_ _ | refine Chg.alloc ?_ _))) hk0 hk1).mono ?_); rintro e w2 ⟨rfl, DP2, j2, n2, c2⟩; have J2 := Lib.hid j2; have N2 : Hid (∀ y, DP2 y → DP y ∨ w1.heap.size ≤ y) := (fun y hy => (n2 y hy).imp id (fun hh => by simpa using hh)); have C12 : Hid (Chg (fun y => y = gP ∨ DP y) w1 w2) := (show Chg (fun y => y = gP ∨ DP y) w1 _ from by repeat (first | exact Chg.refl _ _ | refine Chg.drew ?_ | refine Chg.drewN ?_ _ | refine Chg.alloc ?_ _)).trans c2 (fun _ _ h => h); clear j2 n2 c2))
    all_goals
      go_wp2_with fail
      go_meet
      case rel => exact ⟨DP2, rfl, J2.out, N2.out, C12.out⟩
  case rest =>
    obtain ⟨DP2, rfl, J2, N2, C12⟩ := hcut
    obtain ⟨w2, hw2⟩ : ∃ x, x = wc := ⟨_, rfl⟩
    subst hw2
    clear p0 p1 x0 x1 x2 x3 x4
    go_upto_region 5 with fail
    have hPS : Hid (∀ y, (y = gP ∨ DP y) → y < w.heap.size ∧ y ≠ g ∧ ¬ DR y ∧ y ≠ gR) := fun y hy => by
      have hy2 : DP y ∨ y = gP := hy.symm
      have h2 := h.out.pr y hy2
      exact ⟨hy.elim (fun e => hgl.out y (.inr (.inr (.inr (.inl e))))) (fun e => hgl.out y (.inr (.inr (.inl e)))), (h.out.pb y hy2).2, fun e => h2 (.inl e), fun e => h2 (.inr e)⟩
    have JR2 : Hid (RJ w2 DR gR ls) := ((H0.out.chg0 C01.out).r).chg C12.out (fun y hy => ⟨(hPS.out y hy).2.2.1, (hPS.out y hy).2.2.2⟩)
    have RB2 : Hid (Rd w2 .u8 Ar x.body) := hrb.out w2 (((C0.out.trans C01.out (fun _ _ h => h)).mono (fun _ _ h => h.elim)).trans C12.out (fun y _ hy => hy.elim (fun e => .inr (.inr (.inr (.inl e)))) (fun e => .inr (.inr (.inl e)))))
    have JW2 : Hid (∀ W, Chg (fun _ => False) w2 W → Hid (RJ W DR gR ls)) := fun W cW => JR2.out.chg0 cW
    have RW2 : Hid (∀ W, Chg (fun _ => False) w2 W → Hid (Rd W .u8 Ar x.body)) := fun W cW => RB2.out.below cW.done
    have TB : Hid (∀ W, Chg (fun y => y = gR ∨ DR y) w2 W → W.cell? ⟨g, 1, none⟩ = some (.pointer (some ⟨gR, 0, none⟩)) ∧ W.cell? ⟨w.heap.size, 1, none⟩ = some (.int .i64 x.id) ∧ W.cell? ⟨w.heap.size, 2, none⟩ = some (.slice Ar nr cr)) := fun W cW => by
      have hS : ∀ y, (y = gR ∨ DR y) → y < w.heap.size ∧ y ≠ g := fun y hy => hy.elim (fun e => ⟨hgl.out y (.inr (.inr (.inr (.inr (.inr e))))), (h.out.rb y (.inr e)).2⟩) (fun e => ⟨hgl.out y (.inr (.inr (.inr (.inr (.inl e))))), (h.out.rb y (.inl e)).2⟩)
      have hb := HX.out W (((C01.out.mono (fun _ _ h => h.elim)).trans C12.out (fun y _ hy => .inr (hPS.out y hy).1)).trans cW (fun y _ hy => .inr (hS y hy).1))
      exact ⟨cW.cell (fun hh => (hS g hh).2 rfl) (C12.out.cell (fun hh => (hPS.out g hh).2.1 rfl) (H0.out.chg0 C01.out).cells.2.1), hb.2.1, hb.2.2.1⟩
    obtain ⟨t0, t1, t2⟩ := TB.out w2 (Chg.refl _ _)
    go_cut [7] from 27 to 54 (fun ev wx => ∃ DR3 : Nat → Prop, ev = .int .i64 R.1 ∧ Hid (RJ wx DR3 gR R.2) ∧ Hid (∀ y, DR3 y → DR y ∨ w2.heap.size ≤ y) ∧ Hid (Chg (fun y => y = gR ∨ DR y) w2 wx))
    case first =>
      go_region_held3 (fun w' => w'.cell? ⟨g, 1, none⟩ = some (.pointer (some ⟨gR, 0, none⟩)) ∧ w'.cell? ⟨w.heap.size, 1, none⟩ = some (.int .i64 x.id) ∧ w'.cell? ⟨w.heap.size, 2, none⟩ = some (.slice Ar nr cr)) (exact TB.out _ (by repeat (first | exact C23.out | exact Chg.refl _ _ | refine Chg.drew ?_ | refine Chg.drewN ?_ _ | refine Chg.alloc ?_ _))) (first | (go_at_call 55; (with_reducible refine (rappend HR (JW2.out _ (by repeat (first | exact Chg.refl _ _ | refine Chg.drew ?_ | refine Chg.drewN ?_ _ | refine Chg.alloc ?_ _))) hsm HNR hnr2 hbb (RW2.out _ (by repeat (first | exact Chg.refl _ _ | refine Chg.drew ?_ | refine Chg.drewN ?_ _ | refine Chg.alloc ?_ _))) hk0 hk1).mono ?_); rintro e w3 ⟨rfl, DR3, j3, n3, c3⟩; have J3 := Lib.hid j3; have N3 : Hid (∀ y, DR3 y → DR y ∨ w2.heap.size ≤ y) := (fun y hy => (n3 y hy).imp id (fun hh => by simpa using hh)); have C23 : Hid (Chg (fun y => y = gR ∨ DR y) w2 w3) := (show Chg (fun y => y = gR ∨ DR y) w2 _ from by repeat (first | exact Chg.refl _ _ | refine Chg.drew ?_ | refine Chg.drewN ?_ _ | refine Chg.alloc ?_ _)).trans c3 (fun _ _ h => h); clear j3 n3 c3))
      all_goals
        go_wp2_with fail
        go_meet
        case rel => exact ⟨DR3, rfl, J3.out, N3.out, C23.out⟩
    case rest =>
      obtain ⟨DR3, rfl, J3, N3, C23⟩ := hcut
      obtain ⟨w3, hw3⟩ : ∃ x, x = wc := ⟨_, rfl⟩
      subst hw3
      clear t0 t1 t2
      have C03 : Hid (Chg (fun y => (y = gP ∨ DP y) ∨ (y = gR ∨ DR y)) w w3) := (((C0.out.trans C01.out (fun _ _ h => h)).mono (fun _ _ h => h.elim)).trans C12.out (fun _ _ h => .inl h)).trans C23.out (fun _ _ h => .inr h)
      have hRS : Hid (∀ y, (y = gR ∨ DR y) → y < w.heap.size ∧ y ≠ g ∧ ¬ DB y) := fun y hy => by
        have hy2 : DR y ∨ y = gR := hy.symm
        exact ⟨hy.elim (fun e => hgl.out y (.inr (.inr (.inr (.inr (.inr e)))))) (fun e => hgl.out y (.inr (.inr (.inr (.inr (.inl e)))))), (h.out.rb y hy2).2, (h.out.rb y hy2).1⟩
      have hsz : Hid (w.heap.size < w1.heap.size ∧ w1.heap.size ≤ w2.heap.size) := ⟨Nat.lt_of_lt_of_le hb0.out C01.out.size, C12.out.size⟩
      have hgiS : Hid (w0.heap.size ≤ gi ∧ gi < w1.heap.size) := ⟨I2.out, I1.out.lt gi rfl⟩
      have P3 : Hid (PairJ late g gP gR DP2 DR3 DB R.2 k w3) := by
        have hgd := app_good h.out.good h.out.small hbb.out HR.out
        have q2 : ∀ y, (DP2 y ∨ y = gP) → (DP y ∨ y = gP) ∨ (w1.heap.size ≤ y ∧ y < w2.heap.size) := fun y hy => by
          rcases hy with hy | hy
          · rcases N2.out y hy with e | e
            · exact .inl (.inl e)
            · exact .inr ⟨e, J2.out.size y hy⟩
          · exact .inl (.inr hy)
        have q3 : ∀ y, (DR3 y ∨ y = gR) → (DR y ∨ y = gR) ∨ w2.heap.size ≤ y := fun y hy => by
          rcases hy with hy | hy
          · rcases N3.out y hy with e | e
            · exact .inl (.inl e)
            · exact .inr e
          · exact .inl (.inr hy)
        have s1 := hsz.out
        have hpl : ∀ y, (DP y ∨ y = gP) → y < w.heap.size := fun y hy => (hPS.out y hy.symm).1
        have hrl : ∀ y, (DR y ∨ y = gR) → y < w.heap.size := fun y hy => (hRS.out y hy.symm).1
        have hdb : ∀ y, DB y → y < w.heap.size := fun y hy => hgl.out y (.inr (.inl hy))
        have hgg : g < w.heap.size := hgl.out g (.inl rfl)
        have q4 : ∀ y, (y = gR ∨ DR y) → ¬ (DP2 y ∨ y = gP) := fun y hy hd => by
          rcases q2 y hd with e | e
          · exact h.out.pr y e hy.symm
          · have := hrl y hy.symm
            omega
        refine ⟨h.out.book.chg C03.out (fun y hy => ?_), J2.out.chg C23.out (fun y hy => ⟨fun hd => q4 y hy (.inl hd), fun e => q4 y hy (.inr e)⟩), J3.out, hgd.1, hgd.2, fun y hy => ?_, fun y hy => ?_, fun y hy hd => ?_⟩
        · rcases hy with hy | hy
          · exact h.out.pb y hy.symm
          · exact h.out.rb y hy.symm
        · rcases q2 y hy with e | e
          · exact h.out.pb y e
          · exact ⟨fun hd => by have := hdb y hd; omega, fun e2 => by omega⟩
        · rcases q3 y hy with e | e
          · exact h.out.rb y e
          · exact ⟨fun hd => by have := hdb y hd; omega, fun e2 => by omega⟩
        · rcases q3 y hd with e | e
          · exact q4 y e.symm hy
          · rcases q2 y hy with e2 | e2
            · have := hpl y e2
              omega
            · omega
      have hfo : Hid (∀ y, ((y = gP ∨ DP y) ∨ (y = gR ∨ DR y)) → Foot g gP gR DP DR DB y ∧ y < w.heap.size) := fun y hy => by
        rcases hy with hy | hy
        · exact ⟨hy.elim (fun e => .inr (.inr (.inr (.inl e)))) (fun e => .inr (.inr (.inl e))), (hPS.out y hy).1⟩
        · exact ⟨hy.elim (fun e => .inr (.inr (.inr (.inr (.inr e))))) (fun e => .inr (.inr (.inr (.inr (.inl e))))), (hRS.out y hy).1⟩
      have CF3 : Hid (Chg (Foot g gP gR DP DR DB) w w3) := C03.out.mono (fun y _ hy => (hfo.out y hy).1)
      have C13 : Hid (Chg (fun y => (y = gP ∨ DP y) ∨ (y = gR ∨ DR y)) w1 w3) := C12.out.mono (fun _ _ h => .inl h) |>.trans C23.out (fun _ _ h => .inr h)
      have O3 : Hid (OwnB w3 (.slice (some ⟨gi, 0, none⟩) (nr + 90) (nr + 90)) (x.body ++ marks)) := I1.out.chg C13.out (fun y hy hs => by
        have h1 := blk_ge I2.out y hy
        have h2 := (hfo.out y hs).2
        have h3 := hb0.out
        omega)
      have R3m : Hid (Rd w3 .u8 (some ⟨gi, 0, none⟩) (x.body ++ marks)) := O3.out.rd (by rw [← HML.out])
      have RB3 : Hid (Rd w3 .u8 Ar x.body) := hrb.out w3 CF3.out
      have hb3 := HX.out w3 ((C01.out.mono (fun _ _ h => h.elim)).trans C13.out (fun y _ hy => .inr (hfo.out y hy).2))
      obtain ⟨_, x1, x2, _, _⟩ := hb3
      have eE : (R.1 == R.1) = true := by simp
      go_wp2_with fail
      refine (untouched (some ⟨gi, 0, none⟩) Ar (nr + 90) cr (nr + 90) nr (x.body ++ marks) x.body _ HML.out.symm HNR.out (Nat.le_refl _) (by rw [HML.out, HNR.out]) (by rw [← HNR.out]; exact hnr) R3m RB3).mono ?_
      rw [decide_eq_true (show x.body ++ marks = x.body ++ marks from rfl)]
      rintro e w4 ⟨rfl, nq, rfl⟩
      have hgN : Hid (∀ y, Value.ownBlock (.slice (some ⟨gi, 0, none⟩) (nr + 90) (nr + 90)) = some y → y = gi) := fun y hy => by simpa [Value.ownBlock] using hy.symm
      have P4 : Hid (PairJ late g gP gR DP2 DR3 DB R.2 k (w3.drewN nq)) := P3.out.chg0 ((Chg.refl _ w3).drewN nq)
      have O4 : Hid (OwnB (w3.drewN nq) (.slice (some ⟨gi, 0, none⟩) (nr + 90) (nr + 90)) (x.body ++ marks)) := O3.out.drewN nq
      have hgD : Hid (∀ y, Value.ownBlock (.slice (some ⟨gi, 0, none⟩) (nr + 90) (nr + 90)) = some y → ¬ DB y) := fun y hy hd => by
        have h1 := blk_ge I2.out y hy
        have h2 := hgl.out y (.inr (.inl hd))
        have h3 := hb0.out
        omega
      go_wp2_with fail
      refine (putI2 late g 65 _ DB k _ _ _ (by decide) (by decide) P4.out.book O4 hgD hk (by rw [HML.out]; omega) 2 rfl).mono ?_
      rintro e w5 ⟨rfl, b5, c5, _⟩
      have hF5 : Hid (∀ y, Foot g gP gR DP2 DR3 DB y → Foot g gP gR DP DR DB y ∨ w1.heap.size ≤ y) := fun y hy => by
        rcases hy with hy | hy | hy | hy | hy | hy
        · exact .inl (.inl hy)
        · exact .inl (.inr (.inl hy))
        · exact (N2.out y hy).imp (fun e => .inr (.inr (.inl e))) id
        · exact .inl (.inr (.inr (.inr (.inl hy))))
        · exact (N3.out y hy).imp (fun e => .inr (.inr (.inr (.inr (.inl e))))) (fun e => Nat.le_trans hsz.out.2 e)
        · exact .inl (.inr (.inr (.inr (.inr (.inr hy)))))
      have P5 := Lib.hid (P4.out.put b5 c5 (fun y hy hd => by
        have h1 := hgN.out y hy
        have h2 := hgiS.out
        have h3 := hb0.out
        rcases hF5.out y hd with e | e
        · have := hgl.out y e
          omega
        · omega))
      have C5 : Hid (Chg (Foot g gP gR DP DR DB) w w5) := (CF3.out.drewN nq).trans c5 (fun y hy h => by
        rcases h with h | h | h
        · exact .inl h
        · exact .inr (.inl h)
        · have h1 := hgN.out y h
          have h2 := hgiS.out
          have h3 := hb0.out
          omega)
      have hs3 : Hid (w.heap.size ≤ (w3.drewN nq).heap.size) := (CF3.out.drewN nq).size
      clear b5 c5
      go_wp2_with fail
      go_ret
      refine ⟨rfl, ⟨gP, gR, DP2, DR3, _, R.2, P5.out, fun y hy => ?_⟩, C5.out⟩
      have h2 := hgiS.out
      have h3 := hb0.out
      have h4 := hsz.out
      have h5 := hs3.out
      rcases hy with hy | hy | hy
      · exact .inl (.inl hy)
      · rcases hy with hy | hy | hy
        · exact .inl (.inr (.inl hy))
        · have h1 := hgN.out y hy
          exact .inr (by omega)
        · exact .inr (by omega)
      · exact (hF5.out y (.inr (.inr hy))).imp id (fun e => by omega)
end Go.Proofs.Ytlnomadhgoblkaa.Kit
-- The journal's law.go: step of Open, step of any other kind, step of any call.
set_option linter.unusedVariables false
set_option linter.unusedSimpArgs false
namespace Go.Proofs.Ytlnomadhgoblkaa.Kit
open Go.RowKit
theorem BookI.up {late : Bool} {g : Nat} {e : TypeId} {pre : List Value} {D : Nat → Prop} {k k' : Nat} {w : World} (h : BookI late g e pre D k w) (hk : k ≤ k') : BookI late g e pre D k' w := by
  obtain ⟨⟨L, raw, was, hb, h1, h2, h3, h4, h5⟩, hs, ho⟩ := h
  refine ⟨⟨L, raw, was, hb, h1, h2, h3, fun hl => ?_, fun hl => ?_⟩, hs, ho⟩
  · obtain ⟨es, q, r⟩ := h4 hl
    exact ⟨es, Nat.le_trans q hk, r⟩
  · obtain ⟨q0, ls, q, r⟩ := h5 hl
    exact ⟨q0, ls, Nat.le_trans q hk, r⟩
theorem PairJ.up {late : Bool} {g gP gR : Nat} {DP DR DB : Nat → Prop} {ls : List SecV} {k k' : Nat} {w : World} (h : PairJ late g gP gR DP DR DB ls k w) (hk : k ≤ k') : PairJ late g gP gR DP DR DB ls k' w :=
  ⟨h.book.up hk, h.p, h.r, h.good, h.small, h.pb, h.rb, h.pr⟩
section
variable {late : Bool} {g gP gR : Nat} {DP DR DB : Nat → Prop} {ls : List SecV} {k : Nat} {w : World} {kr no : Int}
set_option maxRecDepth 20000 in
set_option maxHeartbeats 3200000 in
theorem pstepNone {K : Int} (hK : K ≠ 1 ∧ K ≠ 2 ∧ K ≠ 3 ∧ K ≠ 4 ∧ K ≠ 5 ∧ K ≠ 6) (h : Hid (PairJ late g gP gR DP DR DB ls k w)) {Ar Ab : Option Addr} {nr cr nb cb : Nat} :
    Calls Try.prog 33 #[.pointer (some ⟨g, 0, none⟩), .agg #[.int .i64 K, .int .i64 kr, .slice Ar nr cr, .int .i64 no, .slice Ab nb cb]] w (PairR late g (Foot g gP gR DP DR DB) (k + 1) w) := by
  have HX := Lib.hid (opBoxJ w K kr no Ar Ab nr cr nb cb)
  have C0 : Hid (Chg (fun _ => False) w (w.alloc (.cells #[.int .i64 K, .int .i64 kr, .slice Ar nr cr, .int .i64 no, .slice Ab nb cb] 69))) := (Chg.refl _ w).alloc _
  obtain ⟨x0, _, _, _, _⟩ := HX.out _ (Chg.refl _ _)
  have e1 : (K == 1) = false := by simp [hK.1]
  have e2 : (K == 2) = false := by simp [hK.2.1]
  have e3 : (K == 3) = false := by simp [hK.2.2.1]
  have e4 : (K == 4) = false := by simp [hK.2.2.2.1]
  have e5 : (K == 5) = false := by simp [hK.2.2.2.2.1]
  have e6 : (K == 6) = false := by simp [hK.2.2.2.2.2]
  clear hK
  go_enter Try.func33, Try.ntmps33
  go_wp2_with fail
  go_ret
  exact ⟨rfl, ⟨gP, gR, DP, DR, DB, ls, (h.out.chg0 C0.out).up (Nat.le_succ k), fun _ h => .inl h⟩, C0.out.mono (fun _ _ h => h.elim)⟩
set_option maxRecDepth 20000 in
set_option maxHeartbeats 6400000 in
theorem pstepOpen (h : Hid (PairJ late g gP gR DP DR DB ls k w)) (hk : k ≤ 4398046511104) {Ar Ab : Option Addr} {nr cr nb cb : Nat} {ot : List Int} (HNB : Hid (nb = ot.length)) (hnb : nb ≤ 140737488351232) (hbb : Hid (Byt ot)) (hrb : Hid (∀ W, Chg (Foot g gP gR DP DR DB) w W → Rd W .u8 Ab ot)) :
    Calls Try.prog 33 #[.pointer (some ⟨g, 0, none⟩), .agg #[.int .i64 6, .int .i64 kr, .slice Ar nr cr, .int .i64 no, .slice Ab nb cb]] w (PairR late g (Foot g gP gR DP DR DB) (k + 1) w) := by
  have HX := Lib.hid (opBoxJ w 6 kr no Ar Ab nr cr nb cb)
  have H0 : Hid (PairJ late g gP gR DP DR DB ls k (w.alloc (.cells #[.int .i64 6, .int .i64 kr, .slice Ar nr cr, .int .i64 no, .slice Ab nb cb] 69))) := h.out.chg0 ((Chg.refl _ w).alloc _)
  have hgl : Hid (∀ x, Foot g gP gR DP DR DB x → x < w.heap.size) := h.out.lt
  have hsm : Hid ((jnlBytes ls).length ≤ 268435456) := h.out.small
  have hgd : Hid (∀ x ∈ ls, GoodRec x) := h.out.good
  have hbB : Hid (Byt (jnlBytes ls)) := byt_mk jhead_byt (jnlFrom_byt ls 0 h.out.good)
  obtain ⟨p0, p1, _, _⟩ := H0.out.cells
  obtain ⟨x0, x1, x2, x3, x4⟩ := HX.out _ (Chg.refl _ _)
  by_cases hcut : 0 ≤ no ∧ no ≤ ((jnlBytes ls).length : Int)
  · obtain ⟨q0, q1⟩ := hcut
    obtain ⟨m, rfl⟩ : ∃ m : Nat, no = m := ⟨no.toNat, by omega⟩
    have hml : Hid (m ≤ (jnlBytes ls).length) := by rw [Hid]; omega
    clear q1
    go_enter Try.func33, Try.ntmps33
    go_wp2_with fail
    refine (rjbytes hsm hgd H0.out.r).mono ?_
    rintro e w2 ⟨A2, n2, c2, rfl, m2⟩
    have P2 := Lib.hid (H0.out.chg0 m2.chg)
    have C2 : Hid (Chg (fun _ => False) w w2) := ((Chg.refl _ w).alloc _).trans m2.chg (fun _ _ h => h)
    have L2 : Hid (n2 = (jnlBytes ls).length) := m2.len
    have O2 := m2.own
    obtain ⟨ad, rfl⟩ : ∃ ad, A2 = some ad := by
      obtain ⟨ad, e, _⟩ := m2.rd 0 (by rw [jnlBytes, List.length_append, jhead_length]; omega)
      exact ⟨ad, e⟩
    rw [m2.len] at O2
    have O2c : Hid (OwnB w2 (.slice (some ad) m c2) ((jnlBytes ls).take m)) := O2.cut hml.out
    have F2 : Hid (∀ x, Value.ownBlock (.slice (some ad) m c2) = some x → w.heap.size ≤ x) := fun x hx => by
      have := m2.new x (by simpa [Value.ownBlock] using hx)
      simp at this
      omega
    have hc2 : n2 ≤ c2 := m2.cap
    have hmn : m ≤ n2 := by rw [L2.out]; exact hml.out
    have hn2 : n2 ≤ 268435456 := by rw [L2.out]; exact hsm.out
    have q1 : (m : Int) ≤ (n2 : Int) := by omega
    have R2 : Hid (Rd w2 .u8 Ab ot) := hrb.out w2 (C2.out.mono (fun _ _ h => h.elim))
    obtain ⟨y0, y1, y2, y3, y4⟩ := HX.out w2 (m2.chg.mono (fun _ _ h => h.elim))
    have b2 : (m : Int) ≤ (c2 : Int) := by omega
    have HT : Hid (m = ((jnlBytes ls).take m).length) := by rw [Hid, List.length_take]; have := hml.out; omega
    clear m2 O2 p0 p1 x0 x1 x2 x3 x4
    go_wp2_with (at_builtin; go_must (refine wp_appnW rfl _ _ 29 5 .u8 1 rfl Try.underlying29 infoU8 (by decide) (.slice (some ad) m c2) _ rfl O2c.out Ab cb ot nb rfl HNB.out R2.out (by rw [← HT.out, ← HNB.out]; omega) ?_); intro v' w3 k1 k2 k3 k4; obtain ⟨X, hX⟩ : ∃ X, X = (jnlBytes ls).take m ++ ot := ⟨_, rfl⟩; rw [← hX] at k1; obtain ⟨A3, c3, hv3, hc3, hm3⟩ := k1.slice; obtain ⟨nx, hnx⟩ : ∃ nx, nx = X.length := ⟨_, rfl⟩; rw [← hnx] at hv3 hc3; subst hv3; have HX3 := Lib.hid hX; have HNX := Lib.hid hnx; clear hX hnx; have K1 := Lib.hid k1; have K3 := Lib.hid k3; clear k1 k2 k3 k4)
    have C3 : Hid (Chg (fun _ => False) w w3) := C2.out.fresh K3.out F2.out
    have P3 : Hid (PairJ late g gP gR DP DR DB ls k w3) := h.out.chg0 C3.out
    have hXl : Hid (nx ≤ 140738025226150) := by rw [Hid, HNX.out, HX3.out, List.length_append, ← HT.out, ← HNB.out]; omega
    have hXb : Hid (Byt X) := by rw [Hid, HX3.out]; exact byt_mk (byt_take hbB.out m) hbb.out
    have R3 : Hid (Rd w3 .u8 A3 X) := K1.out.rd (by rw [← HNX.out])
    go_wp2_with fail
    refine (popen P3 hk HNX hXl.out hc3 hm3 hXb R3).mono ?_
    rintro e w4 ⟨rfl, ⟨gP4, gR4, DP4, DR4, DB4, ls4, p4, f4⟩, c4⟩
    have E4 := Lib.hid (show PairR late g (Foot g gP gR DP DR DB) (k + 1) w (.returned (.bool true)) w4 from ⟨rfl, ⟨gP4, gR4, DP4, DR4, DB4, ls4, p4, fun x hx => (f4 x hx).imp id (fun hh => Nat.le_trans C3.out.size hh)⟩, (C3.out.mono (fun _ _ h => h.elim)).trans c4 (fun _ _ h => h)⟩)
    clear p4 f4 c4
    go_wp2_with fail
    go_ret
    exact E4.out
  · rcases Int.lt_or_le no 0 with hneg | hneg
    · clear hcut
      go_enter Try.func33, Try.ntmps33
      go_wp2_with fail
      refine (rjbytes hsm hgd H0.out.r).mono ?_
      rintro e w2 ⟨A2, n2, c2, rfl, m2⟩
      have P2 := Lib.hid (H0.out.chg0 m2.chg)
      have C2 : Hid (Chg (fun _ => False) w w2) := ((Chg.refl _ w).alloc _).trans m2.chg (fun _ _ h => h)
      have L2 : Hid (n2 = (jnlBytes ls).length) := m2.len
      have O2 := m2.own
      obtain ⟨ad, rfl⟩ : ∃ ad, A2 = some ad := by
        obtain ⟨ad, e, _⟩ := m2.rd 0 (by rw [jnlBytes, List.length_append, jhead_length]; omega)
        exact ⟨ad, e⟩
      have O2c : Hid (OwnB w2 (.slice (some ad) n2 c2) (jnlBytes ls)) := O2
      have F2 : Hid (∀ x, Value.ownBlock (.slice (some ad) n2 c2) = some x → w.heap.size ≤ x) := fun x hx => by
        have := m2.new x (by simpa [Value.ownBlock] using hx)
        simp at this
        omega
      have hc2 : n2 ≤ c2 := m2.cap
      have hn2 : n2 ≤ 268435456 := by rw [L2.out]; exact hsm.out
      have R2 : Hid (Rd w2 .u8 Ab ot) := hrb.out w2 (C2.out.mono (fun _ _ h => h.elim))
      obtain ⟨y0, y1, y2, y3, y4⟩ := HX.out w2 (m2.chg.mono (fun _ _ h => h.elim))
      have HT : Hid (n2 = (jnlBytes ls).length) := L2.out
      have qd : decide (0 ≤ no) = false := decide_eq_false (by omega)
      clear m2 O2 p0 p1 x0 x1 x2 x3 x4
      go_wp2_with (at_builtin; go_must (refine wp_appnW rfl _ _ 29 5 .u8 1 rfl Try.underlying29 infoU8 (by decide) (.slice (some ad) n2 c2) _ rfl O2c.out Ab cb ot nb rfl HNB.out R2.out (by rw [← HT.out, ← HNB.out]; omega) ?_); intro v' w3 k1 k2 k3 k4; obtain ⟨X, hX⟩ : ∃ X, X = jnlBytes ls ++ ot := ⟨_, rfl⟩; rw [← hX] at k1; obtain ⟨A3, c3, hv3, hc3, hm3⟩ := k1.slice; obtain ⟨nx, hnx⟩ : ∃ nx, nx = X.length := ⟨_, rfl⟩; rw [← hnx] at hv3 hc3; subst hv3; have HX3 := Lib.hid hX; have HNX := Lib.hid hnx; clear hX hnx; have K1 := Lib.hid k1; have K3 := Lib.hid k3; clear k1 k2 k3 k4)
      have C3 : Hid (Chg (fun _ => False) w w3) := C2.out.fresh K3.out F2.out
      have P3 : Hid (PairJ late g gP gR DP DR DB ls k w3) := h.out.chg0 C3.out
      have hXl : Hid (nx ≤ 140738025226150) := by rw [Hid, HNX.out, HX3.out, List.length_append, ← HT.out, ← HNB.out]; omega
      have hXb : Hid (Byt X) := by rw [Hid, HX3.out]; exact byt_mk hbB.out hbb.out
      have R3 : Hid (Rd w3 .u8 A3 X) := K1.out.rd (by rw [← HNX.out])
      go_wp2_with fail
      refine (popen P3 hk HNX hXl.out hc3 hm3 hXb R3).mono ?_
      rintro e w4 ⟨rfl, ⟨gP4, gR4, DP4, DR4, DB4, ls4, p4, f4⟩, c4⟩
      have E4 := Lib.hid (show PairR late g (Foot g gP gR DP DR DB) (k + 1) w (.returned (.bool true)) w4 from ⟨rfl, ⟨gP4, gR4, DP4, DR4, DB4, ls4, p4, fun x hx => (f4 x hx).imp id (fun hh => Nat.le_trans C3.out.size hh)⟩, (C3.out.mono (fun _ _ h => h.elim)).trans c4 (fun _ _ h => h)⟩)
      clear p4 f4 c4
      go_wp2_with fail
      go_ret
      exact E4.out
    · have HL : Hid (((jnlBytes ls).length : Int) < no) := by rw [Hid]; omega
      clear hcut
      go_enter Try.func33, Try.ntmps33
      go_wp2_with fail
      refine (rjbytes hsm hgd H0.out.r).mono ?_
      rintro e w2 ⟨A2, n2, c2, rfl, m2⟩
      have P2 := Lib.hid (H0.out.chg0 m2.chg)
      have C2 : Hid (Chg (fun _ => False) w w2) := ((Chg.refl _ w).alloc _).trans m2.chg (fun _ _ h => h)
      have L2 : Hid (n2 = (jnlBytes ls).length) := m2.len
      have O2 := m2.own
      obtain ⟨ad, rfl⟩ : ∃ ad, A2 = some ad := by
        obtain ⟨ad, e, _⟩ := m2.rd 0 (by rw [jnlBytes, List.length_append, jhead_length]; omega)
        exact ⟨ad, e⟩
      have O2c : Hid (OwnB w2 (.slice (some ad) n2 c2) (jnlBytes ls)) := O2
      have F2 : Hid (∀ x, Value.ownBlock (.slice (some ad) n2 c2) = some x → w.heap.size ≤ x) := fun x hx => by
        have := m2.new x (by simpa [Value.ownBlock] using hx)
        simp at this
        omega
      have hc2 : n2 ≤ c2 := m2.cap
      have hn2 : n2 ≤ 268435456 := by rw [L2.out]; exact hsm.out
      have R2 : Hid (Rd w2 .u8 Ab ot) := hrb.out w2 (C2.out.mono (fun _ _ h => h.elim))
      obtain ⟨y0, y1, y2, y3, y4⟩ := HX.out w2 (m2.chg.mono (fun _ _ h => h.elim))
      have HT : Hid (n2 = (jnlBytes ls).length) := L2.out
      have q1 : (n2 : Int) < no := by have := HL.out; rw [← L2.out] at this; exact this
      clear m2 O2 p0 p1 x0 x1 x2 x3 x4
      go_wp2_with (at_builtin; go_must (refine wp_appnW rfl _ _ 29 5 .u8 1 rfl Try.underlying29 infoU8 (by decide) (.slice (some ad) n2 c2) _ rfl O2c.out Ab cb ot nb rfl HNB.out R2.out (by rw [← HT.out, ← HNB.out]; omega) ?_); intro v' w3 k1 k2 k3 k4; obtain ⟨X, hX⟩ : ∃ X, X = jnlBytes ls ++ ot := ⟨_, rfl⟩; rw [← hX] at k1; obtain ⟨A3, c3, hv3, hc3, hm3⟩ := k1.slice; obtain ⟨nx, hnx⟩ : ∃ nx, nx = X.length := ⟨_, rfl⟩; rw [← hnx] at hv3 hc3; subst hv3; have HX3 := Lib.hid hX; have HNX := Lib.hid hnx; clear hX hnx; have K1 := Lib.hid k1; have K3 := Lib.hid k3; clear k1 k2 k3 k4)
      have C3 : Hid (Chg (fun _ => False) w w3) := C2.out.fresh K3.out F2.out
      have P3 : Hid (PairJ late g gP gR DP DR DB ls k w3) := h.out.chg0 C3.out
      have hXl : Hid (nx ≤ 140738025226150) := by rw [Hid, HNX.out, HX3.out, List.length_append, ← HT.out, ← HNB.out]; omega
      have hXb : Hid (Byt X) := by rw [Hid, HX3.out]; exact byt_mk hbB.out hbb.out
      have R3 : Hid (Rd w3 .u8 A3 X) := K1.out.rd (by rw [← HNX.out])
      go_wp2_with fail
      refine (popen P3 hk HNX hXl.out hc3 hm3 hXb R3).mono ?_
      rintro e w4 ⟨rfl, ⟨gP4, gR4, DP4, DR4, DB4, ls4, p4, f4⟩, c4⟩
      have E4 := Lib.hid (show PairR late g (Foot g gP gR DP DR DB) (k + 1) w (.returned (.bool true)) w4 from ⟨rfl, ⟨gP4, gR4, DP4, DR4, DB4, ls4, p4, fun x hx => (f4 x hx).imp id (fun hh => Nat.le_trans C3.out.size hh)⟩, (C3.out.mono (fun _ _ h => h.elim)).trans c4 (fun _ _ h => h)⟩)
      clear p4 f4 c4
      go_wp2_with fail
      go_ret
      exact E4.out
/-- a call on a Pair -/
structure OpJ where
  kind : Int
  r : SecV
  n : Int
  b : List Int
/-- it lies in memory so (its cells in order) -/
structure OpCells (w : World) (o : OpJ) (Ar : Option Addr) (nr cr : Nat) (Ab : Option Addr) (nb cb : Nat) : Prop where
  lr : nr = o.r.body.length
  lb : nb = o.b.length
  cr : nr ≤ cr
  cb : nb ≤ cb
  rr : Rd w .u8 Ar o.r.body
  rb : Rd w .u8 Ab o.b
  br : Byt o.r.body
  bb : Byt o.b
  mr : nr ≤ 140737488351232
  mb : nb ≤ 140737488351232
  id0 : -9223372036854775808 ≤ o.r.id
  id1 : o.r.id ≤ 9223372036854775807
theorem OpCells.chg {S : Nat → Prop} {w w1 : World} {o : OpJ} {Ar Ab : Option Addr} {nr cr nb cb N : Nat} (h : OpCells w o Ar nr cr Ab nb cb) (c : Chg S w w1) (hA : ∀ ad, Ar = some ad → 0 < o.r.body.length → ad.block < N) (hB : ∀ ad, Ab = some ad → 0 < o.b.length → ad.block < N) (hS : ∀ x, S x → N ≤ x) : OpCells w1 o Ar nr cr Ab nb cb :=
  ⟨h.lr, h.lb, h.cr, h.cb, h.rr.chg c (fun ad e hl hs => by have := hA ad e hl; have := hS _ hs; omega), h.rb.chg c (fun ad e hl hs => by have := hB ad e hl; have := hS _ hs; omega), h.br, h.bb, h.mr, h.mb, h.id0, h.id1⟩
/-- any call -/
theorem pstep (o : OpJ) {Ar Ab : Option Addr} {nr cr nb cb : Nat} (h : Hid (PairJ late g gP gR DP DR DB ls k w)) (hk : k ≤ 4398046511104) (ho : OpCells w o Ar nr cr Ab nb cb) {N : Nat} (hN : ∀ x, Foot g gP gR DP DR DB x → N ≤ x) (hA : ∀ ad, Ar = some ad → 0 < o.r.body.length → ad.block < N) (hB : ∀ ad, Ab = some ad → 0 < o.b.length → ad.block < N) :
    Calls Try.prog 33 #[.pointer (some ⟨g, 0, none⟩), .agg #[.int .i64 o.kind, .int .i64 o.r.id, .slice Ar nr cr, .int .i64 o.n, .slice Ab nb cb]] w (PairR late g (Foot g gP gR DP DR DB) (k + 1) w) := by
  have hRA : Hid (∀ W, Chg (Foot g gP gR DP DR DB) w W → Rd W .u8 Ar o.r.body) := fun W c => (ho.chg c hA hB hN).rr
  have hRB : Hid (∀ W, Chg (Foot g gP gR DP DR DB) w W → Rd W .u8 Ab o.b) := fun W c => (ho.chg c hA hB hN).rb
  have rq : ∀ (e : Ending) (w' : World), RQ late g gP gR DP DR DB ls k w e w' → PairR late g (Foot g gP gR DP DR DB) (k + 1) w e w' := by
    rintro e w' ⟨rfl, DB', k', hk', hp, hd, hc⟩
    refine ⟨rfl, ⟨gP, gR, DP, DR, DB', ls, hp.up hk', fun x hx => ?_⟩, hc.mono (fun x _ hx => ?_)⟩
    · rcases hx with hx | hx | hx
      · exact .inl (.inl hx)
      · exact (hd x hx).imp (fun e => .inr (.inl e)) id
      · exact .inl (.inr (.inr hx))
    · exact hx.elim .inl (fun e => .inr (.inl e))
  obtain ⟨K, x, no, ot⟩ := o
  by_cases h1 : K = 1
  · subst h1
    exact pstepAppend h hk (Lib.hid ho.lr) ho.mr ho.cr (Lib.hid ho.br) hRA ho.id0 ho.id1
  by_cases h2 : K = 2
  · subst h2
    exact (pstepCount h).mono rq
  by_cases h3 : K = 3
  · subst h3
    exact (pstepRec h hk).mono rq
  by_cases h4 : K = 4
  · subst h4
    exact (pstepBytes h hk).mono rq
  by_cases h5 : K = 5
  · subst h5
    exact (pstepEnds h).mono rq
  by_cases h6 : K = 6
  · subst h6
    exact pstepOpen h hk (Lib.hid ho.lb) ho.mb (Lib.hid ho.bb) hRB
  exact pstepNone ⟨h1, h2, h3, h4, h5, h6⟩ h
end
end Go.Proofs.Ytlnomadhgoblkaa.Kit
-- (general part) Opening arguments: slices of structs whose fields may have several cells; calls on a journal.
set_option linter.unusedVariables false
set_option linter.unusedSimpArgs false
namespace Go.Proofs.Ytlnomadhgoblkaa.Kit
open Go.ChangeShapes Go.RowKit Go.Deep
/-- the cells of each element, which read as its type says, and are light -/
theorem open_elemsL {H : Type} {enc : TypeId × Value → H} {P : Program} {W : World} {base : Nat} {spare : Nat → Bool} {held : Bool} {t e : TypeId} {C : Nat} {a : Option Addr} {len cap : Nat} {d : DataW H} {ps : List MemPlace}
    (hu : P.underlying t = some (.slice e)) (hC : P.cellsOf e = C) (h : DataW.Trod enc P W base spare held t (.slice a len cap) d ps) (hL : Light P t d) :
    len ≤ cap ∧ cap ≤ maxLen ∧ ∀ i, i < len → ∃ ad, a = some ad ∧ base ≤ ad.block ∧ ∃ (cs : List Value) (n : Nat) (y : DataW H × List MemPlace), cs.length = C ∧ (∀ j, j < C → W.cell? (ad.add (i * C + j)) = cs[j]?) ∧ DataW.trod enc P W base spare held n e cs = some y ∧ Light P e y.1 := by
  obtain ⟨fuel, hf⟩ := h
  rcases open_slice hu hf with ⟨hcs, _⟩ | ⟨x, l, c, m, n, D, Pl, hcs, hb, hl, hm, hmm, hx, hi⟩
  · simp [Value.cells] at hcs
    obtain ⟨rfl, rfl, rfl⟩ := hcs
    exact ⟨Nat.le_refl _, Nat.zero_le _, fun i hi => absurd hi (by omega)⟩
  · simp [Value.cells] at hcs
    obtain ⟨rfl, rfl, rfl⟩ := hcs
    have hd := (Prod.mk.inj hx).1
    rw [hd] at hL
    have hE := (light_elem hu hL).2
    refine ⟨hl, hm, fun i hlt => ⟨x, rfl, hb, ?_⟩⟩
    have hlm : len ≤ m := by
      rw [hmm]
      split
      · exact hl
      · exact Nat.le_refl _
    obtain ⟨cs, hc, ht⟩ := hi i (by omega)
    rw [hC] at hc
    obtain ⟨_, hcl, hat⟩ := World.cells?_some hc
    refine ⟨cs, n, _, hcl, fun j hj => ?_, ht, hE (D i) (List.mem_map.2 ⟨i, List.mem_range.2 hlt, rfl⟩)⟩
    rw [← Go.Deep.add_add]
    exact hat j hj
/-- a field of a struct's cells -/
theorem trod_fieldL {H : Type} {enc : TypeId × Value → H} {P : Program} {W : World} {base : Nat} {spare : Nat → Bool} {held : Bool} {e : TypeId} {fs : Array Field} {n j : Nat} {f : Field} {cs : List Value} {y : DataW H × List MemPlace}
    (he : P.underlying e = some (.struct fs)) (h : DataW.trod enc P W base spare held n e cs = some y) (hL : Light P e y.1) (hj : fs[j]? = some f) :
    ∃ n' y', DataW.trod enc P W base spare held n' f.type ((cs.drop f.offset).take (P.cellsOf f.type)) = some y' ∧ Light P f.type y'.1 := by
  obtain ⟨ys, n', _, hag, _, hyl, hfd⟩ := DataW.trod_struct he h
  have hjl : j < fs.size := (Array.getElem?_eq_some_iff.1 hj).1
  have h1 := hfd j f hj
  rw [List.getElem?_eq_getElem (by omega : j < ys.length)] at h1
  refine ⟨n', ys[j]'(by omega), h1, ?_⟩
  rw [hag] at hL
  refine light_field he hL hj ?_
  rw [List.getElem?_map, List.getElem?_eq_getElem (by omega : j < ys.length)]
  rfl
/-- a list of calls -/
def RdOpsJ (w : World) (C : Option Addr) (l : List OpJ) : Prop := ∀ i (h : i < l.length), ∃ ad Ar nr cr Ab nb cb, C = some ad ∧ w.cell? (ad.add (i * 5)) = some (.int .i64 l[i].kind) ∧ w.cell? ⟨(ad.add (i * 5)).block, (ad.add (i * 5)).off + 1, none⟩ = some (.int .i64 l[i].r.id) ∧
  w.cell? ⟨(ad.add (i * 5)).block, (ad.add (i * 5)).off + 2, none⟩ = some (.slice Ar nr cr) ∧ w.cell? ⟨(ad.add (i * 5)).block, (ad.add (i * 5)).off + 3, none⟩ = some (.int .i64 l[i].n) ∧ w.cell? ⟨(ad.add (i * 5)).block, (ad.add (i * 5)).off + 4, none⟩ = some (.slice Ab nb cb) ∧
  OpCells w l[i] Ar nr cr Ab nb cb
theorem RdOpsJ.below {w w' : World} {C : Option Addr} {l : List OpJ} (h : RdOpsJ w C l) (hb : Below w.heap.size w w') : RdOpsJ w' C l := fun i hi => by
  obtain ⟨ad, Ar, nr, cr, Ab, nb, cb, h0, h1, h2, h3, h4, h5, o⟩ := h i hi
  have c : ∀ {p : Addr} {v : Value}, w.cell? p = some v → w'.cell? p = some v := fun hc => (hb.cell (World.block_lt_of_cell? w _ hc)).trans hc
  exact ⟨ad, Ar, nr, cr, Ab, nb, cb, h0, c h1, c h2, c h3, c h4, c h5, o.lr, o.lb, o.cr, o.cb, o.rr.below hb, o.rb.below hb, o.br, o.bb, o.mr, o.mb, o.id0, o.id1⟩
theorem open_opsJ {H : Type} {enc : TypeId × Value → H} {W : World} {base : Nat} {spare : Nat → Bool} {held : Bool} {a : Option Addr} {len cap : Nat} {d : DataW H} {ps : List MemPlace}
    (h : DataW.Trod enc Try.prog W base spare held 55 (.slice a len cap) d ps) (hL : Light Try.prog 55 d) : len * 72 ≤ 140737488351232 ∧ len ≤ cap ∧ cap ≤ maxLen ∧ ∃ l : List OpJ, len = l.length ∧ RdOpsJ W a l := by
  have hlen := light_len (B := 72) Try.underlying55 (by kernel_rfl) h hL
  obtain ⟨h0, h1, hR⟩ := open_elemsL (C := 5) Try.underlying55 (by kernel_rfl) h hL
  have key : ∀ i, i < len → ∃ o : OpJ, ∃ ad Ar nr cr Ab nb cb, a = some ad ∧ W.cell? (ad.add (i * 5)) = some (.int .i64 o.kind) ∧ W.cell? ⟨(ad.add (i * 5)).block, (ad.add (i * 5)).off + 1, none⟩ = some (.int .i64 o.r.id) ∧
      W.cell? ⟨(ad.add (i * 5)).block, (ad.add (i * 5)).off + 2, none⟩ = some (.slice Ar nr cr) ∧ W.cell? ⟨(ad.add (i * 5)).block, (ad.add (i * 5)).off + 3, none⟩ = some (.int .i64 o.n) ∧ W.cell? ⟨(ad.add (i * 5)).block, (ad.add (i * 5)).off + 4, none⟩ = some (.slice Ab nb cb) ∧ OpCells W o Ar nr cr Ab nb cb := by
    intro i hi
    obtain ⟨ad, e, _, cs, n, y, hcl, hc, ht, hl⟩ := hR i hi
    obtain ⟨c0, c1, c2, c3, c4, rfl⟩ : ∃ c0 c1 c2 c3 c4, cs = [c0, c1, c2, c3, c4] := by
      rcases cs with _ | ⟨c0, _ | ⟨c1, _ | ⟨c2, _ | ⟨c3, _ | ⟨c4, _ | ⟨c5, r⟩⟩⟩⟩⟩⟩ <;> simp at hcl
      exact ⟨c0, c1, c2, c3, c4, rfl⟩
    obtain ⟨n0, y0, t0, _⟩ := trod_fieldL (j := 0) Try.underlying69 ht hl rfl
    obtain ⟨n1, y1, t1, l1⟩ := trod_fieldL (j := 1) Try.underlying69 ht hl rfl
    obtain ⟨n2, y2, t2, _⟩ := trod_fieldL (j := 2) Try.underlying69 ht hl rfl
    obtain ⟨n3, y3, t3, l3⟩ := trod_fieldL (j := 3) Try.underlying69 ht hl rfl
    rw [show Try.prog.cellsOf _ = 1 from by kernel_rfl] at t0 t2 t3
    rw [show Try.prog.cellsOf _ = 2 from by kernel_rfl] at t1
    replace t0 : DataW.trod enc Try.prog W base spare held n0 3 [c0] = some y0 := t0
    replace t1 : DataW.trod enc Try.prog W base spare held n1 31 [c1, c2] = some y1 := t1
    replace t2 : DataW.trod enc Try.prog W base spare held n2 3 [c3] = some y2 := t2
    replace t3 : DataW.trod enc Try.prog W base spare held n3 29 [c4] = some y3 := t3
    obtain ⟨n4, y4, t4, _⟩ := trod_fieldL (j := 0) Try.underlying31 t1 l1 rfl
    obtain ⟨n5, y5, t5, l5⟩ := trod_fieldL (j := 1) Try.underlying31 t1 l1 rfl
    rw [show Try.prog.cellsOf _ = 1 from by kernel_rfl] at t4 t5
    replace t4 : DataW.trod enc Try.prog W base spare held n4 3 [c1] = some y4 := t4
    replace t5 : DataW.trod enc Try.prog W base spare held n5 29 [c2] = some y5 := t5
    have i0 := is_int Try.underlying3 t0
    have i1 := is_int Try.underlying3 t4
    have i3 := is_int Try.underlying3 t2
    obtain ⟨b, bl, bc, hv, hle, hmx, ht2⟩ := is_sliceL Try.underlying29 t5
    obtain ⟨b2, bl2, bc2, hv2, hle2, hmx2, ht3⟩ := is_sliceL Try.underlying29 t3
    obtain ⟨body, hl2, hr, hby, _⟩ := open_bytes Try.underlying29 Try.underlying5 (by kernel_rfl) ht2
    obtain ⟨body2, hl3, hr2, hby2, _⟩ := open_bytes Try.underlying29 Try.underlying5 (by kernel_rfl) ht3
    have hbk := light_len (B := 1) Try.underlying29 (by kernel_rfl) ht2 l5
    have hbk2 := light_len (B := 1) Try.underlying29 (by kernel_rfl) ht3 l3
    have q0 := hc 0 (by omega)
    have q1 := hc 1 (by omega)
    have q2 := hc 2 (by omega)
    have q3 := hc 3 (by omega)
    have q4 := hc 4 (by omega)
    simp only [List.getElem?_cons_zero, List.getElem?_cons_succ] at q0 q1 q2 q3 q4
    have hw := wf_i64 i1.2
    refine ⟨⟨numIn c0, ⟨numIn c1, body⟩, numIn c3, body2⟩, ad, b, bl, bc, b2, bl2, bc2, e, ?_, ?_, ?_, ?_, ?_, hl2, hl3, hle, hle2, hr, hr2, hby, hby2, by omega, by omega, hw.1, hw.2⟩
    · rw [← i0.1]
      simpa using q0
    · rw [show (⟨(ad.add (i * 5)).block, (ad.add (i * 5)).off + 1, none⟩ : Addr) = (ad.add (i * 5)).add 1 from rfl, Go.Deep.add_add, ← i1.1]
      exact q1
    · rw [show (⟨(ad.add (i * 5)).block, (ad.add (i * 5)).off + 2, none⟩ : Addr) = (ad.add (i * 5)).add 2 from rfl, Go.Deep.add_add, ← hv]
      exact q2
    · rw [show (⟨(ad.add (i * 5)).block, (ad.add (i * 5)).off + 3, none⟩ : Addr) = (ad.add (i * 5)).add 3 from rfl, Go.Deep.add_add, ← i3.1]
      exact q3
    · rw [show (⟨(ad.add (i * 5)).block, (ad.add (i * 5)).off + 4, none⟩ : Addr) = (ad.add (i * 5)).add 4 from rfl, Go.Deep.add_add, ← hv2]
      exact q4
  refine ⟨hlen, h0, h1, (List.range len).map fun i => if hi : i < len then Classical.choose (key i hi) else ⟨0, ⟨0, []⟩, 0, []⟩, by simp, fun i hi => ?_⟩
  have hi' : i < len := by simpa using hi
  simp only [List.getElem_map, List.getElem_range, dif_pos hi']
  exact Classical.choose_spec (key i hi')
end Go.Proofs.Ytlnomadhgoblkaa.Kit
-- Opening arguments: slices of bools.
set_option linter.unusedVariables false
set_option linter.unusedSimpArgs false
namespace Go.Proofs.Ytlnomadhgoblkaa.Kit
open Go.ChangeShapes Go.RowKit Go.Deep
def boolIn : Value → Bool
  | .bool b => b
  | _ => false
/-- a slice of bools, read -/
def RdBools (w : World) (A : Option Addr) (l : List Bool) : Prop := ∀ i (h : i < l.length), ∃ a, A = some a ∧ w.cell? (a.add i) = some (.bool l[i])
theorem RdBools.below {w w' : World} {A : Option Addr} {l : List Bool} (h : RdBools w A l) (hb : Below w.heap.size w w') : RdBools w' A l := fun i hi => by
  obtain ⟨a, h0, h1⟩ := h i hi
  exact ⟨a, h0, (hb.cell (World.block_lt_of_cell? w _ h1)).trans h1⟩
theorem open_bools {H : Type} {enc : TypeId × Value → H} {P : Program} {W : World} {base : Nat} {spare : Nat → Bool} {held : Bool} {t e : TypeId} {a : Option Addr} {len cap : Nat} {d : DataW H} {ps : List MemPlace}
    (hu : P.underlying t = some (.slice e)) (he : P.underlying e = some .bool) (hc : P.cellsOf e = 1) (h : DataW.Trod enc P W base spare held t (.slice a len cap) d ps) : len ≤ cap ∧ cap ≤ maxLen ∧ ∃ l : List Bool, len = l.length ∧ RdBools W a l := by
  obtain ⟨fuel, hf⟩ := h
  rcases open_slice1 hu hc hf with ⟨hcs, _⟩ | ⟨x, l, c, m, n, V, D, Pl, hcs, hb, hl, hm, hmm, _, hi⟩
  · simp [Value.cells] at hcs
    obtain ⟨rfl, rfl, rfl⟩ := hcs
    exact ⟨Nat.le_refl _, Nat.zero_le _, [], rfl, fun i hi => absurd hi (by simp)⟩
  · simp [Value.cells] at hcs
    obtain ⟨rfl, rfl, rfl⟩ := hcs
    have hlm : len ≤ m := by
      rw [hmm]
      split
      · exact hl
      · exact Nat.le_refl _
    refine ⟨hl, hm, (List.range len).map fun i => boolIn (V i), by simp, fun i hi2 => ?_⟩
    have hi3 : i < len := by simpa using hi2
    obtain ⟨h1, h2⟩ := hi i (by omega)
    obtain ⟨b, hb, _⟩ := DataW.trod_bool he h2
    simp at hb
    refine ⟨x, rfl, ?_⟩
    rw [h1, hb]
    simp [boolIn, hb]
end Go.Proofs.Ytlnomadhgoblkaa.Kit
-- The journal's law.go: JournalPair.
set_option linter.unusedVariables false
set_option linter.unusedSimpArgs false
namespace Go.Proofs.Ytlnomadhgoblkaa.Kit
open Go.RowKit
/-- two pairs that know nothing of each other -/
structure TwoJ (gp gq k : Nat) (w0 w : World) : Prop where
  ex : ∃ gP gR DP DR DB ls gQ gS DQ DS DC ms, PairJ false gp gP gR DP DR DB ls k w ∧ PairJ false gq gQ gS DQ DS DC ms k w ∧ (∀ x, Foot gp gP gR DP DR DB x → ¬ Foot gq gQ gS DQ DS DC x) ∧ (∀ x, Foot gp gP gR DP DR DB x → w0.heap.size ≤ x) ∧ ∀ x, Foot gq gQ gS DQ DS DC x → w0.heap.size ≤ x
  chg : Chg (fun _ => False) w0 w
theorem TwoJ.swap {gp gq k : Nat} {w0 w : World} (h : TwoJ gp gq k w0 w) : TwoJ gq gp k w0 w := by
  obtain ⟨⟨gP, gR, DP, DR, DB, ls, gQ, gS, DQ, DS, DC, ms, h1, h2, h3, h4, h5⟩, c⟩ := h
  exact ⟨⟨gQ, gS, DQ, DS, DC, ms, gP, gR, DP, DR, DB, ls, h2, h1, fun x hx hy => h3 x hy hx, h5, h4⟩, c⟩
theorem TwoJ.step {gp gq k : Nat} {w0 w : World} (h : TwoJ gp gq k w0 w) (hk : k ≤ 4398046511104) (o : OpJ) {Ar Ab : Option Addr} {nr cr nb cb : Nat} (ho : Hid (OpCells w0 o Ar nr cr Ab nb cb)) :
    Calls Try.prog 33 #[.pointer (some ⟨gp, 0, none⟩), .agg #[.int .i64 o.kind, .int .i64 o.r.id, .slice Ar nr cr, .int .i64 o.n, .slice Ab nb cb]] w (fun e w' => e = .returned (.bool true) ∧ TwoJ gp gq (k + 1) w0 w') := by
  obtain ⟨⟨gP, gR, DP, DR, DB, ls, gQ, gS, DQ, DS, DC, ms, h1, h2, h3, h4, h5⟩, c⟩ := h
  have hA : ∀ ad, Ar = some ad → 0 < o.r.body.length → ad.block < w0.heap.size := fun ad e hl => ho.out.rr.lt ad e hl
  have hB : ∀ ad, Ab = some ad → 0 < o.b.length → ad.block < w0.heap.size := fun ad e hl => ho.out.rb.lt ad e hl
  refine (pstep o h1 hk (ho.out.chg c hA hB (fun _ h => h.elim)) h4 hA hB).mono ?_
  rintro e w1 ⟨rfl, ⟨gP1, gR1, DP1, DR1, DB1, ls1, p1, f1⟩, c1⟩
  refine ⟨rfl, ⟨gP1, gR1, DP1, DR1, DB1, ls1, gQ, gS, DQ, DS, DC, ms, p1, (h2.chg c1 h3).up (Nat.le_succ k), fun x hx hy => ?_, fun x hx => ?_, h5⟩, c.trans c1 (fun x hx h => ?_)⟩
  · rcases f1 x hx with hh | hh
    · exact h3 x hh hy
    · have := h2.lt x hy
      omega
  · rcases f1 x hx with hh | hh
    · exact h4 x hh
    · exact Nat.le_trans c.size hh
  · have := h4 x h
    omega
set_option maxRecDepth 20000 in
set_option maxHeartbeats 3200000 in
theorem journalPairWalk (w : World) (C : Option Addr) (cc : Nat) (os : List OpJ) (hC : Hid (RdOpsJ w C os)) (hos : os.length * 72 ≤ 140737488351232) (hcc : os.length ≤ cc)
    (E : Option Addr) (ce : Nat) (ts : List Bool) (hE : Hid (RdBools w E ts)) (hts : ts.length ≤ maxLen) (hce : ts.length ≤ ce) :
    Calls Try.prog 9 #[.slice C os.length cc, .slice E ts.length ce] w fun e w' => e = .returned (.bool true) ∧ Below w.heap.size w w' := by
  obtain ⟨no, hno⟩ : ∃ n, n = os.length := ⟨_, rfl⟩
  obtain ⟨nt, hnt⟩ : ∃ n, n = ts.length := ⟨_, rfl⟩
  have HNO := Lib.hid hno
  have HNT := Lib.hid hnt
  rw [← hno, ← hnt]
  rw [← hno] at hos hcc
  rw [← hnt] at hts hce
  have hos2 : no ≤ 1954687338211 := by omega
  clear hno hos hnt
  go_enter Try.func9, Try.ntmps9
  go_wp2_with fail
  refine (jnew _).mono ?_
  rintro e w1 ⟨gP, DP, rfl, j1, n1, n1', c1⟩
  have J1 := Lib.hid j1
  have N1 : Hid ((∀ x, DP x → w.heap.size ≤ x) ∧ w.heap.size ≤ gP) := ⟨n1, n1'⟩
  have C1 := Lib.hid c1
  clear j1 n1 n1' c1
  go_wp2_with fail
  refine (rnew _).mono ?_
  rintro e w2 ⟨gR, rfl, r2, n2, c2⟩
  have HP := Lib.hid (pairJNew (J1.out.chg0 c2) r2 (fun x hx e => by
    rcases hx with hx | hx
    · have := J1.out.size x hx
      omega
    · have := J1.out.lt
      omega) false)
  have C2 : Hid (Chg (fun _ => False) w w2) := C1.out.trans c2 (fun _ _ h => h)
  have N2 : Hid (w.heap.size ≤ gR) := Nat.le_trans C1.out.size n2
  clear r2 n2 c2
  obtain ⟨w3, hw3⟩ : ∃ w3, w3 = w2.alloc (.cells #[.pointer (some ⟨gP, 0, none⟩), .pointer (some ⟨gR, 0, none⟩), .slice none 0 0, .bool false, .slice none 0 0, .slice none 0 0] 65) := ⟨_, rfl⟩
  obtain ⟨gp, hgp⟩ : ∃ gp, gp = w2.heap.size := ⟨_, rfl⟩
  rw [← hw3, ← hgp] at HP
  have C3 : Hid (Chg (fun _ => False) w w3) := by rw [hw3]; exact C2.out.alloc _
  have hgg : Hid (w.heap.size ≤ gp) := by rw [hgp]; exact C2.out.size
  have F0 : Hid (∀ x, Foot gp gP gR DP (fun _ => False) (fun _ => False) x → w.heap.size ≤ x) := fun x hx => by
    rcases hx with hx | hx | hx | hx | hx | hx
    · rw [hx]; exact hgg.out
    · exact hx.elim
    · exact N1.out.1 x hx
    · rw [hx]; exact N1.out.2
    · exact hx.elim
    · rw [hx]; exact N2.out
  clear J1 N1 C1 C2 N2
  go_wp2_with fail
  rw [← hw3, ← hgp]
  clear hw3 hgp
  refine (jnew _).mono ?_
  rintro e w4 ⟨gQ, DQ, rfl, j1, n1, n1', c1⟩
  have J1 := Lib.hid j1
  have N1 : Hid ((∀ x, DQ x → w3.heap.size ≤ x) ∧ w3.heap.size ≤ gQ) := ⟨n1, n1'⟩
  have C1 := Lib.hid c1
  clear j1 n1 n1' c1
  go_wp2_with fail
  refine (rnew _).mono ?_
  rintro e w5 ⟨gS, rfl, r2, n2, c2⟩
  have HQ := Lib.hid (pairJNew (J1.out.chg0 c2) r2 (fun x hx e => by
    rcases hx with hx | hx
    · have := J1.out.size x hx
      omega
    · have := J1.out.lt
      omega) false)
  have C5 : Hid (Chg (fun _ => False) w3 w5) := C1.out.trans c2 (fun _ _ h => h)
  have N2 : Hid (w3.heap.size ≤ gS) := Nat.le_trans C1.out.size n2
  clear r2 n2 c2
  obtain ⟨w6, hw6⟩ : ∃ w6, w6 = w5.alloc (.cells #[.pointer (some ⟨gQ, 0, none⟩), .pointer (some ⟨gS, 0, none⟩), .slice none 0 0, .bool false, .slice none 0 0, .slice none 0 0] 65) := ⟨_, rfl⟩
  obtain ⟨gq, hgq⟩ : ∃ gq, gq = w5.heap.size := ⟨_, rfl⟩
  rw [← hw6, ← hgq] at HQ
  have C6 : Hid (Chg (fun _ => False) w3 w6) := by rw [hw6]; exact C5.out.alloc _
  have hgg2 : Hid (w3.heap.size ≤ gq) := by rw [hgq]; exact C5.out.size
  have F1 : Hid (∀ x, Foot gq gQ gS DQ (fun _ => False) (fun _ => False) x → w3.heap.size ≤ x) := fun x hx => by
    rcases hx with hx | hx | hx | hx | hx | hx
    · rw [hx]; exact hgg2.out
    · exact hx.elim
    · exact N1.out.1 x hx
    · rw [hx]; exact N1.out.2
    · exact hx.elim
    · rw [hx]; exact N2.out
  have HP6 : Hid (PairJ false gp gP gR DP (fun _ => False) (fun _ => False) [] 0 w6) := HP.out.chg0 C6.out
  have TW : Hid (TwoJ gp gq 0 w w6) := ⟨⟨gP, gR, DP, _, _, [], gQ, gS, DQ, _, _, [], HP6.out, HQ.out, fun x hx hy => by
    have h1 := HP.out.lt x hx
    have h2 := F1.out x hy
    omega, F0.out, fun x hx => Nat.le_trans C3.out.size (F1.out x hx)⟩, C3.out.trans C6.out (fun _ _ h => h)⟩
  have p0 := HP6.out.cells.1
  have q0 := HQ.out.cells.1
  clear J1 N1 C1 C5 N2 HP HQ HP6 F0 F1 hgg hgg2 C3 C6
  go_upto_region 3 with fail
  rw [← hw6, ← hgq]
  clear hw6 hgq
  go_wp2_with fail
  go_loopw [7, 8] (fun i ok wr => ∃ j : Nat, j ≤ no ∧ i = .int .i64 j ∧ Hid (TwoJ gp gq j w wr)) (fun i _ _ => no - (intOf i).toNat)
  case atStart => exact ⟨0, Nat.zero_le _, rfl, TW.out⟩
  case round =>
    obtain ⟨j, hj, rfl, T⟩ := hrel
    by_cases hlt : j < no
    · have hjl : j < os.length := by rw [← HNO.out]; exact hlt
      obtain ⟨ad, Ar, nr, cr, Ab, nb, cb, rfl, g0, g1, g2, g3, g4, oc0⟩ := hC.out j hjl
      obtain ⟨o, hoo⟩ : ∃ o, o = os[j] := ⟨_, rfl⟩
      rw [← hoo] at g0 g1 g3 oc0
      have oc := Lib.hid oc0
      replace g0 := T.out.chg.cell (fun h => h) g0
      replace g1 := T.out.chg.cell (fun h => h) g1
      replace g2 := T.out.chg.cell (fun h => h) g2
      replace g3 := T.out.chg.cell (fun h => h) g3
      replace g4 := T.out.chg.cell (fun h => h) g4
      clear oc0 hoo hjl
      have b1 : (0 : Int) ≤ (j : Int) := by omega
      have b2 : (j : Int) < (no : Int) := by omega
      by_cases ht : j < nt
      · have htl : j < ts.length := by rw [← HNT.out]; exact ht
        obtain ⟨ae, rfl, t0⟩ := hE.out j htl
        replace t0 := T.out.chg.cell (fun h => h) t0
        have b3 : (j : Int) < (nt : Int) := by omega
        cases hb : ts[j]
        · rw [hb] at t0
          clear hb htl
          go_wp2_with fail
          refine (T.out.step (by omega) o oc).mono ?_
          rintro e w9 ⟨rfl, k1⟩
          have T9 := Lib.hid k1
          clear k1
          go_wp2_with fail
          go_roundw
          case rel => exact ⟨j + 1, by omega, by go_num, T9.out⟩
          case measure => simp [intOf]; omega
        · rw [hb] at t0
          clear hb htl
          go_wp2_with fail
          refine (T.out.swap.step (by omega) o oc).mono ?_
          rintro e w9 ⟨rfl, k1⟩
          have T9 := Lib.hid k1.swap
          clear k1
          go_wp2_with fail
          go_roundw
          case rel => exact ⟨j + 1, by omega, by go_num, T9.out⟩
          case measure => simp [intOf]; omega
      · have b3 : ¬ (j : Int) < (nt : Int) := by omega
        go_wp2_with fail
        refine (T.out.step (by omega) o oc).mono ?_
        rintro e w9 ⟨rfl, k1⟩
        have T9 := Lib.hid k1
        clear k1
        go_wp2_with fail
        go_roundw
        case rel => exact ⟨j + 1, by omega, by go_num, T9.out⟩
        case measure => simp [intOf]; omega
    · obtain rfl : j = no := by omega
      go_wp2_with fail
      go_ret
      exact ⟨rfl, T.out.chg.done⟩
end Go.Proofs.Ytlnomadhgoblkaa.Kit
