/- The journal: Record, Append. -/
import Derived.Test.YtlnomadhgoblkaaProg
import Derived.Test.YtlnomadhgoblkaaJo
import Derived.Test.YtlnomadhgoblkaaOctX
import Derived.Test.YtlnomadhgoblkaaCrc
import Derived.Test.YtlnomadhgoblkaaKitB
set_option linter.unusedVariables false
set_option linter.unusedSimpArgs false
namespace Go.Proofs.Ytlnomadhgoblkaa.Kit
open Go.RowKit
/-- what Record answers of a place beyond the end -/
theorem jrecordNo (D : Nat → Prop) (g : Nat) (l : List SecV) (n : Nat) (i : Int) (w : World) (HN : Hid (n = l.length)) (hi : i < 0 ∨ (n : Int) ≤ i) (hj : Hid (Jn w D g l)) :
    Calls Try.prog 35 #[.pointer (some ⟨g, 0, none⟩), .int .i64 i] w fun e w' => e = .returned (.tuple #[.agg #[.int .i64 0, .slice none 0 0], .int .i64 2]) ∧ Chg (fun _ => False) w w' := by
  obtain ⟨vB, vR, vE, bs, hb, hv, h1, h2, h3, h4⟩ := hj.out.ex
  obtain ⟨AR, cR, hR, hcR, _⟩ := hv.recs.row.slice
  rw [← HN.out] at hR
  have c1 := hb.at_ (i := 1) rfl
  rw [hR] at c1
  have c1a : (w.alloc (.cells #[.int .i64 0, .slice none 0 0] 31)).cell? ⟨g, 1, none⟩ = some (.slice AR n cR) := ((Chg.refl (fun _ => False) w).alloc (.cells #[.int .i64 0, .slice none 0 0] 31)).cell (fun h => h) c1
  clear hR hb hv h1 h2 h3 h4 hcR
  rcases hi with hi | hi
  · go_enter Try.func35, Try.ntmps35
    go_wp2_with fail
    exact bodyPost_ret (v := .tuple #[.agg #[.int .i64 0, .slice none 0 0], .int .i64 2]) (by simp [results, Try.results35, go_sem]) rfl ⟨rfl, (Chg.refl _ w).alloc _⟩
  · have h0 : ¬ i < 0 := by have : (0 : Int) ≤ (n : Int) := Int.natCast_nonneg _; omega
    go_enter Try.func35, Try.ntmps35
    go_wp2_with fail
    exact bodyPost_ret (v := .tuple #[.agg #[.int .i64 0, .slice none 0 0], .int .i64 2]) (by simp [results, Try.results35, go_sem]) rfl ⟨rfl, (Chg.refl _ w).alloc _⟩
/-- what Record answers of the i-th -/
theorem jrecordOk (D : Nat → Prop) (g : Nat) (l : List SecV) (n i : Nat) (x : SecV) (w : World) (HN : Hid (n = l.length)) (hi : i < n) (hn : n ≤ 1073741824) (hx : Hid (l[i]? = some x)) (hxl : x.body.length ≤ 4194304) (hj : Hid (Jn w D g l)) :
    Calls Try.prog 35 #[.pointer (some ⟨g, 0, none⟩), .int .i64 i] w fun e w' => ∃ A m c, e = .returned (.tuple #[.agg #[.int .i64 x.id, .slice A m c], .int .i64 0]) ∧ OwnB w' (.slice A m c) x.body ∧ m = x.body.length ∧ Chg (fun _ => False) w w' ∧ ∀ k, Value.ownBlock (.slice A m c) = some k → w.heap.size ≤ k := by
  obtain ⟨vB, vR, vE, bs, hb, hv, h1, h2, h3, h4⟩ := hj.out.ex
  obtain ⟨AR, cR, hR, hcR, hmR⟩ := hv.recs.row.slice
  rw [← HN.out] at hR hcR
  have c1 := hb.at_ (i := 1) rfl
  rw [hR] at c1
  have hil : i < l.length := by rw [← HN.out]; exact hi
  have hib : i < bs.length := by rw [hv.recs.lenB]; exact hil
  have hxe : l[i] = x := by
    have := hx.out
    rw [List.getElem?_eq_getElem hil] at this
    injection this
  obtain ⟨g1, g2⟩ := tCells_get l bs i hil hib
  have hrow := hv.recs.row
  rw [hR, ← HN.out] at hrow
  obtain ⟨ad, e1, k1, _⟩ := hrow.cells _ _ _ rfl _ _ g1
  obtain ⟨ad', e2, k2, _⟩ := hrow.cells _ _ _ rfl _ _ g2
  rw [e1] at e2
  injection e2 with e2
  subst e2
  have hob := hv.recs.own i hil hib
  rw [hxe] at hob k1
  obtain ⟨Ab, cb, hbv, hcb, hmb⟩ := hob.slice
  obtain ⟨mb, hmbe⟩ : ∃ mb, mb = x.body.length := ⟨_, rfl⟩
  rw [← hmbe] at hbv
  rw [hbv] at k2 hob
  have k2' : w.cell? ⟨(ad.add (i * 2)).block, (ad.add (i * 2)).off + 1, none⟩ = some (.slice Ab mb cb) := by
    rw [show (⟨(ad.add (i * 2)).block, (ad.add (i * 2)).off + 1, none⟩ : Addr) = (ad.add (i * 2)).add 1 from rfl, Go.Deep.add_add]
    exact k2
  have HMB := Lib.hid hmbe
  have HOB := Lib.hid hob
  have hmb4 : mb ≤ 4194304 := by rw [hmbe]; exact hxl
  have b1 : (0 : Int) ≤ (i : Int) := by omega
  have b2 : (i : Int) < (n : Int) := by omega
  have old : ∀ {p : Addr} {v : Value} (o : Obj), w.cell? p = some v → (w.alloc o).cell? p = some v := fun o h => ((Chg.refl (fun _ => False) w).alloc o).cell (fun h => h) h
  have c1a := old (.cells #[.int .i64 0, .slice none 0 0] 31) c1
  have k1a := old (.cells #[.int .i64 0, .slice none 0 0] 31) k1
  have k2a := old (.cells #[.int .i64 0, .slice none 0 0] 31) k2'
  rw [e1] at c1a
  clear hbv hmbe hob k1 k2 k2' g1 g2 hrow hR hb hv h1 h2 h3 h4 c1 hil hib hxe e1 hcR old
  go_enter Try.func35, Try.ntmps35
  go_wp2_with fail
  obtain ⟨w2, hw2⟩ : ∃ w2, w2 = (w.alloc (.cells #[.int .i64 0, .slice none 0 0] 31)).alloc (.cells #[.int .i64 x.id, .slice Ab mb cb] 31) := ⟨_, rfl⟩
  obtain ⟨p, hp⟩ : ∃ p, p = w.heap.size := ⟨_, rfl⟩
  obtain ⟨q, hq⟩ : ∃ q, q = w.heap.size + 1 := ⟨_, rfl⟩
  have P2 : Hid (Blk w2 p 31 [.int .i64 0, .slice none 0 0]) := by rw [hw2, hp]; exact (Blk.new w _ _).alloc _
  have Q2 : Hid (Blk w2 q 31 [.int .i64 x.id, .slice Ab mb cb]) := by
    rw [hw2, hq]
    have := Blk.new (w.alloc (.cells #[.int .i64 0, .slice none 0 0] 31)) #[.int .i64 x.id, .slice Ab mb cb] 31
    rw [show (w.alloc (.cells #[.int .i64 0, .slice none 0 0] 31)).heap.size = w.heap.size + 1 by simp] at this
    exact this
  have C2 : Hid (Chg (fun _ => False) w w2) := by rw [hw2]; exact ((Chg.refl _ w).alloc _).alloc _
  have hpq : p ≠ q := by omega
  have HPQ : Hid (w.heap.size ≤ p ∧ w.heap.size ≤ q) := ⟨by omega, by omega⟩
  have r2 : Hid (Rd w2 .u8 Ab x.body) := (HOB.out.chg C2.out (fun _ _ h => h)).rd (by rw [HMB.out])
  rw [← hw2, ← hq, ← hp]
  clear hw2 hp hq
  refine (cloneB Ab mb cb x.body w2 HMB (by omega) r2).mono ?_
  rintro e w3 ⟨A3, n3, c3, rfl, m1⟩
  have O3 := Lib.hid m1.own
  have L3 := Lib.hid m1.len
  have C3 := Lib.hid m1.chg
  have F3 := Lib.hid m1.new
  have P3 := Lib.hid (P2.out.chg m1.chg (fun h => h))
  have Q3 := Lib.hid (Q2.out.chg m1.chg (fun h => h))
  have s1 := Q3.out.at_ (i := 1) rfl
  have s2 := Q3.out.frozen (i := 1) (by simp)
  have Q4 : Hid (Blk (w3.setCell ⟨q, 1, none⟩ (.slice A3 n3 c3)) q 31 [.int .i64 x.id, .slice A3 n3 c3]) := Q3.out.set 1 _
  have P4 : Hid (Blk (w3.setCell ⟨q, 1, none⟩ (.slice A3 n3 c3)) p 31 [.int .i64 0, .slice none 0 0]) := P3.out.set_other hpq _
  have t0 := Q4.out.at_ (i := 0) rfl
  have t1 := Q4.out.at_ (i := 1) rfl
  have p0 := P4.out.at_ (i := 0) rfl
  have p1 := P4.out.at_ (i := 1) rfl
  have fp0 := P4.out.frozen (i := 0) (by simp)
  have fp1 := P4.out.frozen (i := 1) (by simp)
  obtain ⟨w4, hw4⟩ : ∃ w4, w4 = w3.setCell ⟨q, 1, none⟩ (.slice A3 n3 c3) := ⟨_, rfl⟩
  have HW4 := Lib.hid hw4
  have P5 : Hid (Blk (((w3.setCell ⟨q, 1, none⟩ (.slice A3 n3 c3)).setCell ⟨p, 0, none⟩ (.int .i64 x.id)).setCell ⟨p, 1, none⟩ (.slice A3 n3 c3)) p 31 [.int .i64 x.id, .slice A3 n3 c3]) := (P4.out.set 0 _).set 1 _
  have z0 := P5.out.at_ (i := 0) rfl
  have z1 := P5.out.at_ (i := 1) rfl
  have pp1 := (P4.out.set 0 (.int .i64 x.id)).at_ (i := 1) rfl
  have pf1 := (P4.out.set 0 (.int .i64 x.id)).frozen (i := 1) (by simp)
  clear m1 hw4
  go_wp2_with fail
  refine bodyPost_ret (v := .tuple #[.agg #[.int .i64 x.id, .slice A3 n3 c3], .int .i64 0]) (by simp [results, Try.results35, go_sem, z0, z1]) rfl ⟨A3, n3, c3, rfl, ?_, L3.out, ?_, fun k hk => Nat.le_trans C2.out.size (F3.out k hk)⟩
  · refine O3.out.chg (S := fun y => y = p ∨ y = q) ((((Chg.refl _ w3).setCell (p := ⟨q, 1, none⟩) (fun _ => .inr rfl) _).setCell (p := ⟨p, 0, none⟩) (fun _ => .inl rfl) _).setCell (p := ⟨p, 1, none⟩) (fun _ => .inl rfl) _) (fun y hy h => ?_)
    rcases h with h | h
    · exact OwnV.type_ne O3.out P3.out (by decide) (by rw [hy, h])
    · exact OwnV.type_ne O3.out Q3.out (by decide) (by rw [hy, h])
  · have hpq2 := HPQ.out
    exact (((C2.out.trans C3.out (fun _ _ h => h)).setCell (p := ⟨q, 1, none⟩) (fun h => by simp at h; omega) _).setCell (p := ⟨p, 0, none⟩) (fun h => by simp at h; omega) _).setCell (p := ⟨p, 1, none⟩) (fun h => by simp at h; omega) _
end Go.Proofs.Ytlnomadhgoblkaa.Kit
