/- Programs: Equal, the program's and the document's. -/
import Derived.Test.YtlnomadhgoblkaaProg
import Derived.Test.YtlnomadhgoblkaaPgF
set_option linter.unusedVariables false
set_option linter.unusedSimpArgs false
namespace Go.Proofs.Ytlnomadhgoblkaa.Kit
open Go.RowKit
/-- a program's slices, taken apart -/
structure ProgW (w : World) (s : ProgS) (p : ProgV) (nn nc nk nd : Nat) (An Ac Ak Ad : Option Addr) (cn cc ck cd : Nat) : Prop where
  eq : progVal s p = .agg #[.slice An nn cn, .slice Ac nc cc, .slice Ak nk ck, .int .i64 p.horizon, .int .i64 p.cells, .int .i64 p.slots, .int .i64 p.stack, .slice Ad nd cd]
  ln : nn = p.names.length
  lc : nc = p.curs.length
  lk : nk = p.pool.length
  ld : nd = p.days.length
  hn : nn ≤ cn
  hc : nc ≤ cc
  hk : nk ≤ ck
  hd : nd ≤ cd
  mn : cn ≤ maxLen
  mc : cc ≤ maxLen
  mp : ck ≤ maxLen
  md : cd ≤ maxLen
  rn : RdG w An (strs p.names)
  rc : RdG w Ac (strs p.curs)
  rk : RdG w Ak (nums .i64 p.pool)
  rd : RdDays w Ad p.days s.codes
theorem RdProg.apart {w : World} {s : ProgS} {p : ProgV} (h : RdProg w s p) : ∃ nn nc nk nd An Ac Ak Ad cn cc ck cd, ProgW w s p nn nc nk nd An Ac Ak Ad cn cc ck cd := by
  obtain ⟨An, cn, e1, h1, m1, r1⟩ := h.names.ex
  obtain ⟨Ac, cc, e2, h2, m2, r2⟩ := h.curs.ex
  obtain ⟨Ak, ck, e3, h3, m3, r3⟩ := h.pool.ex
  obtain ⟨Ad, cd, e4, h4, m4, r4⟩ := h.days.ex
  exact ⟨_, _, _, _, An, Ac, Ak, Ad, cn, cc, ck, cd, by rw [progVal, e1, e2, e3, e4], rfl, rfl, rfl, rfl, h1, h2, h3, h4, m1, m2, m3, m4, r1, r2, r3, r4, h.lenC, h.code⟩
theorem ProgW.chg0 {w w1 : World} {s : ProgS} {p : ProgV} {nn nc nk nd : Nat} {An Ac Ak Ad : Option Addr} {cn cc ck cd : Nat} (h : ProgW w s p nn nc nk nd An Ac Ak Ad cn cc ck cd) (c : Chg (fun _ => False) w w1) : ProgW w1 s p nn nc nk nd An Ac Ak Ad cn cc ck cd :=
  ⟨h.eq, h.ln, h.lc, h.lk, h.ld, h.hn, h.hc, h.hk, h.hd, h.mn, h.mc, h.mp, h.md, h.rn.chg0 c, h.rc.chg0 c, h.rk.chg0 c, h.rd.chg0 c⟩
theorem prog_eq (p q : ProgV) : decide (p = q) = (decide (p.names = q.names) && decide (p.curs = q.curs) && decide (p.pool = q.pool) && decide (p.horizon = q.horizon) && decide (p.cells = q.cells) && decide (p.slots = q.slots) && decide (p.stack = q.stack) && decide (p.days = q.days)) := by
  obtain ⟨a, b, c, d, e, f, g, h⟩ := p
  obtain ⟨a', b', c', d', e', f', g', h'⟩ := q
  rw [Bool.eq_iff_iff]
  simp [and_assoc]
theorem ints_eq {x y : Int} {b : Bool} (h : decide (x = y) = b) : (x == y) = b ∧ (x != y) = !b := by
  subst h
  by_cases h : x = y <;> simp [h]
theorem small_codes {p : ProgV} (h : SmallP p) : ∀ x ∈ p.days, x.code.length ≤ 140737488355328 := fun x hx => by have := h.code x hx; omega
set_option maxRecDepth 20000 in
set_option maxHeartbeats 3200000 in
theorem imageEqual {s t : ProgS} {p q : ProgV} {w : World} {b : Bool} (hp : Hid (RdProg w s p)) (hq : Hid (RdProg w t q)) (sp : SmallP p) (sq : SmallP q) (hb : Hid (decide (p = q) = b)) :
    Calls Try.prog 14 #[progVal s p, progVal t q] w fun e w' => e = .returned (.bool b) ∧ Chg (fun _ => False) w w' := by
  obtain ⟨n1, n2, n3, n4, A1, A2, A3, A4, c1, c2, c3, c4, HP0⟩ := hp.out.apart
  obtain ⟨m1, m2, m3, m4, B1, B2, B3, B4, d1, d2, d3, d4, HQ0⟩ := hq.out.apart
  have HP := Lib.hid HP0
  have HQ := Lib.hid HQ0
  rw [HP.out.eq, HQ.out.eq]
  have S1 : n1 ≤ 140737488355328 := by have := HP0.ln; have := sp.names; omega
  have S2 : n2 ≤ 140737488355328 := by have := HP0.lc; have := sp.curs; omega
  have S3 : n3 ≤ 140737488355328 := by have := HP0.lk; have := sp.pool; omega
  have S4 : n4 ≤ 140737488355328 := by have := HP0.ld; have := sp.days; omega
  have T1 : m1 ≤ 140737488355328 := by have := HQ0.ln; have := sq.names; omega
  have T2 : m2 ≤ 140737488355328 := by have := HQ0.lc; have := sq.curs; omega
  have T3 : m3 ≤ 140737488355328 := by have := HQ0.lk; have := sq.pool; omega
  have T4 : m4 ≤ 140737488355328 := by have := HQ0.ld; have := sq.days; omega
  have SC := Lib.hid (small_codes sp)
  have TC := Lib.hid (small_codes sq)
  obtain ⟨b1, hb1⟩ : ∃ b, decide (p.horizon = q.horizon) = b := ⟨_, rfl⟩
  obtain ⟨b2, hb2⟩ : ∃ b, decide (p.cells = q.cells) = b := ⟨_, rfl⟩
  obtain ⟨b3, hb3⟩ : ∃ b, decide (p.slots = q.slots) = b := ⟨_, rfl⟩
  obtain ⟨b4, hb4⟩ : ∃ b, decide (p.stack = q.stack) = b := ⟨_, rfl⟩
  obtain ⟨b5, hb5⟩ : ∃ b, decide (p.names = q.names) = b := ⟨_, rfl⟩
  obtain ⟨b6, hb6⟩ : ∃ b, decide (p.curs = q.curs) = b := ⟨_, rfl⟩
  obtain ⟨b7, hb7⟩ : ∃ b, decide (p.pool = q.pool) = b := ⟨_, rfl⟩
  obtain ⟨b8, hb8⟩ : ∃ b, decide (p.days = q.days) = b := ⟨_, rfl⟩
  have HB : Hid ((b5 && b6 && b7 && b1 && b2 && b3 && b4 && b8) = b) := Lib.hid (by rw [← hb.out, prog_eq, hb1, hb2, hb3, hb4, hb5, hb6, hb7, hb8])
  obtain ⟨x1, y1⟩ := ints_eq hb1
  obtain ⟨x2, y2⟩ := ints_eq hb2
  obtain ⟨x3, y3⟩ := ints_eq hb3
  obtain ⟨x4, y4⟩ := ints_eq hb4
  obtain ⟨i1, hi1⟩ : ∃ x, x = p.horizon := ⟨_, rfl⟩
  obtain ⟨i2, hi2⟩ : ∃ x, x = p.cells := ⟨_, rfl⟩
  obtain ⟨i3, hi3⟩ : ∃ x, x = p.slots := ⟨_, rfl⟩
  obtain ⟨i4, hi4⟩ : ∃ x, x = p.stack := ⟨_, rfl⟩
  obtain ⟨j1, hj1⟩ : ∃ x, x = q.horizon := ⟨_, rfl⟩
  obtain ⟨j2, hj2⟩ : ∃ x, x = q.cells := ⟨_, rfl⟩
  obtain ⟨j3, hj3⟩ : ∃ x, x = q.slots := ⟨_, rfl⟩
  obtain ⟨j4, hj4⟩ : ∃ x, x = q.stack := ⟨_, rfl⟩
  rw [← hi1, ← hi2, ← hi3, ← hi4, ← hj1, ← hj2, ← hj3, ← hj4]
  rw [← hi1, ← hj1] at x1 y1
  rw [← hi2, ← hj2] at x2 y2
  rw [← hi3, ← hj3] at x3 y3
  rw [← hi4, ← hj4] at x4 y4
  have H5 := Lib.hid hb5
  have H6 := Lib.hid hb6
  have H7 := Lib.hid hb7
  have H8 := Lib.hid hb8
  have LN := Lib.hid HP0.ln
  have LC := Lib.hid HP0.lc
  have LK := Lib.hid HP0.lk
  have LD := Lib.hid HP0.ld
  have MN := Lib.hid HQ0.ln
  have MC := Lib.hid HQ0.lc
  have MK := Lib.hid HQ0.lk
  have MD := Lib.hid HQ0.ld
  clear hb1 hb2 hb3 hb4 hb5 hb6 hb7 hb8 hi1 hi2 hi3 hi4 hj1 hj2 hj3 hj4 HP0 HQ0
  cases b1
  · go_enter Try.func14, Try.ntmps14
    go_wp2_with fail
    go_ret
    exact ⟨ret_bool (by rw [← HB.out]; simp), (show Chg (fun _ => False) w _ from by repeat (first | exact Chg.refl _ _ | exact C1.out | refine Chg.drew ?_ | refine Chg.drewN ?_ _ | refine Chg.alloc ?_ _))⟩
  · have _t : True := trivial
    cases b2
    · go_enter Try.func14, Try.ntmps14
      go_wp2_with fail
      go_ret
      exact ⟨ret_bool (by rw [← HB.out]; simp), (show Chg (fun _ => False) w _ from by repeat (first | exact Chg.refl _ _ | exact C1.out | refine Chg.drew ?_ | refine Chg.drewN ?_ _ | refine Chg.alloc ?_ _))⟩
    · have _t : True := trivial
      cases b3
      · go_enter Try.func14, Try.ntmps14
        go_wp2_with fail
        go_ret
        exact ⟨ret_bool (by rw [← HB.out]; simp), (show Chg (fun _ => False) w _ from by repeat (first | exact Chg.refl _ _ | exact C1.out | refine Chg.drew ?_ | refine Chg.drewN ?_ _ | refine Chg.alloc ?_ _))⟩
      · have _t : True := trivial
        cases b4
        · go_enter Try.func14, Try.ntmps14
          go_wp2_with fail
          go_ret
          exact ⟨ret_bool (by rw [← HB.out]; simp), (show Chg (fun _ => False) w _ from by repeat (first | exact Chg.refl _ _ | exact C1.out | refine Chg.drew ?_ | refine Chg.drewN ?_ _ | refine Chg.alloc ?_ _))⟩
        · have _t : True := trivial
          cases b5
          · go_enter Try.func14, Try.ntmps14
            go_wp2_with fail
            refine (eqStrs LN MN S1 T1 (HP.out.rn.chg0 (by repeat (first | exact Chg.refl _ _ | exact C1.out | refine Chg.drew ?_ | refine Chg.drewN ?_ _ | refine Chg.alloc ?_ _))) (HQ.out.rn.chg0 (by repeat (first | exact Chg.refl _ _ | exact C1.out | refine Chg.drew ?_ | refine Chg.drewN ?_ _ | refine Chg.alloc ?_ _))) H5).mono ?_
            rintro e w5 ⟨rfl, nq5, rfl⟩
            go_wp2_with fail
            go_ret
            exact ⟨ret_bool (by rw [← HB.out]; simp), (show Chg (fun _ => False) w _ from by repeat (first | exact Chg.refl _ _ | exact C1.out | refine Chg.drew ?_ | refine Chg.drewN ?_ _ | refine Chg.alloc ?_ _))⟩
          · have _t : True := trivial
            cases b6
            · go_enter Try.func14, Try.ntmps14
              go_wp2_with fail
              refine (eqStrs LN MN S1 T1 (HP.out.rn.chg0 (by repeat (first | exact Chg.refl _ _ | exact C1.out | refine Chg.drew ?_ | refine Chg.drewN ?_ _ | refine Chg.alloc ?_ _))) (HQ.out.rn.chg0 (by repeat (first | exact Chg.refl _ _ | exact C1.out | refine Chg.drew ?_ | refine Chg.drewN ?_ _ | refine Chg.alloc ?_ _))) H5).mono ?_
              rintro e w5 ⟨rfl, nq5, rfl⟩
              go_wp2_with fail
              refine (eqStrs LC MC S2 T2 (HP.out.rc.chg0 (by repeat (first | exact Chg.refl _ _ | exact C1.out | refine Chg.drew ?_ | refine Chg.drewN ?_ _ | refine Chg.alloc ?_ _))) (HQ.out.rc.chg0 (by repeat (first | exact Chg.refl _ _ | exact C1.out | refine Chg.drew ?_ | refine Chg.drewN ?_ _ | refine Chg.alloc ?_ _))) H6).mono ?_
              rintro e w6 ⟨rfl, nq6, rfl⟩
              go_wp2_with fail
              go_ret
              exact ⟨ret_bool (by rw [← HB.out]; simp), (show Chg (fun _ => False) w _ from by repeat (first | exact Chg.refl _ _ | exact C1.out | refine Chg.drew ?_ | refine Chg.drewN ?_ _ | refine Chg.alloc ?_ _))⟩
            · have _t : True := trivial
              cases b7
              · go_enter Try.func14, Try.ntmps14
                go_wp2_with fail
                refine (eqStrs LN MN S1 T1 (HP.out.rn.chg0 (by repeat (first | exact Chg.refl _ _ | exact C1.out | refine Chg.drew ?_ | refine Chg.drewN ?_ _ | refine Chg.alloc ?_ _))) (HQ.out.rn.chg0 (by repeat (first | exact Chg.refl _ _ | exact C1.out | refine Chg.drew ?_ | refine Chg.drewN ?_ _ | refine Chg.alloc ?_ _))) H5).mono ?_
                rintro e w5 ⟨rfl, nq5, rfl⟩
                go_wp2_with fail
                refine (eqStrs LC MC S2 T2 (HP.out.rc.chg0 (by repeat (first | exact Chg.refl _ _ | exact C1.out | refine Chg.drew ?_ | refine Chg.drewN ?_ _ | refine Chg.alloc ?_ _))) (HQ.out.rc.chg0 (by repeat (first | exact Chg.refl _ _ | exact C1.out | refine Chg.drew ?_ | refine Chg.drewN ?_ _ | refine Chg.alloc ?_ _))) H6).mono ?_
                rintro e w6 ⟨rfl, nq6, rfl⟩
                go_wp2_with fail
                refine (eqInts LK MK S3 T3 (HP.out.rk.chg0 (by repeat (first | exact Chg.refl _ _ | exact C1.out | refine Chg.drew ?_ | refine Chg.drewN ?_ _ | refine Chg.alloc ?_ _))) (HQ.out.rk.chg0 (by repeat (first | exact Chg.refl _ _ | exact C1.out | refine Chg.drew ?_ | refine Chg.drewN ?_ _ | refine Chg.alloc ?_ _))) H7).mono ?_
                rintro e w7 ⟨rfl, nq7, rfl⟩
                go_wp2_with fail
                go_ret
                exact ⟨ret_bool (by rw [← HB.out]; simp), (show Chg (fun _ => False) w _ from by repeat (first | exact Chg.refl _ _ | exact C1.out | refine Chg.drew ?_ | refine Chg.drewN ?_ _ | refine Chg.alloc ?_ _))⟩
              · have _t : True := trivial
                go_enter Try.func14, Try.ntmps14
                go_wp2_with fail
                refine (eqStrs LN MN S1 T1 (HP.out.rn.chg0 (by repeat (first | exact Chg.refl _ _ | exact C1.out | refine Chg.drew ?_ | refine Chg.drewN ?_ _ | refine Chg.alloc ?_ _))) (HQ.out.rn.chg0 (by repeat (first | exact Chg.refl _ _ | exact C1.out | refine Chg.drew ?_ | refine Chg.drewN ?_ _ | refine Chg.alloc ?_ _))) H5).mono ?_
                rintro e w5 ⟨rfl, nq5, rfl⟩
                go_wp2_with fail
                refine (eqStrs LC MC S2 T2 (HP.out.rc.chg0 (by repeat (first | exact Chg.refl _ _ | exact C1.out | refine Chg.drew ?_ | refine Chg.drewN ?_ _ | refine Chg.alloc ?_ _))) (HQ.out.rc.chg0 (by repeat (first | exact Chg.refl _ _ | exact C1.out | refine Chg.drew ?_ | refine Chg.drewN ?_ _ | refine Chg.alloc ?_ _))) H6).mono ?_
                rintro e w6 ⟨rfl, nq6, rfl⟩
                go_wp2_with fail
                refine (eqInts LK MK S3 T3 (HP.out.rk.chg0 (by repeat (first | exact Chg.refl _ _ | exact C1.out | refine Chg.drew ?_ | refine Chg.drewN ?_ _ | refine Chg.alloc ?_ _))) (HQ.out.rk.chg0 (by repeat (first | exact Chg.refl _ _ | exact C1.out | refine Chg.drew ?_ | refine Chg.drewN ?_ _ | refine Chg.alloc ?_ _))) H7).mono ?_
                rintro e w7 ⟨rfl, nq7, rfl⟩
                go_wp2_with fail
                refine (eqDays LD MD S4 T4 (HP.out.rd.chg0 (by repeat (first | exact Chg.refl _ _ | exact C1.out | refine Chg.drew ?_ | refine Chg.drewN ?_ _ | refine Chg.alloc ?_ _))) (HQ.out.rd.chg0 (by repeat (first | exact Chg.refl _ _ | exact C1.out | refine Chg.drew ?_ | refine Chg.drewN ?_ _ | refine Chg.alloc ?_ _))) SC TC H8).mono ?_
                rintro e w8 ⟨rfl, cc⟩
                have C1 : Hid (Chg (fun _ => False) w w8) := (show Chg (fun _ => False) w _ from by repeat (first | exact Chg.refl _ _ | refine Chg.drew ?_ | refine Chg.drewN ?_ _ | refine Chg.alloc ?_ _)).trans cc (fun _ _ h => h)
                clear cc
                go_wp2_with fail
                go_ret
                exact ⟨ret_bool (by rw [← HB.out]; simp), C1.out⟩
set_option maxRecDepth 20000 in
set_option maxHeartbeats 3200000 in
theorem refEqual {s t : ProgS} {p q : ProgV} {w : World} {b : Bool} (hp : Hid (RdProg w s p)) (hq : Hid (RdProg w t q)) (sp : SmallP p) (sq : SmallP q) (hb : Hid (decide (p = q) = b)) :
    Calls Try.prog 15 #[progVal s p, progVal t q] w fun e w' => e = .returned (.bool b) ∧ Chg (fun _ => False) w w' := by
  obtain ⟨n1, n2, n3, n4, A1, A2, A3, A4, c1, c2, c3, c4, HP0⟩ := hp.out.apart
  obtain ⟨m1, m2, m3, m4, B1, B2, B3, B4, d1, d2, d3, d4, HQ0⟩ := hq.out.apart
  have HP := Lib.hid HP0
  have HQ := Lib.hid HQ0
  rw [HP.out.eq, HQ.out.eq]
  have S1 : n1 ≤ 140737488355328 := by have := HP0.ln; have := sp.names; omega
  have S2 : n2 ≤ 140737488355328 := by have := HP0.lc; have := sp.curs; omega
  have S3 : n3 ≤ 140737488355328 := by have := HP0.lk; have := sp.pool; omega
  have S4 : n4 ≤ 140737488355328 := by have := HP0.ld; have := sp.days; omega
  have T1 : m1 ≤ 140737488355328 := by have := HQ0.ln; have := sq.names; omega
  have T2 : m2 ≤ 140737488355328 := by have := HQ0.lc; have := sq.curs; omega
  have T3 : m3 ≤ 140737488355328 := by have := HQ0.lk; have := sq.pool; omega
  have T4 : m4 ≤ 140737488355328 := by have := HQ0.ld; have := sq.days; omega
  have SC := Lib.hid (small_codes sp)
  have TC := Lib.hid (small_codes sq)
  obtain ⟨b1, hb1⟩ : ∃ b, decide (p.horizon = q.horizon) = b := ⟨_, rfl⟩
  obtain ⟨b2, hb2⟩ : ∃ b, decide (p.cells = q.cells) = b := ⟨_, rfl⟩
  obtain ⟨b3, hb3⟩ : ∃ b, decide (p.slots = q.slots) = b := ⟨_, rfl⟩
  obtain ⟨b4, hb4⟩ : ∃ b, decide (p.stack = q.stack) = b := ⟨_, rfl⟩
  obtain ⟨b5, hb5⟩ : ∃ b, decide (p.names = q.names) = b := ⟨_, rfl⟩
  obtain ⟨b6, hb6⟩ : ∃ b, decide (p.curs = q.curs) = b := ⟨_, rfl⟩
  obtain ⟨b7, hb7⟩ : ∃ b, decide (p.pool = q.pool) = b := ⟨_, rfl⟩
  obtain ⟨b8, hb8⟩ : ∃ b, decide (p.days = q.days) = b := ⟨_, rfl⟩
  have HB : Hid ((b5 && b6 && b7 && b1 && b2 && b3 && b4 && b8) = b) := Lib.hid (by rw [← hb.out, prog_eq, hb1, hb2, hb3, hb4, hb5, hb6, hb7, hb8])
  obtain ⟨x1, y1⟩ := ints_eq hb1
  obtain ⟨x2, y2⟩ := ints_eq hb2
  obtain ⟨x3, y3⟩ := ints_eq hb3
  obtain ⟨x4, y4⟩ := ints_eq hb4
  obtain ⟨i1, hi1⟩ : ∃ x, x = p.horizon := ⟨_, rfl⟩
  obtain ⟨i2, hi2⟩ : ∃ x, x = p.cells := ⟨_, rfl⟩
  obtain ⟨i3, hi3⟩ : ∃ x, x = p.slots := ⟨_, rfl⟩
  obtain ⟨i4, hi4⟩ : ∃ x, x = p.stack := ⟨_, rfl⟩
  obtain ⟨j1, hj1⟩ : ∃ x, x = q.horizon := ⟨_, rfl⟩
  obtain ⟨j2, hj2⟩ : ∃ x, x = q.cells := ⟨_, rfl⟩
  obtain ⟨j3, hj3⟩ : ∃ x, x = q.slots := ⟨_, rfl⟩
  obtain ⟨j4, hj4⟩ : ∃ x, x = q.stack := ⟨_, rfl⟩
  rw [← hi1, ← hi2, ← hi3, ← hi4, ← hj1, ← hj2, ← hj3, ← hj4]
  rw [← hi1, ← hj1] at x1 y1
  rw [← hi2, ← hj2] at x2 y2
  rw [← hi3, ← hj3] at x3 y3
  rw [← hi4, ← hj4] at x4 y4
  have H5 := Lib.hid hb5
  have H6 := Lib.hid hb6
  have H7 := Lib.hid hb7
  have H8 := Lib.hid hb8
  have LN := Lib.hid HP0.ln
  have LC := Lib.hid HP0.lc
  have LK := Lib.hid HP0.lk
  have LD := Lib.hid HP0.ld
  have MN := Lib.hid HQ0.ln
  have MC := Lib.hid HQ0.lc
  have MK := Lib.hid HQ0.lk
  have MD := Lib.hid HQ0.ld
  clear hb1 hb2 hb3 hb4 hb5 hb6 hb7 hb8 hi1 hi2 hi3 hi4 hj1 hj2 hj3 hj4 HP0 HQ0
  cases b5
  · go_enter Try.func15, Try.ntmps15
    go_wp2_with fail
    refine (eqTexts LN MN S1 T1 (HP.out.rn.chg0 (by repeat (first | exact Chg.refl _ _ | exact C1.out | refine Chg.drew ?_ | refine Chg.drewN ?_ _ | refine Chg.alloc ?_ _))) (HQ.out.rn.chg0 (by repeat (first | exact Chg.refl _ _ | exact C1.out | refine Chg.drew ?_ | refine Chg.drewN ?_ _ | refine Chg.alloc ?_ _))) H5).mono ?_
    rintro e w5 ⟨rfl, nq5, rfl⟩
    go_wp2_with fail
    refine (eqTexts LC MC S2 T2 (HP.out.rc.chg0 (by repeat (first | exact Chg.refl _ _ | exact C1.out | refine Chg.drew ?_ | refine Chg.drewN ?_ _ | refine Chg.alloc ?_ _))) (HQ.out.rc.chg0 (by repeat (first | exact Chg.refl _ _ | exact C1.out | refine Chg.drew ?_ | refine Chg.drewN ?_ _ | refine Chg.alloc ?_ _))) H6).mono ?_
    rintro e w6 ⟨rfl, nq6, rfl⟩
    go_wp2_with fail
    go_ret
    exact ⟨ret_bool (by rw [← HB.out]; simp), (show Chg (fun _ => False) w _ from by repeat (first | exact Chg.refl _ _ | exact C1.out | refine Chg.drew ?_ | refine Chg.drewN ?_ _ | refine Chg.alloc ?_ _))⟩
  cases b6
  · go_enter Try.func15, Try.ntmps15
    go_wp2_with fail
    refine (eqTexts LN MN S1 T1 (HP.out.rn.chg0 (by repeat (first | exact Chg.refl _ _ | exact C1.out | refine Chg.drew ?_ | refine Chg.drewN ?_ _ | refine Chg.alloc ?_ _))) (HQ.out.rn.chg0 (by repeat (first | exact Chg.refl _ _ | exact C1.out | refine Chg.drew ?_ | refine Chg.drewN ?_ _ | refine Chg.alloc ?_ _))) H5).mono ?_
    rintro e w5 ⟨rfl, nq5, rfl⟩
    go_wp2_with fail
    refine (eqTexts LC MC S2 T2 (HP.out.rc.chg0 (by repeat (first | exact Chg.refl _ _ | exact C1.out | refine Chg.drew ?_ | refine Chg.drewN ?_ _ | refine Chg.alloc ?_ _))) (HQ.out.rc.chg0 (by repeat (first | exact Chg.refl _ _ | exact C1.out | refine Chg.drew ?_ | refine Chg.drewN ?_ _ | refine Chg.alloc ?_ _))) H6).mono ?_
    rintro e w6 ⟨rfl, nq6, rfl⟩
    go_wp2_with fail
    go_ret
    exact ⟨ret_bool (by rw [← HB.out]; simp), (show Chg (fun _ => False) w _ from by repeat (first | exact Chg.refl _ _ | exact C1.out | refine Chg.drew ?_ | refine Chg.drewN ?_ _ | refine Chg.alloc ?_ _))⟩
  by_cases hl3 : n3 = m3
  rotate_left
  · have e3 : ((n3 : Int) != (m3 : Int)) = true := by simp; omega
    have HE := Lib.hid hl3
    clear hl3
    go_enter Try.func15, Try.ntmps15
    go_wp2_with fail
    refine (eqTexts LN MN S1 T1 (HP.out.rn.chg0 (by repeat (first | exact Chg.refl _ _ | exact C1.out | refine Chg.drew ?_ | refine Chg.drewN ?_ _ | refine Chg.alloc ?_ _))) (HQ.out.rn.chg0 (by repeat (first | exact Chg.refl _ _ | exact C1.out | refine Chg.drew ?_ | refine Chg.drewN ?_ _ | refine Chg.alloc ?_ _))) H5).mono ?_
    rintro e w5 ⟨rfl, nq5, rfl⟩
    go_wp2_with fail
    refine (eqTexts LC MC S2 T2 (HP.out.rc.chg0 (by repeat (first | exact Chg.refl _ _ | exact C1.out | refine Chg.drew ?_ | refine Chg.drewN ?_ _ | refine Chg.alloc ?_ _))) (HQ.out.rc.chg0 (by repeat (first | exact Chg.refl _ _ | exact C1.out | refine Chg.drew ?_ | refine Chg.drewN ?_ _ | refine Chg.alloc ?_ _))) H6).mono ?_
    rintro e w6 ⟨rfl, nq6, rfl⟩
    go_wp2_with fail
    go_ret
    exact ⟨ret_bool (Eq.trans (decide_eq_false (fun h => HE.out (by rw [LK.out, MK.out, h]))).symm hb.out), (show Chg (fun _ => False) w _ from by repeat (first | exact Chg.refl _ _ | exact C1.out | refine Chg.drew ?_ | refine Chg.drewN ?_ _ | refine Chg.alloc ?_ _))⟩
  have HL3 := Lib.hid hl3
  have e3 : ((n3 : Int) != (m3 : Int)) = false := by simp [hl3]
  clear hl3
  by_cases hl4 : n4 = m4
  rotate_left
  · have e4 : ((n4 : Int) != (m4 : Int)) = true := by simp; omega
    have HE := Lib.hid hl4
    clear hl4
    go_enter Try.func15, Try.ntmps15
    go_wp2_with fail
    refine (eqTexts LN MN S1 T1 (HP.out.rn.chg0 (by repeat (first | exact Chg.refl _ _ | exact C1.out | refine Chg.drew ?_ | refine Chg.drewN ?_ _ | refine Chg.alloc ?_ _))) (HQ.out.rn.chg0 (by repeat (first | exact Chg.refl _ _ | exact C1.out | refine Chg.drew ?_ | refine Chg.drewN ?_ _ | refine Chg.alloc ?_ _))) H5).mono ?_
    rintro e w5 ⟨rfl, nq5, rfl⟩
    go_wp2_with fail
    refine (eqTexts LC MC S2 T2 (HP.out.rc.chg0 (by repeat (first | exact Chg.refl _ _ | exact C1.out | refine Chg.drew ?_ | refine Chg.drewN ?_ _ | refine Chg.alloc ?_ _))) (HQ.out.rc.chg0 (by repeat (first | exact Chg.refl _ _ | exact C1.out | refine Chg.drew ?_ | refine Chg.drewN ?_ _ | refine Chg.alloc ?_ _))) H6).mono ?_
    rintro e w6 ⟨rfl, nq6, rfl⟩
    go_wp2_with fail
    go_ret
    exact ⟨ret_bool (Eq.trans (decide_eq_false (fun h => HE.out (by rw [LD.out, MD.out, h]))).symm hb.out), (show Chg (fun _ => False) w _ from by repeat (first | exact Chg.refl _ _ | exact C1.out | refine Chg.drew ?_ | refine Chg.drewN ?_ _ | refine Chg.alloc ?_ _))⟩
  have HL4 := Lib.hid hl4
  have e4 : ((n4 : Int) != (m4 : Int)) = false := by simp [hl4]
  clear hl4
  go_enter Try.func15, Try.ntmps15
  go_wp2_with fail
  refine (eqTexts LN MN S1 T1 (HP.out.rn.chg0 (by repeat (first | exact Chg.refl _ _ | exact C1.out | refine Chg.drew ?_ | refine Chg.drewN ?_ _ | refine Chg.alloc ?_ _))) (HQ.out.rn.chg0 (by repeat (first | exact Chg.refl _ _ | exact C1.out | refine Chg.drew ?_ | refine Chg.drewN ?_ _ | refine Chg.alloc ?_ _))) H5).mono ?_
  rintro e w5 ⟨rfl, nq5, rfl⟩
  go_wp2_with fail
  refine (eqTexts LC MC S2 T2 (HP.out.rc.chg0 (by repeat (first | exact Chg.refl _ _ | exact C1.out | refine Chg.drew ?_ | refine Chg.drewN ?_ _ | refine Chg.alloc ?_ _))) (HQ.out.rc.chg0 (by repeat (first | exact Chg.refl _ _ | exact C1.out | refine Chg.drew ?_ | refine Chg.drewN ?_ _ | refine Chg.alloc ?_ _))) H6).mono ?_
  rintro e w6 ⟨rfl, nq6, rfl⟩
  go_wp2_with fail
  go_loopw [7] (fun i wr => ∃ k : Nat, k ≤ n3 ∧ i = .int .i64 k ∧ Hid (p.pool.take k = q.pool.take k) ∧ Hid (Blk wr w.heap.size 26 [.slice A1 n1 c1, .slice A2 n2 c2, .slice A3 n3 c3, .int .i64 i1, .int .i64 i2, .int .i64 i3, .int .i64 i4, .slice A4 n4 c4] ∧ Blk wr (w.heap.size + 1) 26 [.slice B1 m1 d1, .slice B2 m2 d2, .slice B3 m3 d3, .int .i64 j1, .int .i64 j2, .int .i64 j3, .int .i64 j4, .slice B4 m4 d4]) ∧ Hid (Chg (fun _ => False) w wr)) (fun i _ => n3 - (intOf i).toNat)
  case atStart => exact ⟨0, Nat.zero_le _, rfl, rfl, ⟨((Blk.new w #[.slice A1 n1 c1, .slice A2 n2 c2, .slice A3 n3 c3, .int .i64 i1, .int .i64 i2, .int .i64 i3, .int .i64 i4, .slice A4 n4 c4] 26).alloc _).drewN _, by have hh := Blk.new (w.alloc (.cells #[.slice A1 n1 c1, .slice A2 n2 c2, .slice A3 n3 c3, .int .i64 i1, .int .i64 i2, .int .i64 i3, .int .i64 i4, .slice A4 n4 c4] 26)) #[.slice B1 m1 d1, .slice B2 m2 d2, .slice B3 m3 d3, .int .i64 j1, .int .i64 j2, .int .i64 j3, .int .i64 j4, .slice B4 m4 d4] 26; rw [show (w.alloc (.cells #[.slice A1 n1 c1, .slice A2 n2 c2, .slice A3 n3 c3, .int .i64 i1, .int .i64 i2, .int .i64 i3, .int .i64 i4, .slice A4 n4 c4] 26)).heap.size = w.heap.size + 1 by simp] at hh; exact hh.drewN _⟩, (show Chg (fun _ => False) w _ from by repeat (first | exact Chg.refl _ _ | exact C1.out | refine Chg.drew ?_ | refine Chg.drewN ?_ _ | refine Chg.alloc ?_ _))⟩
  case round =>
    obtain ⟨k, hk, rfl, ht, BK, CK⟩ := hrel
    have f2 := BK.out.1.at_ (i := 2) rfl
    have g2 := BK.out.2.at_ (i := 2) rfl
    by_cases hlt : k < n3
    · have h1 : k < p.pool.length := by have := LK.out; omega
      have h2 : k < q.pool.length := by have := MK.out; have := HL3.out; omega
      obtain ⟨a1, rfl, hc1⟩ := (HP.out.rk.chg0 CK.out) k _ (nums_get .i64 p.pool k h1)
      obtain ⟨a2, rfl, hc2⟩ := (HQ.out.rk.chg0 CK.out) k _ (nums_get .i64 q.pool k h2)
      obtain ⟨x, hx0⟩ : ∃ x, x = p.pool[k] := ⟨_, rfl⟩
      obtain ⟨y, hy0⟩ : ∃ y, y = q.pool[k] := ⟨_, rfl⟩
      rw [← hx0] at hc1
      rw [← hy0] at hc2
      have b1 : (0 : Int) ≤ (k : Int) := by omega
      have b2 : (k : Int) < (n3 : Int) := by omega
      have b3 : (k : Int) < (m3 : Int) := by have := HL3.out; omega
      by_cases hx : x = y
      · subst hx
        have HX : Hid (p.pool[k] = q.pool[k]) := by rw [Hid, ← hx0, ← hy0]
        clear hx0 hy0
        have q1 : (x == x) = true := by simp
        have q2 : (x != x) = false := by simp
        go_wp2_with fail
        go_quiet (fail)
        go_wp2
        go_roundw
        case rel => exact ⟨k + 1, by omega, by go_num, take_nextG ht.out h1 h2 HX.out, ⟨BK.out.1.drewN _, BK.out.2.drewN _⟩, CK.out.drewN _⟩
        case measure => simp [intOf]; omega
      · have HX : Hid (p.pool[k] ≠ q.pool[k]) := by rw [Hid, ← hx0, ← hy0]; exact hx
        clear hx0 hy0
        have q1 : (x == y) = false := by simpa using hx
        have q2 : (x != y) = true := by simpa using hx
        clear hx
        go_wp2_with fail
        go_quiet (fail)
        go_wp2
        go_ret
        refine ⟨ret_bool (Eq.trans (decide_eq_false (fun h => HX.out ?_)).symm hb.out), CK.out.drewN _⟩
        subst h
        rfl
    · have hpool : Hid (p.pool = q.pool) := by
        have h3 := ht.out
        rw [List.take_of_length_le (by have := LK.out; omega), List.take_of_length_le (by have := MK.out; have := HL3.out; omega)] at h3
        exact h3
      have f7 := BK.out.1.at_ (i := 7) rfl
      have g7 := BK.out.2.at_ (i := 7) rfl
      clear ht
      go_wp2_with fail
      clear f2 g2 f7 g7
      obtain ⟨wp, hwp⟩ : ∃ x, x = wr := ⟨_, rfl⟩
      subst hwp
      go_loopw [8, 9] (fun i _ wr => ∃ k : Nat, k ≤ n4 ∧ i = .int .i64 k ∧ Hid (p.days.take k = q.days.take k) ∧ Hid (Blk wr w.heap.size 26 [.slice A1 n1 c1, .slice A2 n2 c2, .slice A3 n3 c3, .int .i64 i1, .int .i64 i2, .int .i64 i3, .int .i64 i4, .slice A4 n4 c4] ∧ Blk wr (w.heap.size + 1) 26 [.slice B1 m1 d1, .slice B2 m2 d2, .slice B3 m3 d3, .int .i64 j1, .int .i64 j2, .int .i64 j3, .int .i64 j4, .slice B4 m4 d4]) ∧ Hid (Chg (fun _ => False) w wr)) (fun i _ _ => n4 - (intOf i).toNat)
      case atStart => exact ⟨0, Nat.zero_le _, rfl, rfl, BK.out, CK.out⟩
      case round =>
        clear BK CK
        obtain ⟨k, hk, rfl, ht, BK, CK⟩ := hrel
        have f7 := BK.out.1.at_ (i := 7) rfl
        have g7 := BK.out.2.at_ (i := 7) rfl
        by_cases hlt2 : k < n4
        · have h1 : k < p.days.length := by have := LD.out; omega
          have h2 : k < q.days.length := by have := MD.out; have := HL4.out; omega
          obtain ⟨a1, D1, r1, e1, rfl, u1, u2, l1, l2, l3, l4⟩ := (HP.out.rd.chg0 CK.out).at_ h1
          obtain ⟨a2, D2, r2, e2, rfl, u3, u4, l5, l6, l7, l8⟩ := (HQ.out.rd.chg0 CK.out).at_ h2
          obtain ⟨x, hx0⟩ : ∃ x, x = p.days[k] := ⟨_, rfl⟩
          obtain ⟨y, hy0⟩ : ∃ y, y = q.days[k] := ⟨_, rfl⟩
          have z1 : r1 ≤ 140737488355328 := by rw [l1]; exact SC.out _ (List.getElem_mem _)
          have z2 : r2 ≤ 140737488355328 := by rw [l5]; exact TC.out _ (List.getElem_mem _)
          rw [← hx0] at u1 l1 l4
          rw [← hy0] at u3 l5 l8
          have HX0 := Lib.hid hx0
          have HY0 := Lib.hid hy0
          obtain ⟨dx, cx⟩ := x
          obtain ⟨dy, cy⟩ := y
          simp only at u1 l1 l4 u3 l5 l8
          have LX := Lib.hid l1
          have LY := Lib.hid l5
          have RX := Lib.hid l4
          have RY := Lib.hid l8
          have b1 : (0 : Int) ≤ (k : Int) := by omega
          have b2 : (k : Int) < (n4 : Int) := by omega
          have b3 : (k : Int) < (m4 : Int) := by have := HL4.out; omega
          clear hx0 hy0 l1 l4 l5 l8
          have nopeD : ∀ w', Chg (fun _ => False) w w' → (dx ≠ dy ∨ cx ≠ cy) → Ending.returned (.bool false) = .returned (.bool b) ∧ Chg (fun _ => False) w w' := fun w' c hne => by
            refine ⟨ret_bool (Eq.trans (decide_eq_false (fun h => ?_)).symm hb.out), c⟩
            subst h
            have h3 : SegV.mk dx cx = SegV.mk dy cy := HX0.out.trans HY0.out.symm
            injection h3 with h4 h5
            exact hne.elim (fun h => h h4) (fun h => h h5)
          have NOPE := Lib.hid nopeD
          clear nopeD
          by_cases hd : dx = dy
          · subst hd
            have q1 : (dx == dx) = true := by simp
            have q2 : (dx != dx) = false := by simp
            by_cases hr : r1 = r2
            · have HR := Lib.hid hr
              have q3 : ((r1 : Int) != (r2 : Int)) = false := by simp [hr]
              clear hr
              go_wp2_with fail
              go_quiet (fail)
              go_wp2
              obtain ⟨wq, hwq⟩ : ∃ x, x = wr := ⟨_, rfl⟩
              subst hwq
              have UX : Hid (∀ W, Chg (fun _ => False) wq W → W.cell? ⟨(a1.add (k * 2)).block, (a1.add (k * 2)).off + 1, none⟩ = some (.slice D1 r1 e1) ∧ W.cell? ⟨(a2.add (k * 2)).block, (a2.add (k * 2)).off + 1, none⟩ = some (.slice D2 r2 e2)) := fun W cW =>
                ⟨cW.cell (p := ⟨(a1.add (k * 2)).block, (a1.add (k * 2)).off + 1, none⟩) (fun h => h) u2, cW.cell (p := ⟨(a2.add (k * 2)).block, (a2.add (k * 2)).off + 1, none⟩) (fun h => h) u4⟩
              clear f7 g7 u1 u2 u3 u4
              have BQ := Lib.hid BK.out
              have CQ := Lib.hid CK.out
              go_loopw [9] (fun j wr => ∃ t : Nat, t ≤ r1 ∧ j = .int .i64 t ∧ Hid (cx.take t = cy.take t) ∧ Hid (Chg (fun _ => False) wq wr)) (fun j _ => r1 - (intOf j).toNat)
              case atStart => exact ⟨0, Nat.zero_le _, rfl, rfl, by repeat (first | exact Chg.refl _ _ | refine Chg.drewN ?_ _)⟩
              case round =>
                obtain ⟨t, htt, rfl, hct, C2⟩ := hrel
                have f7 := (BQ.out.1.chg C2.out (fun h => h)).at_ (i := 7) rfl
                have g7 := (BQ.out.2.chg C2.out (fun h => h)).at_ (i := 7) rfl
                obtain ⟨u2, u4⟩ := UX.out _ C2.out
                by_cases hlt3 : t < r1
                · have h3 : t < cx.length := by have := LX.out; omega
                  have h4 : t < cy.length := by have := LY.out; have := HR.out; omega
                  obtain ⟨i0, i1, i2⟩ := insCells_get cx t h3
                  obtain ⟨j0, j1, j2⟩ := insCells_get cy t h4
                  obtain ⟨s1, v1, hc1⟩ := (RX.out.chg0 C2.out) _ _ i0
                  obtain ⟨s2, v2, hc2⟩ := (RY.out.chg0 C2.out) _ _ j0
                  obtain ⟨s3, v3, hc3⟩ := (RX.out.chg0 C2.out) _ _ i1
                  obtain ⟨s4, v4, hc4⟩ := (RX.out.chg0 C2.out) _ _ i2
                  obtain ⟨s5, v5, hc5⟩ := (RY.out.chg0 C2.out) _ _ j1
                  obtain ⟨s6, v6, hc6⟩ := (RY.out.chg0 C2.out) _ _ j2
                  subst v1 v2
                  cases v3
                  cases v4
                  cases v5
                  cases v6
                  clear i0 i1 i2 j0 j1 j2
                  obtain ⟨x, hx0⟩ : ∃ x, x = cx[t] := ⟨_, rfl⟩
                  obtain ⟨y, hy0⟩ : ∃ y, y = cy[t] := ⟨_, rfl⟩
                  rw [← hx0] at hc1 hc3 hc4
                  rw [← hy0] at hc2 hc5 hc6
                  rw [← add1] at hc3 hc5
                  rw [← add2] at hc4 hc6
                  have d1 : (0 : Int) ≤ (t : Int) := by omega
                  have d2 : (t : Int) < (r1 : Int) := by omega
                  have d3 : (t : Int) < (r2 : Int) := by have := HR.out; omega
                  by_cases hx : x = y
                  · subst hx
                    have HX : Hid (cx[t] = cy[t]) := by rw [Hid, ← hx0, ← hy0]
                    clear hx0 hy0
                    obtain ⟨xo, xa, xb⟩ := x
                    simp only at hc1 hc2 hc3 hc4 hc5 hc6
                    go_wp2_with fail
                    go_quiet (fail)
                    go_wp2
                    go_roundw
                    case rel => exact ⟨t + 1, by omega, by go_num, take_nextG hct.out h3 h4 HX.out, C2.out.drewN _⟩
                    case measure => simp [intOf]; omega
                  · have HX : Hid (cx[t] ≠ cy[t]) := by rw [Hid, ← hx0, ← hy0]; exact hx
                    clear hx0 hy0
                    obtain ⟨xo, xa, xb⟩ := x
                    obtain ⟨yo, ya, yb⟩ := y
                    simp only at hc1 hc2 hc3 hc4 hc5 hc6
                    have hd : (xo == yo) = false ∨ ((xo == yo) = true ∧ (xa == ya) = false) ∨ ((xo == yo) = true ∧ (xa == ya) = true ∧ (xb == yb) = false) := by
                      by_cases p1 : xo = yo
                      · by_cases p2 : xa = ya
                        · by_cases p3 : xb = yb
                          · exact absurd (by rw [p1, p2, p3]) hx
                          · exact .inr (.inr ⟨by simpa using p1, by simpa using p2, by simpa using p3⟩)
                        · exact .inr (.inl ⟨by simpa using p1, by simpa using p2⟩)
                      · exact .inl (by simpa using p1)
                    clear hx
                    rcases hd with g1 | ⟨g1, g2⟩ | ⟨g1, g2, g3⟩
                    all_goals
                      go_wp2_with fail
                      go_quiet (fail)
                      go_wp2
                      go_ret
                      refine NOPE.out _ ((CQ.out.trans C2.out (fun _ _ h => h)).drewN _) (.inr (fun h => HX.out ?_))
                      subst h
                      rfl
                · have hcode : Hid (cx = cy) := by
                    have h5 := hct.out
                    rw [List.take_of_length_le (by have := LX.out; omega), List.take_of_length_le (by have := LY.out; have := HR.out; omega)] at h5
                    exact h5
                  go_wp2_with fail
                  go_roundw
                  case rel => exact ⟨k + 1, by omega, by go_num, take_nextG ht.out h1 h2 (by rw [← HX0.out, ← HY0.out, hcode.out]), ⟨BQ.out.1.chg C2.out (fun h => h), BQ.out.2.chg C2.out (fun h => h)⟩, CQ.out.trans C2.out (fun _ _ h => h)⟩
                  case measure => simp [intOf]; omega
            · have HR := Lib.hid hr
              have q3 : ((r1 : Int) != (r2 : Int)) = true := by simp; omega
              clear hr
              go_wp2_with fail
              go_quiet (fail)
              go_wp2
              go_ret
              exact NOPE.out _ (CK.out.drewN _) (.inr (fun h => HR.out (by rw [LX.out, LY.out, h])))
          · have HD := Lib.hid hd
            have q1 : (dx == dy) = false := by simpa using hd
            have q2 : (dx != dy) = true := by simpa using hd
            clear hd
            go_wp2_with fail
            go_quiet (fail)
            go_wp2
            go_ret
            exact NOPE.out _ (CK.out.drewN _) (.inl HD.out)
        · have hdays : Hid (p.days = q.days) := by
            have h3 := ht.out
            rw [List.take_of_length_le (by have := LD.out; omega), List.take_of_length_le (by have := MD.out; have := HL4.out; omega)] at h3
            exact h3
          have f3 := BK.out.1.at_ (i := 3) rfl
          have f4 := BK.out.1.at_ (i := 4) rfl
          have f5 := BK.out.1.at_ (i := 5) rfl
          have f6 := BK.out.1.at_ (i := 6) rfl
          have g3 := BK.out.2.at_ (i := 3) rfl
          have g4 := BK.out.2.at_ (i := 4) rfl
          have g5 := BK.out.2.at_ (i := 5) rfl
          have g6 := BK.out.2.at_ (i := 6) rfl
          have FIN : Hid ((b1 && b2 && b3 && b4) = b) := Lib.hid (by
            have h7 : b7 = true := by rw [← H7.out]; exact decide_eq_true hpool.out
            have h8 : b8 = true := by rw [← H8.out]; exact decide_eq_true hdays.out
            have h9 := HB.out
            rw [h7, h8] at h9
            simpa using h9)
          cases b1
          · go_wp2_with fail
            go_ret
            exact ⟨ret_bool (by rw [← FIN.out]; simp), CK.out⟩
          cases b2
          · go_wp2_with fail
            go_ret
            exact ⟨ret_bool (by rw [← FIN.out]; simp), CK.out⟩
          cases b3
          · go_wp2_with fail
            go_ret
            exact ⟨ret_bool (by rw [← FIN.out]; simp), CK.out⟩
          cases b4
          · go_wp2_with fail
            go_ret
            exact ⟨ret_bool (by rw [← FIN.out]; simp), CK.out⟩
          go_wp2_with fail
          go_ret
          exact ⟨ret_bool (by rw [← FIN.out]; simp), CK.out⟩
end Go.Proofs.Ytlnomadhgoblkaa.Kit
