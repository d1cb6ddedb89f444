/- Programs: a copy is as it was, behind the ends of its lists too (intact). -/
import Derived.Test.YtlnomadhgoblkaaProg
import Derived.Test.YtlnomadhgoblkaaPgO
set_option linter.unusedVariables false
set_option linter.unusedSimpArgs false
namespace Go.Proofs.Ytlnomadhgoblkaa.Kit
open Go.RowKit
/-- the cell behind the end -/
theorem MkG.at_ {w : World} {ad : Addr} {n c sz : Nat} {cs mark : List Value} (h : MkG w (.slice (some ad) n c) n cs mark) (hl : cs.length = n * sz) : n + 1 ≤ c ∧ ∀ j u, mark[j]? = some u → w.cell? (ad.add (n * sz + j)) = some u := by
  rcases h with ⟨c', h⟩ | ⟨ad', c', h, h1, h2⟩
  · simp at h
  · simp only [Value.slice.injEq, Option.some.injEq] at h
    obtain ⟨rfl, _, rfl⟩ := h
    refine ⟨h1, fun j u hj => ?_⟩
    obtain ⟨a, e, hc⟩ := h2 (n * sz + j) u (by rw [List.getElem?_append_right (by omega), hl]; simpa using hj)
    injection e with e
    subst e
    exact hc
set_option maxRecDepth 20000 in
set_option maxHeartbeats 6400000 in
theorem intactP {s t : ProgS} {p : ProgV} {w : World} (hp : Hid (RdProg w s p)) (hm : Hid (Marked w s p)) (hq : Hid (RdProg w t p)) (sp : SmallP p) :
    Calls Try.prog 16 #[progVal s p, progVal t p] w fun e w' => e = .returned (.bool true) ∧ Chg (fun _ => False) w w' := by
  obtain ⟨n1, n2, n3, n4, A1, A2, A3, A4, c1, c2, c3, c4, HP0⟩ := hp.out.apart
  obtain ⟨m1, m2, m3, m4, B1, B2, B3, B4, d1, d2, d3, d4, HQ0⟩ := hq.out.apart
  have HP := Lib.hid HP0
  have EQ := Lib.hid HP0.eq
  have EQ2 := Lib.hid HQ0.eq
  rw [HP.out.eq, HQ0.eq]
  have S1 : n1 * 16 ≤ 140737488351232 := by have := HP0.ln; have := sp.names; omega
  have S2 : n2 * 16 ≤ 140737488351232 := by have := HP0.lc; have := sp.curs; omega
  have S3 : n3 * 8 ≤ 140737488351232 := by have := HP0.lk; have := sp.pool; omega
  have S4 : n4 * 32 ≤ 140737488351232 := by have := HP0.ld; have := sp.days; omega
  have SC : Hid (∀ x ∈ p.days, x.code.length * 24 ≤ 140737488351232) := sp.code
  have LN : Hid ((strs p.names).length = n1 * 1) := by rw [Hid, strs_length, HP0.ln, Nat.mul_one]
  have LC : Hid ((strs p.curs).length = n2 * 1) := by rw [Hid, strs_length, HP0.lc, Nat.mul_one]
  have LK : Hid ((nums .i64 p.pool).length = n3 * 1) := by rw [Hid, nums_length, HP0.lk, Nat.mul_one]
  have LD := Lib.hid HP0.ld
  have hval : progVal s p = .agg #[.slice A1 n1 c1, .slice A2 n2 c2, .slice A3 n3 c3, .int .i64 p.horizon, .int .i64 p.cells, .int .i64 p.slots, .int .i64 p.stack, .slice A4 n4 c4] := HP0.eq
  have hv := hval
  simp only [progVal, Value.agg.injEq, Array.mk.injEq, List.cons.injEq, and_true, true_and] at hv
  obtain ⟨v1, v2, v3, v4⟩ := hv
  have M1 : Hid (MkG w (.slice A1 n1 c1) n1 (strs p.names) [.string behind]) := by rw [Hid, ← v1, HP0.ln]; exact hm.out.names
  have M2 : Hid (MkG w (.slice A2 n2 c2) n2 (strs p.curs) [.string behind]) := by rw [Hid, ← v2, HP0.lc]; exact hm.out.curs
  have M3 : Hid (MkG w (.slice A3 n3 c3) n3 (nums .i64 p.pool) [.int .i64 (-4711)]) := by rw [Hid, ← v3, HP0.lk]; exact hm.out.pool
  have MC := Lib.hid hm.out.code
  have q1 := HP0.hn
  have q2 := HP0.hc
  have q3 := HP0.hk
  have q4 := HP0.hd
  clear hval v1 v2 v3 v4 HQ0
  obtain ⟨i1, hi1⟩ : ∃ x, x = p.horizon := ⟨_, rfl⟩
  obtain ⟨i2, hi2⟩ : ∃ x, x = p.cells := ⟨_, rfl⟩
  obtain ⟨i3, hi3⟩ : ∃ x, x = p.slots := ⟨_, rfl⟩
  obtain ⟨i4, hi4⟩ : ∃ x, x = p.stack := ⟨_, rfl⟩
  have EQ1 : Hid (progVal s p = .agg #[.slice A1 n1 c1, .slice A2 n2 c2, .slice A3 n3 c3, .int .i64 i1, .int .i64 i2, .int .i64 i3, .int .i64 i4, .slice A4 n4 c4]) := by rw [Hid, EQ.out, hi1, hi2, hi3, hi4]
  have EQ3 : Hid (progVal t p = .agg #[.slice B1 m1 d1, .slice B2 m2 d2, .slice B3 m3 d3, .int .i64 i1, .int .i64 i2, .int .i64 i3, .int .i64 i4, .slice B4 m4 d4]) := by rw [Hid, EQ2.out, hi1, hi2, hi3, hi4]
  rw [← hi1, ← hi2, ← hi3, ← hi4]
  clear hi1 hi2 hi3 hi4 HP0 EQ EQ2
  obtain ⟨B, hB⟩ : ∃ B, B = w.heap.size := ⟨_, rfl⟩
  have HB := Lib.hid hB
  obtain ⟨w0, hw0⟩ : ∃ x, x = (w.alloc (.cells #[.slice A1 n1 c1, .slice A2 n2 c2, .slice A3 n3 c3, .int .i64 i1, .int .i64 i2, .int .i64 i3, .int .i64 i4, .slice A4 n4 c4] 26)).alloc (.cells #[.slice B1 m1 d1, .slice B2 m2 d2, .slice B3 m3 d3, .int .i64 i1, .int .i64 i2, .int .i64 i3, .int .i64 i4, .slice B4 m4 d4] 26) := ⟨_, rfl⟩
  have C0 : Hid (Chg (fun _ => False) w w0) := by rw [hw0]; exact ((Chg.refl _ w).alloc _).alloc _
  have W0 : Hid (Blk w0 B 26 [.slice A1 n1 c1, .slice A2 n2 c2, .slice A3 n3 c3, .int .i64 i1, .int .i64 i2, .int .i64 i3, .int .i64 i4, .slice A4 n4 c4]) := by rw [hw0, hB]; exact (Blk.new w _ _).alloc _
  have P0 : Hid (RdProg w0 s p) := hp.out.chg0 C0.out
  have Q0 : Hid (RdProg w0 t p) := hq.out.chg0 C0.out
  go_enter Try.func16, Try.ntmps16
  go_wp2_with fail
  rw [← hw0, ← hB]
  clear hw0 hB
  refine (show Calls Try.prog 15 #[.agg #[.slice A1 n1 c1, .slice A2 n2 c2, .slice A3 n3 c3, .int .i64 i1, .int .i64 i2, .int .i64 i3, .int .i64 i4, .slice A4 n4 c4], .agg #[.slice B1 m1 d1, .slice B2 m2 d2, .slice B3 m3 d3, .int .i64 i1, .int .i64 i2, .int .i64 i3, .int .i64 i4, .slice B4 m4 d4]] _ _ from by rw [← EQ1.out, ← EQ3.out]; exact refEqual (b := true) P0 Q0 sp sp (Lib.hid (by simp))).mono ?_
  rintro e w1 ⟨rfl, cc⟩
  have C1 : Hid (Chg (fun _ => False) w w1) := C0.out.trans cc (fun _ _ h => h)
  have W1 : Hid (Blk w1 B 26 [.slice A1 n1 c1, .slice A2 n2 c2, .slice A3 n3 c3, .int .i64 i1, .int .i64 i2, .int .i64 i3, .int .i64 i4, .slice A4 n4 c4]) := W0.out.chg cc (fun h => h)
  clear cc C0 W0 P0 Q0
  have bx := (show w1.cell? ⟨B, 0, none⟩ = some (.slice A1 n1 c1) from W1.out.at_ (i := 0) rfl)
  obtain ⟨e1, he1⟩ : ∃ b, b = (!A1.isNone) := ⟨_, rfl⟩
  have HE1 := Lib.hid he1
  have hn1 : ∀ W : World, (binOp .neq 22 (.slice A1 n1 c1) (.slice none 0 0)).run Try.prog W = .ok (.bool e1) W := fun W => by rw [HE1.out]; exact run_neq_slice_nil_any W _ _ A1 n1 c1 0 0 Try.underlying22
  clear he1
  go_upto_if 19 with fail
  clear hn1
  go_cut [] from 5 to 94 (fun wx => Hid (Blk wx B 26 [.slice A1 n1 c1, .slice A2 n2 c2, .slice A3 n3 c3, .int .i64 i1, .int .i64 i2, .int .i64 i3, .int .i64 i4, .slice A4 n4 c4]) ∧ Hid (Chg (fun _ => False) w wx))
  case first =>
    rcases A1 with _ | a1
    · obtain rfl : e1 = false := HE1.out
      go_wp2_with fail
      go_meet
      case rel => exact ⟨W1.out, C1.out⟩
    · obtain rfl : e1 = true := HE1.out
      obtain ⟨z1, z2⟩ := (M1.out.chg0 C1.out).at_ LN.out
      have z3 := z2 0 _ rfl
      rw [Nat.mul_one, Nat.add_zero] at z3
      clear z2
      have z4 : (n1 : Int) + 1 ≤ (c1 : Int) := by omega
      have z5 : (0 : Int) ≤ (n1 : Int) + 1 := by omega
      have z6 : (n1 : Int) < (n1 : Int) + 1 := by omega
      have sf : (behind.toList == [66, 101, 104, 105, 110, 100]) = true := by rw [Lib.toList_data]; rfl
      have sf2 : (behind.toList != [66, 101, 104, 105, 110, 100]) = false := by rw [bne, sf]; rfl
      go_wp2_with fail
      go_meet
      case rel => exact ⟨W1.out, C1.out⟩
  case rest =>
    obtain ⟨W2, C2⟩ := hcut
    obtain ⟨w2, hw2⟩ : ∃ x, x = wc := ⟨_, rfl⟩
    subst hw2
    clear W1 C1 bx
    have bx := (show w2.cell? ⟨B, 1, none⟩ = some (.slice A2 n2 c2) from W2.out.at_ (i := 1) rfl)
    obtain ⟨e2, he2⟩ : ∃ b, b = (!A2.isNone) := ⟨_, rfl⟩
    have HE2 := Lib.hid he2
    have hn2 : ∀ W : World, (binOp .neq 22 (.slice A2 n2 c2) (.slice none 0 0)).run Try.prog W = .ok (.bool e2) W := fun W => by rw [HE2.out]; exact run_neq_slice_nil_any W _ _ A2 n2 c2 0 0 Try.underlying22
    clear he2
    go_upto_if 36 with fail
    clear hn2
    go_cut [] from 5 to 94 (fun wx => Hid (Blk wx B 26 [.slice A1 n1 c1, .slice A2 n2 c2, .slice A3 n3 c3, .int .i64 i1, .int .i64 i2, .int .i64 i3, .int .i64 i4, .slice A4 n4 c4]) ∧ Hid (Chg (fun _ => False) w wx))
    case first =>
      rcases A2 with _ | a2
      · obtain rfl : e2 = false := HE2.out
        go_wp2_with fail
        go_meet
        case rel => exact ⟨W2.out, C2.out⟩
      · obtain rfl : e2 = true := HE2.out
        obtain ⟨z1, z2⟩ := (M2.out.chg0 C2.out).at_ LC.out
        have z3 := z2 0 _ rfl
        rw [Nat.mul_one, Nat.add_zero] at z3
        clear z2
        have z4 : (n2 : Int) + 1 ≤ (c2 : Int) := by omega
        have z5 : (0 : Int) ≤ (n2 : Int) + 1 := by omega
        have z6 : (n2 : Int) < (n2 : Int) + 1 := by omega
        have sf : (behind.toList == [66, 101, 104, 105, 110, 100]) = true := by rw [Lib.toList_data]; rfl
        have sf2 : (behind.toList != [66, 101, 104, 105, 110, 100]) = false := by rw [bne, sf]; rfl
        go_wp2_with fail
        go_meet
        case rel => exact ⟨W2.out, C2.out⟩
    case rest =>
      obtain ⟨W3, C3⟩ := hcut
      obtain ⟨w3, hw3⟩ : ∃ x, x = wc := ⟨_, rfl⟩
      subst hw3
      clear W2 C2 bx
      have bx := (show w3.cell? ⟨B, 2, none⟩ = some (.slice A3 n3 c3) from W3.out.at_ (i := 2) rfl)
      obtain ⟨e3, he3⟩ : ∃ b, b = (!A3.isNone) := ⟨_, rfl⟩
      have HE3 := Lib.hid he3
      have hn3 : ∀ W : World, (binOp .neq 23 (.slice A3 n3 c3) (.slice none 0 0)).run Try.prog W = .ok (.bool e3) W := fun W => by rw [HE3.out]; exact run_neq_slice_nil_any W _ _ A3 n3 c3 0 0 Try.underlying23
      clear he3
      go_upto_if 53 with fail
      clear hn3
      go_cut [] from 5 to 94 (fun wx => Hid (Blk wx B 26 [.slice A1 n1 c1, .slice A2 n2 c2, .slice A3 n3 c3, .int .i64 i1, .int .i64 i2, .int .i64 i3, .int .i64 i4, .slice A4 n4 c4]) ∧ Hid (Chg (fun _ => False) w wx))
      case first =>
        rcases A3 with _ | a3
        · obtain rfl : e3 = false := HE3.out
          go_wp2_with fail
          go_meet
          case rel => exact ⟨W3.out, C3.out⟩
        · obtain rfl : e3 = true := HE3.out
          obtain ⟨z1, z2⟩ := (M3.out.chg0 C3.out).at_ LK.out
          have z3 := z2 0 _ rfl
          rw [Nat.mul_one, Nat.add_zero] at z3
          clear z2
          have z4 : (n3 : Int) + 1 ≤ (c3 : Int) := by omega
          have z5 : (0 : Int) ≤ (n3 : Int) + 1 := by omega
          have z6 : (n3 : Int) < (n3 : Int) + 1 := by omega
          go_wp2_with fail
          go_meet
          case rel => exact ⟨W3.out, C3.out⟩
      case rest =>
        obtain ⟨W4, C4⟩ := hcut
        obtain ⟨w4, hw4⟩ : ∃ x, x = wc := ⟨_, rfl⟩
        subst hw4
        clear W3 C3 bx
        go_wp2_with fail
        go_loopw [9, 10, 11] (fun i _ _ wr => ∃ k : Nat, k ≤ n4 ∧ i = .int .i64 k ∧ Hid (Blk wr B 26 [.slice A1 n1 c1, .slice A2 n2 c2, .slice A3 n3 c3, .int .i64 i1, .int .i64 i2, .int .i64 i3, .int .i64 i4, .slice A4 n4 c4]) ∧ Hid (Chg (fun _ => False) w wr)) (fun i _ _ _ => n4 - (intOf i).toNat)
        case atStart => exact ⟨0, Nat.zero_le _, rfl, W4.out, C4.out⟩
        case round =>
          obtain ⟨k, hk, rfl, BK, CK⟩ := hrel
          have bx := BK.out.at_ (i := 7) rfl
          by_cases hlt : k < n4
          · have h1 : k < p.days.length := by have := LD.out; omega
            have h2 : k < s.codes.length := by rw [← hp.out.lenC]; exact h1
            obtain ⟨g1, g2⟩ := dayCells_get p.days s.codes k h1 h2
            obtain ⟨a4, e4, x2⟩ := (HP.out.rd.chg0 CK.out).rd _ _ g2
            have MK := (MC.out k h1 h2).chg0 CK.out
            obtain ⟨D, c, hv, hc, hmx, hr⟩ := ((hp.out.code k h1 h2).chg0 CK.out).ex
            have hcl := insCells_length p.days[k].code
            have hsz := SC.out _ (List.getElem_mem h1)
            obtain ⟨r, hr0⟩ : ∃ r, r = p.days[k].code.length := ⟨_, rfl⟩
            rw [← hr0] at hv hc hcl hsz MK
            rw [hv] at x2 MK
            rw [← add1] at x2
            have HCL := Lib.hid hcl
            have HMK := Lib.hid MK
            clear g1 g2 hv hmx hr hr0 hcl MK
            subst e4
            have b1 : (0 : Int) ≤ (k : Int) := by omega
            have b2 : (k : Int) < (n4 : Int) := by omega
            rcases D with _ | a5
            · have hnil : ∀ W : World, (binOp .neq 77 (.slice none r c) (.slice none 0 0)).run Try.prog W = .ok (.bool false) W := fun W => run_neq_slice_nil_any W _ _ none r c 0 0 Try.underlying77
              go_wp2_with fail
              go_roundw
              case rel => exact ⟨k + 1, by omega, by go_num, BK.out, CK.out⟩
              case measure => simp [intOf]; omega
            · have hneq : ∀ W : World, (binOp .neq 77 (.slice (some a5) r c) (.slice none 0 0)).run Try.prog W = .ok (.bool true) W := fun W => run_neq_slice_nil_any W _ _ (some a5) r c 0 0 Try.underlying77
              obtain ⟨z1, z2⟩ := HMK.out.at_ HCL.out
              have z3 := z2 0 _ rfl
              rw [Nat.add_zero] at z3
              clear z2
              have z4 : (r : Int) + 1 ≤ (c : Int) := by omega
              have z5 : (0 : Int) ≤ (r : Int) + 1 := by omega
              have z6 : (r : Int) < (r : Int) + 1 := by omega
              go_wp2_with fail
              go_roundw
              case rel => exact ⟨k + 1, by omega, by go_num, BK.out, CK.out⟩
              case measure => simp [intOf]; omega
          · go_wp2_with fail
            go_ret
            exact ⟨rfl, CK.out⟩
end Go.Proofs.Ytlnomadhgoblkaa.Kit
