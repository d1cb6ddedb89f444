/- The walk of JournalRefused. -/
import Derived.Test.YtlnomadhgoblkaaProg
import Derived.Test.YtlnomadhgoblkaaJk
set_option linter.unusedVariables false
set_option linter.unusedSimpArgs false
namespace Go.Proofs.Ytlnomadhgoblkaa.Kit
open Go.RowKit
/-- Append of a kind that is none: nothing changes -/
theorem jappendBad {g : Nat} {x A : _} {m c : Nat} {w : World} (h : x < 1 ∨ (255 : Int) < x) :
    Calls Try.prog 19 #[.pointer (some ⟨g, 0, none⟩), .agg #[.int .i64 x, .slice A m c]] w fun e w' => e = .returned (.int .i64 1) ∧ Chg (fun _ => False) w w' := by
  by_cases h1 : x < 1
  · go_enter Try.func19, Try.ntmps19
    go_wp2_with fail
    go_ret
    exact ⟨rfl, (Chg.refl _ w).alloc _⟩
  · have h2 : 255 < x := by omega
    clear h
    go_enter Try.func19, Try.ntmps19
    go_wp2_with fail
    go_ret
    exact ⟨rfl, (Chg.refl _ w).alloc _⟩
theorem open_magic {b : List Int} {k : Nat} (hb : b.length ≤ 268435456) (hk : k < b.length) (hk8 : k < 8) (h : b[k]? ≠ jhead[k]?) : jopenRes b = (none, 0, 43) := by
  rw [jopenRes, if_neg (by omega), if_pos]
  intro e
  apply h
  have := congrArg (·[k]?) e
  simp only [List.getElem?_take, if_pos hk8, if_pos hk] at this
  exact this
set_option maxRecDepth 20000 in
set_option maxHeartbeats 6400000 in
theorem journalRefusedWalk (w : World) (A : Option Addr) (c : Nat) (l : List SecV) (hr : Hid (RdSecs w A l)) (hl : l.length ≤ 4398046511104) (hsz : Hid (∀ x ∈ l, x.body.length ≤ 140737488351232)) (q : Int) (q0 : -9223372036854775808 ≤ q) (q1 : q ≤ 9223372036854775807)
    (B : Option Addr) (cb : Nat) (ot : List Int) (hrb : Hid (Rd w .u8 B ot)) (hlb : ot.length ≤ 140737488351232) (hbb : Byt ot) (hcb : ot.length ≤ cb) (hmb : cb ≤ maxLen) :
    Calls Try.prog 6 #[.slice A l.length c, .int .i64 q, .slice B ot.length cb] w fun e w' => e = .returned (.bool true) ∧ Below w.heap.size w w' := by
  obtain ⟨n, hn⟩ : ∃ n : Nat, n = l.length := ⟨_, rfl⟩
  obtain ⟨no, hno⟩ : ∃ n : Nat, n = ot.length := ⟨_, rfl⟩
  have HN := Lib.hid hn
  have HNO := Lib.hid hno
  have HBB := Lib.hid hbb
  rw [← hn, ← hno]
  rw [← hn] at hl
  rw [← hno] at hlb hcb
  clear hn hno hbb
  go_enter Try.func6, Try.ntmps6
  go_wp2_with fail
  refine (filledC HN hl hr hsz).mono ?_
  rintro e w1 ⟨gj, D, A1, n1, c1, ls, rfl, f1, m2, m3, m4⟩
  have F1 := Lib.hid f1
  have C1 := Lib.hid m4
  have hn1 : n1 ≤ 33554432 := f1.nb
  have hgl : Hid (∀ x ∈ ls, GoodRec x) := f1.good
  have hsm : Hid ((jnlBytes ls).length ≤ 268435456) := f1.small
  have hln : Hid (n1 = ls.length) := f1.len
  clear f1 m2 m3 m4
  go_wp2_with fail
  refine (jbytesC hsm (Lib.hid F1.out.jn)).mono ?_
  rintro e w3 ⟨A3, n3, c3, rfl, m3, hn3, hc3⟩
  have F3 := Lib.hid (F1.out.old m3.chg)
  have C3 : Hid (Chg (fun _ => False) w w3) := C1.out.trans m3.chg (fun _ _ h => h)
  have R3 : Hid (Rd w3 .u8 A3 (jnlBytes ls)) := m3.rd
  have L3 : Hid (n3 = (jnlBytes ls).length) := m3.len
  have hl3 : Hid ((jnlBytes ls).length ≤ 140737488355328) := by have := hsm.out; rw [Hid]; omega
  clear m3
  obtain ⟨bad, hbad⟩ : ∃ b : Bool, b = decide (q < 1 ∨ 255 < q) := ⟨_, rfl⟩
  have HBAD := Lib.hid hbad
  go_upto_region 5 with fail
  go_cut [29] from 15 to 50 (fun s wx => s = .bool bad ∧ wx = w3)
  case first =>
    by_cases h1 : q < 1
    · have e1 : bad = true := by rw [hbad]; simp [h1]
      clear hbad
      subst e1
      go_wp2_with fail
      go_meet
      case rel => exact ⟨rfl, rfl⟩
    · by_cases h2 : 255 < q
      · have e1 : bad = true := by rw [hbad]; simp [h2]
        clear hbad
        subst e1
        go_wp2_with fail
        go_meet
        case rel => exact ⟨rfl, rfl⟩
      · have e1 : bad = false := by rw [hbad]; simp [h1, h2]
        clear hbad
        subst e1
        go_wp2_with fail
        go_meet
        case rel => exact ⟨rfl, rfl⟩
  case rest =>
    obtain ⟨rfl, rfl⟩ := hcut
    clear hbad
    go_upto_if 29 with fail
    go_cut [] from 15 to 50 (fun wx => Hid (Chg (fun _ => False) w wx))
    case first =>
      cases bad with
      | true =>
        have hb1 : q < 1 ∨ 255 < q := of_decide_eq_true HBAD.out.symm
        have HB1 := Lib.hid hb1
        clear hb1
        go_wp2_with fail
        refine (jappendBad HB1.out).mono ?_
        rintro e w4 ⟨rfl, k1⟩
        have F4 := Lib.hid (F3.out.old k1)
        have C4 : Hid (Chg (fun _ => False) w w4) := C3.out.trans k1 (fun _ _ h => h)
        have R4 : Hid (Rd w4 .u8 A3 (jnlBytes ls)) := R3.out.below k1.done
        clear k1
        go_wp2_with fail
        refine (holdsC F4 (Nat.le_refl _) (Lib.hid F4.out.jn) (by rw [Hid, F4.out.len, List.take_length])).mono ?_
        rintro e w5 ⟨rfl, k2⟩
        have F5 := Lib.hid (F4.out.old k2)
        have C5 : Hid (Chg (fun _ => False) w w5) := C4.out.trans k2 (fun _ _ h => h)
        have R5 : Hid (Rd w5 .u8 A3 (jnlBytes ls)) := R4.out.below k2.done
        clear k2
        go_wp2_with fail
        refine (jbytesC hsm (Lib.hid F5.out.jn)).mono ?_
        rintro e w7 ⟨A7, n7, c7, rfl, m3, hn7, hc7⟩
        have C7 : Hid (Chg (fun _ => False) w w7) := C5.out.trans m3.chg (fun _ _ h => h)
        have R7 : Hid (Rd w7 .u8 A3 (jnlBytes ls)) := R5.out.below m3.chg.done
        have S7 : Hid (Rd w7 .u8 A7 (jnlBytes ls)) := m3.rd
        have L7 : Hid (n7 = (jnlBytes ls).length) := m3.len
        clear m3
        go_wp2_with fail
        refine (sameBytes' (b := true) L7 L3 hl3 S7 R7 (by rw [Hid]; simp)).mono ?_
        rintro e wq ⟨rfl, qa, rfl⟩
        go_wp2_with fail
        go_meet
        case rel => exact C7.out.drewN _
      | false =>
        go_wp2_with fail
        go_meet
        case rel => exact C3.out
    case rest =>
      have CW0 := hcut
      clear hcut
      go_wp2_with fail
      go_loopw [11] (fun i wr => ∃ k : Nat, k ≤ no ∧ k ≤ 8 ∧ i = .int .i64 k ∧ Hid (Chg (fun _ => False) w wr)) (fun i _ => 8 - (intOf i).toNat)
      case atStart => exact ⟨0, Nat.zero_le _, by omega, rfl, CW0.out⟩
      case round =>
        obtain ⟨k, hk, hk8, rfl, CW⟩ := hrel
        have RB : Hid (Rd wr .u8 B ot) := hrb.out.below CW.out.done
        by_cases hlt : k < no
        · by_cases hlt8 : k < 8
          · have q2 : (0 : Int) ≤ (k : Int) := by omega
            have q3 : (k : Int) < (no : Int) := by omega
            have q4 : (k : Int) < 8 := by omega
            obtain ⟨adb, hB, hcb1⟩ := RB.out k (by rw [← HNO.out]; exact hlt)
            subst hB
            have hot : k < ot.length := by rw [← HNO.out]; exact hlt
            obtain ⟨y, hy⟩ : ∃ y, y = ot[k] := ⟨_, rfl⟩
            rw [← hy] at hcb1
            have HY : Hid (ot[k]? = some y) := by rw [Hid, hy, List.getElem?_eq_getElem]
            obtain ⟨z, hz⟩ : ∃ z, jhead[k]? = some z := ⟨jhead[k]'(by rw [jhead_length]; exact hlt8), List.getElem?_eq_getElem _⟩
            have hidx : ∀ h, ((({ data := #[80, 65, 89, 74, 82, 78, 76, 49] } : ByteArray)[k]'h).toNat : Int) = z := by
              have hcas : k = 0 ∨ k = 1 ∨ k = 2 ∨ k = 3 ∨ k = 4 ∨ k = 5 ∨ k = 6 ∨ k = 7 := by omega
              intro h
              rcases hcas with rfl | rfl | rfl | rfl | rfl | rfl | rfl | rfl <;> (simp only [jhead, List.getElem?_cons_zero, List.getElem?_cons_succ, Option.some.injEq] at hz; subst hz; rfl)
            have HZ := Lib.hid hz
            clear hz hy
            obtain ⟨go, hgo⟩ : ∃ b : Bool, b = (decide (y ≠ z) && decide (no ≤ 268435456)) := ⟨_, rfl⟩
            have HGO := Lib.hid hgo
            clear hgo
            go_upto_region 12 with fail
            go_cut [73] (fun s wx => s = .bool go ∧ Hid (∃ q, wx = wr.drewN q))
            case first =>
              by_cases hyz : y = z
              · have hg : go = false := by rw [HGO.out]; simp [hyz]
                subst hg
                subst hyz
                go_quiet (fail)
                go_wp2_with fail
                go_meet
                case rel => exact ⟨rfl, _, rfl⟩
              · have hy2 : (y != z) = true := by simp [hyz]
                by_cases hno : no ≤ 268435456
                · have hg : go = true := by rw [HGO.out]; simp [hyz, hno]
                  have hno2 : (no : Int) ≤ 268435456 := by omega
                  clear hyz
                  subst hg
                  go_quiet (fail)
                  go_wp2_with fail
                  go_meet
                  case rel => exact ⟨rfl, _, rfl⟩
                · have hg : go = false := by rw [HGO.out]; simp [hno]
                  have hno2 : ¬ (no : Int) ≤ 268435456 := by omega
                  clear hyz
                  subst hg
                  go_quiet (fail)
                  go_wp2_with fail
                  go_meet
                  case rel => exact ⟨rfl, _, rfl⟩
            case rest =>
              obtain ⟨rfl, hcw⟩ := hcut
              obtain ⟨qq, hqq⟩ := hcw.out
              have C9 : Hid (Chg (fun _ => False) w wc) := by rw [hqq]; exact CW.out.drewN qq
              have R9 : Hid (Rd wc .u8 (some adb) ot) := by rw [hqq]; exact RB.out.below ((Chg.refl (fun _ => False) _).drewN qq).done
              have HQQ := Lib.hid hqq
              clear hqq hcb1
              cases go with
              | true =>
                have h2 : y ≠ z ∧ no ≤ 268435456 := by
                  have := HGO.out.symm
                  rw [Bool.and_eq_true, decide_eq_true_eq, decide_eq_true_eq] at this
                  exact this
                have hR : Hid (jopenRes ot = (none, 0, 43)) := open_magic (k := k) (by rw [← HNO.out]; exact h2.2) hot hlt8 (by
                  rw [HY.out, HZ.out]
                  intro e
                  injection e with e
                  exact h2.1 e)
                clear h2
                go_wp2_with fail
                refine (jopen HNO hcb hmb HBB R9).mono ?_
                rw [hR.out]
                rintro e w10 ⟨rfl, k1⟩
                have C10 : Hid (Chg (fun _ => False) w w10) := C9.out.trans k1 (fun _ _ h => h)
                clear k1
                go_wp2_with fail
                go_ret
                exact ⟨rfl, C10.out.done⟩
              | false =>
                go_wp2_with fail
                go_roundw
                case rel => exact ⟨k + 1, by omega, by omega, by go_num, C9⟩
                case measure => simp [intOf]; omega
          · have q4 : ¬ (k : Int) < 8 := by omega
            have q3 : (k : Int) < (no : Int) := by omega
            go_wp2_with fail
            go_ret
            exact ⟨rfl, CW.out.done⟩
        · have q3 : ¬ (k : Int) < (no : Int) := by omega
          go_wp2_with fail
          go_ret
          exact ⟨rfl, CW.out.done⟩
end Go.Proofs.Ytlnomadhgoblkaa.Kit
