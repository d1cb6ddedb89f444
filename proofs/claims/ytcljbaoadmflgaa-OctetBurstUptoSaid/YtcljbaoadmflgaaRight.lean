/- OctetSealed: right, sameSections. -/
import Derived.Test.YtcljbaoadmflgaaProg
import Derived.Test.YtcljbaoadmflgaaSecs
import Derived.Test.YtcljbaoadmflgaaOctL1
import Derived.Test.YtcljbaoadmflgaaAlike
import Derived.Deep.QuietTactic
import Derived.BigQuiet
set_option linter.unusedVariables false
set_option linter.unusedSimpArgs false
namespace Go.Proofs.Ytcljbaoadmflgaa.Kit
open Go.RowKit
def rightB (s : ByteArray) (l : List SecV) : Bool := decide (s.size = 8) && goodSecs l
set_option maxRecDepth 20000 in
set_option maxHeartbeats 1600000 in
theorem rightGood (s : ByteArray) (A : Option Addr) (n c : Nat) (l : List SecV) (w : World) (hs : s.size = 8) (h64 : n ≤ 64) (HN : Hid (n = l.length)) (hnl : n ≤ c) (hmx : c ≤ maxLen) (hr : Hid (RdSecs w A l)) :
    Calls Try.prog 47 #[.string s, .slice A n c] w fun e w' => e = .returned (.bool (goodSecs l)) ∧ ∃ q, w' = w.drewN q := by
  have hn63 : (n : Int) ≤ 9223372036854775807 := by simp only [maxLen] at hmx; omega
  have h8i : (s.size : Int) = 8 := by omega
  have h64i : ¬ (64 : Int) < (n : Int) := by omega
  clear hs
  go_enter Try.func47, Try.ntmps47
  go_wp2_with fail
  go_loopw [5] (fun i wr => ∃ k : Nat, k ≤ n ∧ i = .int .i64 k ∧ Hid (goodFrom 0 l = goodFrom (lastAt l k) (l.drop k)) ∧ Hid (0 ≤ lastAt l k) ∧ Hid (∃ q, wr = w.drewN q)) (fun i _ => n - (intOf i).toNat)
  case atStart => exact ⟨0, Nat.zero_le _, rfl, rfl, Int.le_refl 0, 0, rfl⟩
  case round =>
    obtain ⟨k, hk, rfl, GK, LK, HW⟩ := hrel
    by_cases hlt : k < n
    · have hkl : k < l.length := by rw [← HN.out]; exact hlt
      obtain ⟨ad, rfl, sa⟩ := hr.out k hkl
      have f0 : wr.cell? (ad.add (k * 2)) = some (.int .i64 l[k].id) := by
        obtain ⟨q, hq⟩ := HW.out
        rw [hq]
        exact sa.id
      have G1 := good_step hkl
      have hla : Hid (lastAt l (k + 1) = l[k].id) := by rw [Hid]; simp [lastAt, List.getElem?_eq_getElem hkl]
      have b1 : (0 : Int) ≤ (k : Int) := by omega
      have b2 : (k : Int) < (n : Int) := by omega
      by_cases q1 : l[k].id < 1
      · have hbad : Hid (goodSecs l = false) := by
          have h1 := LK.out
          have h2 : goodFrom 0 l = false := by rw [GK.out, G1, decide_eq_false (by omega), Bool.false_and]
          rw [Hid, goodSecs, h2, Bool.and_false]
        clear G1 hla
        generalize l[k].id = x at f0 q1
        go_wp2_with fail
        go_quiet (fail)
        go_wp2_with fail
        go_ret
        obtain ⟨q, hq⟩ := HW.out
        exact ⟨ret_bool hbad.out.symm, _, by rw [hq, World.drewN_drewN]⟩
      · by_cases q2 : 255 < l[k].id
        · have hbad : Hid (goodSecs l = false) := by
            have h2 : goodFrom 0 l = false := by rw [GK.out, G1, decide_eq_false (p := l[k].id ≤ 255) (by omega), Bool.false_and, Bool.and_false]
            rw [Hid, goodSecs, h2, Bool.and_false]
          clear G1 hla
          generalize l[k].id = x at f0 q1 q2
          have q1' : decide (x < 1) = false := decide_eq_false q1
          go_wp2_with fail
          go_quiet (fail)
          go_wp2_with fail
          go_ret
          obtain ⟨q, hq⟩ := HW.out
          exact ⟨ret_bool hbad.out.symm, _, by rw [hq, World.drewN_drewN]⟩
        · have hgo : Hid (lastAt l k < l[k].id → goodFrom 0 l = goodFrom (lastAt l (k + 1)) (l.drop (k + 1))) := fun h => by
            rw [GK.out, G1, decide_eq_true h, decide_eq_true (p := l[k].id ≤ 255) (by omega), Bool.true_and, Bool.true_and]
          have hnot : Hid (¬ lastAt l k < l[k].id → goodSecs l = false) := fun h => by
            have h2 : goodFrom 0 l = false := by rw [GK.out, G1, decide_eq_false h, Bool.false_and]
            rw [goodSecs, h2, Bool.and_false]
          clear G1
          rcases k with _ | j
          · have hx : Hid (lastAt l 0 < l[0].id) := by rw [Hid]; show (0 : Int) < _; omega
            have hd : decide ((0 : Int) > 0) = false := rfl
            generalize l[0].id = x at f0 q1 q2 hla hgo hnot hx
            have q1' : decide (x < 1) = false := decide_eq_false q1
            have q2' : decide (255 < x) = false := decide_eq_false q2
            have f0' : wr.cell? ad = some (.int .i64 x) := by
              have := f0
              rw [show ad.add (0 * 2) = ad from by unfold Addr.add; simp] at this
              exact this
            go_wp2_with fail
            go_quiet (fail)
            go_wp2_with fail
            go_roundw
            case rel =>
              obtain ⟨q, hq⟩ := HW.out
              exact ⟨1, by omega, by go_num, hgo.out hx.out, by rw [Hid, hla.out]; omega, _, by rw [hq, World.drewN_drewN]⟩
            case measure => simp [intOf]; omega
          · have fp : wr.cell? (ad.add (j * 2)) = some (.int .i64 l[j].id) := by
              obtain ⟨q, hq⟩ := HW.out
              obtain ⟨ad', e', sb⟩ := hr.out j (by omega)
              injection e' with e'
              subst e'
              rw [hq]
              exact sb.id
            have hlj : Hid (lastAt l (j + 1) = l[j].id) := by rw [Hid]; simp [lastAt, List.getElem?_eq_getElem (show j < l.length by omega)]
            have E1 : IntKind.i64.wrap ((j : Int) + 1 - 1) = (j : Int) := IntWalk.i64_in _ (by omega) |>.trans (by omega)
            have E2 : (j : Int) + 1 - 1 = (j : Int) := by omega
            have b3 : (j : Int) < (n : Int) := by omega
            by_cases q3 : l[j + 1].id ≤ l[j].id
            · have hbad : Hid (goodSecs l = false) := hnot.out (by rw [hlj.out]; omega)
              generalize l[j + 1].id = x at f0 q1 q2 q3 hla hgo hnot
              generalize l[j].id = y at fp q3 hlj
              have q1' : decide (x < 1) = false := decide_eq_false q1
              have q2' : decide (255 < x) = false := decide_eq_false q2
              go_wp2_with fail
              go_quiet (fail)
              go_wp2_with fail
              go_ret
              obtain ⟨q, hq⟩ := HW.out
              exact ⟨ret_bool hbad.out.symm, _, by rw [hq, World.drewN_drewN]⟩
            · have hgood := Lib.hid (hgo.out (by rw [hlj.out]; omega))
              generalize l[j + 1].id = x at f0 q1 q2 q3 hla hgo hnot hgood
              generalize l[j].id = y at fp q3 hlj
              have q1' : decide (x < 1) = false := decide_eq_false q1
              have q2' : decide (255 < x) = false := decide_eq_false q2
              have q3' : decide (x ≤ y) = false := decide_eq_false q3
              go_wp2_with fail
              go_quiet (fail)
              go_wp2_with fail
              go_roundw
              case rel =>
                obtain ⟨q, hq⟩ := HW.out
                exact ⟨j + 1 + 1, by omega, by go_num, hgood.out, by rw [Hid, hla.out]; omega, _, by rw [hq, World.drewN_drewN]⟩
              case measure => simp [intOf]; omega
    · obtain rfl : k = n := by omega
      go_wp2_with fail
      go_ret
      obtain ⟨q, hq⟩ := HW.out
      have hd : l.drop k = [] := List.drop_eq_nil_of_le (by rw [← HN.out]; exact Nat.le_refl _)
      refine ⟨ret_bool ?_, q, hq⟩
      have h1 := GK.out
      rw [hd] at h1
      rw [goodSecs, h1, ← HN.out]
      simp [goodFrom]
      omega
theorem rightCall {s : ByteArray} {A : Option Addr} {n c : Nat} {l : List SecV} {w : World} {b : Bool} (HB : Hid (rightB s l = b)) (hss : s.size ≤ 140737488355328) (HN : Hid (n = l.length)) (hnl : n ≤ c) (hmx : c ≤ maxLen) (hr : Hid (RdSecs w A l)) :
    Calls Try.prog 47 #[.string s, .slice A n c] w fun e w' => e = .returned (.bool b) ∧ ∃ q, w' = w.drewN q := by
  have hn63 : (n : Int) ≤ 9223372036854775807 := by simp only [maxLen] at hmx; omega
  rw [← HB.out]
  by_cases h8 : s.size = 8
  · by_cases h64 : n ≤ 64
    · have := rightGood s A n c l w h8 h64 HN hnl hmx hr
      rw [rightB, decide_eq_true h8, Bool.true_and]
      exact this
    · have hb : Hid (rightB s l = false) := by
        rw [Hid, rightB, goodSecs, decide_eq_false (p := l.length ≤ 64) (by rw [← HN.out]; exact h64), Bool.false_and, Bool.and_false]
      have h8i : (s.size : Int) = 8 := by omega
      have h64i : (64 : Int) < (n : Int) := by omega
      clear h8 h64
      go_enter Try.func47, Try.ntmps47
      go_wp2_with fail
      go_ret
      exact ⟨ret_bool hb.out.symm, 0, rfl⟩
  · have hb : Hid (rightB s l = false) := by rw [Hid, rightB, decide_eq_false h8, Bool.false_and]
    have h8i : ¬ (s.size : Int) = 8 := by omega
    clear h8
    go_enter Try.func47, Try.ntmps47
    go_wp2_with fail
    go_ret
    exact ⟨ret_bool hb.out.symm, 0, rfl⟩
set_option maxHeartbeats 3200000 in
theorem sameSecs {A B : Option Addr} {c d n : Nat} {l : List SecV} {w : World} (HN : Hid (n = l.length)) (hn : n ≤ 1099511627776) (hnc : n ≤ c) (hnd : n ≤ d) (hb : Hid (∀ x ∈ l, x.body.length ≤ 140737488355328)) (hr : Hid (RdSecs w A l)) (hs : Hid (RdSecs w B l)) :
    Calls Try.prog 48 #[.slice A n c, .slice B n d] w fun e w' => e = .returned (.bool true) ∧ ∃ q, w' = w.drewN q := by
  have e1 : ((n : Int) != (n : Int)) = false := by simp
  go_enter Try.func48, Try.ntmps48
  go_wp2_with fail
  go_loopw [5] (fun i wr => ∃ k : Nat, k ≤ n ∧ i = .int .i64 k ∧ Hid (∃ q, wr = w.drewN q)) (fun i _ => n - (intOf i).toNat)
  case atStart => exact ⟨0, Nat.zero_le _, rfl, 0, rfl⟩
  case round =>
    obtain ⟨k, hk, rfl, HW⟩ := hrel
    by_cases hlt : k < n
    · have hkl : k < l.length := by rw [← HN.out]; exact hlt
      have hwr : ∀ {A : Option Addr}, RdSecs w A l → RdSecs wr A l := fun h => by
        obtain ⟨q, hq⟩ := HW.out
        rw [hq]
        exact h.drewN q
      obtain ⟨ad, e0, sa⟩ := hwr hr.out k hkl
      obtain ⟨B1, d1, f1, f2, f3, f4⟩ := sa.body
      have f0 := sa.id
      obtain ⟨ad', e0', sb⟩ := hwr hs.out k hkl
      obtain ⟨B2, d2, g1, g2, g3, g4⟩ := sb.body
      have g0 := sb.id
      obtain ⟨x, hx⟩ : ∃ x, x = l[k] := ⟨_, rfl⟩
      have hm1 := Lib.hid (hb.out x (by rw [hx]; exact List.getElem_mem hkl))
      rw [← hx] at f0 f1 f2 f4 g0 g1 g2 g4
      obtain ⟨m, hm⟩ : ∃ m, m = x.body.length := ⟨_, rfl⟩
      rw [← hm] at f1 f2 g1 g2
      have HM := Lib.hid hm
      have VB : Hid (∀ q, Rd (wr.drewN q) .u8 B1 x.body) := fun _ => f4
      have V4 : Hid (∀ q, Rd (wr.drewN q) .u8 B2 x.body) := fun _ => g4
      subst e0 e0'
      have b1 : (0 : Int) ≤ (k : Int) := by omega
      have b2 : (k : Int) < (n : Int) := by omega
      have hne : (x.id != x.id) = false := by simp
      clear hx hm sa sb hkl f4 g4 hwr
      go_wp2_with fail
      go_quiet ((go_at_call 23; go_must (refine Calls.quiet_of (sameBytes' (b := true) HM HM hm1 (show Hid (Rd (wr.drewN _) _ _ _) from VB.out _) (show Hid (Rd (wr.drewN _) _ _ _) from V4.out _) (by rw [Hid]; simp)))))
      go_wp2_with fail
      go_roundw
      case rel =>
        obtain ⟨q, hq⟩ := HW.out
        exact ⟨k + 1, by omega, by go_num, _, by rw [hq, World.drewN_drewN]⟩
      case measure => simp [intOf]; omega
    · obtain rfl : k = n := by omega
      go_wp2_with fail
      go_ret
      exact ⟨rfl, HW.out⟩
end Go.Proofs.Ytcljbaoadmflgaa.Kit
