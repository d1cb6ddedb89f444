/- OctetUnseals: two lists of sections that are the same. -/
import Derived.Test.YtcljbaoadmflgaaProg
import Derived.Test.YtcljbaoadmflgaaSecs
import Derived.Test.YtcljbaoadmflgaaOctL1
import Derived.Deep.QuietTactic
import Derived.BigQuiet
set_option linter.unusedVariables false
set_option linter.unusedSimpArgs false
namespace Go.Proofs.Ytcljbaoadmflgaa.Kit
open Go.RowKit
theorem RdSecs.drewN {w : World} {A : Option Addr} {l : List SecV} (h : RdSecs w A l) (n : Nat) : RdSecs (w.drewN n) A l := h.below (((Chg.refl (fun _ => False) w).drewN n).done)
set_option maxHeartbeats 3200000 in
theorem alike {A B : Option Addr} {c d n : Nat} {l : List SecV} {w : World} (HN : Hid (n = l.length)) (hn : n ≤ 1099511627776) (hnc : n ≤ c) (hnd : n ≤ d) (hb : Hid (∀ x ∈ l, x.body.length ≤ 140737488355328)) (hr : Hid (RdSecs w A l)) (hs : Hid (RdSecs w B l)) :
    Calls Try.prog 46 #[.slice A n c, .slice B n d] w fun e w' => e = .returned (.bool true) ∧ ∃ q, w' = w.drewN q := by
  have e1 : ((n : Int) != (n : Int)) = false := by simp
  go_enter Try.func46, Try.ntmps46
  go_wp2_with fail
  go_loopw [5] (fun i wr => ∃ k : Nat, k ≤ n ∧ i = .int .i64 k ∧ Hid (∃ q, wr = w.drewN q)) (fun i _ => n - (intOf i).toNat)
  case atStart => exact ⟨0, Nat.zero_le _, rfl, 0, rfl⟩
  case round =>
    obtain ⟨k, hk, rfl, HW⟩ := hrel
    by_cases hlt : k < n
    · have hkl : k < l.length := by rw [← HN.out]; exact hlt
      have hwr : ∀ {A : Option Addr}, RdSecs w A l → RdSecs wr A l := fun h => by
        obtain ⟨q, hq⟩ := HW.out
        rw [hq]
        exact h.drewN q
      obtain ⟨ad, e0, sa⟩ := hwr hr.out k hkl
      obtain ⟨B1, d1, f1, f2, f3, f4⟩ := sa.body
      have f0 := sa.id
      obtain ⟨ad', e0', sb⟩ := hwr hs.out k hkl
      obtain ⟨B2, d2, g1, g2, g3, g4⟩ := sb.body
      have g0 := sb.id
      obtain ⟨x, hx⟩ : ∃ x, x = l[k] := ⟨_, rfl⟩
      have hm1 := Lib.hid (hb.out x (by rw [hx]; exact List.getElem_mem hkl))
      rw [← hx] at f0 f1 f2 f4 g0 g1 g2 g4
      obtain ⟨m, hm⟩ : ∃ m, m = x.body.length := ⟨_, rfl⟩
      rw [← hm] at f1 f2 g1 g2
      have HM := Lib.hid hm
      have VB : Hid (∀ q, Rd (wr.drewN q) .u8 B1 x.body) := fun _ => f4
      have V4 : Hid (∀ q, Rd (wr.drewN q) .u8 B2 x.body) := fun _ => g4
      subst e0 e0'
      have b1 : (0 : Int) ≤ (k : Int) := by omega
      have b2 : (k : Int) < (n : Int) := by omega
      have hne : (x.id != x.id) = false := by simp
      clear hx hm sa sb hkl f4 g4 hwr
      go_wp2_with fail
      go_quiet ((go_at_call 23; go_must (refine Calls.quiet_of (sameBytes' (b := true) HM HM hm1 (show Hid (Rd (wr.drewN _) _ _ _) from VB.out _) (show Hid (Rd (wr.drewN _) _ _ _) from V4.out _) (by rw [Hid]; simp)))))
      go_wp2_with fail
      go_roundw
      case rel =>
        obtain ⟨q, hq⟩ := HW.out
        exact ⟨k + 1, by omega, by go_num, _, by rw [hq, World.drewN_drewN]⟩
      case measure => simp [intOf]; omega
    · obtain rfl : k = n := by omega
      go_wp2_with fail
      go_ret
      exact ⟨rfl, HW.out⟩
end Go.Proofs.Ytcljbaoadmflgaa.Kit
