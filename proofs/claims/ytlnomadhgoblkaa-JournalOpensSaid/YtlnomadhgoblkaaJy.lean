/- The journal's laws: holds. -/
import Derived.Test.YtlnomadhgoblkaaProg
import Derived.Test.YtlnomadhgoblkaaJx
set_option linter.unusedVariables false
set_option linter.unusedSimpArgs false
namespace Go.Proofs.Ytlnomadhgoblkaa.Kit
open Go.RowKit
theorem holdsT {gj : Nat} {D : Nat → Prop} {A : Option Addr} {m c n : Nat} {l ls : List SecV} {w : World} (hj : Hid (Jn w D gj ls)) (hr : Hid (RdSecs w A l)) (hm : Hid (m = l.length)) (hls : Hid (ls = l.take n)) (hn : n ≤ m) (hnb : n ≤ 1073741824) (hok : Hid (∀ x ∈ ls, x.body.length ≤ 4194304)) :
    Calls Try.prog 28 #[.pointer (some ⟨gj, 0, none⟩), .slice A m c, .int .i64 n] w fun e w' => e = .returned (.bool true) ∧ Chg (fun _ => False) w w' := by
  have HN : Hid (n = ls.length) := by rw [Hid, hls.out, List.length_take, ← hm.out]; omega
  have b1 : ¬ (n : Int) > (m : Int) := by omega
  have b2 : ¬ n > m := by omega
  go_enter Try.func28, Try.ntmps28
  go_wp2_with fail
  refine (jcount D gj ls n _ HN hj).mono ?_
  rintro e w1 ⟨rfl, rfl⟩
  go_wp2_with fail
  go_loopw [7] (fun i wr => ∃ k : Nat, k ≤ n ∧ i = .int .i64 k ∧ Hid (Chg (fun _ => False) w wr)) (fun i _ => n - (intOf i).toNat)
  case atStart => exact ⟨0, Nat.zero_le _, rfl, Chg.refl _ _⟩
  case round =>
    obtain ⟨k, hk2, rfl, hc⟩ := hrel
    by_cases hlt : k < n
    · have hkl : k < l.length := by rw [← hm.out]; omega
      obtain ⟨x, hx⟩ : ∃ x, x = l[k] := ⟨_, rfl⟩
      have HX : Hid (ls[k]? = some x) := by rw [Hid, hls.out, List.getElem?_take, if_pos hlt, hx, List.getElem?_eq_getElem]
      have hxl : x.body.length ≤ 4194304 := hok.out x (List.mem_of_getElem? HX.out)
      go_wp2_with fail
      refine (jrecordOk D gj ls n k x _ HN hlt hnb HX hxl (Lib.hid (hj.out.chg0 hc.out))).mono ?_
      rintro e w2 ⟨A2, m2, c2, rfl, k1, k2, k3, k4⟩
      obtain ⟨wx, hwx⟩ : ∃ wx, wx = w2.alloc (.cells #[.int .i64 x.id, .slice A2 m2 c2] 31) := ⟨_, rfl⟩
      obtain ⟨h, hh⟩ : ∃ h, h = w2.heap.size := ⟨_, rfl⟩
      have CX : Hid (Chg (fun _ => False) w2 wx) := by rw [hwx]; exact (Chg.refl _ w2).alloc _
      have KX : Hid (Chg (fun _ => False) w wx) := (hc.out.trans k3 (fun _ _ h => h)).trans CX.out (fun _ _ h => h)
      have BX : Hid (Blk wx h 31 [.int .i64 x.id, .slice A2 m2 c2]) := by rw [hwx, hh]; exact Blk.new _ _ _
      have s0 := BX.out.at_ (i := 0) rfl
      have s1 := BX.out.at_ (i := 1) rfl
      obtain ⟨ad, e1, hs⟩ := hr.out.below KX.out.done k hkl
      subst e1
      rw [← hx] at hs
      have t0 := hs.id
      obtain ⟨A3, c3, t1, hc3, hc3m, r3⟩ := hs.body
      rw [← k2] at t1 hc3
      have HM2 := Lib.hid k2
      have R2 : Hid (∀ q, Rd (wx.drewN q) .u8 A2 x.body) := fun q => (k1.rd (by rw [k2])).below (CX.out.drewN q).done
      have R3 : Hid (∀ q, Rd (wx.drewN q) .u8 A3 x.body) := fun q => r3.below ((Chg.refl (fun _ => False) wx).drewN q).done
      have hxb : Hid (x.body.length ≤ 140737488355328) := by rw [Hid]; omega
      have q0 : (0 : Int) ≤ (k : Int) := by omega
      have q1 : (k : Int) < (m : Int) := by omega
      clear k1 k2 k3 k4 hs r3 hx
      go_wp2_with fail
      rw [← hwx, ← hh]
      clear hwx hh
      go_quiet ((go_at_call 24; exact Calls.quiet_of (sameBytes' (b := true) HM2 HM2 hxb (show Hid (Rd (wx.drewN _) _ _ _) from R2.out _) (show Hid (Rd (wx.drewN _) _ _ _) from R3.out _) (by rw [Hid]; simp))))
      go_wp2_with fail
      go_roundw
      case rel => exact ⟨k + 1, by omega, by go_num, KX.out.drewN _⟩
      case measure => simp [intOf]; omega
    · obtain rfl : k = n := by omega
      go_wp2_with fail
      refine (jrecordNo D gj ls k k _ HN (.inr (by omega)) (Lib.hid (hj.out.chg0 hc.out))).mono ?_
      rintro e w2 ⟨rfl, k1⟩
      have K1 : Hid (Chg (fun _ => False) w w2) := hc.out.trans k1 (fun _ _ h => h)
      clear k1
      go_wp2_with fail
      go_ret
      exact ⟨rfl, K1.out.alloc _⟩
end Go.Proofs.Ytlnomadhgoblkaa.Kit
