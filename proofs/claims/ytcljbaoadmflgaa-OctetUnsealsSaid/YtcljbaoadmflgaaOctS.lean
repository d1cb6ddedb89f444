/- The walk of OctetStay. -/
import Derived.Test.YtcljbaoadmflgaaProg
import Derived.Test.YtcljbaoadmflgaaOpenS
import Derived.Test.YtcljbaoadmflgaaOctL1
import Derived.Test.YtcljbaoadmflgaaOctT
import Derived.Test.YtcljbaoadmflgaaOctX
import Derived.IntWalk
import Derived.Lib.Hide
set_option linter.unusedVariables false
set_option linter.unusedSimpArgs false
namespace Go.Proofs.Ytcljbaoadmflgaa.Kit
open Go.RowKit
theorem stay_nums {V L : Int} (hV : V ≤ 10) (hV0 : 0 ≤ V) : 0 ≤ L % 1000 ∧ 0 ≤ V + 1 + L % 1000 ∧ -1 - L % 1000 < 0 ∧ V < V + 1 + L % 1000 ∧ IntKind.i64.wrap (L % 1000) = L % 1000 ∧ IntKind.i64.wrap (V + 1) = V + 1 ∧ IntKind.i64.wrap (V + 1 + L % 1000) = V + 1 + L % 1000 ∧ IntKind.i64.wrap (-1 - L % 1000) = -1 - L % 1000 :=
  ⟨by omega, by omega, by omega, by omega, IntWalk.i64_in _ (by omega), IntWalk.i64_in _ (by omega), IntWalk.i64_in _ (by omega), IntWalk.i64_in _ (by omega)⟩
theorem takeShort {g : Nat} {v : Value} {l : List Int} {at_ : Nat} {n : Int} {w : World} (h : Hid (Rdr w g v l at_)) (hn : 0 ≤ n) (hm : (l.length : Int) - at_ < n) :
    Calls Try.prog 32 #[.pointer (some ⟨g, 0, none⟩), .int .i64 n] w fun e w' => e = .returned (.tuple #[.slice none 0 0, .int .i64 41]) ∧ ∃ n, w' = w.drewN n := by
  go_enter Try.func32, Try.ntmps32
  go_wp2_with (go_at_call 28; refine (left g _ l at_ _ h).mono ?_; rintro e w' ⟨rfl, nq, rfl⟩)
  go_ret2
  exact ⟨rfl, _, rfl⟩
theorem textNeg {g : Nat} {n : Int} {w : World} (hn : n < 0) :
    Calls Try.prog 33 #[.pointer (some ⟨g, 0, none⟩), .int .i64 n] w fun e w' => e = .returned (.tuple #[.string { data := #[] }, .int .i64 1]) ∧ ∃ n, w' = w.drewN n := by
  go_enter Try.func33, Try.ntmps33
  go_wp2_with fail
  go_ret2
  exact ⟨rfl, 0, rfl⟩
set_option maxHeartbeats 1600000 in
set_option maxRecDepth 20000 in
theorem octetStayWalk (w : World) (A : Option Addr) (c : Nat) (l : List Int) (hr : Hid (Rd w .u8 A l)) (hl : l.length ≤ 140737488351232) (hb : Byt l) (hlc : l.length ≤ c) (x : Int) (hx0 : 0 ≤ x) (hx1 : x ≤ 18446744073709551615)
    (B : Option Addr) (d : Nat) (os : List OpV) (ho : Hid (RdOps w B os)) (hol : os.length ≤ maxLen) (hod : os.length ≤ d) :
    Calls Try.prog 8 #[.slice A l.length c, .int .u64 x, .slice B os.length d] w fun e w' => e = .returned (.bool true) ∧ Below w.heap.size w w' := by
  have HX := Lib.hid hx1
  have L1 : Hid ((vb x.toNat).length ≤ 10) := vb_len10 (by omega)
  have hl10 : Hid (l.length + 10 ≤ 140737488355328) := Lib.hid (by omega)
  have hb10 : Hid ((l ++ vb x.toNat).length ≤ 140737488355328) := Lib.hid (by have := L1.out; simp; omega)
  have hol : os.length ≤ 9223372036854775807 := hol
  clear hx1
  have R0 : Hid (Rd (w.alloc (.cells #[] 5)) .u8 A l) := hr.out.below (((Chg.refl (fun _ => False) w).alloc _).done)
  go_enter Try.func8, Try.ntmps8
  go_wp2_with (first | (at_builtin; go_must (refine wp_appn rfl _ _ 22 5 .u8 1 rfl Try.underlying22 infoU8 (by decide) (.slice (some ⟨w.heap.size, 0, none⟩) 0 0) [] rfl (Own.lit w 5 .u8 [] (by simp)) A c l _ rfl rfl R0.out (by simp; omega) ?_); intro v' w2 k1 k2 k3 k4; obtain ⟨A1, c1, rfl, _, _⟩ := k1.slice; have N1 := Lib.hid k1; have N3 := Lib.hid k3; have N4 := Lib.hid k4; clear k1 k2 k3 k4; go_frame))
  have HV : Hid (OwnB w2 (.slice A1 l.length c1) l) := N1.out
  have HN : Hid (∀ i, Value.ownBlock (.slice A1 l.length c1) = some i → w.heap.size ≤ i) := N4.out.ge (blk_ge (Nat.le_refl _)) (by simp)
  have HC1 : Hid (Chg (fun _ => False) w w2) := ((Chg.refl _ w).alloc _).fresh N3.out (blk_ge (Nat.le_refl _))
  go_wp2_with fail
  refine (appendUint' (.slice A1 l.length c1) l _ _ hx0 HV (by have := L1.out; omega)).mono ?_
  rintro e w3 ⟨v3, rfl, k1, k2, k3, k4⟩
  obtain ⟨A3, c3, rfl, _, _⟩ := Own.slice k1
  have P1 := Lib.hid k1; have P3 := Lib.hid k3; have P4 := Lib.hid k4
  clear k1 k2 k3 k4
  have HC3 : Hid (Chg (fun _ => False) w w3) := HC1.out.fresh P3.out HN.out
  have R3 : Hid (Rd w3 .u8 A3 (l ++ vb x.toNat)) := P1.out.rd rfl
  go_wp2_with fail
  refine (newReader' (Lib.hid (by simp [List.length_append])) hb10 R3).mono ?_
  rintro e w4 ⟨g, v, rfl, k1, k2, k3, k4⟩
  have K1 := Lib.hid k1; have K2 := Lib.hid k2; have K4 := Lib.hid k4
  clear k1 k2 k3 k4
  have HC4 : Hid (Chg (fun _ => False) w w4) := HC3.out.trans K4.out (fun _ _ h => h)
  go_wp2_with fail
  refine (take _ _ _ _ _ _ K1).mono ?_
  rintro e w5 ⟨v5, m5, at5, er5, rfl, k1, k2, k3, k4, k5⟩
  obtain ⟨rfl, rfl⟩ : er5 = 0 ∧ at5 = l.length := by
    rcases k5 with ⟨h, _⟩ | ⟨_, h, _⟩ | ⟨_, _, h, _, h2⟩
    · omega
    · simp at h
      omega
    · exact ⟨h, by omega⟩
  have T1 := Lib.hid k3; have T2 := Lib.hid k4
  clear k1 k2 k3 k4 k5
  have HC5 : Hid (Chg (fun _ => False) w w5) := HC4.out.trans T2.out (fun i hi e => by have := K2.out; have := HC3.out.size; omega)
  go_wp2_with fail
  have hlen5 : ((l ++ vb x.toNat).length : Int) - (l.length : Int) = ((vb x.toNat).length : Int) := by simp; omega
  have HL5 := Lib.hid hlen5
  clear hlen5
  go_loopw [11] (fun i wr => ∃ k : Nat, k ≤ os.length ∧ i = .int .i64 k ∧ ∃ n, wr = w5.drewN n) (fun i _ => os.length - (intOf i).toNat)
  case atStart => exact ⟨0, Nat.zero_le _, rfl, 0, rfl⟩
  case round =>
    obtain ⟨k, hk, rfl, nd, hwr⟩ := hrel
    have T1' : Hid (∀ n, Rdr (wr.drewN n) g v (l ++ vb x.toNat) l.length) := fun n => by rw [hwr]; exact (T1.out.drewN _).drewN _
    have HC6 : Hid (Chg (fun _ => False) w wr) := by rw [hwr]; exact HC5.out.drewN _
    have HW := Lib.hid hwr
    clear hwr
    by_cases hlt : k < os.length
    · obtain ⟨ad, rfl, f0, f1, f2, fo⟩ := ho.out.below HC6.out.done k hlt
      have b1 : (0 : Int) ≤ (k : Int) := by omega
      have b2 : (k : Int) < (os.length : Int) := by omega
      obtain ⟨⟨o1, o2⟩, ⟨o3, o4⟩, _⟩ := fo
      generalize os[k].kind = K at f0 o1 o2
      generalize os[k].limit = L at f1 o3 o4
      generalize os[k].n = N at f2
      obtain ⟨q1, q3, q4, q5, E1, E2, E3, E4⟩ := stay_nums (V := ((vb x.toNat).length : Int)) (L := L) (Int.ofNat_le.2 L1.out) (Int.natCast_nonneg _)
      have Q3 := Lib.hid q3
      have Q4 := Lib.hid q4
      have Q5 : Hid (((l ++ vb x.toNat).length : Int) - l.length < ((vb x.toNat).length : Int) + 1 + L % 1000) := by rw [Hid, HL5.out]; exact q5
      clear q3 q4 q5
      by_cases hb0 : Go.bits .and .i64 K 1 = 0
      · go_wp2_with fail
        go_quiet (first | ((go_at_call 28; go_must (refine Calls.quiet_of (left' HL5 (show Hid (Rdr (wr.drewN _) _ _ _ _) from T1'.out _))))) | ((go_at_call 32; go_must (refine Calls.quiet_of (takeShort (show Hid (Rdr (wr.drewN _) _ _ _ _) from T1'.out _) Q3.out Q5.out)))))
        go_wp2_with (go_at_call 26; go_must (refine (place _ _ _ _ _ (show Hid (Rdr (wr.drewN _) _ _ _ _) from T1'.out _)).mono ?_); rintro e w6 ⟨rfl, rfl⟩)
        go_roundw
        case rel => exact ⟨k + 1, by omega, by go_num, _, by rw [HW.out, World.drewN_drewN]⟩
        case measure => simp [intOf]; omega
      · have hb1 : (Go.bits .and .i64 K 1 == 0) = false := by simpa using hb0
        go_wp2_with (first | (go_at_call 26; go_must (refine (place _ _ _ _ _ (show Hid (Rdr (wr.drewN _) _ _ _ _) from T1'.out _)).mono ?_); rintro e w6 ⟨rfl, rfl⟩) | (go_at_call 33; go_must (refine (textNeg Q4.out).mono ?_); rintro e w6 ⟨rfl, nq, rfl⟩))
        go_roundw
        case rel => exact ⟨k + 1, by omega, by go_num, _, by rw [HW.out, World.drewN_drewN]⟩
        case measure => simp [intOf]; omega
    · have hu : Hid (urd ((l ++ vb x.toNat).drop l.length) x = (x, (vb x.toNat).length, 0)) := by
        have h := urd_vb (n := x.toNat) (limit := x) (by have := HX.out; omega) (by omega) (rest := []) (fun z hz => by simp at hz)
        rw [List.append_nil] at h
        rw [Hid, List.drop_left, h, Int.toNat_of_nonneg hx0]
      have ha : Hid (l.length + (vb x.toNat).length = l.length + (vb x.toNat).length) := rfl
      have hz : Hid (((l ++ vb x.toNat).length : Int) - (l.length + (vb x.toNat).length : Nat) = 0) := by rw [Hid, List.length_append]; omega
      have hg := K2.out
      have hs := HC3.out.size
      have T2' : Hid (Rdr wr g v (l ++ vb x.toNat) l.length) := T1'.out 0
      clear hg hs
      go_wp2_with (first | (go_at_call 25; go_must (refine (uintTo hu ha T2').mono ?_); rintro e w7 ⟨rfl, k1, k2⟩; have U1 := Lib.hid k1; have U2 := Lib.hid k2; clear k1 k2) | (go_at_call 28; go_must (refine (left' hz U1).mono ?_); rintro e w8 ⟨rfl, nq, rfl⟩))
      go_ret
      refine ⟨rfl, ((HC6.out.trans U2.out (fun i hi e => ?_)).drewN _).done⟩
      have := K2.out
      have := HC3.out.size
      omega
end Go.Proofs.Ytcljbaoadmflgaa.Kit
