/- The walk of OctetBack. -/
import Derived.Test.YtcljbaoadmflgaaProg
import Derived.Test.YtcljbaoadmflgaaOctB
import Derived.Test.YtcljbaoadmflgaaOctS
set_option linter.unusedVariables false
set_option linter.unusedSimpArgs false
namespace Go.Proofs.Ytcljbaoadmflgaa.Kit
open Go.RowKit
theorem drop_part {l : List ItemV} {k : Nat} (h : k < l.length) : (encAll l).drop (encAll (l.take k)).length = l[k].enc ++ encAll (l.drop (k + 1)) := by
  rw [encAll_split l k h, List.drop_left]
theorem len_part {l : List ItemV} {k : Nat} (h : k < l.length) : (encAll (l.take k)).length + l[k].enc.length = (encAll (l.take (k + 1))).length := by
  rw [encAll_succ l k h, List.length_append]
theorem take_le (l : List ItemV) (k : Nat) : (encAll (l.take k)).length ≤ (encAll l).length := by
  conv => rhs; rw [← List.take_append_drop k l, encAll, List.flatMap_append, List.length_append]
  exact Nat.le_add_right _ _
set_option maxHeartbeats 3200000 in
set_option maxRecDepth 20000 in
theorem octetBackWalk (w : World) (B : Option Addr) (d : Nat) (os : List ItemV) (ho : Hid (RdItems w B os)) (hs : ∀ o ∈ os, o.s.size ≤ 1048576) (hol : os.length ≤ 1048576) (hod : os.length ≤ d) (cut : Int) (hc0 : -9223372036854775808 ≤ cut) (hc1 : cut ≤ 9223372036854775807) :
    Calls Try.prog 9 #[.slice B os.length d, .int .i64 cut] w fun e w' => e = .returned (.bool true) ∧ Below w.heap.size w w' := by
  have hall : Hid (∀ o ∈ os, o.ok ∧ o.s.size ≤ 1048576) := fun o hm => by
    obtain ⟨i, hi, rfl⟩ := List.getElem_of_mem hm
    obtain ⟨_, _, _, _, _, _, h⟩ := ho.out i hi
    exact ⟨h, hs _ hm⟩
  have HS := Lib.hid hs
  have hlen : Hid (∀ k, (encAll (os.take k)).length ≤ 1099522179072) := fun k => encAll_take_len os hall.out hol k
  obtain ⟨n0, hn0⟩ : ∃ n0 : Nat, n0 = (encAll os).length := ⟨_, rfl⟩
  have hn1 : n0 ≤ 1099522179072 := by have := hlen.out os.length; rw [List.take_length] at this; omega
  have HN := Lib.hid hn0
  have hbd : Hid ((encAll os).length ≤ 140737488355328) := by rw [Hid, ← hn0]; omega
  clear hs hn0
  go_enter Try.func9, Try.ntmps9
  go_wp2_with fail
  refine (written w B d os ho HS.out hol hod).mono ?_
  rintro e w1 ⟨A1, c1, A2, c2, rfl, k1, k2, k3, k4⟩
  rw [← HN.out] at k2 ⊢
  have R1 := Lib.hid k1; have R2 := Lib.hid k3; have HC1 := Lib.hid k4
  clear k1 k3 k4
  go_wp2_with fail
  refine (newReader' HN hbd R1).mono ?_
  rintro e w2 ⟨g, v, rfl, k3, k4, _, k5⟩
  have K1 := Lib.hid k3; have hg := Lib.hid k4; have HC2 : Hid (Chg (fun _ => False) w1 w2) := Lib.hid k5
  have ho1 : Hid (RdItems w1 B os) := ho.out.below HC1.out.done
  clear k3 k4 k5
  have hz0 : Hid (((encAll os).length : Int) - (0 : Nat) = (n0 : Int)) := by rw [Hid, ← HN.out]; omega
  go_wp2_with (go_at_call 28; go_must (refine (left' hz0 K1).mono ?_); rintro e w8 ⟨rfl, nq, rfl⟩)
  go_loopw [8] (fun i wr => ∃ k : Nat, k ≤ os.length ∧ i = .int .i64 k ∧ Hid (Rdr wr g v (encAll os) (encAll (os.take k)).length) ∧ Hid (Chg (fun _ => False) w1 wr)) (fun i _ => os.length - (intOf i).toNat)
  case atStart => exact ⟨0, Nat.zero_le _, rfl, K1.out.drewN _, HC2.out.drewN _⟩
  case round =>
    obtain ⟨k, hk, rfl, T1, HC⟩ := hrel
    by_cases hlt : k < os.length
    · obtain ⟨ad, rfl, f0, f1, f2, f3, fo⟩ := ho1.out k hlt
      obtain ⟨ad2, rfl, f4⟩ := R2.out k (by rw [endsOf_length]; exact hlt)
      rw [endsOf_get] at f4
      have hd1 := drop_part hlt
      have hp1 := len_part hlt
      have hq1 := take_le os (k + 1)
      have hS := (hall.out os[k] (List.getElem_mem hlt)).2
      have hby : Hid (Byt (encAll (os.drop (k + 1)))) := encAll_byt _
      generalize encAll (os.drop (k + 1)) = rest at hd1 hby
      generalize hpk : (encAll (os.take k)).length = p at T1 hd1 hp1
      generalize hqk : (encAll (os.take (k + 1))).length = q at f4 hp1 hq1
      rw [← HN.out] at hq1
      generalize os[k] = o at f0 f1 f2 f3 fo hd1 hp1 hS
      obtain ⟨K, X, Y, s⟩ := o
      simp only at f0 f1 f2 f3
      have HF : Hid (∀ W, Chg (fun _ => False) w1 W → W.cell? (ad.add (k * 4)) = some (.int .i64 K) ∧ W.cell? ⟨(ad.add (k * 4)).block, (ad.add (k * 4)).off + 1, none⟩ = some (.int .u64 X) ∧ W.cell? ⟨(ad.add (k * 4)).block, (ad.add (k * 4)).off + 2, none⟩ = some (.int .i64 Y) ∧ W.cell? ⟨(ad.add (k * 4)).block, (ad.add (k * 4)).off + 3, none⟩ = some (.string s) ∧ W.cell? (ad2.add k) = some (.int .i64 (q : Int))) := fun W hW =>
        ⟨hW.cell id f0, hW.cell id f1, hW.cell id f2, hW.cell id f3, hW.cell id f4⟩
      have F0 := Lib.hid fo
      obtain ⟨_, ⟨o3, o4⟩, o5, o6⟩ := fo
      simp only at o3 o4 o5 o6 hS
      have hd := Lib.hid hd1
      have hp := Lib.hid hp1
      have hqk := Lib.hid hqk
      have hpk := Lib.hid hpk
      clear hd1 hp1 f0 f1 f2 f3 f4
      obtain ⟨f0, f1, f2, f3, f4⟩ := HF.out wr HC.out
      have b1 : (0 : Int) ≤ (k : Int) := by omega
      have b2 : (k : Int) < (os.length : Int) := by omega
      have b3 : ((endsOf os os.length).length : Int) = (os.length : Int) := by rw [endsOf_length]
      have e0 : Hid (p + 0 = p) := Nat.add_zero p
      have hz1 : Hid (((encAll os).length : Int) - (q : Nat) = (n0 : Int) - (q : Int)) := by rw [Hid, ← HN.out]
      have E2 : IntKind.i64.wrap ((n0 : Int) - (q : Int)) = (n0 : Int) - (q : Int) := IntWalk.i64_in _ (by omega)
      have HE2 := Lib.hid E2
      by_cases hu : Go.bits .and .i64 K 3 = 0 ∧ 0 < X
      · obtain ⟨h0, hX⟩ := hu
        have hu : Hid (urd ((encAll os).drop p) (X - 1) = (0, 0, 42)) := by
          have := urd_vb_no (n := X.toNat) (limit := X - 1) (by omega) (by omega) hby.out
          rw [Hid, hd.out]
          unfold ItemV.enc ItemV.sel
          rw [if_pos h0]
          exact this
        have E1 : IntKind.u64.wrap (X - 1) = X - 1 := IntWalk.u64_in _ (by omega)
        go_wp2_with fail
        refine (place _ _ _ _ _ T1).mono ?_
        rintro e w6 ⟨rfl, rfl⟩
        go_wp2_with fail
        refine (uintTo hu e0 T1).mono ?_
        rintro e w4 ⟨rfl, k1, k2⟩
        have U1 := Lib.hid k1
        have HC4 : Hid (Chg (fun _ => False) w1 w4) := HC.out.trans k2 (fun i hi e => by have := hg.out; omega)
        clear k1 k2 f0 f1 f2 f3 f4
        obtain ⟨f0, f1, f2, f3, f4⟩ := HF.out w4 HC4.out
        go_wp2_with fail
        refine (place _ _ _ _ _ U1).mono ?_
        rintro e w6 ⟨rfl, rfl⟩
        go_wp2_with fail
        refine (readsOk K X Y s F0.out hS hd hby hp U1).mono ?_
        rintro e w5 ⟨rfl, k1, k2⟩
        have V1 : Hid (∀ n, Rdr (w5.drewN n) g v (encAll os) q) := fun n => k1.drewN n
        have HC5 : Hid (Chg (fun _ => False) w1 w5) := HC4.out.trans k2 (fun i hi e => by have := hg.out; omega)
        clear k1 k2 f0 f1 f2 f3 f4
        obtain ⟨_, _, _, _, f4⟩ := HF.out w5 HC5.out
        go_wp2_with fail
        go_quiet (first | ((go_at_call 28; exact (Calls.quiet_of (left' hz1 (show Hid (Rdr (w5.drewN _) _ _ _ _) from V1.out _))))) | ((go_at_call 26; exact (Calls.quiet_of_same ((place _ _ _ _ _ (show Hid (Rdr (w5.drewN _) _ _ _ _) from V1.out _)).mono fun _ _ h => ⟨h.1, h.2.symm⟩)))))
        go_wp2
        go_roundw
        case rel => exact ⟨k + 1, by omega, by go_num, by rw [hqk.out]; exact V1.out _, HC5.out.drewN _⟩
        case measure => simp [intOf]; omega
      · by_cases h0 : Go.bits .and .i64 K 3 = 0
        · have hX : decide (0 < X) = false := decide_eq_false (fun h => hu ⟨h0, h⟩)
          clear hu
          go_wp2_with fail
          refine (place _ _ _ _ _ T1).mono ?_
          rintro e w6 ⟨rfl, rfl⟩
          go_wp2_with fail
          refine (readsOk K X Y s F0.out hS hd hby hp T1).mono ?_
          rintro e w5 ⟨rfl, k1, k2⟩
          have V1 : Hid (∀ n, Rdr (w5.drewN n) g v (encAll os) q) := fun n => k1.drewN n
          have HC5 : Hid (Chg (fun _ => False) w1 w5) := HC.out.trans k2 (fun i hi e => by have := hg.out; omega)
          clear k1 k2 f0 f1 f2 f3 f4
          obtain ⟨_, _, _, _, f4⟩ := HF.out w5 HC5.out
          go_wp2_with fail
          go_quiet (first | ((go_at_call 28; exact (Calls.quiet_of (left' hz1 (show Hid (Rdr (w5.drewN _) _ _ _ _) from V1.out _))))) | ((go_at_call 26; exact (Calls.quiet_of_same ((place _ _ _ _ _ (show Hid (Rdr (w5.drewN _) _ _ _ _) from V1.out _)).mono fun _ _ h => ⟨h.1, h.2.symm⟩)))))
          go_wp2
          go_roundw
          case rel => exact ⟨k + 1, by omega, by go_num, by rw [hqk.out]; exact V1.out _, HC5.out.drewN _⟩
          case measure => simp [intOf]; omega
        · have h0' : (Go.bits .and .i64 K 3 == 0) = false := by simpa using h0
          clear hu
          go_wp2_with fail
          refine (place _ _ _ _ _ T1).mono ?_
          rintro e w6 ⟨rfl, rfl⟩
          go_wp2_with fail
          refine (readsOk K X Y s F0.out hS hd hby hp T1).mono ?_
          rintro e w5 ⟨rfl, k1, k2⟩
          have V1 : Hid (∀ n, Rdr (w5.drewN n) g v (encAll os) q) := fun n => k1.drewN n
          have HC5 : Hid (Chg (fun _ => False) w1 w5) := HC.out.trans k2 (fun i hi e => by have := hg.out; omega)
          clear k1 k2 f0 f1 f2 f3 f4
          obtain ⟨_, _, _, _, f4⟩ := HF.out w5 HC5.out
          go_wp2_with fail
          go_quiet (first | ((go_at_call 28; exact (Calls.quiet_of (left' hz1 (show Hid (Rdr (w5.drewN _) _ _ _ _) from V1.out _))))) | ((go_at_call 26; exact (Calls.quiet_of_same ((place _ _ _ _ _ (show Hid (Rdr (w5.drewN _) _ _ _ _) from V1.out _)).mono fun _ _ h => ⟨h.1, h.2.symm⟩)))))
          go_wp2
          go_roundw
          case rel => exact ⟨k + 1, by omega, by go_num, by rw [hqk.out]; exact V1.out _, HC5.out.drewN _⟩
          case measure => simp [intOf]; omega
    · clear T1
      by_cases hneg : cut < 0
      · go_wp2
        go_ret
        exact ⟨rfl, (HC1.out.trans HC.out (fun _ _ h => h)).done⟩
      by_cases hfar : (n0 : Int) < cut
      · go_wp2
        go_ret
        exact ⟨rfl, (HC1.out.trans HC.out (fun _ _ h => h)).done⟩
      obtain ⟨c, rfl⟩ : ∃ c : Nat, cut = c := ⟨cut.toNat, by omega⟩
      have q1 : decide ((c : Int) < 0) = false := decide_eq_false (by omega)
      have q2 : decide ((n0 : Int) < (c : Int)) = false := by simp; omega
      have q2' : decide (n0 < c) = false := by simp; omega
      have q3 : (c : Int) ≤ (c1 : Int) := by omega
      have q4 : (0 : Int) ≤ (c : Int) := by omega
      have hcn : c ≤ n0 := by omega
      have hlc : Hid (c = ((encAll os).take c).length) := by rw [Hid, List.length_take, ← HN.out]; omega
      have hbd2 : Hid (((encAll os).take c).length ≤ 140737488355328) := by rw [Hid, ← hlc.out]; omega
      have R3 : Hid (Rd wr .u8 A1 ((encAll os).take c)) := (R1.out.below HC.out.done).take c
      clear hneg hfar
      go_wp2_with fail
      refine (newReader' hlc hbd2 R3).mono ?_
      rintro e w5 ⟨g2, v2, rfl, k3, k4, _, k5⟩
      have N1 := Lib.hid k3; have HC5 : Hid (Chg (fun _ => False) w1 w5) := HC.out.trans k5 (fun _ _ h => h)
      have hg2 : Hid (w1.heap.size ≤ g2) := Lib.hid (by have := HC.out.size; omega)
      clear k3 k4 k5
      go_wp2_with fail
      go_loopw [13] (fun i wr => ∃ k : Nat, k ≤ os.length ∧ i = .int .i64 k ∧ (encAll (os.take k)).length ≤ c ∧ Hid (Rdr wr g2 v2 ((encAll os).take c) (encAll (os.take k)).length) ∧ Hid (Chg (fun _ => False) w1 wr)) (fun i _ => os.length - (intOf i).toNat)
      case atStart => exact ⟨0, Nat.zero_le _, rfl, Nat.zero_le _, N1.out, HC5.out⟩
      case round =>
        clear hlt
        obtain ⟨k, hk, rfl, hpc, T1, HC⟩ := hrel
        by_cases hlt : k < os.length
        · obtain ⟨ad, rfl, f0, f1, f2, f3, fo⟩ := ho1.out k hlt
          obtain ⟨ad2, rfl, f4⟩ := R2.out k (by rw [endsOf_length]; exact hlt)
          rw [endsOf_get] at f4
          have hd1 := drop_part hlt
          have hp1 := len_part hlt
          have hq1 := take_le os (k + 1)
          have hS := (hall.out os[k] (List.getElem_mem hlt)).2
          have hby : Hid (Byt (encAll (os.drop (k + 1)))) := encAll_byt _
          generalize encAll (os.drop (k + 1)) = rest at hd1 hby
          generalize hpk : (encAll (os.take k)).length = p at T1 hpc hd1 hp1
          generalize hqk : (encAll (os.take (k + 1))).length = q at f4 hp1 hq1
          rw [← HN.out] at hq1
          generalize os[k] = o at f0 f1 f2 f3 fo hd1 hp1 hS
          obtain ⟨K, X, Y, s⟩ := o
          simp only at f0 f1 f2 f3
          have HF : Hid (∀ W, Chg (fun _ => False) w1 W → W.cell? (ad.add (k * 4)) = some (.int .i64 K) ∧ W.cell? ⟨(ad.add (k * 4)).block, (ad.add (k * 4)).off + 1, none⟩ = some (.int .u64 X) ∧ W.cell? ⟨(ad.add (k * 4)).block, (ad.add (k * 4)).off + 2, none⟩ = some (.int .i64 Y) ∧ W.cell? ⟨(ad.add (k * 4)).block, (ad.add (k * 4)).off + 3, none⟩ = some (.string s) ∧ W.cell? (ad2.add k) = some (.int .i64 (q : Int))) := fun W hW =>
            ⟨hW.cell id f0, hW.cell id f1, hW.cell id f2, hW.cell id f3, hW.cell id f4⟩
          have F0 := Lib.hid fo
          obtain ⟨_, ⟨o3, o4⟩, o5, o6⟩ := fo
          simp only at o3 o4 o5 o6 hS
          have hd := Lib.hid hd1
          have hp := Lib.hid hp1
          have hqk := Lib.hid hqk
          have hpk := Lib.hid hpk
          clear hd1 hp1 f0 f1 f2 f3 f4
          obtain ⟨f0, f1, f2, f3, f4⟩ := HF.out _ HC.out
          have b1 : (0 : Int) ≤ (k : Int) := by omega
          have b2 : (k : Int) < (os.length : Int) := by omega
          have b3 : ((endsOf os os.length).length : Int) = (os.length : Int) := by rw [endsOf_length]
          have hdc : Hid (((encAll os).take c).drop p = ((ItemV.mk K X Y s).enc ++ rest).take (c - p)) := by rw [Hid, List.drop_take, hd.out]
          by_cases hqc : q ≤ c
          · have hdd : Hid (((encAll os).take c).drop p = (ItemV.mk K X Y s).enc ++ rest.take (c - q)) := by
              have h1 := hp.out
              rw [Hid, hdc.out, List.take_append, List.take_of_length_le (by omega)]
              congr 2
              omega
            have hbb : Hid (Byt (rest.take (c - q))) := fun z hz => hby.out z (List.mem_of_mem_take hz)
            have hqd : decide ((q : Int) ≤ (c : Int)) = true := by simp; omega
            have hqd' : decide (q ≤ c) = true := by simp; omega
            go_wp2_with fail
            refine (readsOk K X Y s F0.out hS hdd hbb hp T1).mono ?_
            rintro e w6 ⟨rfl, k1, k2⟩
            have V1 := Lib.hid k1
            have HC6 : Hid (Chg (fun _ => False) w1 w6) := HC.out.trans k2 (fun i hi e => by have := hg2.out; omega)
            clear k1 k2 f0 f1 f2 f3 f4
            obtain ⟨_, _, _, _, f4⟩ := HF.out w6 HC6.out
            go_wp2_with fail
            go_roundw
            case rel => exact ⟨k + 1, by omega, by go_num, by rw [hqk.out]; exact hqc, by rw [hqk.out]; exact V1.out, HC6.out⟩
            case measure => simp [intOf]; omega
          · have hdd : Hid (((encAll os).take c).drop p = (ItemV.mk K X Y s).enc.take (c - p)) := by
              have h1 := hp.out
              rw [Hid, hdc.out, List.take_append_of_le_length (by omega)]
            have hcc : Hid (c - p < (ItemV.mk K X Y s).enc.length) := Lib.hid (by have := hp.out; omega)
            have hqd : decide ((q : Int) ≤ (c : Int)) = false := by simp; omega
            have hqd' : decide (q ≤ c) = false := by simp; omega
            have E5 : IntKind.i64.wrap ((q : Int) - (p : Int)) = (q : Int) - (p : Int) := IntWalk.i64_in _ (by have := hp.out; omega)
            have q7 : Hid (0 ≤ (q : Int) - (p : Int)) := Lib.hid (by have := hp.out; omega)
            have q8 : Hid ((((encAll os).take c).length : Int) - (p : Nat) < (q : Int) - (p : Int)) := by rw [Hid, ← hlc.out]; omega
            go_wp2_with fail
            refine (readsCut K X Y s F0.out hS hdd hcc T1).mono ?_
            rintro e w6 ⟨rfl, k1, k2⟩
            have V1 : Hid (∀ n, Rdr (w6.drewN n) g2 v2 ((encAll os).take c) p) := fun n => k1.drewN n
            have HC6 : Hid (Chg (fun _ => False) w1 w6) := HC.out.trans k2 (fun i hi e => by have := hg2.out; omega)
            clear k1 k2 f0 f1 f2 f3 f4
            obtain ⟨_, _, _, _, f4⟩ := HF.out w6 HC6.out
            go_wp2_with fail
            go_quiet (first | ((go_at_call 32; exact (Calls.quiet_of (takeShort (show Hid (Rdr (w6.drewN _) _ _ _ _) from V1.out _) q7.out q8.out)))) | ((go_at_call 26; exact (Calls.quiet_of_same ((place _ _ _ _ _ (show Hid (Rdr (w6.drewN _) _ _ _ _) from V1.out _)).mono fun _ _ h => ⟨h.1, h.2.symm⟩)))))
            go_wp2
            go_ret
            exact ⟨rfl, ((HC1.out.trans HC6.out (fun _ _ h => h)).drewN _).done⟩
        · go_wp2
          go_ret
          exact ⟨rfl, (HC1.out.trans HC.out (fun _ _ h => h)).done⟩
end Go.Proofs.Ytcljbaoadmflgaa.Kit
