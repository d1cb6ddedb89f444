/- The walk of OctetSums. -/
import Derived.Test.YtcljbaoadmflgaaProg
import Derived.Test.YtcljbaoadmflgaaOctLaw
import Derived.Test.YtcljbaoadmflgaaCrc
import Derived.Test.YtcljbaoadmflgaaCrcR
set_option linter.unusedVariables false
set_option linter.unusedSimpArgs false
namespace Go.Proofs.Ytcljbaoadmflgaa.Kit
open Go.RowKit
def tw (v : Int) : Int := Go.bits .xor .u8 v 85
theorem tw_byt (v : Int) : 0 ≤ tw v ∧ tw v ≤ 255 := by
  unfold tw
  show 0 ≤ IntKind.u8.wrap _ ∧ IntKind.u8.wrap _ ≤ 255
  rw [IntKind.wrap_u8]
  omega
theorem own_some {w : World} {e : TypeId} {k : IntKind} {A : Option Addr} {n c : Nat} {l : List Int} (h : Own w e k (.slice A n c) l) (hl : 0 < l.length) : ∃ g, A = some ⟨g, 0, none⟩ ∧ Value.ownBlock (.slice A n c) = some g := by
  rcases h.2 with ⟨_, h0⟩ | ⟨g', cap, cur, hv, _⟩
  · omega
  · injection hv with hA hn hc
    subst hA
    exact ⟨g', rfl, rfl⟩
/-- turned up to k -/
def twUp (l : List Int) (k : Nat) : List Int := (l.map tw).take k ++ l.drop k
theorem twUp_length (l : List Int) (k : Nat) (h : k ≤ l.length) : (twUp l k).length = l.length := by
  simp [twUp]
  omega
theorem twUp_set (l : List Int) (k : Nat) (h : k < l.length) (m : List Int) : (twUp l k ++ m).set k (tw l[k]) = twUp l (k + 1) ++ m := by
  have h1 : ((l.map tw).take k).length = k := by simp; omega
  unfold twUp
  rw [List.append_assoc, List.set_append_right _ _ (by omega), h1, Nat.sub_self, List.drop_eq_getElem_cons h, List.cons_append, List.set_cons_zero, List.take_succ_eq_append_getElem (by simpa using h)]
  simp
set_option maxRecDepth 20000 in
set_option maxHeartbeats 1600000 in
theorem octetSumsWalk (w : World) (A : Option Addr) (c : Nat) (l : List Int) (hr : Hid (Rd w .u8 A l)) (hl : l.length ≤ 140737488351232) (hb : Byt l) (hlc : l.length ≤ c) :
    Calls Try.prog 10 #[.slice A l.length c] w fun e w' => e = .returned (.bool true) ∧ Below w.heap.size w w' := by
  obtain ⟨n, hn⟩ : ∃ n : Nat, n = l.length := ⟨_, rfl⟩
  have HN := Lib.hid hn
  have HB := Lib.hid hb
  have hle : Hid (l.length ≤ 140737488355328) := Nat.le_trans hl (by decide)
  have hl90 : n ≤ 140737488351232 := by omega
  have hnc : n ≤ c := by omega
  have HL := Lib.hid hl
  rw [← hn]
  clear hn hb hl hlc
  go_enter Try.func10, Try.ntmps10
  go_wp2_with fail
  refine (show Calls Try.prog 16 #[.slice A n c] w _ from HN.out ▸ hand A c l _ HL.out hr).mono ?_
  rintro e w1 ⟨g, rfl, k1, k2, k3⟩
  have I1 := Lib.hid k1; have hg := Lib.hid k2; have HC1 := Lib.hid k3
  clear k1 k2 k3
  have hm90 : (l ++ marks).length = n + 90 := by rw [List.length_append, marks_length, HN.out]
  have HM := Lib.hid hm90
  clear hm90
  have V1 : Hid (Rd w1 .u8 (some ⟨g, 0, none⟩) (l ++ marks)) := I1.out.rd (by rw [HM.out])
  have V2 : Hid (Rd w1 .u8 (some ⟨g, 0, none⟩) l) := by
    have := V1.out.take l.length
    rw [List.take_left] at this
    exact this
  have b1 : (n : Int) ≤ (n : Int) + 90 := by omega
  have b0 : (0 : Int) ≤ (n : Int) := by omega
  go_wp2_with fail
  refine (crcCall _ _ n l w1 HN HB hle V2).mono ?_
  rintro e w2 ⟨rfl, k1⟩
  have HC2 : Hid (Chg (fun _ => False) w w2) := HC1.out.trans k1 (fun _ _ h => h)
  have I2 : Hid (OwnB w2 (.slice (some ⟨g, 0, none⟩) (n + 90) (n + 90)) (l ++ marks)) := I1.out.chg k1 (fun _ _ h => h)
  have V3 : Hid (Rd w2 .u8 (some ⟨g, 0, none⟩) (l ++ marks)) := I2.out.rd (by rw [HM.out])
  clear k1
  have R2 : Hid (Rd w2 .u8 A l) := hr.out.below HC2.out.done
  go_wp2_with fail
  refine (crcRef A c n l _ HN HB hle R2).mono ?_
  rintro e w' ⟨rfl, rfl⟩
  go_wp2_with fail
  refine (untouched (some ⟨g, 0, none⟩) A (n + 90) c (n + 90) n (l ++ marks) l w2 HM.out.symm HN.out (Nat.le_refl _) (by rw [HM.out, HN.out]) HL.out V3 R2).mono ?_
  rintro e w' ⟨rfl, nq, rfl⟩
  rw [show decide (l ++ marks = l ++ marks) = true from decide_eq_true rfl]
  have R3 : Hid (Rd ((w2.drewN nq).alloc (.cells #[] 5)) .u8 A l) := hr.out.below ((HC2.out.drewN _).alloc _).done
  go_wp2_with (at_builtin; go_must (refine wp_appn rfl _ _ 22 5 .u8 1 rfl Try.underlying22 infoU8 (by decide) (.slice (some ⟨w2.heap.size, 0, none⟩) 0 0) [] rfl (Own.lit (w2.drewN nq) 5 .u8 [] (by simp)) A c l _ rfl HN.out R3.out (by have := HL.out; simp; omega) ?_); intro v' w3 k1 k2 k3 k4; obtain ⟨A1, c1, hv, _, _⟩ := k1.slice; rw [List.nil_append, ← HN.out] at hv; subst hv; have N1 := Lib.hid k1; have N3 := Lib.hid k3; have N4 := Lib.hid k4; clear k1 k2 k3 k4; go_frame)
  have HC3 : Hid (Chg (fun _ => False) w w3) := ((HC2.out.drewN _).alloc _).fresh N3.out (blk_ge HC2.out.size)
  have hg2 : Hid (∀ i, Value.ownBlock (.slice A1 n c1) = some i → w2.heap.size ≤ i) := N4.out.ge (blk_ge (Nat.le_refl _)) (by simp)
  have hgl : Hid (g < w2.heap.size) := I2.out.lt g rfl
  have I3 : Hid (OwnB w3 (.slice (some ⟨g, 0, none⟩) (n + 90) (n + 90)) (l ++ marks)) := ((I2.out.drewN nq).alloc (.cells #[] 5)).chg N3.out (fun i hi h => by
    simp [Value.ownBlock] at hi h
    have := hgl.out
    omega)
  go_loopw [8] (fun i wr => ∃ k : Nat, k ≤ n ∧ i = .int .i64 k ∧ Hid (OwnB wr (.slice (some ⟨g, 0, none⟩) (n + 90) (n + 90)) (twUp l k ++ marks)) ∧ Hid (OwnB wr (.slice A1 n c1) (twUp l k)) ∧ Hid (Chg (fun _ => False) w wr)) (fun i _ => n - (intOf i).toNat)
  case atStart => exact ⟨0, Nat.zero_le _, rfl, by have := I3.out; rw [Hid]; simpa [twUp] using this, by have := N1.out; rw [Hid]; simpa [twUp] using this, HC3.out⟩
  case round =>
    obtain ⟨k, hk, rfl, IW, OW, HC⟩ := hrel
    by_cases hlt : k < n
    · have hkl : k < l.length := by rw [← HN.out]; exact hlt
      have hln := twUp_length l k (by omega)
      obtain ⟨ad, rfl, hc⟩ := hr.out.below HC.out.done k hkl
      obtain ⟨g2, rfl, hob⟩ := own_some OW.out (by rw [hln]; omega)
      have hne : g2 ≠ g := by have := hg2.out g2 hob; have := hgl.out; omega
      obtain ⟨⟨y1, q1⟩, q2⟩ : (∃ y, wr.cell? ⟨g2, k, none⟩ = some y) ∧ wr.frozen? ⟨g2, k, none⟩ = false := by
        have := OW.out.cellAt (i := k) (by rw [hln]; exact hkl)
        exact ⟨⟨_, this.1⟩, this.2⟩
      have OW2 := OW.out.store (i := k) (by rw [hln]; exact hkl) (tw l[k])
      have hs1 := twUp_set l k hkl []
      rw [List.append_nil, List.append_nil] at hs1
      rw [hs1] at OW2
      have IW2 := ((IW.out.chg (((Chg.refl (· = g2) wr).setg k (.int .u8 (tw l[k])))) (fun i hi h => by
        simp [Value.ownBlock] at hi
        omega)).store (i := k) (by rw [List.length_append, hln]; omega) (tw l[k]))
      rw [twUp_set l k hkl marks] at IW2
      obtain ⟨⟨y3, q6⟩, q7⟩ : (∃ y, (wr.setCell ⟨g2, k, none⟩ (.int .u8 (tw l[k]))).cell? ⟨g, k, none⟩ = some y) ∧ (wr.setCell ⟨g2, k, none⟩ (.int .u8 (tw l[k]))).frozen? ⟨g, k, none⟩ = false := by
        have := (IW.out.chg (((Chg.refl (· = g2) wr).setg k (.int .u8 (tw l[k])))) (fun i hi h => by
          simp [Value.ownBlock] at hi
          omega)).cellAt (i := k) (by rw [List.length_append, hln]; omega)
        exact ⟨⟨_, this.1⟩, this.2⟩
      have q5 : (wr.setCell ⟨g2, k, none⟩ (.int .u8 (tw l[k]))).cell? ⟨g2, k, none⟩ = some (.int .u8 (tw l[k])) := (OW.out.store (i := k) (by rw [hln]; exact hkl) (tw l[k])).cellAt (i := k) (by rw [List.length_set, hln]; exact hkl) |>.1.trans (by simp)
      have OWF := Lib.hid OW2
      have IWF := Lib.hid IW2
      have HKL := Lib.hid hkl
      generalize hv : l[k] = v at hc q5 q6 q7 OWF IWF
      have htw : Go.bits .xor .u8 v 85 = tw v := rfl
      have HTW := Lib.hid htw
      generalize tw v = t at htw q5 q6 q7 OWF IWF HTW
      have b2 : (0 : Int) ≤ (k : Int) := by omega
      have b3 : (k : Int) < (n : Int) := by omega
      have b4 : (k : Int) < (n : Int) + 90 := by omega
      clear hln hkl hs1 OW2 IW2 hv
      go_wp2_with fail
      go_roundw
      case rel => exact ⟨k + 1, by omega, by go_num, IWF.out, OWF.out.chg ((Chg.refl (· = g) _).setg k _) (fun i hi h => by simp [Value.ownBlock] at hi; omega), (HC.out.setCell (p := ⟨g2, k, none⟩) (fun h => by have h1 := hg2.out g2 hob; have h2 := HC2.out.size; simp at h; omega) _).setCell (p := ⟨g, k, none⟩) (fun h => by have h1 := hg.out; simp at h; omega) _⟩
      case measure => simp [intOf]; omega
    · obtain rfl : k = n := by omega
      have hfull : twUp l k = l.map tw := by
        rw [twUp, HN.out, List.drop_length, List.append_nil, List.take_of_length_le (by simp)]
      have hTL : Hid (k = (l.map tw).length) := by rw [Hid, List.length_map]; exact HN.out
      have hTB : Hid (Byt (l.map tw)) := fun z hz => by
        obtain ⟨y, _, rfl⟩ := List.mem_map.1 hz
        exact tw_byt y
      have hTle : Hid ((l.map tw).length ≤ 140737488355328) := by rw [Hid, List.length_map]; exact hle.out
      have IW' := IW.out
      have OW' := OW.out
      rw [hfull] at IW' OW'
      have S1 : Hid (Rd wr .u8 (some ⟨g, 0, none⟩) (l.map tw)) := by
        have h1 := IW'.rd (A := some ⟨g, 0, none⟩) (c := k + 90) (by rw [List.length_append, marks_length, ← hTL.out])
        have := h1.take (l.map tw).length
        rw [List.take_left] at this
        exact this
      have OWH := Lib.hid OW'
      clear IW' OW' hfull
      go_wp2_with fail
      refine (crcCall _ _ k (l.map tw) _ hTL hTB hTle S1).mono ?_
      rintro e w5 ⟨rfl, k1⟩
      have HC5 : Hid (Chg (fun _ => False) w w5) := HC.out.trans k1 (fun _ _ h => h)
      have O5 : Hid (Rd w5 .u8 A1 (l.map tw)) := (OWH.out.chg k1 (fun _ _ h => h)).rd (by rw [← hTL.out])
      clear k1
      go_wp2_with fail
      refine (crcRef A1 c1 k (l.map tw) _ hTL hTB hTle O5).mono ?_
      rintro e w' ⟨rfl, rfl⟩
      go_wp2_with fail
      go_ret
      exact ⟨rfl, HC5.out.done⟩
end Go.Proofs.Ytcljbaoadmflgaa.Kit
