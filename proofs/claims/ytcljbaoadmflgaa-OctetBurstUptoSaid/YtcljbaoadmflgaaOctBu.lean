/- The walk of OctetBurst. -/
import Derived.Test.YtcljbaoadmflgaaProg
import Derived.Test.YtcljbaoadmflgaaPlainL
import Derived.Test.YtcljbaoadmflgaaOctSc
import Derived.Test.YtcljbaoadmflgaaRight
import Derived.Test.YtcljbaoadmflgaaSmall
import Derived.RegionTactic
import Derived.ChangeAlike
import Derived.BigRegion
set_option linter.unusedVariables false
set_option linter.unusedSimpArgs false
namespace Go.Proofs.Ytcljbaoadmflgaa.Kit
open Go.RowKit
def hd8 : ByteArray := { data := #[104, 101, 97, 100, 104, 101, 97, 100] }
theorem shr_bit (T : V32) (k : Nat) : (Go.bits .and .u32 (vi T / 2 ^ k) 1 == 1) = T.getLsbD k := by
  have h := and1_hit (y := T >>> k)
  have h' := and1_miss (y := T >>> k)
  rw [vi_shr]
  have hb : (T >>> k).getLsbD 0 = T.getLsbD k := by rw [BitVec.getLsbD_ushiftRight, Nat.add_zero]
  cases hT : T.getLsbD k
  · exact h' (by rw [low_iff, hb, hT]; decide)
  · rw [h ((low_iff _).2 (by rw [hb, hT]))]
    rfl
set_option maxRecDepth 20000 in
set_option maxHeartbeats 6400000 in
theorem octetBurstWalk (w : World) (s : ByteArray) (hs : s.size ≤ 1048576) (A : Option Addr) (c : Nat) (l : List SecV) (hr : Hid (RdSecs w A l)) (hb : ∀ x ∈ l, x.body.length ≤ 1048576) (hl : l.length ≤ 1048576) (hc : l.length ≤ c) (hmx : c ≤ maxLen)
    (frm : Int) (hf0 : -9223372036854775808 ≤ frm) (hf1 : frm ≤ 9223372036854775807) (x : Int) (hx0 : 0 ≤ x) (hx1 : x ≤ 4294967295) :
    Calls Try.prog 15 #[.string s, .slice A l.length c, .int .i64 frm, .int .u32 x] w fun e w' => e = .returned (.bool true) ∧ Below w.heap.size w w' := by
  obtain ⟨n, hn⟩ : ∃ n, n = l.length := ⟨_, rfl⟩
  have HN := Lib.hid hn
  have HALL := Lib.hid hr.out.all
  have hE := secsEnc_bound l hl hb (fun x hx => (HALL.out.2 x hx).2)
  have HE : Hid ((secsEnc l).length ≤ 140737488355200) := Nat.le_trans hE (by decide)
  have HS : Hid ((sealOf s l).1.length ≤ 1099532599318) := sealOf_len s l hE hl
  have HB2 : Hid (∀ x ∈ l, x.body.length ≤ 140737488355200) := fun x hx => Nat.le_trans (hb x hx) (by decide)
  have hss : s.size ≤ 140737488355328 := by omega
  rw [← hn]
  rw [← hn] at hl hc
  clear hn hb hE
  have nil0 : Hid (0 = ([] : List SecV).length) := rfl
  have nilE : Hid ((secsEnc []).length ≤ 140737488355200) := by rw [Hid]; decide
  have nilB : Hid (∀ x ∈ ([] : List SecV), x.body.length ≤ 140737488355200) := fun x h => absurd h (by simp)
  obtain ⟨T0, hT0⟩ : ∃ T0, headOf hd8 [] ++ sumB (vi (crc (headOf hd8 []))) = T0 := ⟨_, rfl⟩
  have hS0 : Hid (sealOf hd8 [] = (T0, 0)) := by rw [Hid, ← hT0]; exact seal_good rfl rfl
  have hT13 : T0.length = 13 := by
    rw [← hT0, List.length_append, sumB_length, headOf_length, show hd8.size = 8 from rfl, secsEnc]
    rw [show (vb ([] : List SecV).length).length = 1 from by rw [show ([] : List SecV).length = 0 from rfl, vb_last (by omega)]; rfl]
    rfl
  have HT13 := Lib.hid hT13
  clear hT0 hT13
  obtain ⟨r, hR0⟩ : ∃ r, rightB s l = r := ⟨_, rfl⟩
  have HR0 := Lib.hid hR0
  clear hR0
  go_enter Try.func15, Try.ntmps15
  go_wp2_with fail
  refine (show Calls Try.prog 40 #[.string { data := #[104, 101, 97, 100, 104, 101, 97, 100] }, .slice none 0 0] w _ from sealCall' (s := hd8) (l := []) hS0 nil0 (by decide) (Nat.le_refl _) (Nat.zero_le _) (RdSecs.nil _ _) nilE nilB).mono ?_
  rintro e w1 ⟨A1, n1, c1, rfl, m1⟩
  have hn1 : n1 = 13 := m1.len.trans HT13.out
  have C1 := Lib.hid m1.chg
  subst hn1
  clear m1
  have q1 : Hid (RdSecs w1 A l) := hr.out.below C1.out.done
  go_wp2_with fail
  refine (rightCall HR0 hss HN hc hmx q1).mono ?_
  rintro e wq ⟨rfl, qa, rfl⟩
  have C2 : Hid (Chg (fun _ => False) w (w1.drewN qa)) := C1.out.drewN qa
  cases r
  · go_wp2_with fail
    go_ret
    exact ⟨rfl, C2.out.done⟩
  · by_cases hxz : x = 0
    · subst hxz
      go_wp2_with fail
      go_ret
      exact ⟨rfl, C2.out.done⟩
    · by_cases hfn : frm < 0
      · have hxe : (x == 0) = false := by simpa using hxz
        clear hxz
        go_wp2_with fail
        go_ret
        exact ⟨rfl, C2.out.done⟩
      · have hxe : (x == 0) = false := by simpa using hxz
        obtain ⟨T, hT⟩ : ∃ T : V32, vi T = x := ⟨BitVec.ofInt 32 x, vi_ofInt hx0 (by omega)⟩
        have hgood : s.size = 8 ∧ goodSecs l = true := by
          have := HR0.out
          simp only [rightB, Bool.and_eq_true, decide_eq_true_eq] at this
          exact this
        obtain ⟨B, hS⟩ : ∃ B, sealOf s l = (B, 0) := ⟨_, seal_good hgood.1 hgood.2⟩
        have HSB := Lib.hid hS
        rw [hS] at HS
        have HBB : Hid (Byt B) := by
          have h := seal_good hgood.1 hgood.2
          rw [hS] at h
          simp only [Prod.mk.injEq, and_true] at h
          rw [h]
          exact byt_mk (headOf_byt s l HALL.out.1) (sumB_byt _ (vi_nonneg _) (vi_lt _))
        obtain ⟨nB, hnB⟩ : ∃ nB, nB = B.length := ⟨_, rfl⟩
        have HNB := Lib.hid hnB
        have hnB2 : nB ≤ 1099532599318 := by rw [hnB]; exact HS.out
        have q2 : Hid (RdSecs (w1.drewN qa) A l) := hr.out.below C2.out.done
        have HT := Lib.hid hT
        have HXZ := Lib.hid hxz
        clear hgood hS hnB hT HS hxz
        go_wp2_with fail
        refine (sealCall' HSB HN hss hc hmx q2 HE HB2).mono ?_
        rintro e w3 ⟨A3, n3, c3, rfl, m1⟩
        have hn3 : n3 = nB := m1.len.trans HNB.out.symm
        subst hn3
        have C3 : Hid (Chg (fun _ => False) w w3) := C2.out.trans m1.chg (fun _ _ h => h)
        have O3 := Lib.hid m1.own
        have F3 := Lib.hid m1.new
        have hc3 := m1.cap
        have hm3 := m1.mx
        have hsz1 : Hid (w.heap.size ≤ (w1.drewN qa).heap.size) := C2.out.size
        clear m1 q1 q2 C1 C2
        go_wp2_with fail
        by_cases hbig : 1152921504606846976 ≤ frm
        · go_loopw [14, 15] (fun a i wr => ∃ k : Nat, k ≤ 32 ∧ i = .int .i64 k ∧ a = .bool false ∧ w3 = wr) (fun _ i _ => 32 - (intOf i).toNat)
          case atStart => exact ⟨0, by omega, rfl, rfl, rfl⟩
          case round =>
            obtain ⟨k, hk, rfl, rfl, rfl⟩ := hrel
            by_cases hlt : k < 32
            · have hbt := shr_bit T k
              rw [HT.out] at hbt
              cases hTk : T.getLsbD k
              · rw [hTk] at hbt
                clear hTk

                go_wp2_with fail
                go_roundw
                case rel => exact ⟨k + 1, by omega, by go_num, rfl, trivial⟩
                case measure => simp [intOf]; omega
              · rw [hTk] at hbt
                clear hTk
                by_cases hov : frm + (k : Int) ≤ 9223372036854775807
                · have hge : frm ≤ frm + (k : Int) := by omega
                  have hfar : ¬ (frm + (k : Int)) / 8 < (n3 : Int) := by omega
                  have hdv : 0 ≤ frm + (k : Int) := by omega
                  go_wp2_with fail
                  go_roundw
                  case rel => exact ⟨k + 1, by omega, by go_num, rfl, trivial⟩
                  case measure => simp [intOf]; omega
                · obtain ⟨K, hK⟩ : ∃ K, IntKind.i64.wrap (frm + (k : Int)) = K := ⟨_, rfl⟩
                  have hK2 : K < 0 := by
                    rw [← hK, IntKind.wrap_i64]
                    omega
                  have hK' : wrap64 (frm + (k : Int)) = K := by rw [← IntWalk.i64_left]; exact hK
                  have hlt2 : ¬ frm ≤ K := by omega
                  clear hov
                  go_wp2_with fail
                  go_roundw
                  case rel => exact ⟨k + 1, by omega, by go_num, rfl, trivial⟩
                  case measure => simp [intOf]; omega
            · obtain rfl : k = 32 := by omega
              have HU : Hid (unsealOf s B = (l, 0, 0)) := unseal_of_seal HALL.out.1 (by have := HNB.out; omega) HSB.out
              have HBL : Hid (B.length ≤ 140737488355328) := by rw [Hid, ← HNB.out]; omega
              have R3 : Hid (Rd w3 .u8 A3 B) := O3.out.rd (by rw [HNB.out])
              go_wp2_with fail
              refine (unsealCall' HU HNB hc3 hm3 HBL HBB R3 hss).mono ?_
              rintro e w4 ⟨A4, c4, b4, rfl, m1⟩
              have C4 : Hid (Chg (fun _ => False) w w4) := C3.out.trans m1.chg (fun _ _ h => h)
              clear m1
              go_wp2_with fail
              go_ret
              exact ⟨rfl, C4.out.done⟩
        · obtain ⟨fr, rfl⟩ : ∃ fr : Nat, frm = (fr : Int) := ⟨frm.toNat, by omega⟩
          have hfr : fr < 1152921504606846976 := by omega
          have hnz : Hid (w.heap.size ≤ w3.heap.size) := C3.out.size
          clear hbig hfn hf0 hf1
          go_loopw [14, 15] (fun a i wr => ∃ k : Nat, k ≤ 32 ∧ i = .int .i64 k ∧ a = .bool (anyUp n3 fr T k) ∧ Hid (OwnB wr (.slice A3 n3 c3) (flips B fr T k)) ∧ Hid (Chg (fun y => Value.ownBlock (.slice A3 n3 c3) = some y) w3 wr)) (fun _ i _ => 32 - (intOf i).toNat)
          case atStart => exact ⟨0, by omega, rfl, rfl, O3.out, Chg.refl _ _⟩
          case round =>
            obtain ⟨k, hk, rfl, rfl, OK, CK⟩ := hrel
            by_cases hlt : k < 32
            · have hbt := shr_bit T k
              rw [HT.out] at hbt
              cases hTk : T.getLsbD k
              · rw [hTk] at hbt
                have hA : Hid (anyUp n3 fr T (k + 1) = anyUp n3 fr T k) := by rw [Hid, anyUp, hTk, Bool.false_and, Bool.or_false]
                have hF : Hid (flips B fr T (k + 1) = flips B fr T k) := by rw [Hid, flips, if_neg (by rw [hTk]; decide)]
                clear hTk
                go_wp2_with fail
                go_roundw
                case rel => exact ⟨k + 1, by omega, by go_num, by rw [hA.out], by rw [hF.out]; exact OK.out, CK.out⟩
                case measure => simp [intOf]; omega
              · rw [hTk] at hbt
                obtain ⟨K, hK⟩ : ∃ K : Nat, K = fr + k := ⟨_, rfl⟩
                have hKi : (fr : Int) + (k : Int) = (K : Int) := by omega
                have hge : (fr : Int) ≤ (K : Int) := by omega
                by_cases hin : K / 8 < n3
                · have hini : (K : Int) / 8 < (n3 : Int) := by omega
                  have hA : Hid (anyUp n3 fr T (k + 1) = true) := by rw [Hid, anyUp, hTk, Bool.true_and, decide_eq_true (by rw [← hK]; exact hin), Bool.or_true]
                  have hF : Hid (flips B fr T (k + 1) = flip1 (flips B fr T k) K) := by rw [Hid, flips, if_pos hTk, ← hK]
                  have hln := flips_length B fr T k
                  have hJl : K / 8 < (flips B fr T k).length := by rw [hln, ← HNB.out]; exact hin
                  obtain ⟨g2, rfl, hob⟩ := own_some OK.out (by omega)
                  obtain ⟨q1, q2⟩ := OK.out.cellAt (i := K / 8) hJl
                  obtain ⟨J, hJ⟩ : ∃ J, J = K / 8 := ⟨_, rfl⟩
                  obtain ⟨M, hM⟩ : ∃ M, M = K % 8 := ⟨_, rfl⟩
                  obtain ⟨v, hv⟩ : ∃ v, v = (flips B fr T k)[K / 8] := ⟨_, rfl⟩
                  obtain ⟨p, hp⟩ : ∃ p : Int, p = 2 ^ M := ⟨_, rfl⟩
                  obtain ⟨t, ht⟩ : ∃ t, t = Go.bits .xor .u8 v p := ⟨_, rfl⟩
                  have hpb := two_pow8 K
                  rw [← hM, ← hp] at hpb
                  have OK2 := OK.out.store (i := K / 8) hJl t
                  have hfl : (flips B fr T k).set (K / 8) t = flip1 (flips B fr T k) K := by
                    rw [flip1, ht, hp, hM, hv, List.getD_eq_getElem?_getD, List.getElem?_eq_getElem hJl]
                    rfl
                  rw [hfl, ← hF.out, ← hJ] at OK2
                  rw [← hv, ← hJ] at q1
                  rw [← hJ] at q2 hin
                  have OKH := Lib.hid OK2
                  have e1 : (K : Int) / 8 = (J : Int) := by omega
                  have e2 : (K : Int) % 8 = (M : Int) := by omega
                  have e3 : Go.bits .xor .u8 v p = t := ht.symm
                  have e4 : (2 : Int) ^ M = p := hp.symm
                  have e5 : IntKind.u8.wrap p = p := IntWalk.u8_in _ hpb
                  have b1 : (0 : Int) ≤ (J : Int) := by omega
                  have b2 : (J : Int) < (n3 : Int) := by omega
                  have b3 : (0 : Int) ≤ (K : Int) := by omega
                  clear hTk hK hin hln hJl hv hp ht hfl OK2 hpb hJ hM hini
                  go_wp2_with fail
                  go_region
                  go_wp2_with fail
                  go_roundw
                  case rel => exact ⟨k + 1, by omega, by go_num, by rw [hA.out], OKH.out.drew, (CK.out.setCell (p := ⟨g2, J, none⟩) (fun _ => hob) _).drew⟩
                  case measure => simp [intOf]; omega
                · have hini : ¬ (K : Int) / 8 < (n3 : Int) := by omega
                  have hA : Hid (anyUp n3 fr T (k + 1) = anyUp n3 fr T k) := by rw [Hid, anyUp, hTk, Bool.true_and, decide_eq_false (by rw [← hK]; exact hin), Bool.or_false]
                  have hF : Hid (flips B fr T (k + 1) = flips B fr T k) := by
                    rw [Hid, flips, if_pos hTk, flip1, List.set_eq_of_length_le]
                    rw [flips_length, ← HNB.out, ← hK]
                    omega
                  clear hTk hK hin
                  go_wp2_with fail
                  go_roundw
                  case rel => exact ⟨k + 1, by omega, by go_num, by rw [hA.out], by rw [hF.out]; exact OK.out, CK.out⟩
                  case measure => simp [intOf]; omega
            · obtain rfl : k = 32 := by omega
              have hlF : (flips B fr T 32).length = B.length := flips_length B fr T 32
              have HNF : Hid (n3 = (flips B fr T 32).length) := by rw [Hid, hlF]; exact HNB.out
              have HBF : Hid (Byt (flips B fr T 32)) := flips_byt HBB.out fr T 32
              have HLF : Hid ((flips B fr T 32).length ≤ 140737488355328) := by rw [Hid, ← HNF.out]; omega
              have R4 : Hid (Rd wr .u8 A3 (flips B fr T 32)) := OK.out.rd (by rw [← HNF.out])
              have C4 : Hid (Chg (fun _ => False) w wr) := C3.out.trans CK.out (fun y hy h => by
                have h1 := F3.out y h
                have h2 := hsz1.out
                omega)
              clear hlF
              cases hany : anyUp n3 fr T 32
              · have HU : Hid (unsealOf s (flips B fr T 32) = (l, 0, 0)) := by
                  rw [Hid, flips_none (by rw [← HNB.out]; exact hany)]
                  exact unseal_of_seal HALL.out.1 (by have := HNB.out; omega) HSB.out
                clear hany
                go_wp2_with fail
                refine (unsealCall' HU HNF hc3 hm3 HLF HBF R4 hss).mono ?_
                rintro e w5 ⟨A5, c5, b5, rfl, m1⟩
                have C5 : Hid (Chg (fun _ => False) w w5) := C4.out.trans m1.chg (fun _ _ h => h)
                clear m1
                go_wp2_with fail
                go_ret
                exact ⟨rfl, C5.out.done⟩
              · obtain ⟨L', p', e', hU'⟩ : ∃ L p e0, unsealOf s (flips B fr T 32) = (L, p, e0) := ⟨_, _, _, rfl⟩
                have hne' := unseal_burst HALL.out.1 HSB.out fr T (by rw [← HNB.out]; exact hany)
                rw [hU'] at hne'
                have HU' := Lib.hid hU'
                have he1 : (e' == 0) = false := by simpa using hne'
                clear hU' hne' hany
                go_wp2_with fail
                refine (unsealCall' HU' HNF hc3 hm3 HLF HBF R4 hss).mono ?_
                rintro e w5 ⟨A5, c5, b5, rfl, m1⟩
                have C5 : Hid (Chg (fun _ => False) w w5) := C4.out.trans m1.chg (fun _ _ h => h)
                clear m1
                go_wp2_with fail
                go_ret
                exact ⟨rfl, C5.out.done⟩
end Go.Proofs.Ytcljbaoadmflgaa.Kit
