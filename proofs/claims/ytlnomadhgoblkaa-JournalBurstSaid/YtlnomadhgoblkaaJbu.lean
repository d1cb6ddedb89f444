/- The walk of JournalBurst. -/
import Derived.Test.YtlnomadhgoblkaaProg
import Derived.Test.YtlnomadhgoblkaaJk
import Derived.Test.YtlnomadhgoblkaaPlainF
import Derived.RegionTactic
import Derived.ChangeAlike
import Derived.BigRegion
set_option linter.unusedVariables false
set_option linter.unusedSimpArgs false
namespace Go.Proofs.Ytlnomadhgoblkaa.Kit
open Go.RowKit
theorem shr_bit (T : V32) (k : Nat) : (Go.bits .and .u32 (vi T / 2 ^ k) 1 == 1) = T.getLsbD k := by
  have h := and1_hit (y := T >>> k)
  have h' := and1_miss (y := T >>> k)
  rw [vi_shr]
  have hb : (T >>> k).getLsbD 0 = T.getLsbD k := by rw [BitVec.getLsbD_ushiftRight, Nat.add_zero]
  cases hT : T.getLsbD k
  · exact h' (by rw [low_iff, hb, hT]; decide)
  · rw [h ((low_iff _).2 (by rw [hb, hT]))]
    rfl
theorem set_mid (P Y S : List Int) (j : Nat) (t : Int) (hj : j < Y.length) : (P ++ (Y ++ S)).set (P.length + j) t = P ++ (Y.set j t ++ S) := by
  rw [List.set_append_right _ _ (by omega), Nat.add_sub_cancel_left, List.set_append_left _ _ hj]
theorem get_mid (P Y S : List Int) (j : Nat) (hj : j < Y.length) (h : P.length + j < (P ++ (Y ++ S)).length) : (P ++ (Y ++ S))[P.length + j] = Y[j] := by
  rw [List.getElem_append_right (by omega)]
  simp only [Nat.add_sub_cancel_left]
  rw [List.getElem_append_left hj]
/-- a journal's bytes about one record's body and sum -/
theorem jnl_about {ls : List SecV} {j : Nat} {x : SecV} (hx : ls[j]? = some x) : jnlBytes ls = (jnlBytes (ls.take j) ++ recPre j x) ++ ((x.body ++ sumB (vi (crc (recHd j x)))) ++ jnlFrom (j + 1) (ls.drop (j + 1))) := by
  obtain ⟨hlt, hxe⟩ := List.getElem?_eq_some_iff.1 hx
  have hs := jnl_split ls j (Nat.le_of_lt hlt)
  rw [List.drop_eq_getElem_cons hlt, hxe, jnlFrom] at hs
  rw [hs, recEnc, recHd_pre]
  simp only [List.append_assoc]
theorem jnl_end {ls : List SecV} {j : Nat} {x : SecV} (hx : ls[j]? = some x) : (jnlBytes (ls.take (j + 1))).length = (jnlBytes (ls.take j) ++ recPre j x).length + (x.body.length + 4) := by
  obtain ⟨hlt, hxe⟩ := List.getElem?_eq_some_iff.1 hx
  rw [List.take_succ_eq_append_getElem hlt, jnlBytes_snoc, hxe, List.length_take, Nat.min_eq_left (Nat.le_of_lt hlt), recEnc, recHd_pre]
  simp only [List.length_append, sumB_length]
  omega
set_option maxRecDepth 20000 in
set_option maxHeartbeats 6400000 in
theorem journalBurstWalk (w : World) (A : Option Addr) (c : Nat) (l : List SecV) (hr : Hid (RdSecs w A l)) (hl : l.length ≤ 4398046511104) (hsz : Hid (∀ x ∈ l, x.body.length ≤ 140737488351232)) (q : Int) (q0 : -9223372036854775808 ≤ q) (q1 : q ≤ 9223372036854775807) (f : Int) (f0 : -9223372036854775808 ≤ f) (f1 : f ≤ 9223372036854775807) (z : Int) (z0 : 0 ≤ z) (z1 : z ≤ 4294967295) :
    Calls Try.prog 12 #[.slice A l.length c, .int .i64 q, .int .i64 f, .int .u32 z] w fun e w' => e = .returned (.bool true) ∧ Below w.heap.size w w' := by
  obtain ⟨n, hn⟩ : ∃ n : Nat, n = l.length := ⟨_, rfl⟩
  have HN := Lib.hid hn
  rw [← hn]
  rw [← hn] at hl
  clear hn
  go_enter Try.func12, Try.ntmps12
  go_wp2_with fail
  refine (filledC HN hl hr hsz).mono ?_
  rintro e w1 ⟨gj, D, A1, n1, c1, ls, rfl, g1, m2, m3, m4⟩
  have F1 := Lib.hid g1
  have C1 := Lib.hid m4
  have hn1 : n1 ≤ 33554432 := g1.nb
  have hgl : Hid (∀ x ∈ ls, GoodRec x) := g1.good
  have hsm : Hid ((jnlBytes ls).length ≤ 268435456) := g1.small
  have hln : Hid (n1 = ls.length) := g1.len
  clear g1 m2 m3 m4
  by_cases hq : 0 ≤ q ∧ q < (n1 : Int)
  · obtain ⟨j, rfl⟩ : ∃ j : Nat, q = (j : Int) := ⟨q.toNat, by omega⟩
    obtain ⟨h0, h1⟩ := hq
    have hj : j < n1 := by omega
    have hn1i : ((n1 : Int) == 0) = false := by
      rw [beq_eq_false_iff_ne]
      omega
    have hji : ¬ n1 ≤ j := by omega
    have hji2 : ¬ (j : Int) < 0 := by omega
    go_wp2_with fail
    refine (jbytesC hsm (Lib.hid F1.out.jn)).mono ?_
    rintro e w3 ⟨A3, n3, c3, rfl, m3, hn3, hc3⟩
    have C3 : Hid (Chg (fun _ => False) w w3) := C1.out.trans m3.chg (fun _ _ h => h)
    have C13 := Lib.hid m3.chg
    have O3 : Hid (OwnB w3 (.slice A3 n3 c3) (jnlBytes ls)) := m3.own
    have L3 : Hid (n3 = (jnlBytes ls).length) := m3.len
    have N3 : Hid (∀ y, Value.ownBlock (.slice A3 n3 c3) = some y → w1.heap.size ≤ y) := m3.new
    have hnc3 := m3.cap
    have F3 := Lib.hid (F1.out.old m3.chg)
    clear m3
    go_wp2_with fail
    refine (jendsCall D gj ls n1 _ F3.out.len (by omega) (Lib.hid F3.out.jn)).mono ?_
    rintro e w4 ⟨A4, c4, rfl, e1, e2, e3⟩
    have F4 := Lib.hid (F3.out.old e2)
    have C14 : Hid (Chg (fun _ => False) w1 w4) := C13.out.trans e2 (fun _ _ h => h)
    have O4 := Lib.hid (O3.out.chg e2 (fun _ _ h => h))
    have E4 := Lib.hid e1
    clear e1 e2 e3
    obtain ⟨x, hx⟩ : ∃ x, ls[j]? = some x := ⟨ls[j]'(by rw [← hln.out]; exact hj), List.getElem?_eq_getElem _⟩
    obtain ⟨hjl, hxe⟩ := List.getElem?_eq_some_iff.1 hx
    obtain ⟨ad4, ha4, hce⟩ := ends_cell E4.out j hjl
    subst ha4
    obtain ⟨ad1, ha1, hs⟩ := F4.out.rd j hjl
    subst ha1
    rw [hxe] at hs
    obtain ⟨Ax, cx, t1, hcx, hcxm, rx⟩ := hs.body
    obtain ⟨m, hm⟩ : ∃ m, m = x.body.length := ⟨_, rfl⟩
    rw [← hm] at t1
    have hxg := hgl.out x (List.mem_of_getElem? hx)
    have hm4 : m ≤ 4194304 := by rw [hm]; exact hxg.2.2.1
    obtain ⟨P, hP⟩ : ∃ P, P = jnlBytes (ls.take j) ++ recPre j x := ⟨_, rfl⟩
    obtain ⟨Y, hY⟩ : ∃ Y, Y = x.body ++ sumB (vi (crc (recHd j x))) := ⟨_, rfl⟩
    obtain ⟨S, hS⟩ : ∃ S, S = jnlFrom (j + 1) (ls.drop (j + 1)) := ⟨_, rfl⟩
    have hab := jnl_about hx
    have hen := jnl_end hx
    rw [← hP, ← hY, ← hS] at hab
    rw [← hP] at hen
    have hYl : Y.length = m + 4 := by rw [hY, List.length_append, sumB_length, hm]
    obtain ⟨bg, hbg⟩ : ∃ bg, bg = P.length := ⟨_, rfl⟩
    have hbg8 : 8 ≤ bg := by
      rw [hbg, hP, List.length_append]
      have := jnlBytes_len (ls.take j)
      omega
    obtain ⟨en, hene⟩ : ∃ en, en = (jnlBytes (ls.take (j + 1))).length := ⟨_, rfl⟩
    rw [← hene] at hce hen
    rw [← hbg, ← hm] at hen
    have henl : en ≤ n3 := by rw [hene, L3.out]; exact jnl_le ls (j + 1)
    have HX := Lib.hid hx
    have HP := Lib.hid hP
    have HY := Lib.hid hY
    have HS := Lib.hid hS
    have HAB := Lib.hid hab
    have HYL := Lib.hid hYl
    have HBG := Lib.hid hbg
    have HEN := Lib.hid hen
    have HM := Lib.hid hm
    have u1 : ¬ (en : Int) > (n3 : Int) := by omega
    have u2 : ¬ n3 < en := by omega
    have u3 : (en : Int) - 4 - (m : Int) = (bg : Int) := by omega
    obtain ⟨bt, hbt⟩ : ∃ bt, bt = 8 * (m + 4) := ⟨_, rfl⟩
    have HBT := Lib.hid hbt
    have u4 : (8 : Int) * (4 + (m : Int)) = (bt : Int) := by omega
    have u6 : ¬ (bg : Int) < 8 := by omega
    have u7 : ¬ bg < 8 := by omega
    clear hbt
    have u5 : (0 : Int) ≤ (j : Int) := by omega
    clear hx hjl hxe hs rx hm hxg hP hY hS hab hen hYl hbg hene
    have v1 : IntKind.i64.wrap ((en : Int) - 4) = (en : Int) - 4 := IntWalk.i64_in _ (by omega)
    have v2 : IntKind.i64.wrap ((en : Int) - 4 - (m : Int)) = (bg : Int) := by rw [u3]; exact IntWalk.i64_in _ (by omega)
    go_wp2_with fail
    go_quiet (fail)
    obtain ⟨w5, hw5⟩ : ∃ w5, w5 = w4.drewN nq := ⟨_, rfl⟩
    have C45 : Hid (Chg (fun _ => False) w4 w5) := by rw [hw5]; exact (Chg.refl _ w4).drewN nq
    rw [← hw5]
    have t2 : w5.cell? ⟨(ad1.add (j * 2)).block, (ad1.add (j * 2)).off + 1, none⟩ = some (.slice Ax m cx) := C45.out.cell id t1
    have hce2 := C45.out.cell id hce
    clear hw5 v1 v2 t1 hce
    have C5 : Hid (Chg (fun _ => False) w w5) := ((C1.out.trans C14.out (fun _ _ h => h)).trans C45.out (fun _ _ h => h))
    have O5 := Lib.hid (O4.out.chg C45.out (fun _ _ h => h))
    have E5 := Lib.hid (E4.out.chg C45.out (fun _ _ h => h))
    have C15 : Hid (Chg (fun _ => False) w1 w5) := C14.out.trans C45.out (fun _ _ h => h)
    by_cases hf : f < 0
    · go_wp2_with fail
      go_ret
      exact ⟨rfl, C5.out.done⟩
    · obtain ⟨fq, rfl⟩ : ∃ fq : Nat, f = (fq : Int) := ⟨f.toNat, by omega⟩
      obtain ⟨T, hT⟩ : ∃ T : V32, vi T = z := ⟨BitVec.ofInt 32 z, vi_ofInt z0 (by omega)⟩
      have HT := Lib.hid hT
      obtain ⟨fr, hfr⟩ : ∃ fr, fr = fq % bt := ⟨_, rfl⟩
      have hbtp : 0 < bt := by rw [HBT.out]; omega
      have hfrl : fr < bt := by rw [hfr]; exact Nat.mod_lt _ hbtp
      have hfi : (fq : Int) % (bt : Int) = (fr : Int) := by rw [hfr]; exact (Int.natCast_emod _ _).symm
      have hbt0 : ¬ (bt : Int) = 0 := by omega
      have hbtb : bt ≤ 33554464 := by rw [HBT.out]; omega
      clear hT hfr hf
      go_wp2_with fail
      go_loopw [15, 16] (fun a i wr => ∃ k : Nat, k ≤ 32 ∧ i = .int .i64 k ∧ a = .bool (anyUp (m + 4) fr T k) ∧ Hid (OwnB wr (.slice A3 n3 c3) (P ++ (flips Y fr T k ++ S))) ∧ Hid (Chg (fun y => Value.ownBlock (.slice A3 n3 c3) = some y) w5 wr)) (fun _ i _ => 32 - (intOf i).toNat)
      case atStart => exact ⟨0, by omega, rfl, rfl, by rw [Hid, flips, ← HAB.out]; exact O5.out, Chg.refl _ _⟩
      case round =>
        obtain ⟨k, hk, rfl, rfl, OK, CK⟩ := hrel
        by_cases hlt : k < 32
        · have hbit := shr_bit T k
          rw [HT.out] at hbit
          cases hTk : T.getLsbD k
          · rw [hTk] at hbit
            have hA : Hid (anyUp (m + 4) fr T (k + 1) = anyUp (m + 4) fr T k) := by rw [Hid, anyUp, hTk, Bool.false_and, Bool.or_false]
            have hF : Hid (flips Y fr T (k + 1) = flips Y fr T k) := by rw [Hid, flips, if_neg (by rw [hTk]; decide)]
            clear hTk
            go_wp2_with fail
            go_roundw
            case rel => exact ⟨k + 1, by omega, by go_num, by rw [hA.out], by rw [hF.out]; exact OK.out, CK.out⟩
            case measure => simp [intOf]; omega
          · rw [hTk] at hbit
            obtain ⟨K, hK⟩ : ∃ K : Nat, K = fr + k := ⟨_, rfl⟩
            have hKi : (fr : Int) + (k : Int) = (K : Int) := by omega
            by_cases hin : K < bt
            · have hin8 : K / 8 < m + 4 := by have := HBT.out; omega
              have hini : (K : Int) < (bt : Int) := by omega
              have hA : Hid (anyUp (m + 4) fr T (k + 1) = true) := by rw [Hid, anyUp, hTk, Bool.true_and, decide_eq_true (by rw [← hK]; exact hin8), Bool.or_true]
              have hF : Hid (flips Y fr T (k + 1) = flip1 (flips Y fr T k) K) := by rw [Hid, flips, if_pos hTk, ← hK]
              have hln := flips_length Y fr T k
              obtain ⟨Z, hZ⟩ : ∃ Z, Z = flips Y fr T k := ⟨_, rfl⟩
              rw [← hZ] at hln OK hF
              have hJl : K / 8 < Z.length := by rw [hln, HYL.out]; exact hin8
              have hall : bg + K / 8 < (P ++ (Z ++ S)).length := by simp only [List.length_append, ← HBG.out]; omega
              have hn3l : (P ++ (Z ++ S)).length = n3 := by
                rw [L3.out, HAB.out]
                simp only [List.length_append, hln]
              obtain ⟨g2, rfl, hob⟩ := own_some OK.out (by omega)
              obtain ⟨p1, p2⟩ := OK.out.cellAt (i := bg + K / 8) hall
              obtain ⟨J, hJ⟩ : ∃ J, J = K / 8 := ⟨_, rfl⟩
              obtain ⟨M, hM⟩ : ∃ M, M = K % 8 := ⟨_, rfl⟩
              obtain ⟨v, hv⟩ : ∃ v, v = Z[K / 8] := ⟨_, rfl⟩
              obtain ⟨pw, hp⟩ : ∃ p : Int, p = 2 ^ M := ⟨_, rfl⟩
              obtain ⟨t, ht⟩ : ∃ t, t = Go.bits .xor .u8 v pw := ⟨_, rfl⟩
              have hpb := two_pow8 K
              rw [← hM, ← hp] at hpb
              have OK2 := OK.out.store (i := bg + K / 8) hall t
              have hst : (P ++ (Z ++ S)).set (bg + K / 8) t = P ++ (flip1 Z K ++ S) := by
                rw [HBG.out, set_mid P Z S (K / 8) t hJl, flip1, ht, hp, hM, hv, List.getD_eq_getElem?_getD, List.getElem?_eq_getElem hJl]
                rfl
              have hvv : (P ++ (Z ++ S))[bg + K / 8] = v := by
                rw [hv]
                have := get_mid P Z S (K / 8) hJl (by rw [← HBG.out]; exact hall)
                rw [← this]
                congr 1
                rw [HBG.out]
              rw [hst, ← hF.out] at OK2
              rw [hvv] at p1
              obtain ⟨U, hU⟩ : ∃ U, U = bg + K / 8 := ⟨_, rfl⟩
              rw [← hU] at p1 p2 OK2
              have OKH := Lib.hid OK2
              have e1 : (K : Int) / 8 = (J : Int) := by omega
              have e2 : (K : Int) % 8 = (M : Int) := by omega
              have e3 : Go.bits .xor .u8 v pw = t := ht.symm
              have e4 : (2 : Int) ^ M = pw := hp.symm
              have e5 : IntKind.u8.wrap pw = pw := IntWalk.u8_in _ hpb
              have e6 : (bg : Int) + (J : Int) = (U : Int) := by omega
              have b1 : (0 : Int) ≤ (U : Int) := by omega
              have b2 : (U : Int) < (n3 : Int) := by rw [← hn3l]; omega
              have b3 : (0 : Int) ≤ (K : Int) := by omega
              clear hTk hK hin8 hln hJl hv hp ht hst hvv OK2 hpb hJ hM hall hn3l hZ hU
              go_wp2_with fail
              go_region
              go_wp2_with fail
              go_roundw
              case rel => exact ⟨k + 1, by omega, by go_num, by rw [hA.out], OKH.out.drew, (CK.out.setCell (p := ⟨g2, U, none⟩) (fun _ => hob) _).drew⟩
              case measure => simp [intOf]; omega
            · have hin8 : ¬ K / 8 < m + 4 := by have := HBT.out; omega
              have hini : ¬ (K : Int) < (bt : Int) := by omega
              have hA : Hid (anyUp (m + 4) fr T (k + 1) = anyUp (m + 4) fr T k) := by rw [Hid, anyUp, hTk, Bool.true_and, decide_eq_false (by rw [← hK]; exact hin8), Bool.or_false]
              have hF : Hid (flips Y fr T (k + 1) = flips Y fr T k) := by
                rw [Hid, flips, if_pos hTk, ← hK]
                exact flip1_far _ _ (by rw [flips_length, HYL.out]; exact hin8)
              clear hTk hK hin8
              go_wp2_with fail
              go_roundw
              case rel => exact ⟨k + 1, by omega, by go_num, by rw [hA.out], by rw [hF.out]; exact OK.out, CK.out⟩
              case measure => simp [intOf]; omega
        · obtain rfl : k = 32 := by omega
          have C1r : Hid (Chg (fun _ => False) w1 wr) := C15.out.old CK.out N3.out
          have Cwr : Hid (Chg (fun _ => False) w wr) := C1.out.trans C1r.out (fun _ _ h => h)
          obtain ⟨up, hup⟩ : ∃ up, anyUp (m + 4) fr T 32 = up := ⟨_, rfl⟩
          have HUP := Lib.hid hup
          rw [hup]
          clear hup
          cases up with
          | false =>
            go_wp2_with fail
            go_ret
            exact ⟨rfl, Cwr.out.done⟩
          | true =>
            have hXe : P ++ (flips Y fr T 32 ++ S) = jnlBytes (ls.take j) ++ (recPre j x ++ (flips (x.body ++ sumB (vi (crc (recHd j x)))) fr T 32 ++ jnlFrom (j + 1) (ls.drop (j + 1)))) := by rw [HP.out, HY.out, HS.out, List.append_assoc]
            obtain ⟨X, hX⟩ : ∃ X, X = P ++ (flips Y fr T 32 ++ S) := ⟨_, rfl⟩
            rw [← hX] at hXe OK
            have hR0 := open_burst hgl.out hsm.out HX.out (by rw [← HM.out]; exact HUP.out) hXe
            obtain ⟨m0, hm0⟩ : ∃ m0, m0 = (jnlBytes (ls.take j)).length := ⟨_, rfl⟩
            rw [← hm0] at hR0
            have HR := Lib.hid hR0
            have LX : Hid (n3 = X.length) := by
              rw [Hid, L3.out, HAB.out, hX]
              simp only [List.length_append, flips_length]
            have RX : Hid (Rd wr .u8 A3 X) := OK.out.rd (by rw [LX.out])
            have hbP : Byt (P ++ (Y ++ S)) := by rw [← HAB.out]; exact jnlBytes_byt hgl.out
            have hbX : Hid (Byt X) := by
              rw [hX]
              have b1 := byt_app hbP
              have b2 := byt_app b1.2
              exact byt_mk b1.1 (byt_mk (flips_byt b2.1 fr T 32) b2.2)
            have Fr := Lib.hid (F1.out.old C1r.out)
            have Er := Lib.hid (E5.out.chg CK.out (fun y hy h => by
              obtain ⟨cur, hcu⟩ := OwnV.typed O5.out y h
              exact OwnV.type_ne E5.out hcu (by decide) hy))
            have hjn : j ≤ n1 := by omega
            have HM0 := Lib.hid hm0
            clear hXe hX hR0 hm0 hbP
            rcases Nat.eq_zero_or_pos j with h0j | h0j
            · have hm8 : m0 = 8 := by rw [HM0.out, h0j]; rfl
              subst hm8
              subst h0j
              go_wp2_with fail
              refine (jopenIs HR LX hnc3 hc3 hbX RX).mono ?_
              rintro e w7 ⟨gz, Dz, rfl, j7, m7, _, _⟩
              have J7 := Lib.hid j7
              have F7 := Lib.hid (Fr.out.old m7)
              have C7 : Hid (Chg (fun _ => False) w w7) := Cwr.out.trans m7 (fun _ _ h => h)
              clear j7 m7
              go_wp2_with fail
              refine (holdsC F7 hjn J7 rfl).mono ?_
              rintro e w8 ⟨rfl, k8⟩
              have C8 : Hid (Chg (fun _ => False) w w8) := C7.out.trans k8 (fun _ _ h => h)
              clear k8
              go_wp2_with fail
              go_ret
              exact ⟨rfl, C8.out.done⟩
            · obtain ⟨i, hi⟩ : ∃ i, j = i + 1 := ⟨j - 1, by omega⟩
              obtain ⟨ad6, ha6, hc6⟩ := ends_cell Er.out i (by rw [← hln.out]; omega)
              injection ha6 with ha6
              subst ha6
              rw [← hi, ← HM0.out] at hc6
              have j1 : (0 : Int) < (j : Int) := by omega
              have j2 : (j : Int) - 1 = (i : Int) := by omega
              have j3 : (0 : Int) ≤ (i : Int) := by omega
              have j4 : (i : Int) < (n1 : Int) := by omega
              have HI := Lib.hid hi
              clear hi h0j
              go_wp2_with fail
              refine (jopenIs HR LX hnc3 hc3 hbX RX).mono ?_
              rintro e w7 ⟨gz, Dz, rfl, j7, m7, _, _⟩
              have J7 := Lib.hid j7
              have F7 := Lib.hid (Fr.out.old m7)
              have C7 : Hid (Chg (fun _ => False) w w7) := Cwr.out.trans m7 (fun _ _ h => h)
              have hc7 := (show Chg (fun _ => False) wr w7 from m7).cell id hc6
              clear j7 m7
              go_wp2_with fail
              refine (holdsC F7 hjn J7 rfl).mono ?_
              rintro e w8 ⟨rfl, k8⟩
              have C8 : Hid (Chg (fun _ => False) w w8) := C7.out.trans k8 (fun _ _ h => h)
              clear k8
              go_wp2_with fail
              go_ret
              exact ⟨rfl, C8.out.done⟩
  · by_cases h0 : n1 = 0
    · subst h0
      go_wp2_with fail
      go_ret
      exact ⟨rfl, C1.out.done⟩
    · have hn1i : ((n1 : Int) == 0) = false := by
        rw [beq_eq_false_iff_ne]
        omega
      clear h0
      by_cases h1 : q < 0
      · go_wp2_with fail
        go_ret
        exact ⟨rfl, C1.out.done⟩
      · have h2 : (n1 : Int) ≤ q := by omega
        clear hq
        go_wp2_with fail
        go_ret
        exact ⟨rfl, C1.out.done⟩
end Go.Proofs.Ytlnomadhgoblkaa.Kit
