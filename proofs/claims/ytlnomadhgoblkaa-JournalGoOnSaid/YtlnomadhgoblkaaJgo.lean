/- The walk of JournalGoOn. -/
import Derived.Test.YtlnomadhgoblkaaProg
import Derived.Test.YtlnomadhgoblkaaJgl
import Derived.Deep.CutBlock
set_option linter.unusedVariables false
set_option linter.unusedSimpArgs false
namespace Go.Proofs.Ytlnomadhgoblkaa.Kit
open Go.RowKit
set_option maxRecDepth 20000 in
set_option maxHeartbeats 6400000 in
theorem journalGoOnWalk (w : World) (A : Option Addr) (c : Nat) (l : List SecV) (hr : Hid (RdSecs w A l)) (hl : l.length ≤ 4398046511104) (hsz : Hid (∀ x ∈ l, x.body.length ≤ 140737488351232)) (q : Int) (q0 : -9223372036854775808 ≤ q) (q1 : q ≤ 9223372036854775807)
    (B : Option Addr) (cb : Nat) (mo : List SecV) (hrb : Hid (RdSecs w B mo)) (hlb : mo.length ≤ 4398046511104) (hszb : Hid (∀ x ∈ mo, x.body.length ≤ 140737488351232)) (r : Int) (r0 : -9223372036854775808 ≤ r) (r1 : r ≤ 9223372036854775807) :
    Calls Try.prog 5 #[.slice A l.length c, .int .i64 q, .slice B mo.length cb, .int .i64 r] w fun e w' => e = .returned (.bool true) ∧ Below w.heap.size w w' := by
  obtain ⟨n, hn⟩ : ∃ n : Nat, n = l.length := ⟨_, rfl⟩
  obtain ⟨nm, hnm⟩ : ∃ n : Nat, n = mo.length := ⟨_, rfl⟩
  have HN := Lib.hid hn
  have HNM := Lib.hid hnm
  rw [← hn, ← hnm]
  rw [← hn] at hl
  rw [← hnm] at hlb
  clear hn hnm
  go_enter Try.func5, Try.ntmps5
  go_wp2_with fail
  refine (filledC HN hl hr hsz).mono ?_
  rintro e w1 ⟨gj, D, A1, n1, c1, ls, rfl, f1, m2, m3, m4⟩
  have F1 := Lib.hid f1
  have C1 := Lib.hid m4
  have hn1 : n1 ≤ 33554432 := f1.nb
  have hnc1 : n1 ≤ c1 := f1.cap
  have hgl : Hid (∀ x ∈ ls, GoodRec x) := f1.good
  have hsm : Hid ((jnlBytes ls).length ≤ 268435456) := f1.small
  have hln : Hid (n1 = ls.length) := f1.len
  have hbB : Hid (Byt (jnlBytes ls)) := jnlBytes_byt f1.good
  clear f1 m2 m3 m4
  go_wp2_with fail
  refine (jbytesC hsm (Lib.hid F1.out.jn)).mono ?_
  rintro e w3 ⟨A3, n3, c3, rfl, m3, hn3, hc3⟩
  have F3 := Lib.hid (F1.out.old m3.chg)
  have C3 : Hid (Chg (fun _ => False) w w3) := C1.out.trans m3.chg (fun _ _ h => h)
  have R3 : Hid (Rd w3 .u8 A3 (jnlBytes ls)) := m3.rd
  have L3 : Hid (n3 = (jnlBytes ls).length) := m3.len
  have hnc3 := m3.cap
  clear m3
  go_upto_region 5 with fail
  go_cut [40] from 24 to 68 (fun s wx => wx = w3 ∧ ∃ b, s = .bool b ∧ Hid (b = decide (q < 0 ∨ (n3 : Int) < q)))
  case first =>
    by_cases h1 : q < 0
    · go_wp2_with fail
      go_meet
      case rel => exact ⟨rfl, _, rfl, by rw [Hid]; simp [h1]⟩
    · by_cases h2 : (n3 : Int) < q
      · go_wp2_with fail
        go_meet
        case rel => exact ⟨rfl, _, rfl, by rw [Hid]; simp [h1, h2]⟩
      · go_wp2_with fail
        go_meet
        case rel => exact ⟨rfl, _, rfl, by rw [Hid]; simp [h1, h2]⟩
  case rest =>
    obtain ⟨rfl, b, rfl, hb⟩ := hcut
    go_upto_if 40 with fail
    go_cut [1] from 24 to 68 (fun s wx => wx = wc ∧ ∃ p : Nat, s = .int .i64 p ∧ p ≤ n3)
    case first =>
      cases b with
      | true =>
        go_wp2_with fail
        go_meet
        case rel => exact ⟨rfl, n3, rfl, Nat.le_refl _⟩
      | false =>
        have h1 : ¬ (q < 0 ∨ (n3 : Int) < q) := of_decide_eq_false hb.out.symm
        go_wp2_with fail
        go_meet
        case rel => exact ⟨rfl, q.toNat, by rw [Int.toNat_of_nonneg (by omega)], by omega⟩
    case rest =>
      obtain ⟨rfl, p, rfl, hp3⟩ := hcut
      obtain ⟨kk, m, hkk, hmp, hR0, hmk, _⟩ := open_any hgl.out hsm.out (by rw [← L3.out]; exact hp3)
      have HR := Lib.hid hR0
      have HP3 := Lib.hid hp3
      obtain ⟨ms, hms⟩ : ∃ ms, ms = ls.take kk := ⟨_, rfl⟩
      rw [← hms] at HR hmk
      have hkl : Hid (kk = ms.length) := by rw [Hid, hms, List.length_take]; omega
      have hpc3 : p ≤ c3 := by omega
      have hkn : kk ≤ n1 := by rw [hln.out]; exact hkk
      have hkc : kk ≤ c1 := by omega
      have hgm : Hid (∀ x ∈ ms, GoodRec x) := fun x hx => hgl.out x (List.mem_of_mem_take (by rw [← hms]; exact hx))
      have hsk : Hid ((jnlBytes ms).length ≤ 268435456) := by
        rw [hms]
        exact Nat.le_trans (jnl_le ls kk) hsm.out
      have HMS := Lib.hid hms
      have HMK := Lib.hid hmk
      obtain ⟨w3, hw3⟩ : ∃ w3, w3 = wc := ⟨_, rfl⟩
      subst hw3
      clear hR0 hms hkk
      go_wp2_with fail
      refine (jopenIs HR (show Hid (p = ((jnlBytes ls).take p).length) by rw [Hid, List.length_take, ← L3.out]; have := HP3.out; omega) hpc3 hc3 (byt_take hbB.out _) (R3.out.take _)).mono ?_
      rintro e w4 ⟨gq, Dk, rfl, j4, m4, d4, g4⟩
      have J4 := Lib.hid j4
      have C34 := Lib.hid m4
      have D4 := Lib.hid d4
      have G4 : Hid (w3.heap.size ≤ gq) := g4
      clear j4 m4 d4 g4
      have b1 : ¬ (kk : Int) > (n1 : Int) := by omega
      have b2 : ¬ n1 < kk := by omega
      have b3 : ¬ (m : Int) > (p : Int) := by omega
      have b4 : ¬ p < m := by omega
      go_wp2_with fail
      refine (jcount Dk gq ms kk _ hkl J4).mono ?_
      rintro e w5 ⟨rfl, rfl⟩
      go_wp2_with fail
      refine (jcount Dk gq ms kk _ hkl (Lib.hid (J4.out.chg0 ((Chg.refl _ w4).alloc _)))).mono ?_
      rintro e w5 ⟨rfl, rfl⟩
      have F4 := Lib.hid (F3.out.old C34.out)
      obtain ⟨bs, hbl, hb1, hb2, hb3⟩ := (F3.out.rd.take kk).bodies
      rw [← HMS.out] at hbl hb2 hb3
      have hnews : Hid (∀ j u, (tCells ms bs)[j]? = some u → ∃ ad, A1 = some ad ∧ (w4.alloc (.cells #[] 31)).cell? (ad.add j) = some u) := fun j u hu => by
        obtain ⟨ad, e, hc⟩ := hb3 j u hu
        exact ⟨ad, e, (C34.out.alloc (.cells #[] 31)).cell id hc⟩
      have hnl : Hid ((tCells ms bs).length = kk * 2) := by rw [Hid, tCells_len _ _ hbl.symm, ← hkl.out]
      have hone : Hid (∀ u ∈ tCells ms bs, u.oneCell' = true) := tCells_one _ _ hb1
      have hE0 : Hid (OwnV (w4.alloc (.cells #[] 31)) 31 2 (.slice (some ⟨w4.heap.size, 0, none⟩) 0 0) 0 []) := ⟨rfl, .inr ⟨w4.heap.size, 0, [], rfl, Blk.new' w4 [] _, Nat.le_refl _, Nat.zero_le _, by simp, rfl⟩⟩
      have HBL := Lib.hid hbl
      have HB2 := Lib.hid hb2
      clear hbl hb1 hb2 hb3
      go_upto_region 11 with (at_builtin; go_must (refine wp_appV rfl _ _ 49 31 (.agg #[.int .i64 0, .slice none 0 0]) 2 32 rfl Try.underlying49 infoRec rfl (by decide) (by decide) (.slice (some ⟨w4.heap.size, 0, none⟩) 0 0) 0 [] rfl hE0.out A1 kk c1 (tCells ms bs) rfl hnl.out hnews.out hone.out (by omega) ?_); intro v5 w5 k1 k2 k3; rw [List.nil_append, Nat.zero_add] at k1; obtain ⟨A5, c5, hv5, hc5, hm5⟩ := k1.slice; subst hv5; have O5 := Lib.hid k1; have C45 : Hid (Chg (fun _ => False) w4 w5) := ((Chg.refl (fun _ => False) w4).alloc _).fresh k2 (blk_ge (Nat.le_refl _)); have N5 : Hid (∀ y, Value.ownBlock (.slice A5 kk c5) = some y → w4.heap.size ≤ y) := k3.ge (blk_ge (Nat.le_refl _)) (by simp); clear k1 k2 k3)
      have FL5 : Hid (FillL w3 w5 gq Dk (.slice A5 kk c5) ms bs (268435456 - ((jnlBytes ms).length : Int))) := by
        have hge : ∀ y, Value.ownBlock (.slice A5 kk c5) = some y → w4.heap.size ≤ y := N5.out
        refine ⟨J4.out.chg0 C45.out, ⟨by rw [← hkl.out]; exact O5.out, HBL.out, HB2.out, fun x hx => (hgm.out x hx).2.2.2, fun x hx => ?_⟩, C34.out.trans C45.out (fun _ _ h => h), D4.out, fun y hy => Nat.le_trans C34.out.size (hge y hy), fun y hy => ⟨fun hd => ?_, fun e => ?_⟩, rfl, hsk.out, fun x hx => ⟨(hgm.out x hx).1, (hgm.out x hx).2.1, (hgm.out x hx).2.2.1⟩⟩
        · have := hgm.out x hx
          have h1 := this.1
          have h2 := this.2.1
          omega
        · have h1 := hge y hy
          have h2 := J4.out.size y hd
          omega
        · have h1 := hge y hy
          have h2 := J4.out.lt
          omega
      go_wp2_with fail
      refine (jbytesC hsk (Lib.hid FL5.out.jn)).mono ?_
      rintro e w6 ⟨A6, n6, c6, rfl, m6, hn6, hc6⟩
      have FL6 : Hid (FillL w3 w6 gq Dk (.slice A5 kk c5) (ms ++ []) bs (268435456 - ((jnlBytes (ms ++ [])).length : Int))) := by
        rw [List.append_nil]
        have h := FL5.out
        exact ⟨h.jn.chg0 m6.chg, h.row.chg m6.chg (fun _ _ h => h), h.chg.trans m6.chg (fun _ _ h => h), h.new, h.newv, h.apart, h.room, h.small, h.ok⟩
      have L6 : Hid ((jnlBytes (ms ++ [])).length ≤ n6) := by rw [Hid, List.append_nil, m6.len]; exact Nat.le_refl _
      clear m6
      go_upto_block 0 with fail
      go_cut [15] from 16 to 119 (fun nw wx => ∃ (D' : Nat → Prop) (suf : List SecV) (bs : List Value), Hid (FillL w3 wx gq D' nw (ms ++ suf) bs (268435456 - ((jnlBytes (ms ++ suf)).length : Int))))
      case first =>
        go_wp2_with fail
        go_loopw [15, 16, 17] (fun nw sz i wr => ∃ (k : Nat) (D' : Nat → Prop) (suf : List SecV) (bs : List Value) (z : Nat), k ≤ nm ∧ i = .int .i64 k ∧ sz = .int .i64 z ∧ Hid (FillL w3 wr gq D' nw (ms ++ suf) bs (268435456 - ((jnlBytes (ms ++ suf)).length : Int))) ∧ Hid ((jnlBytes (ms ++ suf)).length ≤ z) ∧ z ≤ 268435456) (fun _ _ i _ => nm - (intOf i).toNat)
        case atStart => exact ⟨0, Dk, [], bs, n6, Nat.zero_le _, rfl, rfl, FL6, L6, hn6⟩
        case round =>
          obtain ⟨k, D', suf, bs', z, hk2, rfl, rfl, hfl, hzl, hz28⟩ := hrel
          obtain ⟨AI, cI, hI, hcI, hmI⟩ := hfl.out.row.row.slice
          obtain ⟨js, hjs⟩ : ∃ js, js = ms ++ suf := ⟨_, rfl⟩
          rw [← hjs] at hI hcI hfl hzl
          obtain ⟨nI, hnI⟩ : ∃ nI, nI = js.length := ⟨_, rfl⟩
          rw [← hnI] at hI hcI
          have HJS := Lib.hid hjs
          have HNI := Lib.hid hnI
          have hnIb : nI ≤ 33554432 := by
            have h1 := jnlBytes_len js
            have h2 := hfl.out.small
            omega
          subst hI
          have CWR : Hid (Chg (fun _ => False) w wr) := C3.out.trans hfl.out.chg (fun _ _ h => h)
          clear hjs hnI
          by_cases hlt : k < nm
          · have q2 : (k : Int) < (nm : Int) := by omega
            by_cases hz27 : z < 134217728
            · have hz27i : (z : Int) < 134217728 := by omega
              have hkl2 : k < mo.length := by rw [← HNM.out]; exact hlt
              obtain ⟨x, hx⟩ : ∃ x, x = mo[k] := ⟨_, rfl⟩
              obtain ⟨ad, e1, hs⟩ := hrb.out k hkl2
              subst e1
              rw [← hx] at hs
              obtain ⟨Ax, cx, t1w, hcx, hcxm, r3w⟩ := hs.body
              obtain ⟨mx, hmx⟩ : ∃ m, m = x.body.length := ⟨_, rfl⟩
              rw [← hmx] at t1w hcx
              have HS : Hid (∀ W, Chg (fun _ => False) w W → W.cell? (ad.add (k * 2)) = some (.int .i64 x.id) ∧ W.cell? ⟨(ad.add (k * 2)).block, (ad.add (k * 2)).off + 1, none⟩ = some (.slice Ax mx cx) ∧ Rd W .u8 Ax x.body) := fun W hW =>
                ⟨hW.cell id hs.id, hW.cell id t1w, r3w.below hW.done⟩
              have HBX : Hid (Byt x.body) := hs.byt
              have HRX : Hid (-9223372036854775808 ≤ x.id ∧ x.id ≤ 9223372036854775807) := hs.rng
              have HMX := Lib.hid hmx
              have hmxb : mx ≤ 140737488351232 := by rw [hmx]; exact hszb.out x (by rw [hx]; exact List.getElem_mem _)
              have q3 : (0 : Int) ≤ (k : Int) := by omega
              obtain ⟨t0, t1, _⟩ := HS.out wr CWR.out
              obtain ⟨b, hbk⟩ : ∃ b : Bool, (b = true ∧ okRec x) ∨ (b = false ∧ ¬ okRec x) := by
                by_cases h : okRec x
                · exact ⟨true, .inl ⟨rfl, h⟩⟩
                · exact ⟨false, .inr ⟨rfl, h⟩⟩
              have HBK := Lib.hid hbk
              clear hs t1w r3w hmx hx hbk
              go_wp2_with fail
              refine (show Calls Try.prog 17 _ wr (fun e w' => e = .returned (.bool b) ∧ Chg (fun _ => False) wr w') from by
                rcases HBK.out with ⟨rfl, h⟩ | ⟨rfl, h⟩
                · exact rightYes HMX.out h
                · exact rightNo HMX.out h).mono ?_
              rintro e w7 ⟨rfl, k1⟩
              have C7 := Lib.hid k1
              obtain ⟨t2, t3, rx⟩ := HS.out w7 (CWR.out.trans k1 (fun _ _ h => h))
              have RX := Lib.hid rx
              obtain ⟨RR, hRR⟩ : ∃ RR, jappRes js x = RR := ⟨_, rfl⟩
              have HRR := Lib.hid hRR
              have HSM := Lib.hid hfl.out.small
              clear t0 t1 k1 rx hRR
              go_wp2_with fail
              refine (jappend HRR (Lib.hid (hfl.out.jn.chg0 C7.out)) HSM HMX (by omega) HBX RX HRX.out.1 HRX.out.2).mono ?_
              rintro e w8 ⟨rfl, D8, k1, k2, k3⟩
              obtain ⟨f1, f2, f3, f4⟩ := hfl.out.more G4.out C7.out k1 k2 k3
              have J8 := Lib.hid k1
              have P1 := Lib.hid f1; have P2 := Lib.hid f2; have P3 := Lib.hid f3; have P4 := Lib.hid f4
              obtain ⟨t4, t5, _⟩ := HS.out w8 (C3.out.trans f2 (fun _ _ h => h))
              clear k1 k2 k3 f1 f2 f3 f4 t2 t3
              rcases jappRes_cases js x with ⟨hno, hcs⟩ | ⟨hok, hcs⟩
              · have hbf : b = false := by
                  rcases HBK.out with ⟨_, h⟩ | ⟨h, _⟩
                  · exact absurd h hno
                  · exact h
                subst hbf
                obtain ⟨er, hz0, hzR⟩ : ∃ er : Int, er ≠ 0 ∧ RR = (er, js) := by
                  rw [← HRR.out]
                  rcases hcs with h | h
                  · exact ⟨1, by omega, h⟩
                  · exact ⟨6, by omega, h⟩
                subst hzR
                have hz1 : (er == 0) = false := by simp [hz0]
                clear hcs hno
                go_wp2_with fail
                go_roundw
                case rel => exact ⟨k + 1, D8, suf, bs', z, by omega, by go_num, rfl, by rw [← HJS.out]; exact ⟨J8.out, P1.out, P2.out, P3.out, hfl.out.newv, P4.out, hfl.out.room, hfl.out.small, hfl.out.ok⟩, by rw [← HJS.out]; exact hzl.out, hz28⟩
                case measure => simp [intOf]; omega
              · have hbt : b = true := by
                  rcases HBK.out with ⟨h, _⟩ | ⟨_, h⟩
                  · exact h
                  · exact absurd hok h
                subst hbt
                have HOK := Lib.hid hok
                have hmx4 : mx ≤ 4194304 := by rw [HMX.out]; exact hok.2.2
                have h20 : Hid ((recEnc js.length x).length ≤ mx + 20) := by rw [Hid, HMX.out]; exact rec_len20 (by rw [← HNI.out]; exact hnIb) hok
                have hRR0 : RR = (0, js ++ [x]) := by
                  rw [← HRR.out]
                  rcases hcs with ⟨h, _⟩ | ⟨_, h⟩
                  · have h1 := h20.out
                    have h2 := hzl.out
                    omega
                  · exact h
                clear hok hcs
                subst hRR0
                have hJ8 : Hid (Jn w8 D8 gq (js ++ [x])) := J8.out
                have hz2 : Hid ((jnlBytes (js ++ [x])).length ≤ z + mx + 20) := by
                  have h1 := h20.out
                  have h2 := hzl.out
                  rw [Hid, jnlBytes_snoc, List.length_append]
                  omega
                have rowT := P1.out.row
                rw [← HNI.out] at rowT
                have HRT := Lib.hid rowT
                clear rowT
                go_upto_region 21 with (at_builtin; go_must (refine wp_app2 rfl _ _ 49 31 (.agg #[.int .i64 0, .slice none 0 0]) 32 rfl Try.underlying49 infoRec rfl (by decide) (.slice AI nI cI) nI (tCells js bs') (.int .i64 x.id) (.slice Ax mx cx) rfl rfl rfl HRT.out rfl (by omega) ?_); intro v' w9 k1 k2 k3; obtain ⟨A9, c9, rfl, _, _⟩ := k1.slice; have N1 := Lib.hid k1; have N2 := Lib.hid k2; have N3 := Lib.hid k3; clear k1 k2 k3; go_frame)
                have FL9 : Hid (FillL w3 w9 gq D8 (.slice A9 (nI + 1) c9) (js ++ [x]) (bs' ++ [.slice Ax mx cx]) (268435456 - ((jnlBytes (js ++ [x])).length : Int))) :=
                  FillL.snoc hJ8.out P1.out P2.out P3.out hfl.out.newv P4.out (by rw [← HNI.out]; exact N1.out) N2.out N3.out HMX.out hcx hcxm (HS.out w3 C3.out).2.2 HBX.out HRX.out (by have := hz2.out; omega) hfl.out.ok HOK.out
                obtain ⟨t6, t7, _⟩ := HS.out w9 (C3.out.trans FL9.out.chg (fun _ _ h => h))
                go_wp2_with fail
                go_roundw
                case rel => exact ⟨k + 1, D8, suf ++ [x], bs' ++ [.slice Ax mx cx], z + mx + 20, by omega, by go_num, by go_num, by rw [← List.append_assoc, ← HJS.out]; exact FL9, by rw [← List.append_assoc, ← HJS.out]; exact hz2, by omega⟩
                case measure => simp [intOf]; omega
            · have hz27i : ¬ (z : Int) < 134217728 := by omega
              go_wp2_with fail
              go_meet
              case rel => exact ⟨D', suf, bs', by rw [← HJS.out]; exact hfl⟩
          · have q2 : ¬ (k : Int) < (nm : Int) := by omega
            go_wp2_with fail
            go_meet
            case rel => exact ⟨D', suf, bs', by rw [← HJS.out]; exact hfl⟩
      case rest =>
        obtain ⟨D', suf, bs', hfl⟩ := hcut
        obtain ⟨AI, cI, hI, hcI, hmI⟩ := hfl.out.row.row.slice
        obtain ⟨js, hjs⟩ : ∃ js, js = ms ++ suf := ⟨_, rfl⟩
        rw [← hjs] at hI hcI hfl
        obtain ⟨nI, hnI⟩ : ∃ nI, nI = js.length := ⟨_, rfl⟩
        rw [← hnI] at hI hcI
        have HNI := Lib.hid hnI
        have hnIb : nI ≤ 33554432 := by
          have h1 := jnlBytes_len js
          have h2 := hfl.out.small
          omega
        subst hI
        have hgj : Hid (∀ x ∈ js, GoodRec x) := fun x hx => ⟨(hfl.out.ok x hx).1, (hfl.out.ok x hx).2.1, (hfl.out.ok x hx).2.2, hfl.out.row.byt x hx⟩
        have hsj : Hid ((jnlBytes js).length ≤ 268435456) := hfl.out.small
        have hbj : Hid (Byt (jnlBytes js)) := jnlBytes_byt hgj.out
        have hcom : Hid ((jnlBytes js).take m = (jnlBytes ls).take m) := by
          rw [Hid, hjs, HMS.out]
          exact jnl_common (by rw [← hln.out]; exact hkn) (by rw [← HMS.out]; exact HMK.out)
        have hmj : m ≤ (jnlBytes js).length := by
          have h1 : (jnlBytes ms).length ≤ (jnlBytes js).length := by
            have := jnl_le js ms.length
            rw [hjs, List.take_left] at this
            rw [hjs]
            exact this
          exact Nat.le_trans HMK.out h1
        have hok4 : Hid (∀ x ∈ js, x.body.length ≤ 4194304) := fun x hx => (hgj.out x hx).2.2.1
        clear hnI hjs
        go_wp2_with fail
        refine (jbytesC hsj (Lib.hid hfl.out.jn)).mono ?_
        rintro e w7 ⟨A7, n7, c7, rfl, m7, hn7, hc7⟩
        have J7 := Lib.hid (hfl.out.jn.chg0 m7.chg)
        have C37 : Hid (Chg (fun _ => False) w3 w7) := hfl.out.chg.trans m7.chg (fun _ _ h => h)
        have S7 : Hid (RdSecs w7 AI js) := (hfl.out.row.chg m7.chg (fun _ _ h => h)).secs C37.out
        have L7 : Hid (n7 = (jnlBytes js).length) := m7.len
        have R7 : Hid (Rd w7 .u8 A7 (jnlBytes js)) := m7.rd
        have B7 : Hid (Rd w7 .u8 A3 (jnlBytes ls)) := R3.out.below C37.out.done
        have hnc7 := m7.cap
        have hm7 : m ≤ n7 := by rw [L7.out]; exact hmj
        have HM7 := Lib.hid hm7
        have hm3 : m ≤ n3 := by omega
        have HM3 := Lib.hid hm3
        have g0 : (0 : Int) ≤ (m : Int) := by omega
        have g1 : ¬ (n7 : Int) < (m : Int) := by omega
        have g2 : ¬ n7 < m := by omega
        have g3 : (m : Int) ≤ (c7 : Int) := by omega
        have g4 : (m : Int) ≤ (c3 : Int) := by omega
        have g5 : m ≤ c7 := by omega
        have g6 : m ≤ c3 := by omega
        have LA : Hid (m = ((jnlBytes js).take m).length) := by rw [Hid, List.length_take, ← L7.out]; omega
        have LB : Hid (m = ((jnlBytes ls).take m).length) := by rw [Hid, List.length_take, ← L3.out]; omega
        have LC : Hid (((jnlBytes js).take m).length ≤ 140737488355328) := by rw [Hid, ← LA.out]; omega
        have RA : Hid (∀ W, Chg (fun _ => False) w7 W → Rd W .u8 A7 ((jnlBytes js).take m)) := fun W hW => (R7.out.below hW.done).take m
        have RBB : Hid (∀ W, Chg (fun _ => False) w7 W → Rd W .u8 A3 ((jnlBytes ls).take m)) := fun W hW => (B7.out.below hW.done).take m
        have HEQ : Hid (decide ((jnlBytes js).take m = (jnlBytes ls).take m) = true) := by rw [Hid, hcom.out]; simp
        have JA : Hid (∀ W, Chg (fun _ => False) w7 W → Hid (Jn W D' gq js)) := fun W hW => J7.out.chg0 hW
        have SA : Hid (∀ W, Chg (fun _ => False) w7 W → Hid (RdSecs W AI js)) := fun W hW => S7.out.below hW.done
        have HTK : Hid (js = js.take nI) := by rw [Hid, HNI.out, List.take_length]
        clear m7 hm7 hmj
        go_upto_region 23 with fail
        go_cut [143] from 24 to 143 (fun s wx => s = .bool false ∧ Hid (Chg (fun _ => False) w7 wx))
        case first =>
          go_region_held3 (fun _ => True) (exact trivial) (first | (go_at_call 24; (with_reducible refine (sameBytes' (b := true) LA LB LC (Lib.hid (RA.out _ (by repeat (first | exact Chg.refl _ _ | refine Chg.drew ?_ | refine Chg.drewN ?_ _)))) (Lib.hid (RBB.out _ (by repeat (first | exact Chg.refl _ _ | refine Chg.drew ?_ | refine Chg.drewN ?_ _)))) HEQ).mono ?_); rintro e w8 ⟨rfl, qn, rfl⟩) | (go_at_call 28; (with_reducible refine (holdsT (JA.out _ (by repeat (first | exact Chg.refl _ _ | refine Chg.drew ?_ | refine Chg.drewN ?_ _))) (SA.out _ (by repeat (first | exact Chg.refl _ _ | refine Chg.drew ?_ | refine Chg.drewN ?_ _))) HNI HTK (Nat.le_refl _) (by omega) hok4).mono ?_); rintro e w9 ⟨rfl, k9⟩; have C9 : Hid (Chg (fun _ => False) w7 w9) := (show Chg (fun _ => False) w7 _ from by repeat (first | exact Chg.refl _ _ | refine Chg.drew ?_ | refine Chg.drewN ?_ _)).trans k9 (fun _ _ h => h); clear k9))
          all_goals
            go_wp2_with fail
            go_meet
            case rel => exact ⟨rfl, C9⟩
        case rest =>
          obtain ⟨rfl, CW⟩ := hcut
          have C3W : Hid (Chg (fun _ => False) w3 wc) := C37.out.trans CW.out (fun _ _ h => h)
          have JW := JA.out wc CW.out
          have SW := SA.out wc CW.out
          have RW : Hid (Rd wc .u8 A7 (jnlBytes js)) := R7.out.below CW.out.done
          clear g0 g1 g2 g3 g4 g5 g6
          go_upto_region 25 with fail
          go_cut [151] from 24 to 151 (fun s wx => Hid (Chg (fun _ => False) w7 wx) ∧ ∃ b, s = .bool b ∧ Hid (b = decide (r < 0 ∨ (n7 : Int) < r)))
          case first =>
            by_cases h1 : r < 0
            · go_wp2_with fail
              go_meet
              case rel => exact ⟨CW, _, rfl, by rw [Hid]; simp [h1]⟩
            · by_cases h2 : (n7 : Int) < r
              · go_wp2_with fail
                go_meet
                case rel => exact ⟨CW, _, rfl, by rw [Hid]; simp [h1, h2]⟩
              · go_wp2_with fail
                go_meet
                case rel => exact ⟨CW, _, rfl, by rw [Hid]; simp [h1, h2]⟩
          case rest =>
            obtain ⟨CV, b, rfl, hb⟩ := hcut
            go_upto_if 151 with fail
            go_cut [3] from 24 to 151 (fun s wx => Hid (Chg (fun _ => False) w7 wx) ∧ ∃ p2 : Nat, s = .int .i64 p2 ∧ p2 ≤ n7)
            case first =>
              cases b with
              | true =>
                go_wp2_with fail
                go_meet
                case rel => exact ⟨CV, n7, rfl, Nat.le_refl _⟩
              | false =>
                have h1 : ¬ (r < 0 ∨ (n7 : Int) < r) := of_decide_eq_false hb.out.symm
                go_wp2_with fail
                go_meet
                case rel => exact ⟨CV, r.toNat, by rw [Int.toNat_of_nonneg (by omega)], by omega⟩
            case rest =>
              clear JW SW RW C3W
              obtain ⟨CU, p2, rfl, hp2⟩ := hcut
              obtain ⟨k2, m2, hk2, hmp2, hR2, _, htot⟩ := open_any hgj.out hsj.out (by rw [← L7.out]; exact hp2)
              have HR2 := Lib.hid hR2
              have HTOT := Lib.hid htot
              have HP2 := Lib.hid hp2
              obtain ⟨ks, hks⟩ : ∃ ks, ks = js.take k2 := ⟨_, rfl⟩
              rw [← hks] at HR2
              have hkl2 : Hid (k2 = ks.length) := by rw [Hid, hks, List.length_take]; omega
              have hk2n : k2 ≤ nI := by rw [HNI.out]; exact hk2
              have hp2c : p2 ≤ c7 := by omega
              have HKS := Lib.hid hks
              have RU : Hid (Rd wc .u8 A7 (jnlBytes js)) := R7.out.below CU.out.done
              have hok5 : Hid (∀ x ∈ ks, x.body.length ≤ 4194304) := fun x hx => hok4.out x (List.mem_of_mem_take (by rw [← hks]; exact hx))
              clear hR2 hks hk2 htot
              go_wp2_with fail
              refine (jopenIs HR2 (show Hid (p2 = ((jnlBytes js).take p2).length) by rw [Hid, List.length_take, ← L7.out]; have := HP2.out; omega) hp2c hc7 (byt_take hbj.out _) (RU.out.take _)).mono ?_
              rintro e w10 ⟨gz, Dz, rfl, j10, m10, _, _⟩
              have J10 := Lib.hid j10
              have C10 : Hid (Chg (fun _ => False) w7 w10) := CU.out.trans m10 (fun _ _ h => h)
              have S10 := SA.out w10 C10.out
              clear j10 m10
              go_wp2_with fail
              refine (jcount Dz gz ks k2 _ hkl2 J10).mono ?_
              rintro e w11 ⟨rfl, rfl⟩
              go_wp2_with fail
              refine (holdsT J10 S10 HNI HKS hk2n (by omega) hok5).mono ?_
              rintro e w12 ⟨rfl, k12⟩
              have J12 := Lib.hid (J10.out.chg0 k12)
              have C12 : Hid (Chg (fun _ => False) w w12) := ((C3.out.trans C37.out (fun _ _ h => h)).trans C10.out (fun _ _ h => h)).trans k12 (fun _ _ h => h)
              clear k12
              by_cases hlast : p2 < n7
              · have hl1 : (p2 : Int) < (n7 : Int) := by omega
                go_wp2_with fail
                go_ret
                exact ⟨rfl, C12.out.done⟩
              · have hl1 : ¬ (p2 : Int) < (n7 : Int) := by omega
                have hkn2 : k2 = nI := by
                  rw [HNI.out]
                  refine HTOT.out ?_
                  rw [← L7.out]
                  omega
                have HKN := Lib.hid hkn2
                clear hkn2
                go_wp2_with fail
                refine (jcount Dz gz ks k2 _ hkl2 J12).mono ?_
                rintro e w13 ⟨rfl, rfl⟩
                have hkn3 : (k2 : Int) = (nI : Int) := by rw [HKN.out]
                go_wp2_with fail
                go_ret
                exact ⟨rfl, C12.out.done⟩
end Go.Proofs.Ytlnomadhgoblkaa.Kit
