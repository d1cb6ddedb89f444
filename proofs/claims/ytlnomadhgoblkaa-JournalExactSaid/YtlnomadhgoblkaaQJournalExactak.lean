/- Texts that the row leans on: Jrc, Jrd, OctRi. -/
import Derived.Test.YtlnomadhgoblkaaProg
import Derived.Test.YtlnomadhgoblkaaQJournalExactaj
import Derived.Test.YtlnomadhgoblkaaQJournalExactaf
import Derived.Test.YtlnomadhgoblkaaQJournalExactac
import Derived.Test.YtlnomadhgoblkaaQJournalExactad
import Derived.Deep.RegionHeld3
-- The document's journal: Append.
set_option linter.unusedVariables false
set_option linter.unusedSimpArgs false
namespace Go.Proofs.Ytlnomadhgoblkaa.Kit
open Go.RowKit
/-- what the document's Append leaves -/
def RRApp (D : Nat → Prop) (g : Nat) (R : Int × List SecV) (w : World) (e : Ending) (w' : World) : Prop :=
  e = .returned (.int .i64 R.1) ∧ ∃ D', RJ w' D' g R.2 ∧ (∀ y, D' y → D y ∨ w.heap.size ≤ y) ∧ Chg (fun y => y = g ∨ D y) w w'
theorem rrapp_no {D : Nat → Prop} {g : Nat} {l : List SecV} {R : Int × List SecV} {z : Int} {w w' : World} (h : R = (z, l)) (hj : RJ w D g l) (c : Chg (fun _ => False) w w') : RRApp D g R w (.returned (.int .i64 z)) w' := by
  subst h
  exact ⟨rfl, D, hj.chg0 c, fun _ h => .inl h, c.mono fun _ _ h => h.elim⟩
set_option maxRecDepth 20000 in
set_option maxHeartbeats 6400000 in
theorem rappend {D : Nat → Prop} {g : Nat} {l : List SecV} {x : SecV} {R : Int × List SecV} {A : Option Addr} {m c : Nat} {w : World} (hR : Hid (jappRes l x = R)) (hj : Hid (RJ w D g l)) (hlen : Hid ((jnlBytes l).length ≤ 268435456)) (hm : Hid (m = x.body.length)) (hmc : m ≤ 140737488355328) (hb : Hid (Byt x.body)) (hr : Hid (Rd w .u8 A x.body)) (hk0 : -9223372036854775808 ≤ x.id) (hk1 : x.id ≤ 9223372036854775807) :
    Calls Try.prog 55 #[.pointer (some ⟨g, 0, none⟩), .agg #[.int .i64 x.id, .slice A m c]] w (RRApp D g R w) := by
  obtain ⟨wa, hwa⟩ : ∃ wa, wa = w.alloc (.cells #[.int .i64 x.id, .slice A m c] 31) := ⟨_, rfl⟩
  obtain ⟨h, hh⟩ : ∃ h, h = w.heap.size := ⟨_, rfl⟩
  have CA : Hid (Chg (fun _ => False) w wa) := by rw [hwa]; exact (Chg.refl _ w).alloc _
  have BX : Hid (Blk wa h 31 [.int .i64 x.id, .slice A m c]) := by rw [hwa, hh]; exact Blk.new _ _ _
  have HS : Hid (∀ W, Chg (fun _ => False) wa W → W.cell? ⟨h, 0, none⟩ = some (.int .i64 x.id) ∧ W.cell? ⟨h, 1, none⟩ = some (.slice A m c) ∧ Rd W .u8 A x.body) := fun W hW =>
    ⟨(BX.out.chg hW id).at_ (i := 0) rfl, (BX.out.chg hW id).at_ (i := 1) rfl, hr.out.below (CA.out.trans hW (fun _ _ h => h)).done⟩
  have HH := Lib.hid hh
  have HWA := Lib.hid hwa
  obtain ⟨s0, s1, ra⟩ := HS.out wa (Chg.refl _ _)
  have RA := Lib.hid ra
  clear hwa hh ra
  by_cases h1 : x.id < 1
  · have hE : Hid (R = (1, l)) := by rw [Hid, ← hR.out, jappRes, if_pos (.inl h1)]
    go_enter Try.func55, Try.ntmps55
    go_upto_region 1 with fail
    rw [← HWA.out, ← HH.out]
    go_wp2_with fail
    go_ret
    exact rrapp_no hE.out hj.out CA.out
  · by_cases h2 : 255 < x.id
    · have hE : Hid (R = (1, l)) := by rw [Hid, ← hR.out, jappRes, if_pos (.inr h2)]
      go_enter Try.func55, Try.ntmps55
      go_upto_region 1 with fail
      rw [← HWA.out, ← HH.out]
      go_wp2_with fail
      go_ret
      exact rrapp_no hE.out hj.out CA.out
    · by_cases h3 : 4194304 < m
      · have hE : Hid (R = (6, l)) := by rw [Hid, ← hR.out, jappRes, if_neg (by omega), if_pos (by rw [← hm.out]; exact h3)]
        go_enter Try.func55, Try.ntmps55
        go_upto_region 1 with fail
        rw [← HWA.out, ← HH.out]
        go_wp2_with fail
        go_ret
        exact rrapp_no hE.out hj.out CA.out
      · obtain ⟨vR, bs, hbk, hv, d2, d4⟩ := hj.out.ex
        obtain ⟨AR, cR, hRv, hcR, _⟩ := hv.row.slice
        obtain ⟨n, hn⟩ : ∃ n, n = l.length := ⟨_, rfl⟩
        obtain ⟨nb, hnb⟩ : ∃ nb, nb = (jnlBytes l).length := ⟨_, rfl⟩
        have hnl := jnlBytes_len l
        rw [← hn, ← hnb] at hnl
        have hnb2 : nb ≤ 268435456 := by rw [hnb]; exact hlen.out
        have hn25 : n ≤ 33554432 := by omega
        rw [← hn] at hRv
        subst hRv
        rw [← hnb] at hbk
        have HN := Lib.hid hn
        have HNB := Lib.hid hnb
        have B0 : Hid (Blk wa g 113 [.slice AR n cR, .int .i64 (nb : Nat)]) := hbk.chg CA.out id
        have V0 : Hid (Recs wa (.slice AR n cR) l bs) := hv.chg CA.out (fun _ _ h => h) (fun _ _ _ _ h => h)
        have HD2 := Lib.hid d2
        have HD4 := Lib.hid d4
        have hgW : Hid (g < wa.heap.size) := B0.out.lt
        have hgh : Hid (g ≠ h) := fun e => BX.out.type_ne B0.out (by decide) e.symm
        have c0 := B0.out.at_ (i := 0) rfl
        have hn0 : (0 : Int) ≤ (n : Int) := by omega
        have hid2 : x.id ≤ 255 := by omega
        have hid1 : 0 ≤ x.id := by omega
        have hm4 : m ≤ 4194304 := by omega
        have RW : Hid (∀ W, Chg (fun _ => False) wa W → Hid (Rd W .u8 A x.body)) := fun W hW => RA.out.below hW.done
        clear hbk hv d2 d4 hcR hn hnb hnl
        go_enter Try.func55, Try.ntmps55
        go_upto_region 1 with fail
        rw [← HWA.out, ← HH.out]
        go_wp2_with fail
        go_region_held3 (fun w' => w'.cell? ⟨g, 0, none⟩ = some (.slice AR n cR) ∧ w'.cell? ⟨h, 0, none⟩ = some (.int .i64 x.id) ∧ w'.cell? ⟨h, 1, none⟩ = some (.slice A m c)) (first | exact ⟨c0, s0, s1⟩ | exact t5) (first | (go_at_call 68; (with_reducible refine (rbytes (x := x) (by omega) hm hm4 hid1 hid2 hb (RW.out _ (by repeat (first | exact Chg.refl _ _ | refine Chg.drew ?_ | refine Chg.drewN ?_ _)))).mono ?_); rintro e w2 ⟨A2, n2, c2, rfl, m2⟩; have C2 : Hid (Chg (fun _ => False) wa w2) := (show Chg (fun _ => False) wa _ from by repeat (first | exact Chg.refl _ _ | refine Chg.drew ?_ | refine Chg.drewN ?_ _)).trans m2.chg (fun _ _ h => h); have L2 : Hid (n2 = (recEnc n x).length) := m2.len; have t5 : w2.cell? ⟨g, 0, none⟩ = some (.slice AR n cR) ∧ w2.cell? ⟨h, 0, none⟩ = some (.int .i64 x.id) ∧ w2.cell? ⟨h, 1, none⟩ = some (.slice A m c) := ⟨C2.out.cell id c0, C2.out.cell id s0, C2.out.cell id s1⟩; clear m2))
        obtain ⟨t0, t1, t2⟩ := t5
        have B2 := Lib.hid (B0.out.chg C2.out id)
        have V2 := Lib.hid (V0.out.chg C2.out (fun _ _ h => h) (fun _ _ _ _ h => h))
        have e1 := B2.out.at_ (i := 1) rfl
        have hn2b : n2 ≤ 4194330 := by
          have h1 := vb_len10 (n := n) (by omega)
          have h2 := vb_len10 (n := x.body.length) (by rw [← hm.out]; omega)
          rw [L2.out, recEnc_length, recHd_length, ← hm.out]
          rw [← hm.out] at h2
          omega
        by_cases hfull : 268435456 < nb + n2
        · have hE : Hid (R = (4, l)) := by rw [Hid, ← hR.out, jappRes, if_neg (by omega), if_neg (by rw [← hm.out]; exact h3), if_pos (by rw [← HNB.out, ← HN.out, ← L2.out]; exact hfull)]
          have hfi : (268435456 : Int) < (nb : Int) + (n2 : Int) := by omega
          clear hfull
          go_wp2_with fail
          go_ret
          exact rrapp_no hE.out hj.out (CA.out.trans C2.out (fun _ _ h => h))
        · have hE : Hid (R = (0, l ++ [x])) := by rw [Hid, ← hR.out, jappRes, if_neg (by omega), if_neg (by rw [← hm.out]; exact h3), if_neg (by rw [← HNB.out, ← HN.out, ← L2.out]; exact hfull)]
          have hfi : ¬ (268435456 : Int) < (nb : Int) + (n2 : Int) := by omega
          have rowT := V2.out.row
          rw [← HN.out] at rowT
          have HRT := Lib.hid rowT
          have RW2 : Hid (∀ W, Chg (fun _ => False) w2 W → Hid (Rd W .u8 A x.body)) := fun W hW => RW.out W (C2.out.trans hW (fun _ _ h => h))
          have hgR : Hid (∀ y, Value.ownBlock (.slice AR n cR) = some y → y ≠ g) := fun y hy e => OwnV.type_ne HRT.out B2.out (by decide) (by rw [hy, e])
          clear rowT hfull
          go_upto_region 8 with fail
          go_cut [] from 6 to 43 (fun wx => ∃ A8 c8 A7 c7, Hid (Blk wx g 113 [.slice A8 (n + 1) c8, .int .i64 (nb : Nat)]) ∧ Hid (OwnV wx 31 2 (.slice A8 (n + 1) c8) (n + 1) (tCells l bs ++ [.int .i64 x.id, .slice A7 m c7])) ∧ Hid (OwnB wx (.slice A7 m c7) x.body) ∧ Hid (∀ y, Value.ownBlock (.slice A7 m c7) = some y → w2.heap.size ≤ y) ∧ Hid (Chg (fun y => y = g ∨ Value.ownBlock (.slice AR n cR) = some y) w2 wx) ∧ Hid (Fresh w2 (.slice AR n cR) (.slice A8 (n + 1) c8)))
          case first =>
            go_region_law (first | ((refine st_app2 rfl _ _ 49 31 (.agg #[.int .i64 0, .slice none 0 0]) 32 rfl Try.underlying49 infoRec rfl (by decide) (.slice AR n cR) n (tCells l bs) (.int .i64 x.id) (.slice A7 m c7) rfl rfl rfl (HRT.out.chg (S := fun _ => False) (by repeat (first | exact C25.out | exact Chg.refl _ _ | refine Chg.drew ?_ | refine Chg.drewN ?_ _ | refine Chg.alloc ?_ _)) (fun _ _ h => h)) w5.heap.size rfl (box_news2 _ _ _ (fun _ => rfl)) (by omega) ?_; intro v6 w6 k1 k2 k3; obtain ⟨A6, c6, rfl, _, _⟩ := k1.slice; have N1 := Lib.hid k1; have N2 : Hid (Chg (fun y => Value.ownBlock (.slice AR n cR) = some y) w2 w6) := (show Chg _ w2 _ from by repeat (first | exact C25.out.mono (fun _ _ h => h.elim) | exact Chg.refl _ _ | refine Chg.drew ?_ | refine Chg.drewN ?_ _ | refine Chg.alloc ?_ _)).trans k2 (fun _ _ h => h); have N3 : Hid (Fresh w2 (.slice AR n cR) (.slice A6 (n + 1) c6)) := k3.imp id (fun h y hy => Nat.le_trans (Nat.le_trans C25.out.size (by simp)) (h y hy)); have N5 : Hid (Chg (fun y => Value.ownBlock (.slice AR n cR) = some y) w5 w6) := (show Chg _ w5 _ from by repeat (first | exact Chg.refl _ _ | refine Chg.drew ?_ | refine Chg.drewN ?_ _ | refine Chg.alloc ?_ _)).trans k2 (fun _ _ h => h); clear k1 k2 k3; have B6 : Hid (Blk w6 g 113 [.slice AR n cR, .int .i64 (nb : Nat)]) := B2.out.chg N2.out (fun e => hgR.out g e rfl); have e6 := B6.out.at_ (i := 0) rfl; have f6 := B6.out.frozen (i := 0) (by simp))) | (go_simp; go_at_call 69; (with_reducible refine (rcopied (x := x) hm hm4 (RW2.out _ (by repeat (first | exact Chg.refl _ _ | refine Chg.drew ?_ | refine Chg.drewN ?_ _)))).mono ?_); rintro e w5 ⟨A7, c7, rfl, o7, k1, k2⟩; have C25 : Hid (Chg (fun _ => False) w2 w5) := (show Chg (fun _ => False) w2 _ from by repeat (first | exact Chg.refl _ _ | refine Chg.drew ?_ | refine Chg.drewN ?_ _)).trans k1 (fun _ _ h => h); have O7 := Lib.hid o7; have F7 : Hid (∀ y, Value.ownBlock (.slice A7 m c7) = some y → w2.heap.size ≤ y) := k2; have t05 : w5.cell? ⟨g, 0, none⟩ = some (.slice AR n cR) := C25.out.cell id t0; have t06 : (w5.alloc (.cells #[.int .i64 x.id, .slice A7 m c7] 31)).cell? ⟨g, 0, none⟩ = some (.slice AR n cR) := (C25.out.alloc _).cell id t0; have t07 : (w5.drew.alloc (.cells #[.int .i64 x.id, .slice A7 m c7] 31)).cell? ⟨g, 0, none⟩ = some (.slice AR n cR) := (C25.out.drew.alloc _).cell id t0; have t08 : (w5.drew.drew.alloc (.cells #[.int .i64 x.id, .slice A7 m c7] 31)).cell? ⟨g, 0, none⟩ = some (.slice AR n cR) := (C25.out.drew.drew.alloc _).cell id t0; clear o7 k1 k2; dsimp only))
            all_goals
              go_wp2_with fail
              go_meet
              case rel => exact ⟨A6, c6, A7, c7, B6.out.set 0 _, N1.out.chg ((Chg.refl (· = g) w6).setg 0 _) (fun y hy e => OwnV.type_ne N1.out B6.out (by decide) (by rw [hy, e])), (O7.out.chg N5.out (fun y hy e => by
                obtain ⟨cur, hcu⟩ := OwnV.typed O7.out y hy
                exact (HRT.out.chg C25.out (fun _ _ h => h)).type_ne hcu (by decide) e)).chg ((Chg.refl (· = g) w6).setg 0 _) (fun y hy e => by
                have h1 := F7.out y hy
                have h2 := hgW.out
                have h3 := C2.out.size
                omega), F7.out, (N2.out.mono (fun _ _ h => .inr h)).setCell (p := ⟨g, 0, none⟩) (fun _ => .inl rfl) _, N3.out⟩
          case rest =>
            obtain ⟨A8, c8, A7, c7, B9, N9, O9, F9, C9, Fr9⟩ := hcut
            have g1 := B9.out.at_ (i := 1) rfl
            have gf1 := B9.out.frozen (i := 1) (by simp)
            have R9 : Hid (Recs wc (.slice A8 (n + 1) c8) (l ++ [x]) (bs ++ [.slice A7 m c7])) := V2.out.snoc HN.out.symm C9.out (fun y hy ht => by
              obtain ⟨cur, hcu⟩ := ht
              rcases hy with hy | hy
              · rw [hy] at hcu
                exact hcu.type_ne B2.out (by decide) rfl
              · exact HRT.out.type_ne hcu (by decide) hy) N9.out O9.out
            have hsum : Hid ((nb : Int) + (n2 : Int) = (((jnlBytes (l ++ [x])).length : Nat) : Int)) := by
              rw [Hid, jnlBytes_snoc, List.length_append, ← HNB.out, ← HN.out, ← L2.out]
              omega
            clear t0 t1 t2 e1 hfi
            go_wp2_with fail
            go_ret
            rw [hE.out]
            have CZ : Chg (fun y => y = g) wc (wc.setCell ⟨g, 1, none⟩ (.int .i64 ((nb : Int) + (n2 : Int)))) := (Chg.refl (fun y => y = g) wc).setg 1 _
            have CW : Chg (fun y => y = g ∨ D y) w wc := ((CA.out.trans C2.out (fun _ _ h => h)).mono (fun _ _ h => h.elim)).trans C9.out (fun y hy h => by
              rcases h with h | h
              · exact .inl h
              · exact .inr (HD2.out y h))
            have hwz : w.heap.size ≤ w2.heap.size := Nat.le_trans CA.out.size C2.out.size
            refine ⟨rfl, fun y => D y ∨ (w.heap.size ≤ y ∧ y < wc.heap.size), ⟨⟨.slice A8 (n + 1) c8, bs ++ [.slice A7 m c7], ?_, ?_, fun y hy => ?_, fun b hb y hy => ?_⟩, fun y hy => ?_, fun hy => ?_⟩, fun y hy => hy.imp id And.left, CW.trans CZ (fun y hy e => .inl e)⟩
            · have := B9.out.set 1 (.int .i64 ((nb : Int) + (n2 : Int)))
              rw [← hsum.out]
              exact this
            · refine R9.out.chg CZ (fun y hy e => OwnV.type_ne R9.out.row B9.out (by decide) (by rw [hy, e])) (fun b hb y hy e => ?_)
              obtain ⟨i, hi, rfl⟩ := List.getElem_of_mem hb
              exact OwnV.type_ne (R9.out.own i (by rw [← R9.out.lenB]; exact hi) hi) B9.out (by decide) (by rw [hy, e])
            · rcases Fr9.out with h | h
              · exact .inl (HD2.out y (by rw [← h]; exact hy))
              · exact .inr ⟨Nat.le_trans hwz (h y hy), N9.out.lt y hy⟩
            · rcases List.mem_append.1 hb with hb | hb
              · exact .inl (HD4.out b hb y hy)
              · rw [List.mem_singleton.1 hb] at hy
                exact .inr ⟨Nat.le_trans hwz (F9.out y hy), O9.out.lt y hy⟩
            · have hz : (wc.setCell ⟨g, 1, none⟩ (.int .i64 ((nb : Int) + (n2 : Int)))).heap.size = wc.heap.size := by simp [World.setCell]
              rw [hz]
              rcases hy with hy | hy
              · exact Nat.lt_of_lt_of_le (hj.out.size y hy) CW.size
              · exact hy.2
            · rcases hy with hy | hy
              · exact hj.out.out hy
              · have := hj.out.lt
                omega
end Go.Proofs.Ytlnomadhgoblkaa.Kit
-- The document's journal: Bytes, Ends.
set_option linter.unusedVariables false
set_option linter.unusedSimpArgs false
namespace Go.Proofs.Ytlnomadhgoblkaa.Kit
open Go.RowKit
theorem jnl_take_succ {l : List SecV} {k : Nat} {x : SecV} (hx : l[k]? = some x) : jnlBytes (l.take (k + 1)) = jnlBytes (l.take k) ++ recEnc k x := by
  obtain ⟨hlt, hxe⟩ := List.getElem?_eq_some_iff.1 hx
  rw [List.take_succ_eq_append_getElem hlt, jnlBytes_snoc, hxe, List.length_take, Nat.min_eq_left (Nat.le_of_lt hlt)]
theorem jends_take_succ {l : List SecV} {k : Nat} (hk : k < l.length) : (jends l).take (k + 1) = (jends l).take k ++ [((jnlBytes (l.take (k + 1))).length : Int)] := by
  have hk' : k < (jends l).length := by rw [jends_length]; exact hk
  rw [List.take_succ_eq_append_getElem hk', jends_get]
set_option maxRecDepth 20000 in
set_option maxHeartbeats 6400000 in
theorem rjbytes {D : Nat → Prop} {g : Nat} {l : List SecV} {w : World} (hs : Hid ((jnlBytes l).length ≤ 268435456)) (hg : Hid (∀ x ∈ l, GoodRec x)) (hj : Hid (RJ w D g l)) :
    Calls Try.prog 57 #[.pointer (some ⟨g, 0, none⟩)] w fun e w' => ∃ A n c, e = .returned (.slice A n c) ∧ Made w w' A n c (jnlBytes l) := by
  obtain ⟨vR, bs, hb, hv, h2, h4⟩ := hj.out.ex
  obtain ⟨AR, cR, hR, hcR, _⟩ := hv.row.slice
  obtain ⟨n, hn⟩ : ∃ n, n = l.length := ⟨_, rfl⟩
  rw [← hn] at hR
  subst hR
  have c0 := hb.at_ (i := 0) rfl
  have HN := Lib.hid hn
  have HV := Lib.hid hv
  have hnb : n ≤ 33554432 := by
    have h1 := jnlBytes_len l
    have h2 := hs.out
    omega
  have C0 := Lib.hid c0
  have hJH : Hid (OwnB (w.alloc (.cells (nums .u8 jhead).toArray 5 (8, 9))) (.slice (some ⟨w.heap.size, 0, none⟩) 8 8) jhead) := Own.litF w _ .u8 jhead 8 rfl (by decide)
  have HKC : Hid ((convert 29 29 (.slice (some ⟨w.heap.size, 0, none⟩) 8 8)).run Try.prog (w.alloc (.cells #[.int .u8 80, .int .u8 65, .int .u8 89, .int .u8 74, .int .u8 82, .int .u8 78, .int .u8 76, .int .u8 49] 5)) = .ok (.slice (some ⟨w.heap.size, 0, none⟩) 8 8) (w.alloc (.cells (nums .u8 jhead).toArray 5 (8, 9)))) := Lib.run_convert_bytes_const (P := Try.prog) w 29 5 (nums .u8 jhead).toArray 8 8 Try.underlying29 Try.underlying5
  have CB : Hid (Chg (fun _ => False) w (w.alloc (.cells (nums .u8 jhead).toArray 5 (8, 9)))) := (Chg.refl _ w).alloc _
  clear hb hv h2 h4 hn c0
  go_enter Try.func57, Try.ntmps57
  go_wp2_with fail
  rw [HKC.out]
  go_wp2_with fail
  go_loopw [3, 4] (fun b i wr => ∃ (k : Nat), k ≤ n ∧ i = .int .i64 k ∧ Hid (OwnB wr b (jnlBytes (l.take k))) ∧ Hid (Chg (fun _ => False) w wr) ∧ Hid (∀ y, b.ownBlock = some y → w.heap.size ≤ y)) (fun _ i _ => n - (intOf i).toNat)
  case atStart => exact ⟨0, Nat.zero_le _, rfl, hJH.out, CB.out, blk_ge (Nat.le_refl _)⟩
  case round =>
    obtain ⟨k, hk, rfl, ho, hc, hf⟩ := hrel
    have c0 := hc.out.cell id C0.out
    by_cases hlt : k < n
    · obtain ⟨x, hx⟩ : ∃ x, l[k]? = some x := ⟨l[k]'(by rw [← HN.out]; exact hlt), List.getElem?_eq_getElem _⟩
      obtain ⟨ad, Ab, cb, cR', e1, k1, k2, hob, _, _⟩ := recs_at HV.out hx
      injection e1 with e1 _ _
      subst e1
      obtain ⟨mb, hmb⟩ : ∃ mb, mb = x.body.length := ⟨_, rfl⟩
      rw [← hmb] at k2 hob
      have HX := Lib.hid hx
      have HMB := Lib.hid hmb
      have hxg := hg.out x (List.mem_of_getElem? hx)
      have hmb4 : mb ≤ 4194304 := by rw [hmb]; exact hxg.2.2.1
      have hi1 : 0 ≤ x.id := by have := hxg.1; omega
      have hi2 : x.id ≤ 255 := hxg.2.1
      have HBX : Hid (Byt x.body) := hxg.2.2.2
      have RB : Hid (Rd wr .u8 Ab x.body) := (hob.chg hc.out (fun _ _ h => h)).rd (by rw [hmb])
      have t0 := hc.out.cell id k1
      have t1 := hc.out.cell id k2
      obtain ⟨Lk, hLk⟩ : ∃ Lk, Lk = jnlBytes (l.take k) := ⟨_, rfl⟩
      have hLs := jnl_take_succ hx
      rw [← hLk] at ho hLs
      have hle := jnl_le l (k + 1)
      rw [hLs, List.length_append] at hle
      obtain ⟨A3, c3, hv3, _, _⟩ := ho.out.slice
      obtain ⟨n3, hn3⟩ : ∃ n3, n3 = Lk.length := ⟨_, rfl⟩
      rw [← hn3] at hv3 hle
      subst hv3
      have HN3 := Lib.hid hn3
      have HLS := Lib.hid hLs
      have HLE := Lib.hid hle
      have q0 : (0 : Int) ≤ (k : Int) := by omega
      have q1 : (k : Int) < (n : Int) := by omega
      clear hx hmb hxg hob k1 k2 hLk hLs hle hn3
      go_wp2_with fail
      refine (rbytes (x := x) (by omega) HMB hmb4 hi1 hi2 HBX RB).mono ?_
      rintro e w2 ⟨A2, n2, c2, rfl, m2⟩
      have O2 := Lib.hid (ho.out.chg m2.chg (fun _ _ h => h))
      have R2 : Hid (Rd w2 .u8 A2 (recEnc k x)) := m2.rd
      have L2 : Hid (n2 = (recEnc k x).length) := m2.len
      have C2 : Hid (Chg (fun _ => False) w w2) := hc.out.trans m2.chg (fun _ _ h => h)
      clear m2
      go_wp2_with (at_builtin; go_must (refine wp_appn rfl _ _ 29 5 .u8 1 rfl Try.underlying29 infoU8 (by decide) (.slice A3 n3 c3) Lk rfl O2.out A2 c2 (recEnc k x) n2 rfl L2.out R2.out (by have h1 := HLE.out; have h2 := hs.out; rw [← HN3.out]; omega) ?_); intro v4 w4 k1 k2 k3 k4; have O4 := Lib.hid k1; have C4 : Hid (Chg (fun _ => False) w w4) := C2.out.fresh k3 hf.out; have G4 : Hid (∀ y, v4.ownBlock = some y → w.heap.size ≤ y) := k4.ge hf.out C2.out.size; clear k1 k2 k3 k4)
      go_roundw
      case rel => exact ⟨k + 1, by omega, by go_num, by rw [HLS.out]; exact O4.out, C4, G4⟩
      case measure => simp [intOf]; omega
    · obtain rfl : k = n := by omega
      have ho2 : OwnB wr u3 (jnlBytes l) := by
        have := ho.out
        rw [HN.out, List.take_length] at this
        exact this
      obtain ⟨A3, c3, hv3, hc3, _⟩ := ho2.slice
      have HO := Lib.hid ho2
      have HC3 := Lib.hid hc3
      subst hv3
      clear ho2 hc3 ho
      go_wp2_with fail
      go_ret
      exact ⟨A3, _, c3, rfl, rfl, HO.out, hc.out, hf.out, HC3.out⟩
set_option maxRecDepth 20000 in
set_option maxHeartbeats 6400000 in
theorem rjends {D : Nat → Prop} {g : Nat} {l : List SecV} {n : Nat} {w : World} (HN : Hid (n = l.length)) (hs : Hid ((jnlBytes l).length ≤ 268435456)) (hg : Hid (∀ x ∈ l, GoodRec x)) (hj : Hid (RJ w D g l)) :
    Calls Try.prog 58 #[.pointer (some ⟨g, 0, none⟩)] w fun e w' => ∃ A c, e = .returned (.slice A n c) ∧ Own w' 3 .i64 (.slice A n c) (jends l) ∧ Chg (fun _ => False) w w' ∧ (∀ k, Value.ownBlock (.slice A n c) = some k → w.heap.size ≤ k) := by
  obtain ⟨vR, bs, hb, hv, h2, h4⟩ := hj.out.ex
  obtain ⟨AR, cR, hR, hcR, _⟩ := hv.row.slice
  rw [← HN.out] at hR
  subst hR
  have c0 := hb.at_ (i := 0) rfl
  have HV := Lib.hid hv
  have hnb : n ≤ 33554432 := by
    have h1 := jnlBytes_len l
    have h2 := hs.out
    rw [← HN.out] at h1
    omega
  have C0 := Lib.hid c0
  clear hb hv h2 h4 c0
  go_enter Try.func58, Try.ntmps58
  go_wp2_with fail
  go_loopw [3, 4, 5] (fun b z i wr => ∃ (k : Nat), k ≤ n ∧ i = .int .i64 k ∧ z = .int .i64 ((jnlBytes (l.take k)).length : Nat) ∧ Hid (Own wr 3 .i64 b ((jends l).take k)) ∧ Hid (Chg (fun _ => False) w wr) ∧ Hid (∀ y, b.ownBlock = some y → w.heap.size ≤ y)) (fun _ _ i _ => n - (intOf i).toNat)
  case atStart => exact ⟨0, Nat.zero_le _, rfl, rfl, Own.nil _ _ _, Chg.refl _ _, fun y hy => by simp [Value.ownBlock] at hy⟩
  case round =>
    obtain ⟨k, hk, rfl, rfl, ho, hc, hf⟩ := hrel
    have c0 := hc.out.cell id C0.out
    by_cases hlt : k < n
    · have hkl : k < l.length := by rw [← HN.out]; exact hlt
      obtain ⟨x, hx⟩ : ∃ x, l[k]? = some x := ⟨l[k]'hkl, List.getElem?_eq_getElem _⟩
      obtain ⟨ad, Ab, cb, cR', e1, k1, k2, hob, _, _⟩ := recs_at HV.out hx
      injection e1 with e1 _ _
      subst e1
      obtain ⟨mb, hmb⟩ : ∃ mb, mb = x.body.length := ⟨_, rfl⟩
      rw [← hmb] at k2 hob
      have HMB := Lib.hid hmb
      have hxg := hg.out x (List.mem_of_getElem? hx)
      have hmb4 : mb ≤ 4194304 := by rw [hmb]; exact hxg.2.2.1
      have hi1 : 0 ≤ x.id := by have := hxg.1; omega
      have hi2 : x.id ≤ 255 := hxg.2.1
      have HBX : Hid (Byt x.body) := hxg.2.2.2
      have RB : Hid (Rd wr .u8 Ab x.body) := (hob.chg hc.out (fun _ _ h => h)).rd (by rw [hmb])
      have t0 := hc.out.cell id k1
      have t1 := hc.out.cell id k2
      have hLs := jnl_take_succ hx
      have hEs := jends_take_succ hkl
      have hle := jnl_le l (k + 1)
      obtain ⟨nk, hnk⟩ : ∃ nk, nk = (jnlBytes (l.take k)).length := ⟨_, rfl⟩
      obtain ⟨ne, hne⟩ : ∃ ne, ne = (jnlBytes (l.take (k + 1))).length := ⟨_, rfl⟩
      have hsm : nk + (recEnc k x).length = ne := by rw [hne, hLs, List.length_append, hnk]
      rw [← hne] at hEs hle
      rw [← hnk]
      obtain ⟨Lk, hLk⟩ : ∃ Lk, Lk = (jends l).take k := ⟨_, rfl⟩
      have hLkl : Lk.length = k := by rw [hLk, List.length_take, jends_length]; omega
      rw [← hLk] at ho hEs
      obtain ⟨A3, c3, hv3, _, _⟩ := ho.out.slice
      rw [hLkl] at hv3
      subst hv3
      have HES := Lib.hid hEs
      have HSM := Lib.hid hsm
      have HLL := Lib.hid hLkl
      have hne2 : ne ≤ 268435456 := Nat.le_trans hle hs.out
      have q0 : (0 : Int) ≤ (k : Int) := by omega
      have q1 : (k : Int) < (n : Int) := by omega
      have HNE := Lib.hid hne
      clear hx hmb hxg hob k1 k2 hLk hLs hle hsm hEs hLkl hne hnk
      go_wp2_with fail
      refine (rbytes (x := x) (by omega) HMB hmb4 hi1 hi2 HBX RB).mono ?_
      rintro e w2 ⟨A2, n2, c2, rfl, m2⟩
      have O2 := Lib.hid (ho.out.chg m2.chg (fun _ _ h => h))
      have C2 : Hid (Chg (fun _ => False) w w2) := hc.out.trans m2.chg (fun _ _ h => h)
      have hn2 : (nk : Int) + (n2 : Int) = (ne : Int) := by
        have := m2.len
        have := HSM.out
        omega
      clear m2
      go_wp2_with (at_builtin; go_must (refine wp_app1 rfl _ _ 23 3 .i64 8 rfl Try.underlying23 infoInt (by decide) (.slice A3 k c3) Lk (ne : Int) rfl O2.out rfl (by rw [HLL.out]; omega) ?_); intro v4 w4 k1 k2 k3 k4; have O4 := Lib.hid k1; have C4 : Hid (Chg (fun _ => False) w w4) := C2.out.fresh k3 hf.out; have G4 : Hid (∀ y, v4.ownBlock = some y → w.heap.size ≤ y) := k4.ge hf.out C2.out.size; clear k1 k2 k3 k4)
      go_roundw
      case rel => exact ⟨k + 1, by omega, by go_num, by rw [← HNE.out], by rw [HES.out]; exact O4.out, C4, G4⟩
      case measure => simp [intOf]; omega
    · obtain rfl : k = n := by omega
      have ho2 : Own wr 3 .i64 u3 (jends l) := by
        have := ho.out
        rw [List.take_of_length_le (by rw [jends_length, HN.out]; exact Nat.le_refl _)] at this
        exact this
      obtain ⟨A3, c3, hv3, hc3, _⟩ := ho2.slice
      rw [jends_length, ← HN.out] at hv3
      have HO := Lib.hid ho2
      subst hv3
      clear ho2 hc3 ho
      go_wp2_with fail
      go_ret
      exact ⟨A3, c3, rfl, HO.out, hc.out, hf.out⟩
end Go.Proofs.Ytlnomadhgoblkaa.Kit
-- The document's reader: Take.
set_option linter.unusedVariables false
set_option linter.unusedSimpArgs false
namespace Go.Proofs.Ytlnomadhgoblkaa.Kit
open Go.RowKit
/-- what the document's Take leaves -/
def RTakeF (g : Nat) (v : Value) (l : List Int) (at_ : Nat) (n : Int) (w : World) (e : Ending) (w' : World) : Prop :=
  ∃ (A2 : Option Addr) (n2 c2 : Nat) (m : List Int) (at2 : Nat) (er : Int), e = .returned (.tuple #[.slice A2 n2 c2, .int .i64 er]) ∧ n2 = m.length ∧ (OwnB w' (.slice A2 n2 c2) m ∧ ∀ k, Value.ownBlock (.slice A2 n2 c2) = some k → w.heap.size ≤ k) ∧ RdrF w' g v l at2 ∧ Chg (· = g) w w' ∧
    ((n < 0 ∧ er = 1 ∧ m = [] ∧ at2 = at_) ∨ (0 ≤ n ∧ (l.length : Int) - at_ < n ∧ er = 41 ∧ m = [] ∧ at2 = at_) ∨ (0 ≤ n ∧ n ≤ (l.length : Int) - at_ ∧ er = 0 ∧ m = (l.drop at_).take n.toNat ∧ at2 = at_ + n.toNat))
theorem takeF_end {g : Nat} {v : Value} {l : List Int} {at_ k nq n1 e1 : Nat} {A1 : Option Addr} {w w1 : World} (h : RdrF w g v l at_) (hk : (k : Int) ≤ (l.length : Int) - at_) (m1 : Made (w.drewN nq) w1 A1 n1 e1 ((l.drop at_).take k ++ [])) :
    RTakeF g v l at_ k w (.returned (.tuple #[.slice A1 n1 e1, .int .i64 0])) (w1.setCell ⟨g, 1, none⟩ (.int .i64 ((at_ : Int) + k))) := by
  have hc : Chg (fun _ => False) w w1 := ((Chg.refl _ w).drewN nq).trans m1.chg (fun _ _ h => h)
  rw [List.append_nil] at m1
  have hz : ((at_ : Int) + k) = ((at_ + k : Nat) : Int) := by omega
  rw [hz]
  have := h.le
  refine ⟨A1, n1, e1, (l.drop at_).take k, at_ + k, 0, rfl, m1.len, ?_, (h.chg hc id (fun _ _ => id)).move (by omega), (hc.mono (fun _ _ h => h.elim)).setg 1 _, .inr (.inr ⟨by omega, by omega, rfl, by simp, by simp⟩)⟩
  refine ⟨m1.own.chg ((Chg.refl (· = g) w1).setg 1 _) (fun k hk e => ?_), fun k hk => m1.new k hk⟩
  have h1 := m1.new k hk
  have h2 := h.blk.lt
  have h3 : (w.drewN nq).heap.size = w.heap.size := rfl
  omega
set_option maxRecDepth 20000 in
set_option maxHeartbeats 1600000 in
theorem takeF (g : Nat) (v : Value) (l : List Int) (at_ : Nat) (n : Int) (w : World) (h : Hid (RdrF w g v l at_)) :
    Calls Try.prog 79 #[.pointer (some ⟨g, 0, none⟩), .int .i64 n] w (RTakeF g v l at_ n w) := by
  by_cases hn : n < 0
  · go_enter Try.func79, Try.ntmps79
    go_wp2_with fail
    go_ret2
    exact ⟨none, 0, 0, [], at_, 1, rfl, rfl, ⟨Own.nil _ _ _, fun k h => by simp [Value.ownBlock] at h⟩, h.out, Chg.refl _ _, .inl ⟨hn, rfl, rfl, rfl⟩⟩
  · by_cases hm : (l.length : Int) - at_ < n
    · go_enter Try.func79, Try.ntmps79
      go_wp2_with (go_at_call 90; refine (leftF (show Hid _ from rfl) h).mono ?_; rintro e w' ⟨rfl, nq, rfl⟩)
      go_ret2
      exact ⟨none, 0, 0, [], at_, 41, rfl, rfl, ⟨Own.nil _ _ _, fun k h => by simp [Value.ownBlock] at h⟩, h.out.drewN _, (Chg.refl _ _).drewN _, .inr (.inl ⟨by omega, hm, rfl, rfl, rfl⟩)⟩
    · obtain ⟨k, rfl⟩ : ∃ k : Nat, n = k := ⟨n.toNat, by omega⟩
      obtain ⟨A, c, rfl, hc, _⟩ := h.out.own.slice
      have h0 := h.out.blk.at_ (i := 0) rfl
      have h1 := h.out.blk.at_ (i := 1) rfl
      have h2 := h.out.le
      have h3 := h.out.bound
      have c1 : (0 : Int) ≤ (at_ : Int) := by omega
      have c2 : (at_ : Int) ≤ (l.length : Int) := by omega
      have c3 : (l.length : Int) ≤ (c : Int) := by omega
      have c4 : (at_ : Int) + (k : Int) ≤ (c : Int) := by omega
      have c5 : (at_ : Int) ≤ (at_ : Int) + (k : Int) := by omega
      have c6 : (0 : Int) ≤ (at_ : Int) + (k : Int) := by omega
      have hrd := Lib.hid (h.out.own.rd rfl)
      have E1 : IntKind.i64.wrap ((at_ : Int) + (k : Int)) = (at_ : Int) + (k : Int) := IntWalk.i64_in _ (by omega)
      have hf1 : Hid (∀ W, Chg (fun _ => False) w W → W.frozen? ⟨g, 1, none⟩ = false) := fun W hW => (h.out.blk.chg hW id).frozen (i := 1) (by simp)
      have HTL : Hid ((↑at_ + ↑k : Int).toNat - at_ = ((l.drop at_).take k).length) := text_len (by omega)
      have HLE : Hid (((l.drop at_).take k).length + ([] : List Int).length ≤ 140737488355328) := by rw [Hid, ← HTL.out]; simp; omega
      have hz := Lib.hid (show (l.length : Int) - (at_ : Int) = (l.length : Int) - (at_ : Int) from rfl)
      by_cases hca : c = at_
      · have HR : Hid (∀ W : World, Rd W .u8 A ((l.drop at_).take k)) := fun W => by
          rw [List.drop_eq_nil_of_le (by omega), List.take_nil]
          exact Rd.nil _ _ _
        have HTL0 : Hid (0 = ((l.drop at_).take k).length) := by rw [Hid, ← HTL.out]; omega
        subst hca
        go_enter Try.func79, Try.ntmps79
        go_wp2_with (go_at_call 90; refine (leftF (show Hid ((l.length : Int) - c = (l.length : Int) - c) from rfl) h).mono ?_; rintro e w' ⟨rfl, nq, rfl⟩)
        go_region_held3 (fun w' => w'.cell? ⟨g, 0, none⟩ = some (.slice A l.length c) ∧ w'.cell? ⟨g, 1, none⟩ = some (.int .i64 c)) (first | exact ⟨h0, h1⟩ | go_keep | exact ⟨K1.out.chg.cell id (by go_keep), K1.out.chg.cell id (by go_keep)⟩) (first | (go_at_call 89; refine (joined _ none _ 0 _ 0 ((l.drop c).take k) [] _ HTL0 (show Hid _ from rfl) HLE (HR.out _) (Rd.nil _ _ _)).mono ?_; rintro e w1 ⟨A1, n1, e1, rfl, m1⟩; have K1 := Lib.hid m1; clear m1))
        have q1 : w1.cell? ⟨g, 1, none⟩ = some (.int .i64 c) := K1.out.chg.cell id (show (w.drewN _).cell? _ = _ from h1)
        have q2 := hf1.out w1 ((((Chg.refl _ w).drewN _)).trans K1.out.chg (fun _ _ h => h))
        go_wp2
        go_ret2
        exact takeF_end h.out (by omega) K1.out
      · have HR : Hid (∀ W, Chg (fun _ => False) w W → Rd W .u8 (A.map (·.add at_)) ((l.drop at_).take k)) := fun W hW => (rd_from (hrd.out.chg hW (fun _ _ _ => id)) at_).take k
        go_enter Try.func79, Try.ntmps79
        go_wp2_with (go_at_call 90; refine (leftF (show Hid ((l.length : Int) - at_ = (l.length : Int) - at_) from rfl) h).mono ?_; rintro e w' ⟨rfl, nq, rfl⟩)
        go_region_held3 (fun w' => w'.cell? ⟨g, 0, none⟩ = some (.slice A l.length c) ∧ w'.cell? ⟨g, 1, none⟩ = some (.int .i64 at_)) (first | exact ⟨h0, h1⟩ | go_keep | exact ⟨K1.out.chg.cell id (by go_keep), K1.out.chg.cell id (by go_keep)⟩) (first | (go_at_call 89; refine (joined _ none _ 0 _ 0 ((l.drop at_).take k) [] _ HTL (show Hid _ from rfl) HLE (HR.out _ (by repeat (first | exact Chg.refl _ _ | refine Chg.drew ?_ | refine Chg.drewN ?_ _))) (Rd.nil _ _ _)).mono ?_; rintro e w1 ⟨A1, n1, e1, rfl, m1⟩; have K1 := Lib.hid m1; clear m1))
        have q1 : w1.cell? ⟨g, 1, none⟩ = some (.int .i64 at_) := K1.out.chg.cell id (show (w.drewN _).cell? _ = _ from h1)
        have q2 := hf1.out w1 ((((Chg.refl _ w).drewN _)).trans K1.out.chg (fun _ _ h => h))
        go_wp2
        go_ret2
        exact takeF_end h.out (by omega) K1.out
end Go.Proofs.Ytlnomadhgoblkaa.Kit
