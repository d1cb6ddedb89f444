/- The journal's laws: filled. -/
import Derived.Test.YtlnomadhgoblkaaProg
import Derived.Test.YtlnomadhgoblkaaJz
set_option linter.unusedVariables false
set_option linter.unusedSimpArgs false
namespace Go.Proofs.Ytlnomadhgoblkaa.Kit
open Go.RowKit
/-- filled, under way -/
structure FillL (w0 w : World) (gj : Nat) (D : Nat → Prop) (v : Value) (ls : List SecV) (bs : List Value) (room : Int) : Prop where
  jn : Jn w D gj ls
  row : RecsR w0 w v ls bs
  chg : Chg (fun _ => False) w0 w
  new : ∀ y, D y → w0.heap.size ≤ y
  newv : ∀ y, v.ownBlock = some y → w0.heap.size ≤ y
  apart : ∀ y, v.ownBlock = some y → ¬ D y ∧ y ≠ gj
  room : room = 268435456 - ((jnlBytes ls).length : Int)
  small : (jnlBytes ls).length ≤ 268435456
  ok : ∀ x ∈ ls, okRec x
theorem appendUintNilW (n : Nat) (w : World) (h : n < 9223372036854775808) :
    Calls Try.prog 21 #[.slice none 0 0, .int .u64 (IntKind.u64.wrap (n : Int))] w fun e w' => ∃ A k c, e = .returned (.slice A k c) ∧ Made w w' A k c (vb n) := by
  have := appendUintNil (n : Int) w (by omega) (by omega)
  rw [Int.toNat_natCast] at this
  rw [show IntKind.u64.wrap (n : Int) = (n : Int) from IntWalk.u64_in _ (by omega)]
  exact this
theorem sum_wrap (a b m : Nat) (ha : a ≤ 10) (hb : b ≤ 10) (hm : m ≤ 4194304) : IntKind.i64.wrap (IntKind.i64.wrap (IntKind.i64.wrap (IntKind.i64.wrap (IntKind.i64.wrap (1 + (a : Int)) + 1) + (b : Int)) + (m : Int)) + 4) = 1 + (a : Int) + 1 + (b : Int) + (m : Int) + 4 := by
  rw [IntWalk.i64_in (1 + (a : Int)) (by omega), IntWalk.i64_in (1 + (a : Int) + 1) (by omega), IntWalk.i64_in (1 + (a : Int) + 1 + (b : Int)) (by omega), IntWalk.i64_in (1 + (a : Int) + 1 + (b : Int) + (m : Int)) (by omega), IntWalk.i64_in _ (by omega)]
/-- behind a call of Append -/
theorem FillL.more {w0 w w3 w4 : World} {gj : Nat} {D D4 : Nat → Prop} {v : Value} {ls l2 : List SecV} {bs : List Value} {room : Int} (h : FillL w0 w gj D v ls bs room) (hg : w0.heap.size ≤ gj) (c3 : Chg (fun _ => False) w w3) (j4 : Jn w4 D4 gj l2) (n4 : ∀ y, D4 y → D y ∨ w3.heap.size ≤ y) (c4 : Chg (fun y => y = gj ∨ D y) w3 w4) :
    RecsR w0 w4 v ls bs ∧ Chg (fun _ => False) w0 w4 ∧ (∀ y, D4 y → w0.heap.size ≤ y) ∧ (∀ y, v.ownBlock = some y → ¬ D4 y ∧ y ≠ gj) := by
  have hv := h.row.row.lt
  refine ⟨(h.row.chg c3 (fun _ _ h => h)).chg c4 (fun y hy hs => ?_), (h.chg.trans c3 (fun _ _ h => h)).old c4 (fun i hi => ?_), fun y hy => ?_, fun y hy => ⟨fun hd => ?_, (h.apart y hy).2⟩⟩
  · rcases hs with hs | hs
    · exact (h.apart y hy).2 hs
    · exact (h.apart y hy).1 hs
  · rcases hi with rfl | hi
    · exact hg
    · exact h.new i hi
  · rcases n4 y hy with h1 | h1
    · exact h.new y h1
    · exact Nat.le_trans (Nat.le_trans h.chg.size c3.size) h1
  · rcases n4 y hd with h1 | h1
    · exact (h.apart y hy).1 h1
    · have := hv y hy
      have := c3.size
      omega
set_option maxRecDepth 20000 in
theorem filledT {A : Option Addr} {n c : Nat} {l : List SecV} {w : World} (HN : Hid (n = l.length)) (hnb : n ≤ 4398046511104) (hr : Hid (RdSecs w A l)) (hsz : Hid (∀ x ∈ l, x.body.length ≤ 140737488351232)) :
    Calls Try.prog 27 #[.slice A n c] w fun e w' => ∃ gj D v bs, e = .returned (.tuple #[.pointer (some ⟨gj, 0, none⟩), v]) ∧ FillL w w' gj D v (jfill l) bs (268435456 - ((jnlBytes (jfill l)).length : Int)) ∧ w.heap.size ≤ gj := by
  go_enter Try.func27, Try.ntmps27
  go_wp2_with fail
  refine (jnew _).mono ?_
  rintro e w1 ⟨gj, D, rfl, m1, m2, m3, m4⟩
  have M1 := Lib.hid m1
  have M2 := Lib.hid m2
  have M3 : Hid (w.heap.size ≤ gj) := m3
  have M4 := Lib.hid m4
  clear m1 m2 m3 m4
  go_wp2_with fail
  go_loopw [5, 6, 7] (fun vi ro i wr => ∃ k D' bs room, k ≤ n ∧ i = .int .i64 (k : Nat) ∧ ro = .int .i64 room ∧ Hid (FillL w wr gj D' vi (jfill (l.take k)) bs room)) (fun _ _ i _ => n - (intOf i).toNat)
  case atStart =>
    have e0 : jfill (l.take 0) = [] := rfl
    have e1 : (jnlBytes []).length = 8 := rfl
    refine ⟨0, D, [], 268435448, Nat.zero_le _, rfl, rfl, ?_⟩
    rw [e0]
    exact ⟨M1.out, RecsR.nil _ _, M4.out, M2.out, fun y hy => by simp [Value.ownBlock] at hy, fun y hy => by simp [Value.ownBlock] at hy, by rw [e1]; rfl, by rw [e1]; omega, fun x hx => absurd hx (by simp)⟩
  case round =>
    obtain ⟨k, D', bs, room, hk2, rfl, rfl, hl⟩ := hrel
    by_cases hlt : k < n
    · have hkl : k < l.length := by rw [← HN.out]; exact hlt
      obtain ⟨x, hx⟩ : ∃ x, x = l[k] := ⟨_, rfl⟩
      obtain ⟨ad, e1, hs⟩ := hr.out k hkl
      subst e1
      rw [← hx] at hs
      obtain ⟨A3, c3, t1w, hc3, hc3m, r3w⟩ := hs.body
      obtain ⟨m, hm⟩ : ∃ m, m = x.body.length := ⟨_, rfl⟩
      rw [← hm] at t1w hc3
      have t0 := hl.out.chg.cell id hs.id
      have t1 := hl.out.chg.cell id t1w
      have r3 := r3w.below hl.out.chg.done
      have R3w := Lib.hid r3w
      clear t1w r3w
      have HM := Lib.hid hm
      have q0 : (0 : Int) ≤ (k : Int) := by omega
      have q1 : (k : Int) < (n : Int) := by omega
      have hsnoc : Hid (jfill (l.take (k + 1)) = (jappRes (jfill (l.take k)) x).2) := by rw [Hid, List.take_succ_eq_append_getElem hkl, jfill_snoc, ← hx]
      have HBX : Hid (Byt x.body) := hs.byt
      have HRX : Hid (-9223372036854775808 ≤ x.id ∧ x.id ≤ 9223372036854775807) := hs.rng
      have R3 : Hid (Rd wr .u8 A3 x.body) := r3
      have hmx : m ≤ 140737488351232 := by rw [hm]; exact hsz.out x (by rw [hx]; exact List.getElem_mem hkl)
      clear hs r3 hm hx
      obtain ⟨b, hbk⟩ : ∃ b : Bool, (b = true ∧ okRec x) ∨ (b = false ∧ ¬ okRec x) := by
        by_cases h : okRec x
        · exact ⟨true, .inl ⟨rfl, h⟩⟩
        · exact ⟨false, .inr ⟨rfl, h⟩⟩
      have HBK := Lib.hid hbk
      clear hbk
      go_wp2_with fail
      refine (show Calls Try.prog 17 _ wr (fun e w' => e = .returned (.bool b) ∧ Chg (fun _ => False) wr w') from by
        rcases HBK.out with ⟨rfl, h⟩ | ⟨rfl, h⟩
        · exact rightYes HM.out h
        · exact rightNo HM.out h).mono ?_
      rintro e w2 ⟨rfl, k1⟩
      have K2 := Lib.hid k1
      clear k1
      go_wp2_with fail
      have J2 := Lib.hid (hl.out.jn.chg0 K2.out)
      have HS : Hid (∀ W, Chg (fun _ => False) w2 W → W.cell? (ad.add (k * 2)) = some (.int .i64 x.id) ∧ W.cell? ⟨(ad.add (k * 2)).block, (ad.add (k * 2)).off + 1, none⟩ = some (.slice A3 m c3)) := fun W hW =>
        ⟨(K2.out.trans hW (fun _ _ h => h)).cell id t0, (K2.out.trans hW (fun _ _ h => h)).cell id t1⟩
      have HR2 : Hid (∀ W, Chg (fun _ => False) w2 W → Rd W .u8 A3 x.body) := fun W hW => R3.out.below (K2.out.trans hW (fun _ _ h => h)).done
      obtain ⟨RR, hRR⟩ : ∃ RR, jappRes (jfill (l.take k)) x = RR := ⟨_, rfl⟩
      have HRR := Lib.hid hRR
      have HSM := Lib.hid hl.out.small
      have hbl : Hid ((ad.add (k * 2)).block < w.heap.size) := by
        obtain ⟨ad', e1, hs⟩ := hr.out k hkl
        injection e1 with e1
        subst e1
        exact World.block_lt_of_cell? w _ hs.id
      have HS4 : Hid (∀ W3 W4, Chg (fun _ => False) w2 W3 → Chg (fun y => y = gj ∨ D' y) W3 W4 → W4.cell? (ad.add (k * 2)) = some (.int .i64 x.id) ∧ W4.cell? ⟨(ad.add (k * 2)).block, (ad.add (k * 2)).off + 1, none⟩ = some (.slice A3 m c3)) := fun W3 W4 h3 h4 => by
        have hq : ¬ ((ad.add (k * 2)).block = gj ∨ D' (ad.add (k * 2)).block) := fun h => by
          have := hbl.out
          have := M3.out
          rcases h with h | h
          · omega
          · have := hl.out.new _ h
            omega
        have := HS.out W3 h3
        exact ⟨h4.cell hq this.1, h4.cell hq this.2⟩
      clear hRR t0 t1
      go_region_held3 (fun w' => w'.cell? (ad.add (k * 2)) = some (.int .i64 x.id) ∧ w'.cell? ⟨(ad.add (k * 2)).block, (ad.add (k * 2)).off + 1, none⟩ = some (.slice A3 m c3)) (first | exact t5 | exact HS.out _ (by repeat (first | exact C4w.out | exact C3.out | exact Chg.refl _ _ | refine Chg.drew ?_ | refine Chg.drewN ?_ _ | refine Chg.alloc ?_ _))) (first | ((refine st_appn rfl _ _ 29 5 .u8 1 rfl Try.underlying29 infoU8 (by decide) (.slice (some ⟨w2.heap.size, 0, none⟩) 0 0) [] rfl (Own.lit _ 5 .u8 [] (by simp)) A3 c3 x.body m rfl HM.out (HR2.out _ (by repeat (first | exact Chg.refl _ _ | refine Chg.drew ?_ | refine Chg.drewN ?_ _ | refine Chg.alloc ?_ _))) (by rw [← HM.out]; simp; omega) ?_; intro v3 w3 k1 k2 k3 k4; rw [List.nil_append] at k1; obtain ⟨A4, c4, hv4, _, _⟩ := k1.slice; rw [← HM.out] at hv4; subst hv4; have O3 := Lib.hid k1; have C3 : Hid (Chg (fun _ => False) w2 w3) := (show Chg (fun _ => False) w2 _ from by repeat (first | exact Chg.refl _ _ | refine Chg.drew ?_ | refine Chg.drewN ?_ _ | refine Chg.alloc ?_ _)).trans k3 (fun y hy hh => by have := blk_ge (Nat.le_refl _) y hh; omega); clear k1 k2 k3 k4)) | (go_at_call 19; (refine (jappend HRR (Lib.hid (J2.out.chg0 C3.out)) HSM HM (by omega) HBX (Lib.hid (O3.out.rd (by rw [HM.out]))) HRX.out.1 HRX.out.2).mono ?_; rintro e w4 ⟨rfl, D4, k1, k2, k3⟩; have J4 := Lib.hid k1; have N4 := Lib.hid k2; have C4 : Hid (Chg (fun y => y = gj ∨ D' y) w3 w4) := k3; have t5 : w4.cell? (ad.add (k * 2)) = some (.int .i64 x.id) ∧ w4.cell? ⟨(ad.add (k * 2)).block, (ad.add (k * 2)).off + 1, none⟩ = some (.slice A3 m c3) := HS4.out w3 w4 C3.out C4.out; clear k1 k2 k3)))
      obtain ⟨f1, f2, f3, f4⟩ := hl.out.more M3.out (K2.out.trans C3.out (fun _ _ h => h)) J4.out (fun y hy => (N4.out y hy)) C4.out
      have F1 := Lib.hid f1; have F2 := Lib.hid f2; have F3 := Lib.hid f3; have F4 := Lib.hid f4
      clear f1 f2 f3 f4
      have hgo : Hid (RR.1 = 1 ∨ RR.1 = 6 ∨ RR.1 = 4 ∨ RR.1 = 0) := by
        rw [Hid, ← HRR.out]
        rcases jappRes_cases (jfill (l.take k)) x with ⟨_, h | h⟩ | ⟨_, ⟨_, h⟩ | ⟨_, h⟩⟩ <;> rw [h] <;> simp
      rcases jappRes_cases (jfill (l.take k)) x with ⟨hno, hcs⟩ | ⟨hok, hcs⟩
      · have hbf : b = false := by
          rcases HBK.out with ⟨_, h⟩ | ⟨h, _⟩
          · exact absurd h hno
          · exact h
        subst hbf
        obtain ⟨z, hz0, hzR⟩ : ∃ z : Int, z ≠ 0 ∧ RR = (z, jfill (l.take k)) := by
          rw [← HRR.out]
          rcases hcs with h | h
          · exact ⟨1, by omega, h⟩
          · exact ⟨6, by omega, h⟩
        subst hzR
        have hz1 : (z == 0) = false := by simp [hz0]
        have HNO := Lib.hid hno
        clear hcs hno hgo
        go_wp2_with fail
        go_roundw
        case rel => exact ⟨k + 1, D4, bs, room, by omega, by go_num, rfl, by rw [hsnoc.out, HRR.out]; exact ⟨J4.out, F1.out, F2.out, F3.out, hl.out.newv, F4.out, hl.out.room, hl.out.small, hl.out.ok⟩⟩
        case measure => simp [intOf]; omega
      · have hbt : b = true := by
          rcases HBK.out with ⟨h, _⟩ | ⟨_, h⟩
          · exact h
          · exact absurd hok h
        subst hbt
        have HOK := Lib.hid hok
        have HCS := Lib.hid hcs
        obtain ⟨AI, cI, hI, hcI, hmI⟩ := F1.out.row.slice
        obtain ⟨nI, hnI⟩ : ∃ nI, nI = (jfill (l.take k)).length := ⟨_, rfl⟩
        rw [← hnI] at hI hcI
        have hnl := jnlBytes_len (jfill (l.take k))
        rw [← hnI] at hnl
        have hnIb : nI ≤ 33554432 := by
          have := HSM.out
          omega
        have HNI := Lib.hid hnI
        subst hI
        have hmx2 : m ≤ 4194304 := by rw [HM.out]; exact HOK.out.2.2
        have hlv : Hid (((vb nI).length ≤ 10) ∧ (vb m).length ≤ 10) := ⟨vb_len10 (by omega), vb_len10 (by omega)⟩
        have hnI0 : (0 : Int) ≤ (nI : Int) := by omega
        have hm0 : (0 : Int) ≤ (m : Int) := by omega
        have TA : Hid (∀ W, Chg (fun _ => False) w4 W → W.cell? (ad.add (k * 2)) = some (Value.int IntKind.i64 x.id) ∧ W.cell? ⟨(ad.add (k * 2)).block, (ad.add (k * 2)).off + 1, none⟩ = some (.slice A3 m c3)) := fun W hW => ⟨hW.cell id t5.1, hW.cell id t5.2⟩
        obtain ⟨t51, t52⟩ := t5
        clear hok hcs hnI hnl
        go_upto_region 14 with fail
        go_cut [10] (fun s wx => s = .int .i64 ((recEnc nI x).length : Int) ∧ Hid (Chg (fun _ => False) w4 wx))
        case first =>
          go_region_held3 (fun w' => w'.cell? (ad.add (k * 2)) = some (.int .i64 x.id) ∧ w'.cell? ⟨(ad.add (k * 2)).block, (ad.add (k * 2)).off + 1, none⟩ = some (.slice A3 m c3)) (exact TA.out _ (by repeat (first | exact C5.out | exact C6.out | exact Chg.refl _ _ | refine Chg.drew ?_ | refine Chg.drewN ?_ _ | refine Chg.alloc ?_ _))) (first | (go_at_call 21; (with_reducible refine (appendUintNilW nI _ (by omega)).mono ?_); rintro e w5 ⟨A5, n5, c5, rfl, m1⟩; have C5 : Hid (Chg (fun _ => False) w4 w5) := (show Chg (fun _ => False) w4 _ from by repeat (first | exact C6.out | exact Chg.refl _ _ | refine Chg.drew ?_ | refine Chg.drewN ?_ _ | refine Chg.alloc ?_ _)).trans m1.chg (fun _ _ h => h); have L5 : Hid (n5 = (vb nI).length) := m1.len; have b5 : n5 ≤ 10 := (by rw [L5.out]; exact hlv.out.1); clear m1) | (go_at_call 21; (with_reducible refine (appendUintNilW m _ (by omega)).mono ?_); rintro e w6 ⟨A6, n6, c6, rfl, m1⟩; have C6 : Hid (Chg (fun _ => False) w4 w6) := (show Chg (fun _ => False) w4 _ from by repeat (first | exact C5.out | exact Chg.refl _ _ | refine Chg.drew ?_ | refine Chg.drewN ?_ _ | refine Chg.alloc ?_ _)).trans m1.chg (fun _ _ h => h); have L6 : Hid (n6 = (vb m).length) := m1.len; have b6 : n6 ≤ 10 := (by rw [L6.out]; exact hlv.out.2); clear m1))
          all_goals
            have hrl : Hid ((1 : Int) + (n5 : Int) + 1 + (n6 : Int) + (m : Int) + 4 = ((recEnc nI x).length : Int)) := by
              rw [Hid, recEnc_length, recHd_length, L5.out, L6.out, HM.out]
              omega
            go_wp2_with fail
            go_meet
            case rel => exact ⟨by rw [← hrl.out, sum_wrap n5 n6 m b5 b6 hmx2], by first | exact C6.out | exact C5.out⟩
        case rest =>
          obtain ⟨rfl, CW⟩ := hcut
          obtain ⟨nr, hnr⟩ : ∃ nr, nr = (recEnc nI x).length := ⟨_, rfl⟩
          have hnrb : nr ≤ 4194330 := by
            rw [hnr, recEnc_length, recHd_length, ← HM.out]
            have := hlv.out
            omega
          have HNR := Lib.hid hnr
          rw [← hnr]
          have J5 := Lib.hid (J4.out.chg0 CW.out)
          have R5 := Lib.hid (F1.out.chg CW.out (fun _ _ h => h))
          have C5 : Hid (Chg (fun _ => False) w wc) := F2.out.trans CW.out (fun _ _ h => h)
          have hrm : Hid (room = 268435456 - ((jnlBytes (jfill (l.take k))).length : Int)) := hl.out.room
          have hrm2 : 0 ≤ room ∧ room ≤ 268435456 := by
            have := hrm.out
            have := HSM.out
            omega
          obtain ⟨hrm3, hrm4⟩ := hrm2
          clear hnr
          rcases HCS.out with ⟨hfull, hRR⟩ | ⟨hfit, hRR⟩
          · rw [HRR.out] at hRR
            subst hRR
            have hgt : (nr : Int) > room := by
              rw [hrm.out, HNR.out, HNI.out]
              omega
            clear hfull
            go_wp2_with fail
            go_roundw
            case rel =>
              exact ⟨k + 1, D4, bs, room, by omega, by go_num, rfl, by rw [hsnoc.out, HRR.out]; exact ⟨J5.out, R5.out, C5.out, F3.out, hl.out.newv, F4.out, hl.out.room, hl.out.small, hl.out.ok⟩⟩
            case measure => simp [intOf]; omega
          · rw [HRR.out] at hRR
            subst hRR
            have hle : ¬ (nr : Int) > room := by
              rw [hrm.out, HNR.out, HNI.out]
              omega
            have hroom : Hid (room - (nr : Int) = 268435456 - ((jnlBytes (jfill (l.take k) ++ [x])).length : Int)) := by
              rw [Hid, hrm.out, HNR.out, HNI.out, jnlBytes_snoc, List.length_append]
              omega
            have hsmall : Hid ((jnlBytes (jfill (l.take k) ++ [x])).length ≤ 268435456) := by
              rw [Hid, jnlBytes_snoc, List.length_append]
              omega
            have rowT := R5.out.row
            rw [← HNI.out] at rowT
            have HRT := Lib.hid rowT
            obtain ⟨t53, t54⟩ := TA.out wc CW.out
            have hJ5 : Hid (Jn wc D4 gj (jfill (l.take k) ++ [x])) := J5.out
            clear hfit rowT t51 t52
            go_wp2_with (at_builtin; go_must (refine wp_app2 rfl _ _ 49 31 (.agg #[.int .i64 0, .slice none 0 0]) 32 rfl Try.underlying49 infoRec rfl (by decide) (.slice AI nI cI) nI (tCells (jfill (l.take k)) bs) (.int .i64 x.id) (.slice A3 m c3) rfl rfl rfl HRT.out rfl (by omega) ?_); intro v' w7 k1 k2 k3; obtain ⟨A7, c7, rfl, _, _⟩ := k1.slice; have N1 := Lib.hid k1; have N2 := Lib.hid k2; have N3 := Lib.hid k3; clear k1 k2 k3; go_frame)
            go_roundw
            case rel =>
              refine ⟨k + 1, D4, bs ++ [.slice A3 m c3], room - (nr : Int), by omega, by go_num, by go_num, ?_⟩
              rw [hsnoc.out, HRR.out]
              have hnv : ∀ y, Value.ownBlock (.slice A7 (nI + 1) c7) = some y → Value.ownBlock (.slice AI nI cI) = some y ∨ wc.heap.size ≤ y := fun y hy => by
                rcases N3.out with h | h
                · exact .inl (by rw [← h]; exact hy)
                · exact .inr (h y hy)
              refine ⟨hJ5.out.chg N2.out F4.out, R5.out.snoc (by rw [← HNI.out]; exact N1.out) HM.out hc3 hc3m R3w.out HBX.out HRX.out, C5.out.old N2.out (fun y hy => hl.out.newv y hy), F3.out, fun y hy => ?_, fun y hy => ?_, hroom.out, hsmall.out, fun y hy => ?_⟩
              · rcases hnv y hy with h | h
                · exact hl.out.newv y h
                · exact Nat.le_trans C5.out.size h
              · rcases hnv y hy with h | h
                · exact F4.out y h
                · refine ⟨fun hd => ?_, fun e => ?_⟩
                  · have := hJ5.out.size y hd
                    omega
                  · have := hJ5.out.lt
                    omega
              · rcases List.mem_append.1 hy with hy | hy
                · exact hl.out.ok y hy
                · rw [List.mem_singleton.1 hy]
                  exact HOK.out
            case measure => simp [intOf]; omega
    · obtain rfl : k = n := by omega
      have ht : l.take k = l := List.take_of_length_le (by rw [← HN.out]; exact Nat.le_refl _)
      rw [ht] at hl
      have HL := Lib.hid hl
      clear hl ht
      go_wp2_with fail
      go_ret2
      have h := HL.out.out
      exact ⟨gj, D', _, bs, rfl, ⟨h.jn, h.row, h.chg, h.new, h.newv, h.apart, rfl, h.small, h.ok⟩, M3.out⟩
end Go.Proofs.Ytlnomadhgoblkaa.Kit
