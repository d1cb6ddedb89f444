/- Texts that the row leans on: Jf, PlainF, PlainJ2, Jk. -/
import Derived.Test.YtlnomadhgoblkaaProg
import Derived.Test.YtlnomadhgoblkaaQJournalExactah
import Derived.Test.YtlnomadhgoblkaaQJournalExactad
-- The journal's laws: filled.
set_option linter.unusedVariables false
set_option linter.unusedSimpArgs false
namespace Go.Proofs.Ytlnomadhgoblkaa.Kit
open Go.RowKit
/-- filled, under way -/
structure FillL (w0 w : World) (gj : Nat) (D : Nat → Prop) (v : Value) (ls : List SecV) (bs : List Value) (room : Int) : Prop where
  jn : Jn w D gj ls
  row : RecsR w0 w v ls bs
  chg : Chg (fun _ => False) w0 w
  new : ∀ y, D y → w0.heap.size ≤ y
  newv : ∀ y, v.ownBlock = some y → w0.heap.size ≤ y
  apart : ∀ y, v.ownBlock = some y → ¬ D y ∧ y ≠ gj
  room : room = 268435456 - ((jnlBytes ls).length : Int)
  small : (jnlBytes ls).length ≤ 268435456
  ok : ∀ x ∈ ls, okRec x
theorem appendUintNilW (n : Nat) (w : World) (h : n < 9223372036854775808) :
    Calls Try.prog 21 #[.slice none 0 0, .int .u64 (IntKind.u64.wrap (n : Int))] w fun e w' => ∃ A k c, e = .returned (.slice A k c) ∧ Made w w' A k c (vb n) := by
  have := appendUintNil (n : Int) w (by omega) (by omega)
  rw [Int.toNat_natCast] at this
  rw [show IntKind.u64.wrap (n : Int) = (n : Int) from IntWalk.u64_in _ (by omega)]
  exact this
theorem sum_wrap (a b m : Nat) (ha : a ≤ 10) (hb : b ≤ 10) (hm : m ≤ 4194304) : IntKind.i64.wrap (IntKind.i64.wrap (IntKind.i64.wrap (IntKind.i64.wrap (IntKind.i64.wrap (1 + (a : Int)) + 1) + (b : Int)) + (m : Int)) + 4) = 1 + (a : Int) + 1 + (b : Int) + (m : Int) + 4 := by
  rw [IntWalk.i64_in (1 + (a : Int)) (by omega), IntWalk.i64_in (1 + (a : Int) + 1) (by omega), IntWalk.i64_in (1 + (a : Int) + 1 + (b : Int)) (by omega), IntWalk.i64_in (1 + (a : Int) + 1 + (b : Int) + (m : Int)) (by omega), IntWalk.i64_in _ (by omega)]
/-- behind a call of Append -/
theorem FillL.more {w0 w w3 w4 : World} {gj : Nat} {D D4 : Nat → Prop} {v : Value} {ls l2 : List SecV} {bs : List Value} {room : Int} (h : FillL w0 w gj D v ls bs room) (hg : w0.heap.size ≤ gj) (c3 : Chg (fun _ => False) w w3) (j4 : Jn w4 D4 gj l2) (n4 : ∀ y, D4 y → D y ∨ w3.heap.size ≤ y) (c4 : Chg (fun y => y = gj ∨ D y) w3 w4) :
    RecsR w0 w4 v ls bs ∧ Chg (fun _ => False) w0 w4 ∧ (∀ y, D4 y → w0.heap.size ≤ y) ∧ (∀ y, v.ownBlock = some y → ¬ D4 y ∧ y ≠ gj) := by
  have hv := h.row.row.lt
  refine ⟨(h.row.chg c3 (fun _ _ h => h)).chg c4 (fun y hy hs => ?_), (h.chg.trans c3 (fun _ _ h => h)).old c4 (fun i hi => ?_), fun y hy => ?_, fun y hy => ⟨fun hd => ?_, (h.apart y hy).2⟩⟩
  · rcases hs with hs | hs
    · exact (h.apart y hy).2 hs
    · exact (h.apart y hy).1 hs
  · rcases hi with rfl | hi
    · exact hg
    · exact h.new i hi
  · rcases n4 y hy with h1 | h1
    · exact h.new y h1
    · exact Nat.le_trans (Nat.le_trans h.chg.size c3.size) h1
  · rcases n4 y hd with h1 | h1
    · exact (h.apart y hy).1 h1
    · have := hv y hy
      have := c3.size
      omega
set_option maxRecDepth 20000 in
theorem filledT {A : Option Addr} {n c : Nat} {l : List SecV} {w : World} (HN : Hid (n = l.length)) (hnb : n ≤ 4398046511104) (hr : Hid (RdSecs w A l)) (hsz : Hid (∀ x ∈ l, x.body.length ≤ 140737488351232)) :
    Calls Try.prog 27 #[.slice A n c] w fun e w' => ∃ gj D v bs, e = .returned (.tuple #[.pointer (some ⟨gj, 0, none⟩), v]) ∧ FillL w w' gj D v (jfill l) bs (268435456 - ((jnlBytes (jfill l)).length : Int)) ∧ w.heap.size ≤ gj := by
  go_enter Try.func27, Try.ntmps27
  go_wp2_with fail
  refine (jnew _).mono ?_
  rintro e w1 ⟨gj, D, rfl, m1, m2, m3, m4⟩
  have M1 := Lib.hid m1
  have M2 := Lib.hid m2
  have M3 : Hid (w.heap.size ≤ gj) := m3
  have M4 := Lib.hid m4
  clear m1 m2 m3 m4
  go_wp2_with fail
  go_loopw [5, 6, 7] (fun vi ro i wr => ∃ k D' bs room, k ≤ n ∧ i = .int .i64 (k : Nat) ∧ ro = .int .i64 room ∧ Hid (FillL w wr gj D' vi (jfill (l.take k)) bs room)) (fun _ _ i _ => n - (intOf i).toNat)
  case atStart =>
    have e0 : jfill (l.take 0) = [] := rfl
    have e1 : (jnlBytes []).length = 8 := rfl
    refine ⟨0, D, [], 268435448, Nat.zero_le _, rfl, rfl, ?_⟩
    rw [e0]
    exact ⟨M1.out, RecsR.nil _ _, M4.out, M2.out, fun y hy => by simp [Value.ownBlock] at hy, fun y hy => by simp [Value.ownBlock] at hy, by rw [e1]; rfl, by rw [e1]; omega, fun x hx => absurd hx (by simp)⟩
  case round =>
    obtain ⟨k, D', bs, room, hk2, rfl, rfl, hl⟩ := hrel
    by_cases hlt : k < n
    · have hkl : k < l.length := by rw [← HN.out]; exact hlt
      obtain ⟨x, hx⟩ : ∃ x, x = l[k] := ⟨_, rfl⟩
      obtain ⟨ad, e1, hs⟩ := hr.out k hkl
      subst e1
      rw [← hx] at hs
      obtain ⟨A3, c3, t1w, hc3, hc3m, r3w⟩ := hs.body
      obtain ⟨m, hm⟩ : ∃ m, m = x.body.length := ⟨_, rfl⟩
      rw [← hm] at t1w hc3
      have t0 := hl.out.chg.cell id hs.id
      have t1 := hl.out.chg.cell id t1w
      have r3 := r3w.below hl.out.chg.done
      have R3w := Lib.hid r3w
      clear t1w r3w
      have HM := Lib.hid hm
      have q0 : (0 : Int) ≤ (k : Int) := by omega
      have q1 : (k : Int) < (n : Int) := by omega
      have hsnoc : Hid (jfill (l.take (k + 1)) = (jappRes (jfill (l.take k)) x).2) := by rw [Hid, List.take_succ_eq_append_getElem hkl, jfill_snoc, ← hx]
      have HBX : Hid (Byt x.body) := hs.byt
      have HRX : Hid (-9223372036854775808 ≤ x.id ∧ x.id ≤ 9223372036854775807) := hs.rng
      have R3 : Hid (Rd wr .u8 A3 x.body) := r3
      have hmx : m ≤ 140737488351232 := by rw [hm]; exact hsz.out x (by rw [hx]; exact List.getElem_mem hkl)
      clear hs r3 hm hx
      obtain ⟨b, hbk⟩ : ∃ b : Bool, (b = true ∧ okRec x) ∨ (b = false ∧ ¬ okRec x) := by
        by_cases h : okRec x
        · exact ⟨true, .inl ⟨rfl, h⟩⟩
        · exact ⟨false, .inr ⟨rfl, h⟩⟩
      have HBK := Lib.hid hbk
      clear hbk
      go_wp2_with fail
      refine (show Calls Try.prog 17 _ wr (fun e w' => e = .returned (.bool b) ∧ Chg (fun _ => False) wr w') from by
        rcases HBK.out with ⟨rfl, h⟩ | ⟨rfl, h⟩
        · exact rightYes HM.out h
        · exact rightNo HM.out h).mono ?_
      rintro e w2 ⟨rfl, k1⟩
      have K2 := Lib.hid k1
      clear k1
      go_wp2_with fail
      have J2 := Lib.hid (hl.out.jn.chg0 K2.out)
      have HS : Hid (∀ W, Chg (fun _ => False) w2 W → W.cell? (ad.add (k * 2)) = some (.int .i64 x.id) ∧ W.cell? ⟨(ad.add (k * 2)).block, (ad.add (k * 2)).off + 1, none⟩ = some (.slice A3 m c3)) := fun W hW =>
        ⟨(K2.out.trans hW (fun _ _ h => h)).cell id t0, (K2.out.trans hW (fun _ _ h => h)).cell id t1⟩
      have HR2 : Hid (∀ W, Chg (fun _ => False) w2 W → Rd W .u8 A3 x.body) := fun W hW => R3.out.below (K2.out.trans hW (fun _ _ h => h)).done
      obtain ⟨RR, hRR⟩ : ∃ RR, jappRes (jfill (l.take k)) x = RR := ⟨_, rfl⟩
      have HRR := Lib.hid hRR
      have HSM := Lib.hid hl.out.small
      have hbl : Hid ((ad.add (k * 2)).block < w.heap.size) := by
        obtain ⟨ad', e1, hs⟩ := hr.out k hkl
        injection e1 with e1
        subst e1
        exact World.block_lt_of_cell? w _ hs.id
      have HS4 : Hid (∀ W3 W4, Chg (fun _ => False) w2 W3 → Chg (fun y => y = gj ∨ D' y) W3 W4 → W4.cell? (ad.add (k * 2)) = some (.int .i64 x.id) ∧ W4.cell? ⟨(ad.add (k * 2)).block, (ad.add (k * 2)).off + 1, none⟩ = some (.slice A3 m c3)) := fun W3 W4 h3 h4 => by
        have hq : ¬ ((ad.add (k * 2)).block = gj ∨ D' (ad.add (k * 2)).block) := fun h => by
          have := hbl.out
          have := M3.out
          rcases h with h | h
          · omega
          · have := hl.out.new _ h
            omega
        have := HS.out W3 h3
        exact ⟨h4.cell hq this.1, h4.cell hq this.2⟩
      clear hRR t0 t1
      go_region_held3 (fun w' => w'.cell? (ad.add (k * 2)) = some (.int .i64 x.id) ∧ w'.cell? ⟨(ad.add (k * 2)).block, (ad.add (k * 2)).off + 1, none⟩ = some (.slice A3 m c3)) (first | exact t5 | exact HS.out _ (by repeat (first | exact C4w.out | exact C3.out | exact Chg.refl _ _ | refine Chg.drew ?_ | refine Chg.drewN ?_ _ | refine Chg.alloc ?_ _))) (first | ((refine st_appn rfl _ _ 29 5 .u8 1 rfl Try.underlying29 infoU8 (by decide) (.slice (some ⟨w2.heap.size, 0, none⟩) 0 0) [] rfl (Own.lit _ 5 .u8 [] (by simp)) A3 c3 x.body m rfl HM.out (HR2.out _ (by repeat (first | exact Chg.refl _ _ | refine Chg.drew ?_ | refine Chg.drewN ?_ _ | refine Chg.alloc ?_ _))) (by rw [← HM.out]; simp; omega) ?_; intro v3 w3 k1 k2 k3 k4; rw [List.nil_append] at k1; obtain ⟨A4, c4, hv4, _, _⟩ := k1.slice; rw [← HM.out] at hv4; subst hv4; have O3 := Lib.hid k1; have C3 : Hid (Chg (fun _ => False) w2 w3) := (show Chg (fun _ => False) w2 _ from by repeat (first | exact Chg.refl _ _ | refine Chg.drew ?_ | refine Chg.drewN ?_ _ | refine Chg.alloc ?_ _)).trans k3 (fun y hy hh => by have := blk_ge (Nat.le_refl _) y hh; omega); clear k1 k2 k3 k4)) | (go_at_call 19; (refine (jappend HRR (Lib.hid (J2.out.chg0 C3.out)) HSM HM (by omega) HBX (Lib.hid (O3.out.rd (by rw [HM.out]))) HRX.out.1 HRX.out.2).mono ?_; rintro e w4 ⟨rfl, D4, k1, k2, k3⟩; have J4 := Lib.hid k1; have N4 := Lib.hid k2; have C4 : Hid (Chg (fun y => y = gj ∨ D' y) w3 w4) := k3; have t5 : w4.cell? (ad.add (k * 2)) = some (.int .i64 x.id) ∧ w4.cell? ⟨(ad.add (k * 2)).block, (ad.add (k * 2)).off + 1, none⟩ = some (.slice A3 m c3) := HS4.out w3 w4 C3.out C4.out; clear k1 k2 k3)))
      obtain ⟨f1, f2, f3, f4⟩ := hl.out.more M3.out (K2.out.trans C3.out (fun _ _ h => h)) J4.out (fun y hy => (N4.out y hy)) C4.out
      have F1 := Lib.hid f1; have F2 := Lib.hid f2; have F3 := Lib.hid f3; have F4 := Lib.hid f4
      clear f1 f2 f3 f4
      have hgo : Hid (RR.1 = 1 ∨ RR.1 = 6 ∨ RR.1 = 4 ∨ RR.1 = 0) := by
        rw [Hid, ← HRR.out]
        rcases jappRes_cases (jfill (l.take k)) x with ⟨_, h | h⟩ | ⟨_, ⟨_, h⟩ | ⟨_, h⟩⟩ <;> rw [h] <;> simp
      rcases jappRes_cases (jfill (l.take k)) x with ⟨hno, hcs⟩ | ⟨hok, hcs⟩
      · have hbf : b = false := by
          rcases HBK.out with ⟨_, h⟩ | ⟨h, _⟩
          · exact absurd h hno
          · exact h
        subst hbf
        obtain ⟨z, hz0, hzR⟩ : ∃ z : Int, z ≠ 0 ∧ RR = (z, jfill (l.take k)) := by
          rw [← HRR.out]
          rcases hcs with h | h
          · exact ⟨1, by omega, h⟩
          · exact ⟨6, by omega, h⟩
        subst hzR
        have hz1 : (z == 0) = false := by simp [hz0]
        have HNO := Lib.hid hno
        clear hcs hno hgo
        go_wp2_with fail
        go_roundw
        case rel => exact ⟨k + 1, D4, bs, room, by omega, by go_num, rfl, by rw [hsnoc.out, HRR.out]; exact ⟨J4.out, F1.out, F2.out, F3.out, hl.out.newv, F4.out, hl.out.room, hl.out.small, hl.out.ok⟩⟩
        case measure => simp [intOf]; omega
      · have hbt : b = true := by
          rcases HBK.out with ⟨h, _⟩ | ⟨_, h⟩
          · exact h
          · exact absurd hok h
        subst hbt
        have HOK := Lib.hid hok
        have HCS := Lib.hid hcs
        obtain ⟨AI, cI, hI, hcI, hmI⟩ := F1.out.row.slice
        obtain ⟨nI, hnI⟩ : ∃ nI, nI = (jfill (l.take k)).length := ⟨_, rfl⟩
        rw [← hnI] at hI hcI
        have hnl := jnlBytes_len (jfill (l.take k))
        rw [← hnI] at hnl
        have hnIb : nI ≤ 33554432 := by
          have := HSM.out
          omega
        have HNI := Lib.hid hnI
        subst hI
        have hmx2 : m ≤ 4194304 := by rw [HM.out]; exact HOK.out.2.2
        have hlv : Hid (((vb nI).length ≤ 10) ∧ (vb m).length ≤ 10) := ⟨vb_len10 (by omega), vb_len10 (by omega)⟩
        have hnI0 : (0 : Int) ≤ (nI : Int) := by omega
        have hm0 : (0 : Int) ≤ (m : Int) := by omega
        have TA : Hid (∀ W, Chg (fun _ => False) w4 W → W.cell? (ad.add (k * 2)) = some (Value.int IntKind.i64 x.id) ∧ W.cell? ⟨(ad.add (k * 2)).block, (ad.add (k * 2)).off + 1, none⟩ = some (.slice A3 m c3)) := fun W hW => ⟨hW.cell id t5.1, hW.cell id t5.2⟩
        obtain ⟨t51, t52⟩ := t5
        clear hok hcs hnI hnl
        go_upto_region 14 with fail
        go_cut [10] (fun s wx => s = .int .i64 ((recEnc nI x).length : Int) ∧ Hid (Chg (fun _ => False) w4 wx))
        case first =>
          go_region_held3 (fun w' => w'.cell? (ad.add (k * 2)) = some (.int .i64 x.id) ∧ w'.cell? ⟨(ad.add (k * 2)).block, (ad.add (k * 2)).off + 1, none⟩ = some (.slice A3 m c3)) (exact TA.out _ (by repeat (first | exact C5.out | exact C6.out | exact Chg.refl _ _ | refine Chg.drew ?_ | refine Chg.drewN ?_ _ | refine Chg.alloc ?_ _))) (first | (go_at_call 21; (with_reducible refine (appendUintNilW nI _ (by omega)).mono ?_); rintro e w5 ⟨A5, n5, c5, rfl, m1⟩; have C5 : Hid (Chg (fun _ => False) w4 w5) := (show Chg (fun _ => False) w4 _ from by repeat (first | exact C6.out | exact Chg.refl _ _ | refine Chg.drew ?_ | refine Chg.drewN ?_ _ | refine Chg.alloc ?_ _)).trans m1.chg (fun _ _ h => h); have L5 : Hid (n5 = (vb nI).length) := m1.len; have b5 : n5 ≤ 10 := (by rw [L5.out]; exact hlv.out.1); clear m1) | (go_at_call 21; (with_reducible refine (appendUintNilW m _ (by omega)).mono ?_); rintro e w6 ⟨A6, n6, c6, rfl, m1⟩; have C6 : Hid (Chg (fun _ => False) w4 w6) := (show Chg (fun _ => False) w4 _ from by repeat (first | exact C5.out | exact Chg.refl _ _ | refine Chg.drew ?_ | refine Chg.drewN ?_ _ | refine Chg.alloc ?_ _)).trans m1.chg (fun _ _ h => h); have L6 : Hid (n6 = (vb m).length) := m1.len; have b6 : n6 ≤ 10 := (by rw [L6.out]; exact hlv.out.2); clear m1))
          all_goals
            have hrl : Hid ((1 : Int) + (n5 : Int) + 1 + (n6 : Int) + (m : Int) + 4 = ((recEnc nI x).length : Int)) := by
              rw [Hid, recEnc_length, recHd_length, L5.out, L6.out, HM.out]
              omega
            go_wp2_with fail
            go_meet
            case rel => exact ⟨by rw [← hrl.out, sum_wrap n5 n6 m b5 b6 hmx2], by first | exact C6.out | exact C5.out⟩
        case rest =>
          obtain ⟨rfl, CW⟩ := hcut
          obtain ⟨nr, hnr⟩ : ∃ nr, nr = (recEnc nI x).length := ⟨_, rfl⟩
          have hnrb : nr ≤ 4194330 := by
            rw [hnr, recEnc_length, recHd_length, ← HM.out]
            have := hlv.out
            omega
          have HNR := Lib.hid hnr
          rw [← hnr]
          have J5 := Lib.hid (J4.out.chg0 CW.out)
          have R5 := Lib.hid (F1.out.chg CW.out (fun _ _ h => h))
          have C5 : Hid (Chg (fun _ => False) w wc) := F2.out.trans CW.out (fun _ _ h => h)
          have hrm : Hid (room = 268435456 - ((jnlBytes (jfill (l.take k))).length : Int)) := hl.out.room
          have hrm2 : 0 ≤ room ∧ room ≤ 268435456 := by
            have := hrm.out
            have := HSM.out
            omega
          obtain ⟨hrm3, hrm4⟩ := hrm2
          clear hnr
          rcases HCS.out with ⟨hfull, hRR⟩ | ⟨hfit, hRR⟩
          · rw [HRR.out] at hRR
            subst hRR
            have hgt : (nr : Int) > room := by
              rw [hrm.out, HNR.out, HNI.out]
              omega
            clear hfull
            go_wp2_with fail
            go_roundw
            case rel =>
              exact ⟨k + 1, D4, bs, room, by omega, by go_num, rfl, by rw [hsnoc.out, HRR.out]; exact ⟨J5.out, R5.out, C5.out, F3.out, hl.out.newv, F4.out, hl.out.room, hl.out.small, hl.out.ok⟩⟩
            case measure => simp [intOf]; omega
          · rw [HRR.out] at hRR
            subst hRR
            have hle : ¬ (nr : Int) > room := by
              rw [hrm.out, HNR.out, HNI.out]
              omega
            have hroom : Hid (room - (nr : Int) = 268435456 - ((jnlBytes (jfill (l.take k) ++ [x])).length : Int)) := by
              rw [Hid, hrm.out, HNR.out, HNI.out, jnlBytes_snoc, List.length_append]
              omega
            have hsmall : Hid ((jnlBytes (jfill (l.take k) ++ [x])).length ≤ 268435456) := by
              rw [Hid, jnlBytes_snoc, List.length_append]
              omega
            have rowT := R5.out.row
            rw [← HNI.out] at rowT
            have HRT := Lib.hid rowT
            obtain ⟨t53, t54⟩ := TA.out wc CW.out
            have hJ5 : Hid (Jn wc D4 gj (jfill (l.take k) ++ [x])) := J5.out
            clear hfit rowT t51 t52
            go_wp2_with (at_builtin; go_must (refine wp_app2 rfl _ _ 49 31 (.agg #[.int .i64 0, .slice none 0 0]) 32 rfl Try.underlying49 infoRec rfl (by decide) (.slice AI nI cI) nI (tCells (jfill (l.take k)) bs) (.int .i64 x.id) (.slice A3 m c3) rfl rfl rfl HRT.out rfl (by omega) ?_); intro v' w7 k1 k2 k3; obtain ⟨A7, c7, rfl, _, _⟩ := k1.slice; have N1 := Lib.hid k1; have N2 := Lib.hid k2; have N3 := Lib.hid k3; clear k1 k2 k3; go_frame)
            go_roundw
            case rel =>
              refine ⟨k + 1, D4, bs ++ [.slice A3 m c3], room - (nr : Int), by omega, by go_num, by go_num, ?_⟩
              rw [hsnoc.out, HRR.out]
              have hnv : ∀ y, Value.ownBlock (.slice A7 (nI + 1) c7) = some y → Value.ownBlock (.slice AI nI cI) = some y ∨ wc.heap.size ≤ y := fun y hy => by
                rcases N3.out with h | h
                · exact .inl (by rw [← h]; exact hy)
                · exact .inr (h y hy)
              refine ⟨hJ5.out.chg N2.out F4.out, R5.out.snoc (by rw [← HNI.out]; exact N1.out) HM.out hc3 hc3m R3w.out HBX.out HRX.out, C5.out.old N2.out (fun y hy => hl.out.newv y hy), F3.out, fun y hy => ?_, fun y hy => ?_, hroom.out, hsmall.out, fun y hy => ?_⟩
              · rcases hnv y hy with h | h
                · exact hl.out.newv y h
                · exact Nat.le_trans C5.out.size h
              · rcases hnv y hy with h | h
                · exact F4.out y h
                · refine ⟨fun hd => ?_, fun e => ?_⟩
                  · have := hJ5.out.size y hd
                    omega
                  · have := hJ5.out.lt
                    omega
              · rcases List.mem_append.1 hy with hy | hy
                · exact hl.out.ok y hy
                · rw [List.mem_singleton.1 hy]
                  exact HOK.out
            case measure => simp [intOf]; omega
    · obtain rfl : k = n := by omega
      have ht : l.take k = l := List.take_of_length_le (by rw [← HN.out]; exact Nat.le_refl _)
      rw [ht] at hl
      have HL := Lib.hid hl
      clear hl ht
      go_wp2_with fail
      go_ret2
      have h := HL.out.out
      exact ⟨gj, D', _, bs, rfl, ⟨h.jn, h.row, h.chg, h.new, h.newv, h.apart, rfl, h.small, h.ok⟩, M3.out⟩
end Go.Proofs.Ytlnomadhgoblkaa.Kit
-- Bits that are turned, next to each other; what stands behind its own sum.
set_option linter.unusedVariables false
set_option linter.unusedSimpArgs false
namespace Go.Proofs.Ytlnomadhgoblkaa.Kit
open Go.RowKit
/-- one bit is turned -/
def flip1 (l : List Int) (k : Nat) : List Int := l.set (k / 8) (Go.bits .xor .u8 (l.getD (k / 8) 0) ((2 : Int) ^ (k % 8)))
theorem flip1_length (l : List Int) (k : Nat) : (flip1 l k).length = l.length := by simp [flip1]
theorem xor8 {a b : Int} (ha : 0 ≤ a ∧ a ≤ 255) (hb : 0 ≤ b ∧ b ≤ 255) : (0 ≤ Go.bits .xor .u8 a b ∧ Go.bits .xor .u8 a b ≤ 255) ∧ BitVec.ofInt 32 (Go.bits .xor .u8 a b) = BitVec.ofInt 32 a ^^^ BitVec.ofInt 32 b := by
  obtain ⟨x, rfl⟩ : ∃ x : Nat, a = (x : Int) := ⟨a.toNat, by omega⟩
  obtain ⟨y, rfl⟩ : ∃ y : Nat, b = (y : Int) := ⟨b.toNat, by omega⟩
  have hx : x < 256 := by omega
  have hy : y < 256 := by omega
  have hxy : x ^^^ y < 256 := Nat.xor_lt_two_pow (n := 8) hx hy
  have e : Go.bits .xor .u8 (x : Int) (y : Int) = ((x ^^^ y : Nat) : Int) := by
    show IntKind.u8.wrap (((BitVec.ofInt 8 (x : Int) ^^^ BitVec.ofInt 8 (y : Int)).toNat : Nat) : Int) = _
    rw [BitVec.ofInt_natCast, BitVec.ofInt_natCast, BitVec.toNat_xor, BitVec.toNat_ofNat, BitVec.toNat_ofNat, Nat.mod_eq_of_lt hx, Nat.mod_eq_of_lt hy]
    exact IntWalk.u8_in _ (by omega)
  rw [e]
  refine ⟨by omega, ?_⟩
  rw [BitVec.ofInt_natCast, BitVec.ofInt_natCast, BitVec.ofInt_natCast]
  apply BitVec.eq_of_toNat_eq
  rw [BitVec.toNat_xor, BitVec.toNat_ofNat, BitVec.toNat_ofNat, BitVec.toNat_ofNat, Nat.mod_eq_of_lt (by omega), Nat.mod_eq_of_lt (by omega), Nat.mod_eq_of_lt (by omega)]
theorem two_pow8 (k : Nat) : 0 ≤ (2 : Int) ^ (k % 8) ∧ (2 : Int) ^ (k % 8) ≤ 255 := by
  have h : k % 8 < 8 := Nat.mod_lt _ (by decide)
  generalize k % 8 = j at h
  have : j = 0 ∨ j = 1 ∨ j = 2 ∨ j = 3 ∨ j = 4 ∨ j = 5 ∨ j = 6 ∨ j = 7 := by omega
  rcases this with h | h | h | h | h | h | h | h <;> subst h <;> decide
theorem pow_bit (j i : Nat) (hj : j < 8) (hi : i < 8) : (BitVec.ofInt 32 ((2 : Int) ^ j)).getLsbD i = decide (i = j) := by
  have h1 : j = 0 ∨ j = 1 ∨ j = 2 ∨ j = 3 ∨ j = 4 ∨ j = 5 ∨ j = 6 ∨ j = 7 := by omega
  have h2 : i = 0 ∨ i = 1 ∨ i = 2 ∨ i = 3 ∨ i = 4 ∨ i = 5 ∨ i = 6 ∨ i = 7 := by omega
  rcases h1 with h | h | h | h | h | h | h | h <;> subst h <;> rcases h2 with h | h | h | h | h | h | h | h <;> subst h <;> decide
theorem flip1_byt {l : List Int} (hb : Byt l) (k : Nat) : Byt (flip1 l k) := by
  by_cases hk : k / 8 < l.length
  · intro z hz
    rcases List.mem_or_eq_of_mem_set hz with h | h
    · exact hb z h
    · rw [h, List.getD_eq_getElem?_getD, List.getElem?_eq_getElem hk]
      exact (xor8 (hb _ (List.getElem_mem hk)) (two_pow8 k)).1
  · rw [flip1, List.set_eq_of_length_le (by omega)]
    exact hb
theorem flip1_bit {l : List Int} (hb : Byt l) (k j : Nat) (hj : j < 8 * l.length) : bitAt (flip1 l k) j = (bitAt l j ^^ decide (j = k)) := by
  unfold bitAt flip1
  by_cases hk : k / 8 = j / 8
  · have hjl : j / 8 < l.length := by omega
    rw [hk, List.getD_eq_getElem?_getD, List.getElem?_set_self hjl]
    simp only [Option.getD_some]
    rw [List.getD_eq_getElem?_getD, List.getElem?_eq_getElem hjl]
    simp only [Option.getD_some]
    rw [(xor8 (hb _ (List.getElem_mem hjl)) (two_pow8 k)).2, BitVec.getLsbD_xor, pow_bit _ _ (Nat.mod_lt _ (by decide)) (Nat.mod_lt _ (by decide))]
    congr 1
    by_cases e : j = k
    · subst e
      simp
    · rw [decide_eq_false e, decide_eq_false (by omega)]
  · rw [List.getD_eq_getElem?_getD, List.getElem?_set_ne (by omega), ← List.getD_eq_getElem?_getD, decide_eq_false (by rintro rfl; exact hk rfl), Bool.xor_false]
/-- the bits of T, from a place on -/
def flips (l : List Int) (frm : Nat) (T : V32) : Nat → List Int
  | 0 => l
  | i + 1 => if T.getLsbD i = true then flip1 (flips l frm T i) (frm + i) else flips l frm T i
theorem flips_length (l : List Int) (frm : Nat) (T : V32) : ∀ i, (flips l frm T i).length = l.length
  | 0 => rfl
  | i + 1 => by
    unfold flips
    split
    · rw [flip1_length, flips_length l frm T i]
    · exact flips_length l frm T i
theorem flips_byt {l : List Int} (hb : Byt l) (frm : Nat) (T : V32) : ∀ i, Byt (flips l frm T i)
  | 0 => hb
  | i + 1 => by
    unfold flips
    split
    · exact flip1_byt (flips_byt hb frm T i) _
    · exact flips_byt hb frm T i
theorem flips_bit {l : List Int} (hb : Byt l) (frm : Nat) (T : V32) (j : Nat) (hj : j < 8 * l.length) : ∀ i, bitAt (flips l frm T i) j = (bitAt l j ^^ (decide (frm ≤ j ∧ j < frm + i) && T.getLsbD (j - frm)))
  | 0 => by
    rw [flips, decide_eq_false (by omega), Bool.false_and, Bool.xor_false]
  | i + 1 => by
    have ih := flips_bit hb frm T j hj i
    unfold flips
    split
    · rename_i hT
      rw [flip1_bit (flips_byt hb frm T i) _ _ (by rw [flips_length]; exact hj), ih]
      by_cases e : j = frm + i
      · subst e
        rw [decide_eq_false (p := frm ≤ frm + i ∧ frm + i < frm + i) (by omega), decide_eq_true (p := frm + i = frm + i) rfl, decide_eq_true (p := frm ≤ frm + i ∧ frm + i < frm + (i + 1)) (by omega), Nat.add_sub_cancel_left, hT]
        simp
      · rw [decide_eq_false e, Bool.xor_false]
        congr 2
        by_cases h : frm ≤ j ∧ j < frm + i
        · rw [decide_eq_true h, decide_eq_true (by omega)]
        · rw [decide_eq_false h, decide_eq_false (by omega)]
    · rename_i hT
      rw [ih]
      by_cases e : j = frm + i
      · subst e
        rw [Nat.add_sub_cancel_left]
        have hT' : T.getLsbD i = false := by simpa using hT
        rw [hT', Bool.and_false, Bool.and_false]
      · congr 2
        by_cases h : frm ≤ j ∧ j < frm + i
        · rw [decide_eq_true h, decide_eq_true (by omega)]
        · rw [decide_eq_false h, decide_eq_false (by omega)]
/-- was a bit turned? -/
def anyUp (n frm : Nat) (T : V32) : Nat → Bool
  | 0 => false
  | i + 1 => anyUp n frm T i || (T.getLsbD i && decide ((frm + i) / 8 < n))
theorem anyUp_some {n frm : Nat} {T : V32} : ∀ {i : Nat}, anyUp n frm T i = true → ∃ j, j < i ∧ T.getLsbD j = true ∧ frm + j < 8 * n
  | 0, h => by cases h
  | i + 1, h => by
    simp only [anyUp, Bool.or_eq_true, Bool.and_eq_true, decide_eq_true_eq] at h
    rcases h with h | h
    · obtain ⟨j, hj, r⟩ := anyUp_some h
      exact ⟨j, by omega, r⟩
    · exact ⟨i, by omega, h.1, by omega⟩
theorem flips_none {l : List Int} {frm : Nat} {T : V32} : ∀ {i : Nat}, anyUp l.length frm T i = false → flips l frm T i = l
  | 0, _ => rfl
  | i + 1, h => by
    simp only [anyUp, Bool.or_eq_false_iff, Bool.and_eq_false_iff, decide_eq_false_iff_not] at h
    have ih := flips_none h.1
    unfold flips
    split
    · rename_i hT
      rcases h.2 with h2 | h2
      · rw [h2] at hT
        cases hT
      · rw [ih, flip1, List.set_eq_of_length_le (by omega)]
    · exact ih
/-- two lists that stand behind their own sums, alike but for a burst, are one -/
theorem code_burst {H H' : List Int} (hb : Byt H) (hb' : Byt H') (frm : Nat) (T : V32) (i : Nat) (hi : i ≤ 32) (h : H' ++ sumB (vi (crc H')) = flips (H ++ sumB (vi (crc H))) frm T i) (ha : anyUp (H.length + 4) frm T i = true) : False := by
  obtain ⟨B, hB⟩ : ∃ B, B = H ++ sumB (vi (crc H)) := ⟨_, rfl⟩
  have hbB : Byt B := by rw [hB]; exact byt_mk hb (sumB_byt _ (vi_nonneg _) (vi_lt _))
  have hlB : B.length = H.length + 4 := by rw [hB, List.length_append, sumB_length]
  rw [← hB] at h
  rw [← hlB] at ha
  obtain ⟨j, hj, hT, hjn⟩ := anyUp_some ha
  have hc := crc_code H hb
  have hc' := crc_code H' hb'
  rw [h] at hc'
  rw [← hB] at hc
  have hlf := flips_length B frm T i
  refine crc_burst hbB (flips_byt hbB frm T i) hlf.symm 0xFFFFFFFF#32 frm (min i (8 * B.length - frm)) T (by omega) (fun k hk => ?_) (fun k hk => ?_) (fun k hk hk2 => ?_) ⟨j, by omega, hT⟩ (hc.trans hc'.symm)
  · rw [flips_bit hbB frm T k (by omega), decide_eq_false (by omega), Bool.false_and, Bool.xor_false]
  · rw [flips_bit hbB frm T (frm + k) (by omega), decide_eq_true (by omega), Bool.true_and, Nat.add_sub_cancel_left]
    simp
  · rw [flips_bit hbB frm T k hk2]
    by_cases hki : frm ≤ k ∧ k < frm + i
    · exfalso
      omega
    · rw [decide_eq_false hki, Bool.false_and, Bool.xor_false]
end Go.Proofs.Ytlnomadhgoblkaa.Kit
-- The journal, plainly: what is opened of a cut, a spoilt, a turned journal.
set_option linter.unusedVariables false
set_option linter.unusedSimpArgs false
namespace Go.Proofs.Ytlnomadhgoblkaa.Kit
open Go.RowKit
theorem jnl_split (l : List SecV) (k : Nat) (h : k ≤ l.length) : jnlBytes l = jnlBytes (l.take k) ++ jnlFrom k (l.drop k) := by
  have e := jnlFrom_app (l.take k) (l.drop k) 0
  rw [List.take_append_drop, List.length_take, Nat.min_eq_left h, Nat.zero_add] at e
  rw [jnlBytes, e, jnlBytes, List.append_assoc]
theorem jnl_mono (l : List SecV) (k m : Nat) (h : k ≤ m) : (jnlBytes (l.take k)).length ≤ (jnlBytes (l.take m)).length := by
  rcases Nat.lt_or_ge m l.length with hm | hm
  · have := jnl_split (l.take m) k (by rw [List.length_take]; omega)
    rw [List.take_take, Nat.min_eq_left h] at this
    rw [this, List.length_append]
    omega
  · rw [List.take_of_length_le hm]
    rcases Nat.lt_or_ge k l.length with hk | hk
    · have := jnl_split l k (Nat.le_of_lt hk)
      rw [this, List.length_append]
      omega
    · rw [List.take_of_length_le hk]
      exact Nat.le_refl _
theorem jnl_le (l : List SecV) (k : Nat) : (jnlBytes (l.take k)).length ≤ (jnlBytes l).length := by
  have := jnl_mono l k (max k l.length) (by omega)
  rwa [List.take_of_length_le (i := max k l.length) (by omega)] at this
theorem jnlBytes_byt {l : List SecV} (h : ∀ x ∈ l, GoodRec x) : Byt (jnlBytes l) := byt_mk jhead_byt (jnlFrom_byt l 0 h)
theorem jhead_length : jhead.length = 8 := rfl
theorem recRd_nil (n : Nat) : recRd [] n = none := recRd_1 (by simp)
theorem jnlRd_pre {l : List Int} : ∀ (xs : List SecV) (f p : Nat) (acc : List SecV) (rest : List Int), (∀ x ∈ xs, GoodRec x) → xs.length ≤ f → acc.length + xs.length < 18446744073709551616 → Byt rest → l.drop p = jnlFrom acc.length xs ++ rest →
    jnlRd l f acc p = jnlRd l (f - xs.length) (acc ++ xs) (p + (jnlFrom acc.length xs).length)
  | [], f, p, acc, rest, _, _, _, _, _ => by simp [jnlFrom]
  | x :: xs, f, p, acc, rest, hg, hf, hlt, hr, h => by
    simp only [List.length_cons] at hf hlt
    obtain ⟨f, rfl⟩ : ∃ g, f = g + 1 := ⟨f - 1, by omega⟩
    rw [jnlFrom, List.append_assoc] at h
    have hb : Byt (jnlFrom (acc.length + 1) xs ++ rest) := byt_mk (jnlFrom_byt xs _ (fun y hy => hg y (by simp [hy]))) hr
    have h1 := recRd_enc (hg x (by simp)) (n := acc.length) (by omega) hb
    rw [← h] at h1
    rw [jnlRd_step h1]
    have h2 := jnlRd_pre xs f (p + (recEnc acc.length x).length) (acc ++ [x]) rest (fun y hy => hg y (by simp [hy])) (by omega) (by rw [List.length_append, List.length_singleton]; omega) hr (by
      rw [← List.drop_drop, h, List.drop_left, List.length_append, List.length_singleton])
    rw [h2, List.length_cons, Nat.add_sub_add_right, List.append_assoc, List.singleton_append, List.length_append, List.length_singleton, jnlFrom, List.length_append, Nat.add_assoc]
/-- any bytes behind the head -/
theorem open_head {X R : List Int} (h : X = jhead ++ R) (hx : X.length ≤ 268435456) : jopenRes X = (some (jnlRd X X.length [] 8).1, (jnlRd X X.length [] 8).2, 0) := by
  have hl : X.length = 8 + R.length := by rw [h, List.length_append, jhead_length]
  have ht : X.take 8 = jhead.take X.length := by
    rw [List.take_of_length_le (l := jhead) (by rw [jhead_length]; omega), h]
    rfl
  rw [jopenRes, if_neg (by omega), if_neg (by rw [ht]; simp), if_neg (by omega)]
/-- records behind each other, behind them what is no record -/
theorem open_stop {X rest : List Int} {ls : List SecV} (hg : ∀ x ∈ ls, GoodRec x) (hr : Byt rest) (h : X = jnlBytes ls ++ rest) (hx : X.length ≤ 268435456) (hn : recRd rest ls.length = none) : jopenRes X = (some ls, (jnlBytes ls).length, 0) := by
  have h1 : X = jhead ++ (jnlFrom 0 ls ++ rest) := by rw [h, jnlBytes, List.append_assoc]
  have hlen := jnlBytes_len ls
  have hXl : X.length = (jnlBytes ls).length + rest.length := by rw [h, List.length_append]
  rw [open_head h1 hx]
  have := jnlRd_enc (l := X) ls X.length 8 [] rest hg (by omega) (by simp; omega) hr (by simpa using hn) (by rw [h1]; rfl)
  rw [this]
  simp [jnlBytes, jhead_length]
theorem open_whole {ls : List SecV} (hg : ∀ x ∈ ls, GoodRec x) (hx : (jnlBytes ls).length ≤ 268435456) : jopenRes (jnlBytes ls) = (some ls, (jnlBytes ls).length, 0) :=
  open_stop (rest := []) hg (fun z hz => by simp at hz) (by simp) hx (recRd_nil _)
theorem open_short {ls : List SecV} {cut : Nat} (h : cut < 8) : jopenRes ((jnlBytes ls).take cut) = (some [], 0, 0) := by
  have hl : ((jnlBytes ls).take cut).length = cut := by
    rw [List.length_take, Nat.min_eq_left]
    have := jnlBytes_len ls
    omega
  have ht : ((jnlBytes ls).take cut).take 8 = jhead.take ((jnlBytes ls).take cut).length := by
    rw [hl, List.take_take, Nat.min_eq_right (by omega), jnlBytes, List.take_append_of_le_length (by rw [jhead_length]; omega)]
  rw [jopenRes, if_neg (by omega), if_neg (by rw [ht]; simp), if_pos (by omega)]
/-- of a beginning: the records that stand whole in it -/
theorem open_cut {ls : List SecV} {cut k : Nat} (hg : ∀ x ∈ ls, GoodRec x) (hsz : (jnlBytes ls).length ≤ 268435456) (hcut : cut ≤ (jnlBytes ls).length) (hk : k ≤ ls.length) (h1 : (jnlBytes (ls.take k)).length ≤ cut) (h2 : k < ls.length → cut < (jnlBytes (ls.take (k + 1))).length) : jopenRes ((jnlBytes ls).take cut) = (some (ls.take k), (jnlBytes (ls.take k)).length, 0) := by
  have hlk : (ls.take k).length = k := by rw [List.length_take, Nat.min_eq_left hk]
  have hgk : ∀ x ∈ ls.take k, GoodRec x := fun x hx => hg x (List.mem_of_mem_take hx)
  have hsp := jnl_split ls k hk
  have hX : (jnlBytes ls).take cut = jnlBytes (ls.take k) ++ (jnlFrom k (ls.drop k)).take (cut - (jnlBytes (ls.take k)).length) := by
    conv => lhs; rw [hsp]
    rw [List.take_append, List.take_of_length_le h1]
  refine open_stop hgk (byt_take (jnlFrom_byt _ _ (fun x hx => hg x (List.mem_of_mem_drop hx))) _) hX (by rw [List.length_take]; omega) ?_
  rw [hlk]
  rcases Nat.lt_or_ge k ls.length with hlt | hge
  · have hd : ls.drop k = ls[k] :: ls.drop (k + 1) := List.drop_eq_getElem_cons hlt
    have hs2 : (jnlBytes (ls.take (k + 1))).length = (jnlBytes (ls.take k)).length + (recEnc k ls[k]).length := by
      rw [List.take_succ_eq_append_getElem hlt, jnlBytes_snoc, List.length_append, hlk]
    have h2' := h2 hlt
    have hll := jnlBytes_len ls
    rw [hd, jnlFrom, List.take_append_of_le_length (by omega)]
    exact recRd_cut (hg _ (List.getElem_mem hlt)) (by omega) (by omega)
  · rw [List.drop_of_length_le hge, jnlFrom, List.take_nil]
    exact recRd_nil _
/-- spoilt from a place on -/
theorem open_spoilt {ls : List SecV} {at_ k : Nat} {other X : List Int} (hg : ∀ x ∈ ls, GoodRec x) (ho : Byt other) (hX : X = (jnlBytes ls).take at_ ++ other) (hx : X.length ≤ 268435456) (hk : k ≤ ls.length) (h1 : (jnlBytes (ls.take k)).length ≤ at_) :
    ∃ suf n, jopenRes X = (some (ls.take k ++ suf), n, 0) ∧ (∀ x ∈ ls.take k ++ suf, GoodRec x) ∧ n ≤ X.length ∧ 8 ≤ n ∧ jnlBytes (ls.take k ++ suf) = X.take n := by
  have hlk : (ls.take k).length = k := by rw [List.length_take, Nat.min_eq_left hk]
  have hgk : ∀ x ∈ ls.take k, GoodRec x := fun x hx => hg x (List.mem_of_mem_take hx)
  obtain ⟨R, hR, hRb⟩ : ∃ R, X = jnlBytes (ls.take k) ++ R ∧ Byt R := by
    refine ⟨(jnlFrom k (ls.drop k)).take (at_ - (jnlBytes (ls.take k)).length) ++ other, ?_, byt_mk (byt_take (jnlFrom_byt _ _ (fun x hx => hg x (List.mem_of_mem_drop hx))) _) ho⟩
    rw [hX]
    conv => lhs; lhs; rw [jnl_split ls k hk]
    rw [List.take_append, List.take_of_length_le h1, List.append_assoc]
  have hXb : Byt X := by rw [hR]; exact byt_mk (jnlBytes_byt hgk) hRb
  have hX1 : X = jhead ++ (jnlFrom 0 (ls.take k) ++ R) := by rw [hR, jnlBytes, List.append_assoc]
  have hXl : X.length = (jnlBytes (ls.take k)).length + R.length := by rw [hR, List.length_append]
  have hlen := jnlBytes_len (ls.take k)
  rw [hlk] at hlen
  have hjl : (jnlBytes (ls.take k)).length = 8 + (jnlFrom 0 (ls.take k)).length := by rw [jnlBytes, List.length_append, jhead_length]
  have hp := jnlRd_pre (l := X) (ls.take k) X.length 8 [] R hgk (by rw [hlk]; omega) (by rw [hlk]; simp; omega) hRb (by rw [hX1]; rfl)
  rw [List.nil_append, List.length_nil] at hp
  obtain ⟨suf, s1, s2, s3, s4, s5⟩ := jnlRd_form hXb (X.length - (ls.take k).length) (8 + (jnlFrom 0 (ls.take k)).length) (ls.take k) (by omega)
  refine ⟨suf, _, ?_, ?_, s5, ?_, ?_⟩
  · rw [open_head hX1 hx, hp, s1]
  · intro x hx
    rcases List.mem_append.1 hx with hx | hx
    · exact hgk x hx
    · exact s2 x hx
  · rw [s4]
    omega
  · have e1 : X.take (8 + (jnlFrom 0 (ls.take k)).length) = jnlBytes (ls.take k) := by rw [← hjl, hR, List.take_left]
    have e2 := jnlFrom_app (ls.take k) suf 0
    rw [Nat.zero_add] at e2
    rw [s4, List.take_add, e1, s3, List.take_left, jnlBytes, e2, jnlBytes, List.append_assoc]
/-! ## a burst -/
theorem flip1_app (P W : List Int) (k : Nat) (hk : k / 8 < W.length) : flip1 (P ++ W) (8 * P.length + k) = P ++ flip1 W k := by
  unfold flip1
  rw [show (8 * P.length + k) / 8 = P.length + k / 8 by omega, show (8 * P.length + k) % 8 = k % 8 by omega, List.set_append_right _ _ (by omega), Nat.add_sub_cancel_left]
  congr 3
  simp [List.getD_eq_getElem?_getD, List.getElem?_append_right]
theorem flip1_far (W : List Int) (k : Nat) (hk : ¬ k / 8 < W.length) : flip1 W k = W := by rw [flip1, List.set_eq_of_length_le (by omega)]
theorem flips_app (P W : List Int) (frm : Nat) (T : V32) : ∀ i, flips (P ++ W) (8 * P.length + frm) T i = P ++ flips W frm T i
  | 0 => rfl
  | i + 1 => by
    have ih := flips_app P W frm T i
    unfold flips
    split
    · rw [ih, Nat.add_assoc]
      by_cases h : (frm + i) / 8 < W.length
      · exact flip1_app P _ _ (by rw [flips_length]; exact h)
      · rw [flip1_far (flips W frm T i) _ (by rw [flips_length]; exact h), flip1_far]
        rw [List.length_append, flips_length]
        omega
    · exact ih
theorem anyUp_app (p n frm : Nat) (T : V32) : ∀ i, anyUp (p + n) (8 * p + frm) T i = anyUp n frm T i
  | 0 => rfl
  | i + 1 => by
    unfold anyUp
    rw [anyUp_app p n frm T i, decide_eq_decide.2 (show (8 * p + frm + i) / 8 < p + n ↔ (frm + i) / 8 < n by omega)]
/-- a record's bytes ahead of its body -/
def recPre (n : Nat) (x : SecV) : List Int := 167 :: (vb n ++ (x.id :: vb x.body.length))
theorem recHd_pre (n : Nat) (x : SecV) : recHd n x = recPre n x ++ x.body := by simp [recHd, recPre]
theorem recPre_length (n : Nat) (x : SecV) : (recPre n x).length = 2 + (vb n).length + (vb x.body.length).length := by
  simp [recPre]
  omega
theorem recRd_burst {n frm : Nat} {x : SecV} {T : V32} {rest : List Int} (h : GoodRec x) (hn : n < 18446744073709551616) (hr : Byt rest) (ha : anyUp (x.body.length + 4) frm T 32 = true) :
    recRd (recPre n x ++ (flips (x.body ++ sumB (vi (crc (recHd n x)))) frm T 32 ++ rest)) n = none := by
  obtain ⟨W, hW⟩ : ∃ W, W = flips (x.body ++ sumB (vi (crc (recHd n x)))) frm T 32 := ⟨_, rfl⟩
  have hWl : W.length = x.body.length + 4 := by rw [hW, flips_length, List.length_append, sumB_length]
  have hWb : Byt W := by rw [hW]; exact flips_byt (byt_mk h.2.2.2 (sumB_byt _ (vi_nonneg _) (vi_lt _))) _ _ _
  rw [← hW]
  obtain ⟨L, hL⟩ : ∃ L, L = recPre n x ++ (W ++ rest) := ⟨_, rfl⟩
  rw [← hL]
  have e0 : L = 167 :: (vb n ++ (x.id :: (vb x.body.length ++ (W ++ rest)))) := by
    rw [hL, recPre]
    simp only [List.append_assoc, List.cons_append]
  have hpb : Byt (recPre n x) := (byt_app (by rw [← recHd_pre]; exact recHd_byt h : Byt (recPre n x ++ x.body))).1
  have hb : Byt L := by
    rw [hL]
    exact byt_mk hpb (byt_mk hWb hr)
  rcases recRd_cases (n := n) hb with h' | ⟨kd, k, k2, z, h0, hu, hk, hkd, hv, hl, hs⟩
  · exact h'
  · exfalso
    have d1 : L.drop 1 = vb n ++ (x.id :: (vb x.body.length ++ (W ++ rest))) := by rw [e0]; rfl
    have hb1 : Byt (vb n ++ (x.id :: (vb x.body.length ++ (W ++ rest)))) := by rw [← d1]; exact byt_drop hb 1
    have hu' : urd (L.drop 1) n = ((n : Int), (vb n).length, 0) := by
      rw [d1]
      exact urd_vb hn (Int.le_refl _) (byt_app hb1).2
    rw [hu'] at hu
    simp only [Prod.mk.injEq, true_and, and_true] at hu
    subst hu
    have d3 : L.drop (2 + (vb n).length) = vb x.body.length ++ (W ++ rest) := by
      rw [show 2 + (vb n).length = 1 + ((vb n).length + 1) by omega, ← List.drop_drop, d1, ← List.drop_drop, List.drop_left]
      rfl
    have hb3 : Byt (vb x.body.length ++ (W ++ rest)) := by rw [← d3]; exact byt_drop hb _
    have hv' : urd (L.drop (2 + (vb n).length)) 4194304 = (((x.body.length : Nat) : Int), (vb x.body.length).length, 0) := by
      rw [d3]
      have := h.2.2.1
      exact urd_vb (by omega) (by omega) (byt_app hb3).2
    rw [hv'] at hv
    simp only [Prod.mk.injEq, and_true] at hv
    obtain ⟨rfl, rfl⟩ := hv
    rw [Int.toNat_natCast] at hs
    have hpl := recPre_length n x
    rw [show 2 + (vb n).length + (vb x.body.length).length + x.body.length = (recPre n x).length + x.body.length by omega] at hs
    have t1 : L.take ((recPre n x).length + x.body.length) = recPre n x ++ W.take x.body.length := by
      rw [hL, List.take_length_add_append, List.take_append_of_le_length (by omega)]
    have t2 : (L.drop ((recPre n x).length + x.body.length)).take 4 = W.drop x.body.length := by
      rw [hL, List.drop_length_add_append, List.drop_append_of_le_length (by omega), List.take_left' (by rw [List.length_drop, hWl]; omega)]
    rw [t1, t2] at hs
    have hH' : Byt (recPre n x ++ W.take x.body.length) := byt_mk hpb (byt_take hWb _)
    refine code_burst (H := recHd n x) (H' := recPre n x ++ W.take x.body.length) (recHd_byt h) hH' (8 * (recPre n x).length + frm) T 32 (Nat.le_refl _) ?_ ?_
    · rw [← hs, List.append_assoc, List.take_append_drop]
      conv => rhs; rw [recHd_pre, List.append_assoc, ← recHd_pre]
      rw [flips_app, hW]
    · rw [recHd_pre, List.length_append, Nat.add_assoc, anyUp_app]
      exact ha
/-- of a journal with a burst in a record: the records ahead of it -/
theorem open_burst {ls : List SecV} {which frm : Nat} {x : SecV} {T : V32} {X : List Int} (hg : ∀ x ∈ ls, GoodRec x) (hsz : (jnlBytes ls).length ≤ 268435456) (hx : ls[which]? = some x) (ha : anyUp (x.body.length + 4) frm T 32 = true)
    (hX : X = jnlBytes (ls.take which) ++ (recPre which x ++ (flips (x.body ++ sumB (vi (crc (recHd which x)))) frm T 32 ++ jnlFrom (which + 1) (ls.drop (which + 1))))) : jopenRes X = (some (ls.take which), (jnlBytes (ls.take which)).length, 0) := by
  obtain ⟨hlt, hxe⟩ := List.getElem?_eq_some_iff.1 hx
  have hgx : GoodRec x := hg x (List.mem_of_getElem? hx)
  have hrest : Byt (jnlFrom (which + 1) (ls.drop (which + 1))) := jnlFrom_byt _ _ (fun y hy => hg y (List.mem_of_mem_drop hy))
  have hll := jnlBytes_len ls
  have hn := recRd_burst (n := which) (frm := frm) (T := T) hgx (by omega) hrest ha
  have hlk : (ls.take which).length = which := by rw [List.length_take, Nat.min_eq_left (Nat.le_of_lt hlt)]
  refine open_stop (fun y hy => hg y (List.mem_of_mem_take hy)) ?_ hX ?_ (by rw [hlk]; exact hn)
  · exact byt_mk (byt_app (by rw [← recHd_pre]; exact recHd_byt hgx : Byt (recPre which x ++ x.body))).1 (byt_mk (flips_byt (byt_mk hgx.2.2.2 (sumB_byt _ (vi_nonneg _) (vi_lt _))) _ _ _) hrest)
  · have e : (jnlBytes ls).length = X.length := by
      have hs := jnl_split ls which (Nat.le_of_lt hlt)
      rw [List.drop_eq_getElem_cons hlt, hxe, jnlFrom] at hs
      rw [hs, hX, recEnc, recHd_pre]
      simp only [List.length_append, flips_length]
      omega
    omega
/-- a record of another number is none -/
theorem recRd_other {n m : Nat} {x : SecV} (h : GoodRec x) (hn : n < 18446744073709551616) (hm : m < n) : recRd (recEnc n x) m = none := by
  have d1 : (recEnc n x).drop 1 = vb n ++ (x.id :: (vb x.body.length ++ (x.body ++ sumB (vi (crc (recHd n x)))))) := by
    rw [recEnc, recHd]
    simp
  have hb1 : Byt (vb n ++ (x.id :: (vb x.body.length ++ (x.body ++ sumB (vi (crc (recHd n x))))))) := by rw [← d1]; exact byt_drop (recEnc_byt h) 1
  rcases recRd_cases (n := m) (recEnc_byt (n := n) h) with h' | ⟨kd, k, k2, z, h0, hu, hk, hkd, hv, hl, hs⟩
  · exact h'
  · exfalso
    have h2 := urd_vb_no (limit := (m : Int)) hn (by omega) (byt_app hb1).2
    rw [← d1, hu] at h2
    simp at h2
end Go.Proofs.Ytlnomadhgoblkaa.Kit
-- The journal's laws: words that they share.
set_option linter.unusedVariables false
set_option linter.unusedSimpArgs false
namespace Go.Proofs.Ytlnomadhgoblkaa.Kit
open Go.RowKit
theorem jends_get (ls : List SecV) (k : Nat) (h : k < (jends ls).length) : (jends ls)[k] = ((jnlBytes (ls.take (k + 1))).length : Int) := by simp [jends]
/-- an end, read -/
theorem ends_cell {w : World} {A : Option Addr} {n c : Nat} {ls : List SecV} (h : Own w 3 .i64 (.slice A n c) (jends ls)) (k : Nat) (hk : k < ls.length) : ∃ ad, A = some ad ∧ w.cell? (ad.add k) = some (.int .i64 ((jnlBytes (ls.take (k + 1))).length : Int)) := by
  have hk' : k < (jends ls).length := by rw [jends_length]; exact hk
  have hn : n = (jends ls).length := by
    obtain ⟨_, _, hv, _⟩ := h.slice
    injection hv
  obtain ⟨ad, e, hc⟩ := h.rd (by rw [hn]) k hk'
  exact ⟨ad, e, by rw [hc, jends_get]⟩
/-- what is known behind filled: of every world behind it -/
structure Filled (w1 : World) (gj : Nat) (D : Nat → Prop) (A : Option Addr) (n c : Nat) (ls : List SecV) : Prop where
  len : n = ls.length
  cap : n ≤ c
  mx : c ≤ maxLen
  small : (jnlBytes ls).length ≤ 268435456
  good : ∀ x ∈ ls, GoodRec x
  nb : n ≤ 33554432
  jn : Jn w1 D gj ls
  rd : RdSecs w1 A ls
theorem Filled.old {w1 w : World} {gj : Nat} {D : Nat → Prop} {A : Option Addr} {n c : Nat} {ls : List SecV} (h : Filled w1 gj D A n c ls) (k : Chg (fun _ => False) w1 w) : Filled w gj D A n c ls :=
  ⟨h.len, h.cap, h.mx, h.small, h.good, h.nb, h.jn.chg0 k, h.rd.below k.done⟩
theorem filledC {A : Option Addr} {n c : Nat} {l : List SecV} {w : World} (HN : Hid (n = l.length)) (hnb : n ≤ 4398046511104) (hr : Hid (RdSecs w A l)) (hsz : Hid (∀ x ∈ l, x.body.length ≤ 140737488351232)) :
    Calls Try.prog 27 #[.slice A n c] w fun e w' => ∃ gj D A' n' c' ls, e = .returned (.tuple #[.pointer (some ⟨gj, 0, none⟩), .slice A' n' c']) ∧ Filled w' gj D A' n' c' ls ∧ (∀ y, D y → w.heap.size ≤ y) ∧ w.heap.size ≤ gj ∧ Chg (fun _ => False) w w' := by
  refine (filledT HN hnb hr hsz).mono ?_
  rintro e w' ⟨gj, D, v, bs, rfl, h, hg⟩
  obtain ⟨A', c', hv, hc, hm⟩ := h.row.row.slice
  have hl := jnlBytes_len (jfill l)
  have hs := h.small
  have hrow := h.row
  rw [hv] at hrow
  refine ⟨gj, D, A', _, c', jfill l, by rw [hv], ⟨rfl, hc, hm, hs, fun x hx => ⟨(h.ok x hx).1, (h.ok x hx).2.1, (h.ok x hx).2.2, h.row.byt x hx⟩, by omega, h.jn, hrow.secs h.chg⟩, h.new, hg, h.chg⟩
theorem holdsC {gj gk : Nat} {D Dk : Nat → Prop} {A : Option Addr} {n c k : Nat} {ls ms : List SecV} {w : World} (h : Hid (Filled w gj D A n c ls)) (hk : k ≤ n) (hj : Hid (Jn w Dk gk ms)) (hms : Hid (ms = ls.take k)) :
    Calls Try.prog 28 #[.pointer (some ⟨gk, 0, none⟩), .slice A n c, .int .i64 k] w fun e w' => e = .returned (.bool true) ∧ Chg (fun _ => False) w w' :=
  holdsT hj h.out.rd h.out.len hms hk (by have := h.out.nb; omega) (fun x hx => (h.out.good x (List.mem_of_mem_take (by rw [← hms.out]; exact hx))).2.2.1)
theorem jopenIs {A : Option Addr} {n c m : Nat} {l : List Int} {ls : List SecV} {w : World} (hR : Hid (jopenRes l = (some ls, m, 0))) (HN : Hid (n = l.length)) (hnc : n ≤ c) (hcm : c ≤ maxLen) (hb : Hid (Byt l)) (hr : Hid (Rd w .u8 A l)) :
    Calls Try.prog 25 #[.slice A n c] w fun e w' => ∃ g D, e = .returned (.tuple #[.pointer (some ⟨g, 0, none⟩), .int .i64 m, .int .i64 0]) ∧ Jn w' D g ls ∧ Chg (fun _ => False) w w' ∧ (∀ y, D y → w.heap.size ≤ y) ∧ w.heap.size ≤ g := by
  refine (jopen HN hnc hcm hb hr).mono ?_
  rw [hR.out]
  rintro e w' ⟨g, D, rfl, h1, h2, h3, h4⟩
  exact ⟨g, D, rfl, h1, h4, h2, h3⟩
theorem jbytesC {D : Nat → Prop} {g : Nat} {l : List SecV} {w : World} (hl : Hid ((jnlBytes l).length ≤ 268435456)) (hj : Hid (Jn w D g l)) :
    Calls Try.prog 20 #[.pointer (some ⟨g, 0, none⟩)] w fun e w' => ∃ A n c, e = .returned (.slice A n c) ∧ Made w w' A n c (jnlBytes l) ∧ n ≤ 268435456 ∧ c ≤ maxLen :=
  (jbytes D g l w (by have := hl.out; rw [Hid]; omega) hj).mono fun e w' ⟨A, n, c, he, m⟩ => ⟨A, n, c, he, m, by rw [m.len]; exact hl.out, by
    obtain ⟨_, _, hv, _, h⟩ := m.own.slice
    injection hv with _ _ hc
    rw [hc]
    exact h⟩
end Go.Proofs.Ytlnomadhgoblkaa.Kit
