/- Texts that the row leans on: Jrn, Jre. -/
import Derived.Test.YtlnomadhgoblkaaProg
import Derived.Test.YtlnomadhgoblkaaQJournalExactak
import Derived.Test.YtlnomadhgoblkaaQJournalExactai
-- The document's journal: the next record.
set_option linter.unusedVariables false
set_option linter.unusedSimpArgs false
namespace Go.Proofs.Ytlnomadhgoblkaa.Kit
open Go.RowKit
/-- a number read without a limit, and with one -/
theorem urd_lim {l : List Int} {L x er : Int} {n : Nat} (hL : L ≤ 18446744073709551615) (h : urd l 18446744073709551615 = (x, n, er)) : (er ≠ 0 → (urd l L).2.2 ≠ 0) ∧ (er = 0 → urd l L = if x > L then (0, 0, 42) else (x, n, 0)) := by
  unfold urd at h ⊢
  by_cases hv : (vlp l 10 0 0).2.2 = 0
  · rw [if_pos hv] at h ⊢
    by_cases hx : (vlp l 10 0 0).1 > 18446744073709551615
    · rw [if_pos hx] at h
      simp only [Prod.mk.injEq] at h
      obtain ⟨rfl, rfl, rfl⟩ := h
      rw [if_pos (by omega)]
      exact ⟨fun _ => by simp, fun h => absurd h (by decide)⟩
    · rw [if_neg hx] at h
      simp only [Prod.mk.injEq] at h
      obtain ⟨rfl, rfl, rfl⟩ := h
      exact ⟨fun h => absurd rfl h, fun _ => rfl⟩
  · rw [if_neg hv] at h ⊢
    simp only [Prod.mk.injEq] at h
    obtain ⟨rfl, rfl, rfl⟩ := h
    exact ⟨fun _ => hv, fun h => absurd h hv⟩
/-- what stands ahead of a record's sum is the record's own -/
theorem rec_head {l : List Int} {n k k2 : Nat} {kd z : Int} (hb : Byt l) (h0 : l[0]? = some 167) (hu : urd (l.drop 1) n = ((n : Int), k, 0)) (hk : l[1 + k]? = some kd) (hv : urd (l.drop (2 + k)) 4194304 = (z, k2, 0)) (hl : 2 + k + k2 + z.toNat ≤ l.length) :
    l.take (2 + k + k2 + z.toNat) = recHd n ⟨kd, (l.drop (2 + k + k2)).take z.toNat⟩ ∧ ((l.drop (2 + k + k2)).take z.toNat).length = z.toNat ∧ z.toNat ≤ 4194304 := by
  obtain ⟨a1, a2, a3, a4, a5, a6⟩ := urd_form (byt_drop hb 1) hu
  obtain ⟨b1, b2, b3, b4, b5, b6⟩ := urd_form (byt_drop hb (2 + k)) hv
  rw [List.length_drop] at a6 b6
  rw [Int.toNat_natCast] at a1
  have hkl : 1 + k < l.length := by
    rcases Nat.lt_or_ge (1 + k) l.length with h | h
    · exact h
    · rw [List.getElem?_eq_none h] at hk
      cases hk
  have hk1 : l[1 + k] = kd := by
    rw [List.getElem?_eq_getElem hkl] at hk
    injection hk
  have hbl : ((l.drop (2 + k + k2)).take z.toNat).length = z.toNat := by
    simp
    omega
  have l0 : 0 < l.length := by omega
  have h00 : l[0] = 167 := by
    rw [List.getElem?_eq_getElem l0] at h0
    injection h0
  refine ⟨?_, hbl, by omega⟩
  rw [recHd]
  simp only [hbl]
  have hcons : l = l[0] :: l.drop 1 := by simpa using List.drop_eq_getElem_cons l0
  have htk : l.take (2 + k + k2 + z.toNat) = l[0] :: (l.drop 1).take (1 + k + k2 + z.toNat) := by
    rw [show 2 + k + k2 + z.toNat = (1 + k + k2 + z.toNat) + 1 by omega]
    exact (congrArg (List.take _) hcons).trans (List.take_succ_cons)
  rw [htk, h00]
  congr 1
  rw [show 1 + k + k2 + z.toNat = k + (1 + (k2 + z.toNat)) by omega, List.take_add, a1, List.drop_drop]
  congr 1
  rw [List.drop_eq_getElem_cons hkl, show 1 + (k2 + z.toNat) = (k2 + z.toNat) + 1 by omega, List.take_succ_cons, hk1]
  congr 1
  rw [List.take_add, show 1 + k + 1 = 2 + k by omega, b1, List.drop_drop]
/-- a block of two cells, written over -/
theorem cell2_store {W : World} {h : Nat} {e : TypeId} {u0 u1 : Value} (B : Blk W h e [u0, u1]) (v0 v1 : Value) : W.cell? ⟨h, 0, none⟩ = some u0 ∧ W.frozen? ⟨h, 0, none⟩ = false ∧ (W.setCell ⟨h, 0, none⟩ v0).cell? ⟨h, 1, none⟩ = some u1 ∧ (W.setCell ⟨h, 0, none⟩ v0).frozen? ⟨h, 1, none⟩ = false ∧
    ((W.setCell ⟨h, 0, none⟩ v0).setCell ⟨h, 1, none⟩ v1).cell? ⟨h, 0, none⟩ = some v0 ∧ ((W.setCell ⟨h, 0, none⟩ v0).setCell ⟨h, 1, none⟩ v1).cell? ⟨h, 1, none⟩ = some v1 :=
  ⟨B.at_ (i := 0) rfl, B.frozen (i := 0) (by simp), (B.set 0 v0).at_ (i := 1) rfl, (B.set 0 v0).frozen (i := 1) (by simp), ((B.set 0 v0).set 1 v1).at_ (i := 0) rfl, ((B.set 0 v0).set 1 v1).at_ (i := 1) rfl⟩
def RNext (R : Option (SecV × Nat)) (w : World) (e : Ending) (w' : World) : Prop :=
  match R with
  | none => e = .returned (.tuple #[.agg #[.int .i64 0, .slice none 0 0], .int .i64 0]) ∧ Chg (fun _ => False) w w'
  | some (x, sz) => ∃ A m c, e = .returned (.tuple #[.agg #[.int .i64 x.id, .slice A m c], .int .i64 (sz : Nat)]) ∧ OwnB w' (.slice A m c) x.body ∧ m = x.body.length ∧ Chg (fun _ => False) w w' ∧ ∀ k, Value.ownBlock (.slice A m c) = some k → w.heap.size ≤ k
theorem rnext_no {R : Option (SecV × Nat)} {w w' : World} (h : R = none) (c : Chg (fun _ => False) w w') : RNext R w (.returned (.tuple #[.agg #[.int .i64 0, .slice none 0 0], .int .i64 0])) w' := by
  subst h
  exact ⟨rfl, c⟩
set_option maxRecDepth 20000 in
set_option maxHeartbeats 6400000 in
theorem rnext {A : Option Addr} {n c k : Nat} {l : List Int} {R : Option (SecV × Nat)} {w : World} (hR : Hid (recRd l k = R)) (HN : Hid (n = l.length)) (hn : n ≤ 268435456) (hk : k ≤ 33554432) (hb : Hid (Byt l)) (hr : Hid (Rd w .u8 A l)) :
    Calls Try.prog 67 #[.slice A n c, .int .i64 k] w (RNext R w) := by
  obtain ⟨wa, hwa⟩ : ∃ wa, wa = w.alloc (.cells #[.int .i64 0, .slice none 0 0] 31) := ⟨_, rfl⟩
  obtain ⟨h, hh⟩ : ∃ h, h = w.heap.size := ⟨_, rfl⟩
  have CA : Hid (Chg (fun _ => False) w wa) := by rw [hwa]; exact (Chg.refl _ w).alloc _
  have BA : Hid (Blk wa h 31 [.int .i64 0, .slice none 0 0]) := by rw [hwa, hh]; exact Blk.new _ _ _
  have hll : Hid (l.length ≤ 140737488355328) := by rw [Hid, ← HN.out]; omega
  have ra : Hid (Rd wa .u8 A l) := hr.out.below CA.out.done
  have HH := Lib.hid hh
  have HWA := Lib.hid hwa
  have hge : Hid (¬ h < w.heap.size) := by rw [Hid]; omega
  have FIN : Hid (∀ (W : World) (v0 v1 : Value), Chg (fun _ => False) wa W → Chg (fun _ => False) w ((W.setCell ⟨h, 0, none⟩ v0).setCell ⟨h, 1, none⟩ v1)) := fun W v0 v1 hW =>
    ((CA.out.trans hW (fun _ _ h => h)).setCell (p := ⟨h, 0, none⟩) (fun e => absurd e hge.out) _).setCell (p := ⟨h, 1, none⟩) (fun e => absurd e hge.out) _
  clear hwa hh
  go_enter Try.func67, Try.ntmps67
  go_upto_region 1 with fail
  rw [← HWA.out, ← HH.out]
  go_wp2_with fail
  refine (newReaderF HN hll ra).mono ?_
  rintro e w1 ⟨gR, vR, rfl, r1, r2, r3, r4⟩
  have RD1 := Lib.hid r1
  have GR : Hid (wa.heap.size ≤ gR) := r2
  have VR := Lib.hid r3
  have C1 := Lib.hid r4
  clear r1 r2 r3 r4
  go_wp2_with fail
  refine (takeF gR vR l 0 1 w1 RD1).mono ?_
  rintro e w2 ⟨A2, n2, c2, m2, at2, er2, rfl, k1, k2, k3, k4, k5⟩
  have C2 : Hid (Chg (fun _ => False) wa w2) := C1.out.old k4 (fun i hi => by rw [hi]; exact GR.out)
  have RD2 := Lib.hid k3
  have O2 := Lib.hid k2
  have BX2 := Lib.hid (BA.out.chg C2.out id)
  rcases k5 with ⟨hlt, _⟩ | ⟨_, hsh, rfl, _, _⟩ | ⟨_, hfit, rfl, hm2, hat⟩
  · omega
  · have hnone : Hid (R = none) := by
      rw [Hid, ← hR.out]
      exact recRd_1 (by
        have : l.length = 0 := by omega
        rw [List.eq_nil_of_length_eq_zero this]
        simp)
    obtain ⟨z1, z2, z3, z4, z5, z6⟩ := cell2_store BX2.out (.int .i64 0) (.slice none 0 0)
    clear k1 k2 k3 k4 hsh
    go_wp2_with fail
    exact bodyPost_ret (v := .tuple #[.agg #[.int .i64 0, .slice none 0 0], .int .i64 0]) (by simp [results, Try.results67, go_sem, z5, z6]) rfl (rnext_no hnone.out (FIN.out _ _ _ C2.out))
  · clear k1 k4
    obtain ⟨f0, hf0⟩ : ∃ f0, l[0]? = some f0 := ⟨l[0]'(by omega), List.getElem?_eq_getElem _⟩
    have hm2' : m2 = [f0] := by
      rw [hm2, List.drop_zero]
      rcases l with _ | ⟨a, r⟩
      · simp at hf0
      · simp at hf0
        subst hf0
        rfl
    subst hm2'
    have hat2 : at2 = 1 := by omega
    subst hat2
    obtain ⟨g2, rfl, _⟩ := own_some O2.out.1 (by simp)
    obtain ⟨p1, _⟩ := O2.out.1.cellAt (i := 0) (by simp)
    simp only [List.getElem_cons_zero] at p1
    have HF0 := Lib.hid hf0
    have hn2 : n2 = 1 := by
      obtain ⟨_, _, hv, _⟩ := O2.out.1.slice
      injection hv
    subst hn2
    clear hm2 hat hf0 k2 k3
    by_cases h167 : f0 = 167
    · subst h167
      obtain ⟨x3, s1, er3, hu3⟩ : ∃ x s e, urd (l.drop 1) 18446744073709551615 = (x, s, e) := ⟨_, _, _, rfl⟩
      have HU3 := Lib.hid hu3
      have hlim := urd_lim (L := (k : Int)) (by omega) hu3
      have HLIM := Lib.hid hlim
      clear hu3 hlim
      go_wp2_with fail
      refine (uintF HU3 (show Hid (1 + s1 = 1 + s1) from rfl) hb RD2).mono ?_
      rintro e w3 ⟨rfl, r1, r2⟩
      have RD3 := Lib.hid r1
      have C3 : Hid (Chg (fun _ => False) wa w3) := C2.out.old r2 (fun i hi => by rw [hi]; exact GR.out)
      have BX3 := Lib.hid (BA.out.chg C3.out id)
      clear r1 r2 p1
      by_cases he3 : er3 = 0
      · subst he3
        have hul := HLIM.out.2 rfl
        have ek : IntKind.u64.wrap (k : Int) = (k : Int) := IntWalk.u64_in _ (by omega)
        by_cases hx3 : x3 = (k : Int)
        · subst hx3
          rw [if_neg (by omega)] at hul
          have HU := Lib.hid hul
          have hxx : ((k : Int) != (k : Int)) = false := by simp
          clear hul
          go_wp2_with fail
          refine (takeF gR vR l (1 + s1) 1 w3 RD3).mono ?_
          rintro e w4 ⟨A4, n4, c4, m4, at4, er4, rfl, k1, k2, k3, k4, k5⟩
          have C4 : Hid (Chg (fun _ => False) wa w4) := C3.out.old k4 (fun i hi => by rw [hi]; exact GR.out)
          have RD4 := Lib.hid k3
          have O4 := Lib.hid k2
          have BX4 := Lib.hid (BA.out.chg C4.out id)
          rcases k5 with ⟨hlt, _⟩ | ⟨_, hsh, rfl, _, _⟩ | ⟨_, hfit4, rfl, hm4, hat4⟩
          · omega
          · have hnone : Hid (R = none) := by
              rw [Hid, ← hR.out]
              exact recRd_3 HU.out (.inl (List.getElem?_eq_none (by omega)))
            clear k1 k2 k3 k4 hsh
            obtain ⟨z1, z2, z3, z4, z5, z6⟩ := cell2_store BX4.out (.int .i64 0) (.slice none 0 0)
            go_wp2_with fail
            exact bodyPost_ret (v := .tuple #[.agg #[.int .i64 0, .slice none 0 0], .int .i64 0]) (by simp [results, Try.results67, go_sem, z5, z6]) rfl (rnext_no hnone.out (FIN.out _ _ _ C4.out))
          · obtain ⟨kd, hkd⟩ : ∃ f, l[1 + s1]? = some f := ⟨l[1 + s1]'(by omega), List.getElem?_eq_getElem _⟩
            have hm4' : m4 = [kd] := by
              obtain ⟨hl1, hl2⟩ := List.getElem?_eq_some_iff.1 hkd
              rw [hm4, List.drop_eq_getElem_cons hl1, hl2]
              rfl
            subst hm4'
            have hat4' : at4 = 2 + s1 := by omega
            subst hat4'
            obtain ⟨g4, rfl, _⟩ := own_some O4.out.1 (by simp)
            obtain ⟨p1, _⟩ := O4.out.1.cellAt (i := 0) (by simp)
            simp only [List.getElem_cons_zero] at p1
            have hn4 : n4 = 1 := by
              obtain ⟨_, _, hv, _⟩ := O4.out.1.slice
              injection hv
            subst hn4
            have hkb := hb.out kd (List.mem_of_getElem? hkd)
            have HKD := Lib.hid hkd
            clear hm4 hat4 hkd k1 k2 k3 k4
            by_cases hk0 : kd = 0
            · subst hk0
              have hnone : Hid (R = none) := by
                rw [Hid, ← hR.out]
                exact recRd_3 HU.out (.inr HKD.out)
              obtain ⟨z1, z2, z3, z4, z5, z6⟩ := cell2_store BX4.out (.int .i64 0) (.slice none 0 0)
              go_wp2_with fail
              exact bodyPost_ret (v := .tuple #[.agg #[.int .i64 0, .slice none 0 0], .int .i64 0]) (by simp [results, Try.results67, go_sem, z5, z6]) rfl (rnext_no hnone.out (FIN.out _ _ _ C4.out))
            · have hk0' : (kd == 0) = false := by simp [hk0]
              have HK0 := Lib.hid hk0
              obtain ⟨z5, s2, er5, hu5⟩ : ∃ x s e, urd (l.drop (2 + s1)) 4194304 = (x, s, e) := ⟨_, _, _, rfl⟩
              have HU5 := Lib.hid hu5
              clear hu5 hk0
              go_wp2_with fail
              refine (uintF HU5 (show Hid (2 + s1 + s2 = 2 + s1 + s2) from rfl) hb RD4).mono ?_
              rintro e w5 ⟨rfl, r1, r2⟩
              have RD5 := Lib.hid r1
              have C5 : Hid (Chg (fun _ => False) wa w5) := C4.out.old r2 (fun i hi => by rw [hi]; exact GR.out)
              have O45 := Lib.hid (O4.out.1.chg r2 (fun y hy e => OwnV.type_ne O4.out.1 RD4.out.blk (by decide) (by rw [hy, e])))
              have BX5 := Lib.hid (BA.out.chg C5.out id)
              clear r1 r2 p1
              by_cases he5 : er5 = 0
              · subst he5
                have hzf := urd_form (byt_drop hb.out (2 + s1)) HU5.out
                obtain ⟨hz0, hz4⟩ : 0 ≤ z5 ∧ z5 ≤ 4194304 := ⟨hzf.2.1, hzf.2.2.1⟩
                have ez : IntKind.i64.wrap z5 = z5 := IntWalk.i64_in _ (by omega)
                clear hzf
                go_wp2_with fail
                refine (takeF gR vR l (2 + s1 + s2) z5 w5 RD5).mono ?_
                rintro e w6 ⟨A6, n6, c6, m6, at6, er6, rfl, k1, k2, k3, k4, k5⟩
                have C6 : Hid (Chg (fun _ => False) wa w6) := C5.out.old k4 (fun i hi => by rw [hi]; exact GR.out)
                have RD6 := Lib.hid k3
                have O6 := Lib.hid k2.1
                have F6 : Hid (∀ y, Value.ownBlock (.slice A6 n6 c6) = some y → wa.heap.size ≤ y) := fun y hy => Nat.le_trans C5.out.size (k2.2 y hy)
                have O46 := Lib.hid (O45.out.chg k4 (fun y hy e => OwnV.type_ne O45.out RD5.out.blk (by decide) (by rw [hy, e])))
                have BX6 := Lib.hid (BA.out.chg C6.out id)
                have L6 := Lib.hid k1
                rcases k5 with ⟨hlt, _⟩ | ⟨_, hsh, rfl, _, _⟩ | ⟨_, hfit6, rfl, hm6, hat6⟩
                · omega
                · have hnone : Hid (R = none) := by
                    rw [Hid, ← hR.out]
                    exact recRd_5 HU.out HU5.out (by omega)
                  clear k1 k2 k3 k4 hsh
                  obtain ⟨z1, z2, z3, z4, z5, z6⟩ := cell2_store BX6.out (.int .i64 0) (.slice none 0 0)
                  go_wp2_with fail
                  exact bodyPost_ret (v := .tuple #[.agg #[.int .i64 0, .slice none 0 0], .int .i64 0]) (by simp [results, Try.results67, go_sem, z5, z6]) rfl (rnext_no hnone.out (FIN.out _ _ _ C6.out))
                · have HM6 := Lib.hid hm6
                  subst hat6
                  clear k1 k2 k3 k4 hm6
                  go_wp2_with fail
                  refine (takeF gR vR l (2 + s1 + s2 + z5.toNat) 4 w6 RD6).mono ?_
                  rintro e w7 ⟨A7, n7, c7, m7, at7, er7, rfl, k1, k2, k3, k4, k5⟩
                  have C7 : Hid (Chg (fun _ => False) wa w7) := C6.out.old k4 (fun i hi => by rw [hi]; exact GR.out)
                  have RD7 := Lib.hid k3
                  have O7 := Lib.hid k2.1
                  have O47 := Lib.hid (O46.out.chg k4 (fun y hy e => OwnV.type_ne O46.out RD6.out.blk (by decide) (by rw [hy, e])))
                  have O67 := Lib.hid (O6.out.chg k4 (fun y hy e => OwnV.type_ne O6.out RD6.out.blk (by decide) (by rw [hy, e])))
                  have BX7 := Lib.hid (BA.out.chg C7.out id)
                  rcases k5 with ⟨hlt, _⟩ | ⟨_, hsh, rfl, _, _⟩ | ⟨_, hfit7, rfl, hm7, hat7⟩
                  · omega
                  · have hnone : Hid (R = none) := by
                      rw [Hid, ← hR.out]
                      exact recRd_5 HU.out HU5.out (by omega)
                    clear k1 k2 k3 k4 hsh
                    obtain ⟨z1, z2, z3, z4, z5, z6⟩ := cell2_store BX7.out (.int .i64 0) (.slice none 0 0)
                    go_wp2_with fail
                    exact bodyPost_ret (v := .tuple #[.agg #[.int .i64 0, .slice none 0 0], .int .i64 0]) (by simp [results, Try.results67, go_sem, z5, z6]) rfl (rnext_no hnone.out (FIN.out _ _ _ C7.out))
                  · have hlen : 2 + s1 + s2 + z5.toNat + 4 ≤ l.length := by omega
                    obtain ⟨hd1, hd2, hd3⟩ := rec_head hb.out HF0.out HU.out HKD.out HU5.out (by omega)
                    obtain ⟨x, hx⟩ : ∃ x : SecV, x = ⟨kd, (l.drop (2 + s1 + s2)).take z5.toNat⟩ := ⟨_, rfl⟩
                    have hxb : x.body = m6 := by rw [hx, HM6.out]
                    have hxid : x.id = kd := by rw [hx]
                    rw [← hx] at hd1
                    have hm6l : m6.length = z5.toNat := by rw [HM6.out]; exact hd2
                    have hbm6 : Byt m6 := by rw [HM6.out]; exact byt_take (byt_drop hb.out _) _
                    have hn6 : n6 = x.body.length := by rw [hxb]; exact L6.out
                    have hm7l : m7.length = 4 := by
                      rw [hm7, List.length_take, List.length_drop]
                      show min 4 _ = 4
                      omega
                    have hn7 : n7 = 4 := by rw [k1, hm7l]
                    subst hn7
                    obtain ⟨g7, rfl, _⟩ := own_some O7.out (by omega)
                    obtain ⟨p1, _⟩ := O47.out.cellAt (i := 0) (by simp)
                    simp only [List.getElem_cons_zero] at p1
                    have HX := Lib.hid hx
                    have HXB := Lib.hid hxb
                    have HXI := Lib.hid hxid
                    have HD1 := Lib.hid hd1
                    have HM7 := Lib.hid hm7
                    have HM7L := Lib.hid hm7l
                    have HAT7 := Lib.hid hat7
                    have HN6 := Lib.hid hn6
                    have hn64 : n6 ≤ 4194304 := by rw [hn6, hxb, hm6l]; exact hd3
                    have HBM : Hid (Byt x.body) := by rw [Hid, hxb]; exact hbm6
                    have hkd1 : 0 ≤ x.id := by rw [hxid]; omega
                    have hkd2 : x.id ≤ 255 := by rw [hxid]; omega
                    have O67x : Hid (OwnB w7 (.slice A6 n6 c6) x.body) := by rw [Hid, hxb]; exact O67.out
                    rw [← hxid] at p1
                    have ekd : IntKind.i64.wrap x.id = x.id := IntWalk.i64_in _ (by omega)
                    have HLEN := Lib.hid hlen
                    clear hx hxb hxid hd1 hd2 hd3 hm6l hbm6 hm7 hm7l hn6 hat7 hlen k1 k2 k3 k4 O67
                    go_upto_region 21 with fail
                    obtain ⟨w8, hw8⟩ : ∃ w8, w8 = w7.alloc (.cells #[.int .i64 x.id, .slice A6 n6 c6] 31) := ⟨_, rfl⟩
                    obtain ⟨hv, hhv⟩ : ∃ hv, hv = w7.heap.size := ⟨_, rfl⟩
                    have C78 : Hid (Chg (fun _ => False) w7 w8) := by rw [hw8]; exact (Chg.refl _ w7).alloc _
                    have BV8 : Hid (Blk w8 hv 31 [.int .i64 x.id, .slice A6 n6 c6]) := by rw [hw8, hhv]; exact Blk.new _ _ _
                    have O68 := Lib.hid (O67x.out.chg C78.out (fun _ _ h => h))
                    have R68 : Hid (Rd w8 .u8 A6 x.body) := O68.out.rd (by rw [HN6.out])
                    have q0 := BV8.out.at_ (i := 0) rfl
                    have q1 := BV8.out.at_ (i := 1) rfl
                    rw [← hw8, ← hhv]
                    clear hw8 hhv p1
                    go_wp2_with fail
                    refine (rbytes (x := x) (by omega) HN6 hn64 hkd1 hkd2 HBM R68).mono ?_
                    rintro e w9 ⟨A9, n9, c9, rfl, m9⟩
                    have C79 : Hid (Chg (fun _ => False) w7 w9) := C78.out.trans m9.chg (fun _ _ h => h)
                    have C9 : Hid (Chg (fun _ => False) wa w9) := C7.out.trans C79.out (fun _ _ h => h)
                    have R9 : Hid (Rd w9 .u8 A9 (recEnc k x)) := m9.rd
                    have L9 : Hid (n9 = (recEnc k x).length) := m9.len
                    have O79 := Lib.hid (O7.out.chg C79.out (fun _ _ h => h))
                    have O69 := Lib.hid (O67x.out.chg C79.out (fun _ _ h => h))
                    have BV9 := Lib.hid (BV8.out.chg m9.chg id)
                    have BX9 := Lib.hid (BX7.out.chg C79.out id)
                    have RD9 := Lib.hid (RD7.out.chg C79.out id (fun _ _ h => h))
                    have hn9 : n9 = (recHd k x).length + 4 := by rw [L9.out, recEnc_length]
                    have hn9b : n9 ≤ 4194340 := by
                      have h1 := vb_len10 (n := k) (by omega)
                      have h2 := vb_len10 (n := x.body.length) (by rw [← HN6.out]; omega)
                      rw [hn9, recHd_length, ← HN6.out]
                      rw [← HN6.out] at h2
                      omega
                    obtain ⟨nh, hnh⟩ : ∃ nh, nh = (recHd k x).length := ⟨_, rfl⟩
                    rw [← hnh] at hn9
                    have HNH := Lib.hid hnh
                    have HN9 := Lib.hid hn9
                    have e4 : (n9 : Int) - 4 = (nh : Int) := by omega
                    have e4w : IntKind.i64.wrap ((n9 : Int) - 4) = (nh : Int) := by rw [e4]; exact IntWalk.i64_in _ (by omega)
                    clear m9 q0 q1 hnh hn9
                    go_wp2_with fail
                    go_loopw [16] (fun i wr => ∃ j : Nat, j ≤ 4 ∧ i = .int .i64 j ∧ Hid (m7.take j = (sumB (vi (crc (recHd k x)))).take j) ∧ Hid (Chg (fun _ => False) w9 wr)) (fun i _ => 4 - (intOf i).toNat)
                    case atStart => exact ⟨0, by omega, rfl, rfl, Chg.refl _ _⟩
                    case round =>
                      obtain ⟨j, hj, rfl, hmj, hc⟩ := hrel
                      have BXr := Lib.hid (BX9.out.chg hc.out id)
                      have C9r : Hid (Chg (fun _ => False) wa wr) := C9.out.trans hc.out (fun _ _ h => h)
                      by_cases hlt : j < 4
                      · have hj7 : j < m7.length := by rw [HM7L.out]; exact hlt
                        obtain ⟨pa, _⟩ := (O79.out.chg hc.out (fun _ _ h => h)).cellAt hj7
                        have hjs : j < (sumB (vi (crc (recHd k x)))).length := hlt
                        have hjr : nh + j < (recEnc k x).length := by rw [← L9.out, HN9.out]; omega
                        obtain ⟨ad9, ha9, pb⟩ := (R9.out.below hc.out.done) (nh + j) hjr
                        subst ha9
                        have hgb : (recEnc k x)[nh + j] = (sumB (vi (crc (recHd k x))))[j] := by
                          simp only [recEnc]
                          rw [List.getElem_append_right (by rw [HNH.out]; omega)]
                          congr 1
                          rw [HNH.out]
                          omega
                        rw [hgb] at pb
                        obtain ⟨a, ha⟩ : ∃ a, a = m7[j] := ⟨_, rfl⟩
                        obtain ⟨b, hbb⟩ : ∃ b, b = (sumB (vi (crc (recHd k x))))[j] := ⟨_, rfl⟩
                        rw [← ha] at pa
                        rw [← hbb] at pb
                        have HA := Lib.hid ha
                        have HB := Lib.hid hbb
                        obtain ⟨U, hU⟩ : ∃ U, U = nh + j := ⟨_, rfl⟩
                        rw [← hU] at pb
                        have e5w : IntKind.i64.wrap ((nh : Int) + (j : Int)) = (U : Int) := by rw [show (nh : Int) + (j : Int) = (U : Int) by omega]; exact IntWalk.i64_in _ (by omega)
                        have y1 : (0 : Int) ≤ (U : Int) := by omega
                        have y2 : (U : Int) < (n9 : Int) := by have := HN9.out; omega
                        have y3 : (j : Int) < 4 := by omega
                        have y4 : (0 : Int) ≤ (j : Int) := by omega
                        clear ha hbb hgb hjr hU e4
                        by_cases hab : a = b
                        · have hab2 : (a != b) = false := by simp [hab]
                          have HAB := Lib.hid hab
                          clear hab
                          go_wp2_with fail
                          go_quiet (fail)
                          go_wp2_with fail
                          go_roundw
                          case rel => exact ⟨j + 1, by omega, by go_num, take_next hmj.out hj7 hjs (by rw [← HA.out, ← HB.out, HAB.out]), hc.out.drewN _⟩
                          case measure => simp [intOf]; omega
                        · have hab2 : (a != b) = true := by simp [hab]
                          have hnone : Hid (R = none) := by
                            rw [Hid, ← hR.out]
                            refine recRd_6 HU.out HU5.out (fun e => hab ?_)
                            rw [HD1.out] at e
                            have e2 : m7 = sumB (vi (crc (recHd k x))) := by rw [HM7.out]; exact e
                            rw [HA.out, HB.out]
                            simp only [e2]
                          clear hab
                          go_wp2_with fail
                          go_quiet (fail)
                          obtain ⟨wz, hwz⟩ : ∃ wz, wz = wr.drewN nq := ⟨_, rfl⟩
                          have Cz : Hid (Chg (fun _ => False) wa wz) := by rw [hwz]; exact C9r.out.drewN nq
                          have BXz : Hid (Blk wz h 31 [.int .i64 0, .slice none 0 0]) := by rw [hwz]; exact BXr.out.drewN nq
                          rw [← hwz]
                          clear hwz
                          obtain ⟨z1, z2, z3, z4, z5, z6⟩ := cell2_store BXz.out (.int .i64 0) (.slice none 0 0)
                          go_wp2_with fail
                          exact bodyPost_ret (v := .tuple #[.agg #[.int .i64 0, .slice none 0 0], .int .i64 0]) (by simp [results, Try.results67, go_sem, z5, z6]) rfl (rnext_no hnone.out (FIN.out _ _ _ Cz.out))
                      · obtain rfl : j = 4 := by omega
                        have hm7s : m7 = sumB (vi (crc (recHd k x))) := by
                          have := hmj.out
                          rw [List.take_of_length_le (by rw [HM7L.out]; exact Nat.le_refl _), List.take_of_length_le (by rw [sumB_length]; exact Nat.le_refl _)] at this
                          exact this
                        have hsome : Hid (R = some (x, at7)) := by
                          have := recRd_ok HF0.out HU.out HKD.out HK0.out HU5.out (by have := HLEN.out; omega) (by
                            rw [HD1.out, ← hm7s, HM7.out]
                            rfl)
                          rw [Hid, ← hR.out, this, HX.out, HAT7.out]
                          rfl
                        have O6r := Lib.hid (O69.out.chg hc.out (fun _ _ h => h))
                        have BVr := Lib.hid (BV9.out.chg hc.out id)
                        have RDr := Lib.hid (RD9.out.chg hc.out id (fun _ _ h => h))
                        have q0 := BVr.out.at_ (i := 0) rfl
                        have q1 := BVr.out.at_ (i := 1) rfl
                        clear hm7s e4 e4w
                        obtain ⟨z1, z2, z3, z4, z5', z6⟩ := cell2_store BXr.out (.int .i64 x.id) (.slice A6 n6 c6)
                        go_wp2_with fail
                        go_region_with (go_at_call 81; (with_reducible refine (placeF gR vR l at7 _ (Lib.hid (RDr.out.chg (by repeat (first | exact Chg.refl _ _ | refine Chg.drew ?_ | refine Chg.drewN ?_ _)) id (fun _ _ h => h)))).mono ?_); rintro e w11 ⟨rfl, rfl⟩)
                        all_goals
                          go_wp2_with fail
                          refine bodyPost_ret (v := .tuple #[.agg #[.int .i64 x.id, .slice A6 n6 c6], .int .i64 (at7 : Nat)]) (by simp [results, Try.results67, go_sem, z5', z6]) rfl ?_
                          rw [hsome.out]
                          exact ⟨A6, n6, c6, rfl, (O6r.out.chg (S := fun y => y = h) (((Chg.refl (fun y => y = h) wr).setCell (p := ⟨h, 0, none⟩) (fun _ => rfl) _).setCell (p := ⟨h, 1, none⟩) (fun _ => rfl) _) (fun y hy e => OwnV.type_ne O6r.out BXr.out (by decide) (by rw [hy, e]))).drew, HN6.out, (FIN.out _ _ _ C9r.out).drew, fun y hy => Nat.le_trans CA.out.size (F6.out y hy)⟩
              · have hnone : Hid (R = none) := by
                  rw [Hid, ← hR.out]
                  exact recRd_4 HU.out HU5.out he5
                have hne5 : (er5 != 0) = true := by simp [he5]
                clear he5
                obtain ⟨z1, z2, z3, z4, z5, z6⟩ := cell2_store BX5.out (.int .i64 0) (.slice none 0 0)
                go_wp2_with fail
                exact bodyPost_ret (v := .tuple #[.agg #[.int .i64 0, .slice none 0 0], .int .i64 0]) (by simp [results, Try.results67, go_sem, z5, z6]) rfl (rnext_no hnone.out (FIN.out _ _ _ C5.out))
        · have hnone : Hid (R = none) := by
            rw [Hid, ← hR.out]
            by_cases hgt : x3 > (k : Int)
            · rw [if_pos hgt] at hul
              exact recRd_2 hul (.inl (by decide))
            · rw [if_neg hgt] at hul
              exact recRd_2 hul (.inr hx3)
          have hxx : (x3 != (k : Int)) = true := by simp [hx3]
          clear hul hx3
          obtain ⟨z1, z2, z3, z4, z5, z6⟩ := cell2_store BX3.out (.int .i64 0) (.slice none 0 0)
          go_wp2_with fail
          exact bodyPost_ret (v := .tuple #[.agg #[.int .i64 0, .slice none 0 0], .int .i64 0]) (by simp [results, Try.results67, go_sem, z5, z6]) rfl (rnext_no hnone.out (FIN.out _ _ _ C3.out))
      · have hnone : Hid (R = none) := by
          rw [Hid, ← hR.out]
          exact recRd_2 (x := (urd (l.drop 1) k).1) (k := (urd (l.drop 1) k).2.1) (e := (urd (l.drop 1) k).2.2) rfl (.inl (HLIM.out.1 he3))
        have hne3 : (er3 != 0) = true := by simp [he3]
        clear he3
        obtain ⟨z1, z2, z3, z4, z5, z6⟩ := cell2_store BX3.out (.int .i64 0) (.slice none 0 0)
        go_wp2_with fail
        exact bodyPost_ret (v := .tuple #[.agg #[.int .i64 0, .slice none 0 0], .int .i64 0]) (by simp [results, Try.results67, go_sem, z5, z6]) rfl (rnext_no hnone.out (FIN.out _ _ _ C3.out))
    · have hnone : Hid (R = none) := by
        rw [Hid, ← hR.out]
        exact recRd_1 (by
          rw [HF0.out]
          intro e
          injection e with e
          exact h167 e)
      have hne : (f0 != 167) = true := by simp [h167]
      clear h167
      obtain ⟨z1, z2, z3, z4, z5, z6⟩ := cell2_store BX2.out (.int .i64 0) (.slice none 0 0)
      go_wp2_with fail
      exact bodyPost_ret (v := .tuple #[.agg #[.int .i64 0, .slice none 0 0], .int .i64 0]) (by simp [results, Try.results67, go_sem, z5, z6]) rfl (rnext_no hnone.out (FIN.out _ _ _ C2.out))
end Go.Proofs.Ytlnomadhgoblkaa.Kit
-- The walk of JournalRefused.
set_option linter.unusedVariables false
set_option linter.unusedSimpArgs false
namespace Go.Proofs.Ytlnomadhgoblkaa.Kit
open Go.RowKit
/-- Append of a kind that is none: nothing changes -/
theorem jappendBad {g : Nat} {x A : _} {m c : Nat} {w : World} (h : x < 1 ∨ (255 : Int) < x) :
    Calls Try.prog 19 #[.pointer (some ⟨g, 0, none⟩), .agg #[.int .i64 x, .slice A m c]] w fun e w' => e = .returned (.int .i64 1) ∧ Chg (fun _ => False) w w' := by
  by_cases h1 : x < 1
  · go_enter Try.func19, Try.ntmps19
    go_wp2_with fail
    go_ret
    exact ⟨rfl, (Chg.refl _ w).alloc _⟩
  · have h2 : 255 < x := by omega
    clear h
    go_enter Try.func19, Try.ntmps19
    go_wp2_with fail
    go_ret
    exact ⟨rfl, (Chg.refl _ w).alloc _⟩
theorem open_magic {b : List Int} {k : Nat} (hb : b.length ≤ 268435456) (hk : k < b.length) (hk8 : k < 8) (h : b[k]? ≠ jhead[k]?) : jopenRes b = (none, 0, 43) := by
  rw [jopenRes, if_neg (by omega), if_pos]
  intro e
  apply h
  have := congrArg (·[k]?) e
  simp only [List.getElem?_take, if_pos hk8, if_pos hk] at this
  exact this
set_option maxRecDepth 20000 in
set_option maxHeartbeats 6400000 in
theorem journalRefusedWalk (w : World) (A : Option Addr) (c : Nat) (l : List SecV) (hr : Hid (RdSecs w A l)) (hl : l.length ≤ 4398046511104) (hsz : Hid (∀ x ∈ l, x.body.length ≤ 140737488351232)) (q : Int) (q0 : -9223372036854775808 ≤ q) (q1 : q ≤ 9223372036854775807)
    (B : Option Addr) (cb : Nat) (ot : List Int) (hrb : Hid (Rd w .u8 B ot)) (hlb : ot.length ≤ 140737488351232) (hbb : Byt ot) (hcb : ot.length ≤ cb) (hmb : cb ≤ maxLen) :
    Calls Try.prog 6 #[.slice A l.length c, .int .i64 q, .slice B ot.length cb] w fun e w' => e = .returned (.bool true) ∧ Below w.heap.size w w' := by
  obtain ⟨n, hn⟩ : ∃ n : Nat, n = l.length := ⟨_, rfl⟩
  obtain ⟨no, hno⟩ : ∃ n : Nat, n = ot.length := ⟨_, rfl⟩
  have HN := Lib.hid hn
  have HNO := Lib.hid hno
  have HBB := Lib.hid hbb
  rw [← hn, ← hno]
  rw [← hn] at hl
  rw [← hno] at hlb hcb
  clear hn hno hbb
  go_enter Try.func6, Try.ntmps6
  go_wp2_with fail
  refine (filledC HN hl hr hsz).mono ?_
  rintro e w1 ⟨gj, D, A1, n1, c1, ls, rfl, f1, m2, m3, m4⟩
  have F1 := Lib.hid f1
  have C1 := Lib.hid m4
  have hn1 : n1 ≤ 33554432 := f1.nb
  have hgl : Hid (∀ x ∈ ls, GoodRec x) := f1.good
  have hsm : Hid ((jnlBytes ls).length ≤ 268435456) := f1.small
  have hln : Hid (n1 = ls.length) := f1.len
  clear f1 m2 m3 m4
  go_wp2_with fail
  refine (jbytesC hsm (Lib.hid F1.out.jn)).mono ?_
  rintro e w3 ⟨A3, n3, c3, rfl, m3, hn3, hc3⟩
  have F3 := Lib.hid (F1.out.old m3.chg)
  have C3 : Hid (Chg (fun _ => False) w w3) := C1.out.trans m3.chg (fun _ _ h => h)
  have R3 : Hid (Rd w3 .u8 A3 (jnlBytes ls)) := m3.rd
  have L3 : Hid (n3 = (jnlBytes ls).length) := m3.len
  have hl3 : Hid ((jnlBytes ls).length ≤ 140737488355328) := by have := hsm.out; rw [Hid]; omega
  clear m3
  obtain ⟨bad, hbad⟩ : ∃ b : Bool, b = decide (q < 1 ∨ 255 < q) := ⟨_, rfl⟩
  have HBAD := Lib.hid hbad
  go_upto_region 5 with fail
  go_cut [29] from 15 to 50 (fun s wx => s = .bool bad ∧ wx = w3)
  case first =>
    by_cases h1 : q < 1
    · have e1 : bad = true := by rw [hbad]; simp [h1]
      clear hbad
      subst e1
      go_wp2_with fail
      go_meet
      case rel => exact ⟨rfl, rfl⟩
    · by_cases h2 : 255 < q
      · have e1 : bad = true := by rw [hbad]; simp [h2]
        clear hbad
        subst e1
        go_wp2_with fail
        go_meet
        case rel => exact ⟨rfl, rfl⟩
      · have e1 : bad = false := by rw [hbad]; simp [h1, h2]
        clear hbad
        subst e1
        go_wp2_with fail
        go_meet
        case rel => exact ⟨rfl, rfl⟩
  case rest =>
    obtain ⟨rfl, rfl⟩ := hcut
    clear hbad
    go_upto_if 29 with fail
    go_cut [] from 15 to 50 (fun wx => Hid (Chg (fun _ => False) w wx))
    case first =>
      cases bad with
      | true =>
        have hb1 : q < 1 ∨ 255 < q := of_decide_eq_true HBAD.out.symm
        have HB1 := Lib.hid hb1
        clear hb1
        go_wp2_with fail
        refine (jappendBad HB1.out).mono ?_
        rintro e w4 ⟨rfl, k1⟩
        have F4 := Lib.hid (F3.out.old k1)
        have C4 : Hid (Chg (fun _ => False) w w4) := C3.out.trans k1 (fun _ _ h => h)
        have R4 : Hid (Rd w4 .u8 A3 (jnlBytes ls)) := R3.out.below k1.done
        clear k1
        go_wp2_with fail
        refine (holdsC F4 (Nat.le_refl _) (Lib.hid F4.out.jn) (by rw [Hid, F4.out.len, List.take_length])).mono ?_
        rintro e w5 ⟨rfl, k2⟩
        have F5 := Lib.hid (F4.out.old k2)
        have C5 : Hid (Chg (fun _ => False) w w5) := C4.out.trans k2 (fun _ _ h => h)
        have R5 : Hid (Rd w5 .u8 A3 (jnlBytes ls)) := R4.out.below k2.done
        clear k2
        go_wp2_with fail
        refine (jbytesC hsm (Lib.hid F5.out.jn)).mono ?_
        rintro e w7 ⟨A7, n7, c7, rfl, m3, hn7, hc7⟩
        have C7 : Hid (Chg (fun _ => False) w w7) := C5.out.trans m3.chg (fun _ _ h => h)
        have R7 : Hid (Rd w7 .u8 A3 (jnlBytes ls)) := R5.out.below m3.chg.done
        have S7 : Hid (Rd w7 .u8 A7 (jnlBytes ls)) := m3.rd
        have L7 : Hid (n7 = (jnlBytes ls).length) := m3.len
        clear m3
        go_wp2_with fail
        refine (sameBytes' (b := true) L7 L3 hl3 S7 R7 (by rw [Hid]; simp)).mono ?_
        rintro e wq ⟨rfl, qa, rfl⟩
        go_wp2_with fail
        go_meet
        case rel => exact C7.out.drewN _
      | false =>
        go_wp2_with fail
        go_meet
        case rel => exact C3.out
    case rest =>
      have CW0 := hcut
      clear hcut
      go_wp2_with fail
      go_loopw [11] (fun i wr => ∃ k : Nat, k ≤ no ∧ k ≤ 8 ∧ i = .int .i64 k ∧ Hid (Chg (fun _ => False) w wr)) (fun i _ => 8 - (intOf i).toNat)
      case atStart => exact ⟨0, Nat.zero_le _, by omega, rfl, CW0.out⟩
      case round =>
        obtain ⟨k, hk, hk8, rfl, CW⟩ := hrel
        have RB : Hid (Rd wr .u8 B ot) := hrb.out.below CW.out.done
        by_cases hlt : k < no
        · by_cases hlt8 : k < 8
          · have q2 : (0 : Int) ≤ (k : Int) := by omega
            have q3 : (k : Int) < (no : Int) := by omega
            have q4 : (k : Int) < 8 := by omega
            obtain ⟨adb, hB, hcb1⟩ := RB.out k (by rw [← HNO.out]; exact hlt)
            subst hB
            have hot : k < ot.length := by rw [← HNO.out]; exact hlt
            obtain ⟨y, hy⟩ : ∃ y, y = ot[k] := ⟨_, rfl⟩
            rw [← hy] at hcb1
            have HY : Hid (ot[k]? = some y) := by rw [Hid, hy, List.getElem?_eq_getElem]
            obtain ⟨z, hz⟩ : ∃ z, jhead[k]? = some z := ⟨jhead[k]'(by rw [jhead_length]; exact hlt8), List.getElem?_eq_getElem _⟩
            have hidx : ∀ h, ((({ data := #[80, 65, 89, 74, 82, 78, 76, 49] } : ByteArray)[k]'h).toNat : Int) = z := by
              have hcas : k = 0 ∨ k = 1 ∨ k = 2 ∨ k = 3 ∨ k = 4 ∨ k = 5 ∨ k = 6 ∨ k = 7 := by omega
              intro h
              rcases hcas with rfl | rfl | rfl | rfl | rfl | rfl | rfl | rfl <;> (simp only [jhead, List.getElem?_cons_zero, List.getElem?_cons_succ, Option.some.injEq] at hz; subst hz; rfl)
            have HZ := Lib.hid hz
            clear hz hy
            obtain ⟨go, hgo⟩ : ∃ b : Bool, b = (decide (y ≠ z) && decide (no ≤ 268435456)) := ⟨_, rfl⟩
            have HGO := Lib.hid hgo
            clear hgo
            go_upto_region 12 with fail
            go_cut [73] (fun s wx => s = .bool go ∧ Hid (∃ q, wx = wr.drewN q))
            case first =>
              by_cases hyz : y = z
              · have hg : go = false := by rw [HGO.out]; simp [hyz]
                subst hg
                subst hyz
                go_quiet (fail)
                go_wp2_with fail
                go_meet
                case rel => exact ⟨rfl, _, rfl⟩
              · have hy2 : (y != z) = true := by simp [hyz]
                by_cases hno : no ≤ 268435456
                · have hg : go = true := by rw [HGO.out]; simp [hyz, hno]
                  have hno2 : (no : Int) ≤ 268435456 := by omega
                  clear hyz
                  subst hg
                  go_quiet (fail)
                  go_wp2_with fail
                  go_meet
                  case rel => exact ⟨rfl, _, rfl⟩
                · have hg : go = false := by rw [HGO.out]; simp [hno]
                  have hno2 : ¬ (no : Int) ≤ 268435456 := by omega
                  clear hyz
                  subst hg
                  go_quiet (fail)
                  go_wp2_with fail
                  go_meet
                  case rel => exact ⟨rfl, _, rfl⟩
            case rest =>
              obtain ⟨rfl, hcw⟩ := hcut
              obtain ⟨qq, hqq⟩ := hcw.out
              have C9 : Hid (Chg (fun _ => False) w wc) := by rw [hqq]; exact CW.out.drewN qq
              have R9 : Hid (Rd wc .u8 (some adb) ot) := by rw [hqq]; exact RB.out.below ((Chg.refl (fun _ => False) _).drewN qq).done
              have HQQ := Lib.hid hqq
              clear hqq hcb1
              cases go with
              | true =>
                have h2 : y ≠ z ∧ no ≤ 268435456 := by
                  have := HGO.out.symm
                  rw [Bool.and_eq_true, decide_eq_true_eq, decide_eq_true_eq] at this
                  exact this
                have hR : Hid (jopenRes ot = (none, 0, 43)) := open_magic (k := k) (by rw [← HNO.out]; exact h2.2) hot hlt8 (by
                  rw [HY.out, HZ.out]
                  intro e
                  injection e with e
                  exact h2.1 e)
                clear h2
                go_wp2_with fail
                refine (jopen HNO hcb hmb HBB R9).mono ?_
                rw [hR.out]
                rintro e w10 ⟨rfl, k1⟩
                have C10 : Hid (Chg (fun _ => False) w w10) := C9.out.trans k1 (fun _ _ h => h)
                clear k1
                go_wp2_with fail
                go_ret
                exact ⟨rfl, C10.out.done⟩
              | false =>
                go_wp2_with fail
                go_roundw
                case rel => exact ⟨k + 1, by omega, by omega, by go_num, C9⟩
                case measure => simp [intOf]; omega
          · have q4 : ¬ (k : Int) < 8 := by omega
            have q3 : (k : Int) < (no : Int) := by omega
            go_wp2_with fail
            go_ret
            exact ⟨rfl, CW.out.done⟩
        · have q3 : ¬ (k : Int) < (no : Int) := by omega
          go_wp2_with fail
          go_ret
          exact ⟨rfl, CW.out.done⟩
end Go.Proofs.Ytlnomadhgoblkaa.Kit
