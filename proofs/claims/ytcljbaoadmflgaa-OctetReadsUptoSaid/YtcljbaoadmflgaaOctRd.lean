/- The walk of OctetReads. -/
import Derived.Test.YtcljbaoadmflgaaProg
import Derived.Test.YtcljbaoadmflgaaPairS
import Derived.Test.YtcljbaoadmflgaaBookT
import Derived.Test.YtcljbaoadmflgaaOctPr
set_option linter.unusedVariables false
set_option linter.unusedSimpArgs false
namespace Go.Proofs.Ytcljbaoadmflgaa.Kit
open Go.RowKit
theorem tk_all (n : Nat) (x : Int) : tk (List.replicate n x) 0 n = (List.replicate n x, n, 0) := by
  unfold tk
  rw [if_neg (by omega), if_neg (by simp)]
  simp
set_option maxRecDepth 20000 in
set_option maxHeartbeats 3200000 in
theorem readWalk (late : Bool) (w : World) (A : Option Addr) (n c : Nat) (l : List Int) (hA : Hid (Rd w .u8 A l)) (HN : Hid (n = l.length)) (hn : n ≤ 1048576) (HB : Hid (Byt l)) (hc : n ≤ c)
    (C : Option Addr) (no cc : Nat) (os : List OpV) (hC : Hid (RdOps w C os)) (HNO : Hid (no = os.length)) (hos : no ≤ 1048576) (hcc : no ≤ cc) :
    Calls Try.prog 29 #[.slice A n c, .slice C no cc, .bool late] w fun e w' => e = .returned (.bool true) ∧ Chg (fun _ => False) w w' := by
  have HL : Hid (l.length ≤ 140737488351232) := by have := HN.out; rw [Hid]; omega
  have hle : Hid (l.length ≤ 140737488355328) := by have := HN.out; rw [Hid]; omega
  have hl20 : Hid (l.length ≤ 1048576) := by have := HN.out; rw [Hid]; omega
  go_enter Try.func29, Try.ntmps29
  go_wp2_with fail
  refine (show Calls Try.prog 16 #[.slice A n c] w _ from HN.out ▸ hand A c l _ HL.out hA).mono ?_
  rintro e w1 ⟨g, rfl, k1, k2, k3⟩
  have I1 := Lib.hid k1; have hg := Lib.hid k2; have C1 := Lib.hid k3
  clear k1 k2 k3
  have gl := Lib.hid (I1.out.lt g rfl)
  have hm90 : (l ++ marks).length = n + 90 := by rw [List.length_append, marks_length, HN.out]
  have HM := Lib.hid hm90
  clear hm90
  have V1 : Hid (Rd w1 .u8 (some ⟨g, 0, none⟩) l) := by
    have := (I1.out.rd (A := some ⟨g, 0, none⟩) (c := n + 90) (by rw [HM.out])).take l.length
    rw [List.take_left] at this
    exact this
  have b1 : (n : Int) ≤ (n : Int) + 90 := by omega
  have b0 : (0 : Int) ≤ (n : Int) := by omega
  go_wp2_with fail
  refine (newReader' HN hle V1).mono ?_
  rintro e w2 ⟨gP, v, rfl, k1, k2, k3, k4⟩
  have P2 := Lib.hid k1; have G2 := Lib.hid k2; have V2 := Lib.hid k3; have C2 := Lib.hid (C1.out.trans k4 (fun _ _ h => h)); have I2 := Lib.hid (I1.out.chg k4 (fun _ _ h => h))
  have A2 : Hid (Rd w2 .u8 A l) := hA.out.below C2.out.done
  have G2' : Hid (w.heap.size ≤ gP) := Nat.le_trans C1.out.size G2.out
  have s12 := Lib.hid k4.size
  clear k1 k2 k3 k4 C1 V1 I1 G2
  go_wp2_with fail
  refine (newReaderF HN hle A2).mono ?_
  rintro e w3 ⟨gR, vR, rfl, k1, k2, k3, k4⟩
  have Q3 := Lib.hid k1; have G3 := Lib.hid k2; have V3 := Lib.hid k3; have P3 := Lib.hid (P2.out.chg k4 id (fun _ _ => id)); have C3 := Lib.hid (C2.out.trans k4 (fun _ _ h => h)); have I3 := Lib.hid (I2.out.chg k4 (fun _ _ h => h))
  have G3' : Hid (w.heap.size ≤ gR) := Nat.le_trans C2.out.size G3.out
  have hvg : Hid (v.ownBlock ≠ some g ∧ vR.ownBlock ≠ some g) := ⟨fun e => by have := V2.out g e; have := gl.out; omega, fun e => by have := V3.out g e; have := gl.out; have := s12.out; omega⟩
  clear k1 k2 k3 k4 A2 C2 I2 P2 G3
  obtain ⟨w5, hw5⟩ : ∃ w5, w5 = w3.alloc (.cells #[.pointer (some ⟨gP, 0, none⟩), .pointer (some ⟨gR, 0, none⟩), .slice none 0 0, .bool late, .slice none 0 0, .slice none 0 0] 51) := ⟨_, rfl⟩
  obtain ⟨gp, hgp⟩ : ∃ gp, gp = w3.heap.size := ⟨_, rfl⟩
  have C5 : Hid (Chg (fun _ => False) w w5) := by rw [hw5]; exact C3.out.alloc _
  have PI : Hid (PairI late gp gP gR v vR l 0 0 (fun _ => False) 0 w5) := by
    rw [hw5, hgp]
    exact pairNew (Blk.new w3 _ _) (P3.out.chg (S := fun _ => False) ((Chg.refl _ w3).alloc _) id (fun _ _ => id)) (Q3.out.chg (S := fun _ => False) ((Chg.refl _ w3).alloc _) id (fun _ _ => id))
  have I5 : Hid (OwnB w5 (.slice (some ⟨g, 0, none⟩) (n + 90) (n + 90)) (l ++ marks)) := by rw [hw5]; exact I3.out.chg (S := fun _ => False) ((Chg.refl _ w3).alloc _) (fun _ _ h => h)
  have hgg : Hid (w.heap.size ≤ gp) := by rw [hgp]; exact C3.out.size
  clear P3 Q3 I3 V2 V3
  go_wp2_with fail
  rw [← hw5, ← hgp]
  clear hgp hw5 C3
  have p0 := PI.out.c0
  have A5 : Hid (Rd w5 .u8 A l) := hA.out.below C5.out.done
  have J5 : Hid (Rd w5 .u8 (some ⟨g, 0, none⟩) (l ++ marks)) := I5.out.rd (by rw [HM.out])
  refine (untouched (some ⟨g, 0, none⟩) A (n + 90) c (n + 90) n (l ++ marks) l w5 HM.out.symm HN.out (Nat.le_refl _) (by rw [HM.out, HN.out]) HL.out J5 A5).mono ?_
  rintro e w' ⟨rfl, nq, rfl⟩
  rw [show decide (l ++ marks = l ++ marks) = true from decide_eq_true rfl]
  have p0 : (w5.drewN nq).cell? ⟨gp, 0, none⟩ = some (.pointer (some ⟨gP, 0, none⟩)) := p0
  go_wp2_with fail
  have PI6 : Hid (PairI late gp gP gR v vR l 0 0 (fun _ => False) 0 (w5.drewN nq)) := PI.out.chg0 (S := fun _ => False) ((Chg.refl _ w5).drewN nq) (fun _ h => h.elim)
  have I6 : Hid (OwnB (w5.drewN nq) (.slice (some ⟨g, 0, none⟩) (n + 90) (n + 90)) (l ++ marks)) := I5.out.drewN nq
  have C6 : Hid (Chg (fun _ => False) w (w5.drewN nq)) := C5.out.drewN nq
  obtain ⟨w6, hw6⟩ : ∃ w6, w6 = w5.drewN nq := ⟨_, rfl⟩
  rw [← hw6] at PI6 I6 C6 ⊢
  clear PI I5 C5 A5 J5 p0 hw6
  go_loopw [10] (fun i wr => ∃ k : Nat, k ≤ n + 90 ∧ i = .int .i64 k ∧ Hid (OwnB wr (.slice (some ⟨g, 0, none⟩) (n + 90) (n + 90)) (fillUp (l ++ marks) 238 k)) ∧ Hid (Chg (· = g) w6 wr)) (fun i _ => n + 90 - (intOf i).toNat)
  case atStart => exact ⟨0, Nat.zero_le _, rfl, by have := I6.out; rw [Hid]; simpa [fillUp] using this, Chg.refl _ _⟩
  case round =>
    obtain ⟨k, hk, rfl, IK, CK⟩ := hrel
    by_cases hlt : k < n + 90
    · have hll := fillUp_length (l ++ marks) 238 k (by rw [HM.out]; exact hk)
      rw [HM.out] at hll
      obtain ⟨⟨y, hce⟩, hfr⟩ : (∃ y, wr.cell? ⟨g, k, none⟩ = some y) ∧ wr.frozen? ⟨g, k, none⟩ = false := by
        have := Own.cellAt IK.out (i := k) (by rw [hll]; exact hlt)
        exact ⟨⟨_, this.1⟩, this.2⟩
      have b2 : (0 : Int) ≤ (k : Int) := by omega
      have b3 : (k : Int) < (n : Int) + 90 := by omega
      have HLL := Lib.hid hll
      clear hll
      go_wp2_with fail
      go_roundw
      case rel =>
        refine ⟨k + 1, by omega, by go_num, ?_, CK.out.setg k _⟩
        have := IK.out.store (i := k) (by rw [HLL.out]; exact hlt) 238
        rw [fillUp_set (l ++ marks) 238 k (by rw [HM.out]; exact hlt)] at this
        exact this
      case measure => simp [intOf]; omega
    · obtain rfl : k = n + 90 := by omega
      have hfull : fillUp (l ++ marks) 238 (n + 90) = List.replicate (n + 90) 238 := by
        have := fillUp_full (l ++ marks) 238
        rw [HM.out] at this
        exact this
      have IF := IK.out
      rw [hfull] at IF
      have J6 := Lib.hid IF
      have V6 : Hid (Rd wr .u8 (some ⟨g, 0, none⟩) (List.replicate n 238)) := by
        have := (IF.rd (A := some ⟨g, 0, none⟩) (c := n + 90) (by simp)).take n
        rw [List.take_replicate, Nat.min_eq_left (by omega)] at this
        exact this
      have HR : Hid (n = (List.replicate n (238 : Int)).length) := by rw [Hid]; simp
      have HR2 : Hid ((List.replicate n (238 : Int)).length ≤ 140737488355328) := by rw [Hid]; simp; omega
      have hng : Hid (g ≠ gp ∧ g ≠ gP ∧ g ≠ gR ∧ v.ownBlock ≠ some g ∧ vR.ownBlock ≠ some g) := by
        obtain ⟨cur', hcu⟩ := OwnV.typed I6.out g rfl
        obtain ⟨rest, hbp⟩ := PI6.out.blk
        exact ⟨hcu.type_ne hbp (by decide), hcu.type_ne PI6.out.p.blk (by decide), hcu.type_ne PI6.out.r.blk (by decide), hvg.out.1, hvg.out.2⟩
      have PI7 : Hid (PairI late gp gP gR v vR l 0 0 (fun _ => False) 0 wr) := PI6.out.chg CK.out (fun _ _ h => h) hng.out.1.symm hng.out.2.1.symm hng.out.2.2.1.symm (fun x hx e => hng.out.2.2.2.1 (by rw [hx, e])) (fun x hx e => hng.out.2.2.2.2 (by rw [hx, e]))
      have C7 : Hid (Chg (fun _ => False) w wr) := C6.out.trans CK.out (fun x hx e => by have := hg.out; omega)
      clear IF IK CK hfull PI6 I6 C6
      go_wp2_with fail
      refine (newReader' HR HR2 V6).mono ?_
      rintro e w8 ⟨gN, vN, rfl, k1, k2, k3, k4⟩
      have N8 := Lib.hid k1; have G8 := Lib.hid k2; have C8 := Lib.hid (C7.out.trans k4 (fun _ _ h => h)); have J8 := Lib.hid (J6.out.chg k4 (fun _ _ h => h)); have PI8 := Lib.hid (PI7.out.chg0 k4 (fun _ h => h.elim))
      have hG8 := Lib.hid C7.out.size
      have hPN : Hid (gP < gN) := Nat.lt_of_lt_of_le PI7.out.p.blk.lt k2
      clear k1 k2 k3 k4 V6 J6 PI7 C7
      go_wp2_with fail
      go_loopw [12] (fun i wr => ∃ k : Nat, k ≤ no ∧ i = .int .i64 k ∧ ∃ a1 k1 D, k1 ≤ k ∧ Hid (PairI late gp gP gR v vR l a1 a1 D k1 wr) ∧ Hid (∀ x, D x → w8.heap.size ≤ x) ∧ Hid (Chg (fun x => x = gp ∨ x = gP ∨ x = gR) w8 wr)) (fun i _ => no - (intOf i).toNat)
      case atStart => exact ⟨0, Nat.zero_le _, rfl, 0, 0, _, Nat.le_refl _, PI8.out, fun _ h => h.elim, Chg.refl _ _⟩
      case round =>
        obtain ⟨k, hk3, rfl, a1, k1, D, hk1, PK, HD, CK⟩ := hrel
        by_cases hlt2 : k < no
        · have hkl : k < os.length := by rw [← HNO.out]; exact hlt2
          obtain ⟨ad, rfl, f0, f1, f2, fo⟩ := hC.out k hkl
          have CW : Hid (Chg (fun _ => False) w wr) := C8.out.trans CK.out (fun x hx e => by
            rcases e with rfl | rfl | rfl
            · have := hgg.out; omega
            · have := G2'.out; omega
            · have := G3'.out; omega)
          replace f0 := CW.out.cell (fun h => h) f0
          replace f1 := CW.out.cell (fun h => h) f1
          replace f2 := CW.out.cell (fun h => h) f2
          obtain ⟨o, hoo⟩ : ∃ o, o = os[k] := ⟨_, rfl⟩
          rw [← hoo] at f0 f1 f2 fo
          have FO := Lib.hid fo
          have b1 : (0 : Int) ≤ (k : Int) := by omega
          have b2 : (k : Int) < (no : Int) := by omega
          clear hoo hkl fo
          go_wp2_with fail
          refine (step o FO.out hl20.out (by omega) HB PK).mono ?_
          rintro e w9 ⟨rfl, a2, k2, D2, h1, h2, h3, h4⟩
          have P9 := Lib.hid h2
          have D9 : Hid (∀ x, D2 x → w8.heap.size ≤ x) := fun x hx => (h3 x hx).elim (HD.out x) (Nat.le_trans CK.out.size)
          have C9 : Hid (Chg (fun x => x = gp ∨ x = gP ∨ x = gR) w8 w9) := CK.out.trans h4 (fun x hx e => by
            rcases e with e | e | e | e
            · exact .inl e
            · exact .inr (.inl e)
            · exact .inr (.inr e)
            · have := HD.out x e
              omega)
          clear h2 h3 h4
          go_wp2_with fail
          refine (keptI late gp 51 _ D2 k2 w9 P9.out.book (by omega) 2 rfl).mono ?_
          rintro e w10 ⟨rfl, rfl⟩
          go_wp2_with fail
          go_roundw
          case rel => exact ⟨k + 1, by omega, by go_num, a2, k2, D2, by omega, P9.out, D9.out, C9.out⟩
          case measure => simp [intOf]; omega
        · obtain rfl : k = no := by omega
          go_wp2_with fail
          have nN : Hid (¬ (gN = gp ∨ gN = gP ∨ gN = gR)) := by
            obtain ⟨rest, hbp⟩ := PI8.out.blk
            intro e
            rcases e with e | e | e
            · exact N8.out.blk.type_ne hbp (by decide) e
            · have := hPN.out; omega
            · exact N8.out.blk.type_ne PI8.out.r.blk (by decide) e
          have nV : Hid (∀ x, vN.ownBlock = some x → ¬ (x = gp ∨ x = gP ∨ x = gR)) := fun x hx e => by
            obtain ⟨rest, hbp⟩ := PI8.out.blk
            rcases e with rfl | rfl | rfl
            · exact OwnV.type_ne N8.out.own hbp (by decide) hx
            · exact OwnV.type_ne N8.out.own PI8.out.p.blk (by decide) hx
            · exact OwnV.type_ne N8.out.own PI8.out.r.blk (by decide) hx
          have JW : Hid (OwnB wr (.slice (some ⟨g, 0, none⟩) (n + 90) (n + 90)) (List.replicate (n + 90) 238)) := J8.out.chg CK.out (fun x hx e => by
            simp [Value.ownBlock] at hx
            subst hx
            obtain ⟨h1, h2, h3, _⟩ := hng.out
            rcases e with e | e | e
            · exact h1 e
            · exact h2 e
            · exact h3 e)
          have NW : Hid (Rdr wr gN vN (List.replicate n 238) 0) := N8.out.chg CK.out nN.out nV.out
          have nD : Hid (¬ D gN ∧ ∀ x, D x → w8.heap.size ≤ x) := ⟨fun h => by have := HD.out gN h; have := N8.out.blk.lt; omega, HD.out⟩
          clear p0
          go_loop [15] (fun i => ∃ q : Nat, q ≤ n + 90 ∧ i = .int .i64 q) (fun i => n + 90 - (intOf i).toNat)
          case atStart => exact ⟨0, Nat.zero_le _, rfl⟩
          case round =>
            obtain ⟨q, hq, rfl⟩ := hrel
            by_cases hlt3 : q < n + 90
            · have hce : wr.cell? ⟨g, q, none⟩ = some (.int .u8 238) := by
                have := (Own.cellAt JW.out (i := q) (by simp; omega)).1
                rw [List.getElem_replicate] at this
                exact this
              have b2 : (0 : Int) ≤ (q : Int) := by omega
              have b3 : (q : Int) < (n : Int) + 90 := by omega
              go_wp2_with fail
              go_round
              case rel => exact ⟨q + 1, by omega, by go_num⟩
              case measure => simp [intOf]; omega
            · obtain rfl : q = n + 90 := by omega
              have HT : Hid (tk (List.replicate n 238) 0 n = (List.replicate n 238, n, 0)) := tk_all n 238
              have VW : Hid (Rd wr .u8 (some ⟨g, 0, none⟩) (List.replicate n 238)) := by
                have := (JW.out.rd (A := some ⟨g, 0, none⟩) (c := n + 90) (by simp)).take n
                rw [List.take_replicate, Nat.min_eq_left (by omega)] at this
                exact this
              have ngN : Hid (g ≠ gN) := by
                obtain ⟨cur', hcu⟩ := OwnV.typed JW.out g rfl
                exact hcu.type_ne NW.out.blk (by decide)
              go_wp2_with fail
              refine (takeP HT NW).mono ?_
              rintro e w9 ⟨u, rfl, k4, k5, k6, k2⟩
              obtain ⟨A1, c1, hu, _, _⟩ := k4.slice
              rw [List.length_replicate] at hu
              subst hu
              have K4 := Lib.hid k4
              have R9 : Hid (Rd w9 .u8 A1 (List.replicate n 238)) := k4.rd (by rw [← HR.out])
              have S9 : Hid (Rd w9 .u8 (some ⟨g, 0, none⟩) (List.replicate n 238)) := VW.out.chg k2 (fun ad e _ h => by injection e with e; subst e; exact ngN.out h)
              have P9 : Hid (PairI late gp gP gR v vR l a1 a1 D k1 w9) := PK.out.chg k2 (fun x h hd => nD.out.1 (h ▸ hd)) (fun e => nN.out (.inl e.symm)) (fun e => nN.out (.inr (.inl e.symm))) (fun e => nN.out (.inr (.inr e.symm))) (fun x hx e => by
                subst e
                exact OwnV.type_ne PK.out.p.own NW.out.blk (by decide) hx) (fun x hx e => by
                subst e
                exact OwnV.type_ne PK.out.r.own NW.out.blk (by decide) hx)
              have C9 : Hid (Chg (fun _ => False) w w9) := (C8.out.trans CK.out (fun x hx e => by
                rcases e with rfl | rfl | rfl
                · have := hgg.out; omega
                · have := G2'.out; omega
                · have := G3'.out; omega)).trans k2 (fun x hx e => by
                subst e
                have h1 := G8.out
                have h2 := hG8.out
                omega)
              clear k4 k5 k6 k2
              cases late
              · go_wp2_with fail
                refine (sameBytes' (b := true) HR HR HR2 R9 S9 (by rw [Hid]; simp)).mono ?_
                rintro e w10 ⟨rfl, nq2, rfl⟩
                go_wp2_with fail
                go_ret
                exact ⟨rfl, C9.out.drewN _⟩
              · go_wp2_with fail
                refine (sameBytes' (b := true) HR HR HR2 R9 S9 (by rw [Hid]; simp)).mono ?_
                rintro e w10 ⟨rfl, nq2, rfl⟩
                have BK : Hid (BookI true gp 51 [.pointer (some ⟨gP, 0, none⟩), .pointer (some ⟨gR, 0, none⟩)] D k1 (w9.drewN nq2)) := P9.out.book.drewN nq2
                go_wp2_with fail
                refine (lateI gp 51 _ D k1 (w9.drewN nq2) (by decide) (by decide) BK (by omega) 2 rfl).mono ?_
                rintro e w11 ⟨rfl, k1⟩
                have K1 := Lib.hid k1
                clear k1
                go_wp2_with fail
                go_ret
                refine ⟨rfl, (C9.out.drewN nq2).trans K1.out (fun x hx e => ?_)⟩
                rcases e with rfl | e
                · have := hgg.out; omega
                · have h1 := nD.out.2 x e
                  have h2 := C8.out.size
                  omega
theorem RdOps.none (w : World) : RdOps w none [] := fun i h => absurd h (by simp)
set_option maxRecDepth 20000 in
theorem octetReadsWalk (w : World) (A : Option Addr) (c : Nat) (l : List Int) (hA : Hid (Rd w .u8 A l)) (hl : l.length ≤ 1048576) (hb : Byt l) (hc : l.length ≤ c)
    (C : Option Addr) (cc : Nat) (os : List OpV) (hC : Hid (RdOps w C os)) (hos : os.length ≤ 1048576) (hcc : os.length ≤ cc) :
    Calls Try.prog 6 #[.slice A l.length c, .slice C os.length cc] w fun e w' => e = .returned (.bool true) ∧ Below w.heap.size w w' := by
  obtain ⟨n, hn⟩ : ∃ n, n = l.length := ⟨_, rfl⟩
  obtain ⟨no, hno⟩ : ∃ n, n = os.length := ⟨_, rfl⟩
  have HN := Lib.hid hn
  have HNO := Lib.hid hno
  have HB := Lib.hid hb
  rw [← hn, ← hno]
  rw [← hn] at hl hc
  rw [← hno] at hos hcc
  clear hn hno hb
  go_enter Try.func6, Try.ntmps6
  go_wp2_with fail
  refine (readWalk false w A n c l hA HN hl HB hc C no cc os hC HNO hos hcc).mono ?_
  rintro e w1 ⟨rfl, k1⟩
  have C1 := Lib.hid k1
  have A1 : Hid (Rd w1 .u8 A l) := hA.out.below k1.done
  have O1 : Hid (RdOps w1 C os) := hC.out.below k1.done
  clear k1
  go_wp2_with fail
  refine (readWalk true w1 A n c l A1 HN hl HB hc C no cc os O1 HNO hos hcc).mono ?_
  rintro e w2 ⟨rfl, k1⟩
  have C2 := Lib.hid (C1.out.trans k1 (fun _ _ h => h))
  clear k1
  go_wp2_with fail
  go_ret
  exact ⟨rfl, C2.out.done⟩
end Go.Proofs.Ytcljbaoadmflgaa.Kit
