/- The laws' Book: late. -/
import Derived.Test.YtcljbaoadmflgaaProg
import Derived.Test.YtcljbaoadmflgaaBookI
import Derived.Test.YtcljbaoadmflgaaOctL1
import Derived.Deep.QuietTactic
import Derived.BigQuiet
set_option linter.unusedVariables false
set_option linter.unusedSimpArgs false
namespace Go.Proofs.Ytcljbaoadmflgaa.Kit
open Go.RowKit
/-- in the second loop: i lists are put -/
structure LateAt (g : Nat) (e : TypeId) (pre : List Value) (raw was : Value) (D : Nat → Prop) (N : Nat) (ls : List LEnt) (i : Nat) (w : World) : Prop where
  ex : ∃ L es, Blk w g e (pre ++ [L, .bool false, raw, was]) ∧ (∀ x, L.ownBlock = some x → N ≤ x) ∧ es.length = i ∧ BookL w L (fun x => (N ≤ x ∧ x < w.heap.size) ∨ ∃ y ∈ ls.take i, y.v.ownBlock = some x) es
  row : OwnV w 22 1 raw ls.length (ls.map LEnt.v)
  rest : ∀ y ∈ ls.drop i, OwnB w y.v y.l
  lt : ∀ y ∈ ls, ∀ x, y.v.ownBlock = some x → D x ∧ x < N
  ltr : ∀ x, raw.ownBlock = some x → D x ∧ x < N
  size : N ≤ w.heap.size
theorem lateAt_put {g : Nat} {e : TypeId} {pre : List Value} {raw was : Value} {D : Nat → Prop} {N : Nat} {ls : List LEnt} {i : Nat} {w : World} (he : e ≠ 5) (he2 : e ≠ 22) (h : LateAt g e pre raw was D N ls i w) (hi : i < ls.length) (hap : ls.Pairwise fun x y => ∀ g, x.v.ownBlock = some g → y.v.ownBlock ≠ some g)
    (hlen : ∀ y ∈ ls, y.l.length ≤ 70368744177664) (hk : ls.length ≤ 1099511627776) (o : Nat) (ho : o = pre.length) (lv : Value) (hlv : lv = ls[i].v) :
    Calls Try.prog 42 #[.pointer (some ⟨g, o, none⟩), lv] w (fun e1 w' => e1 = .returned (.tuple #[]) ∧ LateAt g e pre raw was D N ls (i + 1) w' ∧ Chg (fun x => x = g ∨ D x ∨ N ≤ x) w w') := by
  subst hlv ho
  obtain ⟨L, es, hb, hL, hes, hbk⟩ := h.ex
  have hmem : ls[i] ∈ ls := List.getElem_mem _
  have hld : ls[i] ∈ ls.drop i := by
    rw [List.drop_eq_getElem_cons hi]
    exact List.mem_cons_self
  have hown := h.rest _ hld
  have hap2 : ∀ y ∈ ls.take i, ∀ x, y.v.ownBlock = some x → ls[i].v.ownBlock ≠ some x := by
    intro y hy x hx
    rw [← List.take_append_drop i ls, List.pairwise_append] at hap
    exact hap.2.2 y hy _ hld x hx
  have hap3 : ∀ y ∈ ls.drop (i + 1), ∀ x, ls[i].v.ownBlock = some x → y.v.ownBlock ≠ some x := by
    intro y hy x hx
    rw [← List.take_append_drop i ls, List.pairwise_append, List.drop_eq_getElem_cons hi, List.pairwise_cons] at hap
    exact hap.2.1.1 y hy x hx
  refine (putM g pre.length e _ L _ _ es _ w he he2 hb (by simp) (by simp) hbk hown (fun x hx hb => ?_) (fun x hx => ?_) (by omega) (hlen _ hmem)).mono ?_
  · rcases hb with hb | ⟨y, hy, hyx⟩
    · have := (h.lt _ hmem x hx).2
      omega
    · exact hap2 y hy x hyx hx
  · rcases hx with hx | ⟨y, hy, hyx⟩
    · exact hx.2
    · have := (h.lt y (List.mem_of_mem_take hy) x hyx).2
      have := h.size
      omega
  rintro e1 w' ⟨L', lv', rfl, k1, k2, k3, k4⟩
  have hs := h.size
  have hs2 := k3.size
  refine ⟨rfl, ⟨⟨L', _, by simpa using k1, fun x hx => ?_, by simp [hes], k2.mono fun x hx => ?_⟩, h.row.chg k3 (fun x hx e1 => ?_), fun y hy => ?_, h.lt, h.ltr, by omega⟩, k3.mono fun x _ hx => ?_⟩
  · rcases k4 with k4 | k4
    · exact hL x (k4 ▸ hx)
    · have := k4 x hx
      omega
  · rcases hx with (hx | ⟨y, hy, hyx⟩) | hx | hx
    · exact .inl ⟨hx.1, by omega⟩
    · refine .inr ⟨y, ?_, hyx⟩
      rw [List.take_succ_eq_append_getElem hi]
      exact List.mem_append_left _ hy
    · refine .inr ⟨_, ?_, hx⟩
      rw [List.take_succ_eq_append_getElem hi]
      exact List.mem_append_right _ (List.mem_singleton_self _)
    · exact .inl ⟨by omega, hx.2⟩
  · rcases e1 with e1 | e1 | e1
    · exact h.row.type_ne hb he2.symm (by rw [hx, e1])
    · have h1 := hL x e1
      have h2 := (h.ltr x hx).2
      omega
    · obtain ⟨cur', hcu⟩ := OwnV.typed hown x e1
      exact h.row.type_ne hcu (by decide) hx
  · have hy2 : y ∈ ls.drop i := by
      rw [List.drop_eq_getElem_cons hi]
      exact List.mem_cons_of_mem _ hy
    refine (h.rest y hy2).chg k3 (fun x hx e1 => ?_)
    rcases e1 with e1 | e1 | e1
    · exact OwnV.type_ne (h.rest y hy2) hb he.symm (by rw [hx, e1])
    · have h1 := hL x e1
      have h2 := (h.lt y (List.mem_of_mem_drop hy2) x hx).2
      omega
    · exact hap3 y hy x e1 hx
  · rcases hx with hx | hx | hx
    · exact .inl hx
    · exact .inr (.inr (hL x hx))
    · exact .inr (.inl (h.lt _ hmem x hx).1)
set_option maxRecDepth 20000 in
set_option maxHeartbeats 1600000 in
theorem lateI (g : Nat) (e : TypeId) (pre : List Value) (D : Nat → Prop) (k : Nat) (w : World) (he : e ≠ 5) (he2 : e ≠ 22) (hI : Hid (BookI true g e pre D k w)) (hk : k ≤ 1099511627776) (o : Nat) (ho : o = pre.length) :
    Calls Try.prog 54 #[.pointer (some ⟨g, o, none⟩)] w (fun e1 w' => e1 = .returned (.bool true) ∧ Chg (fun x => x = g ∨ D x) w w') := by
  obtain ⟨L, raw, was, hb, hB1, hB2, hB3, _, h5⟩ := hI.out.ex
  obtain ⟨rfl, ls, hk2, hL⟩ := h5 rfl
  clear h5
  have HB := Lib.hid hb
  have HL := Lib.hid hL
  have f1 : w.frozen? ⟨g, o + 1, none⟩ = false := hb.frozen (i := o + 1) (by rw [ho]; simp)
  have c1 : w.cell? ⟨g, o + 1, none⟩ = some (.bool true) := hb.at_ (by rw [ho]; simp)
  have HO := Lib.hid ho
  obtain ⟨n, hn⟩ : ∃ n, n = ls.length := ⟨_, rfl⟩
  have HN := Lib.hid hn
  have hkk : n ≤ 1099511627776 := by omega
  clear hb hL ho hk2 hk hn
  go_enter Try.func54, Try.ntmps54
  go_wp2_with fail
  obtain ⟨w1, hw1⟩ : ∃ w1, w1 = w.setCell ⟨g, o + 1, none⟩ (.bool false) := ⟨_, rfl⟩
  rw [← hw1]
  have C1 : Hid (Chg (fun x => x = g) w w1) := by rw [hw1]; exact (Chg.refl _ w).setg (o + 1) _
  have HB1 : Hid (Blk w1 g e (pre ++ [.slice none 0 0, .bool false, raw, was])) := by
    rw [hw1]
    have := HB.out.set (o + 1) (.bool false)
    rw [HO.out] at this
    rw [Hid, HO.out]
    simpa using this
  have hne : Hid (∀ x, D x → x ≠ g) := fun x hx e => hI.out.out (e ▸ hx)
  have HL1 : Hid (LateL w1 raw was D ls) := HL.out.chg C1.out (fun x hx => hne.out x (hB2 x hx)) (fun x hx => hne.out x (hB3 x hx)) (fun x hx => hne.out x hx)
  have HR := HL1.out.rowR
  have HW := HL1.out.rowW
  rw [← HN.out] at HR HW
  obtain ⟨AR, cR, rfl, hcR, _⟩ := HR.slice
  obtain ⟨AW, cW, rfl, hcW, _⟩ := HW.slice
  have HHR := Lib.hid HR
  have HHW := Lib.hid HW
  have c2 : w1.cell? ⟨g, o + 2, none⟩ = some (.slice AR n cR) := HB1.out.at_ (by rw [HO.out]; simp)
  have c3 : w1.cell? ⟨g, o + 3, none⟩ = some (.slice AW n cW) := HB1.out.at_ (by rw [HO.out]; simp)
  clear hw1 HR HW c1 f1
  go_loopw [3] (fun i wr => ∃ k : Nat, k ≤ n ∧ i = .int .i64 k ∧ ∃ q, wr = w1.drewN q) (fun i _ => n - (intOf i).toNat)
  case atStart => exact ⟨0, Nat.zero_le _, rfl, 0, rfl⟩
  case round =>
    obtain ⟨k, hk2, rfl, q, hwr⟩ := hrel
    have c2 : wr.cell? ⟨g, o + 2, none⟩ = some (.slice AR n cR) := by rw [hwr]; exact c2
    have c3 : wr.cell? ⟨g, o + 3, none⟩ = some (.slice AW n cW) := by rw [hwr]; exact c3
    by_cases hlt : k < n
    · have hkl : k < ls.length := by rw [← HN.out]; exact hlt
      obtain ⟨x, hx⟩ : ∃ x, x = ls[k] := ⟨_, rfl⟩
      have hm : x ∈ ls := by rw [hx]; exact List.getElem_mem _
      have he1 := HL1.out.ent x hm
      obtain ⟨A1, d1, h1, hd1, _⟩ := he1.v.slice
      obtain ⟨A2, d2, h2, hd2, _⟩ := he1.u.slice
      obtain ⟨ad, e1, e2, _⟩ := HHR.out.cells _ _ _ rfl k x.v (by rw [List.getElem?_map, List.getElem?_eq_getElem hkl, hx]; rfl)
      obtain ⟨ad2, e3, e4, _⟩ := HHW.out.cells _ _ _ rfl k x.u (by rw [List.getElem?_map, List.getElem?_eq_getElem hkl, hx]; rfl)
      subst e1 e3
      rw [h1] at e2
      rw [h2] at e4
      obtain ⟨m, hm2⟩ : ∃ m, m = x.l.length := ⟨_, rfl⟩
      rw [← hm2] at e2 e4 hd1 hd2
      have HM := Lib.hid hm2
      have R1 : Hid (∀ n, Rd (wr.drewN n) .u8 A1 x.l) := fun _ => by rw [hwr]; exact he1.v.rd h1
      have R2 : Hid (∀ n, Rd (wr.drewN n) .u8 A2 x.l) := fun _ => by rw [hwr]; exact he1.u.rd h2
      have e2 : wr.cell? (ad.add k) = some (.slice A1 m d1) := by rw [hwr]; exact e2
      have e4 : wr.cell? (ad2.add k) = some (.slice A2 m d2) := by rw [hwr]; exact e4
      have HWR := Lib.hid hwr
      have hlen : Hid (x.l.length ≤ 140737488355328) := by have := he1.len; rw [Hid]; omega
      have b0 : (0 : Int) ≤ (k : Int) := by omega
      have b1 : (k : Int) < (n : Int) := by omega
      clear hx hm he1 h1 h2 hm2 hkl hwr
      go_wp2_with fail
      go_quiet ((go_at_call 23; exact Calls.quiet_of (sameBytes' (b := true) HM HM hlen (show Hid (Rd (wr.drewN _) _ _ _) from R1.out _) (show Hid (Rd (wr.drewN _) _ _ _) from R2.out _) (by rw [Hid]; simp))))
      go_wp2_with fail
      go_roundw
      case rel => exact ⟨k + 1, by omega, by go_num, _, by rw [HWR.out, World.drewN_drewN]⟩
      case measure => simp [intOf]; omega
    · obtain rfl : k = n := by omega
      subst hwr
      go_wp2_with fail
      have hs0 := hI.out.size
      have hs1 := C1.out.size
      have LA0 : LateAt g e pre (.slice AR k cR) (.slice AW k cW) D w.heap.size ls 0 (w1.drewN q) := ⟨⟨.slice none 0 0, [], HB1.out.drewN q, fun x hx => by simp [Value.ownBlock] at hx, rfl, BookL.none _ _⟩, HL1.out.rowR.chg ((Chg.refl (fun _ => False) w1).drewN q) (fun _ _ h => h), fun y hy => ((HL1.out.ent y (by simpa using hy)).v).drewN q, fun y hy x hx => by
        have := (HL1.out.ent y hy).bv x hx
        exact ⟨this, hs0 x this⟩, fun x hx => ⟨hB2 x hx, HL.out.rowR.lt x hx⟩, by simpa using hs1⟩
      have HA0 := Lib.hid LA0
      have HCC : Hid (Chg (fun x => x = g ∨ D x ∨ w.heap.size ≤ x) w (w1.drewN q)) := (C1.out.mono (fun _ _ h => .inl h)).drewN q
      have hap := Lib.hid HL1.out.apart
      have hlens : Hid (∀ y ∈ ls, y.l.length ≤ 70368744177664) := fun y hy => (HL1.out.ent y hy).len
      clear LA0 c2 c3 HB1 HL1 HHR HHW hs0 hs1 hlt
      go_loopw [5] (fun i wr => ∃ j : Nat, j ≤ k ∧ i = .int .i64 j ∧ Hid (LateAt g e pre (.slice AR k cR) (.slice AW k cW) D w.heap.size ls j wr) ∧ Hid (Chg (fun x => x = g ∨ D x ∨ w.heap.size ≤ x) w wr)) (fun i _ => k - (intOf i).toNat)
      case atStart => exact ⟨0, Nat.zero_le _, rfl, HA0.out, HCC.out⟩
      case round =>
        obtain ⟨j, hj, rfl, LA, CA⟩ := hrel
        obtain ⟨L, es, lb, lL, les, lbk⟩ := LA.out.ex
        have c2 : wr.cell? ⟨g, o + 2, none⟩ = some (.slice AR k cR) := lb.at_ (by rw [HO.out]; simp)
        by_cases hlt : j < k
        · have hjl : j < ls.length := by rw [← HN.out]; exact hlt
          obtain ⟨x, hx⟩ : ∃ x, x = ls[j] := ⟨_, rfl⟩
          have hm : x ∈ ls.drop j := by rw [List.drop_eq_getElem_cons hjl, hx]; exact List.mem_cons_self
          obtain ⟨A1, d1, h1, hd1, _⟩ := (LA.out.rest x hm).slice
          have hrow := LA.out.row
          rw [← HN.out] at hrow
          obtain ⟨ad, e1, e2, _⟩ := hrow.cells _ _ _ rfl j x.v (by rw [List.getElem?_map, List.getElem?_eq_getElem hjl, hx]; rfl)
          subst e1
          rw [h1] at e2
          have HX : Hid (.slice A1 x.l.length d1 = ls[j].v) := by rw [← hx]; exact h1.symm
          have b0 : (0 : Int) ≤ (j : Int) := by omega
          have b1 : (j : Int) < (k : Int) := by omega
          obtain ⟨m, hmm⟩ : ∃ m, m = x.l.length := ⟨_, rfl⟩
          rw [← hmm] at e2 HX
          clear hx hm h1 hrow hmm lb lbk
          go_wp2_with fail
          refine (lateAt_put he he2 LA.out hjl hap.out hlens.out (by rw [← HN.out]; exact hkk) o HO.out _ HX.out).mono ?_
          rintro e5 w5 ⟨rfl, k1, k2⟩
          have K1 := Lib.hid k1
          have K2 := Lib.hid k2
          clear k1 k2
          go_wp2_with fail
          go_roundw
          case rel => exact ⟨j + 1, by omega, by go_num, K1.out, CA.out.trans K2.out (fun _ _ h => h)⟩
          case measure => simp [intOf]; omega
        · obtain rfl : j = k := by omega
          have hesl : es.length ≤ 1099511627776 := by omega
          have LB := Lib.hid lb
          have LK := Lib.hid lbk
          clear lb lbk
          go_wp2_with fail
          refine (kept g o e _ L es _ wr LB (by rw [HO.out]; simp) LK hesl).mono ?_
          rintro e5 w5 ⟨rfl, rfl⟩
          go_wp2_with fail
          go_ret
          exact ⟨rfl, CA.out.mono fun x hx h => h.elim .inl (fun h => h.elim .inr (by omega))⟩
end Go.Proofs.Ytcljbaoadmflgaa.Kit
