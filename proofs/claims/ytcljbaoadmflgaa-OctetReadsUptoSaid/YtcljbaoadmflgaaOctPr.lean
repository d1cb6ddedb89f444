/- The walk of OctetPair. -/
import Derived.Test.YtcljbaoadmflgaaProg
import Derived.Test.YtcljbaoadmflgaaPairS
import Derived.Test.YtcljbaoadmflgaaOctS
import Derived.Test.YtcljbaoadmflgaaOpenB
set_option linter.unusedVariables false
set_option linter.unusedSimpArgs false
namespace Go.Proofs.Ytcljbaoadmflgaa.Kit
open Go.RowKit
theorem pairNew {late : Bool} {g gP gR : Nat} {v vR : Value} {l : List Int} {w : World} (hb : Blk w g 51 [.pointer (some ⟨gP, 0, none⟩), .pointer (some ⟨gR, 0, none⟩), .slice none 0 0, .bool late, .slice none 0 0, .slice none 0 0]) (hp : Rdr w gP v l 0) (hr : RdrF w gR vR l 0) :
    PairI late g gP gR v vR l 0 0 (fun _ => False) 0 w :=
  ⟨BookI.new hb, hp, hr, id, id, fun _ _ => id, fun _ _ => id⟩
/-- a step on one pair lets the other be -/
theorem pair_other {late : Bool} {g gP gR gq gQ gS : Nat} {v vR : Value} {l : List Int} {a1 a2 k N : Nat} {D1 D2 : Nat → Prop} {w w1 : World} (hq : PairI late gq gQ gS v vR l a1 a2 D2 k w) (c : Chg (fun x => x = g ∨ x = gP ∨ x = gR ∨ D1 x) w w1) (hD : ∀ x, D1 x → ¬ D2 x) (h1 : ∀ x, D1 x → N ≤ x) (h2 : ∀ x, D2 x → N ≤ x)
    (hp : g < N ∧ gP < N ∧ gR < N) (ha : ∀ y, (y = gq ∨ y = gQ ∨ y = gS ∨ v.ownBlock = some y ∨ vR.ownBlock = some y) → y < N ∧ y ≠ g ∧ y ≠ gP ∧ y ≠ gR) : PairI late gq gQ gS v vR l a1 a2 D2 k w1 := by
  have key : ∀ y, (y = gq ∨ y = gQ ∨ y = gS ∨ v.ownBlock = some y ∨ vR.ownBlock = some y) → ¬ (y = g ∨ y = gP ∨ y = gR ∨ D1 y) := fun y hy h => by
    obtain ⟨q1, q2, q3, q4⟩ := ha y hy
    rcases h with h | h | h | h
    · exact q2 h
    · exact q3 h
    · exact q4 h
    · have := h1 y h
      omega
  refine hq.chg c (fun x hx hd => ?_) (key _ (.inl rfl)) (key _ (.inr (.inl rfl))) (key _ (.inr (.inr (.inl rfl)))) (fun x hx => key x (.inr (.inr (.inr (.inl hx))))) (fun x hx => key x (.inr (.inr (.inr (.inr hx)))))
  have := h2 x hd
  rcases hx with hx | hx | hx | hx
  · omega
  · omega
  · omega
  · exact hD x hx hd
/-- two pairs that know nothing of each other -/
structure Two (gp gP gR gq gQ gS : Nat) (v vR vQ vS : Value) (la lb : List Int) (M N k : Nat) (w0 w : World) : Prop where
  ex : ∃ a1 k1 D1 b1 k2 D2, k1 ≤ k ∧ k2 ≤ k ∧ PairI false gp gP gR v vR la a1 a1 D1 k1 w ∧ PairI false gq gQ gS vQ vS lb b1 b1 D2 k2 w ∧ (∀ x, D1 x → ¬ D2 x) ∧ (∀ x, D1 x → N ≤ x) ∧ (∀ x, D2 x → N ≤ x)
  chg : Chg (fun _ => False) w0 w
  p : gp < M ∧ gP < M ∧ gR < M ∧ (∀ x, v.ownBlock = some x → x < M) ∧ ∀ x, vR.ownBlock = some x → x < M
  q : (gq < N ∧ gQ < N ∧ gS < N ∧ (∀ x, vQ.ownBlock = some x → x < N) ∧ ∀ x, vS.ownBlock = some x → x < N) ∧ M ≤ gq ∧ M ≤ gQ ∧ M ≤ gS ∧ (∀ x, vQ.ownBlock = some x → M ≤ x) ∧ (∀ x, vS.ownBlock = some x → M ≤ x) ∧ M ≤ N
  lo : w0.heap.size ≤ gp ∧ w0.heap.size ≤ gP ∧ w0.heap.size ≤ gR ∧ w0.heap.size ≤ M
  size : N ≤ w.heap.size
section
variable {gp gP gR gq gQ gS : Nat} {v vR vQ vS : Value} {la lb : List Int} {M N k : Nat} {w0 w : World}
theorem Two.stepP (h : Two gp gP gR gq gQ gS v vR vQ vS la lb M N k w0 w) (o : OpV) (ho : o.ok) (hlen : la.length ≤ 1048576) (hk : k ≤ 1048576) (hb : Byt la) :
    Calls Try.prog 31 #[.pointer (some ⟨gp, 0, none⟩), .agg #[.int .i64 o.kind, .int .u64 o.limit, .int .i64 o.n]] w (fun e w' => e = .returned (.bool true) ∧ Two gp gP gR gq gQ gS v vR vQ vS la lb M N (k + 1) w0 w') := by
  obtain ⟨a1, k1, D1, b1, k2, D2, h1, h2, hp, hq, hD, hN1, hN2⟩ := h.ex
  refine (step o ho hlen (by omega) hb hp).mono ?_
  rintro e w' ⟨rfl, a2, k', D', hk', hp', hD', hc⟩
  obtain ⟨p1, p2, p3, p4, p5⟩ := h.p
  obtain ⟨⟨q1, q2, q3, q4, q5⟩, q6, q7, q8, q9, q10, q11⟩ := h.q
  obtain ⟨l1, l2, l3, l4⟩ := h.lo
  have hs := h.size
  refine ⟨rfl, ⟨a2, k', D', b1, k2, D2, by omega, by omega, hp', pair_other hq hc hD hN1 hN2 ⟨by omega, by omega, by omega⟩ (fun y hy => ?_), fun x hx hx2 => ?_, fun x hx => ?_, hN2⟩, h.chg.trans hc (fun x hx e => ?_), h.p, h.q, h.lo, Nat.le_trans hs hc.size⟩
  · rcases hy with rfl | rfl | rfl | hy | hy
    · exact ⟨q1, by omega, by omega, by omega⟩
    · exact ⟨q2, by omega, by omega, by omega⟩
    · exact ⟨q3, by omega, by omega, by omega⟩
    · have := q9 y hy
      exact ⟨q4 y hy, by omega, by omega, by omega⟩
    · have := q10 y hy
      exact ⟨q5 y hy, by omega, by omega, by omega⟩
  · rcases hD' x hx with h3 | h3
    · exact hD x h3 hx2
    · have := hq.book.size x hx2
      omega
  · rcases hD' x hx with h3 | h3
    · exact hN1 x h3
    · omega
  · rcases e with rfl | rfl | rfl | e
    · omega
    · omega
    · omega
    · have := hN1 x e
      omega
theorem Two.stepQ (h : Two gp gP gR gq gQ gS v vR vQ vS la lb M N k w0 w) (o : OpV) (ho : o.ok) (hlen : lb.length ≤ 1048576) (hk : k ≤ 1048576) (hb : Byt lb) :
    Calls Try.prog 31 #[.pointer (some ⟨gq, 0, none⟩), .agg #[.int .i64 o.kind, .int .u64 o.limit, .int .i64 o.n]] w (fun e w' => e = .returned (.bool true) ∧ Two gp gP gR gq gQ gS v vR vQ vS la lb M N (k + 1) w0 w') := by
  obtain ⟨a1, k1, D1, b1, k2, D2, h1, h2, hp, hq, hD, hN1, hN2⟩ := h.ex
  refine (step o ho hlen (by omega) hb hq).mono ?_
  rintro e w' ⟨rfl, a2, k', D', hk', hq', hD', hc⟩
  obtain ⟨p1, p2, p3, p4, p5⟩ := h.p
  obtain ⟨⟨q1, q2, q3, q4, q5⟩, q6, q7, q8, q9, q10, q11⟩ := h.q
  obtain ⟨l1, l2, l3, l4⟩ := h.lo
  have hs := h.size
  refine ⟨rfl, ⟨a1, k1, D1, a2, k', D', by omega, by omega, pair_other hp hc (fun x h3 h4 => hD x h4 h3) hN2 hN1 ⟨by omega, by omega, by omega⟩ (fun y hy => ?_), hq', fun x hx hx2 => ?_, hN1, fun x hx => ?_⟩, h.chg.trans hc (fun x hx e => ?_), h.p, h.q, h.lo, Nat.le_trans hs hc.size⟩
  · rcases hy with rfl | rfl | rfl | hy | hy
    · exact ⟨by omega, by omega, by omega, by omega⟩
    · exact ⟨by omega, by omega, by omega, by omega⟩
    · exact ⟨by omega, by omega, by omega, by omega⟩
    · have := p4 y hy
      exact ⟨by omega, by omega, by omega, by omega⟩
    · have := p5 y hy
      exact ⟨by omega, by omega, by omega, by omega⟩
  · rcases hD' x hx2 with h3 | h3
    · exact hD x hx h3
    · have := hp.book.size x hx
      omega
  · rcases hD' x hx with h3 | h3
    · exact hN2 x h3
    · omega
  · rcases e with rfl | rfl | rfl | e
    · omega
    · omega
    · omega
    · have := hN2 x e
      omega
end
set_option maxRecDepth 20000 in
set_option maxHeartbeats 3200000 in
theorem octetPairWalk (w : World) (A : Option Addr) (ca : Nat) (la : List Int) (hA : Hid (Rd w .u8 A la)) (hla : la.length ≤ 1048576) (hba : Byt la) (hca : la.length ≤ ca)
    (B : Option Addr) (cb : Nat) (lb : List Int) (hB : Hid (Rd w .u8 B lb)) (hlb : lb.length ≤ 1048576) (hbb : Byt lb) (hcb : lb.length ≤ cb)
    (C : Option Addr) (cc : Nat) (os : List OpV) (hC : Hid (RdOps w C os)) (hos : os.length ≤ 1048576) (hcc : os.length ≤ cc)
    (E : Option Addr) (ce : Nat) (ts : List Bool) (hE : Hid (RdBools w E ts)) (hts : ts.length ≤ maxLen) (hce : ts.length ≤ ce) :
    Calls Try.prog 7 #[.slice A la.length ca, .slice B lb.length cb, .slice C os.length cc, .slice E ts.length ce] w fun e w' => e = .returned (.bool true) ∧ Below w.heap.size w w' := by
  obtain ⟨na, hna⟩ : ∃ n, n = la.length := ⟨_, rfl⟩
  obtain ⟨nb, hnb⟩ : ∃ n, n = lb.length := ⟨_, rfl⟩
  obtain ⟨no, hno⟩ : ∃ n, n = os.length := ⟨_, rfl⟩
  obtain ⟨nt, hnt⟩ : ∃ n, n = ts.length := ⟨_, rfl⟩
  rw [← hna, ← hnb, ← hno, ← hnt]
  rw [← hno] at hos hcc
  rw [← hnt] at hts hce
  have HNA : Hid (na = la.length) := Lib.hid hna
  have HNB : Hid (nb = lb.length) := Lib.hid hnb
  have HNO : Hid (no = os.length) := Lib.hid hno
  have HNT : Hid (nt = ts.length) := Lib.hid hnt
  have HLA : Hid (la.length ≤ 1048576) := Lib.hid hla
  have HLB : Hid (lb.length ≤ 1048576) := Lib.hid hlb
  have HBA : Hid (Byt la) := Lib.hid hba
  have HBB : Hid (Byt lb) := Lib.hid hbb
  rw [← hna] at hca
  rw [← hnb] at hcb
  clear hna hnb hno hnt hla hlb hba hbb
  go_enter Try.func7, Try.ntmps7
  go_wp2_with (at_builtin; go_must (refine wp_appn rfl _ _ 22 5 .u8 1 rfl Try.underlying22 infoU8 (by decide) (.slice (some ⟨w.heap.size, 0, none⟩) 0 0) [] rfl (Own.lit w 5 .u8 [] (by simp)) A ca la _ rfl HNA.out (hA.out.below (((Chg.refl (fun _ => False) w).alloc _).done)) (by have := HLA.out; simp; omega) ?_); intro v' w1 k1 k2 k3 k4; obtain ⟨A1, c1, hv, _, _⟩ := k1.slice; rw [List.nil_append, ← HNA.out] at hv; subst hv; have N1 := Lib.hid k1; have N3 := Lib.hid k3; have N4 := Lib.hid k4; clear k1 k2 k3 k4; go_frame)
  have C1 : Hid (Chg (fun _ => False) w w1) := ((Chg.refl _ w).alloc _).fresh N3.out (blk_ge (Nat.le_refl _))
  have R1 : Hid (Rd w1 .u8 A1 la) := N1.out.rd (A := A1) (c := c1) (by rw [List.nil_append, ← HNA.out])
  have L1 : Hid (la.length ≤ 140737488355328) := by have := HLA.out; rw [Hid]; omega
  clear N1 N3 N4
  refine (newReader' HNA L1 R1).mono ?_
  rintro e w2 ⟨gP, v, rfl, k1, k2, k3, k4⟩
  have P2 := Lib.hid k1; have G2 := Lib.hid k2; have V2 := Lib.hid k3; have C2 := Lib.hid (C1.out.trans k4 (fun _ _ h => h))
  have A2 : Hid (Rd w2 .u8 A la) := hA.out.below C2.out.done
  have C1s := Lib.hid C1.out.size
  clear k1 k2 k3 k4 C1 R1
  go_wp2_with fail
  refine (newReaderF HNA L1 A2).mono ?_
  rintro e w3 ⟨gR, vR, rfl, k1, k2, k3, k4⟩
  have Q3 := Lib.hid k1; have G3 := Lib.hid k2; have V3 := Lib.hid k3; have P3 := Lib.hid (P2.out.chg k4 id (fun _ _ => id)); have C3 := Lib.hid (C2.out.trans k4 (fun _ _ h => h))
  clear k1 k2 k3 k4 A2
  obtain ⟨w4, hw4⟩ : ∃ w4, w4 = w3.alloc (.cells #[.pointer (some ⟨gP, 0, none⟩), .pointer (some ⟨gR, 0, none⟩), .slice none 0 0, .bool false, .slice none 0 0, .slice none 0 0] 51) := ⟨_, rfl⟩
  obtain ⟨gp, hgp⟩ : ∃ gp, gp = w3.heap.size := ⟨_, rfl⟩
  have C4 : Hid (Chg (fun _ => False) w w4) := by rw [hw4]; exact C3.out.alloc _
  have PP : Hid (PairI false gp gP gR v vR la 0 0 (fun _ => False) 0 w4) := by
    rw [hw4, hgp]
    exact pairNew (Blk.new w3 _ _) (P3.out.chg (S := fun _ => False) ((Chg.refl _ w3).alloc _) id (fun _ _ => id)) (Q3.out.chg (S := fun _ => False) ((Chg.refl _ w3).alloc _) id (fun _ _ => id))
  have LO : Hid (w.heap.size ≤ gp ∧ w.heap.size ≤ gP ∧ w.heap.size ≤ gR ∧ w.heap.size ≤ w4.heap.size) := ⟨by rw [hgp]; exact C3.out.size, Nat.le_trans C1s.out G2.out, Nat.le_trans C2.out.size G3.out, C4.out.size⟩
  have S4 : Hid (gp < w4.heap.size ∧ gP < w4.heap.size ∧ gR < w4.heap.size ∧ (∀ x, v.ownBlock = some x → x < w4.heap.size) ∧ ∀ x, vR.ownBlock = some x → x < w4.heap.size) := ⟨PP.out.book.lt, PP.out.p.blk.lt, PP.out.r.blk.lt, PP.out.p.own.lt, PP.out.r.own.lt⟩
  have A4 : Hid (Rd (w4.alloc (.cells #[] 5)) .u8 B lb) := hB.out.below (C4.out.alloc _).done
  have H4 := Lib.hid hw4
  have hsz : Hid (w4.heap.size = w3.heap.size + 1) := by rw [hw4]; simp [Hid]
  clear P2 G2 V2 C2 C3 P3 Q3 G3 V3
  go_wp2_with (at_builtin; rw [← hw4]; go_must (refine wp_appn rfl _ _ 22 5 .u8 1 rfl Try.underlying22 infoU8 (by decide) (.slice (some ⟨w3.heap.size + 1, 0, none⟩) 0 0) [] rfl (Own.lit' w4 5 .u8 [] _ hsz.out.symm (by simp)) B cb lb _ rfl HNB.out A4.out (by have := HLB.out; simp; omega) ?_); intro v' w5 k1 k2 k3 k4; obtain ⟨A1, c1, hv, _, _⟩ := k1.slice; rw [List.nil_append, ← HNB.out] at hv; subst hv; have N1 := Lib.hid k1; have N3 := Lib.hid k3; have N4 := Lib.hid k4; clear k1 k2 k3 k4; go_frame)
  clear hw4
  have C45 : Hid (Chg (fun _ => False) w4 w5) := ((Chg.refl _ w4).alloc _).fresh N3.out (blk_ge (by rw [hsz.out]; exact Nat.le_refl _))
  have R1 : Hid (Rd w5 .u8 A1 lb) := N1.out.rd (A := A1) (c := c1) (by rw [List.nil_append, ← HNB.out])
  have L2 : Hid (lb.length ≤ 140737488355328) := by have := HLB.out; rw [Hid]; omega
  clear N1 N3 N4 A4
  refine (newReader' HNB L2 R1).mono ?_
  rintro e w6 ⟨gQ, vQ, rfl, k1, k2, k3, k4⟩
  have P2 := Lib.hid k1; have G2 := Lib.hid k2; have V2 := Lib.hid k3; have C46 := Lib.hid (C45.out.trans k4 (fun _ _ h => h))
  have A2 : Hid (Rd w6 .u8 B lb) := hB.out.below (C4.out.trans C46.out (fun _ _ h => h)).done
  clear k1 k2 k3 k4 R1
  go_wp2_with fail
  refine (newReaderF HNB L2 A2).mono ?_
  rintro e w7 ⟨gS, vS, rfl, k1, k2, k3, k4⟩
  have Q3 := Lib.hid k1; have G3 := Lib.hid k2; have V3 := Lib.hid k3; have P3 := Lib.hid (P2.out.chg k4 id (fun _ _ => id)); have C47 := Lib.hid (C46.out.trans k4 (fun _ _ h => h))
  have S67 := Lib.hid k4.size
  clear k1 k2 k3 k4 A2
  obtain ⟨w8, hw8⟩ : ∃ w8, w8 = w7.alloc (.cells #[.pointer (some ⟨gQ, 0, none⟩), .pointer (some ⟨gS, 0, none⟩), .slice none 0 0, .bool false, .slice none 0 0, .slice none 0 0] 51) := ⟨_, rfl⟩
  obtain ⟨gq, hgq⟩ : ∃ gq, gq = w7.heap.size := ⟨_, rfl⟩
  have C48 : Hid (Chg (fun _ => False) w4 w8) := by rw [hw8]; exact C47.out.alloc _
  have C8 : Hid (Chg (fun _ => False) w w8) := C4.out.trans C48.out (fun _ _ h => h)
  have QQ : Hid (PairI false gq gQ gS vQ vS lb 0 0 (fun _ => False) 0 w8) := by
    rw [hw8, hgq]
    exact pairNew (Blk.new w7 _ _) (P3.out.chg (S := fun _ => False) ((Chg.refl _ w7).alloc _) id (fun _ _ => id)) (Q3.out.chg (S := fun _ => False) ((Chg.refl _ w7).alloc _) id (fun _ _ => id))
  have PP8 : Hid (PairI false gp gP gR v vR la 0 0 (fun _ => False) 0 w8) := PP.out.chg0 C48.out (fun _ h => h.elim)
  have S8 : Hid ((gq < w8.heap.size ∧ gQ < w8.heap.size ∧ gS < w8.heap.size ∧ (∀ x, vQ.ownBlock = some x → x < w8.heap.size) ∧ ∀ x, vS.ownBlock = some x → x < w8.heap.size) ∧ w4.heap.size ≤ gq ∧ w4.heap.size ≤ gQ ∧ w4.heap.size ≤ gS ∧ (∀ x, vQ.ownBlock = some x → w4.heap.size ≤ x) ∧ (∀ x, vS.ownBlock = some x → w4.heap.size ≤ x) ∧ w4.heap.size ≤ w8.heap.size) := by
    have h5 := C45.out.size
    have h6 := C46.out.size
    have h7 := C47.out.size
    have h8 := C48.out.size
    refine ⟨⟨QQ.out.book.lt, QQ.out.p.blk.lt, QQ.out.r.blk.lt, QQ.out.p.own.lt, QQ.out.r.own.lt⟩, by omega, Nat.le_trans h5 G2.out, Nat.le_trans h6 G3.out, fun x hx => Nat.le_trans h5 (V2.out x hx), fun x hx => Nat.le_trans h6 (V3.out x hx), h8⟩
  have p0 := PP8.out.c0
  have q0 := QQ.out.c0
  have H8 := Lib.hid hw8
  clear P2 G2 V2 P3 Q3 G3 V3 C45 C46 C47 S67
  rw [hw8, hgp] at p0
  rw [hw8, hgq] at q0
  go_wp2_with fail
  rw [← hw8, ← hgq, ← hgp]
  have TW : Hid (Two gp gP gR gq gQ gS v vR vQ vS la lb w4.heap.size w8.heap.size 0 w w8) := ⟨⟨0, 0, _, 0, 0, _, Nat.le_refl _, Nat.le_refl _, PP8.out, QQ.out, fun _ h => h.elim, fun _ h => h.elim, fun _ h => h.elim⟩, C8.out, S4.out, S8.out, LO.out, Nat.le_refl _⟩
  obtain ⟨M, hM⟩ : ∃ M, M = w4.heap.size := ⟨_, rfl⟩
  obtain ⟨N, hN⟩ : ∃ N, N = w8.heap.size := ⟨_, rfl⟩
  rw [← hM, ← hN] at TW
  clear PP8 QQ C8 S4 S8 LO p0 q0 H4 H8 hw8 hgp hgq C48 C4 PP hsz L1 L2 hM hN
  go_loopw [11] (fun i wr => ∃ k : Nat, k ≤ no ∧ i = .int .i64 k ∧ Hid (Two gp gP gR gq gQ gS v vR vQ vS la lb M N k w wr)) (fun i _ => no - (intOf i).toNat)
  case atStart => exact ⟨0, Nat.zero_le _, rfl, TW.out⟩
  case round =>
    obtain ⟨k, hk, rfl, T⟩ := hrel
    by_cases hlt : k < no
    · have hkl : k < os.length := by rw [← HNO.out]; exact hlt
      obtain ⟨ad, rfl, f0, f1, f2, fo⟩ := hC.out k hkl
      replace f0 := T.out.chg.cell (fun h => h) f0
      replace f1 := T.out.chg.cell (fun h => h) f1
      replace f2 := T.out.chg.cell (fun h => h) f2
      obtain ⟨o, hoo⟩ : ∃ o, o = os[k] := ⟨_, rfl⟩
      rw [← hoo] at f0 f1 f2 fo
      have FO := Lib.hid fo
      have b1 : (0 : Int) ≤ (k : Int) := by omega
      have b2 : (k : Int) < (no : Int) := by omega
      clear hoo hkl fo
      by_cases ht : k < nt
      · have htl : k < ts.length := by rw [← HNT.out]; exact ht
        obtain ⟨ae, rfl, t0⟩ := hE.out k htl
        replace t0 := T.out.chg.cell (fun h => h) t0
        have b3 : (k : Int) < (nt : Int) := by omega
        cases hb : ts[k]
        · rw [hb] at t0
          clear hb htl
          go_wp2_with fail
          refine (T.out.stepP o FO.out HLA.out (by omega) HBA.out).mono ?_
          rintro e w9 ⟨rfl, k1⟩
          have T9 := Lib.hid k1
          clear k1
          go_wp2_with fail
          go_roundw
          case rel => exact ⟨k + 1, by omega, by go_num, T9.out⟩
          case measure => simp [intOf]; omega
        · rw [hb] at t0
          clear hb htl
          go_wp2_with fail
          refine (T.out.stepQ o FO.out HLB.out (by omega) HBB.out).mono ?_
          rintro e w9 ⟨rfl, k1⟩
          have T9 := Lib.hid k1
          clear k1
          go_wp2_with fail
          go_roundw
          case rel => exact ⟨k + 1, by omega, by go_num, T9.out⟩
          case measure => simp [intOf]; omega
      · have b3 : ¬ (k : Int) < (nt : Int) := by omega
        go_wp2_with fail
        refine (T.out.stepP o FO.out HLA.out (by omega) HBA.out).mono ?_
        rintro e w9 ⟨rfl, k1⟩
        have T9 := Lib.hid k1
        clear k1
        go_wp2_with fail
        go_roundw
        case rel => exact ⟨k + 1, by omega, by go_num, T9.out⟩
        case measure => simp [intOf]; omega
    · obtain rfl : k = no := by omega
      go_wp2_with fail
      go_ret
      exact ⟨rfl, T.out.chg.done⟩
end Go.Proofs.Ytcljbaoadmflgaa.Kit
