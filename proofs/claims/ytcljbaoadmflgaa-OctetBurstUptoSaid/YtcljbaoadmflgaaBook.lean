/- The laws' Book: lists that were handed out, each written full with a mark of its own. -/
import Derived.Test.YtcljbaoadmflgaaProg
import Derived.Test.YtcljbaoadmflgaaKit
import Derived.Test.YtcljbaoadmflgaaOctL1
import Derived.Test.YtcljbaoadmflgaaOctSm
set_option linter.unusedVariables false
set_option linter.unusedSimpArgs false
namespace Go.Proofs.Ytcljbaoadmflgaa.Kit
open Go.RowKit
section
variable {P : Program} {ops : Array Oper} {rest : List Oper} {o : Oper} {a : Act} {Q : Exit → Act → World → Prop}
/-- append(v, y) of values of one cell: the world is 'W.alloc' of the box of y -/
theorem wp_appv1 {W : World} (hgd : o.guard = none) (s x : Operand) (t e : TypeId) (z : Value) (bytes : Nat)
    (ho : o.op = .call { callee := .builtin .append, args := #[s, x], argTypes := #[t, t] })
    (ht : P.underlying t = some (.slice e)) (hinfo : (P.info? e).map (fun i => (i.zero, i.size, i.bytes)) = some (some z, 1, bytes)) (hzs : z.cells.size = 1) (hby : 0 < bytes)
    (v : Value) (n : Nat) (cs : List Value) (y : Value) (hy : y.oneCell' = true) (hs : a.eval s = v) (hown : OwnV W e 1 v n cs)
    (hx : a.eval x = .slice (some ⟨W.heap.size, 0, none⟩) 1 1) (hbytes : (n + 1) * bytes ≤ 140737488355328)
    (h : ∀ v' w', OwnV w' e 1 v' (n + 1) (cs ++ [y]) → Chg (fun g => v.ownBlock = some g) W w' → Fresh W v v' → wpList P ops Q rest (a.put o.dst v') w') :
    wpList P ops Q (o :: rest) a (W.alloc (.cells #[y] e)) :=
  wpList_plain hgd fun _ hK => by
    refine ow_app (W := W.alloc (.cells #[y] e)) s x t e z 1 bytes ho ht hinfo hzs (by decide) hby v n cs hs (hown.chg (S := fun _ => False) ((Chg.refl _ W).alloc _) (fun _ _ h => h)) _ 1 1 [y] hx rfl ?_ (by simpa using hy) hbytes fun v' w' h2 h3 h4 h5 => hK _ _ (h v' w' h2 ?_ ?_)
    · intro j u hj
      have : j = 0 := by
        rcases j with _ | j
        · rfl
        · simp at hj
      subst this
      refine ⟨_, rfl, ?_⟩
      have := (Blk.new W #[y] e).cell 0
      rw [show (⟨W.heap.size, 0, none⟩ : Addr).add 0 = ⟨W.heap.size, 0, none⟩ from rfl, this]
      simpa using hj
    · exact ((Chg.refl _ W).alloc _).trans h4 (fun _ _ h => h)
    · rcases h5 with h5 | h5
      · exact .inl h5
      · refine .inr fun g hg => ?_
        rw [h5] at hg
        injection hg with hg
        simp at hg
        omega
end
/-- the mark of the i-th list -/
def mk (i : Nat) : Int := 1 + ((i % 120 : Nat) : Int)
theorem mk_range (i : Nat) : 1 ≤ mk i ∧ mk i ≤ 120 := by
  unfold mk
  have := Nat.mod_lt i (by decide : 0 < 120)
  omega
/-- written full up to k -/
def fillUp (l : List Int) (m : Int) (k : Nat) : List Int := List.replicate k m ++ l.drop k
theorem fillUp_length (l : List Int) (m : Int) (k : Nat) (hk : k ≤ l.length) : (fillUp l m k).length = l.length := by
  simp [fillUp]
  omega
theorem fillUp_set (l : List Int) (m : Int) (k : Nat) (hk : k < l.length) : (fillUp l m k).set k m = fillUp l m (k + 1) := by
  unfold fillUp
  rw [List.set_append_right _ _ (by simp), List.length_replicate, Nat.sub_self, List.drop_eq_getElem_cons hk, List.set_cons_zero, List.replicate_succ']
  simp
theorem fillUp_full (l : List Int) (m : Int) : fillUp l m l.length = List.replicate l.length m := by simp [fillUp]
/-- an entry of a book: the list, the list grown, its length -/
structure Ent where
  v : Value
  u : Value
  n : Nat
def entVals (es : List Ent) : List Value := es.flatMap fun x => [x.v, x.u]
theorem entVals_length (es : List Ent) : (entVals es).length = 2 * es.length := by
  induction es with
  | nil => rfl
  | cons x xs ih => simp only [entVals, List.flatMap_cons, List.length_append, List.length_cons, List.length_nil] at ih ⊢; omega
theorem entVals_snoc (es : List Ent) (x : Ent) : entVals (es ++ [x]) = entVals es ++ [x.v] ++ [x.u] := by simp [entVals]
/-- a slice of bytes that is read, over a block of bytes -/
structure RdT (w : World) (v : Value) (l : List Int) : Prop where
  reads : ∃ A c, v = .slice A l.length c ∧ l.length ≤ c ∧ c ≤ maxLen ∧ Rd w .u8 A l
  typed : ∀ g, v.ownBlock = some g → ∃ cur, Blk w g 5 cur
theorem RdT.chg {w w1 : World} {v : Value} {l : List Int} {S : Nat → Prop} (h : RdT w v l) (c : Chg S w w1) (hS : ∀ g, v.ownBlock = some g → ¬ S g) : RdT w1 v l := by
  refine ⟨?_, fun g hg => ?_⟩
  · obtain ⟨A, d, rfl, hd, hm, hr⟩ := h.reads
    exact ⟨A, d, rfl, hd, hm, hr.chg c fun ad e _ => hS ad.block (by rw [e]; rfl)⟩
  · obtain ⟨cur, hb⟩ := h.typed g hg
    exact ⟨cur, hb.chg c (hS g hg)⟩
theorem RdT.drewN {w : World} {v : Value} {l : List Int} (h : RdT w v l) (n : Nat) : RdT (w.drewN n) v l := ⟨h.reads, h.typed⟩
theorem Own.rdT {w : World} {v : Value} {l : List Int} (h : OwnB w v l) : RdT w v l := by
  refine ⟨?_, OwnV.typed h⟩
  obtain ⟨A, c, rfl, hc, hm⟩ := h.slice
  exact ⟨A, c, rfl, hc, hm, h.rd rfl⟩
/-- behind an append to u, which began with what stood in v -/
theorem RdT.old {w w1 w2 : World} {v u : Value} {l pre t : List Int} (hv : OwnB w v l) (hR : RdT w1 v l) (hu : OwnB w2 u pre) (hp : pre = l ++ t) (hc : Chg (fun g => u.ownBlock = some g) w1 w2) : RdT w2 v l := by
  obtain ⟨A, d, rfl, hd, hm, hr⟩ := hR.reads
  refine ⟨⟨A, d, rfl, hd, hm, old_view hv (fun A' n' c' e => by injection e with e _ _; exact e ▸ hr) hu hp hc _ _ _ rfl⟩, fun g hg => ?_⟩
  by_cases hb : u.ownBlock = some g
  · exact OwnV.typed hu g hb
  · obtain ⟨cur, h⟩ := hR.typed g hg
    exact ⟨cur, h.chg hc hb⟩
/-- the i-th entry holds its marks -/
structure EntOk (w : World) (bs : Nat → Prop) (i : Nat) (x : Ent) : Prop where
  v : RdT w x.v (List.replicate x.n (mk i))
  u : RdT w x.u (List.replicate x.n (mk i) ++ List.replicate 90 (mk i + 121))
  bv : ∀ g, x.v.ownBlock = some g → bs g
  bu : ∀ g, x.u.ownBlock = some g → bs g
theorem EntOk.mono' {w w1 : World} {bs S : Nat → Prop} {i : Nat} {x : Ent} (h : EntOk w bs i x) (c : Chg S w w1) (hS : ∀ g, bs g → (∃ cur, Blk w g 5 cur) → ¬ S g) : EntOk w1 bs i x :=
  ⟨h.v.chg c fun g hg => hS g (h.bv g hg) (h.v.typed g hg), h.u.chg c fun g hg => hS g (h.bu g hg) (h.u.typed g hg), h.bv, h.bu⟩
/-- the lists of a book -/
structure BookL (w : World) (L : Value) (bs : Nat → Prop) (es : List Ent) : Prop where
  row : OwnV w 22 1 L (2 * es.length) (entVals es)
  ent : ∀ i (h : i < es.length), EntOk w bs i es[i]
theorem EntOk.chg {w w1 : World} {bs S : Nat → Prop} {i : Nat} {x : Ent} (h : EntOk w bs i x) (c : Chg S w w1) (hS : ∀ g, bs g → ¬ S g) : EntOk w1 bs i x :=
  ⟨h.v.chg c fun g hg => hS g (h.bv g hg), h.u.chg c fun g hg => hS g (h.bu g hg), h.bv, h.bu⟩
theorem EntOk.mono {w : World} {bs cs : Nat → Prop} {i : Nat} {x : Ent} (h : EntOk w bs i x) (hS : ∀ g, bs g → cs g) : EntOk w cs i x :=
  ⟨h.v, h.u, fun g hg => hS g (h.bv g hg), fun g hg => hS g (h.bu g hg)⟩
theorem EntOk.drewN {w : World} {bs : Nat → Prop} {i : Nat} {x : Ent} (h : EntOk w bs i x) (n : Nat) : EntOk (w.drewN n) bs i x := ⟨h.v.drewN n, h.u.drewN n, h.bv, h.bu⟩
theorem BookL.chg {w w1 : World} {L : Value} {bs S : Nat → Prop} {es : List Ent} (h : BookL w L bs es) (c : Chg S w w1) (hL : ∀ g, L.ownBlock = some g → ¬ S g) (hS : ∀ g, bs g → ¬ S g) : BookL w1 L bs es :=
  ⟨h.row.chg c hL, fun i hi => (h.ent i hi).chg c hS⟩
theorem BookL.mono {w : World} {L : Value} {bs cs : Nat → Prop} {es : List Ent} (h : BookL w L bs es) (hS : ∀ g, bs g → cs g) : BookL w L cs es := ⟨h.row, fun i hi => (h.ent i hi).mono hS⟩
theorem BookL.none (w : World) (bs : Nat → Prop) : BookL w (.slice none 0 0) bs [] := ⟨OwnV.nil _ _ _, fun i hi => absurd hi (by simp)⟩
/-- no block of bytes is the row of the lists -/
theorem BookL.ne {w : World} {L : Value} {bs : Nat → Prop} {es : List Ent} (h : BookL w L bs es) {v : Value} {l : List Int} (hv : OwnB w v l) : ∀ g, v.ownBlock = some g → L.ownBlock ≠ some g := by
  intro g hg
  obtain ⟨cur, hb⟩ := OwnV.typed hv g hg
  exact h.row.type_ne hb (by decide)
theorem infoL : (Try.prog.info? 22).map (fun i => (i.zero, i.size, i.bytes)) = some (some (.slice none 0 0), 1, 24) := by kernel_rfl
set_option maxRecDepth 20000 in
set_option maxHeartbeats 1600000 in
theorem putM (g o : Nat) (e : TypeId) (cur : List Value) (L lv : Value) (l : List Int) (es : List Ent) (bs : Nat → Prop) (w : World) (he : e ≠ 5) (he2 : e ≠ 22)
    (hb : Hid (Blk w g e cur)) (h0 : cur[o]? = some L) (h1 : cur[o + 1]? = some (.bool false)) (hL : Hid (BookL w L bs es)) (hl : Hid (OwnB w lv l)) (hap : Hid (∀ k, lv.ownBlock = some k → ¬ bs k)) (hbl : Hid (∀ k, bs k → k < w.heap.size))
    (hk : es.length ≤ 1099511627776) (hn : l.length ≤ 140737488355238) :
    Calls Try.prog 42 #[.pointer (some ⟨g, o, none⟩), lv] w (fun e1 w' => ∃ L' lv', e1 = .returned (.tuple #[]) ∧ Blk w' g e (cur.set o L') ∧ BookL w' L' (fun k => bs k ∨ lv.ownBlock = some k ∨ (w.heap.size ≤ k ∧ k < w'.heap.size)) (es ++ [⟨lv, lv', l.length⟩]) ∧
      Chg (fun k => k = g ∨ L.ownBlock = some k ∨ lv.ownBlock = some k) w w' ∧ Fresh w L L') := by
  obtain ⟨AL, cL, rfl, hcL, hmL⟩ := hL.out.row.slice
  obtain ⟨A, c, rfl, hc, hmc⟩ := hl.out.slice
  have c0 := hb.out.at_ h0
  have c1 := hb.out.at_ h1
  obtain ⟨n2, hn2⟩ : ∃ n2 : Nat, n2 = 2 * es.length := ⟨_, rfl⟩
  obtain ⟨n, hnl⟩ : ∃ n : Nat, n = l.length := ⟨_, rfl⟩
  rw [← hn2] at c0 hcL
  rw [← hnl] at hc hn
  have hm := mk_range es.length
  obtain ⟨m, hmm⟩ : ∃ m : Int, m = mk es.length := ⟨_, rfl⟩
  rw [← hmm] at hm
  obtain ⟨m1, m2⟩ := hm
  have HM := Lib.hid hmm
  have HN2 := Lib.hid hn2
  have HN := Lib.hid hnl
  have q0 : (0 : Int) ≤ (n2 : Int) := by omega
  have q1 : (n2 : Int) ≤ 2199023255552 := by omega
  have hw : 1 + (n2 : Int) / 2 % 120 = m := by
    rw [hmm, hn2]
    unfold mk
    omega
  have hw2 : IntKind.u8.wrap (m + 121) = m + 121 := IntWalk.u8_in _ (by omega)
  clear hmm hn2 hnl
  rw [← HN.out]
  go_enter Try.func42, Try.ntmps42
  go_wp2_with fail
  go_loopw [5] (fun i wr => ∃ k : Nat, k ≤ n ∧ i = .int .i64 k ∧ Hid (OwnB wr (.slice A n c) (fillUp l m k)) ∧ Hid (Chg (fun x => Value.ownBlock (.slice A n c) = some x) w wr)) (fun i _ => n - (intOf i).toNat)
  case atStart => exact ⟨0, Nat.zero_le _, rfl, by have := hl.out; rw [← HN.out] at this; rw [Hid]; simpa [fillUp] using this, Chg.refl _ _⟩
  case round =>
    obtain ⟨k, hk2, rfl, ho, hc2⟩ := hrel
    by_cases hlt : k < n
    · have hll : (fillUp l m k).length = n := (fillUp_length l m k (by rw [← HN.out]; exact hk2)).trans HN.out.symm
      obtain ⟨ga, rfl, hga⟩ := own_some ho.out (by rw [hll]; omega)
      obtain ⟨⟨y, hce⟩, hfr⟩ : (∃ y, wr.cell? ⟨ga, k, none⟩ = some y) ∧ wr.frozen? ⟨ga, k, none⟩ = false := by
        have := Own.cellAt ho.out (i := k) (by rw [hll]; omega)
        exact ⟨⟨_, this.1⟩, this.2⟩
      have HLT := Lib.hid hlt
      have b1 : (0 : Int) ≤ (k : Int) := by omega
      have b2 : (k : Int) < (n : Int) := by omega
      clear hll
      go_wp2_with fail
      go_roundw
      case rel =>
        refine ⟨k + 1, by omega, by go_num, ?_, hc2.out.setCell (p := ⟨ga, k, none⟩) (fun _ => hga) _⟩
        have := ho.out.store (i := k) (by rw [fillUp_length l m k (by rw [← HN.out]; exact hk2), ← HN.out]; exact HLT.out) m
        rw [fillUp_set l m k (by rw [← HN.out]; exact HLT.out)] at this
        exact this
      case measure => simp [intOf]; omega
    · obtain rfl : k = n := by omega
      have hfull : fillUp l m k = List.replicate k m := by rw [HN.out]; exact fillUp_full l m
      have OL := ho.out
      rw [hfull] at OL
      have hlg : Hid (∀ x, Value.ownBlock (.slice A k c) = some x → x ≠ g) := fun x hx e1 => OwnV.type_ne hl.out hb.out he.symm (by rw [← HN.out, hx, e1])
      have hLl : Hid (∀ x, Value.ownBlock (.slice AL (2 * es.length) cL) = some x → Value.ownBlock (.slice A k c) ≠ some x) := fun x hx e1 => hL.out.ne hl.out x (by rw [← HN.out]; exact e1) hx
      have hLg : Hid (∀ x, Value.ownBlock (.slice AL (2 * es.length) cL) = some x → x ≠ g) := fun x hx e1 => hL.out.row.type_ne hb.out he2.symm (by rw [hx, e1])
      have HB1 : Hid (Blk wr g e cur) := hb.out.chg hc2.out (fun e1 => hlg.out g e1 rfl)
      have HL1 : Hid (BookL wr (.slice AL (2 * es.length) cL) bs es) := hL.out.chg hc2.out hLl.out (fun x hx e1 => hap.out x (by rw [← HN.out]; exact e1) hx)
      have HR1 := HL1.out.row
      rw [← HN2.out] at HR1
      have HRH := Lib.hid HR1
      have HO := Lib.hid OL
      clear HR1 OL hfull
      have c3 := HB1.out.at_ h0
      rw [← HN2.out] at c3
      go_wp2_with (at_builtin; go_must (refine wp_appv1 rfl _ _ 47 22 (.slice none 0 0) 24 rfl Try.underlying47 infoL rfl (by decide) (.slice AL n2 cL) n2 (entVals es) (.slice A k c) rfl rfl HRH.out rfl (by omega) ?_); intro v2 w2 k1 k2 k3; obtain ⟨A2, c2, rfl, _, _⟩ := k1.slice; have K1 := Lib.hid k1; have K2 := Lib.hid k2; have K3 := Lib.hid k3; clear k1 k2 k3; have HB2 : Hid (Blk w2 g e cur) := HB1.out.chg K2.out (fun e1 => hLg.out g (by rw [← HN2.out]; exact e1) rfl); have c4 := HB2.out.at_ h0; have f4 := HB2.out.frozen (i := o) (List.getElem?_eq_some_iff.1 h0).1; go_frame)
      obtain ⟨w3, hw3⟩ : ∃ w3, w3 = w2.setCell ⟨g, o, none⟩ (.slice A2 (n2 + 1) c2) := ⟨_, rfl⟩
      rw [← hw3]
      have hA2 : Hid (∀ x, Value.ownBlock (.slice A2 (n2 + 1) c2) = some x → x ≠ g) := fun x hx e1 => K1.out.type_ne HB2.out he2.symm (by rw [hx, e1])
      have HB3 : Hid (Blk w3 g e (cur.set o (.slice A2 (n2 + 1) c2))) := by rw [hw3]; exact HB2.out.set o _
      have HK3 : Hid (OwnV w3 22 1 (.slice A2 (n2 + 1) c2) (n2 + 1) (entVals es ++ [Value.slice A k c])) := by rw [hw3]; exact K1.out.chg ((Chg.refl (· = g) w2).setg o _) (fun x hx e1 => hA2.out x hx e1)
      have C3 : Hid (Chg (fun x => Value.ownBlock (.slice AL n2 cL) = some x ∨ x = g) wr w3) := by rw [hw3]; exact (K2.out.mono (fun _ _ h => .inl h)).setCell (p := ⟨g, o, none⟩) (fun _ => .inr rfl) _
      have HO3 : Hid (OwnB w3 (.slice A k c) (List.replicate k m)) := HO.out.chg C3.out (fun x hx e1 => by
        rcases e1 with e1 | e1
        · exact hLl.out x (by rw [← HN2.out]; exact e1) hx
        · exact hlg.out x hx e1)
      have HE3 : Hid (∀ i (h : i < es.length), EntOk w3 bs i es[i]) := fun i hi => by
        refine (HL1.out.ent i hi).mono' C3.out fun x hx ht e1 => ?_
        obtain ⟨cur', hcu⟩ := ht
        rcases e1 with e1 | e1
        · exact HRH.out.type_ne hcu (by decide) e1
        · exact hcu.type_ne HB1.out he.symm e1
      clear hw3
      go_loopw [1, 6] (fun x i wr2 => ∃ j : Nat, j ≤ 90 ∧ i = .int .i64 j ∧ Hid (OwnB wr2 x (List.replicate k m ++ List.replicate j (m + 121))) ∧ Hid (RdT wr2 (.slice A k c) (List.replicate k m)) ∧ Hid (Chg (fun x => Value.ownBlock (.slice A k c) = some x) w3 wr2) ∧ Hid (Fresh w3 (.slice A k c) x)) (fun _ i _ => 90 - (intOf i).toNat)
      case atStart => exact ⟨0, by omega, rfl, by have := HO3.out; rw [Hid]; simpa using this, HO3.out.rdT, Chg.refl _ _, .inl rfl⟩
      case round =>
        obtain ⟨j, hj, rfl, a1, a2, a3, a4⟩ := hrel
        by_cases hlt2 : j < 90
        · go_wp2_with (at_builtin; go_must (refine wp_app1 rfl _ _ 22 5 .u8 1 rfl Try.underlying22 infoU8 (by decide) u1 _ _ rfl a1 rfl ?b1 ?_); (case b1 => simp; omega); intro v3 w4 k1 k2 k3 k4; have N1 := Lib.hid k1; have N2 := Lib.hid k2; have N3 := Lib.hid k3; have N4 := Lib.hid k4; clear k1 k2 k3 k4)
          go_roundw
          case rel =>
            refine ⟨j + 1, by omega, by go_num, ?_, RdT.old HO3.out a2.out N2.out rfl N3.out, a3.out.app a4.out N3.out, a4.out.trans N4.out a3.out.size⟩
            have := N1.out
            rw [List.append_assoc, ← List.replicate_succ'] at this
            exact this
          case measure => simp [intOf]; omega
        · obtain rfl : j = 90 := by omega
          have C4 : Hid (Chg (fun x => x = g ∨ Value.ownBlock (.slice AL n2 cL) = some x ∨ Value.ownBlock (.slice A k c) = some x) w wr) := (((hc2.out.mono (fun _ _ h => .inr (.inr h))).trans C3.out (fun _ _ h => h.elim (fun h => .inr (.inl h)) .inl)).trans a3.out (fun _ _ h => .inr (.inr h)))
          have HB4 : Hid (Blk wr g e (cur.set o (.slice A2 (n2 + 1) c2))) := HB3.out.chg a3.out (fun e1 => hlg.out g e1 rfl)
          have HK4 : Hid (OwnV wr 22 1 (.slice A2 (n2 + 1) c2) (n2 + 1) (entVals es ++ [Value.slice A k c])) := HK3.out.chg a3.out (fun x hx e1 => by
            obtain ⟨cur', hcu⟩ := OwnV.typed HO3.out x e1
            exact HK3.out.type_ne hcu (by decide) hx)
          have HE4 : Hid (∀ i (h : i < es.length), EntOk wr bs i es[i]) := fun i hi => (HE3.out i hi).chg a3.out (fun x hx e1 => hap.out x (by rw [← HN.out]; exact e1) hx)
          obtain ⟨A9, c9, hu9⟩ : ∃ A9 c9, u1 = .slice A9 (k + 90) c9 := by
            obtain ⟨A9, c9, h9, _⟩ := a1.out.slice
            exact ⟨A9, c9, by rw [h9]; simp⟩
          subst hu9
          have ho1 : o < cur.length := (List.getElem?_eq_some_iff.1 h0).1
          have c5 := HB4.out.at_ (i := o) (List.getElem?_set_self ho1)
          have hwr : Hid (w3.heap.size ≤ wr.heap.size ∧ w.heap.size ≤ w3.heap.size) := ⟨a3.out.size, Nat.le_trans hc2.out.size C3.out.size⟩
          go_wp2_with (at_builtin; go_must (refine wp_appv1 rfl _ _ 47 22 (.slice none 0 0) 24 rfl Try.underlying47 infoL rfl (by decide) (.slice A2 (n2 + 1) c2) (n2 + 1) (entVals es ++ [Value.slice A k c]) (.slice A9 (k + 90) c9) rfl rfl HK4.out rfl (by omega) ?_); intro v2 w5 k1 k2 k3; obtain ⟨A5, c6, rfl, _, _⟩ := k1.slice; have N1 := Lib.hid k1; have N2 := Lib.hid k2; have N3 := Lib.hid k3; clear k1 k2 k3; have HB5 : Hid (Blk w5 g e (cur.set o (.slice A2 (n2 + 1) c2))) := HB4.out.chg N2.out (fun e1 => hA2.out g e1 rfl); have c7 := HB5.out.at_ (i := o) (List.getElem?_set_self ho1); have f7 := HB5.out.frozen (i := o) (by rw [List.length_set]; exact ho1); go_frame)
          go_end0
          have hA5 : Hid (∀ x, Value.ownBlock (.slice A5 (n2 + 1 + 1) c6) = some x → x ≠ g) := fun x hx e1 => N1.out.type_ne HB5.out he2.symm (by rw [hx, e1])
          refine ⟨.slice A5 (n2 + 1 + 1) c6, .slice A9 (k + 90) c9, rfl, ?_, ⟨?_, ?_⟩, ?_, ?_⟩
          · have := HB5.out.set o (.slice A5 (n2 + 1 + 1) c6)
            rw [List.set_set] at this
            exact this
          · have := N1.out.chg ((Chg.refl (· = g) w5).setg o (.slice A5 (n2 + 1 + 1) c6)) (fun x hx e1 => hA5.out x hx e1)
            rw [entVals_snoc, List.length_append, List.length_singleton, show 2 * (es.length + 1) = n2 + 1 + 1 by have := HN2.out; omega]
            exact this
          · intro i hi
            have tail : ∀ {x : Nat}, (∃ cur, Blk wr x 5 cur) → ∀ {S : Nat → Prop}, ¬ (Value.ownBlock (.slice A2 (n2 + 1) c2) = some x ∨ x = g) := fun {x} ht _ e1 => by
              obtain ⟨cur', hcu⟩ := ht
              rcases e1 with e1 | e1
              · exact HK4.out.type_ne hcu (by decide) e1
              · exact hcu.type_ne HB4.out he.symm e1
            have CC : Chg (fun x => Value.ownBlock (.slice A2 (n2 + 1) c2) = some x ∨ x = g) wr (w5.setCell ⟨g, o, none⟩ (.slice A5 (n2 + 1 + 1) c6)) := (N2.out.mono (fun _ _ h => .inl h)).setCell (p := ⟨g, o, none⟩) (fun _ => .inr rfl) _
            by_cases hi2 : i < es.length
            · rw [List.getElem_append_left hi2]
              exact ((HE4.out i hi2).mono' CC (fun x _ ht => tail ht (S := fun _ => True))).mono (fun _ h => .inl h)
            · obtain rfl : i = es.length := by simp at hi; omega
              rw [List.getElem_append_right (Nat.le_refl _)]
              simp only [Nat.sub_self, List.getElem_cons_zero]
              refine ⟨?_, ?_, fun x hx => .inr (.inl hx), fun x hx => ?_⟩
              · rw [← HM.out]
                exact a2.out.chg CC (fun x hx => tail (a2.out.typed x hx) (S := fun _ => True))
              · rw [← HM.out]
                exact a1.out.rdT.chg CC (fun x hx => tail (a1.out.rdT.typed x hx) (S := fun _ => True))
              · rcases a4.out with h | h
                · exact .inr (.inl (h ▸ hx))
                · refine .inr (.inr ⟨?_, ?_⟩)
                  · have := h x hx
                    have := hwr.out
                    omega
                  · have h1 := a1.out.lt x hx
                    have h2 := CC.size
                    omega
          · rw [← HN2.out]
            refine (C4.out.trans N2.out ?_).setCell (p := ⟨g, o, none⟩) (fun _ => .inl rfl) _
            intro x hx e1
            rcases K3.out with h | h
            · exact .inr (.inl (h ▸ e1))
            · have h1 := h x e1
              have h2 := hc2.out.size
              omega
          · rw [← HN2.out]
            exact (K3.out.trans N3.out (Nat.le_trans C3.out.size a3.out.size)).imp id fun h x hx => Nat.le_trans hc2.out.size (h x hx)
end Go.Proofs.Ytcljbaoadmflgaa.Kit
