/- merged: Book BookK BookP BookI BookJ -/
import Derived.Test.YtlnomadhgoblkaaProg
import Derived.Test.YtlnomadhgoblkaaKit
import Derived.Test.YtlnomadhgoblkaaOctL1
import Derived.Test.YtlnomadhgoblkaaOctLaw
import Derived.Deep.RegionHeld3
import Derived.Deep.RegionLaw
/- The laws' Book: lists that were handed out, each written full with a mark of its own. -/
set_option linter.unusedVariables false
set_option linter.unusedSimpArgs false
namespace Go.Proofs.Ytlnomadhgoblkaa.Kit
open Go.RowKit
section
variable {P : Program} {ops : Array Oper} {rest : List Oper} {o : Oper} {a : Act} {Q : Exit → Act → World → Prop}
/-- append(v, y) of values of one cell: the world is 'W.alloc' of the box of y -/
theorem wp_appv1 {W : World} (hgd : o.guard = none) (s x : Operand) (t e : TypeId) (z : Value) (bytes : Nat)
    (ho : o.op = .call { callee := .builtin .append, args := #[s, x], argTypes := #[t, t] })
    (ht : P.underlying t = some (.slice e)) (hinfo : (P.info? e).map (fun i => (i.zero, i.size, i.bytes)) = some (some z, 1, bytes)) (hzs : z.cells.size = 1) (hby : 0 < bytes)
    (v : Value) (n : Nat) (cs : List Value) (y : Value) (hy : y.oneCell' = true) (hs : a.eval s = v) (hown : OwnV W e 1 v n cs)
    (hx : a.eval x = .slice (some ⟨W.heap.size, 0, none⟩) 1 1) (hbytes : (n + 1) * bytes ≤ 140737488355328)
    (h : ∀ v' w', OwnV w' e 1 v' (n + 1) (cs ++ [y]) → Chg (fun g => v.ownBlock = some g) W w' → Fresh W v v' → wpList P ops Q rest (a.put o.dst v') w') :
    wpList P ops Q (o :: rest) a (W.alloc (.cells #[y] e)) :=
  wpList_plain hgd fun _ hK => by
    refine ow_app (W := W.alloc (.cells #[y] e)) s x t e z 1 bytes ho ht hinfo hzs (by decide) hby v n cs hs (hown.chg (S := fun _ => False) ((Chg.refl _ W).alloc _) (fun _ _ h => h)) _ 1 1 [y] hx rfl ?_ (by simpa using hy) hbytes fun v' w' h2 h3 h4 h5 => hK _ _ (h v' w' h2 ?_ ?_)
    · intro j u hj
      have : j = 0 := by
        rcases j with _ | j
        · rfl
        · simp at hj
      subst this
      refine ⟨_, rfl, ?_⟩
      have := (Blk.new W #[y] e).cell 0
      rw [show (⟨W.heap.size, 0, none⟩ : Addr).add 0 = ⟨W.heap.size, 0, none⟩ from rfl, this]
      simpa using hj
    · exact ((Chg.refl _ W).alloc _).trans h4 (fun _ _ h => h)
    · rcases h5 with h5 | h5
      · exact .inl h5
      · refine .inr fun g hg => ?_
        rw [h5] at hg
        injection hg with hg
        simp at hg
        omega
end
/-- the mark of the i-th list -/
def mk (i : Nat) : Int := 1 + ((i % 120 : Nat) : Int)
theorem mk_range (i : Nat) : 1 ≤ mk i ∧ mk i ≤ 120 := by
  unfold mk
  have := Nat.mod_lt i (by decide : 0 < 120)
  omega
/-- written full up to k -/
def fillUp (l : List Int) (m : Int) (k : Nat) : List Int := List.replicate k m ++ l.drop k
theorem fillUp_length (l : List Int) (m : Int) (k : Nat) (hk : k ≤ l.length) : (fillUp l m k).length = l.length := by
  simp [fillUp]
  omega
theorem fillUp_set (l : List Int) (m : Int) (k : Nat) (hk : k < l.length) : (fillUp l m k).set k m = fillUp l m (k + 1) := by
  unfold fillUp
  rw [List.set_append_right _ _ (by simp), List.length_replicate, Nat.sub_self, List.drop_eq_getElem_cons hk, List.set_cons_zero, List.replicate_succ']
  simp
theorem fillUp_full (l : List Int) (m : Int) : fillUp l m l.length = List.replicate l.length m := by simp [fillUp]
/-- an entry of a book: the list, the list grown, its length -/
structure Ent where
  v : Value
  u : Value
  n : Nat
def entVals (es : List Ent) : List Value := es.flatMap fun x => [x.v, x.u]
theorem entVals_length (es : List Ent) : (entVals es).length = 2 * es.length := by
  induction es with
  | nil => rfl
  | cons x xs ih => simp only [entVals, List.flatMap_cons, List.length_append, List.length_cons, List.length_nil] at ih ⊢; omega
theorem entVals_snoc (es : List Ent) (x : Ent) : entVals (es ++ [x]) = entVals es ++ [x.v] ++ [x.u] := by simp [entVals]
/-- a slice of bytes that is read, over a block of bytes -/
structure RdT (w : World) (v : Value) (l : List Int) : Prop where
  reads : ∃ A c, v = .slice A l.length c ∧ l.length ≤ c ∧ c ≤ maxLen ∧ Rd w .u8 A l
  typed : ∀ g, v.ownBlock = some g → ∃ cur, Blk w g 5 cur
theorem RdT.chg {w w1 : World} {v : Value} {l : List Int} {S : Nat → Prop} (h : RdT w v l) (c : Chg S w w1) (hS : ∀ g, v.ownBlock = some g → ¬ S g) : RdT w1 v l := by
  refine ⟨?_, fun g hg => ?_⟩
  · obtain ⟨A, d, rfl, hd, hm, hr⟩ := h.reads
    exact ⟨A, d, rfl, hd, hm, hr.chg c fun ad e _ => hS ad.block (by rw [e]; rfl)⟩
  · obtain ⟨cur, hb⟩ := h.typed g hg
    exact ⟨cur, hb.chg c (hS g hg)⟩
theorem RdT.drewN {w : World} {v : Value} {l : List Int} (h : RdT w v l) (n : Nat) : RdT (w.drewN n) v l := ⟨h.reads, h.typed⟩
theorem Own.rdT {w : World} {v : Value} {l : List Int} (h : OwnB w v l) : RdT w v l := by
  refine ⟨?_, OwnV.typed h⟩
  obtain ⟨A, c, rfl, hc, hm⟩ := h.slice
  exact ⟨A, c, rfl, hc, hm, h.rd rfl⟩
/-- behind an append to u, which began with what stood in v -/
theorem RdT.old {w w1 w2 : World} {v u : Value} {l pre t : List Int} (hv : OwnB w v l) (hR : RdT w1 v l) (hu : OwnB w2 u pre) (hp : pre = l ++ t) (hc : Chg (fun g => u.ownBlock = some g) w1 w2) : RdT w2 v l := by
  obtain ⟨A, d, rfl, hd, hm, hr⟩ := hR.reads
  refine ⟨⟨A, d, rfl, hd, hm, old_view hv (fun A' n' c' e => by injection e with e _ _; exact e ▸ hr) hu hp hc _ _ _ rfl⟩, fun g hg => ?_⟩
  by_cases hb : u.ownBlock = some g
  · exact OwnV.typed hu g hb
  · obtain ⟨cur, h⟩ := hR.typed g hg
    exact ⟨cur, h.chg hc hb⟩
/-- the i-th entry holds its marks -/
structure EntOk (w : World) (bs : Nat → Prop) (i : Nat) (x : Ent) : Prop where
  v : RdT w x.v (List.replicate x.n (mk i))
  u : RdT w x.u (List.replicate x.n (mk i) ++ List.replicate 90 (mk i + 121))
  bv : ∀ g, x.v.ownBlock = some g → bs g
  bu : ∀ g, x.u.ownBlock = some g → bs g
theorem EntOk.mono' {w w1 : World} {bs S : Nat → Prop} {i : Nat} {x : Ent} (h : EntOk w bs i x) (c : Chg S w w1) (hS : ∀ g, bs g → (∃ cur, Blk w g 5 cur) → ¬ S g) : EntOk w1 bs i x :=
  ⟨h.v.chg c fun g hg => hS g (h.bv g hg) (h.v.typed g hg), h.u.chg c fun g hg => hS g (h.bu g hg) (h.u.typed g hg), h.bv, h.bu⟩
/-- the lists of a book -/
structure BookL (w : World) (L : Value) (bs : Nat → Prop) (es : List Ent) : Prop where
  row : OwnV w 29 1 L (2 * es.length) (entVals es)
  ent : ∀ i (h : i < es.length), EntOk w bs i es[i]
theorem EntOk.chg {w w1 : World} {bs S : Nat → Prop} {i : Nat} {x : Ent} (h : EntOk w bs i x) (c : Chg S w w1) (hS : ∀ g, bs g → ¬ S g) : EntOk w1 bs i x :=
  ⟨h.v.chg c fun g hg => hS g (h.bv g hg), h.u.chg c fun g hg => hS g (h.bu g hg), h.bv, h.bu⟩
theorem EntOk.mono {w : World} {bs cs : Nat → Prop} {i : Nat} {x : Ent} (h : EntOk w bs i x) (hS : ∀ g, bs g → cs g) : EntOk w cs i x :=
  ⟨h.v, h.u, fun g hg => hS g (h.bv g hg), fun g hg => hS g (h.bu g hg)⟩
theorem EntOk.drewN {w : World} {bs : Nat → Prop} {i : Nat} {x : Ent} (h : EntOk w bs i x) (n : Nat) : EntOk (w.drewN n) bs i x := ⟨h.v.drewN n, h.u.drewN n, h.bv, h.bu⟩
theorem BookL.chg {w w1 : World} {L : Value} {bs S : Nat → Prop} {es : List Ent} (h : BookL w L bs es) (c : Chg S w w1) (hL : ∀ g, L.ownBlock = some g → ¬ S g) (hS : ∀ g, bs g → ¬ S g) : BookL w1 L bs es :=
  ⟨h.row.chg c hL, fun i hi => (h.ent i hi).chg c hS⟩
theorem BookL.mono {w : World} {L : Value} {bs cs : Nat → Prop} {es : List Ent} (h : BookL w L bs es) (hS : ∀ g, bs g → cs g) : BookL w L cs es := ⟨h.row, fun i hi => (h.ent i hi).mono hS⟩
theorem BookL.none (w : World) (bs : Nat → Prop) : BookL w (.slice none 0 0) bs [] := ⟨OwnV.nil _ _ _, fun i hi => absurd hi (by simp)⟩
/-- no block of bytes is the row of the lists -/
theorem BookL.ne {w : World} {L : Value} {bs : Nat → Prop} {es : List Ent} (h : BookL w L bs es) {v : Value} {l : List Int} (hv : OwnB w v l) : ∀ g, v.ownBlock = some g → L.ownBlock ≠ some g := by
  intro g hg
  obtain ⟨cur, hb⟩ := OwnV.typed hv g hg
  exact h.row.type_ne hb (by decide)
theorem infoL : (Try.prog.info? 29).map (fun i => (i.zero, i.size, i.bytes)) = some (some (.slice none 0 0), 1, 24) := by kernel_rfl
set_option maxRecDepth 20000 in
set_option maxHeartbeats 1600000 in
theorem putM (g o : Nat) (e : TypeId) (cur : List Value) (L lv : Value) (l : List Int) (es : List Ent) (bs : Nat → Prop) (w : World) (he : e ≠ 5) (he2 : e ≠ 29)
    (hb : Hid (Blk w g e cur)) (h0 : cur[o]? = some L) (h1 : cur[o + 1]? = some (.bool false)) (hL : Hid (BookL w L bs es)) (hl : Hid (OwnB w lv l)) (hap : Hid (∀ k, lv.ownBlock = some k → ¬ bs k)) (hbl : Hid (∀ k, bs k → k < w.heap.size))
    (hk : es.length ≤ 1099511627776) (hn : l.length ≤ 140737488355238) :
    Calls Try.prog 54 #[.pointer (some ⟨g, o, none⟩), lv] w (fun e1 w' => ∃ L' lv', e1 = .returned (.tuple #[]) ∧ Blk w' g e (cur.set o L') ∧ BookL w' L' (fun k => bs k ∨ lv.ownBlock = some k ∨ (w.heap.size ≤ k ∧ k < w'.heap.size)) (es ++ [⟨lv, lv', l.length⟩]) ∧
      Chg (fun k => k = g ∨ L.ownBlock = some k ∨ lv.ownBlock = some k) w w' ∧ Fresh w L L') := by
  obtain ⟨AL, cL, rfl, hcL, hmL⟩ := hL.out.row.slice
  obtain ⟨A, c, rfl, hc, hmc⟩ := hl.out.slice
  have c0 := hb.out.at_ h0
  have c1 := hb.out.at_ h1
  obtain ⟨n2, hn2⟩ : ∃ n2 : Nat, n2 = 2 * es.length := ⟨_, rfl⟩
  obtain ⟨n, hnl⟩ : ∃ n : Nat, n = l.length := ⟨_, rfl⟩
  rw [← hn2] at c0 hcL
  rw [← hnl] at hc hn
  have hm := mk_range es.length
  obtain ⟨m, hmm⟩ : ∃ m : Int, m = mk es.length := ⟨_, rfl⟩
  rw [← hmm] at hm
  obtain ⟨m1, m2⟩ := hm
  have HM := Lib.hid hmm
  have HN2 := Lib.hid hn2
  have HN := Lib.hid hnl
  have q0 : (0 : Int) ≤ (n2 : Int) := by omega
  have q1 : (n2 : Int) ≤ 2199023255552 := by omega
  have hw : 1 + (n2 : Int) / 2 % 120 = m := by
    rw [hmm, hn2]
    unfold mk
    omega
  have hw2 : IntKind.u8.wrap (m + 121) = m + 121 := IntWalk.u8_in _ (by omega)
  clear hmm hn2 hnl
  rw [← HN.out]
  go_enter Try.func54, Try.ntmps54
  go_wp2_with fail
  go_loopw [5] (fun i wr => ∃ k : Nat, k ≤ n ∧ i = .int .i64 k ∧ Hid (OwnB wr (.slice A n c) (fillUp l m k)) ∧ Hid (Chg (fun x => Value.ownBlock (.slice A n c) = some x) w wr)) (fun i _ => n - (intOf i).toNat)
  case atStart => exact ⟨0, Nat.zero_le _, rfl, by have := hl.out; rw [← HN.out] at this; rw [Hid]; simpa [fillUp] using this, Chg.refl _ _⟩
  case round =>
    obtain ⟨k, hk2, rfl, ho, hc2⟩ := hrel
    by_cases hlt : k < n
    · have hll : (fillUp l m k).length = n := (fillUp_length l m k (by rw [← HN.out]; exact hk2)).trans HN.out.symm
      obtain ⟨ga, rfl, hga⟩ := own_some ho.out (by rw [hll]; omega)
      obtain ⟨⟨y, hce⟩, hfr⟩ : (∃ y, wr.cell? ⟨ga, k, none⟩ = some y) ∧ wr.frozen? ⟨ga, k, none⟩ = false := by
        have := Own.cellAt ho.out (i := k) (by rw [hll]; omega)
        exact ⟨⟨_, this.1⟩, this.2⟩
      have HLT := Lib.hid hlt
      have b1 : (0 : Int) ≤ (k : Int) := by omega
      have b2 : (k : Int) < (n : Int) := by omega
      clear hll
      go_wp2_with fail
      go_roundw
      case rel =>
        refine ⟨k + 1, by omega, by go_num, ?_, hc2.out.setCell (p := ⟨ga, k, none⟩) (fun _ => hga) _⟩
        have := ho.out.store (i := k) (by rw [fillUp_length l m k (by rw [← HN.out]; exact hk2), ← HN.out]; exact HLT.out) m
        rw [fillUp_set l m k (by rw [← HN.out]; exact HLT.out)] at this
        exact this
      case measure => simp [intOf]; omega
    · obtain rfl : k = n := by omega
      have hfull : fillUp l m k = List.replicate k m := by rw [HN.out]; exact fillUp_full l m
      have OL := ho.out
      rw [hfull] at OL
      have hlg : Hid (∀ x, Value.ownBlock (.slice A k c) = some x → x ≠ g) := fun x hx e1 => OwnV.type_ne hl.out hb.out he.symm (by rw [← HN.out, hx, e1])
      have hLl : Hid (∀ x, Value.ownBlock (.slice AL (2 * es.length) cL) = some x → Value.ownBlock (.slice A k c) ≠ some x) := fun x hx e1 => hL.out.ne hl.out x (by rw [← HN.out]; exact e1) hx
      have hLg : Hid (∀ x, Value.ownBlock (.slice AL (2 * es.length) cL) = some x → x ≠ g) := fun x hx e1 => hL.out.row.type_ne hb.out he2.symm (by rw [hx, e1])
      have HB1 : Hid (Blk wr g e cur) := hb.out.chg hc2.out (fun e1 => hlg.out g e1 rfl)
      have HL1 : Hid (BookL wr (.slice AL (2 * es.length) cL) bs es) := hL.out.chg hc2.out hLl.out (fun x hx e1 => hap.out x (by rw [← HN.out]; exact e1) hx)
      have HR1 := HL1.out.row
      rw [← HN2.out] at HR1
      have HRH := Lib.hid HR1
      have HO := Lib.hid OL
      clear HR1 OL hfull
      have c3 := HB1.out.at_ h0
      rw [← HN2.out] at c3
      go_wp2_with (at_builtin; go_must (refine wp_appv1 rfl _ _ 61 29 (.slice none 0 0) 24 rfl Try.underlying61 infoL rfl (by decide) (.slice AL n2 cL) n2 (entVals es) (.slice A k c) rfl rfl HRH.out rfl (by omega) ?_); intro v2 w2 k1 k2 k3; obtain ⟨A2, c2, rfl, _, _⟩ := k1.slice; have K1 := Lib.hid k1; have K2 := Lib.hid k2; have K3 := Lib.hid k3; clear k1 k2 k3; have HB2 : Hid (Blk w2 g e cur) := HB1.out.chg K2.out (fun e1 => hLg.out g (by rw [← HN2.out]; exact e1) rfl); have c4 := HB2.out.at_ h0; have f4 := HB2.out.frozen (i := o) (List.getElem?_eq_some_iff.1 h0).1; go_frame)
      obtain ⟨w3, hw3⟩ : ∃ w3, w3 = w2.setCell ⟨g, o, none⟩ (.slice A2 (n2 + 1) c2) := ⟨_, rfl⟩
      rw [← hw3]
      have hA2 : Hid (∀ x, Value.ownBlock (.slice A2 (n2 + 1) c2) = some x → x ≠ g) := fun x hx e1 => K1.out.type_ne HB2.out he2.symm (by rw [hx, e1])
      have HB3 : Hid (Blk w3 g e (cur.set o (.slice A2 (n2 + 1) c2))) := by rw [hw3]; exact HB2.out.set o _
      have HK3 : Hid (OwnV w3 29 1 (.slice A2 (n2 + 1) c2) (n2 + 1) (entVals es ++ [Value.slice A k c])) := by rw [hw3]; exact K1.out.chg ((Chg.refl (· = g) w2).setg o _) (fun x hx e1 => hA2.out x hx e1)
      have C3 : Hid (Chg (fun x => Value.ownBlock (.slice AL n2 cL) = some x ∨ x = g) wr w3) := by rw [hw3]; exact (K2.out.mono (fun _ _ h => .inl h)).setCell (p := ⟨g, o, none⟩) (fun _ => .inr rfl) _
      have HO3 : Hid (OwnB w3 (.slice A k c) (List.replicate k m)) := HO.out.chg C3.out (fun x hx e1 => by
        rcases e1 with e1 | e1
        · exact hLl.out x (by rw [← HN2.out]; exact e1) hx
        · exact hlg.out x hx e1)
      have HE3 : Hid (∀ i (h : i < es.length), EntOk w3 bs i es[i]) := fun i hi => by
        refine (HL1.out.ent i hi).mono' C3.out fun x hx ht e1 => ?_
        obtain ⟨cur', hcu⟩ := ht
        rcases e1 with e1 | e1
        · exact HRH.out.type_ne hcu (by decide) e1
        · exact hcu.type_ne HB1.out he.symm e1
      clear hw3
      go_loopw [1, 6] (fun x i wr2 => ∃ j : Nat, j ≤ 90 ∧ i = .int .i64 j ∧ Hid (OwnB wr2 x (List.replicate k m ++ List.replicate j (m + 121))) ∧ Hid (RdT wr2 (.slice A k c) (List.replicate k m)) ∧ Hid (Chg (fun x => Value.ownBlock (.slice A k c) = some x) w3 wr2) ∧ Hid (Fresh w3 (.slice A k c) x)) (fun _ i _ => 90 - (intOf i).toNat)
      case atStart => exact ⟨0, by omega, rfl, by have := HO3.out; rw [Hid]; simpa using this, HO3.out.rdT, Chg.refl _ _, .inl rfl⟩
      case round =>
        obtain ⟨j, hj, rfl, a1, a2, a3, a4⟩ := hrel
        by_cases hlt2 : j < 90
        · go_wp2_with (at_builtin; go_must (refine wp_app1 rfl _ _ 29 5 .u8 1 rfl Try.underlying29 infoU8 (by decide) u1 _ _ rfl a1 rfl ?b1 ?_); (case b1 => simp; omega); intro v3 w4 k1 k2 k3 k4; have N1 := Lib.hid k1; have N2 := Lib.hid k2; have N3 := Lib.hid k3; have N4 := Lib.hid k4; clear k1 k2 k3 k4)
          go_roundw
          case rel =>
            refine ⟨j + 1, by omega, by go_num, ?_, RdT.old HO3.out a2.out N2.out rfl N3.out, a3.out.app a4.out N3.out, a4.out.trans N4.out a3.out.size⟩
            have := N1.out
            rw [List.append_assoc, ← List.replicate_succ'] at this
            exact this
          case measure => simp [intOf]; omega
        · obtain rfl : j = 90 := by omega
          have C4 : Hid (Chg (fun x => x = g ∨ Value.ownBlock (.slice AL n2 cL) = some x ∨ Value.ownBlock (.slice A k c) = some x) w wr) := (((hc2.out.mono (fun _ _ h => .inr (.inr h))).trans C3.out (fun _ _ h => h.elim (fun h => .inr (.inl h)) .inl)).trans a3.out (fun _ _ h => .inr (.inr h)))
          have HB4 : Hid (Blk wr g e (cur.set o (.slice A2 (n2 + 1) c2))) := HB3.out.chg a3.out (fun e1 => hlg.out g e1 rfl)
          have HK4 : Hid (OwnV wr 29 1 (.slice A2 (n2 + 1) c2) (n2 + 1) (entVals es ++ [Value.slice A k c])) := HK3.out.chg a3.out (fun x hx e1 => by
            obtain ⟨cur', hcu⟩ := OwnV.typed HO3.out x e1
            exact HK3.out.type_ne hcu (by decide) hx)
          have HE4 : Hid (∀ i (h : i < es.length), EntOk wr bs i es[i]) := fun i hi => (HE3.out i hi).chg a3.out (fun x hx e1 => hap.out x (by rw [← HN.out]; exact e1) hx)
          obtain ⟨A9, c9, hu9⟩ : ∃ A9 c9, u1 = .slice A9 (k + 90) c9 := by
            obtain ⟨A9, c9, h9, _⟩ := a1.out.slice
            exact ⟨A9, c9, by rw [h9]; simp⟩
          subst hu9
          have ho1 : o < cur.length := (List.getElem?_eq_some_iff.1 h0).1
          have c5 := HB4.out.at_ (i := o) (List.getElem?_set_self ho1)
          have hwr : Hid (w3.heap.size ≤ wr.heap.size ∧ w.heap.size ≤ w3.heap.size) := ⟨a3.out.size, Nat.le_trans hc2.out.size C3.out.size⟩
          go_wp2_with (at_builtin; go_must (refine wp_appv1 rfl _ _ 61 29 (.slice none 0 0) 24 rfl Try.underlying61 infoL rfl (by decide) (.slice A2 (n2 + 1) c2) (n2 + 1) (entVals es ++ [Value.slice A k c]) (.slice A9 (k + 90) c9) rfl rfl HK4.out rfl (by omega) ?_); intro v2 w5 k1 k2 k3; obtain ⟨A5, c6, rfl, _, _⟩ := k1.slice; have N1 := Lib.hid k1; have N2 := Lib.hid k2; have N3 := Lib.hid k3; clear k1 k2 k3; have HB5 : Hid (Blk w5 g e (cur.set o (.slice A2 (n2 + 1) c2))) := HB4.out.chg N2.out (fun e1 => hA2.out g e1 rfl); have c7 := HB5.out.at_ (i := o) (List.getElem?_set_self ho1); have f7 := HB5.out.frozen (i := o) (by rw [List.length_set]; exact ho1); go_frame)
          go_end0
          have hA5 : Hid (∀ x, Value.ownBlock (.slice A5 (n2 + 1 + 1) c6) = some x → x ≠ g) := fun x hx e1 => N1.out.type_ne HB5.out he2.symm (by rw [hx, e1])
          refine ⟨.slice A5 (n2 + 1 + 1) c6, .slice A9 (k + 90) c9, rfl, ?_, ⟨?_, ?_⟩, ?_, ?_⟩
          · have := HB5.out.set o (.slice A5 (n2 + 1 + 1) c6)
            rw [List.set_set] at this
            exact this
          · have := N1.out.chg ((Chg.refl (· = g) w5).setg o (.slice A5 (n2 + 1 + 1) c6)) (fun x hx e1 => hA5.out x hx e1)
            rw [entVals_snoc, List.length_append, List.length_singleton, show 2 * (es.length + 1) = n2 + 1 + 1 by have := HN2.out; omega]
            exact this
          · intro i hi
            have tail : ∀ {x : Nat}, (∃ cur, Blk wr x 5 cur) → ∀ {S : Nat → Prop}, ¬ (Value.ownBlock (.slice A2 (n2 + 1) c2) = some x ∨ x = g) := fun {x} ht _ e1 => by
              obtain ⟨cur', hcu⟩ := ht
              rcases e1 with e1 | e1
              · exact HK4.out.type_ne hcu (by decide) e1
              · exact hcu.type_ne HB4.out he.symm e1
            have CC : Chg (fun x => Value.ownBlock (.slice A2 (n2 + 1) c2) = some x ∨ x = g) wr (w5.setCell ⟨g, o, none⟩ (.slice A5 (n2 + 1 + 1) c6)) := (N2.out.mono (fun _ _ h => .inl h)).setCell (p := ⟨g, o, none⟩) (fun _ => .inr rfl) _
            by_cases hi2 : i < es.length
            · rw [List.getElem_append_left hi2]
              exact ((HE4.out i hi2).mono' CC (fun x _ ht => tail ht (S := fun _ => True))).mono (fun _ h => .inl h)
            · obtain rfl : i = es.length := by simp at hi; omega
              rw [List.getElem_append_right (Nat.le_refl _)]
              simp only [Nat.sub_self, List.getElem_cons_zero]
              refine ⟨?_, ?_, fun x hx => .inr (.inl hx), fun x hx => ?_⟩
              · rw [← HM.out]
                exact a2.out.chg CC (fun x hx => tail (a2.out.typed x hx) (S := fun _ => True))
              · rw [← HM.out]
                exact a1.out.rdT.chg CC (fun x hx => tail (a1.out.rdT.typed x hx) (S := fun _ => True))
              · rcases a4.out with h | h
                · exact .inr (.inl (h ▸ hx))
                · refine .inr (.inr ⟨?_, ?_⟩)
                  · have := h x hx
                    have := hwr.out
                    omega
                  · have h1 := a1.out.lt x hx
                    have h2 := CC.size
                    omega
          · rw [← HN2.out]
            refine (C4.out.trans N2.out ?_).setCell (p := ⟨g, o, none⟩) (fun _ => .inl rfl) _
            intro x hx e1
            rcases K3.out with h | h
            · exact .inr (.inl (h ▸ e1))
            · have h1 := h x e1
              have h2 := hc2.out.size
              omega
          · rw [← HN2.out]
            exact (K3.out.trans N3.out (Nat.le_trans C3.out.size a3.out.size)).imp id fun h x hx => Nat.le_trans hc2.out.size (h x hx)
end Go.Proofs.Ytlnomadhgoblkaa.Kit

/- The laws' Book: kept. -/
set_option linter.unusedVariables false
set_option linter.unusedSimpArgs false
namespace Go.Proofs.Ytlnomadhgoblkaa.Kit
open Go.RowKit
theorem entVals_get (es : List Ent) : ∀ (i : Nat) (h : i < es.length), (entVals es)[2 * i]? = some es[i].v ∧ (entVals es)[2 * i + 1]? = some es[i].u := by
  induction es with
  | nil => intro i h; simp at h
  | cons x xs ih =>
    intro i h
    rcases i with _ | i
    · simp [entVals]
    · have := ih i (by simpa using h)
      simp only [entVals, List.flatMap_cons] at this ⊢
      rw [show 2 * (i + 1) = 2 * i + 1 + 1 by omega]
      simpa using this
theorem marks_at (n : Nat) (m : Int) (j : Nat) (h : j < (List.replicate n m ++ List.replicate 90 (m + 121)).length) : (List.replicate n m ++ List.replicate 90 (m + 121))[j] = if j < n then m else m + 121 := by
  split
  · rename_i hj
    rw [List.getElem_append_left (by simpa using hj), List.getElem_replicate]
  · rename_i hj
    rw [List.getElem_append_right (by simpa using hj), List.getElem_replicate]
/-- what stands at place i of the lists -/
theorem lists_at {w : World} {L : Value} {bs : Nat → Prop} {es : List Ent} (h : BookL w L bs es) (i : Nat) (hi : i < 2 * es.length) : ∃ (A A0 : Option Addr) (len c n0 c0 i0 : Nat), (i : Int) - (i : Int) % 2 = (i0 : Int) ∧ i0 ≤ i ∧ n0 ≤ len ∧ len ≤ c ∧ c ≤ maxLen ∧
    (entVals es)[i]? = some (.slice A len c) ∧ (entVals es)[i0]? = some (.slice A0 n0 c0) ∧ ∀ j, j < len → ∃ ad, A = some ad ∧ w.cell? (ad.add j) = some (.int .u8 (if j < n0 then mk (i / 2) else mk (i / 2) + 121)) := by
  have hq : i / 2 < es.length := by omega
  have hg := entVals_get es (i / 2) hq
  have he := h.ent (i / 2) hq
  obtain ⟨A0, c0, h0, hl0, hm0, hr0⟩ := he.v.reads
  obtain ⟨A1, c1, h1, hl1, hm1, hr1⟩ := he.u.reads
  rw [List.length_replicate] at h0
  rw [h0, h1] at hg
  rcases Nat.mod_two_eq_zero_or_one i with hp | hp
  · have hi2 : 2 * (i / 2) = i := by omega
    rw [hi2] at hg
    rw [List.length_replicate] at hl0
    refine ⟨A0, A0, _, c0, _, c0, i, by omega, Nat.le_refl _, Nat.le_refl _, hl0, hm0, hg.1, hg.1, fun j hj => ?_⟩
    obtain ⟨ad, e, hc⟩ := hr0 j (by simpa using hj)
    refine ⟨ad, e, ?_⟩
    rw [hc, if_pos hj, List.getElem_replicate]
  · have hi2 : 2 * (i / 2) + 1 = i := by omega
    rw [hi2] at hg
    refine ⟨A1, A0, _, c1, _, c0, 2 * (i / 2), by omega, by omega, by simp, hl1, hm1, hg.2, hg.1, fun j hj => ?_⟩
    obtain ⟨ad, e, hc⟩ := hr1 j hj
    refine ⟨ad, e, ?_⟩
    rw [hc, marks_at]
set_option maxRecDepth 20000 in
set_option maxHeartbeats 1600000 in
theorem kept (g o : Nat) (e : TypeId) (cur : List Value) (L : Value) (es : List Ent) (bs : Nat → Prop) (w : World)
    (hb : Hid (Blk w g e cur)) (h0 : cur[o]? = some L) (hL : Hid (BookL w L bs es)) (hk : es.length ≤ 1099511627776) :
    Calls Try.prog 49 #[.pointer (some ⟨g, o, none⟩)] w (fun e1 w' => e1 = .returned (.bool true) ∧ w = w') := by
  obtain ⟨AL, cL, rfl, hcL, hmL⟩ := hL.out.row.slice
  have c0 := hb.out.at_ h0
  obtain ⟨n2, hn2⟩ : ∃ n2 : Nat, n2 = 2 * es.length := ⟨_, rfl⟩
  have hr := hL.out.row
  rw [← hn2] at c0 hcL hr
  have HR := Lib.hid hr
  have HN2 := Lib.hid hn2
  have q1 : (n2 : Int) ≤ 2199023255552 := by omega
  clear hn2 hr
  go_enter Try.func49, Try.ntmps49
  go_wp2_with fail
  go_loop [3] (fun i => ∃ k : Nat, k ≤ n2 ∧ i = .int .i64 k) (fun i => n2 - (intOf i).toNat)
  case atStart => exact ⟨0, Nat.zero_le _, rfl⟩
  case round =>
    obtain ⟨k, hk2, rfl⟩ := hrel
    by_cases hlt : k < n2
    · obtain ⟨A, A0, len, c, n0, d0, i0, hi0, hile, hn0, hlc, hcm, g1, g2, hcell⟩ := lists_at hL.out k (by have := HN2.out; omega)
      obtain ⟨ad, rfl, d1, _⟩ := HR.out.cells _ _ _ rfl _ _ g1
      obtain ⟨ad', e', d2, _⟩ := HR.out.cells _ _ _ rfl _ _ g2
      injection e' with e'
      subst e'
      have hm := mk_range (k / 2)
      have hw : 1 + (k : Int) / 2 % 120 = mk (k / 2) := by unfold mk; omega
      obtain ⟨m, hmm⟩ : ∃ m : Int, m = mk (k / 2) := ⟨_, rfl⟩
      rw [← hmm] at hm hw hcell
      obtain ⟨m1, m2⟩ := hm
      have hw2 : IntKind.u8.wrap (m + 121) = m + 121 := IntWalk.u8_in _ (by omega)
      have HC := Lib.hid hcell
      have b1 : (0 : Int) ≤ (k : Int) := by omega
      have b2 : (k : Int) < (n2 : Int) := by omega
      have b3 : (i0 : Int) < (n2 : Int) := by omega
      have b4 : (len : Int) ≤ 9223372036854775807 := by simp only [maxLen] at hcm; omega
      clear hmm hcell g1 g2
      go_wp2_with fail
      go_loop [6] (fun j => ∃ q : Nat, q ≤ len ∧ j = .int .i64 q) (fun j => len - (intOf j).toNat)
      case atStart => exact ⟨0, Nat.zero_le _, rfl⟩
      case round =>
        obtain ⟨q, hq, rfl⟩ := hrel
        by_cases hql : q < len
        · obtain ⟨au, rfl, hcu⟩ := HC.out q hql
          have b5 : (0 : Int) ≤ (q : Int) := by omega
          have b6 : (q : Int) < (len : Int) := by omega
          by_cases hqn : q < n0
          · rw [if_pos hqn] at hcu
            have b7 : (q : Int) < (n0 : Int) := by omega
            go_wp2_with fail
            go_round
            case rel => exact ⟨q + 1, by omega, by go_num⟩
            case measure => simp [intOf]; omega
          · rw [if_neg hqn] at hcu
            have b7 : ¬ (q : Int) < (n0 : Int) := by omega
            have b8 : (n0 : Int) ≤ (q : Int) := by omega
            go_wp2_with fail
            go_round
            case rel => exact ⟨q + 1, by omega, by go_num⟩
            case measure => simp [intOf]; omega
        · obtain rfl : q = len := by omega
          go_wp2_with fail
          go_round
          case rel => exact ⟨k + 1, by omega, by go_num⟩
          case measure => simp [intOf]; omega
    · obtain rfl : k = n2 := by omega
      go_wp2_with fail
      go_ret
      exact ⟨rfl, rfl⟩
end Go.Proofs.Ytlnomadhgoblkaa.Kit

/- The laws' Book: put, where lists are kept as they came. -/
set_option linter.unusedVariables false
set_option linter.unusedSimpArgs false
namespace Go.Proofs.Ytlnomadhgoblkaa.Kit
open Go.RowKit
theorem box_news {W W' : World} (y : Value) (e : TypeId) (hW : ∀ p, W'.cell? p = (W.alloc (.cells #[y] e)).cell? p) : ∀ (j : Nat) (u : Value), [y][j]? = some u → ∃ ad, some (⟨W.heap.size, 0, none⟩ : Addr) = some ad ∧ W'.cell? (ad.add j) = some u := by
  intro j u hj
  have : j = 0 := by
    rcases j with _ | j
    · rfl
    · simp at hj
  subst this
  refine ⟨_, rfl, ?_⟩
  rw [hW]
  have := (Blk.new W #[y] e).cell 0
  rw [show (⟨W.heap.size, 0, none⟩ : Addr).add 0 = ⟨W.heap.size, 0, none⟩ from rfl, this]
  simpa using hj
section
variable {P : Program} {ops : Array Oper} {rest : List Oper} {o : Oper} {a : Act} {Q : Exit → Act → World → Prop}
theorem st_appv {W : World} {K : Act → World → Prop} {E : Prop} (hgd : o.guard = none) (s x : Operand) (t e : TypeId) (z : Value) (bytes : Nat)
    (ho : o.op = .call { callee := .builtin .append, args := #[s, x], argTypes := #[t, t] })
    (ht : P.underlying t = some (.slice e)) (hinfo : (P.info? e).map (fun i => (i.zero, i.size, i.bytes)) = some (some z, 1, bytes)) (hzs : z.cells.size = 1) (hby : 0 < bytes)
    (v : Value) (n : Nat) (cs : List Value) (y : Value) (hy : y.oneCell' = true) (hs : a.eval s = v) (hown : OwnV W e 1 v n cs) (b : Nat)
    (hx : a.eval x = .slice (some ⟨b, 0, none⟩) 1 1) (hn : ∀ (j : Nat) (u : Value), [y][j]? = some u → ∃ ad, some (⟨b, 0, none⟩ : Addr) = some ad ∧ W.cell? (ad.add j) = some u) (hbytes : (n + 1) * bytes ≤ 140737488355328)
    (h : ∀ v' w', OwnV w' e 1 v' (n + 1) (cs ++ [y]) → Chg (fun g => v.ownBlock = some g) W w' → Fresh W v v' → K (a.put o.dst v') w') : if Region.wanted o (yielded ops a.tmps) = true then o.wp P a W K Q else E := by
  rw [if_pos (by simp [Region.wanted, hgd])]
  refine ow_app s x t e z 1 bytes ho ht hinfo hzs (by decide) hby v n cs hs hown _ 1 1 [y] hx rfl hn (by simpa using hy) hbytes fun v' w' h2 h3 h4 h5 => h v' w' h2 h4 ?_
  rcases h5 with h5 | h5
  · exact .inl h5
  · refine .inr fun g hg => ?_
    rw [h5] at hg
    injection hg with hg
    omega
end
/-- a list as it came, and its copy -/
structure LEnt where
  v : Value
  u : Value
  l : List Int
structure LEntOk (w : World) (bs : Nat → Prop) (x : LEnt) : Prop where
  v : OwnB w x.v x.l
  u : OwnB w x.u x.l
  len : x.l.length ≤ 140737488355238
  bv : ∀ g, x.v.ownBlock = some g → bs g
  bu : ∀ g, x.u.ownBlock = some g → bs g
/-- the lists as they came, and their copies -/
structure LateL (w : World) (raw was : Value) (bs : Nat → Prop) (ls : List LEnt) : Prop where
  rowR : OwnV w 29 1 raw ls.length (ls.map LEnt.v)
  rowW : OwnV w 29 1 was ls.length (ls.map LEnt.u)
  ent : ∀ x ∈ ls, LEntOk w bs x
  apart : ls.Pairwise fun x y => ∀ g, x.v.ownBlock = some g → y.v.ownBlock ≠ some g
  ne : ∀ g, raw.ownBlock = some g → was.ownBlock ≠ some g
theorem LEntOk.chg {w w1 : World} {bs S : Nat → Prop} {x : LEnt} (h : LEntOk w bs x) (c : Chg S w w1) (hS : ∀ g, bs g → (∃ cur, Blk w g 5 cur) → ¬ S g) : LEntOk w1 bs x :=
  ⟨h.v.chg c fun g hg => hS g (h.bv g hg) (OwnV.typed h.v g hg), h.u.chg c fun g hg => hS g (h.bu g hg) (OwnV.typed h.u g hg), h.len, h.bv, h.bu⟩
theorem LEntOk.mono {w : World} {bs cs : Nat → Prop} {x : LEnt} (h : LEntOk w bs x) (hS : ∀ g, bs g → cs g) : LEntOk w cs x := ⟨h.v, h.u, h.len, fun g hg => hS g (h.bv g hg), fun g hg => hS g (h.bu g hg)⟩
theorem putL_end {g o : Nat} {e : TypeId} {cur : List Value} {AR AW A A2 A4 A6 : Option Addr} {k n cR cW c c4 c5 c9 : Nat} {l : List Int} {ls : List LEnt} {bs : Nat → Prop} {w w3 w4 w6 : World} {box : Obj} {W3 : World} (he : e ≠ 5) (he2 : e ≠ 29)
    (hb : Blk w g e cur) (hL : LateL w (.slice AR k cR) (.slice AW k cW) bs ls) (hl : OwnB w (.slice A n c) l) (hap : ∀ k, Value.ownBlock (.slice A n c) = some k → ¬ bs k) (HN : n = l.length) (HK : k = ls.length) (hn : n ≤ 140737488355238)
    (HB6 : Blk w6 g e (cur.set (o + 2) (.slice A2 (k + 1) c5))) (HR3 : OwnV w3 29 1 (.slice A2 (k + 1) c5) (k + 1) (ls.map LEnt.v ++ [Value.slice A n c])) (HW : OwnV w 29 1 (.slice AW k cW) k (ls.map LEnt.u))
    (K3 : Fresh w (.slice AR k cR) (.slice A2 (k + 1) c5)) (N1 : OwnV w6 29 1 (.slice A6 (k + 1) c9) (k + 1) (ls.map LEnt.u ++ [Value.slice A4 l.length c4])) (N3 : Fresh (w4.alloc box) (.slice AW k cW) (.slice A6 (k + 1) c9))
    (C3 : Chg (fun x => Value.ownBlock (.slice AR k cR) = some x ∨ x = g) w w3) (C4 : Chg (fun _ => False) w3 w4)
    (C6 : Chg (fun x => Value.ownBlock (.slice AW k cW) = some x ∨ x = g) w3 (w6.setCell ⟨g, o + 3, none⟩ (.slice A6 (k + 1) c9))) (C7 : Chg (fun x => Value.ownBlock (.slice AW k cW) = some x ∨ x = g) w4 (w6.setCell ⟨g, o + 3, none⟩ (.slice A6 (k + 1) c9)))
    (M1 : OwnB w4 (.slice A4 ([] ++ l).length c4) ([] ++ l)) (hW3 : w3.heap.size ≤ W3.heap.size) (M4 : Fresh W3 (.slice (some ⟨w3.heap.size, 0, none⟩) 0 0) (.slice A4 ([] ++ l).length c4)) (hA6g : ∀ x, Value.ownBlock (.slice A6 (k + 1) c9) = some x → x ≠ g) :
    ∃ raw' was' lu, Ending.returned (.tuple #[]) = .returned (.tuple #[]) ∧ Blk (w6.setCell ⟨g, o + 3, none⟩ (.slice A6 (k + 1) c9)) g e ((cur.set (o + 2) raw').set (o + 3) was') ∧ LateL (w6.setCell ⟨g, o + 3, none⟩ (.slice A6 (k + 1) c9)) raw' was' (fun x => bs x ∨ Value.ownBlock (.slice A n c) = some x ∨ (w.heap.size ≤ x ∧ x < (w6.setCell ⟨g, o + 3, none⟩ (.slice A6 (k + 1) c9)).heap.size)) (ls ++ [⟨.slice A n c, lu, l⟩]) ∧
      Chg (fun x => x = g ∨ Value.ownBlock (.slice AR k cR) = some x ∨ Value.ownBlock (.slice AW k cW) = some x) w (w6.setCell ⟨g, o + 3, none⟩ (.slice A6 (k + 1) c9)) ∧ Fresh w (.slice AR k cR) raw' ∧ Fresh w (.slice AW k cW) was' := by
  obtain ⟨w', hw'⟩ : ∃ w', w' = w6.setCell ⟨g, o + 3, none⟩ (.slice A6 (k + 1) c9) := ⟨_, rfl⟩
  have CC : Chg (fun x => x = g ∨ Value.ownBlock (.slice AR k cR) = some x ∨ Value.ownBlock (.slice AW k cW) = some x) w w' := by
    rw [hw']
    exact (C3.mono (fun _ _ h => h.elim (fun h => .inr (.inl h)) .inl)).trans C6 (fun _ _ h => h.elim (fun h => .inr (.inr h)) .inl)
  have hsz : w3.heap.size ≤ w4.heap.size := C4.size
  have hsz0 : w.heap.size ≤ w3.heap.size := C3.size
  have hLR : OwnV w 29 1 (.slice AR k cR) ls.length (ls.map LEnt.v) := hL.rowR
  have typed : ∀ x, (∃ cur, Blk w x 5 cur) → ¬ (x = g ∨ Value.ownBlock (.slice AR k cR) = some x ∨ Value.ownBlock (.slice AW k cW) = some x) := fun x hx e1 => by
    obtain ⟨cur', hcu⟩ := hx
    rcases e1 with e1 | e1 | e1
    · exact hcu.type_ne hb he.symm e1
    · exact hLR.type_ne hcu (by decide) e1
    · exact HW.type_ne hcu (by decide) e1
  have hRW : ∀ x, Value.ownBlock (.slice A2 (k + 1) c5) = some x → Value.ownBlock (.slice AW k cW) ≠ some x := fun x hx e1 => by
    rcases K3 with h | h
    · exact hL.ne x (h ▸ hx) e1
    · have h1 := h x hx
      have h2 := HW.lt x e1
      omega
  have hRg : ∀ x, Value.ownBlock (.slice A2 (k + 1) c5) = some x → x ≠ g := fun x hx e1 => by
    obtain ⟨cur', hcu⟩ := HR3.typed x hx
    have hb3 : ∃ cur, Blk w6 g e cur := ⟨_, HB6⟩
    rcases K3 with h | h
    · exact hLR.type_ne hb he2.symm (by rw [← h, hx, e1])
    · have h1 := h x hx
      have h2 := hb.lt
      omega
  have M1' : OwnB w4 (.slice A4 l.length c4) l := M1
  have hu : OwnB w' (.slice A4 l.length c4) l := by
    rw [hw']
    refine M1'.chg C7 (fun x hx e1 => ?_)
    have hge : w3.heap.size ≤ x := by
      rcases M4 with h | h
      · have : Value.ownBlock (.slice A4 ([] ++ l).length c4) = some x := hx
        rw [h] at this
        simp [Value.ownBlock] at this
        omega
      · exact Nat.le_trans hW3 (h x hx)
    rcases e1 with e1 | e1
    · have := HW.lt x e1
      omega
    · have := hb.lt
      omega
  refine ⟨.slice A2 (k + 1) c5, .slice A6 (k + 1) c9, .slice A4 l.length c4, rfl, HB6.set (o + 3) _, ?_, ?_, K3, ?_⟩
  · rw [← hw']
    refine ⟨?_, ?_, ?_, ?_, ?_⟩
    · rw [List.length_append, List.length_singleton, ← HK, List.map_append, hw']
      exact HR3.chg C6 (fun x hx e1 => e1.elim (hRW x hx) (hRg x hx))
    · rw [List.length_append, List.length_singleton, ← HK, List.map_append, hw']
      exact N1.chg ((Chg.refl (· = g) w6).setg (o + 3) _) (fun x hx e1 => hA6g x hx e1)
    · intro x hx
      rcases List.mem_append.1 hx with hx | hx
      · exact ((hL.ent x hx).chg CC (fun y _ ht => typed y ht)).mono (fun _ h => .inl h)
      · rw [List.mem_singleton] at hx
        subst hx
        refine ⟨hl.chg CC (fun y hy => typed y (OwnV.typed hl y hy)), hu, by rw [← HN]; exact hn, fun y hy => .inr (.inl hy), fun y hy => .inr (.inr ⟨?_, hu.lt y hy⟩)⟩
        rcases M4 with h | h
        · have : Value.ownBlock (.slice A4 ([] ++ l).length c4) = some y := hy
          rw [h] at this
          simp [Value.ownBlock] at this
          omega
        · exact Nat.le_trans hsz0 (Nat.le_trans hW3 (h y hy))
    · rw [List.pairwise_append]
      refine ⟨hL.apart, List.pairwise_singleton _ _, fun x hx y hy => ?_⟩
      rw [List.mem_singleton] at hy
      subst hy
      exact fun z hz e1 => hap z e1 ((hL.ent x hx).bv z hz)
    · intro x hx e1
      rcases N3 with h | h
      · exact hRW x hx (by rw [← h]; exact e1)
      · have h1 := h x e1
        have h2 := HR3.lt x hx
        simp at h1
        omega
  · rw [← hw']
    exact CC
  · refine N3.imp id fun h x hx => ?_
    have h1 := h x hx
    simp at h1
    omega
set_option maxRecDepth 20000 in
set_option maxHeartbeats 1600000 in
theorem putL (g o : Nat) (e : TypeId) (cur : List Value) (raw was lv : Value) (l : List Int) (ls : List LEnt) (bs : Nat → Prop) (w : World) (he : e ≠ 5) (he2 : e ≠ 29)
    (hb : Hid (Blk w g e cur)) (h1 : cur[o + 1]? = some (.bool true)) (h2 : cur[o + 2]? = some raw) (h3 : cur[o + 3]? = some was) (hL : Hid (LateL w raw was bs ls)) (hl : Hid (OwnB w lv l)) (hap : Hid (∀ k, lv.ownBlock = some k → ¬ bs k)) (hbl : Hid (∀ k, bs k → k < w.heap.size))
    (hk : ls.length ≤ 1099511627776) (hn : l.length ≤ 140737488355238) :
    Calls Try.prog 54 #[.pointer (some ⟨g, o, none⟩), lv] w (fun e1 w' => ∃ raw' was' lu, e1 = .returned (.tuple #[]) ∧ Blk w' g e ((cur.set (o + 2) raw').set (o + 3) was') ∧ LateL w' raw' was' (fun k => bs k ∨ lv.ownBlock = some k ∨ (w.heap.size ≤ k ∧ k < w'.heap.size)) (ls ++ [⟨lv, lu, l⟩]) ∧
      Chg (fun k => k = g ∨ raw.ownBlock = some k ∨ was.ownBlock = some k) w w' ∧ Fresh w raw raw' ∧ Fresh w was was') := by
  obtain ⟨AR, cR, hraw, hcR, hmR⟩ := hL.out.rowR.slice
  obtain ⟨AW, cW, hwas, hcW, hmW⟩ := hL.out.rowW.slice
  obtain ⟨A, c, hlv, hc, hmc⟩ := hl.out.slice
  obtain ⟨n, hn1⟩ : ∃ n : Nat, n = l.length := ⟨_, rfl⟩
  obtain ⟨k, hk1⟩ : ∃ k : Nat, k = ls.length := ⟨_, rfl⟩
  have HRW := hL.out.rowR
  have HWS := hL.out.rowW
  have HLV := hl.out
  rw [← hk1] at hraw hwas hcR hcW HRW HWS hk
  rw [← hn1] at hlv hc hn
  have c1 := hb.out.at_ h1
  have c2 := hb.out.at_ h2
  have ho2 : o + 2 < cur.length := (List.getElem?_eq_some_iff.1 h2).1
  have ho3 : o + 3 < cur.length := (List.getElem?_eq_some_iff.1 h3).1
  have HN := Lib.hid hn1
  have HK := Lib.hid hk1
  have HR := Lib.hid HRW
  have HW := Lib.hid HWS
  have hRg : Hid (∀ x, raw.ownBlock = some x → x ≠ g) := fun x hx e1 => HRW.type_ne hb.out he2.symm (by rw [hx, e1])
  have hWg : Hid (∀ x, was.ownBlock = some x → x ≠ g) := fun x hx e1 => HWS.type_ne hb.out he2.symm (by rw [hx, e1])
  have hlg : Hid (∀ x, lv.ownBlock = some x → x ≠ g) := fun x hx e1 => OwnV.type_ne HLV hb.out he.symm (by rw [hx, e1])
  have hlR : Hid (∀ x, lv.ownBlock = some x → raw.ownBlock ≠ some x) := fun x hx e1 => by
    obtain ⟨cur', hcu⟩ := OwnV.typed HLV x hx
    exact HRW.type_ne hcu (by decide) e1
  clear hn1 hk1 HRW HWS HLV
  subst hraw
  subst hwas
  subst hlv
  go_enter Try.func54, Try.ntmps54
  go_wp2_with (at_builtin; go_must (refine wp_appv1 rfl _ _ 61 29 (.slice none 0 0) 24 rfl Try.underlying61 infoL rfl (by decide) (.slice AR k cR) k (ls.map LEnt.v) (.slice A n c) rfl rfl HR.out rfl (by omega) ?_); intro v2 w2 k1 k2 k3; obtain ⟨A2, c5, rfl, _, _⟩ := k1.slice; have K1 := Lib.hid k1; have K2 := Lib.hid k2; have K3 := Lib.hid k3; clear k1 k2 k3; have HB2 : Hid (Blk w2 g e cur) := hb.out.chg K2.out (fun e1 => hRg.out g e1 rfl); have c3 := HB2.out.at_ h2; have f3 := HB2.out.frozen (i := o + 2) ho2; go_frame)
  obtain ⟨w3, hw3⟩ : ∃ w3, w3 = w2.setCell ⟨g, o + 2, none⟩ (.slice A2 (k + 1) c5) := ⟨_, rfl⟩
  rw [← hw3]
  have hA2g : Hid (∀ x, Value.ownBlock (.slice A2 (k + 1) c5) = some x → x ≠ g) := fun x hx e1 => K1.out.type_ne HB2.out he2.symm (by rw [hx, e1])
  have HB3 : Hid (Blk w3 g e (cur.set (o + 2) (.slice A2 (k + 1) c5))) := by rw [hw3]; exact HB2.out.set (o + 2) _
  have HR3 : Hid (OwnV w3 29 1 (.slice A2 (k + 1) c5) (k + 1) (ls.map LEnt.v ++ [Value.slice A n c])) := by rw [hw3]; exact K1.out.chg ((Chg.refl (· = g) w2).setg (o + 2) _) (fun x hx e1 => hA2g.out x hx e1)
  have C3 : Hid (Chg (fun x => Value.ownBlock (.slice AR k cR) = some x ∨ x = g) w w3) := by rw [hw3]; exact (K2.out.mono (fun _ _ h => .inl h)).setCell (p := ⟨g, o + 2, none⟩) (fun _ => .inr rfl) _
  have HW3 : Hid (OwnV w3 29 1 (.slice AW k cW) k (ls.map LEnt.u)) := HW.out.chg C3.out (fun x hx e1 => e1.elim (fun h => hL.out.ne x h hx) (fun h => hWg.out x hx h))
  have HL3 : Hid (OwnB w3 (.slice A n c) l) := by
    exact hl.out.chg C3.out (fun x hx e1 => e1.elim (hlR.out x hx) (hlg.out x hx))
  have c6 : w3.cell? ⟨g, o + 3, none⟩ = some (.slice AW k cW) := HB3.out.at_ (by rw [List.getElem?_set_ne (by omega), h3])
  have HRd : Hid (Rd w3 .u8 A l) := HL3.out.rd (by rw [HN.out])
  have c6a : (w3.alloc (.cells #[] 5)).drew.cell? ⟨g, o + 3, none⟩ = some (.slice AW k cW) := ((((Chg.refl (fun _ => False) w3).alloc (.cells #[] 5)).drew).cell (fun h => h) c6)
  clear hw3
  go_region_law (first | ((refine st_appn rfl _ _ 29 5 .u8 1 rfl Try.underlying29 infoU8 (by decide) (.slice (some ⟨w3.heap.size, 0, none⟩) 0 0) [] rfl (Own.lit' _ 5 .u8 [] _ (by simp) (by simp)).drew _ _ l n rfl HN.out (HRd.out.chg (S := fun _ => False) (by repeat (first | exact Chg.refl _ _ | refine Chg.drew ?_ | refine Chg.drewN ?_ _ | refine Chg.alloc ?_ _)) (fun _ _ _ h => h)) (by rw [← HN.out]; simp; omega) ?_; intro v' w4 k1 k2 k3 k4; obtain ⟨A4, c4, rfl, _, _⟩ := k1.slice; have M1 := Lib.hid k1; have M3 := Lib.hid k3; have M4 := Lib.hid k4; clear k1 k2 k3 k4; have C4 : Hid (Chg (fun _ => False) w3 w4) := (((Chg.refl (fun _ => False) w3).alloc _).drew).fresh M3.out (blk_ge (Nat.le_refl _)); have c8 : w4.cell? ⟨g, o + 3, none⟩ = some (.slice AW k cW) := C4.out.cell (fun h => h) c6; have c8a : (w4.alloc (.cells #[Value.slice A4 l.length c4] 29)).cell? ⟨g, o + 3, none⟩ = some (.slice AW k cW) := (((Chg.refl (fun _ => False) w4).alloc _).cell (fun h => h) c8); have HW4 : Hid (OwnV w4 29 1 (.slice AW k cW) k (ls.map LEnt.u)) := HW3.out.chg C4.out (fun _ _ h => h))) | ((refine st_appv rfl _ _ 61 29 (.slice none 0 0) 24 rfl Try.underlying61 infoL rfl (by decide) (.slice AW k cW) k (ls.map LEnt.u) (.slice A4 l.length c4) rfl rfl (HW4.out.chg (S := fun _ => False) (by repeat (first | exact Chg.refl _ _ | refine Chg.drew ?_ | refine Chg.drewN ?_ _ | refine Chg.alloc ?_ _)) (fun _ _ h => h)) w4.heap.size rfl (box_news _ _ (fun _ => rfl)) (by omega) ?_); intro v6 w6 k1 k2 k3; obtain ⟨A6, c9, rfl, _, _⟩ := k1.slice; have N1 := Lib.hid k1; have N2 := Lib.hid k2; have N3 := Lib.hid k3; clear k1 k2 k3; have HB6 : Hid (Blk w6 g e (cur.set (o + 2) (.slice A2 (k + 1) c5))) := (HB3.out.chg C4.out (fun h => h)).chg (((Chg.refl (fun x => Value.ownBlock (.slice AW k cW) = some x) w4).alloc _).trans N2.out (fun _ _ h => h)) (fun e1 => hWg.out g e1 rfl); have f6 := HB6.out.frozen (i := o + 3) (by rw [List.length_set]; exact ho3); have cw6 := HB6.out.at_ (i := o + 3) (by rw [List.getElem?_set_ne (by omega), h3])))
  all_goals (
    go_wp2_with fail
    (try simp only [Exit.inBlock, Exit.then]); refine bodyPost_ret (results_none rfl _ _ _) rfl ?_
    have hA6g : ∀ x, Value.ownBlock (.slice A6 (k + 1) c9) = some x → x ≠ g := fun x hx e1 => N1.out.type_ne HB6.out he2.symm (by rw [hx, e1])
    have C6 : Chg (fun x => Value.ownBlock (.slice AW k cW) = some x ∨ x = g) w3 (w6.setCell ⟨g, o + 3, none⟩ (.slice A6 (k + 1) c9)) := ((((C4.out.alloc _).mono (fun _ _ h => h.elim)).trans N2.out (fun _ _ h => .inl h))).setCell (p := ⟨g, o + 3, none⟩) (fun _ => .inr rfl) _
    have C7 : Chg (fun x => Value.ownBlock (.slice AW k cW) = some x ∨ x = g) w4 (w6.setCell ⟨g, o + 3, none⟩ (.slice A6 (k + 1) c9)) := (((Chg.refl _ w4).alloc _).trans N2.out (fun _ _ h => .inl h)).setCell (p := ⟨g, o + 3, none⟩) (fun _ => .inr rfl) _
    exact putL_end he he2 hb.out hL.out hl.out hap.out HN.out HK.out hn HB6.out HR3.out HW.out K3.out N1.out N3.out C3.out C4.out C6 C7 M1.out (by simp) M4.out hA6g)
end Go.Proofs.Ytlnomadhgoblkaa.Kit

/- The laws' Book, both ways: what holds of it between two calls; put, kept. -/
set_option linter.unusedVariables false
set_option linter.unusedSimpArgs false
namespace Go.Proofs.Ytlnomadhgoblkaa.Kit
open Go.RowKit
/-- A book in block g behind pre: its rows and what was put into it lie in blocks of D; at most k puts. -/
structure BookI (late : Bool) (g : Nat) (e : TypeId) (pre : List Value) (D : Nat → Prop) (k : Nat) (w : World) : Prop where
  ex : ∃ L raw was, Blk w g e (pre ++ [L, .bool late, raw, was]) ∧ (∀ x, L.ownBlock = some x → D x) ∧ (∀ x, raw.ownBlock = some x → D x) ∧ (∀ x, was.ownBlock = some x → D x) ∧
    (late = false → ∃ es : List Ent, es.length ≤ k ∧ BookL w L D es) ∧
    (late = true → L = .slice none 0 0 ∧ ∃ ls : List LEnt, ls.length ≤ k ∧ LateL w raw was D ls)
  size : ∀ x, D x → x < w.heap.size
  out : ¬ D g
theorem LateL.chg {w w1 : World} {raw was : Value} {bs S : Nat → Prop} {ls : List LEnt} (h : LateL w raw was bs ls) (c : Chg S w w1) (h1 : ∀ x, raw.ownBlock = some x → ¬ S x) (h2 : ∀ x, was.ownBlock = some x → ¬ S x) (hS : ∀ g, bs g → ¬ S g) : LateL w1 raw was bs ls :=
  ⟨h.rowR.chg c h1, h.rowW.chg c h2, fun x hx => (h.ent x hx).chg c fun g hg _ => hS g hg, h.apart, h.ne⟩
theorem LateL.mono {w : World} {raw was : Value} {bs cs : Nat → Prop} {ls : List LEnt} (h : LateL w raw was bs ls) (hS : ∀ g, bs g → cs g) : LateL w raw was cs ls :=
  ⟨h.rowR, h.rowW, fun x hx => (h.ent x hx).mono hS, h.apart, h.ne⟩
theorem LateL.none (w : World) (bs : Nat → Prop) : LateL w (.slice none 0 0) (.slice none 0 0) bs [] :=
  ⟨OwnV.nil _ _ _, OwnV.nil _ _ _, fun x hx => absurd hx (by simp), .nil, fun g hg => by simp [Value.ownBlock] at hg⟩
theorem BookI.lt {late : Bool} {g : Nat} {e : TypeId} {pre : List Value} {D : Nat → Prop} {k : Nat} {w : World} (h : BookI late g e pre D k w) : g < w.heap.size := by
  obtain ⟨L, raw, was, hb, _⟩ := h.ex
  exact hb.lt
theorem BookI.chg {late : Bool} {g : Nat} {e : TypeId} {pre : List Value} {D : Nat → Prop} {k : Nat} {w w1 : World} {S : Nat → Prop} (h : BookI late g e pre D k w) (c : Chg S w w1) (hS : ∀ x, S x → ¬ D x ∧ x ≠ g) : BookI late g e pre D k w1 := by
  obtain ⟨L, raw, was, hb, h1, h2, h3, h4, h5⟩ := h.ex
  have hB : ∀ x, D x → ¬ S x := fun x hx hs => (hS x hs).1 hx
  refine ⟨⟨L, raw, was, hb.chg c (fun hs => (hS g hs).2 rfl), h1, h2, h3, fun hl => ?_, fun hl => ?_⟩, fun x hx => Nat.lt_of_lt_of_le (h.size x hx) c.size, h.out⟩
  · obtain ⟨es, hk, hL⟩ := h4 hl
    exact ⟨es, hk, hL.chg c (fun x hx => hB x (h1 x hx)) (fun x hx => hB x hx)⟩
  · obtain ⟨hL, ls, hk, hr⟩ := h5 hl
    exact ⟨hL, ls, hk, hr.chg c (fun x hx => hB x (h2 x hx)) (fun x hx => hB x (h3 x hx)) (fun x hx => hB x hx)⟩
theorem BookI.drewN {late : Bool} {g : Nat} {e : TypeId} {pre : List Value} {D : Nat → Prop} {k : Nat} {w : World} (h : BookI late g e pre D k w) (n : Nat) : BookI late g e pre D k (w.drewN n) :=
  h.chg (S := fun _ => False) ((Chg.refl _ w).drewN n) (fun _ h => h.elim)
/-- a book that is new -/
theorem BookI.new {late : Bool} {g : Nat} {e : TypeId} {pre : List Value} {w : World} (hb : Blk w g e (pre ++ [.slice none 0 0, .bool late, .slice none 0 0, .slice none 0 0])) : BookI late g e pre (fun _ => False) 0 w :=
  ⟨⟨_, _, _, hb, fun x hx => by simp [Value.ownBlock] at hx, fun x hx => by simp [Value.ownBlock] at hx, fun x hx => by simp [Value.ownBlock] at hx, fun _ => ⟨[], by simp, BookL.none _ _⟩, fun _ => ⟨rfl, [], by simp, LateL.none _ _⟩⟩, fun _ h => h.elim, id⟩
theorem putI (late : Bool) (g : Nat) (e : TypeId) (pre : List Value) (D : Nat → Prop) (k : Nat) (lv : Value) (l : List Int) (w : World) (he : e ≠ 5) (he2 : e ≠ 29) (hI : Hid (BookI late g e pre D k w)) (hl : Hid (OwnB w lv l)) (hN : Hid (∀ x, lv.ownBlock = some x → ¬ D x)) (hk : k ≤ 1099511627776) (hn : l.length ≤ 140737488355238) (o : Nat) (ho : o = pre.length) :
    Calls Try.prog 54 #[.pointer (some ⟨g, o, none⟩), lv] w (fun e1 w' => e1 = .returned (.tuple #[]) ∧ BookI late g e pre (fun x => D x ∨ lv.ownBlock = some x ∨ (w.heap.size ≤ x ∧ x < w'.heap.size)) (k + 1) w' ∧ Chg (fun x => x = g ∨ D x ∨ lv.ownBlock = some x) w w') := by
  obtain ⟨L, raw, was, hb, h1, h2, h3, h4, h5⟩ := hI.out.ex
  have hs := hI.out.size
  have hng : ∀ w' : World, ¬ (D g ∨ lv.ownBlock = some g ∨ (w.heap.size ≤ g ∧ g < w'.heap.size)) := fun w' h => by
    rcases h with h | h | h
    · exact hI.out.out h
    · exact OwnV.type_ne hl.out hb he.symm h
    · have := hb.lt
      omega
  subst ho
  cases late
  · obtain ⟨es, hk2, hL⟩ := h4 rfl
    refine (putM g pre.length e _ L lv l es D w he he2 hb (by simp) (by simp) hL hl hN hs (by omega) hn).mono ?_
    rintro e1 w' ⟨L', lv', rfl, k1, k2, k3, k4⟩
    have hsz := k3.size
    have hL'lt := k2.row.lt
    refine ⟨rfl, ⟨⟨L', raw, was, by simpa using k1, fun x hx => ?_, fun x hx => .inl (h2 x hx), fun x hx => .inl (h3 x hx), fun _ => ⟨_, ?_, k2⟩, fun h => by cases h⟩, fun x hx => ?_, hng w'⟩, k3.mono fun x hx h => ?_⟩
    · rcases k4 with k4 | k4
      · exact .inl (h1 x (k4 ▸ hx))
      · exact .inr (.inr ⟨k4 x hx, hL'lt x hx⟩)
    · simp
      omega
    · rcases hx with hx | hx | hx
      · exact Nat.lt_of_lt_of_le (hs x hx) hsz
      · exact Nat.lt_of_lt_of_le (hl.out.lt x hx) hsz
      · exact hx.2
    · rcases h with h | h | h
      · exact .inl h
      · exact .inr (.inl (h1 x h))
      · exact .inr (.inr h)
  · obtain ⟨rfl, ls, hk2, hr⟩ := h5 rfl
    refine (putL g pre.length e _ raw was lv l ls D w he he2 hb (by simp) (by simp) (by simp) hr hl hN hs (by omega) hn).mono ?_
    rintro e1 w' ⟨raw', was', lu, rfl, k1, k2, k3, k4, k5⟩
    have hsz := k3.size
    have hRlt := k2.rowR.lt
    have hWlt := k2.rowW.lt
    refine ⟨rfl, ⟨⟨.slice none 0 0, raw', was', by simpa using k1, fun x hx => .inl (h1 x hx), fun x hx => ?_, fun x hx => ?_, fun h => (by cases h), fun _ => ⟨rfl, _, ?_, k2⟩⟩, fun x hx => ?_, hng w'⟩, k3.mono fun x hx h => ?_⟩
    · rcases k4 with k4 | k4
      · exact .inl (h2 x (k4 ▸ hx))
      · exact .inr (.inr ⟨k4 x hx, hRlt x hx⟩)
    · rcases k5 with k5 | k5
      · exact .inl (h3 x (k5 ▸ hx))
      · exact .inr (.inr ⟨k5 x hx, hWlt x hx⟩)
    · simp
      omega
    · rcases hx with hx | hx | hx
      · exact Nat.lt_of_lt_of_le (hs x hx) hsz
      · exact Nat.lt_of_lt_of_le (hl.out.lt x hx) hsz
      · exact hx.2
    · rcases h with h | h | h
      · exact .inl h
      · exact .inr (.inl (h2 x h))
      · exact .inr (.inl (h3 x h))
theorem keptI (late : Bool) (g : Nat) (e : TypeId) (pre : List Value) (D : Nat → Prop) (k : Nat) (w : World) (hI : Hid (BookI late g e pre D k w)) (hk : k ≤ 1099511627776) (o : Nat) (ho : o = pre.length) :
    Calls Try.prog 49 #[.pointer (some ⟨g, o, none⟩)] w (fun e1 w' => e1 = .returned (.bool true) ∧ w = w') := by
  obtain ⟨L, raw, was, hb, h1, h2, h3, h4, h5⟩ := hI.out.ex
  subst ho
  cases late
  · obtain ⟨es, hk2, hL⟩ := h4 rfl
    exact kept g pre.length e _ L es _ w hb (by simp) hL (by omega)
  · obtain ⟨rfl, _⟩ := h5 rfl
    exact kept g pre.length e _ _ [] (fun _ => False) w hb (by simp) (BookL.none _ _) (by simp)
end Go.Proofs.Ytlnomadhgoblkaa.Kit

/- The laws' Book: put, with what it leaves in the list. -/
set_option linter.unusedVariables false
set_option linter.unusedSimpArgs false
namespace Go.Proofs.Ytlnomadhgoblkaa.Kit
open Go.RowKit
theorem putI2 (late : Bool) (g : Nat) (e : TypeId) (pre : List Value) (D : Nat → Prop) (k : Nat) (lv : Value) (l : List Int) (w : World) (he : e ≠ 5) (he2 : e ≠ 29) (hI : Hid (BookI late g e pre D k w)) (hl : Hid (OwnB w lv l)) (hN : Hid (∀ x, lv.ownBlock = some x → ¬ D x)) (hk : k ≤ 1099511627776) (hn : l.length ≤ 140737488355238) (o : Nat) (ho : o = pre.length) :
    Calls Try.prog 54 #[.pointer (some ⟨g, o, none⟩), lv] w (fun e1 w' => e1 = .returned (.tuple #[]) ∧ BookI late g e pre (fun x => D x ∨ lv.ownBlock = some x ∨ (w.heap.size ≤ x ∧ x < w'.heap.size)) (k + 1) w' ∧ Chg (fun x => x = g ∨ D x ∨ lv.ownBlock = some x) w w' ∧ ∃ l', l'.length = l.length ∧ (Byt l → Byt l') ∧ RdT w' lv l') := by
  obtain ⟨L, raw, was, hb, h1, h2, h3, h4, h5⟩ := hI.out.ex
  have hs := hI.out.size
  have hng : ∀ w' : World, ¬ (D g ∨ lv.ownBlock = some g ∨ (w.heap.size ≤ g ∧ g < w'.heap.size)) := fun w' h => by
    rcases h with h | h | h
    · exact hI.out.out h
    · exact OwnV.type_ne hl.out hb he.symm h
    · have := hb.lt
      omega
  subst ho
  cases late
  · obtain ⟨es, hk2, hL⟩ := h4 rfl
    refine (putM g pre.length e _ L lv l es D w he he2 hb (by simp) (by simp) hL hl hN hs (by omega) hn).mono ?_
    rintro e1 w' ⟨L', lv', rfl, k1, k2, k3, k4⟩
    have hsz := k3.size
    have hL'lt := k2.row.lt
    refine ⟨rfl, ⟨⟨L', raw, was, by simpa using k1, fun x hx => ?_, fun x hx => .inl (h2 x hx), fun x hx => .inl (h3 x hx), fun _ => ⟨_, ?_, k2⟩, fun h => by cases h⟩, fun x hx => ?_, hng w'⟩, k3.mono (fun x hx h => ?_), List.replicate l.length (mk es.length), by simp, fun _ => ?_, ?_⟩
    · rcases k4 with k4 | k4
      · exact .inl (h1 x (k4 ▸ hx))
      · exact .inr (.inr ⟨k4 x hx, hL'lt x hx⟩)
    · simp
      omega
    · rcases hx with hx | hx | hx
      · exact Nat.lt_of_lt_of_le (hs x hx) hsz
      · exact Nat.lt_of_lt_of_le (hl.out.lt x hx) hsz
      · exact hx.2
    · rcases h with h | h | h
      · exact .inl h
      · exact .inr (.inl (h1 x h))
      · exact .inr (.inr h)
    · intro z hz
      have h1 := mk_range es.length
      have h2 := (List.mem_replicate.1 hz).2
      omega
    · have h := (k2.ent es.length (by simp)).v
      rw [List.getElem_append_right (Nat.le_refl _)] at h
      simpa using h
  · obtain ⟨rfl, ls, hk2, hr⟩ := h5 rfl
    refine (putL g pre.length e _ raw was lv l ls D w he he2 hb (by simp) (by simp) (by simp) hr hl hN hs (by omega) hn).mono ?_
    rintro e1 w' ⟨raw', was', lu, rfl, k1, k2, k3, k4, k5⟩
    have hsz := k3.size
    have hRlt := k2.rowR.lt
    have hWlt := k2.rowW.lt
    refine ⟨rfl, ⟨⟨.slice none 0 0, raw', was', by simpa using k1, fun x hx => .inl (h1 x hx), fun x hx => ?_, fun x hx => ?_, fun h => (by cases h), fun _ => ⟨rfl, _, ?_, k2⟩⟩, fun x hx => ?_, hng w'⟩, k3.mono (fun x hx h => ?_), l, rfl, id, (k2.ent ⟨lv, lu, l⟩ (by simp)).v.rdT⟩
    · rcases k4 with k4 | k4
      · exact .inl (h2 x (k4 ▸ hx))
      · exact .inr (.inr ⟨k4 x hx, hRlt x hx⟩)
    · rcases k5 with k5 | k5
      · exact .inl (h3 x (k5 ▸ hx))
      · exact .inr (.inr ⟨k5 x hx, hWlt x hx⟩)
    · simp
      omega
    · rcases hx with hx | hx | hx
      · exact Nat.lt_of_lt_of_le (hs x hx) hsz
      · exact Nat.lt_of_lt_of_le (hl.out.lt x hx) hsz
      · exact hx.2
    · rcases h with h | h | h
      · exact .inl h
      · exact .inr (.inl (h2 x h))
      · exact .inr (.inl (h3 x h))
end Go.Proofs.Ytlnomadhgoblkaa.Kit

