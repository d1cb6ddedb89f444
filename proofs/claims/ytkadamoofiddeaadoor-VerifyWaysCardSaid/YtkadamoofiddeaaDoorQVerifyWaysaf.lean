/- Texts that the row leans on: PvE, PvF, PvG, PvH, PvI. -/
import Derived.Test.YtkadamoofiddeaaDoorProg
import Derived.Test.YtkadamoofiddeaaDoorQVerifyWaysae
-- verify: a state in memory; its twin.
set_option linter.unusedVariables false
set_option linter.unusedSimpArgs false
namespace Go.Proofs.YtkadamoofiddeaaDoor.Kit
open Go.RowKit Go.Maps
/-- block g holds the state s: its stack lies at A, its slots in the map m; all of it at B or behind -/
structure RdSt (w : World) (B g m : Nat) (A : Option Addr) (n c : Nat) (s : StV) (N : Nat) : Prop where
  box : Blk w g 122 [.slice A n c, .map (some m)]
  own : OwnV w 138 1 (.slice A n c) n (bls s.stk)
  mp : Mp w m N s.sl
  geg : B ≤ g
  gem : B ≤ m
  geo : ∀ k, Value.ownBlock (.slice A n c) = some k → B ≤ k
  len : s.stk.length = n
theorem RdSt.chg {w w1 : World} {B g m n c N : Nat} {A : Option Addr} {s : StV} {S : Nat → Prop} (h : RdSt w B g m A n c s N) (k : Chg S w w1) (h1 : ¬ S g) (h2 : ¬ S m) (h3 : ∀ x, Value.ownBlock (.slice A n c) = some x → ¬ S x) : RdSt w1 B g m A n c s N :=
  ⟨h.box.chg k h1, h.own.chg k h3, h.mp.chg k h2, h.geg, h.gem, h.geo, h.len⟩
theorem RdSt.chg0 {w w1 : World} {B g m n c N : Nat} {A : Option Addr} {s : StV} (h : RdSt w B g m A n c s N) (k : Chg (fun _ => False) w w1) : RdSt w1 B g m A n c s N := h.chg k id id (fun _ _ h => h)
theorem RdSt.mono {w : World} {B B' g m n c N N' : Nat} {A : Option Addr} {s : StV} (h : RdSt w B g m A n c s N) (hB : B' ≤ B) (hN : N ≤ N') : RdSt w B' g m A n c s N' :=
  ⟨h.box, h.own, h.mp.mono hN, Nat.le_trans hB h.geg, Nat.le_trans hB h.gem, fun k hk => Nat.le_trans hB (h.geo k hk), h.len⟩
section
variable {P : Program} {ops : Array Oper} {rest : List Oper} {o : Oper} {a : Act} {Q : Exit → Act → World → Prop}
/-- append(v, src...) -/
theorem wp_appS {W : World} (hgd : o.guard = none) (s x : Operand) (t e : TypeId) (z : Value) (sz bytes : Nat)
    (ho : o.op = .call { callee := .builtin .append, args := #[s, x], argTypes := #[t, t] })
    (ht : P.underlying t = some (.slice e)) (hinfo : (P.info? e).map (fun i => (i.zero, i.size, i.bytes)) = some (some z, sz, bytes)) (hzs : z.cells.size = sz) (hsz : 0 < sz) (hby : 0 < bytes)
    (v : Value) (n : Nat) (cs : List Value) (hs : a.eval s = v) (hown : OwnV W e sz v n cs)
    (A : Option Addr) (m c : Nat) (news : List Value) (hx : a.eval x = .slice A m c) (hl : news.length = m * sz) (hnews : RdG W A news) (h1 : ∀ u ∈ news, u.oneCell' = true)
    (hbytes : (n + m) * bytes ≤ 140737488355328)
    (h : ∀ v' w', OwnV w' e sz v' (n + m) (cs ++ news) → Chg (fun k => v.ownBlock = some k) W w' → Fresh W v v' → wpList P ops Q rest (a.put o.dst v') w') : wpList P ops Q (o :: rest) a W :=
  wpList_plain hgd fun _ hK => ow_app s x t e z sz bytes ho ht hinfo hzs hsz hby v n cs hs hown A m c news hx hl hnews h1 hbytes fun v' w' h2 h3 h4 h5 => hK _ _ (h v' w' h2 h4 (h5.imp id fun h5 g hg => by
    rw [h5] at hg
    injection hg with hg
    omega))
end
theorem own_fresh {w : World} {o : Obj} {A2 : Option Addr} {n c2 : Nat} (k3 : Fresh (w.alloc o) (.slice (some ⟨w.heap.size, 0, none⟩) 0 0) (.slice A2 (0 + n) c2)) : Hid (∀ y, Value.ownBlock (.slice A2 n c2) = some y → w.heap.size ≤ y) := fun y hy => by
  rcases k3 with h3 | h3
  · have h4 : Value.ownBlock (.slice A2 (0 + n) c2) = Value.ownBlock (.slice A2 n c2) := by cases A2 <;> rfl
    rw [h4, hy] at h3
    simp [Value.ownBlock] at h3
    omega
  · refine Nat.le_trans ?_ (h3 y (by rw [← hy]; cases A2 <;> rfl))
    simp
theorem bls_cell (l : List Bool) : ∀ u ∈ bls l, u.oneCell' = true := by
  intro u hu
  simp only [bls, List.mem_map] at hu
  obtain ⟨q, _, rfl⟩ := hu
  rfl
theorem OwnV.rdG {w : World} {e : TypeId} {sz n m c : Nat} {A : Option Addr} {cs : List Value} (h : OwnV w e sz (.slice A m c) n cs) : RdG w A cs := fun j u hu => by
  obtain ⟨ad, h1, h2, _⟩ := h.cells A m c rfl j u hu
  exact ⟨ad, h1, h2⟩
theorem twin_step {M : Int → Option Bool} {lf lf' : Lit → Bool} {x : Int} {c : Bool} (h1 : M x = some c) (hl : lftI lf x = true) (h2 : ∀ k, lftI lf' k = (lftI lf k && !decide (k = x))) (k : Int) :
    putM (fun k => if lftI lf k = true then none else M k) x c k = if lftI lf' k = true then none else M k := by
  unfold putM
  rw [h2 k]
  by_cases e : k = x
  · subst e
    simp [h1]
  · simp [e]
theorem twin_app {w w2 : World} {B g m n c N : Nat} {A : Option Addr} {s : StV} {v2 : Value} (h : Hid (RdSt w B g m A n c s N)) (k1 : OwnV w2 138 1 v2 (0 + n) ([] ++ bls s.stk))
    (k2 : Chg (fun k => Value.ownBlock (.slice (some ⟨w.heap.size, 0, none⟩) 0 0) = some k) (w.alloc (.cells #[] 138)) w2) (k3 : Fresh (w.alloc (.cells #[] 138)) (.slice (some ⟨w.heap.size, 0, none⟩) 0 0) v2) :
    ∃ A2 c2, v2 = .slice A2 n c2 ∧ Hid (OwnV w2 138 1 (.slice A2 n c2) n (bls s.stk)) ∧ Hid (Chg (fun _ => False) w w2) ∧ Hid (∀ y, Value.ownBlock (.slice A2 n c2) = some y → w.heap.size ≤ y) ∧ Hid (RdSt w2 B g m A n c s N) ∧
      ((w2.alloc (.map #[] 0)).alloc (.cells #[.slice A2 n c2, .map (some w2.heap.size)] 122)).cell? ⟨g, 1, none⟩ = some (.map (some m)) := by
  obtain ⟨A2, c2, rfl, hc2, _⟩ := k1.slice
  have K3 := own_fresh k3
  rw [Nat.zero_add, List.nil_append] at k1
  have C2 : Chg (fun _ => False) w w2 := ((Chg.refl (fun _ => False) w).alloc _).trans k2 (fun y hy e => by simp [Value.ownBlock] at e; omega)
  have RS : RdSt w2 B g m A n c s N := h.out.chg0 C2
  exact ⟨A2, c2, by rw [Nat.zero_add], k1, C2, K3, RS, ((RS.box.alloc (.map #[] 0)).alloc (.cells #[.slice A2 n c2, .map (some w2.heap.size)] 122)).at_ (i := 1) rfl⟩
set_option maxRecDepth 100000 in
set_option maxHeartbeats 1600000 in
theorem vTwin {w : World} {B g m n c N : Nat} {A : Option Addr} {s : StV} (h : Hid (RdSt w B g m A n c s N)) (hn : n ≤ 1000000000) (hN : N ≤ 1000000000) :
    Calls Tryd.prog 77 #[.pointer (some ⟨g, 0, none⟩)] w fun e w' => ∃ g' m' A' c', e = .returned (.pointer (some ⟨g', 0, none⟩)) ∧ Hid (RdSt w' w.heap.size g' m' A' n c' s N) ∧ Hid (Chg (fun _ => False) w w') := by
  have hmm := @run_makeMap Tryd.prog
  have O0 : Hid (OwnV (w.alloc (.cells #[] 138)) 138 1 (.slice (some ⟨w.heap.size, 0, none⟩) 0 0) 0 []) := ⟨by simp, .inr ⟨w.heap.size, 0, [], rfl, Blk.new w #[] _, Nat.le_refl _, Nat.zero_le _, by simp, by simp⟩⟩
  have q0 := h.out.box.at_ (i := 0) rfl
  have q0' := (h.out.box.alloc (.cells #[] 138)).at_ (i := 0) rfl
  go_enter Tryd.func77, Tryd.ntmps77
  go_wp2_with (first | (at_builtin; go_loud (refine wp_appS rfl _ _ 118 138 (.agg #[.bool false]) 1 1 rfl Tryd.underlying118 infoSort rfl (by decide) (by decide) (.slice (some ⟨w.heap.size, 0, none⟩) 0 0) 0 [] rfl O0.out A n c (bls s.stk) rfl (by rw [bls_length, h.out.len, Nat.mul_one]) (fun j u hu => by obtain ⟨ad, h1, h2⟩ := h.out.own.rdG j u hu; exact ⟨ad, h1, ((Chg.refl (fun _ => False) w).alloc _).cell (fun h => h) h2⟩) (bls_cell _) (by omega) ?_); intro v2 w2 k1 k2 k3; obtain ⟨A2, c2, rfl, K1, C2, K3, RS, q1⟩ := twin_app h k1 k2 k3; clear k1 k2 k3) | (at_range; go_loud (refine wp_range rfl _ rfl rfl ((RS.out.mp.alloc _).alloc _) ?_); intro w3 lf0 cnt0 hr0 hc0 hl0 cg0 hs0; have R0 := Lib.hid hr0; have L0 := Lib.hid hl0; have CG0 := Lib.hid cg0; clear hr0 hl0 cg0 q1) | fail)
  go_frame
  obtain ⟨w3', hw3⟩ : ∃ y, y = w3 := ⟨_, rfl⟩
  have C3 : Hid (Chg (fun _ => False) w w3) := ((C2.out.alloc _).alloc _).trans CG0.out (fun _ _ h => h)
  have BX : Hid (Blk w3 (w2.heap.size + 1) 122 [.slice A2 n c2, .map (some w2.heap.size)]) := by
    have := Blk.new (w2.alloc (.map #[] 0)) #[.slice A2 n c2, .map (some w2.heap.size)] 122
    rw [show (w2.alloc (.map #[] 0)).heap.size = w2.heap.size + 1 from by simp] at this
    exact this.chg CG0.out (fun h => h)
  have OW : Hid (OwnV w3 138 1 (.slice A2 n c2) n (bls s.stk)) := (K1.out.chg (S := fun _ => False) (((Chg.refl _ _).alloc _).alloc _) (fun _ _ h => h)).chg CG0.out (fun _ _ h => h)
  have MP : Hid (Mp w3 w2.heap.size 0 noSlots) := ((Mp.made w2).alloc _).chg CG0.out (fun h => h)
  have RS3 : Hid (RdSt w3 B g m A n c s N) := h.out.chg0 C3.out
  have LW : Hid (w.heap.size ≤ w2.heap.size) := C2.out.size
  obtain ⟨mo, hmo⟩ : ∃ y, y = w2.heap.size := ⟨_, rfl⟩
  have HM := Lib.hid hmo
  simp only [World.size_alloc, ← hmo] at R0 BX MP LW ⊢
  have D1 : Hid (m ≠ mo) := by have := h.out.mp.lt; have := LW.out; exact fun e => by omega
  have HC0 := Lib.hid hc0
  clear hmo HM RS C2 K1 CG0 hs0 hw3 hc0
  go_loopw [4] (fun _ wr => ∃ (lf : Lit → Bool) (cnt j : Nat), Hid (Rng wr m (mo + 1 + 1) N s.sl lf cnt) ∧ Hid (j + cnt ≤ N) ∧ Hid (Mp wr mo j (fun k => if lftI lf k = true then none else s.sl k)) ∧ Hid (Chg (fun y => y = mo ∨ y = mo + 1 + 1) w3 wr)) (fun _ wr => wr.rangeLeft m (mo + 1 + 1))
  case atStart =>
    refine ⟨lf0, cnt0, 0, R0, ?_, ?_, Chg.refl _ _⟩
    · rw [Hid, Nat.zero_add]; exact HC0.out
    · refine MP.out.congr fun k hk => ?_
      unfold noSlots
      have := L0.out k hk
      rw [this]
      cases s.sl k <;> rfl
  case round =>
    obtain ⟨lf, cnt, j, HR, HJ, HMP, HC⟩ := hrel
    go_wp2_with (first | (at_next; refine wp_next rfl _ rfl rfl HR.out ?_ ?_; rotate_left; intro x c1 w4 cnt1 lf1 hx hlx hMx hr1 hl1 hlt hg1 hs1 hen; rotate_right; intro hl0) | fail)
    · have MF : Hid (Mp wr mo N s.sl) := (HMP.out.congr (fun k hk => by rw [hl0 k]; rfl)).mono (by have := HJ.out; omega)
      go_wp2_with fail
      go_ret
      have N1 : ∀ k, Value.ownBlock (.slice A2 n c2) = some k → ¬ (k = mo ∨ k = mo + 1 + 1) := fun k hk => by
        obtain ⟨cur, hb⟩ := OW.out.typed k hk
        rintro (e | e)
        · exact MP.out.ne_blk hb e
        · exact R0.out.ne_iter hb e
      exact ⟨mo + 1, mo, A2, c2, rfl, ⟨BX.out.chg HC.out (by rintro (e | e) <;> omega), OW.out.chg HC.out N1, MF.out, by have := LW.out; omega, LW.out, K3.out, h.out.len⟩, (C3.out.trans HC.out (fun i hi e => by have := LW.out; omega))⟩
    · have HR1 := Lib.hid hr1
      have HL1 := Lib.hid hl1
      have HLT := Lib.hid hlt
      have C4 : Hid (Chg (fun y => y = mo ∨ y = mo + 1 + 1) w3 w4) := HC.out.trans hg1 (fun i hi e => .inr e)
      have ML4 : Hid (Mp w4 mo j (fun k => if lftI lf k = true then none else s.sl k)) := HMP.out.chg hg1 (fun e => by omega)
      have ML5 : Hid (Mp (w4.alloc (.cells #[.bool c1] 138)) mo j (fun k => if lftI lf k = true then none else s.sl k)) := ML4.out.alloc _
      have HLX := Lib.hid hlx
      have HMX := Lib.hid hMx
      have q5 := ((BX.out.chg C4.out (by rintro (e | e) <;> omega)).alloc (.cells #[.bool c1] 138)).at_ (i := 1) rfl
      have q6 : (w4.alloc (.cells #[.bool c1] 138)).cell? ⟨wr.heap.size, 0, none⟩ = some (.bool c1) := by rw [← hs1]; exact (Blk.new w4 #[.bool c1] 138).at_ (i := 0) rfl
      have HX := Lib.hid hx
      have HSZ := Lib.hid hs1
      have HJM : Hid (j < maxLen) := by have := HJ.out; rw [Hid]; have : (1000000000 : Nat) < maxLen := by decide
                                        omega
      obtain ⟨w6, hrun, k1, k2⟩ := Mp.put (w := (w4.alloc (.cells #[.bool c1] 138)).drew) ML5.out hx HJM.out c1
      have K6 := Lib.hid k1
      have C6 := Lib.hid k2
      clear hr1 hl1 hlt hg1 hs1 hlx hMx hx k1 k2
      go_upto_region 5 with fail
      go_region
      all_goals
        go_wp2_with fail
        go_roundw
        case rel =>
          have C5 : Chg (fun y => y = mo ∨ y = mo + 1 + 1) w3 w6 := ((C4.out.alloc (.cells #[.bool c1] 138)).drew).trans C6.out (fun i hi e => .inl e)
          refine ⟨lf1, cnt1, j + 1, (((HR1.out.alloc (.cells #[.bool c1] 138)).chg (S := fun _ => False) ((Chg.refl _ _).drew) id id).chg (S := fun y => y = mo) C6.out D1.out (fun e => by omega)), ?_, K6.out.congr (fun k hk => twin_step HMX.out HLX.out HL1.out k), C5⟩
          have := HJ.out
          have := HLT.out
          show j + 1 + cnt1 ≤ N
          omega
        case measure =>
          have h6 := (((HR1.out.alloc (.cells #[.bool c1] 138)).chg (S := fun _ => False) ((Chg.refl _ _).drew) id id).chg (S := fun y => y = mo) C6.out D1.out (fun e => by omega)).left_eq
          rw [HR.out.left_eq]
          exact Nat.lt_of_le_of_lt (Nat.le_of_eq h6) HLT.out
end Go.Proofs.YtkadamoofiddeaaDoor.Kit
-- verify: two states brought together (meet).
set_option linter.unusedVariables false
set_option linter.unusedSimpArgs false
namespace Go.Proofs.YtkadamoofiddeaaDoor.Kit
open Go.RowKit Go.Maps
theorem un_hid {p : Prop} (h : Hid p) : p := h.out
section
variable {w : World} {ops : Array Oper} {rest : List Oper} {o : Oper} {a : Act} {Q : Exit → Act → World → Prop} {b n : Nat} {M : Int → Option Bool}
theorem wp_look_some (hg : o.guard = none) (m x : Operand) (hop : o.op = Op.lookup 117 m x true) (hm : a.eval m = .map (some b)) (h : Mp w b n M) {k : Int} (hx : a.eval x = .int .i64 k) (hk : InI k) {v : Bool} (hv : M k = some v)
    (hK : wpList Tryd.prog ops Q rest (a.put o.dst (.tuple #[.agg #[.bool v], .bool true])) w) : wpList Tryd.prog ops Q (o :: rest) a w :=
  wp_look hg m x hop hm h hx hk (by rw [hv]; exact hK)
theorem wp_look_none (hg : o.guard = none) (m x : Operand) (hop : o.op = Op.lookup 117 m x true) (hm : a.eval m = .map (some b)) (h : Mp w b n M) {k : Int} (hx : a.eval x = .int .i64 k) (hk : InI k) (hv : M k = none)
    (hK : wpList Tryd.prog ops Q rest (a.put o.dst (.tuple #[.agg #[.bool false], .bool false])) w) : wpList Tryd.prog ops Q (o :: rest) a w :=
  wp_look hg m x hop hm h hx hk (by rw [hv]; exact hK)
end
theorem meet_keep {s o M : Int → Option Bool} {lf lf' : Lit → Bool} {x : Int} {c : Bool} (h : ∀ k, InI k → M k = if lftI lf k = true then s k else meetM s o k) (hl : lftI lf x = true) (h2 : ∀ k, lftI lf' k = (lftI lf k && !decide (k = x))) (hx : InI x) (hc : M x = some c) (ho : o x = some c) :
    ∀ k, InI k → M k = if lftI lf' k = true then s k else meetM s o k := by
  intro k hk
  rw [h2 k]
  by_cases e : k = x
  · subst e
    have hs := h k hk
    rw [if_pos hl, hc] at hs
    simp [meetM, ← hs, ho, hc]
  · rw [h k hk]
    simp [e]
theorem meet_drop {s o M : Int → Option Bool} {lf lf' lf2 : Lit → Bool} {x : Int} {c : Bool} (h : ∀ k, InI k → M k = if lftI lf k = true then s k else meetM s o k) (hl : lftI lf x = true) (h2 : ∀ k, lftI lf' k = (lftI lf k && !decide (k = x))) (h3 : ∀ k, lftI lf2 k = (lftI lf' k && !decide (k = x))) (hx : InI x) (hc : M x = some c) (ho : o x ≠ some c) :
    ∀ k, InI k → delM M x k = if lftI lf2 k = true then s k else meetM s o k := by
  intro k hk
  rw [h3 k, h2 k]
  unfold delM
  by_cases e : k = x
  · subst e
    have hs := h k hk
    rw [if_pos hl, hc] at hs
    simp [meetM, ← hs, ho]
  · rw [if_neg e, h k hk]
    simp [e]
theorem bls_inj {l m : List Bool} (h : ∀ i, i < l.length → l[i]? = m[i]?) (hl : l.length = m.length) : l = m := by
  apply List.ext_getElem?
  intro i
  by_cases hi : i < l.length
  · exact h i hi
  · rw [List.getElem?_eq_none (by omega), List.getElem?_eq_none (by omega)]
/-- the element of a stack in memory -/
theorem own_elem {w : World} {e : TypeId} {n c : Nat} {A : Option Addr} {l : List Bool} (h : OwnV w e 1 (.slice A n c) n (bls l)) (hl : l.length = n) {i : Nat} (hi : i < n) : ∃ gs b, A = some ⟨gs, 0, none⟩ ∧ l[i]? = some b ∧ w.cell? ⟨gs, i, none⟩ = some (.bool b) := by
  obtain ⟨x, hx⟩ : ∃ x, l[i]? = some x := ⟨l[i], List.getElem?_eq_getElem (by omega)⟩
  obtain ⟨ad, rfl, hc, hob⟩ := h.cells A n c rfl i (.bool x) (by simp [bls, hx])
  rcases h.2 with ⟨h, _⟩ | ⟨g', cap, cur, h, _⟩
  · cases h
  · injection h with h
    injection h with h
    subst h
    have hadd : (⟨g', 0, none⟩ : Addr).add i = ⟨g', i, none⟩ := by unfold Addr.add; split <;> simp_all
    rw [hadd] at hc
    exact ⟨g', x, rfl, hx, hc⟩
set_option maxRecDepth 100000 in
set_option maxHeartbeats 3200000 in
theorem vMeet {w : World} {B1 B2 g1 m1 n1 c1 N1 g2 m2 n2 c2 N2 : Nat} {A1 A2 : Option Addr} {s o : StV} (h1 : Hid (RdSt w B1 g1 m1 A1 n1 c1 s N1)) (h2 : Hid (RdSt w B2 g2 m2 A2 n2 c2 o N2)) (hne : Hid (m1 ≠ m2)) (hN : N1 ≤ 1000000000) :
    Calls Tryd.prog 90 #[.pointer (some ⟨g1, 0, none⟩), .pointer (some ⟨g2, 0, none⟩)] w fun e w' => e = .returned (.int .i64 (meetE s o)) ∧ Hid (Chg (fun y => y = m1) w w') ∧ Hid (meetE s o = 0 → RdSt w' B1 g1 m1 A1 n1 c1 (meetS s o) N1) := by
  have q1 := h1.out.box.at_ (i := 0) rfl
  have q2 := h2.out.box.at_ (i := 0) rfl
  have q3 : w.drew.cell? ⟨g1, 0, none⟩ = some (.slice A1 n1 c1) := q1
  have q4 : w.drew.cell? ⟨g2, 0, none⟩ = some (.slice A2 n2 c2) := q2
  by_cases hn : n1 = n2
  · subst hn
    have L1 := Lib.hid h1.out.len
    have L2 := Lib.hid h2.out.len
    go_enter Tryd.func90, Tryd.ntmps90
    go_upto_region 1 with fail
    go_region_held3 (fun W => W.cell? ⟨g1, 0, none⟩ = some (.slice A1 n1 c1) ∧ W.cell? ⟨g2, 0, none⟩ = some (.slice A2 n1 c2)) (exact ⟨q1, q2⟩) (first | (go_at_call 75; with_reducible refine (vHeight (n := n1) q3).mono ?_; rintro e w1 ⟨rfl, rfl⟩) | (go_at_call 75; with_reducible refine (vHeight (n := n1) q4).mono ?_; rintro e w1 ⟨rfl, rfl⟩))
    obtain ⟨w1, hw1⟩ : ∃ y, y = w.drew := ⟨_, rfl⟩
    have C1 : Hid (Chg (fun _ => False) w w1) := by rw [hw1]; exact (Chg.refl _ w).drew
    rw [← hw1] at q3 q4 ⊢
    have R1 : Hid (RdSt w1 B1 g1 m1 A1 n1 c1 s N1) := h1.out.chg0 C1.out
    have R2 : Hid (RdSt w1 B2 g2 m2 A2 n1 c2 o N2) := h2.out.chg0 C1.out
    clear hw1 q1 q2
    go_wp2_with fail
    go_loopw [26] (fun v wr => ∃ k : Nat, v = .int .i64 k ∧ k ≤ n1 ∧ Hid (∀ j, j < k → s.stk[j]? = o.stk[j]?) ∧ Hid (Chg (fun _ => False) w1 wr)) (fun v _ => match v with | .int _ k => ((n1 : Int) - k).toNat | _ => 0)
    case atStart => exact ⟨0, rfl, Nat.zero_le _, fun j hj => absurd hj (by omega), Chg.refl _ _⟩
    case round =>
      obtain ⟨k, rfl, hk, HQ, HC⟩ := hrel
      by_cases hkn : k < n1
      · obtain ⟨gs1, b1, e1, hb1, k1⟩ := own_elem (R1.out.chg0 HC.out).own L1.out hkn
        obtain ⟨gs2, b2, e2, hb2, k2⟩ := own_elem (R2.out.chg0 HC.out).own L2.out hkn
        subst e1
        subst e2
        have q5 := (R2.out.chg0 HC.out).box.at_ (i := 0) rfl
        have i1 : (0 : Int) ≤ (k : Int) := by omega
        have i2 : (k : Int) < (n1 : Int) := by omega
        have HB1 := Lib.hid hb1
        have HB2 := Lib.hid hb2
        clear hb1 hb2
        have al := (Chg.refl (fun _ => False) wr).alloc (.cells #[.bool b1] 138)
        have k3 := al.cell (p := ⟨gs2, k, none⟩) (fun h => h) k2
        have q6 := al.cell (p := ⟨g2, 0, none⟩) (fun h => h) q5
        have k4 := (Blk.new wr #[.bool b1] 138).at_ (i := 0) rfl
        have HA := Lib.hid al
        have W64 : Hid (wrap64 ((k : Int) + 1) = ((k + 1 : Nat) : Int)) := by
          obtain ⟨_, _, e, h1, h2⟩ := R1.out.own.slice
          injection e with _ _ e
          subst e
          simp [maxLen] at h2
          rw [Hid, IntWalk.wrap64_in _ (by omega)]
          omega
        clear al
        by_cases hbb : b1 = b2
        · subst hbb
          go_wp2_with fail
          go_quiet (fail)
          go_wp2_with fail
          go_roundw
          case rel =>
            refine ⟨k + 1, by rw [W64.out], by omega, fun j hj => ?_, (HC.out.trans HA.out (fun _ _ h => h)).drewN _⟩
            rcases Nat.lt_or_ge j k with h | h
            · exact HQ.out j h
            · rw [show j = k from by omega, HB1.out, HB2.out]
          case measure =>
            rw [W64.out]
            simp
            try omega
        · have HE : Hid (meetE s o = 143) := by
            rw [Hid, meetE, if_neg (by rw [L1.out, L2.out]; exact fun h => h rfl), if_pos]
            intro e
            have := HB1.out
            rw [e, HB2.out] at this
            injection this with this
            exact hbb this.symm
          cases b1 <;> cases b2
          · exact absurd rfl hbb
          · go_wp2_with fail
            go_quiet (fail)
            go_wp2_with fail
            go_ret
            exact ⟨ret_i HE.out.symm, (((C1.out.trans HC.out (fun _ _ h => h)).trans HA.out (fun _ _ h => h)).drewN _).mono (fun _ _ h => h.elim), fun h => absurd (HE.out.symm.trans h) (by decide)⟩
          · go_wp2_with fail
            go_quiet (fail)
            go_wp2_with fail
            go_ret
            exact ⟨ret_i HE.out.symm, (((C1.out.trans HC.out (fun _ _ h => h)).trans HA.out (fun _ _ h => h)).drewN _).mono (fun _ _ h => h.elim), fun h => absurd (HE.out.symm.trans h) (by decide)⟩
          · exact absurd rfl hbb
      · obtain rfl : k = n1 := by omega
        have HE : Hid (meetE s o = 0) := by
          rw [Hid, meetE, if_neg (by rw [L1.out, L2.out]; exact fun h => h rfl), if_neg]
          exact fun h => h (bls_inj (fun i hi => HQ.out i (by rw [← L1.out]; exact hi)) (by rw [L1.out, L2.out]))
        have R1k : Hid (RdSt wr B1 g1 m1 A1 k c1 s N1) := R1.out.chg0 HC.out
        have R2k : Hid (RdSt wr B2 g2 m2 A2 k c2 o N2) := R2.out.chg0 HC.out
        have q5 := R1k.out.box.at_ (i := 1) rfl
        have i1 : ¬ ((k : Int) < (k : Int)) := by omega
        clear HQ
        go_wp2_with (first | (at_range; go_loud (refine wp_range rfl _ rfl rfl R1k.out.mp ?_); intro w3 lf0 cnt0 hr0 hc0 hl0 cg0 hs0; have R0 := Lib.hid hr0; have L0 := Lib.hid hl0; have CG0 := Lib.hid cg0; have HC0 := Lib.hid hc0; have HS0 := Lib.hid hs0; clear hr0 hl0 cg0 hc0 hs0) | fail)
        obtain ⟨r, hr⟩ : ∃ y, y = wr.heap.size := ⟨_, rfl⟩
        have HRR := Lib.hid hr
        rw [← hr] at R0 ⊢
        clear hr
        have R13 : Hid (RdSt w3 B1 g1 m1 A1 k c1 s N1) := R1k.out.chg0 CG0.out
        have R23 : Hid (RdSt w3 B2 g2 m2 A2 k c2 o N2) := R2k.out.chg0 CG0.out
        have C3 : Hid (Chg (fun _ => False) w w3) := (C1.out.trans HC.out (fun _ _ h => h)).trans CG0.out (fun _ _ h => h)
        have GR : Hid (w.heap.size ≤ r) := by rw [HRR.out]; exact (C1.out.trans HC.out (fun _ _ h => h)).size
        go_loopw [7] (fun _ wr => ∃ (lf : Lit → Bool) (cnt : Nat) (Mc : Int → Option Bool), Hid (Rng wr m1 r N1 Mc lf cnt) ∧ Hid (∀ x, InI x → Mc x = if lftI lf x = true then s.sl x else meetM s.sl o.sl x) ∧ Hid (Chg (fun y => y = m1 ∨ y = r) w3 wr)) (fun _ wr => wr.rangeLeft m1 r)
        case atStart =>
          refine ⟨lf0, cnt0, s.sl, R0, fun x hx => ?_, Chg.refl _ _⟩
          rw [L0.out x hx]
          rcases hM : s.sl x with _ | v
          · simp [meetM, hM]
          · simp
        case round =>
          obtain ⟨lf, cnt, Mc, HR, HM, HC9⟩ := hrel
          have E1 : Hid (¬ (g1 = m1 ∨ g1 = r)) := by
            rintro (e | e)
            · exact R13.out.mp.ne_blk R13.out.box e
            · exact R0.out.ne_iter R13.out.box e
          have E2 : Hid (¬ (g2 = m1 ∨ g2 = r)) := by
            rintro (e | e)
            · exact R13.out.mp.ne_blk R23.out.box e
            · exact R0.out.ne_iter R23.out.box e
          have E3 : Hid (¬ (m2 = m1 ∨ m2 = r)) := by
            rintro (e | e)
            · exact hne.out e.symm
            · exact absurd R2k.out.mp.lt (by rw [← HRR.out]; omega)
          go_wp2_with (first | (at_next; refine wp_next rfl _ rfl rfl HR.out ?_ ?_; rotate_left; intro x cb w4 cnt1 lf1 hx hlx hMx hr1 hl1 hlt hg1 hs1 hen; refine un_hid ?_; rotate_right; intro hl0) | fail)
          · have MF : Hid (Mp wr m1 N1 (meetM s.sl o.sl)) := HR.out.mp.congr (fun x hx => by rw [HM.out x hx, hl0 x, if_neg Bool.false_ne_true])
            go_wp2_with fail
            go_ret
            have NO : ∀ x, Value.ownBlock (.slice A1 k c1) = some x → ¬ (x = m1 ∨ x = r) := fun x hx => by
              obtain ⟨cur, hb⟩ := R13.out.own.typed x hx
              rintro (e | e)
              · exact R13.out.mp.ne_blk hb e
              · exact R0.out.ne_iter hb e
            exact ⟨ret_i HE.out.symm, (C3.out.mono (T := fun y => y = m1) (fun _ _ h => h.elim)).trans HC9.out (fun i hi e => by have := GR.out; omega), fun _ => ⟨R13.out.box.chg HC9.out E1.out, R13.out.own.chg HC9.out NO, MF.out, R13.out.geg, R13.out.gem, R13.out.geo, R13.out.len⟩⟩
          · have C4 : Hid (Chg (fun y => y = m1 ∨ y = r) w3 w4) := HC9.out.trans hg1 (fun i hi e => .inr e)
            have HR1 := Lib.hid hr1
            have HL1 := Lib.hid hl1
            have HLT := Lib.hid hlt
            have HLX := Lib.hid hlx
            have HMX := Lib.hid hMx
            have HX := Lib.hid hx
            have qa := ((R23.out.box.chg C4.out E2.out).alloc (.cells #[.bool cb] 138)).at_ (i := 1) rfl
            have M2 : Hid (Mp (w4.alloc (.cells #[.bool cb] 138)) m2 N2 o.sl) := (R23.out.mp.chg C4.out E3.out).alloc _
            have HSZ := Lib.hid hs1
            clear hr1 hl1 hlt hlx hMx hx hg1
            rcases hO : o.sl x with _ | v
            · have HO := Lib.hid hO
              have HNO : Hid (o.sl x ≠ some cb) := by rw [Hid, hO]; exact fun e => by cases e
              clear hO
              have qb := (((R13.out.box.chg C4.out E1.out).alloc (.cells #[.bool cb] 138)).alloc (.cells #[.bool false] 138)).at_ (i := 1) rfl
              have HRA : Hid (Rng ((w4.alloc (.cells #[.bool cb] 138)).alloc (.cells #[.bool false] 138)) m1 r N1 Mc lf1 cnt1) := (HR1.out.alloc _).alloc _
              refine Lib.hid ?_
              go_wp2_with (first | (at_lookup; refine wp_look_none rfl _ _ rfl rfl M2.out rfl HX.out HO.out ?_) | (at_delete; refine wp_del rfl _ _ rfl rfl HRA.out rfl HX.out ?_; intro w6 cnt2 lf2 k1 k2 k3 k4; have K1 := Lib.hid k1; have K2 := Lib.hid k2; have K3 := Lib.hid k3; have K4 := Lib.hid k4; clear k1 k2 k3 k4; go_frame) | fail)
              go_roundw
              case rel => exact ⟨lf2, cnt2, delM Mc x, K1, meet_drop HM.out HLX.out HL1.out K2.out HX.out HMX.out HNO.out, ((C4.out.alloc _).alloc _).trans K4.out (fun i hi e => .inl e)⟩
              case measure => rw [K1.out.left_eq, HR.out.left_eq]; exact Nat.lt_of_le_of_lt K3.out HLT.out
            · have HO := Lib.hid hO
              by_cases hvc : v = cb
              · subst hvc
                clear hO
                have qb := (((R13.out.box.chg C4.out E1.out).alloc (.cells #[.bool v] 138)).alloc (.cells #[.bool v] 138)).at_ (i := 1) rfl
                have HRA : Hid (Rng ((w4.alloc (.cells #[.bool v] 138)).alloc (.cells #[.bool v] 138)) m1 r N1 Mc lf1 cnt1) := (HR1.out.alloc _).alloc _
                refine Lib.hid ?_
                go_wp2_with (first | (at_lookup; refine wp_look_some rfl _ _ rfl rfl M2.out rfl HX.out HO.out ?_) | fail)
                go_roundw
                case rel => exact ⟨lf1, cnt1, Mc, HRA, meet_keep HM.out HLX.out HL1.out HX.out HMX.out HO.out, (C4.out.alloc _).alloc _⟩
                case measure => rw [HRA.out.left_eq, HR.out.left_eq]; exact HLT.out
              · have HNO : Hid (o.sl x ≠ some cb) := by rw [Hid, hO]; exact fun e => hvc (by injection e)
                clear hO
                cases v <;> cases cb
                · exact absurd rfl hvc
                · have qb := (((R13.out.box.chg C4.out E1.out).alloc (.cells #[.bool true] 138)).alloc (.cells #[.bool false] 138)).at_ (i := 1) rfl
                  have HRA : Hid (Rng ((w4.alloc (.cells #[.bool true] 138)).alloc (.cells #[.bool false] 138)) m1 r N1 Mc lf1 cnt1) := (HR1.out.alloc _).alloc _
                  refine Lib.hid ?_
                  go_wp2_with (first | (at_lookup; refine wp_look_some rfl _ _ rfl rfl M2.out rfl HX.out HO.out ?_) | (at_delete; refine wp_del rfl _ _ rfl rfl HRA.out rfl HX.out ?_; intro w6 cnt2 lf2 k1 k2 k3 k4; have K1 := Lib.hid k1; have K2 := Lib.hid k2; have K3 := Lib.hid k3; have K4 := Lib.hid k4; clear k1 k2 k3 k4; go_frame) | fail)
                  go_roundw
                  case rel => exact ⟨lf2, cnt2, delM Mc x, K1, meet_drop HM.out HLX.out HL1.out K2.out HX.out HMX.out HNO.out, ((C4.out.alloc _).alloc _).trans K4.out (fun i hi e => .inl e)⟩
                  case measure => rw [K1.out.left_eq, HR.out.left_eq]; exact Nat.lt_of_le_of_lt K3.out HLT.out
                · have qb := (((R13.out.box.chg C4.out E1.out).alloc (.cells #[.bool false] 138)).alloc (.cells #[.bool true] 138)).at_ (i := 1) rfl
                  have HRA : Hid (Rng ((w4.alloc (.cells #[.bool false] 138)).alloc (.cells #[.bool true] 138)) m1 r N1 Mc lf1 cnt1) := (HR1.out.alloc _).alloc _
                  refine Lib.hid ?_
                  go_wp2_with (first | (at_lookup; refine wp_look_some rfl _ _ rfl rfl M2.out rfl HX.out HO.out ?_) | (at_delete; refine wp_del rfl _ _ rfl rfl HRA.out rfl HX.out ?_; intro w6 cnt2 lf2 k1 k2 k3 k4; have K1 := Lib.hid k1; have K2 := Lib.hid k2; have K3 := Lib.hid k3; have K4 := Lib.hid k4; clear k1 k2 k3 k4; go_frame) | fail)
                  go_roundw
                  case rel => exact ⟨lf2, cnt2, delM Mc x, K1, meet_drop HM.out HLX.out HL1.out K2.out HX.out HMX.out HNO.out, ((C4.out.alloc _).alloc _).trans K4.out (fun i hi e => .inl e)⟩
                  case measure => rw [K1.out.left_eq, HR.out.left_eq]; exact Nat.lt_of_le_of_lt K3.out HLT.out
                · exact absurd rfl hvc
  · have HE : Hid (meetE s o = 142) := by rw [Hid, meetE, if_pos (by rw [h1.out.len, h2.out.len]; exact hn)]
    have hn2 : ¬ ((n1 : Int) = (n2 : Int)) := by omega
    have hn1 : ((n1 : Int) != (n2 : Int)) = true := by simpa using hn2
    go_enter Tryd.func90, Tryd.ntmps90
    go_upto_region 1 with fail
    go_region_held3 (fun W => W.cell? ⟨g1, 0, none⟩ = some (.slice A1 n1 c1) ∧ W.cell? ⟨g2, 0, none⟩ = some (.slice A2 n2 c2)) (exact ⟨q1, q2⟩) (first | (go_at_call 75; with_reducible refine (vHeight (n := n1) q3).mono ?_; rintro e w1 ⟨rfl, rfl⟩) | (go_at_call 75; with_reducible refine (vHeight (n := n2) q4).mono ?_; rintro e w1 ⟨rfl, rfl⟩))
    go_wp2_with fail
    go_ret
    exact ⟨ret_i HE.out.symm, (Chg.refl _ w).drew, fun h => absurd (HE.out.symm.trans h) (by decide)⟩
end Go.Proofs.YtkadamoofiddeaaDoor.Kit
-- verify: what was worked out is noted (note); where it goes on (places).
set_option linter.unusedVariables false
set_option linter.unusedSimpArgs false
namespace Go.Proofs.YtkadamoofiddeaaDoor.Kit
open Go.RowKit Go.Maps
/-- what was worked out, as it lies in memory -/
def fCells (f : FoundV) (hv : Value) : List Value := [.int .i64 f.stack, .int .i64 f.fuel, .int .i64 f.back, hv, .int .i64 f.slots, .int .i64 f.cell]
def FoundOk (f : FoundV) : Prop := (0 ≤ f.stack ∧ f.stack ≤ 1000000000000) ∧ (0 ≤ f.fuel ∧ f.fuel ≤ 1000000000000) ∧ (0 ≤ f.back ∧ f.back ≤ 1000000000000) ∧ (0 ≤ f.slots ∧ f.slots ≤ 1000000000000) ∧ 0 ≤ f.cell ∧ f.cell ≤ 1000000000000
theorem maxI (a b : Int) : (if a < b then b else a) = max a b := by split <;> omega
set_option maxRecDepth 100000 in
set_option maxHeartbeats 1600000 in
theorem vNote {w : World} {g : Nat} {hv : Value} {f : FoundV} {x : InsV} {h : Int} (hb : Hid (Blk w g 75 (fCells f hv))) (hx : Hid ((0 ≤ x.op ∧ x.op < 29) ∧ (0 ≤ x.a ∧ x.a ≤ 262143) ∧ 0 ≤ x.b ∧ x.b ≤ 3660)) (hf : Hid (FoundOk f)) :
    Calls Tryd.prog 76 #[.pointer (some ⟨g, 0, none⟩), .agg #[.int .i64 x.op, .int .i64 x.a, .int .i64 x.b], .int .i64 h] w fun e w' => e = .returned (.tuple #[]) ∧ Hid (Blk w' g 75 (fCells (noteV f x h) hv)) ∧ Hid (Chg (fun y => y = g) w w') := by
  obtain ⟨op, a, b⟩ := x
  obtain ⟨st, fu, ba, sl, ce⟩ := f
  obtain ⟨w1, hw1⟩ : ∃ y, y = w.alloc (.cells #[.int .i64 op, .int .i64 a, .int .i64 b] 47) := ⟨_, rfl⟩
  obtain ⟨gx, hgx⟩ : ∃ y, y = w.heap.size := ⟨_, rfl⟩
  have C1 : Hid (Chg (fun _ => False) w w1) := by rw [hw1]; exact (Chg.refl _ w).alloc _
  have X1 : Hid (Blk w1 gx 47 [.int .i64 op, .int .i64 a, .int .i64 b]) := by rw [hw1, hgx]; exact Blk.new w #[.int .i64 op, .int .i64 a, .int .i64 b] _
  have GG : Hid (g ≠ gx) := by rw [hgx]; exact Nat.ne_of_lt hb.out.lt
  have GX : Hid (gx = w.heap.size) := hgx
  have B1 : Hid (Blk w1 g 75 [.int .i64 st, .int .i64 fu, .int .i64 ba, hv, .int .i64 sl, .int .i64 ce]) := hb.out.chg C1.out (fun h => h)
  have q0 := B1.out.at_ (i := 0) rfl
  have z0 := B1.out.frozen (i := 0) (by simp)
  have q1 := B1.out.at_ (i := 1) rfl
  have z1 := B1.out.frozen (i := 1) (by simp)
  have hfu : Hid (wrap64 (fu + 1) = fu + 1) := by
    have := hf.out.2.1
    simp only at this
    rw [Hid, IntWalk.wrap64_in _ (by omega)]
  go_enter Tryd.func76, Tryd.ntmps76
  go_upto_region 1 with fail
  rw [← hw1, ← hgx]
  clear hw1 hgx
  go_upto_region 3 with fail
  rw [maxI, hfu.out]
  obtain ⟨w2, hw2⟩ : ∃ y, y = (w1.setCell ⟨g, 0, none⟩ (.int .i64 (max st h))).setCell ⟨g, 1, none⟩ (.int .i64 (fu + 1)) := ⟨_, rfl⟩
  have C2 : Hid (Chg (fun y => y = g) w w2) := by
    rw [hw2]
    exact (C1.out.mono (T := fun y => y = g) (fun _ _ h => h.elim)).trans (((Chg.refl (fun y => y = g) w1).setg 0 _).setg 1 _) (fun _ _ h => h)
  have B2 : Hid (Blk w2 g 75 [.int .i64 (max st h), .int .i64 (fu + 1), .int .i64 ba, hv, .int .i64 sl, .int .i64 ce]) := by rw [hw2]; exact (B1.out.set 0 _).set 1 _
  have X2 : Hid (Blk w2 gx 47 [.int .i64 op, .int .i64 a, .int .i64 b]) := by rw [hw2]; exact (X1.out.set_other (p := ⟨g, 0, none⟩) (fun e => GG.out e.symm) _).set_other (p := ⟨g, 1, none⟩) (fun e => GG.out e.symm) _
  rw [← hw2]
  clear hw2 q0 q1 z0 z1
  have r0 := X2.out.at_ (i := 0) rfl
  have r1 := X2.out.at_ (i := 1) rfl
  have r2 := X2.out.at_ (i := 2) rfl
  by_cases h3 : op = 3
  · subst h3
    have r3 := B2.out.at_ (i := 2) rfl
    have r4 := B2.out.frozen (i := 2) (by simp)
    go_upto_region 5 with fail
    go_region
    rw [maxI]
    go_wp2_with fail
    (try simp only [Exit.inBlock, Exit.then]); refine bodyPost_end (results_none rfl _ _ _) rfl ?_
    refine ⟨rfl, ?_, (C2.out.setg 2 _).drew⟩
    have := (B2.out.set 2 (.int .i64 (max ba b))).drew
    exact this
  by_cases h6 : op = 6
  · subst h6
    have ha : Hid (wrap64 (a + 1) = a + 1) := by
      have := hx.out.2.1
      simp only at this
      rw [Hid, IntWalk.wrap64_in _ (by omega)]
    have r3 := B2.out.at_ (i := 4) rfl
    have r4 := B2.out.frozen (i := 4) (by simp)
    go_upto_region 8 with fail
    go_region
    rw [maxI, ha.out]
    go_wp2_with fail
    (try simp only [Exit.inBlock, Exit.then]); refine bodyPost_end (results_none rfl _ _ _) rfl ?_
    refine ⟨rfl, ?_, (C2.out.setg 4 _).drew⟩
    have := (B2.out.set 4 (.int .i64 (max sl (a + 1)))).drew
    exact this
  by_cases h7 : op = 7
  · subst h7
    have ha : Hid (wrap64 (a + 1) = a + 1) := by
      have := hx.out.2.1
      simp only at this
      rw [Hid, IntWalk.wrap64_in _ (by omega)]
    have r3 := B2.out.at_ (i := 4) rfl
    have r4 := B2.out.frozen (i := 4) (by simp)
    go_upto_region 8 with fail
    go_region
    rw [maxI, ha.out]
    go_wp2_with fail
    (try simp only [Exit.inBlock, Exit.then]); refine bodyPost_end (results_none rfl _ _ _) rfl ?_
    refine ⟨rfl, ?_, (C2.out.setg 4 _).drew⟩
    have := (B2.out.set 4 (.int .i64 (max sl (a + 1)))).drew
    exact this
  by_cases h4 : op = 4
  · subst h4
    have ha : Hid (wrap64 (a + 1) = a + 1) := by
      have := hx.out.2.1
      simp only at this
      rw [Hid, IntWalk.wrap64_in _ (by omega)]
    have r3 := B2.out.at_ (i := 5) rfl
    have r4 := B2.out.frozen (i := 5) (by simp)
    go_upto_region 11 with fail
    go_region
    rw [maxI, ha.out]
    go_wp2_with fail
    (try simp only [Exit.inBlock, Exit.then]); refine bodyPost_end (results_none rfl _ _ _) rfl ?_
    refine ⟨rfl, ?_, (C2.out.setg 5 _).drew⟩
    have := (B2.out.set 5 (.int .i64 (max ce (a + 1)))).drew
    exact this
  by_cases h5 : op = 5
  · subst h5
    have ha : Hid (wrap64 (a + 1) = a + 1) := by
      have := hx.out.2.1
      simp only at this
      rw [Hid, IntWalk.wrap64_in _ (by omega)]
    have r3 := B2.out.at_ (i := 5) rfl
    have r4 := B2.out.frozen (i := 5) (by simp)
    go_upto_region 11 with fail
    go_region
    rw [maxI, ha.out]
    go_wp2_with fail
    (try simp only [Exit.inBlock, Exit.then]); refine bodyPost_end (results_none rfl _ _ _) rfl ?_
    refine ⟨rfl, ?_, (C2.out.setg 5 _).drew⟩
    have := (B2.out.set 5 (.int .i64 (max ce (a + 1)))).drew
    exact this
  have HN : Hid (noteV ⟨st, fu, ba, sl, ce⟩ ⟨op, a, b⟩ h = ⟨max st h, fu + 1, ba, sl, ce⟩) := by
    rw [Hid, noteV, if_neg h3, if_neg (by rintro (e | e) <;> contradiction), if_neg (by rintro (e | e) <;> contradiction)]
  go_wp2_with fail
  (try simp only [Exit.inBlock, Exit.then]); refine bodyPost_end (results_none rfl _ _ _) rfl ?_
  exact ⟨rfl, by rw [HN.out]; exact B2.out, C2.out⟩
def toInts (l : List Nat) : List Int := l.map fun (i : Nat) => (i : Int)
set_option maxRecDepth 100000 in
set_option maxHeartbeats 1600000 in
theorem vPlaces {w : World} {A : Option Addr} {n c k : Nat} {l : List InsV} {x : InsV} (hr : Hid (RdG w A (insCells l))) (HN : Hid (n = l.length)) (hk : Hid (l[k]? = some x)) (hx : Hid ((0 ≤ x.op ∧ x.op < 29) ∧ (0 ≤ x.a ∧ x.a ≤ 262143) ∧ 0 ≤ x.b ∧ x.b ≤ 3660)) (hn : n ≤ 262144) :
    Calls Tryd.prog 80 #[.slice A n c, .int .i64 (k : Int)] w fun e w' => ∃ A' m' c', e = .returned (.slice A' m' c') ∧ Hid (Own w' 3 .i64 (.slice A' m' c') (toInts (toOf x k))) ∧ Hid (Chg (fun _ => False) w w') := by
  obtain ⟨h1, hlk⟩ := List.getElem?_eq_some_iff.1 hk.out
  obtain ⟨j0, j1, j2⟩ := insCells_get l k h1
  obtain ⟨a1, e1, hc1⟩ := hr.out _ _ j0
  obtain ⟨a2, e2, hc2⟩ := hr.out _ _ j1
  obtain ⟨a3, e3, hc3⟩ := hr.out _ _ j2
  subst e1
  cases e2
  cases e3
  rw [hlk] at hc1 hc2 hc3
  rw [← add1] at hc2
  rw [← add2] at hc3
  obtain ⟨op, a, b⟩ := x
  simp only at hc1 hc2 hc3
  have b1 : (0 : Int) ≤ (k : Int) := by omega
  have b2 : (k : Int) < (n : Int) := by have := HN.out; omega
  have ha := hx.out.2.1
  simp only at ha
  obtain ⟨d, rfl⟩ : ∃ d : Nat, a = d := ⟨a.toNat, by omega⟩
  have hd : d ≤ 262143 := by omega
  have hkn : k < 262144 := by have := HN.out; omega
  have w1 : wrap64 ((k : Int) + 1) = ((k + 1 : Nat) : Int) := by rw [IntWalk.wrap64_in _ (by omega)]; omega
  have w2 : wrap64 (((k + 1 : Nat) : Int) + (d : Int)) = ((k + 1 + d : Nat) : Int) := by rw [IntWalk.wrap64_in _ (by omega)]; omega
  have W1 := Lib.hid w1
  have W2 := Lib.hid w2
  clear w1 w2 ha j0 j1 j2
  by_cases h0 : op = 0
  · subst h0
    go_enter Tryd.func80, Tryd.ntmps80
    go_wp2_with fail
    go_ret
    exact ⟨none, 0, 0, rfl, Own.nil _ _ _, (Chg.refl _ w).alloc _⟩
  by_cases h26 : op = 26
  · subst h26
    have HT : Hid (toInts (toOf ⟨26, (d : Int), b⟩ k) = [(k : Int) + 1 + (d : Int)]) := by simp [Hid, toInts, toOf]
    go_enter Tryd.func80, Tryd.ntmps80
    go_wp2_with fail
    go_ret
    exact ⟨_, _, _, rfl, by rw [HT.out]; exact Own.lit' (w.alloc (.cells #[.int .i64 26, .int .i64 d, .int .i64 b] 47)) 3 .i64 [(k : Int) + 1 + (d : Int)] (w.heap.size + 1) (by simp) (by simp [maxLen]), ((Chg.refl _ w).alloc _).alloc _⟩
  by_cases h27 : op = 27
  · subst h27
    have HT : Hid (toInts (toOf ⟨27, (d : Int), b⟩ k) = [(k : Int) + 1, (k : Int) + 1 + (d : Int)]) := by simp [Hid, toInts, toOf]
    go_enter Tryd.func80, Tryd.ntmps80
    go_wp2_with fail
    go_ret
    exact ⟨_, _, _, rfl, by rw [HT.out]; exact Own.lit' (w.alloc (.cells #[.int .i64 27, .int .i64 d, .int .i64 b] 47)) 3 .i64 [(k : Int) + 1, (k : Int) + 1 + (d : Int)] (w.heap.size + 1) (by simp) (by simp [maxLen]), ((Chg.refl _ w).alloc _).alloc _⟩
  have HT : Hid (toInts (toOf ⟨op, (d : Int), b⟩ k) = [(k : Int) + 1]) := by simp [Hid, toInts, toOf, h0, h26, h27]
  have d0 : (op == 0) = false := by simpa using h0
  have d26 : (op == 26) = false := by simpa using h26
  have d27 : (op == 27) = false := by simpa using h27
  go_enter Tryd.func80, Tryd.ntmps80
  go_wp2_with fail
  go_ret
  exact ⟨_, _, _, rfl, by rw [HT.out]; exact Own.lit' (w.alloc (.cells #[.int .i64 op, .int .i64 d, .int .i64 b] 47)) 3 .i64 [(k : Int) + 1] (w.heap.size + 1) (by simp) (by simp [maxLen]), ((Chg.refl _ w).alloc _).alloc _⟩
end Go.Proofs.YtkadamoofiddeaaDoor.Kit
-- verify: the states of a day in memory; a state is handed on (hand).
set_option linter.unusedVariables false
set_option linter.unusedSimpArgs false
namespace Go.Proofs.YtkadamoofiddeaaDoor.Kit
open Go.RowKit Go.Maps
/-- where a state lies -/
structure MemS where
  g : Nat
  m : Nat
  A : Option Addr
  n : Nat
  c : Nat
def ptrS : Option MemS → Value
  | none => .pointer none
  | some q => .pointer (some ⟨q.g, 0, none⟩)
/-- the states ahead of each instruction, as they lie in memory -/
structure RdL (w : World) (B gS : Nat) (L : List (Option StV)) (fs : List (Option MemS)) (N : Nat) : Prop where
  blk : Blk w gS 116 (fs.map ptrS)
  len : L.length = fs.length
  st : ∀ (i : Nat) (s : StV), L[i]? = some (some s) → ∃ q : MemS, fs[i]? = some (some q) ∧ RdSt w B q.g q.m q.A q.n q.c s N
  no : ∀ i : Nat, L[i]? = some none → fs[i]? = some none
  apart : ∀ (i j : Nat) (p q : MemS), i ≠ j → fs[i]? = some (some p) → fs[j]? = some (some q) → p.m ≠ q.m
/-- the blocks that handing on may change -/
def ChgS (gS : Nat) (fs : List (Option MemS)) : Nat → Prop := fun y => y = gS ∨ ∃ (i : Nat) (q : MemS), fs[i]? = some (some q) ∧ y = q.m
namespace RdL
variable {w w1 : World} {B gS N : Nat} {L : List (Option StV)} {fs : List (Option MemS)}
theorem back (h : RdL w B gS L fs N) {i : Nat} {q : MemS} (hq : fs[i]? = some (some q)) : ∃ s, L[i]? = some (some s) ∧ RdSt w B q.g q.m q.A q.n q.c s N := by
  have hi : i < fs.length := (List.getElem?_eq_some_iff.1 hq).1
  rcases hL : L[i]? with _ | x
  · rw [List.getElem?_eq_none_iff, h.len] at hL; omega
  · rcases x with _ | s
    · rw [h.no i hL] at hq; cases hq
    · obtain ⟨q', hq', r⟩ := h.st i s hL
      rw [hq] at hq'
      injection hq' with hq'
      injection hq' with hq'
      subst hq'
      exact ⟨s, rfl, r⟩
theorem cell (h : RdL w B gS L fs N) {i : Nat} {x : Option MemS} (hx : fs[i]? = some x) : w.cell? ⟨gS, i, none⟩ = some (ptrS x) := h.blk.at_ (by rw [List.getElem?_map, hx]; rfl)
theorem chg {S : Nat → Prop} (h : RdL w B gS L fs N) (c : Chg S w w1) (h1 : ¬ S gS) (h2 : ∀ y, B ≤ y → y < w.heap.size → ¬ S y) : RdL w1 B gS L fs N :=
  ⟨h.blk.chg c h1, h.len, fun i s hs => by
    obtain ⟨q, hq, r⟩ := h.st i s hs
    exact ⟨q, hq, r.chg c (h2 _ r.geg r.box.lt) (h2 _ r.gem r.mp.lt) (fun x hx => h2 _ (r.geo x hx) (r.own.lt x hx))⟩, h.no, h.apart⟩
/-- a block of cells of another type is none of those that handing on changes -/
theorem other (h : RdL w B gS L fs N) {g : Nat} {e : TypeId} {cur : List Value} (hb : Blk w g e cur) (he : e ≠ 116) : ¬ ChgS gS fs g := by
  rintro (e1 | ⟨i, q, hq, e1⟩)
  · exact hb.type_ne h.blk he e1
  · obtain ⟨s, _, r⟩ := h.back hq
    exact r.mp.ne_blk hb e1
theorem get_set {α : Type} {l : List α} {t i : Nat} {x y : α} (h : (l.set t x)[i]? = some y) : (i = t ∧ y = x) ∨ (i ≠ t ∧ l[i]? = some y) := by
  rw [List.getElem?_set] at h
  by_cases e : t = i
  · rw [if_pos e] at h
    split at h
    · injection h with h
      exact .inl ⟨e.symm, h.symm⟩
    · cases h
  · rw [if_neg e] at h
    exact .inr ⟨fun e1 => e e1.symm, h⟩
theorem set_none (h : RdL w B gS L fs N) (k : Nat) : RdL (w.setCell ⟨gS, k, none⟩ (.pointer none)) B gS (L.set k none) (fs.set k none) N := by
  have c : Chg (fun y => y = gS) w (w.setCell ⟨gS, k, none⟩ (.pointer none)) := (Chg.refl (fun y => y = gS) w).setg k _
  refine ⟨?_, by simp [h.len], fun i s hs => ?_, fun i hi => ?_, fun i j p q hij hp hq => ?_⟩
  · have := h.blk.set k (.pointer none)
    rwa [show Value.pointer none = ptrS none from rfl, ← List.map_set] at this
  · rcases get_set hs with ⟨_, e⟩ | ⟨e, hs⟩
    · cases e
    · obtain ⟨q, hq, r⟩ := h.st i s hs
      refine ⟨q, by rw [List.getElem?_set_ne (fun e1 => e e1.symm)]; exact hq, r.chg c (r.box.type_ne h.blk (by decide)) (fun e1 => r.mp.ne_blk h.blk e1.symm) (fun x hx e1 => r.own.type_ne h.blk (by decide) (by rw [← e1]; exact hx))⟩
  · rcases get_set hi with ⟨e, _⟩ | ⟨e, hi⟩
    · have hk : k < fs.length := by
        have := (List.getElem?_eq_some_iff.1 hi).1
        rw [List.length_set, h.len] at this
        omega
      rw [e, List.getElem?_set_self hk]
    · rw [List.getElem?_set_ne (fun e1 => e e1.symm)]
      exact h.no i hi
  · rcases get_set hp with ⟨_, e⟩ | ⟨_, hp⟩
    · cases e
    rcases get_set hq with ⟨_, e⟩ | ⟨_, hq⟩
    · cases e
    exact h.apart i j p q hij hp hq
theorem set_some (h : RdL w B gS L fs N) {t : Nat} {s : StV} {q : MemS} (r : RdSt w B q.g q.m q.A q.n q.c s N) (ht : t < L.length) (hm : ∀ (i : Nat) (p : MemS), fs[i]? = some (some p) → p.m ≠ q.m) :
    RdL (w.setCell ⟨gS, t, none⟩ (.pointer (some ⟨q.g, 0, none⟩))) B gS (L.set t (some s)) (fs.set t (some q)) N := by
  have c : Chg (fun y => y = gS) w (w.setCell ⟨gS, t, none⟩ (.pointer (some ⟨q.g, 0, none⟩))) := (Chg.refl (fun y => y = gS) w).setg t _
  have keep : ∀ (p : MemS) s', RdSt w B p.g p.m p.A p.n p.c s' N → RdSt (w.setCell ⟨gS, t, none⟩ (.pointer (some ⟨q.g, 0, none⟩))) B p.g p.m p.A p.n p.c s' N := fun p s' r =>
    r.chg c (r.box.type_ne h.blk (by decide)) (fun e1 => r.mp.ne_blk h.blk e1.symm) (fun x hx e1 => r.own.type_ne h.blk (by decide) (by rw [← e1]; exact hx))
  refine ⟨?_, by simp [h.len], fun i s' hs => ?_, fun i hi => ?_, fun i j p p' hij hp hq => ?_⟩
  · have := h.blk.set t (.pointer (some ⟨q.g, 0, none⟩))
    rwa [show Value.pointer (some ⟨q.g, 0, none⟩) = ptrS (some q) from rfl, ← List.map_set] at this
  · rcases get_set hs with ⟨e, e1⟩ | ⟨e, hs⟩
    · injection e1 with e1
      subst e1
      exact ⟨q, by rw [e, List.getElem?_set_self (by rw [← h.len]; exact ht)], keep q s' r⟩
    · obtain ⟨p, hp, r⟩ := h.st i s' hs
      exact ⟨p, by rw [List.getElem?_set_ne (fun e1 => e e1.symm)]; exact hp, keep p s' r⟩
  · rcases get_set hi with ⟨_, e⟩ | ⟨e, hi⟩
    · cases e
    · rw [List.getElem?_set_ne (fun e1 => e e1.symm)]
      exact h.no i hi
  · rcases get_set hp with ⟨e, e1⟩ | ⟨e, hp1⟩
    · injection e1 with e1
      subst e1
      rcases get_set hq with ⟨e2, _⟩ | ⟨_, hq1⟩
      · omega
      · exact fun e3 => hm j p' hq1 e3.symm
    · rcases get_set hq with ⟨_, e2⟩ | ⟨_, hq1⟩
      · injection e2 with e2
        subst e2
        exact hm i p hp1
      · exact h.apart i j p p' hij hp1 hq1
theorem met (h : RdL w B gS L fs N) {t : Nat} {s s' : StV} {q : MemS} (hs : L[t]? = some (some s)) (hq : fs[t]? = some (some q)) (c : Chg (fun y => y = q.m) w w1) (r : RdSt w1 B q.g q.m q.A q.n q.c s' N) : RdL w1 B gS (L.set t (some s')) fs N := by
  obtain ⟨s0, _, r0⟩ := h.back hq
  refine ⟨h.blk.chg c (r0.mp.ne_blk h.blk), by simp [h.len], fun i x hx => ?_, fun i hi => ?_, h.apart⟩
  · rcases get_set hx with ⟨e, e1⟩ | ⟨e, hx⟩
    · injection e1 with e1
      subst e1
      exact ⟨q, by rw [e]; exact hq, r⟩
    · obtain ⟨p, hp, rp⟩ := h.st i x hx
      refine ⟨p, hp, rp.chg c (r0.mp.ne_blk rp.box) (h.apart i t p q e hp hq) (fun y hy e1 => ?_)⟩
      obtain ⟨cur, hb⟩ := rp.own.typed y hy
      exact r0.mp.ne_blk hb e1
  · rcases get_set hi with ⟨_, e⟩ | ⟨e, hi⟩
    · cases e
    · exact h.no i hi
end RdL
theorem hand_no {L : List (Option StV)} {b : StV} {t : Nat} {ts : List Nat} (h : (L[t]?).join = none) : handGo L b (t :: ts) = handGo (L.set t (some b)) b ts := by rw [handGo, h]
theorem hand_ok {L : List (Option StV)} {b s : StV} {t : Nat} {ts : List Nat} (h : L[t]? = some (some s)) (he : meetE s b = 0) : handGo L b (t :: ts) = handGo (L.set t (some (meetS s b))) b ts := by
  rw [handGo, h]
  show (if meetE s b = 0 then _ else _) = _
  rw [if_pos he]
theorem hand_er {L : List (Option StV)} {b s : StV} {t : Nat} {ts : List Nat} (h : L[t]? = some (some s)) (he : meetE s b ≠ 0) : handGo L b (t :: ts) = (meetE s b, L) := by
  rw [handGo, h]
  show (if meetE s b = 0 then _ else _) = _
  rw [if_neg he]
theorem handGo_len : ∀ (ts : List Nat) (L : List (Option StV)) (b : StV), (handGo L b ts).2.length = L.length
  | [], L, b => rfl
  | t :: ts, L, b => by
    rcases h : (L[t]?).join with _ | s
    · rw [hand_no h, handGo_len ts]; simp
    · have h1 : L[t]? = some (some s) := by
        rcases h2 : L[t]? with _ | x
        · rw [h2] at h; cases h
        · rw [h2] at h; rw [show x = some s from h]
      by_cases he : meetE s b = 0
      · rw [hand_ok h1 he, handGo_len ts]; simp
      · rw [hand_er h1 he]
theorem handV_len (L : List (Option StV)) (b : StV) (ts : List Nat) : (handV L b ts).2.length = L.length := by
  unfold handV
  split
  · rfl
  · exact handGo_len ts L b
theorem toInts_length (l : List Nat) : (toInts l).length = l.length := by simp [toInts]
theorem toInts_get (l : List Nat) (i : Nat) (h : i < l.length) : (toInts l)[i]? = some (l[i] : Int) := by simp [toInts, h]
theorem own_elemI {w : World} {e : TypeId} {n c : Nat} {A : Option Addr} {l : List Int} (h : Own w e .i64 (.slice A n c) l) (hl : l.length = n) {i : Nat} (hi : i < n) : ∃ gs x, A = some ⟨gs, 0, none⟩ ∧ l[i]? = some x ∧ w.cell? ⟨gs, i, none⟩ = some (.int .i64 x) := by
  obtain ⟨x, hx⟩ : ∃ x, l[i]? = some x := ⟨l[i], List.getElem?_eq_getElem (by omega)⟩
  obtain ⟨ad, rfl, hc, hob⟩ := OwnV.cells h A n c rfl i (.int .i64 x) (by simp [nums, hx])
  rcases h.2 with ⟨h, _⟩ | ⟨g', cap, cur, h, _⟩
  · cases h
  · injection h with h
    injection h with h
    subst h
    have hadd : (⟨g', 0, none⟩ : Addr).add i = ⟨g', i, none⟩ := by unfold Addr.add; split <;> simp_all
    rw [hadd] at hc
    exact ⟨g', x, rfl, hx, hc⟩
set_option maxRecDepth 100000 in
set_option maxHeartbeats 3200000 in
theorem vHand {w : World} {B gS N gb mb nb cb n mt ct : Nat} {Ab At : Option Addr} {b : StV} {L : List (Option StV)} {fs : List (Option MemS)} {ts : List Nat} (h : Hid (RdL w B gS L fs N)) (hb : Hid (RdSt w B gb mb Ab nb cb b N)) (hap : Hid (∀ (i : Nat) (q : MemS), fs[i]? = some (some q) → q.m ≠ mb))
    (HL : Hid (n = L.length)) (hT : Hid (Own w 3 .i64 (.slice At mt ct) (toInts ts))) (hM : Hid (mt = ts.length)) (hm2 : mt ≤ 2) (hnn : n ≤ 262144) (hN : N ≤ 1000000000) (hnb : nb ≤ 1000000000) (hB : Hid (B ≤ w.heap.size)) :
    Calls Tryd.prog 79 #[.slice (some ⟨gS, 0, none⟩) n n, .pointer (some ⟨gb, 0, none⟩), .slice At mt ct] w fun e w' => e = .returned (.int .i64 (handV L b ts).1) ∧ Hid ((handV L b ts).1 = 0 → ∃ fs', RdL w' B gS (handV L b ts).2 fs' N) ∧ Hid (Chg (ChgS gS fs) w w') := by
  obtain ⟨er, her⟩ : ∃ x, x = (handV L b ts).1 := ⟨_, rfl⟩
  rw [← her]
  have HER := Lib.hid her
  clear her
  go_enter Tryd.func79, Tryd.ntmps79
  go_wp2_with fail
  go_loopw [8, 14] (fun u v wr => ∃ k : Nat, v = .int .i64 (k : Int) ∧ k ≤ mt ∧ Hid (∀ j, j < k → ∀ t, ts[j]? = some t → t < n) ∧ Hid (w = wr)) (fun _ v _ => match v with | .int _ k => ((mt : Int) - k).toNat | _ => 0)
  case atStart => exact ⟨0, rfl, Nat.zero_le _, fun j hj => absurd hj (by omega), rfl⟩
  case round =>
    obtain ⟨k, rfl, hk, HQ, HW⟩ := hrel
    obtain rfl := HW.out
    clear HW
    by_cases hkm : k < mt
    · obtain ⟨gt, x, e1, hx, hc⟩ := own_elemI hT.out (by rw [toInts_length]; exact hM.out.symm) hkm
      subst e1
      obtain ⟨t, ht⟩ : ∃ t, ts[k]? = some t := ⟨_, List.getElem?_eq_getElem (by rw [← hM.out]; exact hkm)⟩
      obtain rfl : x = (t : Int) := by
        have := toInts_get ts k (by rw [← hM.out]; exact hkm)
        rw [hx, List.getElem?_eq_getElem (by rw [← hM.out]; exact hkm)] at *
        simp_all
      have HT := Lib.hid ht
      have i1 : (0 : Int) ≤ (k : Int) := by omega
      have i2 : (k : Int) < (mt : Int) := by omega
      clear ht hx
      by_cases htn : t < n
      · have d1 : decide ((n : Int) ≤ (t : Int)) = false := decide_eq_false (by omega)
        have d2 : ¬ ((n : Int) ≤ (t : Int)) := by omega
        go_wp2_with fail
        go_roundw
        case rel =>
          refine ⟨k + 1, by go_num, by omega, fun j hj t' ht' => ?_, Lib.hid trivial⟩
          rcases Nat.lt_or_ge j k with h1 | h1
          · exact HQ.out j h1 t' ht'
          · obtain rfl : j = k := by omega
            rw [HT.out] at ht'
            injection ht' with ht'
            omega
        case measure =>
          have : wrap64 ((k : Int) + 1) = (k : Int) + 1 := IntWalk.wrap64_in _ (by omega)
          simp [this]
          try omega
      · have d1 : decide ((n : Int) ≤ (t : Int)) = true := decide_eq_true (by omega)
        have d2 : (n : Int) ≤ (t : Int) := by omega
        have HE : Hid (er = 141) := by
          rw [HER.out, handV, if_pos ⟨t, List.mem_of_getElem? HT.out, by rw [← HL.out]; omega⟩]
          rfl
        go_wp2_with fail
        go_ret
        exact ⟨ret_i HE.out.symm, fun h => absurd (HE.out.symm.trans h) (by decide), Chg.refl _ _⟩
    · obtain rfl : k = mt := by omega
      have HALL : Hid (¬ ∃ t ∈ ts, L.length ≤ t) := by
        rintro ⟨t, ht, hle⟩
        obtain ⟨j, hj⟩ := List.getElem?_of_mem ht
        have h1 := (List.getElem?_eq_some_iff.1 hj).1
        have := HQ.out j (by rw [hM.out]; exact h1) t hj
        have := HL.out
        omega
      have HGO : Hid (handV L b ts = handGo L b ts) := by rw [Hid, handV, if_neg HALL.out]
      have i1 : ¬ ((k : Int) < (k : Int)) := by omega
      go_wp2_with fail
      clear i1
      go_loopw [10, 11, 25] (fun _ _ v wr => ∃ (j : Nat) (Lc : List (Option StV)) (fsc : List (Option MemS)), v = .int .i64 (j : Int) ∧ j ≤ k ∧ Hid (RdL wr B gS Lc fsc N) ∧ Hid (handGo Lc b (ts.drop j) = handGo L b ts) ∧ Hid (Lc.length = n) ∧
        Hid (∀ (i : Nat) (q : MemS), fsc[i]? = some (some q) → q.m ≠ mb ∧ (w.heap.size ≤ q.m ∨ ∃ (i' : Nat) (q' : MemS), fs[i']? = some (some q') ∧ q'.m = q.m)) ∧ Hid (Chg (ChgS gS fs) w wr)) (fun _ _ v _ => match v with | .int _ j => ((k : Int) - j).toNat | _ => 0)
      case atStart => exact ⟨0, L, fs, rfl, Nat.zero_le _, h, rfl, HL.out.symm, fun i q hq => ⟨hap.out i q hq, .inr ⟨i, q, hq, rfl⟩⟩, Chg.refl _ _⟩
      case round =>
        obtain ⟨j, Lc, fsc, rfl, hj, HR, HG, HLC, HM, HC⟩ := hrel
        by_cases hjk : j < k
        · obtain ⟨gt, x, e1, hx, hc⟩ := own_elemI hT.out (by rw [toInts_length]; exact hM.out.symm) hjk
          subst e1
          obtain ⟨t, ht⟩ : ∃ t, ts[j]? = some t := ⟨_, List.getElem?_eq_getElem (by rw [← hM.out]; exact hjk)⟩
          obtain rfl : x = (t : Int) := by
            have := toInts_get ts j (by rw [← hM.out]; exact hjk)
            rw [hx, List.getElem?_eq_getElem (by rw [← hM.out]; exact hjk)] at *
            simp_all
          have htn : t < n := HQ.out j hjk t ht
          have hdrop : ts.drop j = t :: ts.drop (j + 1) := by
            obtain ⟨h1, h2⟩ := List.getElem?_eq_some_iff.1 ht
            rw [List.drop_eq_getElem_cons h1, h2]
          have HG2 : Hid (handGo Lc b (t :: ts.drop (j + 1)) = handGo L b ts) := by rw [Hid, ← hdrop]; exact HG.out
          have TB : Hid (∃ cur, Blk w gt 3 cur) := OwnV.typed hT.out gt rfl
          have kc : wr.cell? ⟨gt, j, none⟩ = some (.int .i64 (t : Int)) := HC.out.cell (p := ⟨gt, j, none⟩) (by obtain ⟨cur, hbk⟩ := TB.out; exact h.out.other hbk (by decide)) hc
          have i1 : (0 : Int) ≤ (j : Int) := by omega
          have i2 : (j : Int) < (k : Int) := by omega
          have i3 : (0 : Int) ≤ (t : Int) := by omega
          have i4 : (t : Int) < (n : Int) := by omega
          have i5 : t < n := htn
          have BB : Hid (RdSt wr B gb mb Ab nb cb b N) := hb.out.chg HC.out (h.out.other hb.out.box (by decide)) (by
            rintro (e | ⟨i, q, hq, e⟩)
            · exact hb.out.mp.ne_blk h.out.blk e.symm
            · exact hap.out i q hq e.symm) (fun y hy => by
            obtain ⟨cur, hbk⟩ := hb.out.own.typed y hy
            exact h.out.other hbk (by decide))
          clear ht hx hc hdrop HG htn
          obtain ⟨lt, hlt⟩ : ∃ y, Lc[t]? = some y := ⟨_, List.getElem?_eq_getElem (by rw [HLC.out]; exact i5)⟩
          have HLT := Lib.hid hlt
          rcases lt with _ | s
          · have fz : wr.frozen? ⟨gS, t, none⟩ = false := HR.out.blk.frozen (by rw [List.length_map, ← HR.out.len, HLC.out]; exact i5)
            have cp := HR.out.cell (HR.out.no t hlt)
            simp only [ptrS] at cp
            clear hlt fz
            go_wp2_with fail
            refine (vTwin BB hnb hN).mono ?_
            rintro e w5 ⟨g5, m5, A5, c5, rfl, RT, CT⟩
            have R5 : Hid (RdL w5 B gS Lc fsc N) := HR.out.chg CT.out (fun h => h) (fun _ _ _ h => h)
            have cp5 := R5.out.cell (R5.out.no t HLT.out)
            have fz5 : w5.frozen? ⟨gS, t, none⟩ = false := R5.out.blk.frozen (by rw [List.length_map, ← R5.out.len, HLC.out]; exact i5)
            simp only [ptrS] at cp5
            go_wp2_with fail
            go_roundw
            case rel =>
              have hge : ∀ (i : Nat) (p : MemS), fsc[i]? = some (some p) → p.m < wr.heap.size := fun i p hp => by
                obtain ⟨s', _, r'⟩ := HR.out.back hp
                exact r'.mp.lt
              have hm5 : wr.heap.size ≤ m5 := RT.out.gem
              have RS : RdL (w5.setCell ⟨gS, t, none⟩ (.pointer (some ⟨g5, 0, none⟩))) B gS (Lc.set t (some b)) (fsc.set t (some ⟨g5, m5, A5, nb, c5⟩)) N :=
                R5.out.set_some (q := ⟨g5, m5, A5, nb, c5⟩) (RT.out.mono (Nat.le_trans hB.out HC.out.size) (Nat.le_refl _)) (by rw [HLC.out]; exact i5) (fun i p hp e => by have := hge i p hp; have e2 : p.m = m5 := e; omega)
              refine ⟨j + 1, _, _, by go_num, by omega, RS, ?_, by rw [Hid, List.length_set]; exact HLC.out, fun i q hq => ?_, ?_⟩
              · rw [Hid, ← hand_no (by rw [HLT.out]; rfl)]
                exact HG2.out
              · rcases RdL.get_set hq with ⟨_, e⟩ | ⟨_, hq1⟩
                · injection e with e
                  subst e
                  have h6 := hb.out.mp.lt
                  have h7 := HC.out.size
                  exact ⟨fun e => by simp only at e; omega, .inl (by simp only; omega)⟩
                · exact HM.out i q hq1
              · exact ((HC.out.trans CT.out (fun _ _ h => h.elim)).setCell (p := ⟨gS, t, none⟩) (fun _ => .inl rfl) _)
            case measure =>
              have : wrap64 ((j : Int) + 1) = (j : Int) + 1 := IntWalk.wrap64_in _ (by omega)
              simp [this]
              try omega
          · obtain ⟨q, hq, rq⟩ := HR.out.st t s hlt
            have cp := HR.out.cell hq
            simp only [ptrS] at cp
            have HQ2 := Lib.hid hq
            have RQ := Lib.hid rq
            have NE : Hid (q.m ≠ mb) := (HM.out t q hq).1
            have MM := Lib.hid (HM.out t q hq).2
            clear hlt hq rq
            obtain ⟨me, hme⟩ : ∃ x, meetE s b = x := ⟨_, rfl⟩
            have HME := Lib.hid hme
            go_wp2_with fail
            refine (vMeet RQ BB NE hN).mono ?_
            rintro e w5 ⟨rfl, CQ, RQ5⟩
            rw [hme]
            clear hme
            have C5 : Hid (Chg (ChgS gS fs) w w5) := HC.out.trans CQ.out (fun i hi e => by
              rcases MM.out with h1 | ⟨i', q', h1, h2⟩
              · omega
              · exact .inr ⟨i', q', h1, by rw [e, h2]⟩)
            by_cases hz : me = 0
            · subst hz
              go_wp2_with fail
              go_roundw
              case rel =>
                refine ⟨j + 1, _, _, by go_num, by omega, HR.out.met HLT.out HQ2.out CQ.out (RQ5.out HME.out), ?_, by rw [Hid, List.length_set]; exact HLC.out, HM.out, C5.out⟩
                rw [Hid, ← hand_ok HLT.out HME.out]
                exact HG2.out
              case measure =>
                have : wrap64 ((j : Int) + 1) = (j : Int) + 1 := IntWalk.wrap64_in _ (by omega)
                simp [this]
                try omega
            · have HE : Hid (er = me) := by rw [HER.out, HGO.out, ← HG2.out, hand_er HLT.out (by rw [HME.out]; exact hz), HME.out]; rfl
              have hz1 : (me == 0) = false := by simpa using hz
              go_wp2_with fail
              go_ret
              exact ⟨ret_i HE.out.symm, fun h => absurd (HE.out.symm.trans h) hz, C5.out⟩
        · obtain rfl : j = k := by omega
          have HDR : Hid (handV L b ts = (0, Lc)) := by
            rw [HGO.out, ← HG.out, List.drop_eq_nil_of_le (by rw [← hM.out]; exact Nat.le_refl _)]
            rfl
          have HE : Hid (er = 0) := by rw [HER.out, HDR.out]; rfl
          have i1 : ¬ ((j : Int) < (j : Int)) := by omega
          go_wp2_with fail
          go_ret
          exact ⟨ret_i HE.out.symm, fun _ => ⟨fsc, by rw [HDR.out]; exact HR.out⟩, HC.out⟩
end Go.Proofs.YtkadamoofiddeaaDoor.Kit
-- verify: what an instruction does with a state (apply).
set_option linter.unusedVariables false
set_option linter.unusedSimpArgs false
namespace Go.Proofs.YtkadamoofiddeaaDoor.Kit
open Go.RowKit Go.Maps
/-- the kinds and the sorts stay as they are while nothing below B changes -/
structure Glob (w : World) (B : Nat) : Prop where
  k : KindsAt w
  s : SortsAt w
  lk : 0 < B
  ln : 2 < B
  lt : 3 < B
  le : B ≤ w.heap.size
theorem Glob.chg {w w1 : World} {B : Nat} {S : Nat → Prop} (h : Glob w B) (c : Chg S w w1) (hS : ∀ y, y < B → ¬ S y) : Glob w1 B := ⟨h.k.chg c (hS _ h.lk), h.s.chg c (hS _ h.ln) (hS _ h.lt), h.lk, h.ln, h.lt, Nat.le_trans h.le c.size⟩
theorem Glob.chg0 {w w1 : World} {B : Nat} (h : Glob w B) (c : Chg (fun _ => False) w w1) : Glob w1 B := h.chg c (fun _ _ h => h)
theorem Glob.up {w w1 : World} {B : Nat} (h : Glob w B) (c : Chg (fun y => B ≤ y) w w1) : Glob w1 B := h.chg c (fun y h1 h2 => by omega)
theorem ge_chg0 {w w1 : World} {B : Nat} (c : Chg (fun _ => False) w w1) : Chg (fun y => B ≤ y) w w1 := c.mono (fun _ _ h => h.elim)
theorem vTakes_le {op : Int} (h : 0 ≤ op ∧ op < 29) : (kAt op.toNat).t = (vTakes op : Int) ∧ vTakes op ≤ 3 ∧ (kAt op.toNat).p = (vPuts op : Int) ∧ vPuts op ≤ 1 := by
  obtain ⟨_, _, _, _, h1, h2, h3, h4⟩ := kAt_le op.toNat (by omega)
  refine ⟨?_, ?_, ?_, ?_⟩
  · unfold vTakes; omega
  · unfold vTakes; omega
  · unfold vPuts; omega
  · unfold vPuts; omega
set_option maxRecDepth 100000 in
set_option maxHeartbeats 3200000 in
theorem vApplyLow {w : World} {B g m n c N : Nat} {A : Option Addr} {s : StV} {x : InsV} {day : Int} (h : Hid (RdSt w B g m A n c s N)) (hG : Hid (Glob w B)) (hx : Hid (0 ≤ x.op ∧ x.op < 29)) (hlow : n < vTakes x.op) :
    Calls Tryd.prog 78 #[.pointer (some ⟨g, 0, none⟩), .agg #[.int .i64 x.op, .int .i64 x.a, .int .i64 x.b], .int .i64 day] w fun e w' => e = .returned (.int .i64 142) ∧ Hid (Chg (fun y => B ≤ y) w w') := by
  obtain ⟨op, a, b⟩ := x
  simp only at hx hlow
  obtain ⟨hT, _, hP, _⟩ := vTakes_le hx.out
  obtain ⟨T, hT2⟩ : ∃ T, T = vTakes op := ⟨_, rfl⟩
  obtain ⟨P, hP2⟩ : ∃ P, P = vPuts op := ⟨_, rfl⟩
  rw [← hT2] at hT hlow
  rw [← hP2] at hP
  have HT := Lib.hid hT
  have HP := Lib.hid hP
  clear hT hP hT2 hP2
  obtain ⟨w1, hw1⟩ : ∃ y, y = w.alloc (.cells #[.int .i64 op, .int .i64 a, .int .i64 b] 47) := ⟨_, rfl⟩
  have C1 : Hid (Chg (fun _ => False) w w1) := by rw [hw1]; exact (Chg.refl _ w).alloc _
  have X1 : Hid (Blk w1 w.heap.size 47 [.int .i64 op, .int .i64 a, .int .i64 b]) := by rw [hw1]; exact Blk.new w #[.int .i64 op, .int .i64 a, .int .i64 b] _
  have G1 : Hid (KindsAt w1) := hG.out.k.chg0 C1.out
  have d1 : (n : Int) < (T : Int) := by omega
  have r0 := X1.out.at_ (i := 0) rfl
  go_enter Tryd.func78, Tryd.ntmps78
  go_upto_region 1 with fail
  rw [← hw1]
  clear hw1
  go_wp2_with fail
  refine (vEffect G1 hx).mono ?_
  rintro e w2 ⟨rfl, C2⟩
  rw [HT.out, HP.out]
  have q0 := (h.out.chg0 (C1.out.trans C2 (fun _ _ h => h))).box.at_ (i := 0) rfl
  have K2 := Lib.hid C2
  clear C2
  go_wp2_with fail
  refine (vHeight q0).mono ?_
  rintro e w3 ⟨rfl, rfl⟩
  go_wp2_with fail
  go_ret
  exact ⟨rfl, ge_chg0 (C1.out.trans K2.out (fun _ _ h => h))⟩
theorem want_look {w : World} {b : Nat} {op : Int} (h : Mp w b 20 wantM) (hx : 0 ≤ op ∧ op < 29) {wv ws : Bool} (hv : Hid ((vWant op).getD false = wv)) (hs : Hid ((vWant op).isSome = ws)) : (Instr.lookup 117 (.map (some b)) (.int .i64 op) true).run Tryd.prog w = .ok (.tuple #[.agg #[.bool wv], .bool ws]) w := by
  rw [h.look ⟨by omega, by omega⟩, wantM_eq hx, hv.out, hs.out]
set_option maxRecDepth 100000 in
set_option maxHeartbeats 3200000 in
theorem vApply0 {w : World} {B g m n c N : Nat} {A : Option Addr} {s : StV} {x : InsV} {day : Int} (h : Hid (RdSt w B g m A n c s N)) (hG : Hid (Glob w B)) (hx : x.op = 0) {er : Int} (her : Hid (er = if 0 < n then 142 else 0)) :
    Calls Tryd.prog 78 #[.pointer (some ⟨g, 0, none⟩), .agg #[.int .i64 x.op, .int .i64 x.a, .int .i64 x.b], .int .i64 day] w fun e w' => e = .returned (.int .i64 er) ∧ Hid (Chg (fun y => B ≤ y) w w') ∧ Hid (n = 0 → RdSt w' B g m A n c s N) := by
  obtain ⟨op, a, b⟩ := x
  simp only at hx
  subst hx
  obtain ⟨w1, hw1⟩ : ∃ y, y = w.alloc (.cells #[.int .i64 0, .int .i64 a, .int .i64 b] 47) := ⟨_, rfl⟩
  have C1 : Hid (Chg (fun _ => False) w w1) := by rw [hw1]; exact (Chg.refl _ w).alloc _
  have X1 : Hid (Blk w1 w.heap.size 47 [.int .i64 0, .int .i64 a, .int .i64 b]) := by rw [hw1]; exact Blk.new w #[.int .i64 0, .int .i64 a, .int .i64 b] _
  have G1 : Hid (KindsAt w1) := hG.out.k.chg0 C1.out
  obtain ⟨gx, hgx⟩ : ∃ y, y = w.heap.size := ⟨_, rfl⟩
  have r0 := X1.out.at_ (i := 0) rfl
  rw [← hgx] at X1 r0
  have hx0 : Hid ((0 : Int) ≤ 0 ∧ (0 : Int) < 29) := ⟨by omega, by omega⟩
  go_enter Tryd.func78, Tryd.ntmps78
  go_upto_region 1 with fail
  rw [← hw1, ← hgx]
  clear hw1 hgx
  go_wp2_with fail
  refine (vEffect G1 hx0).mono ?_
  rintro e w2 ⟨rfl, C2⟩
  rw [show (kAt (0 : Int).toNat).t = 0 from rfl, show (kAt (0 : Int).toNat).p = 0 from rfl]
  have q0 := (h.out.chg0 (C1.out.trans C2 (fun _ _ h => h))).box.at_ (i := 0) rfl
  have K2 : Hid (Chg (fun _ => False) w w2) := C1.out.trans C2 (fun _ _ h => h)
  have X2 : Hid (Blk w2 gx 47 [.int .i64 0, .int .i64 a, .int .i64 b]) := X1.out.chg C2 (fun h => h)
  have r2 := X2.out.at_ (i := 0) rfl
  clear C2 r0
  go_wp2_with fail
  refine (vHeight q0).mono ?_
  rintro e w3 ⟨rfl, rfl⟩
  have p1 : ¬ ((n : Int) < 0) := by omega
  go_wp2_with fail
  refine (vHeight q0).mono ?_
  rintro e w3 ⟨rfl, rfl⟩
  by_cases hn : n = 0
  · subst hn
    have S2 : Hid (SortsAt w3) := hG.out.s.chg K2.out (fun h => h) (fun h => h)
    have HE : Hid ((0 : Int) = er) := by rw [Hid, her.out, if_neg (by omega)]
    go_upto_region 6 with fail
    have WV : Hid ((vWant 0).getD false = false) := rfl
    have WS : Hid ((vWant 0).isSome = false) := rfl
    have KK : Hid (∀ W, Chg (fun _ => False) w3 W → W.cell? ⟨gx, 0, none⟩ = some (.int .i64 0)) := fun W cW => (X2.out.chg cW (fun h => h)).at_ (i := 0) rfl
    have SS : Hid (∀ W, Chg (fun _ => False) w3 W → SortsAt W) := fun W cW => S2.out.chg cW (fun h => h) (fun h => h)
    go_cut [10, 11] from 16 to 50 (fun v u wx => ∃ gw, v = .pointer (some ⟨gw, 0, none⟩) ∧ u = .bool false ∧ Hid (Blk wx gw 138 [.bool false]) ∧ Hid (Chg (fun _ => False) w3 wx))
    case first =>
      go_region_held3 (fun W => W.cell? ⟨gx, 0, none⟩ = some (.int .i64 0)) (first | exact KK.out _ (by repeat (first | exact Chg.refl _ _ | exact CW.out | refine Chg.drew ?_ | refine Chg.drewN ?_ _ | refine Chg.alloc ?_ _ | refine Chg.setCell (p := ⟨w3.heap.size, 0, none⟩) ?_ (fun h => absurd h (Nat.lt_irrefl _)) _))) (first | (go_at_call 86; refine (vWants (Lib.hid (SS.out _ (by repeat (first | exact Chg.refl _ _ | refine Chg.drew ?_ | refine Chg.drewN ?_ _ | refine Chg.alloc ?_ _))))).mono ?_; rintro e w4 ⟨bm, rfl, MW, CW1, LB⟩; have CW : Hid (Chg (fun _ => False) w3 w4) := Chg.trans (by repeat (first | exact Chg.refl _ _ | refine Chg.drew ?_ | refine Chg.drewN ?_ _ | refine Chg.alloc ?_ _)) CW1.out (fun _ _ h => h); have el := want_look MW.out hx0.out WV WS; have el2 := want_look (MW.out.alloc (.cells #[.bool false] 138)) hx0.out WV WS; (try (have eb : Blk w4 w3.heap.size 138 [.bool false] := Blk.chg (S := fun _ => False) (by first | exact Blk.new w3 #[.bool false] _ | exact (Blk.new w3 #[.bool false] _).drew | exact Blk.new w3.drew #[.bool false] _) CW1.out (fun h => h); have eb0 := eb.at_ (i := 0) rfl; have eb1 := eb.frozen (i := 0) (by simp); have EB := Lib.hid eb; clear eb))))
      all_goals
        go_wp2_with fail
        go_meet
        case rel =>
          first
          | exact ⟨_, rfl, rfl, EB.out.set 0 _, Chg.setCell (p := ⟨w3.heap.size, 0, none⟩) CW.out (fun h => absurd h (Nat.lt_irrefl _)) _⟩
          | exact ⟨_, rfl, rfl, Blk.new w4 #[.bool false] _, CW.out.alloc _⟩
          | exact ⟨_, rfl, rfl, (Blk.new w4 #[.bool false] _).drew, (CW.out.alloc _).drew⟩
    case rest =>
      obtain ⟨gw, rfl, rfl, BW, CW⟩ := hcut
      have s1 := (SS.out _ CW.out).n
      have x1 := KK.out _ CW.out
      have x2 := KK.out _ ((CW.out.alloc (.cells #[.bool false] 138)))
      go_wp2_with fail
      refine wp_loop_rounds 1 ?_
      rw [rounds_succ]
      go_wp2_with fail
      refine wp_loop_rounds 1 ?_
      rw [rounds_succ]
      go_wp2_with fail
      go_ret
      exact ⟨ret_i HE.out, ge_chg0 ((K2.out.trans CW.out (fun _ _ h => h)).alloc _), h.out.chg0 ((K2.out.trans CW.out (fun _ _ h => h)).alloc _)⟩
  · have p2 : (0 : Int) < (n : Int) := by omega
    have HE : Hid ((142 : Int) = er) := by rw [Hid, her.out, if_pos (by omega)]
    have HNN := Lib.hid hn
    clear hn
    go_wp2_with fail
    go_ret
    exact ⟨ret_i HE.out, ge_chg0 K2.out, fun h => absurd h HNN.out⟩
end Go.Proofs.YtkadamoofiddeaaDoor.Kit
