/- The laws' Book: put, where lists are kept as they came. -/
import Derived.Test.YtcljbaoadmflgaaProg
import Derived.Test.YtcljbaoadmflgaaBook
import Derived.Deep.RegionHeld3
import Derived.Deep.RegionLaw
set_option linter.unusedVariables false
set_option linter.unusedSimpArgs false
namespace Go.Proofs.Ytcljbaoadmflgaa.Kit
open Go.RowKit
theorem box_news {W W' : World} (y : Value) (e : TypeId) (hW : ∀ p, W'.cell? p = (W.alloc (.cells #[y] e)).cell? p) : ∀ (j : Nat) (u : Value), [y][j]? = some u → ∃ ad, some (⟨W.heap.size, 0, none⟩ : Addr) = some ad ∧ W'.cell? (ad.add j) = some u := by
  intro j u hj
  have : j = 0 := by
    rcases j with _ | j
    · rfl
    · simp at hj
  subst this
  refine ⟨_, rfl, ?_⟩
  rw [hW]
  have := (Blk.new W #[y] e).cell 0
  rw [show (⟨W.heap.size, 0, none⟩ : Addr).add 0 = ⟨W.heap.size, 0, none⟩ from rfl, this]
  simpa using hj
section
variable {P : Program} {ops : Array Oper} {rest : List Oper} {o : Oper} {a : Act} {Q : Exit → Act → World → Prop}
theorem st_appv {W : World} {K : Act → World → Prop} {E : Prop} (hgd : o.guard = none) (s x : Operand) (t e : TypeId) (z : Value) (bytes : Nat)
    (ho : o.op = .call { callee := .builtin .append, args := #[s, x], argTypes := #[t, t] })
    (ht : P.underlying t = some (.slice e)) (hinfo : (P.info? e).map (fun i => (i.zero, i.size, i.bytes)) = some (some z, 1, bytes)) (hzs : z.cells.size = 1) (hby : 0 < bytes)
    (v : Value) (n : Nat) (cs : List Value) (y : Value) (hy : y.oneCell' = true) (hs : a.eval s = v) (hown : OwnV W e 1 v n cs) (b : Nat)
    (hx : a.eval x = .slice (some ⟨b, 0, none⟩) 1 1) (hn : ∀ (j : Nat) (u : Value), [y][j]? = some u → ∃ ad, some (⟨b, 0, none⟩ : Addr) = some ad ∧ W.cell? (ad.add j) = some u) (hbytes : (n + 1) * bytes ≤ 140737488355328)
    (h : ∀ v' w', OwnV w' e 1 v' (n + 1) (cs ++ [y]) → Chg (fun g => v.ownBlock = some g) W w' → Fresh W v v' → K (a.put o.dst v') w') : if Region.wanted o (yielded ops a.tmps) = true then o.wp P a W K Q else E := by
  rw [if_pos (by simp [Region.wanted, hgd])]
  refine ow_app s x t e z 1 bytes ho ht hinfo hzs (by decide) hby v n cs hs hown _ 1 1 [y] hx rfl hn (by simpa using hy) hbytes fun v' w' h2 h3 h4 h5 => h v' w' h2 h4 ?_
  rcases h5 with h5 | h5
  · exact .inl h5
  · refine .inr fun g hg => ?_
    rw [h5] at hg
    injection hg with hg
    omega
end
/-- a list as it came, and its copy -/
structure LEnt where
  v : Value
  u : Value
  l : List Int
structure LEntOk (w : World) (bs : Nat → Prop) (x : LEnt) : Prop where
  v : OwnB w x.v x.l
  u : OwnB w x.u x.l
  len : x.l.length ≤ 140737488355238
  bv : ∀ g, x.v.ownBlock = some g → bs g
  bu : ∀ g, x.u.ownBlock = some g → bs g
/-- the lists as they came, and their copies -/
structure LateL (w : World) (raw was : Value) (bs : Nat → Prop) (ls : List LEnt) : Prop where
  rowR : OwnV w 22 1 raw ls.length (ls.map LEnt.v)
  rowW : OwnV w 22 1 was ls.length (ls.map LEnt.u)
  ent : ∀ x ∈ ls, LEntOk w bs x
  apart : ls.Pairwise fun x y => ∀ g, x.v.ownBlock = some g → y.v.ownBlock ≠ some g
  ne : ∀ g, raw.ownBlock = some g → was.ownBlock ≠ some g
theorem LEntOk.chg {w w1 : World} {bs S : Nat → Prop} {x : LEnt} (h : LEntOk w bs x) (c : Chg S w w1) (hS : ∀ g, bs g → (∃ cur, Blk w g 5 cur) → ¬ S g) : LEntOk w1 bs x :=
  ⟨h.v.chg c fun g hg => hS g (h.bv g hg) (OwnV.typed h.v g hg), h.u.chg c fun g hg => hS g (h.bu g hg) (OwnV.typed h.u g hg), h.len, h.bv, h.bu⟩
theorem LEntOk.mono {w : World} {bs cs : Nat → Prop} {x : LEnt} (h : LEntOk w bs x) (hS : ∀ g, bs g → cs g) : LEntOk w cs x := ⟨h.v, h.u, h.len, fun g hg => hS g (h.bv g hg), fun g hg => hS g (h.bu g hg)⟩
theorem putL_end {g o : Nat} {e : TypeId} {cur : List Value} {AR AW A A2 A4 A6 : Option Addr} {k n cR cW c c4 c5 c9 : Nat} {l : List Int} {ls : List LEnt} {bs : Nat → Prop} {w w3 w4 w6 : World} {box : Obj} {W3 : World} (he : e ≠ 5) (he2 : e ≠ 22)
    (hb : Blk w g e cur) (hL : LateL w (.slice AR k cR) (.slice AW k cW) bs ls) (hl : OwnB w (.slice A n c) l) (hap : ∀ k, Value.ownBlock (.slice A n c) = some k → ¬ bs k) (HN : n = l.length) (HK : k = ls.length) (hn : n ≤ 140737488355238)
    (HB6 : Blk w6 g e (cur.set (o + 2) (.slice A2 (k + 1) c5))) (HR3 : OwnV w3 22 1 (.slice A2 (k + 1) c5) (k + 1) (ls.map LEnt.v ++ [Value.slice A n c])) (HW : OwnV w 22 1 (.slice AW k cW) k (ls.map LEnt.u))
    (K3 : Fresh w (.slice AR k cR) (.slice A2 (k + 1) c5)) (N1 : OwnV w6 22 1 (.slice A6 (k + 1) c9) (k + 1) (ls.map LEnt.u ++ [Value.slice A4 l.length c4])) (N3 : Fresh (w4.alloc box) (.slice AW k cW) (.slice A6 (k + 1) c9))
    (C3 : Chg (fun x => Value.ownBlock (.slice AR k cR) = some x ∨ x = g) w w3) (C4 : Chg (fun _ => False) w3 w4)
    (C6 : Chg (fun x => Value.ownBlock (.slice AW k cW) = some x ∨ x = g) w3 (w6.setCell ⟨g, o + 3, none⟩ (.slice A6 (k + 1) c9))) (C7 : Chg (fun x => Value.ownBlock (.slice AW k cW) = some x ∨ x = g) w4 (w6.setCell ⟨g, o + 3, none⟩ (.slice A6 (k + 1) c9)))
    (M1 : OwnB w4 (.slice A4 ([] ++ l).length c4) ([] ++ l)) (hW3 : w3.heap.size ≤ W3.heap.size) (M4 : Fresh W3 (.slice (some ⟨w3.heap.size, 0, none⟩) 0 0) (.slice A4 ([] ++ l).length c4)) (hA6g : ∀ x, Value.ownBlock (.slice A6 (k + 1) c9) = some x → x ≠ g) :
    ∃ raw' was' lu, Ending.returned (.tuple #[]) = .returned (.tuple #[]) ∧ Blk (w6.setCell ⟨g, o + 3, none⟩ (.slice A6 (k + 1) c9)) g e ((cur.set (o + 2) raw').set (o + 3) was') ∧ LateL (w6.setCell ⟨g, o + 3, none⟩ (.slice A6 (k + 1) c9)) raw' was' (fun x => bs x ∨ Value.ownBlock (.slice A n c) = some x ∨ (w.heap.size ≤ x ∧ x < (w6.setCell ⟨g, o + 3, none⟩ (.slice A6 (k + 1) c9)).heap.size)) (ls ++ [⟨.slice A n c, lu, l⟩]) ∧
      Chg (fun x => x = g ∨ Value.ownBlock (.slice AR k cR) = some x ∨ Value.ownBlock (.slice AW k cW) = some x) w (w6.setCell ⟨g, o + 3, none⟩ (.slice A6 (k + 1) c9)) ∧ Fresh w (.slice AR k cR) raw' ∧ Fresh w (.slice AW k cW) was' := by
  obtain ⟨w', hw'⟩ : ∃ w', w' = w6.setCell ⟨g, o + 3, none⟩ (.slice A6 (k + 1) c9) := ⟨_, rfl⟩
  have CC : Chg (fun x => x = g ∨ Value.ownBlock (.slice AR k cR) = some x ∨ Value.ownBlock (.slice AW k cW) = some x) w w' := by
    rw [hw']
    exact (C3.mono (fun _ _ h => h.elim (fun h => .inr (.inl h)) .inl)).trans C6 (fun _ _ h => h.elim (fun h => .inr (.inr h)) .inl)
  have hsz : w3.heap.size ≤ w4.heap.size := C4.size
  have hsz0 : w.heap.size ≤ w3.heap.size := C3.size
  have hLR : OwnV w 22 1 (.slice AR k cR) ls.length (ls.map LEnt.v) := hL.rowR
  have typed : ∀ x, (∃ cur, Blk w x 5 cur) → ¬ (x = g ∨ Value.ownBlock (.slice AR k cR) = some x ∨ Value.ownBlock (.slice AW k cW) = some x) := fun x hx e1 => by
    obtain ⟨cur', hcu⟩ := hx
    rcases e1 with e1 | e1 | e1
    · exact hcu.type_ne hb he.symm e1
    · exact hLR.type_ne hcu (by decide) e1
    · exact HW.type_ne hcu (by decide) e1
  have hRW : ∀ x, Value.ownBlock (.slice A2 (k + 1) c5) = some x → Value.ownBlock (.slice AW k cW) ≠ some x := fun x hx e1 => by
    rcases K3 with h | h
    · exact hL.ne x (h ▸ hx) e1
    · have h1 := h x hx
      have h2 := HW.lt x e1
      omega
  have hRg : ∀ x, Value.ownBlock (.slice A2 (k + 1) c5) = some x → x ≠ g := fun x hx e1 => by
    obtain ⟨cur', hcu⟩ := HR3.typed x hx
    have hb3 : ∃ cur, Blk w6 g e cur := ⟨_, HB6⟩
    rcases K3 with h | h
    · exact hLR.type_ne hb he2.symm (by rw [← h, hx, e1])
    · have h1 := h x hx
      have h2 := hb.lt
      omega
  have M1' : OwnB w4 (.slice A4 l.length c4) l := M1
  have hu : OwnB w' (.slice A4 l.length c4) l := by
    rw [hw']
    refine M1'.chg C7 (fun x hx e1 => ?_)
    have hge : w3.heap.size ≤ x := by
      rcases M4 with h | h
      · have : Value.ownBlock (.slice A4 ([] ++ l).length c4) = some x := hx
        rw [h] at this
        simp [Value.ownBlock] at this
        omega
      · exact Nat.le_trans hW3 (h x hx)
    rcases e1 with e1 | e1
    · have := HW.lt x e1
      omega
    · have := hb.lt
      omega
  refine ⟨.slice A2 (k + 1) c5, .slice A6 (k + 1) c9, .slice A4 l.length c4, rfl, HB6.set (o + 3) _, ?_, ?_, K3, ?_⟩
  · rw [← hw']
    refine ⟨?_, ?_, ?_, ?_, ?_⟩
    · rw [List.length_append, List.length_singleton, ← HK, List.map_append, hw']
      exact HR3.chg C6 (fun x hx e1 => e1.elim (hRW x hx) (hRg x hx))
    · rw [List.length_append, List.length_singleton, ← HK, List.map_append, hw']
      exact N1.chg ((Chg.refl (· = g) w6).setg (o + 3) _) (fun x hx e1 => hA6g x hx e1)
    · intro x hx
      rcases List.mem_append.1 hx with hx | hx
      · exact ((hL.ent x hx).chg CC (fun y _ ht => typed y ht)).mono (fun _ h => .inl h)
      · rw [List.mem_singleton] at hx
        subst hx
        refine ⟨hl.chg CC (fun y hy => typed y (OwnV.typed hl y hy)), hu, by rw [← HN]; exact hn, fun y hy => .inr (.inl hy), fun y hy => .inr (.inr ⟨?_, hu.lt y hy⟩)⟩
        rcases M4 with h | h
        · have : Value.ownBlock (.slice A4 ([] ++ l).length c4) = some y := hy
          rw [h] at this
          simp [Value.ownBlock] at this
          omega
        · exact Nat.le_trans hsz0 (Nat.le_trans hW3 (h y hy))
    · rw [List.pairwise_append]
      refine ⟨hL.apart, List.pairwise_singleton _ _, fun x hx y hy => ?_⟩
      rw [List.mem_singleton] at hy
      subst hy
      exact fun z hz e1 => hap z e1 ((hL.ent x hx).bv z hz)
    · intro x hx e1
      rcases N3 with h | h
      · exact hRW x hx (by rw [← h]; exact e1)
      · have h1 := h x e1
        have h2 := HR3.lt x hx
        simp at h1
        omega
  · rw [← hw']
    exact CC
  · refine N3.imp id fun h x hx => ?_
    have h1 := h x hx
    simp at h1
    omega
set_option maxRecDepth 20000 in
set_option maxHeartbeats 1600000 in
theorem putL (g o : Nat) (e : TypeId) (cur : List Value) (raw was lv : Value) (l : List Int) (ls : List LEnt) (bs : Nat → Prop) (w : World) (he : e ≠ 5) (he2 : e ≠ 22)
    (hb : Hid (Blk w g e cur)) (h1 : cur[o + 1]? = some (.bool true)) (h2 : cur[o + 2]? = some raw) (h3 : cur[o + 3]? = some was) (hL : Hid (LateL w raw was bs ls)) (hl : Hid (OwnB w lv l)) (hap : Hid (∀ k, lv.ownBlock = some k → ¬ bs k)) (hbl : Hid (∀ k, bs k → k < w.heap.size))
    (hk : ls.length ≤ 1099511627776) (hn : l.length ≤ 140737488355238) :
    Calls Try.prog 42 #[.pointer (some ⟨g, o, none⟩), lv] w (fun e1 w' => ∃ raw' was' lu, e1 = .returned (.tuple #[]) ∧ Blk w' g e ((cur.set (o + 2) raw').set (o + 3) was') ∧ LateL w' raw' was' (fun k => bs k ∨ lv.ownBlock = some k ∨ (w.heap.size ≤ k ∧ k < w'.heap.size)) (ls ++ [⟨lv, lu, l⟩]) ∧
      Chg (fun k => k = g ∨ raw.ownBlock = some k ∨ was.ownBlock = some k) w w' ∧ Fresh w raw raw' ∧ Fresh w was was') := by
  obtain ⟨AR, cR, hraw, hcR, hmR⟩ := hL.out.rowR.slice
  obtain ⟨AW, cW, hwas, hcW, hmW⟩ := hL.out.rowW.slice
  obtain ⟨A, c, hlv, hc, hmc⟩ := hl.out.slice
  obtain ⟨n, hn1⟩ : ∃ n : Nat, n = l.length := ⟨_, rfl⟩
  obtain ⟨k, hk1⟩ : ∃ k : Nat, k = ls.length := ⟨_, rfl⟩
  have HRW := hL.out.rowR
  have HWS := hL.out.rowW
  have HLV := hl.out
  rw [← hk1] at hraw hwas hcR hcW HRW HWS hk
  rw [← hn1] at hlv hc hn
  have c1 := hb.out.at_ h1
  have c2 := hb.out.at_ h2
  have ho2 : o + 2 < cur.length := (List.getElem?_eq_some_iff.1 h2).1
  have ho3 : o + 3 < cur.length := (List.getElem?_eq_some_iff.1 h3).1
  have HN := Lib.hid hn1
  have HK := Lib.hid hk1
  have HR := Lib.hid HRW
  have HW := Lib.hid HWS
  have hRg : Hid (∀ x, raw.ownBlock = some x → x ≠ g) := fun x hx e1 => HRW.type_ne hb.out he2.symm (by rw [hx, e1])
  have hWg : Hid (∀ x, was.ownBlock = some x → x ≠ g) := fun x hx e1 => HWS.type_ne hb.out he2.symm (by rw [hx, e1])
  have hlg : Hid (∀ x, lv.ownBlock = some x → x ≠ g) := fun x hx e1 => OwnV.type_ne HLV hb.out he.symm (by rw [hx, e1])
  have hlR : Hid (∀ x, lv.ownBlock = some x → raw.ownBlock ≠ some x) := fun x hx e1 => by
    obtain ⟨cur', hcu⟩ := OwnV.typed HLV x hx
    exact HRW.type_ne hcu (by decide) e1
  clear hn1 hk1 HRW HWS HLV
  subst hraw
  subst hwas
  subst hlv
  go_enter Try.func42, Try.ntmps42
  go_wp2_with (at_builtin; go_must (refine wp_appv1 rfl _ _ 47 22 (.slice none 0 0) 24 rfl Try.underlying47 infoL rfl (by decide) (.slice AR k cR) k (ls.map LEnt.v) (.slice A n c) rfl rfl HR.out rfl (by omega) ?_); intro v2 w2 k1 k2 k3; obtain ⟨A2, c5, rfl, _, _⟩ := k1.slice; have K1 := Lib.hid k1; have K2 := Lib.hid k2; have K3 := Lib.hid k3; clear k1 k2 k3; have HB2 : Hid (Blk w2 g e cur) := hb.out.chg K2.out (fun e1 => hRg.out g e1 rfl); have c3 := HB2.out.at_ h2; have f3 := HB2.out.frozen (i := o + 2) ho2; go_frame)
  obtain ⟨w3, hw3⟩ : ∃ w3, w3 = w2.setCell ⟨g, o + 2, none⟩ (.slice A2 (k + 1) c5) := ⟨_, rfl⟩
  rw [← hw3]
  have hA2g : Hid (∀ x, Value.ownBlock (.slice A2 (k + 1) c5) = some x → x ≠ g) := fun x hx e1 => K1.out.type_ne HB2.out he2.symm (by rw [hx, e1])
  have HB3 : Hid (Blk w3 g e (cur.set (o + 2) (.slice A2 (k + 1) c5))) := by rw [hw3]; exact HB2.out.set (o + 2) _
  have HR3 : Hid (OwnV w3 22 1 (.slice A2 (k + 1) c5) (k + 1) (ls.map LEnt.v ++ [Value.slice A n c])) := by rw [hw3]; exact K1.out.chg ((Chg.refl (· = g) w2).setg (o + 2) _) (fun x hx e1 => hA2g.out x hx e1)
  have C3 : Hid (Chg (fun x => Value.ownBlock (.slice AR k cR) = some x ∨ x = g) w w3) := by rw [hw3]; exact (K2.out.mono (fun _ _ h => .inl h)).setCell (p := ⟨g, o + 2, none⟩) (fun _ => .inr rfl) _
  have HW3 : Hid (OwnV w3 22 1 (.slice AW k cW) k (ls.map LEnt.u)) := HW.out.chg C3.out (fun x hx e1 => e1.elim (fun h => hL.out.ne x h hx) (fun h => hWg.out x hx h))
  have HL3 : Hid (OwnB w3 (.slice A n c) l) := by
    exact hl.out.chg C3.out (fun x hx e1 => e1.elim (hlR.out x hx) (hlg.out x hx))
  have c6 : w3.cell? ⟨g, o + 3, none⟩ = some (.slice AW k cW) := HB3.out.at_ (by rw [List.getElem?_set_ne (by omega), h3])
  have HRd : Hid (Rd w3 .u8 A l) := HL3.out.rd (by rw [HN.out])
  have c6a : (w3.alloc (.cells #[] 5)).drew.cell? ⟨g, o + 3, none⟩ = some (.slice AW k cW) := ((((Chg.refl (fun _ => False) w3).alloc (.cells #[] 5)).drew).cell (fun h => h) c6)
  clear hw3
  go_region_law (first | ((refine st_appn rfl _ _ 22 5 .u8 1 rfl Try.underlying22 infoU8 (by decide) (.slice (some ⟨w3.heap.size, 0, none⟩) 0 0) [] rfl (Own.lit' _ 5 .u8 [] _ (by simp) (by simp)).drew _ _ l n rfl HN.out (HRd.out.chg (S := fun _ => False) (by repeat (first | exact Chg.refl _ _ | refine Chg.drew ?_ | refine Chg.drewN ?_ _ | refine Chg.alloc ?_ _)) (fun _ _ _ h => h)) (by rw [← HN.out]; simp; omega) ?_; intro v' w4 k1 k2 k3 k4; obtain ⟨A4, c4, rfl, _, _⟩ := k1.slice; have M1 := Lib.hid k1; have M3 := Lib.hid k3; have M4 := Lib.hid k4; clear k1 k2 k3 k4; have C4 : Hid (Chg (fun _ => False) w3 w4) := (((Chg.refl (fun _ => False) w3).alloc _).drew).fresh M3.out (blk_ge (Nat.le_refl _)); have c8 : w4.cell? ⟨g, o + 3, none⟩ = some (.slice AW k cW) := C4.out.cell (fun h => h) c6; have c8a : (w4.alloc (.cells #[Value.slice A4 l.length c4] 22)).cell? ⟨g, o + 3, none⟩ = some (.slice AW k cW) := (((Chg.refl (fun _ => False) w4).alloc _).cell (fun h => h) c8); have HW4 : Hid (OwnV w4 22 1 (.slice AW k cW) k (ls.map LEnt.u)) := HW3.out.chg C4.out (fun _ _ h => h))) | ((refine st_appv rfl _ _ 47 22 (.slice none 0 0) 24 rfl Try.underlying47 infoL rfl (by decide) (.slice AW k cW) k (ls.map LEnt.u) (.slice A4 l.length c4) rfl rfl (HW4.out.chg (S := fun _ => False) (by repeat (first | exact Chg.refl _ _ | refine Chg.drew ?_ | refine Chg.drewN ?_ _ | refine Chg.alloc ?_ _)) (fun _ _ h => h)) w4.heap.size rfl (box_news _ _ (fun _ => rfl)) (by omega) ?_); intro v6 w6 k1 k2 k3; obtain ⟨A6, c9, rfl, _, _⟩ := k1.slice; have N1 := Lib.hid k1; have N2 := Lib.hid k2; have N3 := Lib.hid k3; clear k1 k2 k3; have HB6 : Hid (Blk w6 g e (cur.set (o + 2) (.slice A2 (k + 1) c5))) := (HB3.out.chg C4.out (fun h => h)).chg (((Chg.refl (fun x => Value.ownBlock (.slice AW k cW) = some x) w4).alloc _).trans N2.out (fun _ _ h => h)) (fun e1 => hWg.out g e1 rfl); have f6 := HB6.out.frozen (i := o + 3) (by rw [List.length_set]; exact ho3); have cw6 := HB6.out.at_ (i := o + 3) (by rw [List.getElem?_set_ne (by omega), h3])))
  all_goals (
    go_wp2_with fail
    (try simp only [Exit.inBlock, Exit.then]); refine bodyPost_ret (results_none rfl _ _ _) rfl ?_
    have hA6g : ∀ x, Value.ownBlock (.slice A6 (k + 1) c9) = some x → x ≠ g := fun x hx e1 => N1.out.type_ne HB6.out he2.symm (by rw [hx, e1])
    have C6 : Chg (fun x => Value.ownBlock (.slice AW k cW) = some x ∨ x = g) w3 (w6.setCell ⟨g, o + 3, none⟩ (.slice A6 (k + 1) c9)) := ((((C4.out.alloc _).mono (fun _ _ h => h.elim)).trans N2.out (fun _ _ h => .inl h))).setCell (p := ⟨g, o + 3, none⟩) (fun _ => .inr rfl) _
    have C7 : Chg (fun x => Value.ownBlock (.slice AW k cW) = some x ∨ x = g) w4 (w6.setCell ⟨g, o + 3, none⟩ (.slice A6 (k + 1) c9)) := (((Chg.refl _ w4).alloc _).trans N2.out (fun _ _ h => .inl h)).setCell (p := ⟨g, o + 3, none⟩) (fun _ => .inr rfl) _
    exact putL_end he he2 hb.out hL.out hl.out hap.out HN.out HK.out hn HB6.out HR3.out HW.out K3.out N1.out N3.out C3.out C4.out C6 C7 M1.out (by simp) M4.out hA6g)
end Go.Proofs.Ytcljbaoadmflgaa.Kit
