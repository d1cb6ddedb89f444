/- Texts that the row leans on: BookP, BookI, BookJ, Jpa. -/
import Derived.Test.YtlnomadhgoblkaaProg
import Derived.Test.YtlnomadhgoblkaaQJournalPairam
import Derived.Deep.RegionHeld3
import Derived.Deep.RegionLaw
-- The laws' Book: put, where lists are kept as they came.
set_option linter.unusedVariables false
set_option linter.unusedSimpArgs false
namespace Go.Proofs.Ytlnomadhgoblkaa.Kit
open Go.RowKit
theorem box_news {W W' : World} (y : Value) (e : TypeId) (hW : ∀ p, W'.cell? p = (W.alloc (.cells #[y] e)).cell? p) : ∀ (j : Nat) (u : Value), [y][j]? = some u → ∃ ad, some (⟨W.heap.size, 0, none⟩ : Addr) = some ad ∧ W'.cell? (ad.add j) = some u := by
  intro j u hj
  have : j = 0 := by
    rcases j with _ | j
    · rfl
    · simp at hj
  subst this
  refine ⟨_, rfl, ?_⟩
  rw [hW]
  have := (Blk.new W #[y] e).cell 0
  rw [show (⟨W.heap.size, 0, none⟩ : Addr).add 0 = ⟨W.heap.size, 0, none⟩ from rfl, this]
  simpa using hj
section
variable {P : Program} {ops : Array Oper} {rest : List Oper} {o : Oper} {a : Act} {Q : Exit → Act → World → Prop}
theorem st_appv {W : World} {K : Act → World → Prop} {E : Prop} (hgd : o.guard = none) (s x : Operand) (t e : TypeId) (z : Value) (bytes : Nat)
    (ho : o.op = .call { callee := .builtin .append, args := #[s, x], argTypes := #[t, t] })
    (ht : P.underlying t = some (.slice e)) (hinfo : (P.info? e).map (fun i => (i.zero, i.size, i.bytes)) = some (some z, 1, bytes)) (hzs : z.cells.size = 1) (hby : 0 < bytes)
    (v : Value) (n : Nat) (cs : List Value) (y : Value) (hy : y.oneCell' = true) (hs : a.eval s = v) (hown : OwnV W e 1 v n cs) (b : Nat)
    (hx : a.eval x = .slice (some ⟨b, 0, none⟩) 1 1) (hn : ∀ (j : Nat) (u : Value), [y][j]? = some u → ∃ ad, some (⟨b, 0, none⟩ : Addr) = some ad ∧ W.cell? (ad.add j) = some u) (hbytes : ((n + 1) + (n + 1) / 4 + 192) * bytes ≤ 281474976710656)
    (h : ∀ v' w', OwnV w' e 1 v' (n + 1) (cs ++ [y]) → Chg (fun g => v.ownBlock = some g) W w' → Fresh W v v' → K (a.put o.dst v') w') : if Region.wanted o (yielded ops a.tmps) = true then o.wp P a W K Q else E := by
  rw [if_pos (by simp [Region.wanted, hgd])]
  refine ow_appW s x t e z 1 bytes ho ht hinfo hzs (by decide) hby v n cs hs hown _ 1 1 [y] hx rfl hn (by simpa using hy) hbytes fun v' w' h2 h3 h4 h5 => h v' w' h2 h4 ?_
  rcases h5 with h5 | h5
  · exact .inl h5
  · refine .inr fun g hg => ?_
    rw [h5] at hg
    injection hg with hg
    omega
end
/-- a list as it came, and its copy -/
structure LEnt where
  v : Value
  u : Value
  l : List Int
structure LEntOk (w : World) (bs : Nat → Prop) (x : LEnt) : Prop where
  v : OwnB w x.v x.l
  u : OwnB w x.u x.l
  len : x.l.length ≤ 140738025226240
  bv : ∀ g, x.v.ownBlock = some g → bs g
  bu : ∀ g, x.u.ownBlock = some g → bs g
/-- the lists as they came, and their copies -/
structure LateL (w : World) (raw was : Value) (bs : Nat → Prop) (ls : List LEnt) : Prop where
  rowR : OwnV w 29 1 raw ls.length (ls.map LEnt.v)
  rowW : OwnV w 29 1 was ls.length (ls.map LEnt.u)
  ent : ∀ x ∈ ls, LEntOk w bs x
  apart : ls.Pairwise fun x y => ∀ g, x.v.ownBlock = some g → y.v.ownBlock ≠ some g
  ne : ∀ g, raw.ownBlock = some g → was.ownBlock ≠ some g
theorem LEntOk.chg {w w1 : World} {bs S : Nat → Prop} {x : LEnt} (h : LEntOk w bs x) (c : Chg S w w1) (hS : ∀ g, bs g → (∃ cur, Blk w g 5 cur) → ¬ S g) : LEntOk w1 bs x :=
  ⟨h.v.chg c fun g hg => hS g (h.bv g hg) (OwnV.typed h.v g hg), h.u.chg c fun g hg => hS g (h.bu g hg) (OwnV.typed h.u g hg), h.len, h.bv, h.bu⟩
theorem LEntOk.mono {w : World} {bs cs : Nat → Prop} {x : LEnt} (h : LEntOk w bs x) (hS : ∀ g, bs g → cs g) : LEntOk w cs x := ⟨h.v, h.u, h.len, fun g hg => hS g (h.bv g hg), fun g hg => hS g (h.bu g hg)⟩
theorem putL_end {g o : Nat} {e : TypeId} {cur : List Value} {AR AW A A2 A4 A6 : Option Addr} {k n cR cW c c4 c5 c9 : Nat} {l : List Int} {ls : List LEnt} {bs : Nat → Prop} {w w3 w4 w6 : World} {box : Obj} {W3 : World} (he : e ≠ 5) (he2 : e ≠ 29)
    (hb : Blk w g e cur) (hL : LateL w (.slice AR k cR) (.slice AW k cW) bs ls) (hl : OwnB w (.slice A n c) l) (hap : ∀ k, Value.ownBlock (.slice A n c) = some k → ¬ bs k) (HN : n = l.length) (HK : k = ls.length) (hn : n ≤ 140738025226240)
    (HB6 : Blk w6 g e (cur.set (o + 2) (.slice A2 (k + 1) c5))) (HR3 : OwnV w3 29 1 (.slice A2 (k + 1) c5) (k + 1) (ls.map LEnt.v ++ [Value.slice A n c])) (HW : OwnV w 29 1 (.slice AW k cW) k (ls.map LEnt.u))
    (K3 : Fresh w (.slice AR k cR) (.slice A2 (k + 1) c5)) (N1 : OwnV w6 29 1 (.slice A6 (k + 1) c9) (k + 1) (ls.map LEnt.u ++ [Value.slice A4 l.length c4])) (N3 : Fresh (w4.alloc box) (.slice AW k cW) (.slice A6 (k + 1) c9))
    (C3 : Chg (fun x => Value.ownBlock (.slice AR k cR) = some x ∨ x = g) w w3) (C4 : Chg (fun _ => False) w3 w4)
    (C6 : Chg (fun x => Value.ownBlock (.slice AW k cW) = some x ∨ x = g) w3 (w6.setCell ⟨g, o + 3, none⟩ (.slice A6 (k + 1) c9))) (C7 : Chg (fun x => Value.ownBlock (.slice AW k cW) = some x ∨ x = g) w4 (w6.setCell ⟨g, o + 3, none⟩ (.slice A6 (k + 1) c9)))
    (M1 : OwnB w4 (.slice A4 ([] ++ l).length c4) ([] ++ l)) (hW3 : w3.heap.size ≤ W3.heap.size) (M4 : Fresh W3 (.slice (some ⟨w3.heap.size, 0, none⟩) 0 0) (.slice A4 ([] ++ l).length c4)) (hA6g : ∀ x, Value.ownBlock (.slice A6 (k + 1) c9) = some x → x ≠ g) :
    ∃ raw' was' lu, Ending.returned (.tuple #[]) = .returned (.tuple #[]) ∧ Blk (w6.setCell ⟨g, o + 3, none⟩ (.slice A6 (k + 1) c9)) g e ((cur.set (o + 2) raw').set (o + 3) was') ∧ LateL (w6.setCell ⟨g, o + 3, none⟩ (.slice A6 (k + 1) c9)) raw' was' (fun x => bs x ∨ Value.ownBlock (.slice A n c) = some x ∨ (w.heap.size ≤ x ∧ x < (w6.setCell ⟨g, o + 3, none⟩ (.slice A6 (k + 1) c9)).heap.size)) (ls ++ [⟨.slice A n c, lu, l⟩]) ∧
      Chg (fun x => x = g ∨ Value.ownBlock (.slice AR k cR) = some x ∨ Value.ownBlock (.slice AW k cW) = some x) w (w6.setCell ⟨g, o + 3, none⟩ (.slice A6 (k + 1) c9)) ∧ Fresh w (.slice AR k cR) raw' ∧ Fresh w (.slice AW k cW) was' := by
  obtain ⟨w', hw'⟩ : ∃ w', w' = w6.setCell ⟨g, o + 3, none⟩ (.slice A6 (k + 1) c9) := ⟨_, rfl⟩
  have CC : Chg (fun x => x = g ∨ Value.ownBlock (.slice AR k cR) = some x ∨ Value.ownBlock (.slice AW k cW) = some x) w w' := by
    rw [hw']
    exact (C3.mono (fun _ _ h => h.elim (fun h => .inr (.inl h)) .inl)).trans C6 (fun _ _ h => h.elim (fun h => .inr (.inr h)) .inl)
  have hsz : w3.heap.size ≤ w4.heap.size := C4.size
  have hsz0 : w.heap.size ≤ w3.heap.size := C3.size
  have hLR : OwnV w 29 1 (.slice AR k cR) ls.length (ls.map LEnt.v) := hL.rowR
  have typed : ∀ x, (∃ cur, Blk w x 5 cur) → ¬ (x = g ∨ Value.ownBlock (.slice AR k cR) = some x ∨ Value.ownBlock (.slice AW k cW) = some x) := fun x hx e1 => by
    obtain ⟨cur', hcu⟩ := hx
    rcases e1 with e1 | e1 | e1
    · exact hcu.type_ne hb he.symm e1
    · exact hLR.type_ne hcu (by decide) e1
    · exact HW.type_ne hcu (by decide) e1
  have hRW : ∀ x, Value.ownBlock (.slice A2 (k + 1) c5) = some x → Value.ownBlock (.slice AW k cW) ≠ some x := fun x hx e1 => by
    rcases K3 with h | h
    · exact hL.ne x (h ▸ hx) e1
    · have h1 := h x hx
      have h2 := HW.lt x e1
      omega
  have hRg : ∀ x, Value.ownBlock (.slice A2 (k + 1) c5) = some x → x ≠ g := fun x hx e1 => by
    obtain ⟨cur', hcu⟩ := HR3.typed x hx
    have hb3 : ∃ cur, Blk w6 g e cur := ⟨_, HB6⟩
    rcases K3 with h | h
    · exact hLR.type_ne hb he2.symm (by rw [← h, hx, e1])
    · have h1 := h x hx
      have h2 := hb.lt
      omega
  have M1' : OwnB w4 (.slice A4 l.length c4) l := M1
  have hu : OwnB w' (.slice A4 l.length c4) l := by
    rw [hw']
    refine M1'.chg C7 (fun x hx e1 => ?_)
    have hge : w3.heap.size ≤ x := by
      rcases M4 with h | h
      · have : Value.ownBlock (.slice A4 ([] ++ l).length c4) = some x := hx
        rw [h] at this
        simp [Value.ownBlock] at this
        omega
      · exact Nat.le_trans hW3 (h x hx)
    rcases e1 with e1 | e1
    · have := HW.lt x e1
      omega
    · have := hb.lt
      omega
  refine ⟨.slice A2 (k + 1) c5, .slice A6 (k + 1) c9, .slice A4 l.length c4, rfl, HB6.set (o + 3) _, ?_, ?_, K3, ?_⟩
  · rw [← hw']
    refine ⟨?_, ?_, ?_, ?_, ?_⟩
    · rw [List.length_append, List.length_singleton, ← HK, List.map_append, hw']
      exact HR3.chg C6 (fun x hx e1 => e1.elim (hRW x hx) (hRg x hx))
    · rw [List.length_append, List.length_singleton, ← HK, List.map_append, hw']
      exact N1.chg ((Chg.refl (· = g) w6).setg (o + 3) _) (fun x hx e1 => hA6g x hx e1)
    · intro x hx
      rcases List.mem_append.1 hx with hx | hx
      · exact ((hL.ent x hx).chg CC (fun y _ ht => typed y ht)).mono (fun _ h => .inl h)
      · rw [List.mem_singleton] at hx
        subst hx
        refine ⟨hl.chg CC (fun y hy => typed y (OwnV.typed hl y hy)), hu, by rw [← HN]; exact hn, fun y hy => .inr (.inl hy), fun y hy => .inr (.inr ⟨?_, hu.lt y hy⟩)⟩
        rcases M4 with h | h
        · have : Value.ownBlock (.slice A4 ([] ++ l).length c4) = some y := hy
          rw [h] at this
          simp [Value.ownBlock] at this
          omega
        · exact Nat.le_trans hsz0 (Nat.le_trans hW3 (h y hy))
    · rw [List.pairwise_append]
      refine ⟨hL.apart, List.pairwise_singleton _ _, fun x hx y hy => ?_⟩
      rw [List.mem_singleton] at hy
      subst hy
      exact fun z hz e1 => hap z e1 ((hL.ent x hx).bv z hz)
    · intro x hx e1
      rcases N3 with h | h
      · exact hRW x hx (by rw [← h]; exact e1)
      · have h1 := h x e1
        have h2 := HR3.lt x hx
        simp at h1
        omega
  · rw [← hw']
    exact CC
  · refine N3.imp id fun h x hx => ?_
    have h1 := h x hx
    simp at h1
    omega
set_option maxRecDepth 20000 in
set_option maxHeartbeats 1600000 in
theorem putL (g o : Nat) (e : TypeId) (cur : List Value) (raw was lv : Value) (l : List Int) (ls : List LEnt) (bs : Nat → Prop) (w : World) (he : e ≠ 5) (he2 : e ≠ 29)
    (hb : Hid (Blk w g e cur)) (h1 : cur[o + 1]? = some (.bool true)) (h2 : cur[o + 2]? = some raw) (h3 : cur[o + 3]? = some was) (hL : Hid (LateL w raw was bs ls)) (hl : Hid (OwnB w lv l)) (hap : Hid (∀ k, lv.ownBlock = some k → ¬ bs k)) (hbl : Hid (∀ k, bs k → k < w.heap.size))
    (hk : ls.length ≤ 4398046511104) (hn : l.length ≤ 140738025226240) :
    Calls Try.prog 54 #[.pointer (some ⟨g, o, none⟩), lv] w (fun e1 w' => ∃ raw' was' lu, e1 = .returned (.tuple #[]) ∧ Blk w' g e ((cur.set (o + 2) raw').set (o + 3) was') ∧ LateL w' raw' was' (fun k => bs k ∨ lv.ownBlock = some k ∨ (w.heap.size ≤ k ∧ k < w'.heap.size)) (ls ++ [⟨lv, lu, l⟩]) ∧
      Chg (fun k => k = g ∨ raw.ownBlock = some k ∨ was.ownBlock = some k) w w' ∧ Fresh w raw raw' ∧ Fresh w was was') := by
  obtain ⟨AR, cR, hraw, hcR, hmR⟩ := hL.out.rowR.slice
  obtain ⟨AW, cW, hwas, hcW, hmW⟩ := hL.out.rowW.slice
  obtain ⟨A, c, hlv, hc, hmc⟩ := hl.out.slice
  obtain ⟨n, hn1⟩ : ∃ n : Nat, n = l.length := ⟨_, rfl⟩
  obtain ⟨k, hk1⟩ : ∃ k : Nat, k = ls.length := ⟨_, rfl⟩
  have HRW := hL.out.rowR
  have HWS := hL.out.rowW
  have HLV := hl.out
  rw [← hk1] at hraw hwas hcR hcW HRW HWS hk
  rw [← hn1] at hlv hc hn
  have c1 := hb.out.at_ h1
  have c2 := hb.out.at_ h2
  have ho2 : o + 2 < cur.length := (List.getElem?_eq_some_iff.1 h2).1
  have ho3 : o + 3 < cur.length := (List.getElem?_eq_some_iff.1 h3).1
  have HN := Lib.hid hn1
  have HK := Lib.hid hk1
  have HR := Lib.hid HRW
  have HW := Lib.hid HWS
  have hRg : Hid (∀ x, raw.ownBlock = some x → x ≠ g) := fun x hx e1 => HRW.type_ne hb.out he2.symm (by rw [hx, e1])
  have hWg : Hid (∀ x, was.ownBlock = some x → x ≠ g) := fun x hx e1 => HWS.type_ne hb.out he2.symm (by rw [hx, e1])
  have hlg : Hid (∀ x, lv.ownBlock = some x → x ≠ g) := fun x hx e1 => OwnV.type_ne HLV hb.out he.symm (by rw [hx, e1])
  have hlR : Hid (∀ x, lv.ownBlock = some x → raw.ownBlock ≠ some x) := fun x hx e1 => by
    obtain ⟨cur', hcu⟩ := OwnV.typed HLV x hx
    exact HRW.type_ne hcu (by decide) e1
  clear hn1 hk1 HRW HWS HLV
  subst hraw
  subst hwas
  subst hlv
  go_enter Try.func54, Try.ntmps54
  go_wp2_with (at_builtin; go_must (refine wp_appv1 rfl _ _ 61 29 (.slice none 0 0) 24 rfl Try.underlying61 infoL rfl (by decide) (.slice AR k cR) k (ls.map LEnt.v) (.slice A n c) rfl rfl HR.out rfl (by omega) ?_); intro v2 w2 k1 k2 k3; obtain ⟨A2, c5, rfl, _, _⟩ := k1.slice; have K1 := Lib.hid k1; have K2 := Lib.hid k2; have K3 := Lib.hid k3; clear k1 k2 k3; have HB2 : Hid (Blk w2 g e cur) := hb.out.chg K2.out (fun e1 => hRg.out g e1 rfl); have c3 := HB2.out.at_ h2; have f3 := HB2.out.frozen (i := o + 2) ho2; go_frame)
  obtain ⟨w3, hw3⟩ : ∃ w3, w3 = w2.setCell ⟨g, o + 2, none⟩ (.slice A2 (k + 1) c5) := ⟨_, rfl⟩
  rw [← hw3]
  have hA2g : Hid (∀ x, Value.ownBlock (.slice A2 (k + 1) c5) = some x → x ≠ g) := fun x hx e1 => K1.out.type_ne HB2.out he2.symm (by rw [hx, e1])
  have HB3 : Hid (Blk w3 g e (cur.set (o + 2) (.slice A2 (k + 1) c5))) := by rw [hw3]; exact HB2.out.set (o + 2) _
  have HR3 : Hid (OwnV w3 29 1 (.slice A2 (k + 1) c5) (k + 1) (ls.map LEnt.v ++ [Value.slice A n c])) := by rw [hw3]; exact K1.out.chg ((Chg.refl (· = g) w2).setg (o + 2) _) (fun x hx e1 => hA2g.out x hx e1)
  have C3 : Hid (Chg (fun x => Value.ownBlock (.slice AR k cR) = some x ∨ x = g) w w3) := by rw [hw3]; exact (K2.out.mono (fun _ _ h => .inl h)).setCell (p := ⟨g, o + 2, none⟩) (fun _ => .inr rfl) _
  have HW3 : Hid (OwnV w3 29 1 (.slice AW k cW) k (ls.map LEnt.u)) := HW.out.chg C3.out (fun x hx e1 => e1.elim (fun h => hL.out.ne x h hx) (fun h => hWg.out x hx h))
  have HL3 : Hid (OwnB w3 (.slice A n c) l) := by
    exact hl.out.chg C3.out (fun x hx e1 => e1.elim (hlR.out x hx) (hlg.out x hx))
  have c6 : w3.cell? ⟨g, o + 3, none⟩ = some (.slice AW k cW) := HB3.out.at_ (by rw [List.getElem?_set_ne (by omega), h3])
  have HRd : Hid (Rd w3 .u8 A l) := HL3.out.rd (by rw [HN.out])
  have c6a : (w3.alloc (.cells #[] 5)).drew.cell? ⟨g, o + 3, none⟩ = some (.slice AW k cW) := ((((Chg.refl (fun _ => False) w3).alloc (.cells #[] 5)).drew).cell (fun h => h) c6)
  clear hw3
  go_region_law (first | ((refine st_appnW rfl _ _ 29 5 .u8 1 rfl Try.underlying29 infoU8 (by decide) (.slice (some ⟨w3.heap.size, 0, none⟩) 0 0) [] rfl (Own.lit' _ 5 .u8 [] _ (by simp) (by simp)).drew _ _ l n rfl HN.out (HRd.out.chg (S := fun _ => False) (by repeat (first | exact Chg.refl _ _ | refine Chg.drew ?_ | refine Chg.drewN ?_ _ | refine Chg.alloc ?_ _)) (fun _ _ _ h => h)) (by rw [← HN.out]; simp; omega) ?_; intro v' w4 k1 k2 k3 k4; obtain ⟨A4, c4, rfl, _, _⟩ := k1.slice; have M1 := Lib.hid k1; have M3 := Lib.hid k3; have M4 := Lib.hid k4; clear k1 k2 k3 k4; have C4 : Hid (Chg (fun _ => False) w3 w4) := (((Chg.refl (fun _ => False) w3).alloc _).drew).fresh M3.out (blk_ge (Nat.le_refl _)); have c8 : w4.cell? ⟨g, o + 3, none⟩ = some (.slice AW k cW) := C4.out.cell (fun h => h) c6; have c8a : (w4.alloc (.cells #[Value.slice A4 l.length c4] 29)).cell? ⟨g, o + 3, none⟩ = some (.slice AW k cW) := (((Chg.refl (fun _ => False) w4).alloc _).cell (fun h => h) c8); have HW4 : Hid (OwnV w4 29 1 (.slice AW k cW) k (ls.map LEnt.u)) := HW3.out.chg C4.out (fun _ _ h => h))) | ((refine st_appv rfl _ _ 61 29 (.slice none 0 0) 24 rfl Try.underlying61 infoL rfl (by decide) (.slice AW k cW) k (ls.map LEnt.u) (.slice A4 l.length c4) rfl rfl (HW4.out.chg (S := fun _ => False) (by repeat (first | exact Chg.refl _ _ | refine Chg.drew ?_ | refine Chg.drewN ?_ _ | refine Chg.alloc ?_ _)) (fun _ _ h => h)) w4.heap.size rfl (box_news _ _ (fun _ => rfl)) (by omega) ?_); intro v6 w6 k1 k2 k3; obtain ⟨A6, c9, rfl, _, _⟩ := k1.slice; have N1 := Lib.hid k1; have N2 := Lib.hid k2; have N3 := Lib.hid k3; clear k1 k2 k3; have HB6 : Hid (Blk w6 g e (cur.set (o + 2) (.slice A2 (k + 1) c5))) := (HB3.out.chg C4.out (fun h => h)).chg (((Chg.refl (fun x => Value.ownBlock (.slice AW k cW) = some x) w4).alloc _).trans N2.out (fun _ _ h => h)) (fun e1 => hWg.out g e1 rfl); have f6 := HB6.out.frozen (i := o + 3) (by rw [List.length_set]; exact ho3); have cw6 := HB6.out.at_ (i := o + 3) (by rw [List.getElem?_set_ne (by omega), h3])))
  all_goals (
    go_wp2_with fail
    (try simp only [Exit.inBlock, Exit.then]); refine bodyPost_ret (results_none rfl _ _ _) rfl ?_
    have hA6g : ∀ x, Value.ownBlock (.slice A6 (k + 1) c9) = some x → x ≠ g := fun x hx e1 => N1.out.type_ne HB6.out he2.symm (by rw [hx, e1])
    have C6 : Chg (fun x => Value.ownBlock (.slice AW k cW) = some x ∨ x = g) w3 (w6.setCell ⟨g, o + 3, none⟩ (.slice A6 (k + 1) c9)) := ((((C4.out.alloc _).mono (fun _ _ h => h.elim)).trans N2.out (fun _ _ h => .inl h))).setCell (p := ⟨g, o + 3, none⟩) (fun _ => .inr rfl) _
    have C7 : Chg (fun x => Value.ownBlock (.slice AW k cW) = some x ∨ x = g) w4 (w6.setCell ⟨g, o + 3, none⟩ (.slice A6 (k + 1) c9)) := (((Chg.refl _ w4).alloc _).trans N2.out (fun _ _ h => .inl h)).setCell (p := ⟨g, o + 3, none⟩) (fun _ => .inr rfl) _
    exact putL_end he he2 hb.out hL.out hl.out hap.out HN.out HK.out hn HB6.out HR3.out HW.out K3.out N1.out N3.out C3.out C4.out C6 C7 M1.out (by simp) M4.out hA6g)
end Go.Proofs.Ytlnomadhgoblkaa.Kit
-- The laws' Book, both ways: what holds of it between two calls; put, kept.
set_option linter.unusedVariables false
set_option linter.unusedSimpArgs false
namespace Go.Proofs.Ytlnomadhgoblkaa.Kit
open Go.RowKit
/-- A book in block g behind pre: its rows and what was put into it lie in blocks of D; at most k puts. -/
structure BookI (late : Bool) (g : Nat) (e : TypeId) (pre : List Value) (D : Nat → Prop) (k : Nat) (w : World) : Prop where
  ex : ∃ L raw was, Blk w g e (pre ++ [L, .bool late, raw, was]) ∧ (∀ x, L.ownBlock = some x → D x) ∧ (∀ x, raw.ownBlock = some x → D x) ∧ (∀ x, was.ownBlock = some x → D x) ∧
    (late = false → ∃ es : List Ent, es.length ≤ k ∧ BookL w L D es) ∧
    (late = true → L = .slice none 0 0 ∧ ∃ ls : List LEnt, ls.length ≤ k ∧ LateL w raw was D ls)
  size : ∀ x, D x → x < w.heap.size
  out : ¬ D g
theorem LateL.chg {w w1 : World} {raw was : Value} {bs S : Nat → Prop} {ls : List LEnt} (h : LateL w raw was bs ls) (c : Chg S w w1) (h1 : ∀ x, raw.ownBlock = some x → ¬ S x) (h2 : ∀ x, was.ownBlock = some x → ¬ S x) (hS : ∀ g, bs g → ¬ S g) : LateL w1 raw was bs ls :=
  ⟨h.rowR.chg c h1, h.rowW.chg c h2, fun x hx => (h.ent x hx).chg c fun g hg _ => hS g hg, h.apart, h.ne⟩
theorem LateL.mono {w : World} {raw was : Value} {bs cs : Nat → Prop} {ls : List LEnt} (h : LateL w raw was bs ls) (hS : ∀ g, bs g → cs g) : LateL w raw was cs ls :=
  ⟨h.rowR, h.rowW, fun x hx => (h.ent x hx).mono hS, h.apart, h.ne⟩
theorem LateL.none (w : World) (bs : Nat → Prop) : LateL w (.slice none 0 0) (.slice none 0 0) bs [] :=
  ⟨OwnV.nil _ _ _, OwnV.nil _ _ _, fun x hx => absurd hx (by simp), .nil, fun g hg => by simp [Value.ownBlock] at hg⟩
theorem BookI.lt {late : Bool} {g : Nat} {e : TypeId} {pre : List Value} {D : Nat → Prop} {k : Nat} {w : World} (h : BookI late g e pre D k w) : g < w.heap.size := by
  obtain ⟨L, raw, was, hb, _⟩ := h.ex
  exact hb.lt
theorem BookI.chg {late : Bool} {g : Nat} {e : TypeId} {pre : List Value} {D : Nat → Prop} {k : Nat} {w w1 : World} {S : Nat → Prop} (h : BookI late g e pre D k w) (c : Chg S w w1) (hS : ∀ x, S x → ¬ D x ∧ x ≠ g) : BookI late g e pre D k w1 := by
  obtain ⟨L, raw, was, hb, h1, h2, h3, h4, h5⟩ := h.ex
  have hB : ∀ x, D x → ¬ S x := fun x hx hs => (hS x hs).1 hx
  refine ⟨⟨L, raw, was, hb.chg c (fun hs => (hS g hs).2 rfl), h1, h2, h3, fun hl => ?_, fun hl => ?_⟩, fun x hx => Nat.lt_of_lt_of_le (h.size x hx) c.size, h.out⟩
  · obtain ⟨es, hk, hL⟩ := h4 hl
    exact ⟨es, hk, hL.chg c (fun x hx => hB x (h1 x hx)) (fun x hx => hB x hx)⟩
  · obtain ⟨hL, ls, hk, hr⟩ := h5 hl
    exact ⟨hL, ls, hk, hr.chg c (fun x hx => hB x (h2 x hx)) (fun x hx => hB x (h3 x hx)) (fun x hx => hB x hx)⟩
theorem BookI.drewN {late : Bool} {g : Nat} {e : TypeId} {pre : List Value} {D : Nat → Prop} {k : Nat} {w : World} (h : BookI late g e pre D k w) (n : Nat) : BookI late g e pre D k (w.drewN n) :=
  h.chg (S := fun _ => False) ((Chg.refl _ w).drewN n) (fun _ h => h.elim)
/-- a book that is new -/
theorem BookI.new {late : Bool} {g : Nat} {e : TypeId} {pre : List Value} {w : World} (hb : Blk w g e (pre ++ [.slice none 0 0, .bool late, .slice none 0 0, .slice none 0 0])) : BookI late g e pre (fun _ => False) 0 w :=
  ⟨⟨_, _, _, hb, fun x hx => by simp [Value.ownBlock] at hx, fun x hx => by simp [Value.ownBlock] at hx, fun x hx => by simp [Value.ownBlock] at hx, fun _ => ⟨[], by simp, BookL.none _ _⟩, fun _ => ⟨rfl, [], by simp, LateL.none _ _⟩⟩, fun _ h => h.elim, id⟩
theorem putI (late : Bool) (g : Nat) (e : TypeId) (pre : List Value) (D : Nat → Prop) (k : Nat) (lv : Value) (l : List Int) (w : World) (he : e ≠ 5) (he2 : e ≠ 29) (hI : Hid (BookI late g e pre D k w)) (hl : Hid (OwnB w lv l)) (hN : Hid (∀ x, lv.ownBlock = some x → ¬ D x)) (hk : k ≤ 4398046511104) (hn : l.length ≤ 140738025226240) (o : Nat) (ho : o = pre.length) :
    Calls Try.prog 54 #[.pointer (some ⟨g, o, none⟩), lv] w (fun e1 w' => e1 = .returned (.tuple #[]) ∧ BookI late g e pre (fun x => D x ∨ lv.ownBlock = some x ∨ (w.heap.size ≤ x ∧ x < w'.heap.size)) (k + 1) w' ∧ Chg (fun x => x = g ∨ D x ∨ lv.ownBlock = some x) w w') := by
  obtain ⟨L, raw, was, hb, h1, h2, h3, h4, h5⟩ := hI.out.ex
  have hs := hI.out.size
  have hng : ∀ w' : World, ¬ (D g ∨ lv.ownBlock = some g ∨ (w.heap.size ≤ g ∧ g < w'.heap.size)) := fun w' h => by
    rcases h with h | h | h
    · exact hI.out.out h
    · exact OwnV.type_ne hl.out hb he.symm h
    · have := hb.lt
      omega
  subst ho
  cases late
  · obtain ⟨es, hk2, hL⟩ := h4 rfl
    refine (putM g pre.length e _ L lv l es D w he he2 hb (by simp) (by simp) hL hl hN hs (by omega) hn).mono ?_
    rintro e1 w' ⟨L', lv', rfl, k1, k2, k3, k4⟩
    have hsz := k3.size
    have hL'lt := k2.row.lt
    refine ⟨rfl, ⟨⟨L', raw, was, by simpa using k1, fun x hx => ?_, fun x hx => .inl (h2 x hx), fun x hx => .inl (h3 x hx), fun _ => ⟨_, ?_, k2⟩, fun h => by cases h⟩, fun x hx => ?_, hng w'⟩, k3.mono fun x hx h => ?_⟩
    · rcases k4 with k4 | k4
      · exact .inl (h1 x (k4 ▸ hx))
      · exact .inr (.inr ⟨k4 x hx, hL'lt x hx⟩)
    · simp
      omega
    · rcases hx with hx | hx | hx
      · exact Nat.lt_of_lt_of_le (hs x hx) hsz
      · exact Nat.lt_of_lt_of_le (hl.out.lt x hx) hsz
      · exact hx.2
    · rcases h with h | h | h
      · exact .inl h
      · exact .inr (.inl (h1 x h))
      · exact .inr (.inr h)
  · obtain ⟨rfl, ls, hk2, hr⟩ := h5 rfl
    refine (putL g pre.length e _ raw was lv l ls D w he he2 hb (by simp) (by simp) (by simp) hr hl hN hs (by omega) hn).mono ?_
    rintro e1 w' ⟨raw', was', lu, rfl, k1, k2, k3, k4, k5⟩
    have hsz := k3.size
    have hRlt := k2.rowR.lt
    have hWlt := k2.rowW.lt
    refine ⟨rfl, ⟨⟨.slice none 0 0, raw', was', by simpa using k1, fun x hx => .inl (h1 x hx), fun x hx => ?_, fun x hx => ?_, fun h => (by cases h), fun _ => ⟨rfl, _, ?_, k2⟩⟩, fun x hx => ?_, hng w'⟩, k3.mono fun x hx h => ?_⟩
    · rcases k4 with k4 | k4
      · exact .inl (h2 x (k4 ▸ hx))
      · exact .inr (.inr ⟨k4 x hx, hRlt x hx⟩)
    · rcases k5 with k5 | k5
      · exact .inl (h3 x (k5 ▸ hx))
      · exact .inr (.inr ⟨k5 x hx, hWlt x hx⟩)
    · simp
      omega
    · rcases hx with hx | hx | hx
      · exact Nat.lt_of_lt_of_le (hs x hx) hsz
      · exact Nat.lt_of_lt_of_le (hl.out.lt x hx) hsz
      · exact hx.2
    · rcases h with h | h | h
      · exact .inl h
      · exact .inr (.inl (h2 x h))
      · exact .inr (.inl (h3 x h))
theorem keptI (late : Bool) (g : Nat) (e : TypeId) (pre : List Value) (D : Nat → Prop) (k : Nat) (w : World) (hI : Hid (BookI late g e pre D k w)) (hk : k ≤ 4398046511104) (o : Nat) (ho : o = pre.length) :
    Calls Try.prog 49 #[.pointer (some ⟨g, o, none⟩)] w (fun e1 w' => e1 = .returned (.bool true) ∧ w = w') := by
  obtain ⟨L, raw, was, hb, h1, h2, h3, h4, h5⟩ := hI.out.ex
  subst ho
  cases late
  · obtain ⟨es, hk2, hL⟩ := h4 rfl
    exact kept g pre.length e _ L es _ w hb (by simp) hL (by omega)
  · obtain ⟨rfl, _⟩ := h5 rfl
    exact kept g pre.length e _ _ [] (fun _ => False) w hb (by simp) (BookL.none _ _) (by simp)
end Go.Proofs.Ytlnomadhgoblkaa.Kit
-- The laws' Book: put, with what it leaves in the list.
set_option linter.unusedVariables false
set_option linter.unusedSimpArgs false
namespace Go.Proofs.Ytlnomadhgoblkaa.Kit
open Go.RowKit
theorem putI2 (late : Bool) (g : Nat) (e : TypeId) (pre : List Value) (D : Nat → Prop) (k : Nat) (lv : Value) (l : List Int) (w : World) (he : e ≠ 5) (he2 : e ≠ 29) (hI : Hid (BookI late g e pre D k w)) (hl : Hid (OwnB w lv l)) (hN : Hid (∀ x, lv.ownBlock = some x → ¬ D x)) (hk : k ≤ 4398046511104) (hn : l.length ≤ 140738025226240) (o : Nat) (ho : o = pre.length) :
    Calls Try.prog 54 #[.pointer (some ⟨g, o, none⟩), lv] w (fun e1 w' => e1 = .returned (.tuple #[]) ∧ BookI late g e pre (fun x => D x ∨ lv.ownBlock = some x ∨ (w.heap.size ≤ x ∧ x < w'.heap.size)) (k + 1) w' ∧ Chg (fun x => x = g ∨ D x ∨ lv.ownBlock = some x) w w' ∧ ∃ l', l'.length = l.length ∧ (Byt l → Byt l') ∧ RdT w' lv l') := by
  obtain ⟨L, raw, was, hb, h1, h2, h3, h4, h5⟩ := hI.out.ex
  have hs := hI.out.size
  have hng : ∀ w' : World, ¬ (D g ∨ lv.ownBlock = some g ∨ (w.heap.size ≤ g ∧ g < w'.heap.size)) := fun w' h => by
    rcases h with h | h | h
    · exact hI.out.out h
    · exact OwnV.type_ne hl.out hb he.symm h
    · have := hb.lt
      omega
  subst ho
  cases late
  · obtain ⟨es, hk2, hL⟩ := h4 rfl
    refine (putM g pre.length e _ L lv l es D w he he2 hb (by simp) (by simp) hL hl hN hs (by omega) hn).mono ?_
    rintro e1 w' ⟨L', lv', rfl, k1, k2, k3, k4⟩
    have hsz := k3.size
    have hL'lt := k2.row.lt
    refine ⟨rfl, ⟨⟨L', raw, was, by simpa using k1, fun x hx => ?_, fun x hx => .inl (h2 x hx), fun x hx => .inl (h3 x hx), fun _ => ⟨_, ?_, k2⟩, fun h => by cases h⟩, fun x hx => ?_, hng w'⟩, k3.mono (fun x hx h => ?_), List.replicate l.length (mk es.length), by simp, fun _ => ?_, ?_⟩
    · rcases k4 with k4 | k4
      · exact .inl (h1 x (k4 ▸ hx))
      · exact .inr (.inr ⟨k4 x hx, hL'lt x hx⟩)
    · simp
      omega
    · rcases hx with hx | hx | hx
      · exact Nat.lt_of_lt_of_le (hs x hx) hsz
      · exact Nat.lt_of_lt_of_le (hl.out.lt x hx) hsz
      · exact hx.2
    · rcases h with h | h | h
      · exact .inl h
      · exact .inr (.inl (h1 x h))
      · exact .inr (.inr h)
    · intro z hz
      have h1 := mk_range es.length
      have h2 := (List.mem_replicate.1 hz).2
      omega
    · have h := (k2.ent es.length (by simp)).v
      rw [List.getElem_append_right (Nat.le_refl _)] at h
      simpa using h
  · obtain ⟨rfl, ls, hk2, hr⟩ := h5 rfl
    refine (putL g pre.length e _ raw was lv l ls D w he he2 hb (by simp) (by simp) (by simp) hr hl hN hs (by omega) hn).mono ?_
    rintro e1 w' ⟨raw', was', lu, rfl, k1, k2, k3, k4, k5⟩
    have hsz := k3.size
    have hRlt := k2.rowR.lt
    have hWlt := k2.rowW.lt
    refine ⟨rfl, ⟨⟨.slice none 0 0, raw', was', by simpa using k1, fun x hx => .inl (h1 x hx), fun x hx => ?_, fun x hx => ?_, fun h => (by cases h), fun _ => ⟨rfl, _, ?_, k2⟩⟩, fun x hx => ?_, hng w'⟩, k3.mono (fun x hx h => ?_), l, rfl, id, (k2.ent ⟨lv, lu, l⟩ (by simp)).v.rdT⟩
    · rcases k4 with k4 | k4
      · exact .inl (h2 x (k4 ▸ hx))
      · exact .inr (.inr ⟨k4 x hx, hRlt x hx⟩)
    · rcases k5 with k5 | k5
      · exact .inl (h3 x (k5 ▸ hx))
      · exact .inr (.inr ⟨k5 x hx, hWlt x hx⟩)
    · simp
      omega
    · rcases hx with hx | hx | hx
      · exact Nat.lt_of_lt_of_le (hs x hx) hsz
      · exact Nat.lt_of_lt_of_le (hl.out.lt x hx) hsz
      · exact hx.2
    · rcases h with h | h | h
      · exact .inl h
      · exact .inr (.inl (h2 x h))
      · exact .inr (.inl (h3 x h))
end Go.Proofs.Ytlnomadhgoblkaa.Kit
-- The journal's law.go: what holds of a Pair; open.
set_option linter.unusedVariables false
set_option linter.unusedSimpArgs false
namespace Go.Proofs.Ytlnomadhgoblkaa.Kit
open Go.RowKit
/-- a Pair in block g: two journals of the same records, and a book -/
structure PairJ (late : Bool) (g gP gR : Nat) (DP DR DB : Nat → Prop) (ls : List SecV) (k : Nat) (w : World) : Prop where
  book : BookI late g 65 [.pointer (some ⟨gP, 0, none⟩), .pointer (some ⟨gR, 0, none⟩)] DB k w
  p : Jn w DP gP ls
  r : RJ w DR gR ls
  good : ∀ x ∈ ls, GoodRec x
  small : (jnlBytes ls).length ≤ 268435456
  pb : ∀ x, (DP x ∨ x = gP) → ¬ DB x ∧ x ≠ g
  rb : ∀ x, (DR x ∨ x = gR) → ¬ DB x ∧ x ≠ g
  pr : ∀ x, (DP x ∨ x = gP) → ¬ (DR x ∨ x = gR)
/-- all its blocks -/
def Foot (g gP gR : Nat) (DP DR DB : Nat → Prop) (x : Nat) : Prop := x = g ∨ DB x ∨ DP x ∨ x = gP ∨ DR x ∨ x = gR
theorem PairJ.chg {late : Bool} {g gP gR : Nat} {DP DR DB : Nat → Prop} {ls : List SecV} {k : Nat} {w w1 : World} {S : Nat → Prop} (h : PairJ late g gP gR DP DR DB ls k w) (c : Chg S w w1) (hS : ∀ x, S x → ¬ Foot g gP gR DP DR DB x) : PairJ late g gP gR DP DR DB ls k w1 :=
  ⟨h.book.chg c (fun x hx => ⟨fun hd => hS x hx (.inr (.inl hd)), fun e => hS x hx (.inl e)⟩), h.p.chg c (fun x hx => ⟨fun hd => hS x hx (.inr (.inr (.inl hd))), fun e => hS x hx (.inr (.inr (.inr (.inl e))))⟩),
    h.r.chg c (fun x hx => ⟨fun hd => hS x hx (.inr (.inr (.inr (.inr (.inl hd))))), fun e => hS x hx (.inr (.inr (.inr (.inr (.inr e)))))⟩), h.good, h.small, h.pb, h.rb, h.pr⟩
theorem PairJ.chg0 {late : Bool} {g gP gR : Nat} {DP DR DB : Nat → Prop} {ls : List SecV} {k : Nat} {w w1 : World} (h : PairJ late g gP gR DP DR DB ls k w) (c : Chg (fun _ => False) w w1) : PairJ late g gP gR DP DR DB ls k w1 := h.chg c (fun _ h => h.elim)
theorem PairJ.lt {late : Bool} {g gP gR : Nat} {DP DR DB : Nat → Prop} {ls : List SecV} {k : Nat} {w : World} (h : PairJ late g gP gR DP DR DB ls k w) : ∀ x, Foot g gP gR DP DR DB x → x < w.heap.size := fun x hx => by
  rcases hx with rfl | hx | hx | rfl | hx | rfl
  · exact h.book.lt
  · exact h.book.size x hx
  · exact h.p.size x hx
  · exact h.p.lt
  · exact h.r.size x hx
  · exact h.r.lt
/-- put, on the book of a pair -/
theorem PairJ.put {late : Bool} {g gP gR : Nat} {DP DR DB : Nat → Prop} {ls : List SecV} {k : Nat} {w w' : World} {lv : Value} (h : PairJ late g gP gR DP DR DB ls k w)
    (b : BookI late g 65 [.pointer (some ⟨gP, 0, none⟩), .pointer (some ⟨gR, 0, none⟩)] (fun x => DB x ∨ lv.ownBlock = some x ∨ (w.heap.size ≤ x ∧ x < w'.heap.size)) (k + 1) w')
    (c : Chg (fun x => x = g ∨ DB x ∨ lv.ownBlock = some x) w w') (hN : ∀ x, lv.ownBlock = some x → ¬ Foot g gP gR DP DR DB x) :
    PairJ late g gP gR DP DR (fun x => DB x ∨ lv.ownBlock = some x ∨ (w.heap.size ≤ x ∧ x < w'.heap.size)) ls (k + 1) w' := by
  have hP : ∀ x, (DP x ∨ x = gP) → ¬ (x = g ∨ DB x ∨ lv.ownBlock = some x) := fun x hx hs => by
    rcases hs with hs | hs | hs
    · exact (h.pb x hx).2 hs
    · exact (h.pb x hx).1 hs
    · exact hN x hs (hx.elim (fun e => .inr (.inr (.inl e))) (fun e => .inr (.inr (.inr (.inl e)))))
  have hR : ∀ x, (DR x ∨ x = gR) → ¬ (x = g ∨ DB x ∨ lv.ownBlock = some x) := fun x hx hs => by
    rcases hs with hs | hs | hs
    · exact (h.rb x hx).2 hs
    · exact (h.rb x hx).1 hs
    · exact hN x hs (hx.elim (fun e => .inr (.inr (.inr (.inr (.inl e))))) (fun e => .inr (.inr (.inr (.inr (.inr e))))))
  have hlt : ∀ x, Foot g gP gR DP DR DB x → x < w.heap.size := h.lt
  refine ⟨b, h.p.chg c (fun x hx => ⟨fun hd => hP x (.inl hd) hx, fun e => hP x (.inr e) hx⟩), h.r.chg c (fun x hx => ⟨fun hd => hR x (.inl hd) hx, fun e => hR x (.inr e) hx⟩), h.good, h.small, fun x hx => ⟨fun hd => ?_, (h.pb x hx).2⟩, fun x hx => ⟨fun hd => ?_, (h.rb x hx).2⟩, h.pr⟩
  · have h1 := hlt x (hx.elim (fun e => .inr (.inr (.inl e))) (fun e => .inr (.inr (.inr (.inl e)))))
    rcases hd with hd | hd | hd
    · exact hP x hx (.inr (.inl hd))
    · exact hP x hx (.inr (.inr hd))
    · omega
  · have h1 := hlt x (hx.elim (fun e => .inr (.inr (.inr (.inr (.inl e))))) (fun e => .inr (.inr (.inr (.inr (.inr e))))))
    rcases hd with hd | hd | hd
    · exact hR x hx (.inr (.inl hd))
    · exact hR x hx (.inr (.inr hd))
    · omega
/-- two other journals are set -/
theorem PairJ.swap {late : Bool} {g gP gR gP' gR' : Nat} {DP DR DB DP' DR' : Nat → Prop} {ls ls' : List SecV} {k : Nat} {w : World} (h : PairJ late g gP gR DP DR DB ls k w)
    (hp : Jn w DP' gP' ls') (hr : RJ w DR' gR' ls') (good : ∀ x ∈ ls', GoodRec x) (small : (jnlBytes ls').length ≤ 268435456)
    (pb : ∀ x, (DP' x ∨ x = gP') → ¬ DB x ∧ x ≠ g) (rb : ∀ x, (DR' x ∨ x = gR') → ¬ DB x ∧ x ≠ g) (pr : ∀ x, (DP' x ∨ x = gP') → ¬ (DR' x ∨ x = gR')) :
    PairJ late g gP' gR' DP' DR' DB ls' k ((w.setCell ⟨g, 0, none⟩ (.pointer (some ⟨gP', 0, none⟩))).setCell ⟨g, 1, none⟩ (.pointer (some ⟨gR', 0, none⟩))) := by
  have c : Chg (fun x => x = g) w ((w.setCell ⟨g, 0, none⟩ (.pointer (some ⟨gP', 0, none⟩))).setCell ⟨g, 1, none⟩ (.pointer (some ⟨gR', 0, none⟩))) := ((Chg.refl (fun x => x = g) w).setCell (p := ⟨g, 0, none⟩) (fun _ => rfl) _).setCell (p := ⟨g, 1, none⟩) (fun _ => rfl) _
  obtain ⟨L, raw, was, hb, h1, h2, h3, h4, h5⟩ := h.book.ex
  have hB : ∀ x, DB x → ¬ x = g := fun x hx e => h.book.out (e ▸ hx)
  refine ⟨⟨⟨L, raw, was, by simpa using (hb.set 0 _).set 1 _, h1, h2, h3, fun hl => ?_, fun hl => ?_⟩, fun x hx => Nat.lt_of_lt_of_le (h.book.size x hx) c.size, h.book.out⟩, hp.chg c (fun x hx => ⟨fun hd => (pb x (.inl hd)).2 hx, fun e => (pb x (.inr e)).2 hx⟩), hr.chg c (fun x hx => ⟨fun hd => (rb x (.inl hd)).2 hx, fun e => (rb x (.inr e)).2 hx⟩), good, small, pb, rb, pr⟩
  · obtain ⟨es, hk, hL⟩ := h4 hl
    exact ⟨es, hk, hL.chg c (fun x hx => hB x (h1 x hx)) (fun x hx => hB x hx)⟩
  · obtain ⟨hL, ls, hk, hr⟩ := h5 hl
    exact ⟨hL, ls, hk, hr.chg c (fun x hx => hB x (h2 x hx)) (fun x hx => hB x (h3 x hx)) (fun x hx => hB x hx)⟩
/-- the cells of the pair -/
theorem PairJ.cells {late : Bool} {g gP gR : Nat} {DP DR DB : Nat → Prop} {ls : List SecV} {k : Nat} {w : World} (h : PairJ late g gP gR DP DR DB ls k w) : w.cell? ⟨g, 0, none⟩ = some (.pointer (some ⟨gP, 0, none⟩)) ∧ w.cell? ⟨g, 1, none⟩ = some (.pointer (some ⟨gR, 0, none⟩)) ∧ w.frozen? ⟨g, 0, none⟩ = false ∧
    (∀ v, (w.setCell ⟨g, 0, none⟩ v).cell? ⟨g, 1, none⟩ = some (.pointer (some ⟨gR, 0, none⟩)) ∧ (w.setCell ⟨g, 0, none⟩ v).frozen? ⟨g, 1, none⟩ = false) := by
  obtain ⟨L, raw, was, hb, _⟩ := h.book.ex
  exact ⟨hb.at_ (i := 0) rfl, hb.at_ (i := 1) rfl, hb.frozen (i := 0) (by simp), fun v => ⟨(hb.set 0 v).at_ (i := 1) rfl, (hb.set 0 v).frozen (i := 1) (by simp)⟩⟩
theorem byt_hand {ot : List Int} (h : Byt ot) : Byt (ot ++ marks) := fun x hx => by
  rcases List.mem_append.1 hx with hx | hx
  · exact h x hx
  · simp only [marks, List.mem_map, List.mem_range] at hx
    obtain ⟨i, hi, rfl⟩ := hx
    omega
/-- what is opened is good, and small -/
theorem open_good {l : List Int} {ls : List SecV} {m : Nat} {er : Int} (hb : Byt l) (h : jopenRes l = (some ls, m, er)) : (∀ x ∈ ls, GoodRec x) ∧ (jnlBytes ls).length ≤ 268435456 ∧ er = 0 := by
  unfold jopenRes at h
  by_cases h1 : 268435456 < l.length
  · rw [if_pos h1] at h
    cases h
  · rw [if_neg h1] at h
    by_cases h2 : l.take 8 ≠ jhead.take l.length
    · rw [if_pos h2] at h
      cases h
    · rw [if_neg h2] at h
      by_cases h3 : l.length < 8
      · rw [if_pos h3] at h
        simp only [Prod.mk.injEq, Option.some.injEq] at h
        obtain ⟨rfl, _, rfl⟩ := h
        exact ⟨fun x hx => absurd hx (by simp), by decide, rfl⟩
      · rw [if_neg h3] at h
        simp only [Prod.mk.injEq, Option.some.injEq] at h
        obtain ⟨rfl, _, rfl⟩ := h
        obtain ⟨suf, s1, s2, s3, s4, s5⟩ := jnlRd_form hb l.length 8 [] (by omega)
        rw [s1, List.nil_append]
        refine ⟨s2, ?_, rfl⟩
        rw [jnlBytes, List.length_append, jhead_length]
        rw [List.length_nil] at s4
        omega
theorem open_er {l : List Int} {m : Nat} {er : Int} (h : jopenRes l = (none, m, er)) : er = 6 ∨ er = 43 := by
  unfold jopenRes at h
  split at h
  · simp only [Prod.mk.injEq] at h
    exact .inl h.2.2.symm
  · split at h
    · simp only [Prod.mk.injEq] at h
      exact .inr h.2.2.symm
    · split at h <;> cases h
/-- Open, what it answers besides the journal -/
theorem jopenW {A : Option Addr} {n c : Nat} {l : List Int} {o : Option (List SecV)} {m : Nat} {er : Int} {w : World} (hR : Hid (jopenRes l = (o, m, er))) (HN : Hid (n = l.length)) (hnc : n ≤ c) (hcm : c ≤ maxLen) (hb : Hid (Byt l)) (hr : Hid (Rd w .u8 A l)) :
    Calls Try.prog 25 #[.slice A n c] w fun e w' => ∃ vx, e = .returned (.tuple #[vx, .int .i64 m, .int .i64 er]) ∧ Chg (fun _ => False) w w' := by
  refine (jopen HN hnc hcm hb hr).mono ?_
  rw [hR.out]
  rcases o with _ | ls
  · rintro e w' ⟨rfl, h⟩
    exact ⟨_, rfl, h⟩
  · rintro e w' ⟨g, D, rfl, _, _, _, h⟩
    exact ⟨_, rfl, h⟩
theorem ropenW {A : Option Addr} {n c : Nat} {l : List Int} {o : Option (List SecV)} {m : Nat} {er : Int} {w : World} (hR : Hid (jopenRes l = (o, m, er))) (HN : Hid (n = l.length)) (hnc : n ≤ c) (hcm : c ≤ maxLen) (hb : Hid (Byt l)) (hr : Hid (Rd w .u8 A l)) :
    Calls Try.prog 52 #[.slice A n c] w fun e w' => ∃ vx, e = .returned (.tuple #[vx, .int .i64 m, .int .i64 er]) ∧ Chg (fun _ => False) w w' := by
  refine (ropen hR HN hnc hcm hb hr).mono ?_
  rcases o with _ | ls
  · rintro e w' ⟨rfl, h⟩
    exact ⟨_, rfl, h⟩
  · rintro e w' ⟨g, D, rfl, _, _, _, h⟩
    exact ⟨_, rfl, h⟩
/-- what a call on a Pair leaves -/
def PairR (late : Bool) (g : Nat) (F : Nat → Prop) (k : Nat) (w : World) (e : Ending) (w' : World) : Prop :=
  e = .returned (.bool true) ∧ (∃ gP gR DP DR DB ls, PairJ late g gP gR DP DR DB ls k w' ∧ ∀ x, Foot g gP gR DP DR DB x → F x ∨ w.heap.size ≤ x) ∧ Chg F w w'
set_option maxRecDepth 20000 in
set_option maxHeartbeats 6400000 in
theorem popen {late : Bool} {g gP gR : Nat} {DP DR DB : Nat → Prop} {ls : List SecV} {k : Nat} {B : Option Addr} {no cb : Nat} {ot : List Int} {w : World} (hp : Hid (PairJ late g gP gR DP DR DB ls k w)) (hk : k ≤ 4398046511104) (HNO : Hid (no = ot.length)) (hno : no ≤ 140738025226150) (hcb : no ≤ cb) (hcm : cb ≤ maxLen) (hbb : Hid (Byt ot)) (hrb : Hid (Rd w .u8 B ot)) :
    Calls Try.prog 31 #[.pointer (some ⟨g, 0, none⟩), .slice B no cb] w (PairR late g (Foot g gP gR DP DR DB) (k + 1) w) := by
  obtain ⟨o, mm, er, hR⟩ : ∃ o m e, jopenRes ot = (o, m, e) := ⟨_, _, _, rfl⟩
  have HR := Lib.hid hR
  clear hR
  go_enter Try.func31, Try.ntmps31
  go_wp2_with fail
  refine (show Calls Try.prog 51 #[.slice B no cb] _ _ from by
    rw [HNO.out]
    exact handW B cb ot _ (by rw [← HNO.out]; omega) hrb).mono ?_
  rintro e w1 ⟨gi, rfl, i1, i2, i3⟩
  have hmx : Hid (no + 90 ≤ maxLen) := Nat.le_trans (show no + 90 ≤ 140738025226240 by omega) (by decide)
  have HT : Hid ((ot ++ marks).take no = ot) := by rw [Hid, HNO.out, List.take_left]
  have HML : Hid ((ot ++ marks).length = no + 90) := by rw [Hid, List.length_append, marks_length, HNO.out]
  rw [← HNO.out] at i1 ⊢
  have I1 := Lib.hid i1
  have I2 := Lib.hid i2
  have C1 := Lib.hid i3
  have R1 : Hid (Rd w1 .u8 (some ⟨gi, 0, none⟩) ot) := by
    have h := (i1.rd (by rw [← HML.out])).take no
    rw [HT.out] at h
    exact h
  have R1m : Hid (Rd w1 .u8 (some ⟨gi, 0, none⟩) (ot ++ marks)) := i1.rd (by rw [← HML.out])
  have RB1 : Hid (Rd w1 .u8 B ot) := hrb.out.below i3.done
  clear i1 i2 i3
  rcases o with _ | ls'
  · go_wp2_with fail
    refine (jopen HNO (show no ≤ no + 90 by omega) hmx.out hbb R1).mono ?_
    rw [HR.out]
    rintro e w2 ⟨rfl, c2⟩
    have C12 := Lib.hid c2
    have RB2 : Hid (Rd w2 .u8 B ot) := RB1.out.below c2.done
    clear c2
    go_wp2_with fail
    refine (ropen HR HNO hcb hcm hbb RB2).mono ?_
    rintro e w3 ⟨rfl, c3⟩
    have C13 : Hid (Chg (fun _ => False) w1 w3) := C12.out.trans c3 (fun _ _ h => h)
    have C03 : Hid (Chg (fun _ => False) w w3) := C1.out.trans C13.out (fun _ _ h => h)
    have RB3 : Hid (Rd w3 .u8 B ot) := RB1.out.below C13.out.done
    have R3m : Hid (Rd w3 .u8 (some ⟨gi, 0, none⟩) (ot ++ marks)) := R1m.out.below C13.out.done
    clear c3
    go_wp2_with fail
    refine (untouchedW (some ⟨gi, 0, none⟩) B (no + 90) cb (no + 90) no (ot ++ marks) ot _ HML.out.symm HNO.out (Nat.le_refl _) (by rw [HML.out, HNO.out]) (by rw [← HNO.out]; omega) R3m RB3).mono ?_
    rw [decide_eq_true (show ot ++ marks = ot ++ marks from rfl)]
    rintro e w4 ⟨rfl, nq, rfl⟩
    have hp4 : Hid (PairJ late g gP gR DP DR DB ls k (w3.drewN nq)) := hp.out.chg0 (C03.out.drewN nq)
    have O4 : Hid (OwnB (w3.drewN nq) (.slice (some ⟨gi, 0, none⟩) (no + 90) (no + 90)) (ot ++ marks)) := (I1.out.chg C13.out (fun _ _ h => h)).drewN nq
    have hgN : Hid (∀ x, Value.ownBlock (.slice (some ⟨gi, 0, none⟩) (no + 90) (no + 90)) = some x → ¬ Foot g gP gR DP DR DB x) := fun x hx hd => by
      have h1 := blk_ge I2.out x hx
      have h2 := hp.out.lt x hd
      omega
    have hgD : Hid (∀ x, Value.ownBlock (.slice (some ⟨gi, 0, none⟩) (no + 90) (no + 90)) = some x → ¬ DB x) := fun x hx hd => hgN.out x hx (.inr (.inl hd))
    have hgi : Hid (gi < w1.heap.size) := I1.out.lt gi rfl
    go_wp2_with fail
    refine (putI2 late g 65 _ DB k _ _ _ (by decide) (by decide) hp4.out.book O4 hgD hk (by rw [HML.out]; omega) 2 rfl).mono ?_
    rintro e w5 ⟨rfl, b5, c5, l5, e5, y5, r5⟩
    have P5 := Lib.hid (hp4.out.put b5 c5 hgN.out)
    obtain ⟨DB5, hDB⟩ : ∃ E : Nat → Prop, E = fun x => DB x ∨ Value.ownBlock (.slice (some ⟨gi, 0, none⟩) (no + 90) (no + 90)) = some x ∨ ((w3.drewN nq).heap.size ≤ x ∧ x < w5.heap.size) := ⟨_, rfl⟩
    rw [← hDB] at P5
    have hsz : w.heap.size ≤ w3.heap.size := C03.out.size
    have HDB : Hid (∀ x, DB5 x → DB x ∨ x = gi ∨ w3.heap.size ≤ x) := by
      rw [hDB]
      intro x hx
      rcases hx with hx | hx | hx
      · exact .inl hx
      · exact .inr (.inl (by simpa [Value.ownBlock] using hx.symm))
      · exact .inr (.inr hx.1)
    obtain ⟨m5, hm5⟩ : ∃ m5, m5 = l5.take no := ⟨_, rfl⟩
    have HM5 : Hid (no = m5.length) := by rw [Hid, hm5, List.length_take, e5, HML.out]; omega
    have hbm : Hid (Byt m5) := by rw [hm5]; exact byt_take (y5 (byt_hand hbb.out)) no
    have HRW : Hid (∀ W, Chg (fun x => x = g) w5 W → Rd W .u8 (some ⟨gi, 0, none⟩) m5) := fun W cW => by
      obtain ⟨A5, c55, hv, _, _, hr5⟩ := (r5.chg cW (fun x hx e => by
        have h1 := blk_ge I2.out x hx
        have h2 := hp.out.book.lt
        omega)).reads
      simp only [Value.slice.injEq] at hv
      rw [← hv.1] at hr5
      rw [hm5]
      exact hr5.take no
    have R5 : Hid (Rd w5 .u8 (some ⟨gi, 0, none⟩) m5) := HRW.out w5 (Chg.refl _ _)
    have C05 : Hid (Chg (Foot g gP gR DP DR DB) w w5) := ((C03.out.drewN nq).mono (fun _ _ h => h.elim)).trans c5 (fun x hx h => by
      rcases h with h | h | h
      · exact .inl h
      · exact .inr (.inl h)
      · have := blk_ge I2.out x h
        omega)
    have C35 : Hid (Chg (fun x => x = g ∨ DB x ∨ x = gi) w3 w5) := ((Chg.refl _ w3).drewN nq).trans c5 (fun x hx h => by
      rcases h with h | h | h
      · exact .inl h
      · exact .inr (.inl h)
      · exact .inr (.inr (by simpa [Value.ownBlock] using h.symm)))
    clear b5 c5 r5 y5 e5 hm5 hDB
    obtain ⟨o2, m2, e2, hR2⟩ : ∃ o m e, jopenRes m5 = (o, m, e) := ⟨_, _, _, rfl⟩
    have HR2 := Lib.hid hR2
    clear hR2
    have P6 := P5
    have R6 := R5
    have C06 := C05
    obtain ⟨w6, hw6⟩ : ∃ w6, w6 = w5 := ⟨_, rfl⟩
    go_upto_region 11 with fail
    rw [← hw6]
    rw [← hw6] at P6 R6 C06
    clear hw6
    have hr1 : Hid (Rd (w6.alloc (.cells #[] 5)) .u8 (some ⟨gi, 0, none⟩) m5) := R6.out.below ((Chg.refl (fun _ => False) w6).alloc _).done
    go_upto_region 12 with (at_builtin; go_must (refine wp_appnW rfl _ _ 29 5 .u8 1 rfl Try.underlying29 infoU8 (by decide) (.slice (some ⟨w6.heap.size, 0, none⟩) 0 0) [] rfl (Own.lit w6 5 .u8 [] (by simp)) (some ⟨gi, 0, none⟩) (no + 90) m5 no rfl HM5.out hr1.out (by rw [← HM5.out]; simp; omega) ?_); intro v' w7 k1 k2 k3 k4; rw [List.nil_append] at k1; obtain ⟨A1, c1, hv, hc1, hm1⟩ := k1.slice; rw [← HM5.out] at hv hc1; subst hv; have K1 := Lib.hid k1; have K3 := Lib.hid k3; have K4 := Lib.hid k4; clear k1 k2 k3 k4)
    have C67 : Hid (Chg (fun _ => False) w6 w7) := ((Chg.refl _ w6).alloc _).fresh K3.out (blk_ge (Nat.le_refl _))
    have R7 : Hid (Rd w7 .u8 (some ⟨gi, 0, none⟩) m5) := R6.out.below C67.out.done
    have RN7 : Hid (Rd w7 .u8 A1 m5) := K1.out.rd (by rw [← HM5.out])
    go_wp2_with fail
    refine (jopenW HR2 HM5 (show no ≤ no + 90 by omega) hmx.out hbm R7).mono ?_
    rintro e w8 ⟨vx, rfl, c8⟩
    have C68 : Hid (Chg (fun _ => False) w6 w8) := C67.out.trans c8 (fun _ _ h => h)
    have RN8 : Hid (Rd w8 .u8 A1 m5) := RN7.out.below c8.done
    clear c8
    go_wp2_with fail
    refine (ropenW HR2 HM5 hc1 hm1 hbm RN8).mono ?_
    rintro e w9 ⟨vy, rfl, c9⟩
    have C69 : Hid (Chg (fun _ => False) w6 w9) := C68.out.trans c9 (fun _ _ h => h)
    clear c9
    go_wp2_with fail
    go_ret
    refine ⟨rfl, ⟨_, _, _, _, _, _, P6.out.chg0 C69.out, fun x hx => ?_⟩, C06.out.trans C69.out (fun _ _ h => h.elim)⟩
    have h3 := I2.out
    rcases hx with hx | hx | hx
    · exact .inl (.inl hx)
    · rcases HDB.out x hx with h | h | h
      · exact .inl (.inr (.inl h))
      · exact .inr (by omega)
      · exact .inr (by omega)
    · exact .inl (.inr (.inr hx))
  · go_wp2_with fail
    refine (jopen HNO (show no ≤ no + 90 by omega) hmx.out hbb R1).mono ?_
    rw [HR.out]
    rintro e w2 ⟨gp2, DP2, rfl, j2, n2, n2', c2⟩
    have J2 := Lib.hid j2
    have C12 := Lib.hid c2
    have NP2 : Hid ((∀ y, DP2 y → w1.heap.size ≤ y) ∧ w1.heap.size ≤ gp2) := ⟨n2, n2'⟩
    have RB2 : Hid (Rd w2 .u8 B ot) := RB1.out.below c2.done
    clear j2 n2 n2' c2
    go_wp2_with fail
    refine (ropen HR HNO hcb hcm hbb RB2).mono ?_
    rintro e w3 ⟨gr3, DR3, rfl, j3, n3, n3', c3⟩
    have J3 := Lib.hid j3
    have C23 := Lib.hid c3
    have NR3 : Hid ((∀ y, DR3 y → w2.heap.size ≤ y) ∧ w2.heap.size ≤ gr3) := ⟨n3, n3'⟩
    have C13 : Hid (Chg (fun _ => False) w1 w3) := C12.out.trans c3 (fun _ _ h => h)
    have C03 : Hid (Chg (fun _ => False) w w3) := C1.out.trans C13.out (fun _ _ h => h)
    have RB3 : Hid (Rd w3 .u8 B ot) := RB1.out.below C13.out.done
    have R3m : Hid (Rd w3 .u8 (some ⟨gi, 0, none⟩) (ot ++ marks)) := R1m.out.below C13.out.done
    clear j3 n3 n3' c3
    go_wp2_with fail
    refine (untouchedW (some ⟨gi, 0, none⟩) B (no + 90) cb (no + 90) no (ot ++ marks) ot _ HML.out.symm HNO.out (Nat.le_refl _) (by rw [HML.out, HNO.out]) (by rw [← HNO.out]; omega) R3m RB3).mono ?_
    rw [decide_eq_true (show ot ++ marks = ot ++ marks from rfl)]
    rintro e w4 ⟨rfl, nq, rfl⟩
    have hp4 : Hid (PairJ late g gP gR DP DR DB ls k (w3.drewN nq)) := hp.out.chg0 (C03.out.drewN nq)
    have O4 : Hid (OwnB (w3.drewN nq) (.slice (some ⟨gi, 0, none⟩) (no + 90) (no + 90)) (ot ++ marks)) := (I1.out.chg C13.out (fun _ _ h => h)).drewN nq
    have hgN : Hid (∀ x, Value.ownBlock (.slice (some ⟨gi, 0, none⟩) (no + 90) (no + 90)) = some x → ¬ Foot g gP gR DP DR DB x) := fun x hx hd => by
      have h1 := blk_ge I2.out x hx
      have h2 := hp.out.lt x hd
      omega
    have hgD : Hid (∀ x, Value.ownBlock (.slice (some ⟨gi, 0, none⟩) (no + 90) (no + 90)) = some x → ¬ DB x) := fun x hx hd => hgN.out x hx (.inr (.inl hd))
    have hgi : Hid (gi < w1.heap.size) := I1.out.lt gi rfl
    go_wp2_with fail
    refine (putI2 late g 65 _ DB k _ _ _ (by decide) (by decide) hp4.out.book O4 hgD hk (by rw [HML.out]; omega) 2 rfl).mono ?_
    rintro e w5 ⟨rfl, b5, c5, l5, e5, y5, r5⟩
    have P5 := Lib.hid (hp4.out.put b5 c5 hgN.out)
    obtain ⟨DB5, hDB⟩ : ∃ E : Nat → Prop, E = fun x => DB x ∨ Value.ownBlock (.slice (some ⟨gi, 0, none⟩) (no + 90) (no + 90)) = some x ∨ ((w3.drewN nq).heap.size ≤ x ∧ x < w5.heap.size) := ⟨_, rfl⟩
    rw [← hDB] at P5
    have hsz : w.heap.size ≤ w3.heap.size := C03.out.size
    have HDB : Hid (∀ x, DB5 x → DB x ∨ x = gi ∨ w3.heap.size ≤ x) := by
      rw [hDB]
      intro x hx
      rcases hx with hx | hx | hx
      · exact .inl hx
      · exact .inr (.inl (by simpa [Value.ownBlock] using hx.symm))
      · exact .inr (.inr hx.1)
    obtain ⟨m5, hm5⟩ : ∃ m5, m5 = l5.take no := ⟨_, rfl⟩
    have HM5 : Hid (no = m5.length) := by rw [Hid, hm5, List.length_take, e5, HML.out]; omega
    have hbm : Hid (Byt m5) := by rw [hm5]; exact byt_take (y5 (byt_hand hbb.out)) no
    have HRW : Hid (∀ W, Chg (fun x => x = g) w5 W → Rd W .u8 (some ⟨gi, 0, none⟩) m5) := fun W cW => by
      obtain ⟨A5, c55, hv, _, _, hr5⟩ := (r5.chg cW (fun x hx e => by
        have h1 := blk_ge I2.out x hx
        have h2 := hp.out.book.lt
        omega)).reads
      simp only [Value.slice.injEq] at hv
      rw [← hv.1] at hr5
      rw [hm5]
      exact hr5.take no
    have R5 : Hid (Rd w5 .u8 (some ⟨gi, 0, none⟩) m5) := HRW.out w5 (Chg.refl _ _)
    have C05 : Hid (Chg (Foot g gP gR DP DR DB) w w5) := ((C03.out.drewN nq).mono (fun _ _ h => h.elim)).trans c5 (fun x hx h => by
      rcases h with h | h | h
      · exact .inl h
      · exact .inr (.inl h)
      · have := blk_ge I2.out x h
        omega)
    have C35 : Hid (Chg (fun x => x = g ∨ DB x ∨ x = gi) w3 w5) := ((Chg.refl _ w3).drewN nq).trans c5 (fun x hx h => by
      rcases h with h | h | h
      · exact .inl h
      · exact .inr (.inl h)
      · exact .inr (.inr (by simpa [Value.ownBlock] using h.symm)))
    clear b5 c5 r5 y5 e5 hm5 hDB
    obtain ⟨o2, m2, e2, hR2⟩ : ∃ o m e, jopenRes m5 = (o, m, e) := ⟨_, _, _, rfl⟩
    have HR2 := Lib.hid hR2
    clear hR2
    obtain ⟨p0, p1, f0, f1⟩ := P5.out.cells
    obtain ⟨f1, f2⟩ := f1 (.pointer (some ⟨gp2, 0, none⟩))
    have B12 : Hid (w.heap.size ≤ w1.heap.size ∧ w1.heap.size ≤ w2.heap.size ∧ w2.heap.size ≤ w3.heap.size) := ⟨C1.out.size, C12.out.size, C23.out.size⟩
    have hS : Hid (∀ x, (x = g ∨ DB x ∨ x = gi) → x < w1.heap.size) := fun x hx => by
      have := B12.out
      rcases hx with hx | hx | hx
      · have := hp.out.book.lt
        omega
      · have := hp.out.book.size x hx
        omega
      · have := hgi.out
        omega
    have hgP2 : Hid (∀ x, (DP2 x ∨ x = gp2) → w1.heap.size ≤ x ∧ x < w2.heap.size) := fun x hx => by
      rcases hx with hx | rfl
      · exact ⟨NP2.out.1 x hx, J2.out.size x hx⟩
      · exact ⟨NP2.out.2, J2.out.lt⟩
    have hgR3 : Hid (∀ x, (DR3 x ∨ x = gr3) → w2.heap.size ≤ x ∧ x < w3.heap.size) := fun x hx => by
      rcases hx with hx | rfl
      · exact ⟨NR3.out.1 x hx, J3.out.size x hx⟩
      · exact ⟨NR3.out.2, J3.out.lt⟩
    have J25 : Hid (Jn w5 DP2 gp2 ls') := (J2.out.chg0 C23.out).chg C35.out (fun x hx => by
      have h1 := hS.out x hx
      exact ⟨fun hd => by have := hgP2.out x (.inl hd); omega, fun e => by have := hgP2.out x (.inr e); omega⟩)
    have J35 : Hid (RJ w5 DR3 gr3 ls') := J3.out.chg C35.out (fun x hx => by
      have h1 := hS.out x hx
      have h2 := B12.out
      exact ⟨fun hd => by have := hgR3.out x (.inl hd); omega, fun e => by have := hgR3.out x (.inr e); omega⟩)
    have hng : Hid (∀ x, w1.heap.size ≤ x → x < w3.heap.size → ¬ DB5 x ∧ x ≠ g) := fun x h1 h2 => ⟨fun hd => by
      rcases HDB.out x hd with h | h | h
      · have := hS.out x (.inr (.inl h))
        omega
      · have := hS.out x (.inr (.inr h))
        omega
      · omega, fun e => by
        have := hS.out x (.inl e)
        omega⟩
    have P6 := Lib.hid (P5.out.swap J25.out J35.out (open_good hbb.out HR.out).1 (open_good hbb.out HR.out).2.1 (fun x hx => hng.out x (hgP2.out x hx).1 (by have := (hgP2.out x hx).2; have := B12.out; omega)) (fun x hx => hng.out x (by have := (hgR3.out x hx).1; have := B12.out; omega) (hgR3.out x hx).2) (fun x hx hd => by have := hgP2.out x hx; have := hgR3.out x hd; omega))
    have R6 : Hid (Rd ((w5.setCell ⟨g, 0, none⟩ (.pointer (some ⟨gp2, 0, none⟩))).setCell ⟨g, 1, none⟩ (.pointer (some ⟨gr3, 0, none⟩))) .u8 (some ⟨gi, 0, none⟩) m5) := HRW.out _ (((Chg.refl (fun x => x = g) w5).setCell (p := ⟨g, 0, none⟩) (fun _ => rfl) _).setCell (p := ⟨g, 1, none⟩) (fun _ => rfl) _)
    have C06 : Hid (Chg (Foot g gP gR DP DR DB) w ((w5.setCell ⟨g, 0, none⟩ (.pointer (some ⟨gp2, 0, none⟩))).setCell ⟨g, 1, none⟩ (.pointer (some ⟨gr3, 0, none⟩)))) := C05.out.trans (((Chg.refl (fun x => x = g) w5).setCell (p := ⟨g, 0, none⟩) (fun _ => rfl) _).setCell (p := ⟨g, 1, none⟩) (fun _ => rfl) _) (fun _ _ h => .inl h)
    go_upto_region 11 with fail
    obtain ⟨w6, hw6⟩ : ∃ w6, w6 = ((w5.setCell ⟨g, 0, none⟩ (.pointer (some ⟨gp2, 0, none⟩))).setCell ⟨g, 1, none⟩ (.pointer (some ⟨gr3, 0, none⟩))) := ⟨_, rfl⟩
    rw [← hw6]
    rw [← hw6] at P6 R6 C06
    clear hw6 p0 p1 f0 f1 f2
    have hr1 : Hid (Rd (w6.alloc (.cells #[] 5)) .u8 (some ⟨gi, 0, none⟩) m5) := R6.out.below ((Chg.refl (fun _ => False) w6).alloc _).done
    go_upto_region 12 with (at_builtin; go_must (refine wp_appnW rfl _ _ 29 5 .u8 1 rfl Try.underlying29 infoU8 (by decide) (.slice (some ⟨w6.heap.size, 0, none⟩) 0 0) [] rfl (Own.lit w6 5 .u8 [] (by simp)) (some ⟨gi, 0, none⟩) (no + 90) m5 no rfl HM5.out hr1.out (by rw [← HM5.out]; simp; omega) ?_); intro v' w7 k1 k2 k3 k4; rw [List.nil_append] at k1; obtain ⟨A1, c1, hv, hc1, hm1⟩ := k1.slice; rw [← HM5.out] at hv hc1; subst hv; have K1 := Lib.hid k1; have K3 := Lib.hid k3; have K4 := Lib.hid k4; clear k1 k2 k3 k4)
    have C67 : Hid (Chg (fun _ => False) w6 w7) := ((Chg.refl _ w6).alloc _).fresh K3.out (blk_ge (Nat.le_refl _))
    have R7 : Hid (Rd w7 .u8 (some ⟨gi, 0, none⟩) m5) := R6.out.below C67.out.done
    have RN7 : Hid (Rd w7 .u8 A1 m5) := K1.out.rd (by rw [← HM5.out])
    go_wp2_with fail
    refine (jopenW HR2 HM5 (show no ≤ no + 90 by omega) hmx.out hbm R7).mono ?_
    rintro e w8 ⟨vx, rfl, c8⟩
    have C68 : Hid (Chg (fun _ => False) w6 w8) := C67.out.trans c8 (fun _ _ h => h)
    have RN8 : Hid (Rd w8 .u8 A1 m5) := RN7.out.below c8.done
    clear c8
    go_wp2_with fail
    refine (ropenW HR2 HM5 hc1 hm1 hbm RN8).mono ?_
    rintro e w9 ⟨vy, rfl, c9⟩
    have C69 : Hid (Chg (fun _ => False) w6 w9) := C68.out.trans c9 (fun _ _ h => h)
    clear c9
    go_wp2_with fail
    go_ret
    refine ⟨rfl, ⟨_, _, _, _, _, _, P6.out.chg0 C69.out, fun x hx => ?_⟩, C06.out.trans C69.out (fun _ _ h => h.elim)⟩
    have h3 := I2.out
    have h4 := B12.out
    rcases hx with hx | hx | hx | hx | hx | hx
    · exact .inl (.inl hx)
    · rcases HDB.out x hx with h | h | h
      · exact .inl (.inr (.inl h))
      · exact .inr (by omega)
      · exact .inr (by omega)
    · exact .inr (by have := hgP2.out x (.inl hx); omega)
    · exact .inr (by have := hgP2.out x (.inr hx); omega)
    · exact .inr (by have := hgR3.out x (.inl hx); omega)
    · exact .inr (by have := hgR3.out x (.inr hx); omega)
end Go.Proofs.Ytlnomadhgoblkaa.Kit
