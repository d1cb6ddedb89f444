/- Texts that the row leans on: KitW, CrcR, Jra, Jrb. -/
import Derived.Test.YtlnomadhgoblkaaQJournalPairab
import Derived.Deep.DeepAppendWide
import Derived.Test.YtlnomadhgoblkaaProg
import Derived.Test.YtlnomadhgoblkaaQJournalPairac
import Derived.Lib.Hide
import Derived.Test.YtlnomadhgoblkaaQJournalPairai
import Derived.Test.YtlnomadhgoblkaaQJournalPairad
-- append onto a row of one's own, with the widest bound.
set_option linter.unusedVariables false
set_option linter.unusedSimpArgs false
set_option linter.unnecessarySimpa false
namespace Go.Proofs.Ytlnomadhgoblkaa.Kit
open Go.RowKit
section
variable {P : Program} (w : World)
/-- append onto a row of one's own, from a slice that is read (nil let in). -/
theorem run_appW (t ty e : TypeId) (z : Value) (sz bytes : Nat) (ht : P.underlying t = some (.slice e)) (hinfo : (P.info? e).map (fun i => (i.zero, i.size, i.bytes)) = some (some z, sz, bytes))
    (hzs : z.cells.size = sz) (hsz : 0 < sz) (hby : 0 < bytes)
    (v : Value) (n : Nat) (cs : List Value) (hown : OwnV w e sz v n cs)
    (A : Option Addr) (m c : Nat) (news : List Value) (hl : news.length = m * sz) (hnews : ∀ j u, news[j]? = some u → ∃ ad, A = some ad ∧ w.cell? (ad.add j) = some u) (h1 : ∀ u ∈ news, u.oneCell' = true)
    (hbytes : ((n + m) + (n + m) / 4 + 192) * bytes ≤ 281474976710656) :
    ∃ v' w', (Builtin.append_ #[t, t] ty #[v, .slice A m c]).run P w = .ok v' w' ∧ OwnV w' e sz v' (n + m) (cs ++ news) ∧ OwnV w' e sz v n cs ∧ Chg (fun k => v.ownBlock = some k) w w' ∧
      (v'.ownBlock = v.ownBlock ∨ v'.ownBlock = some w.heap.size) := by
  obtain ⟨i, hi, hzz⟩ := Option.map_eq_some_iff.1 hinfo
  simp only [Prod.mk.injEq] at hzz
  obtain ⟨hz, rfl, rfl⟩ := hzz
  have hnm : n + m ≤ 281474976710656 := Nat.le_trans (Nat.le_trans (by omega : n + m ≤ (n + m) + (n + m) / 4 + 192) (Nat.le_mul_of_pos_right _ hby)) hbytes
  have hlen : (cs ++ news).length = (n + m) * i.size := by rw [List.length_append, hown.1, hl, Nat.add_mul]
  rcases A with _ | a
  · have h0 : m = 0 := by
      rcases Nat.eq_zero_or_pos m with h0 | h0
      · exact h0
      · have hp : 0 < news.length := by rw [hl]; exact Nat.mul_pos h0 hsz
        obtain ⟨ad, h, _⟩ := hnews 0 news[0] (by rw [List.getElem?_eq_getElem hp])
        cases h
    subst h0
    obtain rfl : news = [] := List.eq_nil_of_length_eq_zero (by simpa using hl)
    refine ⟨v, w, ?_, by simpa using hown, hown, Chg.refl _ _, .inl rfl⟩
    rcases hown.2 with ⟨rfl, hn⟩ | ⟨g, cap, cur, rfl, _, hnc, _⟩
    · simp [Builtin.append_, run_underlying ht, sizeOf, typeInfo, hi, Builtin.lenOf, Builtin.firstCells]
    · simp [Builtin.append_, run_underlying ht, sizeOf, typeInfo, hi, Builtin.lenOf, Builtin.firstCells, hnc, storeCells]
  · have hcells : ∀ j u, news[j]? = some u → w.cell? (a.add j) = some u := by
      intro j u hu
      obtain ⟨ad, h, hc⟩ := hnews j u hu
      injection h with h
      subst h
      exact hc
    have grown : ∀ (old : Nat), old < n + m →
        OwnV (w.drew.alloc (.cells (cs.toArray ++ news.toArray ++ Builtin.zeroCells z.cells (grownCap w (n + m) old e - (n + m))) e)) e i.size
          (.slice (some ⟨w.heap.size, 0, none⟩) (n + m) (grownCap w (n + m) old e)) (n + m) (cs ++ news) ∧
        OwnV (w.drew.alloc (.cells (cs.toArray ++ news.toArray ++ Builtin.zeroCells z.cells (grownCap w (n + m) old e - (n + m))) e)) e i.size v n cs ∧
        Chg (fun k => v.ownBlock = some k) w (w.drew.alloc (.cells (cs.toArray ++ news.toArray ++ Builtin.zeroCells z.cells (grownCap w (n + m) old e - (n + m))) e)) := by
      intro old ho
      have hge := grownCap_ge w (n + m) old e
      have hcm : grownCap w (n + m) old e ≤ maxLen := grownCap_le_maxLen w (n + m) old e (by simp only [maxLen]; omega)
      have hc0 : Chg (fun _ => False) w (w.drew.alloc (.cells (cs.toArray ++ news.toArray ++ Builtin.zeroCells z.cells (grownCap w (n + m) old e - (n + m))) e)) := ((Chg.refl _ w).drew).alloc _
      refine ⟨⟨hlen, .inr ⟨w.heap.size, _, _, rfl, Blk.new w.drew _ e, hge, hcm, ?_, ?_⟩⟩, hown.chg hc0 (fun _ _ h => h), hc0.mono (fun _ _ h => h.elim)⟩
      · simp only [Array.toList_append, List.length_append, Array.length_toList, size_zeroCells, hzs, hown.1, hl]
        rw [← Nat.add_mul, ← Nat.add_mul]
        exact Nat.le_of_eq (by congr 1; omega)
      · simp only [Array.toList_append, List.append_assoc]
        rw [← List.append_assoc, ← hlen]
        exact List.take_left
    rcases hown.2 with ⟨rfl, rfl⟩ | ⟨g, cap, cur, rfl, hb, hnc, hcm, hcs, htake⟩
    · have hx : cs = [] := List.eq_nil_of_length_eq_zero (by simpa using hown.1)
      subst hx
      by_cases hm : m = 0
      · subst hm
        obtain rfl : news = [] := List.eq_nil_of_length_eq_zero (by simpa using hl)
        refine ⟨.slice none 0 0, w, ?_, OwnV.nil _ _ _, OwnV.nil _ _ _, Chg.refl _ _, .inl rfl⟩
        simp [Builtin.append_, run_underlying ht, sizeOf, typeInfo, hi, Builtin.lenOf, Builtin.firstCells, loadCells, loadCellsFrom]
      · have hr := run_append_nil (P := P) w t ty e i z ht hi hz a m c news hl hcells (by omega) (by omega) (by have hb := hbytes; simp only [Nat.zero_add] at hb; exact Nat.le_trans (Nat.mul_le_mul_right _ (by omega)) hb)
        have hgr := grown 0 (by omega)
        simp only [Nat.zero_add, List.nil_append, Array.empty_append] at hgr ⊢
        exact ⟨_, _, hr, hgr.1, hgr.2.1, hgr.2.2, .inr rfl⟩
    · by_cases hroom : n + m ≤ cap
      · have hfit : n * i.size + news.length ≤ cur.length := by rw [hl, ← Nat.add_mul]; exact Nat.le_trans (Nat.mul_le_mul_right _ hroom) hcs
        have hf := run_firstCells_some (P := P) w i.size m a m c news hl hcells
        obtain ⟨w', hr, hb', hc⟩ := run_storeCells P g e news (n * i.size) 0 cur w hb (by simpa using hfit) h1
        refine ⟨.slice (some ⟨g, 0, none⟩) (n + m) cap, w', ?_, ⟨hlen, .inr ⟨g, cap, _, rfl, hb', hroom, hcm, ?_, ?_⟩⟩, ⟨hown.1, .inr ⟨g, cap, _, rfl, hb', hnc, hcm, ?_, ?_⟩⟩, hc.mono (fun k _ hk => by subst hk; rfl), .inl rfl⟩
        · have hadd : (⟨g, 0, none⟩ : Addr).add (n * i.size) = ⟨g, n * i.size, none⟩ := by unfold Addr.add; split <;> simp_all
          simp [Builtin.append_, run_underlying ht, sizeOf, typeInfo, hi, Builtin.lenOf, hroom, hf, hadd, hr]
        · simp only [List.length_append, List.length_take, List.length_drop]
          omega
        · rw [Nat.add_zero, htake, ← hlen]
          exact List.take_left
        · simp only [List.length_append, List.length_take, List.length_drop]
          omega
        · rw [Nat.add_zero, htake, ← hown.1, List.append_assoc]
          exact List.take_left
      · have holds : ∀ j u, cs[j]? = some u → w.cell? ((⟨g, 0, none⟩ : Addr).add j) = some u := by
          intro j u hu
          obtain ⟨ad, h, hc, _⟩ := hown.cells _ _ _ rfl j u hu
          injection h with h
          subst h
          exact hc
        have hr := run_append_grow (P := P) w t ty e i z ht hi hz ⟨g, 0, none⟩ n cap cs hown.1 holds a m c news hl hcells (by omega) (by omega) (growslice_fits_wide (by omega) hbytes)
        have hgr := grown cap (by omega)
        exact ⟨_, _, hr, hgr.1, hgr.2.1, hgr.2.2, .inr rfl⟩
end
section
variable {P : Program} {ops : Array Oper} {rest : List Oper} {o : Oper} {a : Act} {Q : Exit → Act → World → Prop}
/-- at the operation: behind 'at_builtin' -/
theorem ow_appW {W : World} {K : Act → World → Prop} (s x : Operand) (t e : TypeId) (z : Value) (sz bytes : Nat)
    (ho : o.op = .call { callee := .builtin .append, args := #[s, x], argTypes := #[t, t] })
    (ht : P.underlying t = some (.slice e)) (hinfo : (P.info? e).map (fun i => (i.zero, i.size, i.bytes)) = some (some z, sz, bytes)) (hzs : z.cells.size = sz) (hsz : 0 < sz) (hby : 0 < bytes)
    (v : Value) (n : Nat) (cs : List Value) (hs : a.eval s = v) (hown : OwnV W e sz v n cs)
    (A : Option Addr) (m c : Nat) (news : List Value) (hx : a.eval x = .slice A m c) (hl : news.length = m * sz) (hnews : ∀ j u, news[j]? = some u → ∃ ad, A = some ad ∧ W.cell? (ad.add j) = some u) (h1 : ∀ u ∈ news, u.oneCell' = true)
    (hbytes : ((n + m) + (n + m) / 4 + 192) * bytes ≤ 281474976710656)
    (h : ∀ v' w', OwnV w' e sz v' (n + m) (cs ++ news) → OwnV w' e sz v n cs → Chg (fun k => v.ownBlock = some k) W w' → (v'.ownBlock = v.ownBlock ∨ v'.ownBlock = some W.heap.size) → K (a.put o.dst v') w') :
    o.wp P a W K Q := by
  obtain ⟨v', w', hr, h2, h3, h4, h5⟩ := run_appW (P := P) W t o.type e z sz bytes ht hinfo hzs hsz hby v n cs hown A m c news hl hnews h1 hbytes
  unfold Oper.wp execOp
  simp only [ho, resolve, invoke, builtin, Sem.run_bind, Sem.run_pure, Result.andThen_ok, List.map_toArray, List.map_cons, List.map_nil, hs, hx, hr]
  exact h v' w' h2 h3 h4 h5
/-- append(v, ys...) of whole numbers -/
theorem ow_appnW {W : World} {K : Act → World → Prop} (s x : Operand) (t e : TypeId) (k : IntKind) (bytes : Nat)
    (ho : o.op = .call { callee := .builtin .append, args := #[s, x], argTypes := #[t, t] })
    (ht : P.underlying t = some (.slice e)) (hinfo : (P.info? e).map (fun i => (i.zero, i.size, i.bytes)) = some (some (.int k 0), 1, bytes)) (hby : 0 < bytes)
    (v : Value) (l : List Int) (hs : a.eval s = v) (hown : Own W e k v l)
    (A : Option Addr) (c : Nat) (m : List Int) (n : Nat) (hx : a.eval x = .slice A n c) (hn : n = m.length) (hr : Rd W k A m) (hbytes : ((l.length + m.length) + (l.length + m.length) / 4 + 192) * bytes ≤ 281474976710656)
    (h : ∀ v' w', Own w' e k v' (l ++ m) → Own w' e k v l → Chg (fun g => v.ownBlock = some g) W w' → Fresh W v v' → K (a.put o.dst v') w') : o.wp P a W K Q := by
  subst hn
  refine ow_appW s x t e (.int k 0) 1 bytes ho ht hinfo rfl (by decide) hby v l.length (nums k l) hs hown A m.length c (nums k m) hx (by simp [nums]) hr.news (nums_cell k m) hbytes fun v' w' h2 h3 h4 h5 => h v' w' ?_ h3 h4 (h5.imp id fun h5 g hg => by rw [h5] at hg; injection hg with hg; omega)
  unfold Own
  rw [nums_append, List.length_append]
  exact h2
theorem wp_appnW {W : World} (hgd : o.guard = none) (s x : Operand) (t e : TypeId) (k : IntKind) (bytes : Nat)
    (ho : o.op = .call { callee := .builtin .append, args := #[s, x], argTypes := #[t, t] })
    (ht : P.underlying t = some (.slice e)) (hinfo : (P.info? e).map (fun i => (i.zero, i.size, i.bytes)) = some (some (.int k 0), 1, bytes)) (hby : 0 < bytes)
    (v : Value) (l : List Int) (hs : a.eval s = v) (hown : Own W e k v l)
    (A : Option Addr) (c : Nat) (m : List Int) (n : Nat) (hx : a.eval x = .slice A n c) (hn : n = m.length) (hr : Rd W k A m) (hbytes : ((l.length + m.length) + (l.length + m.length) / 4 + 192) * bytes ≤ 281474976710656)
    (h : ∀ v' w', Own w' e k v' (l ++ m) → Own w' e k v l → Chg (fun g => v.ownBlock = some g) W w' → Fresh W v v' → wpList P ops Q rest (a.put o.dst v') w') : wpList P ops Q (o :: rest) a W :=
  wpList_plain hgd fun _ hK => ow_appnW s x t e k bytes ho ht hinfo hby v l hs hown A c m n hx hn hr hbytes fun v' w' h2 h3 h4 h5 => hK _ _ (h v' w' h2 h3 h4 h5)
theorem st_appnW {W : World} {K : Act → World → Prop} {E : Prop} (hgd : o.guard = none) (s x : Operand) (t e : TypeId) (k : IntKind) (bytes : Nat)
    (ho : o.op = .call { callee := .builtin .append, args := #[s, x], argTypes := #[t, t] })
    (ht : P.underlying t = some (.slice e)) (hinfo : (P.info? e).map (fun i => (i.zero, i.size, i.bytes)) = some (some (.int k 0), 1, bytes)) (hby : 0 < bytes)
    (v : Value) (l : List Int) (hs : a.eval s = v) (hown : Own W e k v l)
    (A : Option Addr) (c : Nat) (m : List Int) (n : Nat) (hx : a.eval x = .slice A n c) (hn : n = m.length) (hr : Rd W k A m) (hbytes : ((l.length + m.length) + (l.length + m.length) / 4 + 192) * bytes ≤ 281474976710656)
    (h : ∀ v' w', Own w' e k v' (l ++ m) → Own w' e k v l → Chg (fun g => v.ownBlock = some g) W w' → Fresh W v v' → K (a.put o.dst v') w') : if Region.wanted o (yielded ops a.tmps) = true then o.wp P a W K Q else E := by
  rw [if_pos (by simp [Region.wanted, hgd])]
  exact ow_appnW s x t e k bytes ho ht hinfo hby v l hs hown A c m n hx hn hr hbytes h
/-- append(v, y): the world is 'W.alloc' of the box of y -/
theorem wp_app1W {W : World} (hgd : o.guard = none) (s x : Operand) (t e : TypeId) (k : IntKind) (bytes : Nat)
    (ho : o.op = .call { callee := .builtin .append, args := #[s, x], argTypes := #[t, t] })
    (ht : P.underlying t = some (.slice e)) (hinfo : (P.info? e).map (fun i => (i.zero, i.size, i.bytes)) = some (some (.int k 0), 1, bytes)) (hby : 0 < bytes)
    (v : Value) (l : List Int) (y : Int) (hs : a.eval s = v) (hown : Own W e k v l)
    (hx : a.eval x = .slice (some ⟨W.heap.size, 0, none⟩) 1 1) (hbytes : ((l.length + 1) + (l.length + 1) / 4 + 192) * bytes ≤ 281474976710656)
    (h : ∀ v' w', Own w' e k v' (l ++ [y]) → Own w' e k v l → Chg (fun g => v.ownBlock = some g) W w' → Fresh W v v' → wpList P ops Q rest (a.put o.dst v') w') :
    wpList P ops Q (o :: rest) a (W.alloc (.cells #[.int k y] e)) := by
  refine wp_appnW (W := W.alloc (.cells #[.int k y] e)) hgd s x t e k bytes ho ht hinfo hby v l hs (hown.alloc _) _ 1 [y] 1 hx rfl ?_ hbytes fun v' w' h2 h3 h4 h5 => h v' w' h2 h3 ?_ ?_
  · intro i hi
    have : i = 0 := by simp at hi; omega
    subst this
    refine ⟨_, rfl, ?_⟩
    have := (Blk.new W #[.int k y] e).cell 0
    rw [show (⟨W.heap.size, 0, none⟩ : Addr).add 0 = ⟨W.heap.size, 0, none⟩ from rfl, this]
    rfl
  · exact ((Chg.refl _ W).alloc _).trans h4 (fun _ _ h => h)
  · exact h5.imp id fun h5 g hg => by
      have := h5 g hg
      simp at this
      omega
end
end Go.Proofs.Ytlnomadhgoblkaa.Kit
-- The document's Crc.
set_option linter.unusedVariables false
set_option linter.unusedSimpArgs false
namespace Go.Proofs.Ytlnomadhgoblkaa.Kit
open Go.RowKit
set_option maxRecDepth 20000 in
set_option maxHeartbeats 1600000 in
theorem crcRef (A : Option Addr) (c n : Nat) (l : List Int) (w : World) (hn : Hid (n = l.length)) (hb : Hid (Byt l)) (hl : Hid (l.length ≤ 140737488355328)) (hr : Hid (Rd w .u8 A l)) :
    Calls Try.prog 83 #[.slice A n c] w fun e w' => e = .returned (.int .u32 (vi (crc l))) ∧ w = w' := by
  have hl' : n ≤ 140737488355328 := by have := hl.out; rw [← hn.out] at this; exact this
  go_enter Try.func83, Try.ntmps83
  go_wp2
  go_loop [3, 4] (fun x i => ∃ k : Nat, k ≤ n ∧ i = .int .i64 k ∧ Hid (x = .int .u32 (vi (crcUp (l.take k))))) (fun _ i => n - (intOf i).toNat)
  case atStart => exact ⟨0, by omega, rfl, by rw [Hid, List.take_zero]; rfl⟩
  case round =>
    obtain ⟨k, hk, rfl, hx⟩ := hrel
    by_cases hlt : k < n
    · obtain ⟨ad, rfl, hc⟩ := hr.out k (by rw [← hn.out]; exact hlt)
      have hkl : k < l.length := by rw [← hn.out]; exact hlt
      have hv := hb.out l[k] (List.getElem_mem _)
      have HKL := Lib.hid hkl
      have hx := hx.out
      subst hx
      generalize hxx : crcUp (l.take k) = x
      generalize hvv : l[k] = v at hc hv
      have HV := Lib.hid hvv
      have HX := Lib.hid hxx
      clear hxx hvv hkl
      obtain ⟨v0, v1⟩ := hv
      go_wp2
      go_loop [3, 5] (fun y i => ∃ j : Nat, j ≤ 8 ∧ i = .int .i64 j ∧ Hid (y = .int .u32 (vi (refN x (BitVec.ofInt 32 v) j)))) (fun _ i => 8 - (intOf i).toNat)
      case atStart => exact ⟨0, by omega, rfl, rfl⟩
      case round =>
        obtain ⟨j, hj, rfl, hy⟩ := hrel
        have hy := hy.out
        subst hy
        by_cases hl8 : j < 8
        · generalize hyy : refN x (BitVec.ofInt 32 v) j = y
          have HY := Lib.hid hyy
          clear hyy
          rcases (show j = 0 ∨ j = 1 ∨ j = 2 ∨ j = 3 ∨ j = 4 ∨ j = 5 ∨ j = 6 ∨ j = 7 by omega) with rfl | rfl | rfl | rfl | rfl | rfl | rfl | rfl
          · obtain ⟨z, z', b, h0, h1, h2, h3, h4, h5, h6⟩ := crc_bit y v0 v1 0 1 rfl
            rw [h0]
            have H6 := Lib.hid h6
            clear h6 h0
            cases b
            · have h5 := Lib.hid (h5 rfl)
              clear h4
              go_wp2
              go_round
              case rel => exact ⟨1, by omega, rfl, by rw [Hid, refN, HY.out, ← H6.out, ← h5.out]⟩
              case measure => simp [intOf]
            · have h4 := h4 rfl
              clear h5
              go_wp2
              go_round
              case rel => exact ⟨1, by omega, rfl, by rw [Hid, refN, HY.out, ← H6.out]⟩
              case measure => simp [intOf]
          · obtain ⟨z, z', b, h0, h1, h2, h3, h4, h5, h6⟩ := crc_bit y v0 v1 1 2 rfl
            rw [h0]
            have H6 := Lib.hid h6
            clear h6 h0
            cases b
            · have h5 := Lib.hid (h5 rfl)
              clear h4
              go_wp2
              go_round
              case rel => exact ⟨2, by omega, rfl, by rw [Hid, refN, HY.out, ← H6.out, ← h5.out]⟩
              case measure => simp [intOf]
            · have h4 := h4 rfl
              clear h5
              go_wp2
              go_round
              case rel => exact ⟨2, by omega, rfl, by rw [Hid, refN, HY.out, ← H6.out]⟩
              case measure => simp [intOf]
          · obtain ⟨z, z', b, h0, h1, h2, h3, h4, h5, h6⟩ := crc_bit y v0 v1 2 4 rfl
            rw [h0]
            have H6 := Lib.hid h6
            clear h6 h0
            cases b
            · have h5 := Lib.hid (h5 rfl)
              clear h4
              go_wp2
              go_round
              case rel => exact ⟨3, by omega, rfl, by rw [Hid, refN, HY.out, ← H6.out, ← h5.out]⟩
              case measure => simp [intOf]
            · have h4 := h4 rfl
              clear h5
              go_wp2
              go_round
              case rel => exact ⟨3, by omega, rfl, by rw [Hid, refN, HY.out, ← H6.out]⟩
              case measure => simp [intOf]
          · obtain ⟨z, z', b, h0, h1, h2, h3, h4, h5, h6⟩ := crc_bit y v0 v1 3 8 rfl
            rw [h0]
            have H6 := Lib.hid h6
            clear h6 h0
            cases b
            · have h5 := Lib.hid (h5 rfl)
              clear h4
              go_wp2
              go_round
              case rel => exact ⟨4, by omega, rfl, by rw [Hid, refN, HY.out, ← H6.out, ← h5.out]⟩
              case measure => simp [intOf]
            · have h4 := h4 rfl
              clear h5
              go_wp2
              go_round
              case rel => exact ⟨4, by omega, rfl, by rw [Hid, refN, HY.out, ← H6.out]⟩
              case measure => simp [intOf]
          · obtain ⟨z, z', b, h0, h1, h2, h3, h4, h5, h6⟩ := crc_bit y v0 v1 4 16 rfl
            rw [h0]
            have H6 := Lib.hid h6
            clear h6 h0
            cases b
            · have h5 := Lib.hid (h5 rfl)
              clear h4
              go_wp2
              go_round
              case rel => exact ⟨5, by omega, rfl, by rw [Hid, refN, HY.out, ← H6.out, ← h5.out]⟩
              case measure => simp [intOf]
            · have h4 := h4 rfl
              clear h5
              go_wp2
              go_round
              case rel => exact ⟨5, by omega, rfl, by rw [Hid, refN, HY.out, ← H6.out]⟩
              case measure => simp [intOf]
          · obtain ⟨z, z', b, h0, h1, h2, h3, h4, h5, h6⟩ := crc_bit y v0 v1 5 32 rfl
            rw [h0]
            have H6 := Lib.hid h6
            clear h6 h0
            cases b
            · have h5 := Lib.hid (h5 rfl)
              clear h4
              go_wp2
              go_round
              case rel => exact ⟨6, by omega, rfl, by rw [Hid, refN, HY.out, ← H6.out, ← h5.out]⟩
              case measure => simp [intOf]
            · have h4 := h4 rfl
              clear h5
              go_wp2
              go_round
              case rel => exact ⟨6, by omega, rfl, by rw [Hid, refN, HY.out, ← H6.out]⟩
              case measure => simp [intOf]
          · obtain ⟨z, z', b, h0, h1, h2, h3, h4, h5, h6⟩ := crc_bit y v0 v1 6 64 rfl
            rw [h0]
            have H6 := Lib.hid h6
            clear h6 h0
            cases b
            · have h5 := Lib.hid (h5 rfl)
              clear h4
              go_wp2
              go_round
              case rel => exact ⟨7, by omega, rfl, by rw [Hid, refN, HY.out, ← H6.out, ← h5.out]⟩
              case measure => simp [intOf]
            · have h4 := h4 rfl
              clear h5
              go_wp2
              go_round
              case rel => exact ⟨7, by omega, rfl, by rw [Hid, refN, HY.out, ← H6.out]⟩
              case measure => simp [intOf]
          · obtain ⟨z, z', b, h0, h1, h2, h3, h4, h5, h6⟩ := crc_bit y v0 v1 7 128 rfl
            rw [h0]
            have H6 := Lib.hid h6
            clear h6 h0
            cases b
            · have h5 := Lib.hid (h5 rfl)
              clear h4
              go_wp2
              go_round
              case rel => exact ⟨8, by omega, rfl, by rw [Hid, refN, HY.out, ← H6.out, ← h5.out]⟩
              case measure => simp [intOf]
            · have h4 := h4 rfl
              clear h5
              go_wp2
              go_round
              case rel => exact ⟨8, by omega, rfl, by rw [Hid, refN, HY.out, ← H6.out]⟩
              case measure => simp [intOf]
        · obtain rfl : j = 8 := by omega
          go_wp2
          go_round
          case rel =>
            refine ⟨k + 1, by omega, by go_num, ?_⟩
            rw [Hid, List.take_succ_eq_append_getElem HKL.out, crcUp_snoc, HX.out]
            have hv' : l[k]'HKL.out = v := HV.out
            rw [hv', refN_crcB x v0 v1]
          case measure => simp [intOf]; omega
    · obtain rfl : k = n := by omega
      have hx := hx.out
      subst hx
      have hE := not_eq (crcUp (l.take k))
      go_wp2
      go_ret
      refine ⟨?_, rfl⟩
      have ht : l.take k = l := List.take_of_length_le (by rw [← hn.out]; exact Nat.le_refl _)
      rw [ht]
      rfl
end Go.Proofs.Ytlnomadhgoblkaa.Kit
-- The document's journal: a record's bytes; what holds of it between two calls; New, Count, copied, Record.
set_option linter.unusedVariables false
set_option linter.unusedSimpArgs false
namespace Go.Proofs.Ytlnomadhgoblkaa.Kit
open Go.RowKit
set_option maxRecDepth 20000 in
set_option maxHeartbeats 6400000 in
theorem rbytes {k : Nat} {x : SecV} {A : Option Addr} {m c : Nat} {w : World} (hk : k ≤ 1099511627776) (HM : Hid (m = x.body.length)) (hm4 : m ≤ 4194304) (o1 : 0 ≤ x.id) (o2 : x.id ≤ 255) (hb : Hid (Byt x.body)) (hr : Hid (Rd w .u8 A x.body)) :
    Calls Try.prog 68 #[.int .i64 k, .agg #[.int .i64 x.id, .slice A m c]] w fun e w' => ∃ A' n' c', e = .returned (.slice A' n' c') ∧ Made w w' A' n' c' (recEnc k x) := by
  obtain ⟨wa, hwa⟩ : ∃ wa, wa = w.alloc (.cells #[.int .i64 x.id, .slice A m c] 31) := ⟨_, rfl⟩
  obtain ⟨h, hh⟩ : ∃ h, h = w.heap.size := ⟨_, rfl⟩
  have CA : Hid (Chg (fun _ => False) w wa) := by rw [hwa]; exact (Chg.refl _ w).alloc _
  have BX : Hid (Blk wa h 31 [.int .i64 x.id, .slice A m c]) := by rw [hwa, hh]; exact Blk.new _ _ _
  have HS : Hid (∀ W, Chg (fun _ => False) wa W → W.cell? ⟨h, 0, none⟩ = some (.int .i64 x.id) ∧ W.cell? ⟨h, 1, none⟩ = some (.slice A m c) ∧ Rd W .u8 A x.body) := fun W hW =>
    ⟨(BX.out.chg hW id).at_ (i := 0) rfl, (BX.out.chg hW id).at_ (i := 1) rfl, hr.out.below (CA.out.trans hW (fun _ _ h => h)).done⟩
  have hws : Hid (wa.heap.size = w.heap.size + 1) := by rw [hwa]; simp [Hid]
  have HH := Lib.hid hh
  have HWA := Lib.hid hwa
  have hk0 : (0 : Int) ≤ (k : Int) := by omega
  have hk1 : (k : Int) ≤ 18446744073709551615 := by omega
  have hm0 : (0 : Int) ≤ (m : Int) := by omega
  have hm1 : (m : Int) ≤ 18446744073709551615 := by omega
  have hvk : Hid ((vb k).length ≤ 10) := vb_len10 (by omega)
  have hvm : Hid ((vb m).length ≤ 10) := vb_len10 (by omega)
  have E8 : IntKind.u8.wrap x.id = x.id := IntWalk.u8_in _ (by omega)
  clear hwa hh
  go_enter Try.func68, Try.ntmps68
  go_wp2_with fail
  rw [← hws.out, ← HWA.out, ← HH.out]
  have h167 : Hid (OwnB (wa.alloc (.cells (nums .u8 [167]).toArray 5)) (.slice (some ⟨wa.heap.size, 0, none⟩) 1 1) [167]) := Own.lit wa _ .u8 [167] (by simp [maxLen])
  have CB : Hid (Chg (fun _ => False) wa (wa.alloc (.cells (nums .u8 [167]).toArray 5))) := (Chg.refl _ wa).alloc _
  refine (show Calls Try.prog 82 _ (wa.alloc (.cells (nums .u8 [167]).toArray 5)) _ from varintRef (k : Int) _ hk0 hk1).mono ?_
  rintro e w1 ⟨A1, n1, c1, rfl, m1⟩
  have O1 : Hid (OwnB w1 (.slice (some ⟨wa.heap.size, 0, none⟩) 1 1) [167]) := h167.out.chg m1.chg (fun _ _ h => h)
  have R1 : Hid (Rd w1 .u8 A1 (vb k)) := by
    have := m1.rd
    rw [Int.toNat_natCast] at this
    exact this
  have L1 : Hid (n1 = (vb k).length) := by
    have := m1.len
    rw [Int.toNat_natCast] at this
    exact this
  have C1 : Hid (Chg (fun _ => False) wa w1) := CB.out.trans m1.chg (fun _ _ h => h)
  have G1 : Hid (∀ y, Value.ownBlock (.slice (some ⟨wa.heap.size, 0, none⟩) 1 1) = some y → wa.heap.size ≤ y) := blk_ge (Nat.le_refl _)
  clear m1
  go_upto_region 3 with (at_builtin; go_must (refine wp_appn rfl _ _ 29 5 .u8 1 rfl Try.underlying29 infoU8 (by decide) (.slice (some ⟨wa.heap.size, 0, none⟩) 1 1) [167] rfl O1.out A1 c1 (vb k) n1 rfl L1.out R1.out (by have := hvk.out; simp; omega) ?_); intro v2 w2 k1 k2 k3 k4; obtain ⟨L2, hL2⟩ : ∃ L2, L2 = [167] ++ vb k := ⟨_, rfl⟩; rw [← hL2] at k1; obtain ⟨A2, c2, hv2, _, _⟩ := k1.slice; obtain ⟨n2, hn2⟩ : ∃ n2, n2 = L2.length := ⟨_, rfl⟩; rw [← hn2] at hv2; subst hv2; have HL2 := Lib.hid hL2; have HN2 := Lib.hid hn2; have O2 := Lib.hid k1; have C2 : Hid (Chg (fun _ => False) wa w2) := C1.out.fresh k3 G1.out; have G2 : Hid (∀ y, Value.ownBlock (.slice A2 n2 c2) = some y → wa.heap.size ≤ y) := k4.ge G1.out C1.out.size; clear k1 k2 k3 k4 hL2 hn2)
  have hn2b : n2 ≤ 11 := by
    have := hvk.out
    rw [HN2.out, HL2.out, List.length_append]
    simp
    omega
  obtain ⟨s0, s1, _⟩ := HS.out w2 C2.out
  go_upto_region 4 with (at_builtin; go_must (refine wp_app1 rfl _ _ 29 5 .u8 1 rfl Try.underlying29 infoU8 (by decide) (.slice A2 n2 c2) L2 x.id rfl O2.out rfl (by rw [← HN2.out]; omega) ?_); intro v3 w3 k1 k2 k3 k4; obtain ⟨L3, hL3⟩ : ∃ L3, L3 = L2 ++ [x.id] := ⟨_, rfl⟩; rw [← hL3] at k1; obtain ⟨A3, c3, hv3, _, _⟩ := k1.slice; obtain ⟨n3, hn3⟩ : ∃ n3, n3 = L3.length := ⟨_, rfl⟩; rw [← hn3] at hv3; subst hv3; have HL3 := Lib.hid hL3; have HN3 := Lib.hid hn3; have O3 := Lib.hid k1; have C3 : Hid (Chg (fun _ => False) wa w3) := C2.out.fresh k3 G2.out; have G3 : Hid (∀ y, Value.ownBlock (.slice A3 n3 c3) = some y → wa.heap.size ≤ y) := k4.ge G2.out C2.out.size; clear k1 k2 k3 k4 hL3 hn3)
  clear s0 s1
  obtain ⟨s0, s1, _⟩ := HS.out w3 C3.out
  have hn3b : n3 ≤ 12 := by
    rw [HN3.out, HL3.out, List.length_append, ← HN2.out]
    simp
    omega
  go_wp2_with fail
  refine (show Calls Try.prog 82 _ w3 _ from varintRef (m : Int) _ hm0 hm1).mono ?_
  rintro e w4 ⟨A4, n4, c4, rfl, m4⟩
  have O4 := Lib.hid (O3.out.chg m4.chg (fun _ _ h => h))
  have R4 : Hid (Rd w4 .u8 A4 (vb m)) := by
    have := m4.rd
    rw [Int.toNat_natCast] at this
    exact this
  have L4 : Hid (n4 = (vb m).length) := by
    have := m4.len
    rw [Int.toNat_natCast] at this
    exact this
  have C4 : Hid (Chg (fun _ => False) wa w4) := C3.out.trans m4.chg (fun _ _ h => h)
  clear m4 s0 s1
  go_upto_region 5 with (at_builtin; go_must (refine wp_appn rfl _ _ 29 5 .u8 1 rfl Try.underlying29 infoU8 (by decide) (.slice A3 n3 c3) L3 rfl O4.out A4 c4 (vb m) n4 rfl L4.out R4.out (by have := hvm.out; rw [← HN3.out]; omega) ?_); intro v5 w5 k1 k2 k3 k4; obtain ⟨L5, hL5⟩ : ∃ L5, L5 = L3 ++ vb m := ⟨_, rfl⟩; rw [← hL5] at k1; obtain ⟨A5, c5, hv5, _, _⟩ := k1.slice; obtain ⟨n5, hn5⟩ : ∃ n5, n5 = L5.length := ⟨_, rfl⟩; rw [← hn5] at hv5; subst hv5; have HL5 := Lib.hid hL5; have HN5 := Lib.hid hn5; have O5 := Lib.hid k1; have C5 : Hid (Chg (fun _ => False) wa w5) := C4.out.fresh k3 G3.out; have G5 : Hid (∀ y, Value.ownBlock (.slice A5 n5 c5) = some y → wa.heap.size ≤ y) := k4.ge G3.out C4.out.size; clear k1 k2 k3 k4 hL5 hn5)
  have hn5b : n5 ≤ 22 := by
    have := hvm.out
    rw [HN5.out, HL5.out, List.length_append, ← HN3.out]
    omega
  obtain ⟨s0, s1, rb⟩ := HS.out w5 C5.out
  have R5 := Lib.hid rb
  clear rb
  go_upto_region 6 with (at_builtin; go_must (refine wp_appn rfl _ _ 29 5 .u8 1 rfl Try.underlying29 infoU8 (by decide) (.slice A5 n5 c5) L5 rfl O5.out A c x.body m rfl HM.out R5.out (by rw [← HN5.out, ← HM.out]; omega) ?_); intro v6 w6 k1 k2 k3 k4; obtain ⟨L6, hL6⟩ : ∃ L6, L6 = L5 ++ x.body := ⟨_, rfl⟩; rw [← hL6] at k1; obtain ⟨A6, c6, hv6, _, _⟩ := k1.slice; obtain ⟨n6, hn6⟩ : ∃ n6, n6 = L6.length := ⟨_, rfl⟩; rw [← hn6] at hv6; subst hv6; have HL6 := Lib.hid hL6; have HN6 := Lib.hid hn6; have O6 := Lib.hid k1; have C6 : Hid (Chg (fun _ => False) wa w6) := C5.out.fresh k3 G5.out; have G6 : Hid (∀ y, Value.ownBlock (.slice A6 n6 c6) = some y → wa.heap.size ≤ y) := k4.ge G5.out C5.out.size; clear k1 k2 k3 k4 hL6 hn6)
  have hH6 : Hid (L6 = recHd k x) := by
    rw [Hid, HL6.out, HL5.out, HL3.out, HL2.out, recHd, HM.out]
    simp
  have hn6b : n6 ≤ 4194326 := by
    rw [HN6.out, HL6.out, List.length_append, ← HN5.out, ← HM.out]
    omega
  have hb6 : Hid (Byt L6) := by
    rw [Hid, hH6.out]
    intro y hy
    rcases List.mem_cons.1 hy with rfl | hy
    · omega
    · rcases List.mem_append.1 hy with hy | hy
      · exact vb_byt _ y hy
      · rcases List.mem_cons.1 hy with rfl | hy
        · omega
        · rcases List.mem_append.1 hy with hy | hy
          · exact vb_byt _ y hy
          · exact hb.out y hy
  have hl6 : Hid (L6.length ≤ 140737488355328) := by rw [Hid, ← HN6.out]; omega
  clear s0 s1
  go_wp2_with fail
  refine (crcRef A6 c6 n6 L6 w6 HN6 hb6 hl6 (Lib.hid (O6.out.rd (by rw [HN6.out])))).mono ?_
  rintro e w7 ⟨rfl, rfl⟩
  have v0 := vi_nonneg (crc L6)
  have v1 := vi_lt (crc L6)
  obtain ⟨z, hz⟩ : ∃ z, vi (crc L6) = z := ⟨_, rfl⟩
  rw [hz] at v0 v1 ⊢
  have HZ := Lib.hid hz
  have hB7 : Hid (OwnB (w6.alloc (.cells (nums .u8 (sumB z)).toArray 5)) (.slice (some ⟨w6.heap.size, 0, none⟩) 4 4) (sumB z)) := Own.lit w6 _ .u8 (sumB z) (by rw [sumB_length]; decide)
  clear hz
  go_wp2_with (at_builtin; go_must (refine wp_appn (W := w6.alloc (.cells (nums .u8 (sumB z)).toArray 5)) rfl _ _ 29 5 .u8 1 rfl Try.underlying29 infoU8 (by decide) (.slice A6 n6 c6) L6 rfl (O6.out.alloc _) _ 4 (sumB z) 4 rfl rfl (hB7.out.rd rfl) (by rw [sumB_length, ← HN6.out]; omega) ?_); intro v' w8 k1 k2 k3 k4; obtain ⟨A8, c8, hv, hc8, _⟩ := k1.slice; have O8 := Lib.hid k1; have C8 : Hid (Chg (fun _ => False) wa w8) := (C6.out.alloc _).fresh k3 G6.out; have G8 : Hid (∀ y, Value.ownBlock v' = some y → wa.heap.size ≤ y) := k4.ge G6.out (by have := C6.out.size; simp; omega); clear k1 k2 k3 k4; subst hv; go_frame)
  go_ret
  have hQ : L6 ++ sumB z = recEnc k x := by rw [recEnc, ← hH6.out, HZ.out]
  rw [hQ] at O8 G8 hc8 ⊢
  exact ⟨A8, _, c8, rfl, rfl, O8.out, CA.out.trans C8.out (fun _ _ h => h), fun y hy => by have := G8.out y hy; have := CA.out.size; omega, hc8⟩
end Go.Proofs.Ytlnomadhgoblkaa.Kit
-- The document's journal: what holds of it between two calls; New, Count, copied, Record.
set_option linter.unusedVariables false
set_option linter.unusedSimpArgs false
namespace Go.Proofs.Ytlnomadhgoblkaa.Kit
open Go.RowKit
/-- the document's journal in block g, its parts in blocks of D -/
structure RJ (w : World) (D : Nat → Prop) (g : Nat) (l : List SecV) : Prop where
  ex : ∃ vR bs, Blk w g 113 [vR, .int .i64 ((jnlBytes l).length : Nat)] ∧ Recs w vR l bs ∧ (∀ y, vR.ownBlock = some y → D y) ∧ ∀ b ∈ bs, ∀ y, b.ownBlock = some y → D y
  size : ∀ x, D x → x < w.heap.size
  out : ¬ D g
theorem RJ.chg {w w1 : World} {D S : Nat → Prop} {g : Nat} {l : List SecV} (h : RJ w D g l) (c : Chg S w w1) (hS : ∀ x, S x → ¬ D x ∧ x ≠ g) : RJ w1 D g l := by
  obtain ⟨vR, bs, hb, hv, h2, h4⟩ := h.ex
  have hD : ∀ y, D y → ¬ S y := fun y hy hs => (hS y hs).1 hy
  exact ⟨⟨vR, bs, hb.chg c (fun hs => (hS g hs).2 rfl), hv.chg c (fun y hy => hD y (h2 y hy)) (fun b hbb y hy => hD y (h4 b hbb y hy)), h2, h4⟩, fun x hx => Nat.lt_of_lt_of_le (h.size x hx) c.size, h.out⟩
theorem RJ.chg0 {w w1 : World} {D : Nat → Prop} {g : Nat} {l : List SecV} (h : RJ w D g l) (c : Chg (fun _ => False) w w1) : RJ w1 D g l := h.chg c (fun _ h => h.elim)
theorem RJ.lt {w : World} {D : Nat → Prop} {g : Nat} {l : List SecV} (h : RJ w D g l) : g < w.heap.size := by
  obtain ⟨_, _, hb, _⟩ := h.ex
  exact hb.lt
theorem RJ.mono {w : World} {D E : Nat → Prop} {g : Nat} {l : List SecV} (h : RJ w D g l) (hE : ∀ x, D x → E x) (hs : ∀ x, E x → x < w.heap.size) (ho : ¬ E g) : RJ w E g l := by
  obtain ⟨vR, bs, hb, hv, h2, h4⟩ := h.ex
  exact ⟨⟨vR, bs, hb, hv, fun y hy => hE y (h2 y hy), fun b hbb y hy => hE y (h4 b hbb y hy)⟩, hs, ho⟩
theorem rnew (w : World) :
    Calls Try.prog 30 #[] w fun e w' => ∃ g, e = .returned (.pointer (some ⟨g, 0, none⟩)) ∧ RJ w' (fun _ => False) g [] ∧ w.heap.size ≤ g ∧ Chg (fun _ => False) w w' := by
  go_enter Try.func30, Try.ntmps30
  go_wp2_with fail
  go_ret
  refine ⟨w.heap.size, rfl, ⟨⟨.slice none 0 0, [], ?_, ⟨⟨rfl, .inl ⟨rfl, rfl⟩⟩, rfl, fun i h => absurd h (by simp)⟩, fun y hy => by simp [Value.ownBlock] at hy, fun b hb => absurd hb (by simp)⟩, fun _ h => h.elim, id⟩, Nat.le_refl _, (Chg.refl _ w).alloc _⟩
  exact Blk.new w #[.slice none 0 0, .int .i64 8] 113
theorem rcount {D : Nat → Prop} {g : Nat} {l : List SecV} {n : Nat} {w : World} (HN : Hid (n = l.length)) (hj : Hid (RJ w D g l)) :
    Calls Try.prog 32 #[.pointer (some ⟨g, 0, none⟩)] w fun e w' => e = .returned (.int .i64 n) ∧ w = w' := by
  obtain ⟨vR, bs, hb, hv, h2, h4⟩ := hj.out.ex
  obtain ⟨AR, cR, hR, hcR, _⟩ := hv.row.slice
  rw [← HN.out] at hR
  have c1 := hb.at_ (i := 0) rfl
  rw [hR] at c1
  clear hR hb hv h2 h4 hcR
  go_enter Try.func32, Try.ntmps32
  go_wp2_with fail
  go_ret
  exact ⟨rfl, rfl⟩
set_option maxRecDepth 20000 in
theorem rcopied {x : SecV} {A : Option Addr} {m c : Nat} {w : World} (HM : Hid (m = x.body.length)) (hm : m ≤ 4194304) (hr : Hid (Rd w .u8 A x.body)) :
    Calls Try.prog 69 #[.agg #[.int .i64 x.id, .slice A m c]] w fun e w' => ∃ A' c', e = .returned (.agg #[.int .i64 x.id, .slice A' m c']) ∧ OwnB w' (.slice A' m c') x.body ∧ Chg (fun _ => False) w w' ∧ ∀ k, Value.ownBlock (.slice A' m c') = some k → w.heap.size ≤ k := by
  obtain ⟨wa, hwa⟩ : ∃ wa, wa = (w.alloc (.cells #[.int .i64 x.id, .slice A m c] 31)).alloc (.cells #[.int .i64 0, .slice none 0 0] 31) := ⟨_, rfl⟩
  obtain ⟨h, hh⟩ : ∃ h, h = w.heap.size := ⟨_, rfl⟩
  have CA : Hid (Chg (fun _ => False) w wa) := by rw [hwa]; exact ((Chg.refl _ w).alloc _).alloc _
  have BX : Hid (Blk wa h 31 [.int .i64 x.id, .slice A m c]) := by rw [hwa, hh]; exact (Blk.new _ _ _).alloc _
  have BY : Hid (Blk wa (h + 1) 31 [.int .i64 0, .slice none 0 0]) := by
    rw [hwa, hh]
    have := Blk.new (w.alloc (.cells #[.int .i64 x.id, .slice A m c] 31)) #[.int .i64 0, .slice none 0 0] 31
    rw [show (w.alloc (.cells #[.int .i64 x.id, .slice A m c] 31)).heap.size = w.heap.size + 1 by simp] at this
    exact this
  have HH := Lib.hid hh
  have HWA := Lib.hid hwa
  have s0 := BX.out.at_ (i := 0) rfl
  have s1 := BX.out.at_ (i := 1) rfl
  have hmk : ∀ W : World, (Instr.makeSlice 29 (.int .i64 (m : Int)) (.int .i64 (m : Int))).run Try.prog W = .ok (.slice (some ⟨W.heap.size, 0, none⟩) m m) (W.alloc (.cells (madeCells #[.int .u8 0] m) 5)) := fun W => run_make_row' (P := Try.prog) 29 5 (.int .u8 0) 1 Try.underlying29 infoU8 rfl .i64 .i64 m (by omega) (by omega) W
  have hz : Hid (Own (wa.alloc (.cells (madeCells #[.int .u8 0] m) 5)) 5 .u8 (.slice (some ⟨wa.heap.size, 0, none⟩) m m) (List.replicate m 0)) := Own.zeros wa _ _ _ _ (Nat.le_refl _) (by simp only [maxLen]; omega)
  have CM : Hid (Chg (fun _ => False) wa (wa.alloc (.cells (madeCells #[.int .u8 0] m) 5))) := (Chg.refl _ wa).alloc _
  clear hwa hh
  go_enter Try.func69, Try.ntmps69
  go_upto_region 1 with fail
  rw [← HWA.out, ← HH.out]
  have hR1 : Hid (Rd (wa.alloc (.cells (madeCells #[.int .u8 0] m) 5)) .u8 A x.body) := hr.out.below (CA.out.trans CM.out (fun _ _ h => h)).done
  have BX1 := Lib.hid (BX.out.chg CM.out id)
  have s2 := BX1.out.at_ (i := 1) rfl
  have hxl : Hid (x.body.length ≤ (List.replicate m (0 : Int)).length) := by rw [Hid, List.length_replicate, HM.out]; exact Nat.le_refl _
  go_wp2_with ((with_reducible refine gate_copy ?_); go_must (refine wp_copyn rfl _ _ 29 5 .u8 rfl Try.underlying29 size1 (.slice (some ⟨wa.heap.size, 0, none⟩) m m) _ rfl hz.out A m c x.body rfl HM.out hR1.out hxl.out ?_); intro w1 k1 k2; have O1 : Hid (OwnB w1 (.slice (some ⟨wa.heap.size, 0, none⟩) m m) x.body) := (by have := k1; rw [List.drop_of_length_le (by rw [List.length_replicate, HM.out]; exact Nat.le_refl _), List.append_nil] at this; exact this); have K2 : Hid (Chg (fun y => y = wa.heap.size) wa w1) := (CM.out.mono (fun _ _ h => h.elim)).trans k2 (fun y hy h => by simp [Value.ownBlock] at h; exact h.symm); clear k1 k2; have BX2 := Lib.hid (BX.out.chg K2.out (fun e => by have := BX.out.lt; omega)); have BY2 := Lib.hid (BY.out.chg K2.out (fun e => by have := BY.out.lt; omega)); have t0 := BX2.out.at_ (i := 0) rfl; have y0 := BY2.out.at_ (i := 0) rfl; have y1 := BY2.out.at_ (i := 1) rfl; have fy0 := BY2.out.frozen (i := 0) (by simp); have fy1 := BY2.out.frozen (i := 1) (by simp); have B5 : Hid (Blk ((w1.setCell ⟨h + 1, 0, none⟩ (.int .i64 x.id)).setCell ⟨h + 1, 1, none⟩ (.slice (some ⟨wa.heap.size, 0, none⟩) m m)) (h + 1) 31 [.int .i64 x.id, .slice (some ⟨wa.heap.size, 0, none⟩) m m]) := (BY2.out.set 0 _).set 1 _; have z0 := B5.out.at_ (i := 0) rfl; have z1 := B5.out.at_ (i := 1) rfl; have yy1 := (BY2.out.set 0 (.int .i64 x.id)).at_ (i := 1) rfl; have yf1 := (BY2.out.set 0 (.int .i64 x.id)).frozen (i := 1) (by simp))
  refine bodyPost_ret (v := .agg #[.int .i64 x.id, .slice (some ⟨wa.heap.size, 0, none⟩) m m]) (by simp [results, Try.results69, go_sem, z0, z1]) rfl ⟨_, m, rfl, ?_, ?_, fun k hk => ?_⟩
  · refine O1.out.chg (S := fun y => y = h + 1) (((Chg.refl (fun y => y = h + 1) w1).setCell (p := ⟨h + 1, 0, none⟩) (fun _ => rfl) _).setCell (p := ⟨h + 1, 1, none⟩) (fun _ => rfl) _) (fun y hy e => OwnV.type_ne O1.out BY2.out (by decide) (by rw [hy, e]))
  · have hge : ¬ h + 1 < w.heap.size := by have := HH.out; omega
    have hwz : ¬ wa.heap.size < w.heap.size := by have := CA.out.size; omega
    exact ((CA.out.trans K2.out (fun y hy e => by omega)).setCell (p := ⟨h + 1, 0, none⟩) (fun e => absurd e hge) _).setCell (p := ⟨h + 1, 1, none⟩) (fun e => absurd e hge) _
  · have := blk_ge (b := wa.heap.size) (B := wa.heap.size) (Nat.le_refl _) k hk
    have := CA.out.size
    omega
theorem rrecordNo {D : Nat → Prop} {g : Nat} {l : List SecV} {n : Nat} {i : Int} {w : World} (HN : Hid (n = l.length)) (hi : i < 0 ∨ (n : Int) ≤ i) (hj : Hid (RJ w D g l)) :
    Calls Try.prog 56 #[.pointer (some ⟨g, 0, none⟩), .int .i64 i] w fun e w' => e = .returned (.tuple #[.agg #[.int .i64 0, .slice none 0 0], .int .i64 2]) ∧ Chg (fun _ => False) w w' := by
  obtain ⟨vR, bs, hb, hv, h2, h4⟩ := hj.out.ex
  obtain ⟨AR, cR, hR, hcR, _⟩ := hv.row.slice
  rw [← HN.out] at hR
  have c1 := hb.at_ (i := 0) rfl
  rw [hR] at c1
  obtain ⟨wa, hwa⟩ : ∃ wa, wa = w.alloc (.cells #[.int .i64 0, .slice none 0 0] 31) := ⟨_, rfl⟩
  obtain ⟨h, hh⟩ : ∃ h, h = w.heap.size := ⟨_, rfl⟩
  have CA : Hid (Chg (fun _ => False) w wa) := by rw [hwa]; exact (Chg.refl _ w).alloc _
  have BX : Hid (Blk wa h 31 [.int .i64 0, .slice none 0 0]) := by rw [hwa, hh]; exact Blk.new _ _ _
  have c1a : wa.cell? ⟨g, 0, none⟩ = some (.slice AR n cR) := CA.out.cell (fun h => h) c1
  have HH := Lib.hid hh
  have HWA := Lib.hid hwa
  have s0 := BX.out.at_ (i := 0) rfl
  have s1 := BX.out.at_ (i := 1) rfl
  have f0 := BX.out.frozen (i := 0) (by simp)
  have f1 := BX.out.frozen (i := 1) (by simp)
  have B5 : Hid (Blk ((wa.setCell ⟨h, 0, none⟩ (.int .i64 0)).setCell ⟨h, 1, none⟩ (.slice none 0 0)) h 31 [.int .i64 0, .slice none 0 0]) := (BX.out.set 0 _).set 1 _
  have z0 := B5.out.at_ (i := 0) rfl
  have z1 := B5.out.at_ (i := 1) rfl
  have yy1 := (BX.out.set 0 (.int .i64 0)).at_ (i := 1) rfl
  have yf1 := (BX.out.set 0 (.int .i64 0)).frozen (i := 1) (by simp)
  have hge : ¬ h < w.heap.size := by omega
  have CC : Hid (Chg (fun _ => False) w ((wa.setCell ⟨h, 0, none⟩ (.int .i64 0)).setCell ⟨h, 1, none⟩ (.slice none 0 0))) := (CA.out.setCell (p := ⟨h, 0, none⟩) (fun e => absurd e hge) _).setCell (p := ⟨h, 1, none⟩) (fun e => absurd e hge) _
  clear hR hb hv h2 h4 hcR hwa hh hge
  rcases hi with hi | hi
  · go_enter Try.func56, Try.ntmps56
    go_upto_region 1 with fail
    rw [← HWA.out, ← HH.out]
    go_wp2_with fail
    exact bodyPost_ret (v := .tuple #[.agg #[.int .i64 0, .slice none 0 0], .int .i64 2]) (by simp [results, Try.results56, go_sem, z0, z1]) rfl ⟨rfl, CC.out⟩
  · have h0 : ¬ i < 0 := by have : (0 : Int) ≤ (n : Int) := Int.natCast_nonneg _; omega
    go_enter Try.func56, Try.ntmps56
    go_upto_region 1 with fail
    rw [← HWA.out, ← HH.out]
    go_wp2_with fail
    exact bodyPost_ret (v := .tuple #[.agg #[.int .i64 0, .slice none 0 0], .int .i64 2]) (by simp [results, Try.results56, go_sem, z0, z1]) rfl ⟨rfl, CC.out⟩
/-- what a row of one's own holds of its i-th -/
theorem recs_at {w : World} {v : Value} {l : List SecV} {bs : List Value} (h : Recs w v l bs) {i : Nat} {x : SecV} (hx : l[i]? = some x) : ∃ ad Ab cb c, v = .slice (some ad) l.length c ∧ w.cell? (ad.add (i * 2)) = some (.int .i64 x.id) ∧ w.cell? ⟨(ad.add (i * 2)).block, (ad.add (i * 2)).off + 1, none⟩ = some (.slice Ab x.body.length cb) ∧ OwnB w (.slice Ab x.body.length cb) x.body ∧ .slice Ab x.body.length cb ∈ bs ∧ x.body.length ≤ cb := by
  obtain ⟨hil, hxe⟩ := List.getElem?_eq_some_iff.1 hx
  have hib : i < bs.length := by rw [h.lenB]; exact hil
  obtain ⟨g1, g2⟩ := tCells_get l bs i hil hib
  obtain ⟨A, c, hv, hc, _⟩ := h.row.slice
  have hrow := h.row
  rw [hv] at hrow
  obtain ⟨ad, e1, k1, _⟩ := hrow.cells _ _ _ rfl _ _ g1
  obtain ⟨ad', e2, k2, _⟩ := hrow.cells _ _ _ rfl _ _ g2
  rw [e1] at e2
  injection e2 with e2
  subst e2
  have hob := h.own i hil hib
  have hmem : bs[i] ∈ bs := List.getElem_mem hib
  rw [hxe] at hob k1
  obtain ⟨Ab, cb, hbv, hcb, hmb⟩ := hob.slice
  rw [hbv] at k2 hob hmem
  subst e1
  refine ⟨ad, Ab, cb, c, hv, k1, ?_, hob, hmem, hcb⟩
  rw [show (⟨(ad.add (i * 2)).block, (ad.add (i * 2)).off + 1, none⟩ : Addr) = (ad.add (i * 2)).add 1 from rfl, Go.Deep.add_add]
  exact k2
set_option maxRecDepth 20000 in
theorem rrecordOk {D : Nat → Prop} {g : Nat} {l : List SecV} {n i : Nat} {x : SecV} {w : World} (HN : Hid (n = l.length)) (hi : i < n) (hn : n ≤ 1073741824) (hx : Hid (l[i]? = some x)) (hxl : x.body.length ≤ 4194304) (hj : Hid (RJ w D g l)) :
    Calls Try.prog 56 #[.pointer (some ⟨g, 0, none⟩), .int .i64 i] w fun e w' => ∃ A m c, e = .returned (.tuple #[.agg #[.int .i64 x.id, .slice A m c], .int .i64 0]) ∧ OwnB w' (.slice A m c) x.body ∧ m = x.body.length ∧ Chg (fun _ => False) w w' ∧ ∀ k, Value.ownBlock (.slice A m c) = some k → w.heap.size ≤ k := by
  obtain ⟨vR, bs, hb, hv, h2, h4⟩ := hj.out.ex
  obtain ⟨ad, Ab, cb, cR, hR, k1, k2, hob, _, hcb⟩ := recs_at hv hx.out
  obtain ⟨mb, hmb⟩ : ∃ mb, mb = x.body.length := ⟨_, rfl⟩
  rw [← hmb] at k2 hob hcb
  rw [← HN.out] at hR
  have c1 := hb.at_ (i := 0) rfl
  rw [hR] at c1
  obtain ⟨wa, hwa⟩ : ∃ wa, wa = w.alloc (.cells #[.int .i64 0, .slice none 0 0] 31) := ⟨_, rfl⟩
  obtain ⟨h, hh⟩ : ∃ h, h = w.heap.size := ⟨_, rfl⟩
  have CA : Hid (Chg (fun _ => False) w wa) := by rw [hwa]; exact (Chg.refl _ w).alloc _
  have BX : Hid (Blk wa h 31 [.int .i64 0, .slice none 0 0]) := by rw [hwa, hh]; exact Blk.new _ _ _
  have c1a : wa.cell? ⟨g, 0, none⟩ = some (.slice (some ad) n cR) := CA.out.cell (fun h => h) c1
  have k1a := CA.out.cell (fun h => h) k1
  have k2a := CA.out.cell (fun h => h) k2
  have HMB := Lib.hid hmb
  have hmb4 : mb ≤ 4194304 := by rw [hmb]; exact hxl
  have RA : Hid (Rd wa .u8 Ab x.body) := (hob.chg CA.out (fun _ _ h => h)).rd (by rw [hmb])
  have HH := Lib.hid hh
  have HWA := Lib.hid hwa
  have b1 : (0 : Int) ≤ (i : Int) := by omega
  have b2 : (i : Int) < (n : Int) := by omega
  clear hR hb hv h2 h4 hwa hh hmb hob c1 k1 k2
  go_enter Try.func56, Try.ntmps56
  go_upto_region 1 with fail
  rw [← HWA.out, ← HH.out]
  go_wp2_with fail
  refine (rcopied HMB hmb4 RA).mono ?_
  rintro e w1 ⟨A1, c1', rfl, o1, k1, k2⟩
  have O1 := Lib.hid o1
  have K1 := Lib.hid k1
  have K2 := Lib.hid k2
  have BX1 := Lib.hid (BX.out.chg k1 id)
  have s0 := BX1.out.at_ (i := 0) rfl
  have s1 := BX1.out.at_ (i := 1) rfl
  have f0 := BX1.out.frozen (i := 0) (by simp)
  have f1 := BX1.out.frozen (i := 1) (by simp)
  have B5 : Hid (Blk ((w1.setCell ⟨h, 0, none⟩ (.int .i64 x.id)).setCell ⟨h, 1, none⟩ (.slice A1 mb c1')) h 31 [.int .i64 x.id, .slice A1 mb c1']) := (BX1.out.set 0 _).set 1 _
  have z0 := B5.out.at_ (i := 0) rfl
  have z1 := B5.out.at_ (i := 1) rfl
  have yy1 := (BX1.out.set 0 (.int .i64 x.id)).at_ (i := 1) rfl
  have yf1 := (BX1.out.set 0 (.int .i64 x.id)).frozen (i := 1) (by simp)
  have hge : ¬ h < w.heap.size := by have := HH.out; omega
  clear o1 k1 k2
  go_wp2_with fail
  refine bodyPost_ret (v := .tuple #[.agg #[.int .i64 x.id, .slice A1 mb c1'], .int .i64 0]) (by simp [results, Try.results56, go_sem, z0, z1]) rfl ⟨A1, mb, c1', rfl, ?_, HMB.out, ?_, fun k hk => Nat.le_trans CA.out.size (K2.out k hk)⟩
  · exact O1.out.chg (S := fun y => y = h) (((Chg.refl (fun y => y = h) w1).setCell (p := ⟨h, 0, none⟩) (fun _ => rfl) _).setCell (p := ⟨h, 1, none⟩) (fun _ => rfl) _) (fun y hy e => OwnV.type_ne O1.out BX1.out (by decide) (by rw [hy, e]))
  · exact ((CA.out.trans K1.out (fun _ _ h => h)).setCell (p := ⟨h, 0, none⟩) (fun e => absurd e hge) _).setCell (p := ⟨h, 1, none⟩) (fun e => absurd e hge) _
end Go.Proofs.Ytlnomadhgoblkaa.Kit
