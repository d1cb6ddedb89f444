/- append onto a row of one's own, with the widest bound. -/
import Derived.Test.YtlnomadhgoblkaaKit
import Derived.Deep.DeepAppendWide
set_option linter.unusedVariables false
set_option linter.unusedSimpArgs false
set_option linter.unnecessarySimpa false
namespace Go.Proofs.Ytlnomadhgoblkaa.Kit
open Go.RowKit
section
variable {P : Program} (w : World)
/-- append onto a row of one's own, from a slice that is read (nil let in). -/
theorem run_appW (t ty e : TypeId) (z : Value) (sz bytes : Nat) (ht : P.underlying t = some (.slice e)) (hinfo : (P.info? e).map (fun i => (i.zero, i.size, i.bytes)) = some (some z, sz, bytes))
    (hzs : z.cells.size = sz) (hsz : 0 < sz) (hby : 0 < bytes)
    (v : Value) (n : Nat) (cs : List Value) (hown : OwnV w e sz v n cs)
    (A : Option Addr) (m c : Nat) (news : List Value) (hl : news.length = m * sz) (hnews : ∀ j u, news[j]? = some u → ∃ ad, A = some ad ∧ w.cell? (ad.add j) = some u) (h1 : ∀ u ∈ news, u.oneCell' = true)
    (hbytes : ((n + m) + (n + m) / 4 + 192) * bytes ≤ 281474976710656) :
    ∃ v' w', (Builtin.append_ #[t, t] ty #[v, .slice A m c]).run P w = .ok v' w' ∧ OwnV w' e sz v' (n + m) (cs ++ news) ∧ OwnV w' e sz v n cs ∧ Chg (fun k => v.ownBlock = some k) w w' ∧
      (v'.ownBlock = v.ownBlock ∨ v'.ownBlock = some w.heap.size) := by
  obtain ⟨i, hi, hzz⟩ := Option.map_eq_some_iff.1 hinfo
  simp only [Prod.mk.injEq] at hzz
  obtain ⟨hz, rfl, rfl⟩ := hzz
  have hnm : n + m ≤ 281474976710656 := Nat.le_trans (Nat.le_trans (by omega : n + m ≤ (n + m) + (n + m) / 4 + 192) (Nat.le_mul_of_pos_right _ hby)) hbytes
  have hlen : (cs ++ news).length = (n + m) * i.size := by rw [List.length_append, hown.1, hl, Nat.add_mul]
  rcases A with _ | a
  · have h0 : m = 0 := by
      rcases Nat.eq_zero_or_pos m with h0 | h0
      · exact h0
      · have hp : 0 < news.length := by rw [hl]; exact Nat.mul_pos h0 hsz
        obtain ⟨ad, h, _⟩ := hnews 0 news[0] (by rw [List.getElem?_eq_getElem hp])
        cases h
    subst h0
    obtain rfl : news = [] := List.eq_nil_of_length_eq_zero (by simpa using hl)
    refine ⟨v, w, ?_, by simpa using hown, hown, Chg.refl _ _, .inl rfl⟩
    rcases hown.2 with ⟨rfl, hn⟩ | ⟨g, cap, cur, rfl, _, hnc, _⟩
    · simp [Builtin.append_, run_underlying ht, sizeOf, typeInfo, hi, Builtin.lenOf, Builtin.firstCells]
    · simp [Builtin.append_, run_underlying ht, sizeOf, typeInfo, hi, Builtin.lenOf, Builtin.firstCells, hnc, storeCells]
  · have hcells : ∀ j u, news[j]? = some u → w.cell? (a.add j) = some u := by
      intro j u hu
      obtain ⟨ad, h, hc⟩ := hnews j u hu
      injection h with h
      subst h
      exact hc
    have grown : ∀ (old : Nat), old < n + m →
        OwnV (w.drew.alloc (.cells (cs.toArray ++ news.toArray ++ Builtin.zeroCells z.cells (grownCap w (n + m) old e - (n + m))) e)) e i.size
          (.slice (some ⟨w.heap.size, 0, none⟩) (n + m) (grownCap w (n + m) old e)) (n + m) (cs ++ news) ∧
        OwnV (w.drew.alloc (.cells (cs.toArray ++ news.toArray ++ Builtin.zeroCells z.cells (grownCap w (n + m) old e - (n + m))) e)) e i.size v n cs ∧
        Chg (fun k => v.ownBlock = some k) w (w.drew.alloc (.cells (cs.toArray ++ news.toArray ++ Builtin.zeroCells z.cells (grownCap w (n + m) old e - (n + m))) e)) := by
      intro old ho
      have hge := grownCap_ge w (n + m) old e
      have hcm : grownCap w (n + m) old e ≤ maxLen := grownCap_le_maxLen w (n + m) old e (by simp only [maxLen]; omega)
      have hc0 : Chg (fun _ => False) w (w.drew.alloc (.cells (cs.toArray ++ news.toArray ++ Builtin.zeroCells z.cells (grownCap w (n + m) old e - (n + m))) e)) := ((Chg.refl _ w).drew).alloc _
      refine ⟨⟨hlen, .inr ⟨w.heap.size, _, _, rfl, Blk.new w.drew _ e, hge, hcm, ?_, ?_⟩⟩, hown.chg hc0 (fun _ _ h => h), hc0.mono (fun _ _ h => h.elim)⟩
      · simp only [Array.toList_append, List.length_append, Array.length_toList, size_zeroCells, hzs, hown.1, hl]
        rw [← Nat.add_mul, ← Nat.add_mul]
        exact Nat.le_of_eq (by congr 1; omega)
      · simp only [Array.toList_append, List.append_assoc]
        rw [← List.append_assoc, ← hlen]
        exact List.take_left
    rcases hown.2 with ⟨rfl, rfl⟩ | ⟨g, cap, cur, rfl, hb, hnc, hcm, hcs, htake⟩
    · have hx : cs = [] := List.eq_nil_of_length_eq_zero (by simpa using hown.1)
      subst hx
      by_cases hm : m = 0
      · subst hm
        obtain rfl : news = [] := List.eq_nil_of_length_eq_zero (by simpa using hl)
        refine ⟨.slice none 0 0, w, ?_, OwnV.nil _ _ _, OwnV.nil _ _ _, Chg.refl _ _, .inl rfl⟩
        simp [Builtin.append_, run_underlying ht, sizeOf, typeInfo, hi, Builtin.lenOf, Builtin.firstCells, loadCells, loadCellsFrom]
      · have hr := run_append_nil (P := P) w t ty e i z ht hi hz a m c news hl hcells (by omega) (by omega) (by have hb := hbytes; simp only [Nat.zero_add] at hb; exact Nat.le_trans (Nat.mul_le_mul_right _ (by omega)) hb)
        have hgr := grown 0 (by omega)
        simp only [Nat.zero_add, List.nil_append, Array.empty_append] at hgr ⊢
        exact ⟨_, _, hr, hgr.1, hgr.2.1, hgr.2.2, .inr rfl⟩
    · by_cases hroom : n + m ≤ cap
      · have hfit : n * i.size + news.length ≤ cur.length := by rw [hl, ← Nat.add_mul]; exact Nat.le_trans (Nat.mul_le_mul_right _ hroom) hcs
        have hf := run_firstCells_some (P := P) w i.size m a m c news hl hcells
        obtain ⟨w', hr, hb', hc⟩ := run_storeCells P g e news (n * i.size) 0 cur w hb (by simpa using hfit) h1
        refine ⟨.slice (some ⟨g, 0, none⟩) (n + m) cap, w', ?_, ⟨hlen, .inr ⟨g, cap, _, rfl, hb', hroom, hcm, ?_, ?_⟩⟩, ⟨hown.1, .inr ⟨g, cap, _, rfl, hb', hnc, hcm, ?_, ?_⟩⟩, hc.mono (fun k _ hk => by subst hk; rfl), .inl rfl⟩
        · have hadd : (⟨g, 0, none⟩ : Addr).add (n * i.size) = ⟨g, n * i.size, none⟩ := by unfold Addr.add; split <;> simp_all
          simp [Builtin.append_, run_underlying ht, sizeOf, typeInfo, hi, Builtin.lenOf, hroom, hf, hadd, hr]
        · simp only [List.length_append, List.length_take, List.length_drop]
          omega
        · rw [Nat.add_zero, htake, ← hlen]
          exact List.take_left
        · simp only [List.length_append, List.length_take, List.length_drop]
          omega
        · rw [Nat.add_zero, htake, ← hown.1, List.append_assoc]
          exact List.take_left
      · have holds : ∀ j u, cs[j]? = some u → w.cell? ((⟨g, 0, none⟩ : Addr).add j) = some u := by
          intro j u hu
          obtain ⟨ad, h, hc, _⟩ := hown.cells _ _ _ rfl j u hu
          injection h with h
          subst h
          exact hc
        have hr := run_append_grow (P := P) w t ty e i z ht hi hz ⟨g, 0, none⟩ n cap cs hown.1 holds a m c news hl hcells (by omega) (by omega) (growslice_fits_wide (by omega) hbytes)
        have hgr := grown cap (by omega)
        exact ⟨_, _, hr, hgr.1, hgr.2.1, hgr.2.2, .inr rfl⟩
end
section
variable {P : Program} {ops : Array Oper} {rest : List Oper} {o : Oper} {a : Act} {Q : Exit → Act → World → Prop}
/-- at the operation: behind 'at_builtin' -/
theorem ow_appW {W : World} {K : Act → World → Prop} (s x : Operand) (t e : TypeId) (z : Value) (sz bytes : Nat)
    (ho : o.op = .call { callee := .builtin .append, args := #[s, x], argTypes := #[t, t] })
    (ht : P.underlying t = some (.slice e)) (hinfo : (P.info? e).map (fun i => (i.zero, i.size, i.bytes)) = some (some z, sz, bytes)) (hzs : z.cells.size = sz) (hsz : 0 < sz) (hby : 0 < bytes)
    (v : Value) (n : Nat) (cs : List Value) (hs : a.eval s = v) (hown : OwnV W e sz v n cs)
    (A : Option Addr) (m c : Nat) (news : List Value) (hx : a.eval x = .slice A m c) (hl : news.length = m * sz) (hnews : ∀ j u, news[j]? = some u → ∃ ad, A = some ad ∧ W.cell? (ad.add j) = some u) (h1 : ∀ u ∈ news, u.oneCell' = true)
    (hbytes : ((n + m) + (n + m) / 4 + 192) * bytes ≤ 281474976710656)
    (h : ∀ v' w', OwnV w' e sz v' (n + m) (cs ++ news) → OwnV w' e sz v n cs → Chg (fun k => v.ownBlock = some k) W w' → (v'.ownBlock = v.ownBlock ∨ v'.ownBlock = some W.heap.size) → K (a.put o.dst v') w') :
    o.wp P a W K Q := by
  obtain ⟨v', w', hr, h2, h3, h4, h5⟩ := run_appW (P := P) W t o.type e z sz bytes ht hinfo hzs hsz hby v n cs hown A m c news hl hnews h1 hbytes
  unfold Oper.wp execOp
  simp only [ho, resolve, invoke, builtin, Sem.run_bind, Sem.run_pure, Result.andThen_ok, List.map_toArray, List.map_cons, List.map_nil, hs, hx, hr]
  exact h v' w' h2 h3 h4 h5
/-- append(v, ys...) of whole numbers -/
theorem ow_appnW {W : World} {K : Act → World → Prop} (s x : Operand) (t e : TypeId) (k : IntKind) (bytes : Nat)
    (ho : o.op = .call { callee := .builtin .append, args := #[s, x], argTypes := #[t, t] })
    (ht : P.underlying t = some (.slice e)) (hinfo : (P.info? e).map (fun i => (i.zero, i.size, i.bytes)) = some (some (.int k 0), 1, bytes)) (hby : 0 < bytes)
    (v : Value) (l : List Int) (hs : a.eval s = v) (hown : Own W e k v l)
    (A : Option Addr) (c : Nat) (m : List Int) (n : Nat) (hx : a.eval x = .slice A n c) (hn : n = m.length) (hr : Rd W k A m) (hbytes : ((l.length + m.length) + (l.length + m.length) / 4 + 192) * bytes ≤ 281474976710656)
    (h : ∀ v' w', Own w' e k v' (l ++ m) → Own w' e k v l → Chg (fun g => v.ownBlock = some g) W w' → Fresh W v v' → K (a.put o.dst v') w') : o.wp P a W K Q := by
  subst hn
  refine ow_appW s x t e (.int k 0) 1 bytes ho ht hinfo rfl (by decide) hby v l.length (nums k l) hs hown A m.length c (nums k m) hx (by simp [nums]) hr.news (nums_cell k m) hbytes fun v' w' h2 h3 h4 h5 => h v' w' ?_ h3 h4 (h5.imp id fun h5 g hg => by rw [h5] at hg; injection hg with hg; omega)
  unfold Own
  rw [nums_append, List.length_append]
  exact h2
theorem wp_appnW {W : World} (hgd : o.guard = none) (s x : Operand) (t e : TypeId) (k : IntKind) (bytes : Nat)
    (ho : o.op = .call { callee := .builtin .append, args := #[s, x], argTypes := #[t, t] })
    (ht : P.underlying t = some (.slice e)) (hinfo : (P.info? e).map (fun i => (i.zero, i.size, i.bytes)) = some (some (.int k 0), 1, bytes)) (hby : 0 < bytes)
    (v : Value) (l : List Int) (hs : a.eval s = v) (hown : Own W e k v l)
    (A : Option Addr) (c : Nat) (m : List Int) (n : Nat) (hx : a.eval x = .slice A n c) (hn : n = m.length) (hr : Rd W k A m) (hbytes : ((l.length + m.length) + (l.length + m.length) / 4 + 192) * bytes ≤ 281474976710656)
    (h : ∀ v' w', Own w' e k v' (l ++ m) → Own w' e k v l → Chg (fun g => v.ownBlock = some g) W w' → Fresh W v v' → wpList P ops Q rest (a.put o.dst v') w') : wpList P ops Q (o :: rest) a W :=
  wpList_plain hgd fun _ hK => ow_appnW s x t e k bytes ho ht hinfo hby v l hs hown A c m n hx hn hr hbytes fun v' w' h2 h3 h4 h5 => hK _ _ (h v' w' h2 h3 h4 h5)
theorem st_appnW {W : World} {K : Act → World → Prop} {E : Prop} (hgd : o.guard = none) (s x : Operand) (t e : TypeId) (k : IntKind) (bytes : Nat)
    (ho : o.op = .call { callee := .builtin .append, args := #[s, x], argTypes := #[t, t] })
    (ht : P.underlying t = some (.slice e)) (hinfo : (P.info? e).map (fun i => (i.zero, i.size, i.bytes)) = some (some (.int k 0), 1, bytes)) (hby : 0 < bytes)
    (v : Value) (l : List Int) (hs : a.eval s = v) (hown : Own W e k v l)
    (A : Option Addr) (c : Nat) (m : List Int) (n : Nat) (hx : a.eval x = .slice A n c) (hn : n = m.length) (hr : Rd W k A m) (hbytes : ((l.length + m.length) + (l.length + m.length) / 4 + 192) * bytes ≤ 281474976710656)
    (h : ∀ v' w', Own w' e k v' (l ++ m) → Own w' e k v l → Chg (fun g => v.ownBlock = some g) W w' → Fresh W v v' → K (a.put o.dst v') w') : if Region.wanted o (yielded ops a.tmps) = true then o.wp P a W K Q else E := by
  rw [if_pos (by simp [Region.wanted, hgd])]
  exact ow_appnW s x t e k bytes ho ht hinfo hby v l hs hown A c m n hx hn hr hbytes h
/-- append(v, y): the world is 'W.alloc' of the box of y -/
theorem wp_app1W {W : World} (hgd : o.guard = none) (s x : Operand) (t e : TypeId) (k : IntKind) (bytes : Nat)
    (ho : o.op = .call { callee := .builtin .append, args := #[s, x], argTypes := #[t, t] })
    (ht : P.underlying t = some (.slice e)) (hinfo : (P.info? e).map (fun i => (i.zero, i.size, i.bytes)) = some (some (.int k 0), 1, bytes)) (hby : 0 < bytes)
    (v : Value) (l : List Int) (y : Int) (hs : a.eval s = v) (hown : Own W e k v l)
    (hx : a.eval x = .slice (some ⟨W.heap.size, 0, none⟩) 1 1) (hbytes : ((l.length + 1) + (l.length + 1) / 4 + 192) * bytes ≤ 281474976710656)
    (h : ∀ v' w', Own w' e k v' (l ++ [y]) → Own w' e k v l → Chg (fun g => v.ownBlock = some g) W w' → Fresh W v v' → wpList P ops Q rest (a.put o.dst v') w') :
    wpList P ops Q (o :: rest) a (W.alloc (.cells #[.int k y] e)) := by
  refine wp_appnW (W := W.alloc (.cells #[.int k y] e)) hgd s x t e k bytes ho ht hinfo hby v l hs (hown.alloc _) _ 1 [y] 1 hx rfl ?_ hbytes fun v' w' h2 h3 h4 h5 => h v' w' h2 h3 ?_ ?_
  · intro i hi
    have : i = 0 := by simp at hi; omega
    subst this
    refine ⟨_, rfl, ?_⟩
    have := (Blk.new W #[.int k y] e).cell 0
    rw [show (⟨W.heap.size, 0, none⟩ : Addr).add 0 = ⟨W.heap.size, 0, none⟩ from rfl, this]
    rfl
  · exact ((Chg.refl _ W).alloc _).trans h4 (fun _ _ h => h)
  · exact h5.imp id fun h5 g hg => by
      have := h5 g hg
      simp at this
      omega
end
end Go.Proofs.Ytlnomadhgoblkaa.Kit
