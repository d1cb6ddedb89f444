/- append of a struct of two cells; cells of such. -/
import Derived.Test.YtlnomadhgoblkaaProg
import Derived.Test.YtlnomadhgoblkaaSecs
set_option linter.unusedVariables false
set_option linter.unusedSimpArgs false
namespace Go.Proofs.Ytlnomadhgoblkaa.Kit
open Go.RowKit
theorem box_news2 {W W' : World} (x y : Value) (e : TypeId) (hW : ∀ p, W'.cell? p = (W.alloc (.cells #[x, y] e)).cell? p) : ∀ (j : Nat) (u : Value), [x, y][j]? = some u → ∃ ad, some (⟨W.heap.size, 0, none⟩ : Addr) = some ad ∧ W'.cell? (ad.add j) = some u := by
  intro j u hj
  have hj2 : j < 2 := by
    rcases Nat.lt_or_ge j 2 with h | h
    · exact h
    · rw [List.getElem?_eq_none (by simpa using h)] at hj
      cases hj
  refine ⟨_, rfl, ?_⟩
  rw [hW]
  have := (Blk.new W #[x, y] e).cell j
  rw [show (⟨W.heap.size, 0, none⟩ : Addr).add j = ⟨W.heap.size, j, none⟩ from by unfold Addr.add; split <;> simp_all, this]
  exact hj
section
variable {P : Program} {ops : Array Oper} {rest : List Oper} {o : Oper} {a : Act} {Q : Exit → Act → World → Prop}
/-- append(v, y) of a struct of two cells -/
theorem st_app2 {W : World} {K : Act → World → Prop} {E : Prop} (hgd : o.guard = none) (s x : Operand) (t e : TypeId) (z : Value) (bytes : Nat)
    (ho : o.op = .call { callee := .builtin .append, args := #[s, x], argTypes := #[t, t] })
    (ht : P.underlying t = some (.slice e)) (hinfo : (P.info? e).map (fun i => (i.zero, i.size, i.bytes)) = some (some z, 2, bytes)) (hzs : z.cells.size = 2) (hby : 0 < bytes)
    (v : Value) (n : Nat) (cs : List Value) (y1 y2 : Value) (hy1 : y1.oneCell' = true) (hy2 : y2.oneCell' = true) (hs : a.eval s = v) (hown : OwnV W e 2 v n cs) (b : Nat)
    (hx : a.eval x = .slice (some ⟨b, 0, none⟩) 1 1) (hn : ∀ (j : Nat) (u : Value), [y1, y2][j]? = some u → ∃ ad, some (⟨b, 0, none⟩ : Addr) = some ad ∧ W.cell? (ad.add j) = some u) (hbytes : (n + 1) * bytes ≤ 140737488355328)
    (h : ∀ v' w', OwnV w' e 2 v' (n + 1) (cs ++ [y1, y2]) → Chg (fun g => v.ownBlock = some g) W w' → Fresh W v v' → K (a.put o.dst v') w') : if Region.wanted o (yielded ops a.tmps) = true then o.wp P a W K Q else E := by
  rw [if_pos (by simp [Region.wanted, hgd])]
  refine ow_app s x t e z 2 bytes ho ht hinfo hzs (by decide) hby v n cs hs hown _ 1 1 [y1, y2] hx rfl hn (by simp [hy1, hy2]) hbytes fun v' w' h2 h3 h4 h5 => h v' w' h2 h4 ?_
  rcases h5 with h5 | h5
  · exact .inl h5
  · refine .inr fun g hg => ?_
    rw [h5] at hg
    injection hg with hg
    omega
end
section
variable {P : Program} {ops : Array Oper} {rest : List Oper} {o : Oper} {a : Act} {Q : Exit → Act → World → Prop}
/-- append(v, y) of a struct of two cells: the world is 'W.alloc' of the box of y -/
theorem wp_app2 {W : World} (hgd : o.guard = none) (s x : Operand) (t e : TypeId) (z : Value) (bytes : Nat)
    (ho : o.op = .call { callee := .builtin .append, args := #[s, x], argTypes := #[t, t] })
    (ht : P.underlying t = some (.slice e)) (hinfo : (P.info? e).map (fun i => (i.zero, i.size, i.bytes)) = some (some z, 2, bytes)) (hzs : z.cells.size = 2) (hby : 0 < bytes)
    (v : Value) (n : Nat) (cs : List Value) (y1 y2 : Value) (hy1 : y1.oneCell' = true) (hy2 : y2.oneCell' = true) (hs : a.eval s = v) (hown : OwnV W e 2 v n cs)
    (hx : a.eval x = .slice (some ⟨W.heap.size, 0, none⟩) 1 1) (hbytes : (n + 1) * bytes ≤ 140737488355328)
    (h : ∀ v' w', OwnV w' e 2 v' (n + 1) (cs ++ [y1, y2]) → Chg (fun g => v.ownBlock = some g) W w' → Fresh W v v' → wpList P ops Q rest (a.put o.dst v') w') :
    wpList P ops Q (o :: rest) a (W.alloc (.cells #[y1, y2] e)) :=
  wpList_plain hgd fun _ hK => by
    refine ow_app (W := W.alloc (.cells #[y1, y2] e)) s x t e z 2 bytes ho ht hinfo hzs (by decide) hby v n cs hs (hown.chg (S := fun _ => False) ((Chg.refl _ W).alloc _) (fun _ _ h => h)) _ 1 1 [y1, y2] hx rfl (box_news2 _ _ _ (fun _ => rfl)) (by simp [hy1, hy2]) hbytes fun v' w' h2 h3 h4 h5 => hK _ _ (h v' w' h2 ?_ ?_)
    · exact ((Chg.refl _ W).alloc _).trans h4 (fun _ _ h => h)
    · rcases h5 with h5 | h5
      · exact .inl h5
      · refine .inr fun g hg => ?_
        rw [h5] at hg
        injection hg with hg
        simp at hg
        omega
end
def tCells : List SecV → List Value → List Value
  | x :: xs, b :: bs => .int .i64 x.id :: b :: tCells xs bs
  | _, _ => []
theorem tCells_snoc : ∀ (l : List SecV) (bs : List Value) (x : SecV) (b : Value), l.length = bs.length → tCells (l ++ [x]) (bs ++ [b]) = tCells l bs ++ [.int .i64 x.id, b]
  | [], [], x, g, _ => rfl
  | y :: ys, h :: hs, x, g, e => by
    show _ :: _ :: tCells (ys ++ [x]) (hs ++ [g]) = _
    rw [tCells_snoc ys hs x g (by simpa using e)]
    rfl
  | [], _ :: _, _, _, e => by simp at e
  | _ :: _, [], _, _, e => by simp at e
theorem tCells_get : ∀ (l : List SecV) (bs : List Value) (i : Nat) (h : i < l.length) (h' : i < bs.length), (tCells l bs)[i * 2]? = some (.int .i64 l[i].id) ∧ (tCells l bs)[i * 2 + 1]? = some bs[i]
  | [], _, i, h, _ => absurd h (by simp)
  | _ :: _, [], i, _, h => absurd h (by simp)
  | x :: xs, g :: gs, 0, _, _ => ⟨rfl, rfl⟩
  | x :: xs, g :: gs, i + 1, h, h' => by
    have := tCells_get xs gs i (by simpa using h) (by simpa using h')
    rw [show (i + 1) * 2 = i * 2 + 1 + 1 by omega]
    exact this
end Go.Proofs.Ytlnomadhgoblkaa.Kit
