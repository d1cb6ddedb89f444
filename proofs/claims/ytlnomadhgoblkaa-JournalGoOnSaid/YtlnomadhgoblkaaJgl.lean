/- JournalGoOn: plain facts; rows of records that grow. -/
import Derived.Test.YtlnomadhgoblkaaProg
import Derived.Test.YtlnomadhgoblkaaJk
set_option linter.unusedVariables false
set_option linter.unusedSimpArgs false
namespace Go.Proofs.Ytlnomadhgoblkaa.Kit
open Go.RowKit
theorem vb_len5 {n : Nat} (h : n < 34359738368) : (vb n).length ≤ 5 := vb_len 4 n (Nat.lt_of_lt_of_le h (by decide))
theorem vb_len4 {n : Nat} (h : n < 268435456) : (vb n).length ≤ 4 := vb_len 3 n (Nat.lt_of_lt_of_le h (by decide))
theorem last_below (f : Nat → Nat) (p : Nat) (h0 : f 0 ≤ p) : ∀ n, ∃ k, k ≤ n ∧ f k ≤ p ∧ (k < n → p < f (k + 1))
  | 0 => ⟨0, Nat.le_refl _, h0, fun h => absurd h (by omega)⟩
  | n + 1 => by
    by_cases h : f (n + 1) ≤ p
    · exact ⟨n + 1, Nat.le_refl _, h, fun h => absurd h (by omega)⟩
    · obtain ⟨k, h1, h2, h3⟩ := last_below f p h0 n
      refine ⟨k, by omega, h2, fun hk => ?_⟩
      by_cases hkn : k < n
      · exact h3 hkn
      · have : k = n := by omega
        subst this
        omega
/-- what is opened of any beginning -/
theorem open_any {ls : List SecV} {p : Nat} (hg : ∀ x ∈ ls, GoodRec x) (hsz : (jnlBytes ls).length ≤ 268435456) (hp : p ≤ (jnlBytes ls).length) :
    ∃ k m, k ≤ ls.length ∧ m ≤ p ∧ jopenRes ((jnlBytes ls).take p) = (some (ls.take k), m, 0) ∧ m ≤ (jnlBytes (ls.take k)).length ∧ (p = (jnlBytes ls).length → k = ls.length) := by
  by_cases h8 : p < 8
  · refine ⟨0, 0, Nat.zero_le _, Nat.zero_le _, open_short h8, Nat.zero_le _, fun h => ?_⟩
    have := jnlBytes_len ls
    omega
  · obtain ⟨k, h1, h2, h3⟩ := last_below (fun k => (jnlBytes (ls.take k)).length) p (by show 8 ≤ p; omega) ls.length
    refine ⟨k, _, h1, h2, open_cut hg hsz hp h1 h2 h3, Nat.le_refl _, fun h => ?_⟩
    rcases Nat.lt_or_ge k ls.length with hk | hk
    · have := h3 hk
      have := jnl_le ls (k + 1)
      omega
    · omega
/-- the bytes that two journals share -/
theorem jnl_common {ls suf : List SecV} {k m : Nat} (hk : k ≤ ls.length) (hm : m ≤ (jnlBytes (ls.take k)).length) : (jnlBytes (ls.take k ++ suf)).take m = (jnlBytes ls).take m := by
  have h1 : (jnlBytes (ls.take k ++ suf)).take m = (jnlBytes (ls.take k)).take m := by
    have := jnl_split (ls.take k ++ suf) k (by simp; omega)
    have hl : (ls.take k).length = k := by rw [List.length_take, Nat.min_eq_left hk]
    rw [List.take_left' hl] at this
    rw [this, List.take_append_of_le_length hm]
  rw [h1]
  conv => rhs; rw [jnl_split ls k hk]
  rw [List.take_append_of_le_length hm]
theorem tCells_one : ∀ (l : List SecV) (bs : List Value), (∀ b ∈ bs, b.oneCell' = true) → ∀ u ∈ tCells l bs, u.oneCell' = true
  | [], _, _, u, hu => by simp [tCells] at hu
  | _ :: _, [], _, u, hu => by simp [tCells] at hu
  | x :: xs, b :: bs, h, u, hu => by
    simp only [tCells, List.mem_cons] at hu
    rcases hu with rfl | rfl | hu
    · rfl
    · exact h _ (by simp)
    · exact tCells_one xs bs (fun b hb => h b (by simp [hb])) u hu
theorem tCells_len : ∀ (l : List SecV) (bs : List Value), l.length = bs.length → (tCells l bs).length = l.length * 2
  | [], [], _ => rfl
  | [], _ :: _, h => by simp at h
  | _ :: _, [], h => by simp at h
  | x :: xs, b :: bs, h => by
    simp only [tCells, List.length_cons]
    rw [tCells_len xs bs (by simpa using h)]
    omega
/-- the bodies of records that are read -/
theorem RdSecs.bodies {w : World} {A : Option Addr} {l : List SecV} (h : RdSecs w A l) : ∃ bs : List Value, bs.length = l.length ∧ (∀ b ∈ bs, b.oneCell' = true) ∧
    (∀ i (h : i < l.length) (hb : i < bs.length), ∃ A c, bs[i] = .slice A l[i].body.length c ∧ l[i].body.length ≤ c ∧ c ≤ maxLen ∧ Rd w .u8 A l[i].body) ∧ ∀ j u, (tCells l bs)[j]? = some u → ∃ ad, A = some ad ∧ w.cell? (ad.add j) = some u := by
  obtain ⟨f, hf⟩ := Go.Deep.choose_lt (n := l.length) (p := fun i (v : Value) => ∃ (h : i < l.length) (ad : Addr) (B : Option Addr) (c : Nat), A = some ad ∧ w.cell? (ad.add (i * 2)) = some (.int .i64 l[i].id) ∧ w.cell? (ad.add (i * 2 + 1)) = some v ∧ v = .slice B l[i].body.length c ∧ l[i].body.length ≤ c ∧ c ≤ maxLen ∧ Rd w .u8 B l[i].body) (fun i hi => by
    obtain ⟨ad, e, hs⟩ := h i hi
    obtain ⟨B, c, h1, h2, h3, h4⟩ := hs.body
    refine ⟨_, hi, ad, B, c, e, hs.id, ?_, rfl, h2, h3, h4⟩
    rw [← Go.Deep.add_add]
    exact h1)
  have hlen : ((List.range l.length).map f).length = l.length := by simp
  refine ⟨(List.range l.length).map f, hlen, fun b hb => ?_, fun i hi hb => ?_, fun j u hu => ?_⟩
  · obtain ⟨i, hi, rfl⟩ := List.mem_map.1 hb
    obtain ⟨_, _, _, _, _, _, _, e, _⟩ := hf i (List.mem_range.1 hi)
    rw [e]
    rfl
  · obtain ⟨_, _, B, c, _, _, _, e, h1, h2, h3⟩ := hf i hi
    exact ⟨B, c, by simpa using e, h1, h2, h3⟩
  · have hjl : j < l.length * 2 := by
      rcases Nat.lt_or_ge j (l.length * 2) with h | h
      · exact h
      · rw [List.getElem?_eq_none (by rw [tCells_len _ _ hlen.symm]; exact h)] at hu
        cases hu
    obtain ⟨i, hi, hij⟩ : ∃ i, i < l.length ∧ (j = i * 2 ∨ j = i * 2 + 1) := ⟨j / 2, by omega, by omega⟩
    obtain ⟨g1, g2⟩ := tCells_get l _ i hi (by rw [hlen]; exact hi)
    obtain ⟨_, ad, B, c, e1, c1, c2, _⟩ := hf i hi
    refine ⟨ad, e1, ?_⟩
    rcases hij with rfl | rfl
    · rw [g1] at hu
      injection hu with hu
      subst hu
      exact c1
    · rw [g2] at hu
      injection hu with hu
      subst hu
      rw [c2]
      simp
theorem RdSecs.take {w : World} {A : Option Addr} {l : List SecV} (h : RdSecs w A l) (k : Nat) : RdSecs w A (l.take k) := fun i hi => by
  have hi2 : i < l.length := by rw [List.length_take] at hi; omega
  obtain ⟨ad, e, hs⟩ := h i hi2
  exact ⟨ad, e, by rw [List.getElem_take]; exact hs⟩
section
variable {P : Program} {ops : Array Oper} {rest : List Oper} {o : Oper} {a : Act} {Q : Exit → Act → World → Prop}
/-- append(v, ys...): of any elements -/
theorem wp_appV {W : World} (hgd : o.guard = none) (s x : Operand) (t e : TypeId) (z : Value) (sz bytes : Nat)
    (ho : o.op = .call { callee := .builtin .append, args := #[s, x], argTypes := #[t, t] })
    (ht : P.underlying t = some (.slice e)) (hinfo : (P.info? e).map (fun i => (i.zero, i.size, i.bytes)) = some (some z, sz, bytes)) (hzs : z.cells.size = sz) (hsz : 0 < sz) (hby : 0 < bytes)
    (v : Value) (n : Nat) (cs : List Value) (hs : a.eval s = v) (hown : OwnV W e sz v n cs)
    (A : Option Addr) (m c : Nat) (news : List Value) (hx : a.eval x = .slice A m c) (hl : news.length = m * sz) (hnews : ∀ j u, news[j]? = some u → ∃ ad, A = some ad ∧ W.cell? (ad.add j) = some u) (h1 : ∀ u ∈ news, u.oneCell' = true)
    (hbytes : (n + m) * bytes ≤ 140737488355328)
    (h : ∀ v' w', OwnV w' e sz v' (n + m) (cs ++ news) → Chg (fun k => v.ownBlock = some k) W w' → Fresh W v v' → wpList P ops Q rest (a.put o.dst v') w') : wpList P ops Q (o :: rest) a W :=
  wpList_plain hgd fun _ hK => ow_app s x t e z sz bytes ho ht hinfo hzs hsz hby v n cs hs hown A m c news hx hl hnews h1 hbytes fun v' w' h2 _ h4 h5 => hK _ _ (h v' w' h2 h4 (h5.imp id fun h5 g hg => by
    rw [h5] at hg
    injection hg with hg
    omega))
end
/-- one record more, in the journal and in the row -/
theorem FillL.snoc {w0 w w1 : World} {gj : Nat} {D : Nat → Prop} {v v' : Value} {ls : List SecV} {bs : List Value} {x : SecV} {A : Option Addr} {n c : Nat} (hj : Jn w D gj (ls ++ [x])) (hrow : RecsR w0 w v ls bs) (hchg : Chg (fun _ => False) w0 w) (hnew : ∀ y, D y → w0.heap.size ≤ y) (hnewv : ∀ y, v.ownBlock = some y → w0.heap.size ≤ y) (hap : ∀ y, v.ownBlock = some y → ¬ D y ∧ y ≠ gj)
    (N1 : OwnV w1 31 2 v' (ls.length + 1) (tCells ls bs ++ [.int .i64 x.id, .slice A n c])) (N2 : Chg (fun g => v.ownBlock = some g) w w1) (N3 : Fresh w v v') (hn : n = x.body.length) (hnc : n ≤ c) (hc : c ≤ maxLen) (hrd : Rd w0 .u8 A x.body) (hb : Byt x.body) (hg : -9223372036854775808 ≤ x.id ∧ x.id ≤ 9223372036854775807)
    (hsmall : (jnlBytes (ls ++ [x])).length ≤ 268435456) (hok : ∀ y ∈ ls, okRec y) (hokx : okRec x) : FillL w0 w1 gj D v' (ls ++ [x]) (bs ++ [.slice A n c]) (268435456 - ((jnlBytes (ls ++ [x])).length : Int)) := by
  have hnv : ∀ y, v'.ownBlock = some y → v.ownBlock = some y ∨ w.heap.size ≤ y := fun y hy => by
    rcases N3 with h | h
    · exact .inl (by rw [← h]; exact hy)
    · exact .inr (h y hy)
  refine ⟨hj.chg N2 hap, hrow.snoc N1 hn hnc hc hrd hb hg, hchg.old N2 hnewv, hnew, fun y hy => ?_, fun y hy => ?_, rfl, hsmall, fun y hy => ?_⟩
  · rcases hnv y hy with h | h
    · exact hnewv y h
    · exact Nat.le_trans hchg.size h
  · rcases hnv y hy with h | h
    · exact hap y h
    · refine ⟨fun hd => ?_, fun e => ?_⟩
      · have := hj.size y hd
        omega
      · have := hj.lt
        omega
  · rcases List.mem_append.1 hy with hy | hy
    · exact hok y hy
    · rw [List.mem_singleton.1 hy]
      exact hokx
theorem rec_len20 {n : Nat} {x : SecV} (hn : n ≤ 33554432) (hx : okRec x) : (recEnc n x).length ≤ x.body.length + 20 := by
  have h1 := vb_len5 (n := n) (by omega)
  have h2 := vb_len4 (n := x.body.length) (by have := hx.2.2; omega)
  rw [recEnc_length, recHd_length]
  omega
end Go.Proofs.Ytlnomadhgoblkaa.Kit
