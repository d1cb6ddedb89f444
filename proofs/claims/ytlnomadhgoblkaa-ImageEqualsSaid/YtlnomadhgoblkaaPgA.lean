/- Programs: what is read of them. -/
import Derived.Test.YtlnomadhgoblkaaProg
import Derived.Test.YtlnomadhgoblkaaKit
import Derived.Test.YtlnomadhgoblkaaOctI
set_option linter.unusedVariables false
set_option linter.unusedSimpArgs false
namespace Go.Proofs.Ytlnomadhgoblkaa.Kit
open Go.RowKit
/-- cells that are read from an address on -/
def RdG (w : World) (A : Option Addr) (cs : List Value) : Prop := ∀ j u, cs[j]? = some u → ∃ ad, A = some ad ∧ w.cell? (ad.add j) = some u
namespace RdG
variable {w w1 : World} {A : Option Addr} {cs ds : List Value}
theorem nil (w : World) (A : Option Addr) : RdG w A [] := fun j u h => by simp at h
theorem chg {S : Nat → Prop} (h : RdG w A cs) (c : Chg S w w1) (hS : ∀ ad, A = some ad → 0 < cs.length → ¬ S ad.block) : RdG w1 A cs := fun j u hu => by
  obtain ⟨ad, e, hc⟩ := h j u hu
  have hl : 0 < cs.length := by
    have := (List.getElem?_eq_some_iff.1 hu).1
    omega
  exact ⟨ad, e, c.cell (by rw [show (ad.add j).block = ad.block from by unfold Addr.add; split <;> rfl]; exact hS ad e hl) hc⟩
theorem chg0 (h : RdG w A cs) (c : Chg (fun _ => False) w w1) : RdG w1 A cs := h.chg c (fun _ _ _ h => h)
theorem below (h : RdG w A cs) (b : Below w.heap.size w w1) : RdG w1 A cs := fun j u hu => by
  obtain ⟨ad, e, hc⟩ := h j u hu
  exact ⟨ad, e, (b.cell (World.block_lt_of_cell? w _ hc)).trans hc⟩
theorem lt (h : RdG w A cs) : ∀ ad, A = some ad → 0 < cs.length → ad.block < w.heap.size := fun ad e hl => by
  obtain ⟨ad', e', hc⟩ := h 0 cs[0] (List.getElem?_eq_getElem hl)
  rw [e] at e'
  injection e' with e'
  subst e'
  have := World.block_lt_of_cell? w _ hc
  rwa [show (ad.add 0).block = ad.block from by unfold Addr.add; split <;> rfl] at this
theorem left (h : RdG w A (cs ++ ds)) : RdG w A cs := fun j u hu => h j u (by rw [List.getElem?_append_left (List.getElem?_eq_some_iff.1 hu).1]; exact hu)
theorem take (h : RdG w A cs) (n : Nat) : RdG w A (cs.take n) := fun j u hu => h j u (by
  rw [List.getElem?_take] at hu
  split at hu
  · exact hu
  · cases hu)
theorem some_of (h : RdG w A cs) (hl : 0 < cs.length) : ∃ ad, A = some ad := by
  obtain ⟨ad, e, _⟩ := h 0 cs[0] (List.getElem?_eq_getElem hl)
  exact ⟨ad, e⟩
end RdG
theorem Rd.toG {w : World} {k : IntKind} {A : Option Addr} {l : List Int} (h : Rd w k A l) : RdG w A (nums k l) := h.news
theorem RdG.toRd {w : World} {k : IntKind} {A : Option Addr} {l : List Int} (h : RdG w A (nums k l)) : Rd w k A l := fun i hi => h i _ (nums_get k l i hi)
theorem OwnV.toG {w : World} {e : TypeId} {sz n c : Nat} {A : Option Addr} {cs : List Value} (h : OwnV w e sz (.slice A n c) n cs) : RdG w A cs := fun j u hu => by
  obtain ⟨ad, e1, e2, _⟩ := h.cells A n c rfl j u hu
  exact ⟨ad, e1, e2⟩
/-- a slice of n elements, sz cells each, that reads so -/
structure SlG (w : World) (v : Value) (sz n : Nat) (cs : List Value) : Prop where
  ex : ∃ A c, v = .slice A n c ∧ n ≤ c ∧ c ≤ maxLen ∧ RdG w A cs
  len : cs.length = n * sz
theorem SlG.chg {w w1 : World} {v : Value} {sz n : Nat} {cs : List Value} {S : Nat → Prop} (h : SlG w v sz n cs) (c : Chg S w w1) (hS : ∀ g, v.ownBlock = some g → ¬ S g) : SlG w1 v sz n cs := by
  obtain ⟨A, k, rfl, h1, h2, h3⟩ := h.ex
  exact ⟨⟨A, k, rfl, h1, h2, h3.chg c (fun ad e _ => hS ad.block (by rw [e]; rfl))⟩, h.len⟩
theorem SlG.chg0 {w w1 : World} {v : Value} {sz n : Nat} {cs : List Value} (h : SlG w v sz n cs) (c : Chg (fun _ => False) w w1) : SlG w1 v sz n cs := h.chg c (fun _ _ h => h)
/-- behind its end: a mark (nil has none) -/
def MkG (w : World) (v : Value) (n : Nat) (cs mark : List Value) : Prop := (∃ c, v = .slice none n c) ∨ ∃ ad c, v = .slice (some ad) n c ∧ n + 1 ≤ c ∧ RdG w (some ad) (cs ++ mark)
theorem MkG.chg {w w1 : World} {v : Value} {n : Nat} {cs mark : List Value} {S : Nat → Prop} (h : MkG w v n cs mark) (c : Chg S w w1) (hS : ∀ g, v.ownBlock = some g → ¬ S g) : MkG w1 v n cs mark := by
  rcases h with h | ⟨ad, k, rfl, h1, h2⟩
  · exact .inl h
  · exact .inr ⟨ad, k, rfl, h1, h2.chg c (fun ad' e _ => by injection e with e; subst e; exact hS ad.block rfl)⟩
theorem MkG.chg0 {w w1 : World} {v : Value} {n : Nat} {cs mark : List Value} (h : MkG w v n cs mark) (c : Chg (fun _ => False) w w1) : MkG w1 v n cs mark := h.chg c (fun _ _ h => h)
/-- an instruction, a day's code, a program -/
structure InsV where
  op : Int
  a : Int
  b : Int
deriving DecidableEq
structure SegV where
  day : Int
  code : List InsV
deriving DecidableEq
structure ProgV where
  names : List ByteArray
  curs : List ByteArray
  pool : List Int
  horizon : Int
  cells : Int
  slots : Int
  stack : Int
  days : List SegV
deriving DecidableEq
def insCells (l : List InsV) : List Value := l.flatMap fun x => [.int .i64 x.op, .int .i64 x.a, .int .i64 x.b]
theorem insCells_length (l : List InsV) : (insCells l).length = l.length * 3 := by
  induction l with
  | nil => rfl
  | cons x xs ih =>
    simp only [insCells, List.flatMap_cons, List.length_append, List.length_cons, List.length_nil] at ih ⊢
    omega
theorem insCells_append (l m : List InsV) : insCells (l ++ m) = insCells l ++ insCells m := by simp [insCells]
theorem insCells_get : ∀ (l : List InsV) (i : Nat) (h : i < l.length), (insCells l)[i * 3]? = some (.int .i64 l[i].op) ∧ (insCells l)[i * 3 + 1]? = some (.int .i64 l[i].a) ∧ (insCells l)[i * 3 + 2]? = some (.int .i64 l[i].b)
  | [], i, h => absurd h (by simp)
  | x :: xs, 0, _ => ⟨rfl, rfl, rfl⟩
  | x :: xs, i + 1, h => by
    have := insCells_get xs i (by simpa using h)
    rw [show (i + 1) * 3 = i * 3 + 1 + 1 + 1 by omega]
    exact this
/-- the cells of the days, whose codes are the slices vs -/
def dayCells : List SegV → List Value → List Value
  | x :: xs, v :: vs => .int .i64 x.day :: v :: dayCells xs vs
  | _, _ => []
theorem dayCells_snoc : ∀ (l : List SegV) (vs : List Value) (x : SegV) (v : Value), l.length = vs.length → dayCells (l ++ [x]) (vs ++ [v]) = dayCells l vs ++ [.int .i64 x.day, v]
  | [], [], x, v, _ => rfl
  | y :: ys, u :: us, x, v, e => by
    show _ :: _ :: dayCells (ys ++ [x]) (us ++ [v]) = _
    rw [dayCells_snoc ys us x v (by simpa using e)]
    rfl
  | [], _ :: _, _, _, e => by simp at e
  | _ :: _, [], _, _, e => by simp at e
theorem dayCells_length : ∀ (l : List SegV) (vs : List Value), l.length = vs.length → (dayCells l vs).length = l.length * 2
  | [], [], _ => rfl
  | y :: ys, u :: us, e => by
    show (dayCells ys us).length + 1 + 1 = _
    rw [dayCells_length ys us (by simpa using e), List.length_cons]
    omega
  | [], _ :: _, e => by simp at e
  | _ :: _, [], e => by simp at e
theorem dayCells_get : ∀ (l : List SegV) (vs : List Value) (i : Nat) (h : i < l.length) (h' : i < vs.length), (dayCells l vs)[i * 2]? = some (.int .i64 l[i].day) ∧ (dayCells l vs)[i * 2 + 1]? = some vs[i]
  | [], _, i, h, _ => absurd h (by simp)
  | _ :: _, [], i, _, h => absurd h (by simp)
  | x :: xs, v :: vs, 0, _, _ => ⟨rfl, rfl⟩
  | x :: xs, v :: vs, i + 1, h, h' => by
    have := dayCells_get xs vs i (by simpa using h) (by simpa using h')
    rw [show (i + 1) * 2 = i * 2 + 1 + 1 by omega]
    exact this
def strs (l : List ByteArray) : List Value := l.map Value.string
theorem strs_length (l : List ByteArray) : (strs l).length = l.length := by simp [strs]
theorem strs_get (l : List ByteArray) (i : Nat) (h : i < l.length) : (strs l)[i]? = some (.string l[i]) := by simp [strs, h]
/-- a program's slices; the slices of its days' codes -/
structure ProgS where
  names : Value
  curs : Value
  pool : Value
  days : Value
  codes : List Value
def progVal (s : ProgS) (p : ProgV) : Value := .agg #[s.names, s.curs, s.pool, .int .i64 p.horizon, .int .i64 p.cells, .int .i64 p.slots, .int .i64 p.stack, s.days]
structure RdProg (w : World) (s : ProgS) (p : ProgV) : Prop where
  names : SlG w s.names 1 p.names.length (strs p.names)
  curs : SlG w s.curs 1 p.curs.length (strs p.curs)
  pool : SlG w s.pool 1 p.pool.length (nums .i64 p.pool)
  days : SlG w s.days 2 p.days.length (dayCells p.days s.codes)
  lenC : p.days.length = s.codes.length
  code : ∀ i (h : i < p.days.length) (h' : i < s.codes.length), SlG w s.codes[i] 3 p.days[i].code.length (insCells p.days[i].code)
theorem RdProg.chg0 {w w1 : World} {s : ProgS} {p : ProgV} (h : RdProg w s p) (c : Chg (fun _ => False) w w1) : RdProg w1 s p :=
  ⟨h.names.chg0 c, h.curs.chg0 c, h.pool.chg0 c, h.days.chg0 c, h.lenC, fun i hi hi' => (h.code i hi hi').chg0 c⟩
/-- how long its lists may be -/
structure SmallP (p : ProgV) : Prop where
  names : p.names.length * 16 ≤ 140737488351232
  curs : p.curs.length * 16 ≤ 140737488351232
  pool : p.pool.length * 8 ≤ 140737488351232
  days : p.days.length * 32 ≤ 140737488351232
  code : ∀ x ∈ p.days, x.code.length * 24 ≤ 140737488351232
def behind : ByteArray := ⟨#[66, 101, 104, 105, 110, 100]⟩
/-- a program in new memory, marks behind the ends of its lists -/
structure Marked (w : World) (s : ProgS) (p : ProgV) : Prop where
  names : MkG w s.names p.names.length (strs p.names) [.string behind]
  curs : MkG w s.curs p.curs.length (strs p.curs) [.string behind]
  pool : MkG w s.pool p.pool.length (nums .i64 p.pool) [.int .i64 (-4711)]
  code : ∀ i (h : i < p.days.length) (h' : i < s.codes.length), MkG w s.codes[i] p.days[i].code.length (insCells p.days[i].code) [.int .i64 (-4711), .int .i64 0, .int .i64 0]
theorem Marked.chg0 {w w1 : World} {s : ProgS} {p : ProgV} (h : Marked w s p) (c : Chg (fun _ => False) w w1) : Marked w1 s p :=
  ⟨h.names.chg0 c, h.curs.chg0 c, h.pool.chg0 c, fun i hi hi' => (h.code i hi hi').chg0 c⟩
end Go.Proofs.Ytlnomadhgoblkaa.Kit
