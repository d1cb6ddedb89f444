/- Loads and stores of a whole block (a struct, an array). -/
import Derived.Test.YtlnomadhgoblkaaKit
import Derived.Laws.Rows
set_option linter.unusedVariables false
set_option linter.unusedSimpArgs false
namespace Go.Proofs.Ytlnomadhgoblkaa.Kit
open Go.RowKit
section
variable {P : Program} {ops : Array Oper} {rest : List Oper} {o : Oper} {a : Act} {Q : Exit → Act → World → Prop} {w : World}
theorem wp_loadB (hgd : o.guard = none) (ty : TypeId) (x : Operand) (ho : o.op = .load ty x) (g : Nat) (hx : a.eval x = .pointer (some ⟨g, 0, none⟩)) {e : TypeId} {cur : List Value} (hb : Blk w g e cur) (d : TypeDesc)
    (hu : P.underlying ty = some d) (hd : (match d with | .struct _ | .array _ _ => true | _ => false) = true) (hi : (P.info? ty).map (·.size) = some cur.length)
    (h : wpList P ops Q rest (a.put o.dst (.agg cur.toArray)) w) : wpList P ops Q (o :: rest) a w := by
  obtain ⟨fr, hg, _⟩ := hb
  exact wpList_load_row hgd ty x ho g hx e cur.toArray fr d hg hu hd (by simpa using hi) h
theorem run_storeB {ty : TypeId} {g : Nat} {e : TypeId} {cur cs : List Value} (hb : Blk w g e cur) (hi : (P.info? ty).map (·.size) = some cs.length) (hl : cur.length = cs.length) (h1 : ∀ v ∈ cs, v.oneCell' = true) :
    ∃ w', (storeVar ty ⟨g, 0, none⟩ (.agg cs.toArray)).run P w = .ok () w' ∧ Blk w' g e cs ∧ Chg (· = g) w w' := by
  obtain ⟨w', hr, hb', hc⟩ := run_storeCells P g e cs 0 0 cur w hb (by omega) h1
  refine ⟨w', ?_, ?_, hc⟩
  · cases hq : P.info? ty with
    | none => simp [hq] at hi
    | some i =>
      have hs : i.size = cs.length := by simpa [hq] using hi
      simp [storeVar, sizeOf, typeInfo, hq, Value.cells, hs, hr]
  · simp only [Nat.zero_add, List.take_zero, List.nil_append, List.drop_eq_nil_of_le (Nat.le_of_eq hl), List.append_nil] at hb'
    exact hb'
theorem wp_storeB (hgd : o.guard = none) (ty : TypeId) (x y : Operand) (ho : o.op = .store ty x y) (g : Nat) (cs : List Value) (hx : a.eval x = .pointer (some ⟨g, 0, none⟩)) (hy : a.eval y = .agg cs.toArray) {e : TypeId} {cur : List Value} (hb : Blk w g e cur)
    (hi : (P.info? ty).map (·.size) = some cs.length) (hl : cur.length = cs.length) (h1 : ∀ v ∈ cs, v.oneCell' = true)
    (h : ∀ w', Blk w' g e cs → Chg (· = g) w w' → wpList P ops Q rest (a.put o.dst undef) w') : wpList P ops Q (o :: rest) a w :=
  wpList_plain hgd fun _ hK => by
    obtain ⟨w', hr, hb', hc⟩ := run_storeB (P := P) (ty := ty) hb hi hl h1
    unfold Oper.wp execOp
    simp only [ho, hx, hy, Instr.storeAt, Instr.sureAddr, Sem.run_bind, Sem.run_pure, Result.andThen_ok, hr]
    exact hK _ _ (h w' hb' hc)
theorem gate_load {dst : Option Tmp} {ty ty' : TypeId} {x : Operand} {pos : String} {after : Array Edge} {g : Option (Tmp × Bool)} (h : wpList P ops Q ({ dst := dst, op := .load ty x, type := ty', pos := pos, after := after, guard := g } :: rest) a w) : wpList P ops Q ({ dst := dst, op := .load ty x, type := ty', pos := pos, after := after, guard := g } :: rest) a w := h
theorem gate_store {dst : Option Tmp} {ty ty' : TypeId} {x y : Operand} {pos : String} {after : Array Edge} {g : Option (Tmp × Bool)} (h : wpList P ops Q ({ dst := dst, op := .store ty x y, type := ty', pos := pos, after := after, guard := g } :: rest) a w) : wpList P ops Q ({ dst := dst, op := .store ty x y, type := ty', pos := pos, after := after, guard := g } :: rest) a w := h
theorem results_cellB {fn : Func} {p : Tmp} {ty : TypeId} (h : fn.results = #[.cell p ty]) (tmps : Array Value) (g : Nat) (hp : tmps.getD p undef = .pointer (some ⟨g, 0, none⟩)) {e : TypeId} {cur : List Value} (hb : Blk w g e cur) (d : TypeDesc)
    (hu : P.underlying ty = some d) (hd : (match d with | .struct _ | .array _ _ => true | _ => false) = true) (hi : (P.info? ty).map (·.size) = some cur.length) : (results fn tmps).run P w = .ok (.agg cur.toArray) w := by
  obtain ⟨fr, hg, _⟩ := hb
  exact results_cell_row h tmps w g e cur.toArray fr d hp hg hu hd (by simpa using hi)
end
end Go.Proofs.Ytlnomadhgoblkaa.Kit
