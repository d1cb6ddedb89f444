/- Texts that the row leans on: PcP. -/
import Derived.Test.YtkadamoofiddeaaDoorRows
import Derived.Test.YtkadamoofiddeaaDoorQImageCanonsaf
import Derived.ProofKit
import Derived.LaidMore
import Derived.OpenShut
import Derived.Stop.Joined
-- Canonical programs: what the listed tables give (laid variables).
set_option linter.unusedVariables false
set_option linter.unusedSimpArgs false
namespace Go.Proofs.YtkadamoofiddeaaDoor.Kit
open Go.RowKit Go.ChangeShapes Go.WideShapes Go.ChangeAt
theorem slice_one {cs : List Value} {a m j : Nat} {v : Value} (h : (((cs.drop a).take m).drop j).take 1 = [v]) : cs[a + j]? = some v := by
  have h1 := congrArg (fun l => l[0]?) h
  simp only [List.getElem?_cons_zero] at h1
  rw [List.getElem?_take] at h1
  simp only [Nat.zero_lt_one, if_true] at h1
  rw [List.getElem?_drop, List.getElem?_take] at h1
  split at h1
  · rw [List.getElem?_drop] at h1
    simpa using h1
  · cases h1
/-- a field of a row of a table -/
theorem laid_field {H : Type} {enc : TypeId × Value → H} {P : Program} {w : World} {base : Nat} {spare held} {fuel : Nat} {t e : TypeId} {n i j : Nat} {f : Field} {fs : Array Field} {cs : List Value} {rows ds : List (DataW H)} {pl : List MemPlace} {y : DataW H}
    (ht : P.underlying t = some (.array n e)) (hs : P.underlying e = some (.struct fs)) (hf : fs[j]? = some f) (h : DataW.trod enc P w base spare held fuel t cs = some (.agg rows, pl)) (hi : i < n) (hr : rows[i]? = some (.agg ds)) (hd : ds[j]? = some y) :
    ∃ m q, DataW.trod enc P w base spare held m f.type ((((cs.drop (i * P.cellsOf e)).take (P.cellsOf e)).drop f.offset).take (P.cellsOf f.type)) = some (y, q) := by
  obtain ⟨xs, m, _, hx, _, hn, hel⟩ := DataW.trod_array ht h
  simp only [Prod.mk.injEq, DataW.agg.injEq] at hx
  rw [hx.1, List.getElem?_map] at hr
  obtain ⟨x, hxi, hx1⟩ := Option.map_eq_some_iff.1 hr
  have h2 := hel i hi
  rw [hxi] at h2
  obtain ⟨ys, m2, _, hy, _, hn2, hfl⟩ := DataW.trod_struct hs h2
  rw [hy] at hx1
  simp only [DataW.agg.injEq] at hx1
  rw [← hx1, List.getElem?_map] at hd
  obtain ⟨z, hzj, hz1⟩ := Option.map_eq_some_iff.1 hd
  have h3 := hfl j f hf
  rw [hzj] at h3
  subst hz1
  exact ⟨m2, z.2, h3⟩
theorem laid_int {H : Type} {enc : TypeId × Value → H} {P : Program} {w : World} {base : Nat} {spare held} {fuel : Nat} {t e : TypeId} {n i j : Nat} {f : Field} {fs : Array Field} {cs : List Value} {rows ds : List (DataW H)} {pl : List MemPlace} {k : IntKind} {v : Int}
    (ht : P.underlying t = some (.array n e)) (hs : P.underlying e = some (.struct fs)) (hf : fs[j]? = some f) (hk : P.underlying f.type = some (.int k)) (hc : P.cellsOf f.type = 1) (h : DataW.trod enc P w base spare held fuel t cs = some (.agg rows, pl)) (hi : i < n) (hr : rows[i]? = some (.agg ds)) (hd : ds[j]? = some (.lit (.int k v))) :
    cs[i * P.cellsOf e + f.offset]? = some (.int k v) := by
  obtain ⟨m, q, h2⟩ := laid_field ht hs hf h hi hr hd
  rw [hc] at h2
  obtain ⟨v', e1, e2, _⟩ := DataW.trod_int hk h2
  have h3 := slice_one e1
  simp only [Prod.mk.injEq, DataW.lit.injEq, Lit.int.injEq] at e2
  rw [h3, e2.1.2]
theorem laid_string {H : Type} {enc : TypeId × Value → H} {P : Program} {w : World} {base : Nat} {spare held} {fuel : Nat} {t e : TypeId} {n i j : Nat} {f : Field} {fs : Array Field} {cs : List Value} {rows ds : List (DataW H)} {pl : List MemPlace} {y : DataW H}
    (ht : P.underlying t = some (.array n e)) (hs : P.underlying e = some (.struct fs)) (hf : fs[j]? = some f) (hk : P.underlying f.type = some .string) (hc : P.cellsOf f.type = 1) (h : DataW.trod enc P w base spare held fuel t cs = some (.agg rows, pl)) (hi : i < n) (hr : rows[i]? = some (.agg ds)) (hd : ds[j]? = some y) :
    ∃ s : ByteArray, cs[i * P.cellsOf e + f.offset]? = some (.string s) := by
  obtain ⟨m, q, h2⟩ := laid_field ht hs hf h hi hr hd
  rw [hc] at h2
  obtain ⟨s, e1, _⟩ := DataW.trod_string hk h2
  exact ⟨s, slice_one e1⟩
theorem gKinds : Tryd.prog.globalNamed "payoff/code.kinds" = some 0 := by kernel_rfl
theorem gTable : Tryd.prog.globalNamed "payoff/payoffref11.table" = some 1 := by kernel_rfl
theorem tTable : (Tryd.prog.globals[1]?).map (·.type) = some 135 := by kernel_rfl
theorem uTable : Tryd.prog.underlying 135 = some (.array 29 112) := by kernel_rfl
theorem tbl_rows {H : Type} : ∃ rows : List (DataW H), (Rows.laid_payoff_payoffref11_table : DataW H) = .agg rows ∧ ∀ i, i < 29 → ∃ nm, rows[i]? = some (.agg [.lit (.string nm), .lit (.int .i64 (rA i)), .lit (.int .i64 (rB i)), .lit (.int .i64 (kAt i).t), .lit (.int .i64 (kAt i).p)]) := by
  refine ⟨_, rfl, fun i hi => ?_⟩
  match i, hi with
  | 0, _ => exact ⟨_, rfl⟩
  | 1, _ => exact ⟨_, rfl⟩
  | 2, _ => exact ⟨_, rfl⟩
  | 3, _ => exact ⟨_, rfl⟩
  | 4, _ => exact ⟨_, rfl⟩
  | 5, _ => exact ⟨_, rfl⟩
  | 6, _ => exact ⟨_, rfl⟩
  | 7, _ => exact ⟨_, rfl⟩
  | 8, _ => exact ⟨_, rfl⟩
  | 9, _ => exact ⟨_, rfl⟩
  | 10, _ => exact ⟨_, rfl⟩
  | 11, _ => exact ⟨_, rfl⟩
  | 12, _ => exact ⟨_, rfl⟩
  | 13, _ => exact ⟨_, rfl⟩
  | 14, _ => exact ⟨_, rfl⟩
  | 15, _ => exact ⟨_, rfl⟩
  | 16, _ => exact ⟨_, rfl⟩
  | 17, _ => exact ⟨_, rfl⟩
  | 18, _ => exact ⟨_, rfl⟩
  | 19, _ => exact ⟨_, rfl⟩
  | 20, _ => exact ⟨_, rfl⟩
  | 21, _ => exact ⟨_, rfl⟩
  | 22, _ => exact ⟨_, rfl⟩
  | 23, _ => exact ⟨_, rfl⟩
  | 24, _ => exact ⟨_, rfl⟩
  | 25, _ => exact ⟨_, rfl⟩
  | 26, _ => exact ⟨_, rfl⟩
  | 27, _ => exact ⟨_, rfl⟩
  | 28, _ => exact ⟨_, rfl⟩
  | n + 29, h => exact absurd h (by omega)
theorem kind_rows {H : Type} : ∃ rows : List (DataW H), (Rows.laid_payoff_code_kinds : DataW H) = .agg rows ∧ ∀ i, i < 29 → ∃ nm, rows[i]? = some (.agg [.lit (.string nm), .lit (.int .i64 (kAt i).o), .lit (.int .i64 (kAt i).a), .lit (.int .i64 (kAt i).b), .lit (.int .i64 (kAt i).t), .lit (.int .i64 (kAt i).p)]) := by
  refine ⟨_, rfl, fun i hi => ?_⟩
  match i, hi with
  | 0, _ => exact ⟨_, rfl⟩
  | 1, _ => exact ⟨_, rfl⟩
  | 2, _ => exact ⟨_, rfl⟩
  | 3, _ => exact ⟨_, rfl⟩
  | 4, _ => exact ⟨_, rfl⟩
  | 5, _ => exact ⟨_, rfl⟩
  | 6, _ => exact ⟨_, rfl⟩
  | 7, _ => exact ⟨_, rfl⟩
  | 8, _ => exact ⟨_, rfl⟩
  | 9, _ => exact ⟨_, rfl⟩
  | 10, _ => exact ⟨_, rfl⟩
  | 11, _ => exact ⟨_, rfl⟩
  | 12, _ => exact ⟨_, rfl⟩
  | 13, _ => exact ⟨_, rfl⟩
  | 14, _ => exact ⟨_, rfl⟩
  | 15, _ => exact ⟨_, rfl⟩
  | 16, _ => exact ⟨_, rfl⟩
  | 17, _ => exact ⟨_, rfl⟩
  | 18, _ => exact ⟨_, rfl⟩
  | 19, _ => exact ⟨_, rfl⟩
  | 20, _ => exact ⟨_, rfl⟩
  | 21, _ => exact ⟨_, rfl⟩
  | 22, _ => exact ⟨_, rfl⟩
  | 23, _ => exact ⟨_, rfl⟩
  | 24, _ => exact ⟨_, rfl⟩
  | 25, _ => exact ⟨_, rfl⟩
  | 26, _ => exact ⟨_, rfl⟩
  | 27, _ => exact ⟨_, rfl⟩
  | 28, _ => exact ⟨_, rfl⟩
  | n + 29, h => exact absurd h (by omega)
theorem tbl_at {H : Type} {enc : TypeId × Value → H} {W : World} {base : Nat} {spare held} {fuel : Nat} {cs : Array Value} {pl : List MemPlace} (hv : W.var? Tryd.prog "payoff/payoffref11.table" = some cs) (h : DataW.trod enc Tryd.prog W base spare held fuel 135 cs.toList = some (Rows.laid_payoff_payoffref11_table, pl)) : TblAt W := fun i hi => by
  obtain ⟨rows, hr, hrow⟩ := tbl_rows (H := H)
  rw [hr] at h
  obtain ⟨nm, hi2⟩ := hrow i hi
  have c5 : Tryd.prog.cellsOf 112 = 5 := by kernel_rfl
  obtain ⟨s, hs⟩ := laid_string (j := 0) uTable Tryd.underlying112 rfl Tryd.underlying9 (by kernel_rfl) h hi hi2 rfl
  have h1 := laid_int (j := 1) uTable Tryd.underlying112 rfl Tryd.underlying3 (by kernel_rfl) h hi hi2 rfl
  have h2 := laid_int (j := 2) uTable Tryd.underlying112 rfl Tryd.underlying3 (by kernel_rfl) h hi hi2 rfl
  have h3 := laid_int (j := 3) uTable Tryd.underlying112 rfl Tryd.underlying3 (by kernel_rfl) h hi hi2 rfl
  have h4 := laid_int (j := 4) uTable Tryd.underlying112 rfl Tryd.underlying3 (by kernel_rfl) h hi hi2 rfl
  rw [c5] at hs h1 h2 h3 h4
  refine ⟨s, ?_, ?_, ?_, ?_, ?_⟩
  · rw [World.var?_cell gTable hv]
    simpa using hs
  · rw [World.var?_cell gTable hv]
    simpa using h1
  · rw [World.var?_cell gTable hv]
    simpa using h2
  · rw [World.var?_cell gTable hv]
    simpa using h3
  · rw [World.var?_cell gTable hv]
    simpa using h4
theorem tKinds : (Tryd.prog.globals[0]?).map (·.type) = some 94 := by kernel_rfl
theorem uKinds : Tryd.prog.underlying 94 = some (.array 29 93) := by kernel_rfl
theorem kinds_at {H : Type} {enc : TypeId × Value → H} {W : World} {base : Nat} {spare held} {fuel : Nat} {cs : Array Value} {pl : List MemPlace} (hv : W.var? Tryd.prog "payoff/code.kinds" = some cs) (h : DataW.trod enc Tryd.prog W base spare held fuel 94 cs.toList = some (Rows.laid_payoff_code_kinds, pl)) : KindsAt W := fun i hi => by
  obtain ⟨rows, hr, hrow⟩ := kind_rows (H := H)
  rw [hr] at h
  obtain ⟨nm, hi2⟩ := hrow i hi
  have c5 : Tryd.prog.cellsOf 93 = 6 := by kernel_rfl
  obtain ⟨s, hs⟩ := laid_string (j := 0) uKinds Tryd.underlying93 rfl Tryd.underlying9 (by kernel_rfl) h hi hi2 rfl
  have h1 := laid_int (j := 1) uKinds Tryd.underlying93 rfl Tryd.underlying3 (by kernel_rfl) h hi hi2 rfl
  have h2 := laid_int (j := 2) uKinds Tryd.underlying93 rfl Tryd.underlying3 (by kernel_rfl) h hi hi2 rfl
  have h3 := laid_int (j := 3) uKinds Tryd.underlying93 rfl Tryd.underlying3 (by kernel_rfl) h hi hi2 rfl
  have h4 := laid_int (j := 4) uKinds Tryd.underlying93 rfl Tryd.underlying3 (by kernel_rfl) h hi hi2 rfl
  have h5 := laid_int (j := 5) uKinds Tryd.underlying93 rfl Tryd.underlying3 (by kernel_rfl) h hi hi2 rfl
  rw [c5] at hs h1 h2 h3 h4 h5
  refine ⟨s, ?_, ?_, ?_, ?_, ?_, ?_⟩
  · rw [World.var?_cell gKinds hv]
    simpa using hs
  · rw [World.var?_cell gKinds hv]
    simpa using h1
  · rw [World.var?_cell gKinds hv]
    simpa using h2
  · rw [World.var?_cell gKinds hv]
    simpa using h3
  · rw [World.var?_cell gKinds hv]
    simpa using h4
  · rw [World.var?_cell gKinds hv]
    simpa using h5
end Go.Proofs.YtkadamoofiddeaaDoor.Kit
