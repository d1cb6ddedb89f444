/-
  DERIVED. GIVEN WITH THE SEED: THE PROGRAM's TIES (one call each: nine closed facts by the kernel) AND EACH ROW's TIE, after the 31st guide's Derived/Test/Toyas{Tie, Card}.lean. No idea stands in it: it is a product of the set-up. Laid BY PROGRAM, IN A SANDBOX (cutbox-door.mjs). By AI agents, Wed Nov 11 2026. No macro, syntax, notation, axiom, sorry.
-/
import Derived.Test.YtkadamoofiddeaaDoorRows
import Derived.LaidByTextLater
import Derived.SevenTiedAt
import Derived.LaidSub
import Derived.LaidOnce
namespace Go.Proofs.YtkadamoofiddeaaDoor
open Go
set_option maxRecDepth 100000
theorem seatTie1 : Tryd.prog.laidByTextLater [("payoff/payoffref11.table", Rows.laid_payoff_payoffref11_table), ("payoff/code.kinds", Rows.laid_payoff_code_kinds)] [.data, .data] true :=
  Program.laidByTextLater_by_one 87 8 175 (by kernel_rfl) (by kernel_rfl) (by kernel_rfl) (by kernel_rfl) (by kernel_rfl) (by kernel_rfl) (fun _ _ => by kernel_rfl)
theorem seatTie2 : Tryd.prog.laidByTextLater [("payoff/code.kinds", Rows.laid_payoff_code_kinds), ("payoff/verify.number", Rows.laid_payoff_verify_number), ("payoff/verify.truth", Rows.laid_payoff_verify_truth)] [.data, .data, .data] true :=
  Program.laidByTextLater_by_one 87 8 175 (by kernel_rfl) (by kernel_rfl) (by kernel_rfl) (by kernel_rfl) (by kernel_rfl) (by kernel_rfl) (fun _ _ => by kernel_rfl)
theorem seatTie3 : Tryd.prog.laidByTextLater [("payoff/payoffref11.table", Rows.laid_payoff_payoffref11_table), ("payoff/code.kinds", Rows.laid_payoff_code_kinds), ("payoff/verify.number", Rows.laid_payoff_verify_number), ("payoff/verify.truth", Rows.laid_payoff_verify_truth)] [.data, .data, .data, .data] true :=
  Program.laidByTextLater_by_one 87 8 175 (by kernel_rfl) (by kernel_rfl) (by kernel_rfl) (by kernel_rfl) (by kernel_rfl) (by kernel_rfl) (fun _ _ => by kernel_rfl)
theorem noOwnUnsafe : Tryd.pinned.checked.prog.headLifts.contains "ownunsafe" = false := by kernel_rfl
theorem tie : Tryd.prog.laidByTextLater [("payoff/payoffref11.table", Rows.laid_payoff_payoffref11_table), ("payoff/code.kinds", Rows.laid_payoff_code_kinds)] [.data, .data] true :=
  Program.laidByTextLater.sub seatTie1 ["payoff/payoffref11.table", "payoff/code.kinds"] (by kernel_rfl) (by kernel_rfl)
theorem imageCanons_row_tie : Rows.imageCanonsRow.laidByTextAt .later Tryd.pinned [.data, .data] true :=
  OpenClaim.laidByTextAt_later rfl rfl tie noOwnUnsafe
theorem tie2 : Tryd.prog.laidByTextLater [("payoff/code.kinds", Rows.laid_payoff_code_kinds), ("payoff/verify.number", Rows.laid_payoff_verify_number), ("payoff/verify.truth", Rows.laid_payoff_verify_truth)] [.data, .data, .data] true :=
  Program.laidByTextLater.sub seatTie2 ["payoff/code.kinds", "payoff/verify.number", "payoff/verify.truth"] (by kernel_rfl) (by kernel_rfl)
theorem verifyWays_row_tie : Rows.verifyWaysRow.laidByTextAt .later Tryd.pinned [.data, .data, .data] true :=
  OpenClaim.laidByTextAt_later rfl rfl tie2 noOwnUnsafe
theorem verifyProof_row_tie : Rows.verifyProofRow.laidByTextAt .later Tryd.pinned [.data, .data, .data] true :=
  OpenClaim.laidByTextAt_later rfl rfl tie2 noOwnUnsafe
theorem verifyFirst_row_tie : Rows.verifyFirstRow.laidByTextAt .later Tryd.pinned [.data, .data, .data] true :=
  OpenClaim.laidByTextAt_later rfl rfl tie2 noOwnUnsafe
theorem verifyPadded_row_tie : Rows.verifyPaddedRow.laidByTextAt .later Tryd.pinned [.data, .data, .data] true :=
  OpenClaim.laidByTextAt_later rfl rfl tie2 noOwnUnsafe
theorem tie3 : Tryd.prog.laidByTextLater [("payoff/payoffref11.table", Rows.laid_payoff_payoffref11_table), ("payoff/code.kinds", Rows.laid_payoff_code_kinds), ("payoff/verify.number", Rows.laid_payoff_verify_number), ("payoff/verify.truth", Rows.laid_payoff_verify_truth)] [.data, .data, .data, .data] true :=
  Program.laidByTextLater.sub seatTie3 ["payoff/payoffref11.table", "payoff/code.kinds", "payoff/verify.number", "payoff/verify.truth"] (by kernel_rfl) (by kernel_rfl)
theorem jointLaters_row_tie : Rows.jointLatersRow.laidByTextAt .later Tryd.pinned [.data, .data, .data, .data] true :=
  OpenClaim.laidByTextAt_later rfl rfl tie3 noOwnUnsafe
theorem imageCanonsUpto_row_tie : Rows.imageCanonsUptoRow.laidByTextAt .later Tryd.pinned [.data, .data] true :=
  OpenClaim.laidByTextAt_later rfl rfl tie noOwnUnsafe
theorem verifyWaysUpto_row_tie : Rows.verifyWaysUptoRow.laidByTextAt .later Tryd.pinned [.data, .data, .data] true :=
  OpenClaim.laidByTextAt_later rfl rfl tie2 noOwnUnsafe
theorem verifyProofUpto_row_tie : Rows.verifyProofUptoRow.laidByTextAt .later Tryd.pinned [.data, .data, .data] true :=
  OpenClaim.laidByTextAt_later rfl rfl tie2 noOwnUnsafe
theorem verifyFirstUpto_row_tie : Rows.verifyFirstUptoRow.laidByTextAt .later Tryd.pinned [.data, .data, .data] true :=
  OpenClaim.laidByTextAt_later rfl rfl tie2 noOwnUnsafe
theorem verifyPaddedUpto_row_tie : Rows.verifyPaddedUptoRow.laidByTextAt .later Tryd.pinned [.data, .data, .data] true :=
  OpenClaim.laidByTextAt_later rfl rfl tie2 noOwnUnsafe
theorem jointLatersUpto_row_tie : Rows.jointLatersUptoRow.laidByTextAt .later Tryd.pinned [.data, .data, .data, .data] true :=
  OpenClaim.laidByTextAt_later rfl rfl tie3 noOwnUnsafe
end Go.Proofs.YtkadamoofiddeaaDoor
