/-
  NARROWER THAN 'FOR EVERY INPUT', by the rows' own cells (each row's printed sentence says how): ImageCanons: laid · VerifyWays: laid · VerifyProof: laid · VerifyFirst: laid · VerifyPadded: laid · JointLaters: laid.
  DERIVED. THE GIVEN ROWS OF THIS SEAT. 6 by the template 'for every input the law returns true; each argument reads behind the call as it read before'; 0 by the template 'total and deterministic' (their statements: YtkadamoofiddeaaDoorTotals.lean).
  GIVEN WITH THE SEED: the statements are not yours to turn. If you find one false, say at which input.
  Laid BY PROGRAM, IN A SANDBOX (cutbox-rows.mjs): the forced cells as the released guide's own fill.sh prints them over the translation 838cab2e25ee274c… (all of the seat's roots in one cut). By AI agents, Wed Nov 11 2026. No macro, syntax, notation, axiom, sorry.
-/
import Derived.Test.YtkadamoofiddeaaDoorChecked
import GoSem.Claim
import GoSem.ClaimJoined
import GoSem.ClaimMapViews
import Derived.JoinedTies
import Derived.KernelRfl
namespace Go.Proofs.YtkadamoofiddeaaDoor
/- THE CELL 'sum', in the pinned program and in every row, IS THE sha256 OF THE DUMP (.gsa) THAT YtkadamoofiddeaaDoorProg.lean LOADS. Nothing in Lean hashes anything: it is a label: what it is worth is what the hold of that sum in a sandbox is worth. -/
noncomputable def Tryd.pinned : Pinned := { name := "ytkadamoofiddeaadoor", sum := "838cab2e25ee274c5bfbabb3f267bae2f91c3199aa75f29d1677a48f79204eeb", checked := Tryd.checked }
namespace Rows
def none {H : Type} : Left H := { results := [], args := [] }

/- WHAT THE LISTED PACKAGE-LEVEL VARIABLES READ AS WHEN THE CALL BEGINS. Each datum BY PROGRAM (the guide's laid-datum.mjs) off the statement by which the dump's own 'gosem.cut.vars' lays the variable. In a bare row this is a premise. The card (YtkadamoofiddeaaDoorCards.lean) ties it to the program's text. -/
def laid_payoff_payoffref11_table {H : Type} : DataW H := .agg [.agg [.lit (.string [101, 110, 100]), .lit (.int .i64 (-1)), .lit (.int .i64 (-1)), .lit (.int .i64 0), .lit (.int .i64 0)], .agg [.lit (.string [99, 111, 110, 115, 116]), .lit (.int .i64 16383), .lit (.int .i64 (-1)), .lit (.int .i64 0), .lit (.int .i64 1)], .agg [.lit (.string [98, 111, 111, 108]), .lit (.int .i64 1), .lit (.int .i64 (-1)), .lit (.int .i64 0), .lit (.int .i64 1)], .agg [.lit (.string [111, 98, 115]), .lit (.int .i64 63), .lit (.int .i64 3660), .lit (.int .i64 0), .lit (.int .i64 1)], .agg [.lit (.string [108, 111, 97, 100]), .lit (.int .i64 32767), .lit (.int .i64 (-1)), .lit (.int .i64 0), .lit (.int .i64 1)], .agg [.lit (.string [115, 116, 111, 114, 101]), .lit (.int .i64 32767), .lit (.int .i64 (-1)), .lit (.int .i64 1), .lit (.int .i64 0)], .agg [.lit (.string [107, 101, 101, 112]), .lit (.int .i64 16383), .lit (.int .i64 (-1)), .lit (.int .i64 1), .lit (.int .i64 1)], .agg [.lit (.string [103, 101, 116]), .lit (.int .i64 16383), .lit (.int .i64 (-1)), .lit (.int .i64 0), .lit (.int .i64 1)], .agg [.lit (.string [100, 114, 111, 112]), .lit (.int .i64 (-1)), .lit (.int .i64 (-1)), .lit (.int .i64 1), .lit (.int .i64 0)], .agg [.lit (.string [97, 100, 100]), .lit (.int .i64 (-1)), .lit (.int .i64 (-1)), .lit (.int .i64 2), .lit (.int .i64 1)], .agg [.lit (.string [115, 117, 98]), .lit (.int .i64 (-1)), .lit (.int .i64 (-1)), .lit (.int .i64 2), .lit (.int .i64 1)], .agg [.lit (.string [109, 117, 108]), .lit (.int .i64 (-1)), .lit (.int .i64 (-1)), .lit (.int .i64 2), .lit (.int .i64 1)], .agg [.lit (.string [110, 101, 103]), .lit (.int .i64 (-1)), .lit (.int .i64 (-1)), .lit (.int .i64 1), .lit (.int .i64 1)], .agg [.lit (.string [100, 105, 118]), .lit (.int .i64 (-1)), .lit (.int .i64 (-1)), .lit (.int .i64 2), .lit (.int .i64 1)], .agg [.lit (.string [109, 111, 100]), .lit (.int .i64 (-1)), .lit (.int .i64 (-1)), .lit (.int .i64 2), .lit (.int .i64 1)], .agg [.lit (.string [97, 98, 115]), .lit (.int .i64 (-1)), .lit (.int .i64 (-1)), .lit (.int .i64 1), .lit (.int .i64 1)], .agg [.lit (.string [109, 105, 110]), .lit (.int .i64 (-1)), .lit (.int .i64 (-1)), .lit (.int .i64 2), .lit (.int .i64 1)], .agg [.lit (.string [109, 97, 120]), .lit (.int .i64 (-1)), .lit (.int .i64 (-1)), .lit (.int .i64 2), .lit (.int .i64 1)], .agg [.lit (.string [114, 97, 116, 105, 111]), .lit (.int .i64 4), .lit (.int .i64 (-1)), .lit (.int .i64 3), .lit (.int .i64 1)], .agg [.lit (.string [108, 116]), .lit (.int .i64 (-1)), .lit (.int .i64 (-1)), .lit (.int .i64 2), .lit (.int .i64 1)], .agg [.lit (.string [108, 101]), .lit (.int .i64 (-1)), .lit (.int .i64 (-1)), .lit (.int .i64 2), .lit (.int .i64 1)], .agg [.lit (.string [103, 116]), .lit (.int .i64 (-1)), .lit (.int .i64 (-1)), .lit (.int .i64 2), .lit (.int .i64 1)], .agg [.lit (.string [103, 101]), .lit (.int .i64 (-1)), .lit (.int .i64 (-1)), .lit (.int .i64 2), .lit (.int .i64 1)], .agg [.lit (.string [101, 113]), .lit (.int .i64 (-1)), .lit (.int .i64 (-1)), .lit (.int .i64 2), .lit (.int .i64 1)], .agg [.lit (.string [110, 101]), .lit (.int .i64 (-1)), .lit (.int .i64 (-1)), .lit (.int .i64 2), .lit (.int .i64 1)], .agg [.lit (.string [110, 111, 116]), .lit (.int .i64 (-1)), .lit (.int .i64 (-1)), .lit (.int .i64 1), .lit (.int .i64 1)], .agg [.lit (.string [106, 117, 109, 112]), .lit (.int .i64 262143), .lit (.int .i64 (-1)), .lit (.int .i64 0), .lit (.int .i64 0)], .agg [.lit (.string [122, 101, 114, 111]), .lit (.int .i64 262143), .lit (.int .i64 (-1)), .lit (.int .i64 1), .lit (.int .i64 0)], .agg [.lit (.string [102, 108, 111, 119]), .lit (.int .i64 4095), .lit (.int .i64 (-1)), .lit (.int .i64 1), .lit (.int .i64 0)]]
def laid_payoff_code_kinds {H : Type} : DataW H := .agg [.agg [.lit (.string [101, 110, 100]), .lit (.int .i64 0), .lit (.int .i64 0), .lit (.int .i64 0), .lit (.int .i64 0), .lit (.int .i64 0)], .agg [.lit (.string [99, 111, 110, 115, 116]), .lit (.int .i64 1), .lit (.int .i64 16383), .lit (.int .i64 0), .lit (.int .i64 0), .lit (.int .i64 1)], .agg [.lit (.string [98, 111, 111, 108]), .lit (.int .i64 1), .lit (.int .i64 1), .lit (.int .i64 0), .lit (.int .i64 0), .lit (.int .i64 1)], .agg [.lit (.string [111, 98, 115]), .lit (.int .i64 2), .lit (.int .i64 63), .lit (.int .i64 3660), .lit (.int .i64 0), .lit (.int .i64 1)], .agg [.lit (.string [108, 111, 97, 100]), .lit (.int .i64 1), .lit (.int .i64 32767), .lit (.int .i64 0), .lit (.int .i64 0), .lit (.int .i64 1)], .agg [.lit (.string [115, 116, 111, 114, 101]), .lit (.int .i64 1), .lit (.int .i64 32767), .lit (.int .i64 0), .lit (.int .i64 1), .lit (.int .i64 0)], .agg [.lit (.string [107, 101, 101, 112]), .lit (.int .i64 1), .lit (.int .i64 16383), .lit (.int .i64 0), .lit (.int .i64 1), .lit (.int .i64 1)], .agg [.lit (.string [103, 101, 116]), .lit (.int .i64 1), .lit (.int .i64 16383), .lit (.int .i64 0), .lit (.int .i64 0), .lit (.int .i64 1)], .agg [.lit (.string [100, 114, 111, 112]), .lit (.int .i64 0), .lit (.int .i64 0), .lit (.int .i64 0), .lit (.int .i64 1), .lit (.int .i64 0)], .agg [.lit (.string [97, 100, 100]), .lit (.int .i64 0), .lit (.int .i64 0), .lit (.int .i64 0), .lit (.int .i64 2), .lit (.int .i64 1)], .agg [.lit (.string [115, 117, 98]), .lit (.int .i64 0), .lit (.int .i64 0), .lit (.int .i64 0), .lit (.int .i64 2), .lit (.int .i64 1)], .agg [.lit (.string [109, 117, 108]), .lit (.int .i64 0), .lit (.int .i64 0), .lit (.int .i64 0), .lit (.int .i64 2), .lit (.int .i64 1)], .agg [.lit (.string [110, 101, 103]), .lit (.int .i64 0), .lit (.int .i64 0), .lit (.int .i64 0), .lit (.int .i64 1), .lit (.int .i64 1)], .agg [.lit (.string [100, 105, 118]), .lit (.int .i64 0), .lit (.int .i64 0), .lit (.int .i64 0), .lit (.int .i64 2), .lit (.int .i64 1)], .agg [.lit (.string [109, 111, 100]), .lit (.int .i64 0), .lit (.int .i64 0), .lit (.int .i64 0), .lit (.int .i64 2), .lit (.int .i64 1)], .agg [.lit (.string [97, 98, 115]), .lit (.int .i64 0), .lit (.int .i64 0), .lit (.int .i64 0), .lit (.int .i64 1), .lit (.int .i64 1)], .agg [.lit (.string [109, 105, 110]), .lit (.int .i64 0), .lit (.int .i64 0), .lit (.int .i64 0), .lit (.int .i64 2), .lit (.int .i64 1)], .agg [.lit (.string [109, 97, 120]), .lit (.int .i64 0), .lit (.int .i64 0), .lit (.int .i64 0), .lit (.int .i64 2), .lit (.int .i64 1)], .agg [.lit (.string [114, 97, 116, 105, 111]), .lit (.int .i64 1), .lit (.int .i64 4), .lit (.int .i64 0), .lit (.int .i64 3), .lit (.int .i64 1)], .agg [.lit (.string [108, 116]), .lit (.int .i64 0), .lit (.int .i64 0), .lit (.int .i64 0), .lit (.int .i64 2), .lit (.int .i64 1)], .agg [.lit (.string [108, 101]), .lit (.int .i64 0), .lit (.int .i64 0), .lit (.int .i64 0), .lit (.int .i64 2), .lit (.int .i64 1)], .agg [.lit (.string [103, 116]), .lit (.int .i64 0), .lit (.int .i64 0), .lit (.int .i64 0), .lit (.int .i64 2), .lit (.int .i64 1)], .agg [.lit (.string [103, 101]), .lit (.int .i64 0), .lit (.int .i64 0), .lit (.int .i64 0), .lit (.int .i64 2), .lit (.int .i64 1)], .agg [.lit (.string [101, 113]), .lit (.int .i64 0), .lit (.int .i64 0), .lit (.int .i64 0), .lit (.int .i64 2), .lit (.int .i64 1)], .agg [.lit (.string [110, 101]), .lit (.int .i64 0), .lit (.int .i64 0), .lit (.int .i64 0), .lit (.int .i64 2), .lit (.int .i64 1)], .agg [.lit (.string [110, 111, 116]), .lit (.int .i64 0), .lit (.int .i64 0), .lit (.int .i64 0), .lit (.int .i64 1), .lit (.int .i64 1)], .agg [.lit (.string [106, 117, 109, 112]), .lit (.int .i64 1), .lit (.int .i64 262143), .lit (.int .i64 0), .lit (.int .i64 0), .lit (.int .i64 0)], .agg [.lit (.string [122, 101, 114, 111]), .lit (.int .i64 1), .lit (.int .i64 262143), .lit (.int .i64 0), .lit (.int .i64 1), .lit (.int .i64 0)], .agg [.lit (.string [102, 108, 111, 119]), .lit (.int .i64 1), .lit (.int .i64 4095), .lit (.int .i64 0), .lit (.int .i64 1), .lit (.int .i64 0)]]
def laid_payoff_verify_number {H : Type} : DataW H := .agg [.lit (.bool false)]
def laid_payoff_verify_truth {H : Type} : DataW H := .agg [.lit (.bool true)]

/-- 'payofflaw12.ImageCanons': WHATEVER THE INPUT: true; the input reads as it did. -/
def imageCanonsSpec : ChangeSpec := { name := "imageCanons", fn := fun _ => fun
  | [d] => { results := [.lit (.bool true)], args := [d] }
  | _ => none }
def imageCanonsRow : OpenClaim := { program := "ytkadamoofiddeaadoor", sum := "838cab2e25ee274c5bfbabb3f267bae2f91c3199aa75f29d1677a48f79204eeb", func := "payoff/payofflaw12.ImageCanons", spec := "imageCanons", unfollowed := true, recurses := true, named := ["payoff/code.kinds", "payoff/payoffref11.table"], apart := false, laid := [("payoff/payoffref11.table", laid_payoff_payoffref11_table), ("payoff/code.kinds", laid_payoff_code_kinds)] }
def ImageCanonsSaid : Prop := imageCanonsRow.holds Tryd.pinned (OpenSpec.ofChange imageCanonsSpec)

/-- ITS FALSE NEIGHBOUR: 'it returns false'. Refute it at one input. -/
def imageCanonsWrong : ChangeSpec := { name := "imageCanons", fn := fun _ => fun
  | [d] => { results := [.lit (.bool false)], args := [d] }
  | _ => none }
def ImageCanonsWrongFalsely : Prop := imageCanonsRow.holds Tryd.pinned (OpenSpec.ofChange imageCanonsWrong)

/-- 'payofflaw14.VerifyWays': WHATEVER THE INPUT: true; the input reads as it did. -/
def verifyWaysSpec : ChangeSpec := { name := "verifyWays", fn := fun _ => fun
  | [d1, d2, d3] => { results := [.lit (.bool true)], args := [d1, d2, d3] }
  | _ => none }
def verifyWaysRow : OpenClaim := { program := "ytkadamoofiddeaadoor", sum := "838cab2e25ee274c5bfbabb3f267bae2f91c3199aa75f29d1677a48f79204eeb", func := "payoff/payofflaw14.VerifyWays", spec := "verifyWays", unfollowed := true, recurses := true, named := ["payoff/code.kinds", "payoff/verify.number", "payoff/verify.truth"], apart := false, laid := [("payoff/code.kinds", laid_payoff_code_kinds), ("payoff/verify.number", laid_payoff_verify_number), ("payoff/verify.truth", laid_payoff_verify_truth)] }
def VerifyWaysSaid : Prop := verifyWaysRow.holds Tryd.pinned (OpenSpec.ofChange verifyWaysSpec)

/-- ITS FALSE NEIGHBOUR: 'it returns false'. Refute it at one input. -/
def verifyWaysWrong : ChangeSpec := { name := "verifyWays", fn := fun _ => fun
  | [d1, d2, d3] => { results := [.lit (.bool false)], args := [d1, d2, d3] }
  | _ => none }
def VerifyWaysWrongFalsely : Prop := verifyWaysRow.holds Tryd.pinned (OpenSpec.ofChange verifyWaysWrong)

/-- 'payofflaw14.VerifyProof': WHATEVER THE INPUT: true; the input reads as it did. -/
def verifyProofSpec : ChangeSpec := { name := "verifyProof", fn := fun _ => fun
  | [d1, d2, d3, d4] => { results := [.lit (.bool true)], args := [d1, d2, d3, d4] }
  | _ => none }
def verifyProofRow : OpenClaim := { program := "ytkadamoofiddeaadoor", sum := "838cab2e25ee274c5bfbabb3f267bae2f91c3199aa75f29d1677a48f79204eeb", func := "payoff/payofflaw14.VerifyProof", spec := "verifyProof", unfollowed := true, recurses := true, named := ["payoff/code.kinds", "payoff/verify.number", "payoff/verify.truth"], apart := false, laid := [("payoff/code.kinds", laid_payoff_code_kinds), ("payoff/verify.number", laid_payoff_verify_number), ("payoff/verify.truth", laid_payoff_verify_truth)] }
def VerifyProofSaid : Prop := verifyProofRow.holds Tryd.pinned (OpenSpec.ofChange verifyProofSpec)

/-- ITS FALSE NEIGHBOUR: 'it returns false'. Refute it at one input. -/
def verifyProofWrong : ChangeSpec := { name := "verifyProof", fn := fun _ => fun
  | [d1, d2, d3, d4] => { results := [.lit (.bool false)], args := [d1, d2, d3, d4] }
  | _ => none }
def VerifyProofWrongFalsely : Prop := verifyProofRow.holds Tryd.pinned (OpenSpec.ofChange verifyProofWrong)

/-- 'payofflaw14.VerifyFirst': WHATEVER THE INPUT: true; the input reads as it did. -/
def verifyFirstSpec : ChangeSpec := { name := "verifyFirst", fn := fun _ => fun
  | [d1, d2] => { results := [.lit (.bool true)], args := [d1, d2] }
  | _ => none }
def verifyFirstRow : OpenClaim := { program := "ytkadamoofiddeaadoor", sum := "838cab2e25ee274c5bfbabb3f267bae2f91c3199aa75f29d1677a48f79204eeb", func := "payoff/payofflaw14.VerifyFirst", spec := "verifyFirst", unfollowed := true, recurses := true, named := ["payoff/code.kinds", "payoff/verify.number", "payoff/verify.truth"], apart := false, laid := [("payoff/code.kinds", laid_payoff_code_kinds), ("payoff/verify.number", laid_payoff_verify_number), ("payoff/verify.truth", laid_payoff_verify_truth)] }
def VerifyFirstSaid : Prop := verifyFirstRow.holds Tryd.pinned (OpenSpec.ofChange verifyFirstSpec)

/-- ITS FALSE NEIGHBOUR: 'it returns false'. Refute it at one input. -/
def verifyFirstWrong : ChangeSpec := { name := "verifyFirst", fn := fun _ => fun
  | [d1, d2] => { results := [.lit (.bool false)], args := [d1, d2] }
  | _ => none }
def VerifyFirstWrongFalsely : Prop := verifyFirstRow.holds Tryd.pinned (OpenSpec.ofChange verifyFirstWrong)

/-- 'payofflaw14.VerifyPadded': WHATEVER THE INPUT: true; the input reads as it did. -/
def verifyPaddedSpec : ChangeSpec := { name := "verifyPadded", fn := fun _ => fun
  | [d1, d2] => { results := [.lit (.bool true)], args := [d1, d2] }
  | _ => none }
def verifyPaddedRow : OpenClaim := { program := "ytkadamoofiddeaadoor", sum := "838cab2e25ee274c5bfbabb3f267bae2f91c3199aa75f29d1677a48f79204eeb", func := "payoff/payofflaw14.VerifyPadded", spec := "verifyPadded", unfollowed := true, recurses := true, named := ["payoff/code.kinds", "payoff/verify.number", "payoff/verify.truth"], apart := false, laid := [("payoff/code.kinds", laid_payoff_code_kinds), ("payoff/verify.number", laid_payoff_verify_number), ("payoff/verify.truth", laid_payoff_verify_truth)] }
def VerifyPaddedSaid : Prop := verifyPaddedRow.holds Tryd.pinned (OpenSpec.ofChange verifyPaddedSpec)

/-- ITS FALSE NEIGHBOUR: 'it returns false'. Refute it at one input. -/
def verifyPaddedWrong : ChangeSpec := { name := "verifyPadded", fn := fun _ => fun
  | [d1, d2] => { results := [.lit (.bool false)], args := [d1, d2] }
  | _ => none }
def VerifyPaddedWrongFalsely : Prop := verifyPaddedRow.holds Tryd.pinned (OpenSpec.ofChange verifyPaddedWrong)

/-- 'payofflaw19.JointLaters': WHATEVER THE INPUT: true; the input reads as it did. -/
def jointLatersSpec : ChangeSpec := { name := "jointLaters", fn := fun _ => fun
  | [d1, d2] => { results := [.lit (.bool true)], args := [d1, d2] }
  | _ => none }
def jointLatersRow : OpenClaim := { program := "ytkadamoofiddeaadoor", sum := "838cab2e25ee274c5bfbabb3f267bae2f91c3199aa75f29d1677a48f79204eeb", func := "payoff/payofflaw19.JointLaters", spec := "jointLaters", unfollowed := true, recurses := true, named := ["payoff/payoffref11.table", "payoff/code.kinds", "payoff/verify.number", "payoff/verify.truth"], apart := false, laid := [("payoff/payoffref11.table", laid_payoff_payoffref11_table), ("payoff/code.kinds", laid_payoff_code_kinds), ("payoff/verify.number", laid_payoff_verify_number), ("payoff/verify.truth", laid_payoff_verify_truth)] }
def JointLatersSaid : Prop := jointLatersRow.holds Tryd.pinned (OpenSpec.ofChange jointLatersSpec)

/-- ITS FALSE NEIGHBOUR: 'it returns false'. Refute it at one input. -/
def jointLatersWrong : ChangeSpec := { name := "jointLaters", fn := fun _ => fun
  | [d1, d2] => { results := [.lit (.bool false)], args := [d1, d2] }
  | _ => none }
def JointLatersWrongFalsely : Prop := jointLatersRow.holds Tryd.pinned (OpenSpec.ofChange jointLatersWrong)

/- THE SECOND FORM. 'bulk': how many values and letters a reading holds, each counted each time it is reached (what is shared counts as often as it is met; a slice's spare places count too). A statement '..UptoSaid' is the law's where the arguments, and the package variables that the reading takes, are together of bulk at most 1048576: NARROWER than '..Said'. Prove '..Said' where nothing that the law and all that it calls make is longer than what came in: it says more and counts as full. Else prove '..UptoSaid'. A law counts once. -/
mutual
def uptoBulk {H : Type} : DataW H → Nat
  | .lit (.string bytes) => bytes.length + 1
  | .lit _ => 1
  | .nil => 1
  | .ptr d => uptoBulk d + 1
  | .slice elems spare => uptoBulkAll elems + uptoBulkAll spare + 1
  | .agg parts => uptoBulkAll parts + 1
  | .iface _ d => uptoBulk d + 1
  | .map entries => uptoBulkEntries entries + 1
  | .held _ => 1
def uptoBulkAll {H : Type} : List (DataW H) → Nat
  | [] => 0
  | d :: r => uptoBulk d + uptoBulkAll r
def uptoBulkEntries {H : Type} : List (Lit × DataW H) → Nat
  | [] => 0
  | x :: r => uptoBulkEntry x + uptoBulkEntries r
def uptoBulkEntry {H : Type} : Lit × DataW H → Nat
  | (.string bytes, d) => bytes.length + uptoBulk d + 1
  | (_, d) => uptoBulk d + 1
 end
def uptoSmall : (H : Type) → List (DataW H) → Bool := fun _ ds => decide (uptoBulkAll ds ≤ 1048576)
def OpenSpec.upto (s : _root_.Go.ChangeSpec) : _root_.Go.OpenSpec := { _root_.Go.OpenSpec.ofChange s with cond := some uptoSmall }

/-- 'payofflaw12.ImageCanons', WHERE WHAT IT READS IS OF BULK AT MOST 1048576: true; the input reads as it did. -/
def imageCanonsUptoRow : OpenClaim := { program := "ytkadamoofiddeaadoor", sum := "838cab2e25ee274c5bfbabb3f267bae2f91c3199aa75f29d1677a48f79204eeb", func := "payoff/payofflaw12.ImageCanons", spec := "imageCanons", unfollowed := true, recurses := true, named := ["payoff/code.kinds", "payoff/payoffref11.table"], apart := false, laid := [("payoff/payoffref11.table", laid_payoff_payoffref11_table), ("payoff/code.kinds", laid_payoff_code_kinds)], narrowed := true }
def ImageCanonsUptoSaid : Prop := imageCanonsUptoRow.holds Tryd.pinned (OpenSpec.upto imageCanonsSpec)

/-- 'payofflaw14.VerifyWays', WHERE WHAT IT READS IS OF BULK AT MOST 1048576: true; the input reads as it did. -/
def verifyWaysUptoRow : OpenClaim := { program := "ytkadamoofiddeaadoor", sum := "838cab2e25ee274c5bfbabb3f267bae2f91c3199aa75f29d1677a48f79204eeb", func := "payoff/payofflaw14.VerifyWays", spec := "verifyWays", unfollowed := true, recurses := true, named := ["payoff/code.kinds", "payoff/verify.number", "payoff/verify.truth"], apart := false, laid := [("payoff/code.kinds", laid_payoff_code_kinds), ("payoff/verify.number", laid_payoff_verify_number), ("payoff/verify.truth", laid_payoff_verify_truth)], narrowed := true }
def VerifyWaysUptoSaid : Prop := verifyWaysUptoRow.holds Tryd.pinned (OpenSpec.upto verifyWaysSpec)

/-- 'payofflaw14.VerifyProof', WHERE WHAT IT READS IS OF BULK AT MOST 1048576: true; the input reads as it did. -/
def verifyProofUptoRow : OpenClaim := { program := "ytkadamoofiddeaadoor", sum := "838cab2e25ee274c5bfbabb3f267bae2f91c3199aa75f29d1677a48f79204eeb", func := "payoff/payofflaw14.VerifyProof", spec := "verifyProof", unfollowed := true, recurses := true, named := ["payoff/code.kinds", "payoff/verify.number", "payoff/verify.truth"], apart := false, laid := [("payoff/code.kinds", laid_payoff_code_kinds), ("payoff/verify.number", laid_payoff_verify_number), ("payoff/verify.truth", laid_payoff_verify_truth)], narrowed := true }
def VerifyProofUptoSaid : Prop := verifyProofUptoRow.holds Tryd.pinned (OpenSpec.upto verifyProofSpec)

/-- 'payofflaw14.VerifyFirst', WHERE WHAT IT READS IS OF BULK AT MOST 1048576: true; the input reads as it did. -/
def verifyFirstUptoRow : OpenClaim := { program := "ytkadamoofiddeaadoor", sum := "838cab2e25ee274c5bfbabb3f267bae2f91c3199aa75f29d1677a48f79204eeb", func := "payoff/payofflaw14.VerifyFirst", spec := "verifyFirst", unfollowed := true, recurses := true, named := ["payoff/code.kinds", "payoff/verify.number", "payoff/verify.truth"], apart := false, laid := [("payoff/code.kinds", laid_payoff_code_kinds), ("payoff/verify.number", laid_payoff_verify_number), ("payoff/verify.truth", laid_payoff_verify_truth)], narrowed := true }
def VerifyFirstUptoSaid : Prop := verifyFirstUptoRow.holds Tryd.pinned (OpenSpec.upto verifyFirstSpec)

/-- 'payofflaw14.VerifyPadded', WHERE WHAT IT READS IS OF BULK AT MOST 1048576: true; the input reads as it did. -/
def verifyPaddedUptoRow : OpenClaim := { program := "ytkadamoofiddeaadoor", sum := "838cab2e25ee274c5bfbabb3f267bae2f91c3199aa75f29d1677a48f79204eeb", func := "payoff/payofflaw14.VerifyPadded", spec := "verifyPadded", unfollowed := true, recurses := true, named := ["payoff/code.kinds", "payoff/verify.number", "payoff/verify.truth"], apart := false, laid := [("payoff/code.kinds", laid_payoff_code_kinds), ("payoff/verify.number", laid_payoff_verify_number), ("payoff/verify.truth", laid_payoff_verify_truth)], narrowed := true }
def VerifyPaddedUptoSaid : Prop := verifyPaddedUptoRow.holds Tryd.pinned (OpenSpec.upto verifyPaddedSpec)

/-- 'payofflaw19.JointLaters', WHERE WHAT IT READS IS OF BULK AT MOST 1048576: true; the input reads as it did. -/
def jointLatersUptoRow : OpenClaim := { program := "ytkadamoofiddeaadoor", sum := "838cab2e25ee274c5bfbabb3f267bae2f91c3199aa75f29d1677a48f79204eeb", func := "payoff/payofflaw19.JointLaters", spec := "jointLaters", unfollowed := true, recurses := true, named := ["payoff/payoffref11.table", "payoff/code.kinds", "payoff/verify.number", "payoff/verify.truth"], apart := false, laid := [("payoff/payoffref11.table", laid_payoff_payoffref11_table), ("payoff/code.kinds", laid_payoff_code_kinds), ("payoff/verify.number", laid_payoff_verify_number), ("payoff/verify.truth", laid_payoff_verify_truth)], narrowed := true }
def JointLatersUptoSaid : Prop := jointLatersUptoRow.holds Tryd.pinned (OpenSpec.upto jointLatersSpec)

end Rows
end Go.Proofs.YtkadamoofiddeaaDoor
