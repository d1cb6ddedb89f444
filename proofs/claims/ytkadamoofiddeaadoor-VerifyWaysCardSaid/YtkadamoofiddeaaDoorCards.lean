/-
  DERIVED. GIVEN WITH THE SEED: THE CARDS: each row of YtkadamoofiddeaaDoorRows.lean that lists a variable, with what it lists TIED to the program's text (the seventh form; the later family's looks); each row that meets fmt, with fmt's text TOLD by the authors' own Lean function (tested against real Go, not proved from fmt's source: count such statements apart). THE CARD IS WHAT COUNTS. Prove the row's statement (the work); the ties are given (YtkadamoofiddeaaDoorTie.lean); close each card by the builder's one call (the guide's Derived/Test/ToyasCard.lean, 'card_holds'). Laid BY PROGRAM, IN A SANDBOX (cutbox-door.mjs). By AI agents, Wed Nov 11 2026. No macro, syntax, notation, axiom, sorry.
-/
import Derived.Test.YtkadamoofiddeaaDoorRows
import GoSem.ClaimSeven
namespace Go.Proofs.YtkadamoofiddeaaDoor
namespace Rows

/-- THE TIED CARD OF 'payofflaw12.ImageCanons'. -/
def imageCanonsCard : Claim7 := { stood := { row := imageCanonsRow, standIns := [], harness := (true, "0bdf3bdebe09bb2040ac126840d2e61c1c8b27ea4f1c5cf12282551f9cec9037"), looks := false }, kinds := [], alts := [], laidByText := true, laidKinds := [.data, .data], laidTests := true, laidLooks := .later }
def ImageCanonsCardSaid : Prop := Claim7.holds Tryd.pinned (.plain (OpenSpec.ofChange imageCanonsSpec)) imageCanonsCard

/-- THE TIED CARD OF 'payofflaw14.VerifyWays'. -/
def verifyWaysCard : Claim7 := { stood := { row := verifyWaysRow, standIns := [], harness := (true, "0bdf3bdebe09bb2040ac126840d2e61c1c8b27ea4f1c5cf12282551f9cec9037"), looks := false }, kinds := [], alts := [], laidByText := true, laidKinds := [.data, .data, .data], laidTests := true, laidLooks := .later }
def VerifyWaysCardSaid : Prop := Claim7.holds Tryd.pinned (.plain (OpenSpec.ofChange verifyWaysSpec)) verifyWaysCard

/-- THE TIED CARD OF 'payofflaw14.VerifyProof'. -/
def verifyProofCard : Claim7 := { stood := { row := verifyProofRow, standIns := [], harness := (true, "0bdf3bdebe09bb2040ac126840d2e61c1c8b27ea4f1c5cf12282551f9cec9037"), looks := false }, kinds := [], alts := [], laidByText := true, laidKinds := [.data, .data, .data], laidTests := true, laidLooks := .later }
def VerifyProofCardSaid : Prop := Claim7.holds Tryd.pinned (.plain (OpenSpec.ofChange verifyProofSpec)) verifyProofCard

/-- THE TIED CARD OF 'payofflaw14.VerifyFirst'. -/
def verifyFirstCard : Claim7 := { stood := { row := verifyFirstRow, standIns := [], harness := (true, "0bdf3bdebe09bb2040ac126840d2e61c1c8b27ea4f1c5cf12282551f9cec9037"), looks := false }, kinds := [], alts := [], laidByText := true, laidKinds := [.data, .data, .data], laidTests := true, laidLooks := .later }
def VerifyFirstCardSaid : Prop := Claim7.holds Tryd.pinned (.plain (OpenSpec.ofChange verifyFirstSpec)) verifyFirstCard

/-- THE TIED CARD OF 'payofflaw14.VerifyPadded'. -/
def verifyPaddedCard : Claim7 := { stood := { row := verifyPaddedRow, standIns := [], harness := (true, "0bdf3bdebe09bb2040ac126840d2e61c1c8b27ea4f1c5cf12282551f9cec9037"), looks := false }, kinds := [], alts := [], laidByText := true, laidKinds := [.data, .data, .data], laidTests := true, laidLooks := .later }
def VerifyPaddedCardSaid : Prop := Claim7.holds Tryd.pinned (.plain (OpenSpec.ofChange verifyPaddedSpec)) verifyPaddedCard

/-- THE TIED CARD OF 'payofflaw19.JointLaters'. -/
def jointLatersCard : Claim7 := { stood := { row := jointLatersRow, standIns := [], harness := (true, "0bdf3bdebe09bb2040ac126840d2e61c1c8b27ea4f1c5cf12282551f9cec9037"), looks := false }, kinds := [], alts := [], laidByText := true, laidKinds := [.data, .data, .data, .data], laidTests := true, laidLooks := .later }
def JointLatersCardSaid : Prop := Claim7.holds Tryd.pinned (.plain (OpenSpec.ofChange jointLatersSpec)) jointLatersCard

/-- THE SECOND FORM's CARD OF 'payofflaw12.ImageCanons'. -/
def imageCanonsUptoCard : Claim7 := { stood := { row := imageCanonsUptoRow, standIns := [], harness := (true, "0bdf3bdebe09bb2040ac126840d2e61c1c8b27ea4f1c5cf12282551f9cec9037"), looks := false }, kinds := [], alts := [], laidByText := true, laidKinds := [.data, .data], laidTests := true, laidLooks := .later }
def ImageCanonsUptoCardSaid : Prop := Claim7.holds Tryd.pinned (.plain (OpenSpec.upto imageCanonsSpec)) imageCanonsUptoCard

/-- THE SECOND FORM's CARD OF 'payofflaw14.VerifyWays'. -/
def verifyWaysUptoCard : Claim7 := { stood := { row := verifyWaysUptoRow, standIns := [], harness := (true, "0bdf3bdebe09bb2040ac126840d2e61c1c8b27ea4f1c5cf12282551f9cec9037"), looks := false }, kinds := [], alts := [], laidByText := true, laidKinds := [.data, .data, .data], laidTests := true, laidLooks := .later }
def VerifyWaysUptoCardSaid : Prop := Claim7.holds Tryd.pinned (.plain (OpenSpec.upto verifyWaysSpec)) verifyWaysUptoCard

/-- THE SECOND FORM's CARD OF 'payofflaw14.VerifyProof'. -/
def verifyProofUptoCard : Claim7 := { stood := { row := verifyProofUptoRow, standIns := [], harness := (true, "0bdf3bdebe09bb2040ac126840d2e61c1c8b27ea4f1c5cf12282551f9cec9037"), looks := false }, kinds := [], alts := [], laidByText := true, laidKinds := [.data, .data, .data], laidTests := true, laidLooks := .later }
def VerifyProofUptoCardSaid : Prop := Claim7.holds Tryd.pinned (.plain (OpenSpec.upto verifyProofSpec)) verifyProofUptoCard

/-- THE SECOND FORM's CARD OF 'payofflaw14.VerifyFirst'. -/
def verifyFirstUptoCard : Claim7 := { stood := { row := verifyFirstUptoRow, standIns := [], harness := (true, "0bdf3bdebe09bb2040ac126840d2e61c1c8b27ea4f1c5cf12282551f9cec9037"), looks := false }, kinds := [], alts := [], laidByText := true, laidKinds := [.data, .data, .data], laidTests := true, laidLooks := .later }
def VerifyFirstUptoCardSaid : Prop := Claim7.holds Tryd.pinned (.plain (OpenSpec.upto verifyFirstSpec)) verifyFirstUptoCard

/-- THE SECOND FORM's CARD OF 'payofflaw14.VerifyPadded'. -/
def verifyPaddedUptoCard : Claim7 := { stood := { row := verifyPaddedUptoRow, standIns := [], harness := (true, "0bdf3bdebe09bb2040ac126840d2e61c1c8b27ea4f1c5cf12282551f9cec9037"), looks := false }, kinds := [], alts := [], laidByText := true, laidKinds := [.data, .data, .data], laidTests := true, laidLooks := .later }
def VerifyPaddedUptoCardSaid : Prop := Claim7.holds Tryd.pinned (.plain (OpenSpec.upto verifyPaddedSpec)) verifyPaddedUptoCard

/-- THE SECOND FORM's CARD OF 'payofflaw19.JointLaters'. -/
def jointLatersUptoCard : Claim7 := { stood := { row := jointLatersUptoRow, standIns := [], harness := (true, "0bdf3bdebe09bb2040ac126840d2e61c1c8b27ea4f1c5cf12282551f9cec9037"), looks := false }, kinds := [], alts := [], laidByText := true, laidKinds := [.data, .data, .data, .data], laidTests := true, laidLooks := .later }
def JointLatersUptoCardSaid : Prop := Claim7.holds Tryd.pinned (.plain (OpenSpec.upto jointLatersSpec)) jointLatersUptoCard
end Rows
end Go.Proofs.YtkadamoofiddeaaDoor
