/-
  DERIVED. GIVEN WITH THE SEED: THE CARDS: each row of YtjkfnbjgpilokaaGreatDoorRows.lean that lists a variable, with what it lists TIED to the program's text (the seventh form; the later family's looks); each row that meets fmt, with fmt's text TOLD by the authors' own Lean function (tested against real Go, not proved from fmt's source: count such statements apart). THE CARD IS WHAT COUNTS. Prove the row's statement (the work); the ties are given (YtjkfnbjgpilokaaGreatDoorTie.lean); close each card by the builder's one call (the guide's Derived/Test/ToyasCard.lean, 'card_holds'). Laid BY PROGRAM, IN A SANDBOX (cutbox-door.mjs). By AI agents, Wed Nov 11 2026. No macro, syntax, notation, axiom, sorry.
-/
import Derived.Test.YtjkfnbjgpilokaaGreatDoorRows
import GoSem.ClaimSeven
namespace Go.Proofs.YtjkfnbjgpilokaaGreatDoor
namespace Rows

/-- THE TIED CARD OF 'glossatorlaw4.ReferencesApplyEditsEqualsReference'. -/
def referencesApplyEditsEqualsReferenceCard : Claim7 := { stood := { row := referencesApplyEditsEqualsReferenceRow, standIns := [], harness := (true, "d3698c60c5d6bbb6aa2fc8864d863d3112850d191884e8ff268a48419500e4a3"), looks := true }, kinds := [], alts := [], laidByText := true, laidKinds := [.data, .data, .data, .sentinel, .sentinel, .listed, .data], laidTests := true, laidLooks := .later }
def ReferencesApplyEditsEqualsReferenceCardSaid : Prop := Claim7.holds Tryz.pinned (.plain (OpenSpec.ofChange referencesApplyEditsEqualsReferenceSpec)) referencesApplyEditsEqualsReferenceCard

/-- THE TIED CARD OF 'glossatorlaw4.ReferencesCorrespondingEqualsReference'. -/
def referencesCorrespondingEqualsReferenceCard : Claim7 := { stood := { row := referencesCorrespondingEqualsReferenceRow, standIns := [], harness := (true, "d3698c60c5d6bbb6aa2fc8864d863d3112850d191884e8ff268a48419500e4a3"), looks := true }, kinds := [], alts := [], laidByText := true, laidKinds := [.data, .data, .data, .sentinel, .sentinel, .listed, .data], laidTests := true, laidLooks := .later }
def ReferencesCorrespondingEqualsReferenceCardSaid : Prop := Claim7.holds Tryz.pinned (.plain (OpenSpec.ofChange referencesCorrespondingEqualsReferenceSpec)) referencesCorrespondingEqualsReferenceCard

/-- THE TIED CARD OF 'glossatorlaw4.ExtractFirstEvaluatedEqualsReference'. -/
def extractFirstEvaluatedEqualsReferenceCard : Claim7 := { stood := { row := extractFirstEvaluatedEqualsReferenceRow, standIns := [], harness := (true, "d3698c60c5d6bbb6aa2fc8864d863d3112850d191884e8ff268a48419500e4a3"), looks := true }, kinds := [], alts := [], laidByText := true, laidKinds := [.data, .data, .data, .sentinel, .sentinel, .listed, .data], laidTests := true, laidLooks := .later }
def ExtractFirstEvaluatedEqualsReferenceCardSaid : Prop := Claim7.holds Tryz.pinned (.plain (OpenSpec.ofChange extractFirstEvaluatedEqualsReferenceSpec)) extractFirstEvaluatedEqualsReferenceCard

/-- THE SECOND FORM's CARD OF 'glossatorlaw4.ReferencesApplyEditsEqualsReference'. -/
def referencesApplyEditsEqualsReferenceUptoCard : Claim7 := { stood := { row := referencesApplyEditsEqualsReferenceUptoRow, standIns := [], harness := (true, "d3698c60c5d6bbb6aa2fc8864d863d3112850d191884e8ff268a48419500e4a3"), looks := true }, kinds := [], alts := [], laidByText := true, laidKinds := [.data, .data, .data, .sentinel, .sentinel, .listed, .data], laidTests := true, laidLooks := .later }
def ReferencesApplyEditsEqualsReferenceUptoCardSaid : Prop := Claim7.holds Tryz.pinned (.plain (OpenSpec.upto referencesApplyEditsEqualsReferenceSpec)) referencesApplyEditsEqualsReferenceUptoCard

/-- THE SECOND FORM's CARD OF 'glossatorlaw4.ReferencesCorrespondingEqualsReference'. -/
def referencesCorrespondingEqualsReferenceUptoCard : Claim7 := { stood := { row := referencesCorrespondingEqualsReferenceUptoRow, standIns := [], harness := (true, "d3698c60c5d6bbb6aa2fc8864d863d3112850d191884e8ff268a48419500e4a3"), looks := true }, kinds := [], alts := [], laidByText := true, laidKinds := [.data, .data, .data, .sentinel, .sentinel, .listed, .data], laidTests := true, laidLooks := .later }
def ReferencesCorrespondingEqualsReferenceUptoCardSaid : Prop := Claim7.holds Tryz.pinned (.plain (OpenSpec.upto referencesCorrespondingEqualsReferenceSpec)) referencesCorrespondingEqualsReferenceUptoCard

/-- THE SECOND FORM's CARD OF 'glossatorlaw4.ExtractFirstEvaluatedEqualsReference'. -/
def extractFirstEvaluatedEqualsReferenceUptoCard : Claim7 := { stood := { row := extractFirstEvaluatedEqualsReferenceUptoRow, standIns := [], harness := (true, "d3698c60c5d6bbb6aa2fc8864d863d3112850d191884e8ff268a48419500e4a3"), looks := true }, kinds := [], alts := [], laidByText := true, laidKinds := [.data, .data, .data, .sentinel, .sentinel, .listed, .data], laidTests := true, laidLooks := .later }
def ExtractFirstEvaluatedEqualsReferenceUptoCardSaid : Prop := Claim7.holds Tryz.pinned (.plain (OpenSpec.upto extractFirstEvaluatedEqualsReferenceSpec)) extractFirstEvaluatedEqualsReferenceUptoCard
end Rows
end Go.Proofs.YtjkfnbjgpilokaaGreatDoor
