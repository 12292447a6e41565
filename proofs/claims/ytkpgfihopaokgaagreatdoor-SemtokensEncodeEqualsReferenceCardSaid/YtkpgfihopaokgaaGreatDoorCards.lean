/-
  DERIVED. GIVEN WITH THE SEED: THE CARDS: each row of YtkpgfihopaokgaaGreatDoorRows.lean that lists a variable, with what it lists TIED to the program's text (the seventh form; the later family's looks); each row that meets fmt, with fmt's text TOLD by the authors' own Lean function (tested against real Go, not proved from fmt's source: count such statements apart). THE CARD IS WHAT COUNTS. Prove the row's statement (the work); the ties are given (YtkpgfihopaokgaaGreatDoorTie.lean); close each card by the builder's one call (the guide's Derived/Test/ToyasCard.lean, 'card_holds'). Laid BY PROGRAM, IN A SANDBOX (cutbox-door.mjs). By AI agents, Wed Nov 11 2026. No macro, syntax, notation, axiom, sorry.
-/
import Derived.Test.YtkpgfihopaokgaaGreatDoorRows
import GoSem.ClaimSeven
namespace Go.Proofs.YtkpgfihopaokgaaGreatDoor
namespace Rows

/-- THE TIED CARD OF 'glossatorlaw4.SemtokensEncodeEqualsReference'. -/
def semtokensEncodeEqualsReferenceCard : Claim7 := { stood := { row := semtokensEncodeEqualsReferenceRow, standIns := [], harness := (true, "a8e89d6ed29d20046b7e65c4824918c2eedd859ae7657f265ea206fd28c87d9e"), looks := true }, kinds := [], alts := [], laidByText := true, laidKinds := [.data, .data, .data, .sentinel, .sentinel, .listed, .data], laidTests := true, laidLooks := .later }
def SemtokensEncodeEqualsReferenceCardSaid : Prop := Claim7.holds Tryz.pinned (.plain (OpenSpec.ofChange semtokensEncodeEqualsReferenceSpec)) semtokensEncodeEqualsReferenceCard

/-- THE TIED CARD OF 'glossatorlaw4.SemtokensDiffIsMinimal'. -/
def semtokensDiffIsMinimalCard : Claim7 := { stood := { row := semtokensDiffIsMinimalRow, standIns := [], harness := (true, "a8e89d6ed29d20046b7e65c4824918c2eedd859ae7657f265ea206fd28c87d9e"), looks := true }, kinds := [], alts := [], laidByText := true, laidKinds := [.data, .data, .data, .sentinel, .sentinel, .listed, .data], laidTests := true, laidLooks := .later }
def SemtokensDiffIsMinimalCardSaid : Prop := Claim7.holds Tryz.pinned (.plain (OpenSpec.ofChange semtokensDiffIsMinimalSpec)) semtokensDiffIsMinimalCard

/-- THE SECOND FORM's CARD OF 'glossatorlaw4.SemtokensEncodeEqualsReference'. -/
def semtokensEncodeEqualsReferenceUptoCard : Claim7 := { stood := { row := semtokensEncodeEqualsReferenceUptoRow, standIns := [], harness := (true, "a8e89d6ed29d20046b7e65c4824918c2eedd859ae7657f265ea206fd28c87d9e"), looks := true }, kinds := [], alts := [], laidByText := true, laidKinds := [.data, .data, .data, .sentinel, .sentinel, .listed, .data], laidTests := true, laidLooks := .later }
def SemtokensEncodeEqualsReferenceUptoCardSaid : Prop := Claim7.holds Tryz.pinned (.plain (OpenSpec.upto semtokensEncodeEqualsReferenceSpec)) semtokensEncodeEqualsReferenceUptoCard

/-- THE SECOND FORM's CARD OF 'glossatorlaw4.SemtokensDiffIsMinimal'. -/
def semtokensDiffIsMinimalUptoCard : Claim7 := { stood := { row := semtokensDiffIsMinimalUptoRow, standIns := [], harness := (true, "a8e89d6ed29d20046b7e65c4824918c2eedd859ae7657f265ea206fd28c87d9e"), looks := true }, kinds := [], alts := [], laidByText := true, laidKinds := [.data, .data, .data, .sentinel, .sentinel, .listed, .data], laidTests := true, laidLooks := .later }
def SemtokensDiffIsMinimalUptoCardSaid : Prop := Claim7.holds Tryz.pinned (.plain (OpenSpec.upto semtokensDiffIsMinimalSpec)) semtokensDiffIsMinimalUptoCard
end Rows
end Go.Proofs.YtkpgfihopaokgaaGreatDoor
