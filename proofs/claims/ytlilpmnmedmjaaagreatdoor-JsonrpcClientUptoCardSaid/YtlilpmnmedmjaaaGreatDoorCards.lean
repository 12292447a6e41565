/-
  DERIVED. GIVEN WITH THE SEED: THE CARDS: each row of YtlilpmnmedmjaaaGreatDoorRows.lean that lists a variable, with what it lists TIED to the program's text (the seventh form; the later family's looks); each row that meets fmt, with fmt's text TOLD by the authors' own Lean function (tested against real Go, not proved from fmt's source: count such statements apart). THE CARD IS WHAT COUNTS. Prove the row's statement (the work); the ties are given (YtlilpmnmedmjaaaGreatDoorTie.lean); close each card by the builder's one call (the guide's Derived/Test/ToyasCard.lean, 'card_holds'). Laid BY PROGRAM, IN A SANDBOX (cutbox-door.mjs). By AI agents, Wed Nov 11 2026. No macro, syntax, notation, axiom, sorry.
-/
import Derived.Test.YtlilpmnmedmjaaaGreatDoorRows
import GoSem.ClaimSeven
namespace Go.Proofs.YtlilpmnmedmjaaaGreatDoor
namespace Rows

/-- THE TIED CARD OF 'glossatorlaw3.JsonrpcClient'. -/
def jsonrpcClientCard : Claim7 := { stood := { row := jsonrpcClientRow, standIns := [], harness := (true, "2a945e9f0b06d5b86f7bcecfaf5532c95b04151ce35d333f7734020c3044bc12"), looks := false }, kinds := [], alts := [], laidByText := true, laidKinds := [.data, .data, .data, .data, .pinned], laidTests := true, laidLooks := .later }
def JsonrpcClientCardSaid : Prop := Claim7.holds Tryz.pinned (.plain (OpenSpec.ofChange jsonrpcClientSpec)) jsonrpcClientCard

/-- THE SECOND FORM's CARD OF 'glossatorlaw3.JsonrpcClient'. -/
def jsonrpcClientUptoCard : Claim7 := { stood := { row := jsonrpcClientUptoRow, standIns := [], harness := (true, "2a945e9f0b06d5b86f7bcecfaf5532c95b04151ce35d333f7734020c3044bc12"), looks := false }, kinds := [], alts := [], laidByText := true, laidKinds := [.data, .data, .data, .data, .pinned], laidTests := true, laidLooks := .later }
def JsonrpcClientUptoCardSaid : Prop := Claim7.holds Tryz.pinned (.plain (OpenSpec.upto jsonrpcClientSpec)) jsonrpcClientUptoCard
end Rows
end Go.Proofs.YtlilpmnmedmjaaaGreatDoor
