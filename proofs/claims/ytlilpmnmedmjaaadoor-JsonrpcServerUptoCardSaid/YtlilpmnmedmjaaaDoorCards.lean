/-
  DERIVED. GIVEN WITH THE SEED: THE CARDS: each row of YtlilpmnmedmjaaaDoorRows.lean that lists a variable, with what it lists TIED to the program's text (the seventh form; the later family's looks); each row that meets fmt, with fmt's text TOLD by the authors' own Lean function (tested against real Go, not proved from fmt's source: count such statements apart). THE CARD IS WHAT COUNTS. Prove the row's statement (the work); the ties are given (YtlilpmnmedmjaaaDoorTie.lean); close each card by the builder's one call (the guide's Derived/Test/ToyasCard.lean, 'card_holds'). Laid BY PROGRAM, IN A SANDBOX (cutbox-door.mjs). By AI agents, Wed Nov 11 2026. No macro, syntax, notation, axiom, sorry.
-/
import Derived.Test.YtlilpmnmedmjaaaDoorRows
import GoSem.ClaimSeven
namespace Go.Proofs.YtlilpmnmedmjaaaDoor
namespace Rows

/-- THE TIED CARD OF 'glossatorlaw3.JsonrpcServer'. -/
def jsonrpcServerCard : Claim7 := { stood := { row := jsonrpcServerRow, standIns := [], harness := (true, "8aed9857d86e2fffc35fb5ab0d2b0454859cea22614ced22a8c75c8442de53e2"), looks := false }, kinds := [], alts := [], laidByText := true, laidKinds := [.data, .data, .data, .data, .pinned], laidTests := true, laidLooks := .later }
def JsonrpcServerCardSaid : Prop := Claim7.holds Tryd.pinned (.plain (OpenSpec.ofChange jsonrpcServerSpec)) jsonrpcServerCard

/-- THE SECOND FORM's CARD OF 'glossatorlaw3.JsonrpcServer'. -/
def jsonrpcServerUptoCard : Claim7 := { stood := { row := jsonrpcServerUptoRow, standIns := [], harness := (true, "8aed9857d86e2fffc35fb5ab0d2b0454859cea22614ced22a8c75c8442de53e2"), looks := false }, kinds := [], alts := [], laidByText := true, laidKinds := [.data, .data, .data, .data, .pinned], laidTests := true, laidLooks := .later }
def JsonrpcServerUptoCardSaid : Prop := Claim7.holds Tryd.pinned (.plain (OpenSpec.upto jsonrpcServerSpec)) jsonrpcServerUptoCard
end Rows
end Go.Proofs.YtlilpmnmedmjaaaDoor
