/-
  DERIVED. GIVEN WITH THE SEED: THE CARDS: each row of YtlfdchgaeeadjaaDoorRows.lean that lists a variable, with what it lists TIED to the program's text (the seventh form; the later family's looks); each row that meets fmt, with fmt's text TOLD by the authors' own Lean function (tested against real Go, not proved from fmt's source: count such statements apart). THE CARD IS WHAT COUNTS. Prove the row's statement (the work); the ties are given (YtlfdchgaeeadjaaDoorTie.lean); close each card by the builder's one call (the guide's Derived/Test/ToyasCard.lean, 'card_holds'). Laid BY PROGRAM, IN A SANDBOX (cutbox-door.mjs). By AI agents, Wed Nov 11 2026. No macro, syntax, notation, axiom, sorry.
-/
import Derived.Test.YtlfdchgaeeadjaaDoorRows
import GoSem.ClaimSeven
namespace Go.Proofs.YtlfdchgaeeadjaaDoor
namespace Rows

/-- THE TIED CARD OF 'glossatorlaw3.JsonrpcEncode'. -/
def jsonrpcEncodeCard : Claim7 := { stood := { row := jsonrpcEncodeRow, standIns := [], harness := (true, "53967eee90d25fb81371aa841eebf0927871783f1ba8acaf8f5464e476c7d391"), looks := false }, kinds := [], alts := [], laidByText := true, laidKinds := [.data, .data, .data, .data, .pinned], laidTests := true, laidLooks := .later }
def JsonrpcEncodeCardSaid : Prop := Claim7.holds Tryd.pinned (.plain (OpenSpec.ofChange jsonrpcEncodeSpec)) jsonrpcEncodeCard

/-- THE TIED CARD OF 'glossatorlaw3.JsonrpcDecode'. -/
def jsonrpcDecodeCard : Claim7 := { stood := { row := jsonrpcDecodeRow, standIns := [], harness := (true, "53967eee90d25fb81371aa841eebf0927871783f1ba8acaf8f5464e476c7d391"), looks := false }, kinds := [], alts := [], laidByText := true, laidKinds := [.data, .data, .data, .data, .pinned], laidTests := true, laidLooks := .later }
def JsonrpcDecodeCardSaid : Prop := Claim7.holds Tryd.pinned (.plain (OpenSpec.ofChange jsonrpcDecodeSpec)) jsonrpcDecodeCard

/-- THE TIED CARD OF 'glossatorlaw3.JsonrpcServer'. -/
def jsonrpcServerCard : Claim7 := { stood := { row := jsonrpcServerRow, standIns := [], harness := (true, "53967eee90d25fb81371aa841eebf0927871783f1ba8acaf8f5464e476c7d391"), looks := false }, kinds := [], alts := [], laidByText := true, laidKinds := [.data, .data, .data, .data, .pinned], laidTests := true, laidLooks := .later }
def JsonrpcServerCardSaid : Prop := Claim7.holds Tryd.pinned (.plain (OpenSpec.ofChange jsonrpcServerSpec)) jsonrpcServerCard

/-- THE SECOND FORM's CARD OF 'glossatorlaw3.JsonrpcEncode'. -/
def jsonrpcEncodeUptoCard : Claim7 := { stood := { row := jsonrpcEncodeUptoRow, standIns := [], harness := (true, "53967eee90d25fb81371aa841eebf0927871783f1ba8acaf8f5464e476c7d391"), looks := false }, kinds := [], alts := [], laidByText := true, laidKinds := [.data, .data, .data, .data, .pinned], laidTests := true, laidLooks := .later }
def JsonrpcEncodeUptoCardSaid : Prop := Claim7.holds Tryd.pinned (.plain (OpenSpec.upto jsonrpcEncodeSpec)) jsonrpcEncodeUptoCard

/-- THE SECOND FORM's CARD OF 'glossatorlaw3.JsonrpcDecode'. -/
def jsonrpcDecodeUptoCard : Claim7 := { stood := { row := jsonrpcDecodeUptoRow, standIns := [], harness := (true, "53967eee90d25fb81371aa841eebf0927871783f1ba8acaf8f5464e476c7d391"), looks := false }, kinds := [], alts := [], laidByText := true, laidKinds := [.data, .data, .data, .data, .pinned], laidTests := true, laidLooks := .later }
def JsonrpcDecodeUptoCardSaid : Prop := Claim7.holds Tryd.pinned (.plain (OpenSpec.upto jsonrpcDecodeSpec)) jsonrpcDecodeUptoCard

/-- THE SECOND FORM's CARD OF 'glossatorlaw3.JsonrpcServer'. -/
def jsonrpcServerUptoCard : Claim7 := { stood := { row := jsonrpcServerUptoRow, standIns := [], harness := (true, "53967eee90d25fb81371aa841eebf0927871783f1ba8acaf8f5464e476c7d391"), looks := false }, kinds := [], alts := [], laidByText := true, laidKinds := [.data, .data, .data, .data, .pinned], laidTests := true, laidLooks := .later }
def JsonrpcServerUptoCardSaid : Prop := Claim7.holds Tryd.pinned (.plain (OpenSpec.upto jsonrpcServerSpec)) jsonrpcServerUptoCard
end Rows
end Go.Proofs.YtlfdchgaeeadjaaDoor
