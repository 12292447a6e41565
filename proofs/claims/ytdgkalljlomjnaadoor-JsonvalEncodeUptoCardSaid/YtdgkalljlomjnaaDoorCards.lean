/-
  DERIVED. GIVEN WITH THE SEED: THE CARDS: each row of YtdgkalljlomjnaaDoorRows.lean that lists a variable, with what it lists TIED to the program's text (the seventh form; the later family's looks); each row that meets fmt, with fmt's text TOLD by the authors' own Lean function (tested against real Go, not proved from fmt's source: count such statements apart). THE CARD IS WHAT COUNTS. Prove the row's statement (the work); the ties are given (YtdgkalljlomjnaaDoorTie.lean); close each card by the builder's one call (the guide's Derived/Test/ToyasCard.lean, 'card_holds'). Laid BY PROGRAM, IN A SANDBOX (cutbox-door.mjs). By AI agents, Wed Nov 11 2026. No macro, syntax, notation, axiom, sorry.
-/
import Derived.Test.YtdgkalljlomjnaaDoorRows
import GoSem.ClaimSeven
namespace Go.Proofs.YtdgkalljlomjnaaDoor
namespace Rows

/-- THE TIED CARD OF 'glossatorlaw3.JsonvalEncode'. -/
def jsonvalEncodeCard : Claim7 := { stood := { row := jsonvalEncodeRow, standIns := [], harness := (true, "e458f139cf72c1bf99c5968d23a6f3832d53a074b08fee4d901a3055bf6abee3"), looks := true }, kinds := [], alts := [], laidByText := true, laidKinds := [.data, .data, .data, .data, .sentinel, .sentinel, .pinned], laidTests := true, laidLooks := .later }
def JsonvalEncodeCardSaid : Prop := Claim7.holds Tryd.pinned (.plain (OpenSpec.ofChange jsonvalEncodeSpec)) jsonvalEncodeCard

/-- THE TIED CARD OF 'glossatorlaw3.JsonvalDecode'. -/
def jsonvalDecodeCard : Claim7 := { stood := { row := jsonvalDecodeRow, standIns := [], harness := (true, "e458f139cf72c1bf99c5968d23a6f3832d53a074b08fee4d901a3055bf6abee3"), looks := true }, kinds := [], alts := [], laidByText := true, laidKinds := [.data, .data, .data, .data, .sentinel, .sentinel, .pinned], laidTests := true, laidLooks := .later }
def JsonvalDecodeCardSaid : Prop := Claim7.holds Tryd.pinned (.plain (OpenSpec.ofChange jsonvalDecodeSpec)) jsonvalDecodeCard

/-- THE TIED CARD OF 'glossatorlaw3.JsonvalLookup'. -/
def jsonvalLookupCard : Claim7 := { stood := { row := jsonvalLookupRow, standIns := [], harness := (true, "e458f139cf72c1bf99c5968d23a6f3832d53a074b08fee4d901a3055bf6abee3"), looks := true }, kinds := [], alts := [], laidByText := true, laidKinds := [.data, .data, .data, .data, .sentinel, .sentinel, .pinned], laidTests := true, laidLooks := .later }
def JsonvalLookupCardSaid : Prop := Claim7.holds Tryd.pinned (.plain (OpenSpec.ofChange jsonvalLookupSpec)) jsonvalLookupCard

/-- THE SECOND FORM's CARD OF 'glossatorlaw3.JsonvalEncode'. -/
def jsonvalEncodeUptoCard : Claim7 := { stood := { row := jsonvalEncodeUptoRow, standIns := [], harness := (true, "e458f139cf72c1bf99c5968d23a6f3832d53a074b08fee4d901a3055bf6abee3"), looks := true }, kinds := [], alts := [], laidByText := true, laidKinds := [.data, .data, .data, .data, .sentinel, .sentinel, .pinned], laidTests := true, laidLooks := .later }
def JsonvalEncodeUptoCardSaid : Prop := Claim7.holds Tryd.pinned (.plain (OpenSpec.upto jsonvalEncodeSpec)) jsonvalEncodeUptoCard

/-- THE SECOND FORM's CARD OF 'glossatorlaw3.JsonvalDecode'. -/
def jsonvalDecodeUptoCard : Claim7 := { stood := { row := jsonvalDecodeUptoRow, standIns := [], harness := (true, "e458f139cf72c1bf99c5968d23a6f3832d53a074b08fee4d901a3055bf6abee3"), looks := true }, kinds := [], alts := [], laidByText := true, laidKinds := [.data, .data, .data, .data, .sentinel, .sentinel, .pinned], laidTests := true, laidLooks := .later }
def JsonvalDecodeUptoCardSaid : Prop := Claim7.holds Tryd.pinned (.plain (OpenSpec.upto jsonvalDecodeSpec)) jsonvalDecodeUptoCard

/-- THE SECOND FORM's CARD OF 'glossatorlaw3.JsonvalLookup'. -/
def jsonvalLookupUptoCard : Claim7 := { stood := { row := jsonvalLookupUptoRow, standIns := [], harness := (true, "e458f139cf72c1bf99c5968d23a6f3832d53a074b08fee4d901a3055bf6abee3"), looks := true }, kinds := [], alts := [], laidByText := true, laidKinds := [.data, .data, .data, .data, .sentinel, .sentinel, .pinned], laidTests := true, laidLooks := .later }
def JsonvalLookupUptoCardSaid : Prop := Claim7.holds Tryd.pinned (.plain (OpenSpec.upto jsonvalLookupSpec)) jsonvalLookupUptoCard
end Rows
end Go.Proofs.YtdgkalljlomjnaaDoor
