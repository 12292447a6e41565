/-
  DERIVED. GIVEN WITH THE SEED: THE CARDS: each row of YtbinocieebfpiaaDoorRows.lean that lists a variable, with what it lists TIED to the program's text (the seventh form; the later family's looks); each row that meets fmt, with fmt's text TOLD by the authors' own Lean function (tested against real Go, not proved from fmt's source: count such statements apart). THE CARD IS WHAT COUNTS. Prove the row's statement (the work); the ties are given (YtbinocieebfpiaaDoorTie.lean); close each card by the builder's one call (the guide's Derived/Test/ToyasCard.lean, 'card_holds'). Laid BY PROGRAM, IN A SANDBOX (cutbox-door.mjs). By AI agents, Wed Nov 11 2026. No macro, syntax, notation, axiom, sorry.
-/
import Derived.Test.YtbinocieebfpiaaDoorRows
import GoSem.ClaimSeven
namespace Go.Proofs.YtbinocieebfpiaaDoor
namespace Rows

/-- THE TIED CARD OF 'glossatorlaw3.FramingNext'. -/
def framingNextCard : Claim7 := { stood := { row := framingNextRow, standIns := [], harness := (true, "356ef38f15c01996f5dca135cee8e296baa2d896da48ab8e8106eec22cb32d2c"), looks := true }, kinds := [], alts := [], laidByText := true, laidKinds := [.data, .data, .data, .data, .sentinel, .sentinel, .data, .data, .pinned, .pinned], laidTests := true, laidLooks := .later }
def FramingNextCardSaid : Prop := Claim7.holds Tryd.pinned (.plain (OpenSpec.ofChange framingNextSpec)) framingNextCard

/-- THE TIED CARD OF 'glossatorlaw3.FramingDecoder'. -/
def framingDecoderCard : Claim7 := { stood := { row := framingDecoderRow, standIns := [], harness := (true, "356ef38f15c01996f5dca135cee8e296baa2d896da48ab8e8106eec22cb32d2c"), looks := true }, kinds := [], alts := [], laidByText := true, laidKinds := [.data, .data, .data, .data, .sentinel, .sentinel, .data, .data, .pinned, .pinned], laidTests := true, laidLooks := .later }
def FramingDecoderCardSaid : Prop := Claim7.holds Tryd.pinned (.plain (OpenSpec.ofChange framingDecoderSpec)) framingDecoderCard

/-- THE SECOND FORM's CARD OF 'glossatorlaw3.FramingNext'. -/
def framingNextUptoCard : Claim7 := { stood := { row := framingNextUptoRow, standIns := [], harness := (true, "356ef38f15c01996f5dca135cee8e296baa2d896da48ab8e8106eec22cb32d2c"), looks := true }, kinds := [], alts := [], laidByText := true, laidKinds := [.data, .data, .data, .data, .sentinel, .sentinel, .data, .data, .pinned, .pinned], laidTests := true, laidLooks := .later }
def FramingNextUptoCardSaid : Prop := Claim7.holds Tryd.pinned (.plain (OpenSpec.upto framingNextSpec)) framingNextUptoCard

/-- THE SECOND FORM's CARD OF 'glossatorlaw3.FramingDecoder'. -/
def framingDecoderUptoCard : Claim7 := { stood := { row := framingDecoderUptoRow, standIns := [], harness := (true, "356ef38f15c01996f5dca135cee8e296baa2d896da48ab8e8106eec22cb32d2c"), looks := true }, kinds := [], alts := [], laidByText := true, laidKinds := [.data, .data, .data, .data, .sentinel, .sentinel, .data, .data, .pinned, .pinned], laidTests := true, laidLooks := .later }
def FramingDecoderUptoCardSaid : Prop := Claim7.holds Tryd.pinned (.plain (OpenSpec.upto framingDecoderSpec)) framingDecoderUptoCard
end Rows
end Go.Proofs.YtbinocieebfpiaaDoor
