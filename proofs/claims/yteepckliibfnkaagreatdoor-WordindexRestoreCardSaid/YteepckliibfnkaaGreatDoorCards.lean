/-
  DERIVED. GIVEN WITH THE SEED: THE CARDS: each row of YteepckliibfnkaaGreatDoorRows.lean that lists a variable, with what it lists TIED to the program's text (the seventh form; the later family's looks); each row that meets fmt, with fmt's text TOLD by the authors' own Lean function (tested against real Go, not proved from fmt's source: count such statements apart). THE CARD IS WHAT COUNTS. Prove the row's statement (the work); the ties are given (YteepckliibfnkaaGreatDoorTie.lean); close each card by the builder's one call (the guide's Derived/Test/ToyasCard.lean, 'card_holds'). Laid BY PROGRAM, IN A SANDBOX (cutbox-door.mjs). By AI agents, Wed Nov 11 2026. No macro, syntax, notation, axiom, sorry.
-/
import Derived.Test.YteepckliibfnkaaGreatDoorRows
import GoSem.ClaimSeven
namespace Go.Proofs.YteepckliibfnkaaGreatDoor
namespace Rows

/-- THE TIED CARD OF 'glossatorlaw3.WordindexRestore'. -/
def wordindexRestoreCard : Claim7 := { stood := { row := wordindexRestoreRow, standIns := [], harness := (true, "d1eba966c56e926f7e4e1d6c0fb541b2db416ccdf34ef32a2ae4471774ec8162"), looks := false }, kinds := [], alts := [], laidByText := true, laidKinds := [.data, .pinned], laidTests := true, laidLooks := .later }
def WordindexRestoreCardSaid : Prop := Claim7.holds Tryz.pinned (.plain (OpenSpec.ofChange wordindexRestoreSpec)) wordindexRestoreCard

/-- THE SECOND FORM's CARD OF 'glossatorlaw3.WordindexRestore'. -/
def wordindexRestoreUptoCard : Claim7 := { stood := { row := wordindexRestoreUptoRow, standIns := [], harness := (true, "d1eba966c56e926f7e4e1d6c0fb541b2db416ccdf34ef32a2ae4471774ec8162"), looks := false }, kinds := [], alts := [], laidByText := true, laidKinds := [.data, .pinned], laidTests := true, laidLooks := .later }
def WordindexRestoreUptoCardSaid : Prop := Claim7.holds Tryz.pinned (.plain (OpenSpec.upto wordindexRestoreSpec)) wordindexRestoreUptoCard
end Rows
end Go.Proofs.YteepckliibfnkaaGreatDoor
