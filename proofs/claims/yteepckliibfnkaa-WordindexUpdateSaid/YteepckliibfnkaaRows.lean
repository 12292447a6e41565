/-
  No cell of these rows narrows 'for every input' (looked for: loops, veiled, ifaces, maps, wideKeys, modest, calm, conditions, laid).
  DERIVED. THE GIVEN ROWS OF THIS SEAT. 3 by the template 'for every input the law returns true; each argument reads behind the call as it read before'; 0 by the template 'total and deterministic' (their statements: YteepckliibfnkaaTotals.lean).
  GIVEN WITH THE SEED: the statements are not yours to turn. If you find one false, say at which input.
  Laid BY PROGRAM, IN A SANDBOX (cutbox-rows.mjs): the forced cells as the released guide's own fill.sh prints them over the translation 8e443cf81077d909… (all of the seat's roots in one cut). By AI agents, Wed Nov 11 2026. No macro, syntax, notation, axiom, sorry.
-/
import Derived.Test.YteepckliibfnkaaChecked
import GoSem.Claim
import GoSem.ClaimJoined
import GoSem.ClaimMapViews
import Derived.JoinedTies
import Derived.KernelRfl
namespace Go.Proofs.Yteepckliibfnkaa
/- THE CELL 'sum', in the pinned program and in every row, IS THE sha256 OF THE DUMP (.gsa) THAT YteepckliibfnkaaProg.lean LOADS. Nothing in Lean hashes anything: it is a label: what it is worth is what the hold of that sum in a sandbox is worth. -/
noncomputable def Try.pinned : Pinned := { name := "yteepckliibfnkaa", sum := "8e443cf81077d909bcc5c241e771d6224b34b2948118aebe5c6a27c6b362256a", checked := Try.checked }
namespace Rows
def none {H : Type} : Left H := { results := [], args := [] }

/-- 'glossatorlaw3.WordindexBuild': WHATEVER THE INPUT: true; the input reads as it did. -/
def wordindexBuildSpec : ChangeSpec := { name := "wordindexBuild", fn := fun _ => fun
  | [d1, d2] => { results := [.lit (.bool true)], args := [d1, d2] }
  | _ => none }
def wordindexBuildRow : OpenClaim := { program := "yteepckliibfnkaa", sum := "8e443cf81077d909bcc5c241e771d6224b34b2948118aebe5c6a27c6b362256a", func := "glossator/glossatorlaw3.WordindexBuild", spec := "wordindexBuild", inPlace := ["internal/bytealg.abigen_runtime_cmpstring"], unfollowed := true, recurses := true, apart := false }
def WordindexBuildSaid : Prop := wordindexBuildRow.holds Try.pinned (OpenSpec.ofChange wordindexBuildSpec)

/-- ITS FALSE NEIGHBOUR: 'it returns false'. Refute it at one input. -/
def wordindexBuildWrong : ChangeSpec := { name := "wordindexBuild", fn := fun _ => fun
  | [d1, d2] => { results := [.lit (.bool false)], args := [d1, d2] }
  | _ => none }
def WordindexBuildWrongFalsely : Prop := wordindexBuildRow.holds Try.pinned (OpenSpec.ofChange wordindexBuildWrong)

/-- 'glossatorlaw3.WordindexSave': WHATEVER THE INPUT: true; the input reads as it did. -/
def wordindexSaveSpec : ChangeSpec := { name := "wordindexSave", fn := fun _ => fun
  | [d] => { results := [.lit (.bool true)], args := [d] }
  | _ => none }
def wordindexSaveRow : OpenClaim := { program := "yteepckliibfnkaa", sum := "8e443cf81077d909bcc5c241e771d6224b34b2948118aebe5c6a27c6b362256a", func := "glossator/glossatorlaw3.WordindexSave", spec := "wordindexSave", inPlace := ["internal/bytealg.abigen_runtime_cmpstring"], unfollowed := true, recurses := true, apart := false }
def WordindexSaveSaid : Prop := wordindexSaveRow.holds Try.pinned (OpenSpec.ofChange wordindexSaveSpec)

/-- ITS FALSE NEIGHBOUR: 'it returns false'. Refute it at one input. -/
def wordindexSaveWrong : ChangeSpec := { name := "wordindexSave", fn := fun _ => fun
  | [d] => { results := [.lit (.bool false)], args := [d] }
  | _ => none }
def WordindexSaveWrongFalsely : Prop := wordindexSaveRow.holds Try.pinned (OpenSpec.ofChange wordindexSaveWrong)

/-- 'glossatorlaw3.WordindexUpdate': WHATEVER THE INPUT: true; the input reads as it did. -/
def wordindexUpdateSpec : ChangeSpec := { name := "wordindexUpdate", fn := fun _ => fun
  | [d1, d2, d3, d4] => { results := [.lit (.bool true)], args := [d1, d2, d3, d4] }
  | _ => none }
def wordindexUpdateRow : OpenClaim := { program := "yteepckliibfnkaa", sum := "8e443cf81077d909bcc5c241e771d6224b34b2948118aebe5c6a27c6b362256a", func := "glossator/glossatorlaw3.WordindexUpdate", spec := "wordindexUpdate", inPlace := ["internal/bytealg.abigen_runtime_cmpstring", "slices.overlaps[glossator/api.QIndexEntry]"], unfollowed := true, recurses := true, apart := false }
def WordindexUpdateSaid : Prop := wordindexUpdateRow.holds Try.pinned (OpenSpec.ofChange wordindexUpdateSpec)

/-- ITS FALSE NEIGHBOUR: 'it returns false'. Refute it at one input. -/
def wordindexUpdateWrong : ChangeSpec := { name := "wordindexUpdate", fn := fun _ => fun
  | [d1, d2, d3, d4] => { results := [.lit (.bool false)], args := [d1, d2, d3, d4] }
  | _ => none }
def WordindexUpdateWrongFalsely : Prop := wordindexUpdateRow.holds Try.pinned (OpenSpec.ofChange wordindexUpdateWrong)

/- THE SECOND FORM. 'bulk': how many values and letters a reading holds, each counted each time it is reached (what is shared counts as often as it is met; a slice's spare places count too). A statement '..UptoSaid' is the law's where the arguments, and the package variables that the reading takes, are together of bulk at most 1048576: NARROWER than '..Said'. Prove '..Said' where nothing that the law and all that it calls make is longer than what came in: it says more and counts as full. Else prove '..UptoSaid'. A law counts once. -/
mutual
def uptoBulk {H : Type} : DataW H → Nat
  | .lit (.string bytes) => bytes.length + 1
  | .lit _ => 1
  | .nil => 1
  | .ptr d => uptoBulk d + 1
  | .slice elems spare => uptoBulkAll elems + uptoBulkAll spare + 1
  | .agg parts => uptoBulkAll parts + 1
  | .iface _ d => uptoBulk d + 1
  | .map entries => uptoBulkEntries entries + 1
  | .held _ => 1
def uptoBulkAll {H : Type} : List (DataW H) → Nat
  | [] => 0
  | d :: r => uptoBulk d + uptoBulkAll r
def uptoBulkEntries {H : Type} : List (Lit × DataW H) → Nat
  | [] => 0
  | x :: r => uptoBulkEntry x + uptoBulkEntries r
def uptoBulkEntry {H : Type} : Lit × DataW H → Nat
  | (.string bytes, d) => bytes.length + uptoBulk d + 1
  | (_, d) => uptoBulk d + 1
 end
def uptoSmall : (H : Type) → List (DataW H) → Bool := fun _ ds => decide (uptoBulkAll ds ≤ 1048576)
def OpenSpec.upto (s : _root_.Go.ChangeSpec) : _root_.Go.OpenSpec := { _root_.Go.OpenSpec.ofChange s with cond := some uptoSmall }

/-- 'glossatorlaw3.WordindexBuild', WHERE WHAT IT READS IS OF BULK AT MOST 1048576: true; the input reads as it did. -/
def wordindexBuildUptoRow : OpenClaim := { program := "yteepckliibfnkaa", sum := "8e443cf81077d909bcc5c241e771d6224b34b2948118aebe5c6a27c6b362256a", func := "glossator/glossatorlaw3.WordindexBuild", spec := "wordindexBuild", inPlace := ["internal/bytealg.abigen_runtime_cmpstring"], unfollowed := true, recurses := true, apart := false, narrowed := true }
def WordindexBuildUptoSaid : Prop := wordindexBuildUptoRow.holds Try.pinned (OpenSpec.upto wordindexBuildSpec)

/-- 'glossatorlaw3.WordindexSave', WHERE WHAT IT READS IS OF BULK AT MOST 1048576: true; the input reads as it did. -/
def wordindexSaveUptoRow : OpenClaim := { program := "yteepckliibfnkaa", sum := "8e443cf81077d909bcc5c241e771d6224b34b2948118aebe5c6a27c6b362256a", func := "glossator/glossatorlaw3.WordindexSave", spec := "wordindexSave", inPlace := ["internal/bytealg.abigen_runtime_cmpstring"], unfollowed := true, recurses := true, apart := false, narrowed := true }
def WordindexSaveUptoSaid : Prop := wordindexSaveUptoRow.holds Try.pinned (OpenSpec.upto wordindexSaveSpec)

/-- 'glossatorlaw3.WordindexUpdate', WHERE WHAT IT READS IS OF BULK AT MOST 1048576: true; the input reads as it did. -/
def wordindexUpdateUptoRow : OpenClaim := { program := "yteepckliibfnkaa", sum := "8e443cf81077d909bcc5c241e771d6224b34b2948118aebe5c6a27c6b362256a", func := "glossator/glossatorlaw3.WordindexUpdate", spec := "wordindexUpdate", inPlace := ["internal/bytealg.abigen_runtime_cmpstring", "slices.overlaps[glossator/api.QIndexEntry]"], unfollowed := true, recurses := true, apart := false, narrowed := true }
def WordindexUpdateUptoSaid : Prop := wordindexUpdateUptoRow.holds Try.pinned (OpenSpec.upto wordindexUpdateSpec)

end Rows
end Go.Proofs.Yteepckliibfnkaa
