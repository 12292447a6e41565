/-
  No cell of these rows narrows 'for every input' (looked for: loops, veiled, ifaces, maps, wideKeys, modest, calm, conditions, laid).
  DERIVED. THE GIVEN ROWS OF THIS SEAT. 4 by the template 'for every input the law returns true; each argument reads behind the call as it read before'; 0 by the template 'total and deterministic' (their statements: YtjbndlijmgnpnaaTotals.lean).
  GIVEN WITH THE SEED: the statements are not yours to turn. If you find one false, say at which input.
  Laid BY PROGRAM, IN A SANDBOX (cutbox-rows.mjs): the forced cells as the released guide's own fill.sh prints them over the translation e27f41bc8ed2775c… (all of the seat's roots in one cut). By AI agents, Wed Nov 11 2026. No macro, syntax, notation, axiom, sorry.
-/
import Derived.Test.YtjbndlijmgnpnaaChecked
import GoSem.Claim
import GoSem.ClaimJoined
import GoSem.ClaimMapViews
import Derived.JoinedTies
import Derived.KernelRfl
namespace Go.Proofs.Ytjbndlijmgnpnaa
/- THE CELL 'sum', in the pinned program and in every row, IS THE sha256 OF THE DUMP (.gsa) THAT YtjbndlijmgnpnaaProg.lean LOADS. Nothing in Lean hashes anything: it is a label: what it is worth is what the hold of that sum in a sandbox is worth. -/
noncomputable def Try.pinned : Pinned := { name := "ytjbndlijmgnpnaa", sum := "e27f41bc8ed2775c8aa6d2d82e7658825958291ee887796b76724cf708083c27", checked := Try.checked }
namespace Rows
def none {H : Type} : Left H := { results := [], args := [] }

/-- 'glossatorlaw3.QuerylangCheck': WHATEVER THE INPUT: true; the input reads as it did. -/
def querylangCheckSpec : ChangeSpec := { name := "querylangCheck", fn := fun _ => fun
  | [d] => { results := [.lit (.bool true)], args := [d] }
  | _ => none }
def querylangCheckRow : OpenClaim := { program := "ytjbndlijmgnpnaa", sum := "e27f41bc8ed2775c8aa6d2d82e7658825958291ee887796b76724cf708083c27", func := "glossator/glossatorlaw3.QuerylangCheck", spec := "querylangCheck", unfollowed := true, recurses := true, apart := false }
def QuerylangCheckSaid : Prop := querylangCheckRow.holds Try.pinned (OpenSpec.ofChange querylangCheckSpec)

/-- ITS FALSE NEIGHBOUR: 'it returns false'. Refute it at one input. -/
def querylangCheckWrong : ChangeSpec := { name := "querylangCheck", fn := fun _ => fun
  | [d] => { results := [.lit (.bool false)], args := [d] }
  | _ => none }
def QuerylangCheckWrongFalsely : Prop := querylangCheckRow.holds Try.pinned (OpenSpec.ofChange querylangCheckWrong)

/-- 'glossatorlaw3.QuerylangEval': WHATEVER THE INPUT: true; the input reads as it did. -/
def querylangEvalSpec : ChangeSpec := { name := "querylangEval", fn := fun _ => fun
  | [d1, d2, d3] => { results := [.lit (.bool true)], args := [d1, d2, d3] }
  | _ => none }
def querylangEvalRow : OpenClaim := { program := "ytjbndlijmgnpnaa", sum := "e27f41bc8ed2775c8aa6d2d82e7658825958291ee887796b76724cf708083c27", func := "glossator/glossatorlaw3.QuerylangEval", spec := "querylangEval", unfollowed := true, recurses := true, apart := false }
def QuerylangEvalSaid : Prop := querylangEvalRow.holds Try.pinned (OpenSpec.ofChange querylangEvalSpec)

/-- ITS FALSE NEIGHBOUR: 'it returns false'. Refute it at one input. -/
def querylangEvalWrong : ChangeSpec := { name := "querylangEval", fn := fun _ => fun
  | [d1, d2, d3] => { results := [.lit (.bool false)], args := [d1, d2, d3] }
  | _ => none }
def QuerylangEvalWrongFalsely : Prop := querylangEvalRow.holds Try.pinned (OpenSpec.ofChange querylangEvalWrong)

/-- 'glossatorlaw3.QuerylangReads': WHATEVER THE INPUT: true; the input reads as it did. -/
def querylangReadsSpec : ChangeSpec := { name := "querylangReads", fn := fun _ => fun
  | [d1, d2, d3] => { results := [.lit (.bool true)], args := [d1, d2, d3] }
  | _ => none }
def querylangReadsRow : OpenClaim := { program := "ytjbndlijmgnpnaa", sum := "e27f41bc8ed2775c8aa6d2d82e7658825958291ee887796b76724cf708083c27", func := "glossator/glossatorlaw3.QuerylangReads", spec := "querylangReads", unfollowed := true, recurses := true, apart := false }
def QuerylangReadsSaid : Prop := querylangReadsRow.holds Try.pinned (OpenSpec.ofChange querylangReadsSpec)

/-- ITS FALSE NEIGHBOUR: 'it returns false'. Refute it at one input. -/
def querylangReadsWrong : ChangeSpec := { name := "querylangReads", fn := fun _ => fun
  | [d1, d2, d3] => { results := [.lit (.bool false)], args := [d1, d2, d3] }
  | _ => none }
def QuerylangReadsWrongFalsely : Prop := querylangReadsRow.holds Try.pinned (OpenSpec.ofChange querylangReadsWrong)

/-- 'glossatorlaw3.QuerylangCompile': WHATEVER THE INPUT: true; the input reads as it did. -/
def querylangCompileSpec : ChangeSpec := { name := "querylangCompile", fn := fun _ => fun
  | [d1, d2, d3] => { results := [.lit (.bool true)], args := [d1, d2, d3] }
  | _ => none }
def querylangCompileRow : OpenClaim := { program := "ytjbndlijmgnpnaa", sum := "e27f41bc8ed2775c8aa6d2d82e7658825958291ee887796b76724cf708083c27", func := "glossator/glossatorlaw3.QuerylangCompile", spec := "querylangCompile", unfollowed := true, recurses := true, apart := false }
def QuerylangCompileSaid : Prop := querylangCompileRow.holds Try.pinned (OpenSpec.ofChange querylangCompileSpec)

/-- ITS FALSE NEIGHBOUR: 'it returns false'. Refute it at one input. -/
def querylangCompileWrong : ChangeSpec := { name := "querylangCompile", fn := fun _ => fun
  | [d1, d2, d3] => { results := [.lit (.bool false)], args := [d1, d2, d3] }
  | _ => none }
def QuerylangCompileWrongFalsely : Prop := querylangCompileRow.holds Try.pinned (OpenSpec.ofChange querylangCompileWrong)

/- THE SECOND FORM. 'bulk': how many values and letters a reading holds, each counted each time it is reached (what is shared counts as often as it is met; a slice's spare places count too). A statement '..UptoSaid' is the law's where the arguments, and the package variables that the reading takes, are together of bulk at most 1048576: NARROWER than '..Said'. Prove '..Said' where nothing that the law and all that it calls make is longer than what came in: it says more and counts as full. Else prove '..UptoSaid'. A law counts once. -/
mutual
def uptoBulk {H : Type} : DataW H → Nat
  | .lit (.string bytes) => bytes.length + 1
  | .lit _ => 1
  | .nil => 1
  | .ptr d => uptoBulk d + 1
  | .slice elems spare => uptoBulkAll elems + uptoBulkAll spare + 1
  | .agg parts => uptoBulkAll parts + 1
  | .iface _ d => uptoBulk d + 1
  | .map entries => uptoBulkEntries entries + 1
  | .held _ => 1
def uptoBulkAll {H : Type} : List (DataW H) → Nat
  | [] => 0
  | d :: r => uptoBulk d + uptoBulkAll r
def uptoBulkEntries {H : Type} : List (Lit × DataW H) → Nat
  | [] => 0
  | x :: r => uptoBulkEntry x + uptoBulkEntries r
def uptoBulkEntry {H : Type} : Lit × DataW H → Nat
  | (.string bytes, d) => bytes.length + uptoBulk d + 1
  | (_, d) => uptoBulk d + 1
 end
def uptoSmall : (H : Type) → List (DataW H) → Bool := fun _ ds => decide (uptoBulkAll ds ≤ 1048576)
def OpenSpec.upto (s : _root_.Go.ChangeSpec) : _root_.Go.OpenSpec := { _root_.Go.OpenSpec.ofChange s with cond := some uptoSmall }

/-- 'glossatorlaw3.QuerylangCheck', WHERE WHAT IT READS IS OF BULK AT MOST 1048576: true; the input reads as it did. -/
def querylangCheckUptoRow : OpenClaim := { program := "ytjbndlijmgnpnaa", sum := "e27f41bc8ed2775c8aa6d2d82e7658825958291ee887796b76724cf708083c27", func := "glossator/glossatorlaw3.QuerylangCheck", spec := "querylangCheck", unfollowed := true, recurses := true, apart := false, narrowed := true }
def QuerylangCheckUptoSaid : Prop := querylangCheckUptoRow.holds Try.pinned (OpenSpec.upto querylangCheckSpec)

/-- 'glossatorlaw3.QuerylangEval', WHERE WHAT IT READS IS OF BULK AT MOST 1048576: true; the input reads as it did. -/
def querylangEvalUptoRow : OpenClaim := { program := "ytjbndlijmgnpnaa", sum := "e27f41bc8ed2775c8aa6d2d82e7658825958291ee887796b76724cf708083c27", func := "glossator/glossatorlaw3.QuerylangEval", spec := "querylangEval", unfollowed := true, recurses := true, apart := false, narrowed := true }
def QuerylangEvalUptoSaid : Prop := querylangEvalUptoRow.holds Try.pinned (OpenSpec.upto querylangEvalSpec)

/-- 'glossatorlaw3.QuerylangReads', WHERE WHAT IT READS IS OF BULK AT MOST 1048576: true; the input reads as it did. -/
def querylangReadsUptoRow : OpenClaim := { program := "ytjbndlijmgnpnaa", sum := "e27f41bc8ed2775c8aa6d2d82e7658825958291ee887796b76724cf708083c27", func := "glossator/glossatorlaw3.QuerylangReads", spec := "querylangReads", unfollowed := true, recurses := true, apart := false, narrowed := true }
def QuerylangReadsUptoSaid : Prop := querylangReadsUptoRow.holds Try.pinned (OpenSpec.upto querylangReadsSpec)

/-- 'glossatorlaw3.QuerylangCompile', WHERE WHAT IT READS IS OF BULK AT MOST 1048576: true; the input reads as it did. -/
def querylangCompileUptoRow : OpenClaim := { program := "ytjbndlijmgnpnaa", sum := "e27f41bc8ed2775c8aa6d2d82e7658825958291ee887796b76724cf708083c27", func := "glossator/glossatorlaw3.QuerylangCompile", spec := "querylangCompile", unfollowed := true, recurses := true, apart := false, narrowed := true }
def QuerylangCompileUptoSaid : Prop := querylangCompileUptoRow.holds Try.pinned (OpenSpec.upto querylangCompileSpec)

end Rows
end Go.Proofs.Ytjbndlijmgnpnaa
