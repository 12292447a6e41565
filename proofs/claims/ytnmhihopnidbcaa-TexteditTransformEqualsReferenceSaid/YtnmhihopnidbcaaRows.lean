/-
  No cell of these rows narrows 'for every input' (looked for: loops, veiled, ifaces, maps, wideKeys, modest, calm, conditions, laid).
  DERIVED. THE GIVEN ROWS OF THIS SEAT. 3 by the template 'for every input the law returns true; each argument reads behind the call as it read before'; 0 by the template 'total and deterministic' (their statements: YtnmhihopnidbcaaTotals.lean).
  GIVEN WITH THE SEED: the statements are not yours to turn. If you find one false, say at which input.
  Laid BY PROGRAM, IN A SANDBOX (cutbox-rows.mjs): the forced cells as the released guide's own fill.sh prints them over the translation 1177901dfe3833e6… (all of the seat's roots in one cut). By AI agents, Wed Nov 11 2026. No macro, syntax, notation, axiom, sorry.
-/
import Derived.Test.YtnmhihopnidbcaaChecked
import GoSem.Claim
import GoSem.ClaimJoined
import GoSem.ClaimMapViews
import Derived.JoinedTies
import Derived.KernelRfl
namespace Go.Proofs.Ytnmhihopnidbcaa
/- THE CELL 'sum', in the pinned program and in every row, IS THE sha256 OF THE DUMP (.gsa) THAT YtnmhihopnidbcaaProg.lean LOADS. Nothing in Lean hashes anything: it is a label: what it is worth is what the hold of that sum in a sandbox is worth. -/
noncomputable def Try.pinned : Pinned := { name := "ytnmhihopnidbcaa", sum := "1177901dfe3833e6ed87a29960edda487d9dbf44cf9a4afc2bff93e5ccf6af3b", checked := Try.checked }
namespace Rows
def none {H : Type} : Left H := { results := [], args := [] }

/-- 'glossatorlaw4.TexteditApplyEqualsReference': WHATEVER THE INPUT: true; the input reads as it did. -/
def texteditApplyEqualsReferenceSpec : ChangeSpec := { name := "texteditApplyEqualsReference", fn := fun _ => fun
  | [d1, d2] => { results := [.lit (.bool true)], args := [d1, d2] }
  | _ => none }
def texteditApplyEqualsReferenceRow : OpenClaim := { program := "ytnmhihopnidbcaa", sum := "1177901dfe3833e6ed87a29960edda487d9dbf44cf9a4afc2bff93e5ccf6af3b", func := "glossator/glossatorlaw4.TexteditApplyEqualsReference", spec := "texteditApplyEqualsReference", inPlace := ["internal/abi.NoEscape"], unfollowed := true, recurses := true, apart := false }
def TexteditApplyEqualsReferenceSaid : Prop := texteditApplyEqualsReferenceRow.holds Try.pinned (OpenSpec.ofChange texteditApplyEqualsReferenceSpec)

/-- ITS FALSE NEIGHBOUR: 'it returns false'. Refute it at one input. -/
def texteditApplyEqualsReferenceWrong : ChangeSpec := { name := "texteditApplyEqualsReference", fn := fun _ => fun
  | [d1, d2] => { results := [.lit (.bool false)], args := [d1, d2] }
  | _ => none }
def TexteditApplyEqualsReferenceWrongFalsely : Prop := texteditApplyEqualsReferenceRow.holds Try.pinned (OpenSpec.ofChange texteditApplyEqualsReferenceWrong)

/-- 'glossatorlaw4.TexteditComposeEqualsReference': WHATEVER THE INPUT: true; the input reads as it did. -/
def texteditComposeEqualsReferenceSpec : ChangeSpec := { name := "texteditComposeEqualsReference", fn := fun _ => fun
  | [d1, d2, d3] => { results := [.lit (.bool true)], args := [d1, d2, d3] }
  | _ => none }
def texteditComposeEqualsReferenceRow : OpenClaim := { program := "ytnmhihopnidbcaa", sum := "1177901dfe3833e6ed87a29960edda487d9dbf44cf9a4afc2bff93e5ccf6af3b", func := "glossator/glossatorlaw4.TexteditComposeEqualsReference", spec := "texteditComposeEqualsReference", inPlace := ["internal/abi.NoEscape"], unfollowed := true, recurses := true, apart := false }
def TexteditComposeEqualsReferenceSaid : Prop := texteditComposeEqualsReferenceRow.holds Try.pinned (OpenSpec.ofChange texteditComposeEqualsReferenceSpec)

/-- ITS FALSE NEIGHBOUR: 'it returns false'. Refute it at one input. -/
def texteditComposeEqualsReferenceWrong : ChangeSpec := { name := "texteditComposeEqualsReference", fn := fun _ => fun
  | [d1, d2, d3] => { results := [.lit (.bool false)], args := [d1, d2, d3] }
  | _ => none }
def TexteditComposeEqualsReferenceWrongFalsely : Prop := texteditComposeEqualsReferenceRow.holds Try.pinned (OpenSpec.ofChange texteditComposeEqualsReferenceWrong)

/-- 'glossatorlaw4.TexteditTransformEqualsReference': WHATEVER THE INPUT: true; the input reads as it did. -/
def texteditTransformEqualsReferenceSpec : ChangeSpec := { name := "texteditTransformEqualsReference", fn := fun _ => fun
  | [d1, d2, d3] => { results := [.lit (.bool true)], args := [d1, d2, d3] }
  | _ => none }
def texteditTransformEqualsReferenceRow : OpenClaim := { program := "ytnmhihopnidbcaa", sum := "1177901dfe3833e6ed87a29960edda487d9dbf44cf9a4afc2bff93e5ccf6af3b", func := "glossator/glossatorlaw4.TexteditTransformEqualsReference", spec := "texteditTransformEqualsReference", inPlace := ["internal/abi.NoEscape"], unfollowed := true, recurses := true, apart := false }
def TexteditTransformEqualsReferenceSaid : Prop := texteditTransformEqualsReferenceRow.holds Try.pinned (OpenSpec.ofChange texteditTransformEqualsReferenceSpec)

/-- ITS FALSE NEIGHBOUR: 'it returns false'. Refute it at one input. -/
def texteditTransformEqualsReferenceWrong : ChangeSpec := { name := "texteditTransformEqualsReference", fn := fun _ => fun
  | [d1, d2, d3] => { results := [.lit (.bool false)], args := [d1, d2, d3] }
  | _ => none }
def TexteditTransformEqualsReferenceWrongFalsely : Prop := texteditTransformEqualsReferenceRow.holds Try.pinned (OpenSpec.ofChange texteditTransformEqualsReferenceWrong)

/- THE SECOND FORM. 'bulk': how many values and letters a reading holds, each counted each time it is reached (what is shared counts as often as it is met; a slice's spare places count too). A statement '..UptoSaid' is the law's where the arguments, and the package variables that the reading takes, are together of bulk at most 1048576: NARROWER than '..Said'. Prove '..Said' where nothing that the law and all that it calls make is longer than what came in: it says more and counts as full. Else prove '..UptoSaid'. A law counts once. -/
mutual
def uptoBulk {H : Type} : DataW H → Nat
  | .lit (.string bytes) => bytes.length + 1
  | .lit _ => 1
  | .nil => 1
  | .ptr d => uptoBulk d + 1
  | .slice elems spare => uptoBulkAll elems + uptoBulkAll spare + 1
  | .agg parts => uptoBulkAll parts + 1
  | .iface _ d => uptoBulk d + 1
  | .map entries => uptoBulkEntries entries + 1
  | .held _ => 1
def uptoBulkAll {H : Type} : List (DataW H) → Nat
  | [] => 0
  | d :: r => uptoBulk d + uptoBulkAll r
def uptoBulkEntries {H : Type} : List (Lit × DataW H) → Nat
  | [] => 0
  | x :: r => uptoBulkEntry x + uptoBulkEntries r
def uptoBulkEntry {H : Type} : Lit × DataW H → Nat
  | (.string bytes, d) => bytes.length + uptoBulk d + 1
  | (_, d) => uptoBulk d + 1
 end
def uptoSmall : (H : Type) → List (DataW H) → Bool := fun _ ds => decide (uptoBulkAll ds ≤ 1048576)
def OpenSpec.upto (s : _root_.Go.ChangeSpec) : _root_.Go.OpenSpec := { _root_.Go.OpenSpec.ofChange s with cond := some uptoSmall }

/-- 'glossatorlaw4.TexteditApplyEqualsReference', WHERE WHAT IT READS IS OF BULK AT MOST 1048576: true; the input reads as it did. -/
def texteditApplyEqualsReferenceUptoRow : OpenClaim := { program := "ytnmhihopnidbcaa", sum := "1177901dfe3833e6ed87a29960edda487d9dbf44cf9a4afc2bff93e5ccf6af3b", func := "glossator/glossatorlaw4.TexteditApplyEqualsReference", spec := "texteditApplyEqualsReference", inPlace := ["internal/abi.NoEscape"], unfollowed := true, recurses := true, apart := false, narrowed := true }
def TexteditApplyEqualsReferenceUptoSaid : Prop := texteditApplyEqualsReferenceUptoRow.holds Try.pinned (OpenSpec.upto texteditApplyEqualsReferenceSpec)

/-- 'glossatorlaw4.TexteditComposeEqualsReference', WHERE WHAT IT READS IS OF BULK AT MOST 1048576: true; the input reads as it did. -/
def texteditComposeEqualsReferenceUptoRow : OpenClaim := { program := "ytnmhihopnidbcaa", sum := "1177901dfe3833e6ed87a29960edda487d9dbf44cf9a4afc2bff93e5ccf6af3b", func := "glossator/glossatorlaw4.TexteditComposeEqualsReference", spec := "texteditComposeEqualsReference", inPlace := ["internal/abi.NoEscape"], unfollowed := true, recurses := true, apart := false, narrowed := true }
def TexteditComposeEqualsReferenceUptoSaid : Prop := texteditComposeEqualsReferenceUptoRow.holds Try.pinned (OpenSpec.upto texteditComposeEqualsReferenceSpec)

/-- 'glossatorlaw4.TexteditTransformEqualsReference', WHERE WHAT IT READS IS OF BULK AT MOST 1048576: true; the input reads as it did. -/
def texteditTransformEqualsReferenceUptoRow : OpenClaim := { program := "ytnmhihopnidbcaa", sum := "1177901dfe3833e6ed87a29960edda487d9dbf44cf9a4afc2bff93e5ccf6af3b", func := "glossator/glossatorlaw4.TexteditTransformEqualsReference", spec := "texteditTransformEqualsReference", inPlace := ["internal/abi.NoEscape"], unfollowed := true, recurses := true, apart := false, narrowed := true }
def TexteditTransformEqualsReferenceUptoSaid : Prop := texteditTransformEqualsReferenceUptoRow.holds Try.pinned (OpenSpec.upto texteditTransformEqualsReferenceSpec)

end Rows
end Go.Proofs.Ytnmhihopnidbcaa
