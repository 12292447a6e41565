/-
  Own text Ok of this claim: what functions of the given program compute, in plain Lean, and the proof; no condition.
-/
import Derived.Test.YtobkgelkaljjeaaGenB
namespace Go.Proofs.Ytobkgelkaljjeaa
open Go.Fx
set_option linter.unusedVariables false

def okA3 (a0 : List UInt8) (a1 : List UInt8) (a2 : Int) (a3 : Int) : Prop := (a0.length ≤ reachBytes) ∧ (a1.length ≤ reachBytes) ∧ ((IntKind.min .u8 ≤ a2 ∧ a2 ≤ IntKind.max .u8)) ∧ ((IntKind.min .u8 ≤ a3 ∧ a3 ≤ IntKind.max .u8))
end Go.Proofs.Ytobkgelkaljjeaa
