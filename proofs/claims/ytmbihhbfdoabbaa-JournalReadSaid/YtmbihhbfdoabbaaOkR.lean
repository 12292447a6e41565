/-
  Own text OkR of this claim: what functions of the given program compute, in plain Lean, and the proof; no condition.
-/
import Derived.Test.YtmbihhbfdoabbaaGenB
namespace Go.Proofs.Ytmbihhbfdoabbaa
open Go.Fx
set_option linter.unusedVariables false

/-- what is known of the arguments -/
def okA4 (a0 : List UInt8) : Prop := (a0.length ≤ reachBytes)
end Go.Proofs.Ytmbihhbfdoabbaa
