/-
  Own text Law8 of this claim: what functions of the given program compute, in plain Lean, and the proof; no condition.
-/
import Derived.Test.YtmbihhbfdoabbaaOkR
import Derived.Test.YtmbihhbfdoabbaaLaw7
namespace Go.Proofs.Ytmbihhbfdoabbaa
open Go.Fx
set_option linter.unusedVariables false
theorem lawR4 {a0 : List UInt8} (h : okA4 a0) : S_glossatorlaw3_JournalRead none a0 = some true := lawR a0
end Go.Proofs.Ytmbihhbfdoabbaa
