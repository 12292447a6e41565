/-
  Own text Law3 of this claim: what functions of the given program compute, in plain Lean, and the proof; no condition.
-/
import Derived.Test.YtmbihhbfdoabbaaOk
import Derived.Test.YtmbihhbfdoabbaaLaw2
namespace Go.Proofs.Ytmbihhbfdoabbaa
open Go.Fx
set_option linter.unusedVariables false
theorem lawS3 {a0 : List G_QRecord} (h : okA3 a0) : S_glossatorlaw3_JournalState none a0 = some true := lawS a0
end Go.Proofs.Ytmbihhbfdoabbaa
