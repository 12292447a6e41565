/-
  Own text Law4 of this claim: what functions of the given program compute, in plain Lean, and the proof; no condition.
-/
import Derived.Test.YtnmhihopnidbcaaLaw3
import Derived.Test.YtnmhihopnidbcaaOkA
namespace Go.Proofs.Ytnmhihopnidbcaa
open Go.Fx
set_option linter.unusedVariables false
theorem lawA {a0 : List UInt8} {a1 : List G_TextEdit} (h : okA3 a0 a1) : S_glossatorlaw4_TexteditApplyEqualsReference none a0 a1 = some true := by
  refine law_apply fun e he => ?_
  have := (h.2.2.2 e he)
  unfold ok_TextEdit reachBytes at this
  omega
end Go.Proofs.Ytnmhihopnidbcaa
