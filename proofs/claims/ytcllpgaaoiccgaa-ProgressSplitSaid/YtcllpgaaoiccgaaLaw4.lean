/-
  Own text Law4 of this claim: what functions of the given program compute, in plain Lean, and the proof; no condition.
-/
import Derived.Test.YtcllpgaaoiccgaaLaw3
import Derived.Test.YtcllpgaaoiccgaaOk
namespace Go.Proofs.Ytcllpgaaoiccgaa
open Go.Fx
set_option linter.unusedVariables false
theorem lawP {a0 : Int} {a1 : List Int} {a2 a3 a4 : Int} (h : okA3 a0 a1 a2 a3 a4) : S_glossatorlaw3_ProgressSplit none a0 a1 a2 a3 a4 = some true := by
  obtain ⟨h0, h1, h2, h3, h4⟩ := h
  have e1 : IntKind.max .i64 = 9223372036854775807 := by decide
  refine law_split (by omega) ?_
  have := h1.2.1
  unfold reachBytes at this
  omega
end Go.Proofs.Ytcllpgaaoiccgaa
