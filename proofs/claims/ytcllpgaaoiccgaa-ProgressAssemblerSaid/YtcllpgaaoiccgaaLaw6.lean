/-
  Own text Law6 of this claim: what functions of the given program compute, in plain Lean, and the proof; no condition.
-/
import Derived.Test.YtcllpgaaoiccgaaLaw5
import Derived.Test.YtcllpgaaoiccgaaOk
namespace Go.Proofs.Ytcllpgaaoiccgaa
open Go.Fx
set_option linter.unusedVariables false
theorem lawA {a0 : List G_QChunk} {a1 : Int} (h : okA4 a0 a1) : S_glossatorlaw3_ProgressAssembler none a0 a1 = some true := law_asm a0 a1
end Go.Proofs.Ytcllpgaaoiccgaa
