/-
  Own text Lf of this claim: what functions of the given program compute, in plain Lean, and the proof; no condition.
-/
import Derived.Test.YtejfgjggcoemeaaLe
import Derived.Test.YtejfgjggcoemeaaOk
namespace Go.Proofs.Ytejfgjggcoemeaa
theorem zos {a0 : List G_QEdge} (_ : zpb a0) : yw none a0 = some true := zpj
end Go.Proofs.Ytejfgjggcoemeaa
