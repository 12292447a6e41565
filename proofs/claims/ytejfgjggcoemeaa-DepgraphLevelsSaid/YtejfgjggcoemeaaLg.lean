/-
  Own text Lg of this claim: what functions of the given program compute, in plain Lean, and the proof; no condition.
-/
import Derived.Test.YtejfgjggcoemeaaLf
import Derived.Test.YtejfgjggcoemeaaOk
namespace Go.Proofs.Ytejfgjggcoemeaa
theorem zq8 {a0 : List G_QEdge} (_ : zre a0) : yr none a0 = some true := zr9
end Go.Proofs.Ytejfgjggcoemeaa
