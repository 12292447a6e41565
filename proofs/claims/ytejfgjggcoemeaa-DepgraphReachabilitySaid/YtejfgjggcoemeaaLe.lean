/-
  Own text Le of this claim: what functions of the given program compute, in plain Lean, and the proof; no condition.
-/
import Derived.Test.YtejfgjggcoemeaaLd
import Derived.Test.YtejfgjggcoemeaaOk
namespace Go.Proofs.Ytejfgjggcoemeaa
theorem zjg {a0 : List G_QEdge} {a1 : K} (_ : zju a0 a1) : zq none a0 a1 = some true := zjs
end Go.Proofs.Ytejfgjggcoemeaa
