/-
  Own text Lf of this claim: what functions of the given program compute, in plain Lean, and the proof; no condition.
-/
import Derived.Test.YtejfgjggcoemeaaLe
import Derived.Test.YtejfgjggcoemeaaOk
namespace Go.Proofs.Ytejfgjggcoemeaa
theorem zsy{a0:List G_QEdge}(_:zty a0):yp none a0=some true:=zu5
end Go.Proofs.Ytejfgjggcoemeaa
