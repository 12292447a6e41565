/-
  Own text Law5 of this claim: what functions of the given program compute, in plain Lean, and the proof; no condition.
-/
import Derived.Test.YtjbndlijmgnpnaaLaw4
import Derived.Test.YtjbndlijmgnpnaaOkE
namespace Go.Proofs.Ytjbndlijmgnpnaa
open Go.Fx
theorem reach_le : reachBytes ≤ 140737488355328 := by decide
theorem lawE {a0 : G_QProgram} {a1 : List Int} {a2 : Int} (h : okA4 a0 a1 a2) : S_glossatorlaw3_QuerylangEval none a0 a1 a2 = some true := by
  have h2 : a0.f_Queries.length * 24 ≤ reachBytes := h.1.2.2.1
  have := reach_le
  exact lawEval (by omega)
end Go.Proofs.Ytjbndlijmgnpnaa
