/-
  Own text Law7 of this claim: what functions of the given program compute, in plain Lean, and the proof; no condition.
-/
import Derived.Test.YtjbndlijmgnpnaaLaw6
import Derived.Test.YtjbndlijmgnpnaaOkR
namespace Go.Proofs.Ytjbndlijmgnpnaa
open Go.Fx
theorem reach_le : reachBytes ≤ 140737488355328 := by decide
theorem lawR {a0 : G_QProgram} {a1 : List Int} {a2 : Int} (h : okA5 a0 a1 a2) : S_glossatorlaw3_QuerylangReads none a0 a1 a2 = some true := by
  have h2 : a0.f_Queries.length * 24 ≤ reachBytes := h.1.2.2.1
  have := reach_le
  exact lawReads (by omega)
end Go.Proofs.Ytjbndlijmgnpnaa
