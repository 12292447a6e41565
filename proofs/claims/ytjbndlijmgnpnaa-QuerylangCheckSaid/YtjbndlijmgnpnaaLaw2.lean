/-
  Own text Law2 of this claim: what functions of the given program compute, in plain Lean, and the proof; no condition.
-/
import Derived.Test.YtjbndlijmgnpnaaLaw1
import Derived.Test.YtjbndlijmgnpnaaOkC
namespace Go.Proofs.Ytjbndlijmgnpnaa
open Go.Fx
theorem reach_le : reachBytes ≤ 140737488355328 := by decide
theorem lawC {a0 : G_QProgram} (h : okA3 a0) : S_glossatorlaw3_QuerylangCheck none a0 = some true := by
  have h2 : a0.f_Queries.length * 24 ≤ reachBytes := h.2.2.1
  have := reach_le
  exact lawCheck (by omega)
end Go.Proofs.Ytjbndlijmgnpnaa
