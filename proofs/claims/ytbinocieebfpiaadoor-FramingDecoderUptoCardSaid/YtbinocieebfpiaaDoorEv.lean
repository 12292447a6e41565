/-
  The table and the number that the walk reads; no condition.
-/
import Derived.Test.YtbinocieebfpiaaDoorChecked
import Derived.Test.YtbinocieebfpiaaDoorFxIx
import Derived.KernelRfl
namespace Go.Proofs.YtbinocieebfpiaaDoor
open Go.Fx
theorem zh3 : GL = [(4, z7u .u64 Lib.pow10Tab)] := by kernel_rfl
theorem zhd : GLS = [4] := rfl
theorem zha : GA = [0] := rfl
theorem zgr : (4, z7u .u64 Lib.pow10Tab) ∈ GL := by rw [zh3]; exact .head _
theorem zgi : 4 ∈ GLS := by rw [zhd]; exact .head _
theorem zdr : 0 ∈ GA := by rw [zha]; exact .head _
end Go.Proofs.YtbinocieebfpiaaDoor
