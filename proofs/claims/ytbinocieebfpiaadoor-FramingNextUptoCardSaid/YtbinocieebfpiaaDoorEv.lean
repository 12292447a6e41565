/-
  The table and the number that the walk reads; no condition.
-/
import Derived.Test.YtbinocieebfpiaaDoorChecked
import Derived.Test.YtbinocieebfpiaaDoorFxIx
import Derived.KernelRfl
namespace Go.Proofs.YtbinocieebfpiaaDoor
open Go.Fx
theorem zg8 : GL = [(4, z71 .u64 Lib.pow10Tab)] := by kernel_rfl
theorem zgj : GLS = [4] := rfl
theorem zgd : GA = [0] := rfl
theorem zfd : (4, z71 .u64 Lib.pow10Tab) ∈ GL := by rw [zg8]; exact .head _
theorem zfu : 4 ∈ GLS := by rw [zgj]; exact .head _
theorem zdi : 0 ∈ GA := by rw [zgd]; exact .head _
end Go.Proofs.YtbinocieebfpiaaDoor
