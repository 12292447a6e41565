/-
  Own text Ev of this claim: what functions of the given program compute, in plain Lean, and the proof; no condition.
-/
import Derived.Test.YtlenhplodggefaaFxEz
import Derived.Test.YtlenhplodggefaaBd
import Derived.KernelRfl
namespace Go.Proofs.Ytlenhplodggefaa
open Go.Fx
set_option linter.unusedVariables false
theorem ev_sync : PFn Try.prog 5 [] (.bool true) := ev_pfn (m := 300) mkF_ok (bldX_ok bWriteString bString) rfl (by kernel_rfl)
end Go.Proofs.Ytlenhplodggefaa
