/-
  Own text Tx of this claim: what functions of the given program compute, in plain Lean, and the proof; no condition.
-/
import Derived.Test.YtjkfnbjgpilokaaGreatDoorTmc
import Derived.Test.YtjkfnbjgpilokaaGreatDoorTmf
import Derived.Test.YtjkfnbjgpilokaaGreatDoorTmh
import Derived.KernelRfl
namespace Go.Proofs.YtjkfnbjgpilokaaGreatDoor
open Go.Fx
set_option maxRecDepth 100000
theorem zi1:PFn Tryz.prog 6 [] (.bool true):=zgy (m:=3000) vg (j0 zn1 (j0 zjl (j0 zky j8))) vb rfl (by kernel_rfl)
end Go.Proofs.YtjkfnbjgpilokaaGreatDoor
