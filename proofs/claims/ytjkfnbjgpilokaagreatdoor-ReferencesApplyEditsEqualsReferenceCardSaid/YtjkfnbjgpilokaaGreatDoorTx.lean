/-
  Own text Tx of this claim: what functions of the given program compute, in plain Lean, and the proof; no condition.
-/
import Derived.Test.YtjkfnbjgpilokaaGreatDoorTmc
import Derived.Test.YtjkfnbjgpilokaaGreatDoorTmf
import Derived.Test.YtjkfnbjgpilokaaGreatDoorTmh
import Derived.KernelRfl
namespace Go.Proofs.YtjkfnbjgpilokaaGreatDoor
open Go.Fx
set_option maxRecDepth 100000
theorem zrk:PFn Tryz.prog 6 [] (.bool true):=zp8 (m:=3000) kz (wi zwo (wi zsx (wi zux wg))) u7 rfl (by kernel_rfl)
end Go.Proofs.YtjkfnbjgpilokaaGreatDoor
