/-
  Own text Tx of this claim: what functions of the given program compute, in plain Lean, and the proof; no condition.
-/
import Derived.Test.YtjkfnbjgpilokaaGreatDoorTmc
import Derived.Test.YtjkfnbjgpilokaaGreatDoorTmf
import Derived.KernelRfl
namespace Go.Proofs.YtjkfnbjgpilokaaGreatDoor
open Go.Fx
set_option maxRecDepth 100000
theorem zfk:PFn Tryz.prog 16 [] (.bool true):=zec (m:=3000) u7 (xp zfm (xp zie (xp zhb jb))) kz rfl (by kernel_rfl)
end Go.Proofs.YtjkfnbjgpilokaaGreatDoor
