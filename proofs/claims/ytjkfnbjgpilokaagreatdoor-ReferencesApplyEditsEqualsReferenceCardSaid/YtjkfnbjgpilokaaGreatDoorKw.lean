/-
  Own text Kw of this claim: what functions of the given program compute, in plain Lean, and the proof; no condition.
-/
import Derived.Test.YtjkfnbjgpilokaaGreatDoorTx
namespace Go.Proofs.YtjkfnbjgpilokaaGreatDoor
open Go.Fx
set_option maxRecDepth 100000
def kwL:List (List UInt8):=[[117,115,101],[112,117,98],[97,115],[102,110],[115,116,114,117,99,116],[101,110,117,109],[116,114,97,105,116],[105,109,112,108],[102,111,114],[99,111,110,115,116],[109,97,99,114,111],[108,101,116],[109,117,116],[119,104,105,108,101],[114,101,116,117,114,110],[109,97,116,99,104],[105,102],[101,108,115,101],[110,101,119],[116,114,117,101],[102,97,108,115,101],[116,121,112,101]]
def tpL:List (List UInt8):=[[58,58],[61,62],[45,62],[61,61],[38,38],[124,124]]
theorem zw2:PFn Tryz.prog 101 [] (.isl 1 (kwL.map fun l=>[.str l]) false):=ws (C:=(ev fm xs0 bk 300).1) (x7 kz wg u7 300).1 rfl (by kernel_rfl)
theorem zx8:PFn Tryz.prog 103 [] (.isl 1 (tpL.map fun l=>[.str l]) false):=ws (C:=(ev fm xs0 bk 300).1) (x7 kz wg u7 300).1 rfl (by kernel_rfl)
end Go.Proofs.YtjkfnbjgpilokaaGreatDoor
