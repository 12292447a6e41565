/-
  Own text T15 of this claim: what functions of the given program compute, in plain Lean, and the proof; no condition.
-/
import Derived.Test.YtjkfnbjgpilokaaGreatDoorTme
import Derived.KernelRfl
import Derived.Test.YtjkfnbjgpilokaaGreatDoorEb
namespace Go.Proofs.YtjkfnbjgpilokaaGreatDoor
open Go.Fx
set_option maxRecDepth 100000
def a15:List AVal:=[.isl 2 [[.str [109],.str [102,110,32,104,40,41,32,123,32,125,10,102,110,32,103,40,41,32,123,32,104,40,41,59,32,125]]] false]
def r15:AVal:=.tup [.agg [.isl 6 [[I 15,J 1,J 1,J 1,.str [105,110,116],.bool false],[I 15,J 1,J 1,J 1,.str [98,111,111,108],.bool false],[I 15,J 1,J 1,J 1,.str [115,116,114,105,110,103],.bool false],[I 15,J 1,J 1,J 1,.str [83,101,108,102],.bool false],[I 1,I 0,J 1,J 1,.str [109],.bool true],[I 2,I 0,I 3,I 4,.str [104],.bool false],[I 2,I 0,I 14,I 4,.str [103],.bool false]] false,.isl 3 [[I 0,I 20,I 5]] false,N0],I 0]
theorem p15:PFn Tryz.prog 20 a15 r15:=ws (x7 kz (wi zsj wg) u7 3000).1 rfl (by kernel_rfl)
noncomputable def e15:Nat→List AVal→Sh→Option Rs:=z9o 20 (fsL [(58,[(42,0)])]) a15 r15
theorem zsx:j7 Tryz.prog e15:=uh p15
def a16:List AVal:=[.str [102,110,32,104,40,41,32,123,32,125,10,102,110,32,103,40,41,32,123,32,102,40,41,59,32,125]]
def r16:AVal:=.tup [.isl 2 [[I 104,.str [102,110]],[I 101,.str [32]],[I 103,.str [104]],[I 107,.str [40]],[I 107,.str [41]],[I 101,.str [32]],[I 107,.str [123]],[I 101,.str [32]],[I 107,.str [125]],[I 101,.str [10]],[I 104,.str [102,110]],[I 101,.str [32]],[I 103,.str [103]],[I 107,.str [40]],[I 107,.str [41]],[I 101,.str [32]],[I 107,.str [123]],[I 101,.str [32]],[I 103,.str [102]],[I 107,.str [40]],[I 107,.str [41]],[I 107,.str [59]],[I 101,.str [32]],[I 107,.str [125]]] false,I 0]
theorem p16:PFn Tryz.prog 152 a16 r16:=ws (x7 kz wg u7 3000).1 rfl (by kernel_rfl)
noncomputable def e16:Nat→List AVal→Sh→Option Rs:=z9o 152 (fun _=>[]) a16 r16
theorem zuf:j7 Tryz.prog e16:=uh p16
def a17:List AVal:=[.ptr (2,0) 0 0]
def l17:AHeap:=[((2,0),.one [.isl 2 [[I 104,.str [102,110]],[I 101,.str [32]],[I 103,.str [104]],[I 107,.str [40]],[I 107,.str [41]],[I 101,.str [32]],[I 107,.str [123]],[I 101,.str [32]],[I 107,.str [125]],[I 101,.str [10]],[I 104,.str [102,110]],[I 101,.str [32]],[I 103,.str [103]],[I 107,.str [40]],[I 107,.str [41]],[I 101,.str [32]],[I 107,.str [123]],[I 101,.str [32]],[I 103,.str [102]],[I 107,.str [40]],[I 107,.str [41]],[I 107,.str [59]],[I 101,.str [32]],[I 107,.str [125]]] false,I 0,.msl (1,0) 3 0 1 true]),((1,0),.rows 3 [[I 1,S0,.isl 3 [] true]])]
def r17:AVal:=.tup []
def m17:AHeap:=[((2,0),.one [.isl 2 [[I 104,.str [102,110]],[I 101,.str [32]],[I 103,.str [104]],[I 107,.str [40]],[I 107,.str [41]],[I 101,.str [32]],[I 107,.str [123]],[I 101,.str [32]],[I 107,.str [125]],[I 101,.str [10]],[I 104,.str [102,110]],[I 101,.str [32]],[I 103,.str [103]],[I 107,.str [40]],[I 107,.str [41]],[I 101,.str [32]],[I 107,.str [123]],[I 101,.str [32]],[I 103,.str [102]],[I 107,.str [40]],[I 107,.str [41]],[I 107,.str [59]],[I 101,.str [32]],[I 107,.str [125]]] false,I 9,.msl (68,0) 3 0 1 false]),((68,0),.rows 3 [[I 1,S0,.msl (100,0) 3 0 1 false],[I 3,S0,.msl (96,0) 3 0 8 false],[I 21,S0,.msl (92,0) 3 0 5 false]]),((100,0),.rows 3 [[I 3,S0,.msl (96,0) 3 0 8 false]]),((96,0),.rows 3 [[I 104,.str [102,110],.isl 3 [] true],[I 101,.str [32],.isl 3 [] true],[I 103,.str [104],.isl 3 [] true],[I 10,S0,.isl 3 [] true],[I 107,.str [40],.isl 3 [] true],[I 12,S0,.msl (55,0) 3 0 1 false],[I 0,S0,.isl 3 [] true],[I 21,S0,.msl (92,0) 3 0 5 false]]),((92,0),.rows 3 [[I 101,.str [32],.isl 3 [] true],[I 107,.str [123],.isl 3 [] true],[I 0,S0,.isl 3 [] true],[I 101,.str [32],.isl 3 [] true],[I 107,.str [125],.isl 3 [] true]]),((55,0),.rows 3 [[I 107,.str [41],.isl 3 [] true]])]
noncomputable def e17:Nat→List AVal→Sh→Option Rs:=zar 154 [] a17 l17 4 r17 m17 97
theorem zty:j7 Tryz.prog e17:=ue (C:=(ev fm xs0 bk 3000).1) (x7 kz wg u7 3000).1 (by kernel_rfl) (by kernel_rfl)
end Go.Proofs.YtjkfnbjgpilokaaGreatDoor
