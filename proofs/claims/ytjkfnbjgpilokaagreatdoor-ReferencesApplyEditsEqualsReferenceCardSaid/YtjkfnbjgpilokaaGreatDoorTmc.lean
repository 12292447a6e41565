/-
  Own text T6 of this claim: what functions of the given program compute, in plain Lean, and the proof; no condition.
-/
import Derived.Test.YtjkfnbjgpilokaaGreatDoorTmb
import Derived.KernelRfl
import Derived.Test.YtjkfnbjgpilokaaGreatDoorEb
namespace Go.Proofs.YtjkfnbjgpilokaaGreatDoor
open Go.Fx
set_option maxRecDepth 100000
def a6:List AVal:=[.str [102,110,32,102,40,41,32,123,32,125,10,102,110,32,103,40,41,32,123,32,102,40,41,59,32,125]]
def r6:AVal:=.tup [.agg [I 1,I 0,S0,I 0,I 26,J 1,.isl 7 [[I 3,I 0,.str [102],I 0,I 10,I 3,.isl 7 [[I 10,I 0,S0,I 4,I 4,J 1,.isl 7 [] true],[I 12,I 0,S0,I 5,I 6,J 1,.isl 7 [] true],[I 0,I 0,S0,I 6,I 6,J 1,.isl 7 [] true],[I 21,I 0,S0,I 7,I 10,J 1,.isl 7 [[I 0,I 0,S0,I 8,I 8,J 1,.isl 7 [] true]] false]] false],[I 3,I 0,.str [103],I 11,I 26,I 14,.isl 7 [[I 10,I 0,S0,I 15,I 15,J 1,.isl 7 [] true],[I 12,I 0,S0,I 16,I 17,J 1,.isl 7 [] true],[I 0,I 0,S0,I 17,I 17,J 1,.isl 7 [] true],[I 21,I 0,S0,I 18,I 26,J 1,.isl 7 [[I 26,I 0,S0,I 20,I 24,J 1,.isl 7 [[I 30,I 0,S0,I 20,I 23,J 1,.isl 7 [[I 17,I 0,S0,I 20,I 21,J 1,.isl 7 [[I 18,I 0,.str [102],I 20,I 21,I 20,.isl 7 [] true]] false]] false]] false],[I 0,I 0,S0,I 24,I 24,J 1,.isl 7 [] true]] false]] false]] false],.isl 5 [] true,I 0]
theorem p6:PFn Tryz.prog 67 a6 r6:=ws (x7 kz (wi zxl wg) u7 3000).1 rfl (by kernel_rfl)
noncomputable def e6:Nat→List AVal→Sh→Option Rs:=z9o 67 (fun _=>[]) a6 r6
theorem zwm:j7 Tryz.prog e6:=uh p6
def a7:List AVal:=[.isl 2 [[.str [109],.str [102,110,32,102,40,41,32,123,32,125,10,102,110,32,103,40,41,32,123,32,102,40,41,59,32,125]]] true]
def r7:AVal:=.tup [.agg [.isl 6 [[I 15,J 1,J 1,J 1,.str [105,110,116],.bool false],[I 15,J 1,J 1,J 1,.str [98,111,111,108],.bool false],[I 15,J 1,J 1,J 1,.str [115,116,114,105,110,103],.bool false],[I 15,J 1,J 1,J 1,.str [83,101,108,102],.bool false],[I 1,I 0,J 1,J 1,.str [109],.bool true],[I 2,I 0,I 3,I 4,.str [102],.bool false],[I 2,I 0,I 14,I 4,.str [103],.bool false]] false,.isl 3 [[I 0,I 20,I 5]] false,N0],I 0]
theorem p7:PFn Tryz.prog 20 a7 r7:=ws (x7 kz (wi zwm wg) u7 3000).1 rfl (by kernel_rfl)
noncomputable def e7:Nat→List AVal→Sh→Option Rs:=z9o 20 (fun _=>[]) a7 r7
theorem zwo:j7 Tryz.prog e7:=uh p7
def a8:List AVal:=[.str [102,110,32,104,40,41,32,123,32,125,10,102,110,32,103,40,41,32,123,32,104,40,41,59,32,125]]
def r8:AVal:=.tup [.isl 2 [[I 104,.str [102,110]],[I 101,.str [32]],[I 103,.str [104]],[I 107,.str [40]],[I 107,.str [41]],[I 101,.str [32]],[I 107,.str [123]],[I 101,.str [32]],[I 107,.str [125]],[I 101,.str [10]],[I 104,.str [102,110]],[I 101,.str [32]],[I 103,.str [103]],[I 107,.str [40]],[I 107,.str [41]],[I 101,.str [32]],[I 107,.str [123]],[I 101,.str [32]],[I 103,.str [104]],[I 107,.str [40]],[I 107,.str [41]],[I 107,.str [59]],[I 101,.str [32]],[I 107,.str [125]]] false,I 0]
theorem p8:PFn Tryz.prog 152 a8 r8:=ws (x7 kz wg u7 3000).1 rfl (by kernel_rfl)
noncomputable def e8:Nat→List AVal→Sh→Option Rs:=z9o 152 (fun _=>[]) a8 r8
theorem zwe:j7 Tryz.prog e8:=uh p8
end Go.Proofs.YtjkfnbjgpilokaaGreatDoor
