/-
  Own text T6 of this claim: what functions of the given program compute, in plain Lean, and the proof; no condition.
-/
import Derived.Test.YtjkfnbjgpilokaaGreatDoorTmb
import Derived.Test.YtjkfnbjgpilokaaGreatDoorTma
import Derived.KernelRfl
namespace Go.Proofs.YtjkfnbjgpilokaaGreatDoor
open Go.Fx
set_option maxRecDepth 100000
def a6:List AVal:=[.str [102,110,32,102,40,41,32,123,32,103,40,49,32,43,32,50,41,59,32,125,10,102,110,32,103,40,120,58,32,105,110,116,41,32,123,32,125]]
def r6:AVal:=.tup [.agg [I 1,S0,.isl 3 [[I 3,S0,.isl 3 [[I 104,.str [102,110],.isl 3 [] true],[I 101,.str [32],.isl 3 [] true],[I 103,.str [102],.isl 3 [] true],[I 10,S0,.isl 3 [] true],[I 107,.str [40],.isl 3 [] true],[I 12,S0,.isl 3 [[I 107,.str [41],.isl 3 [] true]] false],[I 0,S0,.isl 3 [] true],[I 21,S0,.isl 3 [[I 101,.str [32],.isl 3 [] true],[I 107,.str [123],.isl 3 [] true],[I 26,S0,.isl 3 [[I 30,S0,.isl 3 [[I 17,S0,.isl 3 [[I 18,S0,.isl 3 [[I 101,.str [32],.isl 3 [] true],[I 103,.str [103],.isl 3 [] true]] false]] false],[I 107,.str [40],.isl 3 [] true],[I 39,S0,.isl 3 [[I 27,S0,.isl 3 [[I 105,.str [49],.isl 3 [] true]] false],[I 101,.str [32],.isl 3 [] true],[I 107,.str [43],.isl 3 [] true],[I 27,S0,.isl 3 [[I 101,.str [32],.isl 3 [] true],[I 105,.str [50],.isl 3 [] true]] false]] false],[I 107,.str [41],.isl 3 [] true]] false],[I 107,.str [59],.isl 3 [] true]] false],[I 0,S0,.isl 3 [] true],[I 101,.str [32],.isl 3 [] true],[I 107,.str [125],.isl 3 [] true]] false]] false],[I 3,S0,.isl 3 [[I 101,.str [10],.isl 3 [] true],[I 104,.str [102,110],.isl 3 [] true],[I 101,.str [32],.isl 3 [] true],[I 103,.str [103],.isl 3 [] true],[I 10,S0,.isl 3 [] true],[I 107,.str [40],.isl 3 [] true],[I 12,S0,.isl 3 [[I 13,S0,.isl 3 [[I 103,.str [120],.isl 3 [] true],[I 107,.str [58],.isl 3 [] true],[I 17,S0,.isl 3 [[I 18,S0,.isl 3 [[I 101,.str [32],.isl 3 [] true],[I 103,.str [105,110,116],.isl 3 [] true]] false]] false]] false],[I 107,.str [41],.isl 3 [] true]] false],[I 0,S0,.isl 3 [] true],[I 21,S0,.isl 3 [[I 101,.str [32],.isl 3 [] true],[I 107,.str [123],.isl 3 [] true],[I 0,S0,.isl 3 [] true],[I 101,.str [32],.isl 3 [] true],[I 107,.str [125],.isl 3 [] true]] false]] false]] false],I 0]
theorem p6:PFn Tryz.prog 105 a6 r6:=wz (qf u7 (xp zje (xp zig (xp zio jb))) kz 3000).1 rfl (by kernel_rfl)
noncomputable def e6:Nat→List AVal→Sh→Option Rs:=z9l 105 (fun _=>[]) a6 r6
theorem zil:qr Tryz.prog e6:=ud p6
def a7:List AVal:=[.str [102,110,32,102,40,41,32,123,32,103,40,49,32,43,32,50,41,59,32,125,10,102,110,32,103,40,120,58,32,105,110,116,41,32,123,32,125]]
def r7:AVal:=.tup [.agg [I 1,I 0,S0,I 0,I 37,J 1,.isl 7 [[I 3,I 0,.str [102],I 0,I 20,I 3,.isl 7 [[I 10,I 0,S0,I 4,I 4,J 1,.isl 7 [] true],[I 12,I 0,S0,I 5,I 6,J 1,.isl 7 [] true],[I 0,I 0,S0,I 6,I 6,J 1,.isl 7 [] true],[I 21,I 0,S0,I 7,I 20,J 1,.isl 7 [[I 26,I 0,S0,I 9,I 18,J 1,.isl 7 [[I 30,I 0,S0,I 9,I 17,J 1,.isl 7 [[I 17,I 0,S0,I 9,I 10,J 1,.isl 7 [[I 18,I 0,.str [103],I 9,I 10,I 9,.isl 7 [] true]] false],[I 39,I 0,.str [43],I 11,I 16,J 1,.isl 7 [[I 27,I 1,S0,I 11,I 12,J 1,.isl 7 [] true],[I 27,I 2,S0,I 15,I 16,J 1,.isl 7 [] true]] false]] false]] false],[I 0,I 0,S0,I 18,I 18,J 1,.isl 7 [] true]] false]] false],[I 3,I 0,.str [103],I 21,I 37,I 24,.isl 7 [[I 10,I 0,S0,I 25,I 25,J 1,.isl 7 [] true],[I 12,I 0,S0,I 26,I 33,J 1,.isl 7 [[I 13,I 0,.str [120],I 26,I 32,I 26,.isl 7 [[I 17,I 0,S0,I 29,I 32,J 1,.isl 7 [[I 18,I 0,.str [105,110,116],I 29,I 32,I 29,.isl 7 [] true]] false]] false]] false],[I 0,I 0,S0,I 33,I 33,J 1,.isl 7 [] true],[I 21,I 0,S0,I 34,I 37,J 1,.isl 7 [[I 0,I 0,S0,I 35,I 35,J 1,.isl 7 [] true]] false]] false]] false],.isl 5 [] true,I 0]
theorem p7:PFn Tryz.prog 67 a7 r7:=wz (qf u7 (xp zil jb) kz 3000).1 rfl (by kernel_rfl)
noncomputable def e7:Nat→List AVal→Sh→Option Rs:=z9l 67 (fun _=>[]) a7 r7
theorem zfm:qr Tryz.prog e7:=ud p7
def a8:List AVal:=[.isl 2 [[.str [109],.str [102,110,32,102,40,41,32,123,32,103,40,49,32,43,32,50,41,59,32,125,10,102,110,32,103,40,120,58,32,105,110,116,41,32,123,32,125]]] true]
def r8:AVal:=.tup [.agg [.isl 6 [[I 15,J 1,J 1,J 1,.str [105,110,116],.bool false],[I 15,J 1,J 1,J 1,.str [98,111,111,108],.bool false],[I 15,J 1,J 1,J 1,.str [115,116,114,105,110,103],.bool false],[I 15,J 1,J 1,J 1,.str [83,101,108,102],.bool false],[I 1,I 0,J 1,J 1,.str [109],.bool true],[I 2,I 0,I 3,I 4,.str [102],.bool false],[I 2,I 0,I 24,I 4,.str [103],.bool false],[I 10,I 0,I 26,I 6,.str [120],.bool false]] false,.isl 3 [[I 0,I 9,I 6],[I 0,I 29,I 0]] false,N0],I 0]
theorem p8:PFn Tryz.prog 20 a8 r8:=wz (qf u7 (xp zfm jb) kz 3000).1 rfl (by kernel_rfl)
noncomputable def e8:Nat→List AVal→Sh→Option Rs:=z9l 20 (fun _=>[]) a8 r8
theorem zie:qr Tryz.prog e8:=ud p8
end Go.Proofs.YtjkfnbjgpilokaaGreatDoor
