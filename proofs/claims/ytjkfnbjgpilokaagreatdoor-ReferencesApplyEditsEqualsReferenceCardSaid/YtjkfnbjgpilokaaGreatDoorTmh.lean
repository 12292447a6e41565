/-
  Own text T21 of this claim: what functions of the given program compute, in plain Lean, and the proof; no condition.
-/
import Derived.Test.YtjkfnbjgpilokaaGreatDoorTmg
import Derived.Test.YtjkfnbjgpilokaaGreatDoorTmf
import Derived.KernelRfl
namespace Go.Proofs.YtjkfnbjgpilokaaGreatDoor
open Go.Fx
set_option maxRecDepth 100000
def a21:List AVal:=[.str [102,110,32,104,40,41,32,123,32,125,10,102,110,32,103,40,41,32,123,32,102,40,41,59,32,125]]
def r21:AVal:=.tup [.agg [I 1,S0,.isl 3 [[I 3,S0,.isl 3 [[I 104,.str [102,110],.isl 3 [] true],[I 101,.str [32],.isl 3 [] true],[I 103,.str [104],.isl 3 [] true],[I 10,S0,.isl 3 [] true],[I 107,.str [40],.isl 3 [] true],[I 12,S0,.isl 3 [[I 107,.str [41],.isl 3 [] true]] false],[I 0,S0,.isl 3 [] true],[I 21,S0,.isl 3 [[I 101,.str [32],.isl 3 [] true],[I 107,.str [123],.isl 3 [] true],[I 0,S0,.isl 3 [] true],[I 101,.str [32],.isl 3 [] true],[I 107,.str [125],.isl 3 [] true]] false]] false],[I 3,S0,.isl 3 [[I 101,.str [10],.isl 3 [] true],[I 104,.str [102,110],.isl 3 [] true],[I 101,.str [32],.isl 3 [] true],[I 103,.str [103],.isl 3 [] true],[I 10,S0,.isl 3 [] true],[I 107,.str [40],.isl 3 [] true],[I 12,S0,.isl 3 [[I 107,.str [41],.isl 3 [] true]] false],[I 0,S0,.isl 3 [] true],[I 21,S0,.isl 3 [[I 101,.str [32],.isl 3 [] true],[I 107,.str [123],.isl 3 [] true],[I 26,S0,.isl 3 [[I 30,S0,.isl 3 [[I 17,S0,.isl 3 [[I 18,S0,.isl 3 [[I 101,.str [32],.isl 3 [] true],[I 103,.str [102],.isl 3 [] true]] false]] false],[I 107,.str [40],.isl 3 [] true],[I 107,.str [41],.isl 3 [] true]] false],[I 107,.str [59],.isl 3 [] true]] false],[I 0,S0,.isl 3 [] true],[I 101,.str [32],.isl 3 [] true],[I 107,.str [125],.isl 3 [] true]] false]] false]] false],I 0]
theorem p21:PFn Tryz.prog 105 a21 r21:=ws (x7 kz (wi zuf (wi zty (wi zue wg))) u7 3000).1 rfl (by kernel_rfl)
noncomputable def e21:Nat→List AVal→Sh→Option Rs:=z9o 105 (fun _=>[]) a21 r21
theorem zsk:j7 Tryz.prog e21:=uh p21
def a22:List AVal:=[.str [102,110,32,104,40,41,32,123,32,125,10,102,110,32,103,40,41,32,123,32,102,40,41,59,32,125]]
def r22:AVal:=.tup [.agg [I 1,I 0,S0,I 0,I 26,J 1,.isl 7 [[I 3,I 0,.str [104],I 0,I 10,I 3,.isl 7 [[I 10,I 0,S0,I 4,I 4,J 1,.isl 7 [] true],[I 12,I 0,S0,I 5,I 6,J 1,.isl 7 [] true],[I 0,I 0,S0,I 6,I 6,J 1,.isl 7 [] true],[I 21,I 0,S0,I 7,I 10,J 1,.isl 7 [[I 0,I 0,S0,I 8,I 8,J 1,.isl 7 [] true]] false]] false],[I 3,I 0,.str [103],I 11,I 26,I 14,.isl 7 [[I 10,I 0,S0,I 15,I 15,J 1,.isl 7 [] true],[I 12,I 0,S0,I 16,I 17,J 1,.isl 7 [] true],[I 0,I 0,S0,I 17,I 17,J 1,.isl 7 [] true],[I 21,I 0,S0,I 18,I 26,J 1,.isl 7 [[I 26,I 0,S0,I 20,I 24,J 1,.isl 7 [[I 30,I 0,S0,I 20,I 23,J 1,.isl 7 [[I 17,I 0,S0,I 20,I 21,J 1,.isl 7 [[I 18,I 0,.str [102],I 20,I 21,I 20,.isl 7 [] true]] false]] false]] false],[I 0,I 0,S0,I 24,I 24,J 1,.isl 7 [] true]] false]] false]] false],.isl 5 [] true,I 0]
theorem p22:PFn Tryz.prog 67 a22 r22:=ws (x7 kz (wi zsk wg) u7 3000).1 rfl (by kernel_rfl)
noncomputable def e22:Nat→List AVal→Sh→Option Rs:=z9o 67 (fun _=>[]) a22 r22
theorem zsh:j7 Tryz.prog e22:=uh p22
def a23:List AVal:=[.isl 2 [[.str [109],.str [102,110,32,104,40,41,32,123,32,125,10,102,110,32,103,40,41,32,123,32,102,40,41,59,32,125]]] false]
def r23:AVal:=.tup [.agg [.isl 6 [[I 15,J 1,J 1,J 1,.str [105,110,116],.bool false],[I 15,J 1,J 1,J 1,.str [98,111,111,108],.bool false],[I 15,J 1,J 1,J 1,.str [115,116,114,105,110,103],.bool false],[I 15,J 1,J 1,J 1,.str [83,101,108,102],.bool false],[I 1,I 0,J 1,J 1,.str [109],.bool true],[I 2,I 0,I 3,I 4,.str [104],.bool false],[I 2,I 0,I 14,I 4,.str [103],.bool false]] false,.isl 3 [[I 0,I 20,J 1]] false,.isl 5 [[I 11,I 0,I 20,I 21,.str [102]]] false],I 0]
theorem p23:PFn Tryz.prog 20 a23 r23:=ws (x7 kz (wi zsh wg) u7 3000).1 rfl (by kernel_rfl)
noncomputable def e23:Nat→List AVal→Sh→Option Rs:=z9o 20 (fsL [(117,[(104,0)])]) a23 r23
theorem zux:j7 Tryz.prog e23:=uh p23
end Go.Proofs.YtjkfnbjgpilokaaGreatDoor
