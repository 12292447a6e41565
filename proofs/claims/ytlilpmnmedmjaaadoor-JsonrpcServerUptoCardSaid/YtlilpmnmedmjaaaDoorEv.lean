/-
  Own text Ev of this claim: what functions of the given program compute, in plain Lean, and the proof; no condition.
-/
import Derived.Test.YtlilpmnmedmjaaaDoorChecked
import Derived.Test.YtlilpmnmedmjaaaDoorFc
import Derived.Test.YtlilpmnmedmjaaaDoorFd
import Derived.Test.YtlilpmnmedmjaaaDoorBd
import Derived.Test.YtlilpmnmedmjaaaDoorLib
import Derived.KernelRfl
namespace Go.Proofs.YtlilpmnmedmjaaaDoor
open Go.Fx
set_option maxRecDepth 100000
theorem y4x:GL=[(0,z0t),(1,W6)]:=by kernel_rfl
theorem x40:PFn Tryd.prog 40 [.isl 1 [] false] (.isl 1 [] false):=
 z5b (c:=9) (zs:=[(.str [])]) (b:=16) ⟨_,Tryd.func40,by kernel_rfl,by kernel_rfl⟩ Tryd.func40 ⟨_,_,_,_,_,_,_,_,_,_,_,_,_,_,_,_,_,_,_,_,_,_,_,_,_,_,_,_,rfl,rfl,rfl⟩ (by kernel_rfl) (by kernel_rfl) (by kernel_rfl) (by kernel_rfl) (by decide) (by decide) rfl
theorem x42(s:List UInt8)(hs:s.length≤9223372036854775807):PFn Tryd.prog 42 [.str s] (.bool (Lib.validD s)):=
 zc2 Tryd.l42 rfl rfl ⟨_,Tryd.func42,by kernel_rfl,by kernel_rfl⟩ (by rw[y4x];exact .head _) (by rw[y4x];exact .tail _ (.head _)) hs
theorem x70(s:List UInt8)(c:Int):PFn Tryd.prog 70 [.str s,.int .u8 c] (.int .i64 (Lib.indexByte s c.toNat.toUInt8)):=
 zsx Tryd.l70 rfl ⟨_,Tryd.func70,by kernel_rfl,by kernel_rfl⟩ s c
theorem y6u:W9 Tryd.prog (orX (y7h 51 34 77 5) (orX (zyu 69 33 77 5) (orX (zdh 40 1) (orX (zrs 42) (zrw 70))))):=
 zh5 (zys zau y1i) (zh5 (zuh zjv y83) (zh5 (zjo x40) (zh5 (zq2 x42) (zqn x70))))
theorem y5a:PFn Tryd.prog 4 [] (.bool true):=
 y4r (m:=3000) (zyk (l:=[31])) y6u rfl (by kernel_rfl)
end Go.Proofs.YtlilpmnmedmjaaaDoor
