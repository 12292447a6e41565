/-
  Own text Ev of this claim: what functions of the given program compute, in plain Lean, and the proof; no condition.
-/
import Derived.Test.YtlilpmnmedmjaaaGreatDoorChecked
import Derived.Test.YtlilpmnmedmjaaaGreatDoorFxN
import Derived.Test.YtlilpmnmedmjaaaGreatDoorFxEu
import Derived.Test.YtlilpmnmedmjaaaGreatDoorBd
import Derived.Test.YtlilpmnmedmjaaaGreatDoorLib
import Derived.KernelRfl
namespace Go.Proofs.YtlilpmnmedmjaaaGreatDoor
open Go.Fx
set_option maxRecDepth 100000
theorem zzu:GL=[(0,Um),(1,J2)]:=by kernel_rfl
theorem x39:PFn Tryz.prog 39 [.isl 1 [] false] (.isl 1 [] false):=
 z4a (c:=9) (zs:=[(.str [])]) (b:=16) ⟨_,Tryz.func39,by kernel_rfl,by kernel_rfl⟩ Tryz.func39 ⟨_,_,_,_,_,_,_,_,_,_,_,_,_,_,_,_,_,_,_,_,_,_,_,_,_,_,_,_,rfl,rfl,rfl⟩ (by kernel_rfl) (by kernel_rfl) (by kernel_rfl) (by kernel_rfl) (by decide) (by decide) rfl
theorem x80(s:List UInt8)(hs:s.length≤9223372036854775807):PFn Tryz.prog 80 [.str s] (.bool (Lib.validD s)):=
 z9d Tryz.l80 rfl rfl ⟨_,Tryz.func80,by kernel_rfl,by kernel_rfl⟩ (by rw[zzu];exact .head _) (by rw[zzu];exact .tail _ (.head _)) hs
theorem x67(s:List UInt8)(c:Int):PFn Tryz.prog 67 [.str s,.int .u8 c] (.int .i64 (Lib.indexByte s c.toNat.toUInt8)):=
 zlz Tryz.l67 rfl ⟨_,Tryz.func67,by kernel_rfl,by kernel_rfl⟩ s c
theorem y2x:J8 Tryz.prog (orX (y2b 51 31 69 5) (orX (zwr 66 30 69 5) (orX (zcg 39 1) (orX (zng 80) (zn2 67))))):=
 zdo (zwh z9p zum) (zdo (zq0 zgi y3n) (zdo (zgq x39) (zdo (zju x80) (zld x67))))
theorem zyf:PFn Tryz.prog 4 [] (.bool true):=
 y0c (m:=3000) (zuy (l:=[28])) y2x rfl (by kernel_rfl)
end Go.Proofs.YtlilpmnmedmjaaaGreatDoor
