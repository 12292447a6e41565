/-
  Own text Ev of this claim: what functions of the given program compute, in plain Lean, and the proof; no condition.
-/
import Derived.Test.YtlfdchgaeeadjaaDoorChecked
import Derived.Test.YtlfdchgaeeadjaaDoorFxN
import Derived.Test.YtlfdchgaeeadjaaDoorFxEu
import Derived.Test.YtlfdchgaeeadjaaDoorBd
import Derived.Test.YtlfdchgaeeadjaaDoorLib
import Derived.KernelRfl
namespace Go.Proofs.YtlfdchgaeeadjaaDoor
open Go.Fx
set_option maxRecDepth 100000
theorem zpz : GL = [(0, Kb), (1, Yy)] := by kernel_rfl
theorem x67 : PFn Tryd.prog 67 [.isl 1 [] false] (.isl 1 [] false) :=
 z0a (c := 9) (zs := [(.str [])]) (b := 16) ⟨_, Tryd.func67, by kernel_rfl, by kernel_rfl⟩ Tryd.func67 ⟨_, _, _, _, _, _, _, _, _, _, _, _, _, _, _, _, _, _, _, _, _, _, _, _, _, _, _, _, rfl, rfl, rfl⟩ (by kernel_rfl) (by kernel_rfl) (by kernel_rfl) (by kernel_rfl) (by decide) (by decide) rfl
theorem x68 (s : List UInt8) (hs : s.length ≤ 9223372036854775807) : PFn Tryd.prog 68 [.str s] (.bool (Lib.validD s)) :=
 z3c Tryd.l68 rfl rfl ⟨_, Tryd.func68, by kernel_rfl, by kernel_rfl⟩ (by rw [zpz]; exact .head _) (by rw [zpz]; exact .tail _ (.head _)) hs
theorem x86 (s : List UInt8) (c : Int) : PFn Tryd.prog 86 [.str s, .int .u8 c] (.int .i64 (Lib.indexByte s c.toNat.toUInt8)) :=
 zhx Tryd.l86 rfl ⟨_, Tryd.func86, by kernel_rfl, by kernel_rfl⟩ s c
theorem zsr : Yu Tryd.prog (orX (zt8 69 49 87 5) (orX (zo7 85 48 87 5) (orX (z77 67 1) (orX (zgv 68) (zdj 86))))) :=
 z8e (zma z41 zoy) (z8e (zir zbg zu4) (z8e (za8 x67) (z8e (zfl x68) (zck x86))))
theorem zpl : PFn Tryd.prog 6 [] (.bool true) :=
 zre (m := 3000) (zoc (l := [29])) zsr rfl (by kernel_rfl)
end Go.Proofs.YtlfdchgaeeadjaaDoor
