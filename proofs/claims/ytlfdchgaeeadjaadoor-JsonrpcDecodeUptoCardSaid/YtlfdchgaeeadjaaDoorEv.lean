/-
  Own text Ev of this claim: what functions of the given program compute, in plain Lean, and the proof; no condition.
-/
import Derived.Test.YtlfdchgaeeadjaaDoorChecked
import Derived.Test.YtlfdchgaeeadjaaDoorFxN
import Derived.Test.YtlfdchgaeeadjaaDoorFxEu
import Derived.Test.YtlfdchgaeeadjaaDoorBd
import Derived.Test.YtlfdchgaeeadjaaDoorLib
import Derived.KernelRfl
namespace Go.Proofs.YtlfdchgaeeadjaaDoor
open Go.Fx
set_option maxRecDepth 100000
theorem zyw : GL = [(0, z0g), (1, J2)] := by kernel_rfl
theorem x67 : PFn Tryd.prog 67 [.isl 1 [] false] (.isl 1 [] false) :=
 z3v (c := 9) (zs := [(.str [])]) (b := 16) ⟨_, Tryd.func67, by kernel_rfl, by kernel_rfl⟩ Tryd.func67 ⟨_, _, _, _, _, _, _, _, _, _, _, _, _, _, _, _, _, _, _, _, _, _, _, _, _, _, _, _, rfl, rfl, rfl⟩ (by kernel_rfl) (by kernel_rfl) (by kernel_rfl) (by kernel_rfl) (by decide) (by decide) rfl
theorem x68 (s : List UInt8) (hs : s.length ≤ 9223372036854775807) : PFn Tryd.prog 68 [.str s] (.bool (Lib.validD s)) :=
 z8b Tryd.l68 rfl rfl ⟨_, Tryd.func68, by kernel_rfl, by kernel_rfl⟩ (by rw [zyw]; exact .head _) (by rw [zyw]; exact .tail _ (.head _)) hs
theorem x86 (s : List UInt8) (c : Int) : PFn Tryd.prog 86 [.str s, .int .u8 c] (.int .i64 (Lib.indexByte s c.toNat.toUInt8)) :=
 zl8 Tryd.l86 rfl ⟨_, Tryd.func86, by kernel_rfl, by kernel_rfl⟩ s c
theorem y0y : Xy Tryd.prog (orX (y0z 69 49 87 5) (orX (zud 85 48 87 5) (orX (za9 67 1) (orX (zgk 68) (zk7 86))))) :=
 zcn (ztl z7w zvm) (zcn (zoz zel y28) (zcn (zem x67) (zcn (zjj x68) (zlj x86))))
theorem zwx : PFn Tryd.prog 6 [] (.bool true) :=
 zwu (m := 3000) (zsd (l := [29])) y0y rfl (by kernel_rfl)
end Go.Proofs.YtlfdchgaeeadjaaDoor
