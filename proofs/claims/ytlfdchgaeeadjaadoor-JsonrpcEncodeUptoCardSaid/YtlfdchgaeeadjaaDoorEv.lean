/-
  Own text Ev of this claim: what functions of the given program compute, in plain Lean, and the proof; no condition.
-/
import Derived.Test.YtlfdchgaeeadjaaDoorChecked
import Derived.Test.YtlfdchgaeeadjaaDoorFxN
import Derived.Test.YtlfdchgaeeadjaaDoorFxEu
import Derived.Test.YtlfdchgaeeadjaaDoorBd
import Derived.Test.YtlfdchgaeeadjaaDoorLib
import Derived.KernelRfl
namespace Go.Proofs.YtlfdchgaeeadjaaDoor
open Go.Fx
set_option maxRecDepth 100000
theorem zpc : GL = [(0, Vv), (1, Yz)] := by kernel_rfl
theorem x67 : PFn Tryd.prog 67 [.isl 1 [] false] (.isl 1 [] false) :=
 z05 (c := 9) (zs := [(.str [])]) (b := 16) ⟨_, Tryd.func67, by kernel_rfl, by kernel_rfl⟩ Tryd.func67 ⟨_, _, _, _, _, _, _, _, _, _, _, _, _, _, _, _, _, _, _, _, _, _, _, _, _, _, _, _, rfl, rfl, rfl⟩ (by kernel_rfl) (by kernel_rfl) (by kernel_rfl) (by kernel_rfl) (by decide) (by decide) rfl
theorem x68 (s : List UInt8) (hs : s.length ≤ 9223372036854775807) : PFn Tryd.prog 68 [.str s] (.bool (Lib.validD s)) :=
 z3d Tryd.l68 rfl rfl ⟨_, Tryd.func68, by kernel_rfl, by kernel_rfl⟩ (by rw [zpc]; exact .head _) (by rw [zpc]; exact .tail _ (.head _)) hs
theorem x86 (s : List UInt8) (c : Int) : PFn Tryd.prog 86 [.str s, .int .u8 c] (.int .i64 (Lib.indexByte s c.toNat.toUInt8)) :=
 zdd Tryd.l86 rfl ⟨_, Tryd.func86, by kernel_rfl, by kernel_rfl⟩ s c
theorem zt2 : Q5 Tryd.prog (orX (zsw 69 49 87 5) (orX (znd 85 48 87 5) (orX (z6i 67 1) (orX (zdh 68) (zc7 86))))) :=
 z8b (zn3 z3r zlz) (z8b (zk4 zac zty) (z8b (zae x67) (z8b (zh8 x68) (zfz x86))))
theorem zrl : PFn Tryd.prog 6 [] (.bool true) :=
 zpf (m := 3000) (zmi (l := [29])) zt2 rfl (by kernel_rfl)
end Go.Proofs.YtlfdchgaeeadjaaDoor
