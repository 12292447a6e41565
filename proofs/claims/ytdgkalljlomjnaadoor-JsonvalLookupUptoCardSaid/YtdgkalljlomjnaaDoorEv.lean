/-
  Own text Ev of this claim: what functions of the given program compute, in plain Lean, and the proof; no condition.
-/
import Derived.Test.YtdgkalljlomjnaaDoorChecked
import Derived.Test.YtdgkalljlomjnaaDoorFxN
import Derived.Test.YtdgkalljlomjnaaDoorFxEu
import Derived.Test.YtdgkalljlomjnaaDoorFxId
import Derived.Test.YtdgkalljlomjnaaDoorBd
import Derived.Test.YtdgkalljlomjnaaDoorLib
import Derived.KernelRfl
namespace Go.Proofs.YtdgkalljlomjnaaDoor
open Go.Fx
set_option maxRecDepth 100000
theorem zs3 : GL = [(0, Vn), (1, Q8)] := by kernel_rfl
theorem zst : ∀ f ∈ [26], z30 Tryd.prog f := by
 intro f hf
 obtain rfl := List.mem_singleton.1 hf
 exact zov (T := 20) Tryd.func26 (by kernel_rfl) rfl rfl (by decide) Tryd.underlying20 ⟨rfl, rfl, rfl⟩ ⟨rfl, rfl, rfl⟩ ⟨rfl, rfl, rfl⟩ ⟨rfl, rfl, rfl⟩
theorem x56 : PFn Tryd.prog 56 [.isl 1 [] false] (.isl 1 [] false) :=
 z27 (c := 9) (zs := [(.str [])]) (b := 16) ⟨_, Tryd.func56, by kernel_rfl, by kernel_rfl⟩ Tryd.func56 ⟨_, _, _, _, _, _, _, _, _, _, _, _, _, _, _, _, _, _, _, _, _, _, _, _, _, _, _, _, rfl, rfl, rfl⟩ (by kernel_rfl) (by kernel_rfl) (by kernel_rfl) (by kernel_rfl) (by decide) (by decide) rfl
theorem x64 (s : List UInt8) (hs : s.length ≤ 9223372036854775807) : PFn Tryd.prog 64 [.str s] (.bool (Lib.validD s)) :=
 z5o Tryd.l64 rfl rfl ⟨_, Tryd.func64, by kernel_rfl, by kernel_rfl⟩ (by rw [zs3]; exact .head _) (by rw [zs3]; exact .tail _ (.head _)) hs
theorem x50 (s : List UInt8) (c : Int) : PFn Tryd.prog 50 [.str s, .int .u8 c] (.int .i64 (Lib.indexByte s c.toNat.toUInt8)) :=
 zgx Tryd.l50 rfl ⟨_, Tryd.func50, by kernel_rfl, by kernel_rfl⟩ s c
theorem zuj : Qy Tryd.prog (orX (zv8 37 19 43 5) (orX (zox 61 18 43 5) (orX (z8y 56 1) (orX (zj3 64) (zjg 50))))) :=
 zax (zoq z56 zr1) (zax (zlx zdj zvn) (zax (zcx x56) (zax (zg5 x64) (zfu x50))))
theorem zqc : PFn Tryd.prog 6 [] (.bool true) :=
 zsp (m := 3000) (zqn (z := [26]) (l := []) zst) zuj rfl (by kernel_rfl)
end Go.Proofs.YtdgkalljlomjnaaDoor
