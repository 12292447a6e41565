/-
  Own text Ev of this claim: what functions of the given program compute, in plain Lean, and the proof; no condition.
-/
import Derived.Test.YtdgkalljlomjnaaDoorChecked
import Derived.Test.YtdgkalljlomjnaaDoorFxN
import Derived.Test.YtdgkalljlomjnaaDoorFxEu
import Derived.Test.YtdgkalljlomjnaaDoorFxId
import Derived.Test.YtdgkalljlomjnaaDoorFxIt
import Derived.Test.YtdgkalljlomjnaaDoorBd
import Derived.Test.YtdgkalljlomjnaaDoorLib
import Derived.KernelRfl
namespace Go.Proofs.YtdgkalljlomjnaaDoor
open Go.Fx
set_option maxRecDepth 100000
theorem zp9 : GL = [(0, Ky), (1, Qq), (3, zix .u64 Lib.pow10Tab)] := by kernel_rfl
theorem zs5 : GLS = [3] := rfl
theorem zss : (3, zix .u64 Lib.pow10Tab) ∈ GL := by rw [zp9]; exact .tail _ (.tail _ (.head _))
theorem zst : 3 ∈ GLS := by rw [zs5]; exact .head _
theorem zqu : ∀ f ∈ [26], z3i Tryd.prog f := by
 intro f hf
 obtain rfl := List.mem_singleton.1 hf
 exact zo1 (T := 20) Tryd.func26 (by kernel_rfl) rfl rfl (by decide) Tryd.underlying20 ⟨rfl, rfl, rfl⟩ ⟨rfl, rfl, rfl⟩ ⟨rfl, rfl, rfl⟩ ⟨rfl, rfl, rfl⟩
theorem x56 : PFn Tryd.prog 56 [.isl 1 [] false] (.isl 1 [] false) :=
 zc5 (c := 9) (zs := [(.str [])]) (b := 16) ⟨_, Tryd.func56, by kernel_rfl, by kernel_rfl⟩ Tryd.func56 ⟨_, _, _, _, _, _, _, _, _, _, _, _, _, _, _, _, _, _, _, _, _, _, _, _, _, _, _, _, rfl, rfl, rfl⟩ (by kernel_rfl) (by kernel_rfl) (by kernel_rfl) (by kernel_rfl) (by decide) (by decide) rfl
theorem x64 (s : List UInt8) (hs : s.length ≤ 9223372036854775807) : PFn Tryd.prog 64 [.str s] (.bool (Lib.validD s)) :=
 z4y Tryd.l64 rfl rfl ⟨_, Tryd.func64, by kernel_rfl, by kernel_rfl⟩ (by rw [zp9]; exact .head _) (by rw [zp9]; exact .tail _ (.head _)) hs
theorem x50 (s : List UInt8) (c : Int) : PFn Tryd.prog 50 [.str s, .int .u8 c] (.int .i64 (Lib.indexByte s c.toNat.toUInt8)) :=
 z4h Tryd.l50 rfl ⟨_, Tryd.func50, by kernel_rfl, by kernel_rfl⟩ s c
theorem zsj : X6 Tryd.prog (orX (zsv 37 19 43 5) (orX (zni 61 18 43 5) (orX (z87 56 1) (orX (zgw 64) (zej 50))))) :=
 zbd (znc uf zfk) (zbd (zjz jh zt4) (zbd (zbw x56) (zbd (zdp x64) (zfp x50))))
theorem zo5 : PFn Tryd.prog 6 [] (.bool true) :=
 zpz (m := 3000) (zo3 (z := [26]) (l := []) zqu) zsj rfl (by kernel_rfl)
end Go.Proofs.YtdgkalljlomjnaaDoor
