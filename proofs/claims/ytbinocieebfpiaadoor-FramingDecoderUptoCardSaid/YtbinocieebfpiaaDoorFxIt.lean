/-
  Own framework.
-/
import Derived.Test.YtbinocieebfpiaaDoorFxLg
import Derived.Shelf.Strconv.Itoa3
namespace Go.Fx
open Go.Shelf Go.RowKit Go.Lib Go.Sort Go.Proofs
set_option linter.unusedVariables false
theorem z9i {P : Program} {ρ : Ren} (L : LaysM.n246 P ρ) {f : FuncId} (hf : ρ.f 246 = f) (hok : k6 P f) (hx : (ρ.g 17, z7u .u64 Lib.pow10Tab) ∈ GL) (hs : ρ.g 17 ∈ GLS) {n : Int} (hn : -9223372036854775808 ≤ n ∧ n ≤ 9223372036854775807) :
 PFn P f [.int .i64 n, .int .i64 10] (.str (Lib.itoa n)) := by
 subst hf
 refine PFn.libG hok rfl rfl fun I w hg => ?_
 refine (Any.internal_strconv_FormatInt_10 L n hn.1 hn.2 w (z8i L.m17 hx hs hg)).mono ?_
 rintro e w' ⟨rfl, k, os, rfl⟩
 exact ⟨rfl, z0l k os⟩
end Go.Fx
