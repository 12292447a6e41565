/-
  DERIVED: THE SHELF's CONTRACTS AT THIS DUMP, IN PLAIN WORDS (tools/lay-plain.mjs out of 'FzLib.lean', which tools/lay-shelf.mjs wrote): THE SAME DECLARATIONS UNDER THE SAME NAMES: 'import', 'namespace', 'open', 'def', 'theorem' AND NOTHING ELSE: no command of the shelf's: FOR A HAND-IN. Each laying: the table of numbers ('.._ren') and one theorem, a field a fact of the dump's own or the kernel's comparison; each contract: ONE APPLICATION.
-/
import Derived.Shelf.Small.Strs
import Derived.Ground.NamesProg
import Derived.Test.YtobkgelkaljjeaaProg
namespace Go.Proofs
open Go.Shelf
def Try.l20_ren : Go.Shelf.Ren := ⟨fun | 106 => 20 | 213 => 28 | 265 => 34 | n => n, fun | 9 => 9 | 3 => 3 | n => n, fun | n => n⟩
theorem Try.l20 : Go.Proofs.Lays.n106 Try.prog Try.l20_ren := {
  mixed := by kernel_rfl
  f106 := Try.func20.trans (congrArg some (by kernel_rfl))
  f213 := Try.func28.trans (congrArg some (by kernel_rfl))
  f265 := Try.func34.trans (congrArg some (by kernel_rfl))
  t3 := Try.underlying3
  a3 := Try.isAgg3
  z3 := Try.sizeOf3
  v3 := Try.zeroValue3
  t9 := Try.underlying9
  a9 := Try.isAgg9
  z9 := Try.sizeOf9
  v9 := Try.zeroValue9 }
end Go.Proofs
