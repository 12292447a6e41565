/-
  DERIVED: THE SHELF's CONTRACTS AT THIS DUMP, IN PLAIN WORDS (tools/lay-plain.mjs out of 'JrLib.lean', which tools/lay-shelf.mjs wrote): THE SAME DECLARATIONS UNDER THE SAME NAMES: 'import', 'namespace', 'open', 'def', 'theorem' AND NOTHING ELSE: no command of the shelf's: FOR A HAND-IN. Each laying: the table of numbers ('.._ren') and one theorem, a field a fact of the dump's own or the kernel's comparison; each contract: ONE APPLICATION.
-/
import Derived.Shelf.Unicode.ValidAny
import Derived.Ground.NamesProg
import Derived.Shelf.Small.Strs
import Derived.Test.YtlfdchgaeeadjaaDoorProg
namespace Go.Proofs
open Go.Shelf
def Tryd.l68_ren : Go.Shelf.Ren := ⟨fun | 196 => 68 | 259 => 81 | n => n, fun | 9 => 9 | 4 => 4 | 3 => 3 | 5 => 5 | 12 => 12 | 119 => 116 | 0 => 0 | 46 => 120 | 139 => 119 | 138 => 118 | 53 => 124 | n => n, fun | 3 => 0 | 4 => 1 | n => n⟩
theorem Tryd.l68 : Go.Proofs.Lays.n196 Tryd.prog Tryd.l68_ren := {
 mixed := by kernel_rfl
 f196 := Tryd.func68.trans (congrArg some (by kernel_rfl))
 f259 := Tryd.func81.trans (congrArg some (by kernel_rfl))
 t0 := Tryd.underlying0
 a0 := Tryd.isAgg0
 z0 := Tryd.sizeOf0
 v0 := Tryd.zeroValue0
 t3 := Tryd.underlying3
 a3 := Tryd.isAgg3
 z3 := Tryd.sizeOf3
 v3 := Tryd.zeroValue3
 t4 := Tryd.underlying4
 a4 := Tryd.isAgg4
 z4 := Tryd.sizeOf4
 v4 := Tryd.zeroValue4
 t5 := Tryd.underlying5
 a5 := Tryd.isAgg5
 z5 := Tryd.sizeOf5
 v5 := Tryd.zeroValue5
 t9 := Tryd.underlying9
 a9 := Tryd.isAgg9
 z9 := Tryd.sizeOf9
 v9 := Tryd.zeroValue9
 t12 := Tryd.underlying12
 a12 := Tryd.isAgg12
 z12 := Tryd.sizeOf12
 v12 := Tryd.zeroValue12
 t46 := Tryd.underlying120
 a46 := Tryd.isAgg120
 z46 := Tryd.sizeOf120
 v46 := Tryd.zeroValue120
 t53 := Tryd.underlying124
 a53 := Tryd.isAgg124
 z53 := Tryd.sizeOf124
 v53 := Tryd.zeroValue124
 t119 := Tryd.underlying116
 a119 := Tryd.isAgg116
 z119 := Tryd.sizeOf116
 t138 := Tryd.underlying118
 a138 := Tryd.isAgg118
 z138 := Tryd.sizeOf118
 v138 := Tryd.zeroValue118
 t139 := Tryd.underlying119
 a139 := Tryd.isAgg119
 z139 := Tryd.sizeOf119
 v139 := Tryd.zeroValue119
 g3 := by kernel_rfl
 g4 := by kernel_rfl }
def Tryd.l86_ren : Go.Shelf.Ren := ⟨fun | 137 => 86 | 217 => 92 | 266 => 98 | n => n, fun | 9 => 9 | 5 => 5 | 3 => 3 | n => n, fun | n => n⟩
theorem Tryd.l86 : Go.Proofs.Lays.n137 Tryd.prog Tryd.l86_ren := {
 mixed := by kernel_rfl
 f137 := Tryd.func86.trans (congrArg some (by kernel_rfl))
 f217 := Tryd.func92.trans (congrArg some (by kernel_rfl))
 f266 := Tryd.func98.trans (congrArg some (by kernel_rfl))
 t3 := Tryd.underlying3
 a3 := Tryd.isAgg3
 z3 := Tryd.sizeOf3
 v3 := Tryd.zeroValue3
 t5 := Tryd.underlying5
 a5 := Tryd.isAgg5
 z5 := Tryd.sizeOf5
 v5 := Tryd.zeroValue5
 t9 := Tryd.underlying9
 a9 := Tryd.isAgg9
 z9 := Tryd.sizeOf9
 v9 := Tryd.zeroValue9 }
end Go.Proofs
