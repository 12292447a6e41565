/-
  DERIVED: THE SHELF's CONTRACTS AT THIS DUMP, IN PLAIN WORDS (tools/lay-plain.mjs out of 'DgLib.lean', which tools/lay-shelf.mjs wrote): THE SAME DECLARATIONS UNDER THE SAME NAMES: 'import', 'namespace', 'open', 'def', 'theorem' AND NOTHING ELSE: no command of the shelf's: FOR A HAND-IN. Each laying: the table of numbers ('.._ren') and one theorem, a field a fact of the dump's own or the kernel's comparison; each contract: ONE APPLICATION.
-/
import Derived.Shelf.SlSortCmp.NoneTotal
import Derived.Ground.SlsfProg
import Derived.Test.YtejfgjggcoemeaaProg
namespace Go.Proofs
open Go.Shelf
def Try.l38_ren:Go.Shelf.Ren:=⟨fun|6=>38|15=>49|14=>48|28=>62|29=>63|20=>54|21=>55|22=>56|23=>57|24=>58|25=>59|26=>60|27=>61|46=>66|47=>67|48=>68|49=>69|50=>70|57=>72|n=>n,fun|22=>27|24=>24|25=>63|3=>3|39=>72|0=>0|53=>84|55=>86|4=>4|46=>78|45=>77|50=>67|5=>5|9=>9|66=>89|70=>93|76=>96|77=>97|n=>n,fun|n=>n⟩
theorem Try.l38:Go.Proofs.SlLaysF0.n6 Try.prog Try.l38_ren:={
 mixed:=by kernel_rfl
 f6:=⟨Try.f38.name,by decide,Try.func38.trans (congrArg some (by kernel_rfl))⟩
 f14:=⟨Try.f48.name,by decide,Try.func48.trans (congrArg some (by kernel_rfl))⟩
 f15:=Try.func49.trans (congrArg some (by kernel_rfl))
 f20:=⟨Try.f54.name,by decide,Try.func54.trans (congrArg some (by kernel_rfl))⟩
 f21:=⟨Try.f55.name,by decide,Try.func55.trans (congrArg some (by kernel_rfl))⟩
 f22:=⟨Try.f56.name,by decide,Try.func56.trans (congrArg some (by kernel_rfl))⟩
 f23:=⟨Try.f57.name,by decide,Try.func57.trans (congrArg some (by kernel_rfl))⟩
 f24:=⟨Try.f58.name,by decide,Try.func58.trans (congrArg some (by kernel_rfl))⟩
 f25:=⟨Try.f59.name,by decide,Try.func59.trans (congrArg some (by kernel_rfl))⟩
 f26:=⟨Try.f60.name,by decide,Try.func60.trans (congrArg some (by kernel_rfl))⟩
 f27:=⟨Try.f61.name,by decide,Try.func61.trans (congrArg some (by kernel_rfl))⟩
 f28:=Try.func62.trans (congrArg some (by kernel_rfl))
 f29:=Try.func63.trans (congrArg some (by kernel_rfl))
 f46:=⟨Try.f66.name,by decide,Try.func66.trans (congrArg some (by kernel_rfl))⟩
 f47:=Try.func67.trans (congrArg some (by kernel_rfl))
 f48:=Try.func68.trans (congrArg some (by kernel_rfl))
 f49:=⟨Try.f69.name,by decide,Try.func69.trans (congrArg some (by kernel_rfl))⟩
 f50:=⟨Try.f70.name,by decide,Try.func70.trans (congrArg some (by kernel_rfl))⟩
 f57:=⟨Try.f72.name,by decide,Try.func72.trans (congrArg some (by kernel_rfl))⟩
 t0:=Try.underlying0
 a0:=Try.isAgg0
 z0:=Try.sizeOf0
 v0:=Try.zeroValue0
 t3:=Try.underlying3
 a3:=Try.isAgg3
 z3:=Try.sizeOf3
 v3:=Try.zeroValue3
 t4:=Try.underlying4
 a4:=Try.isAgg4
 z4:=Try.sizeOf4
 v4:=Try.zeroValue4
 t5:=Try.underlying5
 a5:=Try.isAgg5
 z5:=Try.sizeOf5
 v5:=Try.zeroValue5
 t9:=Try.underlying9
 a9:=Try.isAgg9
 z9:=Try.sizeOf9
 v9:=Try.zeroValue9
 t22:=Try.underlying27
 a22:=Try.isAgg27
 z22:=Try.sizeOf27
 v22:=Try.zeroValue27
 t25:=Try.underlying63
 a25:=Try.isAgg63
 z25:=Try.sizeOf63
 v25:=Try.zeroValue63
 t39:=Try.underlying72
 a39:=Try.isAgg72
 z39:=Try.sizeOf72
 v39:=Try.zeroValue72
 t45:=Try.underlying77
 a45:=Try.isAgg77
 z45:=Try.sizeOf77
 v45:=Try.zeroValue77
 t46:=Try.underlying78
 a46:=Try.isAgg78
 z46:=Try.sizeOf78
 v46:=Try.zeroValue78
 t50:=Try.underlying67
 a50:=Try.isAgg67
 z50:=Try.sizeOf67
 v50:=Try.zeroValue67
 t53:=Try.underlying84
 a53:=Try.isAgg84
 z53:=Try.sizeOf84
 v53:=Try.zeroValue84
 t55:=Try.underlying86
 a55:=Try.isAgg86
 z55:=Try.sizeOf86
 v55:=Try.zeroValue86
 t66:=Try.underlying89
 a66:=Try.isAgg89
 z66:=Try.sizeOf89
 v66:=Try.zeroValue89
 t70:=Try.underlying93
 a70:=Try.isAgg93
 z70:=Try.sizeOf93
 v70:=Try.zeroValue93
 t76:=Try.underlying96
 a76:=Try.isAgg96
 z76:=Try.sizeOf96
 v76:=Try.zeroValue96
 t77:=Try.underlying97
 a77:=Try.isAgg97
 z77:=Try.sizeOf97
 v77:=Try.zeroValue97 }
end Go.Proofs
