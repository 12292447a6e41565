/-
  DERIVED: THE SHELF's CONTRACTS AT THIS DUMP, IN PLAIN WORDS (tools/lay-plain.mjs out of 'RfLib.lean', which tools/lay-shelf.mjs wrote): THE SAME DECLARATIONS UNDER THE SAME NAMES: 'import', 'namespace', 'open', 'def', 'theorem' AND NOTHING ELSE: no command of the shelf's: FOR A HAND-IN. Each laying: the table of numbers ('.._ren') and one theorem, a field a fact of the dump's own or the kernel's comparison; each contract: ONE APPLICATION.
-/
import Derived.Shelf.Small.Strs
import Derived.Ground.NamesProg
import Derived.Shelf.Strings.Fields
import Derived.Test.YtjkfnbjgpilokaaGreatDoorProg
namespace Go.Proofs
open Go.Shelf
def Tryz.l104_ren:Go.Shelf.Ren:=⟨fun|137=>104|217=>151|266=>192|n=>n,fun|9=>9|5=>5|3=>3|n=>n,fun|n=>n⟩
theorem Tryz.l104:Go.Proofs.Lays.n137 Tryz.prog Tryz.l104_ren:={
 mixed:=by kernel_rfl
 f137:=Tryz.func104.trans (congrArg some (by kernel_rfl))
 f217:=Tryz.func151.trans (congrArg some (by kernel_rfl))
 f266:=Tryz.func192.trans (congrArg some (by kernel_rfl))
 t3:=Tryz.underlying3
 a3:=Tryz.isAgg3
 z3:=Tryz.sizeOf3
 v3:=Tryz.zeroValue3
 t5:=Tryz.underlying5
 a5:=Tryz.isAgg5
 z5:=Tryz.sizeOf5
 v5:=Tryz.zeroValue5
 t9:=Tryz.underlying9
 a9:=Tryz.isAgg9
 z9:=Tryz.sizeOf9
 v9:=Tryz.zeroValue9 }
def Tryz.l149_ren:Go.Shelf.Ren:=⟨fun|157=>149|229=>190|199=>191|261=>228|311=>251|312=>252|n=>n,fun|9=>9|31=>160|3=>3|5=>5|4=>4|119=>233|0=>0|40=>235|152=>266|21=>21|154=>268|51=>191|141=>270|196=>281|193=>278|198=>284|49=>282|194=>279|201=>287|226=>294|46=>153|227=>295|n=>n,fun|0=>0|6=>1|n=>n⟩
theorem Tryz.l149:Go.Proofs.Lays.n157 Tryz.prog Tryz.l149_ren:={
 mixed:=by kernel_rfl
 f157:=Tryz.func149.trans (congrArg some (by kernel_rfl))
 f199:=Tryz.func191.trans (congrArg some (by kernel_rfl))
 f229:=Tryz.func190.trans (congrArg some (by kernel_rfl))
 f261:=Tryz.func228.trans (congrArg some (by kernel_rfl))
 f311:=Tryz.func251.trans (congrArg some (by kernel_rfl))
 f312:=Tryz.func252.trans (congrArg some (by kernel_rfl))
 t0:=Tryz.underlying0
 a0:=Tryz.isAgg0
 z0:=Tryz.sizeOf0
 v0:=Tryz.zeroValue0
 t3:=Tryz.underlying3
 a3:=Tryz.isAgg3
 z3:=Tryz.sizeOf3
 v3:=Tryz.zeroValue3
 t4:=Tryz.underlying4
 a4:=Tryz.isAgg4
 z4:=Tryz.sizeOf4
 v4:=Tryz.zeroValue4
 t5:=Tryz.underlying5
 a5:=Tryz.isAgg5
 z5:=Tryz.sizeOf5
 v5:=Tryz.zeroValue5
 t9:=Tryz.underlying9
 a9:=Tryz.isAgg9
 z9:=Tryz.sizeOf9
 v9:=Tryz.zeroValue9
 t21:=Tryz.underlying21
 a21:=Tryz.isAgg21
 z21:=Tryz.sizeOf21
 v21:=Tryz.zeroValue21
 t31:=Tryz.underlying160
 a31:=Tryz.isAgg160
 z31:=Tryz.sizeOf160
 v31:=Tryz.zeroValue160
 t40:=Tryz.underlying235
 a40:=Tryz.isAgg235
 z40:=Tryz.sizeOf235
 v40:=Tryz.zeroValue235
 t46:=Tryz.underlying153
 a46:=Tryz.isAgg153
 z46:=Tryz.sizeOf153
 v46:=Tryz.zeroValue153
 t49:=Tryz.underlying282
 a49:=Tryz.isAgg282
 z49:=Tryz.sizeOf282
 v49:=Tryz.zeroValue282
 t51:=Tryz.underlying191
 a51:=Tryz.isAgg191
 z51:=Tryz.sizeOf191
 v51:=Tryz.zeroValue191
 t119:=Tryz.underlying233
 a119:=Tryz.isAgg233
 z119:=Tryz.sizeOf233
 t141:=Tryz.underlying270
 a141:=Tryz.isAgg270
 z141:=Tryz.sizeOf270
 v141:=Tryz.zeroValue270
 t152:=Tryz.underlying266
 a152:=Tryz.isAgg266
 z152:=Tryz.sizeOf266
 v152:=Tryz.zeroValue266
 t154:=Tryz.underlying268
 a154:=Tryz.isAgg268
 z154:=Tryz.sizeOf268
 v154:=Tryz.zeroValue268
 t193:=Tryz.underlying278
 a193:=Tryz.isAgg278
 z193:=Tryz.sizeOf278
 v193:=Tryz.zeroValue278
 t194:=Tryz.underlying279
 a194:=Tryz.isAgg279
 z194:=Tryz.sizeOf279
 v194:=Tryz.zeroValue279
 t196:=Tryz.underlying281
 a196:=Tryz.isAgg281
 z196:=Tryz.sizeOf281
 v196:=Tryz.zeroValue281
 t198:=Tryz.underlying284
 a198:=Tryz.isAgg284
 z198:=Tryz.sizeOf284
 v198:=Tryz.zeroValue284
 t201:=Tryz.underlying287
 a201:=Tryz.isAgg287
 z201:=Tryz.sizeOf287
 v201:=Tryz.zeroValue287
 t226:=Tryz.underlying294
 a226:=Tryz.isAgg294
 z226:=Tryz.sizeOf294
 v226:=Tryz.zeroValue294
 t227:=Tryz.underlying295
 a227:=Tryz.isAgg295
 z227:=Tryz.sizeOf295
 v227:=Tryz.zeroValue295
 g0:=by kernel_rfl
 g6:=by kernel_rfl }
end Go.Proofs
