/-
  Own text Fct of this claim: what functions of the given program compute, in plain Lean, and the proof; no condition.
-/
import Derived.Test.YtjkfnbjgpilokaaGreatDoorChecked
import Derived.Test.YtjkfnbjgpilokaaGreatDoorRows
import Derived.JoinedOf
import Derived.KernelRfl
namespace Go.Proofs.YtjkfnbjgpilokaaGreatDoor
set_option maxRecDepth 100000
theorem k9{a b:Bool}(h1:a=true)(h2:b=true):(a&&b)=true:=by rw[h1,h2];rfl
theorem zwa:(Rows.referencesApplyEditsEqualsReferenceRow.wf (OpenSpec.ofChange Rows.referencesApplyEditsEqualsReferenceSpec))=true:=by kernel_rfl
theorem zxa:(laidOutB Tryz.prog)=true:=by kernel_rfl
theorem zwh:(mapsRowed Tryz.prog)=true:=by kernel_rfl
theorem zxh:(Tryz.f3.params.all (Tryz.prog.readableRec ·))=true:=by kernel_rfl
theorem zw7:(namedTie Tryz.prog Rows.referencesApplyEditsEqualsReferenceRow.named Rows.referencesApplyEditsEqualsReferenceSpec.vars)=true:=by kernel_rfl
theorem zx6:((Rows.referencesApplyEditsEqualsReferenceRow.stops==[]))=true:=by kernel_rfl
theorem zx7:((Tryz.prog.stops==[]))=true:=by kernel_rfl
theorem zxg:((Rows.referencesApplyEditsEqualsReferenceRow.knobs==[]))=true:=by kernel_rfl
theorem zwg:((Tryz.prog.stopKnobs==[]))=true:=by kernel_rfl
theorem zvx:((Rows.referencesApplyEditsEqualsReferenceRow.inPlace==Tryz.prog.inPlace 3))=true:=by kernel_rfl
theorem zsm:((Rows.referencesApplyEditsEqualsReferenceRow.unfollowed==Tryz.prog.unfollowed 3))=true:=by kernel_rfl
theorem zu0:((Rows.referencesApplyEditsEqualsReferenceRow.recurses==Tryz.prog.recurses 3))=true:=by kernel_rfl
theorem zta:((Rows.referencesApplyEditsEqualsReferenceRow.named==Tryz.prog.varsNamed 3))=true:=by kernel_rfl
theorem zvh:((Rows.referencesApplyEditsEqualsReferenceRow.maps==(Tryz.f3.params.toList++Rows.referencesApplyEditsEqualsReferenceSpec.plain.varTypes Tryz.prog).any (Tryz.prog.mapsRec ·)))=true:=by kernel_rfl
theorem ztx:((Rows.referencesApplyEditsEqualsReferenceRow.ifaces==(Tryz.f3.params.toList++Rows.referencesApplyEditsEqualsReferenceSpec.plain.varTypes Tryz.prog).any (Tryz.prog.ifacesRec ·)))=true:=by kernel_rfl
theorem ztg:((Rows.referencesApplyEditsEqualsReferenceRow.mapsOut==Tryz.prog.mapsAmong Tryz.f3.resultTypes.toList))=true:=by kernel_rfl
theorem zsa:((Rows.referencesApplyEditsEqualsReferenceRow.loops==(Tryz.f3.params.toList++Rows.referencesApplyEditsEqualsReferenceSpec.plain.varTypes Tryz.prog).any (Tryz.prog.loopsFrom ·)))=true:=by kernel_rfl
theorem zv7:((Rows.referencesApplyEditsEqualsReferenceRow.wideKeys==(Tryz.f3.params.toList++Rows.referencesApplyEditsEqualsReferenceSpec.plain.varTypes Tryz.prog++Tryz.f3.resultTypes.toList).any (Tryz.prog.wideKeysFrom ·)))=true:=by kernel_rfl
theorem zsd:(Rows.referencesApplyEditsEqualsReferenceSpec.vars.all (Tryz.prog.varReadable ·))=true:=by kernel_rfl
theorem ztm:(Tryz.f3.resultTypes.all (fun t=>Tryz.prog.readableRec t&&decide (t<Tryz.prog.types.size)))=true:=by kernel_rfl
theorem zu4:((Rows.referencesApplyEditsEqualsReferenceRow.ifacesOut==Tryz.f3.resultTypes.toList.any (Tryz.prog.ifacesRec ·)))=true:=by kernel_rfl
theorem zug:((Rows.referencesApplyEditsEqualsReferenceRow.loopsOut==Tryz.f3.resultTypes.toList.any (Tryz.prog.loopsFrom ·)))=true:=by kernel_rfl
theorem zs5:((Rows.referencesApplyEditsEqualsReferenceRow.plainKeys==Tryz.prog.plainKeys))=true:=by kernel_rfl
theorem zu3:(Rows.referencesApplyEditsEqualsReferenceRow.shortTexts.isNone)=true:=by kernel_rfl
theorem zso:(Tryz.prog.stopsHeard)=true:=by kernel_rfl
theorem zu5:(Tryz.prog.mayEnter)=true:=by kernel_rfl
theorem ztb:((Rows.referencesApplyEditsEqualsReferenceRow.lifted==Tryz.prog.liftsFinal))=true:=by kernel_rfl
theorem zt8:((Tryz.prog.make==some Rows.referencesApplyEditsEqualsReferenceRow.make))=true:=by kernel_rfl
theorem zsc:((Rows.referencesApplyEditsEqualsReferenceRow.kinds==(if Rows.referencesApplyEditsEqualsReferenceRow.domain.isEmpty then [] else Tryz.f3.params.toList.map fun t=>match Tryz.prog.underlying t with|some (.int k)=>some k|_=>none)))=true:=by kernel_rfl
theorem zsn:((Rows.referencesApplyEditsEqualsReferenceRow.pinned==Rows.referencesApplyEditsEqualsReferenceRow.pinnedBy))=true:=by kernel_rfl
theorem zv0:((Rows.referencesApplyEditsEqualsReferenceRow.veiled==(Tryz.f3.params.toList++Rows.referencesApplyEditsEqualsReferenceSpec.plain.varTypes Tryz.prog++Tryz.f3.resultTypes.toList).any (Tryz.prog.veiledRec ·)))=true:=by kernel_rfl
theorem zsf:(Rows.referencesApplyEditsEqualsReferenceRow.veiledFits Tryz.prog Tryz.f3.params.toList (Tryz.f3.params.toList++Rows.referencesApplyEditsEqualsReferenceSpec.plain.varTypes Tryz.prog++Tryz.f3.resultTypes.toList))=true:=by kernel_rfl
theorem zur:joinedFacts Tryz.prog 3 Tryz.f3 Rows.referencesApplyEditsEqualsReferenceSpec Rows.referencesApplyEditsEqualsReferenceRow=true:=(k9 (k9 (k9 (k9 (k9 (k9 (k9 (k9 (k9 (k9 (k9 (k9 (k9 (k9 (k9 (k9 (k9 (k9 (k9 (k9 (k9 (k9 (k9 (k9 (k9 (k9 (k9 (k9 (k9 (k9 (k9 zwa zxa) zwh) zxh) zw7) zx6) zx7) zxg) zwg) zvx) zsm) zu0) zta) zvh) ztx) ztg) zsa) zv7) zsd) ztm) zu4) zug) zs5) zu3) zso) zu5) ztb) zt8) zsc) zsn) zv0) zsf)
end Go.Proofs.YtjkfnbjgpilokaaGreatDoor
