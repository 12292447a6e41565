/-
  Own text Fct of this claim: what functions of the given program compute, in plain Lean, and the proof; no condition.
-/
import Derived.Test.YtjkfnbjgpilokaaGreatDoorChecked
import Derived.Test.YtjkfnbjgpilokaaGreatDoorRows
import Derived.JoinedOf
import Derived.KernelRfl
namespace Go.Proofs.YtjkfnbjgpilokaaGreatDoor
set_option maxRecDepth 100000
theorem jz{a b:Bool}(h1:a=true)(h2:b=true):(a&&b)=true:=by rw[h1,h2];rfl
theorem zmo:(Rows.referencesCorrespondingEqualsReferenceRow.wf (OpenSpec.ofChange Rows.referencesCorrespondingEqualsReferenceSpec))=true:=by kernel_rfl
theorem zmt:(laidOutB Tryz.prog)=true:=by kernel_rfl
theorem zng:(mapsRowed Tryz.prog)=true:=by kernel_rfl
theorem znn:(Tryz.f4.params.all (Tryz.prog.readableRec ·))=true:=by kernel_rfl
theorem zmm:(namedTie Tryz.prog Rows.referencesCorrespondingEqualsReferenceRow.named Rows.referencesCorrespondingEqualsReferenceSpec.vars)=true:=by kernel_rfl
theorem zmv:((Rows.referencesCorrespondingEqualsReferenceRow.stops==[]))=true:=by kernel_rfl
theorem zn3:((Tryz.prog.stops==[]))=true:=by kernel_rfl
theorem zn8:((Rows.referencesCorrespondingEqualsReferenceRow.knobs==[]))=true:=by kernel_rfl
theorem zn6:((Tryz.prog.stopKnobs==[]))=true:=by kernel_rfl
theorem znf:((Rows.referencesCorrespondingEqualsReferenceRow.inPlace==Tryz.prog.inPlace 4))=true:=by kernel_rfl
theorem zjy:((Rows.referencesCorrespondingEqualsReferenceRow.unfollowed==Tryz.prog.unfollowed 4))=true:=by kernel_rfl
theorem zm6:((Rows.referencesCorrespondingEqualsReferenceRow.recurses==Tryz.prog.recurses 4))=true:=by kernel_rfl
theorem zk1:((Rows.referencesCorrespondingEqualsReferenceRow.named==Tryz.prog.varsNamed 4))=true:=by kernel_rfl
theorem zlw:((Rows.referencesCorrespondingEqualsReferenceRow.maps==(Tryz.f4.params.toList++Rows.referencesCorrespondingEqualsReferenceSpec.plain.varTypes Tryz.prog).any (Tryz.prog.mapsRec ·)))=true:=by kernel_rfl
theorem zl6:((Rows.referencesCorrespondingEqualsReferenceRow.ifaces==(Tryz.f4.params.toList++Rows.referencesCorrespondingEqualsReferenceSpec.plain.varTypes Tryz.prog).any (Tryz.prog.ifacesRec ·)))=true:=by kernel_rfl
theorem zkq:((Rows.referencesCorrespondingEqualsReferenceRow.mapsOut==Tryz.prog.mapsAmong Tryz.f4.resultTypes.toList))=true:=by kernel_rfl
theorem zl0:((Rows.referencesCorrespondingEqualsReferenceRow.loops==(Tryz.f4.params.toList++Rows.referencesCorrespondingEqualsReferenceSpec.plain.varTypes Tryz.prog).any (Tryz.prog.loopsFrom ·)))=true:=by kernel_rfl
theorem zje:((Rows.referencesCorrespondingEqualsReferenceRow.wideKeys==(Tryz.f4.params.toList++Rows.referencesCorrespondingEqualsReferenceSpec.plain.varTypes Tryz.prog++Tryz.f4.resultTypes.toList).any (Tryz.prog.wideKeysFrom ·)))=true:=by kernel_rfl
theorem zju:(Rows.referencesCorrespondingEqualsReferenceSpec.vars.all (Tryz.prog.varReadable ·))=true:=by kernel_rfl
theorem zjj:(Tryz.f4.resultTypes.all (fun t=>Tryz.prog.readableRec t&&decide (t<Tryz.prog.types.size)))=true:=by kernel_rfl
theorem zlz:((Rows.referencesCorrespondingEqualsReferenceRow.ifacesOut==Tryz.f4.resultTypes.toList.any (Tryz.prog.ifacesRec ·)))=true:=by kernel_rfl
theorem zlv:((Rows.referencesCorrespondingEqualsReferenceRow.loopsOut==Tryz.f4.resultTypes.toList.any (Tryz.prog.loopsFrom ·)))=true:=by kernel_rfl
theorem zln:((Rows.referencesCorrespondingEqualsReferenceRow.plainKeys==Tryz.prog.plainKeys))=true:=by kernel_rfl
theorem zl4:(Rows.referencesCorrespondingEqualsReferenceRow.shortTexts.isNone)=true:=by kernel_rfl
theorem zm3:(Tryz.prog.stopsHeard)=true:=by kernel_rfl
theorem zk4:(Tryz.prog.mayEnter)=true:=by kernel_rfl
theorem zk0:((Rows.referencesCorrespondingEqualsReferenceRow.lifted==Tryz.prog.liftsFinal))=true:=by kernel_rfl
theorem zk3:((Tryz.prog.make==some Rows.referencesCorrespondingEqualsReferenceRow.make))=true:=by kernel_rfl
theorem zk7:((Rows.referencesCorrespondingEqualsReferenceRow.kinds==(if Rows.referencesCorrespondingEqualsReferenceRow.domain.isEmpty then [] else Tryz.f4.params.toList.map fun t=>match Tryz.prog.underlying t with|some (.int k)=>some k|_=>none)))=true:=by kernel_rfl
theorem zkn:((Rows.referencesCorrespondingEqualsReferenceRow.pinned==Rows.referencesCorrespondingEqualsReferenceRow.pinnedBy))=true:=by kernel_rfl
theorem zla:((Rows.referencesCorrespondingEqualsReferenceRow.veiled==(Tryz.f4.params.toList++Rows.referencesCorrespondingEqualsReferenceSpec.plain.varTypes Tryz.prog++Tryz.f4.resultTypes.toList).any (Tryz.prog.veiledRec ·)))=true:=by kernel_rfl
theorem zlj:(Rows.referencesCorrespondingEqualsReferenceRow.veiledFits Tryz.prog Tryz.f4.params.toList (Tryz.f4.params.toList++Rows.referencesCorrespondingEqualsReferenceSpec.plain.varTypes Tryz.prog++Tryz.f4.resultTypes.toList))=true:=by kernel_rfl
theorem zll:joinedFacts Tryz.prog 4 Tryz.f4 Rows.referencesCorrespondingEqualsReferenceSpec Rows.referencesCorrespondingEqualsReferenceRow=true:=(jz (jz (jz (jz (jz (jz (jz (jz (jz (jz (jz (jz (jz (jz (jz (jz (jz (jz (jz (jz (jz (jz (jz (jz (jz (jz (jz (jz (jz (jz (jz zmo zmt) zng) znn) zmm) zmv) zn3) zn8) zn6) znf) zjy) zm6) zk1) zlw) zl6) zkq) zl0) zje) zju) zjj) zlz) zlv) zln) zl4) zm3) zk4) zk0) zk3) zk7) zkn) zla) zlj)
end Go.Proofs.YtjkfnbjgpilokaaGreatDoor
