/-
  Own text Fct of this claim: what functions of the given program compute, in plain Lean, and the proof; no condition.
-/
import Derived.Test.YtjkfnbjgpilokaaGreatDoorChecked
import Derived.Test.YtjkfnbjgpilokaaGreatDoorRows
import Derived.JoinedOf
import Derived.KernelRfl
namespace Go.Proofs.YtjkfnbjgpilokaaGreatDoor
set_option maxRecDepth 100000
theorem j4{a b:Bool}(h1:a=true)(h2:b=true):(a&&b)=true:=by rw[h1,h2];rfl
theorem zi4:(Rows.extractFirstEvaluatedEqualsReferenceRow.wf (OpenSpec.ofChange Rows.extractFirstEvaluatedEqualsReferenceSpec))=true:=by kernel_rfl
theorem zii:(laidOutB Tryz.prog)=true:=by kernel_rfl
theorem zja:(mapsRowed Tryz.prog)=true:=by kernel_rfl
theorem ziq:(Tryz.f5.params.all (Tryz.prog.readableRec ·))=true:=by kernel_rfl
theorem zik:(namedTie Tryz.prog Rows.extractFirstEvaluatedEqualsReferenceRow.named Rows.extractFirstEvaluatedEqualsReferenceSpec.vars)=true:=by kernel_rfl
theorem zim:((Rows.extractFirstEvaluatedEqualsReferenceRow.stops==[]))=true:=by kernel_rfl
theorem zit:((Tryz.prog.stops==[]))=true:=by kernel_rfl
theorem zi9:((Rows.extractFirstEvaluatedEqualsReferenceRow.knobs==[]))=true:=by kernel_rfl
theorem zj2:((Tryz.prog.stopKnobs==[]))=true:=by kernel_rfl
theorem ziy:((Rows.extractFirstEvaluatedEqualsReferenceRow.inPlace==Tryz.prog.inPlace 5))=true:=by kernel_rfl
theorem zhe:((Rows.extractFirstEvaluatedEqualsReferenceRow.unfollowed==Tryz.prog.unfollowed 5))=true:=by kernel_rfl
theorem zhn:((Rows.extractFirstEvaluatedEqualsReferenceRow.recurses==Tryz.prog.recurses 5))=true:=by kernel_rfl
theorem zhl:((Rows.extractFirstEvaluatedEqualsReferenceRow.named==Tryz.prog.varsNamed 5))=true:=by kernel_rfl
theorem zh4:((Rows.extractFirstEvaluatedEqualsReferenceRow.maps==(Tryz.f5.params.toList++Rows.extractFirstEvaluatedEqualsReferenceSpec.plain.varTypes Tryz.prog).any (Tryz.prog.mapsRec ·)))=true:=by kernel_rfl
theorem zgp:((Rows.extractFirstEvaluatedEqualsReferenceRow.ifaces==(Tryz.f5.params.toList++Rows.extractFirstEvaluatedEqualsReferenceSpec.plain.varTypes Tryz.prog).any (Tryz.prog.ifacesRec ·)))=true:=by kernel_rfl
theorem zfa:((Rows.extractFirstEvaluatedEqualsReferenceRow.mapsOut==Tryz.prog.mapsAmong Tryz.f5.resultTypes.toList))=true:=by kernel_rfl
theorem zgq:((Rows.extractFirstEvaluatedEqualsReferenceRow.loops==(Tryz.f5.params.toList++Rows.extractFirstEvaluatedEqualsReferenceSpec.plain.varTypes Tryz.prog).any (Tryz.prog.loopsFrom ·)))=true:=by kernel_rfl
theorem zhf:((Rows.extractFirstEvaluatedEqualsReferenceRow.wideKeys==(Tryz.f5.params.toList++Rows.extractFirstEvaluatedEqualsReferenceSpec.plain.varTypes Tryz.prog++Tryz.f5.resultTypes.toList).any (Tryz.prog.wideKeysFrom ·)))=true:=by kernel_rfl
theorem zg5:(Rows.extractFirstEvaluatedEqualsReferenceSpec.vars.all (Tryz.prog.varReadable ·))=true:=by kernel_rfl
theorem zgb:(Tryz.f5.resultTypes.all (fun t=>Tryz.prog.readableRec t&&decide (t<Tryz.prog.types.size)))=true:=by kernel_rfl
theorem zff:((Rows.extractFirstEvaluatedEqualsReferenceRow.ifacesOut==Tryz.f5.resultTypes.toList.any (Tryz.prog.ifacesRec ·)))=true:=by kernel_rfl
theorem zfj:((Rows.extractFirstEvaluatedEqualsReferenceRow.loopsOut==Tryz.f5.resultTypes.toList.any (Tryz.prog.loopsFrom ·)))=true:=by kernel_rfl
theorem zgw:((Rows.extractFirstEvaluatedEqualsReferenceRow.plainKeys==Tryz.prog.plainKeys))=true:=by kernel_rfl
theorem zgo:(Rows.extractFirstEvaluatedEqualsReferenceRow.shortTexts.isNone)=true:=by kernel_rfl
theorem zfl:(Tryz.prog.stopsHeard)=true:=by kernel_rfl
theorem zh2:(Tryz.prog.mayEnter)=true:=by kernel_rfl
theorem zgr:((Rows.extractFirstEvaluatedEqualsReferenceRow.lifted==Tryz.prog.liftsFinal))=true:=by kernel_rfl
theorem zfz:((Tryz.prog.make==some Rows.extractFirstEvaluatedEqualsReferenceRow.make))=true:=by kernel_rfl
theorem zge:((Rows.extractFirstEvaluatedEqualsReferenceRow.kinds==(if Rows.extractFirstEvaluatedEqualsReferenceRow.domain.isEmpty then [] else Tryz.f5.params.toList.map fun t=>match Tryz.prog.underlying t with|some (.int k)=>some k|_=>none)))=true:=by kernel_rfl
theorem zfy:((Rows.extractFirstEvaluatedEqualsReferenceRow.pinned==Rows.extractFirstEvaluatedEqualsReferenceRow.pinnedBy))=true:=by kernel_rfl
theorem zfs:((Rows.extractFirstEvaluatedEqualsReferenceRow.veiled==(Tryz.f5.params.toList++Rows.extractFirstEvaluatedEqualsReferenceSpec.plain.varTypes Tryz.prog++Tryz.f5.resultTypes.toList).any (Tryz.prog.veiledRec ·)))=true:=by kernel_rfl
theorem zh5:(Rows.extractFirstEvaluatedEqualsReferenceRow.veiledFits Tryz.prog Tryz.f5.params.toList (Tryz.f5.params.toList++Rows.extractFirstEvaluatedEqualsReferenceSpec.plain.varTypes Tryz.prog++Tryz.f5.resultTypes.toList))=true:=by kernel_rfl
theorem zfr:joinedFacts Tryz.prog 5 Tryz.f5 Rows.extractFirstEvaluatedEqualsReferenceSpec Rows.extractFirstEvaluatedEqualsReferenceRow=true:=(j4 (j4 (j4 (j4 (j4 (j4 (j4 (j4 (j4 (j4 (j4 (j4 (j4 (j4 (j4 (j4 (j4 (j4 (j4 (j4 (j4 (j4 (j4 (j4 (j4 (j4 (j4 (j4 (j4 (j4 (j4 zi4 zii) zja) ziq) zik) zim) zit) zi9) zj2) ziy) zhe) zhn) zhl) zh4) zgp) zfa) zgq) zhf) zg5) zgb) zff) zfj) zgw) zgo) zfl) zh2) zgr) zfz) zge) zfy) zfs) zh5)
end Go.Proofs.YtjkfnbjgpilokaaGreatDoor
