/-
  Own text Fa of this claim: what functions of the given program compute, in plain Lean, and the proof; no condition.
-/
import Derived.Test.YtkpgfihopaokgaaGreatDoorChecked
import Derived.Test.YtkpgfihopaokgaaGreatDoorRows
import Derived.JoinedOf
import Derived.KernelRfl
namespace Go.Proofs.YtkpgfihopaokgaaGreatDoor
set_option maxRecDepth 100000
theorem wk {a b : Bool} (h1 : a = true) (h2 : b = true) : (a && b) = true := by rw [h1, h2]; rfl
theorem znu : (Rows.semtokensEncodeEqualsReferenceRow.wf (OpenSpec.ofChange Rows.semtokensEncodeEqualsReferenceSpec)) = true := by kernel_rfl
theorem zoc : (laidOutB Tryz.prog) = true := by kernel_rfl
theorem zof : (mapsRowed Tryz.prog) = true := by kernel_rfl
theorem zo7 : (Tryz.f3.params.all (Tryz.prog.readableRec ·)) = true := by kernel_rfl
theorem zo2 : (namedTie Tryz.prog Rows.semtokensEncodeEqualsReferenceRow.named Rows.semtokensEncodeEqualsReferenceSpec.vars) = true := by kernel_rfl
theorem zoi : ((Rows.semtokensEncodeEqualsReferenceRow.stops == [])) = true := by kernel_rfl
theorem zoq : ((Tryz.prog.stops == [])) = true := by kernel_rfl
theorem zns : ((Rows.semtokensEncodeEqualsReferenceRow.knobs == [])) = true := by kernel_rfl
theorem zo1 : ((Tryz.prog.stopKnobs == [])) = true := by kernel_rfl
theorem zon : ((Rows.semtokensEncodeEqualsReferenceRow.inPlace == Tryz.prog.inPlace 3)) = true := by kernel_rfl
theorem zln : ((Rows.semtokensEncodeEqualsReferenceRow.unfollowed == Tryz.prog.unfollowed 3)) = true := by kernel_rfl
theorem zlu : ((Rows.semtokensEncodeEqualsReferenceRow.recurses == Tryz.prog.recurses 3)) = true := by kernel_rfl
theorem zkn : ((Rows.semtokensEncodeEqualsReferenceRow.named == Tryz.prog.varsNamed 3)) = true := by kernel_rfl
theorem zne : ((Rows.semtokensEncodeEqualsReferenceRow.maps == (Tryz.f3.params.toList ++ Rows.semtokensEncodeEqualsReferenceSpec.plain.varTypes Tryz.prog).any (Tryz.prog.mapsRec ·))) = true := by kernel_rfl
theorem zl4 : ((Rows.semtokensEncodeEqualsReferenceRow.ifaces == (Tryz.f3.params.toList ++ Rows.semtokensEncodeEqualsReferenceSpec.plain.varTypes Tryz.prog).any (Tryz.prog.ifacesRec ·))) = true := by kernel_rfl
theorem zk8 : ((Rows.semtokensEncodeEqualsReferenceRow.mapsOut == Tryz.prog.mapsAmong Tryz.f3.resultTypes.toList)) = true := by kernel_rfl
theorem zmc : ((Rows.semtokensEncodeEqualsReferenceRow.loops == (Tryz.f3.params.toList ++ Rows.semtokensEncodeEqualsReferenceSpec.plain.varTypes Tryz.prog).any (Tryz.prog.loopsFrom ·))) = true := by kernel_rfl
theorem zlc : ((Rows.semtokensEncodeEqualsReferenceRow.wideKeys == (Tryz.f3.params.toList ++ Rows.semtokensEncodeEqualsReferenceSpec.plain.varTypes Tryz.prog ++ Tryz.f3.resultTypes.toList).any (Tryz.prog.wideKeysFrom ·))) = true := by kernel_rfl
theorem zmv : (Rows.semtokensEncodeEqualsReferenceSpec.vars.all (Tryz.prog.varReadable ·)) = true := by kernel_rfl
theorem zkc : (Tryz.f3.resultTypes.all (fun t => Tryz.prog.readableRec t && decide (t < Tryz.prog.types.size))) = true := by kernel_rfl
theorem zmh : ((Rows.semtokensEncodeEqualsReferenceRow.ifacesOut == Tryz.f3.resultTypes.toList.any (Tryz.prog.ifacesRec ·))) = true := by kernel_rfl
theorem zkg : ((Rows.semtokensEncodeEqualsReferenceRow.loopsOut == Tryz.f3.resultTypes.toList.any (Tryz.prog.loopsFrom ·))) = true := by kernel_rfl
theorem zmt : ((Rows.semtokensEncodeEqualsReferenceRow.plainKeys == Tryz.prog.plainKeys)) = true := by kernel_rfl
theorem zku : (Rows.semtokensEncodeEqualsReferenceRow.shortTexts.isNone) = true := by kernel_rfl
theorem zmq : (Tryz.prog.stopsHeard) = true := by kernel_rfl
theorem zmj : (Tryz.prog.mayEnter) = true := by kernel_rfl
theorem zn7 : ((Rows.semtokensEncodeEqualsReferenceRow.lifted == Tryz.prog.liftsFinal)) = true := by kernel_rfl
theorem zmk : ((Tryz.prog.make == some Rows.semtokensEncodeEqualsReferenceRow.make)) = true := by kernel_rfl
theorem zkf : ((Rows.semtokensEncodeEqualsReferenceRow.kinds == (if Rows.semtokensEncodeEqualsReferenceRow.domain.isEmpty then [] else Tryz.f3.params.toList.map fun t => match Tryz.prog.underlying t with | some (.int k) => some k | _ => none))) = true := by kernel_rfl
theorem zl6 : ((Rows.semtokensEncodeEqualsReferenceRow.pinned == Rows.semtokensEncodeEqualsReferenceRow.pinnedBy)) = true := by kernel_rfl
theorem zmy : ((Rows.semtokensEncodeEqualsReferenceRow.veiled == (Tryz.f3.params.toList ++ Rows.semtokensEncodeEqualsReferenceSpec.plain.varTypes Tryz.prog ++ Tryz.f3.resultTypes.toList).any (Tryz.prog.veiledRec ·))) = true := by kernel_rfl
theorem zna : (Rows.semtokensEncodeEqualsReferenceRow.veiledFits Tryz.prog Tryz.f3.params.toList (Tryz.f3.params.toList ++ Rows.semtokensEncodeEqualsReferenceSpec.plain.varTypes Tryz.prog ++ Tryz.f3.resultTypes.toList)) = true := by kernel_rfl
theorem zls : joinedFacts Tryz.prog 3 Tryz.f3 Rows.semtokensEncodeEqualsReferenceSpec Rows.semtokensEncodeEqualsReferenceRow = true := (wk (wk (wk (wk (wk (wk (wk (wk (wk (wk (wk (wk (wk (wk (wk (wk (wk (wk (wk (wk (wk (wk (wk (wk (wk (wk (wk (wk (wk (wk (wk znu zoc) zof) zo7) zo2) zoi) zoq) zns) zo1) zon) zln) zlu) zkn) zne) zl4) zk8) zmc) zlc) zmv) zkc) zmh) zkg) zmt) zku) zmq) zmj) zn7) zmk) zkf) zl6) zmy) zna)
end Go.Proofs.YtkpgfihopaokgaaGreatDoor
