/-
  Own text Fa of this claim: what functions of the given program compute, in plain Lean, and the proof; no condition.
-/
import Derived.Test.YtkpgfihopaokgaaGreatDoorChecked
import Derived.Test.YtkpgfihopaokgaaGreatDoorRows
import Derived.JoinedOf
import Derived.KernelRfl
namespace Go.Proofs.YtkpgfihopaokgaaGreatDoor
set_option maxRecDepth 100000
theorem qx {a b : Bool} (h1 : a = true) (h2 : b = true) : (a && b) = true := by rw [h1, h2]; rfl
theorem zef : (Rows.semtokensDiffIsMinimalRow.wf (OpenSpec.ofChange Rows.semtokensDiffIsMinimalSpec)) = true := by kernel_rfl
theorem zei : (laidOutB Tryz.prog) = true := by kernel_rfl
theorem zeu : (mapsRowed Tryz.prog) = true := by kernel_rfl
theorem zee : (Tryz.f4.params.all (Tryz.prog.readableRec ·)) = true := by kernel_rfl
theorem zeg : (namedTie Tryz.prog Rows.semtokensDiffIsMinimalRow.named Rows.semtokensDiffIsMinimalSpec.vars) = true := by kernel_rfl
theorem zdx : ((Rows.semtokensDiffIsMinimalRow.stops == [])) = true := by kernel_rfl
theorem zeh : ((Tryz.prog.stops == [])) = true := by kernel_rfl
theorem zej : ((Rows.semtokensDiffIsMinimalRow.knobs == [])) = true := by kernel_rfl
theorem zek : ((Tryz.prog.stopKnobs == [])) = true := by kernel_rfl
theorem ze0 : ((Rows.semtokensDiffIsMinimalRow.inPlace == Tryz.prog.inPlace 4)) = true := by kernel_rfl
theorem zde : ((Rows.semtokensDiffIsMinimalRow.unfollowed == Tryz.prog.unfollowed 4)) = true := by kernel_rfl
theorem zcg : ((Rows.semtokensDiffIsMinimalRow.recurses == Tryz.prog.recurses 4)) = true := by kernel_rfl
theorem zcc : ((Rows.semtokensDiffIsMinimalRow.named == Tryz.prog.varsNamed 4)) = true := by kernel_rfl
theorem zc6 : ((Rows.semtokensDiffIsMinimalRow.maps == (Tryz.f4.params.toList ++ Rows.semtokensDiffIsMinimalSpec.plain.varTypes Tryz.prog).any (Tryz.prog.mapsRec ·))) = true := by kernel_rfl
theorem zcz : ((Rows.semtokensDiffIsMinimalRow.ifaces == (Tryz.f4.params.toList ++ Rows.semtokensDiffIsMinimalSpec.plain.varTypes Tryz.prog).any (Tryz.prog.ifacesRec ·))) = true := by kernel_rfl
theorem zd2 : ((Rows.semtokensDiffIsMinimalRow.mapsOut == Tryz.prog.mapsAmong Tryz.f4.resultTypes.toList)) = true := by kernel_rfl
theorem zc8 : ((Rows.semtokensDiffIsMinimalRow.loops == (Tryz.f4.params.toList ++ Rows.semtokensDiffIsMinimalSpec.plain.varTypes Tryz.prog).any (Tryz.prog.loopsFrom ·))) = true := by kernel_rfl
theorem zc5 : ((Rows.semtokensDiffIsMinimalRow.wideKeys == (Tryz.f4.params.toList ++ Rows.semtokensDiffIsMinimalSpec.plain.varTypes Tryz.prog ++ Tryz.f4.resultTypes.toList).any (Tryz.prog.wideKeysFrom ·))) = true := by kernel_rfl
theorem zbu : (Rows.semtokensDiffIsMinimalSpec.vars.all (Tryz.prog.varReadable ·)) = true := by kernel_rfl
theorem zco : (Tryz.f4.resultTypes.all (fun t => Tryz.prog.readableRec t && decide (t < Tryz.prog.types.size))) = true := by kernel_rfl
theorem zdb : ((Rows.semtokensDiffIsMinimalRow.ifacesOut == Tryz.f4.resultTypes.toList.any (Tryz.prog.ifacesRec ·))) = true := by kernel_rfl
theorem zd4 : ((Rows.semtokensDiffIsMinimalRow.loopsOut == Tryz.f4.resultTypes.toList.any (Tryz.prog.loopsFrom ·))) = true := by kernel_rfl
theorem zce : ((Rows.semtokensDiffIsMinimalRow.plainKeys == Tryz.prog.plainKeys)) = true := by kernel_rfl
theorem zdl : (Rows.semtokensDiffIsMinimalRow.shortTexts.isNone) = true := by kernel_rfl
theorem zcv : (Tryz.prog.stopsHeard) = true := by kernel_rfl
theorem zca : (Tryz.prog.mayEnter) = true := by kernel_rfl
theorem zbx : ((Rows.semtokensDiffIsMinimalRow.lifted == Tryz.prog.liftsFinal)) = true := by kernel_rfl
theorem zbo : ((Tryz.prog.make == some Rows.semtokensDiffIsMinimalRow.make)) = true := by kernel_rfl
theorem zck : ((Rows.semtokensDiffIsMinimalRow.kinds == (if Rows.semtokensDiffIsMinimalRow.domain.isEmpty then [] else Tryz.f4.params.toList.map fun t => match Tryz.prog.underlying t with | some (.int k) => some k | _ => none))) = true := by kernel_rfl
theorem zc1 : ((Rows.semtokensDiffIsMinimalRow.pinned == Rows.semtokensDiffIsMinimalRow.pinnedBy)) = true := by kernel_rfl
theorem zd7 : ((Rows.semtokensDiffIsMinimalRow.veiled == (Tryz.f4.params.toList ++ Rows.semtokensDiffIsMinimalSpec.plain.varTypes Tryz.prog ++ Tryz.f4.resultTypes.toList).any (Tryz.prog.veiledRec ·))) = true := by kernel_rfl
theorem zbq : (Rows.semtokensDiffIsMinimalRow.veiledFits Tryz.prog Tryz.f4.params.toList (Tryz.f4.params.toList ++ Rows.semtokensDiffIsMinimalSpec.plain.varTypes Tryz.prog ++ Tryz.f4.resultTypes.toList)) = true := by kernel_rfl
theorem zc2 : joinedFacts Tryz.prog 4 Tryz.f4 Rows.semtokensDiffIsMinimalSpec Rows.semtokensDiffIsMinimalRow = true := (qx (qx (qx (qx (qx (qx (qx (qx (qx (qx (qx (qx (qx (qx (qx (qx (qx (qx (qx (qx (qx (qx (qx (qx (qx (qx (qx (qx (qx (qx (qx zef zei) zeu) zee) zeg) zdx) zeh) zej) zek) ze0) zde) zcg) zcc) zc6) zcz) zd2) zc8) zc5) zbu) zco) zdb) zd4) zce) zdl) zcv) zca) zbx) zbo) zck) zc1) zd7) zbq)
end Go.Proofs.YtkpgfihopaokgaaGreatDoor
