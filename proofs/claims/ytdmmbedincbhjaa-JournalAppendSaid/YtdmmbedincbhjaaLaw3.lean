/-
  Own text Law3 of this claim: what functions of the given program compute, in plain Lean, and the proof; no condition.
-/
import Derived.Test.YtdmmbedincbhjaaLaw2
import Derived.Test.YtdmmbedincbhjaaFxU
import Derived.Test.YtdmmbedincbhjaaRows
import Derived.WalkKit
import Derived.ProofKit
import Derived.OpenShut
import Derived.SizedLaws
namespace Go.Proofs.Ytdmmbedincbhjaa
open Go.ChangeShapes Go.WideShapes Go.ChangeAt Go.RowKit Go.Fx
set_option linter.unusedVariables false
theorem own : ownKnob Try.prog.godebug = none := by kernel_rfl
theorem laidOut : laidOutB Try.prog = true := by kernel_rfl
theorem c4 : Try.prog.cellsOf 4 = 1 := by kernel_rfl
theorem c9 : Try.prog.cellsOf 9 = 1 := by kernel_rfl
theorem c23 : Try.prog.cellsOf 23 = 3 := by kernel_rfl
theorem raRec : RA Try.prog 23 G_QRecord e_QRecord (fun _ => True) := by
  have r3 := RF.nil (P := Try.prog) 3
  have r2 := RF.cons (P := Try.prog) (f := { name := "Deleted", type := 4, offset := 2, embedded := false, tag := "", pkgPath := "", byteOffset := 32 }) (off := 2) (tot := 0) (m := 1) rfl c4 (RA.bool Try.underlying4 c4) r3
  have r1 := RF.cons (P := Try.prog) (f := { name := "Value", type := 9, offset := 1, embedded := false, tag := "", pkgPath := "", byteOffset := 16 }) (off := 1) (tot := 1) (m := 1) rfl c9 (RA.string Try.underlying9 c9) r2
  have r0 := RF.cons (P := Try.prog) (f := { name := "Key", type := 9, offset := 0, embedded := false, tag := "", pkgPath := "", byteOffset := 0 }) (off := 0) (tot := 2) (m := 1) rfl c9 (RA.string Try.underlying9 c9) r1
  exact RA.map (RA.structN Try.underlying23 c23 r0) (ok' := fun _ => True) (e' := e_QRecord) (fun x => (⟨x.1, x.2.1, x.2.2.1⟩ : G_QRecord)) (fun _ => rfl) (fun y => ⟨(y.f_Key, y.f_Value, y.f_Deleted, ()), rfl⟩) (fun x hx => trivial)
theorem lifted (os : Os) (started : os.Started) (H : Type) (enc : TypeId × Value → H) :
    ReturnsInHanded {} Try.checked os 3 .any (Rows.journalAppendSpec.pre6 enc Try.prog Try.f3 Rows.journalAppendRow.domain false) (Rows.journalAppendSpec.post enc Try.prog Try.f3 false true false false) := by
  refine returnsInHanded_of_change_sized (C := Try.checked) own started (by kernel_rfl) Try.func3
    (ChangeSpec.witness6 (enc := enc) (C := Try.checked) false ⟨#[], #[.string ⟨⟨[]⟩⟩, .agg #[.string ⟨⟨[]⟩⟩, .string ⟨⟨[]⟩⟩, .bool false]], []⟩ 8 (by kernel_rfl) (by kernel_rfl) (by kernel_rfl) (by kernel_rfl)) ?_
  intro W base args ds gs before hval hW _ hsz _
  refine law_contract (s := Rows.journalAppendSpec) (tb := 4) laidOut [9, 23] (by rw [Try.params3]) rfl rfl Try.underlying4 (by kernel_rfl)
    (RVs.cons (RV.string Try.underlying9 c9) (RVs.cons (RV.struct Try.underlying23 raRec) RVs.nil)) ?_ ?_ hval hW hsz
  · rintro ⟨l, r, _⟩ ⟨hl, _, _⟩
    exact f3_ok (law hl)
  · intro ds hlen
    match ds, hlen with
    | [_, _], _ => exact ⟨rfl, rfl, rfl⟩
theorem holds : Rows.JournalAppendSaid :=
  OpenClaim.holds_of_wide 3 Try.f3 rfl rfl rfl rfl rfl rfl rfl ⟨rfl, rfl, rfl, rfl, rfl⟩ rfl rfl rfl rfl rfl (by kernel_rfl) Try.func3 (by kernel_rfl)
    (of_decide_eq_true (by kernel_rfl)) (by unfold Func.isWrapper; first | (rw [if_pos (by decide +kernel)]; kernel_rfl) | (rw [if_neg (by decide +kernel)]; exact ⟨rfl, rfl⟩))
    (fun os started H enc _ => lifted os started H enc)
end Go.Proofs.Ytdmmbedincbhjaa
