/-
  Own text Cl of this claim: what functions of the given program compute, in plain Lean, and the proof; no condition.
-/
import Derived.Test.YtobkgelkaljjeaaLaw4
import Derived.Test.YtobkgelkaljjeaaFxU
import Derived.Test.YtobkgelkaljjeaaRows
import Derived.WalkKit
import Derived.ProofKit
import Derived.OpenShut
import Derived.SizedLaws
namespace Go.Proofs.Ytobkgelkaljjeaa
open Go.ChangeShapes Go.WideShapes Go.ChangeAt Go.RowKit Go.Fx
set_option linter.unusedVariables false
theorem own : ownKnob Try.prog.godebug = none := by kernel_rfl
theorem laidOut : laidOutB Try.prog = true := by kernel_rfl
theorem c9 : Try.prog.cellsOf 9 = 1 := by kernel_rfl
theorem c5 : Try.prog.cellsOf 5 = 1 := by kernel_rfl


set_option maxRecDepth 20000 in
theorem lifted (os : Os) (started : os.Started) (H : Type) (enc : TypeId × Value → H) :
    ReturnsInHanded Rows.fuzzyScoreEqualsReferenceRow.assume Try.checked os 3 .any (Rows.fuzzyScoreEqualsReferenceSpec.pre6 enc Try.prog Try.f3 Rows.fuzzyScoreEqualsReferenceRow.domain false) (Rows.fuzzyScoreEqualsReferenceSpec.post enc Try.prog Try.f3 false true false false) := by
  refine returnsInHanded_of_change_sized (C := Try.checked) own started (by kernel_rfl) Try.func3
    (ChangeSpec.witness6 (enc := enc) (C := Try.checked) false ⟨#[], #[.string ⟨#[]⟩, .string ⟨#[]⟩, .int .u8 0, .int .u8 0], []⟩ 8 (by kernel_rfl) (by kernel_rfl) (by kernel_rfl) (by kernel_rfl)) ?_
  intro W base args ds gs before hval hW _ hsz _
  refine law_contract (s := Rows.fuzzyScoreEqualsReferenceSpec) (tb := 4) laidOut [9, 9, 5, 5] (by rw [Try.params3]) rfl rfl Try.underlying4 (by kernel_rfl)
    (RVs.cons (RV.string Try.underlying9 c9) (RVs.cons (RV.string Try.underlying9 c9) (RVs.cons (RV.int Try.underlying5 c5) (RVs.cons (RV.int Try.underlying5 c5) RVs.nil)))) ?_ ?_ hval hW hsz
  · rintro ⟨a0, a1, a2, a3, _⟩ ⟨h0, h1, h2, h3, _⟩
    exact f3_ok (lawS ⟨h0, h1, h2, h3⟩)
  · intro ds hlen
    match ds, hlen with
    | [_, _, _, _], _ => exact ⟨rfl, rfl, rfl⟩
theorem holds : Rows.FuzzyScoreEqualsReferenceSaid :=
  OpenClaim.holds_of_wide 3 Try.f3 rfl rfl rfl rfl rfl rfl rfl ⟨rfl, rfl, rfl, rfl, rfl⟩ rfl rfl rfl rfl rfl (by kernel_rfl) Try.func3 (by kernel_rfl)
    (of_decide_eq_true (by kernel_rfl)) (by unfold Func.isWrapper; first | (rw [if_pos (by decide +kernel)]; kernel_rfl) | (rw [if_neg (by decide +kernel)]; exact ⟨rfl, rfl⟩))
    (fun os started H enc _ => lifted os started H enc)
end Go.Proofs.Ytobkgelkaljjeaa
