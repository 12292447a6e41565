/-
  Own text ClR of this claim: what functions of the given program compute, in plain Lean, and the proof; no condition.
-/
import Derived.Test.YtmbihhbfdoabbaaLaw8
import Derived.Test.YtmbihhbfdoabbaaFxU
import Derived.Test.YtmbihhbfdoabbaaRows
import Derived.WalkKit
import Derived.ProofKit
import Derived.OpenShut
import Derived.SizedLaws
namespace Go.Proofs.Ytmbihhbfdoabbaa
open Go.ChangeShapes Go.WideShapes Go.ChangeAt Go.RowKit Go.Fx
set_option linter.unusedVariables false
theorem own : ownKnob Try.prog.godebug = none := by kernel_rfl
theorem laidOut : laidOutB Try.prog = true := by kernel_rfl
theorem c9 : Try.prog.cellsOf 9 = 1 := by kernel_rfl


theorem lifted (os : Os) (started : os.Started) (H : Type) (enc : TypeId × Value → H) :
    ReturnsInHanded Rows.journalReadRow.assume Try.checked os 4 .any (Rows.journalReadSpec.pre6 enc Try.prog Try.f4 Rows.journalReadRow.domain false) (Rows.journalReadSpec.post enc Try.prog Try.f4 false true false false) := by
  refine returnsInHanded_of_change_sized (C := Try.checked) own started (by kernel_rfl) Try.func4
    (ChangeSpec.witness6 (enc := enc) (C := Try.checked) false ⟨#[], #[.string ⟨#[]⟩], []⟩ 8 (by kernel_rfl) (by kernel_rfl) (by kernel_rfl) (by kernel_rfl)) ?_
  intro W base args ds gs before hval hW _ hsz _
  refine law_contract (s := Rows.journalReadSpec) (tb := 4) laidOut [9] (by rw [Try.params4]) rfl rfl Try.underlying4 (by kernel_rfl)
    (RVs.cons (RV.string Try.underlying9 c9) RVs.nil) ?_ ?_ hval hW hsz
  · rintro ⟨a0, _⟩ ⟨h0, _⟩
    exact f4_ok (lawR4 h0)
  · intro ds hlen
    match ds, hlen with
    | [_], _ => exact ⟨rfl, rfl, rfl⟩
theorem holds : Rows.JournalReadSaid :=
  OpenClaim.holds_of_wide 4 Try.f4 rfl rfl rfl rfl rfl rfl rfl ⟨rfl, rfl, rfl, rfl, rfl⟩ rfl rfl rfl rfl rfl (by kernel_rfl) Try.func4 (by kernel_rfl)
    (of_decide_eq_true (by kernel_rfl)) (by unfold Func.isWrapper; first | (rw [if_pos (by decide +kernel)]; kernel_rfl) | (rw [if_neg (by decide +kernel)]; exact ⟨rfl, rfl⟩))
    (fun os started H enc _ => lifted os started H enc)
end Go.Proofs.Ytmbihhbfdoabbaa
