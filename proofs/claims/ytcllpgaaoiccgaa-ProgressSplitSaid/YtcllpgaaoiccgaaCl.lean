/-
  Own text Cl of this claim: what functions of the given program compute, in plain Lean, and the proof; no condition.
-/
import Derived.Test.YtcllpgaaoiccgaaLaw4
import Derived.Test.YtcllpgaaoiccgaaFxU
import Derived.Test.YtcllpgaaoiccgaaRows
import Derived.WalkKit
import Derived.ProofKit
import Derived.OpenShut
import Derived.SizedLaws
namespace Go.Proofs.Ytcllpgaaoiccgaa
open Go.ChangeShapes Go.WideShapes Go.ChangeAt Go.RowKit Go.Fx
set_option linter.unusedVariables false
theorem own : ownKnob Try.prog.godebug = none := by kernel_rfl
theorem laidOut : laidOutB Try.prog = true := by kernel_rfl
theorem c3 : Try.prog.cellsOf 3 = 1 := by kernel_rfl
theorem c22 : Try.prog.cellsOf 22 = 1 := by kernel_rfl
theorem b3 : Try.prog.bytesOf 3 = 8 := by kernel_rfl
theorem ra3 : RA Try.prog 3 Int (fun (x : Int) => [.int .i64 x]) ok_i64 := RA.map (RA.int Try.underlying3 c3) (fun x => x) (fun _ => rfl) (fun y => ⟨y, rfl⟩) (fun _ h => h)
theorem rv22 : RV Try.prog 22 (List Int) (fun l => .isl 1 (l.map e_i64) false) ok_sl_i64 := by
  intro H enc w v d ps base hv hd hw
  obtain ⟨x, h1, h2⟩ := RV.slice (P := Try.prog) Try.underlying22 c22 (by rw [c3]; decide) ra3 hv hd hw
  rw [c3] at h2
  rw [b3] at h1
  exact ⟨x, h1, h2⟩
theorem lifted (os : Os) (started : os.Started) (H : Type) (enc : TypeId × Value → H) :
    ReturnsInHanded Rows.progressSplitRow.assume Try.checked os 3 .any (Rows.progressSplitSpec.pre6 enc Try.prog Try.f3 Rows.progressSplitRow.domain false) (Rows.progressSplitSpec.post enc Try.prog Try.f3 false true false false) := by
  refine returnsInHanded_of_change_sized (C := Try.checked) own started (by kernel_rfl) Try.func3
    (ChangeSpec.witness6 (enc := enc) (C := Try.checked) false ⟨#[], #[.int .i64 0, .slice none 0 0, .int .i64 0, .int .i64 0, .int .i64 0], []⟩ 8 (by kernel_rfl) (by kernel_rfl) (by kernel_rfl) (by kernel_rfl)) ?_
  intro W base args ds gs before hval hW _ hsz _
  refine law_contract (s := Rows.progressSplitSpec) (tb := 4) laidOut [3, 22, 3, 3, 3] (by rw [Try.params3]) rfl rfl Try.underlying4 (by kernel_rfl)
    (RVs.cons (RV.int Try.underlying3 c3) (RVs.cons rv22 (RVs.cons (RV.int Try.underlying3 c3) (RVs.cons (RV.int Try.underlying3 c3) (RVs.cons (RV.int Try.underlying3 c3) RVs.nil))))) ?_ ?_ hval hW hsz
  · rintro ⟨a0, a1, a2, a3, a4, _⟩ ⟨h0, h1, h2, h3, h4, _⟩
    exact f3_ok (lawP ⟨h0, h1, h2, h3, h4⟩)
  · intro ds hlen
    match ds, hlen with
    | [_, _, _, _, _], _ => exact ⟨rfl, rfl, rfl⟩
theorem holds : Rows.ProgressSplitSaid :=
  OpenClaim.holds_of_wide 3 Try.f3 rfl rfl rfl rfl rfl rfl rfl ⟨rfl, rfl, rfl, rfl, rfl⟩ rfl rfl rfl rfl rfl (by kernel_rfl) Try.func3 (by kernel_rfl)
    (of_decide_eq_true (by kernel_rfl)) (by unfold Func.isWrapper; first | (rw [if_pos (by decide +kernel)]; kernel_rfl) | (rw [if_neg (by decide +kernel)]; exact ⟨rfl, rfl⟩))
    (fun os started H enc _ => lifted os started H enc)
end Go.Proofs.Ytcllpgaaoiccgaa
