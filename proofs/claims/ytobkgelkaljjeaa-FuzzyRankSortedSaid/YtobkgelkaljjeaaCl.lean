/-
  Own text Cl of this claim: what functions of the given program compute, in plain Lean, and the proof; no condition.
-/
import Derived.Test.YtobkgelkaljjeaaLaw7
import Derived.Test.YtobkgelkaljjeaaFxU
import Derived.Test.YtobkgelkaljjeaaRows
import Derived.WalkKit
import Derived.ProofKit
import Derived.OpenShut
import Derived.SizedLaws
namespace Go.Proofs.Ytobkgelkaljjeaa
open Go.ChangeShapes Go.WideShapes Go.ChangeAt Go.RowKit Go.Fx
set_option linter.unusedVariables false
theorem own : ownKnob Try.prog.godebug = none := by kernel_rfl
theorem laidOut : laidOutB Try.prog = true := by kernel_rfl
theorem c9 : Try.prog.cellsOf 9 = 1 := by kernel_rfl
theorem c29 : Try.prog.cellsOf 29 = 1 := by kernel_rfl
theorem b9 : Try.prog.bytesOf 9 = 16 := by kernel_rfl
theorem ra9 : RA Try.prog 9 (List UInt8) (fun (x : List UInt8) => [.str x]) ok_str := RA.map (RA.string Try.underlying9 c9) (fun x => x) (fun _ => rfl) (fun y => ⟨y, rfl⟩) (fun _ h => h)
set_option maxRecDepth 20000 in
theorem rv29 : RV Try.prog 29 (List (List UInt8)) (fun l => .isl 1 (l.map e_str) false) ok_sl_str := by
  intro H enc w v d ps base hv hd hw
  obtain ⟨x, h1, h2⟩ := RV.slice (P := Try.prog) Try.underlying29 c29 (by rw [c9]; decide) ra9 hv hd hw
  rw [c9] at h2
  rw [b9] at h1
  exact ⟨x, h1, h2⟩
set_option maxRecDepth 20000 in
theorem lifted (os : Os) (started : os.Started) (H : Type) (enc : TypeId × Value → H) :
    ReturnsInHanded Rows.fuzzyRankSortedRow.assume Try.checked os 4 .any (Rows.fuzzyRankSortedSpec.pre6 enc Try.prog Try.f4 Rows.fuzzyRankSortedRow.domain false) (Rows.fuzzyRankSortedSpec.post enc Try.prog Try.f4 false true false false) := by
  refine returnsInHanded_of_change_sized (C := Try.checked) own started (by kernel_rfl) Try.func4
    (ChangeSpec.witness6 (enc := enc) (C := Try.checked) false ⟨#[], #[.string ⟨#[]⟩, .slice none 0 0], []⟩ 8 (by kernel_rfl) (by kernel_rfl) (by kernel_rfl) (by kernel_rfl)) ?_
  intro W base args ds gs before hval hW _ hsz _
  refine law_contract (s := Rows.fuzzyRankSortedSpec) (tb := 4) laidOut [9, 29] (by rw [Try.params4]) rfl rfl Try.underlying4 (by kernel_rfl)
    (RVs.cons (RV.string Try.underlying9 c9) (RVs.cons rv29 RVs.nil)) ?_ ?_ hval hW hsz
  · rintro ⟨a0, a1, _⟩ ⟨h0, h1, _⟩
    exact f4_ok (lawR ⟨h0, h1⟩)
  · intro ds hlen
    match ds, hlen with
    | [_, _], _ => exact ⟨rfl, rfl, rfl⟩
theorem holds : Rows.FuzzyRankSortedSaid :=
  OpenClaim.holds_of_wide 4 Try.f4 rfl rfl rfl rfl rfl rfl rfl ⟨rfl, rfl, rfl, rfl, rfl⟩ rfl rfl rfl rfl rfl (by kernel_rfl) Try.func4 (by kernel_rfl)
    (of_decide_eq_true (by kernel_rfl)) (by unfold Func.isWrapper; first | (rw [if_pos (by decide +kernel)]; kernel_rfl) | (rw [if_neg (by decide +kernel)]; exact ⟨rfl, rfl⟩))
    (fun os started H enc _ => lifted os started H enc)
end Go.Proofs.Ytobkgelkaljjeaa
