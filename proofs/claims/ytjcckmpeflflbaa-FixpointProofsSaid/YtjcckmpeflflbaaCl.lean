/-
  Own text Cl of this claim.
-/
import Derived.Test.YtjcckmpeflflbaaLawA
import Derived.Test.YtjcckmpeflflbaaFxU
import Derived.Test.YtjcckmpeflflbaaRows
import Derived.WalkKit
import Derived.ProofKit
import Derived.OpenShut
import Derived.SizedLaws
namespace Go.Proofs.Ytjcckmpeflflbaa
open Go.ChangeShapes Go.WideShapes Go.ChangeAt Go.RowKit Go.Fx
set_option linter.unusedVariables false
theorem own : ownKnob Try.prog.godebug = none := by kernel_rfl
theorem laidOut : laidOutB Try.prog = true := by kernel_rfl
theorem c3 : Try.prog.cellsOf 3 = 1 := by kernel_rfl
theorem c24 : Try.prog.cellsOf 24 = 1 := by kernel_rfl
theorem c45 : Try.prog.cellsOf 45 = 2 := by kernel_rfl
theorem c36 : Try.prog.cellsOf 36 = 1 := by kernel_rfl
theorem c22 : Try.prog.cellsOf 22 = 1 := by kernel_rfl
theorem c74 : Try.prog.cellsOf 74 = 3 := by kernel_rfl
theorem c53 : Try.prog.cellsOf 53 = 1 := by kernel_rfl
theorem b3 : Try.prog.bytesOf 3 = 8 := by kernel_rfl
theorem b45 : Try.prog.bytesOf 45 = 32 := by kernel_rfl
theorem b36 : Try.prog.bytesOf 36 = 24 := by kernel_rfl
theorem b74 : Try.prog.bytesOf 74 = 24 := by kernel_rfl
theorem ra3 : RA Try.prog 3 Int (fun (x : Int) => [.int .i64 x]) ok_i64 := RA.map (RA.int Try.underlying3 c3) (fun x => x) (fun _ => rfl) (fun y => ⟨y, rfl⟩) (fun _ h => h)
theorem ra24 : RA Try.prog 24 (List Int) (fun (x : List Int) => [.isl 1 (x.map e_i64) false]) ok_sl_i64 := by
  have h := RA.slice (P := Try.prog) Try.underlying24 c24 (by rw [c3]; decide) ra3
  rw [c3, b3] at h
  exact RA.map h (fun x => x) (fun _ => rfl) (fun y => ⟨y, rfl⟩) (fun _ h => h)
theorem ra45 : RA Try.prog 45 G_QRule (fun (x : G_QRule) => [.int .i64 x.f_Mask, .isl 1 (x.f_All.map e_i64) false]) ok_QRule := by
  refine RA.map (RA.structN Try.underlying45 c45 (RF.cons (P := Try.prog) (off := 0) (tot := 1) (m := 1) rfl c3 ra3 (RF.cons (P := Try.prog) (off := 1) (tot := 0) (m := 1) rfl c24 ra24 (RF.nil (P := Try.prog) 2)))) (fun x => (⟨x.1, x.2.1⟩ : G_QRule)) (fun _ => rfl) (fun y => ⟨(y.f_Mask, y.f_All, ()), rfl⟩) (fun x h => ⟨h.1, h.2.1⟩)
theorem ra36 : RA Try.prog 36 (List G_QRule) (fun (x : List G_QRule) => [.isl 2 (x.map e_QRule) false]) ok_sl_QRule := by
  have h := RA.slice (P := Try.prog) Try.underlying36 c36 (by rw [c45]; decide) ra45
  rw [c45, b45] at h
  exact RA.map h (fun x => x) (fun _ => rfl) (fun y => ⟨y, rfl⟩) (fun _ h => h)
theorem rv22 : RV Try.prog 22 (List (List G_QRule)) (fun l => .isl 1 (l.map eB) false) ok_sl_sl_QRule := by
  intro H enc w v d ps base hv hd hw
  obtain ⟨x, h1, h2⟩ := RV.slice (P := Try.prog) Try.underlying22 c22 (by rw [c36]; decide) ra36 hv hd hw
  rw [c36] at h2
  rw [b36] at h1
  exact ⟨x, h1, h2⟩
theorem ra74 : RA Try.prog 74 G_QDerivation (fun (x : G_QDerivation) => [.int .i64 x.f_Set, .int .i64 x.f_Rule, .int .i64 x.f_Element]) ok_QDerivation := by
  refine RA.map (RA.structN Try.underlying74 c74 (RF.cons (P := Try.prog) (off := 0) (tot := 2) (m := 1) rfl c3 ra3 (RF.cons (P := Try.prog) (off := 1) (tot := 1) (m := 1) rfl c3 ra3 (RF.cons (P := Try.prog) (off := 2) (tot := 0) (m := 1) rfl c3 ra3 (RF.nil (P := Try.prog) 3))))) (fun x => (⟨x.1, x.2.1, x.2.2.1⟩ : G_QDerivation)) (fun _ => rfl) (fun y => ⟨(y.f_Set, y.f_Rule, y.f_Element, ()), rfl⟩) (fun x h => ⟨h.1, h.2.1, h.2.2.1⟩)
theorem rv53 : RV Try.prog 53 (List G_QDerivation) (fun l => .isl 3 (l.map eD) false) ok_sl_QDerivation := by
  intro H enc w v d ps base hv hd hw
  obtain ⟨x, h1, h2⟩ := RV.slice (P := Try.prog) Try.underlying53 c53 (by rw [c74]; decide) ra74 hv hd hw
  rw [c74] at h2
  rw [b74] at h1
  exact ⟨x, h1, h2⟩
theorem lifted (os : Os) (started : os.Started) (H : Type) (enc : TypeId × Value → H) :
    ReturnsInHanded Rows.fixpointProofsRow.assume Try.checked os 5 .any (Rows.fixpointProofsSpec.pre6 enc Try.prog Try.f5 Rows.fixpointProofsRow.domain false) (Rows.fixpointProofsSpec.post enc Try.prog Try.f5 false true false false) := by
  refine returnsInHanded_of_change_sized (C := Try.checked) own started (by kernel_rfl) Try.func5
    (ChangeSpec.witness6 (enc := enc) (C := Try.checked) false ⟨#[], #[.slice none 0 0, .int .i64 0, .int .i64 0, .slice none 0 0], []⟩ 8 (by kernel_rfl) (by kernel_rfl) (by kernel_rfl) (by kernel_rfl)) ?_
  intro W base args ds gs before hval hW _ hsz _
  refine law_contract (s := Rows.fixpointProofsSpec) (tb := 4) laidOut [22, 3, 3, 53] (by rw [Try.params5]) rfl rfl Try.underlying4 (by kernel_rfl)
    (RVs.cons rv22 (RVs.cons (RV.int Try.underlying3 c3) (RVs.cons (RV.int Try.underlying3 c3) (RVs.cons rv53 RVs.nil)))) ?_ ?_ hval hW hsz
  · rintro ⟨a0, a1, a2, a3, _⟩ ⟨h0, h1, h2, h3, _⟩
    exact f5_ok (lawP ⟨h0, h1, h2, h3⟩)
  · intro ds hlen
    match ds, hlen with
    | [_, _, _, _], _ => exact ⟨rfl, rfl, rfl⟩
theorem holds : Rows.FixpointProofsSaid :=
  OpenClaim.holds_of_wide 5 Try.f5 rfl rfl rfl rfl rfl rfl rfl ⟨rfl, rfl, rfl, rfl, rfl⟩ rfl rfl rfl rfl rfl (by kernel_rfl) Try.func5 (by kernel_rfl)
    (of_decide_eq_true (by kernel_rfl)) (by unfold Func.isWrapper; first | (rw [if_pos (by decide +kernel)]; kernel_rfl) | (rw [if_neg (by decide +kernel)]; exact ⟨rfl, rfl⟩))
    (fun os started H enc _ => lifted os started H enc)
end Go.Proofs.Ytjcckmpeflflbaa
