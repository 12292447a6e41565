/-
  Own text Cl of this claim: what functions of the given program compute, in plain Lean, and the proof; no condition.
-/
import Derived.Test.YtmbihhbfdoabbaaLaw3
import Derived.Test.YtmbihhbfdoabbaaFxU
import Derived.Test.YtmbihhbfdoabbaaRows
import Derived.WalkKit
import Derived.ProofKit
import Derived.OpenShut
import Derived.SizedLaws
namespace Go.Proofs.Ytmbihhbfdoabbaa
open Go.ChangeShapes Go.WideShapes Go.ChangeAt Go.RowKit Go.Fx
set_option linter.unusedVariables false
theorem own : ownKnob Try.prog.godebug = none := by kernel_rfl
theorem laidOut : laidOutB Try.prog = true := by kernel_rfl
theorem c9 : Try.prog.cellsOf 9 = 1 := by kernel_rfl
theorem c4 : Try.prog.cellsOf 4 = 1 := by kernel_rfl
theorem c26 : Try.prog.cellsOf 26 = 3 := by kernel_rfl
theorem c22 : Try.prog.cellsOf 22 = 1 := by kernel_rfl
theorem b26 : Try.prog.bytesOf 26 = 40 := by kernel_rfl
theorem ra9 : RA Try.prog 9 (List UInt8) (fun (x : List UInt8) => [.str x]) ok_str := RA.map (RA.string Try.underlying9 c9) (fun x => x) (fun _ => rfl) (fun y => ⟨y, rfl⟩) (fun _ h => h)
theorem ra4 : RA Try.prog 4 Bool (fun (x : Bool) => [.bool x]) ok_bool := RA.map (RA.bool Try.underlying4 c4) (fun x => x) (fun _ => rfl) (fun y => ⟨y, rfl⟩) (fun _ h => h)
theorem ra26 : RA Try.prog 26 G_QRecord (fun (x : G_QRecord) => [.str x.f_Key, .str x.f_Value, .bool x.f_Deleted]) ok_QRecord := by
  refine RA.map (RA.structN Try.underlying26 c26 (RF.cons (P := Try.prog) (off := 0) (tot := 2) (m := 1) rfl c9 ra9 (RF.cons (P := Try.prog) (off := 1) (tot := 1) (m := 1) rfl c9 ra9 (RF.cons (P := Try.prog) (off := 2) (tot := 0) (m := 1) rfl c4 ra4 (RF.nil (P := Try.prog) 3))))) (fun x => (⟨x.1, x.2.1, x.2.2.1⟩ : G_QRecord)) (fun _ => rfl) (fun y => ⟨(y.f_Key, y.f_Value, y.f_Deleted, ()), rfl⟩) (fun x h => ⟨h.1, h.2.1, h.2.2.1⟩)
theorem rv22 : RV Try.prog 22 (List G_QRecord) (fun l => .isl 3 (l.map e_QRecord) false) ok_sl_QRecord := by
  intro H enc w v d ps base hv hd hw
  obtain ⟨x, h1, h2⟩ := RV.slice (P := Try.prog) Try.underlying22 c22 (by rw [c26]; decide) ra26 hv hd hw
  rw [c26] at h2
  rw [b26] at h1
  exact ⟨x, h1, h2⟩
theorem lifted (os : Os) (started : os.Started) (H : Type) (enc : TypeId × Value → H) :
    ReturnsInHanded Rows.journalStateRow.assume Try.checked os 3 .any (Rows.journalStateSpec.pre6 enc Try.prog Try.f3 Rows.journalStateRow.domain false) (Rows.journalStateSpec.post enc Try.prog Try.f3 false true false false) := by
  refine returnsInHanded_of_change_sized (C := Try.checked) own started (by kernel_rfl) Try.func3
    (ChangeSpec.witness6 (enc := enc) (C := Try.checked) false ⟨#[], #[.slice none 0 0], []⟩ 8 (by kernel_rfl) (by kernel_rfl) (by kernel_rfl) (by kernel_rfl)) ?_
  intro W base args ds gs before hval hW _ hsz _
  refine law_contract (s := Rows.journalStateSpec) (tb := 4) laidOut [22] (by rw [Try.params3]) rfl rfl Try.underlying4 (by kernel_rfl)
    (RVs.cons rv22 RVs.nil) ?_ ?_ hval hW hsz
  · rintro ⟨a0, _⟩ ⟨h0, _⟩
    exact f3_ok (lawS3 h0)
  · intro ds hlen
    match ds, hlen with
    | [_], _ => exact ⟨rfl, rfl, rfl⟩
theorem holds : Rows.JournalStateSaid :=
  OpenClaim.holds_of_wide 3 Try.f3 rfl rfl rfl rfl rfl rfl rfl ⟨rfl, rfl, rfl, rfl, rfl⟩ rfl rfl rfl rfl rfl (by kernel_rfl) Try.func3 (by kernel_rfl)
    (of_decide_eq_true (by kernel_rfl)) (by unfold Func.isWrapper; first | (rw [if_pos (by decide +kernel)]; kernel_rfl) | (rw [if_neg (by decide +kernel)]; exact ⟨rfl, rfl⟩))
    (fun os started H enc _ => lifted os started H enc)
end Go.Proofs.Ytmbihhbfdoabbaa
