/-
  Own text Cl of this claim: what functions of the given program compute, in plain Lean, and the proof; no condition.
-/
import Derived.Test.YteepckliibfnkaaLaw5
import Derived.Test.YteepckliibfnkaaFxU
import Derived.Test.YteepckliibfnkaaRows
import Derived.WalkKit
import Derived.ProofKit
import Derived.OpenShut
import Derived.SizedLaws
namespace Go.Proofs.Yteepckliibfnkaa
open Go.ChangeShapes Go.WideShapes Go.ChangeAt Go.RowKit Go.Fx
set_option linter.unusedVariables false
theorem own : ownKnob Try.prog.godebug = none := by kernel_rfl
theorem laidOut : laidOutB Try.prog = true := by kernel_rfl
theorem c9 : Try.prog.cellsOf 9 = 1 := by kernel_rfl
theorem c3 : Try.prog.cellsOf 3 = 1 := by kernel_rfl
theorem c46 : Try.prog.cellsOf 46 = 3 := by kernel_rfl
theorem c22 : Try.prog.cellsOf 22 = 1 := by kernel_rfl
theorem b46 : Try.prog.bytesOf 46 = 40 := by kernel_rfl
theorem ra9 : RA Try.prog 9 (List UInt8) (fun (x : List UInt8) => [.str x]) ok_str := RA.map (RA.string Try.underlying9 c9) (fun x => x) (fun _ => rfl) (fun y => ⟨y, rfl⟩) (fun _ h => h)
theorem ra3 : RA Try.prog 3 Int (fun (x : Int) => [.int .i64 x]) ok_i64 := RA.map (RA.int Try.underlying3 c3) (fun x => x) (fun _ => rfl) (fun y => ⟨y, rfl⟩) (fun _ h => h)
theorem ra46 : RA Try.prog 46 G_QDocument (fun (x : G_QDocument) => [.str x.f_Name, .int .i64 x.f_Version, .str x.f_Text]) ok_QDocument := by
  refine RA.map (RA.structN Try.underlying46 c46 (RF.cons (P := Try.prog) (off := 0) (tot := 2) (m := 1) rfl c9 ra9 (RF.cons (P := Try.prog) (off := 1) (tot := 1) (m := 1) rfl c3 ra3 (RF.cons (P := Try.prog) (off := 2) (tot := 0) (m := 1) rfl c9 ra9 (RF.nil (P := Try.prog) 3))))) (fun x => (⟨x.1, x.2.1, x.2.2.1⟩ : G_QDocument)) (fun _ => rfl) (fun y => ⟨(y.f_Name, y.f_Version, y.f_Text, ()), rfl⟩) (fun x h => ⟨h.1, h.2.1, h.2.2.1⟩)
set_option maxRecDepth 20000 in
theorem rv22 : RV Try.prog 22 (List G_QDocument) (fun l => .isl 3 (l.map e_QDocument) false) ok_sl_QDocument := by
  intro H enc w v d ps base hv hd hw
  obtain ⟨x, h1, h2⟩ := RV.slice (P := Try.prog) Try.underlying22 c22 (by rw [c46]; decide) ra46 hv hd hw
  rw [c46] at h2
  rw [b46] at h1
  exact ⟨x, h1, h2⟩
set_option maxRecDepth 20000 in
theorem lifted (os : Os) (started : os.Started) (H : Type) (enc : TypeId × Value → H) :
    ReturnsInHanded Rows.wordindexBuildRow.assume Try.checked os 3 .any (Rows.wordindexBuildSpec.pre6 enc Try.prog Try.f3 Rows.wordindexBuildRow.domain false) (Rows.wordindexBuildSpec.post enc Try.prog Try.f3 false true false false) := by
  refine returnsInHanded_of_change_sized (C := Try.checked) own started (by kernel_rfl) Try.func3
    (ChangeSpec.witness6 (enc := enc) (C := Try.checked) false ⟨#[], #[.slice none 0 0, .string ⟨#[]⟩], []⟩ 8 (by kernel_rfl) (by kernel_rfl) (by kernel_rfl) (by kernel_rfl)) ?_
  intro W base args ds gs before hval hW _ hsz _
  refine law_contract (s := Rows.wordindexBuildSpec) (tb := 4) laidOut [22, 9] (by rw [Try.params3]) rfl rfl Try.underlying4 (by kernel_rfl)
    (RVs.cons rv22 (RVs.cons (RV.string Try.underlying9 c9) RVs.nil)) ?_ ?_ hval hW hsz
  · rintro ⟨a0, a1, _⟩ ⟨h0, h1, _⟩
    exact f3_ok (lawB ⟨h0, h1⟩)
  · intro ds hlen
    match ds, hlen with
    | [_, _], _ => exact ⟨rfl, rfl, rfl⟩
theorem holds : Rows.WordindexBuildSaid :=
  OpenClaim.holds_of_wide 3 Try.f3 rfl rfl rfl rfl rfl rfl rfl ⟨rfl, rfl, rfl, rfl, rfl⟩ rfl rfl rfl rfl rfl (by kernel_rfl) Try.func3 (by kernel_rfl)
    (of_decide_eq_true (by kernel_rfl)) (by unfold Func.isWrapper; first | (rw [if_pos (by decide +kernel)]; kernel_rfl) | (rw [if_neg (by decide +kernel)]; exact ⟨rfl, rfl⟩))
    (fun os started H enc _ => lifted os started H enc)
end Go.Proofs.Yteepckliibfnkaa
