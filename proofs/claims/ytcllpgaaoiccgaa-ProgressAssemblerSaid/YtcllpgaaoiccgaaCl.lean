/-
  Own text Cl of this claim: what functions of the given program compute, in plain Lean, and the proof; no condition.
-/
import Derived.Test.YtcllpgaaoiccgaaLaw6
import Derived.Test.YtcllpgaaoiccgaaFxU
import Derived.Test.YtcllpgaaoiccgaaRows
import Derived.WalkKit
import Derived.ProofKit
import Derived.OpenShut
import Derived.SizedLaws
namespace Go.Proofs.Ytcllpgaaoiccgaa
open Go.ChangeShapes Go.WideShapes Go.ChangeAt Go.RowKit Go.Fx
set_option linter.unusedVariables false
theorem own : ownKnob Try.prog.godebug = none := by kernel_rfl
theorem laidOut : laidOutB Try.prog = true := by kernel_rfl
theorem c3 : Try.prog.cellsOf 3 = 1 := by kernel_rfl
theorem c4 : Try.prog.cellsOf 4 = 1 := by kernel_rfl
theorem c22 : Try.prog.cellsOf 22 = 1 := by kernel_rfl
theorem c38 : Try.prog.cellsOf 38 = 4 := by kernel_rfl
theorem c24 : Try.prog.cellsOf 24 = 1 := by kernel_rfl
theorem b3 : Try.prog.bytesOf 3 = 8 := by kernel_rfl
theorem b38 : Try.prog.bytesOf 38 = 48 := by kernel_rfl
theorem ra3 : RA Try.prog 3 Int (fun (x : Int) => [.int .i64 x]) ok_i64 := RA.map (RA.int Try.underlying3 c3) (fun x => x) (fun _ => rfl) (fun y => ⟨y, rfl⟩) (fun _ h => h)
theorem ra4 : RA Try.prog 4 Bool (fun (x : Bool) => [.bool x]) ok_bool := RA.map (RA.bool Try.underlying4 c4) (fun x => x) (fun _ => rfl) (fun y => ⟨y, rfl⟩) (fun _ h => h)
theorem ra22 : RA Try.prog 22 (List Int) (fun (x : List Int) => [.isl 1 (x.map e_i64) false]) ok_sl_i64 := by
  have h := RA.slice (P := Try.prog) Try.underlying22 c22 (by rw [c3]; decide) ra3
  rw [c3, b3] at h
  exact RA.map h (fun x => x) (fun _ => rfl) (fun y => ⟨y, rfl⟩) (fun _ h => h)
theorem ra38 : RA Try.prog 38 G_QChunk (fun (x : G_QChunk) => [.int .i64 x.f_Token, .int .i64 x.f_Seq, .bool x.f_Last, .isl 1 (x.f_Items.map e_i64) false]) ok_QChunk := by
  refine RA.map (RA.structN Try.underlying38 c38 (RF.cons (P := Try.prog) (off := 0) (tot := 3) (m := 1) rfl c3 ra3 (RF.cons (P := Try.prog) (off := 1) (tot := 2) (m := 1) rfl c3 ra3 (RF.cons (P := Try.prog) (off := 2) (tot := 1) (m := 1) rfl c4 ra4 (RF.cons (P := Try.prog) (off := 3) (tot := 0) (m := 1) rfl c22 ra22 (RF.nil (P := Try.prog) 4)))))) (fun x => (⟨x.1, x.2.1, x.2.2.1, x.2.2.2.1⟩ : G_QChunk)) (fun _ => rfl) (fun y => ⟨(y.f_Token, y.f_Seq, y.f_Last, y.f_Items, ()), rfl⟩) (fun x h => ⟨h.1, h.2.1, h.2.2.1, h.2.2.2.1⟩)
set_option maxRecDepth 20000 in
theorem rv24 : RV Try.prog 24 (List G_QChunk) (fun l => .isl 4 (l.map e_QChunk) false) ok_sl_QChunk := by
  intro H enc w v d ps base hv hd hw
  obtain ⟨x, h1, h2⟩ := RV.slice (P := Try.prog) Try.underlying24 c24 (by rw [c38]; decide) ra38 hv hd hw
  rw [c38] at h2
  rw [b38] at h1
  exact ⟨x, h1, h2⟩
set_option maxRecDepth 20000 in
theorem lifted (os : Os) (started : os.Started) (H : Type) (enc : TypeId × Value → H) :
    ReturnsInHanded Rows.progressAssemblerRow.assume Try.checked os 4 .any (Rows.progressAssemblerSpec.pre6 enc Try.prog Try.f4 Rows.progressAssemblerRow.domain false) (Rows.progressAssemblerSpec.post enc Try.prog Try.f4 false true false false) := by
  refine returnsInHanded_of_change_sized (C := Try.checked) own started (by kernel_rfl) Try.func4
    (ChangeSpec.witness6 (enc := enc) (C := Try.checked) false ⟨#[], #[.slice none 0 0, .int .i64 0], []⟩ 8 (by kernel_rfl) (by kernel_rfl) (by kernel_rfl) (by kernel_rfl)) ?_
  intro W base args ds gs before hval hW _ hsz _
  refine law_contract (s := Rows.progressAssemblerSpec) (tb := 4) laidOut [24, 3] (by rw [Try.params4]) rfl rfl Try.underlying4 (by kernel_rfl)
    (RVs.cons rv24 (RVs.cons (RV.int Try.underlying3 c3) RVs.nil)) ?_ ?_ hval hW hsz
  · rintro ⟨a0, a1, _⟩ ⟨h0, h1, _⟩
    exact f4_ok (lawA ⟨h0, h1⟩)
  · intro ds hlen
    match ds, hlen with
    | [_, _], _ => exact ⟨rfl, rfl, rfl⟩
theorem holds : Rows.ProgressAssemblerSaid :=
  OpenClaim.holds_of_wide 4 Try.f4 rfl rfl rfl rfl rfl rfl rfl ⟨rfl, rfl, rfl, rfl, rfl⟩ rfl rfl rfl rfl rfl (by kernel_rfl) Try.func4 (by kernel_rfl)
    (of_decide_eq_true (by kernel_rfl)) (by unfold Func.isWrapper; first | (rw [if_pos (by decide +kernel)]; kernel_rfl) | (rw [if_neg (by decide +kernel)]; exact ⟨rfl, rfl⟩))
    (fun os started H enc _ => lifted os started H enc)
end Go.Proofs.Ytcllpgaaoiccgaa
