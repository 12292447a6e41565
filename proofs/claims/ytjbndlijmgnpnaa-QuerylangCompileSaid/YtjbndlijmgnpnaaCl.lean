/-
  Own text Cl of this claim: what functions of the given program compute, in plain Lean, and the proof; no condition.
-/
import Derived.Test.YtjbndlijmgnpnaaLaw4
import Derived.Test.YtjbndlijmgnpnaaFxU
import Derived.Test.YtjbndlijmgnpnaaRows
import Derived.WalkKit
import Derived.ProofKit
import Derived.OpenShut
import Derived.SizedLaws
namespace Go.Proofs.Ytjbndlijmgnpnaa
open Go.ChangeShapes Go.WideShapes Go.ChangeAt Go.RowKit Go.Fx
set_option linter.unusedVariables false
theorem own : ownKnob Try.prog.godebug = none := by kernel_rfl
theorem laidOut : laidOutB Try.prog = true := by kernel_rfl
theorem c3 : Try.prog.cellsOf 3 = 1 := by kernel_rfl
theorem c57 : Try.prog.cellsOf 57 = 3 := by kernel_rfl
theorem c52 : Try.prog.cellsOf 52 = 1 := by kernel_rfl
theorem c22 : Try.prog.cellsOf 22 = 1 := by kernel_rfl
theorem c24 : Try.prog.cellsOf 24 = 2 := by kernel_rfl
theorem c40 : Try.prog.cellsOf 40 = 3 := by kernel_rfl
theorem c29 : Try.prog.cellsOf 29 = 1 := by kernel_rfl
theorem c9 : Try.prog.cellsOf 9 = 1 := by kernel_rfl
theorem c44 : Try.prog.cellsOf 44 = 2 := by kernel_rfl
theorem c42 : Try.prog.cellsOf 42 = 1 := by kernel_rfl
theorem b57 : Try.prog.bytesOf 57 = 24 := by kernel_rfl
theorem b52 : Try.prog.bytesOf 52 = 24 := by kernel_rfl
theorem b3 : Try.prog.bytesOf 3 = 8 := by kernel_rfl
theorem b44 : Try.prog.bytesOf 44 = 40 := by kernel_rfl
theorem ra3 : RA Try.prog 3 Int (fun (x : Int) => [.int .i64 x]) ok_i64 := RA.map (RA.int Try.underlying3 c3) (fun x => x) (fun _ => rfl) (fun y => ⟨y, rfl⟩) (fun _ h => h)
theorem ra57 : RA Try.prog 57 G_QOp (fun (x : G_QOp) => [.int .i64 x.f_Op, .int .i64 x.f_A, .int .i64 x.f_B]) ok_QOp := by
  refine RA.map (RA.structN Try.underlying57 c57 (RF.cons (P := Try.prog) (off := 0) (tot := 2) (m := 1) rfl c3 ra3 (RF.cons (P := Try.prog) (off := 1) (tot := 1) (m := 1) rfl c3 ra3 (RF.cons (P := Try.prog) (off := 2) (tot := 0) (m := 1) rfl c3 ra3 (RF.nil (P := Try.prog) 3))))) (fun x => (⟨x.1, x.2.1, x.2.2.1⟩ : G_QOp)) (fun _ => rfl) (fun y => ⟨(y.f_Op, y.f_A, y.f_B, ()), rfl⟩) (fun x h => ⟨h.1, h.2.1, h.2.2.1⟩)
theorem ra52 : RA Try.prog 52 (List G_QOp) (fun (x : List G_QOp) => [.isl 3 (x.map e_QOp) false]) ok_sl_QOp := by
  have h := RA.slice (P := Try.prog) Try.underlying52 c52 (by rw [c57]; decide) ra57
  rw [c57, b57] at h
  exact RA.map h (fun x => x) (fun _ => rfl) (fun y => ⟨y, rfl⟩) (fun _ h => h)
theorem ra22 : RA Try.prog 22 (List (List G_QOp)) (fun (x : List (List G_QOp)) => [.isl 1 (x.map e_sl_QOp) false]) ok_sl_sl_QOp := by
  have h := RA.slice (P := Try.prog) Try.underlying22 c22 (by rw [c52]; decide) ra52
  rw [c52, b52] at h
  exact RA.map h (fun x => x) (fun _ => rfl) (fun y => ⟨y, rfl⟩) (fun _ h => h)
theorem ra24 : RA Try.prog 24 G_QProgram (fun (x : G_QProgram) => [.int .i64 x.f_Inputs, .isl 1 (x.f_Queries.map e_sl_QOp) false]) ok_QProgram := by
  refine RA.map (RA.structN Try.underlying24 c24 (RF.cons (P := Try.prog) (off := 0) (tot := 1) (m := 1) rfl c3 ra3 (RF.cons (P := Try.prog) (off := 1) (tot := 0) (m := 1) rfl c22 ra22 (RF.nil (P := Try.prog) 2)))) (fun x => (⟨x.1, x.2.1⟩ : G_QProgram)) (fun _ => rfl) (fun y => ⟨(y.f_Inputs, y.f_Queries, ()), rfl⟩) (fun x h => ⟨h.1, h.2.1⟩)
theorem rv24 : RV Try.prog 24 G_QProgram (fun x => .agg [.int .i64 x.f_Inputs, .isl 1 (x.f_Queries.map e_sl_QOp) false]) ok_QProgram := RV.struct Try.underlying24 ra24
theorem ra40 : RA Try.prog 40 G_QKey (fun (x : G_QKey) => [.int .i64 x.f_Kind, .int .i64 x.f_A, .int .i64 x.f_B]) ok_QKey := by
  refine RA.map (RA.structN Try.underlying40 c40 (RF.cons (P := Try.prog) (off := 0) (tot := 2) (m := 1) rfl c3 ra3 (RF.cons (P := Try.prog) (off := 1) (tot := 1) (m := 1) rfl c3 ra3 (RF.cons (P := Try.prog) (off := 2) (tot := 0) (m := 1) rfl c3 ra3 (RF.nil (P := Try.prog) 3))))) (fun x => (⟨x.1, x.2.1, x.2.2.1⟩ : G_QKey)) (fun _ => rfl) (fun y => ⟨(y.f_Kind, y.f_A, y.f_B, ()), rfl⟩) (fun x h => ⟨h.1, h.2.1, h.2.2.1⟩)
theorem rv40 : RV Try.prog 40 G_QKey (fun x => .agg [.int .i64 x.f_Kind, .int .i64 x.f_A, .int .i64 x.f_B]) ok_QKey := RV.struct Try.underlying40 ra40
theorem ra29 : RA Try.prog 29 (List Int) (fun (x : List Int) => [.isl 1 (x.map e_i64) false]) ok_sl_i64 := by
  have h := RA.slice (P := Try.prog) Try.underlying29 c29 (by rw [c3]; decide) ra3
  rw [c3, b3] at h
  exact RA.map h (fun x => x) (fun _ => rfl) (fun y => ⟨y, rfl⟩) (fun _ h => h)
theorem ra9 : RA Try.prog 9 (List UInt8) (fun (x : List UInt8) => [.str x]) ok_str := RA.map (RA.string Try.underlying9 c9) (fun x => x) (fun _ => rfl) (fun y => ⟨y, rfl⟩) (fun _ h => h)
theorem ra44 : RA Try.prog 44 G_QValue (fun (x : G_QValue) => [.isl 1 (x.f_Nums.map e_i64) false, .str x.f_Text]) ok_QValue := by
  refine RA.map (RA.structN Try.underlying44 c44 (RF.cons (P := Try.prog) (off := 0) (tot := 1) (m := 1) rfl c29 ra29 (RF.cons (P := Try.prog) (off := 1) (tot := 0) (m := 1) rfl c9 ra9 (RF.nil (P := Try.prog) 2)))) (fun x => (⟨x.1, x.2.1⟩ : G_QValue)) (fun _ => rfl) (fun y => ⟨(y.f_Nums, y.f_Text, ()), rfl⟩) (fun x h => ⟨h.1, h.2.1⟩)
theorem rv42 : RV Try.prog 42 (List G_QValue) (fun l => .isl 2 (l.map e_QValue) false) ok_sl_QValue := by
  intro H enc w v d ps base hv hd hw
  obtain ⟨x, h1, h2⟩ := RV.slice (P := Try.prog) Try.underlying42 c42 (by rw [c44]; decide) ra44 hv hd hw
  rw [c44] at h2
  rw [b44] at h1
  exact ⟨x, h1, h2⟩
theorem lifted (os : Os) (started : os.Started) (H : Type) (enc : TypeId × Value → H) :
    ReturnsInHanded Rows.querylangCompileRow.assume Try.checked os 6 .any (Rows.querylangCompileSpec.pre6 enc Try.prog Try.f6 Rows.querylangCompileRow.domain false) (Rows.querylangCompileSpec.post enc Try.prog Try.f6 false true false false) := by
  refine returnsInHanded_of_change_sized (C := Try.checked) own started (by kernel_rfl) Try.func6
    (ChangeSpec.witness6 (enc := enc) (C := Try.checked) false ⟨#[], #[.agg #[.int .i64 0, .slice none 0 0], .agg #[.int .i64 0, .int .i64 0, .int .i64 0], .slice none 0 0], []⟩ 8 (by kernel_rfl) (by kernel_rfl) (by kernel_rfl) (by kernel_rfl)) ?_
  intro W base args ds gs before hval hW _ hsz _
  refine law_contract (s := Rows.querylangCompileSpec) (tb := 4) laidOut [24, 40, 42] (by rw [Try.params6]) rfl rfl Try.underlying4 (by kernel_rfl)
    (RVs.cons rv24 (RVs.cons rv40 (RVs.cons rv42 RVs.nil))) ?_ ?_ hval hW hsz
  · rintro ⟨a0, a1, a2, _⟩ ⟨h0, h1, h2, _⟩
    exact f6_ok (lawK ⟨h0, h1, h2⟩)
  · intro ds hlen
    match ds, hlen with
    | [_, _, _], _ => exact ⟨rfl, rfl, rfl⟩
theorem holds : Rows.QuerylangCompileSaid :=
  OpenClaim.holds_of_wide 6 Try.f6 rfl rfl rfl rfl rfl rfl rfl ⟨rfl, rfl, rfl, rfl, rfl⟩ rfl rfl rfl rfl rfl (by kernel_rfl) Try.func6 (by kernel_rfl)
    (of_decide_eq_true (by kernel_rfl)) (by unfold Func.isWrapper; first | (rw [if_pos (by decide +kernel)]; kernel_rfl) | (rw [if_neg (by decide +kernel)]; exact ⟨rfl, rfl⟩))
    (fun os started H enc _ => lifted os started H enc)
end Go.Proofs.Ytjbndlijmgnpnaa
