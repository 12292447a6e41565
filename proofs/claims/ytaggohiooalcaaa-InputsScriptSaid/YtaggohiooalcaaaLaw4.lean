/-
  Own text Law4 of this claim: what functions of the given program compute, in plain Lean, and the proof; no condition.
-/
import Derived.Test.YtaggohiooalcaaaLaw3
import Derived.Test.YtaggohiooalcaaaFxU
import Derived.Test.YtaggohiooalcaaaRows
import Derived.WalkKit
import Derived.ProofKit
import Derived.OpenShut
import Derived.SizedLaws
namespace Go.Proofs.Ytaggohiooalcaaa
open Go.ChangeShapes Go.WideShapes Go.ChangeAt Go.RowKit Go.Fx
set_option linter.unusedVariables false
theorem own : ownKnob Try.prog.godebug = none := by kernel_rfl
theorem laidOut : laidOutB Try.prog = true := by kernel_rfl
theorem c3 : Try.prog.cellsOf 3 = 1 := by kernel_rfl
theorem c9 : Try.prog.cellsOf 9 = 1 := by kernel_rfl
theorem c22 : Try.prog.cellsOf 22 = 1 := by kernel_rfl
theorem c23 : Try.prog.cellsOf 23 = 1 := by kernel_rfl
theorem c24 : Try.prog.cellsOf 24 = 1 := by kernel_rfl
theorem c34 : Try.prog.cellsOf 34 = 3 := by kernel_rfl
theorem c36 : Try.prog.cellsOf 36 = 2 := by kernel_rfl
theorem raInt : RA Try.prog 3 Int e_i64 (fun _ => True) := RA.map (RA.int Try.underlying3 c3) (fun x => x) (fun _ => rfl) (fun y => ⟨y, rfl⟩) (fun _ _ => trivial)
theorem raKey : RA Try.prog 34 G_QKey e_QKey (fun _ => True) := by
  have r3 := RF.nil (P := Try.prog) 3
  have r2 := RF.cons (P := Try.prog) (f := { name := "B", type := 3, offset := 2, embedded := false, tag := "", pkgPath := "", byteOffset := 16 }) (off := 2) (tot := 0) (m := 1) rfl c3 (RA.int Try.underlying3 c3) r3
  have r1 := RF.cons (P := Try.prog) (f := { name := "A", type := 3, offset := 1, embedded := false, tag := "", pkgPath := "", byteOffset := 8 }) (off := 1) (tot := 1) (m := 1) rfl c3 (RA.int Try.underlying3 c3) r2
  have r0 := RF.cons (P := Try.prog) (f := { name := "Kind", type := 3, offset := 0, embedded := false, tag := "", pkgPath := "", byteOffset := 0 }) (off := 0) (tot := 2) (m := 1) rfl c3 (RA.int Try.underlying3 c3) r1
  exact RA.map (RA.structN Try.underlying34 c34 r0) (ok' := fun _ => True) (e' := e_QKey) (fun x => (⟨x.1, x.2.1, x.2.2.1⟩ : G_QKey)) (fun _ => rfl) (fun y => ⟨(y.f_Kind, y.f_A, y.f_B, ()), rfl⟩) (fun x hx => trivial)
theorem b3 : Try.prog.bytesOf 3 = 8 := by kernel_rfl
theorem reach_le : reachBytes ≤ 140737488355328 := by decide
theorem raNums : RA Try.prog 24 (List Int) (fun l => [.isl 1 (l.map e_i64) false]) (fun l => l.length * 8 ≤ 140737488355328) := by
  have h := RA.slice (P := Try.prog) Try.underlying24 c24 (by rw [c3]; decide) raInt
  rw [c3, b3] at h
  exact RA.map h (fun x => x) (fun _ => rfl) (fun y => ⟨y, rfl⟩) (fun x hx => Nat.le_trans hx.2.1 reach_le)
theorem raVal : RA Try.prog 36 G_QValue e_QValue okV := by
  have r2 := RF.nil (P := Try.prog) 2
  have r1 := RF.cons (P := Try.prog) (f := { name := "Text", type := 9, offset := 1, embedded := false, tag := "", pkgPath := "", byteOffset := 24 }) (off := 1) (tot := 0) (m := 1) rfl c9 (RA.string Try.underlying9 c9) r2
  have r0 := RF.cons (P := Try.prog) (f := { name := "Nums", type := 24, offset := 0, embedded := false, tag := "", pkgPath := "", byteOffset := 0 }) (off := 0) (tot := 1) (m := 1) rfl c24 raNums r1
  exact RA.map (RA.structN Try.underlying36 c36 r0) (ok' := okV) (e' := e_QValue) (fun x => (⟨x.1, x.2.1⟩ : G_QValue)) (fun _ => rfl) (fun y => ⟨(y.f_Nums, y.f_Text, ()), rfl⟩) (fun x hx => hx.1)
theorem rvKeys : RV Try.prog 22 (List G_QKey) (fun l => .isl 3 (l.map e_QKey) false) (fun _ => True) := by
  intro H enc w v d ps base hv hd hw
  obtain ⟨x, _, h2⟩ := RV.slice (P := Try.prog) Try.underlying22 c22 (by rw [c34]; decide) raKey hv hd hw
  rw [c34] at h2
  exact ⟨x, trivial, h2⟩
theorem rvVals : RV Try.prog 23 (List G_QValue) (fun l => .isl 2 (l.map e_QValue) false) (fun l => ∀ v ∈ l, okV v) := by
  intro H enc w v d ps base hv hd hw
  obtain ⟨x, h1, h2⟩ := RV.slice (P := Try.prog) Try.underlying23 c23 (by rw [c36]; decide) raVal hv hd hw
  rw [c36] at h2
  exact ⟨x, h1.2.2, h2⟩
theorem rvInts : RV Try.prog 24 (List Int) (fun l => .isl 1 (l.map e_i64) false) (fun _ => True) := by
  intro H enc w v d ps base hv hd hw
  obtain ⟨x, _, h2⟩ := RV.slice (P := Try.prog) Try.underlying24 c24 (by rw [c3]; decide) raInt hv hd hw
  rw [c3] at h2
  exact ⟨x, trivial, h2⟩
theorem lifted (os : Os) (started : os.Started) (H : Type) (enc : TypeId × Value → H) :
    ReturnsInHanded {} Try.checked os 3 .any (Rows.inputsScriptSpec.pre6 enc Try.prog Try.f3 Rows.inputsScriptRow.domain false) (Rows.inputsScriptSpec.post enc Try.prog Try.f3 false true false false) := by
  refine returnsInHanded_of_change_sized (C := Try.checked) own started (by kernel_rfl) Try.func3
    (ChangeSpec.witness6 (enc := enc) (C := Try.checked) false ⟨#[], #[.slice none 0 0, .slice none 0 0, .slice none 0 0, .int .i64 0], []⟩ 8 (by kernel_rfl) (by kernel_rfl) (by kernel_rfl) (by kernel_rfl)) ?_
  intro W base args ds gs before hval hW _ hsz _
  refine law_contract (s := Rows.inputsScriptSpec) (tb := 4) laidOut [22, 23, 24, 3] (by rw [Try.params3]) rfl rfl Try.underlying4 (by kernel_rfl)
    (RVs.cons rvKeys (RVs.cons rvVals (RVs.cons rvInts (RVs.cons (RV.int Try.underlying3 c3) RVs.nil)))) ?_ ?_ hval hW hsz
  · rintro ⟨a0, a1, a2, a3, _⟩ ⟨_, h, _⟩
    exact f3_ok (law h)
  · intro ds hlen
    match ds, hlen with
    | [_, _, _, _], _ => exact ⟨rfl, rfl, rfl⟩
theorem holds : Rows.InputsScriptSaid :=
  OpenClaim.holds_of_wide 3 Try.f3 rfl rfl rfl rfl rfl rfl rfl ⟨rfl, rfl, rfl, rfl, rfl⟩ rfl rfl rfl rfl rfl (by kernel_rfl) Try.func3 (by kernel_rfl)
    (of_decide_eq_true (by kernel_rfl)) (by unfold Func.isWrapper; first | (rw [if_pos (by decide +kernel)]; kernel_rfl) | (rw [if_neg (by decide +kernel)]; exact ⟨rfl, rfl⟩))
    (fun os started H enc _ => lifted os started H enc)
end Go.Proofs.Ytaggohiooalcaaa
