/-
  Own text Cl of this claim: what functions of the given program compute, in plain Lean, and the proof; no condition.
-/
import Derived.Test.YtlenhplodggefaaLaw2
import Derived.Test.YtlenhplodggefaaFxU
import Derived.Test.YtlenhplodggefaaRows
import Derived.WalkKit
import Derived.ProofKit
import Derived.OpenShut
import Derived.SizedLaws
namespace Go.Proofs.Ytlenhplodggefaa
open Go.ChangeShapes Go.WideShapes Go.ChangeAt Go.RowKit Go.Fx
set_option linter.unusedVariables false
theorem own : ownKnob Try.prog.godebug = none := by kernel_rfl
theorem laidOut : laidOutB Try.prog = true := by kernel_rfl
theorem c9 : Try.prog.cellsOf 9 = 1 := by kernel_rfl
theorem c3 : Try.prog.cellsOf 3 = 1 := by kernel_rfl
theorem c23 : Try.prog.cellsOf 23 = 3 := by kernel_rfl
theorem c61 : Try.prog.cellsOf 61 = 3 := by kernel_rfl
theorem c29 : Try.prog.cellsOf 29 = 1 := by kernel_rfl
theorem c31 : Try.prog.cellsOf 31 = 5 := by kernel_rfl
theorem c24 : Try.prog.cellsOf 24 = 1 := by kernel_rfl
theorem c25 : Try.prog.cellsOf 25 = 1 := by kernel_rfl
theorem b61 : Try.prog.bytesOf 61 = 32 := by kernel_rfl
theorem b31 : Try.prog.bytesOf 31 = 64 := by kernel_rfl
theorem b29 : Try.prog.bytesOf 29 = 24 := by kernel_rfl
theorem ra9 : RA Try.prog 9 (List UInt8) (fun (x : List UInt8) => [.str x]) ok_str := RA.map (RA.string Try.underlying9 c9) (fun x => x) (fun _ => rfl) (fun y => ⟨y, rfl⟩) (fun _ h => h)
theorem ra3 : RA Try.prog 3 Int (fun (x : Int) => [.int .i64 x]) ok_i64 := RA.map (RA.int Try.underlying3 c3) (fun x => x) (fun _ => rfl) (fun y => ⟨y, rfl⟩) (fun _ h => h)
theorem ra23 : RA Try.prog 23 G_QDocument (fun (x : G_QDocument) => [.str x.f_Name, .int .i64 x.f_Version, .str x.f_Text]) ok_QDocument := by
  refine RA.map (RA.structN Try.underlying23 c23 (RF.cons (P := Try.prog) (off := 0) (tot := 2) (m := 1) rfl c9 ra9 (RF.cons (P := Try.prog) (off := 1) (tot := 1) (m := 1) rfl c3 ra3 (RF.cons (P := Try.prog) (off := 2) (tot := 0) (m := 1) rfl c9 ra9 (RF.nil (P := Try.prog) 3))))) (fun x => (⟨x.1, x.2.1, x.2.2.1⟩ : G_QDocument)) (fun _ => rfl) (fun y => ⟨(y.f_Name, y.f_Version, y.f_Text, ()), rfl⟩) (fun x h => ⟨h.1, h.2.1, h.2.2.1⟩)
set_option maxRecDepth 20000 in
theorem rv23 : RV Try.prog 23 G_QDocument (fun x => .agg [.str x.f_Name, .int .i64 x.f_Version, .str x.f_Text]) ok_QDocument := RV.struct Try.underlying23 ra23
theorem ra61 : RA Try.prog 61 G_TextEdit (fun (x : G_TextEdit) => [.int .i64 x.f_Start, .int .i64 x.f_End, .str x.f_NewText]) ok_TextEdit := by
  refine RA.map (RA.structN Try.underlying61 c61 (RF.cons (P := Try.prog) (off := 0) (tot := 2) (m := 1) rfl c3 ra3 (RF.cons (P := Try.prog) (off := 1) (tot := 1) (m := 1) rfl c3 ra3 (RF.cons (P := Try.prog) (off := 2) (tot := 0) (m := 1) rfl c9 ra9 (RF.nil (P := Try.prog) 3))))) (fun x => (⟨x.1, x.2.1, x.2.2.1⟩ : G_TextEdit)) (fun _ => rfl) (fun y => ⟨(y.f_Start, y.f_End, y.f_NewText, ()), rfl⟩) (fun x h => ⟨h.1, h.2.1, h.2.2.1⟩)
theorem ra29 : RA Try.prog 29 (List G_TextEdit) (fun (x : List G_TextEdit) => [.isl 3 (x.map e_TextEdit) false]) ok_sl_TextEdit := by
  have h := RA.slice (P := Try.prog) Try.underlying29 c29 (by rw [c61]; decide) ra61
  rw [c61, b61] at h
  exact RA.map h (fun x => x) (fun _ => rfl) (fun y => ⟨y, rfl⟩) (fun _ h => h)
theorem ra31 : RA Try.prog 31 G_QUpdate (fun (x : G_QUpdate) => [.int .i64 x.f_To, .int .i64 x.f_From, .str x.f_Name, .int .i64 x.f_Version, .isl 3 (x.f_Edits.map e_TextEdit) false]) ok_QUpdate := by
  refine RA.map (RA.structN Try.underlying31 c31 (RF.cons (P := Try.prog) (off := 0) (tot := 4) (m := 1) rfl c3 ra3 (RF.cons (P := Try.prog) (off := 1) (tot := 3) (m := 1) rfl c3 ra3 (RF.cons (P := Try.prog) (off := 2) (tot := 2) (m := 1) rfl c9 ra9 (RF.cons (P := Try.prog) (off := 3) (tot := 1) (m := 1) rfl c3 ra3 (RF.cons (P := Try.prog) (off := 4) (tot := 0) (m := 1) rfl c29 ra29 (RF.nil (P := Try.prog) 5))))))) (fun x => (⟨x.1, x.2.1, x.2.2.1, x.2.2.2.1, x.2.2.2.2.1⟩ : G_QUpdate)) (fun _ => rfl) (fun y => ⟨(y.f_To, y.f_From, y.f_Name, y.f_Version, y.f_Edits, ()), rfl⟩) (fun x h => ⟨h.1, h.2.1, h.2.2.1, h.2.2.2.1, h.2.2.2.2.1⟩)
set_option maxRecDepth 20000 in
theorem rv24 : RV Try.prog 24 (List G_QUpdate) (fun l => .isl 5 (l.map e_QUpdate) false) ok_sl_QUpdate := by
  intro H enc w v d ps base hv hd hw
  obtain ⟨x, h1, h2⟩ := RV.slice (P := Try.prog) Try.underlying24 c24 (by rw [c31]; decide) ra31 hv hd hw
  rw [c31] at h2
  rw [b31] at h1
  exact ⟨x, h1, h2⟩
set_option maxRecDepth 20000 in
theorem rv25 : RV Try.prog 25 (List (List G_TextEdit)) (fun l => .isl 1 (l.map e_sl_TextEdit) false) ok_sl_sl_TextEdit := by
  intro H enc w v d ps base hv hd hw
  obtain ⟨x, h1, h2⟩ := RV.slice (P := Try.prog) Try.underlying25 c25 (by rw [c29]; decide) ra29 hv hd hw
  rw [c29] at h2
  rw [b29] at h1
  exact ⟨x, h1, h2⟩
set_option maxRecDepth 20000 in
theorem lifted (os : Os) (started : os.Started) (H : Type) (enc : TypeId × Value → H) :
    ReturnsInHanded Rows.docsyncReplicaRow.assume Try.checked os 3 .any (Rows.docsyncReplicaSpec.pre6 enc Try.prog Try.f3 Rows.docsyncReplicaRow.domain false) (Rows.docsyncReplicaSpec.post enc Try.prog Try.f3 false true false false) := by
  refine returnsInHanded_of_change_sized (C := Try.checked) own started (by kernel_rfl) Try.func3
    (ChangeSpec.witness6 (enc := enc) (C := Try.checked) false ⟨#[], #[.agg #[.string ⟨#[]⟩, .int .i64 0, .string ⟨#[]⟩], .slice none 0 0, .slice none 0 0], []⟩ 8 (by kernel_rfl) (by kernel_rfl) (by kernel_rfl) (by kernel_rfl)) ?_
  intro W base args ds gs before hval hW _ hsz _
  refine law_contract (s := Rows.docsyncReplicaSpec) (tb := 4) laidOut [23, 24, 25] (by rw [Try.params3]) rfl rfl Try.underlying4 (by kernel_rfl)
    (RVs.cons rv23 (RVs.cons rv24 (RVs.cons rv25 RVs.nil))) ?_ ?_ hval hW hsz
  · rintro ⟨a0, a1, a2, _⟩ ⟨h0, h1, h2, _⟩
    exact f3_ok (lawR ⟨h0, h1, h2⟩)
  · intro ds hlen
    match ds, hlen with
    | [_, _, _], _ => exact ⟨rfl, rfl, rfl⟩
theorem holds : Rows.DocsyncReplicaSaid :=
  OpenClaim.holds_of_wide 3 Try.f3 rfl rfl rfl rfl rfl rfl rfl ⟨rfl, rfl, rfl, rfl, rfl⟩ rfl rfl rfl rfl rfl (by kernel_rfl) Try.func3 (by kernel_rfl)
    (of_decide_eq_true (by kernel_rfl)) (by unfold Func.isWrapper; first | (rw [if_pos (by decide +kernel)]; kernel_rfl) | (rw [if_neg (by decide +kernel)]; exact ⟨rfl, rfl⟩))
    (fun os started H enc _ => lifted os started H enc)
end Go.Proofs.Ytlenhplodggefaa
