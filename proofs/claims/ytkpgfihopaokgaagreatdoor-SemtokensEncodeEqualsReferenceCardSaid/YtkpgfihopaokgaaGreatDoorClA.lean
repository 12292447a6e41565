/-
  Own text ClA of this claim: what functions of the given program compute, in plain Lean, and the proof; no condition.
-/
import Derived.Test.YtkpgfihopaokgaaGreatDoorOk
import Derived.Test.YtkpgfihopaokgaaGreatDoorRows
import Derived.WalkKit
import Derived.ProofKit
import Derived.OpenShut
import Derived.SizedLaws
import Derived.Lay
import Derived.LaidOnce
import Derived.SevenTiedAt
import Derived.MakeChecks
import Derived.Test.YtkpgfihopaokgaaGreatDoorCards
import Derived.Test.YtkpgfihopaokgaaGreatDoorTie
namespace Go.Proofs.YtkpgfihopaokgaaGreatDoor
open Go.ChangeShapes Go.WideShapes Go.ChangeAt Go.RowKit Go.Fx
set_option linter.unusedVariables false
theorem own : ownKnob Tryz.prog.godebug = none := by kernel_rfl
theorem zib : laidOutB Tryz.prog = true := by kernel_rfl
theorem c9 : Tryz.prog.cellsOf 9 = 1 := by kernel_rfl
theorem c3 : Tryz.prog.cellsOf 3 = 1 := by kernel_rfl
theorem c46 : Tryz.prog.cellsOf 46 = 3 := by kernel_rfl
theorem c22 : Tryz.prog.cellsOf 22 = 1 := by kernel_rfl
theorem c40 : Tryz.prog.cellsOf 40 = 4 := by kernel_rfl
theorem c23 : Tryz.prog.cellsOf 23 = 1 := by kernel_rfl
theorem b46 : Tryz.prog.bytesOf 46 = 24 := by kernel_rfl
theorem b40 : Tryz.prog.bytesOf 40 = 32 := by kernel_rfl
theorem ra3 : RA Tryz.prog 3 Int (fun (x : Int) => [.int .i64 x]) zkp := RA.map (RA.int Tryz.underlying3 c3) (fun x => x) (fun _ => rfl) (fun y => ⟨y, rfl⟩) (fun _ h => h)
theorem zpy : RA Tryz.prog 46 G_SemanticToken (fun (x : G_SemanticToken) => [.int .i64 x.f_Start, .int .i64 x.f_Length, .int .i64 x.f_Kind]) vz := by
 refine RA.map (RA.structN Tryz.underlying46 c46 (RF.cons (P := Tryz.prog) (off := 0) (tot := 2) (m := 1) rfl c3 ra3 (RF.cons (P := Tryz.prog) (off := 1) (tot := 1) (m := 1) rfl c3 ra3 (RF.cons (P := Tryz.prog) (off := 2) (tot := 0) (m := 1) rfl c3 ra3 (RF.nil (P := Tryz.prog) 3))))) (fun x => (⟨x.1, x.2.1, x.2.2.1⟩ : G_SemanticToken)) (fun _ => rfl) (fun y => ⟨(y.f_Start, y.f_Length, y.f_Kind, ()), rfl⟩) (fun x h => ⟨h.1, h.2.1, h.2.2.1⟩)
set_option maxRecDepth 20000 in
theorem zpt : RV Tryz.prog 22 (List G_SemanticToken) (fun l => .isl 3 (l.map z6) false) Q7 := by
 intro H enc w v d ps base hv hd hw
 obtain ⟨x, h1, h2⟩ := RV.slice (P := Tryz.prog) Tryz.underlying22 c22 (by rw [c46]; decide) zpy hv hd hw
 rw [c46] at h2
 rw [b46] at h1
 exact ⟨x, h1, h2⟩
theorem zq6 : RA Tryz.prog 40 G_TokenDelta (fun (x : G_TokenDelta) => [.int .i64 x.f_DeltaLine, .int .i64 x.f_DeltaStart, .int .i64 x.f_Length, .int .i64 x.f_Kind]) Zc := by
 refine RA.map (RA.structN Tryz.underlying40 c40 (RF.cons (P := Tryz.prog) (off := 0) (tot := 3) (m := 1) rfl c3 ra3 (RF.cons (P := Tryz.prog) (off := 1) (tot := 2) (m := 1) rfl c3 ra3 (RF.cons (P := Tryz.prog) (off := 2) (tot := 1) (m := 1) rfl c3 ra3 (RF.cons (P := Tryz.prog) (off := 3) (tot := 0) (m := 1) rfl c3 ra3 (RF.nil (P := Tryz.prog) 4)))))) (fun x => (⟨x.1, x.2.1, x.2.2.1, x.2.2.2.1⟩ : G_TokenDelta)) (fun _ => rfl) (fun y => ⟨(y.f_DeltaLine, y.f_DeltaStart, y.f_Length, y.f_Kind, ()), rfl⟩) (fun x h => ⟨h.1, h.2.1, h.2.2.1, h.2.2.2.1⟩)
set_option maxRecDepth 20000 in
theorem zq2 : RV Tryz.prog 23 (List G_TokenDelta) (fun l => .isl 4 (l.map z7) false) W4 := by
 intro H enc w v d ps base hv hd hw
 obtain ⟨x, h1, h2⟩ := RV.slice (P := Tryz.prog) Tryz.underlying23 c23 (by rw [c40]; decide) zq6 hv hd hw
 rw [c40] at h2
 rw [b40] at h1
 exact ⟨x, h1, h2⟩
set_option maxRecDepth 100000 in
theorem lifted (os : Os) (started : os.Started) (H : Type) (enc : TypeId × Value → H) :
 ReturnsInHanded Rows.semtokensEncodeEqualsReferenceRow.assume Tryz.checked os 3 .any (fun w args => (Rows.semtokensEncodeEqualsReferenceSpec.pre enc Tryz.prog Tryz.f3 Rows.semtokensEncodeEqualsReferenceRow.domain false w args ∧ laidMetH Tryz.prog Rows.semtokensEncodeEqualsReferenceRow.laid w) ∧ sizedMet enc Tryz.prog Tryz.f3 (OpenSpec.ofChange Rows.semtokensEncodeEqualsReferenceSpec) false w args) (Rows.semtokensEncodeEqualsReferenceSpec.post enc Tryz.prog Tryz.f3 false true false false) := by
 refine returnsInHanded_of_change_and (C := Tryz.checked) (X := fun w _ => laidMetH Tryz.prog Rows.semtokensEncodeEqualsReferenceRow.laid w) (fun _ _ _ hh h => h.of_heap hh) own started (by kernel_rfl) Tryz.func3
  (ChangeSpec.witness_shaped (enc := enc) (C := Tryz.checked) (os := os) (X := fun w _ => laidMetH Tryz.prog Rows.semtokensEncodeEqualsReferenceRow.laid w) false (World.laidAll Tryz.prog os Rows.semtokensEncodeEqualsReferenceRow.laid) #[.string ⟨#[]⟩, .slice none 0 0, .slice none 0 0] 8 (World.laidAll_os _ _ _)
   (World.shaped_of_ZipB (by kernel_rfl) (by kernel_rfl)) (by kernel_rfl) (by kernel_rfl) (by kernel_rfl)
   (by rw [MakeChecks.laidMetH_plain _ _ _ (by kernel_rfl)]; exact laidMet_laidAll _ (by kernel_rfl) (by kernel_rfl))) ?_
 intro W base args ds gs before hval hW _ hsz hL _
 refine z1l (s := Rows.semtokensEncodeEqualsReferenceSpec) (tb := 4) zib [9, 22, 23] (by rw [Tryz.params3]) rfl rfl Tryz.underlying4 (by kernel_rfl)
  (RVs.cons (RV.string Tryz.underlying9 c9) (RVs.cons zpt (RVs.cons zq2 RVs.nil))) ?_ ?_ hval hW hsz (zi3 (by kernel_rfl) (by simp [Rows.semtokensEncodeEqualsReferenceRow]) hL)
 ·rintro ⟨a0, a1, a2, _⟩ ⟨h0, h1, h2, _⟩
  exact zo5 (zq0 ⟨h0, h1, h2⟩)
 ·intro ds hlen
  match ds, hlen with
  | [_, _, _], _ => exact ⟨rfl, rfl, rfl⟩
end Go.Proofs.YtkpgfihopaokgaaGreatDoor
