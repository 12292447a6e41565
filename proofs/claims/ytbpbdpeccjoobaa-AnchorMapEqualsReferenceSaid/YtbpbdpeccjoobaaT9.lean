/-
  Own text T9 of this claim: what functions of the given program compute, step by step; no condition.
-/
import Derived.Test.YtbpbdpeccjoobaaT8
import Derived.Test.YtbpbdpeccjoobaaRows
import Derived.WalkKit
import Derived.ProofKit
import Derived.OpenShut
import Derived.SizedLaws
namespace Go.Proofs.Ytbpbdpeccjoobaa
open Go.ChangeShapes Go.WideShapes Go.ChangeAt Go.RowKit Go.Fw
set_option linter.unusedVariables false
theorem own : ownKnob Try.prog.godebug = none := by kernel_rfl
theorem laidOut : laidOutB Try.prog = true := by kernel_rfl
theorem c3 : Try.prog.cellsOf 3 = 1 := by kernel_rfl
theorem c9 : Try.prog.cellsOf 9 = 1 := by kernel_rfl
theorem c4 : Try.prog.cellsOf 4 = 1 := by kernel_rfl
theorem c22 : Try.prog.cellsOf 22 = 1 := by kernel_rfl
theorem c23 : Try.prog.cellsOf 23 = 1 := by kernel_rfl
theorem c37 : Try.prog.cellsOf 37 = 3 := by kernel_rfl
theorem b3 : Try.prog.bytesOf 3 = 8 := by kernel_rfl
def okTE (e : TE) : Prop := inR e.st
theorem raTE : RA Try.prog 37 TE encTE okTE := by
  have r3 := RF.nil (P := Try.prog) 3
  have r2 := RF.cons (P := Try.prog) (f := { name := "NewText", type := 9, offset := 2, embedded := false, tag := "", pkgPath := "", byteOffset := 16 }) (off := 2) (tot := 0) (m := 1) rfl c9 (RA.string Try.underlying9 c9) r3
  have r1 := RF.cons (P := Try.prog) (f := { name := "End", type := 3, offset := 1, embedded := false, tag := "", pkgPath := "", byteOffset := 8 }) (off := 1) (tot := 1) (m := 1) rfl c3 (RA.int Try.underlying3 c3) r2
  have r0 := RF.cons (P := Try.prog) (f := { name := "Start", type := 3, offset := 0, embedded := false, tag := "", pkgPath := "", byteOffset := 0 }) (off := 0) (tot := 2) (m := 1) rfl c3 (RA.int Try.underlying3 c3) r1
  exact RA.map (RA.structN Try.underlying37 c37 r0) (ok' := okTE) (e' := encTE) (fun x => (⟨x.1, x.2.1, x.2.2.1⟩ : TE)) (fun _ => rfl) (fun y => ⟨(y.st, y.en, y.text, ()), rfl⟩) (fun x hx => show inR x.1 from hx.1)
theorem raI : RA Try.prog 3 Int encI inR := RA.map (RA.int Try.underlying3 c3) id (fun _ => rfl) (fun y => ⟨y, rfl⟩) (fun x hx => hx)
theorem rvTE : RV Try.prog 22 (List TE) (fun l => .isl (Try.prog.cellsOf 37) (l.map encTE) false) (fun l => l.length ≤ maxLen ∧ l.length * Try.prog.bytesOf 37 ≤ reachBytes ∧ ∀ x ∈ l, okTE x) := RV.slice Try.underlying22 c22 (by rw [c37]; decide) raTE
theorem rvI : RV Try.prog 23 (List Int) (fun l => .isl (Try.prog.cellsOf 3) (l.map encI) false) (fun l => l.length ≤ maxLen ∧ l.length * Try.prog.bytesOf 3 ≤ reachBytes ∧ ∀ x ∈ l, inR x) := RV.slice Try.underlying23 c23 (by rw [c3]; decide) raI
theorem lifted (os : Os) (started : os.Started) (H : Type) (enc : TypeId × Value → H) :
    ReturnsInHanded {} Try.checked os 3 .any (Rows.anchorMapEqualsReferenceSpec.pre6 enc Try.prog Try.f3 Rows.anchorMapEqualsReferenceRow.domain false) (Rows.anchorMapEqualsReferenceSpec.post enc Try.prog Try.f3 false true false false) := by
  refine returnsInHanded_of_change_sized (C := Try.checked) own started (by kernel_rfl) Try.func3
    (ChangeSpec.witness6 (enc := enc) (C := Try.checked) false ⟨#[], #[.slice none 0 0, .int .i64 0, .int .i64 0, .bool false, .slice none 0 0], []⟩ 8 (by kernel_rfl) (by kernel_rfl) (by kernel_rfl) (by kernel_rfl)) ?_
  intro W base args ds gs before hval hW _ hsz _
  refine law_contract (s := Rows.anchorMapEqualsReferenceSpec) (tb := 4) laidOut [22, 3, 3, 4, 23] (by rw [Try.params3]) rfl rfl Try.underlying4 (by kernel_rfl)
    (RVs.cons rvTE (RVs.cons (RV.int Try.underlying3 c3) (RVs.cons (RV.int Try.underlying3 c3) (RVs.cons (RV.bool Try.underlying4 c4) (RVs.cons rvI RVs.nil))))) ?_ ?_ hval hW hsz
  · rintro ⟨E, s, e, x, O, _⟩ ⟨⟨_, _, hE⟩, hs, he, _, ⟨_, hO, hOr⟩, _⟩
    have hc := (t3 E false s e x O false hE hs he (by simpa [b3] using hO) hOr) [] 0
    simp only [c37, c3]
    exact hc.mono (fun r _ _ h => h.1)
  · intro ds hlen
    match ds, hlen with
    | [_, _, _, _, _], _ => exact ⟨rfl, rfl, rfl⟩
theorem holds : Rows.AnchorMapEqualsReferenceSaid :=
  OpenClaim.holds_of_wide 3 Try.f3 rfl rfl rfl rfl rfl rfl rfl ⟨rfl, rfl, rfl, rfl, rfl⟩ rfl rfl rfl rfl rfl (by kernel_rfl) Try.func3 (by kernel_rfl)
    (of_decide_eq_true (by kernel_rfl)) (by unfold Func.isWrapper; first | (rw [if_pos (by decide +kernel)]; kernel_rfl) | (rw [if_neg (by decide +kernel)]; exact ⟨rfl, rfl⟩))
    (fun os started H enc _ => lifted os started H enc)
end Go.Proofs.Ytbpbdpeccjoobaa
