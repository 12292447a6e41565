/-
  Own text Cl of this claim: what functions of the given program compute, in plain Lean, and the proof; no condition.
-/
import Derived.Test.YteepckliibfnkaaLaw9
import Derived.Test.YteepckliibfnkaaFxU
import Derived.Test.YteepckliibfnkaaRows
import Derived.WalkKit
import Derived.ProofKit
import Derived.OpenShut
import Derived.SizedLaws
namespace Go.Proofs.Yteepckliibfnkaa
open Go.ChangeShapes Go.WideShapes Go.ChangeAt Go.RowKit Go.Fx
set_option linter.unusedVariables false
theorem own : ownKnob Try.prog.godebug = none := by kernel_rfl
theorem laidOut : laidOutB Try.prog = true := by kernel_rfl
theorem c9 : Try.prog.cellsOf 9 = 1 := by kernel_rfl
theorem c38 : Try.prog.cellsOf 38 = 1 := by kernel_rfl
theorem c30 : Try.prog.cellsOf 30 = 1 := by kernel_rfl
theorem c40 : Try.prog.cellsOf 40 = 3 := by kernel_rfl
theorem c24 : Try.prog.cellsOf 24 = 1 := by kernel_rfl
theorem c3 : Try.prog.cellsOf 3 = 1 := by kernel_rfl
theorem c46 : Try.prog.cellsOf 46 = 3 := by kernel_rfl
theorem b9 : Try.prog.bytesOf 9 = 16 := by kernel_rfl
theorem b40 : Try.prog.bytesOf 40 = 48 := by kernel_rfl
theorem ra9 : RA Try.prog 9 (List UInt8) (fun (x : List UInt8) => [.str x]) ok_str := RA.map (RA.string Try.underlying9 c9) (fun x => x) (fun _ => rfl) (fun y => ⟨y, rfl⟩) (fun _ h => h)
theorem ra38 : RA Try.prog 38 Int (fun (x : Int) => [.int .u32 x]) ok_u32 := RA.map (RA.int Try.underlying38 c38) (fun x => x) (fun _ => rfl) (fun y => ⟨y, rfl⟩) (fun _ h => h)
theorem ra30 : RA Try.prog 30 (List (List UInt8)) (fun (x : List (List UInt8)) => [.isl 1 (x.map e_str) false]) ok_sl_str := by
  have h := RA.slice (P := Try.prog) Try.underlying30 c30 (by rw [c9]; decide) ra9
  rw [c9, b9] at h
  exact RA.map h (fun x => x) (fun _ => rfl) (fun y => ⟨y, rfl⟩) (fun _ h => h)
theorem ra40 : RA Try.prog 40 G_QIndexEntry (fun (x : G_QIndexEntry) => [.str x.f_Name, .int .u32 x.f_Sum, .isl 1 (x.f_Words.map e_str) false]) ok_QIndexEntry := by
  refine RA.map (RA.structN Try.underlying40 c40 (RF.cons (P := Try.prog) (off := 0) (tot := 2) (m := 1) rfl c9 ra9 (RF.cons (P := Try.prog) (off := 1) (tot := 1) (m := 1) rfl c38 ra38 (RF.cons (P := Try.prog) (off := 2) (tot := 0) (m := 1) rfl c30 ra30 (RF.nil (P := Try.prog) 3))))) (fun x => (⟨x.1, x.2.1, x.2.2.1⟩ : G_QIndexEntry)) (fun _ => rfl) (fun y => ⟨(y.f_Name, y.f_Sum, y.f_Words, ()), rfl⟩) (fun x h => ⟨h.1, h.2.1, h.2.2.1⟩)
set_option maxRecDepth 20000 in
theorem rv24 : RV Try.prog 24 (List G_QIndexEntry) (fun l => .isl 3 (l.map e_QIndexEntry) false) ok_sl_QIndexEntry := by
  intro H enc w v d ps base hv hd hw
  obtain ⟨x, h1, h2⟩ := RV.slice (P := Try.prog) Try.underlying24 c24 (by rw [c40]; decide) ra40 hv hd hw
  rw [c40] at h2
  rw [b40] at h1
  exact ⟨x, h1, h2⟩
theorem ra3 : RA Try.prog 3 Int (fun (x : Int) => [.int .i64 x]) ok_i64 := RA.map (RA.int Try.underlying3 c3) (fun x => x) (fun _ => rfl) (fun y => ⟨y, rfl⟩) (fun _ h => h)
theorem ra46 : RA Try.prog 46 G_QDocument (fun (x : G_QDocument) => [.str x.f_Name, .int .i64 x.f_Version, .str x.f_Text]) ok_QDocument := by
  refine RA.map (RA.structN Try.underlying46 c46 (RF.cons (P := Try.prog) (off := 0) (tot := 2) (m := 1) rfl c9 ra9 (RF.cons (P := Try.prog) (off := 1) (tot := 1) (m := 1) rfl c3 ra3 (RF.cons (P := Try.prog) (off := 2) (tot := 0) (m := 1) rfl c9 ra9 (RF.nil (P := Try.prog) 3))))) (fun x => (⟨x.1, x.2.1, x.2.2.1⟩ : G_QDocument)) (fun _ => rfl) (fun y => ⟨(y.f_Name, y.f_Version, y.f_Text, ()), rfl⟩) (fun x h => ⟨h.1, h.2.1, h.2.2.1⟩)
set_option maxRecDepth 20000 in
theorem rv46 : RV Try.prog 46 G_QDocument (fun x => .agg [.str x.f_Name, .int .i64 x.f_Version, .str x.f_Text]) ok_QDocument := RV.struct Try.underlying46 ra46
set_option maxRecDepth 20000 in
theorem lifted (os : Os) (started : os.Started) (H : Type) (enc : TypeId × Value → H) :
    ReturnsInHanded Rows.wordindexUpdateRow.assume Try.checked os 5 .any (Rows.wordindexUpdateSpec.pre6 enc Try.prog Try.f5 Rows.wordindexUpdateRow.domain false) (Rows.wordindexUpdateSpec.post enc Try.prog Try.f5 false true false false) := by
  refine returnsInHanded_of_change_sized (C := Try.checked) own started (by kernel_rfl) Try.func5
    (ChangeSpec.witness6 (enc := enc) (C := Try.checked) false ⟨#[], #[.slice none 0 0, .agg #[.string ⟨#[]⟩, .int .i64 0, .string ⟨#[]⟩], .string ⟨#[]⟩, .string ⟨#[]⟩], []⟩ 8 (by kernel_rfl) (by kernel_rfl) (by kernel_rfl) (by kernel_rfl)) ?_
  intro W base args ds gs before hval hW _ hsz _
  refine law_contract (s := Rows.wordindexUpdateSpec) (tb := 4) laidOut [24, 46, 9, 9] (by rw [Try.params5]) rfl rfl Try.underlying4 (by kernel_rfl)
    (RVs.cons rv24 (RVs.cons rv46 (RVs.cons (RV.string Try.underlying9 c9) (RVs.cons (RV.string Try.underlying9 c9) RVs.nil)))) ?_ ?_ hval hW hsz
  · rintro ⟨a0, a1, a2, a3, _⟩ ⟨h0, h1, h2, h3, _⟩
    exact f5_ok (lawU ⟨h0, h1, h2, h3⟩)
  · intro ds hlen
    match ds, hlen with
    | [_, _, _, _], _ => exact ⟨rfl, rfl, rfl⟩
theorem holds : Rows.WordindexUpdateSaid :=
  OpenClaim.holds_of_wide 5 Try.f5 rfl rfl rfl rfl rfl rfl rfl ⟨rfl, rfl, rfl, rfl, rfl⟩ rfl rfl rfl rfl rfl (by kernel_rfl) Try.func5 (by kernel_rfl)
    (of_decide_eq_true (by kernel_rfl)) (by unfold Func.isWrapper; first | (rw [if_pos (by decide +kernel)]; kernel_rfl) | (rw [if_neg (by decide +kernel)]; exact ⟨rfl, rfl⟩))
    (fun os started H enc _ => lifted os started H enc)
end Go.Proofs.Yteepckliibfnkaa
