/-
  Own text Cl of this claim: what functions of the given program compute, in plain Lean, and the proof; no condition.
-/
import Derived.Test.YteepckliibfnkaaGreatDoorLaw3
import Derived.Test.YteepckliibfnkaaGreatDoorFxU
import Derived.Test.YteepckliibfnkaaGreatDoorRows
import Derived.WalkKit
import Derived.ProofKit
import Derived.OpenShut
import Derived.SizedLaws
import Derived.Lay
import Derived.LaidOnce
import Derived.SevenTiedAt
import Derived.Test.YteepckliibfnkaaGreatDoorCards
import Derived.Test.YteepckliibfnkaaGreatDoorTie
namespace Go.Proofs.YteepckliibfnkaaGreatDoor
open Go.ChangeShapes Go.WideShapes Go.ChangeAt Go.RowKit Go.Fx
set_option linter.unusedVariables false
theorem own : ownKnob Tryz.prog.godebug = none := by kernel_rfl
theorem ztn : laidOutB Tryz.prog = true := by kernel_rfl
theorem c9 : Tryz.prog.cellsOf 9 = 1 := by kernel_rfl
theorem c3 : Tryz.prog.cellsOf 3 = 1 := by kernel_rfl
theorem c34 : Tryz.prog.cellsOf 34 = 3 := by kernel_rfl
theorem c22 : Tryz.prog.cellsOf 22 = 1 := by kernel_rfl
theorem b34 : Tryz.prog.bytesOf 34 = 40 := by kernel_rfl
theorem ra9 : RA Tryz.prog 9 (List UInt8) (fun (x : List UInt8) => [.str x]) y03 := RA.map (RA.string Tryz.underlying9 c9) (fun x => x) (fun _ => rfl) (fun y => ⟨y, rfl⟩) (fun _ h => h)
theorem ra3 : RA Tryz.prog 3 Int (fun (x : Int) => [.int .i64 x]) zzf := RA.map (RA.int Tryz.underlying3 c3) (fun x => x) (fun _ => rfl) (fun y => ⟨y, rfl⟩) (fun _ h => h)
theorem y38 : RA Tryz.prog 34 G_QDocument (fun (x : G_QDocument) => [.str x.f_Name, .int .i64 x.f_Version, .str x.f_Text]) Ja := by
 refine RA.map (RA.structN Tryz.underlying34 c34 (RF.cons (P := Tryz.prog) (off := 0) (tot := 2) (m := 1) rfl c9 ra9 (RF.cons (P := Tryz.prog) (off := 1) (tot := 1) (m := 1) rfl c3 ra3 (RF.cons (P := Tryz.prog) (off := 2) (tot := 0) (m := 1) rfl c9 ra9 (RF.nil (P := Tryz.prog) 3))))) (fun x => (⟨x.1, x.2.1, x.2.2.1⟩ : G_QDocument)) (fun _ => rfl) (fun y => ⟨(y.f_Name, y.f_Version, y.f_Text, ()), rfl⟩) (fun x h => ⟨h.1, h.2.1, h.2.2.1⟩)
set_option maxRecDepth 20000 in
theorem y32 : RV Tryz.prog 22 (List G_QDocument) (fun l => .isl 3 (l.map z8) false) z0w := by
 intro H enc w v d ps base hv hd hw
 obtain ⟨x, h1, h2⟩ := RV.slice (P := Tryz.prog) Tryz.underlying22 c22 (by rw [c34]; decide) y38 hv hd hw
 rw [c34] at h2
 rw [b34] at h1
 exact ⟨x, h1, h2⟩
set_option maxRecDepth 20000 in
theorem zyz (os : Os) (started : os.Started) (H : Type) (enc : TypeId × Value → H) :
 ReturnsInHanded Rows.wordindexRestoreRow.assume Tryz.checked os 3 .any (fun w args => (Rows.wordindexRestoreSpec.pre enc Tryz.prog Tryz.f3 Rows.wordindexRestoreRow.domain false w args ∧ laidMetH Tryz.prog Rows.wordindexRestoreRow.laid w) ∧ sizedMet enc Tryz.prog Tryz.f3 (OpenSpec.ofChange Rows.wordindexRestoreSpec) false w args) (Rows.wordindexRestoreSpec.post enc Tryz.prog Tryz.f3 false true false false) := by
 refine returnsInHanded_of_change_and (C := Tryz.checked) (X := fun w _ => laidMetH Tryz.prog Rows.wordindexRestoreRow.laid w) (fun _ _ _ hh h => h.of_heap hh) own started (by kernel_rfl) Tryz.func3
  (ChangeSpec.witness_shaped (enc := enc) (C := Tryz.checked) (os := os) (X := fun w _ => laidMetH Tryz.prog Rows.wordindexRestoreRow.laid w) false (World.laidAll Tryz.prog os Rows.wordindexRestoreRow.laid) #[.string ⟨#[]⟩, .slice none 0 0] 8 (World.laidAll_os _ _ _)
   (World.shaped_of_ZipB (by kernel_rfl) (by kernel_rfl)) (by kernel_rfl) (by kernel_rfl) (by kernel_rfl)
   (by rw [MakeChecks.laidMetH_plain _ _ _ (by kernel_rfl)]; exact laidMet_laidAll _ (by kernel_rfl) (by kernel_rfl))) ?_
 intro W base args ds gs before hval hW _ hsz _ _
 refine z6s (s := Rows.wordindexRestoreSpec) (tb := 4) ztn [9, 22] (by rw [Tryz.params3]) rfl rfl Tryz.underlying4 (by kernel_rfl)
  (RVs.cons (RV.string Tryz.underlying9 c9) (RVs.cons y32 RVs.nil)) ?_ ?_ hval hW hsz
 ·rintro ⟨a0, a1, _⟩ ⟨h0, h1, _⟩
  exact y2d (y36 ⟨h0, h1⟩)
 ·intro ds hlen
  match ds, hlen with
  | [_, _], _ => exact ⟨rfl, rfl, rfl⟩
theorem zob : Rows.WordindexRestoreSaid :=
 OpenClaim.holds_of_wide 3 Tryz.f3 rfl rfl rfl rfl rfl rfl rfl ⟨rfl, rfl, rfl, rfl, rfl⟩ rfl rfl rfl rfl rfl (by kernel_rfl) Tryz.func3 (by kernel_rfl)
  (of_decide_eq_true (by kernel_rfl)) (by unfold Func.isWrapper; first | (rw [if_pos (by decide +kernel)]; kernel_rfl) | (rw [if_neg (by decide +kernel)]; exact ⟨rfl, rfl⟩))
  (fun os started H enc _ => zyz os started H enc)
theorem holds : Rows.WordindexRestoreCardSaid :=
 Claim7.holds_tied_plain_at .later [] [.data, .pinned] true (true, "d1eba966c56e926f7e4e1d6c0fb541b2db416ccdf34ef32a2ae4471774ec8162") false zob (fun _ h => by cases h) (by kernel_rfl) (fun _ h => by cases h) wordindexRestore_row_tie rfl ⟨rfl, rfl⟩ (by kernel_rfl) rfl
  (fun f fn hf hfn => by
   obtain rfl : f = 3 := Option.some.inj ((show Tryz.prog.funcNamed "glossator/glossatorlaw3.WordindexRestore" = some 3 by kernel_rfl).symm.trans hf) |>.symm
   obtain rfl : fn = Tryz.f3 := (Option.some.inj (Tryz.func3.symm.trans hfn)).symm
   exact ⟨by kernel_rfl, fun j t ht => by
    rw [Tryz.params3] at ht
    have hm : t ∈ [9, 22] := by simpa using Array.mem_of_getElem? ht
    have hall : ([9, 22].all fun u => !Tryz.prog.wantsStandIn u) = true := by kernel_rfl
    exact (show Tryz.prog.wantsStandIn t = false by simpa using List.all_eq_true.1 hall t hm)⟩)
  (by kernel_rfl)
end Go.Proofs.YteepckliibfnkaaGreatDoor
