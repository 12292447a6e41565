/-
  The card: FramingDecoder within the bound.
-/
import Derived.Test.YtbinocieebfpiaaDoorOk
import Derived.WalkKit
import Derived.ProofKit
import Derived.OpenShut
import Derived.SizedLaws
import Derived.Lay
import Derived.LaidOnce
import Derived.SevenTiedAt
import Derived.Deep.DeepHandedRow
import Derived.Deep.DeepWitnessRowRef
import Derived.Test.YtbinocieebfpiaaDoorCards
import Derived.Test.YtbinocieebfpiaaDoorTie
namespace Go.Proofs.YtbinocieebfpiaaDoor
open Go.ChangeShapes Go.WideShapes Go.ChangeAt Go.RowKit Go.Fx
set_option linter.unusedVariables false
theorem own : ownKnob Tryd.prog.godebug = none := by kernel_rfl
def wArgs : Array Value := #[.slice none 0 0]
set_option maxRecDepth 20000 in
theorem z0z (H : Type) (enc : TypeId × Value → H) (W : World) (base : Nat) (args : Array Value) (ds gs : List (DataW H)) (before : List MemPlace)
 (hval : ∀ (j : Nat) t v, Tryd.f4.params[j]? = some t → args[j]? = some v → Value.okWide Tryd.prog W .any base t v)
 (hW : DataW.Whole enc Tryd.prog Tryd.f4.params.toList Rows.framingDecoderSpec.vars false W args.toList ds gs before) (hk : Rows.uptoSmall H (ds ++ gs) = true)
 (hsz : (DataW.weightsEach Tryd.prog (Tryd.f4.params.toList ++ Rows.framingDecoderSpec.plain.varTypes Tryd.prog) (ds ++ gs)).all (· ≤ reachBytes) = true)
 (hL : laidMetH Tryd.prog Rows.framingDecoderUptoRow.laid W) (hs : W.ShapedOpen Tryd.prog) :
 Calls Tryd.prog 4 args W fun e W' => ∃ v, e = .returned v ∧ Rows.framingDecoderSpec.post enc Tryd.prog Tryd.f4 false true false false W args v W' := by
 refine W9 (s := Rows.framingDecoderSpec) (tb := 4) zd7 [29] (by rw [Tryd.params4]) rfl rfl Tryd.underlying4 (by kernel_rfl) ?_ hval hW hsz (zd6 (by kernel_rfl) (by simp [Rows.framingDecoderUptoRow]) hL hs) ?_
 ·intro ds hlen
  match ds, hlen with
  | [_], _ => exact ⟨rfl, rfl, rfl⟩
 ·intro ps h1 h2 h3
  obtain ⟨⟨x, u⟩, ⟨k1, k2, hx, _, hk12⟩, hlen, hrep⟩ := zhe h1 h2 h3
  have ht := z6z x
  have := z8u hk
  exact ⟨_, zgh (zhl (a0 := x) (by simp only at hx; omega) (by simp only at hx; omega)), hlen, hrep⟩
set_option maxRecDepth 100000 in
theorem zff (os : Os) (started : os.Started) (H : Type) (enc : TypeId × Value → H) (F : Stop.Interp) :
 ReturnsInHanded {} Tryd.checked os 4 .any ((Rows.OpenSpec.upto Rows.framingDecoderSpec).preRow enc Tryd.prog Tryd.f4 Rows.framingDecoderUptoRow.domain false Rows.framingDecoderUptoRow.laid) (((Rows.OpenSpec.upto Rows.framingDecoderSpec).at F).post enc Tryd.prog Tryd.f4 false true false false) := by
 have hx : DataW.whole enc Tryd.prog ((World.laidAll Tryd.prog os Rows.framingDecoderUptoRow.laid).forCall (fun _ _ => 0) ⟨#[], wArgs, []⟩).memory Tryd.f4.params.toList Rows.framingDecoderSpec.vars false wArgs.toList 8 =
  some ([.nil], [], []) := by kernel_rfl
 refine returnsInHanded_of_row (C := Tryd.checked) (s := Rows.OpenSpec.upto Rows.framingDecoderSpec) own started (by kernel_rfl) Tryd.func4
  (witness_row_atRef (enc := enc) (C := Tryd.checked) false (World.laidAll Tryd.prog os Rows.framingDecoderUptoRow.laid) wArgs (World.laidAll_os _ _ _) (by kernel_rfl) (by kernel_rfl) (by kernel_rfl)
   (OpenSpec.preRow_of_cond 8 hx (by kernel_rfl) (fun k hk => by cases hk; kernel_rfl) (by kernel_rfl) (by rw [MakeChecks.laidMetH_plain _ _ _ (by kernel_rfl)]; exact laidMet_laidAll _ (by kernel_rfl) (by kernel_rfl)))) ?_
 intro W base args ds gs before hval hW _ hcond hsz hL hs _
 exact z0z H enc W base args ds gs before hval hW (hcond _ rfl) hsz hL hs
theorem z9p : Rows.FramingDecoderUptoSaid :=
 OpenClaim.holds_of_cond 4 Tryd.f4 rfl rfl rfl rfl rfl rfl rfl ⟨rfl, rfl, rfl, rfl, rfl⟩ rfl rfl rfl rfl rfl (by kernel_rfl) Tryd.func4 (by kernel_rfl)
  (of_decide_eq_true (by kernel_rfl)) (by unfold Func.isWrapper; first | (rw [if_pos (by decide +kernel)]; kernel_rfl) | (rw [if_neg (by decide +kernel)]; exact ⟨rfl, rfl⟩))
  (fun os started H enc _ F => by rw [OpenClaim.pre_eq_preRow]; exact zff os started H enc F)
theorem plain (f : FuncId) (fn : Func) (hf : Tryd.pinned.checked.prog.funcNamed "glossator/glossatorlaw3.FramingDecoder" = some f) (hfn : Tryd.pinned.checked.prog.funcs[f]? = some fn) :
 true = Tryd.pinned.checked.prog.looks [] ∧ ∀ (j : Nat) t, fn.params[j]? = some t → Tryd.pinned.checked.prog.wantsStandIn t = false := by
 obtain rfl : f = 4 := Option.some.inj ((show Tryd.prog.funcNamed "glossator/glossatorlaw3.FramingDecoder" = some 4 by kernel_rfl).symm.trans hf) |>.symm
 obtain rfl : fn = Tryd.f4 := (Option.some.inj (Tryd.func4.symm.trans hfn)).symm
 refine ⟨by kernel_rfl, fun j t ht => ?_⟩
 rw [Tryd.params4] at ht
 have hm : t ∈ [29] := by simpa using Array.mem_of_getElem? ht
 have hall : ([29].all fun u => !Tryd.prog.wantsStandIn u) = true := by kernel_rfl
 exact (show Tryd.prog.wantsStandIn t = false by simpa using List.all_eq_true.1 hall t hm)
theorem holds : Rows.FramingDecoderUptoCardSaid :=
 Claim7.holds_tied_plain_at .later [] _ _ _ _ z9p (fun _ h => by cases h) (by kernel_rfl) (fun _ h => by cases h) framingDecoderUpto_row_tie rfl ⟨rfl, rfl⟩ (by kernel_rfl) rfl plain (by kernel_rfl)
end Go.Proofs.YtbinocieebfpiaaDoor
