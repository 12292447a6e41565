/-
  The card: JsonvalEncode within the bound.
-/
import Derived.Test.YtdgkalljlomjnaaDoorOk
import Derived.WalkKit
import Derived.ProofKit
import Derived.OpenShut
import Derived.SizedLaws
import Derived.Lay
import Derived.LaidOnce
import Derived.SevenTiedAt
import Derived.Deep.DeepHandedRow
import Derived.Test.YtdgkalljlomjnaaDoorCards
import Derived.Test.YtdgkalljlomjnaaDoorTie
namespace Go.Proofs.YtdgkalljlomjnaaDoor
open Go.ChangeShapes Go.WideShapes Go.ChangeAt Go.RowKit Go.Fx
set_option linter.unusedVariables false
theorem own : ownKnob Tryd.prog.godebug = none := by kernel_rfl
def wArgs : Array Value := #[.agg #[.int .i64 0, .int .i64 0, .string ⟨#[]⟩, .slice none 0 0, .slice none 0 0]]
set_option maxRecDepth 20000 in
theorem z9m (H : Type) (enc : TypeId × Value → H) (W : World) (base : Nat) (args : Array Value) (ds gs : List (DataW H)) (before : List MemPlace)
 (hval : ∀ (j : Nat) t v, Tryd.f3.params[j]? = some t → args[j]? = some v → Value.okWide Tryd.prog W .any base t v)
 (hW : DataW.Whole enc Tryd.prog Tryd.f3.params.toList Rows.jsonvalEncodeSpec.vars false W args.toList ds gs before) (hk : Rows.uptoSmall H (ds ++ gs) = true)
 (hsz : (DataW.weightsEach Tryd.prog (Tryd.f3.params.toList ++ Rows.jsonvalEncodeSpec.plain.varTypes Tryd.prog) (ds ++ gs)).all (· ≤ reachBytes) = true)
 (hL : laidMetH Tryd.prog Rows.jsonvalEncodeUptoRow.laid W) :
 Calls Tryd.prog 3 args W fun e W' => ∃ v, e = .returned v ∧ Rows.jsonvalEncodeSpec.post enc Tryd.prog Tryd.f3 false true false false W args v W' := by
 refine z29 (s := Rows.jsonvalEncodeSpec) (tb := 4) zny [25] (by rw [Tryd.params3]) rfl rfl Tryd.underlying4 (by kernel_rfl) ?_ hval hW hsz (zn2 (by kernel_rfl) (by simp [Rows.jsonvalEncodeUptoRow]) (by simp [Rows.jsonvalEncodeUptoRow]) (by simp [Rows.jsonvalEncodeUptoRow]) hL) ?_
 ·intro ds hlen
  match ds, hlen with
  | [_], _ => exact ⟨rfl, rfl, rfl⟩
 ·intro ps h1 h2 h3
  obtain ⟨⟨x, u⟩, ⟨k1, k2, hx, _, hk12⟩, hlen, hrep⟩ := ztk h1 h2 h3
  have := zkh hk
  exact ⟨_, zsh (ztm (a := x) (by simp only at hx; unfold J.ok; omega)), hlen, hrep⟩
set_option maxRecDepth 100000 in
theorem zqo (os : Os) (started : os.Started) (H : Type) (enc : TypeId × Value → H) (F : Stop.Interp) :
 ReturnsInHanded {} Tryd.checked os 3 .any ((Rows.OpenSpec.upto Rows.jsonvalEncodeSpec).preRow enc Tryd.prog Tryd.f3 Rows.jsonvalEncodeUptoRow.domain false Rows.jsonvalEncodeUptoRow.laid) (((Rows.OpenSpec.upto Rows.jsonvalEncodeSpec).at F).post enc Tryd.prog Tryd.f3 false true false false) := by
 have hx : DataW.whole enc Tryd.prog ((World.laidAll Tryd.prog os Rows.jsonvalEncodeUptoRow.laid).forCall (fun _ _ => 0) ⟨#[], wArgs, []⟩).memory Tryd.f3.params.toList Rows.jsonvalEncodeSpec.vars false wArgs.toList 8 =
  some ([.agg [.lit (.int .i64 0), .lit (.int .i64 0), .lit (.string []), .nil, .nil]], [], []) := by kernel_rfl
 refine returnsInHanded_of_row (C := Tryd.checked) (s := Rows.OpenSpec.upto Rows.jsonvalEncodeSpec) own started (by kernel_rfl) Tryd.func3
  (witness_row_at (enc := enc) (C := Tryd.checked) false (World.laidAll Tryd.prog os Rows.jsonvalEncodeUptoRow.laid) wArgs (World.laidAll_os _ _ _) (by kernel_rfl) (by kernel_rfl) (by kernel_rfl)
   (OpenSpec.preRow_of_cond 8 hx (by kernel_rfl) (fun k hk => by cases hk; kernel_rfl) (by kernel_rfl) (by rw [MakeChecks.laidMetH_plain _ _ _ (by kernel_rfl)]; exact laidMet_laidAll _ (by kernel_rfl) (by kernel_rfl)))) ?_
 intro W base args ds gs before hval hW _ hcond hsz hL _ _
 exact z9m H enc W base args ds gs before hval hW (hcond _ rfl) hsz hL
theorem zj4 : Rows.JsonvalEncodeUptoSaid :=
 OpenClaim.holds_of_cond 3 Tryd.f3 rfl rfl rfl rfl rfl rfl rfl ⟨rfl, rfl, rfl, rfl, rfl⟩ rfl rfl rfl rfl rfl (by kernel_rfl) Tryd.func3 (by kernel_rfl)
  (of_decide_eq_true (by kernel_rfl)) (by unfold Func.isWrapper; first | (rw [if_pos (by decide +kernel)]; kernel_rfl) | (rw [if_neg (by decide +kernel)]; exact ⟨rfl, rfl⟩))
  (fun os started H enc _ F => by rw [OpenClaim.pre_eq_preRow]; exact zqo os started H enc F)
theorem plain (f : FuncId) (fn : Func) (hf : Tryd.pinned.checked.prog.funcNamed "glossator/glossatorlaw3.JsonvalEncode" = some f) (hfn : Tryd.pinned.checked.prog.funcs[f]? = some fn) :
 true = Tryd.pinned.checked.prog.looks [] ∧ ∀ (j : Nat) t, fn.params[j]? = some t → Tryd.pinned.checked.prog.wantsStandIn t = false := by
 obtain rfl : f = 3 := Option.some.inj ((show Tryd.prog.funcNamed "glossator/glossatorlaw3.JsonvalEncode" = some 3 by kernel_rfl).symm.trans hf) |>.symm
 obtain rfl : fn = Tryd.f3 := (Option.some.inj (Tryd.func3.symm.trans hfn)).symm
 refine ⟨by kernel_rfl, fun j t ht => ?_⟩
 rw [Tryd.params3] at ht
 have hm : t ∈ [25] := by simpa using Array.mem_of_getElem? ht
 have hall : ([25].all fun u => !Tryd.prog.wantsStandIn u) = true := by kernel_rfl
 exact (show Tryd.prog.wantsStandIn t = false by simpa using List.all_eq_true.1 hall t hm)
theorem holds : Rows.JsonvalEncodeUptoCardSaid :=
 Claim7.holds_tied_plain_at .later [] _ _ _ _ zj4 (fun _ h => by cases h) (by kernel_rfl) (fun _ h => by cases h) jsonvalEncodeUpto_row_tie rfl ⟨rfl, rfl⟩ (by kernel_rfl) rfl plain (by kernel_rfl)
end Go.Proofs.YtdgkalljlomjnaaDoor
