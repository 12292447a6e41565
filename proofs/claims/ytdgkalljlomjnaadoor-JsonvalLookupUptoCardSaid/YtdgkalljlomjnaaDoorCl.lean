/-
  The card: JsonvalLookup within the bound.
-/
import Derived.Test.YtdgkalljlomjnaaDoorOk
import Derived.WalkKit
import Derived.ProofKit
import Derived.OpenShut
import Derived.SizedLaws
import Derived.Lay
import Derived.LaidOnce
import Derived.SevenTiedAt
import Derived.Deep.DeepHandedRow
import Derived.Test.YtdgkalljlomjnaaDoorCards
import Derived.Test.YtdgkalljlomjnaaDoorTie
namespace Go.Proofs.YtdgkalljlomjnaaDoor
open Go.ChangeShapes Go.WideShapes Go.ChangeAt Go.RowKit Go.Fx
set_option linter.unusedVariables false
theorem own : ownKnob Tryd.prog.godebug = none := by kernel_rfl
def wArgs : Array Value := #[.agg #[.int .i64 0, .int .i64 0, .string ⟨#[]⟩, .slice none 0 0, .slice none 0 0], .agg #[.int .i64 0, .int .i64 0, .string ⟨#[]⟩, .slice none 0 0, .slice none 0 0], .string ⟨#[]⟩]
set_option maxRecDepth 20000 in
theorem zbv (H : Type) (enc : TypeId × Value → H) (W : World) (base : Nat) (args : Array Value) (ds gs : List (DataW H)) (before : List MemPlace)
 (hval : ∀ (j : Nat) t v, Tryd.f5.params[j]? = some t → args[j]? = some v → Value.okWide Tryd.prog W .any base t v)
 (hW : DataW.Whole enc Tryd.prog Tryd.f5.params.toList Rows.jsonvalLookupSpec.vars false W args.toList ds gs before) (hk : Rows.uptoSmall H (ds ++ gs) = true)
 (hsz : (DataW.weightsEach Tryd.prog (Tryd.f5.params.toList ++ Rows.jsonvalLookupSpec.plain.varTypes Tryd.prog) (ds ++ gs)).all (· ≤ reachBytes) = true)
 (hL : laidMetH Tryd.prog Rows.jsonvalLookupUptoRow.laid W) :
 Calls Tryd.prog 5 args W fun e W' => ∃ v, e = .returned v ∧ Rows.jsonvalLookupSpec.post enc Tryd.prog Tryd.f5 false true false false W args v W' := by
 refine z35 (s := Rows.jsonvalLookupSpec) (tb := 4) zqf [25, 25, 9] (by rw [Tryd.params5]) rfl rfl Tryd.underlying4 (by kernel_rfl) ?_ hval hW hsz (zoi (by kernel_rfl) (by simp [Rows.jsonvalLookupUptoRow]) (by simp [Rows.jsonvalLookupUptoRow]) hL) ?_
 ·intro ds hlen
  match ds, hlen with
  | [_, _, _], _ => exact ⟨rfl, rfl, rfl⟩
 ·intro ps h1 h2 h3
  obtain ⟨⟨x, y, z, u⟩, ⟨k1, k2, hx, ⟨k3, k4, hy, _, hk34⟩, hk12⟩, hlen, hrep⟩ := zvo h1 h2 h3
  have := zm4 hk
  exact ⟨_, zus (zvx x y z (by simp only at hx; unfold J.ok; omega) (by simp only at hy; unfold J.ok; omega)), hlen, hrep⟩
set_option maxRecDepth 100000 in
theorem zrm (os : Os) (started : os.Started) (H : Type) (enc : TypeId × Value → H) (F : Stop.Interp) :
 ReturnsInHanded {} Tryd.checked os 5 .any ((Rows.OpenSpec.upto Rows.jsonvalLookupSpec).preRow enc Tryd.prog Tryd.f5 Rows.jsonvalLookupUptoRow.domain false Rows.jsonvalLookupUptoRow.laid) (((Rows.OpenSpec.upto Rows.jsonvalLookupSpec).at F).post enc Tryd.prog Tryd.f5 false true false false) := by
 have hx : DataW.whole enc Tryd.prog ((World.laidAll Tryd.prog os Rows.jsonvalLookupUptoRow.laid).forCall (fun _ _ => 0) ⟨#[], wArgs, []⟩).memory Tryd.f5.params.toList Rows.jsonvalLookupSpec.vars false wArgs.toList 8 =
  some ([.agg [.lit (.int .i64 0), .lit (.int .i64 0), .lit (.string []), .nil, .nil], .agg [.lit (.int .i64 0), .lit (.int .i64 0), .lit (.string []), .nil, .nil], .lit (.string [])], [], []) := by kernel_rfl
 refine returnsInHanded_of_row (C := Tryd.checked) (s := Rows.OpenSpec.upto Rows.jsonvalLookupSpec) own started (by kernel_rfl) Tryd.func5
  (witness_row_at (enc := enc) (C := Tryd.checked) false (World.laidAll Tryd.prog os Rows.jsonvalLookupUptoRow.laid) wArgs (World.laidAll_os _ _ _) (by kernel_rfl) (by kernel_rfl) (by kernel_rfl)
   (OpenSpec.preRow_of_cond 8 hx (by kernel_rfl) (fun k hk => by cases hk; kernel_rfl) (by kernel_rfl) (by rw [MakeChecks.laidMetH_plain _ _ _ (by kernel_rfl)]; exact laidMet_laidAll _ (by kernel_rfl) (by kernel_rfl)))) ?_
 intro W base args ds gs before hval hW _ hcond hsz hL _ _
 exact zbv H enc W base args ds gs before hval hW (hcond _ rfl) hsz hL
theorem zmd : Rows.JsonvalLookupUptoSaid :=
 OpenClaim.holds_of_cond 5 Tryd.f5 rfl rfl rfl rfl rfl rfl rfl ⟨rfl, rfl, rfl, rfl, rfl⟩ rfl rfl rfl rfl rfl (by kernel_rfl) Tryd.func5 (by kernel_rfl)
  (of_decide_eq_true (by kernel_rfl)) (by unfold Func.isWrapper; first | (rw [if_pos (by decide +kernel)]; kernel_rfl) | (rw [if_neg (by decide +kernel)]; exact ⟨rfl, rfl⟩))
  (fun os started H enc _ F => by rw [OpenClaim.pre_eq_preRow]; exact zrm os started H enc F)
theorem plain (f : FuncId) (fn : Func) (hf : Tryd.pinned.checked.prog.funcNamed "glossator/glossatorlaw3.JsonvalLookup" = some f) (hfn : Tryd.pinned.checked.prog.funcs[f]? = some fn) :
 true = Tryd.pinned.checked.prog.looks [] ∧ ∀ (j : Nat) t, fn.params[j]? = some t → Tryd.pinned.checked.prog.wantsStandIn t = false := by
 obtain rfl : f = 5 := Option.some.inj ((show Tryd.prog.funcNamed "glossator/glossatorlaw3.JsonvalLookup" = some 5 by kernel_rfl).symm.trans hf) |>.symm
 obtain rfl : fn = Tryd.f5 := (Option.some.inj (Tryd.func5.symm.trans hfn)).symm
 refine ⟨by kernel_rfl, fun j t ht => ?_⟩
 rw [Tryd.params5] at ht
 have hm : t ∈ [25, 25, 9] := by simpa using Array.mem_of_getElem? ht
 have hall : ([25, 25, 9].all fun u => !Tryd.prog.wantsStandIn u) = true := by kernel_rfl
 exact (show Tryd.prog.wantsStandIn t = false by simpa using List.all_eq_true.1 hall t hm)
theorem holds : Rows.JsonvalLookupUptoCardSaid :=
 Claim7.holds_tied_plain_at .later [] _ _ _ _ zmd (fun _ h => by cases h) (by kernel_rfl) (fun _ h => by cases h) jsonvalLookupUpto_row_tie rfl ⟨rfl, rfl⟩ (by kernel_rfl) rfl plain (by kernel_rfl)
end Go.Proofs.YtdgkalljlomjnaaDoor
