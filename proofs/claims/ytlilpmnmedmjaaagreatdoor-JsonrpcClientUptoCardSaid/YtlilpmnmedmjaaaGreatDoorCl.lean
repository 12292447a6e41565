/-
  The card: JsonrpcClient within the bound.
-/
import Derived.Test.YtlilpmnmedmjaaaGreatDoorLaw1
import Derived.WalkKit
import Derived.ProofKit
import Derived.OpenShut
import Derived.SizedLaws
import Derived.Lay
import Derived.LaidOnce
import Derived.SevenTiedAt
import Derived.Deep.DeepHandedRow
import Derived.Test.YtlilpmnmedmjaaaGreatDoorCards
import Derived.Test.YtlilpmnmedmjaaaGreatDoorTie
namespace Go.Proofs.YtlilpmnmedmjaaaGreatDoor
open Go.ChangeShapes Go.WideShapes Go.ChangeAt Go.RowKit Go.Fx
set_option linter.unusedVariables false
theorem own:ownKnob Tryz.prog.godebug=none:=by kernel_rfl
def wArgs:Array Value:=#[.slice none 0 0,.slice none 0 0]
set_option maxRecDepth 20000 in
theorem ze4(H:Type)(enc:TypeId×Value→H)(W:World)(base:Nat)(args:Array Value)(ds gs:List (DataW H))(before:List MemPlace)
 (hval:∀ (j:Nat) t v,Tryz.f3.params[j]?=some t→args[j]?=some v→Value.okWide Tryz.prog W .any base t v)
 (hW:DataW.Whole enc Tryz.prog Tryz.f3.params.toList Rows.jsonrpcClientSpec.vars false W args.toList ds gs before) (hk:Rows.uptoSmall H (ds++gs)=true)
 (hsz:(DataW.weightsEach Tryz.prog (Tryz.f3.params.toList++Rows.jsonrpcClientSpec.plain.varTypes Tryz.prog) (ds++gs)).all (·≤reachBytes)=true)
 (hL:laidMetH Tryz.prog Rows.jsonrpcClientUptoRow.laid W) :
 Calls Tryz.prog 3 args W fun e W'=>∃v,e=.returned v∧Rows.jsonrpcClientSpec.post enc Tryz.prog Tryz.f3 false true false false W args v W':=by
 refine z5i (s:=Rows.jsonrpcClientSpec) (tb:=4) zwd [22,23] (by rw[Tryz.params3]) rfl rfl Tryz.underlying4 (by kernel_rfl) ?_ hval hW hsz (zv5 (by kernel_rfl) (by simp[Rows.jsonrpcClientUptoRow]) (by simp[Rows.jsonrpcClientUptoRow]) hL) ?_
 ·intro ds hlen
  match ds,hlen with
  |[_,_],_=>exact⟨rfl,rfl,rfl⟩
 ·intro ps h1 h2 h3
  obtain⟨⟨x,y,u⟩,⟨k1,k2,⟨hx0,hx⟩,_,hk12⟩,hlen,hrep⟩:=rvs h1 h2 h3
  have:=zrh hk
  exact⟨_,y2i (y3y (ms:=x) (a1:=y) hx0 (fun z hz=>by have:=hx z hz;omega)),hlen,hrep⟩
set_option maxRecDepth 100000 in
theorem y0m(os:Os)(started:os.Started)(H:Type)(enc:TypeId×Value→H)(F:Stop.Interp) :
 ReturnsInHanded {} Tryz.checked os 3 .any ((Rows.OpenSpec.upto Rows.jsonrpcClientSpec).preRow enc Tryz.prog Tryz.f3 Rows.jsonrpcClientUptoRow.domain false Rows.jsonrpcClientUptoRow.laid) (((Rows.OpenSpec.upto Rows.jsonrpcClientSpec).at F).post enc Tryz.prog Tryz.f3 false true false false):=by
 have hx:DataW.whole enc Tryz.prog ((World.laidAll Tryz.prog os Rows.jsonrpcClientUptoRow.laid).forCall (fun _ _=>0) ⟨#[],wArgs,[]⟩).memory Tryz.f3.params.toList Rows.jsonrpcClientSpec.vars false wArgs.toList 8 =
  some ([.nil,.nil],[],[]):=by kernel_rfl
 refine returnsInHanded_of_row (C:=Tryz.checked) (s:=Rows.OpenSpec.upto Rows.jsonrpcClientSpec) own started (by kernel_rfl) Tryz.func3
  (witness_row_at (enc:=enc) (C:=Tryz.checked) false (World.laidAll Tryz.prog os Rows.jsonrpcClientUptoRow.laid) wArgs (World.laidAll_os _ _ _) (by kernel_rfl) (by kernel_rfl) (by kernel_rfl)
   (OpenSpec.preRow_of_cond 8 hx (by kernel_rfl) (fun k hk=>by cases hk;kernel_rfl) (by kernel_rfl) (by rw[MakeChecks.laidMetH_plain _ _ _ (by kernel_rfl)];exact laidMet_laidAll _ (by kernel_rfl) (by kernel_rfl)))) ?_
 intro W base args ds gs before hval hW _ hcond hsz hL _ _
 exact ze4 H enc W base args ds gs before hval hW (hcond _ rfl) hsz hL
theorem zql:Rows.JsonrpcClientUptoSaid:=
 OpenClaim.holds_of_cond 3 Tryz.f3 rfl rfl rfl rfl rfl rfl rfl ⟨rfl,rfl,rfl,rfl,rfl⟩ rfl rfl rfl rfl rfl (by kernel_rfl) Tryz.func3 (by kernel_rfl)
  (of_decide_eq_true (by kernel_rfl)) (by unfold Func.isWrapper;first|(rw[if_pos (by decide +kernel)];kernel_rfl)|(rw[if_neg (by decide +kernel)];exact⟨rfl,rfl⟩))
  (fun os started H enc _ F=>by rw[OpenClaim.pre_eq_preRow];exact y0m os started H enc F)
theorem plain (f:FuncId) (fn:Func) (hf:Tryz.pinned.checked.prog.funcNamed "glossator/glossatorlaw3.JsonrpcClient"=some f) (hfn:Tryz.pinned.checked.prog.funcs[f]?=some fn) :
 false=Tryz.pinned.checked.prog.looks []∧∀ (j:Nat) t,fn.params[j]?=some t→Tryz.pinned.checked.prog.wantsStandIn t=false:=by
 obtain rfl:f=3:=Option.some.inj ((show Tryz.prog.funcNamed "glossator/glossatorlaw3.JsonrpcClient"=some 3 by kernel_rfl).symm.trans hf) |>.symm
 obtain rfl:fn=Tryz.f3:=(Option.some.inj (Tryz.func3.symm.trans hfn)).symm
 refine⟨by kernel_rfl,fun j t ht=>?_⟩
 rw[Tryz.params3] at ht
 match j,ht with
 |0,ht=>obtain rfl:t=22:=by simpa using ht.symm
        exact(show Tryz.prog.wantsStandIn 22=false by kernel_rfl)
 |1,ht=>obtain rfl:t=23:=by simpa using ht.symm
        exact(show Tryz.prog.wantsStandIn 23=false by kernel_rfl)
 |j+2,ht=>simp at ht
theorem holds:Rows.JsonrpcClientUptoCardSaid:=
 Claim7.holds_tied_plain_at .later [] _ _ _ _ zql (fun _ h=>by cases h) (by kernel_rfl) (fun _ h=>by cases h) jsonrpcClientUpto_row_tie rfl ⟨rfl,rfl⟩ (by kernel_rfl) rfl plain (by kernel_rfl)
end Go.Proofs.YtlilpmnmedmjaaaGreatDoor
