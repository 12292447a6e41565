/-
  The card: JsonrpcServer within the bound.
-/
import Derived.Test.YtlilpmnmedmjaaaDoorLaw1
import Derived.WalkKit
import Derived.ProofKit
import Derived.OpenShut
import Derived.SizedLaws
import Derived.Lay
import Derived.LaidOnce
import Derived.SevenTiedAt
import Derived.Deep.DeepHandedRow
import Derived.Test.YtlilpmnmedmjaaaDoorCards
import Derived.Test.YtlilpmnmedmjaaaDoorTie
namespace Go.Proofs.YtlilpmnmedmjaaaDoor
open Go.ChangeShapes Go.WideShapes Go.ChangeAt Go.RowKit Go.Fx
set_option linter.unusedVariables false
theorem own:ownKnob Tryd.prog.godebug=none:=by kernel_rfl
def wArgs:Array Value:=#[.slice none 0 0,.slice none 0 0]
set_option maxRecDepth 20000 in
theorem zhz(H:Type)(enc:TypeId×Value→H)(W:World)(base:Nat)(args:Array Value)(ds gs:List (DataW H))(before:List MemPlace)
 (hval:∀ (j:Nat) t v,Tryd.f3.params[j]?=some t→args[j]?=some v→Value.okWide Tryd.prog W .any base t v)
 (hW:DataW.Whole enc Tryd.prog Tryd.f3.params.toList Rows.jsonrpcServerSpec.vars false W args.toList ds gs before) (hk:Rows.uptoSmall H (ds++gs)=true)
 (hsz:(DataW.weightsEach Tryd.prog (Tryd.f3.params.toList++Rows.jsonrpcServerSpec.plain.varTypes Tryd.prog) (ds++gs)).all (·≤reachBytes)=true)
 (hL:laidMetH Tryd.prog Rows.jsonrpcServerUptoRow.laid W) :
 Calls Tryd.prog 3 args W fun e W'=>∃v,e=.returned v∧Rows.jsonrpcServerSpec.post enc Tryd.prog Tryd.f3 false true false false W args v W':=by
 refine z6d (s:=Rows.jsonrpcServerSpec) (tb:=4) y1e [22,23] (by rw[Tryd.params3]) rfl rfl Tryd.underlying4 (by kernel_rfl) ?_ hval hW hsz (y16 (by kernel_rfl) (by simp[Rows.jsonrpcServerUptoRow]) (by simp[Rows.jsonrpcServerUptoRow]) hL) ?_
 ·intro ds hlen
  match ds,hlen with
  |[_,_],_=>exact⟨rfl,rfl,rfl⟩
 ·intro ps h1 h2 h3
  obtain⟨⟨x,y,u⟩,⟨k1,k2,⟨hx0,hx⟩,_,hk12⟩,hlen,hrep⟩:=rvs h1 h2 h3
  have:=zw3 hk
  exact⟨_,y6o (y89 (ms:=x) (a1:=y) hx0 (fun z hz=>by have:=hx z hz;omega)),hlen,hrep⟩
set_option maxRecDepth 100000 in
theorem y3d(os:Os)(started:os.Started)(H:Type)(enc:TypeId×Value→H)(F:Stop.Interp) :
 ReturnsInHanded {} Tryd.checked os 3 .any ((Rows.OpenSpec.upto Rows.jsonrpcServerSpec).preRow enc Tryd.prog Tryd.f3 Rows.jsonrpcServerUptoRow.domain false Rows.jsonrpcServerUptoRow.laid) (((Rows.OpenSpec.upto Rows.jsonrpcServerSpec).at F).post enc Tryd.prog Tryd.f3 false true false false):=by
 have hx:DataW.whole enc Tryd.prog ((World.laidAll Tryd.prog os Rows.jsonrpcServerUptoRow.laid).forCall (fun _ _=>0) ⟨#[],wArgs,[]⟩).memory Tryd.f3.params.toList Rows.jsonrpcServerSpec.vars false wArgs.toList 8 =
  some ([.nil,.nil],[],[]):=by kernel_rfl
 refine returnsInHanded_of_row (C:=Tryd.checked) (s:=Rows.OpenSpec.upto Rows.jsonrpcServerSpec) own started (by kernel_rfl) Tryd.func3
  (witness_row_at (enc:=enc) (C:=Tryd.checked) false (World.laidAll Tryd.prog os Rows.jsonrpcServerUptoRow.laid) wArgs (World.laidAll_os _ _ _) (by kernel_rfl) (by kernel_rfl) (by kernel_rfl)
   (OpenSpec.preRow_of_cond 8 hx (by kernel_rfl) (fun k hk=>by cases hk;kernel_rfl) (by kernel_rfl) (by rw[MakeChecks.laidMetH_plain _ _ _ (by kernel_rfl)];exact laidMet_laidAll _ (by kernel_rfl) (by kernel_rfl)))) ?_
 intro W base args ds gs before hval hW _ hcond hsz hL _ _
 exact zhz H enc W base args ds gs before hval hW (hcond _ rfl) hsz hL
theorem zuv:Rows.JsonrpcServerUptoSaid:=
 OpenClaim.holds_of_cond 3 Tryd.f3 rfl rfl rfl rfl rfl rfl rfl ⟨rfl,rfl,rfl,rfl,rfl⟩ rfl rfl rfl rfl rfl (by kernel_rfl) Tryd.func3 (by kernel_rfl)
  (of_decide_eq_true (by kernel_rfl)) (by unfold Func.isWrapper;first|(rw[if_pos (by decide +kernel)];kernel_rfl)|(rw[if_neg (by decide +kernel)];exact⟨rfl,rfl⟩))
  (fun os started H enc _ F=>by rw[OpenClaim.pre_eq_preRow];exact y3d os started H enc F)
theorem plain (f:FuncId) (fn:Func) (hf:Tryd.pinned.checked.prog.funcNamed "glossator/glossatorlaw3.JsonrpcServer"=some f) (hfn:Tryd.pinned.checked.prog.funcs[f]?=some fn) :
 false=Tryd.pinned.checked.prog.looks []∧∀ (j:Nat) t,fn.params[j]?=some t→Tryd.pinned.checked.prog.wantsStandIn t=false:=by
 obtain rfl:f=3:=Option.some.inj ((show Tryd.prog.funcNamed "glossator/glossatorlaw3.JsonrpcServer"=some 3 by kernel_rfl).symm.trans hf) |>.symm
 obtain rfl:fn=Tryd.f3:=(Option.some.inj (Tryd.func3.symm.trans hfn)).symm
 refine⟨by kernel_rfl,fun j t ht=>?_⟩
 rw[Tryd.params3] at ht
 match j,ht with
 |0,ht=>obtain rfl:t=22:=by simpa using ht.symm
        exact(show Tryd.prog.wantsStandIn 22=false by kernel_rfl)
 |1,ht=>obtain rfl:t=23:=by simpa using ht.symm
        exact(show Tryd.prog.wantsStandIn 23=false by kernel_rfl)
 |j+2,ht=>simp at ht
theorem holds:Rows.JsonrpcServerUptoCardSaid:=
 Claim7.holds_tied_plain_at .later [] _ _ _ _ zuv (fun _ h=>by cases h) (by kernel_rfl) (fun _ h=>by cases h) jsonrpcServerUpto_row_tie rfl ⟨rfl,rfl⟩ (by kernel_rfl) rfl plain (by kernel_rfl)
end Go.Proofs.YtlilpmnmedmjaaaDoor
