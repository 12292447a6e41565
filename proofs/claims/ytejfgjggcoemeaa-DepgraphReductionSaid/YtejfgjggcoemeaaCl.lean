/-
  Own text Cl of this claim: what functions of the given program compute, in plain Lean, and the proof; no condition.
-/
import Derived.Test.YtejfgjggcoemeaaLf
import Derived.Test.YtejfgjggcoemeaaFxU
import Derived.Test.YtejfgjggcoemeaaRows
import Derived.WalkKit
import Derived.ProofKit
import Derived.OpenShut
import Derived.SizedLaws
namespace Go.Proofs.Ytejfgjggcoemeaa
open Go.ChangeShapes Go.WideShapes Go.ChangeAt Go.RowKit Go.Fx
set_option linter.unusedVariables false
theorem own:ownKnob Try.prog.godebug=none:=by kernel_rfl
theorem zo1:laidOutB Try.prog=true:=by kernel_rfl
theorem c3:Try.prog.cellsOf 3=1:=by kernel_rfl
theorem c24:Try.prog.cellsOf 24=3:=by kernel_rfl
theorem c44:Try.prog.cellsOf 44=6:=by kernel_rfl
theorem c22:Try.prog.cellsOf 22=1:=by kernel_rfl
theorem b44:Try.prog.bytesOf 44=48:=by kernel_rfl
theorem ra3:RA Try.prog 3 Int (fun(x:Int)=>[.int .i64 x]) zsb:=RA.map (RA.int Try.underlying3 c3) (fun x=>x) (fun _=>rfl) (fun y=>⟨y,rfl⟩) (fun _ h=>h)
theorem ztm:RA Try.prog 24 G_QKey (fun(x:G_QKey)=>[.int .i64 x.f_Kind,.int .i64 x.f_A,.int .i64 x.f_B]) z87:=by
 refine RA.map (RA.structN Try.underlying24 c24 (RF.cons (P:=Try.prog) (off:=0) (tot:=2) (m:=1) rfl c3 ra3 (RF.cons (P:=Try.prog) (off:=1) (tot:=1) (m:=1) rfl c3 ra3 (RF.cons (P:=Try.prog) (off:=2) (tot:=0) (m:=1) rfl c3 ra3 (RF.nil (P:=Try.prog) 3))))) (fun x=>(⟨x.1,x.2.1,x.2.2.1⟩:G_QKey)) (fun _=>rfl) (fun y=>⟨(y.f_Kind,y.f_A,y.f_B,()),rfl⟩) (fun x h=>⟨h.1,h.2.1,h.2.2.1⟩)
theorem zu2:RA Try.prog 44 G_QEdge (fun(x:G_QEdge)=>[.int .i64 x.f_From.f_Kind,.int .i64 x.f_From.f_A,.int .i64 x.f_From.f_B,.int .i64 x.f_To.f_Kind,.int .i64 x.f_To.f_A,.int .i64 x.f_To.f_B]) z23:=by
 refine RA.map (RA.structN Try.underlying44 c44 (RF.cons (P:=Try.prog) (off:=0) (tot:=3) (m:=3) rfl c24 ztm (RF.cons (P:=Try.prog) (off:=3) (tot:=0) (m:=3) rfl c24 ztm (RF.nil (P:=Try.prog) 6)))) (fun x=>(⟨x.1,x.2.1⟩:G_QEdge)) (fun _=>rfl) (fun y=>⟨(y.f_From,y.f_To,()),rfl⟩) (fun x h=>⟨h.1,h.2.1⟩)
set_option maxRecDepth 20000 in
theorem zuh:RV Try.prog 22 (List G_QEdge) (fun l=>.isl 6 (l.map z6) false) z79:=by
 intro H enc w v d ps base hv hd hw
 obtain⟨x,h1,h2⟩:=RV.slice (P:=Try.prog) Try.underlying22 c22 (by rw[c44];decide) zu2 hv hd hw
 rw[c44] at h2
 rw[b44] at h1
 exact⟨x,h1,h2⟩
set_option maxRecDepth 20000 in
theorem zqb(os:Os)(started:os.Started)(H:Type)(enc:TypeId×Value→H) :
 ReturnsInHanded Rows.depgraphReductionRow.assume Try.checked os 6 .any (Rows.depgraphReductionSpec.pre6 enc Try.prog Try.f6 Rows.depgraphReductionRow.domain false) (Rows.depgraphReductionSpec.post enc Try.prog Try.f6 false true false false):=by
 refine returnsInHanded_of_change_sized (C:=Try.checked) own started (by kernel_rfl) Try.func6
  (ChangeSpec.witness6 (enc:=enc) (C:=Try.checked) false ⟨#[],#[.slice none 0 0],[]⟩ 8 (by kernel_rfl) (by kernel_rfl) (by kernel_rfl) (by kernel_rfl)) ?_
 intro W base args ds gs before hval hW _ hsz _
 refine z3k (s:=Rows.depgraphReductionSpec) (tb:=4) zo1 [22] (by rw[Try.params6]) rfl rfl Try.underlying4 (by kernel_rfl)
  (RVs.cons zuh RVs.nil) ?_ ?_ hval hW hsz
 ·rintro⟨a0,_⟩ ⟨h0,_⟩
  exact zsw (zsy h0)
 ·intro ds hlen
  match ds,hlen with
  |[_],_=>exact⟨rfl,rfl,rfl⟩
theorem holds:Rows.DepgraphReductionSaid:=
 OpenClaim.holds_of_wide 6 Try.f6 rfl rfl rfl rfl rfl rfl rfl ⟨rfl,rfl,rfl,rfl,rfl⟩ rfl rfl rfl rfl rfl (by kernel_rfl) Try.func6 (by kernel_rfl)
  (of_decide_eq_true (by kernel_rfl)) (by unfold Func.isWrapper;first|(rw[if_pos (by decide +kernel)];kernel_rfl)|(rw[if_neg (by decide +kernel)];exact⟨rfl,rfl⟩))
  (fun os started H enc _=>zqb os started H enc)
end Go.Proofs.Ytejfgjggcoemeaa
