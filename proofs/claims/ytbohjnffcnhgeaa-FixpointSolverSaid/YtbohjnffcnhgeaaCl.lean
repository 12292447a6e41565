/-
  Own text Cl of this claim: what functions of the given program compute, in plain Lean, and the proof; no condition.
-/
import Derived.Test.YtbohjnffcnhgeaaLaw1
import Derived.Test.YtbohjnffcnhgeaaFc
import Derived.Test.YtbohjnffcnhgeaaRows
import Derived.WalkKit
import Derived.ProofKit
import Derived.OpenShut
import Derived.SizedLaws
namespace Go.Proofs.Ytbohjnffcnhgeaa
open Go.ChangeShapes Go.WideShapes Go.ChangeAt Go.RowKit Go.Fx
set_option linter.unusedVariables false
theorem own:ownKnob Try.prog.godebug=none:=by kernel_rfl
theorem zxr:laidOutB Try.prog=true:=by kernel_rfl
theorem c3:Try.prog.cellsOf 3=1:=by kernel_rfl
theorem c35:Try.prog.cellsOf 35=1:=by kernel_rfl
theorem c37:Try.prog.cellsOf 37=2:=by kernel_rfl
theorem c24:Try.prog.cellsOf 24=1:=by kernel_rfl
theorem c22:Try.prog.cellsOf 22=1:=by kernel_rfl
theorem c32:Try.prog.cellsOf 32=3:=by kernel_rfl
theorem c23:Try.prog.cellsOf 23=1:=by kernel_rfl
theorem b3:Try.prog.bytesOf 3=8:=by kernel_rfl
theorem b37:Try.prog.bytesOf 37=32:=by kernel_rfl
theorem b24:Try.prog.bytesOf 24=24:=by kernel_rfl
theorem b32:Try.prog.bytesOf 32=24:=by kernel_rfl
theorem ra3:RA Try.prog 3 Int (fun(x:Int)=>[.int .i64 x]) zp5:=RA.map (RA.int Try.underlying3 c3) (fun x=>x) (fun _=>rfl) (fun y=>⟨y,rfl⟩) (fun _ h=>h)
theorem y2o:RA Try.prog 35 (List Int) (fun(x:List Int)=>[.isl 1 (x.map z7) false]) zoc:=by
 have h:=RA.slice (P:=Try.prog) Try.underlying35 c35 (by rw[c3];decide) ra3
 rw[c3,b3] at h
 exact RA.map h (fun x=>x) (fun _=>rfl) (fun y=>⟨y,rfl⟩) (fun _ h=>h)
theorem y1p:RA Try.prog 37 GR (fun(x:GR)=>[.int .i64 x.fM,.isl 1 (x.fA.map z7) false]) z92:=by
 refine RA.map (RA.structN Try.underlying37 c37 (RF.cons (P:=Try.prog) (off:=0) (tot:=1) (m:=1) rfl c3 ra3 (RF.cons (P:=Try.prog) (off:=1) (tot:=0) (m:=1) rfl c35 y2o (RF.nil (P:=Try.prog) 2)))) (fun x=>(⟨x.1,x.2.1⟩:GR)) (fun _=>rfl) (fun y=>⟨(y.fM,y.fA,()),rfl⟩) (fun x h=>⟨h.1,h.2.1⟩)
theorem y24:RA Try.prog 24 (List GR) (fun(x:List GR)=>[.isl 2 (x.map z8) false]) Va:=by
 have h:=RA.slice (P:=Try.prog) Try.underlying24 c24 (by rw[c37];decide) y1p
 rw[c37,b37] at h
 exact RA.map h (fun x=>x) (fun _=>rfl) (fun y=>⟨y,rfl⟩) (fun _ h=>h)
set_option maxRecDepth 20000 in
theorem y25:RV Try.prog 22 (List (List GR)) (fun l=>.isl 1 (l.map z6) false) z5e:=by
 intro H enc w v d ps base hv hd hw
 obtain⟨x,h1,h2⟩:=RV.slice (P:=Try.prog) Try.underlying22 c22 (by rw[c24];decide) y24 hv hd hw
 rw[c24] at h2
 rw[b24] at h1
 exact⟨x,h1,h2⟩
theorem y2i:RA Try.prog 32 GS (fun(x:GS)=>[.int .i64 x.fD,.int .i64 x.fa,.int .i64 x.fb]) zdv:=by
 refine RA.map (RA.structN Try.underlying32 c32 (RF.cons (P:=Try.prog) (off:=0) (tot:=2) (m:=1) rfl c3 ra3 (RF.cons (P:=Try.prog) (off:=1) (tot:=1) (m:=1) rfl c3 ra3 (RF.cons (P:=Try.prog) (off:=2) (tot:=0) (m:=1) rfl c3 ra3 (RF.nil (P:=Try.prog) 3))))) (fun x=>(⟨x.1,x.2.1,x.2.2.1⟩:GS)) (fun _=>rfl) (fun y=>⟨(y.fD,y.fa,y.fb,()),rfl⟩) (fun x h=>⟨h.1,h.2.1,h.2.2.1⟩)
set_option maxRecDepth 20000 in
theorem y2b:RV Try.prog 23 (List GS) (fun l=>.isl 3 (l.map zr) false) zjm:=by
 intro H enc w v d ps base hv hd hw
 obtain⟨x,h1,h2⟩:=RV.slice (P:=Try.prog) Try.underlying23 c23 (by rw[c32];decide) y2i hv hd hw
 rw[c32] at h2
 rw[b32] at h1
 exact⟨x,h1,h2⟩
set_option maxRecDepth 20000 in
theorem y2e:RV Try.prog 24 (List GR) (fun l=>.isl 2 (l.map z8) false) Va:=by
 intro H enc w v d ps base hv hd hw
 obtain⟨x,h1,h2⟩:=RV.slice (P:=Try.prog) Try.underlying24 c24 (by rw[c37];decide) y1p hv hd hw
 rw[c37] at h2
 rw[b37] at h1
 exact⟨x,h1,h2⟩
set_option maxRecDepth 20000 in
theorem y0c(os:Os)(started:os.Started)(H:Type)(enc:TypeId×Value→H) :
 ReturnsInHanded Rows.fixpointSolverRow.assume Try.checked os 3 .any (Rows.fixpointSolverSpec.pre6 enc Try.prog Try.f3 Rows.fixpointSolverRow.domain false) (Rows.fixpointSolverSpec.post enc Try.prog Try.f3 false true false false):=by
 refine returnsInHanded_of_change_sized (C:=Try.checked) own started (by kernel_rfl) Try.func3
  (ChangeSpec.witness6 (enc:=enc) (C:=Try.checked) false ⟨#[],#[.slice none 0 0,.slice none 0 0,.slice none 0 0],[]⟩ 8 (by kernel_rfl) (by kernel_rfl) (by kernel_rfl) (by kernel_rfl)) ?_
 intro W base args ds gs before hval hW _ hsz _
 refine zbt (s:=Rows.fixpointSolverSpec) (tb:=4) zxr [22,23,24] (by rw[Try.params3]) rfl rfl Try.underlying4 (by kernel_rfl)
  (RVs.cons y25 (RVs.cons y2b (RVs.cons y2e RVs.nil))) ?_ ?_ hval hW hsz
 ·rintro⟨a0,a1,a2,_⟩ ⟨h0,h1,h2,_⟩
  exact y1l (y2f ⟨h0,h1,h2⟩)
 ·intro ds hlen
  match ds,hlen with
  |[_,_,_],_=>exact⟨rfl,rfl,rfl⟩
theorem holds:Rows.FixpointSolverSaid:=
 OpenClaim.holds_of_wide 3 Try.f3 rfl rfl rfl rfl rfl rfl rfl ⟨rfl,rfl,rfl,rfl,rfl⟩ rfl rfl rfl rfl rfl (by kernel_rfl) Try.func3 (by kernel_rfl)
  (of_decide_eq_true (by kernel_rfl)) (by unfold Func.isWrapper;first|(rw[if_pos (by decide +kernel)];kernel_rfl)|(rw[if_neg (by decide +kernel)];exact⟨rfl,rfl⟩))
  (fun os started H enc _=>y0c os started H enc)
end Go.Proofs.Ytbohjnffcnhgeaa
