/-
  Own text ClA of this claim: what functions of the given program compute, in plain Lean, and the proof; no condition.
-/
import Derived.Test.YtjkfnbjgpilokaaGreatDoorLaw1
import Derived.Test.YtjkfnbjgpilokaaGreatDoorRows
import Derived.WalkKit
import Derived.ProofKit
import Derived.OpenShut
import Derived.SizedLaws
import Derived.Lay
import Derived.LaidOnce
import Derived.SevenTiedAt
import Derived.MakeChecks
import Derived.Test.YtjkfnbjgpilokaaGreatDoorCards
import Derived.Test.YtjkfnbjgpilokaaGreatDoorTie
namespace Go.Proofs.YtjkfnbjgpilokaaGreatDoor
open Go.ChangeShapes Go.WideShapes Go.ChangeAt Go.RowKit Go.Fx
set_option linter.unusedVariables false
theorem own:ownKnob Tryz.prog.godebug=none:=by kernel_rfl
theorem zqx:laidOutB Tryz.prog=true:=by kernel_rfl
theorem c9:Tryz.prog.cellsOf 9=1:=by kernel_rfl
theorem c48:Tryz.prog.cellsOf 48=2:=by kernel_rfl
theorem c22:Tryz.prog.cellsOf 22=1:=by kernel_rfl
theorem c3:Tryz.prog.cellsOf 3=1:=by kernel_rfl
theorem c59:Tryz.prog.cellsOf 59=3:=by kernel_rfl
theorem c61:Tryz.prog.cellsOf 61=4:=by kernel_rfl
theorem c23:Tryz.prog.cellsOf 23=1:=by kernel_rfl
theorem b48:Tryz.prog.bytesOf 48=32:=by kernel_rfl
theorem b61:Tryz.prog.bytesOf 61=40:=by kernel_rfl
theorem ra9:RA Tryz.prog 9 (List UInt8) (fun(x:List UInt8)=>[.str x]) ztc:=RA.map (RA.string Tryz.underlying9 c9) (fun x=>x) (fun _=>rfl) (fun y=>⟨y,rfl⟩) (fun _ h=>h)
theorem zyh:RA Tryz.prog 48 G_Module (fun(x:G_Module)=>[.str x.f_Name,.str x.f_Source]) U2:=by
 refine RA.map (RA.structN Tryz.underlying48 c48 (RF.cons (P:=Tryz.prog) (off:=0) (tot:=1) (m:=1) rfl c9 ra9 (RF.cons (P:=Tryz.prog) (off:=1) (tot:=0) (m:=1) rfl c9 ra9 (RF.nil (P:=Tryz.prog) 2)))) (fun x=>(⟨x.1,x.2.1⟩:G_Module)) (fun _=>rfl) (fun y=>⟨(y.f_Name,y.f_Source,()),rfl⟩) (fun x h=>⟨h.1,h.2.1⟩)
set_option maxRecDepth 20000 in
theorem zyg:RV Tryz.prog 22 (List G_Module) (fun l=>.isl 2 (l.map z6) false) z4t:=by
 intro H enc w v d ps base hv hd hw
 obtain⟨x,h1,h2⟩:=RV.slice (P:=Tryz.prog) Tryz.underlying22 c22 (by rw[c48];decide) zyh hv hd hw
 rw[c48] at h2
 rw[b48] at h1
 exact⟨x,h1,h2⟩
theorem ra3:RA Tryz.prog 3 Int (fun(x:Int)=>[.int .i64 x]) zt5:=RA.map (RA.int Tryz.underlying3 c3) (fun x=>x) (fun _=>rfl) (fun y=>⟨y,rfl⟩) (fun _ h=>h)
theorem zym:RA Tryz.prog 59 G_TextEdit (fun(x:G_TextEdit)=>[.int .i64 x.f_Start,.int .i64 x.f_End,.str x.f_NewText]) Uw:=by
 refine RA.map (RA.structN Tryz.underlying59 c59 (RF.cons (P:=Tryz.prog) (off:=0) (tot:=2) (m:=1) rfl c3 ra3 (RF.cons (P:=Tryz.prog) (off:=1) (tot:=1) (m:=1) rfl c3 ra3 (RF.cons (P:=Tryz.prog) (off:=2) (tot:=0) (m:=1) rfl c9 ra9 (RF.nil (P:=Tryz.prog) 3))))) (fun x=>(⟨x.1,x.2.1,x.2.2.1⟩:G_TextEdit)) (fun _=>rfl) (fun y=>⟨(y.f_Start,y.f_End,y.f_NewText,()),rfl⟩) (fun x h=>⟨h.1,h.2.1,h.2.2.1⟩)
theorem zyn:RA Tryz.prog 61 G_FileEdit (fun(x:G_FileEdit)=>[.int .i64 x.f_Module,.int .i64 x.f_TextEdit.f_Start,.int .i64 x.f_TextEdit.f_End,.str x.f_TextEdit.f_NewText]) Jc:=by
 refine RA.map (RA.structN Tryz.underlying61 c61 (RF.cons (P:=Tryz.prog) (off:=0) (tot:=3) (m:=1) rfl c3 ra3 (RF.cons (P:=Tryz.prog) (off:=1) (tot:=0) (m:=3) rfl c59 zym (RF.nil (P:=Tryz.prog) 4)))) (fun x=>(⟨x.1,x.2.1⟩:G_FileEdit)) (fun _=>rfl) (fun y=>⟨(y.f_Module,y.f_TextEdit,()),rfl⟩) (fun x h=>⟨h.1,h.2.1⟩)
set_option maxRecDepth 20000 in
theorem zyd:RV Tryz.prog 23 (List G_FileEdit) (fun l=>.isl 4 (l.map z8) false) z0p:=by
 intro H enc w v d ps base hv hd hw
 obtain⟨x,h1,h2⟩:=RV.slice (P:=Tryz.prog) Tryz.underlying23 c23 (by rw[c61];decide) zyn hv hd hw
 rw[c61] at h2
 rw[b61] at h1
 exact⟨x,h1,h2⟩
set_option maxRecDepth 100000 in
theorem lifted(os:Os)(started:os.Started)(H:Type)(enc:TypeId×Value→H) :
 ReturnsInHanded Rows.referencesApplyEditsEqualsReferenceRow.assume Tryz.checked os 3 .any (fun w args=>(Rows.referencesApplyEditsEqualsReferenceSpec.pre enc Tryz.prog Tryz.f3 Rows.referencesApplyEditsEqualsReferenceRow.domain false w args∧laidMetH Tryz.prog Rows.referencesApplyEditsEqualsReferenceRow.laid w)∧sizedMet enc Tryz.prog Tryz.f3 (OpenSpec.ofChange Rows.referencesApplyEditsEqualsReferenceSpec) false w args) (Rows.referencesApplyEditsEqualsReferenceSpec.post enc Tryz.prog Tryz.f3 false true false false):=by
 refine returnsInHanded_of_change_and (C:=Tryz.checked) (X:=fun w _=>laidMetH Tryz.prog Rows.referencesApplyEditsEqualsReferenceRow.laid w) (fun _ _ _ hh h=>h.of_heap hh) own started (by kernel_rfl) Tryz.func3
  (ChangeSpec.witness_shaped (enc:=enc) (C:=Tryz.checked) (os:=os) (X:=fun w _=>laidMetH Tryz.prog Rows.referencesApplyEditsEqualsReferenceRow.laid w) false (World.laidAll Tryz.prog os Rows.referencesApplyEditsEqualsReferenceRow.laid) #[.slice none 0 0,.slice none 0 0] 8 (World.laidAll_os _ _ _)
   (World.shaped_of_ZipB (by kernel_rfl) (by kernel_rfl)) (by kernel_rfl) (by kernel_rfl) (by kernel_rfl)
   (by rw[MakeChecks.laidMetH_plain _ _ _ (by kernel_rfl)];exact laidMet_laidAll _ (by kernel_rfl) (by kernel_rfl))) ?_
 intro W base args ds gs before hval hW _ hsz hL _
 refine z6c (s:=Rows.referencesApplyEditsEqualsReferenceSpec) (tb:=4) zqx [22,23] (by rw[Tryz.params3]) rfl rfl Tryz.underlying4 (by kernel_rfl)
  (RVs.cons zyg (RVs.cons zyd RVs.nil)) ?_ ?_ hval hW hsz (zro (by kernel_rfl) (by simp[Rows.referencesApplyEditsEqualsReferenceRow]) hL)
 ·rintro⟨a0,a1,_⟩ ⟨h0,h1,_⟩
  exact zwb (zy5 ⟨h0,h1⟩)
 ·intro ds hlen
  match ds,hlen with
  |[_,_],_=>exact⟨rfl,rfl,rfl⟩
end Go.Proofs.YtjkfnbjgpilokaaGreatDoor
