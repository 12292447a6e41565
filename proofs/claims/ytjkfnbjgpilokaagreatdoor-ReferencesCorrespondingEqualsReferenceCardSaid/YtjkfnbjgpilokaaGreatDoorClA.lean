/-
  Own text ClA of this claim: what functions of the given program compute, in plain Lean, and the proof; no condition.
-/
import Derived.Test.YtjkfnbjgpilokaaGreatDoorLaw1
import Derived.Test.YtjkfnbjgpilokaaGreatDoorRows
import Derived.WalkKit
import Derived.ProofKit
import Derived.OpenShut
import Derived.SizedLaws
import Derived.Lay
import Derived.LaidOnce
import Derived.SevenTiedAt
import Derived.MakeChecks
import Derived.Test.YtjkfnbjgpilokaaGreatDoorCards
import Derived.Test.YtjkfnbjgpilokaaGreatDoorTie
open Go.Fx.RF renaming cons→p1
namespace Go.Proofs.YtjkfnbjgpilokaaGreatDoor
open Go.ChangeShapes Go.WideShapes Go.ChangeAt Go.RowKit Go.Fx
set_option linter.unusedVariables false
theorem own:ownKnob Tryz.prog.godebug=none:=by kernel_rfl
theorem zhz:laidOutB Tryz.prog=true:=by kernel_rfl
theorem c3:Tryz.prog.cellsOf 3=1:=by kernel_rfl
theorem c9:Tryz.prog.cellsOf 9=1:=by kernel_rfl
theorem c4:Tryz.prog.cellsOf 4=1:=by kernel_rfl
theorem c55:Tryz.prog.cellsOf 55=6:=by kernel_rfl
theorem c33:Tryz.prog.cellsOf 33=1:=by kernel_rfl
theorem c95:Tryz.prog.cellsOf 95=3:=by kernel_rfl
theorem c34:Tryz.prog.cellsOf 34=1:=by kernel_rfl
theorem c65:Tryz.prog.cellsOf 65=5:=by kernel_rfl
theorem c35:Tryz.prog.cellsOf 35=1:=by kernel_rfl
theorem c37:Tryz.prog.cellsOf 37=3:=by kernel_rfl
theorem c59:Tryz.prog.cellsOf 59=3:=by kernel_rfl
theorem c61:Tryz.prog.cellsOf 61=4:=by kernel_rfl
theorem c23:Tryz.prog.cellsOf 23=1:=by kernel_rfl
theorem c81:Tryz.prog.cellsOf 81=5:=by kernel_rfl
theorem c38:Tryz.prog.cellsOf 38=1:=by kernel_rfl
theorem b55:Tryz.prog.bytesOf 55=56:=by kernel_rfl
theorem b95:Tryz.prog.bytesOf 95=24:=by kernel_rfl
theorem b65:Tryz.prog.bytesOf 65=48:=by kernel_rfl
theorem b61:Tryz.prog.bytesOf 61=40:=by kernel_rfl
theorem b81:Tryz.prog.bytesOf 81=40:=by kernel_rfl
theorem ra3:RA Tryz.prog 3 Int (fun(x:Int)=>[.int .i64 x]) zjq:=RA.map (RA.int Tryz.underlying3 c3) (fun x=>x) (fun _=>rfl) (fun y=>⟨y,rfl⟩) (fun _ h=>h)
theorem ra9:RA Tryz.prog 9 (List UInt8) (fun(x:List UInt8)=>[.str x]) zkz:=RA.map (RA.string Tryz.underlying9 c9) (fun x=>x) (fun _=>rfl) (fun y=>⟨y,rfl⟩) (fun _ h=>h)
theorem ra4:RA Tryz.prog 4 Bool (fun(x:Bool)=>[.bool x]) zgi:=RA.map (RA.bool Tryz.underlying4 c4) (fun x=>x) (fun _=>rfl) (fun y=>⟨y,rfl⟩) (fun _ h=>h)
theorem zon:RA Tryz.prog 55 G_Symbol (fun(x:G_Symbol)=>[.int .i64 x.f_Kind,.int .i64 x.f_Module,.int .i64 x.f_Start,.int .i64 x.f_Parent,.str x.f_Name,.bool x.f_Public]) V6:=by
 refine RA.map (RA.structN Tryz.underlying55 c55 (p1 (P:=Tryz.prog) (off:=0) (tot:=5) (m:=1) rfl c3 ra3 (p1 (P:=Tryz.prog) (off:=1) (tot:=4) (m:=1) rfl c3 ra3 (p1 (P:=Tryz.prog) (off:=2) (tot:=3) (m:=1) rfl c3 ra3 (p1 (P:=Tryz.prog) (off:=3) (tot:=2) (m:=1) rfl c3 ra3 (p1 (P:=Tryz.prog) (off:=4) (tot:=1) (m:=1) rfl c9 ra9 (p1 (P:=Tryz.prog) (off:=5) (tot:=0) (m:=1) rfl c4 ra4 (RF.nil (P:=Tryz.prog) 6)))))))) (fun x=>(⟨x.1,x.2.1,x.2.2.1,x.2.2.2.1,x.2.2.2.2.1,x.2.2.2.2.2.1⟩:G_Symbol)) (fun _=>rfl) (fun y=>⟨(y.f_Kind,y.f_Module,y.f_Start,y.f_Parent,y.f_Name,y.f_Public,()),rfl⟩) (fun x h=>⟨h.1,h.2.1,h.2.2.1,h.2.2.2.1,h.2.2.2.2.1,h.2.2.2.2.2.1⟩)
theorem zok:RA Tryz.prog 33 (List G_Symbol) (fun(x:List G_Symbol)=>[.isl 6 (x.map z8) false]) z2v:=by
 have h:=RA.slice (P:=Tryz.prog) Tryz.underlying33 c33 (by rw[c55];decide) zon
 rw[c55,b55] at h
 exact RA.map h (fun x=>x) (fun _=>rfl) (fun y=>⟨y,rfl⟩) (fun _ h=>h)
theorem zoq:RA Tryz.prog 95 G_Reference (fun(x:G_Reference)=>[.int .i64 x.f_Module,.int .i64 x.f_Start,.int .i64 x.f_Symbol]) Zi:=by
 refine RA.map (RA.structN Tryz.underlying95 c95 (p1 (P:=Tryz.prog) (off:=0) (tot:=2) (m:=1) rfl c3 ra3 (p1 (P:=Tryz.prog) (off:=1) (tot:=1) (m:=1) rfl c3 ra3 (p1 (P:=Tryz.prog) (off:=2) (tot:=0) (m:=1) rfl c3 ra3 (RF.nil (P:=Tryz.prog) 3))))) (fun x=>(⟨x.1,x.2.1,x.2.2.1⟩:G_Reference)) (fun _=>rfl) (fun y=>⟨(y.f_Module,y.f_Start,y.f_Symbol,()),rfl⟩) (fun x h=>⟨h.1,h.2.1,h.2.2.1⟩)
theorem zop:RA Tryz.prog 34 (List G_Reference) (fun(x:List G_Reference)=>[.isl 3 (x.map zd) false]) Vq:=by
 have h:=RA.slice (P:=Tryz.prog) Tryz.underlying34 c34 (by rw[c95];decide) zoq
 rw[c95,b95] at h
 exact RA.map h (fun x=>x) (fun _=>rfl) (fun y=>⟨y,rfl⟩) (fun _ h=>h)
theorem zom:RA Tryz.prog 65 G_Diagnostic (fun(x:G_Diagnostic)=>[.int .i64 x.f_Code,.int .i64 x.f_Module,.int .i64 x.f_Start,.int .i64 x.f_End,.str x.f_Name]) Z0:=by
 refine RA.map (RA.structN Tryz.underlying65 c65 (p1 (P:=Tryz.prog) (off:=0) (tot:=4) (m:=1) rfl c3 ra3 (p1 (P:=Tryz.prog) (off:=1) (tot:=3) (m:=1) rfl c3 ra3 (p1 (P:=Tryz.prog) (off:=2) (tot:=2) (m:=1) rfl c3 ra3 (p1 (P:=Tryz.prog) (off:=3) (tot:=1) (m:=1) rfl c3 ra3 (p1 (P:=Tryz.prog) (off:=4) (tot:=0) (m:=1) rfl c9 ra9 (RF.nil (P:=Tryz.prog) 5))))))) (fun x=>(⟨x.1,x.2.1,x.2.2.1,x.2.2.2.1,x.2.2.2.2.1⟩:G_Diagnostic)) (fun _=>rfl) (fun y=>⟨(y.f_Code,y.f_Module,y.f_Start,y.f_End,y.f_Name,()),rfl⟩) (fun x h=>⟨h.1,h.2.1,h.2.2.1,h.2.2.2.1,h.2.2.2.2.1⟩)
theorem zol:RA Tryz.prog 35 (List G_Diagnostic) (fun(x:List G_Diagnostic)=>[.isl 5 (x.map zc) false]) Jw:=by
 have h:=RA.slice (P:=Tryz.prog) Tryz.underlying35 c35 (by rw[c65];decide) zom
 rw[c65,b65] at h
 exact RA.map h (fun x=>x) (fun _=>rfl) (fun y=>⟨y,rfl⟩) (fun _ h=>h)
theorem zoi:RA Tryz.prog 37 G_Resolution (fun(x:G_Resolution)=>[.isl 6 (x.f_Symbols.map z8) false,.isl 3 (x.f_References.map zd) false,.isl 5 (x.f_Diagnostics.map zc) false]) vw:=by
 refine RA.map (RA.structN Tryz.underlying37 c37 (p1 (P:=Tryz.prog) (off:=0) (tot:=2) (m:=1) rfl c33 zok (p1 (P:=Tryz.prog) (off:=1) (tot:=1) (m:=1) rfl c34 zop (p1 (P:=Tryz.prog) (off:=2) (tot:=0) (m:=1) rfl c35 zol (RF.nil (P:=Tryz.prog) 3))))) (fun x=>(⟨x.1,x.2.1,x.2.2.1⟩:G_Resolution)) (fun _=>rfl) (fun y=>⟨(y.f_Symbols,y.f_References,y.f_Diagnostics,()),rfl⟩) (fun x h=>⟨h.1,h.2.1,h.2.2.1⟩)
set_option maxRecDepth 20000 in
theorem zo7:RV Tryz.prog 37 G_Resolution (fun x=>.agg [.isl 6 (x.f_Symbols.map z8) false,.isl 3 (x.f_References.map zd) false,.isl 5 (x.f_Diagnostics.map zc) false]) vw:=RV.struct Tryz.underlying37 zoi
theorem zor:RA Tryz.prog 59 G_TextEdit (fun(x:G_TextEdit)=>[.int .i64 x.f_Start,.int .i64 x.f_End,.str x.f_NewText]) V0:=by
 refine RA.map (RA.structN Tryz.underlying59 c59 (p1 (P:=Tryz.prog) (off:=0) (tot:=2) (m:=1) rfl c3 ra3 (p1 (P:=Tryz.prog) (off:=1) (tot:=1) (m:=1) rfl c3 ra3 (p1 (P:=Tryz.prog) (off:=2) (tot:=0) (m:=1) rfl c9 ra9 (RF.nil (P:=Tryz.prog) 3))))) (fun x=>(⟨x.1,x.2.1,x.2.2.1⟩:G_TextEdit)) (fun _=>rfl) (fun y=>⟨(y.f_Start,y.f_End,y.f_NewText,()),rfl⟩) (fun x h=>⟨h.1,h.2.1,h.2.2.1⟩)
theorem zoe:RA Tryz.prog 61 G_FileEdit (fun(x:G_FileEdit)=>[.int .i64 x.f_Module,.int .i64 x.f_TextEdit.f_Start,.int .i64 x.f_TextEdit.f_End,.str x.f_TextEdit.f_NewText]) Yw:=by
 refine RA.map (RA.structN Tryz.underlying61 c61 (p1 (P:=Tryz.prog) (off:=0) (tot:=3) (m:=1) rfl c3 ra3 (p1 (P:=Tryz.prog) (off:=1) (tot:=0) (m:=3) rfl c59 zor (RF.nil (P:=Tryz.prog) 4)))) (fun x=>(⟨x.1,x.2.1⟩:G_FileEdit)) (fun _=>rfl) (fun y=>⟨(y.f_Module,y.f_TextEdit,()),rfl⟩) (fun x h=>⟨h.1,h.2.1⟩)
set_option maxRecDepth 20000 in
theorem zob:RV Tryz.prog 23 (List G_FileEdit) (fun l=>.isl 4 (l.map z7) false) Kg:=by
 intro H enc w v d ps base hv hd hw
 obtain⟨x,h1,h2⟩:=RV.slice (P:=Tryz.prog) Tryz.underlying23 c23 (by rw[c61];decide) zoe hv hd hw
 rw[c61] at h2
 rw[b61] at h1
 exact⟨x,h1,h2⟩
theorem zoc:RA Tryz.prog 81 G_MovedRange (fun(x:G_MovedRange)=>[.int .i64 x.f_Module,.int .i64 x.f_Start,.int .i64 x.f_End,.int .i64 x.f_NewModule,.int .i64 x.f_NewStart]) Z6:=by
 refine RA.map (RA.structN Tryz.underlying81 c81 (p1 (P:=Tryz.prog) (off:=0) (tot:=4) (m:=1) rfl c3 ra3 (p1 (P:=Tryz.prog) (off:=1) (tot:=3) (m:=1) rfl c3 ra3 (p1 (P:=Tryz.prog) (off:=2) (tot:=2) (m:=1) rfl c3 ra3 (p1 (P:=Tryz.prog) (off:=3) (tot:=1) (m:=1) rfl c3 ra3 (p1 (P:=Tryz.prog) (off:=4) (tot:=0) (m:=1) rfl c3 ra3 (RF.nil (P:=Tryz.prog) 5))))))) (fun x=>(⟨x.1,x.2.1,x.2.2.1,x.2.2.2.1,x.2.2.2.2.1⟩:G_MovedRange)) (fun _=>rfl) (fun y=>⟨(y.f_Module,y.f_Start,y.f_End,y.f_NewModule,y.f_NewStart,()),rfl⟩) (fun x h=>⟨h.1,h.2.1,h.2.2.1,h.2.2.2.1,h.2.2.2.2.1⟩)
set_option maxRecDepth 20000 in
theorem zoy:RV Tryz.prog 38 (List G_MovedRange) (fun l=>.isl 5 (l.map za) false) W0:=by
 intro H enc w v d ps base hv hd hw
 obtain⟨x,h1,h2⟩:=RV.slice (P:=Tryz.prog) Tryz.underlying38 c38 (by rw[c81];decide) zoc hv hd hw
 rw[c81] at h2
 rw[b81] at h1
 exact⟨x,h1,h2⟩
set_option maxRecDepth 100000 in
theorem lifted(os:Os)(started:os.Started)(H:Type)(enc:TypeId×Value→H) :
 ReturnsInHanded Rows.referencesCorrespondingEqualsReferenceRow.assume Tryz.checked os 4 .any (fun w args=>(Rows.referencesCorrespondingEqualsReferenceSpec.pre enc Tryz.prog Tryz.f4 Rows.referencesCorrespondingEqualsReferenceRow.domain false w args∧laidMetH Tryz.prog Rows.referencesCorrespondingEqualsReferenceRow.laid w)∧sizedMet enc Tryz.prog Tryz.f4 (OpenSpec.ofChange Rows.referencesCorrespondingEqualsReferenceSpec) false w args) (Rows.referencesCorrespondingEqualsReferenceSpec.post enc Tryz.prog Tryz.f4 false true false false):=by
 refine returnsInHanded_of_change_and (C:=Tryz.checked) (X:=fun w _=>laidMetH Tryz.prog Rows.referencesCorrespondingEqualsReferenceRow.laid w) (fun _ _ _ hh h=>h.of_heap hh) own started (by kernel_rfl) Tryz.func4
  (ChangeSpec.witness_shaped (enc:=enc) (C:=Tryz.checked) (os:=os) (X:=fun w _=>laidMetH Tryz.prog Rows.referencesCorrespondingEqualsReferenceRow.laid w) false (World.laidAll Tryz.prog os Rows.referencesCorrespondingEqualsReferenceRow.laid) #[.agg #[.slice none 0 0,.slice none 0 0,.slice none 0 0],.agg #[.slice none 0 0,.slice none 0 0,.slice none 0 0],.slice none 0 0,.slice none 0 0,.int .i64 0,.int .i64 0,.int .i64 0] 8 (World.laidAll_os _ _ _)
   (World.shaped_of_ZipB (by kernel_rfl) (by kernel_rfl)) (by kernel_rfl) (by kernel_rfl) (by kernel_rfl)
   (by rw[MakeChecks.laidMetH_plain _ _ _ (by kernel_rfl)];exact laidMet_laidAll _ (by kernel_rfl) (by kernel_rfl))) ?_
 intro W base args ds gs before hval hW _ hsz hL _
 refine z2x (s:=Rows.referencesCorrespondingEqualsReferenceSpec) (tb:=4) zhz [37,37,23,38,3,3,3] (by rw[Tryz.params4]) rfl rfl Tryz.underlying4 (by kernel_rfl)
  (RVs.cons zo7 (RVs.cons zo7 (RVs.cons zob (RVs.cons zoy (RVs.cons (RV.int Tryz.underlying3 c3) (RVs.cons (RV.int Tryz.underlying3 c3) (RVs.cons (RV.int Tryz.underlying3 c3) RVs.nil))))))) ?_ ?_ hval hW hsz (zho (by kernel_rfl) (by simp[Rows.referencesCorrespondingEqualsReferenceRow]) hL)
 ·rintro⟨a0,a1,a2,a3,a4,a5,a6,_⟩ ⟨h0,h1,h2,h3,h4,h5,h6,_⟩
  exact zn0 (zoh ⟨h0,h1,h2,h3,h4,h5,h6⟩)
 ·intro ds hlen
  match ds,hlen with
  |[_,_,_,_,_,_,_],_=>exact⟨rfl,rfl,rfl⟩
end Go.Proofs.YtjkfnbjgpilokaaGreatDoor
