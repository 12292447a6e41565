/-
  Own text GenA of this claim: what functions of the given program compute, in plain Lean, and the proof; no condition.
-/
import Derived.Test.YtlilpmnmedmjaaaDoorChecked
import Derived.Test.YtlilpmnmedmjaaaDoorFc
import Derived.Test.YtlilpmnmedmjaaaDoorFd
import Derived.Test.YtlilpmnmedmjaaaDoorLib
import Derived.Test.YtlilpmnmedmjaaaDoorEv
import Derived.KernelRfl
open Go.Fx.BVw renaming enc→p2,oneL→p4
open Go.Fx.LWp renaming sim→p0
open Option renaming map_eq_some_iff→p3,map→p6
open Go.Fx.PFn renaming call→p5,ofFnW→p7
open Sum renaming inr→p9
open Go.Fx.Vw renaming mslE→p1,islF→p8
namespace Go.Proofs.YtlilpmnmedmjaaaDoor
noncomputable section
open Go.Fx
set_option linter.unusedVariables false
set_option maxHeartbeats 4000000
structure GJ where
 fK:Int
 fN:Int
 fT:List UInt8
 fA:List (List UInt8)
 fE:List (List AVal)
instance:Inhabited GJ:=⟨(GJ.mk 0 0 [] [] [])⟩
structure GM where
 fK:Int
 fI:Int
 fC:Int
 fM:List UInt8
 fB:GJ
instance:Inhabited GM:=⟨(GM.mk 0 0 0 [] (GJ.mk 0 0 [] [] []))⟩
structure G_Step where
 f_Do:Int
 f_A:Int
 f_B:Int
instance:Inhabited G_Step:=⟨(G_Step.mk 0 0 0)⟩
structure G_job where
 f_id:Int
 f_pending:Bool
 f_canceled:Bool
instance:Inhabited G_job:=⟨(G_job.mk 0 false false)⟩
structure G_Job where
 fI:Int
 f_Pending:Bool
 f_Canceled:Bool
instance:Inhabited G_Job:=⟨(G_Job.mk 0 false false)⟩
structure G_QAction where
 f_Do:Int
 f_Job:Int
instance:Inhabited G_QAction:=⟨(G_QAction.mk 0 0)⟩
def ze(r:List AVal):List AVal:=r
def za(x:List UInt8):List AVal:=[.str x]
def z6(x:GM):List AVal:=[.int .i64 x.fK,.int .i64 x.fI,.int .i64 x.fC,.str x.fM,.int .i64 x.fB.fK,.int .i64 x.fB.fN,.str x.fB.fT,.isl 1 (x.fB.fA.map za) false,.isl 5 (x.fB.fE.map ze) false]
def y3(x:G_Step):List AVal:=[.int .i64 x.f_Do,.int .i64 x.f_A,.int .i64 x.f_B]
abbrev cT(a1:List G_Step):List G_Step:=a1.take (if 30<((a1.map y3).length:Int) then 30 else((a1.map y3).length:Int)).toNat
def z8(x:G_job):List AVal:=[.int .i64 x.f_id,.bool x.f_pending,.bool x.f_canceled]
def zh(x:G_Job):List AVal:=[.int .i64 x.fI,.bool x.f_Pending,.bool x.f_Canceled]
def ww(x:Int):List AVal:=[.int .i64 x]
def z7(x:GJ):List AVal:=[.int .i64 x.fK,.int .i64 x.fN,.str x.fT,.isl 1 (x.fA.map za) false,.isl 5 (x.fE.map ze) false]
theorem y2g(x:GJ):AVal.nid.nidL (z7 x)=true∧∀y∈z7 x,y.imm=some y:=⟨rfl,by simp[z7,AVal.imm]⟩
def Yt(r:List AVal):Option GJ:=by classical exact if h:∃x,r=z7 x then some (Classical.choose h) else none
theorem zj6{r:List AVal}{x:GJ}(h:Yt r=some x):r=z7 x:=by
 unfold Yt at h
 split at h
 ·rename_i hx
  simp only[Option.some.injEq] at h
  rw[←h]
  exact Classical.choose_spec hx
 ·cases h
theorem Z5{l:List (List AVal)}{i:Nat}{x:GJ}(h:i<l.length)(hx:Yt (l.getD i default)=some x):(l.map ze).getD i []=z7 x:=(jx ze _ _ h).trans (zj6 hx)
def Uf(x:List UInt8):AVal:=.str x
theorem y2q(x:List UInt8):(Uf x).nid=true:=rfl
def z1b(x:Int):AVal:=i6 x
theorem z3k(x:Int):(z1b x).nid=true:=rfl
def Wu(x y:List UInt8):Bool:=(x==y&&true)
theorem z7l(x y:List UInt8):Wh [.str] (Uf x) (Uf y)=some (Wu x y):=rfl
theorem y65(x:List UInt8):AVal.nid.nidL (za x)=true∧∀y∈za x,y.imm=some y:=⟨rfl,by simp[za,AVal.imm]⟩
theorem z74(x:GM):AVal.nid.nidL (z6 x)=true∧∀y∈z6 x,y.imm=some y:=⟨rfl,by simp[z6,AVal.imm]⟩
theorem y2x(x:G_Step):AVal.nid.nidL (y3 x)=true∧∀y∈y3 x,y.imm=some y:=⟨rfl,by simp[y3,AVal.imm]⟩
theorem y64(x:G_job):AVal.nid.nidL (z8 x)=true∧∀y∈z8 x,y.imm=some y:=⟨rfl,by simp[z8,AVal.imm]⟩
theorem y66(x:G_Job):AVal.nid.nidL (zh x)=true∧∀y∈zh x,y.imm=some y:=⟨rfl,by simp[zh,AVal.imm]⟩
theorem y60(x:Int):AVal.nid.nidL (ww x)=true∧∀y∈ww x,y.imm=some y:=⟨rfl,by simp[ww,AVal.imm]⟩
def j6(m:Option Nat):Option (Bool):=some true
theorem y3o{m:Option Nat}{o:Bool}(h:j6 m=some o):PFn Tryd.prog 4 [] (.bool o):=by
 cases h
 exact y5a
def znr:LCode:=(.seq (.region [Qo 0 (.mv (.c (.val (.pointer none))))])
 (.seq (.region [Qo 1 (.build [(.isl 3 [] true),(.isl 9 [] true)] []),
  Qo 2 (.box (.t 1)),
  Qm 0 2])
 .ret))
def zgg:Lay:=⟨3,[2],false⟩
def zft:List LRes:=[.t 0]
def zxf:LFn:=⟨0,zgg,znr,zft⟩
theorem zts:wm Tryd.prog [2] 5=some zxf:=by kernel_rfl
theorem zwc:Zc Tryd.prog 5:=⟨_,Tryd.func5,rfl,rfl⟩
def ui(m:Option Nat):Option Unit:=
 some ()
def y3i(o:Unit):Exit→Env→AHeap→Nat→Prop:=Y2 zft (Zz 3 6 (.ptr (3,0) 0 0) [((3,0),.one [.msl (4,0) 3 0 (([]:List G_job).length) false,.msl (5,0) 9 0 (([]:List GM).length) false]),((4,0),.rows 3 (([]:List G_job).map z8)),((5,0),.rows 9 (([]:List GM).map z6))])
theorem zjb{m:Option Nat}{o:Unit}(h:ui m=some o):LWp Tryd.prog zgg 3 znr (y3i o) (zu 0 []) [] 3:=by
 unfold ui at h
 refine SR ?_
 refine SR ?_
 refine LWp.ghost 3 ?_
 refine LWp.ghost 9 ?_
 refine p0 (e:=[(0,.ptr (3,0) 0 0)]) (L:=[((3,0),.one [.msl (4,0) 3 0 (([]:List G_job).length) false,.msl (5,0) 9 0 (([]:List GM).length) false]),((4,0),.rows 3 (([]:List G_job).map z8)),((5,0),.rows 9 (([]:List GM).map z6))]) (n:=6) ?_ ?_
 ·exact y7 (M:=[((3,0),(3,0)),((4,0),(4,0)),((5,0),(5,0))]) rfl (SP rfl TT) (AI (AI rfl (p4 (AI (Vw.islM _ _ _ _ _ _ rfl rfl) (AI (Vw.islM _ _ _ _ _ _ rfl rfl) TT)))) (AI (AI rfl (p2 z8 (fun _=>rfl) _ ([]:List G_job))) (AI (AI rfl (p2 z6 (fun _=>rfl) _ ([]:List GM))) TT)))
 refine wl ?_
 cases h
 exact AI TT (Yl (n':=6) [((3,0),(3,0)),((4,0),(4,0)),((5,0),(5,0))] [] rfl rfl (Vw.ptr _ _ _ _ rfl) (AI (AI rfl (p4 (AI (p1 rfl (by first|rfl|omega|(simp;done)|(simp at *;omega)) rfl) (AI (p1 rfl (by first|rfl|omega|(simp;done)|(simp at *;omega)) rfl) TT)))) (AI (AI rfl (p2 z8 (fun _=>rfl) _ ([]:List G_job))) (AI (AI rfl (p2 z6 (fun _=>rfl) _ ([]:List GM))) TT))))
theorem zyx{m:Option Nat}{o:Unit}(h:ui m=some o):ACalls Tryd.prog 5 [] [] 3 (u0 6 (.ptr (3,0) 0 0) [((3,0),.one [.msl (4,0) 3 0 (([]:List G_job).length) false,.msl (5,0) 9 0 (([]:List GM).length) false]),((4,0),.rows 3 (([]:List G_job).map z8)),((5,0),.rows 9 (([]:List GM).map z6))]):=Z0 (L:=zxf) zts zwc (NB rfl) (zjb h)
def y4b:LCode:=(.seq (.region [Qm 14 5,
 Qm 4 14])
 .ret)
def y4v:LCode:=(.seq (.region [Qi 4 0])
 (.seq (.region [Qm 6 0,
  Qm 7 1,
  Qo 8 (.bin .rem (.t 6) (.t 7)),
  Qm 5 8])
 (.seq (.seq (.region [Qm 9 5,
  Qo 10 (.bin .lss (.t 9) (.c (i6 0)))])
 (.cond (.t 10)
  (.region [Qm 11 5,
   Qm 12 1,
   Qo 13 (.bin .add (.t 11) (.t 12)),
   Qm 5 13])
  .skip))
 y4b)))
def zoo:Lay:=⟨15,[],false⟩
def zxd:List LRes:=[.t 4]
def y7q:LFn:=⟨2,zoo,y4v,zxd⟩
theorem y4s:wm Tryd.prog [] 6=some y7q:=by kernel_rfl
theorem y57:Zc Tryd.prog 6:=⟨_,Tryd.func6,rfl,rfl⟩
def kq(m:Option Nat)(v1:Int):Option Int:=
 some v1
def y7o(a0:Int)(a1:Int)(o:Int):Exit→Env→AHeap→Nat→Prop:=Y2 zxd (vi (i6 o))
theorem zfm{a0:Int}{a1:Int}{v1:Int}{m:Option Nat}{o:Int}(h:kq m v1=some o) :
 LWp Tryd.prog zoo 0 y4b (y7o a0 a1 o) [(5,i6 v1)] [] 0:=by
 unfold kq at h
 refine SR ?_
 refine wl ?_
 cases h
 exact AI TT (AI rfl (VS rfl))
def qb(m:Option Nat)(a0:Int)(a1:Int):Option Int:=
 if a1≠0 then
 if(decide ((a0.tmod a1)<0))=true then
  kq m (W ((a0.tmod a1)+a1))
 else
  kq m (a0.tmod a1)
 else none
theorem ztz{a0:Int}{a1:Int}{m:Option Nat}{o:Int}(h:qb m a0 a1=some o):LWp Tryd.prog zoo 0 y4v (y7o a0 a1 o) (zu 0 [i6 a0,i6 a1]) [] 0:=by
 unfold qb at h
 refine SR ?_
 refine SR ?_
 obtain⟨h1,h⟩:=zj h
 refine AI h1 ?_
 refine wn ?_
 refine SR ?_
 refine y4 (v:=(decide ((a0.tmod a1)<0))) rfl TT (fun h2=>?_) (fun h2=>?_)
 ·have h:=zd h2 h
  refine J1 ?_
  refine p0 ?_ (zfm h)
  exact y7 (M:=[]) rfl (AI (VS rfl) TT) TT
 ·have h:=zk h2 h
  refine x6 ?_
  refine p0 ?_ (zfm h)
  exact y7 (M:=[]) rfl (AI (VS rfl) TT) TT
theorem zzu{a0:Int}{a1:Int}{m:Option Nat}{o:Int}(h:qb m a0 a1=some o):PFn Tryd.prog 6 [i6 a0,i6 a1] (i6 o):=p7 (L:=y7q) y4s y57 (NB rfl) rfl (ztz h)
def zwl:LCode:=(.seq (.region [Qo 1 (.box (.t 0)),
 Qb 2])
 (.seq (.region [Qf 3 0 1,
  Ql 4 1 3,
  Qo 5 (.bin .eql (.t 4) (.c (i6 0))),
  Qm 6 5,
  Qe 7 1 1 (6,true),
  Qk 8 1 7 (6,true),
  Qg 9 (.bin .eql (.t 8) (.c (i6 0))) (6,true),
  Qp 10 6 9,
  Qm 11 10,
  Qe 12 2 1 (11,true),
  Qk 13 1 12 (11,true),
  Qg 14 (.bin .eql (.t 13) (.c (.str []))) (11,true),
  Qp 15 11 14,
  Qm 16 15,
  Qe 17 3 1 (16,true),
  Qk 18 1 17 (16,true),
  Qg 19 (.len false (.t 18)) (16,true),
  Qe 20 4 1 (16,true),
  Qk 21 1 20 (16,true),
  Qg 22 (.len false (.t 21)) (16,true),
  Qg 23 (.bin .add (.t 19) (.t 22)) (16,true),
  Qg 24 (.bin .eql (.t 23) (.c (i6 0))) (16,true),
  Qp 25 16 24,
  Qm 2 25])
 .ret))
def zmy:Lay:=⟨26,[],false⟩
def zte:List LRes:=[.t 2]
def y5v:LFn:=⟨1,zmy,zwl,zte⟩
theorem y1m:wm Tryd.prog [] 44=some y5v:=by kernel_rfl
theorem y11:Zc Tryd.prog 44:=⟨_,Tryd.func44,rfl,rfl⟩
def u5(m:Option Nat)(a0:GJ):Option Bool:=
 some ((((a0.fK==0)&&(a0.fN==0))&&(a0.fT==([]:List UInt8)))&&((W (((a0.fA.map za).length:Int)+((a0.fE.map ze).length:Int)))==0))
def y6q(a0:GJ)(o:Bool):Exit→Env→AHeap→Nat→Prop:=Y2 zte (vi (.bool o))
theorem zl7{a0:GJ}{m:Option Nat}{o:Bool}(h:u5 m a0=some o):LWp Tryd.prog zmy 0 zwl (y6q a0 o) (zu 0 [.agg (z7 a0)]) [] 0:=by
 unfold u5 at h
 refine SR ?_
 refine SR ?_
 refine HP ?_
 refine HP ?_
 refine HB ?_
 refine HP ?_
 refine HP ?_
 refine HB ?_
 refine HP ?_
 refine HP ?_
 refine HP ?_
 refine HP ?_
 refine AI (fun hp=>(AI hp hp)) ?_
 refine HP ?_
 refine HB ?_
 refine p0 (e:=[(2,.bool ((((a0.fK==0)&&(a0.fN==0))&&(a0.fT==([]:List UInt8)))&&((W (((a0.fA.map za).length:Int)+((a0.fE.map ze).length:Int)))==0)))]) (L:=[]) (n:=0) ?_ ?_
 ·exact y7 (M:=[]) rfl (AI (VS rfl) TT) TT
 refine wl ?_
 cases h
 exact AI TT (AI rfl (VS rfl))
theorem y37{a0:GJ}{m:Option Nat}{o:Bool}(h:u5 m a0=some o):PFn Tryd.prog 44 [.agg (z7 a0)] (.bool o):=p7 (L:=y5v) y1m y11 (NB rfl) rfl (zl7 h)
def kf(m:Option Nat)(a0:List UInt8):Option Bool:=if a0.length≤9223372036854775807 then some (Go.Lib.validD a0) else none
theorem y2b:Zc Tryd.prog 42:=⟨_,Tryd.func42,rfl,rfl⟩
theorem zsz{m:Option Nat}{a0:List UInt8}{o:Bool}(h:kf m a0=some o):PFn Tryd.prog 42 [.str a0] (.bool o):=by
 unfold kf at h
 split at h
 ·rename_i hc
  cases h
  exact zc2 Tryd.l42 rfl rfl y2b (by rw[y4x];exact .head _) (by rw[y4x];exact .tail _ (.head _)) hc
 ·cases h
def zxs:LCode:=(.seq (.region [Qb 4])
 (.seq (.region [Qm 5 0,
  Qo 6 (.len true (.t 5)),
  Qm 7 1,
  Qo 8 (.bin .geq (.t 6) (.t 7)),
  Qm 9 8,
  Qn 10 0 (9,true),
  Qg 11 (.len true (.t 10)) (9,true),
  Qg 12 (.bin .leq (.t 11) (.c (i6 60))) (9,true),
  Qp 13 9 12,
  Qm 14 13,
  Qn 15 0 (14,true),
  Qg 16 (.call 42 [(.t 15)]) (14,true),
  Qp 17 14 16,
  Qm 4 17])
 .ret))
def zpx:Lay:=⟨18,[],false⟩
def zmk:List LRes:=[.t 4]
def y2v:LFn:=⟨2,zpx,zxs,zmk⟩
theorem zzq:wm Tryd.prog [] 27=some y2v:=by kernel_rfl
theorem y1c:Zc Tryd.prog 27:=⟨_,Tryd.func27,rfl,rfl⟩
def jc(m:Option Nat)(a0:List UInt8)(a1:Int):Option Bool:=
 (if(((decide ((a0.length:Int)≥a1))&&(decide ((a0.length:Int)≤60)))==true)=true then kf m a0 else some default).bind fun v1=>
 some (((decide ((a0.length:Int)≥a1))&&(decide ((a0.length:Int)≤60)))&&v1)
def y79(a0:List UInt8)(a1:Int)(o:Bool):Exit→Env→AHeap→Nat→Prop:=Y2 zmk (vi (.bool o))
theorem zot{a0:List UInt8}{a1:Int}{m:Option Nat}{o:Bool}(h:jc m a0 a1=some o):LWp Tryd.prog zpx 0 zxs (y79 a0 a1 o) (zu 0 [.str a0,i6 a1]) [] 0:=by
 unfold jc at h
 refine SR ?_
 refine SR ?_
 refine HP ?_
 refine HP ?_
 refine HB ?_
 obtain⟨v1,h1,h⟩:=bind_some h
 refine Or.inl (EX (.bool v1) (AI (fun hp=>AI hp (p5 (zsz (zd hp h1)) (AI (VS rfl) TT) (AI rfl (AI rfl rfl)))) ?_))
 refine HB ?_
 refine p0 (e:=[(4,.bool (((decide ((a0.length:Int)≥a1))&&(decide ((a0.length:Int)≤60)))&&v1))]) (L:=[]) (n:=0) ?_ ?_
 ·exact y7 (M:=[]) rfl (AI (VS rfl) TT) TT
 refine wl ?_
 cases h
 exact AI TT (AI rfl (VS rfl))
theorem zhk{a0:List UInt8}{a1:Int}{m:Option Nat}{o:Bool}(h:jc m a0 a1=some o):PFn Tryd.prog 27 [.str a0,i6 a1] (.bool o):=p7 (L:=y2v) zzq y1c (NB rfl) rfl (zot h)
def zxy:LCode:=(.seq (.region [Qo 1 (.box (.t 0)),
 Qb 2])
 (.seq (.seq (.region [Qf 3 0 1,
  Ql 4 1 3])
 (.block 0
  (.seq (.region [Qo 6 (.bin .eql (.t 4) (.c (i6 1))),
   Qm 5 6])
  (.cond (.t 5)
   (.seq (.region [Qf 7 3 1,
    Ql 8 1 7,
    Qo 9 (.call 27 [(.t 8),(.c (i6 1))]),
    Qm 2 9])
   .ret)
   (.seq (.region [Qo 11 (.bin .eql (.t 4) (.c (i6 2))),
    Qm 10 11])
   (.cond (.t 10)
    (.seq (.region [Qf 12 3 1,
     Ql 13 1 12,
     Qo 14 (.call 27 [(.t 13),(.c (i6 1))]),
     Qm 15 14,
     Qe 16 3 1 (15,true),
     Qk 17 1 16 (15,true),
     Qg 18 (.bin .neq (.t 17) (.c (.str [36,47,99,97,110,99,101,108]))) (15,true),
     Qp 19 15 18,
     Qm 2 19])
    .ret)
    (.seq (.region [Qo 21 (.bin .eql (.t 4) (.c (i6 4))),
     Qm 20 21])
    (.cond (.t 20)
     (.seq (.region [Qf 22 3 1,
      Ql 23 1 22,
      Qo 24 (.call 27 [(.t 23),(.c (i6 0))]),
      Qm 2 24])
     .ret)
     .skip))))))))
 (.seq (.region [Qf 25 3 1,
  Ql 26 1 25,
  Qo 27 (.bin .eql (.t 26) (.c (.str []))),
  Qm 2 27])
 .ret)))
def zta:Lay:=⟨28,[],false⟩
def znl:List LRes:=[.t 2]
def y2w:LFn:=⟨1,zta,zxy,znl⟩
theorem y1s:wm Tryd.prog [] 45=some y2w:=by kernel_rfl
theorem zza:Zc Tryd.prog 45:=⟨_,Tryd.func45,rfl,rfl⟩
def wc(m:Option Nat)(a0:GM):Option Bool:=
 if(a0.fK==1)=true then
  (jc m a0.fM 1).bind fun v1=>
  some v1
 else
  if(a0.fK==2)=true then
   (jc m a0.fM 1).bind fun v2=>
   some (v2&&(!(a0.fM==([36,47,99,97,110,99,101,108]:List UInt8))))
  else
   if(a0.fK==4)=true then
    (jc m a0.fM 0).bind fun v3=>
    some v3
   else
    some (a0.fM==([]:List UInt8))
def y78(a0:GM)(o:Bool):Exit→Env→AHeap→Nat→Prop:=Y2 znl (vi (.bool o))
theorem zn8{a0:GM}{m:Option Nat}{o:Bool}(h:wc m a0=some o):LWp Tryd.prog zta 0 zxy (y78 a0 o) (zu 0 [.agg [i6 a0.fK,i6 a0.fI,i6 a0.fC,.str a0.fM,i6 a0.fB.fK,i6 a0.fB.fN,.str a0.fB.fT,.isl 1 (a0.fB.fA.map za) false,.isl 5 (a0.fB.fE.map ze) false]]) [] 0:=by
 unfold wc at h
 refine SR ?_
 refine wn ?_
 refine SR ?_
 refine xk ?_
 refine SR ?_
 refine y4 (v:=(a0.fK==1)) rfl TT (fun h1=>?_) (fun h1=>?_)
 ·have h:=zd h1 h
  refine SR ?_
  obtain⟨v1,h2,h⟩:=bind_some h
  refine p5 (zhk h2) (S2 rfl rfl TT) ?_
  refine p0 (e:=[(2,.bool v1)]) (L:=[]) (n:=0) ?_ ?_
  ·exact y7 (M:=[]) rfl (AI (VS rfl) TT) TT
  refine wl ?_
  cases h
  exact AI TT (AI rfl (VS rfl))
 ·have h:=zk h1 h
  refine SR ?_
  refine p0 (e:=[(1,.ptr (0,0) 0 0),(4,i6 a0.fK),(10,.bool (a0.fK==2))]) (L:=[((0,0),.one [i6 a0.fK,i6 a0.fI,i6 a0.fC,.str a0.fM,i6 a0.fB.fK,i6 a0.fB.fN,.str a0.fB.fT,.isl 1 (a0.fB.fA.map za) false,.isl 5 (a0.fB.fE.map ze) false])]) (n:=1) ?_ ?_
  ·exact y7 (M:=[((0,0),(0,0))]) rfl (SP rfl (S2 rfl rfl TT)) (AI (AI rfl (OL rfl)) TT)
  refine y4 (v:=(a0.fK==2)) rfl TT (fun h3=>?_) (fun h3=>?_)
  ·have h:=zd h3 h
   refine SR ?_
   obtain⟨v2,h4,h⟩:=bind_some h
   refine p5 (zhk h4) (S2 rfl rfl TT) ?_
   refine HP ?_
   refine HP ?_
   refine HB ?_
   refine p0 (e:=[(2,.bool (v2&&(!(a0.fM==([36,47,99,97,110,99,101,108]:List UInt8)))))]) (L:=[]) (n:=0) ?_ ?_
   ·exact y7 (M:=[]) rfl (AI (VS rfl) TT) TT
   refine wl ?_
   cases h
   exact AI TT (AI rfl (VS rfl))
  ·have h:=zk h3 h
   refine SR ?_
   refine y4 (v:=(a0.fK==4)) rfl TT (fun h5=>?_) (fun h5=>?_)
   ·have h:=zd h5 h
    refine SR ?_
    obtain⟨v3,h6,h⟩:=bind_some h
    refine p5 (zhk h6) (S2 rfl rfl TT) ?_
    refine wl ?_
    cases h
    exact AI TT (AI rfl (VS rfl))
   ·have h:=zk h5 h
    refine x6 ?_
    refine SR ?_
    refine wl ?_
    cases h
    exact AI TT (AI rfl (VS rfl))
theorem y30{a0:GM}{m:Option Nat}{o:Bool}(h:wc m a0=some o):PFn Tryd.prog 45 [.agg [i6 a0.fK,i6 a0.fI,i6 a0.fC,.str a0.fM,i6 a0.fB.fK,i6 a0.fB.fN,.str a0.fB.fT,.isl 1 (a0.fB.fA.map za) false,.isl 5 (a0.fB.fE.map ze) false]] (.bool o):=p7 (L:=y2w) y1s zza (NB rfl) rfl (zn8 h)
def zwr:LCode:=(.cond (.t 39)
 (.seq (.region [Qb 2])
 .ret)
 (.seq (.region [Qm 59 5,
  Qo 60 (.un .not (.t 59)),
  Qm 61 60,
  Qe 62 4 1 (61,true),
  Qg 63 (.load true 5 (.t 62)) (61,true),
  Qg 64 (.call 44 [(.t 63)]) (61,true),
  Qg 65 (.un .not (.t 64)) (61,true),
  Qp 66 61 65,
  Qm 58 66])
 (.cond (.t 58)
  (.seq (.region [Qb 2])
  .ret)
  .skip)))
def zwi:LCode:=(.cond (.t 20)
 (.seq (.region [Qb 2])
 .ret)
 (.seq (.seq (.region [Qm 40 4,
  Qm 41 40,
  Qe 42 2 1 (41,true),
  Qk 43 1 42 (41,true),
  Qg 44 (.bin .lss (.t 43) (.c (i6 1))) (41,true),
  Qn 45 44 (41,true),
  Qe 46 2 1 (45,false),
  Qk 47 1 46 (45,false),
  Qg 48 (.bin .gtr (.t 47) (.c (i6 99))) (45,false),
  Qg 49 (.pick (.t 45) (.c (.bool true)) (.t 48)) (41,true),
  Qp 50 41 49,
  Qm 39 50])
 (.cond (.t 39)
  .skip
  (.region [Qm 51 4,
   Qo 52 (.un .not (.t 51)),
   Qm 53 52,
   Qe 54 2 1 (53,true),
   Qk 55 1 54 (53,true),
   Qg 56 (.bin .neq (.t 55) (.c (i6 0))) (53,true),
   Qp 57 53 56,
   Qm 39 57])))
 zwr))
def zpu:LCode:=(.seq (.region [Qt 67 9 1,
 Qc 68 45 67,
 Qm 2 68])
 .ret)
def zww:LCode:=(.seq (.region [Qo 1 (.box (.t 0)),
 Qb 2])
 (.seq (.region [Qf 6 0 1,
  Ql 7 1 6,
  Qo 8 (.bin .neq (.t 7) (.c (i6 2))),
  Qm 3 8])
 (.seq (.region [Qf 9 0 1,
  Ql 10 1 9,
  Qo 11 (.bin .eql (.t 10) (.c (i6 4))),
  Qm 4 11])
 (.seq (.region [Qf 12 0 1,
  Ql 13 1 12,
  Qo 14 (.bin .neq (.t 13) (.c (i6 4))),
  Qm 15 14,
  Qe 16 0 1 (15,true),
  Qk 17 1 16 (15,true),
  Qg 18 (.bin .neq (.t 17) (.c (i6 5))) (15,true),
  Qp 19 15 18,
  Qm 5 19])
 (.seq (.block 0
  (.seq (.seq (.region [Qm 21 3,
   Qm 22 21,
   Qe 23 1 1 (22,true),
   Qk 24 1 23 (22,true),
   Qg 25 (.bin .lss (.t 24) (.c (i6 0))) (22,true),
   Qn 26 25 (22,true),
   Qe 27 1 1 (26,false),
   Qk 28 1 27 (26,false),
   Qg 29 (.bin .gtr (.t 28) (.c (i6 2147483647))) (26,false),
   Qg 30 (.pick (.t 26) (.c (.bool true)) (.t 29)) (22,true),
   Qp 31 22 30,
   Qm 20 31])
  (.cond (.t 20)
   .skip
   (.region [Qm 32 3,
    Qo 33 (.un .not (.t 32)),
    Qm 34 33,
    Qe 35 1 1 (34,true),
    Qk 36 1 35 (34,true),
    Qg 37 (.bin .neq (.t 36) (.c (i6 0))) (34,true),
    Qp 38 34 37,
    Qm 20 38])))
  zwi))
 zpu)))))
def Uw:Lay:=⟨69,[],false⟩
def zqu:List LRes:=[.t 2]
def y4h:LFn:=⟨1,Uw,zww,zqu⟩
theorem zzv:wm Tryd.prog [] 29=some y4h:=by kernel_rfl
theorem zyj:Zc Tryd.prog 29:=⟨_,Tryd.func29,rfl,rfl⟩
def wv(m:Option Nat)(a0:GM)(v2:Bool):Option Bool:=
 if v2=true then
  some false
 else
  (if((!((a0.fK != 4)&&(a0.fK != 5)))==true)=true then u5 m (GJ.mk a0.fB.fK a0.fB.fN a0.fB.fT a0.fB.fA a0.fB.fE) else some default).bind fun v3=>
  if((!((a0.fK != 4)&&(a0.fK != 5)))&&(!v3))=true then
   some false
  else
   (wc m (GM.mk a0.fK a0.fI a0.fC a0.fM (GJ.mk a0.fB.fK a0.fB.fN a0.fB.fT a0.fB.fA a0.fB.fE))).bind fun v4=>
   some v4
def y0o(a0:GM)(o:Bool):Exit→Env→AHeap→Nat→Prop:=Y2 zqu (vi (.bool o))
theorem zbc{a0:GM}{v2:Bool}{m:Option Nat}{o:Bool}(h:wv m a0 v2=some o) :
 LWp Tryd.prog Uw 0 zwr (x4 0 (Yk Tryd.prog Uw 0 zpu (y0o a0 o))) [(1,.ptr (0,0) 0 0),(5,.bool ((a0.fK != 4)&&(a0.fK != 5))),(39,.bool v2)] [((0,0),.one [i6 a0.fK,i6 a0.fI,i6 a0.fC,.str a0.fM,i6 a0.fB.fK,i6 a0.fB.fN,.str a0.fB.fT,.isl 1 (a0.fB.fA.map za) false,.isl 5 (a0.fB.fE.map ze) false])] 1:=by
 unfold wv at h
 refine y4 (v:=v2) rfl TT (fun h4=>?_) (fun h4=>?_)
 ·have h:=zd h4 h
  refine SR ?_
  refine wl ?_
  cases h
  exact AI TT (AI rfl (VS rfl))
 ·have h:=zk h4 h
  refine SR ?_
  refine HP ?_
  obtain⟨v3,h5,h⟩:=bind_some h
  refine Or.inl (EX (.bool v3) (AI (fun hp=>AI hp (p5 (y37 (zd hp h5)) (AI (VS rfl) TT) (AI rfl (AI rfl rfl)))) ?_))
  refine HP ?_
  refine HB ?_
  refine p0 (e:=[(1,.ptr (0,0) 0 0),(58,.bool ((!((a0.fK != 4)&&(a0.fK != 5)))&&(!v3)))]) (L:=[((0,0),.one [i6 a0.fK,i6 a0.fI,i6 a0.fC,.str a0.fM,i6 a0.fB.fK,i6 a0.fB.fN,.str a0.fB.fT,.isl 1 (a0.fB.fA.map za) false,.isl 5 (a0.fB.fE.map ze) false])]) (n:=1) ?_ ?_
  ·exact y7 (M:=[((0,0),(0,0))]) rfl (SP rfl (AI (VS rfl) TT)) (AI (AI rfl (OL rfl)) TT)
  refine y4 (v:=((!((a0.fK != 4)&&(a0.fK != 5)))&&(!v3))) rfl TT (fun h6=>?_) (fun h6=>?_)
  ·have h:=zd h6 h
   refine SR ?_
   refine wl ?_
   cases h
   exact AI TT (AI rfl (VS rfl))
  ·have h:=zk h6 h
   refine x6 ?_
   refine SR ?_
   obtain⟨v4,h7,h⟩:=bind_some h
   refine p5 (y30 h7) (AI (VS rfl) TT) ?_
   refine wl ?_
   cases h
   exact AI TT (AI rfl (VS rfl))
def wt(m:Option Nat)(a0:GM)(v1:Bool):Option Bool:=
 if v1=true then
  some false
 else
  if((a0.fK==4)&&((decide (a0.fC<1)) || (decide (a0.fC > 99))))=true then
   wv m a0 ((a0.fK==4)&&((decide (a0.fC<1)) || (decide (a0.fC > 99))))
  else
   wv m a0 ((!(a0.fK==4))&&(a0.fC != 0))
theorem zab{a0:GM}{v1:Bool}{m:Option Nat}{o:Bool}(h:wt m a0 v1=some o) :
 LWp Tryd.prog Uw 0 zwi (x4 0 (Yk Tryd.prog Uw 0 zpu (y0o a0 o))) [(1,.ptr (0,0) 0 0),(4,.bool (a0.fK==4)),(5,.bool ((a0.fK != 4)&&(a0.fK != 5))),(20,.bool v1)] [((0,0),.one [i6 a0.fK,i6 a0.fI,i6 a0.fC,.str a0.fM,i6 a0.fB.fK,i6 a0.fB.fN,.str a0.fB.fT,.isl 1 (a0.fB.fA.map za) false,.isl 5 (a0.fB.fE.map ze) false])] 1:=by
 unfold wt at h
 refine y4 (v:=v1) rfl TT (fun h2=>?_) (fun h2=>?_)
 ·have h:=zd h2 h
  refine SR ?_
  refine wl ?_
  cases h
  exact AI TT (AI rfl (VS rfl))
 ·have h:=zk h2 h
  refine wn ?_
  refine SR ?_
  refine HP ?_
  refine HP ?_
  refine HP ?_
  refine HP ?_
  refine HP ?_
  refine AI (fun hp=>(AI hp (fun hc=>(z3u hp (bqf hc))))) ?_
  refine HB ?_
  refine p0 (e:=[(1,.ptr (0,0) 0 0),(4,.bool (a0.fK==4)),(5,.bool ((a0.fK != 4)&&(a0.fK != 5))),(39,.bool ((a0.fK==4)&&((decide (a0.fC<1)) || (decide (a0.fC > 99)))))]) (L:=[((0,0),.one [i6 a0.fK,i6 a0.fI,i6 a0.fC,.str a0.fM,i6 a0.fB.fK,i6 a0.fB.fN,.str a0.fB.fT,.isl 1 (a0.fB.fA.map za) false,.isl 5 (a0.fB.fE.map ze) false])]) (n:=1) ?_ ?_
  ·exact y7 (M:=[((0,0),(0,0))]) rfl (SP rfl (S2 rfl rfl (AI (VS rfl) TT))) (AI (AI rfl (OL rfl)) TT)
  refine y4 (v:=((a0.fK==4)&&((decide (a0.fC<1)) || (decide (a0.fC > 99))))) rfl TT (fun h3=>?_) (fun h3=>?_)
  ·have h:=zd h3 h
   refine x6 ?_
   refine p0 ?_ (zbc h)
   exact y7 (M:=[((0,0),(0,0))]) rfl (SP rfl (S2 rfl rfl TT)) (AI (AI rfl (OL rfl)) TT)
  ·have h:=zk h3 h
   refine J1 ?_
   refine HP ?_
   refine HP ?_
   refine HB ?_
   refine p0 ?_ (zbc h)
   exact y7 (M:=[((0,0),(0,0))]) rfl (SP rfl (S2 rfl rfl TT)) (AI (AI rfl (OL rfl)) TT)
def ve(m:Option Nat)(a0:GM):Option Bool:=
 if((a0.fK != 2)&&((decide (a0.fI<0)) || (decide (a0.fI > 2147483647))))=true then
  wt m a0 ((a0.fK != 2)&&((decide (a0.fI<0)) || (decide (a0.fI > 2147483647))))
 else
  wt m a0 ((!(a0.fK != 2))&&(a0.fI != 0))
theorem zmw{a0:GM}{m:Option Nat}{o:Bool}(h:ve m a0=some o):LWp Tryd.prog Uw 0 zww (y0o a0 o) (zu 0 [.agg [i6 a0.fK,i6 a0.fI,i6 a0.fC,.str a0.fM,i6 a0.fB.fK,i6 a0.fB.fN,.str a0.fB.fT,.isl 1 (a0.fB.fA.map za) false,.isl 5 (a0.fB.fE.map ze) false]]) [] 0:=by
 unfold ve at h
 refine SR ?_
 refine SR ?_
 refine SR ?_
 refine p0 (e:=[(1,.ptr (0,0) 0 0),(3,.bool (a0.fK != 2)),(4,.bool (a0.fK==4))]) (L:=[((0,0),.one [i6 a0.fK,i6 a0.fI,i6 a0.fC,.str a0.fM,i6 a0.fB.fK,i6 a0.fB.fN,.str a0.fB.fT,.isl 1 (a0.fB.fA.map za) false,.isl 5 (a0.fB.fE.map ze) false])]) (n:=1) ?_ ?_
 ·exact y7 (M:=[((0,0),(0,0))]) rfl (SP rfl (S2 rfl rfl TT)) (AI (AI rfl (OL rfl)) TT)
 refine SR ?_
 refine HP ?_
 refine HP ?_
 refine HB ?_
 refine p0 (e:=[(1,.ptr (0,0) 0 0),(3,.bool (a0.fK != 2)),(4,.bool (a0.fK==4)),(5,.bool ((a0.fK != 4)&&(a0.fK != 5)))]) (L:=[((0,0),.one [i6 a0.fK,i6 a0.fI,i6 a0.fC,.str a0.fM,i6 a0.fB.fK,i6 a0.fB.fN,.str a0.fB.fT,.isl 1 (a0.fB.fA.map za) false,.isl 5 (a0.fB.fE.map ze) false])]) (n:=1) ?_ ?_
 ·exact y7 (M:=[((0,0),(0,0))]) rfl (SP rfl (S2 rfl rfl (AI (VS rfl) TT))) (AI (AI rfl (OL rfl)) TT)
 refine wn ?_
 refine xk ?_
 refine wn ?_
 refine SR ?_
 refine HP ?_
 refine HP ?_
 refine HP ?_
 refine HP ?_
 refine HP ?_
 refine AI (fun hp=>(AI hp (fun hc=>(z3u hp (bqf hc))))) ?_
 refine HB ?_
 refine p0 (e:=[(1,.ptr (0,0) 0 0),(3,.bool (a0.fK != 2)),(4,.bool (a0.fK==4)),(5,.bool ((a0.fK != 4)&&(a0.fK != 5))),(20,.bool ((a0.fK != 2)&&((decide (a0.fI<0)) || (decide (a0.fI > 2147483647)))))]) (L:=[((0,0),.one [i6 a0.fK,i6 a0.fI,i6 a0.fC,.str a0.fM,i6 a0.fB.fK,i6 a0.fB.fN,.str a0.fB.fT,.isl 1 (a0.fB.fA.map za) false,.isl 5 (a0.fB.fE.map ze) false])]) (n:=1) ?_ ?_
 ·exact y7 (M:=[((0,0),(0,0))]) rfl (SP rfl (S4 rfl rfl rfl rfl TT)) (AI (AI rfl (OL rfl)) TT)
 refine y4 (v:=((a0.fK != 2)&&((decide (a0.fI<0)) || (decide (a0.fI > 2147483647))))) rfl TT (fun h1=>?_) (fun h1=>?_)
 ·have h:=zd h1 h
  refine x6 ?_
  refine p0 ?_ (zab h)
  exact y7 (M:=[((0,0),(0,0))]) rfl (SP rfl (S2 rfl rfl (AI (VS rfl) TT))) (AI (AI rfl (OL rfl)) TT)
 ·have h:=zk h1 h
  refine J1 ?_
  refine HP ?_
  refine HP ?_
  refine HB ?_
  refine p0 ?_ (zab h)
  exact y7 (M:=[((0,0),(0,0))]) rfl (SP rfl (S2 rfl rfl (AI (VS rfl) TT))) (AI (AI rfl (OL rfl)) TT)
theorem y5r{a0:GM}{m:Option Nat}{o:Bool}(h:ve m a0=some o):PFn Tryd.prog 29 [.agg [i6 a0.fK,i6 a0.fI,i6 a0.fC,.str a0.fM,i6 a0.fB.fK,i6 a0.fB.fN,.str a0.fB.fT,.isl 1 (a0.fB.fA.map za) false,.isl 5 (a0.fB.fE.map ze) false]] (.bool o):=p7 (L:=y4h) zzv zyj (NB rfl) rfl (zmw h)
def z68:LCode:=(.seq (.region [Qo 26 (.bin .lss (.t 25) (.t 24))])
 (.seq (.cond (.t 26)
  .skip
  (.exit 0))
 (.seq (.block 1
  (.seq (.region [Qo 27 (.iaddr 5 (.t 23) (.t 25)),
   Qt 28 5 27,
   Qo 8 (.alloc [(i6 0),(i6 0),(.str []),(.isl 1 [] true),(.isl 5 [] true)]),
   ⟨none,.store 5 (.t 8) (.t 28),none⟩])
  (.seq (.region [Qt 29 5 8,
   Qm 30 1,
   Qo 31 (.bin .add (.t 30) (.c (i6 1))),
   Qm 32 2,
   Qo 33 (.call 46 [(.t 29),(.t 31),(.t 32)]),
   Qo 34 (.un .not (.t 33))])
  (.cond (.t 34)
   (.seq (.region [Qb 6])
   .ret)
   .skip))))
 (.region [Qo 35 (.bin .add (.t 25) (.c (i6 1))),
  Qm 25 35]))))
def z1y:LCode:=(.seq (.region [Qo 6 (.mv (.c (.bool true)))])
 .ret)
def zfg:LCode:=(.seq (.region [Qo 3 (.box (.t 0)),
 Qb 6])
 (.seq (.region [Qm 9 2,
  Qo 10 (.nilck (.t 9)),
  Ql 11 1 10,
  Qo 12 (.bin .add (.t 11) (.c (i6 1))),
  Qo 13 (.nilck (.t 9)),
  ⟨none,.store 1 (.t 13) (.t 12),none⟩])
 (.seq (.seq (.region [Qm 14 2,
  Qo 15 (.nilck (.t 14)),
  Ql 16 1 15,
  Qo 17 (.bin .gtr (.t 16) (.c (i6 400))),
  Qm 18 17,
  Qn 19 1 (18,false),
  Qg 20 (.bin .gtr (.t 19) (.c (i6 20))) (18,false),
  Qo 21 (.pick (.t 18) (.c (.bool true)) (.t 20))])
 (.cond (.t 21)
  (.seq (.region [Qb 6])
  .ret)
  .skip))
 (.seq (.seq (.region [Qf 22 4 3,
  Ql 23 1 22,
  Qo 24 (.len false (.t 23)),
  Qi 25 0])
 (.block 0
  (.loop
   z68)))
 z1y))))
def Xf:Lay:=⟨36,[],false⟩
def zak:List LRes:=[.t 6]
def zsd:LFn:=⟨3,Xf,zfg,zak⟩
theorem zmq:wm Tryd.prog [] 46=some zsd:=by kernel_rfl
theorem zrn:Zc Tryd.prog 46:=⟨_,Tryd.func46,rfl,rfl⟩
def z6e(a0:GJ)(a1:Int)(a2:Int)(o:Bool×Int):Exit→Env→AHeap→Nat→Prop:=Y2 zak (Zz 3 3 (.bool o.1) [((0,0),.one [i6 o.2])])
def z0y(a0:GJ)(a1:Int)(s:(Int×Int)):Env:=[(1,i6 a1),(2,.ptr (0,0) 0 0),(23,.isl 5 (a0.fE.map ze) false),(24,i6 ((a0.fE.map ze).length:Int)),(25,i6 s.2)]
def z44(a0:GJ)(a1:Int)(s:(Int×Int)):AHeap:=[((0,0),.one [i6 s.1])]
def z4u(a0:GJ)(a1:Int)(a2:Int)(o:(Bool×Int)):Exit→Env→AHeap→Nat→Prop:=(x4 0 (Yk Tryd.prog Xf 3 z1y (z6e a0 a1 a2 o)))
def kz(rec0:GJ→Int→Int→Option (Bool×Int))(m:Option Nat)(v3:Int):Option (Bool×Int):=
 some (true,v3)
def yr(rec0:GJ→Int→Int→Option (Bool×Int))(m:Option Nat)(a0:GJ)(a1:Int)(v3:Int)(v4:Int):Option ((Int×Int) ⊕ (Bool×Int)):=
 if(decide (v4<((a0.fE.map ze).length:Int)))=true then
  if(0:Int)≤v4∧v4<((a0.fE.map ze).length:Int) then
  ((Yt (a0.fE.getD v4.toNat default))).bind fun v7=>
  (rec0 v7 (W (a1+1)) v3).bind fun v8=>
  if(!v8.1)=true then
   p6 p9 (
    some (false,v8.2))
  else
   some (.inl (v8.2,(W (v4+1))))
  else none
 else
  p6 p9 (
   kz rec0 m v3)
def xa(rec0:GJ→Int→Int→Option (Bool×Int))(m:Option Nat)(a0:GJ)(a1:Int)(v3:Int)(v4:Int):Option (Bool×Int):=Y5 m (fun(s:(Int×Int))=>yr rec0 m a0 a1 s.1 s.2) (v3,v4)
abbrev Hr0(rec0:GJ→Int→Int→Option (Bool×Int)):Prop:=∀ {a0:GJ} {a1:Int} {a2:Int} {o:Bool×Int},rec0 a0 a1 a2=some o→ACalls Tryd.prog 46 [.agg (z7 a0),i6 a1,.ptr (0,0) 0 0] [((0,0),.one [i6 a2])] 3 (u0 3 (.bool o.1) [((0,0),.one [i6 o.2])])
theorem zeq{rec0:GJ→Int→Int→Option (Bool×Int)}(hrec0:Hr0 rec0){a0:GJ}{a1:Int}{a2:Int}{v3:Int}{m:Option Nat}{o:(Bool×Int)}(h:kz rec0 m v3=some o) :
 LWp Tryd.prog Xf 3 z1y (z6e a0 a1 a2 o) [] [((0,0),.one [i6 v3])] 3:=by
 unfold kz at h
 refine SR ?_
 refine wl ?_
 cases h
 exact AI TT (Yl (n':=3) [] [] rfl rfl (VS rfl) (AI (AI rfl (OL rfl)) TT))
theorem z90{rec0:GJ→Int→Int→Option (Bool×Int)}(hrec0:Hr0 rec0){a2:Int}{a0:GJ}{a1:Int}{v3:Int}{v4:Int}{m:Option Nat}{o:(Int×Int) ⊕ (Bool×Int)}(h:yr rec0 m a0 a1 v3 v4=some o) :
 LWp Tryd.prog Xf 3 z68 (Z7 3 3 (z0y a0 a1) (z44 a0 a1) (z4u a0 a1 a2) o) [(1,i6 a1),(2,.ptr (0,0) 0 0),(23,.isl 5 (a0.fE.map ze) false),(24,i6 ((a0.fE.map ze).length:Int)),(25,i6 v4)] [((0,0),.one [i6 v3])] 3:=by
 unfold yr at h
 refine SR ?_
 refine wn ?_
 refine y4 (v:=(decide (v4<((a0.fE.map ze).length:Int)))) rfl TT (fun h12=>?_) (fun h12=>?_)
 ·have h:=zd h12 h
  refine x6 ?_
  refine wn ?_
  refine xk ?_
  refine SR ?_
  obtain⟨h13,h⟩:=zj h
  refine AI h13 ?_
  obtain⟨v7,h14,h⟩:=bind_some h
  refine EX (z7 v7) (AI (Z5 (uz ze h13) h14) (AI (AI (Y1 h13) (NB rfl)) ?_))
  refine SR ?_
  obtain⟨v8,h15,h⟩:=bind_some h
  refine Z2 (k:=3) (m:=0) (L':=[((0,0),.one [i6 v8.2])]) (rest:=[((3,0),.one (z7 v7))]) (R':=.bool v8.1) [((0,0),(0,0))] (hrec0 h15) rfl rfl rfl (S2 rfl rfl (SP rfl TT)) (AI (h0I (0,0) rfl rfl (OL rfl)) TT) (xl _ rfl) (AI rfl (AI rfl TT)) rfl ?_
  refine p0 (e:=[(1,i6 a1),(2,.ptr (0,0) 0 0),(23,.isl 5 (a0.fE.map ze) false),(24,i6 ((a0.fE.map ze).length:Int)),(25,i6 v4),(34,.bool (!v8.1))]) (L:=[((0,0),.one [i6 v8.2])]) (n:=3) ?_ ?_
  ·exact y7 (M:=[]) rfl (AI (VS rfl) (SP rfl (S4 rfl rfl rfl rfl TT))) (AI (AI rfl (OL rfl)) TT)
  refine y4 (v:=(!v8.1)) rfl TT (fun h16=>?_) (fun h16=>?_)
  ·have h:=zd h16 h
   refine SR ?_
   refine wl ?_
   obtain⟨o,hq,rfl⟩:=p3.1 h
   replace h:=hq;clear hq
   refine AI nofun ?_
   cases h
   exact AI TT (Yl (n':=3) [] [] rfl rfl (VS rfl) (AI (AI rfl (OL rfl)) TT))
  ·have h:=zk h16 h
   refine x6 ?_
   refine J1 ?_
   cases h
   exact AI rfl (y7 (M:=[]) rfl (AI (VS rfl) (SP rfl (S2 rfl rfl (AI (VS rfl) TT)))) (AI (AI rfl (OL rfl)) TT))
 ·have h:=zk h12 h
  refine Xh ?_
  obtain⟨o,hq,rfl⟩:=p3.1 h
  replace h:=hq;clear hq
  refine AI nofun ?_
  refine p0 ?_ (zeq hrec0 h)
  exact y7 (M:=[]) rfl TT (AI (AI rfl (OL rfl)) TT)
theorem zdj{rec0:GJ→Int→Int→Option (Bool×Int)}(hrec0:Hr0 rec0){a2:Int}{a0:GJ}{a1:Int}{v3:Int}{v4:Int}{m:Option Nat}{o:(Bool×Int)}(h:xa rec0 m a0 a1 v3 v4=some o) :
 LWp Tryd.prog Xf 3 (.loop z68) (x4 0 (Yk Tryd.prog Xf 3 z1y (z6e a0 a1 a2 o))) [(1,i6 a1),(2,.ptr (0,0) 0 0),(23,.isl 5 (a0.fE.map ze) false),(24,i6 ((a0.fE.map ze).length:Int)),(25,i6 v4)] [((0,0),.one [i6 v3])] 3:=
 wy (m:=m) (s:=((v3,v4):(Int×Int))) (r:=o) (fun(s:(Int×Int))=>yr rec0 m a0 a1 s.1 s.2) (z0y a0 a1) (z44 a0 a1) (z4u a0 a1 a2) (fun s o h=>z90 hrec0 h) h
def wh(rec0:GJ→Int→Int→Option (Bool×Int))(m:Option Nat)(a0:GJ)(a1:Int)(a2:Int):Option (Bool×Int):=
 if((decide ((W (a2+1)) > 400)) || (decide (a1 > 20)))=true then
  some (false,(W (a2+1)))
 else
  xa rec0 m a0 a1 (W (a2+1)) 0
theorem zcy{rec0:GJ→Int→Int→Option (Bool×Int)}(hrec0:Hr0 rec0){a0:GJ}{a1:Int}{a2:Int}{m:Option Nat}{o:Bool×Int}(h:wh rec0 m a0 a1 a2=some o):LWp Tryd.prog Xf 3 zfg (z6e a0 a1 a2 o) (zu 0 [.agg (z7 a0),i6 a1,.ptr (0,0) 0 0]) [((0,0),.one [i6 a2])] 3:=by
 unfold wh at h
 refine SR ?_
 refine SR ?_
 refine p0 (e:=[(1,i6 a1),(2,.ptr (0,0) 0 0),(3,.ptr (3,0) 0 0)]) (L:=[((0,0),.one [i6 (W (a2+1))]),((3,0),.one (z7 a0))]) (n:=4) ?_ ?_
 ·exact y7 (M:=[((3,0),(3,0))]) rfl (AI (VS rfl) (SP rfl (SP rfl TT))) (AI (AI rfl (OL rfl)) (AI (AI rfl (OL rfl)) TT))
 refine wn ?_
 refine SR ?_
 refine HP ?_
 refine AI (fun hc=>(bqf hc)) ?_
 refine p0 (e:=[(1,i6 a1),(2,.ptr (0,0) 0 0),(3,.ptr (3,0) 0 0),(21,.bool ((decide ((W (a2+1)) > 400)) || (decide (a1 > 20))))]) (L:=[((0,0),.one [i6 (W (a2+1))]),((3,0),.one (z7 a0))]) (n:=4) ?_ ?_
 ·exact y7 (M:=[((3,0),(3,0))]) rfl (AI (VS rfl) (SP rfl (SP rfl (AI (VS rfl) TT)))) (AI (AI rfl (OL rfl)) (AI (AI rfl (OL rfl)) TT))
 refine y4 (v:=((decide ((W (a2+1)) > 400)) || (decide (a1 > 20)))) rfl TT (fun h1=>?_) (fun h1=>?_)
 ·have h:=zd h1 h
  refine SR ?_
  refine wl ?_
  cases h
  exact AI TT (Yl (n':=4) [] [] rfl rfl (VS rfl) (AI (AI rfl (OL rfl)) TT))
 ·have h:=zk h1 h
  refine x6 ?_
  refine wn ?_
  refine SR ?_
  refine xk ?_
  refine p0 ?_ (zdj hrec0 h)
  exact y7 (M:=[]) rfl (AI (VS rfl) (SP rfl (S2 rfl rfl (AI (VS rfl) TT)))) (AI (AI rfl (OL rfl)) TT)
theorem zu9{rec0:GJ→Int→Int→Option (Bool×Int)}(hrec0:Hr0 rec0){a0:GJ}{a1:Int}{a2:Int}{m:Option Nat}{o:Bool×Int}(h:wh rec0 m a0 a1 a2=some o):ACalls Tryd.prog 46 [.agg (z7 a0),i6 a1,.ptr (0,0) 0 0] [((0,0),.one [i6 a2])] 3 (u0 3 (.bool o.1) [((0,0),.one [i6 o.2])]):=Z0 (L:=zsd) zmq zrn (NB rfl) (zcy hrec0 h)
def qa(m:Option Nat):Nat→GJ→Int→Int→Option (Bool×Int)
 |0=>fun _ _ _=>none
 |k+1=>wh (qa m k) m
def u3(m:Option Nat)(a0:GJ)(a1:Int)(a2:Int):Option (Bool×Int):=zl5 m (fun k=>qa m k a0 a1 a2)
theorem zby{m:Option Nat}:∀ (k:Nat) {a0:GJ} {a1:Int} {a2:Int} {o:Bool×Int},qa m k a0 a1 a2=some o→ACalls Tryd.prog 46 [.agg (z7 a0),i6 a1,.ptr (0,0) 0 0] [((0,0),.one [i6 a2])] 3 (u0 3 (.bool o.1) [((0,0),.one [i6 o.2])])
 |0,_,_,_,_,h=>nomatch h
 |k+1,_,_,_,_,h=>zu9 (fun h=>zby k h) h
theorem zso{a0:GJ}{a1:Int}{a2:Int}{m:Option Nat}{o:Bool×Int}(h:u3 m a0 a1 a2=some o):ACalls Tryd.prog 46 [.agg (z7 a0),i6 a1,.ptr (0,0) 0 0] [((0,0),.one [i6 a2])] 3 (u0 3 (.bool o.1) [((0,0),.one [i6 o.2])]):=(Jg h).elim fun k h=>zby k h
def zoh:LCode:=(.seq (.region [Qo 10 (.bin .lss (.t 9) (.t 8))])
 (.seq (.cond (.t 10)
  .skip
  (.exit 0))
 (.seq (.block 1
  (.seq (.region [Qo 11 (.iaddr 1 (.t 7) (.t 9)),
   Ql 12 1 11,
   Qm 5 12])
  (.seq (.seq (.region [Qm 13 3,
   Qm 14 5,
   Qo 15 (.mlook [.str] false false false [(i6 0)] (.t 13) (.t 14)),
   Qo 16 (.bin .neq (.t 15) (.c (i6 0)))])
  (.cond (.t 16)
   (.seq (.region [Qo 2 (.mv (.c (.bool true)))])
   .ret)
   .skip))
  (.region [Qm 17 3,
   Qm 18 5,
   ⟨none,.mset [.str] false false [(i6 0)] (.t 17) (.t 18) (.c (i6 1)),none⟩]))))
 (.region [Qo 19 (.bin .add (.t 9) (.c (i6 1))),
  Qm 9 19]))))
def zgk:LCode:=(.seq (.region [Qb 2])
 .ret)
def zxm:LCode:=(.seq (.region [Qb 2])
 (.seq (.region [Qo 6 (.mkmap none),
  Qm 3 6])
 (.seq (.seq (.region [Qm 7 0,
  Qo 8 (.len false (.t 7)),
  Qi 9 0])
 (.block 0
  (.loop
   zoh)))
 zgk)))
def Kl:Lay:=⟨20,[],false⟩
def zs7:List LRes:=[.t 2]
def y4o:LFn:=⟨1,Kl,zxm,zs7⟩
theorem y24:wm Tryd.prog [] 72=some y4o:=by kernel_rfl
theorem y1r:Zc Tryd.prog 72:=⟨_,Tryd.func72,rfl,rfl⟩
def zu5(a0:List (List UInt8))(o:Bool):Exit→Env→AHeap→Nat→Prop:=Y2 zs7 (vi (.bool o))
def z5x(a0:List (List UInt8))(s:(Int×(List ((List UInt8)×Int)))):Env:=[(3,.map (0,0)),(7,.isl 1 (a0.map za) false),(8,i6 ((a0.map za).length:Int)),(9,i6 s.1)]
def z8w(a0:List (List UInt8))(s:(Int×(List ((List UInt8)×Int)))):AHeap:=[((0,0),.amap (s.2.map (em Uf z1b)))]
def zhu(a0:List (List UInt8))(o:Bool):Exit→Env→AHeap→Nat→Prop:=(x4 0 (Yk Tryd.prog Kl 0 zgk (zu5 a0 o)))
def ul(m:Option Nat):Option Bool:=
 some false
def xe(m:Option Nat)(a0:List (List UInt8))(v1:Int)(v2:List ((List UInt8)×Int)):Option ((Int×(List ((List UInt8)×Int))) ⊕ Bool):=
 if(decide (v1<((a0.map za).length:Int)))=true then
  if(0:Int)≤v1∧v1<((a0.map za).length:Int) then
  if(((lk Wu v2 (a0.getD v1.toNat default)).getD 0) != 0)=true then
   p6 p9 (
    some true)
  else
   some (.inl ((W (v1+1)),(mp Wu v2 (a0.getD v1.toNat default) 1)))
  else none
 else
  p6 p9 (
   ul m)
def vb(m:Option Nat)(a0:List (List UInt8))(v1:Int)(v2:List ((List UInt8)×Int)):Option Bool:=Y5 m (fun(s:(Int×(List ((List UInt8)×Int))))=>xe m a0 s.1 s.2) (v1,v2)
theorem zqa{a0:List (List UInt8)}{m:Option Nat}{o:Bool}(h:ul m=some o) :
 LWp Tryd.prog Kl 0 zgk (zu5 a0 o) [] [] 0:=by
 unfold ul at h
 refine SR ?_
 refine wl ?_
 cases h
 exact AI TT (AI rfl (VS rfl))
theorem zjs{a0:List (List UInt8)}{v1:Int}{v2:List ((List UInt8)×Int)}{m:Option Nat}{o:(Int×(List ((List UInt8)×Int))) ⊕ Bool}(h:xe m a0 v1 v2=some o) :
 LWp Tryd.prog Kl 0 zoh (Z7 0 1 (z5x a0) (z8w a0) (zhu a0) o) [(3,.map (0,0)),(7,.isl 1 (a0.map za) false),(8,i6 ((a0.map za).length:Int)),(9,i6 v1)] [((0,0),.amap (v2.map (em Uf z1b)))] 1:=by
 unfold xe at h
 refine SR ?_
 refine wn ?_
 refine y4 (v:=(decide (v1<((a0.map za).length:Int)))) rfl TT (fun h7=>?_) (fun h7=>?_)
 ·have h:=zd h7 h
  refine x6 ?_
  refine wn ?_
  refine xk ?_
  refine SR ?_
  obtain⟨h8,h⟩:=zj h
  refine AI h8 ?_
  refine EX (za (a0.getD v1.toNat default)) (AI (jx za _ _ (uz za h8)) (AI (AI (Y1 h8) (NB rfl)) ?_))
  refine wn ?_
  refine SR ?_
  refine EX (i6 ((lk Wu v2 (a0.getD v1.toNat default)).getD 0)) (AI (y4a (ek:=Uf) (ev:=z1b) (z:=0) z7l rfl (a0.getD v1.toNat default) v2) (AI (zje (ek:=Uf) (ev:=z1b) z7l _ _) ?_))
  refine p0 (e:=[(3,.map (0,0)),(5,.str (a0.getD v1.toNat default)),(7,.isl 1 (a0.map za) false),(8,i6 ((a0.map za).length:Int)),(9,i6 v1),(16,.bool (((lk Wu v2 (a0.getD v1.toNat default)).getD 0) != 0))]) (L:=[((0,0),.amap (v2.map (em Uf z1b)))]) (n:=1) ?_ ?_
  ·exact y7 (M:=[((0,0),(0,0))]) rfl (AI (Vw.map _ _ rfl) (S4 rfl rfl rfl rfl (AI (VS rfl) TT))) (AI (AI rfl (BVw.ofMap Uf z1b z3k v2)) TT)
  refine y4 (v:=(((lk Wu v2 (a0.getD v1.toNat default)).getD 0) != 0)) rfl TT (fun h9=>?_) (fun h9=>?_)
  ·have h:=zd h9 h
   refine SR ?_
   refine wl ?_
   obtain⟨o,hq,rfl⟩:=p3.1 h
   replace h:=hq;clear hq
   refine AI nofun ?_
   cases h
   exact AI TT (AI rfl (VS rfl))
  ·have h:=zk h9 h
   refine x6 ?_
   refine J1 ?_
   refine EX ((mp Wu v2 (a0.getD v1.toNat default) 1).map (em Uf z1b)) (AI (zgo (ek:=Uf) (ev:=z1b) z7l (a0.getD v1.toNat default) 1 v2) ?_)
   refine J1 ?_
   cases h
   exact AI rfl (y7 (M:=[((0,0),(0,0))]) rfl (AI (Vw.map _ _ rfl) (S2 rfl rfl (AI (VS rfl) TT))) (AI (AI rfl (BVw.ofMap Uf z1b z3k (mp Wu v2 (a0.getD v1.toNat default) 1))) TT))
 ·have h:=zk h7 h
  refine Xh ?_
  obtain⟨o,hq,rfl⟩:=p3.1 h
  replace h:=hq;clear hq
  refine AI nofun ?_
  refine p0 ?_ (zqa h)
  exact y7 (M:=[]) rfl TT TT
theorem zrm{a0:List (List UInt8)}{v1:Int}{v2:List ((List UInt8)×Int)}{m:Option Nat}{o:Bool}(h:vb m a0 v1 v2=some o) :
 LWp Tryd.prog Kl 0 (.loop zoh) (x4 0 (Yk Tryd.prog Kl 0 zgk (zu5 a0 o))) [(3,.map (0,0)),(7,.isl 1 (a0.map za) false),(8,i6 ((a0.map za).length:Int)),(9,i6 v1)] [((0,0),.amap (v2.map (em Uf z1b)))] 1:=
 wy (m:=m) (s:=((v1,v2):(Int×(List ((List UInt8)×Int))))) (r:=o) (fun(s:(Int×(List ((List UInt8)×Int))))=>xe m a0 s.1 s.2) (z5x a0) (z8w a0) (zhu a0) (fun s o h=>zjs h) h
def kh(m:Option Nat)(a0:List (List UInt8)):Option Bool:=
 vb m a0 0 ([]:List ((List UInt8)×Int))
theorem znt{a0:List (List UInt8)}{m:Option Nat}{o:Bool}(h:kh m a0=some o):LWp Tryd.prog Kl 0 zxm (zu5 a0 o) (zu 0 [.isl 1 (a0.map za) false]) [] 0:=by
 unfold kh at h
 refine SR ?_
 refine SR ?_
 refine wn ?_
 refine SR ?_
 refine xk ?_
 refine p0 ?_ (zrm h)
 exact y7 (M:=[((0,0),(0,0))]) rfl (AI (Vw.map _ _ rfl) (S2 rfl rfl (AI (VS rfl) TT))) (AI (AI rfl (BVw.ofMap Uf z1b z3k ([]:List ((List UInt8)×Int)))) TT)
theorem y5b{a0:List (List UInt8)}{m:Option Nat}{o:Bool}(h:kh m a0=some o):PFn Tryd.prog 72 [.isl 1 (a0.map za) false] (.bool o):=p7 (L:=y4o) y24 y1r (NB rfl) rfl (znt h)
def zge:LCode:=(.seq (.region [Qb 2])
 (.seq (.region [Qm 3 0,
  Qc 4 42 3,
  Qo 5 (.un .not (.t 4)),
  Qm 2 5])
 .ret))
def zbx:Lay:=⟨6,[],false⟩
def za6:List LRes:=[.t 2]
def znp:LFn:=⟨1,zbx,zge,za6⟩
theorem zn3:wm Tryd.prog [] 74=some znp:=by kernel_rfl
theorem zo8:Zc Tryd.prog 74:=⟨_,Tryd.func74,rfl,rfl⟩
def qt(m:Option Nat)(a0:List UInt8):Option Bool:=
 (kf m a0).bind fun v1=>
 some (!v1)
def zyw(a0:List UInt8)(o:Bool):Exit→Env→AHeap→Nat→Prop:=Y2 za6 (Zz 3 4 (.bool o) [])
theorem zec{a0:List UInt8}{m:Option Nat}{o:Bool}(h:qt m a0=some o):LWp Tryd.prog zbx 3 zge (zyw a0 o) (zu 0 [.str a0]) [] 3:=by
 unfold qt at h
 refine SR ?_
 refine SR ?_
 obtain⟨v1,h1,h⟩:=bind_some h
 refine p5 (zsz h1) (AI (VS rfl) TT) ?_
 refine wl ?_
 cases h
 exact AI TT (Yl (n':=3) [] [] rfl rfl (VS rfl) TT)
theorem zw4{a0:List UInt8}{m:Option Nat}{o:Bool}(h:qt m a0=some o):ACalls Tryd.prog 74 [.str a0] [] 3 (u0 4 (.bool o) []):=Z0 (L:=znp) zn3 zo8 (NB rfl) (zec h)
def z78:LCode:=(.seq (.region [Qo 9 (.bin .lss (.t 8) (.t 7))])
 (.seq (.cond (.t 9)
  .skip
  (.exit 0))
 (.seq (.block 1
  (.seq (.region [Qm 10 8,
   Qm 5 10])
  (.seq (.region [Qm 11 1,
   Qm 12 0,
   Qm 13 5,
   Qo 14 (.iaddr 1 (.t 12) (.t 13)),
   Ql 15 1 14,
   Qo 16 (.callv (.t 11) [(.t 15)])])
  (.cond (.t 16)
   (.seq (.region [Qm 17 5,
    Qm 4 17])
   .ret)
   .skip))))
 (.region [Qo 18 (.bin .add (.t 8) (.c (i6 1))),
  Qm 8 18]))))
def z1q:LCode:=(.seq (.region [Qo 4 (.mv (.c (i6 (-1))))])
 .ret)
def zf9:LCode:=(.seq (.region [Qi 4 0])
 (.seq (.seq (.region [Qm 6 0,
  Qo 7 (.len false (.t 6)),
  Qi 8 0])
 (.block 0
  (.loop
   z78)))
 z1q))
def X0:Lay:=⟨19,[],false⟩
def z8r:List LRes:=[.t 4]
def zl2:LFn:=⟨2,X0,zf9,z8r⟩
theorem znb:wm Tryd.prog [] 79=some zl2:=by kernel_rfl
theorem zny:Zc Tryd.prog 79:=⟨_,Tryd.func79,rfl,rfl⟩
def z81{σ:Type}(Hc:σ→AHeap)(fi0:Fn)(ff0 fc0:List AVal)(a0:List (List UInt8))(z0:σ)(o:Int×σ):Exit→Env→AHeap→Nat→Prop:=Y2 z8r (Zz 3 4 (i6 o.1) ([]++up 3 (Hc o.2)))
def z0h{σ:Type}(Hc:σ→AHeap)(fi0:Fn)(ff0 fc0:List AVal)(a0:List (List UInt8))(s:(Int×σ)):Env:=[(0,.isl 1 (a0.map za) false),(1,.fn fi0 ff0 fc0),(7,i6 ((a0.map za).length:Int)),(8,i6 s.1)]
def z2y{σ:Type}(Hc:σ→AHeap)(fi0:Fn)(ff0 fc0:List AVal)(a0:List (List UInt8))(s:(Int×σ)):AHeap:=([]++up 3 (Hc s.2))
def z66{σ:Type}(Hc:σ→AHeap)(fi0:Fn)(ff0 fc0:List AVal)(a0:List (List UInt8))(z0:σ)(o:(Int×σ)):Exit→Env→AHeap→Nat→Prop:=(x4 0 (Yk Tryd.prog X0 3 z1q (z81 Hc fi0 ff0 fc0 a0 z0 o)))
def ud{σ:Type}(g0:σ→(List UInt8)→Option (Bool×σ))(m:Option Nat)(v3:σ):Option (Int×σ):=
 some ((-1),v3)
def qq{σ:Type}(g0:σ→(List UInt8)→Option (Bool×σ))(m:Option Nat)(a0:List (List UInt8))(v2:Int)(v3:σ):Option ((Int×σ) ⊕ (Int×σ)):=
 if(decide (v2<((a0.map za).length:Int)))=true then
  if(0:Int)≤v2∧v2<((a0.map za).length:Int) then
  (g0 v3 (a0.getD v2.toNat default)).bind fun v5=>
  if v5.1=true then
   p6 p9 (
    some (v2,v5.2))
  else
   some (.inl ((W (v2+1)),v5.2))
  else none
 else
  p6 p9 (
   ud g0 m v3)
def jw{σ:Type}(g0:σ→(List UInt8)→Option (Bool×σ))(m:Option Nat)(a0:List (List UInt8))(v2:Int)(v3:σ):Option (Int×σ):=Y5 m (fun(s:(Int×σ))=>qq g0 m a0 s.1 s.2) (v2,v3)
theorem zcl{σ:Type}{Hc:σ→AHeap}{fi0:Fn}{ff0 fc0:List AVal}{g0:σ→(List UInt8)→Option (Bool×σ)}(hg0:Clo Tryd.prog fi0 ff0 fc0 Hc (fun(x:(List UInt8))=>[.str x]) (fun(b:Bool)=>.bool b) g0){a0:List (List UInt8)}{z0:σ}{v3:σ}{m:Option Nat}{o:(Int×σ)}(h:ud g0 m v3=some o) :
 LWp Tryd.prog X0 3 z1q (z81 Hc fi0 ff0 fc0 a0 z0 o) [] ([]++up 3 (Hc v3)) 4:=by
 unfold ud at h
 refine SR ?_
 refine wl ?_
 cases h
 exact AI TT (y5c (n':=4) (q:=3) (lit':=[]) (hg0.tl _) [] [] rfl rfl (VS rfl) TT)
theorem zbp{σ:Type}{Hc:σ→AHeap}{fi0:Fn}{ff0 fc0:List AVal}{g0:σ→(List UInt8)→Option (Bool×σ)}(hg0:Clo Tryd.prog fi0 ff0 fc0 Hc (fun(x:(List UInt8))=>[.str x]) (fun(b:Bool)=>.bool b) g0){z0:σ}{a0:List (List UInt8)}{v2:Int}{v3:σ}{m:Option Nat}{o:(Int×σ) ⊕ (Int×σ)}(h:qq g0 m a0 v2 v3=some o) :
 LWp Tryd.prog X0 3 z78 (Z7 3 4 (z0h Hc fi0 ff0 fc0 a0) (z2y Hc fi0 ff0 fc0 a0) (z66 Hc fi0 ff0 fc0 a0 z0) o) [(0,.isl 1 (a0.map za) false),(1,.fn fi0 ff0 fc0),(7,i6 ((a0.map za).length:Int)),(8,i6 v2)] ([]++up 3 (Hc v3)) 4:=by
 unfold qq at h
 refine SR ?_
 refine wn ?_
 refine y4 (v:=(decide (v2<((a0.map za).length:Int)))) rfl TT (fun h9=>?_) (fun h9=>?_)
 ·have h:=zd h9 h
  refine x6 ?_
  refine wn ?_
  refine xk ?_
  refine SR ?_
  refine SR ?_
  obtain⟨h10,h⟩:=zj h
  refine AI h10 ?_
  refine EX (za (a0.getD v2.toNat default)) (AI (jx za _ _ (uz za h10)) (AI (AI (Y1 h10) (NB rfl)) ?_))
  obtain⟨v5,h11,h⟩:=bind_some h
  refine Clo.use (q:=3) (lit:=[]) hg0 h11 rfl rfl (AI (VS rfl) TT) ?_
  refine p0 (e:=[(0,.isl 1 (a0.map za) false),(1,.fn fi0 ff0 fc0),(5,i6 v2),(7,i6 ((a0.map za).length:Int)),(8,i6 v2),(16,.bool v5.1)]) (L:=([]++up 3 (Hc v5.2))) (n:=4) ?_ ?_
  ·exact zy3 (M:=[]) (lit':=[]) (hg0.tl _) rfl (AI (VS rfl) (AI (Vw.clo hg0.hf hg0.hc (by decide) (z0o (Xv (n:=4) (q:=4) (lit':=[]) rfl))) (S4 rfl rfl rfl rfl TT))) TT
  refine y4 (v:=v5.1) rfl TT (fun h12=>?_) (fun h12=>?_)
  ·have h:=zd h12 h
   refine SR ?_
   refine wl ?_
   obtain⟨o,hq,rfl⟩:=p3.1 h
   replace h:=hq;clear hq
   refine AI nofun ?_
   cases h
   exact AI TT (y5c (n':=4) (q:=3) (lit':=[]) (hg0.tl _) [] [] rfl rfl (VS rfl) TT)
  ·have h:=zk h12 h
   refine x6 ?_
   refine J1 ?_
   cases h
   exact AI rfl (zy3 (M:=[]) (lit':=[]) (hg0.tl _) rfl (AI (VS rfl) (AI (Vw.clo hg0.hf hg0.hc (by decide) (z0o (Xv (n:=4) (q:=3) (lit':=[]) rfl))) (S2 rfl rfl TT))) TT)
 ·have h:=zk h9 h
  refine Xh ?_
  obtain⟨o,hq,rfl⟩:=p3.1 h
  replace h:=hq;clear hq
  refine AI nofun ?_
  refine p0 ?_ (zcl hg0 h)
  exact zy3 (M:=[]) (lit':=[]) (hg0.tl _) rfl TT TT
theorem zeh{σ:Type}{Hc:σ→AHeap}{fi0:Fn}{ff0 fc0:List AVal}{g0:σ→(List UInt8)→Option (Bool×σ)}(hg0:Clo Tryd.prog fi0 ff0 fc0 Hc (fun(x:(List UInt8))=>[.str x]) (fun(b:Bool)=>.bool b) g0){z0:σ}{a0:List (List UInt8)}{v2:Int}{v3:σ}{m:Option Nat}{o:(Int×σ)}(h:jw g0 m a0 v2 v3=some o) :
 LWp Tryd.prog X0 3 (.loop z78) (x4 0 (Yk Tryd.prog X0 3 z1q (z81 Hc fi0 ff0 fc0 a0 z0 o))) [(0,.isl 1 (a0.map za) false),(1,.fn fi0 ff0 fc0),(7,i6 ((a0.map za).length:Int)),(8,i6 v2)] ([]++up 3 (Hc v3)) 4:=
 wy (m:=m) (s:=((v2,v3):(Int×σ))) (r:=o) (fun(s:(Int×σ))=>qq g0 m a0 s.1 s.2) (z0h Hc fi0 ff0 fc0 a0) (z2y Hc fi0 ff0 fc0 a0) (z66 Hc fi0 ff0 fc0 a0 z0) (fun s o h=>zbp hg0 h) h
def vn{σ:Type}(g0:σ→(List UInt8)→Option (Bool×σ))(m:Option Nat)(a0:List (List UInt8))(z0:σ):Option (Int×σ):=
 jw g0 m a0 0 z0
theorem zcx{σ:Type}{Hc:σ→AHeap}{fi0:Fn}{ff0 fc0:List AVal}{g0:σ→(List UInt8)→Option (Bool×σ)}(hg0:Clo Tryd.prog fi0 ff0 fc0 Hc (fun(x:(List UInt8))=>[.str x]) (fun(b:Bool)=>.bool b) g0){a0:List (List UInt8)}{z0:σ}{m:Option Nat}{o:Int×σ}(h:vn g0 m a0 z0=some o):LWp Tryd.prog X0 3 zf9 (z81 Hc fi0 ff0 fc0 a0 z0 o) (zu 0 [.isl 1 (a0.map za) false,.fn fi0 ff0 fc0]) ([]++Hc z0) 3:=by
 unfold vn at h
 refine p0 (e:=[(0,.isl 1 (a0.map za) false),(1,.fn fi0 ff0 fc0)]) (L:=([]++up 3 (Hc z0))) (n:=4) (zr9 (T:=Hc z0) (e':=zu 0 [.isl 1 (a0.map za) false,.fn fi0 ff0 fc0]) (e:=[(0,.isl 1 (a0.map za) false),(1,.fn fi0 ff0 fc0)]) (lit':=[]) (lit:=[]) (hg0.tl z0) rfl rfl (AI (VS rfl) (AI (Vw.clo hg0.hf hg0.hc (by decide) (znx _)) TT)) TT) ?_
 refine SR ?_
 refine wn ?_
 refine SR ?_
 refine xk ?_
 refine p0 ?_ (zeh hg0 h)
 exact zy3 (M:=[]) (lit':=[]) (hg0.tl _) rfl (AI (VS rfl) (AI (Vw.clo hg0.hf hg0.hc (by decide) (z0o (Xv (n:=4) (q:=3) (lit':=[]) rfl))) (S2 rfl rfl TT))) TT
theorem ztx{σ:Type}{Hc:σ→AHeap}{fi0:Fn}{ff0 fc0:List AVal}{g0:σ→(List UInt8)→Option (Bool×σ)}(hg0:Clo Tryd.prog fi0 ff0 fc0 Hc (fun(x:(List UInt8))=>[.str x]) (fun(b:Bool)=>.bool b) g0){a0:List (List UInt8)}{z0:σ}{m:Option Nat}{o:Int×σ}(h:vn g0 m a0 z0=some o):ACalls Tryd.prog 79 [.isl 1 (a0.map za) false,.fn fi0 ff0 fc0] ([]++Hc z0) 3 (u0 4 (i6 o.1) ([]++up 3 (Hc o.2))):=Z0 (L:=zl2) znb zny (NB rfl) (zcx hg0 h)
def zi7:LCode:=(.seq (.region [Qb 4])
 (.seq (.region [Qm 5 0,
  Qm 6 1,
  Qo 7 (.call 79 [(.t 5),(.t 6)]),
  Qo 8 (.bin .geq (.t 7) (.c (i6 0))),
  Qm 4 8])
 .ret))
def z85:Lay:=⟨9,[],false⟩
def z9c:List LRes:=[.t 4]
def zrh:LFn:=⟨2,z85,zi7,z9c⟩
theorem zqm:wm Tryd.prog [] 73=some zrh:=by kernel_rfl
theorem zmc:Zc Tryd.prog 73:=⟨_,Tryd.func73,rfl,rfl⟩
def xn{σ:Type}(g0:σ→(List UInt8)→Option (Bool×σ))(m:Option Nat)(a0:List (List UInt8))(z0:σ):Option (Bool×σ):=
 (vn g0 m a0 z0).bind fun v1=>
 some ((decide (v1.1≥0)),v1.2)
def zzz{σ:Type}(Hc:σ→AHeap)(fi0:Fn)(ff0 fc0:List AVal)(a0:List (List UInt8))(z0:σ)(o:Bool×σ):Exit→Env→AHeap→Nat→Prop:=Y2 z9c (Zz 3 4 (.bool o.1) ([]++up 3 (Hc o.2)))
theorem zdw{σ:Type}{Hc:σ→AHeap}{fi0:Fn}{ff0 fc0:List AVal}{g0:σ→(List UInt8)→Option (Bool×σ)}(hg0:Clo Tryd.prog fi0 ff0 fc0 Hc (fun(x:(List UInt8))=>[.str x]) (fun(b:Bool)=>.bool b) g0){a0:List (List UInt8)}{z0:σ}{m:Option Nat}{o:Bool×σ}(h:xn g0 m a0 z0=some o):LWp Tryd.prog z85 3 zi7 (zzz Hc fi0 ff0 fc0 a0 z0 o) (zu 0 [.isl 1 (a0.map za) false,.fn fi0 ff0 fc0]) ([]++Hc z0) 3:=by
 unfold xn at h
 refine p0 (e:=[(0,.isl 1 (a0.map za) false),(1,.fn fi0 ff0 fc0)]) (L:=([]++up 3 (Hc z0))) (n:=4) (zr9 (T:=Hc z0) (e':=zu 0 [.isl 1 (a0.map za) false,.fn fi0 ff0 fc0]) (e:=[(0,.isl 1 (a0.map za) false),(1,.fn fi0 ff0 fc0)]) (lit':=[]) (lit:=[]) (hg0.tl z0) rfl rfl (AI (VS rfl) (AI (Vw.clo hg0.hf hg0.hc (by decide) (znx _)) TT)) TT) ?_
 refine SR ?_
 refine SR ?_
 obtain⟨v1,h1,h⟩:=bind_some h
 refine zws (m:=1) (q:=3) (lit0:=[]) (lit:=[]) (L:=[]) (L':=[]) (rest:=[]) (R':=i6 v1.1) (hg0.tl _) (hg0.tl _) [] (ztx hg0 h1) rfl rfl rfl rfl rfl rfl (AI (VS rfl) (AI (Vw.clo hg0.hf hg0.hc (by decide) (zd3 _ _)) TT)) TT (xl _ rfl) TT rfl ?_
 refine wl ?_
 cases h
 exact AI TT (y5c (n':=6) (q:=4) (lit':=[]) (hg0.tl _) [] [] rfl rfl (VS rfl) TT)
theorem zv5{σ:Type}{Hc:σ→AHeap}{fi0:Fn}{ff0 fc0:List AVal}{g0:σ→(List UInt8)→Option (Bool×σ)}(hg0:Clo Tryd.prog fi0 ff0 fc0 Hc (fun(x:(List UInt8))=>[.str x]) (fun(b:Bool)=>.bool b) g0){a0:List (List UInt8)}{z0:σ}{m:Option Nat}{o:Bool×σ}(h:xn g0 m a0 z0=some o):ACalls Tryd.prog 73 [.isl 1 (a0.map za) false,.fn fi0 ff0 fc0] ([]++Hc z0) 3 (u0 4 (.bool o.1) ([]++up 3 (Hc o.2))):=Z0 (L:=zrh) zqm zmc (NB rfl) (zdw hg0 h)
def zwv:LCode:=(.seq (.block 1
 (.seq (.region [Qf 12 1 1,
  Ql 13 1 12,
  Qm 14 3,
  Qo 15 (.bin .lss (.t 13) (.t 14)),
  Qm 16 15,
  Qe 17 1 1 (16,false),
  Qk 18 1 17 (16,false),
  Qn 19 4 (16,false),
  Qg 20 (.bin .gtr (.t 18) (.t 19)) (16,false),
  Qo 21 (.pick (.t 16) (.c (.bool true)) (.t 20)),
  Qm 11 21])
 (.cond (.t 11)
  (.seq (.region [Qb 2])
  .ret)
  (.seq (.region [Qf 23 2 1,
   Ql 24 1 23,
   Qo 25 (.bin .neq (.t 24) (.c (.str []))),
   Qm 26 25,
   Qe 27 0 1 (26,true),
   Qk 28 1 27 (26,true),
   Qg 29 (.bin .neq (.t 28) (.c (i6 3))) (26,true),
   Qp 30 26 29,
   Qm 22 30])
  (.cond (.t 22)
   (.seq (.region [Qb 2])
   .ret)
   (.seq (.region [Qf 32 4 1,
    Ql 33 1 32,
    Qo 34 (.len false (.t 33)),
    Qo 35 (.bin .gtr (.t 34) (.c (i6 0))),
    Qm 36 35,
    Qe 37 0 1 (36,true),
    Qk 38 1 37 (36,true),
    Qg 39 (.bin .neq (.t 38) (.c (i6 4))) (36,true),
    Qp 40 36 39,
    Qm 41 40,
    Qe 42 0 1 (41,true),
    Qk 43 1 42 (41,true),
    Qg 44 (.bin .neq (.t 43) (.c (i6 5))) (41,true),
    Qp 45 41 44,
    Qm 31 45])
   (.cond (.t 31)
    (.seq (.region [Qb 2])
    .ret)
    (.seq (.region [Qf 47 0 1,
     Ql 48 1 47,
     Qo 49 (.bin .eql (.t 48) (.c (i6 5))),
     Qm 50 49,
     Qe 51 3 1 (50,true),
     Qk 52 1 51 (50,true),
     Qg 53 (.len false (.t 52)) (50,true),
     Qe 54 4 1 (50,true),
     Qk 55 1 54 (50,true),
     Qg 56 (.len false (.t 55)) (50,true),
     Qg 57 (.bin .neq (.t 53) (.t 56)) (50,true),
     Qn 58 57 (50,true),
     Qe 59 3 1 (58,false),
     Qk 60 1 59 (58,false),
     Qg 61 (.call 72 [(.t 60)]) (58,false),
     Qg 62 (.pick (.t 58) (.c (.bool true)) (.t 61)) (50,true),
     Qp 63 50 62,
     Qm 46 63])
    (.cond (.t 46)
     (.seq (.region [Qb 2])
     .ret)
     (.seq (.region [Qf 65 0 1,
      Ql 66 1 65,
      Qo 67 (.bin .neq (.t 66) (.c (i6 5))),
      Qm 68 67,
      Qe 69 3 1 (68,true),
      Qk 70 1 69 (68,true),
      Qg 71 (.len false (.t 70)) (68,true),
      Qg 72 (.bin .gtr (.t 71) (.c (i6 0))) (68,true),
      Qp 73 68 72,
      Qm 64 73])
     (.cond (.t 64)
      (.seq (.region [Qb 2])
      .ret)
      .skip)))))))))))
 (.seq (.region [Qf 74 2 1,
  Ql 75 1 74,
  Qc 76 42 75,
  Qm 77 76,
  Qe 78 3 1 (77,true),
  Qk 79 1 78 (77,true),
  Qg 80 (.call 73 [(.t 79),(.c (.fn (.func 74) [] []))]) (77,true),
  Qg 81 (.un .not (.t 80)) (77,true),
  Qp 82 77 81,
  Qm 2 82])
 .ret))
def zxn:LCode:=(.seq (.region [Qo 1 (.box (.t 0)),
 Qb 2])
 (.seq (.region [Qi 3 0,
  Qi 4 0])
 (.seq (.seq (.region [Qf 5 0 1,
  Ql 6 1 5])
 (.block 0
  (.seq (.region [Qo 8 (.bin .eql (.t 6) (.c (i6 1))),
   Qm 7 8])
  (.cond (.t 7)
   (.region [Qi 4 1])
   (.seq (.region [Qo 10 (.bin .eql (.t 6) (.c (i6 2))),
    Qm 9 10])
   (.cond (.t 9)
    (.region [Qo 3 (.mv (.c (i6 (-9007199254740991)))),
     Qi 4 9007199254740991])
    .skip))))))
 zwv)))
def zcj:Lay:=⟨83,[],false⟩
def zko:List LRes:=[.t 2]
def y4l:LFn:=⟨1,zcj,zxn,zko⟩
theorem y0q:wm Tryd.prog [] 65=some y4l:=by kernel_rfl
theorem y1a:Zc Tryd.prog 65:=⟨_,Tryd.func65,rfl,rfl⟩
def jd(m:Option Nat)(a0:GJ)(v1:Int)(v2:Int):Option Bool:=
 if((decide (a0.fN<v1)) || (decide (a0.fN > v2)))=true then
  some false
 else
  if((!(a0.fT==([]:List UInt8)))&&(a0.fK != 3))=true then
   some false
  else
   if(((decide (((a0.fE.map ze).length:Int) > 0))&&(a0.fK != 4))&&(a0.fK != 5))=true then
    some false
   else
    (if(((a0.fK==5)==true)&&((((a0.fA.map za).length:Int) != ((a0.fE.map ze).length:Int))==false))=true then kh m a0.fA else some default).bind fun v3=>
    if((a0.fK==5)&&((((a0.fA.map za).length:Int) != ((a0.fE.map ze).length:Int)) || v3))=true then
     some false
    else
     if((a0.fK != 5)&&(decide (((a0.fA.map za).length:Int) > 0)))=true then
      some false
     else
      (kf m a0.fT).bind fun v4=>
      (if(v4==true)=true then xn (fun(s:Unit) (x:(List UInt8))=>(qt m x).map fun o=>(o,())) m a0.fA () else some default).bind fun v5=>
      some (v4&&(!v5.1))
def y53(a0:GJ)(o:Bool):Exit→Env→AHeap→Nat→Prop:=Y2 zko (vi (.bool o))
theorem z3q{a0:GJ}{v1:Int}{v2:Int}{m:Option Nat}{o:Bool}(h:jd m a0 v1 v2=some o) :
 LWp Tryd.prog zcj 0 zwv (y53 a0 o) [(1,.ptr (0,0) 0 0),(3,i6 v1),(4,i6 v2)] [((0,0),.one (z7 a0))] 1:=by
 unfold jd at h
 refine wn ?_
 refine xk ?_
 refine SR ?_
 refine HP ?_
 refine AI (fun hp=>(AI hp hp)) ?_
 refine AI (fun hc=>(bqf hc)) ?_
 refine p0 (e:=[(1,.ptr (0,0) 0 0),(11,.bool ((decide (a0.fN<v1)) || (decide (a0.fN > v2))))]) (L:=[((0,0),.one (z7 a0))]) (n:=1) ?_ ?_
 ·exact y7 (M:=[((0,0),(0,0))]) rfl (SP rfl (AI (VS rfl) TT)) (AI (AI rfl (OL rfl)) TT)
 refine y4 (v:=((decide (a0.fN<v1)) || (decide (a0.fN > v2)))) rfl TT (fun h3=>?_) (fun h3=>?_)
 ·have h:=zd h3 h
  refine SR ?_
  refine wl ?_
  cases h
  exact AI TT (AI rfl (VS rfl))
 ·have h:=zk h3 h
  refine SR ?_
  refine HP ?_
  refine HP ?_
  refine HB ?_
  refine p0 (e:=[(1,.ptr (0,0) 0 0),(22,.bool ((!(a0.fT==([]:List UInt8)))&&(a0.fK != 3)))]) (L:=[((0,0),.one (z7 a0))]) (n:=1) ?_ ?_
  ·exact y7 (M:=[((0,0),(0,0))]) rfl (SP rfl (AI (VS rfl) TT)) (AI (AI rfl (OL rfl)) TT)
  refine y4 (v:=((!(a0.fT==([]:List UInt8)))&&(a0.fK != 3))) rfl TT (fun h4=>?_) (fun h4=>?_)
  ·have h:=zd h4 h
   refine SR ?_
   refine wl ?_
   cases h
   exact AI TT (AI rfl (VS rfl))
  ·have h:=zk h4 h
   refine SR ?_
   refine HP ?_
   refine HP ?_
   refine HB ?_
   refine HP ?_
   refine HP ?_
   refine HB ?_
   refine p0 (e:=[(1,.ptr (0,0) 0 0),(31,.bool (((decide (((a0.fE.map ze).length:Int) > 0))&&(a0.fK != 4))&&(a0.fK != 5)))]) (L:=[((0,0),.one (z7 a0))]) (n:=1) ?_ ?_
   ·exact y7 (M:=[((0,0),(0,0))]) rfl (SP rfl (AI (VS rfl) TT)) (AI (AI rfl (OL rfl)) TT)
   refine y4 (v:=(((decide (((a0.fE.map ze).length:Int) > 0))&&(a0.fK != 4))&&(a0.fK != 5))) rfl TT (fun h5=>?_) (fun h5=>?_)
   ·have h:=zd h5 h
    refine SR ?_
    refine wl ?_
    cases h
    exact AI TT (AI rfl (VS rfl))
   ·have h:=zk h5 h
    refine SR ?_
    refine HP ?_
    refine HP ?_
    refine HP ?_
    refine HP ?_
    refine AI (fun hp=>(AI hp hp)) ?_
    refine HP ?_
    refine HP ?_
    obtain⟨v3,h6,h⟩:=bind_some h
    refine Or.inl (EX (.bool v3) (AI (fun hp=>AI hp (p5 (y5b (zd hp h6)) (AI (VS rfl) TT) (AI rfl (AI rfl rfl)))) ?_))
    refine AI (fun hp=>(AI hp (fun hc=>(z3u hp (bqf hc))))) ?_
    refine HB ?_
    refine p0 (e:=[(1,.ptr (0,0) 0 0),(46,.bool ((a0.fK==5)&&((((a0.fA.map za).length:Int) != ((a0.fE.map ze).length:Int)) || v3)))]) (L:=[((0,0),.one (z7 a0))]) (n:=1) ?_ ?_
    ·exact y7 (M:=[((0,0),(0,0))]) rfl (SP rfl (AI (VS rfl) TT)) (AI (AI rfl (OL rfl)) TT)
    refine y4 (v:=((a0.fK==5)&&((((a0.fA.map za).length:Int) != ((a0.fE.map ze).length:Int)) || v3))) rfl TT (fun h7=>?_) (fun h7=>?_)
    ·have h:=zd h7 h
     refine SR ?_
     refine wl ?_
     cases h
     exact AI TT (AI rfl (VS rfl))
    ·have h:=zk h7 h
     refine SR ?_
     refine HP ?_
     refine HP ?_
     refine HP ?_
     refine HB ?_
     refine p0 (e:=[(1,.ptr (0,0) 0 0),(64,.bool ((a0.fK != 5)&&(decide (((a0.fA.map za).length:Int) > 0))))]) (L:=[((0,0),.one (z7 a0))]) (n:=1) ?_ ?_
     ·exact y7 (M:=[((0,0),(0,0))]) rfl (SP rfl (AI (VS rfl) TT)) (AI (AI rfl (OL rfl)) TT)
     refine y4 (v:=((a0.fK != 5)&&(decide (((a0.fA.map za).length:Int) > 0)))) rfl TT (fun h8=>?_) (fun h8=>?_)
     ·have h:=zd h8 h
      refine SR ?_
      refine wl ?_
      cases h
      exact AI TT (AI rfl (VS rfl))
     ·have h:=zk h8 h
      refine x6 ?_
      refine SR ?_
      obtain⟨v4,h9,h⟩:=bind_some h
      refine p5 (zsz h9) (AI (VS rfl) TT) ?_
      refine HP ?_
      obtain⟨v5,h10,h⟩:=bind_some h
      refine Or.inl (EX (.bool v5.1) (AI (fun hp=>AI hp (ACalls.same rfl (Z2 (k:=3) (m:=1) (L':=[]) (rest:=[((0,0),.one (z7 a0))]) (R':=.bool v5.1) [] (zv5 (show Clo Tryd.prog (.func 74) [] [] (fun(s:Unit)=>[]) (fun(x:(List UInt8))=>[.str x]) (fun(b:Bool)=>.bool b) (fun(s:Unit) (x:(List UInt8))=>(qt m x).map fun o=>(o,())) from Clo.mk' (fun s=>Tl.lit rfl TT rfl) rfl rfl (fun _=>rfl) (fun s x o h=>by obtain⟨o1,h1,rfl⟩:=p3.1 h;exact EX _ (AI (zw4 h1) TT))) (zd hp h10)) rfl rfl rfl (S2 rfl rfl TT) TT (xl _ rfl) TT rfl (AI rfl (HeapTo.get (AI (AI rfl (OL rfl)) TT)))))) ?_))
      refine HP ?_
      refine HB ?_
      refine p0 (e:=[(2,.bool (v4&&(!v5.1)))]) (L:=[]) (n:=0) ?_ ?_
      ·exact y7 (M:=[]) rfl (AI (VS rfl) TT) TT
      refine wl ?_
      cases h
      exact AI TT (AI rfl (VS rfl))
def ki(m:Option Nat)(a0:GJ):Option Bool:=
 if(a0.fK==1)=true then
  jd m a0 0 1
 else
  if(a0.fK==2)=true then
   jd m a0 (-9007199254740991) 9007199254740991
  else
   jd m a0 0 0
theorem zq7{a0:GJ}{m:Option Nat}{o:Bool}(h:ki m a0=some o):LWp Tryd.prog zcj 0 zxn (y53 a0 o) (zu 0 [.agg (z7 a0)]) [] 0:=by
 unfold ki at h
 refine SR ?_
 refine SR ?_
 refine wn ?_
 refine SR ?_
 refine xk ?_
 refine SR ?_
 refine p0 (e:=[(1,.ptr (0,0) 0 0),(3,i6 0),(4,i6 0),(6,i6 a0.fK),(7,.bool (a0.fK==1))]) (L:=[((0,0),.one (z7 a0))]) (n:=1) ?_ ?_
 ·exact y7 (M:=[((0,0),(0,0))]) rfl (SP rfl (S4 rfl rfl rfl rfl TT)) (AI (AI rfl (OL rfl)) TT)
 refine y4 (v:=(a0.fK==1)) rfl TT (fun h1=>?_) (fun h1=>?_)
 ·have h:=zd h1 h
  refine J1 ?_
  refine p0 ?_ (z3q h)
  exact y7 (M:=[((0,0),(0,0))]) rfl (SP rfl (S2 rfl rfl TT)) (AI (AI rfl (OL rfl)) TT)
 ·have h:=zk h1 h
  refine SR ?_
  refine y4 (v:=(a0.fK==2)) rfl TT (fun h2=>?_) (fun h2=>?_)
  ·have h:=zd h2 h
   refine J1 ?_
   refine p0 ?_ (z3q h)
   exact y7 (M:=[((0,0),(0,0))]) rfl (SP rfl (S2 rfl rfl TT)) (AI (AI rfl (OL rfl)) TT)
  ·have h:=zk h2 h
   refine x6 ?_
   refine p0 ?_ (z3q h)
   exact y7 (M:=[((0,0),(0,0))]) rfl (SP rfl (S2 rfl rfl TT)) (AI (AI rfl (OL rfl)) TT)
theorem y5l{a0:GJ}{m:Option Nat}{o:Bool}(h:ki m a0=some o):PFn Tryd.prog 65 [.agg (z7 a0)] (.bool o):=p7 (L:=y4l) y0q y1a (NB rfl) rfl (zq7 h)
def z7w:LCode:=(.seq (.region [Qo 23 (.bin .lss (.t 22) (.t 21))])
 (.seq (.cond (.t 23)
  .skip
  (.exit 1))
 (.seq (.block 2
  (.seq (.region [Qo 24 (.iaddr 5 (.t 20) (.t 22)),
   Qt 25 5 24,
   Qo 4 (.alloc [(i6 0),(i6 0),(.str []),(.isl 1 [] true),(.isl 5 [] true)]),
   ⟨none,.store 5 (.t 4) (.t 25),none⟩])
  (.seq (.region [Qt 26 5 4,
   Qc 27 47 26,
   Qm 5 27])
  (.seq (.region [Qm 28 5,
   Qo 29 (.bin .neq (.t 28) (.c (i6 0)))])
  (.cond (.t 29)
   (.seq (.region [Qm 30 5,
    Qm 2 30])
   .ret)
   .skip)))))
 (.region [Qo 31 (.bin .add (.t 22) (.c (i6 1))),
  Qm 22 31]))))
def z1m:LCode:=(.seq (.region [Qi 2 0])
 .ret)
def zh2:LCode:=(.seq (.region [Qo 1 (.box (.t 0)),
 Qi 2 0])
 (.seq (.block 0
  (.seq (.region [Qf 7 0 1,
   Ql 8 1 7,
   Qo 9 (.bin .lss (.t 8) (.c (i6 0))),
   Qm 10 9,
   Qe 11 0 1 (10,false),
   Qk 12 1 11 (10,false),
   Qg 13 (.bin .geq (.t 12) (.c (i6 6))) (10,false),
   Qo 14 (.pick (.t 10) (.c (.bool true)) (.t 13)),
   Qm 6 14])
  (.cond (.t 6)
   (.seq (.region [Qi 2 7])
   .ret)
   (.seq (.region [Qt 16 5 1,
    Qc 17 65 16,
    Qo 18 (.un .not (.t 17)),
    Qm 15 18])
   (.cond (.t 15)
    (.seq (.region [Qi 2 3])
    .ret)
    .skip)))))
 (.seq (.seq (.region [Qf 19 4 1,
  Ql 20 1 19,
  Qo 21 (.len false (.t 20)),
  Qi 22 0])
 (.block 1
  (.loop
   z7w)))
 z1m)))
def Qy:Lay:=⟨32,[],false⟩
def z8c:List LRes:=[.t 2]
def zq9:LFn:=⟨1,Qy,zh2,z8c⟩
theorem zlr:wm Tryd.prog [] 47=some zq9:=by kernel_rfl
theorem zt2:Zc Tryd.prog 47:=⟨_,Tryd.func47,rfl,rfl⟩
def z7p(a0:GJ)(o:Int):Exit→Env→AHeap→Nat→Prop:=Y2 z8c (Zz 3 3 (i6 o) [])
def z13(a0:GJ)(s:Int):Env:=[(20,.isl 5 (a0.fE.map ze) false),(21,i6 ((a0.fE.map ze).length:Int)),(22,i6 s)]
def z2j(a0:GJ)(s:Int):AHeap:=[]
def z4o(a0:GJ)(o:Int):Exit→Env→AHeap→Nat→Prop:=(x4 1 (Yk Tryd.prog Qy 3 z1m (z7p a0 o)))
def uk(rec1:GJ→Option Int)(m:Option Nat):Option Int:=
 some 0
def xc(rec1:GJ→Option Int)(m:Option Nat)(a0:GJ)(v4:Int):Option (Int ⊕ Int):=
 if(decide (v4<((a0.fE.map ze).length:Int)))=true then
  if(0:Int)≤v4∧v4<((a0.fE.map ze).length:Int) then
  ((Yt (a0.fE.getD v4.toNat default))).bind fun v7=>
  (rec1 v7).bind fun v8=>
  if(v8 != 0)=true then
   p6 p9 (
    some v8)
  else
   some (.inl (W (v4+1)))
  else none
 else
  p6 p9 (
   uk rec1 m)
def ja(rec1:GJ→Option Int)(m:Option Nat)(a0:GJ)(v4:Int):Option Int:=Y5 m (fun(s:Int)=>xc rec1 m a0 s) v4
abbrev Hr1(rec1:GJ→Option Int):Prop:=∀ {a0:GJ} {o:Int},rec1 a0=some o→ACalls Tryd.prog 47 [.agg (z7 a0)] [] 3 (u0 3 (i6 o) [])
theorem zdf{rec1:GJ→Option Int}(hrec1:Hr1 rec1){a0:GJ}{m:Option Nat}{o:Int}(h:uk rec1 m=some o) :
 LWp Tryd.prog Qy 3 z1m (z7p a0 o) [] [] 3:=by
 unfold uk at h
 refine SR ?_
 refine wl ?_
 cases h
 exact AI TT (Yl (n':=3) [] [] rfl rfl (VS rfl) TT)
theorem z86{rec1:GJ→Option Int}(hrec1:Hr1 rec1){a0:GJ}{v4:Int}{m:Option Nat}{o:Int ⊕ Int}(h:xc rec1 m a0 v4=some o) :
 LWp Tryd.prog Qy 3 z7w (Z7 3 3 (z13 a0) (z2j a0) (z4o a0) o) [(20,.isl 5 (a0.fE.map ze) false),(21,i6 ((a0.fE.map ze).length:Int)),(22,i6 v4)] [] 3:=by
 unfold xc at h
 refine SR ?_
 refine wn ?_
 refine y4 (v:=(decide (v4<((a0.fE.map ze).length:Int)))) rfl TT (fun h14=>?_) (fun h14=>?_)
 ·have h:=zd h14 h
  refine x6 ?_
  refine wn ?_
  refine xk ?_
  refine SR ?_
  obtain⟨h15,h⟩:=zj h
  refine AI h15 ?_
  obtain⟨v7,h16,h⟩:=bind_some h
  refine EX (z7 v7) (AI (Z5 (uz ze h15) h16) (AI (AI (Y1 h15) (NB rfl)) ?_))
  refine SR ?_
  obtain⟨v8,h17,h⟩:=bind_some h
  refine Z2 (k:=3) (m:=0) (L':=[]) (rest:=[((3,0),.one (z7 v7))]) (R':=i6 v8) [] (hrec1 h17) rfl rfl rfl (AI (VS rfl) TT) TT (xl _ rfl) TT rfl ?_
  refine p0 (e:=[(5,i6 v8),(20,.isl 5 (a0.fE.map ze) false),(21,i6 ((a0.fE.map ze).length:Int)),(22,i6 v4)]) (L:=[]) (n:=3) ?_ ?_
  ·exact y7 (M:=[]) rfl (S4 rfl rfl rfl rfl TT) TT
  refine SR ?_
  refine y4 (v:=(v8 != 0)) rfl TT (fun h18=>?_) (fun h18=>?_)
  ·have h:=zd h18 h
   refine SR ?_
   refine wl ?_
   obtain⟨o,hq,rfl⟩:=p3.1 h
   replace h:=hq;clear hq
   refine AI nofun ?_
   cases h
   exact AI TT (Yl (n':=3) [] [] rfl rfl (VS rfl) TT)
  ·have h:=zk h18 h
   refine x6 ?_
   refine J1 ?_
   cases h
   exact AI rfl (y7 (M:=[]) rfl (S2 rfl rfl (AI (VS rfl) TT)) TT)
 ·have h:=zk h14 h
  refine Xh ?_
  obtain⟨o,hq,rfl⟩:=p3.1 h
  replace h:=hq;clear hq
  refine AI nofun ?_
  refine p0 ?_ (zdf hrec1 h)
  exact y7 (M:=[]) rfl TT TT
theorem zep{rec1:GJ→Option Int}(hrec1:Hr1 rec1){a0:GJ}{v4:Int}{m:Option Nat}{o:Int}(h:ja rec1 m a0 v4=some o) :
 LWp Tryd.prog Qy 3 (.loop z7w) (x4 1 (Yk Tryd.prog Qy 3 z1m (z7p a0 o))) [(20,.isl 5 (a0.fE.map ze) false),(21,i6 ((a0.fE.map ze).length:Int)),(22,i6 v4)] [] 3:=
 wy (m:=m) (s:=(v4:Int)) (r:=o) (fun(s:Int)=>xc rec1 m a0 s) (z13 a0) (z2j a0) (z4o a0) (fun s o h=>z86 hrec1 h) h
def xi(rec1:GJ→Option Int)(m:Option Nat)(a0:GJ):Option Int:=
 if((decide (a0.fK<0)) || (decide (a0.fK≥6)))=true then
  some 7
 else
  (ki m a0).bind fun v1=>
  if(!v1)=true then
   some 3
  else
   ja rec1 m a0 0
theorem ze0{rec1:GJ→Option Int}(hrec1:Hr1 rec1){a0:GJ}{m:Option Nat}{o:Int}(h:xi rec1 m a0=some o):LWp Tryd.prog Qy 3 zh2 (z7p a0 o) (zu 0 [.agg (z7 a0)]) [] 3:=by
 unfold xi at h
 refine SR ?_
 refine wn ?_
 refine xk ?_
 refine SR ?_
 refine HP ?_
 refine HP ?_
 refine AI (fun hc=>(bqf hc)) ?_
 refine p0 (e:=[(1,.ptr (3,0) 0 0),(6,.bool ((decide (a0.fK<0)) || (decide (a0.fK≥6))))]) (L:=[((3,0),.one (z7 a0))]) (n:=4) ?_ ?_
 ·exact y7 (M:=[((3,0),(3,0))]) rfl (SP rfl (AI (VS rfl) TT)) (AI (AI rfl (OL rfl)) TT)
 refine y4 (v:=((decide (a0.fK<0)) || (decide (a0.fK≥6)))) rfl TT (fun h1=>?_) (fun h1=>?_)
 ·have h:=zd h1 h
  refine SR ?_
  refine wl ?_
  cases h
  exact AI TT (Yl (n':=4) [] [] rfl rfl (VS rfl) TT)
 ·have h:=zk h1 h
  refine SR ?_
  obtain⟨v1,h2,h⟩:=bind_some h
  refine p5 (y5l h2) (AI (VS rfl) TT) ?_
  refine y4 (v:=(!v1)) rfl TT (fun h3=>?_) (fun h3=>?_)
  ·have h:=zd h3 h
   refine SR ?_
   refine wl ?_
   cases h
   exact AI TT (Yl (n':=4) [] [] rfl rfl (VS rfl) TT)
  ·have h:=zk h3 h
   refine x6 ?_
   refine wn ?_
   refine SR ?_
   refine p0 (e:=[(20,.isl 5 (a0.fE.map ze) false),(21,i6 ((a0.fE.map ze).length:Int)),(22,i6 0)]) (L:=[]) (n:=3) ?_ ?_
   ·exact y7 (M:=[]) rfl (S2 rfl rfl (AI (VS rfl) TT)) TT
   refine xk ?_
   refine p0 ?_ (zep hrec1 h)
   exact y7 (M:=[]) rfl (S2 rfl rfl (AI (VS rfl) TT)) TT
theorem zh6{rec1:GJ→Option Int}(hrec1:Hr1 rec1){a0:GJ}{m:Option Nat}{o:Int}(h:xi rec1 m a0=some o):ACalls Tryd.prog 47 [.agg (z7 a0)] [] 3 (u0 3 (i6 o) []):=Z0 (L:=zq9) zlr zt2 (NB rfl) (ze0 hrec1 h)
def jm(m:Option Nat):Nat→GJ→Option Int
 |0=>fun _=>none
 |k+1=>xi (jm m k) m
def ut(m:Option Nat)(a0:GJ):Option Int:=zl5 m (fun k=>jm m k a0)
theorem z9r{m:Option Nat}:∀ (k:Nat) {a0:GJ} {o:Int},jm m k a0=some o→ACalls Tryd.prog 47 [.agg (z7 a0)] [] 3 (u0 3 (i6 o) [])
 |0,_,_,h=>nomatch h
 |k+1,_,_,h=>zh6 (fun h=>z9r k h) h
theorem zoe{a0:GJ}{m:Option Nat}{o:Int}(h:ut m a0=some o):ACalls Tryd.prog 47 [.agg (z7 a0)] [] 3 (u0 3 (i6 o) []):=(Jg h).elim fun k h=>z9r k h
def Ye(m:Option Nat)(a0:GJ):Option Int:=xi (ut m) m a0
theorem y44{a0:GJ}{m:Option Nat}{o:Int}(h:Ye m a0=some o):PFn Tryd.prog 47 [.agg (z7 a0)] (i6 o):=
 ⟨rfl,_,Z2 (k:=3) (m:=0) (L':=[]) (rest:=[]) (R':=i6 o) [] (zh6 zoe h) rfl rfl rfl (AI (VS rfl) TT) TT (xl _ rfl) TT rfl ⟨rfl,rfl,rfl⟩⟩
def zy0:LCode:=(.seq (.region [Qo 1 (.box (.t 0)),
 Qi 2 0])
 (.seq (.region [Qo 3 (.alloc [(i6 0)]),
  ⟨none,.store 1 (.t 3) (.c (i6 0)),none⟩])
 (.seq (.seq (.region [Qt 4 5 1,
  Qo 5 (.call 46 [(.t 4),(.c (i6 1)),(.t 3)]),
  Qo 6 (.un .not (.t 5))])
 (.cond (.t 6)
  (.seq (.region [Qi 2 2])
  .ret)
  .skip))
 (.seq (.region [Qt 7 5 1,
  Qc 8 47 7,
  Qm 2 8])
 .ret))))
def zod:Lay:=⟨9,[],false⟩
def zsa:List LRes:=[.t 2]
def y5f:LFn:=⟨1,zod,zy0,zsa⟩
theorem y07:wm Tryd.prog [] 30=some y5f:=by kernel_rfl
theorem y1o:Zc Tryd.prog 30:=⟨_,Tryd.func30,rfl,rfl⟩
def vg(m:Option Nat)(a0:GJ):Option Int:=
 (u3 m a0 1 0).bind fun v1=>
 if(!v1.1)=true then
  some 2
 else
  (Ye m a0).bind fun v2=>
  some v2
def y7f(a0:GJ)(o:Int):Exit→Env→AHeap→Nat→Prop:=Y2 zsa (vi (i6 o))
theorem zo5{a0:GJ}{m:Option Nat}{o:Int}(h:vg m a0=some o):LWp Tryd.prog zod 0 zy0 (y7f a0 o) (zu 0 [.agg (z7 a0)]) [] 0:=by
 unfold vg at h
 refine SR ?_
 refine SR ?_
 refine wn ?_
 refine SR ?_
 obtain⟨v1,h1,h⟩:=bind_some h
 refine Z2 (k:=3) (m:=0) (L':=[((1,0),.one [i6 v1.2])]) (rest:=[((0,0),.one (z7 a0))]) (R':=.bool v1.1) [((0,0),(1,0))] (zso h1) rfl rfl rfl (S2 rfl rfl (SP rfl TT)) (AI (h0I (1,0) rfl rfl (OL rfl)) TT) (xl _ rfl) (AI rfl (AI rfl TT)) rfl ?_
 refine y4 (v:=(!v1.1)) rfl TT (fun h2=>?_) (fun h2=>?_)
 ·have h:=zd h2 h
  refine SR ?_
  refine p0 (e:=[(2,i6 2)]) (L:=[]) (n:=0) ?_ ?_
  ·exact y7 (M:=[]) rfl (AI (VS rfl) TT) TT
  refine wl ?_
  cases h
  exact AI TT (AI rfl (VS rfl))
 ·have h:=zk h2 h
  refine x6 ?_
  refine SR ?_
  obtain⟨v2,h3,h⟩:=bind_some h
  refine p5 (y44 h3) (AI (VS rfl) TT) ?_
  refine p0 (e:=[(2,i6 v2)]) (L:=[]) (n:=0) ?_ ?_
  ·exact y7 (M:=[]) rfl (AI (VS rfl) TT) TT
  refine wl ?_
  cases h
  exact AI TT (AI rfl (VS rfl))
theorem zy4{a0:GJ}{m:Option Nat}{o:Int}(h:vg m a0=some o):PFn Tryd.prog 30 [.agg (z7 a0)] (i6 o):=p7 (L:=y5f) y07 y1o (NB rfl) rfl (zo5 h)
def zxi:LCode:=(.seq (.region [Qo 2 (.mv (.c (.val (.slice none 0 0))))])
 (.seq (.seq (.region [Qm 3 0,
  Qo 4 (.eq false .slice (.t 3) (.c (.val (.slice none 0 0))))])
 (.cond (.t 4)
  (.seq (.region [Qo 2 (.mv (.c (.val (.slice none 0 0))))])
  .ret)
  .skip))
 (.seq (.region [Qo 5 (.mkSl true 1 [(.str [])] 0 []),
  Qm 6 0,
  Qo 7 (.app true 1 16 (.t 5) (.t 6)),
  Qm 2 7])
 .ret)))
def zo1:Lay:=⟨8,[],false⟩
def znq:List LRes:=[.t 2]
def y3y:LFn:=⟨1,zo1,zxi,znq⟩
theorem y03:wm Tryd.prog [] 40=some y3y:=by kernel_rfl
theorem zld:Zc Tryd.prog 40:=⟨_,Tryd.func40,rfl,rfl⟩
def vw(m:Option Nat)(a0:List (List UInt8)):Option (List (List UInt8)):=
 if(a0.map za)≠[] then
 if((([]:List (List UInt8))++a0).map za).length*16≤140737488355328 then
 some (([]:List (List UInt8))++a0)
 else none
 else none
def y6g(a0:List (List UInt8))(o:(List (List UInt8))):Exit→Env→AHeap→Nat→Prop:=Y2 znq (vi (.isl 1 (o.map za) false))
theorem zms{a0:List (List UInt8)}{m:Option Nat}{o:(List (List UInt8))}(h:vw m a0=some o):LWp Tryd.prog zo1 0 zxi (y6g a0 o) (zu 0 [.isl 1 (a0.map za) false]) [] 0:=by
 unfold vw at h
 refine SR ?_
 refine wn ?_
 refine SR ?_
 obtain⟨h1,h⟩:=zj h
 refine AI h1 ?_
 refine y4 (v:=false) rfl TT (fun hc=>Bool.noConfusion hc) (fun hc=>?_)
 refine x6 ?_
 refine SR ?_
 obtain⟨h2,h⟩:=zj h
 refine EX ((([]:List (List UInt8))++a0).map za) (AI (Ux za ([]:List (List UInt8)) a0) (AI (AI rfl h2) ?_))
 refine wl ?_
 cases h
 exact AI TT (AI rfl (Vw.oslI _ _ _))
theorem y5i{a0:List (List UInt8)}{m:Option Nat}{o:(List (List UInt8))}(h:vw m a0=some o):PFn Tryd.prog 40 [.isl 1 (a0.map za) false] (.isl 1 (o.map za) false):=p7 (L:=y3y) y03 zld (NB rfl) rfl (zms h)
def Ze(m:Option Nat):List (List UInt8)→Option (List (List UInt8))
 |[]=>some []
 |x::r=>vw m (x::r)
theorem zzl{m:Option Nat}{a0 o:List (List UInt8)}(h:Ze m a0=some o):PFn Tryd.prog 40 [(.isl 1 (a0.map za) false)] (.isl 1 (o.map za) false):=by
 cases a0 with
 |nil=>
  cases h
  exact z5b (c:=9) (zs:=[(.str [])]) (b:=16) zld Tryd.func40 ⟨_,_,_,_,_,_,_,_,_,_,_,_,_,_,_,_,_,_,_,_,_,_,_,_,_,_,_,_,rfl,rfl,rfl⟩ (by kernel_rfl) (by kernel_rfl) (by kernel_rfl) (by kernel_rfl) (by decide) (by decide) rfl
 |cons x r=>exact y5i (m:=m) h
def z7v:LCode:=(.seq (.region [Qo 16 (.bin .lss (.t 15) (.t 14))])
 (.seq (.cond (.t 16)
  .skip
  (.exit 0))
 (.seq (.block 1
  (.seq (.region [Qo 17 (.iaddr 5 (.t 13) (.t 15)),
   Qt 18 5 17,
   Qo 5 (.alloc [(i6 0),(i6 0),(.str []),(.isl 1 [] true),(.isl 5 [] true)]),
   ⟨none,.store 5 (.t 5) (.t 18),none⟩])
  (.draw [⟨Qf 19 4 1,[]⟩,
   ⟨Ql 20 1 19,[]⟩,
   ⟨Qt 21 5 5,[]⟩,
   ⟨Qc 22 25 21,[1]⟩,
   ⟨Qo 23 (.mkSl true 5 [(i6 0),(i6 0),(.str []),(.isl 1 [] true),(.isl 5 [] true)] 1 [(0,(.t 22))]),[]⟩,
   ⟨Qo 24 (.app true 5 80 (.t 20) (.t 23)),[]⟩,
   ⟨Qf 25 4 1,[]⟩,
   ⟨⟨none,.store 1 (.t 25) (.t 24),none⟩,[]⟩])))
 (.region [Qo 26 (.bin .add (.t 15) (.c (i6 1))),
  Qm 15 26]))))
def z1v:LCode:=(.seq (.region [Qt 27 5 1,
 ⟨none,.store 5 (.t 2) (.t 27),none⟩])
 .ret)
def zik:LCode:=(.seq (.region [Qo 1 (.box (.t 0)),
 Qo 2 (.alloc [(i6 0),(i6 0),(.str []),(.isl 1 [] true),(.isl 5 [] true)])])
 (.seq (.region [Qf 6 4 1,
  Ql 7 1 6,
  Qm 3 7])
 (.seq (.region [Qf 8 3 1,
  Ql 9 1 8,
  Qc 10 40 9,
  Qf 11 3 1,
  ⟨none,.store 1 (.t 11) (.t 10),none⟩,
  Qf 12 4 1,
  ⟨none,.store 1 (.t 12) (.c (.val (.slice none 0 0))),none⟩])
 (.seq (.seq (.region [Qm 13 3,
  Qo 14 (.len false (.t 13)),
  Qi 15 0])
 (.block 0
  (.loop
   z7v)))
 z1v))))
def X5:Lay:=⟨28,[],false⟩
def zb2:List LRes:=[.cell 2 true 5]
def zog:LFn:=⟨1,X5,zik,zb2⟩
theorem zqe:wm Tryd.prog [] 25=some zog:=by kernel_rfl
theorem zsg:Zc Tryd.prog 25:=⟨_,Tryd.func25,rfl,rfl⟩
def z7d(a0:GJ)(o:GJ):Exit→Env→AHeap→Nat→Prop:=Y2 zb2 (Zz 3 3 (.agg (z7 o)) [])
def z0p(a0:GJ)(v1:(List (List UInt8)))(s:(Int×(List (List AVal)))):Env:=[(1,.ptr (3,0) 0 0),(2,.ptr (4,0) 0 0),(13,.isl 5 (a0.fE.map ze) false),(14,i6 ((a0.fE.map ze).length:Int)),(15,i6 s.1)]
def z42(a0:GJ)(v1:(List (List UInt8)))(s:(Int×(List (List AVal)))):AHeap:=[((3,0),.one [i6 a0.fK,i6 a0.fN,.str a0.fT,.isl 1 (v1.map za) false,.osl (5,0) 5 (s.2.map ze)]),((4,0),.one [i6 0,i6 0,.str [],.isl 1 (([]:List (List UInt8)).map za) true,.isl 5 (([]:List (List AVal)).map ze) true]),((5,0),.tok)]
def z4v(a0:GJ)(o:GJ):Exit→Env→AHeap→Nat→Prop:=(x4 0 (Yk Tryd.prog X5 3 z1v (z7d a0 o)))
def uc(rec2:GJ→Option GJ)(m:Option Nat)(a0:GJ)(v1:(List (List UInt8)))(v5:List (List AVal)):Option GJ:=
 some (GJ.mk a0.fK a0.fN a0.fT v1 v5)
def je(rec2:GJ→Option GJ)(m:Option Nat)(a0:GJ)(v1:(List (List UInt8)))(v4:Int)(v5:List (List AVal)):Option ((Int×(List (List AVal))) ⊕ GJ):=
 if(decide (v4<((a0.fE.map ze).length:Int)))=true then
  if(0:Int)≤v4∧v4<((a0.fE.map ze).length:Int) then
  ((Yt (a0.fE.getD v4.toNat default))).bind fun v8=>
  (rec2 v8).bind fun v9=>
  if((v5++([z7 v9]:List (List AVal))).map ze).length*80≤140737488355328 then
  some (.inl ((W (v4+1)),(v5++([z7 v9]:List (List AVal)))))
  else none
  else none
 else
  p6 p9 (
   uc rec2 m a0 v1 v5)
def ws(rec2:GJ→Option GJ)(m:Option Nat)(a0:GJ)(v1:(List (List UInt8)))(v4:Int)(v5:List (List AVal)):Option GJ:=Y5 m (fun(s:(Int×(List (List AVal))))=>je rec2 m a0 v1 s.1 s.2) (v4,v5)
abbrev Hr2(rec2:GJ→Option GJ):Prop:=∀ {a0:GJ} {o:GJ},rec2 a0=some o→ACalls Tryd.prog 25 [.agg (z7 a0)] [] 3 (u0 3 (.agg (z7 o)) [])
theorem zf8{rec2:GJ→Option GJ}(hrec2:Hr2 rec2){a0:GJ}{v1:(List (List UInt8))}{v5:List (List AVal)}{m:Option Nat}{o:GJ}(h:uc rec2 m a0 v1 v5=some o) :
 LWp Tryd.prog X5 3 z1v (z7d a0 o) [(1,.ptr (3,0) 0 0),(2,.ptr (4,0) 0 0)] [((3,0),.one [i6 a0.fK,i6 a0.fN,.str a0.fT,.isl 1 (v1.map za) false,.osl (5,0) 5 (v5.map ze)]),((4,0),.one [i6 0,i6 0,.str [],.isl 1 (([]:List (List UInt8)).map za) true,.isl 5 (([]:List (List AVal)).map ze) true]),((5,0),.tok)] 6:=by
 unfold uc at h
 refine SR ?_
 refine wl ?_
 cases h
 exact AI (AI TT (AI rfl (NB rfl))) (Yl (n':=6) [] [] rfl rfl (Vw.aggL (S4 rfl rfl rfl rfl (AI (Vw.oslI _ _ _) TT))) TT)
theorem z8n{rec2:GJ→Option GJ}(hrec2:Hr2 rec2){a0:GJ}{v1:(List (List UInt8))}{v4:Int}{v5:List (List AVal)}{m:Option Nat}{o:(Int×(List (List AVal))) ⊕ GJ}(h:je rec2 m a0 v1 v4 v5=some o) :
 LWp Tryd.prog X5 3 z7v (Z7 3 6 (z0p a0 v1) (z42 a0 v1) (z4v a0) o) [(1,.ptr (3,0) 0 0),(2,.ptr (4,0) 0 0),(13,.isl 5 (a0.fE.map ze) false),(14,i6 ((a0.fE.map ze).length:Int)),(15,i6 v4)] [((3,0),.one [i6 a0.fK,i6 a0.fN,.str a0.fT,.isl 1 (v1.map za) false,.osl (5,0) 5 (v5.map ze)]),((4,0),.one [i6 0,i6 0,.str [],.isl 1 (([]:List (List UInt8)).map za) true,.isl 5 (([]:List (List AVal)).map ze) true]),((5,0),.tok)] 6:=by
 unfold je at h
 refine SR ?_
 refine wn ?_
 refine y4 (v:=(decide (v4<((a0.fE.map ze).length:Int)))) rfl TT (fun h12=>?_) (fun h12=>?_)
 ·have h:=zd h12 h
  refine x6 ?_
  refine wn ?_
  refine xk ?_
  refine SR ?_
  obtain⟨h13,h⟩:=zj h
  refine AI h13 ?_
  obtain⟨v8,h14,h⟩:=bind_some h
  refine EX (z7 v8) (AI (Z5 (uz ze h13) h14) (AI (AI (Y1 h13) (NB rfl)) ?_))
  refine Kr ?_
  obtain⟨v9,h15,h⟩:=bind_some h
  refine Z2 (k:=3) (m:=0) (L':=[]) (rest:=[((6,0),.one (z7 v8)),((3,0),.one [i6 a0.fK,i6 a0.fN,.str a0.fT,.isl 1 (v1.map za) false,.osl (5,0) 5 (v5.map ze)]),((4,0),.one [i6 0,i6 0,.str [],.isl 1 (([]:List (List UInt8)).map za) true,.isl 5 (([]:List (List AVal)).map ze) true]),((5,0),.tok)]) (R':=.agg (z7 v9)) [] (hrec2 h15) rfl rfl rfl (AI (VS rfl) TT) TT (xl _ rfl) TT rfl ?_
  refine AI rfl ?_
  obtain⟨h16,h⟩:=zj h
  refine EX ((v5++([z7 v9]:List (List AVal))).map ze) (AI (Ux ze v5 ([z7 v9]:List (List AVal))) (AI h16 ?_))
  refine p0 (e:=[(1,.ptr (3,0) 0 0),(2,.ptr (4,0) 0 0),(13,.isl 5 (a0.fE.map ze) false),(14,i6 ((a0.fE.map ze).length:Int)),(15,i6 v4)]) (L:=[((3,0),.one [i6 a0.fK,i6 a0.fN,.str a0.fT,.isl 1 (v1.map za) false,.osl (5,0) 5 ((v5++([z7 v9]:List (List AVal))).map ze)]),((4,0),.one [i6 0,i6 0,.str [],.isl 1 (([]:List (List UInt8)).map za) true,.isl 5 (([]:List (List AVal)).map ze) true]),((5,0),.tok)]) (n:=6) ?_ ?_
  ·exact y7 (M:=[((3,0),(3,0)),((4,0),(4,0)),((5,0),(8,0))]) rfl (SP rfl (SP rfl (S2 rfl rfl (AI (VS rfl) TT)))) (AI (AI rfl (p4 (S4 rfl rfl rfl rfl (AI (Vw.osl _ _ _ _ rfl) TT)))) (AI (AI rfl (OL rfl)) (AI (AI rfl BVw.tok) TT)))
  refine J1 ?_
  cases h
  exact AI rfl (y7 (M:=[((3,0),(3,0)),((4,0),(4,0)),((5,0),(5,0))]) rfl (SP rfl (SP rfl (S2 rfl rfl (AI (VS rfl) TT)))) (AI (AI rfl (p4 (S4 rfl rfl rfl rfl (AI (Vw.osl _ _ _ _ rfl) TT)))) (AI (AI rfl (OL rfl)) (AI (AI rfl BVw.tok) TT))))
 ·have h:=zk h12 h
  refine Xh ?_
  obtain⟨o,hq,rfl⟩:=p3.1 h
  replace h:=hq;clear hq
  refine AI nofun ?_
  refine p0 ?_ (zf8 hrec2 h)
  exact y7 (M:=[((3,0),(3,0)),((4,0),(4,0)),((5,0),(5,0))]) rfl (SP rfl (SP rfl TT)) (AI (AI rfl (p4 (S4 rfl rfl rfl rfl (AI (Vw.osl _ _ _ _ rfl) TT)))) (AI (AI rfl (OL rfl)) (AI (AI rfl BVw.tok) TT)))
theorem ze9{rec2:GJ→Option GJ}(hrec2:Hr2 rec2){a0:GJ}{v1:(List (List UInt8))}{v4:Int}{v5:List (List AVal)}{m:Option Nat}{o:GJ}(h:ws rec2 m a0 v1 v4 v5=some o) :
 LWp Tryd.prog X5 3 (.loop z7v) (x4 0 (Yk Tryd.prog X5 3 z1v (z7d a0 o))) [(1,.ptr (3,0) 0 0),(2,.ptr (4,0) 0 0),(13,.isl 5 (a0.fE.map ze) false),(14,i6 ((a0.fE.map ze).length:Int)),(15,i6 v4)] [((3,0),.one [i6 a0.fK,i6 a0.fN,.str a0.fT,.isl 1 (v1.map za) false,.osl (5,0) 5 (v5.map ze)]),((4,0),.one [i6 0,i6 0,.str [],.isl 1 (([]:List (List UInt8)).map za) true,.isl 5 (([]:List (List AVal)).map ze) true]),((5,0),.tok)] 6:=
 wy (m:=m) (s:=((v4,v5):(Int×(List (List AVal))))) (r:=o) (fun(s:(Int×(List (List AVal))))=>je rec2 m a0 v1 s.1 s.2) (z0p a0 v1) (z42 a0 v1) (z4v a0) (fun s o h=>z8n hrec2 h) h
def jo(rec2:GJ→Option GJ)(m:Option Nat)(a0:GJ):Option GJ:=
 (Ze m a0.fA).bind fun v1=>
 ws rec2 m a0 v1 0 []
theorem zej{rec2:GJ→Option GJ}(hrec2:Hr2 rec2){a0:GJ}{m:Option Nat}{o:GJ}(h:jo rec2 m a0=some o):LWp Tryd.prog X5 3 zik (z7d a0 o) (zu 0 [.agg (z7 a0)]) [] 3:=by
 unfold jo at h
 refine SR ?_
 refine SR ?_
 refine SR ?_
 obtain⟨v1,h1,h⟩:=bind_some h
 refine p5 (zzl h1) (AI (VS rfl) TT) ?_
 refine p0 (e:=[(1,.ptr (3,0) 0 0),(2,.ptr (4,0) 0 0),(3,.isl 5 (a0.fE.map ze) false)]) (L:=[((3,0),.one [i6 a0.fK,i6 a0.fN,.str a0.fT,.isl 1 (v1.map za) false,.val (.slice none 0 0)]),((4,0),.one [i6 0,i6 0,.str [],.isl 1 (([]:List (List UInt8)).map za) true,.isl 5 (([]:List (List AVal)).map ze) true])]) (n:=5) ?_ ?_
 ·exact y7 (M:=[((3,0),(3,0)),((4,0),(4,0))]) rfl (SP rfl (SP rfl (AI (VS rfl) TT))) (AI (AI rfl (OL rfl)) (AI (AI rfl (OL rfl)) TT))
 refine wn ?_
 refine SR ?_
 refine xk ?_
 refine p0 ?_ (ze9 hrec2 h)
 exact y7 (M:=[((3,0),(3,0)),((4,0),(4,0))]) rfl (SP rfl (SP rfl (S2 rfl rfl (AI (VS rfl) TT)))) (AI (AI rfl (p4 (S4 rfl rfl rfl rfl (AI (Vw.nilO _ _ (by decide)) TT)))) (AI (AI rfl (OL rfl)) (AI (AI rfl (AI (by decide) (by decide))) TT)))
theorem zh4{rec2:GJ→Option GJ}(hrec2:Hr2 rec2){a0:GJ}{m:Option Nat}{o:GJ}(h:jo rec2 m a0=some o):ACalls Tryd.prog 25 [.agg (z7 a0)] [] 3 (u0 3 (.agg (z7 o)) []):=Z0 (L:=zog) zqe zsg (NB rfl) (zej hrec2 h)
def vh(m:Option Nat):Nat→GJ→Option GJ
 |0=>fun _=>none
 |k+1=>jo (vh m k) m
def xw(m:Option Nat)(a0:GJ):Option GJ:=zl5 m (fun k=>vh m k a0)
theorem zc3{m:Option Nat}:∀ (k:Nat) {a0:GJ} {o:GJ},vh m k a0=some o→ACalls Tryd.prog 25 [.agg (z7 a0)] [] 3 (u0 3 (.agg (z7 o)) [])
 |0,_,_,h=>nomatch h
 |k+1,_,_,h=>zh4 (fun h=>zc3 k h) h
theorem z48{a0:GJ}{m:Option Nat}{o:GJ}(h:xw m a0=some o):ACalls Tryd.prog 25 [.agg (z7 a0)] [] 3 (u0 3 (.agg (z7 o)) []):=(Jg h).elim fun k h=>zc3 k h
def Yg(m:Option Nat)(a0:GJ):Option GJ:=jo (xw m) m a0
theorem y51{a0:GJ}{m:Option Nat}{o:GJ}(h:Yg m a0=some o):PFn Tryd.prog 25 [.agg (z7 a0)] (.agg (z7 o)):=
 ⟨rfl,_,Z2 (k:=3) (m:=0) (L':=[]) (rest:=[]) (R':=.agg (z7 o)) [] (zh4 z48 h) rfl rfl rfl (AI (VS rfl) TT) TT (xl _ rfl) TT rfl ⟨rfl,rfl,rfl⟩⟩
def zwh:LCode:=(.seq (.region [Qo 2 (.alloc [(i6 0),(i6 0),(.str []),(.isl 1 [] true),(.isl 5 [] true)])])
 (.seq (.region [Qm 3 0,
  Qo 4 (.build [(i6 0),(i6 0),(.str []),(.isl 1 [] true),(.isl 5 [] true)] [(0,1,(.c (i6 2))),(1,1,(.t 3))]),
  ⟨none,.store 5 (.t 2) (.t 4),none⟩])
 .ret))
def zsb:Lay:=⟨5,[],false⟩
def zn6:List LRes:=[.cell 2 true 5]
def y2n:LFn:=⟨1,zsb,zwh,zn6⟩
theorem y1p:wm Tryd.prog [] 49=some y2n:=by kernel_rfl
theorem zz0:Zc Tryd.prog 49:=⟨_,Tryd.func49,rfl,rfl⟩
def vo(m:Option Nat)(a0:Int):Option GJ:=
 some (GJ.mk 2 a0 ([]:List UInt8) ([]:List (List UInt8)) ([]:List (List AVal)))
def y6t(a0:Int)(o:GJ):Exit→Env→AHeap→Nat→Prop:=Y2 zn6 (vi (.agg (z7 o)))
theorem znk{a0:Int}{m:Option Nat}{o:GJ}(h:vo m a0=some o):LWp Tryd.prog zsb 0 zwh (y6t a0 o) (zu 0 [i6 a0]) [] 0:=by
 unfold vo at h
 refine SR ?_
 refine SR ?_
 refine wl ?_
 cases h
 exact AI (AI TT (AI rfl (NB rfl))) (AI rfl (Vw.aggL (S2 rfl rfl (AI (VS rfl) (AI (p8 _ _ _) (AI (p8 _ _ _) TT))))))
theorem zb4{a0:Int}{m:Option Nat}{o:GJ}(h:vo m a0=some o):PFn Tryd.prog 49 [i6 a0] (.agg (z7 o)):=p7 (L:=y2n) y1p zz0 (NB rfl) rfl (znk h)
def zx7:LCode:=(.seq (.region [Qo 2 (.alloc [(i6 0),(i6 0),(.str []),(.isl 1 [] true),(.isl 5 [] true)])])
 (.seq (.region [Qm 3 0,
  Qo 4 (.build [(i6 0),(i6 0),(.str []),(.isl 1 [] true),(.isl 5 [] true)] [(0,1,(.c (i6 3))),(2,1,(.t 3))]),
  ⟨none,.store 5 (.t 2) (.t 4),none⟩])
 .ret))
def zt9:Lay:=⟨5,[],false⟩
def zn2:List LRes:=[.cell 2 true 5]
def y33:LFn:=⟨1,zt9,zx7,zn2⟩
theorem y25:wm Tryd.prog [] 50=some y33:=by kernel_rfl
theorem y0n:Zc Tryd.prog 50:=⟨_,Tryd.func50,rfl,rfl⟩
def uf(m:Option Nat)(a0:List UInt8):Option GJ:=
 some (GJ.mk 3 0 a0 ([]:List (List UInt8)) ([]:List (List AVal)))
def y7k(a0:List UInt8)(o:GJ):Exit→Env→AHeap→Nat→Prop:=Y2 zn2 (vi (.agg (z7 o)))
theorem zt3{a0:List UInt8}{m:Option Nat}{o:GJ}(h:uf m a0=some o):LWp Tryd.prog zt9 0 zx7 (y7k a0 o) (zu 0 [.str a0]) [] 0:=by
 unfold uf at h
 refine SR ?_
 refine SR ?_
 refine wl ?_
 cases h
 exact AI (AI TT (AI rfl (NB rfl))) (AI rfl (Vw.aggL (S2 rfl rfl (AI (VS rfl) (AI (p8 _ _ _) (AI (p8 _ _ _) TT))))))
theorem zhm{a0:List UInt8}{m:Option Nat}{o:GJ}(h:uf m a0=some o):PFn Tryd.prog 50 [.str a0] (.agg (z7 o)):=p7 (L:=y33) y25 y0n (NB rfl) rfl (zt3 h)
def zxo:LCode:=(.seq (.region [Qo 4 (.alloc [(i6 0),(i6 0),(.str []),(.isl 1 [] true),(.isl 5 [] true)])])
 (.seq (.region [Qm 5 0,
  Qm 6 1,
  Qo 7 (.build [(i6 0),(i6 0),(.str []),(.isl 1 [] true),(.isl 5 [] true)] [(0,1,(.c (i6 5))),(3,1,(.t 5)),(4,1,(.t 6))]),
  ⟨none,.store 5 (.t 4) (.t 7),none⟩])
 .ret))
def zs6:Lay:=⟨8,[],false⟩
def zlp:List LRes:=[.cell 4 true 5]
def y3t:LFn:=⟨2,zs6,zxo,zlp⟩
theorem zzk:wm Tryd.prog [] 48=some y3t:=by kernel_rfl
theorem zyh:Zc Tryd.prog 48:=⟨_,Tryd.func48,rfl,rfl⟩
def jh(m:Option Nat)(a0:List (List UInt8))(a1:List (List AVal)):Option GJ:=
 some (GJ.mk 5 0 ([]:List UInt8) a0 a1)
def y6r(a0:List (List UInt8))(a1:List (List AVal))(o:GJ):Exit→Env→AHeap→Nat→Prop:=Y2 zlp (vi (.agg (z7 o)))
theorem zqw{a0:List (List UInt8)}{a1:List (List AVal)}{m:Option Nat}{o:GJ}(h:jh m a0 a1=some o):LWp Tryd.prog zs6 0 zxo (y6r a0 a1 o) (zu 0 [.isl 1 (a0.map za) false,.isl 5 (a1.map ze) false]) [] 0:=by
 unfold jh at h
 refine SR ?_
 refine SR ?_
 refine wl ?_
 cases h
 exact AI (AI TT (AI rfl (NB rfl))) (AI rfl (VS rfl))
theorem z35{a0:List (List UInt8)}{a1:List (List AVal)}{m:Option Nat}{o:GJ}(h:jh m a0 a1=some o):PFn Tryd.prog 48 [.isl 1 (a0.map za) false,.isl 5 (a1.map ze) false] (.agg (z7 o)):=p7 (L:=y3t) zzk zyh (NB rfl) rfl (zqw h)
def zx4:LCode:=(.seq (.region [Qo 1 (.box (.t 0)),
 Qo 2 (.alloc [(i6 0),(i6 0),(.str []),(.isl 1 [] true),(.isl 5 [] true)])])
 (.seq (.region [Qf 4 4 1,
  Qt 5 5 4,
  Qc 6 25 5,
  Qo 3 (.alloc [(i6 0),(i6 0),(.str []),(.isl 1 [] true),(.isl 5 [] true)]),
  ⟨none,.store 5 (.t 3) (.t 6),none⟩])
 (.seq (.seq (.region [Qf 7 0 1,
  Ql 8 1 7])
 (.block 0
  (.seq (.region [Qo 10 (.bin .eql (.t 8) (.c (i6 1))),
   Qm 9 10])
  (.cond (.t 9)
   (.seq (.draw [⟨Qf 12 1 1,[]⟩,
    ⟨Ql 13 1 12,[]⟩,
    ⟨Qf 15 3 1,[]⟩,
    ⟨Ql 16 1 15,[]⟩,
    ⟨Qt 18 5 3,[]⟩,
    ⟨Qo 11 (.mkSl true 1 [(.str [])] 3 [(0,(.c (.str [105,100]))),(1,(.c (.str [109,101,116,104,111,100]))),(2,(.c (.str [112,97,114,97,109,115])))]),[]⟩,
    ⟨Qc 14 49 13,[3,4]⟩,
    ⟨Qc 17 50 16,[4]⟩,
    ⟨Qo 19 (.mkSl true 5 [(i6 0),(i6 0),(.str []),(.isl 1 [] true),(.isl 5 [] true)] 3 [(0,(.t 14)),(1,(.t 17)),(2,(.t 18))]),[]⟩,
    ⟨Qo 20 (.call 48 [(.t 11),(.t 19)]),[]⟩,
    ⟨⟨none,.store 5 (.t 2) (.t 20),none⟩,[]⟩])
   .ret)
   (.seq (.region [Qo 22 (.bin .eql (.t 8) (.c (i6 2))),
    Qm 21 22])
   (.cond (.t 21)
    (.seq (.draw [⟨Qf 24 3 1,[]⟩,
     ⟨Ql 25 1 24,[]⟩,
     ⟨Qt 27 5 3,[]⟩,
     ⟨Qo 23 (.mkSl true 1 [(.str [])] 2 [(0,(.c (.str [109,101,116,104,111,100]))),(1,(.c (.str [112,97,114,97,109,115])))]),[]⟩,
     ⟨Qc 26 50 25,[2]⟩,
     ⟨Qo 28 (.mkSl true 5 [(i6 0),(i6 0),(.str []),(.isl 1 [] true),(.isl 5 [] true)] 2 [(0,(.t 26)),(1,(.t 27))]),[]⟩,
     ⟨Qo 29 (.call 48 [(.t 23),(.t 28)]),[]⟩,
     ⟨⟨none,.store 5 (.t 2) (.t 29),none⟩,[]⟩])
    .ret)
    (.seq (.region [Qo 31 (.bin .eql (.t 8) (.c (i6 3))),
     Qm 30 31])
    (.cond (.t 30)
     (.seq (.draw [⟨Qf 33 1 1,[]⟩,
      ⟨Ql 34 1 33,[]⟩,
      ⟨Qt 36 5 3,[]⟩,
      ⟨Qo 32 (.mkSl true 1 [(.str [])] 2 [(0,(.c (.str [105,100]))),(1,(.c (.str [114,101,115,117,108,116])))]),[]⟩,
      ⟨Qc 35 49 34,[2]⟩,
      ⟨Qo 37 (.mkSl true 5 [(i6 0),(i6 0),(.str []),(.isl 1 [] true),(.isl 5 [] true)] 2 [(0,(.t 35)),(1,(.t 36))]),[]⟩,
      ⟨Qo 38 (.call 48 [(.t 32),(.t 37)]),[]⟩,
      ⟨⟨none,.store 5 (.t 2) (.t 38),none⟩,[]⟩])
     .ret)
     (.seq (.region [Qo 40 (.bin .eql (.t 8) (.c (i6 4))),
      Qm 39 40])
     (.cond (.t 39)
      (.seq (.draw [⟨Qf 42 1 1,[]⟩,
       ⟨Ql 43 1 42,[]⟩,
       ⟨Qf 46 2 1,[]⟩,
       ⟨Ql 47 1 46,[]⟩,
       ⟨Qf 49 3 1,[]⟩,
       ⟨Ql 50 1 49,[]⟩,
       ⟨Qo 41 (.mkSl true 1 [(.str [])] 2 [(0,(.c (.str [105,100]))),(1,(.c (.str [101,114,114,111,114])))]),[]⟩,
       ⟨Qo 45 (.mkSl true 1 [(.str [])] 2 [(0,(.c (.str [99,111,100,101]))),(1,(.c (.str [109,101,115,115,97,103,101])))]),[]⟩,
       ⟨Qc 44 49 43,[3,5]⟩,
       ⟨Qc 48 49 47,[5]⟩,
       ⟨Qc 51 50 50,[]⟩,
       ⟨Qo 52 (.mkSl true 5 [(i6 0),(i6 0),(.str []),(.isl 1 [] true),(.isl 5 [] true)] 2 [(0,(.t 48)),(1,(.t 51))]),[]⟩,
       ⟨Qo 53 (.call 48 [(.t 45),(.t 52)]),[]⟩,
       ⟨Qo 54 (.mkSl true 5 [(i6 0),(i6 0),(.str []),(.isl 1 [] true),(.isl 5 [] true)] 2 [(0,(.t 44)),(1,(.t 53))]),[]⟩,
       ⟨Qo 55 (.call 48 [(.t 41),(.t 54)]),[]⟩,
       ⟨⟨none,.store 5 (.t 2) (.t 55),none⟩,[]⟩])
      .ret)
      .skip))))))))))
 (.seq (.draw [⟨Qf 59 1 1,[]⟩,
  ⟨Ql 60 1 59,[]⟩,
  ⟨Qo 56 (.mkSl true 1 [(.str [])] 2 [(0,(.c (.str [109,101,116,104,111,100]))),(1,(.c (.str [112,97,114,97,109,115])))]),[]⟩,
  ⟨Qo 58 (.mkSl true 1 [(.str [])] 1 [(0,(.c (.str [105,100])))]),[]⟩,
  ⟨Qo 57 (.call 50 [(.c (.str [36,47,99,97,110,99,101,108]))]),[1]⟩,
  ⟨Qc 61 49 60,[]⟩,
  ⟨Qo 62 (.mkSl true 5 [(i6 0),(i6 0),(.str []),(.isl 1 [] true),(.isl 5 [] true)] 1 [(0,(.t 61))]),[]⟩,
  ⟨Qo 63 (.call 48 [(.t 58),(.t 62)]),[]⟩,
  ⟨Qo 64 (.mkSl true 5 [(i6 0),(i6 0),(.str []),(.isl 1 [] true),(.isl 5 [] true)] 2 [(0,(.t 57)),(1,(.t 63))]),[]⟩,
  ⟨Qo 65 (.call 48 [(.t 56),(.t 64)]),[]⟩,
  ⟨⟨none,.store 5 (.t 2) (.t 65),none⟩,[]⟩])
 .ret))))
def zm2:Lay:=⟨66,[],false⟩
def zon:List LRes:=[.cell 2 true 5]
def y4g:LFn:=⟨1,zm2,zx4,zon⟩
theorem y0j:wm Tryd.prog [] 31=some y4g:=by kernel_rfl
theorem y18:Zc Tryd.prog 31:=⟨_,Tryd.func31,rfl,rfl⟩
def ke(m:Option Nat)(a0:GM):Option GJ:=
 (Yg m (GJ.mk a0.fB.fK a0.fB.fN a0.fB.fT a0.fB.fA a0.fB.fE)).bind fun v1=>
 if(a0.fK==1)=true then
  (vo m a0.fI).bind fun v2=>
  (uf m a0.fM).bind fun v3=>
  (jh m ([([105,100]:List UInt8),([109,101,116,104,111,100]:List UInt8),([112,97,114,97,109,115]:List UInt8)]:List (List UInt8)) ([z7 v2,z7 v3,z7 v1]:List (List AVal))).bind fun v4=>
  some v4
 else
  if(a0.fK==2)=true then
   (uf m a0.fM).bind fun v5=>
   (jh m ([([109,101,116,104,111,100]:List UInt8),([112,97,114,97,109,115]:List UInt8)]:List (List UInt8)) ([z7 v5,z7 v1]:List (List AVal))).bind fun v6=>
   some v6
  else
   if(a0.fK==3)=true then
    (vo m a0.fI).bind fun v7=>
    (jh m ([([105,100]:List UInt8),([114,101,115,117,108,116]:List UInt8)]:List (List UInt8)) ([z7 v7,z7 v1]:List (List AVal))).bind fun v8=>
    some v8
   else
    if(a0.fK==4)=true then
     (vo m a0.fI).bind fun v9=>
     (vo m a0.fC).bind fun v10=>
     (uf m a0.fM).bind fun v11=>
     (jh m ([([99,111,100,101]:List UInt8),([109,101,115,115,97,103,101]:List UInt8)]:List (List UInt8)) ([z7 v10,z7 v11]:List (List AVal))).bind fun v12=>
     (jh m ([([105,100]:List UInt8),([101,114,114,111,114]:List UInt8)]:List (List UInt8)) ([z7 v9,z7 v12]:List (List AVal))).bind fun v13=>
     some v13
    else
     (uf m ([36,47,99,97,110,99,101,108]:List UInt8)).bind fun v14=>
     (vo m a0.fI).bind fun v15=>
     (jh m ([([105,100]:List UInt8)]:List (List UInt8)) ([z7 v15]:List (List AVal))).bind fun v16=>
     (jh m ([([109,101,116,104,111,100]:List UInt8),([112,97,114,97,109,115]:List UInt8)]:List (List UInt8)) ([z7 v14,z7 v16]:List (List AVal))).bind fun v17=>
     some v17
def y74(a0:GM)(o:GJ):Exit→Env→AHeap→Nat→Prop:=Y2 zon (vi (.agg (z7 o)))
theorem zsn{a0:GM}{m:Option Nat}{o:GJ}(h:ke m a0=some o):LWp Tryd.prog zm2 0 zx4 (y74 a0 o) (zu 0 [.agg [i6 a0.fK,i6 a0.fI,i6 a0.fC,.str a0.fM,i6 a0.fB.fK,i6 a0.fB.fN,.str a0.fB.fT,.isl 1 (a0.fB.fA.map za) false,.isl 5 (a0.fB.fE.map ze) false]]) [] 0:=by
 unfold ke at h
 refine SR ?_
 refine SR ?_
 obtain⟨v1,h1,h⟩:=bind_some h
 refine p5 (y51 h1) (AI (VS rfl) TT) ?_
 refine wn ?_
 refine SR ?_
 refine p0 (e:=[(1,.ptr (0,0) 0 0),(2,.ptr (1,0) 0 0),(3,.ptr (2,0) 0 0),(8,i6 a0.fK)]) (L:=[((0,0),.one [i6 a0.fK,i6 a0.fI,i6 a0.fC,.str a0.fM,i6 a0.fB.fK,i6 a0.fB.fN,.str a0.fB.fT,.isl 1 (a0.fB.fA.map za) false,.isl 5 (a0.fB.fE.map ze) false]),((1,0),.one [i6 0,i6 0,.str [],.isl 1 (([]:List (List UInt8)).map za) true,.isl 5 (([]:List (List AVal)).map ze) true]),((2,0),.one (z7 v1))]) (n:=3) ?_ ?_
 ·exact y7 (M:=[((0,0),(0,0)),((1,0),(1,0)),((2,0),(2,0))]) rfl (SP rfl (SP rfl (SP rfl (AI (VS rfl) TT)))) (AI (AI rfl (OL rfl)) (AI (AI rfl (OL rfl)) (AI (AI rfl (OL rfl)) TT)))
 refine xk ?_
 refine SR ?_
 refine y4 (v:=(a0.fK==1)) rfl TT (fun h2=>?_) (fun h2=>?_)
 ·have h:=zd h2 h
  refine wn ?_
  refine Kr ?_
  obtain⟨v2,h3,h⟩:=bind_some h
  refine p5 (zb4 h3) (AI (VS rfl) TT) ?_
  refine AI rfl ?_
  refine AI rfl ?_
  obtain⟨v3,h4,h⟩:=bind_some h
  refine p5 (zhm h4) (AI (VS rfl) TT) ?_
  refine AI rfl ?_
  obtain⟨v4,h5,h⟩:=bind_some h
  refine p5 (z35 h5) (AI (p8 _ _ _) (AI (p8 _ _ _) TT)) ?_
  refine p0 (e:=[(2,.ptr (0,0) 0 0)]) (L:=[((0,0),.one (z7 v4))]) (n:=1) ?_ ?_
  ·exact y7 (M:=[((0,0),(1,0))]) rfl (SP rfl TT) (AI (AI rfl (OL rfl)) TT)
  refine wl ?_
  cases h
  exact AI (AI TT (AI rfl (NB rfl))) (AI rfl (VS rfl))
 ·have h:=zk h2 h
  refine SR ?_
  refine y4 (v:=(a0.fK==2)) rfl TT (fun h6=>?_) (fun h6=>?_)
  ·have h:=zd h6 h
   refine wn ?_
   refine Kr ?_
   obtain⟨v5,h7,h⟩:=bind_some h
   refine p5 (zhm h7) (AI (VS rfl) TT) ?_
   refine AI rfl ?_
   obtain⟨v6,h8,h⟩:=bind_some h
   refine p5 (z35 h8) (AI (p8 _ _ _) (AI (p8 _ _ _) TT)) ?_
   refine p0 (e:=[(2,.ptr (0,0) 0 0)]) (L:=[((0,0),.one (z7 v6))]) (n:=1) ?_ ?_
   ·exact y7 (M:=[((0,0),(1,0))]) rfl (SP rfl TT) (AI (AI rfl (OL rfl)) TT)
   refine wl ?_
   cases h
   exact AI (AI TT (AI rfl (NB rfl))) (AI rfl (VS rfl))
  ·have h:=zk h6 h
   refine SR ?_
   refine y4 (v:=(a0.fK==3)) rfl TT (fun h9=>?_) (fun h9=>?_)
   ·have h:=zd h9 h
    refine wn ?_
    refine Kr ?_
    obtain⟨v7,h10,h⟩:=bind_some h
    refine p5 (zb4 h10) (AI (VS rfl) TT) ?_
    refine AI rfl ?_
    obtain⟨v8,h11,h⟩:=bind_some h
    refine p5 (z35 h11) (AI (p8 _ _ _) (AI (p8 _ _ _) TT)) ?_
    refine p0 (e:=[(2,.ptr (0,0) 0 0)]) (L:=[((0,0),.one (z7 v8))]) (n:=1) ?_ ?_
    ·exact y7 (M:=[((0,0),(1,0))]) rfl (SP rfl TT) (AI (AI rfl (OL rfl)) TT)
    refine wl ?_
    cases h
    exact AI (AI TT (AI rfl (NB rfl))) (AI rfl (VS rfl))
   ·have h:=zk h9 h
    refine SR ?_
    refine p0 (e:=[(1,.ptr (0,0) 0 0),(2,.ptr (1,0) 0 0),(39,.bool (a0.fK==4))]) (L:=[((0,0),.one [i6 a0.fK,i6 a0.fI,i6 a0.fC,.str a0.fM,i6 a0.fB.fK,i6 a0.fB.fN,.str a0.fB.fT,.isl 1 (a0.fB.fA.map za) false,.isl 5 (a0.fB.fE.map ze) false]),((1,0),.one [i6 0,i6 0,.str [],.isl 1 (([]:List (List UInt8)).map za) true,.isl 5 (([]:List (List AVal)).map ze) true])]) (n:=2) ?_ ?_
    ·exact y7 (M:=[((0,0),(0,0)),((1,0),(1,0))]) rfl (SP rfl (SP rfl (AI (VS rfl) TT))) (AI (AI rfl (OL rfl)) (AI (AI rfl (OL rfl)) TT))
    refine y4 (v:=(a0.fK==4)) rfl TT (fun h12=>?_) (fun h12=>?_)
    ·have h:=zd h12 h
     refine wn ?_
     refine Kr ?_
     obtain⟨v9,h13,h⟩:=bind_some h
     refine p5 (zb4 h13) (AI (VS rfl) TT) ?_
     refine AI rfl ?_
     refine AI rfl ?_
     obtain⟨v10,h14,h⟩:=bind_some h
     refine p5 (zb4 h14) (AI (VS rfl) TT) ?_
     refine AI rfl ?_
     obtain⟨v11,h15,h⟩:=bind_some h
     refine p5 (zhm h15) (AI (VS rfl) TT) ?_
     obtain⟨v12,h16,h⟩:=bind_some h
     refine p5 (z35 h16) (AI (p8 _ _ _) (AI (p8 _ _ _) TT)) ?_
     obtain⟨v13,h17,h⟩:=bind_some h
     refine p5 (z35 h17) (AI (p8 _ _ _) (AI (p8 _ _ _) TT)) ?_
     refine p0 (e:=[(2,.ptr (0,0) 0 0)]) (L:=[((0,0),.one (z7 v13))]) (n:=1) ?_ ?_
     ·exact y7 (M:=[((0,0),(1,0))]) rfl (SP rfl TT) (AI (AI rfl (OL rfl)) TT)
     refine wl ?_
     cases h
     exact AI (AI TT (AI rfl (NB rfl))) (AI rfl (VS rfl))
    ·have h:=zk h12 h
     refine x6 ?_
     refine wn ?_
     refine Kr ?_
     obtain⟨v14,h18,h⟩:=bind_some h
     refine p5 (zhm h18) (AI (VS rfl) TT) ?_
     refine AI rfl ?_
     obtain⟨v15,h19,h⟩:=bind_some h
     refine p5 (zb4 h19) (AI (VS rfl) TT) ?_
     obtain⟨v16,h20,h⟩:=bind_some h
     refine p5 (z35 h20) (AI (p8 _ _ _) (AI (p8 _ _ _) TT)) ?_
     obtain⟨v17,h21,h⟩:=bind_some h
     refine p5 (z35 h21) (AI (p8 _ _ _) (AI (p8 _ _ _) TT)) ?_
     refine p0 (e:=[(2,.ptr (0,0) 0 0)]) (L:=[((0,0),.one (z7 v17))]) (n:=1) ?_ ?_
     ·exact y7 (M:=[((0,0),(1,0))]) rfl (SP rfl TT) (AI (AI rfl (OL rfl)) TT)
     refine wl ?_
     cases h
     exact AI (AI TT (AI rfl (NB rfl))) (AI rfl (VS rfl))
theorem y2s{a0:GM}{m:Option Nat}{o:GJ}(h:ke m a0=some o):PFn Tryd.prog 31 [.agg [i6 a0.fK,i6 a0.fI,i6 a0.fC,.str a0.fM,i6 a0.fB.fK,i6 a0.fB.fN,.str a0.fB.fT,.isl 1 (a0.fB.fA.map za) false,.isl 5 (a0.fB.fE.map ze) false]] (.agg (z7 o)):=p7 (L:=y4g) y0j y18 (NB rfl) rfl (zsn h)
def zxq:LCode:=(.seq (.region [Qo 1 (.box (.t 0)),
 Qo 2 (.alloc [(i6 0),(i6 0),(.str []),(.isl 1 [] true),(.isl 5 [] true)]),
 Qi 3 0])
 (.seq (.seq (.region [Qf 7 0 1,
  Ql 8 1 7,
  Qo 9 (.bin .lss (.t 8) (.c (i6 1))),
  Qm 10 9,
  Qe 11 0 1 (10,false),
  Qk 12 1 11 (10,false),
  Qg 13 (.bin .gtr (.t 12) (.c (i6 5))) (10,false),
  Qo 14 (.pick (.t 10) (.c (.bool true)) (.t 13))])
 (.cond (.t 14)
  (.seq (.region [Qo 15 (.build [(i6 0),(i6 0),(.str []),(.isl 1 [] true),(.isl 5 [] true)] []),
   ⟨none,.store 5 (.t 2) (.t 15),none⟩,
   Qi 3 7])
  .ret)
  .skip))
 (.seq (.seq (.region [Qt 16 9 1,
  Qc 17 29 16,
  Qo 18 (.un .not (.t 17))])
 (.cond (.t 18)
  (.seq (.region [Qo 19 (.build [(i6 0),(i6 0),(.str []),(.isl 1 [] true),(.isl 5 [] true)] []),
   ⟨none,.store 5 (.t 2) (.t 19),none⟩,
   Qi 3 3])
  .ret)
  .skip))
 (.seq (.seq (.region [Qf 20 4 1,
  Qt 21 5 20,
  Qc 22 30 21,
  Qm 4 22])
 (.seq (.region [Qm 23 4,
  Qo 24 (.bin .neq (.t 23) (.c (i6 0)))])
 (.cond (.t 24)
  (.seq (.region [Qo 25 (.build [(i6 0),(i6 0),(.str []),(.isl 1 [] true),(.isl 5 [] true)] []),
   Qm 26 4,
   ⟨none,.store 5 (.t 2) (.t 25),none⟩,
   Qm 3 26])
  .ret)
  .skip)))
 (.seq (.region [Qt 27 9 1,
  Qc 28 31 27,
  Qo 5 (.alloc [(i6 0),(i6 0),(.str []),(.isl 1 [] true),(.isl 5 [] true)]),
  ⟨none,.store 5 (.t 5) (.t 28),none⟩])
 (.seq (.seq (.region [Qt 29 5 5,
  Qc 30 30 29,
  Qm 6 30])
 (.seq (.region [Qm 31 6,
  Qo 32 (.bin .neq (.t 31) (.c (i6 0)))])
 (.cond (.t 32)
  (.seq (.region [Qo 33 (.build [(i6 0),(i6 0),(.str []),(.isl 1 [] true),(.isl 5 [] true)] []),
   Qm 34 6,
   ⟨none,.store 5 (.t 2) (.t 33),none⟩,
   Qm 3 34])
  .ret)
  .skip)))
 (.seq (.region [Qt 35 5 5,
  ⟨none,.store 5 (.t 2) (.t 35),none⟩,
  Qi 3 0])
 .ret)))))))
def zn7:Lay:=⟨36,[],false⟩
def zlt:List LRes:=[.cell 2 true 5,.t 3]
def y3w:LFn:=⟨1,zn7,zxq,zlt⟩
theorem y0k:wm Tryd.prog [] 18=some y3w:=by kernel_rfl
theorem y0r:Zc Tryd.prog 18:=⟨_,Tryd.func18,rfl,rfl⟩
def vq(m:Option Nat)(a0:GM):Option (GJ×Int):=
 if((decide (a0.fK<1)) || (decide (a0.fK > 5)))=true then
  some ((GJ.mk 0 0 [] [] []),7)
 else
  (ve m (GM.mk a0.fK a0.fI a0.fC a0.fM (GJ.mk a0.fB.fK a0.fB.fN a0.fB.fT a0.fB.fA a0.fB.fE))).bind fun v1=>
  if(!v1)=true then
   some ((GJ.mk 0 0 [] [] []),3)
  else
   (vg m (GJ.mk a0.fB.fK a0.fB.fN a0.fB.fT a0.fB.fA a0.fB.fE)).bind fun v2=>
   if(v2 != 0)=true then
    some ((GJ.mk 0 0 [] [] []),v2)
   else
    (ke m (GM.mk a0.fK a0.fI a0.fC a0.fM (GJ.mk a0.fB.fK a0.fB.fN a0.fB.fT a0.fB.fA a0.fB.fE))).bind fun v3=>
    (vg m v3).bind fun v4=>
    if(v4 != 0)=true then
     some ((GJ.mk 0 0 [] [] []),v4)
    else
     some (v3,0)
def y6d(a0:GM)(o:GJ×Int):Exit→Env→AHeap→Nat→Prop:=Y2 zlt (vi (.tup [.agg (z7 o.1),i6 o.2]))
theorem zma{a0:GM}{m:Option Nat}{o:GJ×Int}(h:vq m a0=some o):LWp Tryd.prog zn7 0 zxq (y6d a0 o) (zu 0 [.agg [i6 a0.fK,i6 a0.fI,i6 a0.fC,.str a0.fM,i6 a0.fB.fK,i6 a0.fB.fN,.str a0.fB.fT,.isl 1 (a0.fB.fA.map za) false,.isl 5 (a0.fB.fE.map ze) false]]) [] 0:=by
 unfold vq at h
 refine SR ?_
 refine wn ?_
 refine SR ?_
 refine HP ?_
 refine HP ?_
 refine AI (fun hc=>(bqf hc)) ?_
 refine p0 (e:=[(1,.ptr (0,0) 0 0),(2,.ptr (1,0) 0 0),(14,.bool ((decide (a0.fK<1)) || (decide (a0.fK > 5))))]) (L:=[((0,0),.one [i6 a0.fK,i6 a0.fI,i6 a0.fC,.str a0.fM,i6 a0.fB.fK,i6 a0.fB.fN,.str a0.fB.fT,.isl 1 (a0.fB.fA.map za) false,.isl 5 (a0.fB.fE.map ze) false]),((1,0),.one [i6 0,i6 0,.str [],.isl 1 (([]:List (List UInt8)).map za) true,.isl 5 (([]:List (List AVal)).map ze) true])]) (n:=2) ?_ ?_
 ·exact y7 (M:=[((0,0),(0,0)),((1,0),(1,0))]) rfl (SP rfl (SP rfl (AI (VS rfl) TT))) (AI (AI rfl (OL rfl)) (AI (AI rfl (OL rfl)) TT))
 refine y4 (v:=((decide (a0.fK<1)) || (decide (a0.fK > 5)))) rfl TT (fun h1=>?_) (fun h1=>?_)
 ·have h:=zd h1 h
  refine SR ?_
  refine wl ?_
  cases h
  exact AI (AI TT (AI rfl (NB rfl))) (AI TT (AI rfl (Vw.tupL (AI (Vw.aggL (S2 rfl rfl (AI (VS rfl) (AI (p8 _ _ _) (AI (p8 _ _ _) TT))))) (AI (VS rfl) TT)))))
 ·have h:=zk h1 h
  refine x6 ?_
  refine wn ?_
  refine SR ?_
  obtain⟨v1,h2,h⟩:=bind_some h
  refine p5 (y5r h2) (AI (VS rfl) TT) ?_
  refine y4 (v:=(!v1)) rfl TT (fun h3=>?_) (fun h3=>?_)
  ·have h:=zd h3 h
   refine SR ?_
   refine wl ?_
   cases h
   exact AI (AI TT (AI rfl (NB rfl))) (AI TT (AI rfl (Vw.tupL (AI (Vw.aggL (S2 rfl rfl (AI (VS rfl) (AI (p8 _ _ _) (AI (p8 _ _ _) TT))))) (AI (VS rfl) TT)))))
  ·have h:=zk h3 h
   refine x6 ?_
   refine wn ?_
   refine SR ?_
   obtain⟨v2,h4,h⟩:=bind_some h
   refine p5 (zy4 h4) (AI (VS rfl) TT) ?_
   refine SR ?_
   refine p0 (e:=[(1,.ptr (0,0) 0 0),(2,.ptr (1,0) 0 0),(4,i6 v2),(24,.bool (v2 != 0))]) (L:=[((0,0),.one [i6 a0.fK,i6 a0.fI,i6 a0.fC,.str a0.fM,i6 a0.fB.fK,i6 a0.fB.fN,.str a0.fB.fT,.isl 1 (a0.fB.fA.map za) false,.isl 5 (a0.fB.fE.map ze) false]),((1,0),.one [i6 0,i6 0,.str [],.isl 1 (([]:List (List UInt8)).map za) true,.isl 5 (([]:List (List AVal)).map ze) true])]) (n:=2) ?_ ?_
   ·exact y7 (M:=[((0,0),(0,0)),((1,0),(1,0))]) rfl (SP rfl (SP rfl (S2 rfl rfl TT))) (AI (AI rfl (OL rfl)) (AI (AI rfl (OL rfl)) TT))
   refine y4 (v:=(v2 != 0)) rfl TT (fun h5=>?_) (fun h5=>?_)
   ·have h:=zd h5 h
    refine SR ?_
    refine wl ?_
    cases h
    exact AI (AI TT (AI rfl (NB rfl))) (AI TT (AI rfl (Vw.tupL (AI (Vw.aggL (S2 rfl rfl (AI (VS rfl) (AI (p8 _ _ _) (AI (p8 _ _ _) TT))))) (AI (VS rfl) TT)))))
   ·have h:=zk h5 h
    refine x6 ?_
    refine SR ?_
    obtain⟨v3,h6,h⟩:=bind_some h
    refine p5 (y2s h6) (AI (VS rfl) TT) ?_
    refine wn ?_
    refine SR ?_
    obtain⟨v4,h7,h⟩:=bind_some h
    refine p5 (zy4 h7) (AI (VS rfl) TT) ?_
    refine SR ?_
    refine p0 (e:=[(2,.ptr (0,0) 0 0),(5,.ptr (1,0) 0 0),(6,i6 v4),(32,.bool (v4 != 0))]) (L:=[((0,0),.one [i6 0,i6 0,.str [],.isl 1 (([]:List (List UInt8)).map za) true,.isl 5 (([]:List (List AVal)).map ze) true]),((1,0),.one (z7 v3))]) (n:=2) ?_ ?_
    ·exact y7 (M:=[((0,0),(1,0)),((1,0),(2,0))]) rfl (SP rfl (SP rfl (S2 rfl rfl TT))) (AI (AI rfl (OL rfl)) (AI (AI rfl (OL rfl)) TT))
    refine y4 (v:=(v4 != 0)) rfl TT (fun h8=>?_) (fun h8=>?_)
    ·have h:=zd h8 h
     refine SR ?_
     refine wl ?_
     cases h
     exact AI (AI TT (AI rfl (NB rfl))) (AI TT (AI rfl (Vw.tupL (AI (Vw.aggL (S2 rfl rfl (AI (VS rfl) (AI (p8 _ _ _) (AI (p8 _ _ _) TT))))) (AI (VS rfl) TT)))))
    ·have h:=zk h8 h
     refine x6 ?_
     refine SR ?_
     refine wl ?_
     cases h
     exact AI (AI TT (AI rfl (NB rfl))) (AI TT (AI rfl (VS rfl)))
theorem zxw{a0:GM}{m:Option Nat}{o:GJ×Int}(h:vq m a0=some o):PFn Tryd.prog 18 [.agg [i6 a0.fK,i6 a0.fI,i6 a0.fC,.str a0.fM,i6 a0.fB.fK,i6 a0.fB.fN,.str a0.fB.fT,.isl 1 (a0.fB.fA.map za) false,.isl 5 (a0.fB.fE.map ze) false]] (.tup [.agg (z7 o.1),i6 o.2]):=p7 (L:=y3w) y0k y0r (NB rfl) rfl (zma h)
def zh0:LCode:=(.seq (.region [Qo 2 (.box (.t 0)),
 Qb 3])
 (.seq (.region [Qf 4 1 2,
  Ql 5 1 4,
  Qm 6 5,
  Qe 7 0 2 (6,true),
  Qk 8 1 7 (6,true),
  Qk 9 1 1 (6,true),
  Qg 10 (.bin .eql (.t 8) (.t 9)) (6,true),
  Qp 11 6 10,
  Qm 3 11])
 .ret))
def zbw:Lay:=⟨12,[],false⟩
def z9z:List LRes:=[.t 3]
def zoz:LFn:=⟨2,zbw,zh0,z9z⟩
theorem zpq:wm Tryd.prog [] 57=some zoz:=by kernel_rfl
theorem zla:Zc Tryd.prog 57:=⟨_,Tryd.func57,rfl,rfl⟩
def x9(m:Option Nat)(a0:Int)(a1:G_job):Option Bool:=
 some (a1.f_pending&&(a1.f_id==a0))
def zzy(a0:Int)(a1:G_job)(o:Bool):Exit→Env→AHeap→Nat→Prop:=Y2 z9z (Zz 3 4 (.bool o) [((1,0),.one [i6 a0])])
theorem zcw{a0:Int}{a1:G_job}{m:Option Nat}{o:Bool}(h:x9 m a0 a1=some o):LWp Tryd.prog zbw 3 zh0 (zzy a0 a1 o) (zu 0 [.agg [i6 a1.f_id,.bool a1.f_pending,.bool a1.f_canceled],.ptr (1,0) 0 0]) [((1,0),.one [i6 a0])] 3:=by
 unfold x9 at h
 refine SR ?_
 refine SR ?_
 refine HP ?_
 refine AI (fun hp=>(AI hp hp)) ?_
 refine HB ?_
 refine p0 (e:=[(3,.bool (a1.f_pending&&(a1.f_id==a0)))]) (L:=[((1,0),.one [i6 a0])]) (n:=3) ?_ ?_
 ·exact y7 (M:=[]) rfl (AI (VS rfl) TT) (AI (AI rfl (OL rfl)) TT)
 refine wl ?_
 cases h
 exact AI TT (Yl (n':=3) [] [] rfl rfl (VS rfl) (AI (AI rfl (OL rfl)) TT))
theorem zw7{a0:Int}{a1:G_job}{m:Option Nat}{o:Bool}(h:x9 m a0 a1=some o):ACalls Tryd.prog 57 [.agg [i6 a1.f_id,.bool a1.f_pending,.bool a1.f_canceled],.ptr (1,0) 0 0] [((1,0),.one [i6 a0])] 3 (u0 4 (.bool o) [((1,0),.one [i6 a0])]):=Z0 (L:=zoz) zpq zla (NB rfl) (zcw h)
def z6a:LCode:=(.seq (.region [Qo 9 (.bin .lss (.t 8) (.t 7))])
 (.seq (.cond (.t 9)
  .skip
  (.exit 0))
 (.seq (.block 1
  (.seq (.region [Qm 10 8,
   Qm 5 10])
  (.seq (.region [Qm 11 1,
   Qm 12 0,
   Qm 13 5,
   Qo 14 (.iaddr 3 (.t 12) (.t 13)),
   Qt 15 3 14,
   Qo 16 (.callv (.t 11) [(.t 15)])])
  (.cond (.t 16)
   (.seq (.region [Qm 17 5,
    Qm 4 17])
   .ret)
   .skip))))
 (.region [Qo 18 (.bin .add (.t 8) (.c (i6 1))),
  Qm 8 18]))))
def z1i:LCode:=(.seq (.region [Qo 4 (.mv (.c (i6 (-1))))])
 .ret)
def zhl:LCode:=(.seq (.region [Qi 4 0])
 (.seq (.seq (.region [Qm 6 0,
  Qo 7 (.len false (.t 6)),
  Qi 8 0])
 (.block 0
  (.loop
   z6a)))
 z1i))
def Xb:Lay:=⟨19,[],false⟩
def z92:List LRes:=[.t 4]
def zpv:LFn:=⟨2,Xb,zhl,z92⟩
theorem zlx:wm Tryd.prog [] 56=some zpv:=by kernel_rfl
theorem ztb:Zc Tryd.prog 56:=⟨_,Tryd.func56,rfl,rfl⟩
def z76{σ:Type}(Hc:σ→AHeap)(fi0:Fn)(ff0 fc0:List AVal)(a0:List G_job)(z0:σ)(o:Int×σ):Exit→Env→AHeap→Nat→Prop:=Y2 z92 (Zz 3 4 (i6 o.1) ([((0,0),.rows 3 (a0.map z8))]++up 3 (Hc o.2)))
def z18{σ:Type}(Hc:σ→AHeap)(fi0:Fn)(ff0 fc0:List AVal)(a0:List G_job)(s:(Int×σ)):Env:=[(0,.msl (0,0) 3 0 a0.length false),(1,.fn fi0 ff0 fc0),(7,i6 ((a0.length:Nat):Int)),(8,i6 s.1)]
def z3v{σ:Type}(Hc:σ→AHeap)(fi0:Fn)(ff0 fc0:List AVal)(a0:List G_job)(s:(Int×σ)):AHeap:=([((0,0),.rows 3 (a0.map z8))]++up 3 (Hc s.2))
def z4l{σ:Type}(Hc:σ→AHeap)(fi0:Fn)(ff0 fc0:List AVal)(a0:List G_job)(z0:σ)(o:(Int×σ)):Exit→Env→AHeap→Nat→Prop:=(x4 0 (Yk Tryd.prog Xb 3 z1i (z76 Hc fi0 ff0 fc0 a0 z0 o)))
def jy{σ:Type}(g0:σ→G_job→Option (Bool×σ))(m:Option Nat)(a0:List G_job)(v3:σ):Option (Int×σ):=
 some ((-1),v3)
def ye{σ:Type}(g0:σ→G_job→Option (Bool×σ))(m:Option Nat)(a0:List G_job)(v2:Int)(v3:σ):Option ((Int×σ) ⊕ (Int×σ)):=
 if(decide (v2<((a0.length:Nat):Int)))=true then
  if(0:Int)≤v2∧v2<((a0.length:Nat):Int) then
  if(0+v2.toNat)<a0.length then
  (g0 v3 (G_job.mk ((a0.getD (0+v2.toNat) default).f_id) ((a0.getD (0+v2.toNat) default).f_pending) ((a0.getD (0+v2.toNat) default).f_canceled))).bind fun v5=>
  if v5.1=true then
   p6 p9 (
    some (v2,v5.2))
  else
   some (.inl ((W (v2+1)),v5.2))
  else none
  else none
 else
  p6 p9 (
   jy g0 m a0 v3)
def yt{σ:Type}(g0:σ→G_job→Option (Bool×σ))(m:Option Nat)(a0:List G_job)(v2:Int)(v3:σ):Option (Int×σ):=Y5 m (fun(s:(Int×σ))=>ye g0 m a0 s.1 s.2) (v2,v3)
theorem zen{σ:Type}{Hc:σ→AHeap}{fi0:Fn}{ff0 fc0:List AVal}{g0:σ→G_job→Option (Bool×σ)}(hg0:Clo Tryd.prog fi0 ff0 fc0 Hc (fun(x:G_job)=>[.agg [i6 x.f_id,.bool x.f_pending,.bool x.f_canceled]]) (fun(b:Bool)=>.bool b) g0){z0:σ}{a0:List G_job}{v3:σ}{m:Option Nat}{o:(Int×σ)}(h:jy g0 m a0 v3=some o) :
 LWp Tryd.prog Xb 3 z1i (z76 Hc fi0 ff0 fc0 a0 z0 o) [] ([((0,0),.rows 3 (a0.map z8))]++up 3 (Hc v3)) 4:=by
 unfold jy at h
 refine SR ?_
 refine wl ?_
 cases h
 exact AI TT (y5c (n':=4) (q:=3) (lit':=[((0,0),.rows 3 (a0.map z8))]) (hg0.tl _) [] [] rfl rfl (VS rfl) (AI (AI rfl (p2 z8 (fun _=>rfl) _ a0)) TT))
theorem zam{σ:Type}{Hc:σ→AHeap}{fi0:Fn}{ff0 fc0:List AVal}{g0:σ→G_job→Option (Bool×σ)}(hg0:Clo Tryd.prog fi0 ff0 fc0 Hc (fun(x:G_job)=>[.agg [i6 x.f_id,.bool x.f_pending,.bool x.f_canceled]]) (fun(b:Bool)=>.bool b) g0){z0:σ}{a0:List G_job}{v2:Int}{v3:σ}{m:Option Nat}{o:(Int×σ) ⊕ (Int×σ)}(h:ye g0 m a0 v2 v3=some o) :
 LWp Tryd.prog Xb 3 z6a (Z7 3 4 (z18 Hc fi0 ff0 fc0 a0) (z3v Hc fi0 ff0 fc0 a0) (z4l Hc fi0 ff0 fc0 a0 z0) o) [(0,.msl (0,0) 3 0 a0.length false),(1,.fn fi0 ff0 fc0),(7,i6 ((a0.length:Nat):Int)),(8,i6 v2)] ([((0,0),.rows 3 (a0.map z8))]++up 3 (Hc v3)) 4:=by
 unfold ye at h
 refine SR ?_
 refine wn ?_
 refine y4 (v:=(decide (v2<((a0.length:Nat):Int)))) rfl TT (fun h11=>?_) (fun h11=>?_)
 ·have h:=zd h11 h
  refine x6 ?_
  refine wn ?_
  refine xk ?_
  refine SR ?_
  refine SR ?_
  obtain⟨h12,h⟩:=zj h
  refine AI h12 ?_
  obtain⟨h13,h⟩:=zj h
  refine EX (z8 (a0.getD (0+v2.toNat) default)) (AI (jx z8 _ _ h13) (AI (AI (Yc z8 h13) (NB rfl)) ?_))
  obtain⟨v5,h14,h⟩:=bind_some h
  refine Clo.use (q:=3) (lit:=[((0,0),.rows 3 (a0.map z8))]) hg0 h14 rfl rfl (AI (VS rfl) TT) ?_
  refine p0 (e:=[(0,.msl (0,0) 3 0 a0.length false),(1,.fn fi0 ff0 fc0),(5,i6 v2),(7,i6 ((a0.length:Nat):Int)),(8,i6 v2),(16,.bool v5.1)]) (L:=([((0,0),.rows 3 (a0.map z8))]++up 3 (Hc v5.2))) (n:=4) ?_ ?_
  ·exact zy3 (M:=[]) (lit':=[((0,0),.rows 3 (a0.map z8))]) (hg0.tl _) rfl (AI (p1 rfl (by first|rfl|omega|(simp;done)|(simp at *;omega)) rfl) (AI (Vw.clo hg0.hf hg0.hc (by decide) (z0o (Xv (n:=4) (q:=4) (lit':=[((0,0),.rows 3 (a0.map z8))]) rfl))) (S4 rfl rfl rfl rfl TT))) (AI (AI rfl (p2 z8 (fun _=>rfl) _ a0)) TT)
  refine y4 (v:=v5.1) rfl TT (fun h15=>?_) (fun h15=>?_)
  ·have h:=zd h15 h
   refine SR ?_
   refine wl ?_
   obtain⟨o,hq,rfl⟩:=p3.1 h
   replace h:=hq;clear hq
   refine AI nofun ?_
   cases h
   exact AI TT (y5c (n':=4) (q:=3) (lit':=[((0,0),.rows 3 (a0.map z8))]) (hg0.tl _) [] [] rfl rfl (VS rfl) (AI (AI rfl (p2 z8 (fun _=>rfl) _ a0)) TT))
  ·have h:=zk h15 h
   refine x6 ?_
   refine J1 ?_
   cases h
   exact AI rfl (zy3 (M:=[]) (lit':=[((0,0),.rows 3 (a0.map z8))]) (hg0.tl _) rfl (AI (p1 rfl (by first|rfl|omega|(simp;done)|(simp at *;omega)) rfl) (AI (Vw.clo hg0.hf hg0.hc (by decide) (z0o (Xv (n:=4) (q:=3) (lit':=[((0,0),.rows 3 (a0.map z8))]) rfl))) (S2 rfl rfl TT))) (AI (AI rfl (p2 z8 (fun _=>rfl) _ a0)) TT))
 ·have h:=zk h11 h
  refine Xh ?_
  obtain⟨o,hq,rfl⟩:=p3.1 h
  replace h:=hq;clear hq
  refine AI nofun ?_
  refine p0 ?_ (zen hg0 h)
  exact zy3 (M:=[]) (lit':=[((0,0),.rows 3 (a0.map z8))]) (hg0.tl _) rfl TT (AI (AI rfl (p2 z8 (fun _=>rfl) _ a0)) TT)
theorem zdg{σ:Type}{Hc:σ→AHeap}{fi0:Fn}{ff0 fc0:List AVal}{g0:σ→G_job→Option (Bool×σ)}(hg0:Clo Tryd.prog fi0 ff0 fc0 Hc (fun(x:G_job)=>[.agg [i6 x.f_id,.bool x.f_pending,.bool x.f_canceled]]) (fun(b:Bool)=>.bool b) g0){z0:σ}{a0:List G_job}{v2:Int}{v3:σ}{m:Option Nat}{o:(Int×σ)}(h:yt g0 m a0 v2 v3=some o) :
 LWp Tryd.prog Xb 3 (.loop z6a) (x4 0 (Yk Tryd.prog Xb 3 z1i (z76 Hc fi0 ff0 fc0 a0 z0 o))) [(0,.msl (0,0) 3 0 a0.length false),(1,.fn fi0 ff0 fc0),(7,i6 ((a0.length:Nat):Int)),(8,i6 v2)] ([((0,0),.rows 3 (a0.map z8))]++up 3 (Hc v3)) 4:=
 wy (m:=m) (s:=((v2,v3):(Int×σ))) (r:=o) (fun(s:(Int×σ))=>ye g0 m a0 s.1 s.2) (z18 Hc fi0 ff0 fc0 a0) (z3v Hc fi0 ff0 fc0 a0) (z4l Hc fi0 ff0 fc0 a0 z0) (fun s o h=>zam hg0 h) h
def j5{σ:Type}(g0:σ→G_job→Option (Bool×σ))(m:Option Nat)(a0:List G_job)(z0:σ):Option (Int×σ):=
 yt g0 m a0 0 z0
theorem zde{σ:Type}{Hc:σ→AHeap}{fi0:Fn}{ff0 fc0:List AVal}{g0:σ→G_job→Option (Bool×σ)}(hg0:Clo Tryd.prog fi0 ff0 fc0 Hc (fun(x:G_job)=>[.agg [i6 x.f_id,.bool x.f_pending,.bool x.f_canceled]]) (fun(b:Bool)=>.bool b) g0){a0:List G_job}{z0:σ}{m:Option Nat}{o:Int×σ}(h:j5 g0 m a0 z0=some o):LWp Tryd.prog Xb 3 zhl (z76 Hc fi0 ff0 fc0 a0 z0 o) (zu 0 [.msl (0,0) 3 0 a0.length false,.fn fi0 ff0 fc0]) ([((0,0),.rows 3 (a0.map z8))]++Hc z0) 3:=by
 unfold j5 at h
 refine p0 (e:=[(0,.msl (0,0) 3 0 a0.length false),(1,.fn fi0 ff0 fc0)]) (L:=([((0,0),.rows 3 (a0.map z8))]++up 3 (Hc z0))) (n:=4) (zr9 (T:=Hc z0) (e':=zu 0 [.msl (0,0) 3 0 a0.length false,.fn fi0 ff0 fc0]) (e:=[(0,.msl (0,0) 3 0 a0.length false),(1,.fn fi0 ff0 fc0)]) (lit':=[((0,0),.rows 3 (a0.map z8))]) (lit:=[((0,0),.rows 3 (a0.map z8))]) (hg0.tl z0) rfl rfl (AI (p1 rfl (by first|rfl|omega|(simp;done)|(simp at *;omega)) rfl) (AI (Vw.clo hg0.hf hg0.hc (by decide) (znx _)) TT)) (AI (AI rfl (p2 z8 (fun _=>rfl) _ a0)) TT)) ?_
 refine SR ?_
 refine wn ?_
 refine SR ?_
 refine xk ?_
 refine p0 ?_ (zdg hg0 h)
 exact zy3 (M:=[]) (lit':=[((0,0),.rows 3 (a0.map z8))]) (hg0.tl _) rfl (AI (p1 rfl (by first|rfl|omega|(simp;done)|(simp at *;omega)) rfl) (AI (Vw.clo hg0.hf hg0.hc (by decide) (z0o (Xv (n:=4) (q:=3) (lit':=[((0,0),.rows 3 (a0.map z8))]) rfl))) (S2 rfl rfl TT))) (AI (AI rfl (p2 z8 (fun _=>rfl) _ a0)) TT)
theorem zvq{σ:Type}{Hc:σ→AHeap}{fi0:Fn}{ff0 fc0:List AVal}{g0:σ→G_job→Option (Bool×σ)}(hg0:Clo Tryd.prog fi0 ff0 fc0 Hc (fun(x:G_job)=>[.agg [i6 x.f_id,.bool x.f_pending,.bool x.f_canceled]]) (fun(b:Bool)=>.bool b) g0){a0:List G_job}{z0:σ}{m:Option Nat}{o:Int×σ}(h:j5 g0 m a0 z0=some o):ACalls Tryd.prog 56 [.msl (0,0) 3 0 a0.length false,.fn fi0 ff0 fc0] ([((0,0),.rows 3 (a0.map z8))]++Hc z0) 3 (u0 4 (i6 o.1) ([((0,0),.rows 3 (a0.map z8))]++up 3 (Hc o.2))):=Z0 (L:=zpv) zlx ztb (NB rfl) (zde hg0 h)
def zfi:LCode:=(.seq (.region [Qo 3 (.box (.t 1)),
 Qi 4 0])
 (.seq (.region [Qm 5 0,
  Qo 6 (.nilck (.t 5)),
  Qf 7 0 6,
  Ql 8 1 7,
  Qo 9 (.mkfn (.func 57) [] [(.t 3)]),
  Qo 10 (.call 56 [(.t 8),(.t 9)]),
  Qm 4 10])
 .ret))
def za8:Lay:=⟨11,[],false⟩
def z9t:List LRes:=[.t 4]
def zni:LFn:=⟨2,za8,zfi,z9t⟩
theorem zs5:wm Tryd.prog [] 35=some zni:=by kernel_rfl
theorem zsu:Zc Tryd.prog 35:=⟨_,Tryd.func35,rfl,rfl⟩
def we(m:Option Nat)(a0:Int)(a1:List G_job)(a2:List GM):Option Int:=
 (j5 (fun(s:Unit) (x:G_job)=>(x9 m a0 x).map fun o=>(o,())) m a1 ()).bind fun v1=>
 some v1.1
def y09(a0:Int)(a1:List G_job)(a2:List GM)(o:Int):Exit→Env→AHeap→Nat→Prop:=Y2 z9t (Zz 3 5 (i6 o) [((0,0),.one [.msl (3,0) 3 0 a1.length false,.msl (4,0) 9 0 a2.length false]),((3,0),.rows 3 (a1.map z8)),((4,0),.rows 9 (a2.map z6))])
theorem zdt{a0:Int}{a1:List G_job}{a2:List GM}{m:Option Nat}{o:Int}(h:we m a0 a1 a2=some o):LWp Tryd.prog za8 3 zfi (y09 a0 a1 a2 o) (zu 0 [.ptr (0,0) 0 0,i6 a0]) [((0,0),.one [.msl (0,1) 3 0 a1.length false,.msl (0,2) 9 0 a2.length false]),((0,1),.rows 3 (a1.map z8)),((0,2),.rows 9 (a2.map z6))] 3:=by
 unfold we at h
 refine SR ?_
 refine SR ?_
 obtain⟨v1,h1,h⟩:=bind_some h
 refine Z2 (k:=3) (m:=1) (L':=[((0,1),.rows 3 (a1.map z8)),((3,0),.one [i6 a0])]) (rest:=[((0,0),.one [.msl (0,1) 3 0 a1.length false,.msl (0,2) 9 0 a2.length false]),((0,2),.rows 9 (a2.map z6))]) (R':=i6 v1.1) [((0,0),(0,1)),((1,0),(3,0))] (zvq (show Clo Tryd.prog (.func 57) [] [.ptr (1,0) 0 0] (fun(s:Unit)=>[((1,0),.one [i6 a0])]) (fun(x:G_job)=>[.agg [i6 x.f_id,.bool x.f_pending,.bool x.f_canceled]]) (fun(b:Bool)=>.bool b) (fun(s:Unit) (x:G_job)=>(x9 m a0 x).map fun o=>(o,())) from Clo.mk' (fun s=>Tl.lit rfl (AI (rfl) TT) rfl) rfl rfl (fun _=>rfl) (fun s x o h=>by obtain⟨o1,h1,rfl⟩:=p3.1 h;exact EX _ (AI (zw7 h1) (AI rfl (AI rfl TT))))) h1) rfl rfl rfl (AI (p1 rfl (by first|rfl|omega|(simp;done)|(simp at *;omega)) rfl) (AI (Vw.fnL TT (SP rfl TT)) TT)) (AI (h0I (0,1) rfl rfl (p2 z8 (fun _=>rfl) _ a1)) (AI (h0I (3,0) rfl rfl (OL rfl)) TT)) (xl _ rfl) (AI rfl (AI (yf z8 (fun _=>rfl) _ _) (AI rfl (AI rfl TT)))) rfl ?_
 refine p0 (e:=[(4,i6 v1.1)]) (L:=[((0,0),.one [.msl (3,0) 3 0 a1.length false,.msl (4,0) 9 0 a2.length false]),((3,0),.rows 3 (a1.map z8)),((4,0),.rows 9 (a2.map z6))]) (n:=5) ?_ ?_
 ·exact y7 (M:=[((3,0),(0,1)),((4,0),(0,2))]) rfl (AI (VS rfl) TT) (AI (AI rfl (p4 (AI (p1 rfl (by first|rfl|omega|(simp;done)|(simp at *;omega)) rfl) (AI (p1 rfl (by first|rfl|omega|(simp;done)|(simp at *;omega)) rfl) TT)))) (AI (AI rfl (p2 z8 (fun _=>rfl) _ a1)) (AI (AI rfl (p2 z6 (fun _=>rfl) _ a2)) TT)))
 refine wl ?_
 cases h
 exact AI TT (Yl (n':=5) [((3,0),(3,0)),((4,0),(4,0))] [] rfl rfl (VS rfl) (AI (AI rfl (p4 (AI (p1 rfl (by first|rfl|omega|(simp;done)|(simp at *;omega)) rfl) (AI (p1 rfl (by first|rfl|omega|(simp;done)|(simp at *;omega)) rfl) TT)))) (AI (AI rfl (p2 z8 (fun _=>rfl) _ a1)) (AI (AI rfl (p2 z6 (fun _=>rfl) _ a2)) TT))))
theorem zg9{a0:Int}{a1:List G_job}{a2:List GM}{m:Option Nat}{o:Int}(h:we m a0 a1 a2=some o):ACalls Tryd.prog 35 [.ptr (0,0) 0 0,i6 a0] [((0,0),.one [.msl (0,1) 3 0 a1.length false,.msl (0,2) 9 0 a2.length false]),((0,1),.rows 3 (a1.map z8)),((0,2),.rows 9 (a2.map z6))] 3 (u0 5 (i6 o) [((0,0),.one [.msl (3,0) 3 0 a1.length false,.msl (4,0) 9 0 a2.length false]),((3,0),.rows 3 (a1.map z8)),((4,0),.rows 9 (a2.map z6))]):=Z0 (L:=zni) zs5 zsu (NB rfl) (zdt h)
def zhi:LCode:=(.seq (.region [Qo 8 (.alloc [(i6 0),(i6 0)])])
 (.seq (.region [Qm 9 0,
  Qm 10 0,
  Qo 11 (.nilck (.t 10)),
  Qf 12 1 11,
  Ql 13 1 12,
  Qm 14 1,
  Qm 15 2,
  Qm 16 3,
  Qo 17 (.build [(i6 0),(i6 0),(i6 0),(.str []),(i6 0),(i6 0),(.str []),(.isl 1 [] true),(.isl 5 [] true)] [(0,1,(.c (i6 4))),(1,1,(.t 14)),(2,1,(.t 15)),(3,1,(.t 16))]),
  Qo 18 (.mkSl true 9 [(i6 0),(i6 0),(i6 0),(.str []),(i6 0),(i6 0),(.str []),(.isl 1 [] true),(.isl 5 [] true)] 1 [(0,(.t 17))]),
  Qo 19 (.app false 9 120 (.t 13) (.t 18)),
  Qo 20 (.nilck (.t 9)),
  Qf 21 1 20,
  ⟨none,.store 1 (.t 21) (.t 19),none⟩])
 (.seq (.region [Qo 22 (.build [(i6 0),(i6 0)] []),
  ⟨none,.store 2 (.t 8) (.t 22),none⟩])
 .ret)))
def zba:Lay:=⟨23,[19],false⟩
def zaa:List LRes:=[.cell 8 true 2]
def zkt:LFn:=⟨4,zba,zhi,zaa⟩
theorem zm3:wm Tryd.prog [19] 36=some zkt:=by kernel_rfl
theorem zs0:Zc Tryd.prog 36:=⟨_,Tryd.func36,rfl,rfl⟩
def wr(m:Option Nat)(a0:Int)(a1:Int)(a2:List UInt8)(a3:List G_job)(a4:List GM):Option (G_QAction×(List GM)):=
 if((a4++([(GM.mk 4 a0 a1 a2 (GJ.mk 0 0 [] [] []))]:List GM)).map z6).length*120≤140737488355328 then
 some ((G_QAction.mk 0 0),(a4++([(GM.mk 4 a0 a1 a2 (GJ.mk 0 0 [] [] []))]:List GM)))
 else none
def zz8(a0:Int)(a1:Int)(a2:List UInt8)(a3:List G_job)(a4:List GM)(o:G_QAction×(List GM)):Exit→Env→AHeap→Nat→Prop:=Y2 zaa (Zz 3 5 (.agg [i6 o.1.f_Do,i6 o.1.f_Job]) [((0,0),.one [.msl (3,0) 3 0 a3.length false,.msl (4,0) 9 0 o.2.length false]),((3,0),.rows 3 (a3.map z8)),((4,0),.rows 9 (o.2.map z6))])
theorem ze1{a0:Int}{a1:Int}{a2:List UInt8}{a3:List G_job}{a4:List GM}{m:Option Nat}{o:G_QAction×(List GM)}(h:wr m a0 a1 a2 a3 a4=some o):LWp Tryd.prog zba 3 zhi (zz8 a0 a1 a2 a3 a4 o) (zu 0 [.ptr (0,0) 0 0,i6 a0,i6 a1,.str a2]) [((0,0),.one [.msl (0,1) 3 0 a3.length false,.msl (0,2) 9 0 a4.length false]),((0,1),.rows 3 (a3.map z8)),((0,2),.rows 9 (a4.map z6))] 3:=by
 unfold wr at h
 refine SR ?_
 refine SR ?_
 obtain⟨h1,h⟩:=zj h
 refine AI (fun h=>Bool.noConfusion h) (AI (y0c z6 (by first|rfl|omega|(simp;done)|(simp at *;omega))) (EX ((a4++([(GM.mk 4 a0 a1 a2 (GJ.mk 0 0 [] [] []))]:List GM)).map z6) (AI (y20 z6 a4 ([(GM.mk 4 a0 a1 a2 (GJ.mk 0 0 [] [] []))]:List GM) (by first|rfl|omega|(simp;done)|(simp at *;omega))) (AI h1 ?_))))
 refine p0 (e:=[(8,.ptr (3,0) 0 0)]) (L:=[((0,0),.one [.msl (4,0) 3 0 a3.length false,.msl (5,0) 9 0 (((a4++([(GM.mk 4 a0 a1 a2 (GJ.mk 0 0 [] [] []))]:List GM)).map z6).length) false]),((3,0),.one [i6 0,i6 0]),((4,0),.rows 3 (a3.map z8)),((5,0),.rows 9 ((a4++([(GM.mk 4 a0 a1 a2 (GJ.mk 0 0 [] [] []))]:List GM)).map z6))]) (n:=6) ?_ ?_
 ·exact y7 (M:=[((3,0),(3,0)),((4,0),(0,1)),((5,0),(4,0))]) rfl (SP rfl TT) (AI (AI rfl (p4 (AI (p1 rfl (by first|rfl|omega|(simp;done)|(simp at *;omega)) rfl) (AI (p1 rfl (by first|rfl|omega|(simp;done)|(simp at *;omega)) rfl) TT)))) (AI (AI rfl (OL rfl)) (AI (AI rfl (p2 z8 (fun _=>rfl) _ a3)) (AI (AI rfl (p2 z6 (fun _=>rfl) _ (a4++([(GM.mk 4 a0 a1 a2 (GJ.mk 0 0 [] [] []))]:List GM)))) TT))))
 refine SR ?_
 refine wl ?_
 cases h
 exact AI (AI TT (AI rfl (NB rfl))) (Yl (n':=6) [((3,0),(4,0)),((4,0),(5,0))] [] rfl rfl (VS rfl) (AI (AI rfl (p4 (AI (p1 rfl (by first|rfl|omega|(simp;done)|(simp at *;omega)) rfl) (AI (p1 rfl (by first|rfl|omega|(simp;done)|(simp at *;omega)) rfl) TT)))) (AI (AI rfl (p2 z8 (fun _=>rfl) _ a3)) (AI (AI rfl (p2 z6 (fun _=>rfl) _ (a4++([(GM.mk 4 a0 a1 a2 (GJ.mk 0 0 [] [] []))]:List GM)))) TT))))
theorem zhg{a0:Int}{a1:Int}{a2:List UInt8}{a3:List G_job}{a4:List GM}{m:Option Nat}{o:G_QAction×(List GM)}(h:wr m a0 a1 a2 a3 a4=some o):ACalls Tryd.prog 36 [.ptr (0,0) 0 0,i6 a0,i6 a1,.str a2] [((0,0),.one [.msl (0,1) 3 0 a3.length false,.msl (0,2) 9 0 a4.length false]),((0,1),.rows 3 (a3.map z8)),((0,2),.rows 9 (a4.map z6))] 3 (u0 5 (.agg [i6 o.1.f_Do,i6 o.1.f_Job]) [((0,0),.one [.msl (3,0) 3 0 a3.length false,.msl (4,0) 9 0 o.2.length false]),((3,0),.rows 3 (a3.map z8)),((4,0),.rows 9 (o.2.map z6))]):=Z0 (L:=zkt) zm3 zs0 (NB rfl) (ze1 h)
def zgy:LCode:=(.region [Qo 22 (.bin .add (.t 11) (.c (i6 1))),
 Qm 11 22])
def z7u:LCode:=(.seq (.region [Qo 12 (.bin .lss (.t 11) (.t 10))])
 (.seq (.cond (.t 12)
  .skip
  (.exit 0))
 (.seq (.block 1
  (.seq (.region [Qm 13 11,
   Qo 14 (.iaddr 3 (.t 9) (.t 11)),
   Qt 15 3 14,
   Qo 5 (.alloc [(i6 0),(.bool false),(.bool false)]),
   Qm 4 13,
   ⟨none,.store 3 (.t 5) (.t 15),none⟩])
  (.seq (.region [Qf 16 1 5,
   Ql 17 1 16])
  (.cond (.t 17)
   (.region [Qm 18 3,
    Qm 19 4,
    Qo 20 (.mkSl true 1 [(i6 0)] 1 [(0,(.t 19))]),
    Qo 21 (.app true 1 8 (.t 18) (.t 20)),
    Qm 3 21])
   .skip))))
 zgy)))
def z1r:LCode:=(.seq (.region [Qm 23 3,
 Qm 2 23])
 .ret)
def zfn:LCode:=(.seq (.region [Qo 2 (.mv (.c (.val (.slice none 0 0))))])
 (.seq (.region [Qo 3 (.mv (.c (.val (.slice none 0 0))))])
 (.seq (.seq (.region [Qm 6 0,
  Qo 7 (.nilck (.t 6)),
  Qf 8 0 7,
  Ql 9 1 8,
  Qo 10 (.len false (.t 9)),
  Qi 11 0])
 (.block 0
  (.loop
   z7u)))
 z1r)))
def Yz:Lay:=⟨24,[],false⟩
def z9f:List LRes:=[.t 2]
def zmu:LFn:=⟨1,Yz,zfn,z9f⟩
theorem zpg:wm Tryd.prog [] 15=some zmu:=by kernel_rfl
theorem zqh:Zc Tryd.prog 15:=⟨_,Tryd.func15,rfl,rfl⟩
def z82(a0:List G_job)(a1:List GM)(o:(List Int)):Exit→Env→AHeap→Nat→Prop:=Y2 z9f (Zz 3 5 (.isl 1 (o.map ww) false) [((0,0),.one [.msl (3,0) 3 0 a0.length false,.msl (4,0) 9 0 a1.length false]),((3,0),.rows 3 (a0.map z8)),((4,0),.rows 9 (a1.map z6))])
def Ws(a0:List G_job)(a1:List GM)(s:((List Int)×Int)):Env:=[(3,.osl (5,0) 1 (s.1.map ww)),(9,.msl (3,0) 3 0 a0.length false),(10,i6 ((a0.length:Nat):Int)),(11,i6 s.2)]
def Vz(a0:List G_job)(a1:List GM)(s:((List Int)×Int)):AHeap:=[((0,0),.one [.msl (3,0) 3 0 a0.length false,.msl (4,0) 9 0 a1.length false]),((3,0),.rows 3 (a0.map z8)),((4,0),.rows 9 (a1.map z6)),((5,0),.tok)]
def Uq(a0:List G_job)(a1:List GM)(o:(List Int)):Exit→Env→AHeap→Nat→Prop:=(x4 0 (Yk Tryd.prog Yz 3 z1r (z82 a0 a1 o)))
def wk(m:Option Nat)(a0:List G_job)(a1:List GM)(v3:Int)(v5:List Int):Option (((List Int)×Int) ⊕ (List Int)):=
 some (.inl (v5,(W (v3+1))))
theorem z4a{a0:List G_job}{a1:List GM}{v3:Int}{v5:List Int}{m:Option Nat}{o:(((List Int)×Int) ⊕ (List Int))}(h:wk m a0 a1 v3 v5=some o) :
 LWp Tryd.prog Yz 3 zgy (Z7 3 6 (Ws a0 a1) (Vz a0 a1) (Uq a0 a1) o) [(3,.osl (5,0) 1 (v5.map ww)),(9,.msl (3,0) 3 0 a0.length false),(10,i6 ((a0.length:Nat):Int)),(11,i6 v3)] [((0,0),.one [.msl (3,0) 3 0 a0.length false,.msl (4,0) 9 0 a1.length false]),((3,0),.rows 3 (a0.map z8)),((4,0),.rows 9 (a1.map z6)),((5,0),.tok)] 6:=by
 unfold wk at h
 refine J1 ?_
 cases h
 exact AI rfl (y7 (M:=[((3,0),(3,0)),((4,0),(4,0)),((5,0),(5,0))]) rfl (AI (Vw.osl _ _ _ _ rfl) (AI (p1 rfl (by first|rfl|omega|(simp;done)|(simp at *;omega)) rfl) (S2 rfl rfl TT))) (AI (AI rfl (p4 (AI (p1 rfl (by first|rfl|omega|(simp;done)|(simp at *;omega)) rfl) (AI (p1 rfl (by first|rfl|omega|(simp;done)|(simp at *;omega)) rfl) TT)))) (AI (AI rfl (p2 z8 (fun _=>rfl) _ a0)) (AI (AI rfl (p2 z6 (fun _=>rfl) _ a1)) (AI (AI rfl BVw.tok) TT)))))
def kg(m:Option Nat)(a0:List G_job)(a1:List GM)(v2:List Int):Option (List Int):=
 some v2
def x5(m:Option Nat)(a0:List G_job)(a1:List GM)(v2:List Int)(v3:Int):Option (((List Int)×Int) ⊕ (List Int)):=
 if(decide (v3<((a0.length:Nat):Int)))=true then
  if(0:Int)≤v3∧v3<((a0.length:Nat):Int) then
  if(0+v3.toNat)<a0.length then
  if(a0.getD (0+v3.toNat) default).f_pending=true then
   if((v2++([v3]:List Int)).map ww).length*8≤140737488355328 then
   wk m a0 a1 v3 (v2++([v3]:List Int))
   else none
  else
   wk m a0 a1 v3 v2
  else none
  else none
 else
  p6 p9 (
   kg m a0 a1 v2)
def wg(m:Option Nat)(a0:List G_job)(a1:List GM)(v2:List Int)(v3:Int):Option (List Int):=Y5 m (fun(s:((List Int)×Int))=>x5 m a0 a1 s.1 s.2) (v2,v3)
theorem zce{a0:List G_job}{a1:List GM}{v2:List Int}{m:Option Nat}{o:(List Int)}(h:kg m a0 a1 v2=some o) :
 LWp Tryd.prog Yz 3 z1r (z82 a0 a1 o) [(3,.osl (3,0) 1 (v2.map ww))] [((0,0),.one [.msl (4,0) 3 0 a0.length false,.msl (5,0) 9 0 a1.length false]),((3,0),.tok),((4,0),.rows 3 (a0.map z8)),((5,0),.rows 9 (a1.map z6))] 6:=by
 unfold kg at h
 refine SR ?_
 refine wl ?_
 cases h
 exact AI TT (Yl (n':=6) [((3,0),(4,0)),((4,0),(5,0))] [] rfl rfl (Vw.oslI _ _ _) (AI (AI rfl (p4 (AI (p1 rfl (by first|rfl|omega|(simp;done)|(simp at *;omega)) rfl) (AI (p1 rfl (by first|rfl|omega|(simp;done)|(simp at *;omega)) rfl) TT)))) (AI (AI rfl (p2 z8 (fun _=>rfl) _ a0)) (AI (AI rfl (p2 z6 (fun _=>rfl) _ a1)) TT))))
theorem z98{a0:List G_job}{a1:List GM}{v2:List Int}{v3:Int}{m:Option Nat}{o:((List Int)×Int) ⊕ (List Int)}(h:x5 m a0 a1 v2 v3=some o) :
 LWp Tryd.prog Yz 3 z7u (Z7 3 6 (Ws a0 a1) (Vz a0 a1) (Uq a0 a1) o) [(3,.osl (5,0) 1 (v2.map ww)),(9,.msl (3,0) 3 0 a0.length false),(10,i6 ((a0.length:Nat):Int)),(11,i6 v3)] [((0,0),.one [.msl (3,0) 3 0 a0.length false,.msl (4,0) 9 0 a1.length false]),((3,0),.rows 3 (a0.map z8)),((4,0),.rows 9 (a1.map z6)),((5,0),.tok)] 6:=by
 unfold x5 at h
 refine SR ?_
 refine wn ?_
 refine y4 (v:=(decide (v3<((a0.length:Nat):Int)))) rfl TT (fun h11=>?_) (fun h11=>?_)
 ·have h:=zd h11 h
  refine x6 ?_
  refine wn ?_
  refine xk ?_
  refine SR ?_
  obtain⟨h12,h⟩:=zj h
  refine AI h12 ?_
  obtain⟨h13,h⟩:=zj h
  refine EX (z8 (a0.getD (0+v3.toNat) default)) (AI (jx z8 _ _ h13) (AI (AI (Yc z8 h13) (NB rfl)) ?_))
  refine SR ?_
  refine p0 (e:=[(3,.osl (3,0) 1 (v2.map ww)),(4,i6 v3),(9,.msl (4,0) 3 0 a0.length false),(10,i6 ((a0.length:Nat):Int)),(11,i6 v3),(17,.bool ((a0.getD (0+v3.toNat) default).f_pending))]) (L:=[((0,0),.one [.msl (4,0) 3 0 a0.length false,.msl (5,0) 9 0 a1.length false]),((3,0),.tok),((4,0),.rows 3 (a0.map z8)),((5,0),.rows 9 (a1.map z6))]) (n:=6) ?_ ?_
  ·exact y7 (M:=[((3,0),(5,0)),((4,0),(3,0)),((5,0),(4,0))]) rfl (AI (Vw.osl _ _ _ _ rfl) (AI (VS rfl) (AI (p1 rfl (by first|rfl|omega|(simp;done)|(simp at *;omega)) rfl) (S2 rfl rfl (AI (VS rfl) TT))))) (AI (AI rfl (p4 (AI (p1 rfl (by first|rfl|omega|(simp;done)|(simp at *;omega)) rfl) (AI (p1 rfl (by first|rfl|omega|(simp;done)|(simp at *;omega)) rfl) TT)))) (AI (AI rfl BVw.tok) (AI (AI rfl (p2 z8 (fun _=>rfl) _ a0)) (AI (AI rfl (p2 z6 (fun _=>rfl) _ a1)) TT))))
  refine y4 (v:=(a0.getD (0+v3.toNat) default).f_pending) rfl TT (fun h14=>?_) (fun h14=>?_)
  ·have h:=zd h14 h
   refine J1 ?_
   obtain⟨h15,h⟩:=zj h
   refine EX ((v2++([v3]:List Int)).map ww) (AI (Ux ww v2 ([v3]:List Int)) (AI h15 ?_))
   refine p0 ?_ (z4a h)
   exact y7 (M:=[((3,0),(4,0)),((4,0),(5,0)),((5,0),(6,0))]) rfl (AI (Vw.osl _ _ _ _ rfl) (AI (p1 rfl (by first|rfl|omega|(simp;done)|(simp at *;omega)) rfl) (S2 rfl rfl TT))) (AI (AI rfl (p4 (AI (p1 rfl (by first|rfl|omega|(simp;done)|(simp at *;omega)) rfl) (AI (p1 rfl (by first|rfl|omega|(simp;done)|(simp at *;omega)) rfl) TT)))) (AI (AI rfl (p2 z8 (fun _=>rfl) _ a0)) (AI (AI rfl (p2 z6 (fun _=>rfl) _ a1)) (AI (AI rfl BVw.tok) TT))))
  ·have h:=zk h14 h
   refine x6 ?_
   refine p0 ?_ (z4a h)
   exact y7 (M:=[((3,0),(4,0)),((4,0),(5,0)),((5,0),(3,0))]) rfl (AI (Vw.osl _ _ _ _ rfl) (AI (p1 rfl (by first|rfl|omega|(simp;done)|(simp at *;omega)) rfl) (S2 rfl rfl TT))) (AI (AI rfl (p4 (AI (p1 rfl (by first|rfl|omega|(simp;done)|(simp at *;omega)) rfl) (AI (p1 rfl (by first|rfl|omega|(simp;done)|(simp at *;omega)) rfl) TT)))) (AI (AI rfl (p2 z8 (fun _=>rfl) _ a0)) (AI (AI rfl (p2 z6 (fun _=>rfl) _ a1)) (AI (AI rfl BVw.tok) TT))))
 ·have h:=zk h11 h
  refine Xh ?_
  obtain⟨o,hq,rfl⟩:=p3.1 h
  replace h:=hq;clear hq
  refine AI nofun ?_
  refine p0 ?_ (zce h)
  exact y7 (M:=[((3,0),(5,0)),((4,0),(3,0)),((5,0),(4,0))]) rfl (AI (Vw.osl _ _ _ _ rfl) TT) (AI (AI rfl (p4 (AI (p1 rfl (by first|rfl|omega|(simp;done)|(simp at *;omega)) rfl) (AI (p1 rfl (by first|rfl|omega|(simp;done)|(simp at *;omega)) rfl) TT)))) (AI (AI rfl BVw.tok) (AI (AI rfl (p2 z8 (fun _=>rfl) _ a0)) (AI (AI rfl (p2 z6 (fun _=>rfl) _ a1)) TT))))
theorem zek{a0:List G_job}{a1:List GM}{v2:List Int}{v3:Int}{m:Option Nat}{o:(List Int)}(h:wg m a0 a1 v2 v3=some o) :
 LWp Tryd.prog Yz 3 (.loop z7u) (x4 0 (Yk Tryd.prog Yz 3 z1r (z82 a0 a1 o))) [(3,.osl (5,0) 1 (v2.map ww)),(9,.msl (3,0) 3 0 a0.length false),(10,i6 ((a0.length:Nat):Int)),(11,i6 v3)] [((0,0),.one [.msl (3,0) 3 0 a0.length false,.msl (4,0) 9 0 a1.length false]),((3,0),.rows 3 (a0.map z8)),((4,0),.rows 9 (a1.map z6)),((5,0),.tok)] 6:=
 wy (m:=m) (s:=((v2,v3):((List Int)×Int))) (r:=o) (fun(s:((List Int)×Int))=>x5 m a0 a1 s.1 s.2) (Ws a0 a1) (Vz a0 a1) (Uq a0 a1) (fun s o h=>z98 h) h
def wa(m:Option Nat)(a0:List G_job)(a1:List GM):Option (List Int):=
 wg m a0 a1 [] 0
theorem zei{a0:List G_job}{a1:List GM}{m:Option Nat}{o:(List Int)}(h:wa m a0 a1=some o):LWp Tryd.prog Yz 3 zfn (z82 a0 a1 o) (zu 0 [.ptr (0,0) 0 0]) [((0,0),.one [.msl (0,1) 3 0 a0.length false,.msl (0,2) 9 0 a1.length false]),((0,1),.rows 3 (a0.map z8)),((0,2),.rows 9 (a1.map z6))] 3:=by
 unfold wa at h
 refine SR ?_
 refine SR ?_
 refine wn ?_
 refine SR ?_
 refine p0 (e:=[(3,.val (.slice none 0 0)),(9,.msl (3,0) 3 0 a0.length false),(10,i6 ((a0.length:Nat):Int)),(11,i6 0)]) (L:=[((0,0),.one [.msl (3,0) 3 0 a0.length false,.msl (4,0) 9 0 a1.length false]),((3,0),.rows 3 (a0.map z8)),((4,0),.rows 9 (a1.map z6))]) (n:=5) ?_ ?_
 ·exact y7 (M:=[((3,0),(0,1)),((4,0),(0,2))]) rfl (AI (VS rfl) (AI (p1 rfl (by first|rfl|omega|(simp;done)|(simp at *;omega)) rfl) (S2 rfl rfl TT))) (AI (AI rfl (p4 (AI (p1 rfl (by first|rfl|omega|(simp;done)|(simp at *;omega)) rfl) (AI (p1 rfl (by first|rfl|omega|(simp;done)|(simp at *;omega)) rfl) TT)))) (AI (AI rfl (p2 z8 (fun _=>rfl) _ a0)) (AI (AI rfl (p2 z6 (fun _=>rfl) _ a1)) TT)))
 refine xk ?_
 refine p0 ?_ (zek h)
 exact y7 (M:=[((3,0),(3,0)),((4,0),(4,0))]) rfl (AI (Vw.nilO _ _ (by decide)) (AI (p1 rfl (by first|rfl|omega|(simp;done)|(simp at *;omega)) rfl) (S2 rfl rfl TT))) (AI (AI rfl (p4 (AI (p1 rfl (by first|rfl|omega|(simp;done)|(simp at *;omega)) rfl) (AI (p1 rfl (by first|rfl|omega|(simp;done)|(simp at *;omega)) rfl) TT)))) (AI (AI rfl (p2 z8 (fun _=>rfl) _ a0)) (AI (AI rfl (p2 z6 (fun _=>rfl) _ a1)) (AI (AI rfl (AI (by decide) (by decide))) TT))))
theorem zht{a0:List G_job}{a1:List GM}{m:Option Nat}{o:(List Int)}(h:wa m a0 a1=some o):ACalls Tryd.prog 15 [.ptr (0,0) 0 0] [((0,0),.one [.msl (0,1) 3 0 a0.length false,.msl (0,2) 9 0 a1.length false]),((0,1),.rows 3 (a0.map z8)),((0,2),.rows 9 (a1.map z6))] 3 (u0 5 (.isl 1 (o.map ww) false) [((0,0),.one [.msl (3,0) 3 0 a0.length false,.msl (4,0) 9 0 a1.length false]),((3,0),.rows 3 (a0.map z8)),((4,0),.rows 9 (a1.map z6))]):=Z0 (L:=zmu) zpg zqh (NB rfl) (zei h)
def zg4:LCode:=(.seq (.region [Qo 4 (.alloc [(i6 0),(i6 0)])])
 (.seq (.block 0
  (.seq (.region [Qm 6 0,
   Qm 7 1,
   Qo 8 (.call 35 [(.t 6),(.t 7)]),
   Qo 9 (.bin .geq (.t 8) (.c (i6 0))),
   Qm 5 9])
  (.cond (.t 5)
   (.seq (.region [Qm 10 0,
    Qm 11 1,
    Qo 12 (.call 36 [(.t 10),(.t 11),(.c (i6 6)),(.c (.str [100,117,112,108,105,99,97,116,101,32,114,101,113,117,101,115,116]))]),
    ⟨none,.store 2 (.t 4) (.t 12),none⟩])
   .ret)
   (.seq (.region [Qm 14 0,
    Qc 15 15 14,
    Qo 16 (.len false (.t 15)),
    Qo 17 (.bin .geq (.t 16) (.c (i6 40))),
    Qm 13 17])
   (.cond (.t 13)
    (.seq (.region [Qm 18 0,
     Qm 19 1,
     Qo 20 (.call 36 [(.t 18),(.t 19),(.c (i6 2)),(.c (.str [116,111,111,32,109,97,110,121,32,114,101,113,117,101,115,116,115]))]),
     ⟨none,.store 2 (.t 4) (.t 20),none⟩])
    .ret)
    .skip)))))
 (.seq (.region [Qm 21 0,
  Qm 22 0,
  Qo 23 (.nilck (.t 22)),
  Qf 24 0 23,
  Ql 25 1 24,
  Qm 26 1,
  Qo 27 (.build [(i6 0),(.bool false),(.bool false)] [(0,1,(.t 26)),(1,1,(.c (.bool true)))]),
  Qo 28 (.mkSl true 3 [(i6 0),(.bool false),(.bool false)] 1 [(0,(.t 27))]),
  Qo 29 (.app false 3 16 (.t 25) (.t 28)),
  Qo 30 (.nilck (.t 21)),
  Qf 31 0 30,
  ⟨none,.store 1 (.t 31) (.t 29),none⟩])
 (.seq (.region [Qm 32 0,
  Qo 33 (.nilck (.t 32)),
  Qf 34 0 33,
  Ql 35 1 34,
  Qo 36 (.len false (.t 35)),
  Qo 37 (.bin .sub (.t 36) (.c (i6 1))),
  Qo 38 (.build [(i6 0),(i6 0)] [(0,1,(.c (i6 1))),(1,1,(.t 37))]),
  ⟨none,.store 2 (.t 4) (.t 38),none⟩])
 .ret))))
def zbs:Lay:=⟨39,[29],false⟩
def zb8:List LRes:=[.cell 4 true 2]
def zql:LFn:=⟨2,zbs,zg4,zb8⟩
theorem zm5:wm Tryd.prog [29] 20=some zql:=by kernel_rfl
theorem zm8:Zc Tryd.prog 20:=⟨_,Tryd.func20,rfl,rfl⟩
def xx(m:Option Nat)(a0:Int)(a1:List G_job)(a2:List GM):Option (G_QAction×(List G_job)×(List GM)):=
 (we m a0 a1 a2).bind fun v1=>
 if(decide (v1≥0))=true then
  (wr m a0 6 ([100,117,112,108,105,99,97,116,101,32,114,101,113,117,101,115,116]:List UInt8) a1 a2).bind fun v2=>
  some ((G_QAction.mk v2.1.f_Do v2.1.f_Job),a1,v2.2)
 else
  (wa m a1 a2).bind fun v3=>
  if(decide (((v3.map ww).length:Int)≥40))=true then
   (wr m a0 2 ([116,111,111,32,109,97,110,121,32,114,101,113,117,101,115,116,115]:List UInt8) a1 a2).bind fun v4=>
   some ((G_QAction.mk v4.1.f_Do v4.1.f_Job),a1,v4.2)
  else
   if((a1++([(G_job.mk a0 true false)]:List G_job)).map z8).length*16≤140737488355328 then
   some ((G_QAction.mk 1 (W (((((a1++([(G_job.mk a0 true false)]:List G_job)).map z8).length:Nat):Int)-1))),(a1++([(G_job.mk a0 true false)]:List G_job)),a2)
   else none
def zz1(a0:Int)(a1:List G_job)(a2:List GM)(o:G_QAction×(List G_job)×(List GM)):Exit→Env→AHeap→Nat→Prop:=Y2 zb8 (Zz 3 5 (.agg [i6 o.1.f_Do,i6 o.1.f_Job]) [((0,0),.one [.msl (3,0) 3 0 o.2.1.length false,.msl (4,0) 9 0 o.2.2.length false]),((3,0),.rows 3 (o.2.1.map z8)),((4,0),.rows 9 (o.2.2.map z6))])
set_option maxHeartbeats 4000000 in
theorem zew{a0:Int}{a1:List G_job}{a2:List GM}{m:Option Nat}{o:G_QAction×(List G_job)×(List GM)}(h:xx m a0 a1 a2=some o):LWp Tryd.prog zbs 3 zg4 (zz1 a0 a1 a2 o) (zu 0 [.ptr (0,0) 0 0,i6 a0]) [((0,0),.one [.msl (0,1) 3 0 a1.length false,.msl (0,2) 9 0 a2.length false]),((0,1),.rows 3 (a1.map z8)),((0,2),.rows 9 (a2.map z6))] 3:=by
 unfold xx at h
 refine SR ?_
 refine wn ?_
 refine xk ?_
 refine SR ?_
 obtain⟨v1,h1,h⟩:=bind_some h
 refine Z2 (k:=3) (m:=2) (L':=[((0,0),.one [.msl (4,0) 3 0 a1.length false,.msl (5,0) 9 0 a2.length false]),((4,0),.rows 3 (a1.map z8)),((5,0),.rows 9 (a2.map z6))]) (rest:=[((3,0),.one [i6 0,i6 0])]) (R':=i6 v1) [((0,0),(0,0)),((0,1),(0,1)),((0,2),(0,2))] (zg9 h1) rfl rfl rfl (SP rfl (AI (VS rfl) TT)) (AI (h0I (0,0) rfl rfl (p4 (AI (p1 rfl (by first|rfl|omega|(simp;done)|(simp at *;omega)) rfl) (AI (p1 rfl (by first|rfl|omega|(simp;done)|(simp at *;omega)) rfl) TT)))) (AI (h0I (0,1) rfl rfl (p2 z8 (fun _=>rfl) _ a1)) (AI (h0I (0,2) rfl rfl (p2 z6 (fun _=>rfl) _ a2)) TT))) (xl _ rfl) (AI rfl (AI rfl (AI rfl (AI (yf z8 (fun _=>rfl) _ _) (AI rfl (AI (yf z6 (fun _=>rfl) _ _) TT)))))) rfl ?_
 refine y4 (v:=(decide (v1≥0))) rfl TT (fun h2=>?_) (fun h2=>?_)
 ·have h:=zd h2 h
  refine SR ?_
  obtain⟨v2,h3,h⟩:=bind_some h
  refine Z2 (k:=3) (m:=2) (L':=[((0,0),.one [.msl (7,0) 3 0 a1.length false,.msl (8,0) 9 0 v2.2.length false]),((7,0),.rows 3 (a1.map z8)),((8,0),.rows 9 (v2.2.map z6))]) (rest:=[((3,0),.one [i6 0,i6 0])]) (R':=.agg [i6 v2.1.f_Do,i6 v2.1.f_Job]) [((0,0),(0,0)),((0,1),(4,0)),((0,2),(5,0))] (zhg h3) rfl rfl rfl (SP rfl (S2 rfl rfl (AI (VS rfl) TT))) (AI (h0I (0,0) rfl rfl (p4 (AI (p1 rfl (by first|rfl|omega|(simp;done)|(simp at *;omega)) rfl) (AI (p1 rfl (by first|rfl|omega|(simp;done)|(simp at *;omega)) rfl) TT)))) (AI (h0I (4,0) rfl rfl (p2 z8 (fun _=>rfl) _ a1)) (AI (h0I (5,0) rfl rfl (p2 z6 (fun _=>rfl) _ a2)) TT))) (xl _ rfl) (AI rfl (AI rfl (AI rfl (AI (yf z8 (fun _=>rfl) _ _) (AI rfl (AI (yf z6 (fun _=>rfl) _ _) TT)))))) rfl ?_
  refine p0 (e:=[(4,.ptr (3,0) 0 0)]) (L:=[((0,0),.one [.msl (4,0) 3 0 a1.length false,.msl (5,0) 9 0 v2.2.length false]),((3,0),.one [i6 v2.1.f_Do,i6 v2.1.f_Job]),((4,0),.rows 3 (a1.map z8)),((5,0),.rows 9 (v2.2.map z6))]) (n:=6) ?_ ?_
  ·exact y7 (M:=[((3,0),(3,0)),((4,0),(7,0)),((5,0),(8,0))]) rfl (SP rfl TT) (AI (AI rfl (p4 (AI (p1 rfl (by first|rfl|omega|(simp;done)|(simp at *;omega)) rfl) (AI (p1 rfl (by first|rfl|omega|(simp;done)|(simp at *;omega)) rfl) TT)))) (AI (AI rfl (OL rfl)) (AI (AI rfl (p2 z8 (fun _=>rfl) _ a1)) (AI (AI rfl (p2 z6 (fun _=>rfl) _ v2.2)) TT))))
  refine wl ?_
  cases h
  exact AI (AI TT (AI rfl (NB rfl))) (Yl (n':=6) [((3,0),(4,0)),((4,0),(5,0))] [] rfl rfl (VS rfl) (AI (AI rfl (p4 (AI (p1 rfl (by first|rfl|omega|(simp;done)|(simp at *;omega)) rfl) (AI (p1 rfl (by first|rfl|omega|(simp;done)|(simp at *;omega)) rfl) TT)))) (AI (AI rfl (p2 z8 (fun _=>rfl) _ a1)) (AI (AI rfl (p2 z6 (fun _=>rfl) _ v2.2)) TT))))
 ·have h:=zk h2 h
  refine SR ?_
  obtain⟨v3,h4,h⟩:=bind_some h
  refine Z2 (k:=3) (m:=2) (L':=[((0,0),.one [.msl (7,0) 3 0 a1.length false,.msl (8,0) 9 0 a2.length false]),((7,0),.rows 3 (a1.map z8)),((8,0),.rows 9 (a2.map z6))]) (rest:=[((3,0),.one [i6 0,i6 0])]) (R':=.isl 1 (v3.map ww) false) [((0,0),(0,0)),((0,1),(4,0)),((0,2),(5,0))] (zht h4) rfl rfl rfl (SP rfl TT) (AI (h0I (0,0) rfl rfl (p4 (AI (p1 rfl (by first|rfl|omega|(simp;done)|(simp at *;omega)) rfl) (AI (p1 rfl (by first|rfl|omega|(simp;done)|(simp at *;omega)) rfl) TT)))) (AI (h0I (4,0) rfl rfl (p2 z8 (fun _=>rfl) _ a1)) (AI (h0I (5,0) rfl rfl (p2 z6 (fun _=>rfl) _ a2)) TT))) (xl _ rfl) (AI rfl (AI rfl (AI rfl (AI (yf z8 (fun _=>rfl) _ _) (AI rfl (AI (yf z6 (fun _=>rfl) _ _) TT)))))) rfl ?_
  refine p0 (e:=[(0,.ptr (0,0) 0 0),(1,i6 a0),(4,.ptr (3,0) 0 0),(13,.bool (decide (((v3.map ww).length:Int)≥40)))]) (L:=[((0,0),.one [.msl (4,0) 3 0 a1.length false,.msl (5,0) 9 0 a2.length false]),((3,0),.one [i6 0,i6 0]),((4,0),.rows 3 (a1.map z8)),((5,0),.rows 9 (a2.map z6))]) (n:=6) ?_ ?_
  ·exact y7 (M:=[((3,0),(3,0)),((4,0),(7,0)),((5,0),(8,0))]) rfl (SP rfl (AI (VS rfl) (SP rfl (AI (VS rfl) TT)))) (AI (AI rfl (p4 (AI (p1 rfl (by first|rfl|omega|(simp;done)|(simp at *;omega)) rfl) (AI (p1 rfl (by first|rfl|omega|(simp;done)|(simp at *;omega)) rfl) TT)))) (AI (AI rfl (OL rfl)) (AI (AI rfl (p2 z8 (fun _=>rfl) _ a1)) (AI (AI rfl (p2 z6 (fun _=>rfl) _ a2)) TT))))
  refine y4 (v:=(decide (((v3.map ww).length:Int)≥40))) rfl TT (fun h5=>?_) (fun h5=>?_)
  ·have h:=zd h5 h
   refine SR ?_
   obtain⟨v4,h6,h⟩:=bind_some h
   refine Z2 (k:=3) (m:=2) (L':=[((0,0),.one [.msl (6,0) 3 0 a1.length false,.msl (7,0) 9 0 v4.2.length false]),((6,0),.rows 3 (a1.map z8)),((7,0),.rows 9 (v4.2.map z6))]) (rest:=[((3,0),.one [i6 0,i6 0])]) (R':=.agg [i6 v4.1.f_Do,i6 v4.1.f_Job]) [((0,0),(0,0)),((0,1),(4,0)),((0,2),(5,0))] (zhg h6) rfl rfl rfl (SP rfl (S2 rfl rfl (AI (VS rfl) TT))) (AI (h0I (0,0) rfl rfl (p4 (AI (p1 rfl (by first|rfl|omega|(simp;done)|(simp at *;omega)) rfl) (AI (p1 rfl (by first|rfl|omega|(simp;done)|(simp at *;omega)) rfl) TT)))) (AI (h0I (4,0) rfl rfl (p2 z8 (fun _=>rfl) _ a1)) (AI (h0I (5,0) rfl rfl (p2 z6 (fun _=>rfl) _ a2)) TT))) (xl _ rfl) (AI rfl (AI rfl (AI rfl (AI (yf z8 (fun _=>rfl) _ _) (AI rfl (AI (yf z6 (fun _=>rfl) _ _) TT)))))) rfl ?_
   refine wl ?_
   cases h
   exact AI (AI TT (AI rfl (NB rfl))) (Yl (n':=9) [((3,0),(6,0)),((4,0),(7,0))] [] rfl rfl (VS rfl) (AI (AI rfl (p4 (AI (p1 rfl (by first|rfl|omega|(simp;done)|(simp at *;omega)) rfl) (AI (p1 rfl (by first|rfl|omega|(simp;done)|(simp at *;omega)) rfl) TT)))) (AI (AI rfl (p2 z8 (fun _=>rfl) _ a1)) (AI (AI rfl (p2 z6 (fun _=>rfl) _ v4.2)) TT))))
  ·have h:=zk h5 h
   refine x6 ?_
   refine SR ?_
   obtain⟨h7,h⟩:=zj h
   refine AI (fun h=>Bool.noConfusion h) (AI (y0c z8 (by first|rfl|omega|(simp;done)|(simp at *;omega))) (EX ((a1++([(G_job.mk a0 true false)]:List G_job)).map z8) (AI (y20 z8 a1 ([(G_job.mk a0 true false)]:List G_job) (by first|rfl|omega|(simp;done)|(simp at *;omega))) (AI h7 ?_))))
   refine p0 (e:=[(0,.ptr (0,0) 0 0),(4,.ptr (3,0) 0 0)]) (L:=[((0,0),.one [.msl (4,0) 3 0 (((a1++([(G_job.mk a0 true false)]:List G_job)).map z8).length) false,.msl (5,0) 9 0 a2.length false]),((3,0),.one [i6 0,i6 0]),((4,0),.rows 3 ((a1++([(G_job.mk a0 true false)]:List G_job)).map z8)),((5,0),.rows 9 (a2.map z6))]) (n:=6) ?_ ?_
   ·exact y7 (M:=[((3,0),(3,0)),((4,0),(6,0)),((5,0),(5,0))]) rfl (SP rfl (SP rfl TT)) (AI (AI rfl (p4 (AI (p1 rfl (by first|rfl|omega|(simp;done)|(simp at *;omega)) rfl) (AI (p1 rfl (by first|rfl|omega|(simp;done)|(simp at *;omega)) rfl) TT)))) (AI (AI rfl (OL rfl)) (AI (AI rfl (p2 z8 (fun _=>rfl) _ (a1++([(G_job.mk a0 true false)]:List G_job)))) (AI (AI rfl (p2 z6 (fun _=>rfl) _ a2)) TT))))
   refine SR ?_
   refine p0 (e:=[(4,.ptr (3,0) 0 0)]) (L:=[((0,0),.one [.msl (4,0) 3 0 (((a1++([(G_job.mk a0 true false)]:List G_job)).map z8).length) false,.msl (5,0) 9 0 a2.length false]),((3,0),.one [i6 1,i6 (W (((((a1++([(G_job.mk a0 true false)]:List G_job)).map z8).length:Nat):Int)-1))]),((4,0),.rows 3 ((a1++([(G_job.mk a0 true false)]:List G_job)).map z8)),((5,0),.rows 9 (a2.map z6))]) (n:=6) ?_ ?_
   ·exact y7 (M:=[((3,0),(3,0)),((4,0),(4,0)),((5,0),(5,0))]) rfl (SP rfl TT) (AI (AI rfl (p4 (AI (p1 rfl (by first|rfl|omega|(simp;done)|(simp at *;omega)) rfl) (AI (p1 rfl (by first|rfl|omega|(simp;done)|(simp at *;omega)) rfl) TT)))) (AI (AI rfl (OL rfl)) (AI (AI rfl (p2 z8 (fun _=>rfl) _ (a1++([(G_job.mk a0 true false)]:List G_job)))) (AI (AI rfl (p2 z6 (fun _=>rfl) _ a2)) TT))))
   refine wl ?_
   cases h
   exact AI (AI TT (AI rfl (NB rfl))) (Yl (n':=6) [((3,0),(4,0)),((4,0),(5,0))] [] rfl rfl (VS rfl) (AI (AI rfl (p4 (AI (p1 rfl (by first|rfl|omega|(simp;done)|(simp at *;omega)) rfl) (AI (p1 rfl (by first|rfl|omega|(simp;done)|(simp at *;omega)) rfl) TT)))) (AI (AI rfl (p2 z8 (fun _=>rfl) _ (a1++([(G_job.mk a0 true false)]:List G_job)))) (AI (AI rfl (p2 z6 (fun _=>rfl) _ a2)) TT))))
theorem zwa{a0:Int}{a1:List G_job}{a2:List GM}{m:Option Nat}{o:G_QAction×(List G_job)×(List GM)}(h:xx m a0 a1 a2=some o):ACalls Tryd.prog 20 [.ptr (0,0) 0 0,i6 a0] [((0,0),.one [.msl (0,1) 3 0 a1.length false,.msl (0,2) 9 0 a2.length false]),((0,1),.rows 3 (a1.map z8)),((0,2),.rows 9 (a2.map z6))] 3 (u0 5 (.agg [i6 o.1.f_Do,i6 o.1.f_Job]) [((0,0),.one [.msl (3,0) 3 0 o.2.1.length false,.msl (4,0) 9 0 o.2.2.length false]),((3,0),.rows 3 (o.2.1.map z8)),((4,0),.rows 9 (o.2.2.map z6))]):=Z0 (L:=zql) zm5 zm8 (NB rfl) (zew h)
def zfh:LCode:=(.seq (.region [Qo 4 (.alloc [(i6 0),(i6 0)])])
 (.seq (.region [Qm 6 0,
  Qm 7 1,
  Qo 8 (.call 35 [(.t 6),(.t 7)]),
  Qm 5 8])
 (.seq (.seq (.region [Qm 9 5,
  Qo 10 (.bin .lss (.t 9) (.c (i6 0))),
  Qm 11 10,
  Qn 12 0 (11,false),
  Qg 13 (.nilck (.t 12)) (11,false),
  Qe 14 0 13 (11,false),
  Qk 15 1 14 (11,false),
  Qn 16 5 (11,false),
  Qg 17 (.iaddr 3 (.t 15) (.t 16)) (11,false),
  Qe 18 2 17 (11,false),
  Qk 19 1 18 (11,false),
  Qo 20 (.pick (.t 11) (.c (.bool true)) (.t 19))])
 (.cond (.t 20)
  (.seq (.region [Qo 21 (.build [(i6 0),(i6 0)] []),
   ⟨none,.store 2 (.t 4) (.t 21),none⟩])
  .ret)
  .skip))
 (.seq (.region [Qm 22 0,
  Qo 23 (.nilck (.t 22)),
  Qf 24 0 23,
  Ql 25 1 24,
  Qm 26 5,
  Qo 27 (.iaddr 3 (.t 25) (.t 26)),
  Qf 28 2 27,
  ⟨none,.store 1 (.t 28) (.c (.bool true)),none⟩])
 (.seq (.region [Qm 29 5,
  Qo 30 (.build [(i6 0),(i6 0)] [(0,1,(.c (i6 2))),(1,1,(.t 29))]),
  ⟨none,.store 2 (.t 4) (.t 30),none⟩])
 .ret)))))
def z8m:Lay:=⟨31,[],false⟩
def zax:List LRes:=[.cell 4 true 2]
def zrt:LFn:=⟨2,z8m,zfh,zax⟩
theorem zre:wm Tryd.prog [] 21=some zrt:=by kernel_rfl
theorem zrr:Zc Tryd.prog 21:=⟨_,Tryd.func21,rfl,rfl⟩
def jb(m:Option Nat)(a0:Int)(a1:List G_job)(a2:List GM):Option (G_QAction×(List G_job)):=
 (we m a0 a1 a2).bind fun v1=>
 if(((decide (v1<0))==false)=true→(0:Int)≤v1∧v1<((a1.length:Nat):Int)) then
 if(((decide (v1<0))==false)=true→(0+v1.toNat)<a1.length) then
 if((decide (v1<0)) || (a1.getD (0+v1.toNat) default).f_canceled)=true then
  some ((G_QAction.mk 0 0),a1)
 else
  if(0:Int)≤v1∧v1<((a1.length:Nat):Int) then
  if(0+v1.toNat)<a1.length then
  some ((G_QAction.mk 2 v1),(a1.set (0+v1.toNat) (G_job.mk ((a1.getD (0+v1.toNat) default).f_id) ((a1.getD (0+v1.toNat) default).f_pending) true)))
  else none
  else none
 else none
 else none
def zz2(a0:Int)(a1:List G_job)(a2:List GM)(o:G_QAction×(List G_job)):Exit→Env→AHeap→Nat→Prop:=Y2 zax (Zz 3 5 (.agg [i6 o.1.f_Do,i6 o.1.f_Job]) [((0,0),.one [.msl (3,0) 3 0 o.2.length false,.msl (4,0) 9 0 a2.length false]),((3,0),.rows 3 (o.2.map z8)),((4,0),.rows 9 (a2.map z6))])
theorem zch{a0:Int}{a1:List G_job}{a2:List GM}{m:Option Nat}{o:G_QAction×(List G_job)}(h:jb m a0 a1 a2=some o):LWp Tryd.prog z8m 3 zfh (zz2 a0 a1 a2 o) (zu 0 [.ptr (0,0) 0 0,i6 a0]) [((0,0),.one [.msl (0,1) 3 0 a1.length false,.msl (0,2) 9 0 a2.length false]),((0,1),.rows 3 (a1.map z8)),((0,2),.rows 9 (a2.map z6))] 3:=by
 unfold jb at h
 refine SR ?_
 refine SR ?_
 obtain⟨v1,h1,h⟩:=bind_some h
 refine Z2 (k:=3) (m:=2) (L':=[((0,0),.one [.msl (4,0) 3 0 a1.length false,.msl (5,0) 9 0 a2.length false]),((4,0),.rows 3 (a1.map z8)),((5,0),.rows 9 (a2.map z6))]) (rest:=[((3,0),.one [i6 0,i6 0])]) (R':=i6 v1) [((0,0),(0,0)),((0,1),(0,1)),((0,2),(0,2))] (zg9 h1) rfl rfl rfl (SP rfl (AI (VS rfl) TT)) (AI (h0I (0,0) rfl rfl (p4 (AI (p1 rfl (by first|rfl|omega|(simp;done)|(simp at *;omega)) rfl) (AI (p1 rfl (by first|rfl|omega|(simp;done)|(simp at *;omega)) rfl) TT)))) (AI (h0I (0,1) rfl rfl (p2 z8 (fun _=>rfl) _ a1)) (AI (h0I (0,2) rfl rfl (p2 z6 (fun _=>rfl) _ a2)) TT))) (xl _ rfl) (AI rfl (AI rfl (AI rfl (AI (yf z8 (fun _=>rfl) _ _) (AI rfl (AI (yf z6 (fun _=>rfl) _ _) TT)))))) rfl ?_
 refine wn ?_
 refine SR ?_
 refine HP ?_
 refine HP ?_
 refine HP ?_
 obtain⟨h2,h⟩:=zj h
 refine AI (fun hp=>(AI (AI hp hp) (h2 hp))) ?_
 refine HP ?_
 obtain⟨h3,h⟩:=zj h
 refine EX (z8 (a1.getD (0+v1.toNat) default)) (AI (fun hp=>AI (jx z8 _ _ (h3 hp)) (AI hp (AI (Yc z8 (h3 hp)) (NB rfl)))) ?_)
 refine AI (fun hc=>(bqf hc)) ?_
 refine p0 (e:=[(0,.ptr (0,0) 0 0),(4,.ptr (3,0) 0 0),(5,i6 v1),(20,.bool ((decide (v1<0)) || (a1.getD (0+v1.toNat) default).f_canceled))]) (L:=[((0,0),.one [.msl (4,0) 3 0 a1.length false,.msl (5,0) 9 0 a2.length false]),((3,0),.one [i6 0,i6 0]),((4,0),.rows 3 (a1.map z8)),((5,0),.rows 9 (a2.map z6))]) (n:=6) ?_ ?_
 ·exact y7 (M:=[((3,0),(3,0)),((4,0),(4,0)),((5,0),(5,0))]) rfl (SP rfl (SP rfl (S2 rfl rfl TT))) (AI (AI rfl (p4 (AI (p1 rfl (by first|rfl|omega|(simp;done)|(simp at *;omega)) rfl) (AI (p1 rfl (by first|rfl|omega|(simp;done)|(simp at *;omega)) rfl) TT)))) (AI (AI rfl (OL rfl)) (AI (AI rfl (p2 z8 (fun _=>rfl) _ a1)) (AI (AI rfl (p2 z6 (fun _=>rfl) _ a2)) TT))))
 refine y4 (v:=((decide (v1<0)) || (a1.getD (0+v1.toNat) default).f_canceled)) rfl TT (fun h4=>?_) (fun h4=>?_)
 ·have h:=zd h4 h
  refine SR ?_
  refine wl ?_
  cases h
  exact AI (AI TT (AI rfl (NB rfl))) (Yl (n':=6) [((3,0),(4,0)),((4,0),(5,0))] [] rfl rfl (VS rfl) (AI (AI rfl (p4 (AI (p1 rfl (by first|rfl|omega|(simp;done)|(simp at *;omega)) rfl) (AI (p1 rfl (by first|rfl|omega|(simp;done)|(simp at *;omega)) rfl) TT)))) (AI (AI rfl (p2 z8 (fun _=>rfl) _ a1)) (AI (AI rfl (p2 z6 (fun _=>rfl) _ a2)) TT))))
 ·have h:=zk h4 h
  refine x6 ?_
  refine SR ?_
  obtain⟨h5,h⟩:=zj h
  refine AI h5 ?_
  obtain⟨h6,h⟩:=zj h
  refine EX ((a1.set (0+v1.toNat) (G_job.mk ((a1.getD (0+v1.toNat) default).f_id) ((a1.getD (0+v1.toNat) default).f_pending) true)).map z8) (AI (z3z z8 _ _ _ _ _ h6 rfl) (AI (AI rfl (AI (Yc z8 h6) (NB rfl))) ?_))
  refine p0 (e:=[(4,.ptr (3,0) 0 0),(5,i6 v1)]) (L:=[((0,0),.one [.msl (4,0) 3 0 a1.length false,.msl (5,0) 9 0 a2.length false]),((3,0),.one [i6 0,i6 0]),((4,0),.rows 3 ((a1.set (0+v1.toNat) (G_job.mk ((a1.getD (0+v1.toNat) default).f_id) ((a1.getD (0+v1.toNat) default).f_pending) true)).map z8)),((5,0),.rows 9 (a2.map z6))]) (n:=6) ?_ ?_
  ·exact y7 (M:=[((3,0),(3,0)),((4,0),(4,0)),((5,0),(5,0))]) rfl (SP rfl (AI (VS rfl) TT)) (AI (AI rfl (p4 (AI (p1 rfl (by first|rfl|omega|(simp;done)|(simp at *;omega)) rfl) (AI (p1 rfl (by first|rfl|omega|(simp;done)|(simp at *;omega)) rfl) TT)))) (AI (AI rfl (OL rfl)) (AI (AI rfl (p2 z8 (fun _=>rfl) _ (a1.set (0+v1.toNat) (G_job.mk ((a1.getD (0+v1.toNat) default).f_id) ((a1.getD (0+v1.toNat) default).f_pending) true)))) (AI (AI rfl (p2 z6 (fun _=>rfl) _ a2)) TT))))
  refine SR ?_
  refine wl ?_
  cases h
  exact AI (AI TT (AI rfl (NB rfl))) (Yl (n':=6) [((3,0),(4,0)),((4,0),(5,0))] [] rfl rfl (VS rfl) (AI (AI rfl (p4 (AI (p1 rfl (by first|rfl|omega|(simp;done)|(simp at *;omega)) rfl) (AI (p1 rfl (by first|rfl|omega|(simp;done)|(simp at *;omega)) rfl) TT)))) (AI (AI rfl (p2 z8 (fun _=>rfl) _ (a1.set (0+v1.toNat) (G_job.mk ((a1.getD (0+v1.toNat) default).f_id) ((a1.getD (0+v1.toNat) default).f_pending) true)))) (AI (AI rfl (p2 z6 (fun _=>rfl) _ a2)) TT))))
theorem zvh{a0:Int}{a1:List G_job}{a2:List GM}{m:Option Nat}{o:G_QAction×(List G_job)}(h:jb m a0 a1 a2=some o):ACalls Tryd.prog 21 [.ptr (0,0) 0 0,i6 a0] [((0,0),.one [.msl (0,1) 3 0 a1.length false,.msl (0,2) 9 0 a2.length false]),((0,1),.rows 3 (a1.map z8)),((0,2),.rows 9 (a2.map z6))] 3 (u0 5 (.agg [i6 o.1.f_Do,i6 o.1.f_Job]) [((0,0),.one [.msl (3,0) 3 0 o.2.length false,.msl (4,0) 9 0 a2.length false]),((3,0),.rows 3 (o.2.map z8)),((4,0),.rows 9 (a2.map z6))]):=Z0 (L:=zrt) zre zrr (NB rfl) (zch h)
def zo3:LCode:=(.seq (.region [Qo 3 (.box (.t 1)),
 Qo 4 (.alloc [(i6 0),(i6 0)]),
 Qi 5 0])
 (.seq (.seq (.region [Qt 9 9 3,
  Qc 10 18 9,
  Qm 8 10,
  Qo 11 (.ext 0 (.t 8)),
  Qo 12 (.ext 1 (.t 8)),
  Qo 6 (.alloc [(i6 0),(i6 0),(.str []),(.isl 1 [] true),(.isl 5 [] true)]),
  ⟨none,.store 5 (.t 6) (.t 11),none⟩,
  Qm 7 12])
 (.seq (.region [Qm 13 7,
  Qo 14 (.bin .neq (.t 13) (.c (i6 0)))])
 (.cond (.t 14)
  (.seq (.region [Qo 15 (.build [(i6 0),(i6 0)] []),
   Qm 16 7,
   ⟨none,.store 2 (.t 4) (.t 15),none⟩,
   Qm 5 16])
  .ret)
  .skip)))
 (.seq (.seq (.region [Qf 17 0 3,
  Ql 18 1 17])
 (.block 0
  (.seq (.region [Qo 20 (.bin .eql (.t 18) (.c (i6 1))),
   Qm 19 20])
  (.cond (.t 19)
   (.seq (.region [Qm 21 0,
    Qf 22 1 3,
    Ql 23 1 22,
    Qo 24 (.call 20 [(.t 21),(.t 23)]),
    ⟨none,.store 2 (.t 4) (.t 24),none⟩,
    Qi 5 0])
   .ret)
   (.seq (.region [Qo 26 (.bin .eql (.t 18) (.c (i6 2))),
    Qm 25 26])
   (.cond (.t 25)
    (.seq (.region [Qo 27 (.build [(i6 0),(i6 0)] [(0,1,(.c (i6 3)))]),
     ⟨none,.store 2 (.t 4) (.t 27),none⟩,
     Qi 5 0])
    .ret)
    (.seq (.region [Qo 29 (.bin .eql (.t 18) (.c (i6 5))),
     Qm 28 29])
    (.cond (.t 28)
     (.seq (.region [Qm 30 0,
      Qf 31 1 3,
      Ql 32 1 31,
      Qo 33 (.call 21 [(.t 30),(.t 32)]),
      ⟨none,.store 2 (.t 4) (.t 33),none⟩,
      Qi 5 0])
     .ret)
     .skip))))))))
 (.seq (.region [Qo 34 (.build [(i6 0),(i6 0)] []),
  ⟨none,.store 2 (.t 4) (.t 34),none⟩,
  Qi 5 7])
 .ret))))
def zhh:Lay:=⟨35,[],false⟩
def zgp:List LRes:=[.cell 4 true 2,.t 5]
def zy1:LFn:=⟨2,zhh,zo3,zgp⟩
theorem zve:wm Tryd.prog [] 7=some zy1:=by kernel_rfl
theorem zuy:Zc Tryd.prog 7:=⟨_,Tryd.func7,rfl,rfl⟩
def x8(m:Option Nat)(a0:GM)(a1:List G_job)(a2:List GM):Option (G_QAction×Int×(List G_job)×(List GM)):=
 (vq m (GM.mk a0.fK a0.fI a0.fC a0.fM (GJ.mk a0.fB.fK a0.fB.fN a0.fB.fT a0.fB.fA a0.fB.fE))).bind fun v1=>
 if(v1.2 != 0)=true then
  some ((G_QAction.mk 0 0),v1.2,a1,a2)
 else
  if(a0.fK==1)=true then
   (xx m a0.fI a1 a2).bind fun v2=>
   some ((G_QAction.mk v2.1.f_Do v2.1.f_Job),0,v2.2.1,v2.2.2)
  else
   if(a0.fK==2)=true then
    some ((G_QAction.mk 3 0),0,a1,a2)
   else
    if(a0.fK==5)=true then
     (jb m a0.fI a1 a2).bind fun v3=>
     some ((G_QAction.mk v3.1.f_Do v3.1.f_Job),0,v3.2,a2)
    else
     some ((G_QAction.mk 0 0),7,a1,a2)
def y5o(a0:GM)(a1:List G_job)(a2:List GM)(o:G_QAction×Int×(List G_job)×(List GM)):Exit→Env→AHeap→Nat→Prop:=Y2 zgp (Zz 3 5 (.tup [.agg [i6 o.1.f_Do,i6 o.1.f_Job],i6 o.2.1]) [((0,0),.one [.msl (3,0) 3 0 o.2.2.1.length false,.msl (4,0) 9 0 o.2.2.2.length false]),((3,0),.rows 3 (o.2.2.1.map z8)),((4,0),.rows 9 (o.2.2.2.map z6))])
set_option maxHeartbeats 4000000 in
theorem zka{a0:GM}{a1:List G_job}{a2:List GM}{m:Option Nat}{o:G_QAction×Int×(List G_job)×(List GM)}(h:x8 m a0 a1 a2=some o):LWp Tryd.prog zhh 3 zo3 (y5o a0 a1 a2 o) (zu 0 [.ptr (0,0) 0 0,.agg [i6 a0.fK,i6 a0.fI,i6 a0.fC,.str a0.fM,i6 a0.fB.fK,i6 a0.fB.fN,.str a0.fB.fT,.isl 1 (a0.fB.fA.map za) false,.isl 5 (a0.fB.fE.map ze) false]]) [((0,0),.one [.msl (0,1) 3 0 a1.length false,.msl (0,2) 9 0 a2.length false]),((0,1),.rows 3 (a1.map z8)),((0,2),.rows 9 (a2.map z6))] 3:=by
 unfold x8 at h
 refine SR ?_
 refine wn ?_
 refine SR ?_
 obtain⟨v1,h1,h⟩:=bind_some h
 refine p5 (zxw h1) (AI (VS rfl) TT) ?_
 refine p0 (e:=[(0,.ptr (0,0) 0 0),(3,.ptr (3,0) 0 0),(4,.ptr (4,0) 0 0),(7,i6 v1.2)]) (L:=[((0,0),.one [.msl (5,0) 3 0 a1.length false,.msl (6,0) 9 0 a2.length false]),((3,0),.one [i6 a0.fK,i6 a0.fI,i6 a0.fC,.str a0.fM,i6 a0.fB.fK,i6 a0.fB.fN,.str a0.fB.fT,.isl 1 (a0.fB.fA.map za) false,.isl 5 (a0.fB.fE.map ze) false]),((4,0),.one [i6 0,i6 0]),((5,0),.rows 3 (a1.map z8)),((6,0),.rows 9 (a2.map z6))]) (n:=7) ?_ ?_
 ·exact y7 (M:=[((3,0),(3,0)),((4,0),(4,0)),((5,0),(0,1)),((6,0),(0,2))]) rfl (SP rfl (SP rfl (SP rfl (AI (VS rfl) TT)))) (AI (AI rfl (p4 (AI (p1 rfl (by first|rfl|omega|(simp;done)|(simp at *;omega)) rfl) (AI (p1 rfl (by first|rfl|omega|(simp;done)|(simp at *;omega)) rfl) TT)))) (AI (AI rfl (OL rfl)) (AI (AI rfl (OL rfl)) (AI (AI rfl (p2 z8 (fun _=>rfl) _ a1)) (AI (AI rfl (p2 z6 (fun _=>rfl) _ a2)) TT)))))
 refine SR ?_
 refine y4 (v:=(v1.2 != 0)) rfl TT (fun h2=>?_) (fun h2=>?_)
 ·have h:=zd h2 h
  refine SR ?_
  refine wl ?_
  cases h
  exact AI (AI TT (AI rfl (NB rfl))) (AI TT (Yl (n':=7) [((3,0),(5,0)),((4,0),(6,0))] [] rfl rfl (VS rfl) (AI (AI rfl (p4 (AI (p1 rfl (by first|rfl|omega|(simp;done)|(simp at *;omega)) rfl) (AI (p1 rfl (by first|rfl|omega|(simp;done)|(simp at *;omega)) rfl) TT)))) (AI (AI rfl (p2 z8 (fun _=>rfl) _ a1)) (AI (AI rfl (p2 z6 (fun _=>rfl) _ a2)) TT)))))
 ·have h:=zk h2 h
  refine x6 ?_
  refine wn ?_
  refine SR ?_
  refine xk ?_
  refine SR ?_
  refine y4 (v:=(a0.fK==1)) rfl TT (fun h3=>?_) (fun h3=>?_)
  ·have h:=zd h3 h
   refine SR ?_
   obtain⟨v2,h4,h⟩:=bind_some h
   refine Z2 (k:=3) (m:=2) (L':=[((0,0),.one [.msl (7,0) 3 0 v2.2.1.length false,.msl (8,0) 9 0 v2.2.2.length false]),((7,0),.rows 3 (v2.2.1.map z8)),((8,0),.rows 9 (v2.2.2.map z6))]) (rest:=[((3,0),.one [i6 a0.fK,i6 a0.fI,i6 a0.fC,.str a0.fM,i6 a0.fB.fK,i6 a0.fB.fN,.str a0.fB.fT,.isl 1 (a0.fB.fA.map za) false,.isl 5 (a0.fB.fE.map ze) false]),((4,0),.one [i6 0,i6 0])]) (R':=.agg [i6 v2.1.f_Do,i6 v2.1.f_Job]) [((0,0),(0,0)),((0,1),(5,0)),((0,2),(6,0))] (zwa h4) rfl rfl rfl (SP rfl (AI (VS rfl) TT)) (AI (h0I (0,0) rfl rfl (p4 (AI (p1 rfl (by first|rfl|omega|(simp;done)|(simp at *;omega)) rfl) (AI (p1 rfl (by first|rfl|omega|(simp;done)|(simp at *;omega)) rfl) TT)))) (AI (h0I (5,0) rfl rfl (p2 z8 (fun _=>rfl) _ a1)) (AI (h0I (6,0) rfl rfl (p2 z6 (fun _=>rfl) _ a2)) TT))) (xl _ rfl) (AI rfl (AI rfl (AI rfl (AI (yf z8 (fun _=>rfl) _ _) (AI rfl (AI (yf z6 (fun _=>rfl) _ _) TT)))))) rfl ?_
   refine p0 (e:=[(4,.ptr (3,0) 0 0),(5,i6 0)]) (L:=[((0,0),.one [.msl (4,0) 3 0 v2.2.1.length false,.msl (5,0) 9 0 v2.2.2.length false]),((3,0),.one [i6 v2.1.f_Do,i6 v2.1.f_Job]),((4,0),.rows 3 (v2.2.1.map z8)),((5,0),.rows 9 (v2.2.2.map z6))]) (n:=6) ?_ ?_
   ·exact y7 (M:=[((3,0),(4,0)),((4,0),(7,0)),((5,0),(8,0))]) rfl (SP rfl (AI (VS rfl) TT)) (AI (AI rfl (p4 (AI (p1 rfl (by first|rfl|omega|(simp;done)|(simp at *;omega)) rfl) (AI (p1 rfl (by first|rfl|omega|(simp;done)|(simp at *;omega)) rfl) TT)))) (AI (AI rfl (OL rfl)) (AI (AI rfl (p2 z8 (fun _=>rfl) _ v2.2.1)) (AI (AI rfl (p2 z6 (fun _=>rfl) _ v2.2.2)) TT))))
   refine wl ?_
   cases h
   exact AI (AI TT (AI rfl (NB rfl))) (AI TT (Yl (n':=6) [((3,0),(4,0)),((4,0),(5,0))] [] rfl rfl (VS rfl) (AI (AI rfl (p4 (AI (p1 rfl (by first|rfl|omega|(simp;done)|(simp at *;omega)) rfl) (AI (p1 rfl (by first|rfl|omega|(simp;done)|(simp at *;omega)) rfl) TT)))) (AI (AI rfl (p2 z8 (fun _=>rfl) _ v2.2.1)) (AI (AI rfl (p2 z6 (fun _=>rfl) _ v2.2.2)) TT)))))
  ·have h:=zk h3 h
   refine SR ?_
   refine p0 (e:=[(0,.ptr (0,0) 0 0),(3,.ptr (3,0) 0 0),(4,.ptr (4,0) 0 0),(18,i6 a0.fK),(25,.bool (a0.fK==2))]) (L:=[((0,0),.one [.msl (5,0) 3 0 a1.length false,.msl (6,0) 9 0 a2.length false]),((3,0),.one [i6 a0.fK,i6 a0.fI,i6 a0.fC,.str a0.fM,i6 a0.fB.fK,i6 a0.fB.fN,.str a0.fB.fT,.isl 1 (a0.fB.fA.map za) false,.isl 5 (a0.fB.fE.map ze) false]),((4,0),.one [i6 0,i6 0]),((5,0),.rows 3 (a1.map z8)),((6,0),.rows 9 (a2.map z6))]) (n:=7) ?_ ?_
   ·exact y7 (M:=[((3,0),(3,0)),((4,0),(4,0)),((5,0),(5,0)),((6,0),(6,0))]) rfl (SP rfl (SP rfl (SP rfl (S2 rfl rfl TT)))) (AI (AI rfl (p4 (AI (p1 rfl (by first|rfl|omega|(simp;done)|(simp at *;omega)) rfl) (AI (p1 rfl (by first|rfl|omega|(simp;done)|(simp at *;omega)) rfl) TT)))) (AI (AI rfl (OL rfl)) (AI (AI rfl (OL rfl)) (AI (AI rfl (p2 z8 (fun _=>rfl) _ a1)) (AI (AI rfl (p2 z6 (fun _=>rfl) _ a2)) TT)))))
   refine y4 (v:=(a0.fK==2)) rfl TT (fun h5=>?_) (fun h5=>?_)
   ·have h:=zd h5 h
    refine SR ?_
    refine wl ?_
    cases h
    exact AI (AI TT (AI rfl (NB rfl))) (AI TT (Yl (n':=7) [((3,0),(5,0)),((4,0),(6,0))] [] rfl rfl (VS rfl) (AI (AI rfl (p4 (AI (p1 rfl (by first|rfl|omega|(simp;done)|(simp at *;omega)) rfl) (AI (p1 rfl (by first|rfl|omega|(simp;done)|(simp at *;omega)) rfl) TT)))) (AI (AI rfl (p2 z8 (fun _=>rfl) _ a1)) (AI (AI rfl (p2 z6 (fun _=>rfl) _ a2)) TT)))))
   ·have h:=zk h5 h
    refine SR ?_
    refine y4 (v:=(a0.fK==5)) rfl TT (fun h6=>?_) (fun h6=>?_)
    ·have h:=zd h6 h
     refine SR ?_
     obtain⟨v3,h7,h⟩:=bind_some h
     refine Z2 (k:=3) (m:=2) (L':=[((0,0),.one [.msl (7,0) 3 0 v3.2.length false,.msl (8,0) 9 0 a2.length false]),((7,0),.rows 3 (v3.2.map z8)),((8,0),.rows 9 (a2.map z6))]) (rest:=[((3,0),.one [i6 a0.fK,i6 a0.fI,i6 a0.fC,.str a0.fM,i6 a0.fB.fK,i6 a0.fB.fN,.str a0.fB.fT,.isl 1 (a0.fB.fA.map za) false,.isl 5 (a0.fB.fE.map ze) false]),((4,0),.one [i6 0,i6 0])]) (R':=.agg [i6 v3.1.f_Do,i6 v3.1.f_Job]) [((0,0),(0,0)),((0,1),(5,0)),((0,2),(6,0))] (zvh h7) rfl rfl rfl (SP rfl (AI (VS rfl) TT)) (AI (h0I (0,0) rfl rfl (p4 (AI (p1 rfl (by first|rfl|omega|(simp;done)|(simp at *;omega)) rfl) (AI (p1 rfl (by first|rfl|omega|(simp;done)|(simp at *;omega)) rfl) TT)))) (AI (h0I (5,0) rfl rfl (p2 z8 (fun _=>rfl) _ a1)) (AI (h0I (6,0) rfl rfl (p2 z6 (fun _=>rfl) _ a2)) TT))) (xl _ rfl) (AI rfl (AI rfl (AI rfl (AI (yf z8 (fun _=>rfl) _ _) (AI rfl (AI (yf z6 (fun _=>rfl) _ _) TT)))))) rfl ?_
     refine p0 (e:=[(4,.ptr (3,0) 0 0),(5,i6 0)]) (L:=[((0,0),.one [.msl (4,0) 3 0 v3.2.length false,.msl (5,0) 9 0 a2.length false]),((3,0),.one [i6 v3.1.f_Do,i6 v3.1.f_Job]),((4,0),.rows 3 (v3.2.map z8)),((5,0),.rows 9 (a2.map z6))]) (n:=6) ?_ ?_
     ·exact y7 (M:=[((3,0),(4,0)),((4,0),(7,0)),((5,0),(8,0))]) rfl (SP rfl (AI (VS rfl) TT)) (AI (AI rfl (p4 (AI (p1 rfl (by first|rfl|omega|(simp;done)|(simp at *;omega)) rfl) (AI (p1 rfl (by first|rfl|omega|(simp;done)|(simp at *;omega)) rfl) TT)))) (AI (AI rfl (OL rfl)) (AI (AI rfl (p2 z8 (fun _=>rfl) _ v3.2)) (AI (AI rfl (p2 z6 (fun _=>rfl) _ a2)) TT))))
     refine wl ?_
     cases h
     exact AI (AI TT (AI rfl (NB rfl))) (AI TT (Yl (n':=6) [((3,0),(4,0)),((4,0),(5,0))] [] rfl rfl (VS rfl) (AI (AI rfl (p4 (AI (p1 rfl (by first|rfl|omega|(simp;done)|(simp at *;omega)) rfl) (AI (p1 rfl (by first|rfl|omega|(simp;done)|(simp at *;omega)) rfl) TT)))) (AI (AI rfl (p2 z8 (fun _=>rfl) _ v3.2)) (AI (AI rfl (p2 z6 (fun _=>rfl) _ a2)) TT)))))
    ·have h:=zk h6 h
     refine x6 ?_
     refine SR ?_
     refine wl ?_
     cases h
     exact AI (AI TT (AI rfl (NB rfl))) (AI TT (Yl (n':=7) [((3,0),(5,0)),((4,0),(6,0))] [] rfl rfl (VS rfl) (AI (AI rfl (p4 (AI (p1 rfl (by first|rfl|omega|(simp;done)|(simp at *;omega)) rfl) (AI (p1 rfl (by first|rfl|omega|(simp;done)|(simp at *;omega)) rfl) TT)))) (AI (AI rfl (p2 z8 (fun _=>rfl) _ a1)) (AI (AI rfl (p2 z6 (fun _=>rfl) _ a2)) TT)))))
theorem zzb{a0:GM}{a1:List G_job}{a2:List GM}{m:Option Nat}{o:G_QAction×Int×(List G_job)×(List GM)}(h:x8 m a0 a1 a2=some o):ACalls Tryd.prog 7 [.ptr (0,0) 0 0,.agg [i6 a0.fK,i6 a0.fI,i6 a0.fC,.str a0.fM,i6 a0.fB.fK,i6 a0.fB.fN,.str a0.fB.fT,.isl 1 (a0.fB.fA.map za) false,.isl 5 (a0.fB.fE.map ze) false]] [((0,0),.one [.msl (0,1) 3 0 a1.length false,.msl (0,2) 9 0 a2.length false]),((0,1),.rows 3 (a1.map z8)),((0,2),.rows 9 (a2.map z6))] 3 (u0 5 (.tup [.agg [i6 o.1.f_Do,i6 o.1.f_Job],i6 o.2.1]) [((0,0),.one [.msl (3,0) 3 0 o.2.2.1.length false,.msl (4,0) 9 0 o.2.2.2.length false]),((3,0),.rows 3 (o.2.2.1.map z8)),((4,0),.rows 9 (o.2.2.2.map z6))]):=Z0 (L:=zy1) zve zuy (NB rfl) (zka h)
def zxv:LCode:=(.seq (.region [Qm 34 4,
 Qo 35 (.bin .eql (.t 34) (.c (.int .u8 237)))])
 (.cond (.t 35)
  (.region [Qo 6 (.mv (.c (.int .u8 159)))])
  .skip))
def zxk:LCode:=(.seq (.region [Qm 45 4,
 Qo 46 (.bin .eql (.t 45) (.c (.int .u8 244)))])
 (.cond (.t 46)
  (.region [Qo 6 (.mv (.c (.int .u8 143)))])
  .skip))
def zmv:LCode:=(.seq (.region [Qo 51 (.bin .lss (.t 50) (.t 49))])
 (.seq (.cond (.t 51)
  .skip
  (.exit 3))
 (.seq (.block 4
  (.seq (.seq (.region [Qm 52 3,
   Qm 53 0,
   Qo 54 (.len true (.t 53)),
   Qo 55 (.bin .geq (.t 52) (.t 54)),
   Qm 56 55,
   Qn 57 0 (56,false),
   Qn 58 3 (56,false),
   Qg 59 (.idxS (.t 57) (.t 58)) (56,false),
   Qn 60 5 (56,false),
   Qg 61 (.bin .lss (.t 59) (.t 60)) (56,false),
   Qo 62 (.pick (.t 56) (.c (.bool true)) (.t 61)),
   Qm 63 62,
   Qn 64 0 (63,false),
   Qn 65 3 (63,false),
   Qg 66 (.idxS (.t 64) (.t 65)) (63,false),
   Qn 67 6 (63,false),
   Qg 68 (.bin .gtr (.t 66) (.t 67)) (63,false),
   Qo 69 (.pick (.t 63) (.c (.bool true)) (.t 68))])
  (.cond (.t 69)
   (.seq (.region [Qb 2])
   .ret)
   .skip))
  (.seq (.region [Qo 5 (.mv (.c (.int .u8 128))),
   Qo 6 (.mv (.c (.int .u8 191)))])
  (.region [Qm 70 3,
   Qo 71 (.bin .add (.t 70) (.c (i6 1))),
   Qm 3 71]))))
 (.region [Qo 72 (.bin .add (.t 50) (.c (i6 1))),
  Qm 50 72]))))
def zg5:LCode:=(.seq (.region [Qm 47 3,
 Qo 48 (.bin .add (.t 47) (.c (i6 1))),
 Qm 3 48])
 (.seq (.region [Qm 49 7,
  Qi 50 0])
 (.block 3
  (.loop
   zmv))))
def znw:LCode:=(.seq (.seq (.region [Qm 8 3,
 Qm 9 0,
 Qo 10 (.len true (.t 9)),
 Qo 11 (.bin .lss (.t 8) (.t 10))])
 (.cond (.t 11)
  .skip
  (.exit 0)))
 (.block 1
  (.seq (.region [Qm 12 0,
   Qm 13 3,
   Qo 14 (.idxS (.t 12) (.t 13)),
   Qm 4 14])
  (.seq (.region [Qo 5 (.mv (.c (.int .u8 128))),
   Qo 6 (.mv (.c (.int .u8 191))),
   Qi 7 0])
  (.seq (.block 2
   (.seq (.region [Qm 16 4,
    Qo 17 (.bin .lss (.t 16) (.c (.int .u8 128))),
    Qm 15 17])
   (.cond (.t 15)
    .skip
    (.seq (.region [Qm 19 4,
     Qo 20 (.bin .geq (.t 19) (.c (.int .u8 194))),
     Qm 21 20,
     Qn 22 4 (21,true),
     Qg 23 (.bin .leq (.t 22) (.c (.int .u8 223))) (21,true),
     Qp 24 21 23,
     Qm 18 24])
    (.cond (.t 18)
     (.region [Qi 7 1])
     (.seq (.region [Qm 26 4,
      Qo 27 (.bin .geq (.t 26) (.c (.int .u8 224))),
      Qm 28 27,
      Qn 29 4 (28,true),
      Qg 30 (.bin .leq (.t 29) (.c (.int .u8 239))) (28,true),
      Qp 31 28 30,
      Qm 25 31])
     (.cond (.t 25)
      (.seq (.region [Qi 7 2])
      (.seq (.seq (.region [Qm 32 4,
       Qo 33 (.bin .eql (.t 32) (.c (.int .u8 224)))])
      (.cond (.t 33)
       (.region [Qo 5 (.mv (.c (.int .u8 160)))])
       .skip))
      zxv))
      (.seq (.region [Qm 37 4,
       Qo 38 (.bin .geq (.t 37) (.c (.int .u8 240))),
       Qm 39 38,
       Qn 40 4 (39,true),
       Qg 41 (.bin .leq (.t 40) (.c (.int .u8 244))) (39,true),
       Qp 42 39 41,
       Qm 36 42])
      (.cond (.t 36)
       (.seq (.region [Qi 7 3])
       (.seq (.seq (.region [Qm 43 4,
        Qo 44 (.bin .eql (.t 43) (.c (.int .u8 240)))])
       (.cond (.t 44)
        (.region [Qo 5 (.mv (.c (.int .u8 144)))])
        .skip))
       zxk))
       (.seq (.region [Qb 2])
       .ret))))))))))
  zg5)))))
def zi1:LCode:=(.seq (.region [Qo 2 (.mv (.c (.bool true)))])
 .ret)
def zxu:LCode:=(.seq (.region [Qb 2])
 (.seq (.seq (.region [Qi 3 0])
 (.block 0
  (.loop
   znw)))
 zi1))
def Yh:Lay:=⟨73,[],false⟩
def zlv:List LRes:=[.t 2]
def y3f:LFn:=⟨1,Yh,zxu,zlv⟩
theorem zyp:wm Tryd.prog [] 41=some y3f:=by kernel_rfl
theorem y1q:Zc Tryd.prog 41:=⟨_,Tryd.func41,rfl,rfl⟩
def zut(a0:List UInt8)(o:Bool):Exit→Env→AHeap→Nat→Prop:=Y2 zlv (vi (.bool o))
def Yn(a0:List UInt8)(s:Int):Env:=[(0,.str a0),(3,i6 s)]
def X3(a0:List UInt8)(s:Int):AHeap:=[]
def Jn(a0:List UInt8)(o:Bool):Exit→Env→AHeap→Nat→Prop:=(x4 0 (Yk Tryd.prog Yh 0 zi1 (zut a0 o)))
def qk(m:Option Nat)(a0:List UInt8)(v22:Int)(v25:Int)(v26:Int)(v27:Int)(v28:Int):Option ((Int×Int×Int×Int) ⊕ (Int ⊕ Bool)):=
 if(decide (v28<v22))=true then
  if(((decide (v25≥(a0.length:Int)))==false)=true→(0:Int)≤v25∧v25<(a0.length:Int)) then
  if((((decide (v25≥(a0.length:Int))) || (decide ((((a0.getD v25.toNat 0).toNat:Nat):Int)<v26)))==false)=true→(0:Int)≤v25∧v25<(a0.length:Int)) then
  if(((decide (v25≥(a0.length:Int))) || (decide ((((a0.getD v25.toNat 0).toNat:Nat):Int)<v26))) || (decide ((((a0.getD v25.toNat 0).toNat:Nat):Int) > v27)))=true then
   p6 p9 (
    p6 p9 (
     some false))
  else
   some (.inl ((W (v25+1)),128,191,(W (v28+1))))
  else none
  else none
 else
  p6 p9 (
   some (.inl v25))
def xp(m:Option Nat)(a0:List UInt8)(v22:Int)(v25:Int)(v26:Int)(v27:Int)(v28:Int):Option (Int ⊕ Bool):=Y5 m (fun(s:(Int×Int×Int×Int))=>qk m a0 v22 s.1 s.2.1 s.2.2.1 s.2.2.2) (v25,v26,v27,v28)
def zx(m:Option Nat)(a0:List UInt8)(v10:Int)(v22:Int)(v23:Int)(v24:Int):Option (Int ⊕ Bool):=
 xp m a0 v22 (W (v10+1)) v23 v24 0
def xr(m:Option Nat)(a0:List UInt8)(v10:Int)(v20:Int):Option (Int ⊕ Bool):=
 if((((a0.getD v10.toNat 0).toNat:Nat):Int)==237)=true then
  zx m a0 v10 2 v20 159
 else
  zx m a0 v10 2 v20 191
def z5u(a0:List UInt8)(v22:Int)(s:(Int×Int×Int×Int)):Env:=[(0,.str a0),(3,i6 s.1),(5,.int .u8 s.2.1),(6,.int .u8 s.2.2.1),(49,i6 v22),(50,i6 s.2.2.2)]
def zbq(a0:List UInt8)(v22:Int)(s:(Int×Int×Int×Int)):AHeap:=[]
def zhj(a0:List UInt8)(o:(Int ⊕ Bool)):Exit→Env→AHeap→Nat→Prop:=(x4 3 (x4 1 (Z7 0 0 (Yn a0) (X3 a0) (Jn a0) o)))
theorem ziy{a0:List UInt8}{v22:Int}{v25:Int}{v26:Int}{v27:Int}{v28:Int}{m:Option Nat}{o:(Int×Int×Int×Int) ⊕ (Int ⊕ Bool)}(h:qk m a0 v22 v25 v26 v27 v28=some o) :
 LWp Tryd.prog Yh 0 zmv (Z7 0 0 (z5u a0 v22) (zbq a0 v22) (zhj a0) o) [(0,.str a0),(3,i6 v25),(5,.int .u8 v26),(6,.int .u8 v27),(49,i6 v22),(50,i6 v28)] [] 0:=by
 unfold qk at h
 refine SR ?_
 refine wn ?_
 refine y4 (v:=(decide (v28<v22))) rfl TT (fun h63=>?_) (fun h63=>?_)
 ·have h:=zd h63 h
  refine x6 ?_
  refine wn ?_
  refine xk ?_
  refine wn ?_
  refine SR ?_
  obtain⟨h64,h⟩:=zj h
  refine AI (fun hp=>(AI (AI hp hp) (h64 hp))) ?_
  refine AI (fun hp=>(AI hp hp)) ?_
  refine AI (fun hc=>(bqf hc)) ?_
  obtain⟨h65,h⟩:=zj h
  refine AI (fun hp=>(AI (AI hp hp) (h65 hp))) ?_
  refine AI (fun hp=>(AI hp hp)) ?_
  refine AI (fun hc=>(bqf hc)) ?_
  refine p0 (e:=[(0,.str a0),(3,i6 v25),(49,i6 v22),(50,i6 v28),(69,.bool (((decide (v25≥(a0.length:Int))) || (decide ((((a0.getD v25.toNat 0).toNat:Nat):Int)<v26))) || (decide ((((a0.getD v25.toNat 0).toNat:Nat):Int) > v27))))]) (L:=[]) (n:=0) ?_ ?_
  ·exact y7 (M:=[]) rfl (S4 rfl rfl rfl rfl (AI (VS rfl) TT)) TT
  refine y4 (v:=(((decide (v25≥(a0.length:Int))) || (decide ((((a0.getD v25.toNat 0).toNat:Nat):Int)<v26))) || (decide ((((a0.getD v25.toNat 0).toNat:Nat):Int) > v27)))) rfl TT (fun h66=>?_) (fun h66=>?_)
  ·have h:=zd h66 h
   refine SR ?_
   refine wl ?_
   obtain⟨o,hq,rfl⟩:=p3.1 h
   replace h:=hq;clear hq
   refine AI nofun ?_
   obtain⟨o,hq,rfl⟩:=p3.1 h
   replace h:=hq;clear hq
   refine AI nofun ?_
   cases h
   exact AI TT (AI rfl (VS rfl))
  ·have h:=zk h66 h
   refine x6 ?_
   refine SR ?_
   refine J1 ?_
   refine J1 ?_
   cases h
   exact AI rfl (y7 (M:=[]) rfl (S4 rfl rfl rfl rfl (S2 rfl rfl TT)) TT)
 ·have h:=zk h63 h
  refine Xh ?_
  obtain⟨o,hq,rfl⟩:=p3.1 h
  replace h:=hq;clear hq
  refine AI nofun ?_
  cases h
  exact AI rfl (y7 (M:=[]) rfl (S2 rfl rfl TT) TT)
theorem zpa{a0:List UInt8}{v22:Int}{v25:Int}{v26:Int}{v27:Int}{v28:Int}{m:Option Nat}{o:(Int ⊕ Bool)}(h:xp m a0 v22 v25 v26 v27 v28=some o) :
 LWp Tryd.prog Yh 0 (.loop zmv) (x4 3 (x4 1 (Z7 0 0 (Yn a0) (X3 a0) (Jn a0) o))) [(0,.str a0),(3,i6 v25),(5,.int .u8 v26),(6,.int .u8 v27),(49,i6 v22),(50,i6 v28)] [] 0:=
 wy (m:=m) (s:=((v25,v26,v27,v28):(Int×Int×Int×Int))) (r:=o) (fun(s:(Int×Int×Int×Int))=>qk m a0 v22 s.1 s.2.1 s.2.2.1 s.2.2.2) (z5u a0 v22) (zbq a0 v22) (zhj a0) (fun s o h=>ziy h) h
theorem J5{a0:List UInt8}{v10:Int}{v22:Int}{v23:Int}{v24:Int}{m:Option Nat}{o:(Int ⊕ Bool)}(h:zx m a0 v10 v22 v23 v24=some o) :
 LWp Tryd.prog Yh 0 zg5 (x4 1 (Z7 0 0 (Yn a0) (X3 a0) (Jn a0) o)) [(0,.str a0),(3,i6 v10),(5,.int .u8 v23),(6,.int .u8 v24),(7,i6 v22)] [] 0:=by
 unfold zx at h
 refine SR ?_
 refine SR ?_
 refine xk ?_
 refine p0 ?_ (zpa h)
 exact y7 (M:=[]) rfl (S4 rfl rfl rfl rfl (S2 rfl rfl TT)) TT
theorem zbm{a0:List UInt8}{v10:Int}{v20:Int}{m:Option Nat}{o:(Int ⊕ Bool)}(h:xr m a0 v10 v20=some o) :
 LWp Tryd.prog Yh 0 zxv (x4 2 (Yk Tryd.prog Yh 0 zg5 (x4 1 (Z7 0 0 (Yn a0) (X3 a0) (Jn a0) o)))) [(0,.str a0),(3,i6 v10),(4,.int .u8 (((a0.getD v10.toNat 0).toNat:Nat):Int)),(5,.int .u8 v20),(6,.int .u8 191),(7,i6 2)] [] 0:=by
 unfold xr at h
 refine SR ?_
 refine y4 (v:=((((a0.getD v10.toNat 0).toNat:Nat):Int)==237)) rfl TT (fun h51=>?_) (fun h51=>?_)
 ·have h:=zd h51 h
  refine J1 ?_
  refine p0 ?_ (J5 h)
  exact y7 (M:=[]) rfl (S4 rfl rfl rfl rfl (AI (VS rfl) TT)) TT
 ·have h:=zk h51 h
  refine x6 ?_
  refine p0 ?_ (J5 h)
  exact y7 (M:=[]) rfl (S4 rfl rfl rfl rfl (AI (VS rfl) TT)) TT
def xt(m:Option Nat)(a0:List UInt8)(v10:Int)(v21:Int):Option (Int ⊕ Bool):=
 if((((a0.getD v10.toNat 0).toNat:Nat):Int)==244)=true then
  zx m a0 v10 3 v21 143
 else
  zx m a0 v10 3 v21 191
theorem zbo{a0:List UInt8}{v10:Int}{v21:Int}{m:Option Nat}{o:(Int ⊕ Bool)}(h:xt m a0 v10 v21=some o) :
 LWp Tryd.prog Yh 0 zxk (x4 2 (Yk Tryd.prog Yh 0 zg5 (x4 1 (Z7 0 0 (Yn a0) (X3 a0) (Jn a0) o)))) [(0,.str a0),(3,i6 v10),(4,.int .u8 (((a0.getD v10.toNat 0).toNat:Nat):Int)),(5,.int .u8 v21),(6,.int .u8 191),(7,i6 3)] [] 0:=by
 unfold xt at h
 refine SR ?_
 refine y4 (v:=((((a0.getD v10.toNat 0).toNat:Nat):Int)==244)) rfl TT (fun h54=>?_) (fun h54=>?_)
 ·have h:=zd h54 h
  refine J1 ?_
  refine p0 ?_ (J5 h)
  exact y7 (M:=[]) rfl (S4 rfl rfl rfl rfl (AI (VS rfl) TT)) TT
 ·have h:=zk h54 h
  refine x6 ?_
  refine p0 ?_ (J5 h)
  exact y7 (M:=[]) rfl (S4 rfl rfl rfl rfl (AI (VS rfl) TT)) TT
def u4(m:Option Nat):Option Bool:=
 some true
def qm(m:Option Nat)(a0:List UInt8)(v10:Int):Option (Int ⊕ Bool):=
 if(decide (v10<(a0.length:Int)))=true then
  if(0:Int)≤v10∧v10<(a0.length:Int) then
  if(decide ((((a0.getD v10.toNat 0).toNat:Nat):Int)<128))=true then
   zx m a0 v10 0 128 191
  else
   if((decide ((((a0.getD v10.toNat 0).toNat:Nat):Int)≥194))&&(decide ((((a0.getD v10.toNat 0).toNat:Nat):Int)≤223)))=true then
    zx m a0 v10 1 128 191
   else
    if((decide ((((a0.getD v10.toNat 0).toNat:Nat):Int)≥224))&&(decide ((((a0.getD v10.toNat 0).toNat:Nat):Int)≤239)))=true then
     if((((a0.getD v10.toNat 0).toNat:Nat):Int)==224)=true then
      xr m a0 v10 160
     else
      xr m a0 v10 128
    else
     if((decide ((((a0.getD v10.toNat 0).toNat:Nat):Int)≥240))&&(decide ((((a0.getD v10.toNat 0).toNat:Nat):Int)≤244)))=true then
      if((((a0.getD v10.toNat 0).toNat:Nat):Int)==240)=true then
       xt m a0 v10 144
      else
       xt m a0 v10 128
     else
      p6 p9 (
       some false)
  else none
 else
  p6 p9 (
   u4 m)
def w4(m:Option Nat)(a0:List UInt8)(v10:Int):Option Bool:=Y5 m (fun(s:Int)=>qm m a0 s) v10
theorem zja{a0:List UInt8}{m:Option Nat}{o:Bool}(h:u4 m=some o) :
 LWp Tryd.prog Yh 0 zi1 (zut a0 o) [] [] 0:=by
 unfold u4 at h
 refine SR ?_
 refine wl ?_
 cases h
 exact AI TT (AI rfl (VS rfl))
theorem zjx{a0:List UInt8}{v10:Int}{m:Option Nat}{o:Int ⊕ Bool}(h:qm m a0 v10=some o) :
 LWp Tryd.prog Yh 0 znw (Z7 0 0 (Yn a0) (X3 a0) (Jn a0) o) [(0,.str a0),(3,i6 v10)] [] 0:=by
 unfold qm at h
 refine wn ?_
 refine SR ?_
 refine y4 (v:=(decide (v10<(a0.length:Int)))) rfl TT (fun h45=>?_) (fun h45=>?_)
 ·have h:=zd h45 h
  refine x6 ?_
  refine xk ?_
  refine SR ?_
  obtain⟨h46,h⟩:=zj h
  refine AI h46 ?_
  refine p0 (e:=[(0,.str a0),(3,i6 v10),(4,.int .u8 (((a0.getD v10.toNat 0).toNat:Nat):Int))]) (L:=[]) (n:=0) ?_ ?_
  ·exact y7 (M:=[]) rfl (S2 rfl rfl (AI (VS rfl) TT)) TT
  refine SR ?_
  refine wn ?_
  refine xk ?_
  refine SR ?_
  refine y4 (v:=(decide ((((a0.getD v10.toNat 0).toNat:Nat):Int)<128))) rfl TT (fun h47=>?_) (fun h47=>?_)
  ·have h:=zd h47 h
   refine x6 ?_
   refine p0 ?_ (J5 h)
   exact y7 (M:=[]) rfl (S4 rfl rfl rfl rfl (AI (VS rfl) TT)) TT
  ·have h:=zk h47 h
   refine SR ?_
   refine HP ?_
   refine HB ?_
   refine p0 (e:=[(0,.str a0),(3,i6 v10),(4,.int .u8 (((a0.getD v10.toNat 0).toNat:Nat):Int)),(5,.int .u8 128),(6,.int .u8 191),(18,.bool ((decide ((((a0.getD v10.toNat 0).toNat:Nat):Int)≥194))&&(decide ((((a0.getD v10.toNat 0).toNat:Nat):Int)≤223))))]) (L:=[]) (n:=0) ?_ ?_
   ·exact y7 (M:=[]) rfl (S4 rfl rfl rfl rfl (S2 rfl rfl TT)) TT
   refine y4 (v:=((decide ((((a0.getD v10.toNat 0).toNat:Nat):Int)≥194))&&(decide ((((a0.getD v10.toNat 0).toNat:Nat):Int)≤223)))) rfl TT (fun h48=>?_) (fun h48=>?_)
   ·have h:=zd h48 h
    refine J1 ?_
    refine p0 ?_ (J5 h)
    exact y7 (M:=[]) rfl (S4 rfl rfl rfl rfl (AI (VS rfl) TT)) TT
   ·have h:=zk h48 h
    refine SR ?_
    refine HP ?_
    refine HB ?_
    refine y4 (v:=((decide ((((a0.getD v10.toNat 0).toNat:Nat):Int)≥224))&&(decide ((((a0.getD v10.toNat 0).toNat:Nat):Int)≤239)))) rfl TT (fun h49=>?_) (fun h49=>?_)
    ·have h:=zd h49 h
     refine SR ?_
     refine p0 (e:=[(0,.str a0),(3,i6 v10),(4,.int .u8 (((a0.getD v10.toNat 0).toNat:Nat):Int)),(5,.int .u8 128),(6,.int .u8 191),(7,i6 2)]) (L:=[]) (n:=0) ?_ ?_
     ·exact y7 (M:=[]) rfl (S4 rfl rfl rfl rfl (S2 rfl rfl TT)) TT
     refine wn ?_
     refine SR ?_
     refine y4 (v:=((((a0.getD v10.toNat 0).toNat:Nat):Int)==224)) rfl TT (fun h50=>?_) (fun h50=>?_)
     ·have h:=zd h50 h
      refine J1 ?_
      refine p0 ?_ (zbm h)
      exact y7 (M:=[]) rfl (S4 rfl rfl rfl rfl (S2 rfl rfl TT)) TT
     ·have h:=zk h50 h
      refine x6 ?_
      refine p0 ?_ (zbm h)
      exact y7 (M:=[]) rfl (S4 rfl rfl rfl rfl (S2 rfl rfl TT)) TT
    ·have h:=zk h49 h
     refine SR ?_
     refine HP ?_
     refine HB ?_
     refine p0 (e:=[(0,.str a0),(3,i6 v10),(4,.int .u8 (((a0.getD v10.toNat 0).toNat:Nat):Int)),(5,.int .u8 128),(6,.int .u8 191),(36,.bool ((decide ((((a0.getD v10.toNat 0).toNat:Nat):Int)≥240))&&(decide ((((a0.getD v10.toNat 0).toNat:Nat):Int)≤244))))]) (L:=[]) (n:=0) ?_ ?_
     ·exact y7 (M:=[]) rfl (S4 rfl rfl rfl rfl (S2 rfl rfl TT)) TT
     refine y4 (v:=((decide ((((a0.getD v10.toNat 0).toNat:Nat):Int)≥240))&&(decide ((((a0.getD v10.toNat 0).toNat:Nat):Int)≤244)))) rfl TT (fun h52=>?_) (fun h52=>?_)
     ·have h:=zd h52 h
      refine SR ?_
      refine wn ?_
      refine SR ?_
      refine y4 (v:=((((a0.getD v10.toNat 0).toNat:Nat):Int)==240)) rfl TT (fun h53=>?_) (fun h53=>?_)
      ·have h:=zd h53 h
       refine J1 ?_
       refine p0 ?_ (zbo h)
       exact y7 (M:=[]) rfl (S4 rfl rfl rfl rfl (S2 rfl rfl TT)) TT
      ·have h:=zk h53 h
       refine x6 ?_
       refine p0 ?_ (zbo h)
       exact y7 (M:=[]) rfl (S4 rfl rfl rfl rfl (S2 rfl rfl TT)) TT
     ·have h:=zk h52 h
      refine SR ?_
      refine wl ?_
      obtain⟨o,hq,rfl⟩:=p3.1 h
      replace h:=hq;clear hq
      refine AI nofun ?_
      cases h
      exact AI TT (AI rfl (VS rfl))
 ·have h:=zk h45 h
  refine Xh ?_
  obtain⟨o,hq,rfl⟩:=p3.1 h
  replace h:=hq;clear hq
  refine AI nofun ?_
  refine p0 ?_ (zja h)
  exact y7 (M:=[]) rfl TT TT
theorem zst{a0:List UInt8}{v10:Int}{m:Option Nat}{o:Bool}(h:w4 m a0 v10=some o) :
 LWp Tryd.prog Yh 0 (.loop znw) (x4 0 (Yk Tryd.prog Yh 0 zi1 (zut a0 o))) [(0,.str a0),(3,i6 v10)] [] 0:=
 wy (m:=m) (s:=(v10:Int)) (r:=o) (fun(s:Int)=>qm m a0 s) (Yn a0) (X3 a0) (Jn a0) (fun s o h=>zjx h) h
def qv(m:Option Nat)(a0:List UInt8):Option Bool:=
 w4 m a0 0
theorem zp9{a0:List UInt8}{m:Option Nat}{o:Bool}(h:qv m a0=some o):LWp Tryd.prog Yh 0 zxu (zut a0 o) (zu 0 [.str a0]) [] 0:=by
 unfold qv at h
 refine SR ?_
 refine wn ?_
 refine SR ?_
 refine xk ?_
 refine p0 ?_ (zst h)
 exact y7 (M:=[]) rfl (S2 rfl rfl TT) TT
theorem zoq{a0:List UInt8}{m:Option Nat}{o:Bool}(h:qv m a0=some o):PFn Tryd.prog 41 [.str a0] (.bool o):=p7 (L:=y3f) zyp y1q (NB rfl) rfl (zp9 h)
def zxc:LCode:=(.seq (.region [Qb 4])
 (.seq (.region [Qm 5 0,
  Qo 6 (.len true (.t 5)),
  Qm 7 1,
  Qo 8 (.bin .geq (.t 6) (.t 7)),
  Qm 9 8,
  Qn 10 0 (9,true),
  Qg 11 (.len true (.t 10)) (9,true),
  Qg 12 (.bin .leq (.t 11) (.c (i6 60))) (9,true),
  Qp 13 9 12,
  Qm 14 13,
  Qn 15 0 (14,true),
  Qg 16 (.call 41 [(.t 15)]) (14,true),
  Qp 17 14 16,
  Qm 4 17])
 .ret))
def zly:Lay:=⟨18,[],false⟩
def zr5:List LRes:=[.t 4]
def y38:LFn:=⟨2,zly,zxc,zr5⟩
theorem y19:wm Tryd.prog [] 26=some y38:=by kernel_rfl
theorem zzh:Zc Tryd.prog 26:=⟨_,Tryd.func26,rfl,rfl⟩
def yq(m:Option Nat)(a0:List UInt8)(a1:Int):Option Bool:=
 (if(((decide ((a0.length:Int)≥a1))&&(decide ((a0.length:Int)≤60)))==true)=true then qv m a0 else some default).bind fun v1=>
 some (((decide ((a0.length:Int)≥a1))&&(decide ((a0.length:Int)≤60)))&&v1)
def y6s(a0:List UInt8)(a1:Int)(o:Bool):Exit→Env→AHeap→Nat→Prop:=Y2 zr5 (vi (.bool o))
theorem zkx{a0:List UInt8}{a1:Int}{m:Option Nat}{o:Bool}(h:yq m a0 a1=some o):LWp Tryd.prog zly 0 zxc (y6s a0 a1 o) (zu 0 [.str a0,i6 a1]) [] 0:=by
 unfold yq at h
 refine SR ?_
 refine SR ?_
 refine HP ?_
 refine HP ?_
 refine HB ?_
 obtain⟨v1,h1,h⟩:=bind_some h
 refine Or.inl (EX (.bool v1) (AI (fun hp=>AI hp (p5 (zoq (zd hp h1)) (AI (VS rfl) TT) (AI rfl (AI rfl rfl)))) ?_))
 refine HB ?_
 refine p0 (e:=[(4,.bool (((decide ((a0.length:Int)≥a1))&&(decide ((a0.length:Int)≤60)))&&v1))]) (L:=[]) (n:=0) ?_ ?_
 ·exact y7 (M:=[]) rfl (AI (VS rfl) TT) TT
 refine wl ?_
 cases h
 exact AI TT (AI rfl (VS rfl))
theorem zhf{a0:List UInt8}{a1:Int}{m:Option Nat}{o:Bool}(h:yq m a0 a1=some o):PFn Tryd.prog 26 [.str a0,i6 a1] (.bool o):=p7 (L:=y38) y19 zzh (NB rfl) rfl (zkx h)
def znh:LCode:=(.seq (.region [Qo 15 (.bin .lss (.t 14) (.t 13))])
 (.seq (.cond (.t 15)
  .skip
  (.exit 0))
 (.seq (.block 1
  (.seq (.region [Qm 16 14,
   Qo 17 (.iaddr 1 (.t 12) (.t 14)),
   Ql 18 1 17,
   Qm 5 16,
   Qm 6 18])
  (.seq (.region [Qm 19 6,
   Qm 20 1,
   Qm 21 5,
   Qo 22 (.iaddr 1 (.t 20) (.t 21)),
   Ql 23 1 22,
   Qo 24 (.bin .neq (.t 19) (.t 23))])
  (.cond (.t 24)
   (.seq (.region [Qb 4])
   .ret)
   .skip))))
 (.region [Qo 25 (.bin .add (.t 14) (.c (i6 1))),
  Qm 14 25]))))
def zgq:LCode:=(.seq (.region [Qo 4 (.mv (.c (.bool true)))])
 .ret)
def zwy:LCode:=(.seq (.region [Qb 4])
 (.seq (.seq (.region [Qm 7 0,
  Qo 8 (.len false (.t 7)),
  Qm 9 1,
  Qo 10 (.len false (.t 9)),
  Qo 11 (.bin .neq (.t 8) (.t 10))])
 (.cond (.t 11)
  (.seq (.region [Qb 4])
  .ret)
  .skip))
 (.seq (.seq (.region [Qm 12 0,
  Qo 13 (.len false (.t 12)),
  Qi 14 0])
 (.block 0
  (.loop
   znh)))
 zgq)))
def K8:Lay:=⟨26,[],false⟩
def zm7:List LRes:=[.t 4]
def y5n:LFn:=⟨2,K8,zwy,zm7⟩
theorem y1v:wm Tryd.prog [] 43=some y5n:=by kernel_rfl
theorem y0x:Zc Tryd.prog 43:=⟨_,Tryd.func43,rfl,rfl⟩
def zur(a0:List (List UInt8))(a1:List (List UInt8))(o:Bool):Exit→Env→AHeap→Nat→Prop:=Y2 zm7 (vi (.bool o))
def z52(a0:List (List UInt8))(a1:List (List UInt8))(s:Int):Env:=[(1,.isl 1 (a1.map za) false),(12,.isl 1 (a0.map za) false),(13,i6 ((a0.map za).length:Int)),(14,i6 s)]
def zbb(a0:List (List UInt8))(a1:List (List UInt8))(s:Int):AHeap:=[]
def zgj(a0:List (List UInt8))(a1:List (List UInt8))(o:Bool):Exit→Env→AHeap→Nat→Prop:=(x4 0 (Yk Tryd.prog K8 0 zgq (zur a0 a1 o)))
def kr(m:Option Nat):Option Bool:=
 some true
def yn(m:Option Nat)(a0:List (List UInt8))(a1:List (List UInt8))(v1:Int):Option (Int ⊕ Bool):=
 if(decide (v1<((a0.map za).length:Int)))=true then
  if(0:Int)≤v1∧v1<((a0.map za).length:Int) then
  if(0:Int)≤v1∧v1<((a1.map za).length:Int) then
  if(!((a0.getD v1.toNat default)==(a1.getD v1.toNat default)))=true then
   p6 p9 (
    some false)
  else
   some (.inl (W (v1+1)))
  else none
  else none
 else
  p6 p9 (
   kr m)
def j0(m:Option Nat)(a0:List (List UInt8))(a1:List (List UInt8))(v1:Int):Option Bool:=Y5 m (fun(s:Int)=>yn m a0 a1 s) v1
theorem zp6{a0:List (List UInt8)}{a1:List (List UInt8)}{m:Option Nat}{o:Bool}(h:kr m=some o) :
 LWp Tryd.prog K8 0 zgq (zur a0 a1 o) [] [] 0:=by
 unfold kr at h
 refine SR ?_
 refine wl ?_
 cases h
 exact AI TT (AI rfl (VS rfl))
theorem zk4{a0:List (List UInt8)}{a1:List (List UInt8)}{v1:Int}{m:Option Nat}{o:Int ⊕ Bool}(h:yn m a0 a1 v1=some o) :
 LWp Tryd.prog K8 0 znh (Z7 0 0 (z52 a0 a1) (zbb a0 a1) (zgj a0 a1) o) [(1,.isl 1 (a1.map za) false),(12,.isl 1 (a0.map za) false),(13,i6 ((a0.map za).length:Int)),(14,i6 v1)] [] 0:=by
 unfold yn at h
 refine SR ?_
 refine wn ?_
 refine y4 (v:=(decide (v1<((a0.map za).length:Int)))) rfl TT (fun h10=>?_) (fun h10=>?_)
 ·have h:=zd h10 h
  refine x6 ?_
  refine wn ?_
  refine xk ?_
  refine SR ?_
  obtain⟨h11,h⟩:=zj h
  refine AI h11 ?_
  refine EX (za (a0.getD v1.toNat default)) (AI (jx za _ _ (uz za h11)) (AI (AI (Y1 h11) (NB rfl)) ?_))
  refine SR ?_
  obtain⟨h12,h⟩:=zj h
  refine AI h12 ?_
  refine EX (za (a1.getD v1.toNat default)) (AI (jx za _ _ (uz za h12)) (AI (AI (Y1 h12) (NB rfl)) ?_))
  refine p0 (e:=[(1,.isl 1 (a1.map za) false),(12,.isl 1 (a0.map za) false),(13,i6 ((a0.map za).length:Int)),(14,i6 v1),(24,.bool (!((a0.getD v1.toNat default)==(a1.getD v1.toNat default))))]) (L:=[]) (n:=0) ?_ ?_
  ·exact y7 (M:=[]) rfl (S4 rfl rfl rfl rfl (AI (VS rfl) TT)) TT
  refine y4 (v:=(!((a0.getD v1.toNat default)==(a1.getD v1.toNat default)))) rfl TT (fun h13=>?_) (fun h13=>?_)
  ·have h:=zd h13 h
   refine SR ?_
   refine wl ?_
   obtain⟨o,hq,rfl⟩:=p3.1 h
   replace h:=hq;clear hq
   refine AI nofun ?_
   cases h
   exact AI TT (AI rfl (VS rfl))
  ·have h:=zk h13 h
   refine x6 ?_
   refine J1 ?_
   cases h
   exact AI rfl (y7 (M:=[]) rfl (S4 rfl rfl rfl rfl TT) TT)
 ·have h:=zk h10 h
  refine Xh ?_
  obtain⟨o,hq,rfl⟩:=p3.1 h
  replace h:=hq;clear hq
  refine AI nofun ?_
  refine p0 ?_ (zp6 h)
  exact y7 (M:=[]) rfl TT TT
theorem zsw{a0:List (List UInt8)}{a1:List (List UInt8)}{v1:Int}{m:Option Nat}{o:Bool}(h:j0 m a0 a1 v1=some o) :
 LWp Tryd.prog K8 0 (.loop znh) (x4 0 (Yk Tryd.prog K8 0 zgq (zur a0 a1 o))) [(1,.isl 1 (a1.map za) false),(12,.isl 1 (a0.map za) false),(13,i6 ((a0.map za).length:Int)),(14,i6 v1)] [] 0:=
 wy (m:=m) (s:=(v1:Int)) (r:=o) (fun(s:Int)=>yn m a0 a1 s) (z52 a0 a1) (zbb a0 a1) (zgj a0 a1) (fun s o h=>zk4 h) h
def yl(m:Option Nat)(a0:List (List UInt8))(a1:List (List UInt8)):Option Bool:=
 if(((a0.map za).length:Int) != ((a1.map za).length:Int))=true then
  some false
 else
  j0 m a0 a1 0
theorem zsp{a0:List (List UInt8)}{a1:List (List UInt8)}{m:Option Nat}{o:Bool}(h:yl m a0 a1=some o):LWp Tryd.prog K8 0 zwy (zur a0 a1 o) (zu 0 [.isl 1 (a0.map za) false,.isl 1 (a1.map za) false]) [] 0:=by
 unfold yl at h
 refine SR ?_
 refine wn ?_
 refine SR ?_
 refine y4 (v:=(((a0.map za).length:Int) != ((a1.map za).length:Int))) rfl TT (fun h1=>?_) (fun h1=>?_)
 ·have h:=zd h1 h
  refine SR ?_
  refine wl ?_
  cases h
  exact AI TT (AI rfl (VS rfl))
 ·have h:=zk h1 h
  refine x6 ?_
  refine wn ?_
  refine SR ?_
  refine p0 (e:=[(1,.isl 1 (a1.map za) false),(12,.isl 1 (a0.map za) false),(13,i6 ((a0.map za).length:Int)),(14,i6 0)]) (L:=[]) (n:=0) ?_ ?_
  ·exact y7 (M:=[]) rfl (S4 rfl rfl rfl rfl TT) TT
  refine xk ?_
  refine p0 ?_ (zsw h)
  exact y7 (M:=[]) rfl (S4 rfl rfl rfl rfl TT) TT
theorem y3k{a0:List (List UInt8)}{a1:List (List UInt8)}{m:Option Nat}{o:Bool}(h:yl m a0 a1=some o):PFn Tryd.prog 43 [.isl 1 (a0.map za) false,.isl 1 (a1.map za) false] (.bool o):=p7 (L:=y5n) y1v y0x (NB rfl) rfl (zsp h)
def z72:LCode:=(.seq (.seq (.region [Qm 42 5,
 Qm 43 42,
 Qn 44 6 (43,true),
 Qe 45 4 2 (43,true),
 Qk 46 1 45 (43,true),
 Qg 47 (.len false (.t 46)) (43,true),
 Qg 48 (.bin .lss (.t 44) (.t 47)) (43,true),
 Qp 49 43 48])
 (.cond (.t 49)
  .skip
  (.exit 0)))
 (.seq (.block 1
  (.draw [⟨Qf 52 4 2,[]⟩,
   ⟨Ql 53 1 52,[]⟩,
   ⟨Qm 54 6,[]⟩,
   ⟨Qo 55 (.iaddr 5 (.t 53) (.t 54)),[]⟩,
   ⟨Qt 56 5 55,[]⟩,
   ⟨Qf 57 4 3,[]⟩,
   ⟨Ql 58 1 57,[]⟩,
   ⟨Qm 59 6,[]⟩,
   ⟨Qo 60 (.iaddr 5 (.t 58) (.t 59)),[]⟩,
   ⟨Qt 61 5 60,[]⟩,
   ⟨Qo 62 (.call 28 [(.t 56),(.t 61)]),[]⟩,
   ⟨Qm 5 62,[]⟩]))
 (.region [Qm 50 6,
  Qo 51 (.bin .add (.t 50) (.c (i6 1))),
  Qm 6 51])))
def z1n:LCode:=(.seq (.region [Qm 63 5,
 Qm 4 63])
 .ret)
def zfd:LCode:=(.seq (.region [Qo 2 (.box (.t 0)),
 Qo 3 (.box (.t 1)),
 Qb 4])
 (.seq (.region [Qf 7 0 2,
  Ql 8 1 7,
  Qf 9 0 3,
  Ql 10 1 9,
  Qo 11 (.bin .eql (.t 8) (.t 10)),
  Qm 12 11,
  Qe 13 1 2 (12,true),
  Qk 14 1 13 (12,true),
  Qe 15 1 3 (12,true),
  Qk 16 1 15 (12,true),
  Qg 17 (.bin .eql (.t 14) (.t 16)) (12,true),
  Qp 18 12 17,
  Qm 19 18,
  Qe 20 2 2 (19,true),
  Qk 21 1 20 (19,true),
  Qe 22 2 3 (19,true),
  Qk 23 1 22 (19,true),
  Qg 24 (.bin .eql (.t 21) (.t 23)) (19,true),
  Qp 25 19 24,
  Qm 26 25,
  Qe 27 3 2 (26,true),
  Qk 28 1 27 (26,true),
  Qe 29 3 3 (26,true),
  Qk 30 1 29 (26,true),
  Qg 31 (.call 43 [(.t 28),(.t 30)]) (26,true),
  Qp 32 26 31,
  Qm 33 32,
  Qe 34 4 2 (33,true),
  Qk 35 1 34 (33,true),
  Qg 36 (.len false (.t 35)) (33,true),
  Qe 37 4 3 (33,true),
  Qk 38 1 37 (33,true),
  Qg 39 (.len false (.t 38)) (33,true),
  Qg 40 (.bin .eql (.t 36) (.t 39)) (33,true),
  Qp 41 33 40,
  Qm 5 41])
 (.seq (.seq (.region [Qi 6 0])
 (.block 0
  (.loop
   z72)))
 z1n)))
def Xa:Lay:=⟨64,[],false⟩
def z91:List LRes:=[.t 4]
def zse:LFn:=⟨2,Xa,zfd,z91⟩
theorem zo2:wm Tryd.prog [] 28=some zse:=by kernel_rfl
theorem zom:Zc Tryd.prog 28:=⟨_,Tryd.func28,rfl,rfl⟩
def z6z(a0:GJ)(a1:GJ)(o:Bool):Exit→Env→AHeap→Nat→Prop:=Y2 z91 (Zz 3 3 (.bool o) [])
def z0j(a0:GJ)(a1:GJ)(s:(Bool×Int)):Env:=[(2,.ptr (3,0) 0 0),(3,.ptr (4,0) 0 0),(5,.bool s.1),(6,i6 s.2)]
def z3p(a0:GJ)(a1:GJ)(s:(Bool×Int)):AHeap:=[((3,0),.one (z7 a0)),((4,0),.one (z7 a1))]
def z5s(a0:GJ)(a1:GJ)(o:Bool):Exit→Env→AHeap→Nat→Prop:=(x4 0 (Yk Tryd.prog Xa 3 z1n (z6z a0 a1 o)))
def qc(rec3:GJ→GJ→Option Bool)(m:Option Nat)(v5:Bool):Option Bool:=
 some v5
def zq(rec3:GJ→GJ→Option Bool)(m:Option Nat)(a0:GJ)(a1:GJ)(v5:Bool)(v6:Int):Option ((Bool×Int) ⊕ Bool):=
 if(v5&&(decide (v6<((a0.fE.map ze).length:Int))))=true then
  if(0:Int)≤v6∧v6<((a0.fE.map ze).length:Int) then
  ((Yt (a0.fE.getD v6.toNat default))).bind fun v10=>
  if(0:Int)≤v6∧v6<((a1.fE.map ze).length:Int) then
  ((Yt (a1.fE.getD v6.toNat default))).bind fun v11=>
  (rec3 v10 v11).bind fun v12=>
  some (.inl (v12,(W (v6+1))))
  else none
  else none
 else
  p6 p9 (
   qc rec3 m v5)
def zr(rec3:GJ→GJ→Option Bool)(m:Option Nat)(a0:GJ)(a1:GJ)(v5:Bool)(v6:Int):Option Bool:=Y5 m (fun(s:(Bool×Int))=>zq rec3 m a0 a1 s.1 s.2) (v5,v6)
abbrev Hr3(rec3:GJ→GJ→Option Bool):Prop:=∀ {a0:GJ} {a1:GJ} {o:Bool},rec3 a0 a1=some o→ACalls Tryd.prog 28 [.agg (z7 a0),.agg (z7 a1)] [] 3 (u0 3 (.bool o) [])
theorem zf7{rec3:GJ→GJ→Option Bool}(hrec3:Hr3 rec3){a0:GJ}{a1:GJ}{v5:Bool}{m:Option Nat}{o:Bool}(h:qc rec3 m v5=some o) :
 LWp Tryd.prog Xa 3 z1n (z6z a0 a1 o) [(5,.bool v5)] [] 3:=by
 unfold qc at h
 refine SR ?_
 refine wl ?_
 cases h
 exact AI TT (Yl (n':=3) [] [] rfl rfl (VS rfl) TT)
theorem z9k{rec3:GJ→GJ→Option Bool}(hrec3:Hr3 rec3){a0:GJ}{a1:GJ}{v5:Bool}{v6:Int}{m:Option Nat}{o:(Bool×Int) ⊕ Bool}(h:zq rec3 m a0 a1 v5 v6=some o) :
 LWp Tryd.prog Xa 3 z72 (Z7 3 5 (z0j a0 a1) (z3p a0 a1) (z5s a0 a1) o) [(2,.ptr (3,0) 0 0),(3,.ptr (4,0) 0 0),(5,.bool v5),(6,i6 v6)] [((3,0),.one (z7 a0)),((4,0),.one (z7 a1))] 5:=by
 unfold zq at h
 refine wn ?_
 refine SR ?_
 refine HP ?_
 refine HP ?_
 refine AI (fun hp=>(AI hp hp)) ?_
 refine HB ?_
 refine p0 (e:=[(2,.ptr (3,0) 0 0),(3,.ptr (4,0) 0 0),(5,.bool v5),(6,i6 v6),(49,.bool (v5&&(decide (v6<((a0.fE.map ze).length:Int)))))]) (L:=[((3,0),.one (z7 a0)),((4,0),.one (z7 a1))]) (n:=5) ?_ ?_
 ·exact y7 (M:=[((3,0),(3,0)),((4,0),(4,0))]) rfl (SP rfl (SP rfl (S2 rfl rfl (AI (VS rfl) TT)))) (AI (AI rfl (OL rfl)) (AI (AI rfl (OL rfl)) TT))
 refine y4 (v:=(v5&&(decide (v6<((a0.fE.map ze).length:Int))))) rfl TT (fun h14=>?_) (fun h14=>?_)
 ·have h:=zd h14 h
  refine x6 ?_
  refine wn ?_
  refine xk ?_
  refine zdz rfl ?_
  obtain⟨h15,h⟩:=zj h
  refine AI h15 ?_
  obtain⟨v10,h16,h⟩:=bind_some h
  refine EX (z7 v10) (AI (Z5 (uz ze h15) h16) (AI (AI (Y1 h15) (NB rfl)) ?_))
  obtain⟨h17,h⟩:=zj h
  refine AI h17 ?_
  obtain⟨v11,h18,h⟩:=bind_some h
  refine EX (z7 v11) (AI (Z5 (uz ze h17) h18) (AI (AI (Y1 h17) (NB rfl)) ?_))
  obtain⟨v12,h19,h⟩:=bind_some h
  refine Z2 (k:=3) (m:=0) (L':=[]) (rest:=[((3,0),.one (z7 a0)),((4,0),.one (z7 a1))]) (R':=.bool v12) [] (hrec3 h19) rfl rfl rfl (S2 rfl rfl TT) TT (xl _ rfl) TT rfl ?_
  refine p0 (e:=[(2,.ptr (3,0) 0 0),(3,.ptr (4,0) 0 0),(5,.bool v12),(6,i6 v6)]) (L:=[((3,0),.one (z7 a0)),((4,0),.one (z7 a1))]) (n:=5) ?_ ?_
  ·exact y7 (M:=[((3,0),(3,0)),((4,0),(4,0))]) rfl (SP rfl (SP rfl (S2 rfl rfl TT))) (AI (AI rfl (OL rfl)) (AI (AI rfl (OL rfl)) TT))
  refine J1 ?_
  cases h
  exact AI rfl (y7 (M:=[((3,0),(3,0)),((4,0),(4,0))]) rfl (SP rfl (SP rfl (S2 rfl rfl TT))) (AI (AI rfl (OL rfl)) (AI (AI rfl (OL rfl)) TT)))
 ·have h:=zk h14 h
  refine Xh ?_
  obtain⟨o,hq,rfl⟩:=p3.1 h
  replace h:=hq;clear hq
  refine AI nofun ?_
  refine p0 ?_ (zf7 hrec3 h)
  exact y7 (M:=[]) rfl (AI (VS rfl) TT) TT
theorem zcr{rec3:GJ→GJ→Option Bool}(hrec3:Hr3 rec3){a0:GJ}{a1:GJ}{v5:Bool}{v6:Int}{m:Option Nat}{o:Bool}(h:zr rec3 m a0 a1 v5 v6=some o) :
 LWp Tryd.prog Xa 3 (.loop z72) (x4 0 (Yk Tryd.prog Xa 3 z1n (z6z a0 a1 o))) [(2,.ptr (3,0) 0 0),(3,.ptr (4,0) 0 0),(5,.bool v5),(6,i6 v6)] [((3,0),.one (z7 a0)),((4,0),.one (z7 a1))] 5:=
 wy (m:=m) (s:=((v5,v6):(Bool×Int))) (r:=o) (fun(s:(Bool×Int))=>zq rec3 m a0 a1 s.1 s.2) (z0j a0 a1) (z3p a0 a1) (z5s a0 a1) (fun s o h=>z9k hrec3 h) h
def zn(rec3:GJ→GJ→Option Bool)(m:Option Nat)(a0:GJ)(a1:GJ):Option Bool:=
 (if((((a0.fK==a1.fK)&&(a0.fN==a1.fN))&&(a0.fT==a1.fT))==true)=true then yl m a0.fA a1.fA else some default).bind fun v1=>
 zr rec3 m a0 a1 (((((a0.fK==a1.fK)&&(a0.fN==a1.fN))&&(a0.fT==a1.fT))&&v1)&&(((a0.fE.map ze).length:Int)==((a1.fE.map ze).length:Int))) 0
theorem zc9{rec3:GJ→GJ→Option Bool}(hrec3:Hr3 rec3){a0:GJ}{a1:GJ}{m:Option Nat}{o:Bool}(h:zn rec3 m a0 a1=some o):LWp Tryd.prog Xa 3 zfd (z6z a0 a1 o) (zu 0 [.agg (z7 a0),.agg (z7 a1)]) [] 3:=by
 unfold zn at h
 refine SR ?_
 refine SR ?_
 refine HP ?_
 refine HP ?_
 refine AI (fun hp=>(AI hp hp)) ?_
 refine HB ?_
 refine HP ?_
 refine HP ?_
 refine AI (fun hp=>(AI hp hp)) ?_
 refine HB ?_
 refine HP ?_
 refine HP ?_
 obtain⟨v1,h1,h⟩:=bind_some h
 refine Or.inl (EX (.bool v1) (AI (fun hp=>AI (AI hp hp) (p5 (y3k (zd hp h1)) (S2 rfl rfl TT) (AI rfl (AI rfl rfl)))) ?_))
 refine HB ?_
 refine HP ?_
 refine HP ?_
 refine HP ?_
 refine HP ?_
 refine AI (fun hp=>(AI hp hp)) ?_
 refine HB ?_
 refine p0 (e:=[(2,.ptr (3,0) 0 0),(3,.ptr (4,0) 0 0),(5,.bool (((((a0.fK==a1.fK)&&(a0.fN==a1.fN))&&(a0.fT==a1.fT))&&v1)&&(((a0.fE.map ze).length:Int)==((a1.fE.map ze).length:Int))))]) (L:=[((3,0),.one (z7 a0)),((4,0),.one (z7 a1))]) (n:=5) ?_ ?_
 ·exact y7 (M:=[((3,0),(3,0)),((4,0),(4,0))]) rfl (SP rfl (SP rfl (AI (VS rfl) TT))) (AI (AI rfl (OL rfl)) (AI (AI rfl (OL rfl)) TT))
 refine wn ?_
 refine SR ?_
 refine xk ?_
 refine p0 ?_ (zcr hrec3 h)
 exact y7 (M:=[((3,0),(3,0)),((4,0),(4,0))]) rfl (SP rfl (SP rfl (S2 rfl rfl TT))) (AI (AI rfl (OL rfl)) (AI (AI rfl (OL rfl)) TT))
theorem zi5{rec3:GJ→GJ→Option Bool}(hrec3:Hr3 rec3){a0:GJ}{a1:GJ}{m:Option Nat}{o:Bool}(h:zn rec3 m a0 a1=some o):ACalls Tryd.prog 28 [.agg (z7 a0),.agg (z7 a1)] [] 3 (u0 3 (.bool o) []):=Z0 (L:=zse) zo2 zom (NB rfl) (zc9 hrec3 h)
def yj(m:Option Nat):Nat→GJ→GJ→Option Bool
 |0=>fun _ _=>none
 |k+1=>zn (yj m k) m
def yk(m:Option Nat)(a0:GJ)(a1:GJ):Option Bool:=zl5 m (fun k=>yj m k a0 a1)
theorem z9s{m:Option Nat}:∀ (k:Nat) {a0:GJ} {a1:GJ} {o:Bool},yj m k a0 a1=some o→ACalls Tryd.prog 28 [.agg (z7 a0),.agg (z7 a1)] [] 3 (u0 3 (.bool o) [])
 |0,_,_,_,h=>nomatch h
 |k+1,_,_,_,h=>zi5 (fun h=>z9s k h) h
theorem z9g{a0:GJ}{a1:GJ}{m:Option Nat}{o:Bool}(h:yk m a0 a1=some o):ACalls Tryd.prog 28 [.agg (z7 a0),.agg (z7 a1)] [] 3 (u0 3 (.bool o) []):=(Jg h).elim fun k h=>z9s k h
def u6(m:Option Nat)(a0:GJ)(a1:GJ):Option Bool:=zn (yk m) m a0 a1
theorem y3v{a0:GJ}{a1:GJ}{m:Option Nat}{o:Bool}(h:u6 m a0 a1=some o):PFn Tryd.prog 28 [.agg (z7 a0),.agg (z7 a1)] (.bool o):=
 ⟨rfl,_,Z2 (k:=3) (m:=0) (L':=[]) (rest:=[]) (R':=.bool o) [] (zi5 z9g h) rfl rfl rfl (S2 rfl rfl TT) TT (xl _ rfl) TT rfl ⟨rfl,rfl,rfl⟩⟩
def zwt:LCode:=(.seq (.region [Qo 1 (.box (.t 0)),
 Qb 2])
 (.seq (.region [Qt 3 5 1,
  Qo 4 (.build [(i6 0),(i6 0),(.str []),(.isl 1 [] true),(.isl 5 [] true)] []),
  Qo 5 (.call 28 [(.t 3),(.t 4)]),
  Qm 2 5])
 .ret))
def zpy:Lay:=⟨6,[],false⟩
def zlg:List LRes:=[.t 2]
def y3j:LFn:=⟨1,zpy,zwt,zlg⟩
theorem y13:wm Tryd.prog [] 58=some y3j:=by kernel_rfl
theorem zzs:Zc Tryd.prog 58:=⟨_,Tryd.func58,rfl,rfl⟩
def qx(m:Option Nat)(a0:GJ):Option Bool:=
 (u6 m a0 (GJ.mk 0 0 [] [] [])).bind fun v1=>
 some v1
def y7g(a0:GJ)(o:Bool):Exit→Env→AHeap→Nat→Prop:=Y2 zlg (vi (.bool o))
theorem zp8{a0:GJ}{m:Option Nat}{o:Bool}(h:qx m a0=some o):LWp Tryd.prog zpy 0 zwt (y7g a0 o) (zu 0 [.agg (z7 a0)]) [] 0:=by
 unfold qx at h
 refine SR ?_
 refine SR ?_
 obtain⟨v1,h1,h⟩:=bind_some h
 refine p5 (y3v h1) (AI (VS rfl) (AI (Vw.aggL (S2 rfl rfl (AI (VS rfl) (AI (p8 _ _ _) (AI (p8 _ _ _) TT))))) TT)) ?_
 refine wl ?_
 cases h
 exact AI TT (AI rfl (VS rfl))
theorem zxz{a0:GJ}{m:Option Nat}{o:Bool}(h:qx m a0=some o):PFn Tryd.prog 58 [.agg (z7 a0)] (.bool o):=p7 (L:=y3j) y13 zzs (NB rfl) rfl (zp8 h)
def zy6:LCode:=(.seq (.region [Qo 1 (.box (.t 0)),
 Qb 2])
 (.seq (.region [Qf 4 1 1,
  Ql 5 1 4,
  Qo 6 (.bin .geq (.t 5) (.c (i6 0))),
  Qm 7 6,
  Qe 8 1 1 (7,true),
  Qk 9 1 8 (7,true),
  Qg 10 (.bin .leq (.t 9) (.c (i6 2147483647))) (7,true),
  Qp 11 7 10,
  Qm 3 11])
 (.seq (.seq (.region [Qf 12 0 1,
  Ql 13 1 12])
 (.block 0
  (.seq (.region [Qo 15 (.bin .eql (.t 13) (.c (i6 1))),
   Qm 14 15])
  (.cond (.t 14)
   (.seq (.region [Qm 16 3,
    Qm 17 16,
    Qe 18 2 1 (17,true),
    Qk 19 1 18 (17,true),
    Qg 20 (.bin .eql (.t 19) (.c (i6 0))) (17,true),
    Qp 21 17 20,
    Qm 22 21,
    Qe 23 3 1 (22,true),
    Qk 24 1 23 (22,true),
    Qg 25 (.call 26 [(.t 24),(.c (i6 1))]) (22,true),
    Qp 26 22 25,
    Qm 2 26])
   .ret)
   (.seq (.region [Qo 28 (.bin .eql (.t 13) (.c (i6 2))),
    Qm 27 28])
   (.cond (.t 27)
    (.seq (.region [Qf 29 1 1,
     Ql 30 1 29,
     Qo 31 (.bin .eql (.t 30) (.c (i6 0))),
     Qm 32 31,
     Qe 33 2 1 (32,true),
     Qk 34 1 33 (32,true),
     Qg 35 (.bin .eql (.t 34) (.c (i6 0))) (32,true),
     Qp 36 32 35,
     Qm 37 36,
     Qe 38 3 1 (37,true),
     Qk 39 1 38 (37,true),
     Qg 40 (.call 26 [(.t 39),(.c (i6 1))]) (37,true),
     Qp 41 37 40,
     Qm 42 41,
     Qe 43 3 1 (42,true),
     Qk 44 1 43 (42,true),
     Qg 45 (.bin .neq (.t 44) (.c (.str [36,47,99,97,110,99,101,108]))) (42,true),
     Qp 46 42 45,
     Qm 2 46])
    .ret)
    (.seq (.region [Qo 48 (.bin .eql (.t 13) (.c (i6 3))),
     Qm 47 48])
    (.cond (.t 47)
     (.seq (.region [Qm 49 3,
      Qm 50 49,
      Qe 51 2 1 (50,true),
      Qk 52 1 51 (50,true),
      Qg 53 (.bin .eql (.t 52) (.c (i6 0))) (50,true),
      Qp 54 50 53,
      Qm 55 54,
      Qe 56 3 1 (55,true),
      Qk 57 1 56 (55,true),
      Qg 58 (.bin .eql (.t 57) (.c (.str []))) (55,true),
      Qp 59 55 58,
      Qm 2 59])
     .ret)
     (.seq (.region [Qo 61 (.bin .eql (.t 13) (.c (i6 4))),
      Qm 60 61])
     (.cond (.t 60)
      (.seq (.region [Qm 62 3,
       Qm 63 62,
       Qe 64 2 1 (63,true),
       Qk 65 1 64 (63,true),
       Qg 66 (.bin .geq (.t 65) (.c (i6 1))) (63,true),
       Qp 67 63 66,
       Qm 68 67,
       Qe 69 2 1 (68,true),
       Qk 70 1 69 (68,true),
       Qg 71 (.bin .leq (.t 70) (.c (i6 99))) (68,true),
       Qp 72 68 71,
       Qm 73 72,
       Qe 74 3 1 (73,true),
       Qk 75 1 74 (73,true),
       Qg 76 (.call 26 [(.t 75),(.c (i6 0))]) (73,true),
       Qp 77 73 76,
       Qm 78 77,
       Qe 79 4 1 (78,true),
       Qg 80 (.load true 5 (.t 79)) (78,true),
       Qg 81 (.call 58 [(.t 80)]) (78,true),
       Qp 82 78 81,
       Qm 2 82])
      .ret)
      .skip))))))))))
 (.seq (.region [Qm 83 3,
  Qm 84 83,
  Qe 85 2 1 (84,true),
  Qk 86 1 85 (84,true),
  Qg 87 (.bin .eql (.t 86) (.c (i6 0))) (84,true),
  Qp 88 84 87,
  Qm 89 88,
  Qe 90 3 1 (89,true),
  Qk 91 1 90 (89,true),
  Qg 92 (.bin .eql (.t 91) (.c (.str []))) (89,true),
  Qp 93 89 92,
  Qm 94 93,
  Qe 95 4 1 (94,true),
  Qg 96 (.load true 5 (.t 95)) (94,true),
  Qg 97 (.call 58 [(.t 96)]) (94,true),
  Qp 98 94 97,
  Qm 2 98])
 .ret))))
def zsm:Lay:=⟨99,[],false⟩
def zpj:List LRes:=[.t 2]
def y5j:LFn:=⟨1,zsm,zy6,zpj⟩
theorem y1k:wm Tryd.prog [] 37=some y5j:=by kernel_rfl
theorem y21:Zc Tryd.prog 37:=⟨_,Tryd.func37,rfl,rfl⟩
def qj(m:Option Nat)(a0:GM):Option Bool:=
 if(a0.fK==1)=true then
  (if((((decide (a0.fI≥0))&&(decide (a0.fI≤2147483647)))&&(a0.fC==0))==true)=true then yq m a0.fM 1 else some default).bind fun v1=>
  some ((((decide (a0.fI≥0))&&(decide (a0.fI≤2147483647)))&&(a0.fC==0))&&v1)
 else
  if(a0.fK==2)=true then
   (if(((a0.fI==0)&&(a0.fC==0))==true)=true then yq m a0.fM 1 else some default).bind fun v2=>
   some ((((a0.fI==0)&&(a0.fC==0))&&v2)&&(!(a0.fM==([36,47,99,97,110,99,101,108]:List UInt8))))
  else
   if(a0.fK==3)=true then
    some ((((decide (a0.fI≥0))&&(decide (a0.fI≤2147483647)))&&(a0.fC==0))&&(a0.fM==([]:List UInt8)))
   else
    if(a0.fK==4)=true then
     (if(((((decide (a0.fI≥0))&&(decide (a0.fI≤2147483647)))&&(decide (a0.fC≥1)))&&(decide (a0.fC≤99)))==true)=true then yq m a0.fM 0 else some default).bind fun v3=>
     (if((((((decide (a0.fI≥0))&&(decide (a0.fI≤2147483647)))&&(decide (a0.fC≥1)))&&(decide (a0.fC≤99)))&&v3)==true)=true then qx m (GJ.mk a0.fB.fK a0.fB.fN a0.fB.fT a0.fB.fA a0.fB.fE) else some default).bind fun v4=>
     some ((((((decide (a0.fI≥0))&&(decide (a0.fI≤2147483647)))&&(decide (a0.fC≥1)))&&(decide (a0.fC≤99)))&&v3)&&v4)
    else
     (if(((((decide (a0.fI≥0))&&(decide (a0.fI≤2147483647)))&&(a0.fC==0))&&(a0.fM==([]:List UInt8)))==true)=true then qx m (GJ.mk a0.fB.fK a0.fB.fN a0.fB.fT a0.fB.fA a0.fB.fE) else some default).bind fun v5=>
     some (((((decide (a0.fI≥0))&&(decide (a0.fI≤2147483647)))&&(a0.fC==0))&&(a0.fM==([]:List UInt8)))&&v5)
def y6m(a0:GM)(o:Bool):Exit→Env→AHeap→Nat→Prop:=Y2 zpj (vi (.bool o))
theorem zt0{a0:GM}{m:Option Nat}{o:Bool}(h:qj m a0=some o):LWp Tryd.prog zsm 0 zy6 (y6m a0 o) (zu 0 [.agg [i6 a0.fK,i6 a0.fI,i6 a0.fC,.str a0.fM,i6 a0.fB.fK,i6 a0.fB.fN,.str a0.fB.fT,.isl 1 (a0.fB.fA.map za) false,.isl 5 (a0.fB.fE.map ze) false]]) [] 0:=by
 unfold qj at h
 refine SR ?_
 refine SR ?_
 refine HP ?_
 refine HP ?_
 refine HB ?_
 refine p0 (e:=[(1,.ptr (0,0) 0 0),(3,.bool ((decide (a0.fI≥0))&&(decide (a0.fI≤2147483647))))]) (L:=[((0,0),.one [i6 a0.fK,i6 a0.fI,i6 a0.fC,.str a0.fM,i6 a0.fB.fK,i6 a0.fB.fN,.str a0.fB.fT,.isl 1 (a0.fB.fA.map za) false,.isl 5 (a0.fB.fE.map ze) false])]) (n:=1) ?_ ?_
 ·exact y7 (M:=[((0,0),(0,0))]) rfl (SP rfl (AI (VS rfl) TT)) (AI (AI rfl (OL rfl)) TT)
 refine wn ?_
 refine SR ?_
 refine xk ?_
 refine SR ?_
 refine y4 (v:=(a0.fK==1)) rfl TT (fun h1=>?_) (fun h1=>?_)
 ·have h:=zd h1 h
  refine SR ?_
  refine HP ?_
  refine HP ?_
  refine HB ?_
  refine HP ?_
  obtain⟨v1,h2,h⟩:=bind_some h
  refine Or.inl (EX (.bool v1) (AI (fun hp=>AI hp (p5 (zhf (zd hp h2)) (S2 rfl rfl TT) (AI rfl (AI rfl rfl)))) ?_))
  refine HB ?_
  refine p0 (e:=[(2,.bool ((((decide (a0.fI≥0))&&(decide (a0.fI≤2147483647)))&&(a0.fC==0))&&v1))]) (L:=[]) (n:=0) ?_ ?_
  ·exact y7 (M:=[]) rfl (AI (VS rfl) TT) TT
  refine wl ?_
  cases h
  exact AI TT (AI rfl (VS rfl))
 ·have h:=zk h1 h
  refine SR ?_
  refine y4 (v:=(a0.fK==2)) rfl TT (fun h3=>?_) (fun h3=>?_)
  ·have h:=zd h3 h
   refine SR ?_
   refine HP ?_
   refine HP ?_
   refine HB ?_
   refine HP ?_
   obtain⟨v2,h4,h⟩:=bind_some h
   refine Or.inl (EX (.bool v2) (AI (fun hp=>AI hp (p5 (zhf (zd hp h4)) (S2 rfl rfl TT) (AI rfl (AI rfl rfl)))) ?_))
   refine HB ?_
   refine HP ?_
   refine HP ?_
   refine HB ?_
   refine p0 (e:=[(2,.bool ((((a0.fI==0)&&(a0.fC==0))&&v2)&&(!(a0.fM==([36,47,99,97,110,99,101,108]:List UInt8)))))]) (L:=[]) (n:=0) ?_ ?_
   ·exact y7 (M:=[]) rfl (AI (VS rfl) TT) TT
   refine wl ?_
   cases h
   exact AI TT (AI rfl (VS rfl))
  ·have h:=zk h3 h
   refine SR ?_
   refine p0 (e:=[(1,.ptr (0,0) 0 0),(3,.bool ((decide (a0.fI≥0))&&(decide (a0.fI≤2147483647)))),(13,i6 a0.fK),(47,.bool (a0.fK==3))]) (L:=[((0,0),.one [i6 a0.fK,i6 a0.fI,i6 a0.fC,.str a0.fM,i6 a0.fB.fK,i6 a0.fB.fN,.str a0.fB.fT,.isl 1 (a0.fB.fA.map za) false,.isl 5 (a0.fB.fE.map ze) false])]) (n:=1) ?_ ?_
   ·exact y7 (M:=[((0,0),(0,0))]) rfl (SP rfl (S2 rfl rfl (AI (VS rfl) TT))) (AI (AI rfl (OL rfl)) TT)
   refine y4 (v:=(a0.fK==3)) rfl TT (fun h5=>?_) (fun h5=>?_)
   ·have h:=zd h5 h
    refine SR ?_
    refine HP ?_
    refine HP ?_
    refine HB ?_
    refine HP ?_
    refine HP ?_
    refine HB ?_
    refine p0 (e:=[(2,.bool ((((decide (a0.fI≥0))&&(decide (a0.fI≤2147483647)))&&(a0.fC==0))&&(a0.fM==([]:List UInt8))))]) (L:=[]) (n:=0) ?_ ?_
    ·exact y7 (M:=[]) rfl (AI (VS rfl) TT) TT
    refine wl ?_
    cases h
    exact AI TT (AI rfl (VS rfl))
   ·have h:=zk h5 h
    refine SR ?_
    refine y4 (v:=(a0.fK==4)) rfl TT (fun h6=>?_) (fun h6=>?_)
    ·have h:=zd h6 h
     refine SR ?_
     refine HP ?_
     refine HP ?_
     refine HB ?_
     refine HP ?_
     refine HP ?_
     refine HB ?_
     refine HP ?_
     obtain⟨v3,h7,h⟩:=bind_some h
     refine Or.inl (EX (.bool v3) (AI (fun hp=>AI hp (p5 (zhf (zd hp h7)) (S2 rfl rfl TT) (AI rfl (AI rfl rfl)))) ?_))
     refine HB ?_
     refine HP ?_
     obtain⟨v4,h8,h⟩:=bind_some h
     refine Or.inl (EX (.bool v4) (AI (fun hp=>AI hp (p5 (zxz (zd hp h8)) (AI (VS rfl) TT) (AI rfl (AI rfl rfl)))) ?_))
     refine HB ?_
     refine p0 (e:=[(2,.bool ((((((decide (a0.fI≥0))&&(decide (a0.fI≤2147483647)))&&(decide (a0.fC≥1)))&&(decide (a0.fC≤99)))&&v3)&&v4))]) (L:=[]) (n:=0) ?_ ?_
     ·exact y7 (M:=[]) rfl (AI (VS rfl) TT) TT
     refine wl ?_
     cases h
     exact AI TT (AI rfl (VS rfl))
    ·have h:=zk h6 h
     refine x6 ?_
     refine SR ?_
     refine HP ?_
     refine HP ?_
     refine HB ?_
     refine HP ?_
     refine HP ?_
     refine HB ?_
     refine HP ?_
     obtain⟨v5,h9,h⟩:=bind_some h
     refine Or.inl (EX (.bool v5) (AI (fun hp=>AI hp (p5 (zxz (zd hp h9)) (AI (VS rfl) TT) (AI rfl (AI rfl rfl)))) ?_))
     refine HB ?_
     refine p0 (e:=[(2,.bool (((((decide (a0.fI≥0))&&(decide (a0.fI≤2147483647)))&&(a0.fC==0))&&(a0.fM==([]:List UInt8)))&&v5))]) (L:=[]) (n:=0) ?_ ?_
     ·exact y7 (M:=[]) rfl (AI (VS rfl) TT) TT
     refine wl ?_
     cases h
     exact AI TT (AI rfl (VS rfl))
theorem y5d{a0:GM}{m:Option Nat}{o:Bool}(h:qj m a0=some o):PFn Tryd.prog 37 [.agg [i6 a0.fK,i6 a0.fI,i6 a0.fC,.str a0.fM,i6 a0.fB.fK,i6 a0.fB.fN,.str a0.fB.fT,.isl 1 (a0.fB.fA.map za) false,.isl 5 (a0.fB.fE.map ze) false]] (.bool o):=p7 (L:=y5j) y1k y21 (NB rfl) rfl (zt0 h)
def z7k:LCode:=(.seq (.region [Qo 12 (.bin .lss (.t 11) (.t 10))])
 (.seq (.cond (.t 12)
  .skip
  (.exit 0))
 (.seq (.block 1
  (.seq (.region [Qo 13 (.iaddr 5 (.t 9) (.t 11)),
   Qt 14 5 13,
   Qo 5 (.alloc [(i6 0),(i6 0),(.str []),(.isl 1 [] true),(.isl 5 [] true)]),
   ⟨none,.store 5 (.t 5) (.t 14),none⟩])
  (.seq (.region [Qt 16 5 5,
   Qc 17 59 16,
   Qm 15 17,
   Qo 18 (.ext 0 (.t 15)),
   Qo 19 (.ext 1 (.t 15)),
   Qm 6 18,
   Qm 7 19])
  (.seq (.region [Qm 20 2,
   Qm 21 6,
   Qo 22 (.bin .add (.t 20) (.t 21)),
   Qm 2 22])
  (.region [Qm 23 3,
   Qm 24 7,
   Qo 25 (.mnx true [(.t 23),(.t 24)]),
   Qm 3 25])))))
 (.region [Qo 26 (.bin .add (.t 11) (.c (i6 1))),
  Qm 11 26]))))
def z1z:LCode:=(.seq (.region [Qm 27 2,
 Qm 28 3,
 Qo 29 (.bin .add (.t 28) (.c (i6 1))),
 Qm 2 27,
 Qm 3 29])
 .ret)
def zhc:LCode:=(.seq (.region [Qo 1 (.box (.t 0)),
 Qi 2 0,
 Qi 3 0])
 (.seq (.region [Qi 2 1,
  Qi 3 0])
 (.seq (.seq (.region [Qf 8 4 1,
  Ql 9 1 8,
  Qo 10 (.len false (.t 9)),
  Qi 11 0])
 (.block 0
  (.loop
   z7k)))
 z1z)))
def Xc:Lay:=⟨30,[],false⟩
def z8p:List LRes:=[.t 2,.t 3]
def zsj:LFn:=⟨1,Xc,zhc,z8p⟩
theorem zr1:wm Tryd.prog [] 59=some zsj:=by kernel_rfl
theorem zl4:Zc Tryd.prog 59:=⟨_,Tryd.func59,rfl,rfl⟩
def z6b(a0:GJ)(o:Int×Int):Exit→Env→AHeap→Nat→Prop:=Y2 z8p (Zz 3 3 (.tup [i6 o.1,i6 o.2]) [])
def z0m(a0:GJ)(s:(Int×Int×Int)):Env:=[(2,i6 s.1),(3,i6 s.2.1),(9,.isl 5 (a0.fE.map ze) false),(10,i6 ((a0.fE.map ze).length:Int)),(11,i6 s.2.2)]
def z31(a0:GJ)(s:(Int×Int×Int)):AHeap:=[]
def z5a(a0:GJ)(o:(Int×Int)):Exit→Env→AHeap→Nat→Prop:=(x4 0 (Yk Tryd.prog Xc 3 z1z (z6b a0 o)))
def wu(rec4:GJ→Option (Int×Int))(m:Option Nat)(v3:Int)(v4:Int):Option (Int×Int):=
 some (v3,(W (v4+1)))
def yp(rec4:GJ→Option (Int×Int))(m:Option Nat)(a0:GJ)(v3:Int)(v4:Int)(v5:Int):Option ((Int×Int×Int) ⊕ (Int×Int)):=
 if(decide (v5<((a0.fE.map ze).length:Int)))=true then
  if(0:Int)≤v5∧v5<((a0.fE.map ze).length:Int) then
  ((Yt (a0.fE.getD v5.toNat default))).bind fun v8=>
  (rec4 v8).bind fun v9=>
  some (.inl ((W (v3+v9.1)),(if v9.2 > v4 then v9.2 else v4),(W (v5+1))))
  else none
 else
  p6 p9 (
   wu rec4 m v3 v4)
def qy(rec4:GJ→Option (Int×Int))(m:Option Nat)(a0:GJ)(v3:Int)(v4:Int)(v5:Int):Option (Int×Int):=Y5 m (fun(s:(Int×Int×Int))=>yp rec4 m a0 s.1 s.2.1 s.2.2) (v3,v4,v5)
abbrev Hr4(rec4:GJ→Option (Int×Int)):Prop:=∀ {a0:GJ} {o:Int×Int},rec4 a0=some o→ACalls Tryd.prog 59 [.agg (z7 a0)] [] 3 (u0 3 (.tup [i6 o.1,i6 o.2]) [])
theorem zeu{rec4:GJ→Option (Int×Int)}(hrec4:Hr4 rec4){a0:GJ}{v3:Int}{v4:Int}{m:Option Nat}{o:(Int×Int)}(h:wu rec4 m v3 v4=some o) :
 LWp Tryd.prog Xc 3 z1z (z6b a0 o) [(2,i6 v3),(3,i6 v4)] [] 3:=by
 unfold wu at h
 refine SR ?_
 refine wl ?_
 cases h
 exact AI TT (AI TT (Yl (n':=3) [] [] rfl rfl (VS rfl) TT))
theorem z9v{rec4:GJ→Option (Int×Int)}(hrec4:Hr4 rec4){a0:GJ}{v3:Int}{v4:Int}{v5:Int}{m:Option Nat}{o:(Int×Int×Int) ⊕ (Int×Int)}(h:yp rec4 m a0 v3 v4 v5=some o) :
 LWp Tryd.prog Xc 3 z7k (Z7 3 3 (z0m a0) (z31 a0) (z5a a0) o) [(2,i6 v3),(3,i6 v4),(9,.isl 5 (a0.fE.map ze) false),(10,i6 ((a0.fE.map ze).length:Int)),(11,i6 v5)] [] 3:=by
 unfold yp at h
 refine SR ?_
 refine wn ?_
 refine y4 (v:=(decide (v5<((a0.fE.map ze).length:Int)))) rfl TT (fun h9=>?_) (fun h9=>?_)
 ·have h:=zd h9 h
  refine x6 ?_
  refine wn ?_
  refine xk ?_
  refine SR ?_
  obtain⟨h10,h⟩:=zj h
  refine AI h10 ?_
  obtain⟨v8,h11,h⟩:=bind_some h
  refine EX (z7 v8) (AI (Z5 (uz ze h10) h11) (AI (AI (Y1 h10) (NB rfl)) ?_))
  refine SR ?_
  obtain⟨v9,h12,h⟩:=bind_some h
  refine Z2 (k:=3) (m:=0) (L':=[]) (rest:=[((3,0),.one (z7 v8))]) (R':=.tup [i6 v9.1,i6 v9.2]) [] (hrec4 h12) rfl rfl rfl (AI (VS rfl) TT) TT (xl _ rfl) TT rfl ?_
  refine p0 (e:=[(2,i6 v3),(3,i6 v4),(6,i6 v9.1),(7,i6 v9.2),(9,.isl 5 (a0.fE.map ze) false),(10,i6 ((a0.fE.map ze).length:Int)),(11,i6 v5)]) (L:=[]) (n:=3) ?_ ?_
  ·exact y7 (M:=[]) rfl (S4 rfl rfl rfl rfl (S2 rfl rfl (AI (VS rfl) TT))) TT
  refine SR ?_
  refine J1 ?_
  refine p0 (e:=[(2,i6 (W (v3+v9.1))),(3,i6 (if v9.2 > v4 then v9.2 else v4)),(9,.isl 5 (a0.fE.map ze) false),(10,i6 ((a0.fE.map ze).length:Int)),(11,i6 v5)]) (L:=[]) (n:=3) ?_ ?_
  ·exact y7 (M:=[]) rfl (S4 rfl rfl rfl rfl (AI (VS rfl) TT)) TT
  refine J1 ?_
  cases h
  exact AI rfl (y7 (M:=[]) rfl (S4 rfl rfl rfl rfl (AI (VS rfl) TT)) TT)
 ·have h:=zk h9 h
  refine Xh ?_
  obtain⟨o,hq,rfl⟩:=p3.1 h
  replace h:=hq;clear hq
  refine AI nofun ?_
  refine p0 ?_ (zeu hrec4 h)
  exact y7 (M:=[]) rfl (S2 rfl rfl TT) TT
theorem zcp{rec4:GJ→Option (Int×Int)}(hrec4:Hr4 rec4){a0:GJ}{v3:Int}{v4:Int}{v5:Int}{m:Option Nat}{o:(Int×Int)}(h:qy rec4 m a0 v3 v4 v5=some o) :
 LWp Tryd.prog Xc 3 (.loop z7k) (x4 0 (Yk Tryd.prog Xc 3 z1z (z6b a0 o))) [(2,i6 v3),(3,i6 v4),(9,.isl 5 (a0.fE.map ze) false),(10,i6 ((a0.fE.map ze).length:Int)),(11,i6 v5)] [] 3:=
 wy (m:=m) (s:=((v3,v4,v5):(Int×Int×Int))) (r:=o) (fun(s:(Int×Int×Int))=>yp rec4 m a0 s.1 s.2.1 s.2.2) (z0m a0) (z31 a0) (z5a a0) (fun s o h=>z9v hrec4 h) h
def qr(rec4:GJ→Option (Int×Int))(m:Option Nat)(a0:GJ):Option (Int×Int):=
 qy rec4 m a0 1 0 0
theorem zd4{rec4:GJ→Option (Int×Int)}(hrec4:Hr4 rec4){a0:GJ}{m:Option Nat}{o:Int×Int}(h:qr rec4 m a0=some o):LWp Tryd.prog Xc 3 zhc (z6b a0 o) (zu 0 [.agg (z7 a0)]) [] 3:=by
 unfold qr at h
 refine SR ?_
 refine SR ?_
 refine wn ?_
 refine SR ?_
 refine p0 (e:=[(2,i6 1),(3,i6 0),(9,.isl 5 (a0.fE.map ze) false),(10,i6 ((a0.fE.map ze).length:Int)),(11,i6 0)]) (L:=[]) (n:=3) ?_ ?_
 ·exact y7 (M:=[]) rfl (S4 rfl rfl rfl rfl (AI (VS rfl) TT)) TT
 refine xk ?_
 refine p0 ?_ (zcp hrec4 h)
 exact y7 (M:=[]) rfl (S4 rfl rfl rfl rfl (AI (VS rfl) TT)) TT
theorem zhp{rec4:GJ→Option (Int×Int)}(hrec4:Hr4 rec4){a0:GJ}{m:Option Nat}{o:Int×Int}(h:qr rec4 m a0=some o):ACalls Tryd.prog 59 [.agg (z7 a0)] [] 3 (u0 3 (.tup [i6 o.1,i6 o.2]) []):=Z0 (L:=zsj) zr1 zl4 (NB rfl) (zd4 hrec4 h)
def xb(m:Option Nat):Nat→GJ→Option (Int×Int)
 |0=>fun _=>none
 |k+1=>qr (xb m k) m
def kx(m:Option Nat)(a0:GJ):Option (Int×Int):=zl5 m (fun k=>xb m k a0)
theorem zb0{m:Option Nat}:∀ (k:Nat) {a0:GJ} {o:Int×Int},xb m k a0=some o→ACalls Tryd.prog 59 [.agg (z7 a0)] [] 3 (u0 3 (.tup [i6 o.1,i6 o.2]) [])
 |0,_,_,h=>nomatch h
 |k+1,_,_,h=>zhp (fun h=>zb0 k h) h
theorem zps{a0:GJ}{m:Option Nat}{o:Int×Int}(h:kx m a0=some o):ACalls Tryd.prog 59 [.agg (z7 a0)] [] 3 (u0 3 (.tup [i6 o.1,i6 o.2]) []):=(Jg h).elim fun k h=>zb0 k h
def Z6(m:Option Nat)(a0:GJ):Option (Int×Int):=qr (kx m) m a0
theorem y3x{a0:GJ}{m:Option Nat}{o:Int×Int}(h:Z6 m a0=some o):PFn Tryd.prog 59 [.agg (z7 a0)] (.tup [i6 o.1,i6 o.2]):=
 ⟨rfl,_,Z2 (k:=3) (m:=0) (L':=[]) (rest:=[]) (R':=.tup [i6 o.1,i6 o.2]) [] (zhp zps h) rfl rfl rfl (AI (VS rfl) TT) TT (xl _ rfl) TT rfl ⟨rfl,rfl,rfl⟩⟩
def zmi:LCode:=(.seq (.region [Qo 10 (.bin .lss (.t 9) (.t 8))])
 (.seq (.cond (.t 10)
  .skip
  (.exit 0))
 (.seq (.block 1
  (.seq (.region [Qm 11 9,
   Qo 12 (.iaddr 1 (.t 7) (.t 9)),
   Ql 13 1 12,
   Qm 5 11,
   Qm 6 13])
  (.seq (.region [Qm 14 1,
   Qm 15 6,
   Qo 16 (.bin .eql (.t 14) (.t 15))])
  (.cond (.t 16)
   (.seq (.region [Qm 17 5,
    Qm 4 17])
   .ret)
   .skip))))
 (.region [Qo 18 (.bin .add (.t 9) (.c (i6 1))),
  Qm 9 18]))))
def zig:LCode:=(.seq (.region [Qo 4 (.mv (.c (i6 (-1))))])
 .ret)
def zx1:LCode:=(.seq (.region [Qi 4 0])
 (.seq (.seq (.region [Qm 7 0,
  Qo 8 (.len false (.t 7)),
  Qi 9 0])
 (.block 0
  (.loop
   zmi)))
 zig))
def K7:Lay:=⟨19,[],false⟩
def zme:List LRes:=[.t 4]
def y4u:LFn:=⟨2,K7,zx1,zme⟩
theorem y1b:wm Tryd.prog [] 85=some y4u:=by kernel_rfl
theorem zyn:Zc Tryd.prog 85:=⟨_,Tryd.func85,rfl,rfl⟩
def ztr(a0:List (List UInt8))(a1:List UInt8)(o:Int):Exit→Env→AHeap→Nat→Prop:=Y2 zme (vi (i6 o))
def z5o(a0:List (List UInt8))(a1:List UInt8)(s:Int):Env:=[(1,.str a1),(7,.isl 1 (a0.map za) false),(8,i6 ((a0.map za).length:Int)),(9,i6 s)]
def z96(a0:List (List UInt8))(a1:List UInt8)(s:Int):AHeap:=[]
def zie(a0:List (List UInt8))(a1:List UInt8)(o:Int):Exit→Env→AHeap→Nat→Prop:=(x4 0 (Yk Tryd.prog K7 0 zig (ztr a0 a1 o)))
def ku(m:Option Nat):Option Int:=
 some (-1)
def ym(m:Option Nat)(a0:List (List UInt8))(a1:List UInt8)(v1:Int):Option (Int ⊕ Int):=
 if(decide (v1<((a0.map za).length:Int)))=true then
  if(0:Int)≤v1∧v1<((a0.map za).length:Int) then
  if(a1==(a0.getD v1.toNat default))=true then
   p6 p9 (
    some v1)
  else
   some (.inl (W (v1+1)))
  else none
 else
  p6 p9 (
   ku m)
def xy(m:Option Nat)(a0:List (List UInt8))(a1:List UInt8)(v1:Int):Option Int:=Y5 m (fun(s:Int)=>ym m a0 a1 s) v1
theorem zo7{a0:List (List UInt8)}{a1:List UInt8}{m:Option Nat}{o:Int}(h:ku m=some o) :
 LWp Tryd.prog K7 0 zig (ztr a0 a1 o) [] [] 0:=by
 unfold ku at h
 refine SR ?_
 refine wl ?_
 cases h
 exact AI TT (AI rfl (VS rfl))
theorem zin{a0:List (List UInt8)}{a1:List UInt8}{v1:Int}{m:Option Nat}{o:Int ⊕ Int}(h:ym m a0 a1 v1=some o) :
 LWp Tryd.prog K7 0 zmi (Z7 0 0 (z5o a0 a1) (z96 a0 a1) (zie a0 a1) o) [(1,.str a1),(7,.isl 1 (a0.map za) false),(8,i6 ((a0.map za).length:Int)),(9,i6 v1)] [] 0:=by
 unfold ym at h
 refine SR ?_
 refine wn ?_
 refine y4 (v:=(decide (v1<((a0.map za).length:Int)))) rfl TT (fun h7=>?_) (fun h7=>?_)
 ·have h:=zd h7 h
  refine x6 ?_
  refine wn ?_
  refine xk ?_
  refine SR ?_
  obtain⟨h8,h⟩:=zj h
  refine AI h8 ?_
  refine EX (za (a0.getD v1.toNat default)) (AI (jx za _ _ (uz za h8)) (AI (AI (Y1 h8) (NB rfl)) ?_))
  refine SR ?_
  refine p0 (e:=[(1,.str a1),(5,i6 v1),(7,.isl 1 (a0.map za) false),(8,i6 ((a0.map za).length:Int)),(9,i6 v1),(16,.bool (a1==(a0.getD v1.toNat default)))]) (L:=[]) (n:=0) ?_ ?_
  ·exact y7 (M:=[]) rfl (S4 rfl rfl rfl rfl (S2 rfl rfl TT)) TT
  refine y4 (v:=(a1==(a0.getD v1.toNat default))) rfl TT (fun h9=>?_) (fun h9=>?_)
  ·have h:=zd h9 h
   refine SR ?_
   refine wl ?_
   obtain⟨o,hq,rfl⟩:=p3.1 h
   replace h:=hq;clear hq
   refine AI nofun ?_
   cases h
   exact AI TT (AI rfl (VS rfl))
  ·have h:=zk h9 h
   refine x6 ?_
   refine J1 ?_
   cases h
   exact AI rfl (y7 (M:=[]) rfl (S4 rfl rfl rfl rfl TT) TT)
 ·have h:=zk h7 h
  refine Xh ?_
  obtain⟨o,hq,rfl⟩:=p3.1 h
  replace h:=hq;clear hq
  refine AI nofun ?_
  refine p0 ?_ (zo7 h)
  exact y7 (M:=[]) rfl TT TT
theorem zpb{a0:List (List UInt8)}{a1:List UInt8}{v1:Int}{m:Option Nat}{o:Int}(h:xy m a0 a1 v1=some o) :
 LWp Tryd.prog K7 0 (.loop zmi) (x4 0 (Yk Tryd.prog K7 0 zig (ztr a0 a1 o))) [(1,.str a1),(7,.isl 1 (a0.map za) false),(8,i6 ((a0.map za).length:Int)),(9,i6 v1)] [] 0:=
 wy (m:=m) (s:=(v1:Int)) (r:=o) (fun(s:Int)=>ym m a0 a1 s) (z5o a0 a1) (z96 a0 a1) (zie a0 a1) (fun s o h=>zin h) h
def w9(m:Option Nat)(a0:List (List UInt8))(a1:List UInt8):Option Int:=
 xy m a0 a1 0
theorem znj{a0:List (List UInt8)}{a1:List UInt8}{m:Option Nat}{o:Int}(h:w9 m a0 a1=some o):LWp Tryd.prog K7 0 zx1 (ztr a0 a1 o) (zu 0 [.isl 1 (a0.map za) false,.str a1]) [] 0:=by
 unfold w9 at h
 refine SR ?_
 refine wn ?_
 refine SR ?_
 refine xk ?_
 refine p0 ?_ (zpb h)
 exact y7 (M:=[]) rfl (S4 rfl rfl rfl rfl TT) TT
theorem y3e{a0:List (List UInt8)}{a1:List UInt8}{m:Option Nat}{o:Int}(h:w9 m a0 a1=some o):PFn Tryd.prog 85 [.isl 1 (a0.map za) false,.str a1] (i6 o):=p7 (L:=y4u) y1b zyn (NB rfl) rfl (znj h)
def zy8:LCode:=(.seq (.region [Qb 4])
 (.seq (.region [Qm 5 0,
  Qm 6 1,
  Qo 7 (.call 85 [(.t 5),(.t 6)]),
  Qo 8 (.bin .geq (.t 7) (.c (i6 0))),
  Qm 4 8])
 .ret))
def zsi:Lay:=⟨9,[],false⟩
def zpc:List LRes:=[.t 4]
def y40:LFn:=⟨2,zsi,zy8,zpc⟩
theorem y0s:wm Tryd.prog [] 78=some y40:=by kernel_rfl
theorem y29:Zc Tryd.prog 78:=⟨_,Tryd.func78,rfl,rfl⟩
def qz(m:Option Nat)(a0:List (List UInt8))(a1:List UInt8):Option Bool:=
 (w9 m a0 a1).bind fun v1=>
 some (decide (v1≥0))
def y7l(a0:List (List UInt8))(a1:List UInt8)(o:Bool):Exit→Env→AHeap→Nat→Prop:=Y2 zpc (vi (.bool o))
theorem zof{a0:List (List UInt8)}{a1:List UInt8}{m:Option Nat}{o:Bool}(h:qz m a0 a1=some o):LWp Tryd.prog zsi 0 zy8 (y7l a0 a1 o) (zu 0 [.isl 1 (a0.map za) false,.str a1]) [] 0:=by
 unfold qz at h
 refine SR ?_
 refine SR ?_
 obtain⟨v1,h1,h⟩:=bind_some h
 refine p5 (y3e h1) (S2 rfl rfl TT) ?_
 refine wl ?_
 cases h
 exact AI TT (AI rfl (VS rfl))
theorem y2y{a0:List (List UInt8)}{a1:List UInt8}{m:Option Nat}{o:Bool}(h:qz m a0 a1=some o):PFn Tryd.prog 78 [.isl 1 (a0.map za) false,.str a1] (.bool o):=p7 (L:=y40) y0s y29 (NB rfl) rfl (zof h)
def zoc:LCode:=(.seq (.region [Qo 8 (.bin .lss (.t 7) (.t 6))])
 (.seq (.cond (.t 8)
  .skip
  (.exit 0))
 (.seq (.block 1
  (.seq (.region [Qm 9 7,
   Qo 10 (.iaddr 1 (.t 5) (.t 7)),
   Ql 11 1 10,
   Qm 3 9,
   Qm 4 11])
  (.seq (.region [Qm 12 0,
   Qm 13 3,
   Qo 14 (.slSl 1 (.t 12) none (some (.t 13)) none),
   Qm 15 4,
   Qo 16 (.call 78 [(.t 14),(.t 15)])])
  (.cond (.t 16)
   (.seq (.region [Qo 2 (.mv (.c (.bool true)))])
   .ret)
   .skip))))
 (.region [Qo 17 (.bin .add (.t 7) (.c (i6 1))),
  Qm 7 17]))))
def zib:LCode:=(.seq (.region [Qb 2])
 .ret)
def zxx:LCode:=(.seq (.region [Qb 2])
 (.seq (.seq (.region [Qm 5 0,
  Qo 6 (.len false (.t 5)),
  Qi 7 0])
 (.block 0
  (.loop
   zoc)))
 zib))
def Vy:Lay:=⟨18,[],false⟩
def zsh:List LRes:=[.t 2]
def y4e:LFn:=⟨1,Vy,zxx,zsh⟩
theorem y04:wm Tryd.prog [] 71=some y4e:=by kernel_rfl
theorem zze:Zc Tryd.prog 71:=⟨_,Tryd.func71,rfl,rfl⟩
def ztw(a0:List (List UInt8))(o:Bool):Exit→Env→AHeap→Nat→Prop:=Y2 zsh (vi (.bool o))
def z55(a0:List (List UInt8))(s:Int):Env:=[(0,.isl 1 (a0.map za) false),(5,.isl 1 (a0.map za) false),(6,i6 ((a0.map za).length:Int)),(7,i6 s)]
def zay(a0:List (List UInt8))(s:Int):AHeap:=[]
def zgu(a0:List (List UInt8))(o:Bool):Exit→Env→AHeap→Nat→Prop:=(x4 0 (Yk Tryd.prog Vy 0 zib (ztw a0 o)))
def ua(m:Option Nat):Option Bool:=
 some false
def qi(m:Option Nat)(a0:List (List UInt8))(v2:Int):Option (Int ⊕ Bool):=
 if(decide (v2<((a0.map za).length:Int)))=true then
  if(0:Int)≤v2∧v2<((a0.map za).length:Int) then
  if(0:Int)≤v2∧v2≤((a0.map za).length:Int) then
  (qz m (a0.take v2.toNat) (a0.getD v2.toNat default)).bind fun v4=>
  if v4=true then
   p6 p9 (
    some true)
  else
   some (.inl (W (v2+1)))
  else none
  else none
 else
  p6 p9 (
   ua m)
def jt(m:Option Nat)(a0:List (List UInt8))(v2:Int):Option Bool:=Y5 m (fun(s:Int)=>qi m a0 s) v2
theorem zlf{a0:List (List UInt8)}{m:Option Nat}{o:Bool}(h:ua m=some o) :
 LWp Tryd.prog Vy 0 zib (ztw a0 o) [] [] 0:=by
 unfold ua at h
 refine SR ?_
 refine wl ?_
 cases h
 exact AI TT (AI rfl (VS rfl))
theorem zjj{a0:List (List UInt8)}{v2:Int}{m:Option Nat}{o:Int ⊕ Bool}(h:qi m a0 v2=some o) :
 LWp Tryd.prog Vy 0 zoc (Z7 0 0 (z55 a0) (zay a0) (zgu a0) o) [(0,.isl 1 (a0.map za) false),(5,.isl 1 (a0.map za) false),(6,i6 ((a0.map za).length:Int)),(7,i6 v2)] [] 0:=by
 unfold qi at h
 refine SR ?_
 refine wn ?_
 refine y4 (v:=(decide (v2<((a0.map za).length:Int)))) rfl TT (fun h11=>?_) (fun h11=>?_)
 ·have h:=zd h11 h
  refine x6 ?_
  refine wn ?_
  refine xk ?_
  refine SR ?_
  obtain⟨h12,h⟩:=zj h
  refine AI h12 ?_
  refine EX (za (a0.getD v2.toNat default)) (AI (jx za _ _ (uz za h12)) (AI (AI (Y1 h12) (NB rfl)) ?_))
  refine SR ?_
  obtain⟨h13,h⟩:=zj h
  refine EX (.isl 1 ((a0.take v2.toNat).map za) false) (AI (y5k za (slB za a0 _) rfl) (AI (AI rfl (AI (Int.le_refl _) h13)) ?_))
  obtain⟨v4,h14,h⟩:=bind_some h
  refine p5 (y2y h14) (S2 rfl rfl TT) ?_
  refine p0 (e:=[(0,.isl 1 (a0.map za) false),(5,.isl 1 (a0.map za) false),(6,i6 ((a0.map za).length:Int)),(7,i6 v2),(16,.bool v4)]) (L:=[]) (n:=0) ?_ ?_
  ·exact y7 (M:=[]) rfl (S4 rfl rfl rfl rfl (AI (VS rfl) TT)) TT
  refine y4 (v:=v4) rfl TT (fun h15=>?_) (fun h15=>?_)
  ·have h:=zd h15 h
   refine SR ?_
   refine wl ?_
   obtain⟨o,hq,rfl⟩:=p3.1 h
   replace h:=hq;clear hq
   refine AI nofun ?_
   cases h
   exact AI TT (AI rfl (VS rfl))
  ·have h:=zk h15 h
   refine x6 ?_
   refine J1 ?_
   cases h
   exact AI rfl (y7 (M:=[]) rfl (S4 rfl rfl rfl rfl TT) TT)
 ·have h:=zk h11 h
  refine Xh ?_
  obtain⟨o,hq,rfl⟩:=p3.1 h
  replace h:=hq;clear hq
  refine AI nofun ?_
  refine p0 ?_ (zlf h)
  exact y7 (M:=[]) rfl TT TT
theorem zky{a0:List (List UInt8)}{v2:Int}{m:Option Nat}{o:Bool}(h:jt m a0 v2=some o) :
 LWp Tryd.prog Vy 0 (.loop zoc) (x4 0 (Yk Tryd.prog Vy 0 zib (ztw a0 o))) [(0,.isl 1 (a0.map za) false),(5,.isl 1 (a0.map za) false),(6,i6 ((a0.map za).length:Int)),(7,i6 v2)] [] 0:=
 wy (m:=m) (s:=(v2:Int)) (r:=o) (fun(s:Int)=>qi m a0 s) (z55 a0) (zay a0) (zgu a0) (fun s o h=>zjj h) h
def vl(m:Option Nat)(a0:List (List UInt8)):Option Bool:=
 jt m a0 0
theorem zm6{a0:List (List UInt8)}{m:Option Nat}{o:Bool}(h:vl m a0=some o):LWp Tryd.prog Vy 0 zxx (ztw a0 o) (zu 0 [.isl 1 (a0.map za) false]) [] 0:=by
 unfold vl at h
 refine SR ?_
 refine wn ?_
 refine SR ?_
 refine xk ?_
 refine p0 ?_ (zky h)
 exact y7 (M:=[]) rfl (S4 rfl rfl rfl rfl TT) TT
theorem y3b{a0:List (List UInt8)}{m:Option Nat}{o:Bool}(h:vl m a0=some o):PFn Tryd.prog 71 [.isl 1 (a0.map za) false] (.bool o):=p7 (L:=y4e) y04 zze (NB rfl) rfl (zm6 h)
end
end Go.Proofs.YtlilpmnmedmjaaaDoor
