/-
  Own text GenA of this claim: what functions of the given program compute, in plain Lean, and the proof; no condition.
-/
import Derived.Test.YtlilpmnmedmjaaaGreatDoorChecked
import Derived.Test.YtlilpmnmedmjaaaGreatDoorFxN
import Derived.Test.YtlilpmnmedmjaaaGreatDoorFxMd
import Derived.Test.YtlilpmnmedmjaaaGreatDoorFxLg
import Derived.Test.YtlilpmnmedmjaaaGreatDoorFxBw
import Derived.Test.YtlilpmnmedmjaaaGreatDoorFxSi
import Derived.Test.YtlilpmnmedmjaaaGreatDoorLib
import Derived.Test.YtlilpmnmedmjaaaGreatDoorEv
import Derived.Test.YtlilpmnmedmjaaaGreatDoorFxAb
import Derived.KernelRfl
namespace Go.Proofs.YtlilpmnmedmjaaaGreatDoor
open Go.Fx
set_option linter.unusedVariables false
set_option maxHeartbeats 4000000
structure GJ where
 fK:Int
 fN:Int
 fT:List UInt8
 fA:List (List UInt8)
 fE:List (List AVal)
instance:Inhabited GJ:=⟨(GJ.mk 0 0 [] [] [])⟩
structure GM where
 fK:Int
 fI:Int
 fC:Int
 fM:List UInt8
 fB:GJ
instance:Inhabited GM:=⟨(GM.mk 0 0 0 [] (GJ.mk 0 0 [] [] []))⟩
structure G_Step where
 f_Do:Int
 f_A:Int
 f_B:Int
instance:Inhabited G_Step:=⟨(G_Step.mk 0 0 0)⟩
def ze(r:List AVal):List AVal:=r
def za(x:List UInt8):List AVal:=[.str x]
def zw(x:GM):List AVal:=[.int .i64 x.fK,.int .i64 x.fI,.int .i64 x.fC,.str x.fM,.int .i64 x.fB.fK,.int .i64 x.fB.fN,.str x.fB.fT,.isl 1 (x.fB.fA.map za) false,.isl 5 (x.fB.fE.map ze) false]
def z7(x:G_Step):List AVal:=[.int .i64 x.f_Do,.int .i64 x.f_A,.int .i64 x.f_B]
def y4(x:Int):List AVal:=[.int .i64 x]
def z6(x:GJ):List AVal:=[.int .i64 x.fK,.int .i64 x.fN,.str x.fT,.isl 1 (x.fA.map za) false,.isl 5 (x.fE.map ze) false]
theorem zxs(x:GJ):AVal.nid.nidL (z6 x)=true∧∀y∈z6 x,y.imm=some y:=⟨rfl,by simp[z6,AVal.imm]⟩
noncomputable def Zo(r:List AVal):Option GJ:=by classical exact if h:∃x,r=z6 x then some (Classical.choose h) else none
theorem zfp{r:List AVal}{x:GJ}(h:Zo r=some x):r=z6 x:=by
 unfold Zo at h
 split at h
 ·rename_i hx
  simp only[Option.some.injEq] at h
  rw[←h]
  exact Classical.choose_spec hx
 ·cases h
theorem u4{l:List (List AVal)}{i:Nat}{x:GJ}(h:i<l.length)(hx:Zo (l.getD i default)=some x):(l.map ze).getD i []=z6 x:=(um ze _ _ h).trans (zfp hx)
def z8(x:Int):AVal:=i6 x
theorem zb(x:Int):(z8 x).nid=true:=rfl
def Vi(x:List UInt8):AVal:=.str x
theorem y13(x:List UInt8):(Vi x).nid=true:=rfl
def Jm(x y:List UInt8):Bool:=(x==y&&true)
theorem z5s(x y:List UInt8):X6 [.str] (Vi x) (Vi y)=some (Jm x y):=rfl
def wt(x y:Int):Bool:=(x==y&&true)
theorem Xn(x y:Int):X6 [.int] (z8 x) (z8 y)=some (wt x y):=rfl
theorem y1n(x:List UInt8):AVal.nid.nidL (za x)=true∧∀y∈za x,y.imm=some y:=⟨rfl,by simp[za,AVal.imm]⟩
theorem zqn(x:GM):AVal.nid.nidL (zw x)=true∧∀y∈zw x,y.imm=some y:=⟨rfl,by simp[zw,AVal.imm]⟩
theorem y0u(x:G_Step):AVal.nid.nidL (z7 x)=true∧∀y∈z7 x,y.imm=some y:=⟨rfl,by simp[z7,AVal.imm]⟩
theorem y1m(x:Int):AVal.nid.nidL (y4 x)=true∧∀y∈y4 x,y.imm=some y:=⟨rfl,by simp[y4,AVal.imm]⟩
def xi(m:Option Nat):Option (Bool):=some true
theorem zya{m:Option Nat}{o:Bool}(h:xi m=some o):PFn Tryz.prog 4 [] (.bool o):=by
 cases h
 exact zyf
def zof:LCode:=(.seq (.region [Qo 0 (.mv (.c (.val (.pointer none))))])
 (.seq (.region [Qo 1 (.mkmap none),
  Qo 2 (.build [(i6 0),(.val (.map none))] [(1,1,(.t 1))]),
  Qo 3 (.box (.t 2)),
  Qm 0 3])
 .ret))
def ze9:Lay:=⟨4,[],false⟩
def zdt:List LRes:=[.t 0]
def zsu:LFn:=⟨0,ze9,zof,zdt⟩
theorem zq1:wb Tryz.prog [] 5=some zsu:=by kernel_rfl
theorem zph:uk Tryz.prog 5:=⟨_,Tryz.func5,rfl,rfl⟩
noncomputable def kc(m:Option Nat):Option Unit:=
 some ()
def zyn(o:Unit):Exit→Env→AHeap→Nat→Prop:=Zz zdt (Xx 3 5 (.ptr (3,0) 0 0) [((3,0),.one [i6 0,.map (4,0)]),((4,0),.amap (([]:List (Int×Int)).map (em z8 z8)))])
theorem zfn{m:Option Nat}{o:Unit}(h:kc m=some o):LWp Tryz.prog ze9 3 zof (zyn o) (ye 0 []) [] 3:=by
 unfold kc at h
 refine zc (zh ?_)
 refine zc (zh ?_)
 refine wo ?_
 cases h
 exact AI TT (Km (n':=5) [((3,0),(4,0)),((4,0),(3,0))] [] rfl rfl (Vw.ptr _ _ _ _ rfl) (AI (AI rfl (BVw.oneL (AI (VS rfl) (AI (Vw.map _ _ rfl) TT)))) (AI (AI rfl (BVw.ofMap z8 z8 zb ([]:List (Int×Int)))) TT)))
theorem zwp{m:Option Nat}{o:Unit}(h:kc m=some o):ACalls Tryz.prog 5 [] [] 3 (kg 5 (.ptr (3,0) 0 0) [((3,0),.one [i6 0,.map (4,0)]),((4,0),.amap (([]:List (Int×Int)).map (em z8 z8)))]):=Yw (L:=zsu) zq1 zph (NB rfl) (zfn h)
def zy7:LCode:=(.seq (.region [Qm 14 5,
 Qm 4 14])
 .ret)
def zzw:LCode:=(.seq (.region [Qi 4 0])
 (.seq (.region [Qm 6 0,
  Qm 7 1,
  Qo 8 (.bin .rem (.t 6) (.t 7)),
  Qm 5 8])
 (.seq (.seq (.region [Qm 9 5,
  Qo 10 (.bin .lss (.t 9) (.c (i6 0)))])
 (.cond (.t 10)
  (.region [Qm 11 5,
   Qm 12 1,
   Qo 13 (.bin .add (.t 11) (.t 12)),
   Qm 5 13])
  .skip))
 zy7)))
def zhy:Lay:=⟨15,[],false⟩
def ztn:List LRes:=[.t 4]
def y39:LFn:=⟨2,zhy,zzw,ztn⟩
theorem y0f:wb Tryz.prog [] 6=some y39:=by kernel_rfl
theorem y0h:uk Tryz.prog 6:=⟨_,Tryz.func6,rfl,rfl⟩
noncomputable def wn(m:Option Nat)(v1:Int):Option Int:=
 some v1
def y3b(a0:Int)(a1:Int)(o:Int):Exit→Env→AHeap→Nat→Prop:=Zz ztn (jo (i6 o))
theorem zdu{a0:Int}{a1:Int}{v1:Int}{m:Option Nat}{o:Int}(h:wn m v1=some o) :
 LWp Tryz.prog zhy 0 zy7 (y3b a0 a1 o) [(5,i6 v1)] [] 0:=by
 unfold wn at h
 refine zc (zh ?_)
 refine wo ?_
 cases h
 exact AI TT (AI rfl (VS rfl))
noncomputable def xm(m:Option Nat)(a0:Int)(a1:Int):Option Int:=
 if a1≠0 then
 if(decide ((a0.tmod a1)<0))=true then
  wn m (W ((a0.tmod a1)+a1))
 else
  wn m (a0.tmod a1)
 else none
theorem zrg{a0:Int}{a1:Int}{m:Option Nat}{o:Int}(h:xm m a0 a1=some o):LWp Tryz.prog zhy 0 zzw (y3b a0 a1 o) (ye 0 [i6 a0,i6 a1]) [] 0:=by
 unfold xm at h
 refine zc (zh ?_)
 refine zc (zh ?_)
 obtain⟨h1,h⟩:=qv h
 refine AI h1 ?_
 refine zc ?_
 refine zc (zh ?_)
 refine yp (v:=(decide ((a0.tmod a1)<0))) rfl TT (fun h2=>?_) (fun h2=>?_)
 ·have h:=zj h2 h
  refine zh ?_
  refine LWp.sim ?_ (zdu h)
  exact qq (M:=[]) rfl (AI (VS rfl) TT) TT
 ·have h:=zo h2 h
  refine xr ?_
  refine LWp.sim ?_ (zdu h)
  exact qq (M:=[]) rfl (AI (VS rfl) TT) TT
theorem zy3{a0:Int}{a1:Int}{m:Option Nat}{o:Int}(h:xm m a0 a1=some o):PFn Tryz.prog 6 [i6 a0,i6 a1] (i6 o):=PFn.ofFnW (L:=y39) y0f y0h (NB rfl) rfl (zrg h)
def zts:LCode:=(.seq (.region [Qm 34 4,
 Qo 35 (.bin .eql (.t 34) (.c (.int .u8 237)))])
 (.cond (.t 35)
  (.region [Qo 6 (.mv (.c (.int .u8 159)))])
  .skip))
def ztf:LCode:=(.seq (.region [Qm 45 4,
 Qo 46 (.bin .eql (.t 45) (.c (.int .u8 244)))])
 (.cond (.t 46)
  (.region [Qo 6 (.mv (.c (.int .u8 143)))])
  .skip))
def zla:LCode:=(.seq (.region [Qo 51 (.bin .lss (.t 50) (.t 49))])
 (.seq (.cond (.t 51)
  .skip
  (.exit 3))
 (.seq (.block 4
  (.seq (.seq (.region [Qm 52 3,
   Qm 53 0,
   Qo 54 (.len true (.t 53)),
   Qo 55 (.bin .geq (.t 52) (.t 54)),
   Qm 56 55,
   Qn 57 0 (56,false),
   Qn 58 3 (56,false),
   Qg 59 (.idxS (.t 57) (.t 58)) (56,false),
   Qn 60 5 (56,false),
   Qg 61 (.bin .lss (.t 59) (.t 60)) (56,false),
   Qo 62 (.pick (.t 56) (.c (.bool true)) (.t 61)),
   Qm 63 62,
   Qn 64 0 (63,false),
   Qn 65 3 (63,false),
   Qg 66 (.idxS (.t 64) (.t 65)) (63,false),
   Qn 67 6 (63,false),
   Qg 68 (.bin .gtr (.t 66) (.t 67)) (63,false),
   Qo 69 (.pick (.t 63) (.c (.bool true)) (.t 68))])
  (.cond (.t 69)
   (.seq (.region [Qb 2])
   .ret)
   .skip))
  (.seq (.region [Qo 5 (.mv (.c (.int .u8 128))),
   Qo 6 (.mv (.c (.int .u8 191)))])
  (.region [Qm 70 3,
   Qo 71 (.bin .add (.t 70) (.c (i6 1))),
   Qm 3 71]))))
 (.region [Qo 72 (.bin .add (.t 50) (.c (i6 1))),
  Qm 50 72]))))
def zew:LCode:=(.seq (.region [Qm 47 3,
 Qo 48 (.bin .add (.t 47) (.c (i6 1))),
 Qm 3 48])
 (.seq (.region [Qm 49 7,
  Qi 50 0])
 (.block 3
  (.loop
   zla))))
def zlf:LCode:=(.seq (.seq (.region [Qm 8 3,
 Qm 9 0,
 Qo 10 (.len true (.t 9)),
 Qo 11 (.bin .lss (.t 8) (.t 10))])
 (.cond (.t 11)
  .skip
  (.exit 0)))
 (.block 1
  (.seq (.region [Qm 12 0,
   Qm 13 3,
   Qo 14 (.idxS (.t 12) (.t 13)),
   Qm 4 14])
  (.seq (.region [Qo 5 (.mv (.c (.int .u8 128))),
   Qo 6 (.mv (.c (.int .u8 191))),
   Qi 7 0])
  (.seq (.block 2
   (.seq (.region [Qm 16 4,
    Qo 17 (.bin .lss (.t 16) (.c (.int .u8 128))),
    Qm 15 17])
   (.cond (.t 15)
    .skip
    (.seq (.region [Qm 19 4,
     Qo 20 (.bin .geq (.t 19) (.c (.int .u8 194))),
     Qm 21 20,
     Qn 22 4 (21,true),
     Qg 23 (.bin .leq (.t 22) (.c (.int .u8 223))) (21,true),
     Qp 24 21 23,
     Qm 18 24])
    (.cond (.t 18)
     (.region [Qi 7 1])
     (.seq (.region [Qm 26 4,
      Qo 27 (.bin .geq (.t 26) (.c (.int .u8 224))),
      Qm 28 27,
      Qn 29 4 (28,true),
      Qg 30 (.bin .leq (.t 29) (.c (.int .u8 239))) (28,true),
      Qp 31 28 30,
      Qm 25 31])
     (.cond (.t 25)
      (.seq (.region [Qi 7 2])
      (.seq (.seq (.region [Qm 32 4,
       Qo 33 (.bin .eql (.t 32) (.c (.int .u8 224)))])
      (.cond (.t 33)
       (.region [Qo 5 (.mv (.c (.int .u8 160)))])
       .skip))
      zts))
      (.seq (.region [Qm 37 4,
       Qo 38 (.bin .geq (.t 37) (.c (.int .u8 240))),
       Qm 39 38,
       Qn 40 4 (39,true),
       Qg 41 (.bin .leq (.t 40) (.c (.int .u8 244))) (39,true),
       Qp 42 39 41,
       Qm 36 42])
      (.cond (.t 36)
       (.seq (.region [Qi 7 3])
       (.seq (.seq (.region [Qm 43 4,
        Qo 44 (.bin .eql (.t 43) (.c (.int .u8 240)))])
       (.cond (.t 44)
        (.region [Qo 5 (.mv (.c (.int .u8 144)))])
        .skip))
       ztf))
       (.seq (.region [Qb 2])
       .ret))))))))))
  zew)))))
def zdm:LCode:=(.seq (.region [Qo 2 (.mv (.c (.bool true)))])
 .ret)
def zsc:LCode:=(.seq (.region [Qb 2])
 (.seq (.seq (.region [Qi 3 0])
 (.block 0
  (.loop
   zlf)))
 zdm))
def Zf:Lay:=⟨73,[],false⟩
def znz:List LRes:=[.t 2]
def y08:LFn:=⟨1,Zf,zsc,znz⟩
theorem zvb:wb Tryz.prog [] 56=some y08:=by kernel_rfl
theorem zud:uk Tryz.prog 56:=⟨_,Tryz.func56,rfl,rfl⟩
def zrf(a0:List UInt8)(o:Bool):Exit→Env→AHeap→Nat→Prop:=Zz znz (jo (.bool o))
def Zp(a0:List UInt8)(s:Int):Env:=[(0,.str a0),(3,i6 s)]
def Yo(a0:List UInt8)(s:Int):AHeap:=[]
def J4(a0:List UInt8)(o:Bool):Exit→Env→AHeap→Nat→Prop:=(xa 0 (Ya Tryz.prog Zf 0 zdm (zrf a0 o)))
noncomputable def qd(m:Option Nat)(a0:List UInt8)(v22:Int)(v25:Int)(v26:Int)(v27:Int)(v28:Int):Option ((Int×Int×Int×Int) ⊕ (Int ⊕ Bool)):=
 if(decide (v28<v22))=true then
  if(((decide (v25≥(a0.length:Int)))==false)=true→(0:Int)≤v25∧v25<(a0.length:Int)) then
  if((((decide (v25≥(a0.length:Int))) || (decide ((((a0.getD v25.toNat 0).toNat:Nat):Int)<v26)))==false)=true→(0:Int)≤v25∧v25<(a0.length:Int)) then
  if(((decide (v25≥(a0.length:Int))) || (decide ((((a0.getD v25.toNat 0).toNat:Nat):Int)<v26))) || (decide ((((a0.getD v25.toNat 0).toNat:Nat):Int) > v27)))=true then
   Option.map Sum.inr (
    Option.map Sum.inr (
     some false))
  else
   some (.inl ((W (v25+1)),128,191,(W (v28+1))))
  else none
  else none
 else
  Option.map Sum.inr (
   some (.inl v25))
noncomputable def x6(m:Option Nat)(a0:List UInt8)(v22:Int)(v25:Int)(v26:Int)(v27:Int)(v28:Int):Option (Int ⊕ Bool):=Y1 m (fun(s:(Int×Int×Int×Int))=>qd m a0 v22 s.1 s.2.1 s.2.2.1 s.2.2.2) (v25,v26,v27,v28)
noncomputable def y3(m:Option Nat)(a0:List UInt8)(v10:Int)(v22:Int)(v23:Int)(v24:Int):Option (Int ⊕ Bool):=
 x6 m a0 v22 (W (v10+1)) v23 v24 0
noncomputable def x5(m:Option Nat)(a0:List UInt8)(v10:Int)(v20:Int):Option (Int ⊕ Bool):=
 if((((a0.getD v10.toNat 0).toNat:Nat):Int)==237)=true then
  y3 m a0 v10 2 v20 159
 else
  y3 m a0 v10 2 v20 191
def z3o(a0:List UInt8)(v22:Int)(s:(Int×Int×Int×Int)):Env:=[(0,.str a0),(3,i6 s.1),(5,.int .u8 s.2.1),(6,.int .u8 s.2.2.1),(49,i6 v22),(50,i6 s.2.2.2)]
def z8k(a0:List UInt8)(v22:Int)(s:(Int×Int×Int×Int)):AHeap:=[]
def zdk(a0:List UInt8)(o:(Int ⊕ Bool)):Exit→Env→AHeap→Nat→Prop:=(xa 3 (xa 1 (Z2 0 0 (Zp a0) (Yo a0) (J4 a0) o)))
theorem zgz{a0:List UInt8}{v22:Int}{v25:Int}{v26:Int}{v27:Int}{v28:Int}{m:Option Nat}{o:(Int×Int×Int×Int) ⊕ (Int ⊕ Bool)}(h:qd m a0 v22 v25 v26 v27 v28=some o) :
 LWp Tryz.prog Zf 0 zla (Z2 0 0 (z3o a0 v22) (z8k a0 v22) (zdk a0) o) [(0,.str a0),(3,i6 v25),(5,.int .u8 v26),(6,.int .u8 v27),(49,i6 v22),(50,i6 v28)] [] 0:=by
 unfold qd at h
 refine zc (zh ?_)
 refine zc ?_
 refine yp (v:=(decide (v28<v22))) rfl TT (fun h63=>?_) (fun h63=>?_)
 ·have h:=zj h63 h
  refine xr ?_
  refine zc ?_
  refine jj ?_
  refine zc ?_
  refine zc (zh ?_)
  obtain⟨h64,h⟩:=qv h
  refine AI (fun hp=>(AI (AI hp hp) (h64 hp))) ?_
  refine AI (fun hp=>(AI hp hp)) ?_
  refine AI (fun hc=>(bqf hc)) ?_
  obtain⟨h65,h⟩:=qv h
  refine AI (fun hp=>(AI (AI hp hp) (h65 hp))) ?_
  refine AI (fun hp=>(AI hp hp)) ?_
  refine AI (fun hc=>(bqf hc)) ?_
  refine LWp.sim (e:=[(0,.str a0),(3,i6 v25),(49,i6 v22),(50,i6 v28),(69,.bool (((decide (v25≥(a0.length:Int))) || (decide ((((a0.getD v25.toNat 0).toNat:Nat):Int)<v26))) || (decide ((((a0.getD v25.toNat 0).toNat:Nat):Int) > v27))))]) (L:=[]) (n:=0) ?_ ?_
  ·exact qq (M:=[]) rfl (S4 rfl rfl rfl rfl (AI (VS rfl) TT)) TT
  refine yp (v:=(((decide (v25≥(a0.length:Int))) || (decide ((((a0.getD v25.toNat 0).toNat:Nat):Int)<v26))) || (decide ((((a0.getD v25.toNat 0).toNat:Nat):Int) > v27)))) rfl TT (fun h66=>?_) (fun h66=>?_)
  ·have h:=zj h66 h
   refine zc (zh ?_)
   refine wo ?_
   obtain⟨o,hq,rfl⟩:=Option.map_eq_some_iff.1 h
   replace h:=hq;clear hq
   refine AI nofun ?_
   obtain⟨o,hq,rfl⟩:=Option.map_eq_some_iff.1 h
   replace h:=hq;clear hq
   refine AI nofun ?_
   cases h
   exact AI TT (AI rfl (VS rfl))
  ·have h:=zo h66 h
   refine xr ?_
   refine zc (zh ?_)
   refine zh ?_
   refine zh ?_
   cases h
   exact AI rfl (qq (M:=[]) rfl (S4 rfl rfl rfl rfl (S2 rfl rfl TT)) TT)
 ·have h:=zo h63 h
  refine Jr ?_
  obtain⟨o,hq,rfl⟩:=Option.map_eq_some_iff.1 h
  replace h:=hq;clear hq
  refine AI nofun ?_
  cases h
  exact AI rfl (qq (M:=[]) rfl (S2 rfl rfl TT) TT)
theorem zkq{a0:List UInt8}{v22:Int}{v25:Int}{v26:Int}{v27:Int}{v28:Int}{m:Option Nat}{o:(Int ⊕ Bool)}(h:x6 m a0 v22 v25 v26 v27 v28=some o) :
 LWp Tryz.prog Zf 0 (.loop zla) (xa 3 (xa 1 (Z2 0 0 (Zp a0) (Yo a0) (J4 a0) o))) [(0,.str a0),(3,i6 v25),(5,.int .u8 v26),(6,.int .u8 v27),(49,i6 v22),(50,i6 v28)] [] 0:=
 ww (m:=m) (s:=((v25,v26,v27,v28):(Int×Int×Int×Int))) (r:=o) (fun(s:(Int×Int×Int×Int))=>qd m a0 v22 s.1 s.2.1 s.2.2.1 s.2.2.2) (z3o a0 v22) (z8k a0 v22) (zdk a0) (fun s o h=>zgz h) h
theorem Qy{a0:List UInt8}{v10:Int}{v22:Int}{v23:Int}{v24:Int}{m:Option Nat}{o:(Int ⊕ Bool)}(h:y3 m a0 v10 v22 v23 v24=some o) :
 LWp Tryz.prog Zf 0 zew (xa 1 (Z2 0 0 (Zp a0) (Yo a0) (J4 a0) o)) [(0,.str a0),(3,i6 v10),(5,.int .u8 v23),(6,.int .u8 v24),(7,i6 v22)] [] 0:=by
 unfold y3 at h
 refine zc (zh ?_)
 refine zc (zh ?_)
 refine jj ?_
 refine LWp.sim ?_ (zkq h)
 exact qq (M:=[]) rfl (S4 rfl rfl rfl rfl (S2 rfl rfl TT)) TT
theorem z8o{a0:List UInt8}{v10:Int}{v20:Int}{m:Option Nat}{o:(Int ⊕ Bool)}(h:x5 m a0 v10 v20=some o) :
 LWp Tryz.prog Zf 0 zts (xa 2 (Ya Tryz.prog Zf 0 zew (xa 1 (Z2 0 0 (Zp a0) (Yo a0) (J4 a0) o)))) [(0,.str a0),(3,i6 v10),(4,.int .u8 (((a0.getD v10.toNat 0).toNat:Nat):Int)),(5,.int .u8 v20),(6,.int .u8 191),(7,i6 2)] [] 0:=by
 unfold x5 at h
 refine zc (zh ?_)
 refine yp (v:=((((a0.getD v10.toNat 0).toNat:Nat):Int)==237)) rfl TT (fun h51=>?_) (fun h51=>?_)
 ·have h:=zj h51 h
  refine zh ?_
  refine LWp.sim ?_ (Qy h)
  exact qq (M:=[]) rfl (S4 rfl rfl rfl rfl (AI (VS rfl) TT)) TT
 ·have h:=zo h51 h
  refine xr ?_
  refine LWp.sim ?_ (Qy h)
  exact qq (M:=[]) rfl (S4 rfl rfl rfl rfl (AI (VS rfl) TT)) TT
noncomputable def x8(m:Option Nat)(a0:List UInt8)(v10:Int)(v21:Int):Option (Int ⊕ Bool):=
 if((((a0.getD v10.toNat 0).toNat:Nat):Int)==244)=true then
  y3 m a0 v10 3 v21 143
 else
  y3 m a0 v10 3 v21 191
theorem za0{a0:List UInt8}{v10:Int}{v21:Int}{m:Option Nat}{o:(Int ⊕ Bool)}(h:x8 m a0 v10 v21=some o) :
 LWp Tryz.prog Zf 0 ztf (xa 2 (Ya Tryz.prog Zf 0 zew (xa 1 (Z2 0 0 (Zp a0) (Yo a0) (J4 a0) o)))) [(0,.str a0),(3,i6 v10),(4,.int .u8 (((a0.getD v10.toNat 0).toNat:Nat):Int)),(5,.int .u8 v21),(6,.int .u8 191),(7,i6 3)] [] 0:=by
 unfold x8 at h
 refine zc (zh ?_)
 refine yp (v:=((((a0.getD v10.toNat 0).toNat:Nat):Int)==244)) rfl TT (fun h54=>?_) (fun h54=>?_)
 ·have h:=zj h54 h
  refine zh ?_
  refine LWp.sim ?_ (Qy h)
  exact qq (M:=[]) rfl (S4 rfl rfl rfl rfl (AI (VS rfl) TT)) TT
 ·have h:=zo h54 h
  refine xr ?_
  refine LWp.sim ?_ (Qy h)
  exact qq (M:=[]) rfl (S4 rfl rfl rfl rfl (AI (VS rfl) TT)) TT
noncomputable def vh(m:Option Nat):Option Bool:=
 some true
noncomputable def qg(m:Option Nat)(a0:List UInt8)(v10:Int):Option (Int ⊕ Bool):=
 if(decide (v10<(a0.length:Int)))=true then
  if(0:Int)≤v10∧v10<(a0.length:Int) then
  if(decide ((((a0.getD v10.toNat 0).toNat:Nat):Int)<128))=true then
   y3 m a0 v10 0 128 191
  else
   if((decide ((((a0.getD v10.toNat 0).toNat:Nat):Int)≥194))&&(decide ((((a0.getD v10.toNat 0).toNat:Nat):Int)≤223)))=true then
    y3 m a0 v10 1 128 191
   else
    if((decide ((((a0.getD v10.toNat 0).toNat:Nat):Int)≥224))&&(decide ((((a0.getD v10.toNat 0).toNat:Nat):Int)≤239)))=true then
     if((((a0.getD v10.toNat 0).toNat:Nat):Int)==224)=true then
      x5 m a0 v10 160
     else
      x5 m a0 v10 128
    else
     if((decide ((((a0.getD v10.toNat 0).toNat:Nat):Int)≥240))&&(decide ((((a0.getD v10.toNat 0).toNat:Nat):Int)≤244)))=true then
      if((((a0.getD v10.toNat 0).toNat:Nat):Int)==240)=true then
       x8 m a0 v10 144
      else
       x8 m a0 v10 128
     else
      Option.map Sum.inr (
       some false)
  else none
 else
  Option.map Sum.inr (
   vh m)
noncomputable def jb(m:Option Nat)(a0:List UInt8)(v10:Int):Option Bool:=Y1 m (fun(s:Int)=>qg m a0 s) v10
theorem zgb{a0:List UInt8}{m:Option Nat}{o:Bool}(h:vh m=some o) :
 LWp Tryz.prog Zf 0 zdm (zrf a0 o) [] [] 0:=by
 unfold vh at h
 refine zc (zh ?_)
 refine wo ?_
 cases h
 exact AI TT (AI rfl (VS rfl))
theorem zfy{a0:List UInt8}{v10:Int}{m:Option Nat}{o:Int ⊕ Bool}(h:qg m a0 v10=some o) :
 LWp Tryz.prog Zf 0 zlf (Z2 0 0 (Zp a0) (Yo a0) (J4 a0) o) [(0,.str a0),(3,i6 v10)] [] 0:=by
 unfold qg at h
 refine zc ?_
 refine zc (zh ?_)
 refine yp (v:=(decide (v10<(a0.length:Int)))) rfl TT (fun h45=>?_) (fun h45=>?_)
 ·have h:=zj h45 h
  refine xr ?_
  refine jj ?_
  refine zc (zh ?_)
  obtain⟨h46,h⟩:=qv h
  refine AI h46 ?_
  refine LWp.sim (e:=[(0,.str a0),(3,i6 v10),(4,.int .u8 (((a0.getD v10.toNat 0).toNat:Nat):Int))]) (L:=[]) (n:=0) ?_ ?_
  ·exact qq (M:=[]) rfl (S2 rfl rfl (AI (VS rfl) TT)) TT
  refine zc (zh ?_)
  refine zc ?_
  refine jj ?_
  refine zc (zh ?_)
  refine yp (v:=(decide ((((a0.getD v10.toNat 0).toNat:Nat):Int)<128))) rfl TT (fun h47=>?_) (fun h47=>?_)
  ·have h:=zj h47 h
   refine xr ?_
   refine LWp.sim ?_ (Qy h)
   exact qq (M:=[]) rfl (S4 rfl rfl rfl rfl (AI (VS rfl) TT)) TT
  ·have h:=zo h47 h
   refine zc (zh ?_)
   refine AI (fun hp=>hp) ?_
   refine AI (fun hc=>(bqt hc)) ?_
   refine LWp.sim (e:=[(0,.str a0),(3,i6 v10),(4,.int .u8 (((a0.getD v10.toNat 0).toNat:Nat):Int)),(5,.int .u8 128),(6,.int .u8 191),(18,.bool ((decide ((((a0.getD v10.toNat 0).toNat:Nat):Int)≥194))&&(decide ((((a0.getD v10.toNat 0).toNat:Nat):Int)≤223))))]) (L:=[]) (n:=0) ?_ ?_
   ·exact qq (M:=[]) rfl (S4 rfl rfl rfl rfl (S2 rfl rfl TT)) TT
   refine yp (v:=((decide ((((a0.getD v10.toNat 0).toNat:Nat):Int)≥194))&&(decide ((((a0.getD v10.toNat 0).toNat:Nat):Int)≤223)))) rfl TT (fun h48=>?_) (fun h48=>?_)
   ·have h:=zj h48 h
    refine zh ?_
    refine LWp.sim ?_ (Qy h)
    exact qq (M:=[]) rfl (S4 rfl rfl rfl rfl (AI (VS rfl) TT)) TT
   ·have h:=zo h48 h
    refine zc (zh ?_)
    refine AI (fun hp=>hp) ?_
    refine AI (fun hc=>(bqt hc)) ?_
    refine yp (v:=((decide ((((a0.getD v10.toNat 0).toNat:Nat):Int)≥224))&&(decide ((((a0.getD v10.toNat 0).toNat:Nat):Int)≤239)))) rfl TT (fun h49=>?_) (fun h49=>?_)
    ·have h:=zj h49 h
     refine zc (zh ?_)
     refine LWp.sim (e:=[(0,.str a0),(3,i6 v10),(4,.int .u8 (((a0.getD v10.toNat 0).toNat:Nat):Int)),(5,.int .u8 128),(6,.int .u8 191),(7,i6 2)]) (L:=[]) (n:=0) ?_ ?_
     ·exact qq (M:=[]) rfl (S4 rfl rfl rfl rfl (S2 rfl rfl TT)) TT
     refine zc ?_
     refine zc (zh ?_)
     refine yp (v:=((((a0.getD v10.toNat 0).toNat:Nat):Int)==224)) rfl TT (fun h50=>?_) (fun h50=>?_)
     ·have h:=zj h50 h
      refine zh ?_
      refine LWp.sim ?_ (z8o h)
      exact qq (M:=[]) rfl (S4 rfl rfl rfl rfl (S2 rfl rfl TT)) TT
     ·have h:=zo h50 h
      refine xr ?_
      refine LWp.sim ?_ (z8o h)
      exact qq (M:=[]) rfl (S4 rfl rfl rfl rfl (S2 rfl rfl TT)) TT
    ·have h:=zo h49 h
     refine zc (zh ?_)
     refine AI (fun hp=>hp) ?_
     refine AI (fun hc=>(bqt hc)) ?_
     refine LWp.sim (e:=[(0,.str a0),(3,i6 v10),(4,.int .u8 (((a0.getD v10.toNat 0).toNat:Nat):Int)),(5,.int .u8 128),(6,.int .u8 191),(36,.bool ((decide ((((a0.getD v10.toNat 0).toNat:Nat):Int)≥240))&&(decide ((((a0.getD v10.toNat 0).toNat:Nat):Int)≤244))))]) (L:=[]) (n:=0) ?_ ?_
     ·exact qq (M:=[]) rfl (S4 rfl rfl rfl rfl (S2 rfl rfl TT)) TT
     refine yp (v:=((decide ((((a0.getD v10.toNat 0).toNat:Nat):Int)≥240))&&(decide ((((a0.getD v10.toNat 0).toNat:Nat):Int)≤244)))) rfl TT (fun h52=>?_) (fun h52=>?_)
     ·have h:=zj h52 h
      refine zc (zh ?_)
      refine zc ?_
      refine zc (zh ?_)
      refine yp (v:=((((a0.getD v10.toNat 0).toNat:Nat):Int)==240)) rfl TT (fun h53=>?_) (fun h53=>?_)
      ·have h:=zj h53 h
       refine zh ?_
       refine LWp.sim ?_ (za0 h)
       exact qq (M:=[]) rfl (S4 rfl rfl rfl rfl (S2 rfl rfl TT)) TT
      ·have h:=zo h53 h
       refine xr ?_
       refine LWp.sim ?_ (za0 h)
       exact qq (M:=[]) rfl (S4 rfl rfl rfl rfl (S2 rfl rfl TT)) TT
     ·have h:=zo h52 h
      refine zc (zh ?_)
      refine wo ?_
      obtain⟨o,hq,rfl⟩:=Option.map_eq_some_iff.1 h
      replace h:=hq;clear hq
      refine AI nofun ?_
      cases h
      exact AI TT (AI rfl (VS rfl))
 ·have h:=zo h45 h
  refine Jr ?_
  obtain⟨o,hq,rfl⟩:=Option.map_eq_some_iff.1 h
  replace h:=hq;clear hq
  refine AI nofun ?_
  refine LWp.sim ?_ (zgb h)
  exact qq (M:=[]) rfl TT TT
theorem zle{a0:List UInt8}{v10:Int}{m:Option Nat}{o:Bool}(h:jb m a0 v10=some o) :
 LWp Tryz.prog Zf 0 (.loop zlf) (xa 0 (Ya Tryz.prog Zf 0 zdm (zrf a0 o))) [(0,.str a0),(3,i6 v10)] [] 0:=
 ww (m:=m) (s:=(v10:Int)) (r:=o) (fun(s:Int)=>qg m a0 s) (Zp a0) (Yo a0) (J4 a0) (fun s o h=>zfy h) h
noncomputable def qk(m:Option Nat)(a0:List UInt8):Option Bool:=
 jb m a0 0
theorem zkj{a0:List UInt8}{m:Option Nat}{o:Bool}(h:qk m a0=some o):LWp Tryz.prog Zf 0 zsc (zrf a0 o) (ye 0 [.str a0]) [] 0:=by
 unfold qk at h
 refine zc (zh ?_)
 refine zc ?_
 refine zc (zh ?_)
 refine jj ?_
 refine LWp.sim ?_ (zle h)
 exact qq (M:=[]) rfl (S2 rfl rfl TT) TT
theorem zk6{a0:List UInt8}{m:Option Nat}{o:Bool}(h:qk m a0=some o):PFn Tryz.prog 56 [.str a0] (.bool o):=PFn.ofFnW (L:=y08) zvb zud (NB rfl) rfl (zkj h)
def zt0:LCode:=(.seq (.region [Qb 4])
 (.seq (.region [Qm 5 0,
  Qo 6 (.len true (.t 5)),
  Qm 7 1,
  Qo 8 (.bin .geq (.t 6) (.t 7)),
  Qm 9 8,
  Qn 10 0 (9,true),
  Qg 11 (.len true (.t 10)) (9,true),
  Qg 12 (.bin .leq (.t 11) (.c (i6 60))) (9,true),
  Qp 13 9 12,
  Qm 14 13,
  Qn 15 0 (14,true),
  Qg 16 (.call 56 [(.t 15)]) (14,true),
  Qp 17 14 16,
  Qm 4 17])
 .ret))
def zm8:Lay:=⟨18,[],false⟩
def znl:List LRes:=[.t 4]
def zzh:LFn:=⟨2,zm8,zt0,znl⟩
theorem zvy:wb Tryz.prog [] 32=some zzh:=by kernel_rfl
theorem zwl:uk Tryz.prog 32:=⟨_,Tryz.func32,rfl,rfl⟩
noncomputable def qm(m:Option Nat)(a0:List UInt8)(a1:Int):Option Bool:=
 (if(((decide ((a0.length:Int)≥a1))&&(decide ((a0.length:Int)≤60)))==true)=true then qk m a0 else some default).bind fun v1=>
 some (((decide ((a0.length:Int)≥a1))&&(decide ((a0.length:Int)≤60)))&&v1)
def y2j(a0:List UInt8)(a1:Int)(o:Bool):Exit→Env→AHeap→Nat→Prop:=Zz znl (jo (.bool o))
theorem zhi{a0:List UInt8}{a1:Int}{m:Option Nat}{o:Bool}(h:qm m a0 a1=some o):LWp Tryz.prog zm8 0 zt0 (y2j a0 a1 o) (ye 0 [.str a0,i6 a1]) [] 0:=by
 unfold qm at h
 refine zc (zh ?_)
 refine zc (zh ?_)
 refine AI (fun hp=>hp) ?_
 refine AI (fun hp=>hp) ?_
 refine AI (fun hc=>(bqt hc)) ?_
 obtain⟨v1,h1,h⟩:=bind_some h
 refine Or.inl (EX (.bool v1) (AI (fun hp=>AI hp (PFn.call (zk6 (zj hp h1)) (AI (VS rfl) TT) (AI rfl (AI rfl rfl)))) ?_))
 refine AI (fun hc=>(bqt hc)) ?_
 refine LWp.sim (e:=[(4,.bool (((decide ((a0.length:Int)≥a1))&&(decide ((a0.length:Int)≤60)))&&v1))]) (L:=[]) (n:=0) ?_ ?_
 ·exact qq (M:=[]) rfl (AI (VS rfl) TT) TT
 refine wo ?_
 cases h
 exact AI TT (AI rfl (VS rfl))
theorem zji{a0:List UInt8}{a1:Int}{m:Option Nat}{o:Bool}(h:qm m a0 a1=some o):PFn Tryz.prog 32 [.str a0,i6 a1] (.bool o):=PFn.ofFnW (L:=zzh) zvy zwl (NB rfl) rfl (zhi h)
def zm4:LCode:=(.seq (.region [Qo 15 (.bin .lss (.t 14) (.t 13))])
 (.seq (.cond (.t 15)
  .skip
  (.exit 0))
 (.seq (.block 1
  (.seq (.region [Qm 16 14,
   Qo 17 (.iaddr 1 (.t 12) (.t 14)),
   Ql 18 1 17,
   Qm 5 16,
   Qm 6 18])
  (.seq (.region [Qm 19 6,
   Qm 20 1,
   Qm 21 5,
   Qo 22 (.iaddr 1 (.t 20) (.t 21)),
   Ql 23 1 22,
   Qo 24 (.bin .neq (.t 19) (.t 23))])
  (.cond (.t 24)
   (.seq (.region [Qb 4])
   .ret)
   .skip))))
 (.region [Qo 25 (.bin .add (.t 14) (.c (i6 1))),
  Qm 14 25]))))
def zdq:LCode:=(.seq (.region [Qo 4 (.mv (.c (.bool true)))])
 .ret)
def zte:LCode:=(.seq (.region [Qb 4])
 (.seq (.seq (.region [Qm 7 0,
  Qo 8 (.len false (.t 7)),
  Qm 9 1,
  Qo 10 (.len false (.t 9)),
  Qo 11 (.bin .neq (.t 8) (.t 10))])
 (.cond (.t 11)
  (.seq (.region [Qb 4])
  .ret)
  .skip))
 (.seq (.seq (.region [Qm 12 0,
  Qo 13 (.len false (.t 12)),
  Qi 14 0])
 (.block 0
  (.loop
   zm4)))
 zdq)))
def Wp:Lay:=⟨26,[],false⟩
def zhw:List LRes:=[.t 4]
def y1c:LFn:=⟨2,Wp,zte,zhw⟩
theorem zxo:wb Tryz.prog [] 40=some y1c:=by kernel_rfl
theorem zue:uk Tryz.prog 40:=⟨_,Tryz.func40,rfl,rfl⟩
def zrt(a0:List (List UInt8))(a1:List (List UInt8))(o:Bool):Exit→Env→AHeap→Nat→Prop:=Zz zhw (jo (.bool o))
def z3h(a0:List (List UInt8))(a1:List (List UInt8))(s:Int):Env:=[(1,.isl 1 (a1.map za) false),(12,.isl 1 (a0.map za) false),(13,i6 ((a0.map za).length:Int)),(14,i6 s)]
def z8p(a0:List (List UInt8))(a1:List (List UInt8))(s:Int):AHeap:=[]
def zde(a0:List (List UInt8))(a1:List (List UInt8))(o:Bool):Exit→Env→AHeap→Nat→Prop:=(xa 0 (Ya Tryz.prog Wp 0 zdq (zrt a0 a1 o)))
noncomputable def wq(m:Option Nat):Option Bool:=
 some true
noncomputable def yl(m:Option Nat)(a0:List (List UInt8))(a1:List (List UInt8))(v1:Int):Option (Int ⊕ Bool):=
 if(decide (v1<((a0.map za).length:Int)))=true then
  if(0:Int)≤v1∧v1<((a0.map za).length:Int) then
  if(0:Int)≤v1∧v1<((a1.map za).length:Int) then
  if(!((a0.getD v1.toNat default)==(a1.getD v1.toNat default)))=true then
   Option.map Sum.inr (
    some false)
  else
   some (.inl (W (v1+1)))
  else none
  else none
 else
  Option.map Sum.inr (
   wq m)
noncomputable def xf(m:Option Nat)(a0:List (List UInt8))(a1:List (List UInt8))(v1:Int):Option Bool:=Y1 m (fun(s:Int)=>yl m a0 a1 s) v1
theorem zif{a0:List (List UInt8)}{a1:List (List UInt8)}{m:Option Nat}{o:Bool}(h:wq m=some o) :
 LWp Tryz.prog Wp 0 zdq (zrt a0 a1 o) [] [] 0:=by
 unfold wq at h
 refine zc (zh ?_)
 refine wo ?_
 cases h
 exact AI TT (AI rfl (VS rfl))
theorem zh1{a0:List (List UInt8)}{a1:List (List UInt8)}{v1:Int}{m:Option Nat}{o:Int ⊕ Bool}(h:yl m a0 a1 v1=some o) :
 LWp Tryz.prog Wp 0 zm4 (Z2 0 0 (z3h a0 a1) (z8p a0 a1) (zde a0 a1) o) [(1,.isl 1 (a1.map za) false),(12,.isl 1 (a0.map za) false),(13,i6 ((a0.map za).length:Int)),(14,i6 v1)] [] 0:=by
 unfold yl at h
 refine zc (zh ?_)
 refine zc ?_
 refine yp (v:=(decide (v1<((a0.map za).length:Int)))) rfl TT (fun h10=>?_) (fun h10=>?_)
 ·have h:=zj h10 h
  refine xr ?_
  refine zc ?_
  refine jj ?_
  refine zc (zh ?_)
  obtain⟨h11,h⟩:=qv h
  refine AI h11 ?_
  refine EX (za (a0.getD v1.toNat default)) (AI (um za _ _ (u5 za h11)) (AI (AI (Ze h11) (NB rfl)) ?_))
  refine zc (zh ?_)
  obtain⟨h12,h⟩:=qv h
  refine AI h12 ?_
  refine EX (za (a1.getD v1.toNat default)) (AI (um za _ _ (u5 za h12)) (AI (AI (Ze h12) (NB rfl)) ?_))
  refine LWp.sim (e:=[(1,.isl 1 (a1.map za) false),(12,.isl 1 (a0.map za) false),(13,i6 ((a0.map za).length:Int)),(14,i6 v1),(24,.bool (!((a0.getD v1.toNat default)==(a1.getD v1.toNat default))))]) (L:=[]) (n:=0) ?_ ?_
  ·exact qq (M:=[]) rfl (S4 rfl rfl rfl rfl (AI (VS rfl) TT)) TT
  refine yp (v:=(!((a0.getD v1.toNat default)==(a1.getD v1.toNat default)))) rfl TT (fun h13=>?_) (fun h13=>?_)
  ·have h:=zj h13 h
   refine zc (zh ?_)
   refine wo ?_
   obtain⟨o,hq,rfl⟩:=Option.map_eq_some_iff.1 h
   replace h:=hq;clear hq
   refine AI nofun ?_
   cases h
   exact AI TT (AI rfl (VS rfl))
  ·have h:=zo h13 h
   refine xr ?_
   refine zh ?_
   cases h
   exact AI rfl (qq (M:=[]) rfl (S4 rfl rfl rfl rfl TT) TT)
 ·have h:=zo h10 h
  refine Jr ?_
  obtain⟨o,hq,rfl⟩:=Option.map_eq_some_iff.1 h
  replace h:=hq;clear hq
  refine AI nofun ?_
  refine LWp.sim ?_ (zif h)
  exact qq (M:=[]) rfl TT TT
theorem zi8{a0:List (List UInt8)}{a1:List (List UInt8)}{v1:Int}{m:Option Nat}{o:Bool}(h:xf m a0 a1 v1=some o) :
 LWp Tryz.prog Wp 0 (.loop zm4) (xa 0 (Ya Tryz.prog Wp 0 zdq (zrt a0 a1 o))) [(1,.isl 1 (a1.map za) false),(12,.isl 1 (a0.map za) false),(13,i6 ((a0.map za).length:Int)),(14,i6 v1)] [] 0:=
 ww (m:=m) (s:=(v1:Int)) (r:=o) (fun(s:Int)=>yl m a0 a1 s) (z3h a0 a1) (z8p a0 a1) (zde a0 a1) (fun s o h=>zh1 h) h
noncomputable def yj(m:Option Nat)(a0:List (List UInt8))(a1:List (List UInt8)):Option Bool:=
 if(((a0.map za).length:Int) != ((a1.map za).length:Int))=true then
  some false
 else
  xf m a0 a1 0
theorem zis{a0:List (List UInt8)}{a1:List (List UInt8)}{m:Option Nat}{o:Bool}(h:yj m a0 a1=some o):LWp Tryz.prog Wp 0 zte (zrt a0 a1 o) (ye 0 [.isl 1 (a0.map za) false,.isl 1 (a1.map za) false]) [] 0:=by
 unfold yj at h
 refine zc (zh ?_)
 refine zc ?_
 refine zc (zh ?_)
 refine yp (v:=(((a0.map za).length:Int) != ((a1.map za).length:Int))) rfl TT (fun h1=>?_) (fun h1=>?_)
 ·have h:=zj h1 h
  refine zc (zh ?_)
  refine wo ?_
  cases h
  exact AI TT (AI rfl (VS rfl))
 ·have h:=zo h1 h
  refine xr ?_
  refine zc ?_
  refine zc (zh ?_)
  refine LWp.sim (e:=[(1,.isl 1 (a1.map za) false),(12,.isl 1 (a0.map za) false),(13,i6 ((a0.map za).length:Int)),(14,i6 0)]) (L:=[]) (n:=0) ?_ ?_
  ·exact qq (M:=[]) rfl (S4 rfl rfl rfl rfl TT) TT
  refine jj ?_
  refine LWp.sim ?_ (zi8 h)
  exact qq (M:=[]) rfl (S4 rfl rfl rfl rfl TT) TT
theorem y0b{a0:List (List UInt8)}{a1:List (List UInt8)}{m:Option Nat}{o:Bool}(h:yj m a0 a1=some o):PFn Tryz.prog 40 [.isl 1 (a0.map za) false,.isl 1 (a1.map za) false] (.bool o):=PFn.ofFnW (L:=y1c) zxo zue (NB rfl) rfl (zis h)
def z5v:LCode:=(.seq (.seq (.region [Qm 42 5,
 Qm 43 42,
 Qn 44 6 (43,true),
 Qe 45 4 2 (43,true),
 Qk 46 1 45 (43,true),
 Qg 47 (.len false (.t 46)) (43,true),
 Qg 48 (.bin .lss (.t 44) (.t 47)) (43,true),
 Qp 49 43 48])
 (.cond (.t 49)
  .skip
  (.exit 0)))
 (.seq (.block 1
  (.draw [⟨Qf 52 4 2,[]⟩,
   ⟨Ql 53 1 52,[]⟩,
   ⟨Qm 54 6,[]⟩,
   ⟨Qo 55 (.iaddr 5 (.t 53) (.t 54)),[]⟩,
   ⟨Qt 56 5 55,[]⟩,
   ⟨Qf 57 4 3,[]⟩,
   ⟨Ql 58 1 57,[]⟩,
   ⟨Qm 59 6,[]⟩,
   ⟨Qo 60 (.iaddr 5 (.t 58) (.t 59)),[]⟩,
   ⟨Qt 61 5 60,[]⟩,
   ⟨Qo 62 (.call 23 [(.t 56),(.t 61)]),[]⟩,
   ⟨Qm 5 62,[]⟩]))
 (.region [Qm 50 6,
  Qo 51 (.bin .add (.t 50) (.c (i6 1))),
  Qm 6 51])))
def z0q:LCode:=(.seq (.region [Qm 63 5,
 Qm 4 63])
 .ret)
def zd5:LCode:=(.seq (.region [Qo 2 (.box (.t 0)),
 Qo 3 (.box (.t 1)),
 Qb 4])
 (.seq (.region [Qf 7 0 2,
  Ql 8 1 7,
  Qf 9 0 3,
  Ql 10 1 9,
  Qo 11 (.bin .eql (.t 8) (.t 10)),
  Qm 12 11,
  Qe 13 1 2 (12,true),
  Qk 14 1 13 (12,true),
  Qe 15 1 3 (12,true),
  Qk 16 1 15 (12,true),
  Qg 17 (.bin .eql (.t 14) (.t 16)) (12,true),
  Qp 18 12 17,
  Qm 19 18,
  Qe 20 2 2 (19,true),
  Qk 21 1 20 (19,true),
  Qe 22 2 3 (19,true),
  Qk 23 1 22 (19,true),
  Qg 24 (.bin .eql (.t 21) (.t 23)) (19,true),
  Qp 25 19 24,
  Qm 26 25,
  Qe 27 3 2 (26,true),
  Qk 28 1 27 (26,true),
  Qe 29 3 3 (26,true),
  Qk 30 1 29 (26,true),
  Qg 31 (.call 40 [(.t 28),(.t 30)]) (26,true),
  Qp 32 26 31,
  Qm 33 32,
  Qe 34 4 2 (33,true),
  Qk 35 1 34 (33,true),
  Qg 36 (.len false (.t 35)) (33,true),
  Qe 37 4 3 (33,true),
  Qk 38 1 37 (33,true),
  Qg 39 (.len false (.t 38)) (33,true),
  Qg 40 (.bin .eql (.t 36) (.t 39)) (33,true),
  Qp 41 33 40,
  Qm 5 41])
 (.seq (.seq (.region [Qi 6 0])
 (.block 0
  (.loop
   z5v)))
 z0q)))
def Q0:Lay:=⟨64,[],false⟩
def z9m:List LRes:=[.t 4]
def znf:LFn:=⟨2,Q0,zd5,z9m⟩
theorem zn7:wb Tryz.prog [] 23=some znf:=by kernel_rfl
theorem zn8:uk Tryz.prog 23:=⟨_,Tryz.func23,rfl,rfl⟩
def z67(a0:GJ)(a1:GJ)(o:Bool):Exit→Env→AHeap→Nat→Prop:=Zz z9m (Xx 3 3 (.bool o) [])
def Ut(a0:GJ)(a1:GJ)(s:(Bool×Int)):Env:=[(2,.ptr (3,0) 0 0),(3,.ptr (4,0) 0 0),(5,.bool s.1),(6,i6 s.2)]
def z2b(a0:GJ)(a1:GJ)(s:(Bool×Int)):AHeap:=[((3,0),.one (z6 a0)),((4,0),.one (z6 a1))]
def z49(a0:GJ)(a1:GJ)(o:Bool):Exit→Env→AHeap→Nat→Prop:=(xa 0 (Ya Tryz.prog Q0 3 z0q (z67 a0 a1 o)))
noncomputable def q7(rec0:GJ→GJ→Option Bool)(m:Option Nat)(v5:Bool):Option Bool:=
 some v5
noncomputable def zq(rec0:GJ→GJ→Option Bool)(m:Option Nat)(a0:GJ)(a1:GJ)(v5:Bool)(v6:Int):Option ((Bool×Int) ⊕ Bool):=
 if(v5&&(decide (v6<((a0.fE.map ze).length:Int))))=true then
  if(0:Int)≤v6∧v6<((a0.fE.map ze).length:Int) then
  ((Zo (a0.fE.getD v6.toNat default))).bind fun v10=>
  if(0:Int)≤v6∧v6<((a1.fE.map ze).length:Int) then
  ((Zo (a1.fE.getD v6.toNat default))).bind fun v11=>
  (rec0 v10 v11).bind fun v12=>
  some (.inl (v12,(W (v6+1))))
  else none
  else none
 else
  Option.map Sum.inr (
   q7 rec0 m v5)
noncomputable def zr(rec0:GJ→GJ→Option Bool)(m:Option Nat)(a0:GJ)(a1:GJ)(v5:Bool)(v6:Int):Option Bool:=Y1 m (fun(s:(Bool×Int))=>zq rec0 m a0 a1 s.1 s.2) (v5,v6)
abbrev Hr0(rec0:GJ→GJ→Option Bool):Prop:=∀ {a0:GJ} {a1:GJ} {o:Bool},rec0 a0 a1=some o→ACalls Tryz.prog 23 [.agg (z6 a0),.agg (z6 a1)] [] 3 (kg 3 (.bool o) [])
theorem zap{rec0:GJ→GJ→Option Bool}(hrec0:Hr0 rec0){a0:GJ}{a1:GJ}{v5:Bool}{m:Option Nat}{o:Bool}(h:q7 rec0 m v5=some o) :
 LWp Tryz.prog Q0 3 z0q (z67 a0 a1 o) [(5,.bool v5)] [] 3:=by
 unfold q7 at h
 refine zc (zh ?_)
 refine wo ?_
 cases h
 exact AI TT (Km (n':=3) [] [] rfl rfl (VS rfl) TT)
theorem za7{rec0:GJ→GJ→Option Bool}(hrec0:Hr0 rec0){a0:GJ}{a1:GJ}{v5:Bool}{v6:Int}{m:Option Nat}{o:(Bool×Int) ⊕ Bool}(h:zq rec0 m a0 a1 v5 v6=some o) :
 LWp Tryz.prog Q0 3 z5v (Z2 3 5 (Ut a0 a1) (z2b a0 a1) (z49 a0 a1) o) [(2,.ptr (3,0) 0 0),(3,.ptr (4,0) 0 0),(5,.bool v5),(6,i6 v6)] [((3,0),.one (z6 a0)),((4,0),.one (z6 a1))] 5:=by
 unfold zq at h
 refine zc ?_
 refine zc (zh ?_)
 refine AI (fun hp=>hp) ?_
 refine AI (fun hp=>hp) ?_
 refine AI (fun hp=>(AI hp hp)) ?_
 refine AI (fun hc=>(bqt hc)) ?_
 refine LWp.sim (e:=[(2,.ptr (3,0) 0 0),(3,.ptr (4,0) 0 0),(5,.bool v5),(6,i6 v6),(49,.bool (v5&&(decide (v6<((a0.fE.map ze).length:Int)))))]) (L:=[((3,0),.one (z6 a0)),((4,0),.one (z6 a1))]) (n:=5) ?_ ?_
 ·exact qq (M:=[((3,0),(3,0)),((4,0),(4,0))]) rfl (SP rfl (SP rfl (S2 rfl rfl (AI (VS rfl) TT)))) (AI (AI rfl (OL rfl)) (AI (AI rfl (OL rfl)) TT))
 refine yp (v:=(v5&&(decide (v6<((a0.fE.map ze).length:Int))))) rfl TT (fun h14=>?_) (fun h14=>?_)
 ·have h:=zj h14 h
  refine xr ?_
  refine zc ?_
  refine jj ?_
  refine zrw rfl ?_
  obtain⟨h15,h⟩:=qv h
  refine AI h15 ?_
  obtain⟨v10,h16,h⟩:=bind_some h
  refine EX (z6 v10) (AI (u4 (u5 ze h15) h16) (AI (AI (Ze h15) (NB rfl)) ?_))
  obtain⟨h17,h⟩:=qv h
  refine AI h17 ?_
  obtain⟨v11,h18,h⟩:=bind_some h
  refine EX (z6 v11) (AI (u4 (u5 ze h17) h18) (AI (AI (Ze h17) (NB rfl)) ?_))
  obtain⟨v12,h19,h⟩:=bind_some h
  refine Q1 (k:=3) (m:=0) (L':=[]) (rest:=[((3,0),.one (z6 a0)),((4,0),.one (z6 a1))]) (R':=.bool v12) [] (hrec0 h19) rfl rfl rfl (S2 rfl rfl TT) TT (wv _ rfl) TT rfl ?_
  refine LWp.sim (e:=[(2,.ptr (3,0) 0 0),(3,.ptr (4,0) 0 0),(5,.bool v12),(6,i6 v6)]) (L:=[((3,0),.one (z6 a0)),((4,0),.one (z6 a1))]) (n:=5) ?_ ?_
  ·exact qq (M:=[((3,0),(3,0)),((4,0),(4,0))]) rfl (SP rfl (SP rfl (S2 rfl rfl TT))) (AI (AI rfl (OL rfl)) (AI (AI rfl (OL rfl)) TT))
  refine zh ?_
  cases h
  exact AI rfl (qq (M:=[((3,0),(3,0)),((4,0),(4,0))]) rfl (SP rfl (SP rfl (S2 rfl rfl TT))) (AI (AI rfl (OL rfl)) (AI (AI rfl (OL rfl)) TT)))
 ·have h:=zo h14 h
  refine Jr ?_
  obtain⟨o,hq,rfl⟩:=Option.map_eq_some_iff.1 h
  replace h:=hq;clear hq
  refine AI nofun ?_
  refine LWp.sim ?_ (zap hrec0 h)
  exact qq (M:=[]) rfl (AI (VS rfl) TT) TT
theorem zb5{rec0:GJ→GJ→Option Bool}(hrec0:Hr0 rec0){a0:GJ}{a1:GJ}{v5:Bool}{v6:Int}{m:Option Nat}{o:Bool}(h:zr rec0 m a0 a1 v5 v6=some o) :
 LWp Tryz.prog Q0 3 (.loop z5v) (xa 0 (Ya Tryz.prog Q0 3 z0q (z67 a0 a1 o))) [(2,.ptr (3,0) 0 0),(3,.ptr (4,0) 0 0),(5,.bool v5),(6,i6 v6)] [((3,0),.one (z6 a0)),((4,0),.one (z6 a1))] 5:=
 ww (m:=m) (s:=((v5,v6):(Bool×Int))) (r:=o) (fun(s:(Bool×Int))=>zq rec0 m a0 a1 s.1 s.2) (Ut a0 a1) (z2b a0 a1) (z49 a0 a1) (fun s o h=>za7 hrec0 h) h
noncomputable def zp(rec0:GJ→GJ→Option Bool)(m:Option Nat)(a0:GJ)(a1:GJ):Option Bool:=
 (if((((a0.fK==a1.fK)&&(a0.fN==a1.fN))&&(a0.fT==a1.fT))==true)=true then yj m a0.fA a1.fA else some default).bind fun v1=>
 zr rec0 m a0 a1 (((((a0.fK==a1.fK)&&(a0.fN==a1.fN))&&(a0.fT==a1.fT))&&v1)&&(((a0.fE.map ze).length:Int)==((a1.fE.map ze).length:Int))) 0
theorem zb3{rec0:GJ→GJ→Option Bool}(hrec0:Hr0 rec0){a0:GJ}{a1:GJ}{m:Option Nat}{o:Bool}(h:zp rec0 m a0 a1=some o):LWp Tryz.prog Q0 3 zd5 (z67 a0 a1 o) (ye 0 [.agg (z6 a0),.agg (z6 a1)]) [] 3:=by
 unfold zp at h
 refine zc (zh ?_)
 refine zc (zh ?_)
 refine AI (fun hp=>hp) ?_
 refine AI (fun hp=>hp) ?_
 refine AI (fun hp=>(AI hp hp)) ?_
 refine AI (fun hc=>(bqt hc)) ?_
 refine AI (fun hp=>hp) ?_
 refine AI (fun hp=>hp) ?_
 refine AI (fun hp=>(AI hp hp)) ?_
 refine AI (fun hc=>(bqt hc)) ?_
 refine AI (fun hp=>hp) ?_
 refine AI (fun hp=>hp) ?_
 obtain⟨v1,h1,h⟩:=bind_some h
 refine Or.inl (EX (.bool v1) (AI (fun hp=>AI (AI hp hp) (PFn.call (y0b (zj hp h1)) (S2 rfl rfl TT) (AI rfl (AI rfl rfl)))) ?_))
 refine AI (fun hc=>(bqt hc)) ?_
 refine AI (fun hp=>hp) ?_
 refine AI (fun hp=>hp) ?_
 refine AI (fun hp=>hp) ?_
 refine AI (fun hp=>hp) ?_
 refine AI (fun hp=>(AI hp hp)) ?_
 refine AI (fun hc=>(bqt hc)) ?_
 refine LWp.sim (e:=[(2,.ptr (3,0) 0 0),(3,.ptr (4,0) 0 0),(5,.bool (((((a0.fK==a1.fK)&&(a0.fN==a1.fN))&&(a0.fT==a1.fT))&&v1)&&(((a0.fE.map ze).length:Int)==((a1.fE.map ze).length:Int))))]) (L:=[((3,0),.one (z6 a0)),((4,0),.one (z6 a1))]) (n:=5) ?_ ?_
 ·exact qq (M:=[((3,0),(3,0)),((4,0),(4,0))]) rfl (SP rfl (SP rfl (AI (VS rfl) TT))) (AI (AI rfl (OL rfl)) (AI (AI rfl (OL rfl)) TT))
 refine zc ?_
 refine zc (zh ?_)
 refine jj ?_
 refine LWp.sim ?_ (zb5 hrec0 h)
 exact qq (M:=[((3,0),(3,0)),((4,0),(4,0))]) rfl (SP rfl (SP rfl (S2 rfl rfl TT))) (AI (AI rfl (OL rfl)) (AI (AI rfl (OL rfl)) TT))
theorem zd7{rec0:GJ→GJ→Option Bool}(hrec0:Hr0 rec0){a0:GJ}{a1:GJ}{m:Option Nat}{o:Bool}(h:zp rec0 m a0 a1=some o):ACalls Tryz.prog 23 [.agg (z6 a0),.agg (z6 a1)] [] 3 (kg 3 (.bool o) []):=Yw (L:=znf) zn7 zn8 (NB rfl) (zb3 hrec0 h)
noncomputable def yh(m:Option Nat):Nat→GJ→GJ→Option Bool
 |0=>fun _ _=>none
 |k+1=>zp (yh m k) m
noncomputable def yi(m:Option Nat)(a0:GJ)(a1:GJ):Option Bool:=zp7 m (fun k=>yh m k a0 a1)
theorem z7z{m:Option Nat}:∀ (k:Nat) {a0:GJ} {a1:GJ} {o:Bool},yh m k a0 a1=some o→ACalls Tryz.prog 23 [.agg (z6 a0),.agg (z6 a1)] [] 3 (kg 3 (.bool o) [])
 |0,_,_,_,h=>nomatch h
 |k+1,_,_,_,h=>zd7 (fun h=>z7z k h) h
theorem z9x{a0:GJ}{a1:GJ}{m:Option Nat}{o:Bool}(h:yi m a0 a1=some o):ACalls Tryz.prog 23 [.agg (z6 a0),.agg (z6 a1)] [] 3 (kg 3 (.bool o) []):=(X9 h).elim fun k h=>z7z k h
noncomputable def ve(m:Option Nat)(a0:GJ)(a1:GJ):Option Bool:=zp (yi m) m a0 a1
theorem y07{a0:GJ}{a1:GJ}{m:Option Nat}{o:Bool}(h:ve m a0 a1=some o):PFn Tryz.prog 23 [.agg (z6 a0),.agg (z6 a1)] (.bool o):=
 ⟨rfl,_,Q1 (k:=3) (m:=0) (L':=[]) (rest:=[]) (R':=.bool o) [] (zd7 z9x h) rfl rfl rfl (S2 rfl rfl TT) TT (wv _ rfl) TT rfl ⟨rfl,rfl,rfl⟩⟩
def zsg:LCode:=(.seq (.region [Qo 1 (.box (.t 0)),
 Qb 2])
 (.seq (.region [Qt 3 5 1,
  Qo 4 (.build [(i6 0),(i6 0),(.str []),(.isl 1 [] true),(.isl 5 [] true)] []),
  Qo 5 (.call 23 [(.t 3),(.t 4)]),
  Qm 2 5])
 .ret))
def zom:Lay:=⟨6,[],false⟩
def znq:List LRes:=[.t 2]
def zzy:LFn:=⟨1,zom,zsg,znq⟩
theorem zw1:wb Tryz.prog [] 33=some zzy:=by kernel_rfl
theorem zxe:uk Tryz.prog 33:=⟨_,Tryz.func33,rfl,rfl⟩
noncomputable def qj(m:Option Nat)(a0:GJ):Option Bool:=
 (ve m a0 (GJ.mk 0 0 [] [] [])).bind fun v1=>
 some v1
def y26(a0:GJ)(o:Bool):Exit→Env→AHeap→Nat→Prop:=Zz znq (jo (.bool o))
theorem zoo{a0:GJ}{m:Option Nat}{o:Bool}(h:qj m a0=some o):LWp Tryz.prog zom 0 zsg (y26 a0 o) (ye 0 [.agg (z6 a0)]) [] 0:=by
 unfold qj at h
 refine zc (zh ?_)
 refine zc (zh ?_)
 obtain⟨v1,h1,h⟩:=bind_some h
 refine PFn.call (y07 h1) (AI (VS rfl) (AI (Vw.aggL (S2 rfl rfl (AI (VS rfl) (AI (Vw.islF _ _ _) (AI (Vw.islF _ _ _) TT))))) TT)) ?_
 refine wo ?_
 cases h
 exact AI TT (AI rfl (VS rfl))
theorem ztv{a0:GJ}{m:Option Nat}{o:Bool}(h:qj m a0=some o):PFn Tryz.prog 33 [.agg (z6 a0)] (.bool o):=PFn.ofFnW (L:=zzy) zw1 zxe (NB rfl) rfl (zoo h)
def zsf:LCode:=(.seq (.region [Qo 1 (.box (.t 0)),
 Qb 2])
 (.seq (.region [Qf 4 1 1,
  Ql 5 1 4,
  Qo 6 (.bin .geq (.t 5) (.c (i6 0))),
  Qm 7 6,
  Qe 8 1 1 (7,true),
  Qk 9 1 8 (7,true),
  Qg 10 (.bin .leq (.t 9) (.c (i6 2147483647))) (7,true),
  Qp 11 7 10,
  Qm 3 11])
 (.seq (.seq (.region [Qf 12 0 1,
  Ql 13 1 12])
 (.block 0
  (.seq (.region [Qo 15 (.bin .eql (.t 13) (.c (i6 1))),
   Qm 14 15])
  (.cond (.t 14)
   (.seq (.region [Qm 16 3,
    Qm 17 16,
    Qe 18 2 1 (17,true),
    Qk 19 1 18 (17,true),
    Qg 20 (.bin .eql (.t 19) (.c (i6 0))) (17,true),
    Qp 21 17 20,
    Qm 22 21,
    Qe 23 3 1 (22,true),
    Qk 24 1 23 (22,true),
    Qg 25 (.call 32 [(.t 24),(.c (i6 1))]) (22,true),
    Qp 26 22 25,
    Qm 2 26])
   .ret)
   (.seq (.region [Qo 28 (.bin .eql (.t 13) (.c (i6 2))),
    Qm 27 28])
   (.cond (.t 27)
    (.seq (.region [Qf 29 1 1,
     Ql 30 1 29,
     Qo 31 (.bin .eql (.t 30) (.c (i6 0))),
     Qm 32 31,
     Qe 33 2 1 (32,true),
     Qk 34 1 33 (32,true),
     Qg 35 (.bin .eql (.t 34) (.c (i6 0))) (32,true),
     Qp 36 32 35,
     Qm 37 36,
     Qe 38 3 1 (37,true),
     Qk 39 1 38 (37,true),
     Qg 40 (.call 32 [(.t 39),(.c (i6 1))]) (37,true),
     Qp 41 37 40,
     Qm 42 41,
     Qe 43 3 1 (42,true),
     Qk 44 1 43 (42,true),
     Qg 45 (.bin .neq (.t 44) (.c (.str [36,47,99,97,110,99,101,108]))) (42,true),
     Qp 46 42 45,
     Qm 2 46])
    .ret)
    (.seq (.region [Qo 48 (.bin .eql (.t 13) (.c (i6 3))),
     Qm 47 48])
    (.cond (.t 47)
     (.seq (.region [Qm 49 3,
      Qm 50 49,
      Qe 51 2 1 (50,true),
      Qk 52 1 51 (50,true),
      Qg 53 (.bin .eql (.t 52) (.c (i6 0))) (50,true),
      Qp 54 50 53,
      Qm 55 54,
      Qe 56 3 1 (55,true),
      Qk 57 1 56 (55,true),
      Qg 58 (.bin .eql (.t 57) (.c (.str []))) (55,true),
      Qp 59 55 58,
      Qm 2 59])
     .ret)
     (.seq (.region [Qo 61 (.bin .eql (.t 13) (.c (i6 4))),
      Qm 60 61])
     (.cond (.t 60)
      (.seq (.region [Qm 62 3,
       Qm 63 62,
       Qe 64 2 1 (63,true),
       Qk 65 1 64 (63,true),
       Qg 66 (.bin .geq (.t 65) (.c (i6 1))) (63,true),
       Qp 67 63 66,
       Qm 68 67,
       Qe 69 2 1 (68,true),
       Qk 70 1 69 (68,true),
       Qg 71 (.bin .leq (.t 70) (.c (i6 99))) (68,true),
       Qp 72 68 71,
       Qm 73 72,
       Qe 74 3 1 (73,true),
       Qk 75 1 74 (73,true),
       Qg 76 (.call 32 [(.t 75),(.c (i6 0))]) (73,true),
       Qp 77 73 76,
       Qm 78 77,
       Qe 79 4 1 (78,true),
       Qg 80 (.load true 5 (.t 79)) (78,true),
       Qg 81 (.call 33 [(.t 80)]) (78,true),
       Qp 82 78 81,
       Qm 2 82])
      .ret)
      .skip))))))))))
 (.seq (.region [Qm 83 3,
  Qm 84 83,
  Qe 85 2 1 (84,true),
  Qk 86 1 85 (84,true),
  Qg 87 (.bin .eql (.t 86) (.c (i6 0))) (84,true),
  Qp 88 84 87,
  Qm 89 88,
  Qe 90 3 1 (89,true),
  Qk 91 1 90 (89,true),
  Qg 92 (.bin .eql (.t 91) (.c (.str []))) (89,true),
  Qp 93 89 92,
  Qm 94 93,
  Qe 95 4 1 (94,true),
  Qg 96 (.load true 5 (.t 95)) (94,true),
  Qg 97 (.call 33 [(.t 96)]) (94,true),
  Qp 98 94 97,
  Qm 2 98])
 .ret))))
def zhr:Lay:=⟨99,[],false⟩
def zor:List LRes:=[.t 2]
def zze:LFn:=⟨1,zhr,zsf,zor⟩
theorem zu0:wb Tryz.prog [] 19=some zze:=by kernel_rfl
theorem zus:uk Tryz.prog 19:=⟨_,Tryz.func19,rfl,rfl⟩
noncomputable def qa(m:Option Nat)(a0:GM):Option Bool:=
 if(a0.fK==1)=true then
  (if((((decide (a0.fI≥0))&&(decide (a0.fI≤2147483647)))&&(a0.fC==0))==true)=true then qm m a0.fM 1 else some default).bind fun v1=>
  some ((((decide (a0.fI≥0))&&(decide (a0.fI≤2147483647)))&&(a0.fC==0))&&v1)
 else
  if(a0.fK==2)=true then
   (if(((a0.fI==0)&&(a0.fC==0))==true)=true then qm m a0.fM 1 else some default).bind fun v2=>
   some ((((a0.fI==0)&&(a0.fC==0))&&v2)&&(!(a0.fM==([36,47,99,97,110,99,101,108]:List UInt8))))
  else
   if(a0.fK==3)=true then
    some ((((decide (a0.fI≥0))&&(decide (a0.fI≤2147483647)))&&(a0.fC==0))&&(a0.fM==([]:List UInt8)))
   else
    if(a0.fK==4)=true then
     (if(((((decide (a0.fI≥0))&&(decide (a0.fI≤2147483647)))&&(decide (a0.fC≥1)))&&(decide (a0.fC≤99)))==true)=true then qm m a0.fM 0 else some default).bind fun v3=>
     (if((((((decide (a0.fI≥0))&&(decide (a0.fI≤2147483647)))&&(decide (a0.fC≥1)))&&(decide (a0.fC≤99)))&&v3)==true)=true then qj m (GJ.mk a0.fB.fK a0.fB.fN a0.fB.fT a0.fB.fA a0.fB.fE) else some default).bind fun v4=>
     some ((((((decide (a0.fI≥0))&&(decide (a0.fI≤2147483647)))&&(decide (a0.fC≥1)))&&(decide (a0.fC≤99)))&&v3)&&v4)
    else
     (if(((((decide (a0.fI≥0))&&(decide (a0.fI≤2147483647)))&&(a0.fC==0))&&(a0.fM==([]:List UInt8)))==true)=true then qj m (GJ.mk a0.fB.fK a0.fB.fN a0.fB.fT a0.fB.fA a0.fB.fE) else some default).bind fun v5=>
     some (((((decide (a0.fI≥0))&&(decide (a0.fI≤2147483647)))&&(a0.fC==0))&&(a0.fM==([]:List UInt8)))&&v5)
def y2a(a0:GM)(o:Bool):Exit→Env→AHeap→Nat→Prop:=Zz zor (jo (.bool o))
theorem zih{a0:GM}{m:Option Nat}{o:Bool}(h:qa m a0=some o):LWp Tryz.prog zhr 0 zsf (y2a a0 o) (ye 0 [.agg [i6 a0.fK,i6 a0.fI,i6 a0.fC,.str a0.fM,i6 a0.fB.fK,i6 a0.fB.fN,.str a0.fB.fT,.isl 1 (a0.fB.fA.map za) false,.isl 5 (a0.fB.fE.map ze) false]]) [] 0:=by
 unfold qa at h
 refine zc (zh ?_)
 refine zc (zh ?_)
 refine AI (fun hp=>hp) ?_
 refine AI (fun hp=>hp) ?_
 refine AI (fun hc=>(bqt hc)) ?_
 refine LWp.sim (e:=[(1,.ptr (0,0) 0 0),(3,.bool ((decide (a0.fI≥0))&&(decide (a0.fI≤2147483647))))]) (L:=[((0,0),.one [i6 a0.fK,i6 a0.fI,i6 a0.fC,.str a0.fM,i6 a0.fB.fK,i6 a0.fB.fN,.str a0.fB.fT,.isl 1 (a0.fB.fA.map za) false,.isl 5 (a0.fB.fE.map ze) false])]) (n:=1) ?_ ?_
 ·exact qq (M:=[((0,0),(0,0))]) rfl (SP rfl (AI (VS rfl) TT)) (AI (AI rfl (OL rfl)) TT)
 refine zc ?_
 refine zc (zh ?_)
 refine jj ?_
 refine zc (zh ?_)
 refine yp (v:=(a0.fK==1)) rfl TT (fun h1=>?_) (fun h1=>?_)
 ·have h:=zj h1 h
  refine zc (zh ?_)
  refine AI (fun hp=>hp) ?_
  refine AI (fun hp=>hp) ?_
  refine AI (fun hc=>(bqt hc)) ?_
  refine AI (fun hp=>hp) ?_
  obtain⟨v1,h2,h⟩:=bind_some h
  refine Or.inl (EX (.bool v1) (AI (fun hp=>AI hp (PFn.call (zji (zj hp h2)) (S2 rfl rfl TT) (AI rfl (AI rfl rfl)))) ?_))
  refine AI (fun hc=>(bqt hc)) ?_
  refine LWp.sim (e:=[(2,.bool ((((decide (a0.fI≥0))&&(decide (a0.fI≤2147483647)))&&(a0.fC==0))&&v1))]) (L:=[]) (n:=0) ?_ ?_
  ·exact qq (M:=[]) rfl (AI (VS rfl) TT) TT
  refine wo ?_
  cases h
  exact AI TT (AI rfl (VS rfl))
 ·have h:=zo h1 h
  refine zc (zh ?_)
  refine yp (v:=(a0.fK==2)) rfl TT (fun h3=>?_) (fun h3=>?_)
  ·have h:=zj h3 h
   refine zc (zh ?_)
   refine AI (fun hp=>hp) ?_
   refine AI (fun hp=>hp) ?_
   refine AI (fun hc=>(bqt hc)) ?_
   refine AI (fun hp=>hp) ?_
   obtain⟨v2,h4,h⟩:=bind_some h
   refine Or.inl (EX (.bool v2) (AI (fun hp=>AI hp (PFn.call (zji (zj hp h4)) (S2 rfl rfl TT) (AI rfl (AI rfl rfl)))) ?_))
   refine AI (fun hc=>(bqt hc)) ?_
   refine AI (fun hp=>hp) ?_
   refine AI (fun hp=>hp) ?_
   refine AI (fun hc=>(bqt hc)) ?_
   refine LWp.sim (e:=[(2,.bool ((((a0.fI==0)&&(a0.fC==0))&&v2)&&(!(a0.fM==([36,47,99,97,110,99,101,108]:List UInt8)))))]) (L:=[]) (n:=0) ?_ ?_
   ·exact qq (M:=[]) rfl (AI (VS rfl) TT) TT
   refine wo ?_
   cases h
   exact AI TT (AI rfl (VS rfl))
  ·have h:=zo h3 h
   refine zc (zh ?_)
   refine LWp.sim (e:=[(1,.ptr (0,0) 0 0),(3,.bool ((decide (a0.fI≥0))&&(decide (a0.fI≤2147483647)))),(13,i6 a0.fK),(47,.bool (a0.fK==3))]) (L:=[((0,0),.one [i6 a0.fK,i6 a0.fI,i6 a0.fC,.str a0.fM,i6 a0.fB.fK,i6 a0.fB.fN,.str a0.fB.fT,.isl 1 (a0.fB.fA.map za) false,.isl 5 (a0.fB.fE.map ze) false])]) (n:=1) ?_ ?_
   ·exact qq (M:=[((0,0),(0,0))]) rfl (SP rfl (S2 rfl rfl (AI (VS rfl) TT))) (AI (AI rfl (OL rfl)) TT)
   refine yp (v:=(a0.fK==3)) rfl TT (fun h5=>?_) (fun h5=>?_)
   ·have h:=zj h5 h
    refine zc (zh ?_)
    refine AI (fun hp=>hp) ?_
    refine AI (fun hp=>hp) ?_
    refine AI (fun hc=>(bqt hc)) ?_
    refine AI (fun hp=>hp) ?_
    refine AI (fun hp=>hp) ?_
    refine AI (fun hc=>(bqt hc)) ?_
    refine LWp.sim (e:=[(2,.bool ((((decide (a0.fI≥0))&&(decide (a0.fI≤2147483647)))&&(a0.fC==0))&&(a0.fM==([]:List UInt8))))]) (L:=[]) (n:=0) ?_ ?_
    ·exact qq (M:=[]) rfl (AI (VS rfl) TT) TT
    refine wo ?_
    cases h
    exact AI TT (AI rfl (VS rfl))
   ·have h:=zo h5 h
    refine zc (zh ?_)
    refine yp (v:=(a0.fK==4)) rfl TT (fun h6=>?_) (fun h6=>?_)
    ·have h:=zj h6 h
     refine zc (zh ?_)
     refine AI (fun hp=>hp) ?_
     refine AI (fun hp=>hp) ?_
     refine AI (fun hc=>(bqt hc)) ?_
     refine AI (fun hp=>hp) ?_
     refine AI (fun hp=>hp) ?_
     refine AI (fun hc=>(bqt hc)) ?_
     refine AI (fun hp=>hp) ?_
     obtain⟨v3,h7,h⟩:=bind_some h
     refine Or.inl (EX (.bool v3) (AI (fun hp=>AI hp (PFn.call (zji (zj hp h7)) (S2 rfl rfl TT) (AI rfl (AI rfl rfl)))) ?_))
     refine AI (fun hc=>(bqt hc)) ?_
     refine AI (fun hp=>hp) ?_
     obtain⟨v4,h8,h⟩:=bind_some h
     refine Or.inl (EX (.bool v4) (AI (fun hp=>AI hp (PFn.call (ztv (zj hp h8)) (AI (VS rfl) TT) (AI rfl (AI rfl rfl)))) ?_))
     refine AI (fun hc=>(bqt hc)) ?_
     refine LWp.sim (e:=[(2,.bool ((((((decide (a0.fI≥0))&&(decide (a0.fI≤2147483647)))&&(decide (a0.fC≥1)))&&(decide (a0.fC≤99)))&&v3)&&v4))]) (L:=[]) (n:=0) ?_ ?_
     ·exact qq (M:=[]) rfl (AI (VS rfl) TT) TT
     refine wo ?_
     cases h
     exact AI TT (AI rfl (VS rfl))
    ·have h:=zo h6 h
     refine xr ?_
     refine zc (zh ?_)
     refine AI (fun hp=>hp) ?_
     refine AI (fun hp=>hp) ?_
     refine AI (fun hc=>(bqt hc)) ?_
     refine AI (fun hp=>hp) ?_
     refine AI (fun hp=>hp) ?_
     refine AI (fun hc=>(bqt hc)) ?_
     refine AI (fun hp=>hp) ?_
     obtain⟨v5,h9,h⟩:=bind_some h
     refine Or.inl (EX (.bool v5) (AI (fun hp=>AI hp (PFn.call (ztv (zj hp h9)) (AI (VS rfl) TT) (AI rfl (AI rfl rfl)))) ?_))
     refine AI (fun hc=>(bqt hc)) ?_
     refine LWp.sim (e:=[(2,.bool (((((decide (a0.fI≥0))&&(decide (a0.fI≤2147483647)))&&(a0.fC==0))&&(a0.fM==([]:List UInt8)))&&v5))]) (L:=[]) (n:=0) ?_ ?_
     ·exact qq (M:=[]) rfl (AI (VS rfl) TT) TT
     refine wo ?_
     cases h
     exact AI TT (AI rfl (VS rfl))
theorem zyz{a0:GM}{m:Option Nat}{o:Bool}(h:qa m a0=some o):PFn Tryz.prog 19 [.agg [i6 a0.fK,i6 a0.fI,i6 a0.fC,.str a0.fM,i6 a0.fB.fK,i6 a0.fB.fN,.str a0.fB.fT,.isl 1 (a0.fB.fA.map za) false,.isl 5 (a0.fB.fE.map ze) false]] (.bool o):=PFn.ofFnW (L:=zze) zu0 zus (NB rfl) rfl (zih h)
def z62:LCode:=(.seq (.region [Qo 12 (.bin .lss (.t 11) (.t 10))])
 (.seq (.cond (.t 12)
  .skip
  (.exit 0))
 (.seq (.block 1
  (.seq (.region [Qo 13 (.iaddr 5 (.t 9) (.t 11)),
   Qt 14 5 13,
   Qo 5 (.alloc [(i6 0),(i6 0),(.str []),(.isl 1 [] true),(.isl 5 [] true)]),
   ⟨none,.store 5 (.t 5) (.t 14),none⟩])
  (.seq (.region [Qt 16 5 5,
   Qc 17 34 16,
   Qm 15 17,
   Qo 18 (.ext 0 (.t 15)),
   Qo 19 (.ext 1 (.t 15)),
   Qm 6 18,
   Qm 7 19])
  (.seq (.region [Qm 20 2,
   Qm 21 6,
   Qo 22 (.bin .add (.t 20) (.t 21)),
   Qm 2 22])
  (.region [Qm 23 3,
   Qm 24 7,
   Qo 25 (.mnx true [(.t 23),(.t 24)]),
   Qm 3 25])))))
 (.region [Qo 26 (.bin .add (.t 11) (.c (i6 1))),
  Qm 11 26]))))
def z08:LCode:=(.seq (.region [Qm 27 2,
 Qm 28 3,
 Qo 29 (.bin .add (.t 28) (.c (i6 1))),
 Qm 2 27,
 Qm 3 29])
 .ret)
def ze1:LCode:=(.seq (.region [Qo 1 (.box (.t 0)),
 Qi 2 0,
 Qi 3 0])
 (.seq (.region [Qi 2 1,
  Qi 3 0])
 (.seq (.seq (.region [Qf 8 4 1,
  Ql 9 1 8,
  Qo 10 (.len false (.t 9)),
  Qi 11 0])
 (.block 0
  (.loop
   z62)))
 z08)))
def Yr:Lay:=⟨30,[],false⟩
def z9b:List LRes:=[.t 2,.t 3]
def zm3:LFn:=⟨1,Yr,ze1,z9b⟩
theorem zkb:wb Tryz.prog [] 34=some zm3:=by kernel_rfl
theorem zkm:uk Tryz.prog 34:=⟨_,Tryz.func34,rfl,rfl⟩
def z54(a0:GJ)(o:Int×Int):Exit→Env→AHeap→Nat→Prop:=Zz z9b (Xx 3 3 (.tup [i6 o.1,i6 o.2]) [])
def Uy(a0:GJ)(s:(Int×Int×Int)):Env:=[(2,i6 s.1),(3,i6 s.2.1),(9,.isl 5 (a0.fE.map ze) false),(10,i6 ((a0.fE.map ze).length:Int)),(11,i6 s.2.2)]
def z2n(a0:GJ)(s:(Int×Int×Int)):AHeap:=[]
def z3f(a0:GJ)(o:(Int×Int)):Exit→Env→AHeap→Nat→Prop:=(xa 0 (Ya Tryz.prog Yr 3 z08 (z54 a0 o)))
noncomputable def jm(rec1:GJ→Option (Int×Int))(m:Option Nat)(v3:Int)(v4:Int):Option (Int×Int):=
 some (v3,(W (v4+1)))
noncomputable def yk(rec1:GJ→Option (Int×Int))(m:Option Nat)(a0:GJ)(v3:Int)(v4:Int)(v5:Int):Option ((Int×Int×Int) ⊕ (Int×Int)):=
 if(decide (v5<((a0.fE.map ze).length:Int)))=true then
  if(0:Int)≤v5∧v5<((a0.fE.map ze).length:Int) then
  ((Zo (a0.fE.getD v5.toNat default))).bind fun v8=>
  (rec1 v8).bind fun v9=>
  some (.inl ((W (v3+v9.1)),(if v9.2 > v4 then v9.2 else v4),(W (v5+1))))
  else none
 else
  Option.map Sum.inr (
   jm rec1 m v3 v4)
noncomputable def qo(rec1:GJ→Option (Int×Int))(m:Option Nat)(a0:GJ)(v3:Int)(v4:Int)(v5:Int):Option (Int×Int):=Y1 m (fun(s:(Int×Int×Int))=>yk rec1 m a0 s.1 s.2.1 s.2.2) (v3,v4,v5)
abbrev Hr1(rec1:GJ→Option (Int×Int)):Prop:=∀ {a0:GJ} {o:Int×Int},rec1 a0=some o→ACalls Tryz.prog 34 [.agg (z6 a0)] [] 3 (kg 3 (.tup [i6 o.1,i6 o.2]) [])
theorem zbd{rec1:GJ→Option (Int×Int)}(hrec1:Hr1 rec1){a0:GJ}{v3:Int}{v4:Int}{m:Option Nat}{o:(Int×Int)}(h:jm rec1 m v3 v4=some o) :
 LWp Tryz.prog Yr 3 z08 (z54 a0 o) [(2,i6 v3),(3,i6 v4)] [] 3:=by
 unfold jm at h
 refine zc (zh ?_)
 refine wo ?_
 cases h
 exact AI TT (AI TT (Km (n':=3) [] [] rfl rfl (VS rfl) TT))
theorem z6x{rec1:GJ→Option (Int×Int)}(hrec1:Hr1 rec1){a0:GJ}{v3:Int}{v4:Int}{v5:Int}{m:Option Nat}{o:(Int×Int×Int) ⊕ (Int×Int)}(h:yk rec1 m a0 v3 v4 v5=some o) :
 LWp Tryz.prog Yr 3 z62 (Z2 3 3 (Uy a0) (z2n a0) (z3f a0) o) [(2,i6 v3),(3,i6 v4),(9,.isl 5 (a0.fE.map ze) false),(10,i6 ((a0.fE.map ze).length:Int)),(11,i6 v5)] [] 3:=by
 unfold yk at h
 refine zc (zh ?_)
 refine zc ?_
 refine yp (v:=(decide (v5<((a0.fE.map ze).length:Int)))) rfl TT (fun h9=>?_) (fun h9=>?_)
 ·have h:=zj h9 h
  refine xr ?_
  refine zc ?_
  refine jj ?_
  refine zc (zh ?_)
  obtain⟨h10,h⟩:=qv h
  refine AI h10 ?_
  obtain⟨v8,h11,h⟩:=bind_some h
  refine EX (z6 v8) (AI (u4 (u5 ze h10) h11) (AI (AI (Ze h10) (NB rfl)) ?_))
  refine zc (zh ?_)
  obtain⟨v9,h12,h⟩:=bind_some h
  refine Q1 (k:=3) (m:=0) (L':=[]) (rest:=[((3,0),.one (z6 v8))]) (R':=.tup [i6 v9.1,i6 v9.2]) [] (hrec1 h12) rfl rfl rfl (AI (VS rfl) TT) TT (wv _ rfl) TT rfl ?_
  refine LWp.sim (e:=[(2,i6 v3),(3,i6 v4),(6,i6 v9.1),(7,i6 v9.2),(9,.isl 5 (a0.fE.map ze) false),(10,i6 ((a0.fE.map ze).length:Int)),(11,i6 v5)]) (L:=[]) (n:=3) ?_ ?_
  ·exact qq (M:=[]) rfl (S4 rfl rfl rfl rfl (S2 rfl rfl (AI (VS rfl) TT))) TT
  refine zc (zh ?_)
  refine zh ?_
  refine LWp.sim (e:=[(2,i6 (W (v3+v9.1))),(3,i6 (if v9.2 > v4 then v9.2 else v4)),(9,.isl 5 (a0.fE.map ze) false),(10,i6 ((a0.fE.map ze).length:Int)),(11,i6 v5)]) (L:=[]) (n:=3) ?_ ?_
  ·exact qq (M:=[]) rfl (S4 rfl rfl rfl rfl (AI (VS rfl) TT)) TT
  refine zh ?_
  cases h
  exact AI rfl (qq (M:=[]) rfl (S4 rfl rfl rfl rfl (AI (VS rfl) TT)) TT)
 ·have h:=zo h9 h
  refine Jr ?_
  obtain⟨o,hq,rfl⟩:=Option.map_eq_some_iff.1 h
  replace h:=hq;clear hq
  refine AI nofun ?_
  refine LWp.sim ?_ (zbd hrec1 h)
  exact qq (M:=[]) rfl (S2 rfl rfl TT) TT
theorem zb9{rec1:GJ→Option (Int×Int)}(hrec1:Hr1 rec1){a0:GJ}{v3:Int}{v4:Int}{v5:Int}{m:Option Nat}{o:(Int×Int)}(h:qo rec1 m a0 v3 v4 v5=some o) :
 LWp Tryz.prog Yr 3 (.loop z62) (xa 0 (Ya Tryz.prog Yr 3 z08 (z54 a0 o))) [(2,i6 v3),(3,i6 v4),(9,.isl 5 (a0.fE.map ze) false),(10,i6 ((a0.fE.map ze).length:Int)),(11,i6 v5)] [] 3:=
 ww (m:=m) (s:=((v3,v4,v5):(Int×Int×Int))) (r:=o) (fun(s:(Int×Int×Int))=>yk rec1 m a0 s.1 s.2.1 s.2.2) (Uy a0) (z2n a0) (z3f a0) (fun s o h=>z6x hrec1 h) h
noncomputable def qh(rec1:GJ→Option (Int×Int))(m:Option Nat)(a0:GJ):Option (Int×Int):=
 qo rec1 m a0 1 0 0
theorem zav{rec1:GJ→Option (Int×Int)}(hrec1:Hr1 rec1){a0:GJ}{m:Option Nat}{o:Int×Int}(h:qh rec1 m a0=some o):LWp Tryz.prog Yr 3 ze1 (z54 a0 o) (ye 0 [.agg (z6 a0)]) [] 3:=by
 unfold qh at h
 refine zc (zh ?_)
 refine zc (zh ?_)
 refine zc ?_
 refine zc (zh ?_)
 refine LWp.sim (e:=[(2,i6 1),(3,i6 0),(9,.isl 5 (a0.fE.map ze) false),(10,i6 ((a0.fE.map ze).length:Int)),(11,i6 0)]) (L:=[]) (n:=3) ?_ ?_
 ·exact qq (M:=[]) rfl (S4 rfl rfl rfl rfl (AI (VS rfl) TT)) TT
 refine jj ?_
 refine LWp.sim ?_ (zb9 hrec1 h)
 exact qq (M:=[]) rfl (S4 rfl rfl rfl rfl (AI (VS rfl) TT)) TT
theorem zfj{rec1:GJ→Option (Int×Int)}(hrec1:Hr1 rec1){a0:GJ}{m:Option Nat}{o:Int×Int}(h:qh rec1 m a0=some o):ACalls Tryz.prog 34 [.agg (z6 a0)] [] 3 (kg 3 (.tup [i6 o.1,i6 o.2]) []):=Yw (L:=zm3) zkb zkm (NB rfl) (zav hrec1 h)
noncomputable def qt(m:Option Nat):Nat→GJ→Option (Int×Int)
 |0=>fun _=>none
 |k+1=>qh (qt m k) m
noncomputable def wu(m:Option Nat)(a0:GJ):Option (Int×Int):=zp7 m (fun k=>qt m k a0)
theorem z7d{m:Option Nat}:∀ (k:Nat) {a0:GJ} {o:Int×Int},qt m k a0=some o→ACalls Tryz.prog 34 [.agg (z6 a0)] [] 3 (kg 3 (.tup [i6 o.1,i6 o.2]) [])
 |0,_,_,h=>nomatch h
 |k+1,_,_,h=>zfj (fun h=>z7d k h) h
theorem zj0{a0:GJ}{m:Option Nat}{o:Int×Int}(h:wu m a0=some o):ACalls Tryz.prog 34 [.agg (z6 a0)] [] 3 (kg 3 (.tup [i6 o.1,i6 o.2]) []):=(X9 h).elim fun k h=>z7d k h
noncomputable def u1(m:Option Nat)(a0:GJ):Option (Int×Int):=qh (wu m) m a0
theorem zzk{a0:GJ}{m:Option Nat}{o:Int×Int}(h:u1 m a0=some o):PFn Tryz.prog 34 [.agg (z6 a0)] (.tup [i6 o.1,i6 o.2]):=
 ⟨rfl,_,Q1 (k:=3) (m:=0) (L':=[]) (rest:=[]) (R':=.tup [i6 o.1,i6 o.2]) [] (zfj zj0 h) rfl rfl rfl (AI (VS rfl) TT) TT (wv _ rfl) TT rfl ⟨rfl,rfl,rfl⟩⟩
def zia:LCode:=(.seq (.region [Qo 10 (.bin .lss (.t 9) (.t 8))])
 (.seq (.cond (.t 10)
  .skip
  (.exit 0))
 (.seq (.block 1
  (.seq (.region [Qm 11 9,
   Qo 12 (.iaddr 1 (.t 7) (.t 9)),
   Ql 13 1 12,
   Qm 5 11,
   Qm 6 13])
  (.seq (.region [Qm 14 1,
   Qm 15 6,
   Qo 16 (.bin .eql (.t 14) (.t 15))])
  (.cond (.t 16)
   (.seq (.region [Qm 17 5,
    Qm 4 17])
   .ret)
   .skip))))
 (.region [Qo 18 (.bin .add (.t 9) (.c (i6 1))),
  Qm 9 18]))))
def zdh:LCode:=(.seq (.region [Qo 4 (.mv (.c (i6 (-1))))])
 .ret)
def zs3:LCode:=(.seq (.region [Qi 4 0])
 (.seq (.seq (.region [Qm 7 0,
  Qo 8 (.len false (.t 7)),
  Qi 9 0])
 (.block 0
  (.loop
   zia)))
 zdh))
def V4:Lay:=⟨19,[],false⟩
def zkc:List LRes:=[.t 4]
def y0p:LFn:=⟨2,V4,zs3,zkc⟩
theorem zx4:wb Tryz.prog [] 87=some y0p:=by kernel_rfl
theorem zuz:uk Tryz.prog 87:=⟨_,Tryz.func87,rfl,rfl⟩
def zq9(a0:List (List UInt8))(a1:List UInt8)(o:Int):Exit→Env→AHeap→Nat→Prop:=Zz zkc (jo (i6 o))
def z4p(a0:List (List UInt8))(a1:List UInt8)(s:Int):Env:=[(1,.str a1),(7,.isl 1 (a0.map za) false),(8,i6 ((a0.map za).length:Int)),(9,i6 s)]
def za1(a0:List (List UInt8))(a1:List UInt8)(s:Int):AHeap:=[]
def zd4(a0:List (List UInt8))(a1:List UInt8)(o:Int):Exit→Env→AHeap→Nat→Prop:=(xa 0 (Ya Tryz.prog V4 0 zdh (zq9 a0 a1 o)))
noncomputable def wr(m:Option Nat):Option Int:=
 some (-1)
noncomputable def ym(m:Option Nat)(a0:List (List UInt8))(a1:List UInt8)(v1:Int):Option (Int ⊕ Int):=
 if(decide (v1<((a0.map za).length:Int)))=true then
  if(0:Int)≤v1∧v1<((a0.map za).length:Int) then
  if(a1==(a0.getD v1.toNat default))=true then
   Option.map Sum.inr (
    some v1)
  else
   some (.inl (W (v1+1)))
  else none
 else
  Option.map Sum.inr (
   wr m)
noncomputable def xc(m:Option Nat)(a0:List (List UInt8))(a1:List UInt8)(v1:Int):Option Int:=Y1 m (fun(s:Int)=>ym m a0 a1 s) v1
theorem zmf{a0:List (List UInt8)}{a1:List UInt8}{m:Option Nat}{o:Int}(h:wr m=some o) :
 LWp Tryz.prog V4 0 zdh (zq9 a0 a1 o) [] [] 0:=by
 unfold wr at h
 refine zc (zh ?_)
 refine wo ?_
 cases h
 exact AI TT (AI rfl (VS rfl))
theorem zg2{a0:List (List UInt8)}{a1:List UInt8}{v1:Int}{m:Option Nat}{o:Int ⊕ Int}(h:ym m a0 a1 v1=some o) :
 LWp Tryz.prog V4 0 zia (Z2 0 0 (z4p a0 a1) (za1 a0 a1) (zd4 a0 a1) o) [(1,.str a1),(7,.isl 1 (a0.map za) false),(8,i6 ((a0.map za).length:Int)),(9,i6 v1)] [] 0:=by
 unfold ym at h
 refine zc (zh ?_)
 refine zc ?_
 refine yp (v:=(decide (v1<((a0.map za).length:Int)))) rfl TT (fun h7=>?_) (fun h7=>?_)
 ·have h:=zj h7 h
  refine xr ?_
  refine zc ?_
  refine jj ?_
  refine zc (zh ?_)
  obtain⟨h8,h⟩:=qv h
  refine AI h8 ?_
  refine EX (za (a0.getD v1.toNat default)) (AI (um za _ _ (u5 za h8)) (AI (AI (Ze h8) (NB rfl)) ?_))
  refine zc (zh ?_)
  refine LWp.sim (e:=[(1,.str a1),(5,i6 v1),(7,.isl 1 (a0.map za) false),(8,i6 ((a0.map za).length:Int)),(9,i6 v1),(16,.bool (a1==(a0.getD v1.toNat default)))]) (L:=[]) (n:=0) ?_ ?_
  ·exact qq (M:=[]) rfl (S4 rfl rfl rfl rfl (S2 rfl rfl TT)) TT
  refine yp (v:=(a1==(a0.getD v1.toNat default))) rfl TT (fun h9=>?_) (fun h9=>?_)
  ·have h:=zj h9 h
   refine zc (zh ?_)
   refine wo ?_
   obtain⟨o,hq,rfl⟩:=Option.map_eq_some_iff.1 h
   replace h:=hq;clear hq
   refine AI nofun ?_
   cases h
   exact AI TT (AI rfl (VS rfl))
  ·have h:=zo h9 h
   refine xr ?_
   refine zh ?_
   cases h
   exact AI rfl (qq (M:=[]) rfl (S4 rfl rfl rfl rfl TT) TT)
 ·have h:=zo h7 h
  refine Jr ?_
  obtain⟨o,hq,rfl⟩:=Option.map_eq_some_iff.1 h
  replace h:=hq;clear hq
  refine AI nofun ?_
  refine LWp.sim ?_ (zmf h)
  exact qq (M:=[]) rfl TT TT
theorem zhu{a0:List (List UInt8)}{a1:List UInt8}{v1:Int}{m:Option Nat}{o:Int}(h:xc m a0 a1 v1=some o) :
 LWp Tryz.prog V4 0 (.loop zia) (xa 0 (Ya Tryz.prog V4 0 zdh (zq9 a0 a1 o))) [(1,.str a1),(7,.isl 1 (a0.map za) false),(8,i6 ((a0.map za).length:Int)),(9,i6 v1)] [] 0:=
 ww (m:=m) (s:=(v1:Int)) (r:=o) (fun(s:Int)=>ym m a0 a1 s) (z4p a0 a1) (za1 a0 a1) (zd4 a0 a1) (fun s o h=>zg2 h) h
noncomputable def j0(m:Option Nat)(a0:List (List UInt8))(a1:List UInt8):Option Int:=
 xc m a0 a1 0
theorem zja{a0:List (List UInt8)}{a1:List UInt8}{m:Option Nat}{o:Int}(h:j0 m a0 a1=some o):LWp Tryz.prog V4 0 zs3 (zq9 a0 a1 o) (ye 0 [.isl 1 (a0.map za) false,.str a1]) [] 0:=by
 unfold j0 at h
 refine zc (zh ?_)
 refine zc ?_
 refine zc (zh ?_)
 refine jj ?_
 refine LWp.sim ?_ (zhu h)
 exact qq (M:=[]) rfl (S4 rfl rfl rfl rfl TT) TT
theorem zyt{a0:List (List UInt8)}{a1:List UInt8}{m:Option Nat}{o:Int}(h:j0 m a0 a1=some o):PFn Tryz.prog 87 [.isl 1 (a0.map za) false,.str a1] (i6 o):=PFn.ofFnW (L:=y0p) zx4 zuz (NB rfl) rfl (zja h)
def zt7:LCode:=(.seq (.region [Qb 4])
 (.seq (.region [Qm 5 0,
  Qm 6 1,
  Qo 7 (.call 87 [(.t 5),(.t 6)]),
  Qo 8 (.bin .geq (.t 7) (.c (i6 0))),
  Qm 4 8])
 .ret))
def zkx:Lay:=⟨9,[],false⟩
def zi0:List LRes:=[.t 4]
def zzp:LFn:=⟨2,zkx,zt7,zi0⟩
theorem zvv:wb Tryz.prog [] 68=some zzp:=by kernel_rfl
theorem zup:uk Tryz.prog 68:=⟨_,Tryz.func68,rfl,rfl⟩
noncomputable def qp(m:Option Nat)(a0:List (List UInt8))(a1:List UInt8):Option Bool:=
 (j0 m a0 a1).bind fun v1=>
 some (decide (v1≥0))
def y30(a0:List (List UInt8))(a1:List UInt8)(o:Bool):Exit→Env→AHeap→Nat→Prop:=Zz zi0 (jo (.bool o))
theorem zlq{a0:List (List UInt8)}{a1:List UInt8}{m:Option Nat}{o:Bool}(h:qp m a0 a1=some o):LWp Tryz.prog zkx 0 zt7 (y30 a0 a1 o) (ye 0 [.isl 1 (a0.map za) false,.str a1]) [] 0:=by
 unfold qp at h
 refine zc (zh ?_)
 refine zc (zh ?_)
 obtain⟨v1,h1,h⟩:=bind_some h
 refine PFn.call (zyt h1) (S2 rfl rfl TT) ?_
 refine wo ?_
 cases h
 exact AI TT (AI rfl (VS rfl))
theorem y0y{a0:List (List UInt8)}{a1:List UInt8}{m:Option Nat}{o:Bool}(h:qp m a0 a1=some o):PFn Tryz.prog 68 [.isl 1 (a0.map za) false,.str a1] (.bool o):=PFn.ofFnW (L:=zzp) zvv zup (NB rfl) rfl (zlq h)
def zjb:LCode:=(.seq (.region [Qo 8 (.bin .lss (.t 7) (.t 6))])
 (.seq (.cond (.t 8)
  .skip
  (.exit 0))
 (.seq (.block 1
  (.seq (.region [Qm 9 7,
   Qo 10 (.iaddr 1 (.t 5) (.t 7)),
   Ql 11 1 10,
   Qm 3 9,
   Qm 4 11])
  (.seq (.region [Qm 12 0,
   Qm 13 3,
   Qo 14 (.slSl 1 (.t 12) none (some (.t 13)) none),
   Qm 15 4,
   Qo 16 (.call 68 [(.t 14),(.t 15)])])
  (.cond (.t 16)
   (.seq (.region [Qo 2 (.mv (.c (.bool true)))])
   .ret)
   .skip))))
 (.region [Qo 17 (.bin .add (.t 7) (.c (i6 1))),
  Qm 7 17]))))
def zdd:LCode:=(.seq (.region [Qb 2])
 .ret)
def zt2:LCode:=(.seq (.region [Qb 2])
 (.seq (.seq (.region [Qm 5 0,
  Qo 6 (.len false (.t 5)),
  Qi 7 0])
 (.block 0
  (.loop
   zjb)))
 zdd))
def Vb:Lay:=⟨18,[],false⟩
def zic:List LRes:=[.t 2]
def zzo:LFn:=⟨1,Vb,zt2,zic⟩
theorem zwq:wb Tryz.prog [] 57=some zzo:=by kernel_rfl
theorem zxn:uk Tryz.prog 57:=⟨_,Tryz.func57,rfl,rfl⟩
def zqo(a0:List (List UInt8))(o:Bool):Exit→Env→AHeap→Nat→Prop:=Zz zic (jo (.bool o))
def z4b(a0:List (List UInt8))(s:Int):Env:=[(0,.isl 1 (a0.map za) false),(5,.isl 1 (a0.map za) false),(6,i6 ((a0.map za).length:Int)),(7,i6 s)]
def z9j(a0:List (List UInt8))(s:Int):AHeap:=[]
def ze2(a0:List (List UInt8))(o:Bool):Exit→Env→AHeap→Nat→Prop:=(xa 0 (Ya Tryz.prog Vb 0 zdd (zqo a0 o)))
noncomputable def vl(m:Option Nat):Option Bool:=
 some false
noncomputable def qi(m:Option Nat)(a0:List (List UInt8))(v2:Int):Option (Int ⊕ Bool):=
 if(decide (v2<((a0.map za).length:Int)))=true then
  if(0:Int)≤v2∧v2<((a0.map za).length:Int) then
  if(0:Int)≤v2∧v2≤((a0.map za).length:Int) then
  (qp m (a0.take v2.toNat) (a0.getD v2.toNat default)).bind fun v4=>
  if v4=true then
   Option.map Sum.inr (
    some true)
  else
   some (.inl (W (v2+1)))
  else none
  else none
 else
  Option.map Sum.inr (
   vl m)
noncomputable def ja(m:Option Nat)(a0:List (List UInt8))(v2:Int):Option Bool:=Y1 m (fun(s:Int)=>qi m a0 s) v2
theorem ziw{a0:List (List UInt8)}{m:Option Nat}{o:Bool}(h:vl m=some o) :
 LWp Tryz.prog Vb 0 zdd (zqo a0 o) [] [] 0:=by
 unfold vl at h
 refine zc (zh ?_)
 refine wo ?_
 cases h
 exact AI TT (AI rfl (VS rfl))
theorem zh5{a0:List (List UInt8)}{v2:Int}{m:Option Nat}{o:Int ⊕ Bool}(h:qi m a0 v2=some o) :
 LWp Tryz.prog Vb 0 zjb (Z2 0 0 (z4b a0) (z9j a0) (ze2 a0) o) [(0,.isl 1 (a0.map za) false),(5,.isl 1 (a0.map za) false),(6,i6 ((a0.map za).length:Int)),(7,i6 v2)] [] 0:=by
 unfold qi at h
 refine zc (zh ?_)
 refine zc ?_
 refine yp (v:=(decide (v2<((a0.map za).length:Int)))) rfl TT (fun h11=>?_) (fun h11=>?_)
 ·have h:=zj h11 h
  refine xr ?_
  refine zc ?_
  refine jj ?_
  refine zc (zh ?_)
  obtain⟨h12,h⟩:=qv h
  refine AI h12 ?_
  refine EX (za (a0.getD v2.toNat default)) (AI (um za _ _ (u5 za h12)) (AI (AI (Ze h12) (NB rfl)) ?_))
  refine zc (zh ?_)
  obtain⟨h13,h⟩:=qv h
  refine EX (.isl 1 ((a0.take v2.toNat).map za) false) (AI (zwx za (slB za a0 _) rfl) (AI (AI rfl (AI (Int.le_refl _) h13)) ?_))
  obtain⟨v4,h14,h⟩:=bind_some h
  refine PFn.call (y0y h14) (S2 rfl rfl TT) ?_
  refine LWp.sim (e:=[(0,.isl 1 (a0.map za) false),(5,.isl 1 (a0.map za) false),(6,i6 ((a0.map za).length:Int)),(7,i6 v2),(16,.bool v4)]) (L:=[]) (n:=0) ?_ ?_
  ·exact qq (M:=[]) rfl (S4 rfl rfl rfl rfl (AI (VS rfl) TT)) TT
  refine yp (v:=v4) rfl TT (fun h15=>?_) (fun h15=>?_)
  ·have h:=zj h15 h
   refine zc (zh ?_)
   refine wo ?_
   obtain⟨o,hq,rfl⟩:=Option.map_eq_some_iff.1 h
   replace h:=hq;clear hq
   refine AI nofun ?_
   cases h
   exact AI TT (AI rfl (VS rfl))
  ·have h:=zo h15 h
   refine xr ?_
   refine zh ?_
   cases h
   exact AI rfl (qq (M:=[]) rfl (S4 rfl rfl rfl rfl TT) TT)
 ·have h:=zo h11 h
  refine Jr ?_
  obtain⟨o,hq,rfl⟩:=Option.map_eq_some_iff.1 h
  replace h:=hq;clear hq
  refine AI nofun ?_
  refine LWp.sim ?_ (ziw h)
  exact qq (M:=[]) rfl TT TT
theorem zln{a0:List (List UInt8)}{v2:Int}{m:Option Nat}{o:Bool}(h:ja m a0 v2=some o) :
 LWp Tryz.prog Vb 0 (.loop zjb) (xa 0 (Ya Tryz.prog Vb 0 zdd (zqo a0 o))) [(0,.isl 1 (a0.map za) false),(5,.isl 1 (a0.map za) false),(6,i6 ((a0.map za).length:Int)),(7,i6 v2)] [] 0:=
 ww (m:=m) (s:=(v2:Int)) (r:=o) (fun(s:Int)=>qi m a0 s) (z4b a0) (z9j a0) (ze2 a0) (fun s o h=>zh5 h) h
noncomputable def jw(m:Option Nat)(a0:List (List UInt8)):Option Bool:=
 ja m a0 0
theorem zol{a0:List (List UInt8)}{m:Option Nat}{o:Bool}(h:jw m a0=some o):LWp Tryz.prog Vb 0 zt2 (zqo a0 o) (ye 0 [.isl 1 (a0.map za) false]) [] 0:=by
 unfold jw at h
 refine zc (zh ?_)
 refine zc ?_
 refine zc (zh ?_)
 refine jj ?_
 refine LWp.sim ?_ (zln h)
 exact qq (M:=[]) rfl (S4 rfl rfl rfl rfl TT) TT
theorem y0w{a0:List (List UInt8)}{m:Option Nat}{o:Bool}(h:jw m a0=some o):PFn Tryz.prog 57 [.isl 1 (a0.map za) false] (.bool o):=PFn.ofFnW (L:=zzo) zwq zxn (NB rfl) rfl (zol h)
def z6b:LCode:=(.seq (.region [Qo 107 (.bin .lss (.t 106) (.t 105))])
 (.seq (.cond (.t 107)
  .skip
  (.exit 0))
 (.seq (.block 1
  (.seq (.region [Qo 108 (.iaddr 1 (.t 104) (.t 106)),
   Ql 109 1 108,
   Qm 6 109])
  (.region [Qm 110 4,
   Qm 111 110,
   Qn 112 6 (111,true),
   Qg 113 (.call 56 [(.t 112)]) (111,true),
   Qp 114 111 113,
   Qm 4 114])))
 (.region [Qo 115 (.bin .add (.t 106) (.c (i6 1))),
  Qm 106 115]))))
def z58:LCode:=(.seq (.region [Qo 122 (.bin .lss (.t 121) (.t 120))])
 (.seq (.cond (.t 122)
  .skip
  (.exit 2))
 (.seq (.block 3
  (.seq (.region [Qo 123 (.iaddr 5 (.t 119) (.t 121)),
   Qt 124 5 123,
   Qo 8 (.alloc [(i6 0),(i6 0),(.str []),(.isl 1 [] true),(.isl 5 [] true)]),
   ⟨none,.store 5 (.t 8) (.t 124),none⟩])
  (.seq (.region [Qt 125 5 8,
   Qc 126 35 125,
   Qm 9 126])
  (.seq (.region [Qm 127 9,
   Qo 128 (.bin .neq (.t 127) (.c (i6 0)))])
  (.cond (.t 128)
   (.seq (.region [Qm 129 9,
    Qm 2 129])
   .ret)
   .skip)))))
 (.region [Qo 130 (.bin .add (.t 121) (.c (i6 1))),
  Qm 121 130]))))
def z0e:LCode:=(.seq (.region [Qi 2 0])
 .ret)
def z0j:LCode:=(.seq (.seq (.region [Qm 116 4,
 Qo 117 (.un .not (.t 116))])
 (.cond (.t 117)
  (.seq (.region [Qi 2 3])
  .ret)
  .skip))
 (.seq (.seq (.region [Qf 118 4 1,
  Ql 119 1 118,
  Qo 120 (.len false (.t 119)),
  Qi 121 0])
 (.block 2
  (.loop
   z58)))
 z0e))
def zet:LCode:=(.seq (.seq (.region [Qf 103 3 1,
 Ql 104 1 103,
 Qo 105 (.len false (.t 104)),
 Qi 106 0])
 (.block 0
  (.loop
   z6b)))
 z0j)
def zf4:LCode:=(.seq (.region [Qo 1 (.box (.t 0)),
 Qi 2 0])
 (.seq (.seq (.region [Qf 10 0 1,
  Ql 11 1 10,
  Qo 12 (.bin .lss (.t 11) (.c (i6 0))),
  Qm 13 12,
  Qe 14 0 1 (13,false),
  Qk 15 1 14 (13,false),
  Qg 16 (.bin .gtr (.t 15) (.c (i6 5))) (13,false),
  Qo 17 (.pick (.t 13) (.c (.bool true)) (.t 16))])
 (.cond (.t 17)
  (.seq (.region [Qi 2 7])
  .ret)
  .skip))
 (.seq (.region [Qi 3 9007199254740991])
 (.seq (.region [Qf 18 1 1,
  Ql 19 1 18,
  Qo 20 (.bin .eql (.t 19) (.c (i6 0))),
  Qm 21 20,
  Qe 22 0 1 (21,false),
  Qk 23 1 22 (21,false),
  Qg 24 (.bin .eql (.t 23) (.c (i6 1))) (21,false),
  Qn 25 24 (21,false),
  Qe 26 1 1 (25,true),
  Qk 27 1 26 (25,true),
  Qg 28 (.bin .eql (.t 27) (.c (i6 1))) (25,true),
  Qg 29 (.pick (.t 25) (.t 28) (.c (.bool false))) (21,false),
  Qo 30 (.pick (.t 21) (.c (.bool true)) (.t 29)),
  Qm 31 30,
  Qe 32 0 1 (31,false),
  Qk 33 1 32 (31,false),
  Qg 34 (.bin .eql (.t 33) (.c (i6 2))) (31,false),
  Qn 35 34 (31,false),
  Qn 36 3 (35,true),
  Qg 37 (.un .neg (.t 36)) (35,true),
  Qe 38 1 1 (35,true),
  Qk 39 1 38 (35,true),
  Qg 40 (.bin .leq (.t 37) (.t 39)) (35,true),
  Qg 41 (.pick (.t 35) (.t 40) (.c (.bool false))) (31,false),
  Qn 42 41 (31,false),
  Qe 43 1 1 (42,true),
  Qk 44 1 43 (42,true),
  Qn 45 3 (42,true),
  Qg 46 (.bin .leq (.t 44) (.t 45)) (42,true),
  Qg 47 (.pick (.t 42) (.t 46) (.c (.bool false))) (31,false),
  Qo 48 (.pick (.t 31) (.c (.bool true)) (.t 47)),
  Qm 4 48])
 (.seq (.region [Qm 49 4,
  Qm 50 49,
  Qe 51 2 1 (50,true),
  Qk 52 1 51 (50,true),
  Qg 53 (.bin .eql (.t 52) (.c (.str []))) (50,true),
  Qn 54 53 (50,true),
  Qe 55 0 1 (54,false),
  Qk 56 1 55 (54,false),
  Qg 57 (.bin .eql (.t 56) (.c (i6 3))) (54,false),
  Qn 58 57 (54,false),
  Qe 59 2 1 (58,true),
  Qk 60 1 59 (58,true),
  Qg 61 (.call 56 [(.t 60)]) (58,true),
  Qg 62 (.pick (.t 58) (.t 61) (.c (.bool false))) (54,false),
  Qg 63 (.pick (.t 54) (.c (.bool true)) (.t 62)) (50,true),
  Qp 64 50 63,
  Qm 4 64])
 (.seq (.region [Qm 65 4,
  Qm 66 65,
  Qe 67 4 1 (66,true),
  Qk 68 1 67 (66,true),
  Qg 69 (.len false (.t 68)) (66,true),
  Qg 70 (.bin .eql (.t 69) (.c (i6 0))) (66,true),
  Qn 71 70 (66,true),
  Qe 72 0 1 (71,false),
  Qk 73 1 72 (71,false),
  Qg 74 (.bin .geq (.t 73) (.c (i6 4))) (71,false),
  Qg 75 (.pick (.t 71) (.c (.bool true)) (.t 74)) (66,true),
  Qp 76 66 75,
  Qm 4 76])
 (.seq (.seq (.region [Qf 77 0 1,
  Ql 78 1 77,
  Qo 79 (.bin .eql (.t 78) (.c (i6 5)))])
 (.cond (.t 79)
  (.region [Qm 80 4,
   Qm 81 80,
   Qe 82 3 1 (81,true),
   Qk 83 1 82 (81,true),
   Qg 84 (.len false (.t 83)) (81,true),
   Qe 85 4 1 (81,true),
   Qk 86 1 85 (81,true),
   Qg 87 (.len false (.t 86)) (81,true),
   Qg 88 (.bin .eql (.t 84) (.t 87)) (81,true),
   Qp 89 81 88,
   Qm 90 89,
   Qe 91 3 1 (90,true),
   Qk 92 1 91 (90,true),
   Qg 93 (.call 57 [(.t 92)]) (90,true),
   Qg 94 (.un .not (.t 93)) (90,true),
   Qp 95 90 94,
   Qm 4 95])
  (.region [Qm 96 4,
   Qm 97 96,
   Qe 98 3 1 (97,true),
   Qk 99 1 98 (97,true),
   Qg 100 (.len false (.t 99)) (97,true),
   Qg 101 (.bin .eql (.t 100) (.c (i6 0))) (97,true),
   Qp 102 97 101,
   Qm 4 102])))
 zet)))))))
def ku:Lay:=⟨131,[],false⟩
def z9n:List LRes:=[.t 2]
def zlo:LFn:=⟨1,ku,zf4,z9n⟩
theorem zmu:wb Tryz.prog [] 35=some zlo:=by kernel_rfl
theorem zi1:uk Tryz.prog 35:=⟨_,Tryz.func35,rfl,rfl⟩
def Jf(a0:GJ)(o:Int):Exit→Env→AHeap→Nat→Prop:=Zz z9n (Xx 3 3 (i6 o) [])
def Uw(a0:GJ)(s:(Bool×Int)):Env:=[(1,.ptr (3,0) 0 0),(4,.bool s.1),(104,.isl 1 (a0.fA.map za) false),(105,i6 ((a0.fA.map za).length:Int)),(106,i6 s.2)]
def z2r(a0:GJ)(s:(Bool×Int)):AHeap:=[((3,0),.one (z6 a0))]
def z4e(a0:GJ)(o:Int):Exit→Env→AHeap→Nat→Prop:=(xa 0 (Ya Tryz.prog ku 3 z0j (Jf a0 o)))
noncomputable def wh(rec2:GJ→Option Int)(m:Option Nat):Option Int:=
 some 0
noncomputable def jc(rec2:GJ→Option Int)(m:Option Nat)(a0:GJ)(v11:Int):Option (Int ⊕ Int):=
 if(decide (v11<((a0.fE.map ze).length:Int)))=true then
  if(0:Int)≤v11∧v11<((a0.fE.map ze).length:Int) then
  ((Zo (a0.fE.getD v11.toNat default))).bind fun v14=>
  (rec2 v14).bind fun v15=>
  if(v15 != 0)=true then
   Option.map Sum.inr (
    some v15)
  else
   some (.inl (W (v11+1)))
  else none
 else
  Option.map Sum.inr (
   wh rec2 m)
noncomputable def ki(rec2:GJ→Option Int)(m:Option Nat)(a0:GJ)(v11:Int):Option Int:=Y1 m (fun(s:Int)=>jc rec2 m a0 s) v11
noncomputable def yq(rec2:GJ→Option Int)(m:Option Nat)(a0:GJ)(v5:Bool):Option Int:=
 if(!v5)=true then
  some 3
 else
  ki rec2 m a0 0
noncomputable def y9(rec2:GJ→Option Int)(m:Option Nat)(a0:GJ)(v5:Bool)(v6:Int):Option ((Bool×Int) ⊕ Int):=
 if(decide (v6<((a0.fA.map za).length:Int)))=true then
  if(0:Int)≤v6∧v6<((a0.fA.map za).length:Int) then
  (if(v5==true)=true then qk m (a0.fA.getD v6.toNat default) else some default).bind fun v8=>
  some (.inl ((v5&&v8),(W (v6+1))))
  else none
 else
  Option.map Sum.inr (
   yq rec2 m a0 v5)
noncomputable def qy(rec2:GJ→Option Int)(m:Option Nat)(a0:GJ)(v5:Bool)(v6:Int):Option Int:=Y1 m (fun(s:(Bool×Int))=>y9 rec2 m a0 s.1 s.2) (v5,v6)
def Ux(a0:GJ)(s:Int):Env:=[(119,.isl 5 (a0.fE.map ze) false),(120,i6 ((a0.fE.map ze).length:Int)),(121,i6 s)]
def z2e(a0:GJ)(s:Int):AHeap:=[]
def z4q(a0:GJ)(o:Int):Exit→Env→AHeap→Nat→Prop:=(xa 2 (Ya Tryz.prog ku 3 z0e (Jf a0 o)))
abbrev Hr2(rec2:GJ→Option Int):Prop:=∀ {a0:GJ} {o:Int},rec2 a0=some o→ACalls Tryz.prog 35 [.agg (z6 a0)] [] 3 (kg 3 (i6 o) [])
theorem zcd{rec2:GJ→Option Int}(hrec2:Hr2 rec2){a0:GJ}{m:Option Nat}{o:Int}(h:wh rec2 m=some o) :
 LWp Tryz.prog ku 3 z0e (Jf a0 o) [] [] 3:=by
 unfold wh at h
 refine zc (zh ?_)
 refine wo ?_
 cases h
 exact AI TT (Km (n':=3) [] [] rfl rfl (VS rfl) TT)
theorem z98{rec2:GJ→Option Int}(hrec2:Hr2 rec2){a0:GJ}{v11:Int}{m:Option Nat}{o:Int ⊕ Int}(h:jc rec2 m a0 v11=some o) :
 LWp Tryz.prog ku 3 z58 (Z2 3 3 (Ux a0) (z2e a0) (z4q a0) o) [(119,.isl 5 (a0.fE.map ze) false),(120,i6 ((a0.fE.map ze).length:Int)),(121,i6 v11)] [] 3:=by
 unfold jc at h
 refine zc (zh ?_)
 refine zc ?_
 refine yp (v:=(decide (v11<((a0.fE.map ze).length:Int)))) rfl TT (fun h25=>?_) (fun h25=>?_)
 ·have h:=zj h25 h
  refine xr ?_
  refine zc ?_
  refine jj ?_
  refine zc (zh ?_)
  obtain⟨h26,h⟩:=qv h
  refine AI h26 ?_
  obtain⟨v14,h27,h⟩:=bind_some h
  refine EX (z6 v14) (AI (u4 (u5 ze h26) h27) (AI (AI (Ze h26) (NB rfl)) ?_))
  refine zc (zh ?_)
  obtain⟨v15,h28,h⟩:=bind_some h
  refine Q1 (k:=3) (m:=0) (L':=[]) (rest:=[((3,0),.one (z6 v14))]) (R':=i6 v15) [] (hrec2 h28) rfl rfl rfl (AI (VS rfl) TT) TT (wv _ rfl) TT rfl ?_
  refine LWp.sim (e:=[(9,i6 v15),(119,.isl 5 (a0.fE.map ze) false),(120,i6 ((a0.fE.map ze).length:Int)),(121,i6 v11)]) (L:=[]) (n:=3) ?_ ?_
  ·exact qq (M:=[]) rfl (S4 rfl rfl rfl rfl TT) TT
  refine zc (zh ?_)
  refine yp (v:=(v15 != 0)) rfl TT (fun h29=>?_) (fun h29=>?_)
  ·have h:=zj h29 h
   refine zc (zh ?_)
   refine wo ?_
   obtain⟨o,hq,rfl⟩:=Option.map_eq_some_iff.1 h
   replace h:=hq;clear hq
   refine AI nofun ?_
   cases h
   exact AI TT (Km (n':=3) [] [] rfl rfl (VS rfl) TT)
  ·have h:=zo h29 h
   refine xr ?_
   refine zh ?_
   cases h
   exact AI rfl (qq (M:=[]) rfl (S2 rfl rfl (AI (VS rfl) TT)) TT)
 ·have h:=zo h25 h
  refine Jr ?_
  obtain⟨o,hq,rfl⟩:=Option.map_eq_some_iff.1 h
  replace h:=hq;clear hq
  refine AI nofun ?_
  refine LWp.sim ?_ (zcd hrec2 h)
  exact qq (M:=[]) rfl TT TT
theorem zci{rec2:GJ→Option Int}(hrec2:Hr2 rec2){a0:GJ}{v11:Int}{m:Option Nat}{o:Int}(h:ki rec2 m a0 v11=some o) :
 LWp Tryz.prog ku 3 (.loop z58) (xa 2 (Ya Tryz.prog ku 3 z0e (Jf a0 o))) [(119,.isl 5 (a0.fE.map ze) false),(120,i6 ((a0.fE.map ze).length:Int)),(121,i6 v11)] [] 3:=
 ww (m:=m) (s:=(v11:Int)) (r:=o) (fun(s:Int)=>jc rec2 m a0 s) (Ux a0) (z2e a0) (z4q a0) (fun s o h=>z98 hrec2 h) h
theorem zcu{rec2:GJ→Option Int}(hrec2:Hr2 rec2){a0:GJ}{v5:Bool}{m:Option Nat}{o:Int}(h:yq rec2 m a0 v5=some o) :
 LWp Tryz.prog ku 3 z0j (Jf a0 o) [(1,.ptr (3,0) 0 0),(4,.bool v5)] [((3,0),.one (z6 a0))] 4:=by
 unfold yq at h
 refine zc ?_
 refine zc (zh ?_)
 refine yp (v:=(!v5)) rfl TT (fun h14=>?_) (fun h14=>?_)
 ·have h:=zj h14 h
  refine zc (zh ?_)
  refine wo ?_
  cases h
  exact AI TT (Km (n':=4) [] [] rfl rfl (VS rfl) TT)
 ·have h:=zo h14 h
  refine xr ?_
  refine zc ?_
  refine zc (zh ?_)
  refine jj ?_
  refine LWp.sim ?_ (zci hrec2 h)
  exact qq (M:=[]) rfl (S2 rfl rfl (AI (VS rfl) TT)) TT
theorem zac{rec2:GJ→Option Int}(hrec2:Hr2 rec2){a0:GJ}{v5:Bool}{v6:Int}{m:Option Nat}{o:(Bool×Int) ⊕ Int}(h:y9 rec2 m a0 v5 v6=some o) :
 LWp Tryz.prog ku 3 z6b (Z2 3 4 (Uw a0) (z2r a0) (z4e a0) o) [(1,.ptr (3,0) 0 0),(4,.bool v5),(104,.isl 1 (a0.fA.map za) false),(105,i6 ((a0.fA.map za).length:Int)),(106,i6 v6)] [((3,0),.one (z6 a0))] 4:=by
 unfold y9 at h
 refine zc (zh ?_)
 refine zc ?_
 refine yp (v:=(decide (v6<((a0.fA.map za).length:Int)))) rfl TT (fun h11=>?_) (fun h11=>?_)
 ·have h:=zj h11 h
  refine xr ?_
  refine zc ?_
  refine jj ?_
  refine zc (zh ?_)
  obtain⟨h12,h⟩:=qv h
  refine AI h12 ?_
  refine EX (za (a0.fA.getD v6.toNat default)) (AI (um za _ _ (u5 za h12)) (AI (AI (Ze h12) (NB rfl)) ?_))
  refine zh ?_
  obtain⟨v8,h13,h⟩:=bind_some h
  refine Or.inl (EX (.bool v8) (AI (fun hp=>AI hp (PFn.call (zk6 (zj hp h13)) (AI (VS rfl) TT) (AI rfl (AI rfl rfl)))) ?_))
  refine AI (fun hc=>(bqt hc)) ?_
  refine LWp.sim (e:=[(1,.ptr (3,0) 0 0),(4,.bool (v5&&v8)),(104,.isl 1 (a0.fA.map za) false),(105,i6 ((a0.fA.map za).length:Int)),(106,i6 v6)]) (L:=[((3,0),.one (z6 a0))]) (n:=4) ?_ ?_
  ·exact qq (M:=[((3,0),(3,0))]) rfl (SP rfl (S4 rfl rfl rfl rfl TT)) (AI (AI rfl (OL rfl)) TT)
  refine zh ?_
  cases h
  exact AI rfl (qq (M:=[((3,0),(3,0))]) rfl (SP rfl (S4 rfl rfl rfl rfl TT)) (AI (AI rfl (OL rfl)) TT))
 ·have h:=zo h11 h
  refine Jr ?_
  obtain⟨o,hq,rfl⟩:=Option.map_eq_some_iff.1 h
  replace h:=hq;clear hq
  refine AI nofun ?_
  refine LWp.sim ?_ (zcu hrec2 h)
  exact qq (M:=[((3,0),(3,0))]) rfl (SP rfl (AI (VS rfl) TT)) (AI (AI rfl (OL rfl)) TT)
theorem zcw{rec2:GJ→Option Int}(hrec2:Hr2 rec2){a0:GJ}{v5:Bool}{v6:Int}{m:Option Nat}{o:Int}(h:qy rec2 m a0 v5 v6=some o) :
 LWp Tryz.prog ku 3 (.loop z6b) (xa 0 (Ya Tryz.prog ku 3 z0j (Jf a0 o))) [(1,.ptr (3,0) 0 0),(4,.bool v5),(104,.isl 1 (a0.fA.map za) false),(105,i6 ((a0.fA.map za).length:Int)),(106,i6 v6)] [((3,0),.one (z6 a0))] 4:=
 ww (m:=m) (s:=((v5,v6):(Bool×Int))) (r:=o) (fun(s:(Bool×Int))=>y9 rec2 m a0 s.1 s.2) (Uw a0) (z2r a0) (z4e a0) (fun s o h=>zac hrec2 h) h
noncomputable def yf(rec2:GJ→Option Int)(m:Option Nat)(a0:GJ)(v3:Bool):Option Int:=
 qy rec2 m a0 v3 0
theorem z0x{rec2:GJ→Option Int}(hrec2:Hr2 rec2){a0:GJ}{v3:Bool}{m:Option Nat}{o:Int}(h:yf rec2 m a0 v3=some o) :
 LWp Tryz.prog ku 3 zet (Jf a0 o) [(1,.ptr (3,0) 0 0),(4,.bool v3)] [((3,0),.one (z6 a0))] 4:=by
 unfold yf at h
 refine zc ?_
 refine zc (zh ?_)
 refine jj ?_
 refine LWp.sim ?_ (zcw hrec2 h)
 exact qq (M:=[((3,0),(3,0))]) rfl (SP rfl (S4 rfl rfl rfl rfl TT)) (AI (AI rfl (OL rfl)) TT)
noncomputable def y8(rec2:GJ→Option Int)(m:Option Nat)(a0:GJ):Option Int:=
 if((decide (a0.fK<0)) || (decide (a0.fK > 5)))=true then
  some 7
 else
  (if((((((a0.fN==0) || ((a0.fK==1)&&(a0.fN==1))) || (((a0.fK==2)&&(decide ((W (0-9007199254740991))≤a0.fN)))&&(decide (a0.fN≤9007199254740991))))==true)&&((a0.fT==([]:List UInt8))==false))&&((a0.fK==3)==true))=true then qk m a0.fT else some default).bind fun v1=>
  if(a0.fK==5)=true then
   (if(((((((a0.fN==0) || ((a0.fK==1)&&(a0.fN==1))) || (((a0.fK==2)&&(decide ((W (0-9007199254740991))≤a0.fN)))&&(decide (a0.fN≤9007199254740991))))&&((a0.fT==([]:List UInt8)) || ((a0.fK==3)&&v1)))&&((((a0.fE.map ze).length:Int)==0) || (decide (a0.fK≥4))))&&(((a0.fA.map za).length:Int)==((a0.fE.map ze).length:Int)))==true)=true then jw m a0.fA else some default).bind fun v2=>
   yf rec2 m a0 (((((((a0.fN==0) || ((a0.fK==1)&&(a0.fN==1))) || (((a0.fK==2)&&(decide ((W (0-9007199254740991))≤a0.fN)))&&(decide (a0.fN≤9007199254740991))))&&((a0.fT==([]:List UInt8)) || ((a0.fK==3)&&v1)))&&((((a0.fE.map ze).length:Int)==0) || (decide (a0.fK≥4))))&&(((a0.fA.map za).length:Int)==((a0.fE.map ze).length:Int)))&&(!v2))
  else
   yf rec2 m a0 ((((((a0.fN==0) || ((a0.fK==1)&&(a0.fN==1))) || (((a0.fK==2)&&(decide ((W (0-9007199254740991))≤a0.fN)))&&(decide (a0.fN≤9007199254740991))))&&((a0.fT==([]:List UInt8)) || ((a0.fK==3)&&v1)))&&((((a0.fE.map ze).length:Int)==0) || (decide (a0.fK≥4))))&&(((a0.fA.map za).length:Int)==0))
theorem zbh{rec2:GJ→Option Int}(hrec2:Hr2 rec2){a0:GJ}{m:Option Nat}{o:Int}(h:y8 rec2 m a0=some o):LWp Tryz.prog ku 3 zf4 (Jf a0 o) (ye 0 [.agg (z6 a0)]) [] 3:=by
 unfold y8 at h
 refine zc (zh ?_)
 refine zc ?_
 refine zc (zh ?_)
 refine AI (fun hp=>hp) ?_
 refine AI (fun hp=>hp) ?_
 refine AI (fun hc=>(bqf hc)) ?_
 refine LWp.sim (e:=[(1,.ptr (3,0) 0 0),(17,.bool ((decide (a0.fK<0)) || (decide (a0.fK > 5))))]) (L:=[((3,0),.one (z6 a0))]) (n:=4) ?_ ?_
 ·exact qq (M:=[((3,0),(3,0))]) rfl (SP rfl (AI (VS rfl) TT)) (AI (AI rfl (OL rfl)) TT)
 refine yp (v:=((decide (a0.fK<0)) || (decide (a0.fK > 5)))) rfl TT (fun h1=>?_) (fun h1=>?_)
 ·have h:=zj h1 h
  refine zc (zh ?_)
  refine wo ?_
  cases h
  exact AI TT (Km (n':=4) [] [] rfl rfl (VS rfl) TT)
 ·have h:=zo h1 h
  refine xr ?_
  refine zc (zh ?_)
  refine zc (zh ?_)
  refine AI (fun hp=>hp) ?_
  refine AI (fun hp=>hp) ?_
  refine AI (fun hp=>hp) ?_
  refine AI (fun hp=>hp) ?_
  refine AI (fun hp=>hp) ?_
  refine AI (fun hp=>(AI hp (fun hc=>(z5z hp (bqt hc))))) ?_
  refine AI (fun hc=>(bqf hc)) ?_
  refine AI (fun hp=>hp) ?_
  refine AI (fun hp=>hp) ?_
  refine AI (fun hp=>hp) ?_
  refine AI (fun hp=>hp) ?_
  refine AI (fun hp=>hp) ?_
  refine AI (fun hp=>(AI hp hp)) ?_
  refine AI (fun hp=>(AI hp (fun hc=>(z5z hp (bqt hc))))) ?_
  refine AI (fun hp=>hp) ?_
  refine AI (fun hp=>hp) ?_
  refine AI (fun hp=>(AI hp hp)) ?_
  refine AI (fun hp=>(AI hp (fun hc=>(z5z hp (bqt hc))))) ?_
  refine AI (fun hc=>(bqf hc)) ?_
  refine LWp.sim (e:=[(1,.ptr (3,0) 0 0),(4,.bool (((a0.fN==0) || ((a0.fK==1)&&(a0.fN==1))) || (((a0.fK==2)&&(decide ((W (0-9007199254740991))≤a0.fN)))&&(decide (a0.fN≤9007199254740991)))))]) (L:=[((3,0),.one (z6 a0))]) (n:=4) ?_ ?_
  ·exact qq (M:=[((3,0),(3,0))]) rfl (SP rfl (AI (VS rfl) TT)) (AI (AI rfl (OL rfl)) TT)
  refine zc (zh ?_)
  refine AI (fun hp=>hp) ?_
  refine AI (fun hp=>hp) ?_
  refine AI (fun hp=>hp) ?_
  refine AI (fun hp=>hp) ?_
  refine AI (fun hp=>hp) ?_
  refine AI (fun hp=>hp) ?_
  refine AI (fun hp=>hp) ?_
  obtain⟨v1,h2,h⟩:=bind_some h
  refine Or.inl (EX (.bool v1) (AI (fun hp=>AI hp (PFn.call (zk6 (zj hp h2)) (AI (VS rfl) TT) (AI rfl (AI rfl rfl)))) ?_))
  refine AI (fun hp=>(AI hp (fun hc=>(z5z hp (bqt hc))))) ?_
  refine AI (fun hp=>(AI hp (fun hc=>(z5z hp (bqf hc))))) ?_
  refine AI (fun hc=>(bqt hc)) ?_
  refine LWp.sim (e:=[(1,.ptr (3,0) 0 0),(4,.bool ((((a0.fN==0) || ((a0.fK==1)&&(a0.fN==1))) || (((a0.fK==2)&&(decide ((W (0-9007199254740991))≤a0.fN)))&&(decide (a0.fN≤9007199254740991))))&&((a0.fT==([]:List UInt8)) || ((a0.fK==3)&&v1))))]) (L:=[((3,0),.one (z6 a0))]) (n:=4) ?_ ?_
  ·exact qq (M:=[((3,0),(3,0))]) rfl (SP rfl (AI (VS rfl) TT)) (AI (AI rfl (OL rfl)) TT)
  refine zc (zh ?_)
  refine AI (fun hp=>hp) ?_
  refine AI (fun hp=>hp) ?_
  refine AI (fun hp=>hp) ?_
  refine AI (fun hp=>hp) ?_
  refine AI (fun hp=>hp) ?_
  refine AI (fun hp=>hp) ?_
  refine AI (fun hp=>(AI hp (fun hc=>(z5z hp (bqf hc))))) ?_
  refine AI (fun hc=>(bqt hc)) ?_
  refine LWp.sim (e:=[(1,.ptr (3,0) 0 0),(4,.bool (((((a0.fN==0) || ((a0.fK==1)&&(a0.fN==1))) || (((a0.fK==2)&&(decide ((W (0-9007199254740991))≤a0.fN)))&&(decide (a0.fN≤9007199254740991))))&&((a0.fT==([]:List UInt8)) || ((a0.fK==3)&&v1)))&&((((a0.fE.map ze).length:Int)==0) || (decide (a0.fK≥4)))))]) (L:=[((3,0),.one (z6 a0))]) (n:=4) ?_ ?_
  ·exact qq (M:=[((3,0),(3,0))]) rfl (SP rfl (AI (VS rfl) TT)) (AI (AI rfl (OL rfl)) TT)
  refine zc ?_
  refine zc (zh ?_)
  refine yp (v:=(a0.fK==5)) rfl TT (fun h3=>?_) (fun h3=>?_)
  ·have h:=zj h3 h
   refine zh ?_
   refine AI (fun hp=>hp) ?_
   refine AI (fun hp=>hp) ?_
   refine AI (fun hp=>hp) ?_
   refine AI (fun hp=>hp) ?_
   refine AI (fun hp=>(AI hp hp)) ?_
   refine AI (fun hc=>(bqt hc)) ?_
   refine AI (fun hp=>hp) ?_
   obtain⟨v2,h4,h⟩:=bind_some h
   refine Or.inl (EX (.bool v2) (AI (fun hp=>AI hp (PFn.call (y0w (zj hp h4)) (AI (VS rfl) TT) (AI rfl (AI rfl rfl)))) ?_))
   refine AI (fun hp=>hp) ?_
   refine AI (fun hc=>(bqt hc)) ?_
   refine LWp.sim ?_ (z0x hrec2 h)
   exact qq (M:=[((3,0),(3,0))]) rfl (SP rfl (AI (VS rfl) TT)) (AI (AI rfl (OL rfl)) TT)
  ·have h:=zo h3 h
   refine zh ?_
   refine AI (fun hp=>hp) ?_
   refine AI (fun hp=>hp) ?_
   refine AI (fun hp=>hp) ?_
   refine AI (fun hc=>(bqt hc)) ?_
   refine LWp.sim ?_ (z0x hrec2 h)
   exact qq (M:=[((3,0),(3,0))]) rfl (SP rfl (AI (VS rfl) TT)) (AI (AI rfl (OL rfl)) TT)
theorem zfg{rec2:GJ→Option Int}(hrec2:Hr2 rec2){a0:GJ}{m:Option Nat}{o:Int}(h:y8 rec2 m a0=some o):ACalls Tryz.prog 35 [.agg (z6 a0)] [] 3 (kg 3 (i6 o) []):=Yw (L:=zlo) zmu zi1 (NB rfl) (zbh hrec2 h)
noncomputable def q8(m:Option Nat):Nat→GJ→Option Int
 |0=>fun _=>none
 |k+1=>y8 (q8 m k) m
noncomputable def wk(m:Option Nat)(a0:GJ):Option Int:=zp7 m (fun k=>q8 m k a0)
theorem z8g{m:Option Nat}:∀ (k:Nat) {a0:GJ} {o:Int},q8 m k a0=some o→ACalls Tryz.prog 35 [.agg (z6 a0)] [] 3 (kg 3 (i6 o) [])
 |0,_,_,h=>nomatch h
 |k+1,_,_,h=>zfg (fun h=>z8g k h) h
theorem zmz{a0:GJ}{m:Option Nat}{o:Int}(h:wk m a0=some o):ACalls Tryz.prog 35 [.agg (z6 a0)] [] 3 (kg 3 (i6 o) []):=(X9 h).elim fun k h=>z8g k h
noncomputable def ko(m:Option Nat)(a0:GJ):Option Int:=y8 (wk m) m a0
theorem zzr{a0:GJ}{m:Option Nat}{o:Int}(h:ko m a0=some o):PFn Tryz.prog 35 [.agg (z6 a0)] (i6 o):=
 ⟨rfl,_,Q1 (k:=3) (m:=0) (L':=[]) (rest:=[]) (R':=i6 o) [] (zfg zmz h) rfl rfl rfl (AI (VS rfl) TT) TT (wv _ rfl) TT rfl ⟨rfl,rfl,rfl⟩⟩
def zsa:LCode:=(.seq (.region [Qo 1 (.box (.t 0)),
 Qi 2 0])
 (.seq (.seq (.region [Qt 6 5 1,
  Qc 7 34 6,
  Qm 5 7,
  Qo 8 (.ext 0 (.t 5)),
  Qo 9 (.ext 1 (.t 5)),
  Qm 3 8,
  Qm 4 9])
 (.seq (.region [Qm 10 3,
  Qo 11 (.bin .gtr (.t 10) (.c (i6 400))),
  Qm 12 11,
  Qn 13 4 (12,false),
  Qg 14 (.bin .gtr (.t 13) (.c (i6 20))) (12,false),
  Qo 15 (.pick (.t 12) (.c (.bool true)) (.t 14))])
 (.cond (.t 15)
  (.seq (.region [Qi 2 2])
  .ret)
  .skip)))
 (.seq (.region [Qt 16 5 1,
  Qc 17 35 16,
  Qm 2 17])
 .ret)))
def zoc:Lay:=⟨18,[],false⟩
def zo1:List LRes:=[.t 2]
def zzl:LFn:=⟨1,zoc,zsa,zo1⟩
theorem zxl:wb Tryz.prog [] 20=some zzl:=by kernel_rfl
theorem zvx:uk Tryz.prog 20:=⟨_,Tryz.func20,rfl,rfl⟩
noncomputable def ql(m:Option Nat)(a0:GJ):Option Int:=
 (u1 m a0).bind fun v1=>
 if((decide (v1.1 > 400)) || (decide (v1.2 > 20)))=true then
  some 2
 else
  (ko m a0).bind fun v2=>
  some v2
def y34(a0:GJ)(o:Int):Exit→Env→AHeap→Nat→Prop:=Zz zo1 (jo (i6 o))
theorem zj9{a0:GJ}{m:Option Nat}{o:Int}(h:ql m a0=some o):LWp Tryz.prog zoc 0 zsa (y34 a0 o) (ye 0 [.agg (z6 a0)]) [] 0:=by
 unfold ql at h
 refine zc (zh ?_)
 refine zc ?_
 refine zc (zh ?_)
 obtain⟨v1,h1,h⟩:=bind_some h
 refine PFn.call (zzk h1) (AI (VS rfl) TT) ?_
 refine LWp.sim (e:=[(1,.ptr (0,0) 0 0),(3,i6 v1.1),(4,i6 v1.2)]) (L:=[((0,0),.one (z6 a0))]) (n:=1) ?_ ?_
 ·exact qq (M:=[((0,0),(0,0))]) rfl (SP rfl (S2 rfl rfl TT)) (AI (AI rfl (OL rfl)) TT)
 refine zc (zh ?_)
 refine AI (fun hp=>hp) ?_
 refine AI (fun hc=>(bqf hc)) ?_
 refine yp (v:=((decide (v1.1 > 400)) || (decide (v1.2 > 20)))) rfl TT (fun h2=>?_) (fun h2=>?_)
 ·have h:=zj h2 h
  refine zc (zh ?_)
  refine wo ?_
  cases h
  exact AI TT (AI rfl (VS rfl))
 ·have h:=zo h2 h
  refine xr ?_
  refine zc (zh ?_)
  obtain⟨v2,h3,h⟩:=bind_some h
  refine PFn.call (zzr h3) (AI (VS rfl) TT) ?_
  refine LWp.sim (e:=[(2,i6 v2)]) (L:=[]) (n:=0) ?_ ?_
  ·exact qq (M:=[]) rfl (AI (VS rfl) TT) TT
  refine wo ?_
  cases h
  exact AI TT (AI rfl (VS rfl))
theorem ztq{a0:GJ}{m:Option Nat}{o:Int}(h:ql m a0=some o):PFn Tryz.prog 20 [.agg (z6 a0)] (i6 o):=PFn.ofFnW (L:=zzl) zxl zvx (NB rfl) rfl (zj9 h)
def ztp:LCode:=(.seq (.region [Qo 2 (.alloc [(i6 0),(i6 0),(.str []),(.isl 1 [] true),(.isl 5 [] true)])])
 (.seq (.region [Qm 3 0,
  Qo 4 (.build [(i6 0),(i6 0),(.str []),(.isl 1 [] true),(.isl 5 [] true)] [(0,1,(.c (i6 2))),(1,1,(.t 3))]),
  ⟨none,.store 5 (.t 2) (.t 4),none⟩])
 .ret))
def zoy:Lay:=⟨5,[],false⟩
def zl7:List LRes:=[.cell 2 true 5]
def y1d:LFn:=⟨1,zoy,ztp,zl7⟩
theorem zu9:wb Tryz.prog [] 37=some y1d:=by kernel_rfl
theorem zvi:uk Tryz.prog 37:=⟨_,Tryz.func37,rfl,rfl⟩
noncomputable def qf(m:Option Nat)(a0:Int):Option GJ:=
 some (GJ.mk 2 a0 ([]:List UInt8) ([]:List (List UInt8)) ([]:List (List AVal)))
def y23(a0:Int)(o:GJ):Exit→Env→AHeap→Nat→Prop:=Zz zl7 (jo (.agg (z6 o)))
theorem znw{a0:Int}{m:Option Nat}{o:GJ}(h:qf m a0=some o):LWp Tryz.prog zoy 0 ztp (y23 a0 o) (ye 0 [i6 a0]) [] 0:=by
 unfold qf at h
 refine zc (zh ?_)
 refine zc (zh ?_)
 refine wo ?_
 cases h
 exact AI (AI TT (AI rfl (NB rfl))) (AI rfl (Vw.aggL (S2 rfl rfl (AI (VS rfl) (AI (Vw.islF _ _ _) (AI (Vw.islF _ _ _) TT))))))
theorem z8l{a0:Int}{m:Option Nat}{o:GJ}(h:qf m a0=some o):PFn Tryz.prog 37 [i6 a0] (.agg (z6 o)):=PFn.ofFnW (L:=y1d) zu9 zvi (NB rfl) rfl (znw h)
def zth:LCode:=(.seq (.region [Qo 2 (.alloc [(i6 0),(i6 0),(.str []),(.isl 1 [] true),(.isl 5 [] true)])])
 (.seq (.region [Qm 3 0,
  Qo 4 (.build [(i6 0),(i6 0),(.str []),(.isl 1 [] true),(.isl 5 [] true)] [(0,1,(.c (i6 3))),(2,1,(.t 3))]),
  ⟨none,.store 5 (.t 2) (.t 4),none⟩])
 .ret))
def zmx:Lay:=⟨5,[],false⟩
def zl8:List LRes:=[.cell 2 true 5]
def y1h:LFn:=⟨1,zmx,zth,zl8⟩
theorem zu3:wb Tryz.prog [] 38=some y1h:=by kernel_rfl
theorem zwo:uk Tryz.prog 38:=⟨_,Tryz.func38,rfl,rfl⟩
noncomputable def ji(m:Option Nat)(a0:List UInt8):Option GJ:=
 some (GJ.mk 3 0 a0 ([]:List (List UInt8)) ([]:List (List AVal)))
def y1y(a0:List UInt8)(o:GJ):Exit→Env→AHeap→Nat→Prop:=Zz zl8 (jo (.agg (z6 o)))
theorem zok{a0:List UInt8}{m:Option Nat}{o:GJ}(h:ji m a0=some o):LWp Tryz.prog zmx 0 zth (y1y a0 o) (ye 0 [.str a0]) [] 0:=by
 unfold ji at h
 refine zc (zh ?_)
 refine zc (zh ?_)
 refine wo ?_
 cases h
 exact AI (AI TT (AI rfl (NB rfl))) (AI rfl (Vw.aggL (S2 rfl rfl (AI (VS rfl) (AI (Vw.islF _ _ _) (AI (Vw.islF _ _ _) TT))))))
theorem zfe{a0:List UInt8}{m:Option Nat}{o:GJ}(h:ji m a0=some o):PFn Tryz.prog 38 [.str a0] (.agg (z6 o)):=PFn.ofFnW (L:=y1h) zu3 zwo (NB rfl) rfl (zok h)
def zsk:LCode:=(.seq (.region [Qo 4 (.box (.t 1)),
 Qo 5 (.box (.t 2)),
 Qo 6 (.alloc [(i6 0),(i6 0),(.str []),(.isl 1 [] true),(.isl 5 [] true)])])
 (.seq (.draw [⟨Qm 7 0,[]⟩,
  ⟨Qf 9 3 5,[]⟩,
  ⟨Ql 10 1 9,[]⟩,
  ⟨Qt 12 5 4,[]⟩,
  ⟨Qf 14 4 5,[]⟩,
  ⟨Ql 15 1 14,[]⟩,
  ⟨Qo 8 (.mkSl true 1 [(.str [])] 1 [(0,(.t 7))]),[]⟩,
  ⟨Qo 13 (.mkSl true 5 [(i6 0),(i6 0),(.str []),(.isl 1 [] true),(.isl 5 [] true)] 1 [(0,(.t 12))]),[]⟩,
  ⟨Qo 11 (.app true 1 16 (.t 8) (.t 10)),[3,5]⟩,
  ⟨Qo 16 (.app true 5 80 (.t 13) (.t 15)),[]⟩,
  ⟨Qo 17 (.build [(i6 0),(i6 0),(.str []),(.isl 1 [] true),(.isl 5 [] true)] [(0,1,(.c (i6 5))),(3,1,(.t 11)),(4,1,(.t 16))]),[]⟩,
  ⟨⟨none,.store 5 (.t 6) (.t 17),none⟩,[]⟩])
 .ret))
def zox:Lay:=⟨18,[],false⟩
def zmb:List LRes:=[.cell 6 true 5]
def y14:LFn:=⟨3,zox,zsk,zmb⟩
theorem zwc:wb Tryz.prog [] 36=some y14:=by kernel_rfl
theorem zva:uk Tryz.prog 36:=⟨_,Tryz.func36,rfl,rfl⟩
noncomputable def zd(m:Option Nat)(a0:List UInt8)(a1:GJ)(a2:GJ):Option GJ:=
 if((([a0]:List (List UInt8))++a2.fA).map za).length*16≤140737488355328 then
 if((([z6 a1]:List (List AVal))++a2.fE).map ze).length*80≤140737488355328 then
 some (GJ.mk 5 0 ([]:List UInt8) (([a0]:List (List UInt8))++a2.fA) (([z6 a1]:List (List AVal))++a2.fE))
 else none
 else none
def y2f(a0:List UInt8)(a1:GJ)(a2:GJ)(o:GJ):Exit→Env→AHeap→Nat→Prop:=Zz zmb (jo (.agg (z6 o)))
theorem zke{a0:List UInt8}{a1:GJ}{a2:GJ}{m:Option Nat}{o:GJ}(h:zd m a0 a1 a2=some o):LWp Tryz.prog zox 0 zsk (y2f a0 a1 a2 o) (ye 0 [.str a0,.agg (z6 a1),.agg (z6 a2)]) [] 0:=by
 unfold zd at h
 refine zc (zh ?_)
 refine zc ?_
 refine U8 ?_
 obtain⟨h1,h⟩:=qv h
 refine EX ((([a0]:List (List UInt8))++a2.fA).map za) (AI (Ww za ([a0]:List (List UInt8)) a2.fA) (AI (AI rfl h1) ?_))
 refine AI rfl ?_
 refine AI rfl ?_
 obtain⟨h2,h⟩:=qv h
 refine EX ((([z6 a1]:List (List AVal))++a2.fE).map ze) (AI (Ww ze ([z6 a1]:List (List AVal)) a2.fE) (AI (AI rfl h2) ?_))
 refine LWp.sim (e:=[(6,.ptr (0,0) 0 0)]) (L:=[((0,0),.one [i6 5,i6 0,.str [],.osl (1,0) 1 ((([a0]:List (List UInt8))++a2.fA).map za),.osl (2,0) 5 ((([z6 a1]:List (List AVal))++a2.fE).map ze)]),((1,0),.tok),((2,0),.tok)]) (n:=3) ?_ ?_
 ·exact qq (M:=[((0,0),(2,0)),((1,0),(3,0)),((2,0),(4,0))]) rfl (SP rfl TT) (AI (AI rfl (BVw.oneL (S2 rfl rfl (AI (VS rfl) (AI (Vw.osl _ _ _ _ rfl) (AI (Vw.osl _ _ _ _ rfl) TT)))))) (AI (AI rfl BVw.tok) (AI (AI rfl BVw.tok) TT)))
 refine wo ?_
 cases h
 exact AI (AI TT (AI rfl (NB rfl))) (AI rfl (Vw.aggL (S2 rfl rfl (AI (VS rfl) (AI (Vw.oslI _ _ _) (AI (Vw.oslI _ _ _) TT))))))
theorem Qr{a0:List UInt8}{a1:GJ}{a2:GJ}{m:Option Nat}{o:GJ}(h:zd m a0 a1 a2=some o):PFn Tryz.prog 36 [.str a0,.agg (z6 a1),.agg (z6 a2)] (.agg (z6 o)):=PFn.ofFnW (L:=y14) zwc zva (NB rfl) rfl (zke h)
def zsv:LCode:=(.seq (.region [Qo 1 (.box (.t 0)),
 Qo 2 (.alloc [(i6 0),(i6 0),(.str []),(.isl 1 [] true),(.isl 5 [] true)])])
 (.seq (.region [Qo 4 (.build [(i6 0),(i6 0),(.str []),(.isl 1 [] true),(.isl 5 [] true)] []),
  Qo 3 (.alloc [(i6 0),(i6 0),(.str []),(.isl 1 [] true),(.isl 5 [] true)]),
  ⟨none,.store 5 (.t 3) (.t 4),none⟩])
 (.seq (.seq (.region [Qf 5 0 1,
  Ql 6 1 5])
 (.block 0
  (.seq (.region [Qo 8 (.bin .eql (.t 6) (.c (i6 1))),
   Qm 7 8])
  (.cond (.t 7)
   (.seq (.draw [⟨Qf 9 1 1,[]⟩,
    ⟨Ql 10 1 9,[]⟩,
    ⟨Qf 12 3 1,[]⟩,
    ⟨Ql 13 1 12,[]⟩,
    ⟨Qf 15 4 1,[]⟩,
    ⟨Qt 16 5 15,[]⟩,
    ⟨Qt 17 5 3,[]⟩,
    ⟨Qc 11 37 10,[3,5,6]⟩,
    ⟨Qc 14 38 13,[5,6]⟩,
    ⟨Qo 18 (.call 36 [(.c (.str [112,97,114,97,109,115])),(.t 16),(.t 17)]),[]⟩,
    ⟨Qo 19 (.call 36 [(.c (.str [109,101,116,104,111,100])),(.t 14),(.t 18)]),[]⟩,
    ⟨Qo 20 (.call 36 [(.c (.str [105,100])),(.t 11),(.t 19)]),[]⟩,
    ⟨⟨none,.store 5 (.t 2) (.t 20),none⟩,[]⟩])
   .ret)
   (.seq (.region [Qo 22 (.bin .eql (.t 6) (.c (i6 2))),
    Qm 21 22])
   (.cond (.t 21)
    (.seq (.draw [⟨Qf 23 3 1,[]⟩,
     ⟨Ql 24 1 23,[]⟩,
     ⟨Qf 26 4 1,[]⟩,
     ⟨Qt 27 5 26,[]⟩,
     ⟨Qt 28 5 3,[]⟩,
     ⟨Qc 25 38 24,[3,4]⟩,
     ⟨Qo 29 (.call 36 [(.c (.str [112,97,114,97,109,115])),(.t 27),(.t 28)]),[]⟩,
     ⟨Qo 30 (.call 36 [(.c (.str [109,101,116,104,111,100])),(.t 25),(.t 29)]),[]⟩,
     ⟨⟨none,.store 5 (.t 2) (.t 30),none⟩,[]⟩])
    .ret)
    (.seq (.region [Qo 32 (.bin .eql (.t 6) (.c (i6 3))),
     Qm 31 32])
    (.cond (.t 31)
     (.seq (.draw [⟨Qf 33 1 1,[]⟩,
      ⟨Ql 34 1 33,[]⟩,
      ⟨Qf 36 4 1,[]⟩,
      ⟨Qt 37 5 36,[]⟩,
      ⟨Qt 38 5 3,[]⟩,
      ⟨Qc 35 37 34,[3,4]⟩,
      ⟨Qo 39 (.call 36 [(.c (.str [114,101,115,117,108,116])),(.t 37),(.t 38)]),[]⟩,
      ⟨Qo 40 (.call 36 [(.c (.str [105,100])),(.t 35),(.t 39)]),[]⟩,
      ⟨⟨none,.store 5 (.t 2) (.t 40),none⟩,[]⟩])
     .ret)
     (.seq (.region [Qo 42 (.bin .eql (.t 6) (.c (i6 4))),
      Qm 41 42])
     (.cond (.t 41)
      (.seq (.draw [⟨Qf 43 1 1,[]⟩,
       ⟨Ql 44 1 43,[]⟩,
       ⟨Qf 46 2 1,[]⟩,
       ⟨Ql 47 1 46,[]⟩,
       ⟨Qf 49 3 1,[]⟩,
       ⟨Ql 50 1 49,[]⟩,
       ⟨Qt 52 5 3,[]⟩,
       ⟨Qt 55 5 3,[]⟩,
       ⟨Qc 45 37 44,[3,5,6,7]⟩,
       ⟨Qc 48 37 47,[5,6,7]⟩,
       ⟨Qc 51 38 50,[6,7]⟩,
       ⟨Qo 53 (.call 36 [(.c (.str [109,101,115,115,97,103,101])),(.t 51),(.t 52)]),[7]⟩,
       ⟨Qo 54 (.call 36 [(.c (.str [99,111,100,101])),(.t 48),(.t 53)]),[7]⟩,
       ⟨Qo 56 (.call 36 [(.c (.str [101,114,114,111,114])),(.t 54),(.t 55)]),[]⟩,
       ⟨Qo 57 (.call 36 [(.c (.str [105,100])),(.t 45),(.t 56)]),[]⟩,
       ⟨⟨none,.store 5 (.t 2) (.t 57),none⟩,[]⟩])
      .ret)
      .skip))))))))))
 (.seq (.draw [⟨Qf 59 1 1,[]⟩,
  ⟨Ql 60 1 59,[]⟩,
  ⟨Qt 62 5 3,[]⟩,
  ⟨Qt 64 5 3,[]⟩,
  ⟨Qo 58 (.call 38 [(.c (.str [36,47,99,97,110,99,101,108]))]),[1,2,3]⟩,
  ⟨Qc 61 37 60,[2,3]⟩,
  ⟨Qo 63 (.call 36 [(.c (.str [105,100])),(.t 61),(.t 62)]),[3]⟩,
  ⟨Qo 65 (.call 36 [(.c (.str [112,97,114,97,109,115])),(.t 63),(.t 64)]),[]⟩,
  ⟨Qo 66 (.call 36 [(.c (.str [109,101,116,104,111,100])),(.t 58),(.t 65)]),[]⟩,
  ⟨⟨none,.store 5 (.t 2) (.t 66),none⟩,[]⟩])
 .ret))))
def zm2:Lay:=⟨67,[],false⟩
def zoj:List LRes:=[.cell 2 true 5]
def zzv:LFn:=⟨1,zm2,zsv,zoj⟩
theorem zvc:wb Tryz.prog [] 21=some zzv:=by kernel_rfl
theorem zu4:uk Tryz.prog 21:=⟨_,Tryz.func21,rfl,rfl⟩
noncomputable def yy(m:Option Nat)(a0:GM):Option GJ:=
 if(a0.fK==1)=true then
  (qf m a0.fI).bind fun v1=>
  (ji m a0.fM).bind fun v2=>
  (zd m ([112,97,114,97,109,115]:List UInt8) (GJ.mk a0.fB.fK a0.fB.fN a0.fB.fT a0.fB.fA a0.fB.fE) (GJ.mk 0 0 [] [] [])).bind fun v3=>
  (zd m ([109,101,116,104,111,100]:List UInt8) v2 v3).bind fun v4=>
  (zd m ([105,100]:List UInt8) v1 v4).bind fun v5=>
  some v5
 else
  if(a0.fK==2)=true then
   (ji m a0.fM).bind fun v6=>
   (zd m ([112,97,114,97,109,115]:List UInt8) (GJ.mk a0.fB.fK a0.fB.fN a0.fB.fT a0.fB.fA a0.fB.fE) (GJ.mk 0 0 [] [] [])).bind fun v7=>
   (zd m ([109,101,116,104,111,100]:List UInt8) v6 v7).bind fun v8=>
   some v8
  else
   if(a0.fK==3)=true then
    (qf m a0.fI).bind fun v9=>
    (zd m ([114,101,115,117,108,116]:List UInt8) (GJ.mk a0.fB.fK a0.fB.fN a0.fB.fT a0.fB.fA a0.fB.fE) (GJ.mk 0 0 [] [] [])).bind fun v10=>
    (zd m ([105,100]:List UInt8) v9 v10).bind fun v11=>
    some v11
   else
    if(a0.fK==4)=true then
     (qf m a0.fI).bind fun v12=>
     (qf m a0.fC).bind fun v13=>
     (ji m a0.fM).bind fun v14=>
     (zd m ([109,101,115,115,97,103,101]:List UInt8) v14 (GJ.mk 0 0 [] [] [])).bind fun v15=>
     (zd m ([99,111,100,101]:List UInt8) v13 v15).bind fun v16=>
     (zd m ([101,114,114,111,114]:List UInt8) v16 (GJ.mk 0 0 [] [] [])).bind fun v17=>
     (zd m ([105,100]:List UInt8) v12 v17).bind fun v18=>
     some v18
    else
     (ji m ([36,47,99,97,110,99,101,108]:List UInt8)).bind fun v19=>
     (qf m a0.fI).bind fun v20=>
     (zd m ([105,100]:List UInt8) v20 (GJ.mk 0 0 [] [] [])).bind fun v21=>
     (zd m ([112,97,114,97,109,115]:List UInt8) v21 (GJ.mk 0 0 [] [] [])).bind fun v22=>
     (zd m ([109,101,116,104,111,100]:List UInt8) v19 v22).bind fun v23=>
     some v23
def y2p(a0:GM)(o:GJ):Exit→Env→AHeap→Nat→Prop:=Zz zoj (jo (.agg (z6 o)))
set_option maxHeartbeats 4000000 in
theorem zm1{a0:GM}{m:Option Nat}{o:GJ}(h:yy m a0=some o):LWp Tryz.prog zm2 0 zsv (y2p a0 o) (ye 0 [.agg [i6 a0.fK,i6 a0.fI,i6 a0.fC,.str a0.fM,i6 a0.fB.fK,i6 a0.fB.fN,.str a0.fB.fT,.isl 1 (a0.fB.fA.map za) false,.isl 5 (a0.fB.fE.map ze) false]]) [] 0:=by
 unfold yy at h
 refine zc (zh ?_)
 refine zc (zh ?_)
 refine zc ?_
 refine zc (zh ?_)
 refine jj ?_
 refine zc (zh ?_)
 refine LWp.sim (e:=[(1,.ptr (0,0) 0 0),(2,.ptr (1,0) 0 0),(3,.ptr (2,0) 0 0),(6,i6 a0.fK),(7,.bool (a0.fK==1))]) (L:=[((0,0),.one [i6 a0.fK,i6 a0.fI,i6 a0.fC,.str a0.fM,i6 a0.fB.fK,i6 a0.fB.fN,.str a0.fB.fT,.isl 1 (a0.fB.fA.map za) false,.isl 5 (a0.fB.fE.map ze) false]),((1,0),.one [i6 0,i6 0,.str [],.isl 1 (([]:List (List UInt8)).map za) true,.isl 5 (([]:List (List AVal)).map ze) true]),((2,0),.one [i6 0,i6 0,.str [],.isl 1 (([]:List (List UInt8)).map za) true,.isl 5 (([]:List (List AVal)).map ze) true])]) (n:=3) ?_ ?_
 ·exact qq (M:=[((0,0),(0,0)),((1,0),(1,0)),((2,0),(2,0))]) rfl (SP rfl (SP rfl (SP rfl (S2 rfl rfl TT)))) (AI (AI rfl (OL rfl)) (AI (AI rfl (OL rfl)) (AI (AI rfl (OL rfl)) TT)))
 refine yp (v:=(a0.fK==1)) rfl TT (fun h1=>?_) (fun h1=>?_)
 ·have h:=zj h1 h
  refine zc ?_
  refine U8 ?_
  obtain⟨v1,h2,h⟩:=bind_some h
  refine PFn.call (z8l h2) (AI (VS rfl) TT) ?_
  refine AI rfl ?_
  refine AI rfl ?_
  refine AI rfl ?_
  obtain⟨v2,h3,h⟩:=bind_some h
  refine PFn.call (zfe h3) (AI (VS rfl) TT) ?_
  refine AI rfl ?_
  refine AI rfl ?_
  obtain⟨v3,h4,h⟩:=bind_some h
  refine PFn.call (Qr h4) (S2 rfl rfl (AI (Vw.aggL (S2 rfl rfl (AI (VS rfl) (AI (Vw.islF _ _ _) (AI (Vw.islF _ _ _) TT))))) TT)) ?_
  obtain⟨v4,h5,h⟩:=bind_some h
  refine PFn.call (Qr h5) (S2 rfl rfl (AI (VS rfl) TT)) ?_
  obtain⟨v5,h6,h⟩:=bind_some h
  refine PFn.call (Qr h6) (S2 rfl rfl (AI (VS rfl) TT)) ?_
  refine LWp.sim (e:=[(2,.ptr (0,0) 0 0)]) (L:=[((0,0),.one (z6 v5))]) (n:=1) ?_ ?_
  ·exact qq (M:=[((0,0),(1,0))]) rfl (SP rfl TT) (AI (AI rfl (OL rfl)) TT)
  refine wo ?_
  cases h
  exact AI (AI TT (AI rfl (NB rfl))) (AI rfl (VS rfl))
 ·have h:=zo h1 h
  refine zc (zh ?_)
  refine yp (v:=(a0.fK==2)) rfl TT (fun h7=>?_) (fun h7=>?_)
  ·have h:=zj h7 h
   refine zc ?_
   refine U8 ?_
   obtain⟨v6,h8,h⟩:=bind_some h
   refine PFn.call (zfe h8) (AI (VS rfl) TT) ?_
   refine AI rfl ?_
   refine AI rfl ?_
   obtain⟨v7,h9,h⟩:=bind_some h
   refine PFn.call (Qr h9) (S2 rfl rfl (AI (Vw.aggL (S2 rfl rfl (AI (VS rfl) (AI (Vw.islF _ _ _) (AI (Vw.islF _ _ _) TT))))) TT)) ?_
   obtain⟨v8,h10,h⟩:=bind_some h
   refine PFn.call (Qr h10) (S2 rfl rfl (AI (VS rfl) TT)) ?_
   refine LWp.sim (e:=[(2,.ptr (0,0) 0 0)]) (L:=[((0,0),.one (z6 v8))]) (n:=1) ?_ ?_
   ·exact qq (M:=[((0,0),(1,0))]) rfl (SP rfl TT) (AI (AI rfl (OL rfl)) TT)
   refine wo ?_
   cases h
   exact AI (AI TT (AI rfl (NB rfl))) (AI rfl (VS rfl))
  ·have h:=zo h7 h
   refine zc (zh ?_)
   refine yp (v:=(a0.fK==3)) rfl TT (fun h11=>?_) (fun h11=>?_)
   ·have h:=zj h11 h
    refine zc ?_
    refine U8 ?_
    obtain⟨v9,h12,h⟩:=bind_some h
    refine PFn.call (z8l h12) (AI (VS rfl) TT) ?_
    refine AI rfl ?_
    refine AI rfl ?_
    obtain⟨v10,h13,h⟩:=bind_some h
    refine PFn.call (Qr h13) (S2 rfl rfl (AI (Vw.aggL (S2 rfl rfl (AI (VS rfl) (AI (Vw.islF _ _ _) (AI (Vw.islF _ _ _) TT))))) TT)) ?_
    obtain⟨v11,h14,h⟩:=bind_some h
    refine PFn.call (Qr h14) (S2 rfl rfl (AI (VS rfl) TT)) ?_
    refine LWp.sim (e:=[(2,.ptr (0,0) 0 0)]) (L:=[((0,0),.one (z6 v11))]) (n:=1) ?_ ?_
    ·exact qq (M:=[((0,0),(1,0))]) rfl (SP rfl TT) (AI (AI rfl (OL rfl)) TT)
    refine wo ?_
    cases h
    exact AI (AI TT (AI rfl (NB rfl))) (AI rfl (VS rfl))
   ·have h:=zo h11 h
    refine zc (zh ?_)
    refine yp (v:=(a0.fK==4)) rfl TT (fun h15=>?_) (fun h15=>?_)
    ·have h:=zj h15 h
     refine zc ?_
     refine U8 ?_
     obtain⟨v12,h16,h⟩:=bind_some h
     refine PFn.call (z8l h16) (AI (VS rfl) TT) ?_
     refine AI rfl ?_
     refine AI rfl ?_
     refine AI rfl ?_
     refine AI rfl ?_
     obtain⟨v13,h17,h⟩:=bind_some h
     refine PFn.call (z8l h17) (AI (VS rfl) TT) ?_
     refine AI rfl ?_
     refine AI rfl ?_
     refine AI rfl ?_
     obtain⟨v14,h18,h⟩:=bind_some h
     refine PFn.call (zfe h18) (AI (VS rfl) TT) ?_
     refine AI rfl ?_
     refine AI rfl ?_
     obtain⟨v15,h19,h⟩:=bind_some h
     refine PFn.call (Qr h19) (S2 rfl rfl (AI (Vw.aggL (S2 rfl rfl (AI (VS rfl) (AI (Vw.islF _ _ _) (AI (Vw.islF _ _ _) TT))))) TT)) ?_
     refine AI rfl ?_
     obtain⟨v16,h20,h⟩:=bind_some h
     refine PFn.call (Qr h20) (S2 rfl rfl (AI (VS rfl) TT)) ?_
     refine AI rfl ?_
     obtain⟨v17,h21,h⟩:=bind_some h
     refine PFn.call (Qr h21) (S2 rfl rfl (AI (Vw.aggL (S2 rfl rfl (AI (VS rfl) (AI (Vw.islF _ _ _) (AI (Vw.islF _ _ _) TT))))) TT)) ?_
     obtain⟨v18,h22,h⟩:=bind_some h
     refine PFn.call (Qr h22) (S2 rfl rfl (AI (VS rfl) TT)) ?_
     refine LWp.sim (e:=[(2,.ptr (0,0) 0 0)]) (L:=[((0,0),.one (z6 v18))]) (n:=1) ?_ ?_
     ·exact qq (M:=[((0,0),(1,0))]) rfl (SP rfl TT) (AI (AI rfl (OL rfl)) TT)
     refine wo ?_
     cases h
     exact AI (AI TT (AI rfl (NB rfl))) (AI rfl (VS rfl))
    ·have h:=zo h15 h
     refine xr ?_
     refine zc ?_
     refine U8 ?_
     obtain⟨v19,h23,h⟩:=bind_some h
     refine PFn.call (zfe h23) (AI (VS rfl) TT) ?_
     refine AI rfl ?_
     refine AI rfl ?_
     refine AI rfl ?_
     obtain⟨v20,h24,h⟩:=bind_some h
     refine PFn.call (z8l h24) (AI (VS rfl) TT) ?_
     refine AI rfl ?_
     refine AI rfl ?_
     obtain⟨v21,h25,h⟩:=bind_some h
     refine PFn.call (Qr h25) (S2 rfl rfl (AI (Vw.aggL (S2 rfl rfl (AI (VS rfl) (AI (Vw.islF _ _ _) (AI (Vw.islF _ _ _) TT))))) TT)) ?_
     refine AI rfl ?_
     obtain⟨v22,h26,h⟩:=bind_some h
     refine PFn.call (Qr h26) (S2 rfl rfl (AI (Vw.aggL (S2 rfl rfl (AI (VS rfl) (AI (Vw.islF _ _ _) (AI (Vw.islF _ _ _) TT))))) TT)) ?_
     obtain⟨v23,h27,h⟩:=bind_some h
     refine PFn.call (Qr h27) (S2 rfl rfl (AI (VS rfl) TT)) ?_
     refine LWp.sim (e:=[(2,.ptr (0,0) 0 0)]) (L:=[((0,0),.one (z6 v23))]) (n:=1) ?_ ?_
     ·exact qq (M:=[((0,0),(1,0))]) rfl (SP rfl TT) (AI (AI rfl (OL rfl)) TT)
     refine wo ?_
     cases h
     exact AI (AI TT (AI rfl (NB rfl))) (AI rfl (VS rfl))
theorem y0z{a0:GM}{m:Option Nat}{o:GJ}(h:yy m a0=some o):PFn Tryz.prog 21 [.agg [i6 a0.fK,i6 a0.fI,i6 a0.fC,.str a0.fM,i6 a0.fB.fK,i6 a0.fB.fN,.str a0.fB.fT,.isl 1 (a0.fB.fA.map za) false,.isl 5 (a0.fB.fE.map ze) false]] (.agg (z6 o)):=PFn.ofFnW (L:=zzv) zvc zu4 (NB rfl) rfl (zm1 h)
def zy6:LCode:=(.seq (.region [Qo 1 (.box (.t 0)),
 Qo 2 (.alloc [(i6 0),(i6 0),(.str []),(.isl 1 [] true),(.isl 5 [] true)]),
 Qi 3 0])
 (.seq (.seq (.region [Qf 7 0 1,
  Ql 8 1 7,
  Qo 9 (.bin .lss (.t 8) (.c (i6 1))),
  Qm 10 9,
  Qe 11 0 1 (10,false),
  Qk 12 1 11 (10,false),
  Qg 13 (.bin .gtr (.t 12) (.c (i6 5))) (10,false),
  Qo 14 (.pick (.t 10) (.c (.bool true)) (.t 13))])
 (.cond (.t 14)
  (.seq (.region [Qo 15 (.build [(i6 0),(i6 0),(.str []),(.isl 1 [] true),(.isl 5 [] true)] []),
   ⟨none,.store 5 (.t 2) (.t 15),none⟩,
   Qi 3 7])
  .ret)
  .skip))
 (.seq (.seq (.region [Qt 16 9 1,
  Qc 17 19 16,
  Qo 18 (.un .not (.t 17))])
 (.cond (.t 18)
  (.seq (.region [Qo 19 (.build [(i6 0),(i6 0),(.str []),(.isl 1 [] true),(.isl 5 [] true)] []),
   ⟨none,.store 5 (.t 2) (.t 19),none⟩,
   Qi 3 3])
  .ret)
  .skip))
 (.seq (.seq (.region [Qf 20 4 1,
  Qt 21 5 20,
  Qc 22 20 21,
  Qm 4 22])
 (.seq (.region [Qm 23 4,
  Qo 24 (.bin .neq (.t 23) (.c (i6 0)))])
 (.cond (.t 24)
  (.seq (.region [Qo 25 (.build [(i6 0),(i6 0),(.str []),(.isl 1 [] true),(.isl 5 [] true)] []),
   Qm 26 4,
   ⟨none,.store 5 (.t 2) (.t 25),none⟩,
   Qm 3 26])
  .ret)
  .skip)))
 (.seq (.region [Qt 27 9 1,
  Qc 28 21 27,
  Qo 5 (.alloc [(i6 0),(i6 0),(.str []),(.isl 1 [] true),(.isl 5 [] true)]),
  ⟨none,.store 5 (.t 5) (.t 28),none⟩])
 (.seq (.seq (.region [Qt 29 5 5,
  Qc 30 20 29,
  Qm 6 30])
 (.seq (.region [Qm 31 6,
  Qo 32 (.bin .neq (.t 31) (.c (i6 0)))])
 (.cond (.t 32)
  (.seq (.region [Qo 33 (.build [(i6 0),(i6 0),(.str []),(.isl 1 [] true),(.isl 5 [] true)] []),
   Qm 34 6,
   ⟨none,.store 5 (.t 2) (.t 33),none⟩,
   Qm 3 34])
  .ret)
  .skip)))
 (.seq (.region [Qt 35 5 5,
  ⟨none,.store 5 (.t 2) (.t 35),none⟩,
  Qi 3 0])
 .ret)))))))
def ztj:Lay:=⟨36,[],false⟩
def zta:List LRes:=[.cell 2 true 5,.t 3]
def y37:LFn:=⟨1,ztj,zy6,zta⟩
theorem y0q:wb Tryz.prog [] 7=some y37:=by kernel_rfl
theorem zy2:uk Tryz.prog 7:=⟨_,Tryz.func7,rfl,rfl⟩
noncomputable def yv(m:Option Nat)(a0:GM):Option (GJ×Int):=
 if((decide (a0.fK<1)) || (decide (a0.fK > 5)))=true then
  some ((GJ.mk 0 0 [] [] []),7)
 else
  (qa m (GM.mk a0.fK a0.fI a0.fC a0.fM (GJ.mk a0.fB.fK a0.fB.fN a0.fB.fT a0.fB.fA a0.fB.fE))).bind fun v1=>
  if(!v1)=true then
   some ((GJ.mk 0 0 [] [] []),3)
  else
   (ql m (GJ.mk a0.fB.fK a0.fB.fN a0.fB.fT a0.fB.fA a0.fB.fE)).bind fun v2=>
   if(v2 != 0)=true then
    some ((GJ.mk 0 0 [] [] []),v2)
   else
    (yy m (GM.mk a0.fK a0.fI a0.fC a0.fM (GJ.mk a0.fB.fK a0.fB.fN a0.fB.fT a0.fB.fA a0.fB.fE))).bind fun v3=>
    (ql m v3).bind fun v4=>
    if(v4 != 0)=true then
     some ((GJ.mk 0 0 [] [] []),v4)
    else
     some (v3,0)
def y3x(a0:GM)(o:GJ×Int):Exit→Env→AHeap→Nat→Prop:=Zz zta (jo (.tup [.agg (z6 o.1),i6 o.2]))
theorem zqa{a0:GM}{m:Option Nat}{o:GJ×Int}(h:yv m a0=some o):LWp Tryz.prog ztj 0 zy6 (y3x a0 o) (ye 0 [.agg [i6 a0.fK,i6 a0.fI,i6 a0.fC,.str a0.fM,i6 a0.fB.fK,i6 a0.fB.fN,.str a0.fB.fT,.isl 1 (a0.fB.fA.map za) false,.isl 5 (a0.fB.fE.map ze) false]]) [] 0:=by
 unfold yv at h
 refine zc (zh ?_)
 refine zc ?_
 refine zc (zh ?_)
 refine AI (fun hp=>hp) ?_
 refine AI (fun hp=>hp) ?_
 refine AI (fun hc=>(bqf hc)) ?_
 refine LWp.sim (e:=[(1,.ptr (0,0) 0 0),(2,.ptr (1,0) 0 0),(14,.bool ((decide (a0.fK<1)) || (decide (a0.fK > 5))))]) (L:=[((0,0),.one [i6 a0.fK,i6 a0.fI,i6 a0.fC,.str a0.fM,i6 a0.fB.fK,i6 a0.fB.fN,.str a0.fB.fT,.isl 1 (a0.fB.fA.map za) false,.isl 5 (a0.fB.fE.map ze) false]),((1,0),.one [i6 0,i6 0,.str [],.isl 1 (([]:List (List UInt8)).map za) true,.isl 5 (([]:List (List AVal)).map ze) true])]) (n:=2) ?_ ?_
 ·exact qq (M:=[((0,0),(0,0)),((1,0),(1,0))]) rfl (SP rfl (SP rfl (AI (VS rfl) TT))) (AI (AI rfl (OL rfl)) (AI (AI rfl (OL rfl)) TT))
 refine yp (v:=((decide (a0.fK<1)) || (decide (a0.fK > 5)))) rfl TT (fun h1=>?_) (fun h1=>?_)
 ·have h:=zj h1 h
  refine zc (zh ?_)
  refine wo ?_
  cases h
  exact AI (AI TT (AI rfl (NB rfl))) (AI TT (AI rfl (Vw.tupL (AI (Vw.aggL (S2 rfl rfl (AI (VS rfl) (AI (Vw.islF _ _ _) (AI (Vw.islF _ _ _) TT))))) (AI (VS rfl) TT)))))
 ·have h:=zo h1 h
  refine xr ?_
  refine zc ?_
  refine zc (zh ?_)
  obtain⟨v1,h2,h⟩:=bind_some h
  refine PFn.call (zyz h2) (AI (VS rfl) TT) ?_
  refine yp (v:=(!v1)) rfl TT (fun h3=>?_) (fun h3=>?_)
  ·have h:=zj h3 h
   refine zc (zh ?_)
   refine wo ?_
   cases h
   exact AI (AI TT (AI rfl (NB rfl))) (AI TT (AI rfl (Vw.tupL (AI (Vw.aggL (S2 rfl rfl (AI (VS rfl) (AI (Vw.islF _ _ _) (AI (Vw.islF _ _ _) TT))))) (AI (VS rfl) TT)))))
  ·have h:=zo h3 h
   refine xr ?_
   refine zc ?_
   refine zc (zh ?_)
   obtain⟨v2,h4,h⟩:=bind_some h
   refine PFn.call (ztq h4) (AI (VS rfl) TT) ?_
   refine zc (zh ?_)
   refine LWp.sim (e:=[(1,.ptr (0,0) 0 0),(2,.ptr (1,0) 0 0),(4,i6 v2),(24,.bool (v2 != 0))]) (L:=[((0,0),.one [i6 a0.fK,i6 a0.fI,i6 a0.fC,.str a0.fM,i6 a0.fB.fK,i6 a0.fB.fN,.str a0.fB.fT,.isl 1 (a0.fB.fA.map za) false,.isl 5 (a0.fB.fE.map ze) false]),((1,0),.one [i6 0,i6 0,.str [],.isl 1 (([]:List (List UInt8)).map za) true,.isl 5 (([]:List (List AVal)).map ze) true])]) (n:=2) ?_ ?_
   ·exact qq (M:=[((0,0),(0,0)),((1,0),(1,0))]) rfl (SP rfl (SP rfl (S2 rfl rfl TT))) (AI (AI rfl (OL rfl)) (AI (AI rfl (OL rfl)) TT))
   refine yp (v:=(v2 != 0)) rfl TT (fun h5=>?_) (fun h5=>?_)
   ·have h:=zj h5 h
    refine zc (zh ?_)
    refine wo ?_
    cases h
    exact AI (AI TT (AI rfl (NB rfl))) (AI TT (AI rfl (Vw.tupL (AI (Vw.aggL (S2 rfl rfl (AI (VS rfl) (AI (Vw.islF _ _ _) (AI (Vw.islF _ _ _) TT))))) (AI (VS rfl) TT)))))
   ·have h:=zo h5 h
    refine xr ?_
    refine zc (zh ?_)
    obtain⟨v3,h6,h⟩:=bind_some h
    refine PFn.call (y0z h6) (AI (VS rfl) TT) ?_
    refine zc ?_
    refine zc (zh ?_)
    obtain⟨v4,h7,h⟩:=bind_some h
    refine PFn.call (ztq h7) (AI (VS rfl) TT) ?_
    refine zc (zh ?_)
    refine LWp.sim (e:=[(2,.ptr (0,0) 0 0),(5,.ptr (1,0) 0 0),(6,i6 v4),(32,.bool (v4 != 0))]) (L:=[((0,0),.one [i6 0,i6 0,.str [],.isl 1 (([]:List (List UInt8)).map za) true,.isl 5 (([]:List (List AVal)).map ze) true]),((1,0),.one (z6 v3))]) (n:=2) ?_ ?_
    ·exact qq (M:=[((0,0),(1,0)),((1,0),(2,0))]) rfl (SP rfl (SP rfl (S2 rfl rfl TT))) (AI (AI rfl (OL rfl)) (AI (AI rfl (OL rfl)) TT))
    refine yp (v:=(v4 != 0)) rfl TT (fun h8=>?_) (fun h8=>?_)
    ·have h:=zj h8 h
     refine zc (zh ?_)
     refine wo ?_
     cases h
     exact AI (AI TT (AI rfl (NB rfl))) (AI TT (AI rfl (Vw.tupL (AI (Vw.aggL (S2 rfl rfl (AI (VS rfl) (AI (Vw.islF _ _ _) (AI (Vw.islF _ _ _) TT))))) (AI (VS rfl) TT)))))
    ·have h:=zo h8 h
     refine xr ?_
     refine zc (zh ?_)
     refine wo ?_
     cases h
     exact AI (AI TT (AI rfl (NB rfl))) (AI TT (AI rfl (VS rfl)))
theorem zz5{a0:GM}{m:Option Nat}{o:GJ×Int}(h:yv m a0=some o):PFn Tryz.prog 7 [.agg [i6 a0.fK,i6 a0.fI,i6 a0.fC,.str a0.fM,i6 a0.fB.fK,i6 a0.fB.fN,.str a0.fB.fT,.isl 1 (a0.fB.fA.map za) false,.isl 5 (a0.fB.fE.map ze) false]] (.tup [.agg (z6 o.1),i6 o.2]):=PFn.ofFnW (L:=y37) y0q zy2 (NB rfl) rfl (zqa h)
def zsj:LCode:=(.seq (.region [Qo 2 (.mv (.c (.val (.slice none 0 0))))])
 (.seq (.seq (.region [Qm 3 0,
  Qo 4 (.eq false .slice (.t 3) (.c (.val (.slice none 0 0))))])
 (.cond (.t 4)
  (.seq (.region [Qo 2 (.mv (.c (.val (.slice none 0 0))))])
  .ret)
  .skip))
 (.seq (.region [Qo 5 (.mkSl true 1 [(.str [])] 0 []),
  Qm 6 0,
  Qo 7 (.app true 1 16 (.t 5) (.t 6)),
  Qm 2 7])
 .ret)))
def zhj:Lay:=⟨8,[],false⟩
def ziy:List LRes:=[.t 2]
def y19:LFn:=⟨1,zhj,zsj,ziy⟩
theorem zv8:wb Tryz.prog [] 39=some y19:=by kernel_rfl
theorem zoi:uk Tryz.prog 39:=⟨_,Tryz.func39,rfl,rfl⟩
noncomputable def w7(m:Option Nat)(a0:List (List UInt8)):Option (List (List UInt8)):=
 if(a0.map za)≠[] then
 if((([]:List (List UInt8))++a0).map za).length*16≤140737488355328 then
 some (([]:List (List UInt8))++a0)
 else none
 else none
def y2l(a0:List (List UInt8))(o:(List (List UInt8))):Exit→Env→AHeap→Nat→Prop:=Zz ziy (jo (.isl 1 (o.map za) false))
theorem zj1{a0:List (List UInt8)}{m:Option Nat}{o:(List (List UInt8))}(h:w7 m a0=some o):LWp Tryz.prog zhj 0 zsj (y2l a0 o) (ye 0 [.isl 1 (a0.map za) false]) [] 0:=by
 unfold w7 at h
 refine zc (zh ?_)
 refine zc ?_
 refine zc (zh ?_)
 obtain⟨h1,h⟩:=qv h
 refine AI h1 ?_
 refine yp (v:=false) rfl TT (fun hc=>Bool.noConfusion hc) (fun hc=>?_)
 refine xr ?_
 refine zc (zh ?_)
 obtain⟨h2,h⟩:=qv h
 refine EX ((([]:List (List UInt8))++a0).map za) (AI (Ww za ([]:List (List UInt8)) a0) (AI (AI rfl h2) ?_))
 refine wo ?_
 cases h
 exact AI TT (AI rfl (Vw.oslI _ _ _))
theorem y04{a0:List (List UInt8)}{m:Option Nat}{o:(List (List UInt8))}(h:w7 m a0=some o):PFn Tryz.prog 39 [.isl 1 (a0.map za) false] (.isl 1 (o.map za) false):=PFn.ofFnW (L:=y19) zv8 zoi (NB rfl) rfl (zj1 h)
noncomputable def ud(m:Option Nat):List (List UInt8)→Option (List (List UInt8))
 |[]=>some []
 |x::r=>w7 m (x::r)
theorem zvp{m:Option Nat}{a0 o:List (List UInt8)}(h:ud m a0=some o):PFn Tryz.prog 39 [(.isl 1 (a0.map za) false)] (.isl 1 (o.map za) false):=by
 cases a0 with
 |nil=>
  cases h
  exact z4a (c:=9) (zs:=[(.str [])]) (b:=16) zoi Tryz.func39 ⟨_,_,_,_,_,_,_,_,_,_,_,_,_,_,_,_,_,_,_,_,_,_,_,_,_,_,_,_,rfl,rfl,rfl⟩ (by kernel_rfl) (by kernel_rfl) (by kernel_rfl) (by kernel_rfl) (by decide) (by decide) rfl
 |cons x r=>exact y04 (m:=m) h
def z59:LCode:=(.seq (.region [Qo 16 (.bin .lss (.t 15) (.t 14))])
 (.seq (.cond (.t 16)
  .skip
  (.exit 0))
 (.seq (.block 1
  (.seq (.region [Qo 17 (.iaddr 5 (.t 13) (.t 15)),
   Qt 18 5 17,
   Qo 5 (.alloc [(i6 0),(i6 0),(.str []),(.isl 1 [] true),(.isl 5 [] true)]),
   ⟨none,.store 5 (.t 5) (.t 18),none⟩])
  (.draw [⟨Qf 19 4 1,[]⟩,
   ⟨Ql 20 1 19,[]⟩,
   ⟨Qt 21 5 5,[]⟩,
   ⟨Qc 22 22 21,[1]⟩,
   ⟨Qo 23 (.mkSl true 5 [(i6 0),(i6 0),(.str []),(.isl 1 [] true),(.isl 5 [] true)] 1 [(0,(.t 22))]),[]⟩,
   ⟨Qo 24 (.app true 5 80 (.t 20) (.t 23)),[]⟩,
   ⟨Qf 25 4 1,[]⟩,
   ⟨⟨none,.store 1 (.t 25) (.t 24),none⟩,[]⟩])))
 (.region [Qo 26 (.bin .add (.t 15) (.c (i6 1))),
  Qm 15 26]))))
def z0l:LCode:=(.seq (.region [Qt 27 5 1,
 ⟨none,.store 5 (.t 2) (.t 27),none⟩])
 .ret)
def zez:LCode:=(.seq (.region [Qo 1 (.box (.t 0)),
 Qo 2 (.alloc [(i6 0),(i6 0),(.str []),(.isl 1 [] true),(.isl 5 [] true)])])
 (.seq (.region [Qf 6 4 1,
  Ql 7 1 6,
  Qm 3 7])
 (.seq (.region [Qf 8 3 1,
  Ql 9 1 8,
  Qc 10 39 9,
  Qf 11 3 1,
  ⟨none,.store 1 (.t 11) (.t 10),none⟩,
  Qf 12 4 1,
  ⟨none,.store 1 (.t 12) (.c (.val (.slice none 0 0))),none⟩])
 (.seq (.seq (.region [Qm 13 3,
  Qo 14 (.len false (.t 13)),
  Qi 15 0])
 (.block 0
  (.loop
   z59)))
 z0l))))
def Yp:Lay:=⟨28,[],false⟩
def z79:List LRes:=[.cell 2 true 5]
def zid:LFn:=⟨1,Yp,zez,z79⟩
theorem zo0:wb Tryz.prog [] 22=some zid:=by kernel_rfl
theorem zon:uk Tryz.prog 22:=⟨_,Tryz.func22,rfl,rfl⟩
def z5m(a0:GJ)(o:GJ):Exit→Env→AHeap→Nat→Prop:=Zz z79 (Xx 3 3 (.agg (z6 o)) [])
def Uh(a0:GJ)(v1:(List (List UInt8)))(s:(Int×(List (List AVal)))):Env:=[(1,.ptr (3,0) 0 0),(2,.ptr (4,0) 0 0),(13,.isl 5 (a0.fE.map ze) false),(14,i6 ((a0.fE.map ze).length:Int)),(15,i6 s.1)]
def z1w(a0:GJ)(v1:(List (List UInt8)))(s:(Int×(List (List AVal)))):AHeap:=[((3,0),.one [i6 a0.fK,i6 a0.fN,.str a0.fT,.isl 1 (v1.map za) false,.osl (5,0) 5 (s.2.map ze)]),((4,0),.one [i6 0,i6 0,.str [],.isl 1 (([]:List (List UInt8)).map za) true,.isl 5 (([]:List (List AVal)).map ze) true]),((5,0),.tok)]
def z4n(a0:GJ)(o:GJ):Exit→Env→AHeap→Nat→Prop:=(xa 0 (Ya Tryz.prog Yp 3 z0l (z5m a0 o)))
noncomputable def vn(rec3:GJ→Option GJ)(m:Option Nat)(a0:GJ)(v1:(List (List UInt8)))(v5:List (List AVal)):Option GJ:=
 some (GJ.mk a0.fK a0.fN a0.fT v1 v5)
noncomputable def xk(rec3:GJ→Option GJ)(m:Option Nat)(a0:GJ)(v1:(List (List UInt8)))(v4:Int)(v5:List (List AVal)):Option ((Int×(List (List AVal))) ⊕ GJ):=
 if(decide (v4<((a0.fE.map ze).length:Int)))=true then
  if(0:Int)≤v4∧v4<((a0.fE.map ze).length:Int) then
  ((Zo (a0.fE.getD v4.toNat default))).bind fun v8=>
  (rec3 v8).bind fun v9=>
  if((v5++([z6 v9]:List (List AVal))).map ze).length*80≤140737488355328 then
  some (.inl ((W (v4+1)),(v5++([z6 v9]:List (List AVal)))))
  else none
  else none
 else
  Option.map Sum.inr (
   vn rec3 m a0 v1 v5)
noncomputable def jp(rec3:GJ→Option GJ)(m:Option Nat)(a0:GJ)(v1:(List (List UInt8)))(v4:Int)(v5:List (List AVal)):Option GJ:=Y1 m (fun(s:(Int×(List (List AVal))))=>xk rec3 m a0 v1 s.1 s.2) (v4,v5)
abbrev Hr3(rec3:GJ→Option GJ):Prop:=∀ {a0:GJ} {o:GJ},rec3 a0=some o→ACalls Tryz.prog 22 [.agg (z6 a0)] [] 3 (kg 3 (.agg (z6 o)) [])
theorem zc2{rec3:GJ→Option GJ}(hrec3:Hr3 rec3){a0:GJ}{v1:(List (List UInt8))}{v5:List (List AVal)}{m:Option Nat}{o:GJ}(h:vn rec3 m a0 v1 v5=some o) :
 LWp Tryz.prog Yp 3 z0l (z5m a0 o) [(1,.ptr (3,0) 0 0),(2,.ptr (4,0) 0 0)] [((3,0),.one [i6 a0.fK,i6 a0.fN,.str a0.fT,.isl 1 (v1.map za) false,.osl (5,0) 5 (v5.map ze)]),((4,0),.one [i6 0,i6 0,.str [],.isl 1 (([]:List (List UInt8)).map za) true,.isl 5 (([]:List (List AVal)).map ze) true]),((5,0),.tok)] 6:=by
 unfold vn at h
 refine zc (zh ?_)
 refine wo ?_
 cases h
 exact AI (AI TT (AI rfl (NB rfl))) (Km (n':=6) [] [] rfl rfl (Vw.aggL (S4 rfl rfl rfl rfl (AI (Vw.oslI _ _ _) TT))) TT)
theorem z6v{rec3:GJ→Option GJ}(hrec3:Hr3 rec3){a0:GJ}{v1:(List (List UInt8))}{v4:Int}{v5:List (List AVal)}{m:Option Nat}{o:(Int×(List (List AVal))) ⊕ GJ}(h:xk rec3 m a0 v1 v4 v5=some o) :
 LWp Tryz.prog Yp 3 z59 (Z2 3 6 (Uh a0 v1) (z1w a0 v1) (z4n a0) o) [(1,.ptr (3,0) 0 0),(2,.ptr (4,0) 0 0),(13,.isl 5 (a0.fE.map ze) false),(14,i6 ((a0.fE.map ze).length:Int)),(15,i6 v4)] [((3,0),.one [i6 a0.fK,i6 a0.fN,.str a0.fT,.isl 1 (v1.map za) false,.osl (5,0) 5 (v5.map ze)]),((4,0),.one [i6 0,i6 0,.str [],.isl 1 (([]:List (List UInt8)).map za) true,.isl 5 (([]:List (List AVal)).map ze) true]),((5,0),.tok)] 6:=by
 unfold xk at h
 refine zc (zh ?_)
 refine zc ?_
 refine yp (v:=(decide (v4<((a0.fE.map ze).length:Int)))) rfl TT (fun h12=>?_) (fun h12=>?_)
 ·have h:=zj h12 h
  refine xr ?_
  refine zc ?_
  refine jj ?_
  refine zc (zh ?_)
  obtain⟨h13,h⟩:=qv h
  refine AI h13 ?_
  obtain⟨v8,h14,h⟩:=bind_some h
  refine EX (z6 v8) (AI (u4 (u5 ze h13) h14) (AI (AI (Ze h13) (NB rfl)) ?_))
  refine U8 ?_
  obtain⟨v9,h15,h⟩:=bind_some h
  refine Q1 (k:=3) (m:=0) (L':=[]) (rest:=[((6,0),.one (z6 v8)),((3,0),.one [i6 a0.fK,i6 a0.fN,.str a0.fT,.isl 1 (v1.map za) false,.osl (5,0) 5 (v5.map ze)]),((4,0),.one [i6 0,i6 0,.str [],.isl 1 (([]:List (List UInt8)).map za) true,.isl 5 (([]:List (List AVal)).map ze) true]),((5,0),.tok)]) (R':=.agg (z6 v9)) [] (hrec3 h15) rfl rfl rfl (AI (VS rfl) TT) TT (wv _ rfl) TT rfl ?_
  refine AI rfl ?_
  obtain⟨h16,h⟩:=qv h
  refine EX ((v5++([z6 v9]:List (List AVal))).map ze) (AI (Ww ze v5 ([z6 v9]:List (List AVal))) (AI h16 ?_))
  refine LWp.sim (e:=[(1,.ptr (3,0) 0 0),(2,.ptr (4,0) 0 0),(13,.isl 5 (a0.fE.map ze) false),(14,i6 ((a0.fE.map ze).length:Int)),(15,i6 v4)]) (L:=[((3,0),.one [i6 a0.fK,i6 a0.fN,.str a0.fT,.isl 1 (v1.map za) false,.osl (5,0) 5 ((v5++([z6 v9]:List (List AVal))).map ze)]),((4,0),.one [i6 0,i6 0,.str [],.isl 1 (([]:List (List UInt8)).map za) true,.isl 5 (([]:List (List AVal)).map ze) true]),((5,0),.tok)]) (n:=6) ?_ ?_
  ·exact qq (M:=[((3,0),(3,0)),((4,0),(4,0)),((5,0),(8,0))]) rfl (SP rfl (SP rfl (S2 rfl rfl (AI (VS rfl) TT)))) (AI (AI rfl (BVw.oneL (S4 rfl rfl rfl rfl (AI (Vw.osl _ _ _ _ rfl) TT)))) (AI (AI rfl (OL rfl)) (AI (AI rfl BVw.tok) TT)))
  refine zh ?_
  cases h
  exact AI rfl (qq (M:=[((3,0),(3,0)),((4,0),(4,0)),((5,0),(5,0))]) rfl (SP rfl (SP rfl (S2 rfl rfl (AI (VS rfl) TT)))) (AI (AI rfl (BVw.oneL (S4 rfl rfl rfl rfl (AI (Vw.osl _ _ _ _ rfl) TT)))) (AI (AI rfl (OL rfl)) (AI (AI rfl BVw.tok) TT))))
 ·have h:=zo h12 h
  refine Jr ?_
  obtain⟨o,hq,rfl⟩:=Option.map_eq_some_iff.1 h
  replace h:=hq;clear hq
  refine AI nofun ?_
  refine LWp.sim ?_ (zc2 hrec3 h)
  exact qq (M:=[((3,0),(3,0)),((4,0),(4,0)),((5,0),(5,0))]) rfl (SP rfl (SP rfl TT)) (AI (AI rfl (BVw.oneL (S4 rfl rfl rfl rfl (AI (Vw.osl _ _ _ _ rfl) TT)))) (AI (AI rfl (OL rfl)) (AI (AI rfl BVw.tok) TT)))
theorem zbx{rec3:GJ→Option GJ}(hrec3:Hr3 rec3){a0:GJ}{v1:(List (List UInt8))}{v4:Int}{v5:List (List AVal)}{m:Option Nat}{o:GJ}(h:jp rec3 m a0 v1 v4 v5=some o) :
 LWp Tryz.prog Yp 3 (.loop z59) (xa 0 (Ya Tryz.prog Yp 3 z0l (z5m a0 o))) [(1,.ptr (3,0) 0 0),(2,.ptr (4,0) 0 0),(13,.isl 5 (a0.fE.map ze) false),(14,i6 ((a0.fE.map ze).length:Int)),(15,i6 v4)] [((3,0),.one [i6 a0.fK,i6 a0.fN,.str a0.fT,.isl 1 (v1.map za) false,.osl (5,0) 5 (v5.map ze)]),((4,0),.one [i6 0,i6 0,.str [],.isl 1 (([]:List (List UInt8)).map za) true,.isl 5 (([]:List (List AVal)).map ze) true]),((5,0),.tok)] 6:=
 ww (m:=m) (s:=((v4,v5):(Int×(List (List AVal))))) (r:=o) (fun(s:(Int×(List (List AVal))))=>xk rec3 m a0 v1 s.1 s.2) (Uh a0 v1) (z1w a0 v1) (z4n a0) (fun s o h=>z6v hrec3 h) h
noncomputable def xy(rec3:GJ→Option GJ)(m:Option Nat)(a0:GJ):Option GJ:=
 (ud m a0.fA).bind fun v1=>
 jp rec3 m a0 v1 0 []
theorem zan{rec3:GJ→Option GJ}(hrec3:Hr3 rec3){a0:GJ}{m:Option Nat}{o:GJ}(h:xy rec3 m a0=some o):LWp Tryz.prog Yp 3 zez (z5m a0 o) (ye 0 [.agg (z6 a0)]) [] 3:=by
 unfold xy at h
 refine zc (zh ?_)
 refine zc (zh ?_)
 refine zc (zh ?_)
 obtain⟨v1,h1,h⟩:=bind_some h
 refine PFn.call (zvp h1) (AI (VS rfl) TT) ?_
 refine LWp.sim (e:=[(1,.ptr (3,0) 0 0),(2,.ptr (4,0) 0 0),(3,.isl 5 (a0.fE.map ze) false)]) (L:=[((3,0),.one [i6 a0.fK,i6 a0.fN,.str a0.fT,.isl 1 (v1.map za) false,.val (.slice none 0 0)]),((4,0),.one [i6 0,i6 0,.str [],.isl 1 (([]:List (List UInt8)).map za) true,.isl 5 (([]:List (List AVal)).map ze) true])]) (n:=5) ?_ ?_
 ·exact qq (M:=[((3,0),(3,0)),((4,0),(4,0))]) rfl (SP rfl (SP rfl (AI (VS rfl) TT))) (AI (AI rfl (OL rfl)) (AI (AI rfl (OL rfl)) TT))
 refine zc ?_
 refine zc (zh ?_)
 refine jj ?_
 refine LWp.sim ?_ (zbx hrec3 h)
 exact qq (M:=[((3,0),(3,0)),((4,0),(4,0))]) rfl (SP rfl (SP rfl (S2 rfl rfl (AI (VS rfl) TT)))) (AI (AI rfl (BVw.oneL (S4 rfl rfl rfl rfl (AI (Vw.nilO _ _ (by decide)) TT)))) (AI (AI rfl (OL rfl)) (AI (AI rfl (AI (by decide) (by decide))) TT)))
theorem zf2{rec3:GJ→Option GJ}(hrec3:Hr3 rec3){a0:GJ}{m:Option Nat}{o:GJ}(h:xy rec3 m a0=some o):ACalls Tryz.prog 22 [.agg (z6 a0)] [] 3 (kg 3 (.agg (z6 o)) []):=Yw (L:=zid) zo0 zon (NB rfl) (zan hrec3 h)
noncomputable def jv(m:Option Nat):Nat→GJ→Option GJ
 |0=>fun _=>none
 |k+1=>xy (jv m k) m
noncomputable def wl(m:Option Nat)(a0:GJ):Option GJ:=zp7 m (fun k=>jv m k a0)
theorem z8a{m:Option Nat}:∀ (k:Nat) {a0:GJ} {o:GJ},jv m k a0=some o→ACalls Tryz.prog 22 [.agg (z6 a0)] [] 3 (kg 3 (.agg (z6 o)) [])
 |0,_,_,h=>nomatch h
 |k+1,_,_,h=>zf2 (fun h=>z8a k h) h
theorem z76{a0:GJ}{m:Option Nat}{o:GJ}(h:wl m a0=some o):ACalls Tryz.prog 22 [.agg (z6 a0)] [] 3 (kg 3 (.agg (z6 o)) []):=(X9 h).elim fun k h=>z8a k h
noncomputable def Yk(m:Option Nat)(a0:GJ):Option GJ:=xy (wl m) m a0
theorem zza{a0:GJ}{m:Option Nat}{o:GJ}(h:Yk m a0=some o):PFn Tryz.prog 22 [.agg (z6 a0)] (.agg (z6 o)):=
 ⟨rfl,_,Q1 (k:=3) (m:=0) (L':=[]) (rest:=[]) (R':=.agg (z6 o)) [] (zf2 z76 h) rfl rfl rfl (AI (VS rfl) TT) TT (wv _ rfl) TT rfl ⟨rfl,rfl,rfl⟩⟩
def zsb:LCode:=(.seq (.region [Qo 1 (.box (.t 0)),
 Qb 2])
 (.seq (.region [Qf 3 0 1,
  Ql 4 1 3,
  Qo 5 (.bin .eql (.t 4) (.c (i6 0))),
  Qm 6 5,
  Qe 7 1 1 (6,true),
  Qk 8 1 7 (6,true),
  Qg 9 (.bin .eql (.t 8) (.c (i6 0))) (6,true),
  Qp 10 6 9,
  Qm 11 10,
  Qe 12 2 1 (11,true),
  Qk 13 1 12 (11,true),
  Qg 14 (.bin .eql (.t 13) (.c (.str []))) (11,true),
  Qp 15 11 14,
  Qm 16 15,
  Qe 17 3 1 (16,true),
  Qk 18 1 17 (16,true),
  Qg 19 (.len false (.t 18)) (16,true),
  Qe 20 4 1 (16,true),
  Qk 21 1 20 (16,true),
  Qg 22 (.len false (.t 21)) (16,true),
  Qg 23 (.bin .add (.t 19) (.t 22)) (16,true),
  Qg 24 (.bin .eql (.t 23) (.c (i6 0))) (16,true),
  Qp 25 16 24,
  Qm 2 25])
 .ret))
def zlw:Lay:=⟨26,[],false⟩
def zne:List LRes:=[.t 2]
def zyh:LFn:=⟨1,zlw,zsb,zne⟩
theorem zvn:wb Tryz.prog [] 44=some zyh:=by kernel_rfl
theorem zu7:uk Tryz.prog 44:=⟨_,Tryz.func44,rfl,rfl⟩
noncomputable def va(m:Option Nat)(a0:GJ):Option Bool:=
 some ((((a0.fK==0)&&(a0.fN==0))&&(a0.fT==([]:List UInt8)))&&((W (((a0.fA.map za).length:Int)+((a0.fE.map ze).length:Int)))==0))
def y22(a0:GJ)(o:Bool):Exit→Env→AHeap→Nat→Prop:=Zz zne (jo (.bool o))
theorem zog{a0:GJ}{m:Option Nat}{o:Bool}(h:va m a0=some o):LWp Tryz.prog zlw 0 zsb (y22 a0 o) (ye 0 [.agg (z6 a0)]) [] 0:=by
 unfold va at h
 refine zc (zh ?_)
 refine zc (zh ?_)
 refine AI (fun hp=>hp) ?_
 refine AI (fun hp=>hp) ?_
 refine AI (fun hc=>(bqt hc)) ?_
 refine AI (fun hp=>hp) ?_
 refine AI (fun hp=>hp) ?_
 refine AI (fun hc=>(bqt hc)) ?_
 refine AI (fun hp=>hp) ?_
 refine AI (fun hp=>hp) ?_
 refine AI (fun hp=>hp) ?_
 refine AI (fun hp=>hp) ?_
 refine AI (fun hp=>(AI hp hp)) ?_
 refine AI (fun hp=>hp) ?_
 refine AI (fun hc=>(bqt hc)) ?_
 refine LWp.sim (e:=[(2,.bool ((((a0.fK==0)&&(a0.fN==0))&&(a0.fT==([]:List UInt8)))&&((W (((a0.fA.map za).length:Int)+((a0.fE.map ze).length:Int)))==0)))]) (L:=[]) (n:=0) ?_ ?_
 ·exact qq (M:=[]) rfl (AI (VS rfl) TT) TT
 refine wo ?_
 cases h
 exact AI TT (AI rfl (VS rfl))
theorem zzm{a0:GJ}{m:Option Nat}{o:Bool}(h:va m a0=some o):PFn Tryz.prog 44 [.agg (z6 a0)] (.bool o):=PFn.ofFnW (L:=zyh) zvn zu7 (NB rfl) rfl (zog h)
def we(m:Option Nat)(a0:List UInt8):Option Bool:=if a0.length≤9223372036854775807 then some (Go.Lib.validD a0) else none
theorem zwf:uk Tryz.prog 80:=⟨_,Tryz.func80,rfl,rfl⟩
theorem zhq{m:Option Nat}{a0:List UInt8}{o:Bool}(h:we m a0=some o):PFn Tryz.prog 80 [.str a0] (.bool o):=by
 unfold we at h
 split at h
 ·rename_i hc
  cases h
  exact z9d Tryz.l80 rfl rfl zwf (by rw[zzu];exact .head _) (by rw[zzu];exact .tail _ (.head _)) hc
 ·cases h
def zsm:LCode:=(.seq (.region [Qb 4])
 (.seq (.region [Qm 5 0,
  Qo 6 (.len true (.t 5)),
  Qm 7 1,
  Qo 8 (.bin .geq (.t 6) (.t 7)),
  Qm 9 8,
  Qn 10 0 (9,true),
  Qg 11 (.len true (.t 10)) (9,true),
  Qg 12 (.bin .leq (.t 11) (.c (i6 60))) (9,true),
  Qp 13 9 12,
  Qm 14 13,
  Qn 15 0 (14,true),
  Qg 16 (.call 80 [(.t 15)]) (14,true),
  Qp 17 14 16,
  Qm 4 17])
 .ret))
def zoz:Lay:=⟨18,[],false⟩
def zkt:List LRes:=[.t 4]
def zyy:LFn:=⟨2,zoz,zsm,zkt⟩
theorem zv4:wb Tryz.prog [] 61=some zyy:=by kernel_rfl
theorem zui:uk Tryz.prog 61:=⟨_,Tryz.func61,rfl,rfl⟩
noncomputable def jg(m:Option Nat)(a0:List UInt8)(a1:Int):Option Bool:=
 (if(((decide ((a0.length:Int)≥a1))&&(decide ((a0.length:Int)≤60)))==true)=true then we m a0 else some default).bind fun v1=>
 some (((decide ((a0.length:Int)≥a1))&&(decide ((a0.length:Int)≤60)))&&v1)
def y2r(a0:List UInt8)(a1:Int)(o:Bool):Exit→Env→AHeap→Nat→Prop:=Zz zkt (jo (.bool o))
theorem zko{a0:List UInt8}{a1:Int}{m:Option Nat}{o:Bool}(h:jg m a0 a1=some o):LWp Tryz.prog zoz 0 zsm (y2r a0 a1 o) (ye 0 [.str a0,i6 a1]) [] 0:=by
 unfold jg at h
 refine zc (zh ?_)
 refine zc (zh ?_)
 refine AI (fun hp=>hp) ?_
 refine AI (fun hp=>hp) ?_
 refine AI (fun hc=>(bqt hc)) ?_
 obtain⟨v1,h1,h⟩:=bind_some h
 refine Or.inl (EX (.bool v1) (AI (fun hp=>AI hp (PFn.call (zhq (zj hp h1)) (AI (VS rfl) TT) (AI rfl (AI rfl rfl)))) ?_))
 refine AI (fun hc=>(bqt hc)) ?_
 refine LWp.sim (e:=[(4,.bool (((decide ((a0.length:Int)≥a1))&&(decide ((a0.length:Int)≤60)))&&v1))]) (L:=[]) (n:=0) ?_ ?_
 ·exact qq (M:=[]) rfl (AI (VS rfl) TT) TT
 refine wo ?_
 cases h
 exact AI TT (AI rfl (VS rfl))
theorem zjf{a0:List UInt8}{a1:Int}{m:Option Nat}{o:Bool}(h:jg m a0 a1=some o):PFn Tryz.prog 61 [.str a0,i6 a1] (.bool o):=PFn.ofFnW (L:=zyy) zv4 zui (NB rfl) rfl (zko h)
def zs7:LCode:=(.seq (.region [Qo 1 (.box (.t 0)),
 Qb 2])
 (.seq (.seq (.region [Qf 3 0 1,
  Ql 4 1 3])
 (.block 0
  (.seq (.region [Qo 6 (.bin .eql (.t 4) (.c (i6 1))),
   Qm 5 6])
  (.cond (.t 5)
   (.seq (.region [Qf 7 3 1,
    Ql 8 1 7,
    Qo 9 (.call 61 [(.t 8),(.c (i6 1))]),
    Qm 2 9])
   .ret)
   (.seq (.region [Qo 11 (.bin .eql (.t 4) (.c (i6 2))),
    Qm 10 11])
   (.cond (.t 10)
    (.seq (.region [Qf 12 3 1,
     Ql 13 1 12,
     Qo 14 (.call 61 [(.t 13),(.c (i6 1))]),
     Qm 15 14,
     Qe 16 3 1 (15,true),
     Qk 17 1 16 (15,true),
     Qg 18 (.bin .neq (.t 17) (.c (.str [36,47,99,97,110,99,101,108]))) (15,true),
     Qp 19 15 18,
     Qm 2 19])
    .ret)
    (.seq (.region [Qo 21 (.bin .eql (.t 4) (.c (i6 4))),
     Qm 20 21])
    (.cond (.t 20)
     (.seq (.region [Qf 22 3 1,
      Ql 23 1 22,
      Qo 24 (.call 61 [(.t 23),(.c (i6 0))]),
      Qm 2 24])
     .ret)
     .skip))))))))
 (.seq (.region [Qf 25 3 1,
  Ql 26 1 25,
  Qo 27 (.bin .eql (.t 26) (.c (.str []))),
  Qm 2 27])
 .ret)))
def zim:Lay:=⟨28,[],false⟩
def zmo:List LRes:=[.t 2]
def zxz:LFn:=⟨1,zim,zs7,zmo⟩
theorem zxi:wb Tryz.prog [] 45=some zxz:=by kernel_rfl
theorem zwu:uk Tryz.prog 45:=⟨_,Tryz.func45,rfl,rfl⟩
noncomputable def jh(m:Option Nat)(a0:GM):Option Bool:=
 if(a0.fK==1)=true then
  (jg m a0.fM 1).bind fun v1=>
  some v1
 else
  if(a0.fK==2)=true then
   (jg m a0.fM 1).bind fun v2=>
   some (v2&&(!(a0.fM==([36,47,99,97,110,99,101,108]:List UInt8))))
  else
   if(a0.fK==4)=true then
    (jg m a0.fM 0).bind fun v3=>
    some v3
   else
    some (a0.fM==([]:List UInt8))
def y2v(a0:GM)(o:Bool):Exit→Env→AHeap→Nat→Prop:=Zz zmo (jo (.bool o))
theorem zlt{a0:GM}{m:Option Nat}{o:Bool}(h:jh m a0=some o):LWp Tryz.prog zim 0 zs7 (y2v a0 o) (ye 0 [.agg [i6 a0.fK,i6 a0.fI,i6 a0.fC,.str a0.fM,i6 a0.fB.fK,i6 a0.fB.fN,.str a0.fB.fT,.isl 1 (a0.fB.fA.map za) false,.isl 5 (a0.fB.fE.map ze) false]]) [] 0:=by
 unfold jh at h
 refine zc (zh ?_)
 refine zc ?_
 refine zc (zh ?_)
 refine jj ?_
 refine zc (zh ?_)
 refine yp (v:=(a0.fK==1)) rfl TT (fun h1=>?_) (fun h1=>?_)
 ·have h:=zj h1 h
  refine zc (zh ?_)
  obtain⟨v1,h2,h⟩:=bind_some h
  refine PFn.call (zjf h2) (S2 rfl rfl TT) ?_
  refine LWp.sim (e:=[(2,.bool v1)]) (L:=[]) (n:=0) ?_ ?_
  ·exact qq (M:=[]) rfl (AI (VS rfl) TT) TT
  refine wo ?_
  cases h
  exact AI TT (AI rfl (VS rfl))
 ·have h:=zo h1 h
  refine zc (zh ?_)
  refine LWp.sim (e:=[(1,.ptr (0,0) 0 0),(4,i6 a0.fK),(10,.bool (a0.fK==2))]) (L:=[((0,0),.one [i6 a0.fK,i6 a0.fI,i6 a0.fC,.str a0.fM,i6 a0.fB.fK,i6 a0.fB.fN,.str a0.fB.fT,.isl 1 (a0.fB.fA.map za) false,.isl 5 (a0.fB.fE.map ze) false])]) (n:=1) ?_ ?_
  ·exact qq (M:=[((0,0),(0,0))]) rfl (SP rfl (S2 rfl rfl TT)) (AI (AI rfl (OL rfl)) TT)
  refine yp (v:=(a0.fK==2)) rfl TT (fun h3=>?_) (fun h3=>?_)
  ·have h:=zj h3 h
   refine zc (zh ?_)
   obtain⟨v2,h4,h⟩:=bind_some h
   refine PFn.call (zjf h4) (S2 rfl rfl TT) ?_
   refine AI (fun hp=>hp) ?_
   refine AI (fun hp=>hp) ?_
   refine AI (fun hc=>(bqt hc)) ?_
   refine LWp.sim (e:=[(2,.bool (v2&&(!(a0.fM==([36,47,99,97,110,99,101,108]:List UInt8)))))]) (L:=[]) (n:=0) ?_ ?_
   ·exact qq (M:=[]) rfl (AI (VS rfl) TT) TT
   refine wo ?_
   cases h
   exact AI TT (AI rfl (VS rfl))
  ·have h:=zo h3 h
   refine zc (zh ?_)
   refine yp (v:=(a0.fK==4)) rfl TT (fun h5=>?_) (fun h5=>?_)
   ·have h:=zj h5 h
    refine zc (zh ?_)
    obtain⟨v3,h6,h⟩:=bind_some h
    refine PFn.call (zjf h6) (S2 rfl rfl TT) ?_
    refine wo ?_
    cases h
    exact AI TT (AI rfl (VS rfl))
   ·have h:=zo h5 h
    refine xr ?_
    refine zc (zh ?_)
    refine wo ?_
    cases h
    exact AI TT (AI rfl (VS rfl))
theorem zyk{a0:GM}{m:Option Nat}{o:Bool}(h:jh m a0=some o):PFn Tryz.prog 45 [.agg [i6 a0.fK,i6 a0.fI,i6 a0.fC,.str a0.fM,i6 a0.fB.fK,i6 a0.fB.fN,.str a0.fB.fT,.isl 1 (a0.fB.fA.map za) false,.isl 5 (a0.fB.fE.map ze) false]] (.bool o):=PFn.ofFnW (L:=zxz) zxi zwu (NB rfl) rfl (zlt h)
def zs8:LCode:=(.cond (.t 39)
 (.seq (.region [Qb 2])
 .ret)
 (.seq (.region [Qm 59 5,
  Qo 60 (.un .not (.t 59)),
  Qm 61 60,
  Qe 62 4 1 (61,true),
  Qg 63 (.load true 5 (.t 62)) (61,true),
  Qg 64 (.call 44 [(.t 63)]) (61,true),
  Qg 65 (.un .not (.t 64)) (61,true),
  Qp 66 61 65,
  Qm 58 66])
 (.cond (.t 58)
  (.seq (.region [Qb 2])
  .ret)
  .skip)))
def zsy:LCode:=(.cond (.t 20)
 (.seq (.region [Qb 2])
 .ret)
 (.seq (.seq (.region [Qm 40 4,
  Qm 41 40,
  Qe 42 2 1 (41,true),
  Qk 43 1 42 (41,true),
  Qg 44 (.bin .lss (.t 43) (.c (i6 1))) (41,true),
  Qn 45 44 (41,true),
  Qe 46 2 1 (45,false),
  Qk 47 1 46 (45,false),
  Qg 48 (.bin .gtr (.t 47) (.c (i6 99))) (45,false),
  Qg 49 (.pick (.t 45) (.c (.bool true)) (.t 48)) (41,true),
  Qp 50 41 49,
  Qm 39 50])
 (.cond (.t 39)
  .skip
  (.region [Qm 51 4,
   Qo 52 (.un .not (.t 51)),
   Qm 53 52,
   Qe 54 2 1 (53,true),
   Qk 55 1 54 (53,true),
   Qg 56 (.bin .neq (.t 55) (.c (i6 0))) (53,true),
   Qp 57 53 56,
   Qm 39 57])))
 zs8))
def zlk:LCode:=(.seq (.region [Qt 67 9 1,
 Qc 68 45 67,
 Qm 2 68])
 .ret)
def zt1:LCode:=(.seq (.region [Qo 1 (.box (.t 0)),
 Qb 2])
 (.seq (.region [Qf 6 0 1,
  Ql 7 1 6,
  Qo 8 (.bin .neq (.t 7) (.c (i6 2))),
  Qm 3 8])
 (.seq (.region [Qf 9 0 1,
  Ql 10 1 9,
  Qo 11 (.bin .eql (.t 10) (.c (i6 4))),
  Qm 4 11])
 (.seq (.region [Qf 12 0 1,
  Ql 13 1 12,
  Qo 14 (.bin .neq (.t 13) (.c (i6 4))),
  Qm 15 14,
  Qe 16 0 1 (15,true),
  Qk 17 1 16 (15,true),
  Qg 18 (.bin .neq (.t 17) (.c (i6 5))) (15,true),
  Qp 19 15 18,
  Qm 5 19])
 (.seq (.block 0
  (.seq (.seq (.region [Qm 21 3,
   Qm 22 21,
   Qe 23 1 1 (22,true),
   Qk 24 1 23 (22,true),
   Qg 25 (.bin .lss (.t 24) (.c (i6 0))) (22,true),
   Qn 26 25 (22,true),
   Qe 27 1 1 (26,false),
   Qk 28 1 27 (26,false),
   Qg 29 (.bin .gtr (.t 28) (.c (i6 2147483647))) (26,false),
   Qg 30 (.pick (.t 26) (.c (.bool true)) (.t 29)) (22,true),
   Qp 31 22 30,
   Qm 20 31])
  (.cond (.t 20)
   .skip
   (.region [Qm 32 3,
    Qo 33 (.un .not (.t 32)),
    Qm 34 33,
    Qe 35 1 1 (34,true),
    Qk 36 1 35 (34,true),
    Qg 37 (.bin .neq (.t 36) (.c (i6 0))) (34,true),
    Qp 38 34 37,
    Qm 20 38])))
  zsy))
 zlk)))))
def Kp:Lay:=⟨69,[],false⟩
def zjq:List LRes:=[.t 2]
def zys:LFn:=⟨1,Kp,zt1,zjq⟩
theorem zw2:wb Tryz.prog [] 26=some zys:=by kernel_rfl
theorem zu5:uk Tryz.prog 26:=⟨_,Tryz.func26,rfl,rfl⟩
noncomputable def jq(m:Option Nat)(a0:GM)(v2:Bool):Option Bool:=
 if v2=true then
  some false
 else
  (if((!((a0.fK != 4)&&(a0.fK != 5)))==true)=true then va m (GJ.mk a0.fB.fK a0.fB.fN a0.fB.fT a0.fB.fA a0.fB.fE) else some default).bind fun v3=>
  if((!((a0.fK != 4)&&(a0.fK != 5)))&&(!v3))=true then
   some false
  else
   (jh m (GM.mk a0.fK a0.fI a0.fC a0.fM (GJ.mk a0.fB.fK a0.fB.fN a0.fB.fT a0.fB.fA a0.fB.fE))).bind fun v4=>
   some v4
def zxm(a0:GM)(o:Bool):Exit→Env→AHeap→Nat→Prop:=Zz zjq (jo (.bool o))
theorem z74{a0:GM}{v2:Bool}{m:Option Nat}{o:Bool}(h:jq m a0 v2=some o) :
 LWp Tryz.prog Kp 0 zs8 (xa 0 (Ya Tryz.prog Kp 0 zlk (zxm a0 o))) [(1,.ptr (0,0) 0 0),(5,.bool ((a0.fK != 4)&&(a0.fK != 5))),(39,.bool v2)] [((0,0),.one [i6 a0.fK,i6 a0.fI,i6 a0.fC,.str a0.fM,i6 a0.fB.fK,i6 a0.fB.fN,.str a0.fB.fT,.isl 1 (a0.fB.fA.map za) false,.isl 5 (a0.fB.fE.map ze) false])] 1:=by
 unfold jq at h
 refine yp (v:=v2) rfl TT (fun h4=>?_) (fun h4=>?_)
 ·have h:=zj h4 h
  refine zc (zh ?_)
  refine wo ?_
  cases h
  exact AI TT (AI rfl (VS rfl))
 ·have h:=zo h4 h
  refine zc (zh ?_)
  refine AI (fun hp=>hp) ?_
  obtain⟨v3,h5,h⟩:=bind_some h
  refine Or.inl (EX (.bool v3) (AI (fun hp=>AI hp (PFn.call (zzm (zj hp h5)) (AI (VS rfl) TT) (AI rfl (AI rfl rfl)))) ?_))
  refine AI (fun hp=>hp) ?_
  refine AI (fun hc=>(bqt hc)) ?_
  refine LWp.sim (e:=[(1,.ptr (0,0) 0 0),(58,.bool ((!((a0.fK != 4)&&(a0.fK != 5)))&&(!v3)))]) (L:=[((0,0),.one [i6 a0.fK,i6 a0.fI,i6 a0.fC,.str a0.fM,i6 a0.fB.fK,i6 a0.fB.fN,.str a0.fB.fT,.isl 1 (a0.fB.fA.map za) false,.isl 5 (a0.fB.fE.map ze) false])]) (n:=1) ?_ ?_
  ·exact qq (M:=[((0,0),(0,0))]) rfl (SP rfl (AI (VS rfl) TT)) (AI (AI rfl (OL rfl)) TT)
  refine yp (v:=((!((a0.fK != 4)&&(a0.fK != 5)))&&(!v3))) rfl TT (fun h6=>?_) (fun h6=>?_)
  ·have h:=zj h6 h
   refine zc (zh ?_)
   refine wo ?_
   cases h
   exact AI TT (AI rfl (VS rfl))
  ·have h:=zo h6 h
   refine xr ?_
   refine zc (zh ?_)
   obtain⟨v4,h7,h⟩:=bind_some h
   refine PFn.call (zyk h7) (AI (VS rfl) TT) ?_
   refine wo ?_
   cases h
   exact AI TT (AI rfl (VS rfl))
noncomputable def jn(m:Option Nat)(a0:GM)(v1:Bool):Option Bool:=
 if v1=true then
  some false
 else
  if((a0.fK==4)&&((decide (a0.fC<1)) || (decide (a0.fC > 99))))=true then
   jq m a0 ((a0.fK==4)&&((decide (a0.fC<1)) || (decide (a0.fC > 99))))
  else
   jq m a0 ((!(a0.fK==4))&&(a0.fC != 0))
theorem z6w{a0:GM}{v1:Bool}{m:Option Nat}{o:Bool}(h:jn m a0 v1=some o) :
 LWp Tryz.prog Kp 0 zsy (xa 0 (Ya Tryz.prog Kp 0 zlk (zxm a0 o))) [(1,.ptr (0,0) 0 0),(4,.bool (a0.fK==4)),(5,.bool ((a0.fK != 4)&&(a0.fK != 5))),(20,.bool v1)] [((0,0),.one [i6 a0.fK,i6 a0.fI,i6 a0.fC,.str a0.fM,i6 a0.fB.fK,i6 a0.fB.fN,.str a0.fB.fT,.isl 1 (a0.fB.fA.map za) false,.isl 5 (a0.fB.fE.map ze) false])] 1:=by
 unfold jn at h
 refine yp (v:=v1) rfl TT (fun h2=>?_) (fun h2=>?_)
 ·have h:=zj h2 h
  refine zc (zh ?_)
  refine wo ?_
  cases h
  exact AI TT (AI rfl (VS rfl))
 ·have h:=zo h2 h
  refine zc ?_
  refine zc (zh ?_)
  refine AI (fun hp=>hp) ?_
  refine AI (fun hp=>hp) ?_
  refine AI (fun hp=>hp) ?_
  refine AI (fun hp=>hp) ?_
  refine AI (fun hp=>hp) ?_
  refine AI (fun hp=>(AI hp (fun hc=>(z5z hp (bqf hc))))) ?_
  refine AI (fun hc=>(bqt hc)) ?_
  refine LWp.sim (e:=[(1,.ptr (0,0) 0 0),(4,.bool (a0.fK==4)),(5,.bool ((a0.fK != 4)&&(a0.fK != 5))),(39,.bool ((a0.fK==4)&&((decide (a0.fC<1)) || (decide (a0.fC > 99)))))]) (L:=[((0,0),.one [i6 a0.fK,i6 a0.fI,i6 a0.fC,.str a0.fM,i6 a0.fB.fK,i6 a0.fB.fN,.str a0.fB.fT,.isl 1 (a0.fB.fA.map za) false,.isl 5 (a0.fB.fE.map ze) false])]) (n:=1) ?_ ?_
  ·exact qq (M:=[((0,0),(0,0))]) rfl (SP rfl (S2 rfl rfl (AI (VS rfl) TT))) (AI (AI rfl (OL rfl)) TT)
  refine yp (v:=((a0.fK==4)&&((decide (a0.fC<1)) || (decide (a0.fC > 99))))) rfl TT (fun h3=>?_) (fun h3=>?_)
  ·have h:=zj h3 h
   refine xr ?_
   refine LWp.sim ?_ (z74 h)
   exact qq (M:=[((0,0),(0,0))]) rfl (SP rfl (S2 rfl rfl TT)) (AI (AI rfl (OL rfl)) TT)
  ·have h:=zo h3 h
   refine zh ?_
   refine AI (fun hp=>hp) ?_
   refine AI (fun hp=>hp) ?_
   refine AI (fun hc=>(bqt hc)) ?_
   refine LWp.sim ?_ (z74 h)
   exact qq (M:=[((0,0),(0,0))]) rfl (SP rfl (S2 rfl rfl TT)) (AI (AI rfl (OL rfl)) TT)
noncomputable def jt(m:Option Nat)(a0:GM):Option Bool:=
 if((a0.fK != 2)&&((decide (a0.fI<0)) || (decide (a0.fI > 2147483647))))=true then
  jn m a0 ((a0.fK != 2)&&((decide (a0.fI<0)) || (decide (a0.fI > 2147483647))))
 else
  jn m a0 ((!(a0.fK != 2))&&(a0.fI != 0))
theorem zp6{a0:GM}{m:Option Nat}{o:Bool}(h:jt m a0=some o):LWp Tryz.prog Kp 0 zt1 (zxm a0 o) (ye 0 [.agg [i6 a0.fK,i6 a0.fI,i6 a0.fC,.str a0.fM,i6 a0.fB.fK,i6 a0.fB.fN,.str a0.fB.fT,.isl 1 (a0.fB.fA.map za) false,.isl 5 (a0.fB.fE.map ze) false]]) [] 0:=by
 unfold jt at h
 refine zc (zh ?_)
 refine zc (zh ?_)
 refine zc (zh ?_)
 refine LWp.sim (e:=[(1,.ptr (0,0) 0 0),(3,.bool (a0.fK != 2)),(4,.bool (a0.fK==4))]) (L:=[((0,0),.one [i6 a0.fK,i6 a0.fI,i6 a0.fC,.str a0.fM,i6 a0.fB.fK,i6 a0.fB.fN,.str a0.fB.fT,.isl 1 (a0.fB.fA.map za) false,.isl 5 (a0.fB.fE.map ze) false])]) (n:=1) ?_ ?_
 ·exact qq (M:=[((0,0),(0,0))]) rfl (SP rfl (S2 rfl rfl TT)) (AI (AI rfl (OL rfl)) TT)
 refine zc (zh ?_)
 refine AI (fun hp=>hp) ?_
 refine AI (fun hp=>hp) ?_
 refine AI (fun hc=>(bqt hc)) ?_
 refine LWp.sim (e:=[(1,.ptr (0,0) 0 0),(3,.bool (a0.fK != 2)),(4,.bool (a0.fK==4)),(5,.bool ((a0.fK != 4)&&(a0.fK != 5)))]) (L:=[((0,0),.one [i6 a0.fK,i6 a0.fI,i6 a0.fC,.str a0.fM,i6 a0.fB.fK,i6 a0.fB.fN,.str a0.fB.fT,.isl 1 (a0.fB.fA.map za) false,.isl 5 (a0.fB.fE.map ze) false])]) (n:=1) ?_ ?_
 ·exact qq (M:=[((0,0),(0,0))]) rfl (SP rfl (S2 rfl rfl (AI (VS rfl) TT))) (AI (AI rfl (OL rfl)) TT)
 refine zc ?_
 refine jj ?_
 refine zc ?_
 refine zc (zh ?_)
 refine AI (fun hp=>hp) ?_
 refine AI (fun hp=>hp) ?_
 refine AI (fun hp=>hp) ?_
 refine AI (fun hp=>hp) ?_
 refine AI (fun hp=>hp) ?_
 refine AI (fun hp=>(AI hp (fun hc=>(z5z hp (bqf hc))))) ?_
 refine AI (fun hc=>(bqt hc)) ?_
 refine LWp.sim (e:=[(1,.ptr (0,0) 0 0),(3,.bool (a0.fK != 2)),(4,.bool (a0.fK==4)),(5,.bool ((a0.fK != 4)&&(a0.fK != 5))),(20,.bool ((a0.fK != 2)&&((decide (a0.fI<0)) || (decide (a0.fI > 2147483647)))))]) (L:=[((0,0),.one [i6 a0.fK,i6 a0.fI,i6 a0.fC,.str a0.fM,i6 a0.fB.fK,i6 a0.fB.fN,.str a0.fB.fT,.isl 1 (a0.fB.fA.map za) false,.isl 5 (a0.fB.fE.map ze) false])]) (n:=1) ?_ ?_
 ·exact qq (M:=[((0,0),(0,0))]) rfl (SP rfl (S4 rfl rfl rfl rfl TT)) (AI (AI rfl (OL rfl)) TT)
 refine yp (v:=((a0.fK != 2)&&((decide (a0.fI<0)) || (decide (a0.fI > 2147483647))))) rfl TT (fun h1=>?_) (fun h1=>?_)
 ·have h:=zj h1 h
  refine xr ?_
  refine LWp.sim ?_ (z6w h)
  exact qq (M:=[((0,0),(0,0))]) rfl (SP rfl (S2 rfl rfl (AI (VS rfl) TT))) (AI (AI rfl (OL rfl)) TT)
 ·have h:=zo h1 h
  refine zh ?_
  refine AI (fun hp=>hp) ?_
  refine AI (fun hp=>hp) ?_
  refine AI (fun hc=>(bqt hc)) ?_
  refine LWp.sim ?_ (z6w h)
  exact qq (M:=[((0,0),(0,0))]) rfl (SP rfl (S2 rfl rfl (AI (VS rfl) TT))) (AI (AI rfl (OL rfl)) TT)
theorem zzi{a0:GM}{m:Option Nat}{o:Bool}(h:jt m a0=some o):PFn Tryz.prog 26 [.agg [i6 a0.fK,i6 a0.fI,i6 a0.fC,.str a0.fM,i6 a0.fB.fK,i6 a0.fB.fN,.str a0.fB.fT,.isl 1 (a0.fB.fA.map za) false,.isl 5 (a0.fB.fE.map ze) false]] (.bool o):=PFn.ofFnW (L:=zys) zw2 zu5 (NB rfl) rfl (zp6 h)
def z5b:LCode:=(.seq (.region [Qo 26 (.bin .lss (.t 25) (.t 24))])
 (.seq (.cond (.t 26)
  .skip
  (.exit 0))
 (.seq (.block 1
  (.seq (.region [Qo 27 (.iaddr 5 (.t 23) (.t 25)),
   Qt 28 5 27,
   Qo 8 (.alloc [(i6 0),(i6 0),(.str []),(.isl 1 [] true),(.isl 5 [] true)]),
   ⟨none,.store 5 (.t 8) (.t 28),none⟩])
  (.seq (.region [Qt 29 5 8,
   Qm 30 1,
   Qo 31 (.bin .add (.t 30) (.c (i6 1))),
   Qm 32 2,
   Qo 33 (.call 46 [(.t 29),(.t 31),(.t 32)]),
   Qo 34 (.un .not (.t 33))])
  (.cond (.t 34)
   (.seq (.region [Qb 6])
   .ret)
   .skip))))
 (.region [Qo 35 (.bin .add (.t 25) (.c (i6 1))),
  Qm 25 35]))))
def z0n:LCode:=(.seq (.region [Qo 6 (.mv (.c (.bool true)))])
 .ret)
def zd8:LCode:=(.seq (.region [Qo 3 (.box (.t 0)),
 Qb 6])
 (.seq (.region [Qm 9 2,
  Qo 10 (.nilck (.t 9)),
  Ql 11 1 10,
  Qo 12 (.bin .add (.t 11) (.c (i6 1))),
  Qo 13 (.nilck (.t 9)),
  ⟨none,.store 1 (.t 13) (.t 12),none⟩])
 (.seq (.seq (.region [Qm 14 2,
  Qo 15 (.nilck (.t 14)),
  Ql 16 1 15,
  Qo 17 (.bin .gtr (.t 16) (.c (i6 400))),
  Qm 18 17,
  Qn 19 1 (18,false),
  Qg 20 (.bin .gtr (.t 19) (.c (i6 20))) (18,false),
  Qo 21 (.pick (.t 18) (.c (.bool true)) (.t 20))])
 (.cond (.t 21)
  (.seq (.region [Qb 6])
  .ret)
  .skip))
 (.seq (.seq (.region [Qf 22 4 3,
  Ql 23 1 22,
  Qo 24 (.len false (.t 23)),
  Qi 25 0])
 (.block 0
  (.loop
   z5b)))
 z0n))))
def Yn:Lay:=⟨36,[],false⟩
def z7m:List LRes:=[.t 6]
def zjm:LFn:=⟨3,Yn,zd8,z7m⟩
theorem zig:wb Tryz.prog [] 46=some zjm:=by kernel_rfl
theorem zod:uk Tryz.prog 46:=⟨_,Tryz.func46,rfl,rfl⟩
def z5e(a0:GJ)(a1:Int)(a2:Int)(o:Bool×Int):Exit→Env→AHeap→Nat→Prop:=Zz z7m (Xx 3 3 (.bool o.1) [((0,0),.one [i6 o.2])])
def Uq(a0:GJ)(a1:Int)(s:(Int×Int)):Env:=[(1,i6 a1),(2,.ptr (0,0) 0 0),(23,.isl 5 (a0.fE.map ze) false),(24,i6 ((a0.fE.map ze).length:Int)),(25,i6 s.2)]
def z2u(a0:GJ)(a1:Int)(s:(Int×Int)):AHeap:=[((0,0),.one [i6 s.1])]
def z4u(a0:GJ)(a1:Int)(a2:Int)(o:(Bool×Int)):Exit→Env→AHeap→Nat→Prop:=(xa 0 (Ya Tryz.prog Yn 3 z0n (z5e a0 a1 a2 o)))
noncomputable def wy(rec4:GJ→Int→Int→Option (Bool×Int))(m:Option Nat)(v3:Int):Option (Bool×Int):=
 some (true,v3)
noncomputable def yn(rec4:GJ→Int→Int→Option (Bool×Int))(m:Option Nat)(a0:GJ)(a1:Int)(v3:Int)(v4:Int):Option ((Int×Int) ⊕ (Bool×Int)):=
 if(decide (v4<((a0.fE.map ze).length:Int)))=true then
  if(0:Int)≤v4∧v4<((a0.fE.map ze).length:Int) then
  ((Zo (a0.fE.getD v4.toNat default))).bind fun v7=>
  (rec4 v7 (W (a1+1)) v3).bind fun v8=>
  if(!v8.1)=true then
   Option.map Sum.inr (
    some (false,v8.2))
  else
   some (.inl (v8.2,(W (v4+1))))
  else none
 else
  Option.map Sum.inr (
   wy rec4 m v3)
noncomputable def qu(rec4:GJ→Int→Int→Option (Bool×Int))(m:Option Nat)(a0:GJ)(a1:Int)(v3:Int)(v4:Int):Option (Bool×Int):=Y1 m (fun(s:(Int×Int))=>yn rec4 m a0 a1 s.1 s.2) (v3,v4)
abbrev Hr4(rec4:GJ→Int→Int→Option (Bool×Int)):Prop:=∀ {a0:GJ} {a1:Int} {a2:Int} {o:Bool×Int},rec4 a0 a1 a2=some o→ACalls Tryz.prog 46 [.agg (z6 a0),i6 a1,.ptr (0,0) 0 0] [((0,0),.one [i6 a2])] 3 (kg 3 (.bool o.1) [((0,0),.one [i6 o.2])])
theorem zc6{rec4:GJ→Int→Int→Option (Bool×Int)}(hrec4:Hr4 rec4){a0:GJ}{a1:Int}{a2:Int}{v3:Int}{m:Option Nat}{o:(Bool×Int)}(h:wy rec4 m v3=some o) :
 LWp Tryz.prog Yn 3 z0n (z5e a0 a1 a2 o) [] [((0,0),.one [i6 v3])] 3:=by
 unfold wy at h
 refine zc (zh ?_)
 refine wo ?_
 cases h
 exact AI TT (Km (n':=3) [] [] rfl rfl (VS rfl) (AI (AI rfl (OL rfl)) TT))
theorem za9{rec4:GJ→Int→Int→Option (Bool×Int)}(hrec4:Hr4 rec4){a2:Int}{a0:GJ}{a1:Int}{v3:Int}{v4:Int}{m:Option Nat}{o:(Int×Int) ⊕ (Bool×Int)}(h:yn rec4 m a0 a1 v3 v4=some o) :
 LWp Tryz.prog Yn 3 z5b (Z2 3 3 (Uq a0 a1) (z2u a0 a1) (z4u a0 a1 a2) o) [(1,i6 a1),(2,.ptr (0,0) 0 0),(23,.isl 5 (a0.fE.map ze) false),(24,i6 ((a0.fE.map ze).length:Int)),(25,i6 v4)] [((0,0),.one [i6 v3])] 3:=by
 unfold yn at h
 refine zc (zh ?_)
 refine zc ?_
 refine yp (v:=(decide (v4<((a0.fE.map ze).length:Int)))) rfl TT (fun h12=>?_) (fun h12=>?_)
 ·have h:=zj h12 h
  refine xr ?_
  refine zc ?_
  refine jj ?_
  refine zc (zh ?_)
  obtain⟨h13,h⟩:=qv h
  refine AI h13 ?_
  obtain⟨v7,h14,h⟩:=bind_some h
  refine EX (z6 v7) (AI (u4 (u5 ze h13) h14) (AI (AI (Ze h13) (NB rfl)) ?_))
  refine zc (zh ?_)
  obtain⟨v8,h15,h⟩:=bind_some h
  refine Q1 (k:=3) (m:=0) (L':=[((0,0),.one [i6 v8.2])]) (rest:=[((3,0),.one (z6 v7))]) (R':=.bool v8.1) [((0,0),(0,0))] (hrec4 h15) rfl rfl rfl (S2 rfl rfl (SP rfl TT)) (AI (h0I (0,0) rfl rfl (OL rfl)) TT) (wv _ rfl) (AI rfl (AI rfl TT)) rfl ?_
  refine LWp.sim (e:=[(1,i6 a1),(2,.ptr (0,0) 0 0),(23,.isl 5 (a0.fE.map ze) false),(24,i6 ((a0.fE.map ze).length:Int)),(25,i6 v4),(34,.bool (!v8.1))]) (L:=[((0,0),.one [i6 v8.2])]) (n:=3) ?_ ?_
  ·exact qq (M:=[]) rfl (AI (VS rfl) (SP rfl (S4 rfl rfl rfl rfl TT))) (AI (AI rfl (OL rfl)) TT)
  refine yp (v:=(!v8.1)) rfl TT (fun h16=>?_) (fun h16=>?_)
  ·have h:=zj h16 h
   refine zc (zh ?_)
   refine wo ?_
   obtain⟨o,hq,rfl⟩:=Option.map_eq_some_iff.1 h
   replace h:=hq;clear hq
   refine AI nofun ?_
   cases h
   exact AI TT (Km (n':=3) [] [] rfl rfl (VS rfl) (AI (AI rfl (OL rfl)) TT))
  ·have h:=zo h16 h
   refine xr ?_
   refine zh ?_
   cases h
   exact AI rfl (qq (M:=[]) rfl (AI (VS rfl) (SP rfl (S2 rfl rfl (AI (VS rfl) TT)))) (AI (AI rfl (OL rfl)) TT))
 ·have h:=zo h12 h
  refine Jr ?_
  obtain⟨o,hq,rfl⟩:=Option.map_eq_some_iff.1 h
  replace h:=hq;clear hq
  refine AI nofun ?_
  refine LWp.sim ?_ (zc6 hrec4 h)
  exact qq (M:=[]) rfl TT (AI (AI rfl (OL rfl)) TT)
theorem zcq{rec4:GJ→Int→Int→Option (Bool×Int)}(hrec4:Hr4 rec4){a2:Int}{a0:GJ}{a1:Int}{v3:Int}{v4:Int}{m:Option Nat}{o:(Bool×Int)}(h:qu rec4 m a0 a1 v3 v4=some o) :
 LWp Tryz.prog Yn 3 (.loop z5b) (xa 0 (Ya Tryz.prog Yn 3 z0n (z5e a0 a1 a2 o))) [(1,i6 a1),(2,.ptr (0,0) 0 0),(23,.isl 5 (a0.fE.map ze) false),(24,i6 ((a0.fE.map ze).length:Int)),(25,i6 v4)] [((0,0),.one [i6 v3])] 3:=
 ww (m:=m) (s:=((v3,v4):(Int×Int))) (r:=o) (fun(s:(Int×Int))=>yn rec4 m a0 a1 s.1 s.2) (Uq a0 a1) (z2u a0 a1) (z4u a0 a1 a2) (fun s o h=>za9 hrec4 h) h
noncomputable def jf(rec4:GJ→Int→Int→Option (Bool×Int))(m:Option Nat)(a0:GJ)(a1:Int)(a2:Int):Option (Bool×Int):=
 if((decide ((W (a2+1)) > 400)) || (decide (a1 > 20)))=true then
  some (false,(W (a2+1)))
 else
  qu rec4 m a0 a1 (W (a2+1)) 0
theorem zat{rec4:GJ→Int→Int→Option (Bool×Int)}(hrec4:Hr4 rec4){a0:GJ}{a1:Int}{a2:Int}{m:Option Nat}{o:Bool×Int}(h:jf rec4 m a0 a1 a2=some o):LWp Tryz.prog Yn 3 zd8 (z5e a0 a1 a2 o) (ye 0 [.agg (z6 a0),i6 a1,.ptr (0,0) 0 0]) [((0,0),.one [i6 a2])] 3:=by
 unfold jf at h
 refine zc (zh ?_)
 refine zc (zh ?_)
 refine LWp.sim (e:=[(1,i6 a1),(2,.ptr (0,0) 0 0),(3,.ptr (3,0) 0 0)]) (L:=[((0,0),.one [i6 (W (a2+1))]),((3,0),.one (z6 a0))]) (n:=4) ?_ ?_
 ·exact qq (M:=[((3,0),(3,0))]) rfl (AI (VS rfl) (SP rfl (SP rfl TT))) (AI (AI rfl (OL rfl)) (AI (AI rfl (OL rfl)) TT))
 refine zc ?_
 refine zc (zh ?_)
 refine AI (fun hp=>hp) ?_
 refine AI (fun hc=>(bqf hc)) ?_
 refine LWp.sim (e:=[(1,i6 a1),(2,.ptr (0,0) 0 0),(3,.ptr (3,0) 0 0),(21,.bool ((decide ((W (a2+1)) > 400)) || (decide (a1 > 20))))]) (L:=[((0,0),.one [i6 (W (a2+1))]),((3,0),.one (z6 a0))]) (n:=4) ?_ ?_
 ·exact qq (M:=[((3,0),(3,0))]) rfl (AI (VS rfl) (SP rfl (SP rfl (AI (VS rfl) TT)))) (AI (AI rfl (OL rfl)) (AI (AI rfl (OL rfl)) TT))
 refine yp (v:=((decide ((W (a2+1)) > 400)) || (decide (a1 > 20)))) rfl TT (fun h1=>?_) (fun h1=>?_)
 ·have h:=zj h1 h
  refine zc (zh ?_)
  refine wo ?_
  cases h
  exact AI TT (Km (n':=4) [] [] rfl rfl (VS rfl) (AI (AI rfl (OL rfl)) TT))
 ·have h:=zo h1 h
  refine xr ?_
  refine zc ?_
  refine zc (zh ?_)
  refine jj ?_
  refine LWp.sim ?_ (zcq hrec4 h)
  exact qq (M:=[]) rfl (AI (VS rfl) (SP rfl (S2 rfl rfl (AI (VS rfl) TT)))) (AI (AI rfl (OL rfl)) TT)
theorem zr2{rec4:GJ→Int→Int→Option (Bool×Int)}(hrec4:Hr4 rec4){a0:GJ}{a1:Int}{a2:Int}{m:Option Nat}{o:Bool×Int}(h:jf rec4 m a0 a1 a2=some o):ACalls Tryz.prog 46 [.agg (z6 a0),i6 a1,.ptr (0,0) 0 0] [((0,0),.one [i6 a2])] 3 (kg 3 (.bool o.1) [((0,0),.one [i6 o.2])]):=Yw (L:=zjm) zig zod (NB rfl) (zat hrec4 h)
noncomputable def yw(m:Option Nat):Nat→GJ→Int→Int→Option (Bool×Int)
 |0=>fun _ _ _=>none
 |k+1=>jf (yw m k) m
noncomputable def vi(m:Option Nat)(a0:GJ)(a1:Int)(a2:Int):Option (Bool×Int):=zp7 m (fun k=>yw m k a0 a1 a2)
theorem z9u{m:Option Nat}:∀ (k:Nat) {a0:GJ} {a1:Int} {a2:Int} {o:Bool×Int},yw m k a0 a1 a2=some o→ACalls Tryz.prog 46 [.agg (z6 a0),i6 a1,.ptr (0,0) 0 0] [((0,0),.one [i6 a2])] 3 (kg 3 (.bool o.1) [((0,0),.one [i6 o.2])])
 |0,_,_,_,_,h=>nomatch h
 |k+1,_,_,_,_,h=>zr2 (fun h=>z9u k h) h
theorem zos{a0:GJ}{a1:Int}{a2:Int}{m:Option Nat}{o:Bool×Int}(h:vi m a0 a1 a2=some o):ACalls Tryz.prog 46 [.agg (z6 a0),i6 a1,.ptr (0,0) 0 0] [((0,0),.one [i6 a2])] 3 (kg 3 (.bool o.1) [((0,0),.one [i6 o.2])]):=(X9 h).elim fun k h=>z9u k h
def zo5:LCode:=(.seq (.region [Qo 10 (.bin .lss (.t 9) (.t 8))])
 (.seq (.cond (.t 10)
  .skip
  (.exit 0))
 (.seq (.block 1
  (.seq (.region [Qo 11 (.iaddr 1 (.t 7) (.t 9)),
   Ql 12 1 11,
   Qm 5 12])
  (.seq (.seq (.region [Qm 13 3,
   Qm 14 5,
   Qo 15 (.mlook [.str] false false false [(i6 0)] (.t 13) (.t 14)),
   Qo 16 (.bin .neq (.t 15) (.c (i6 0)))])
  (.cond (.t 16)
   (.seq (.region [Qo 2 (.mv (.c (.bool true)))])
   .ret)
   .skip))
  (.region [Qm 17 3,
   Qm 18 5,
   ⟨none,.mset [.str] false false [(i6 0)] (.t 17) (.t 18) (.c (i6 1)),none⟩]))))
 (.region [Qo 19 (.bin .add (.t 9) (.c (i6 1))),
  Qm 9 19]))))
def zdy:LCode:=(.seq (.region [Qb 2])
 .ret)
def zs4:LCode:=(.seq (.region [Qb 2])
 (.seq (.region [Qo 6 (.mkmap none),
  Qm 3 6])
 (.seq (.seq (.region [Qm 7 0,
  Qo 8 (.len false (.t 7)),
  Qi 9 0])
 (.block 0
  (.loop
   zo5)))
 zdy)))
def Wt:Lay:=⟨20,[],false⟩
def zp3:List LRes:=[.t 2]
def zzj:LFn:=⟨1,Wt,zs4,zp3⟩
theorem zww:wb Tryz.prog [] 81=some zzj:=by kernel_rfl
theorem zws:uk Tryz.prog 81:=⟨_,Tryz.func81,rfl,rfl⟩
def zre(a0:List (List UInt8))(o:Bool):Exit→Env→AHeap→Nat→Prop:=Zz zp3 (jo (.bool o))
def z3u(a0:List (List UInt8))(s:(Int×(List ((List UInt8)×Int)))):Env:=[(3,.map (0,0)),(7,.isl 1 (a0.map za) false),(8,i6 ((a0.map za).length:Int)),(9,i6 s.1)]
def z8q(a0:List (List UInt8))(s:(Int×(List ((List UInt8)×Int)))):AHeap:=[((0,0),.amap (s.2.map (em Vi z8)))]
def zeh(a0:List (List UInt8))(o:Bool):Exit→Env→AHeap→Nat→Prop:=(xa 0 (Ya Tryz.prog Wt 0 zdy (zre a0 o)))
noncomputable def kh(m:Option Nat):Option Bool:=
 some false
noncomputable def qx(m:Option Nat)(a0:List (List UInt8))(v1:Int)(v2:List ((List UInt8)×Int)):Option ((Int×(List ((List UInt8)×Int))) ⊕ Bool):=
 if(decide (v1<((a0.map za).length:Int)))=true then
  if(0:Int)≤v1∧v1<((a0.map za).length:Int) then
  if(((lk Jm v2 (a0.getD v1.toNat default)).getD 0) != 0)=true then
   Option.map Sum.inr (
    some true)
  else
   some (.inl ((W (v1+1)),(mp Jm v2 (a0.getD v1.toNat default) 1)))
  else none
 else
  Option.map Sum.inr (
   kh m)
noncomputable def jr(m:Option Nat)(a0:List (List UInt8))(v1:Int)(v2:List ((List UInt8)×Int)):Option Bool:=Y1 m (fun(s:(Int×(List ((List UInt8)×Int))))=>qx m a0 s.1 s.2) (v1,v2)
theorem znk{a0:List (List UInt8)}{m:Option Nat}{o:Bool}(h:kh m=some o) :
 LWp Tryz.prog Wt 0 zdy (zre a0 o) [] [] 0:=by
 unfold kh at h
 refine zc (zh ?_)
 refine wo ?_
 cases h
 exact AI TT (AI rfl (VS rfl))
theorem zfs{a0:List (List UInt8)}{v1:Int}{v2:List ((List UInt8)×Int)}{m:Option Nat}{o:(Int×(List ((List UInt8)×Int))) ⊕ Bool}(h:qx m a0 v1 v2=some o) :
 LWp Tryz.prog Wt 0 zo5 (Z2 0 1 (z3u a0) (z8q a0) (zeh a0) o) [(3,.map (0,0)),(7,.isl 1 (a0.map za) false),(8,i6 ((a0.map za).length:Int)),(9,i6 v1)] [((0,0),.amap (v2.map (em Vi z8)))] 1:=by
 unfold qx at h
 refine zc (zh ?_)
 refine zc ?_
 refine yp (v:=(decide (v1<((a0.map za).length:Int)))) rfl TT (fun h7=>?_) (fun h7=>?_)
 ·have h:=zj h7 h
  refine xr ?_
  refine zc ?_
  refine jj ?_
  refine zc (zh ?_)
  obtain⟨h8,h⟩:=qv h
  refine AI h8 ?_
  refine EX (za (a0.getD v1.toNat default)) (AI (um za _ _ (u5 za h8)) (AI (AI (Ze h8) (NB rfl)) ?_))
  refine zc ?_
  refine zc (zh ?_)
  refine EX (i6 ((lk Jm v2 (a0.getD v1.toNat default)).getD 0)) (AI (y0t (ek:=Vi) (ev:=z8) (z:=0) z5s rfl (a0.getD v1.toNat default) v2) (AI (U4 (ek:=Vi) (ev:=z8) z5s _ _) ?_))
  refine LWp.sim (e:=[(3,.map (0,0)),(5,.str (a0.getD v1.toNat default)),(7,.isl 1 (a0.map za) false),(8,i6 ((a0.map za).length:Int)),(9,i6 v1),(16,.bool (((lk Jm v2 (a0.getD v1.toNat default)).getD 0) != 0))]) (L:=[((0,0),.amap (v2.map (em Vi z8)))]) (n:=1) ?_ ?_
  ·exact qq (M:=[((0,0),(0,0))]) rfl (AI (Vw.map _ _ rfl) (S4 rfl rfl rfl rfl (AI (VS rfl) TT))) (AI (AI rfl (BVw.ofMap Vi z8 zb v2)) TT)
  refine yp (v:=(((lk Jm v2 (a0.getD v1.toNat default)).getD 0) != 0)) rfl TT (fun h9=>?_) (fun h9=>?_)
  ·have h:=zj h9 h
   refine zc (zh ?_)
   refine wo ?_
   obtain⟨o,hq,rfl⟩:=Option.map_eq_some_iff.1 h
   replace h:=hq;clear hq
   refine AI nofun ?_
   cases h
   exact AI TT (AI rfl (VS rfl))
  ·have h:=zo h9 h
   refine xr ?_
   refine zh ?_
   refine EX ((mp Jm v2 (a0.getD v1.toNat default) 1).map (em Vi z8)) (AI (z0r (ek:=Vi) (ev:=z8) z5s (a0.getD v1.toNat default) 1 v2) ?_)
   refine zh ?_
   cases h
   exact AI rfl (qq (M:=[((0,0),(0,0))]) rfl (AI (Vw.map _ _ rfl) (S2 rfl rfl (AI (VS rfl) TT))) (AI (AI rfl (BVw.ofMap Vi z8 zb (mp Jm v2 (a0.getD v1.toNat default) 1))) TT))
 ·have h:=zo h7 h
  refine Jr ?_
  obtain⟨o,hq,rfl⟩:=Option.map_eq_some_iff.1 h
  replace h:=hq;clear hq
  refine AI nofun ?_
  refine LWp.sim ?_ (znk h)
  exact qq (M:=[]) rfl TT TT
theorem zir{a0:List (List UInt8)}{v1:Int}{v2:List ((List UInt8)×Int)}{m:Option Nat}{o:Bool}(h:jr m a0 v1 v2=some o) :
 LWp Tryz.prog Wt 0 (.loop zo5) (xa 0 (Ya Tryz.prog Wt 0 zdy (zre a0 o))) [(3,.map (0,0)),(7,.isl 1 (a0.map za) false),(8,i6 ((a0.map za).length:Int)),(9,i6 v1)] [((0,0),.amap (v2.map (em Vi z8)))] 1:=
 ww (m:=m) (s:=((v1,v2):(Int×(List ((List UInt8)×Int))))) (r:=o) (fun(s:(Int×(List ((List UInt8)×Int))))=>qx m a0 s.1 s.2) (z3u a0) (z8q a0) (zeh a0) (fun s o h=>zfs h) h
noncomputable def wg(m:Option Nat)(a0:List (List UInt8)):Option Bool:=
 jr m a0 0 ([]:List ((List UInt8)×Int))
theorem znh{a0:List (List UInt8)}{m:Option Nat}{o:Bool}(h:wg m a0=some o):LWp Tryz.prog Wt 0 zs4 (zre a0 o) (ye 0 [.isl 1 (a0.map za) false]) [] 0:=by
 unfold wg at h
 refine zc (zh ?_)
 refine zc (zh ?_)
 refine zc ?_
 refine zc (zh ?_)
 refine jj ?_
 refine LWp.sim ?_ (zir h)
 exact qq (M:=[((0,0),(0,0))]) rfl (AI (Vw.map _ _ rfl) (S2 rfl rfl (AI (VS rfl) TT))) (AI (AI rfl (BVw.ofMap Vi z8 zb ([]:List ((List UInt8)×Int)))) TT)
theorem zzt{a0:List (List UInt8)}{m:Option Nat}{o:Bool}(h:wg m a0=some o):PFn Tryz.prog 81 [.isl 1 (a0.map za) false] (.bool o):=PFn.ofFnW (L:=zzj) zww zws (NB rfl) rfl (znh h)
def zem:LCode:=(.seq (.region [Qb 2])
 (.seq (.region [Qm 3 0,
  Qc 4 80 3,
  Qo 5 (.un .not (.t 4)),
  Qm 2 5])
 .ret))
def z6s:Lay:=⟨6,[],false⟩
def z9w:List LRes:=[.t 2]
def zl6:LFn:=⟨1,z6s,zem,z9w⟩
theorem zj6:wb Tryz.prog [] 83=some zl6:=by kernel_rfl
theorem zjo:uk Tryz.prog 83:=⟨_,Tryz.func83,rfl,rfl⟩
noncomputable def qe(m:Option Nat)(a0:List UInt8):Option Bool:=
 (we m a0).bind fun v1=>
 some (!v1)
def zux(a0:List UInt8)(o:Bool):Exit→Env→AHeap→Nat→Prop:=Zz z9w (Xx 3 4 (.bool o) [])
theorem zcs{a0:List UInt8}{m:Option Nat}{o:Bool}(h:qe m a0=some o):LWp Tryz.prog z6s 3 zem (zux a0 o) (ye 0 [.str a0]) [] 3:=by
 unfold qe at h
 refine zc (zh ?_)
 refine zc (zh ?_)
 obtain⟨v1,h1,h⟩:=bind_some h
 refine PFn.call (zhq h1) (AI (VS rfl) TT) ?_
 refine wo ?_
 cases h
 exact AI TT (Km (n':=3) [] [] rfl rfl (VS rfl) TT)
theorem zqi{a0:List UInt8}{m:Option Nat}{o:Bool}(h:qe m a0=some o):ACalls Tryz.prog 83 [.str a0] [] 3 (kg 4 (.bool o) []):=Yw (L:=zl6) zj6 zjo (NB rfl) (zcs h)
def z6j:LCode:=(.seq (.region [Qo 9 (.bin .lss (.t 8) (.t 7))])
 (.seq (.cond (.t 9)
  .skip
  (.exit 0))
 (.seq (.block 1
  (.seq (.region [Qm 10 8,
   Qm 5 10])
  (.seq (.region [Qm 11 1,
   Qm 12 0,
   Qm 13 5,
   Qo 14 (.iaddr 1 (.t 12) (.t 13)),
   Ql 15 1 14,
   Qo 16 (.callv (.t 11) [(.t 15)])])
  (.cond (.t 16)
   (.seq (.region [Qm 17 5,
    Qm 4 17])
   .ret)
   .skip))))
 (.region [Qo 18 (.bin .add (.t 8) (.c (i6 1))),
  Qm 8 18]))))
def z0o:LCode:=(.seq (.region [Qo 4 (.mv (.c (i6 (-1))))])
 .ret)
def zek:LCode:=(.seq (.region [Qi 4 0])
 (.seq (.seq (.region [Qm 6 0,
  Qo 7 (.len false (.t 6)),
  Qi 8 0])
 (.block 0
  (.loop
   z6j)))
 z0o))
def Q3:Lay:=⟨19,[],false⟩
def z8j:List LRes:=[.t 4]
def zky:LFn:=⟨2,Q3,zek,z8j⟩
theorem zk7:wb Tryz.prog [] 95=some zky:=by kernel_rfl
theorem zm9:uk Tryz.prog 95:=⟨_,Tryz.func95,rfl,rfl⟩
def z6g{σ:Type}(Hc:σ→AHeap)(fi0:Fn)(ff0 fc0:List AVal)(a0:List (List UInt8))(z0:σ)(o:Int×σ):Exit→Env→AHeap→Nat→Prop:=Zz z8j (Xx 3 4 (i6 o.1) ([]++up 3 (Hc o.2)))
def Ui{σ:Type}(Hc:σ→AHeap)(fi0:Fn)(ff0 fc0:List AVal)(a0:List (List UInt8))(s:(Int×σ)):Env:=[(0,.isl 1 (a0.map za) false),(1,.fn fi0 ff0 fc0),(7,i6 ((a0.map za).length:Int)),(8,i6 s.1)]
def z2l{σ:Type}(Hc:σ→AHeap)(fi0:Fn)(ff0 fc0:List AVal)(a0:List (List UInt8))(s:(Int×σ)):AHeap:=([]++up 3 (Hc s.2))
def z3s{σ:Type}(Hc:σ→AHeap)(fi0:Fn)(ff0 fc0:List AVal)(a0:List (List UInt8))(z0:σ)(o:(Int×σ)):Exit→Env→AHeap→Nat→Prop:=(xa 0 (Ya Tryz.prog Q3 3 z0o (z6g Hc fi0 ff0 fc0 a0 z0 o)))
noncomputable def vu{σ:Type}(g0:σ→(List UInt8)→Option (Bool×σ))(m:Option Nat)(v3:σ):Option (Int×σ):=
 some ((-1),v3)
noncomputable def qc{σ:Type}(g0:σ→(List UInt8)→Option (Bool×σ))(m:Option Nat)(a0:List (List UInt8))(v2:Int)(v3:σ):Option ((Int×σ) ⊕ (Int×σ)):=
 if(decide (v2<((a0.map za).length:Int)))=true then
  if(0:Int)≤v2∧v2<((a0.map za).length:Int) then
  (g0 v3 (a0.getD v2.toNat default)).bind fun v5=>
  if v5.1=true then
   Option.map Sum.inr (
    some (v2,v5.2))
  else
   some (.inl ((W (v2+1)),v5.2))
  else none
 else
  Option.map Sum.inr (
   vu g0 m v3)
noncomputable def jd{σ:Type}(g0:σ→(List UInt8)→Option (Bool×σ))(m:Option Nat)(a0:List (List UInt8))(v2:Int)(v3:σ):Option (Int×σ):=Y1 m (fun(s:(Int×σ))=>qc g0 m a0 s.1 s.2) (v2,v3)
theorem zcm{σ:Type}{Hc:σ→AHeap}{fi0:Fn}{ff0 fc0:List AVal}{g0:σ→(List UInt8)→Option (Bool×σ)}(hg0:Clo Tryz.prog fi0 ff0 fc0 Hc (fun(x:(List UInt8))=>[.str x]) (fun(b:Bool)=>.bool b) g0){a0:List (List UInt8)}{z0:σ}{v3:σ}{m:Option Nat}{o:(Int×σ)}(h:vu g0 m v3=some o) :
 LWp Tryz.prog Q3 3 z0o (z6g Hc fi0 ff0 fc0 a0 z0 o) [] ([]++up 3 (Hc v3)) 4:=by
 unfold vu at h
 refine zc (zh ?_)
 refine wo ?_
 cases h
 exact AI TT (y2d (n':=4) (q:=3) (lit':=[]) (hg0.tl _) [] [] rfl rfl (VS rfl) TT)
theorem z95{σ:Type}{Hc:σ→AHeap}{fi0:Fn}{ff0 fc0:List AVal}{g0:σ→(List UInt8)→Option (Bool×σ)}(hg0:Clo Tryz.prog fi0 ff0 fc0 Hc (fun(x:(List UInt8))=>[.str x]) (fun(b:Bool)=>.bool b) g0){z0:σ}{a0:List (List UInt8)}{v2:Int}{v3:σ}{m:Option Nat}{o:(Int×σ) ⊕ (Int×σ)}(h:qc g0 m a0 v2 v3=some o) :
 LWp Tryz.prog Q3 3 z6j (Z2 3 4 (Ui Hc fi0 ff0 fc0 a0) (z2l Hc fi0 ff0 fc0 a0) (z3s Hc fi0 ff0 fc0 a0 z0) o) [(0,.isl 1 (a0.map za) false),(1,.fn fi0 ff0 fc0),(7,i6 ((a0.map za).length:Int)),(8,i6 v2)] ([]++up 3 (Hc v3)) 4:=by
 unfold qc at h
 refine zc (zh ?_)
 refine zc ?_
 refine yp (v:=(decide (v2<((a0.map za).length:Int)))) rfl TT (fun h9=>?_) (fun h9=>?_)
 ·have h:=zj h9 h
  refine xr ?_
  refine zc ?_
  refine jj ?_
  refine zc (zh ?_)
  refine zc (zh ?_)
  obtain⟨h10,h⟩:=qv h
  refine AI h10 ?_
  refine EX (za (a0.getD v2.toNat default)) (AI (um za _ _ (u5 za h10)) (AI (AI (Ze h10) (NB rfl)) ?_))
  obtain⟨v5,h11,h⟩:=bind_some h
  refine Clo.use (q:=3) (lit:=[]) hg0 h11 rfl rfl (AI (VS rfl) TT) ?_
  refine LWp.sim (e:=[(0,.isl 1 (a0.map za) false),(1,.fn fi0 ff0 fc0),(5,i6 v2),(7,i6 ((a0.map za).length:Int)),(8,i6 v2),(16,.bool v5.1)]) (L:=([]++up 3 (Hc v5.2))) (n:=4) ?_ ?_
  ·exact y1l (M:=[]) (lit':=[]) (hg0.tl _) rfl (AI (VS rfl) (AI (Vw.clo hg0.hf hg0.hc (by decide) (z9k (Wo (n:=4) (q:=4) (lit':=[]) rfl))) (S4 rfl rfl rfl rfl TT))) TT
  refine yp (v:=v5.1) rfl TT (fun h12=>?_) (fun h12=>?_)
  ·have h:=zj h12 h
   refine zc (zh ?_)
   refine wo ?_
   obtain⟨o,hq,rfl⟩:=Option.map_eq_some_iff.1 h
   replace h:=hq;clear hq
   refine AI nofun ?_
   cases h
   exact AI TT (y2d (n':=4) (q:=3) (lit':=[]) (hg0.tl _) [] [] rfl rfl (VS rfl) TT)
  ·have h:=zo h12 h
   refine xr ?_
   refine zh ?_
   cases h
   exact AI rfl (y1l (M:=[]) (lit':=[]) (hg0.tl _) rfl (AI (VS rfl) (AI (Vw.clo hg0.hf hg0.hc (by decide) (z9k (Wo (n:=4) (q:=3) (lit':=[]) rfl))) (S2 rfl rfl TT))) TT)
 ·have h:=zo h9 h
  refine Jr ?_
  obtain⟨o,hq,rfl⟩:=Option.map_eq_some_iff.1 h
  replace h:=hq;clear hq
  refine AI nofun ?_
  refine LWp.sim ?_ (zcm hg0 h)
  exact y1l (M:=[]) (lit':=[]) (hg0.tl _) rfl TT TT
theorem zcc{σ:Type}{Hc:σ→AHeap}{fi0:Fn}{ff0 fc0:List AVal}{g0:σ→(List UInt8)→Option (Bool×σ)}(hg0:Clo Tryz.prog fi0 ff0 fc0 Hc (fun(x:(List UInt8))=>[.str x]) (fun(b:Bool)=>.bool b) g0){z0:σ}{a0:List (List UInt8)}{v2:Int}{v3:σ}{m:Option Nat}{o:(Int×σ)}(h:jd g0 m a0 v2 v3=some o) :
 LWp Tryz.prog Q3 3 (.loop z6j) (xa 0 (Ya Tryz.prog Q3 3 z0o (z6g Hc fi0 ff0 fc0 a0 z0 o))) [(0,.isl 1 (a0.map za) false),(1,.fn fi0 ff0 fc0),(7,i6 ((a0.map za).length:Int)),(8,i6 v2)] ([]++up 3 (Hc v3)) 4:=
 ww (m:=m) (s:=((v2,v3):(Int×σ))) (r:=o) (fun(s:(Int×σ))=>qc g0 m a0 s.1 s.2) (Ui Hc fi0 ff0 fc0 a0) (z2l Hc fi0 ff0 fc0 a0) (z3s Hc fi0 ff0 fc0 a0 z0) (fun s o h=>z95 hg0 h) h
noncomputable def jx{σ:Type}(g0:σ→(List UInt8)→Option (Bool×σ))(m:Option Nat)(a0:List (List UInt8))(z0:σ):Option (Int×σ):=
 jd g0 m a0 0 z0
theorem zao{σ:Type}{Hc:σ→AHeap}{fi0:Fn}{ff0 fc0:List AVal}{g0:σ→(List UInt8)→Option (Bool×σ)}(hg0:Clo Tryz.prog fi0 ff0 fc0 Hc (fun(x:(List UInt8))=>[.str x]) (fun(b:Bool)=>.bool b) g0){a0:List (List UInt8)}{z0:σ}{m:Option Nat}{o:Int×σ}(h:jx g0 m a0 z0=some o):LWp Tryz.prog Q3 3 zek (z6g Hc fi0 ff0 fc0 a0 z0 o) (ye 0 [.isl 1 (a0.map za) false,.fn fi0 ff0 fc0]) ([]++Hc z0) 3:=by
 unfold jx at h
 refine LWp.sim (e:=[(0,.isl 1 (a0.map za) false),(1,.fn fi0 ff0 fc0)]) (L:=([]++up 3 (Hc z0))) (n:=4) (zt4 (T:=Hc z0) (e':=ye 0 [.isl 1 (a0.map za) false,.fn fi0 ff0 fc0]) (e:=[(0,.isl 1 (a0.map za) false),(1,.fn fi0 ff0 fc0)]) (lit':=[]) (lit:=[]) (hg0.tl z0) rfl rfl (AI (VS rfl) (AI (Vw.clo hg0.hf hg0.hc (by decide) (zss _)) TT)) TT) ?_
 refine zc (zh ?_)
 refine zc ?_
 refine zc (zh ?_)
 refine jj ?_
 refine LWp.sim ?_ (zcc hg0 h)
 exact y1l (M:=[]) (lit':=[]) (hg0.tl _) rfl (AI (VS rfl) (AI (Vw.clo hg0.hf hg0.hc (by decide) (z9k (Wo (n:=4) (q:=3) (lit':=[]) rfl))) (S2 rfl rfl TT))) TT
theorem zr9{σ:Type}{Hc:σ→AHeap}{fi0:Fn}{ff0 fc0:List AVal}{g0:σ→(List UInt8)→Option (Bool×σ)}(hg0:Clo Tryz.prog fi0 ff0 fc0 Hc (fun(x:(List UInt8))=>[.str x]) (fun(b:Bool)=>.bool b) g0){a0:List (List UInt8)}{z0:σ}{m:Option Nat}{o:Int×σ}(h:jx g0 m a0 z0=some o):ACalls Tryz.prog 95 [.isl 1 (a0.map za) false,.fn fi0 ff0 fc0] ([]++Hc z0) 3 (kg 4 (i6 o.1) ([]++up 3 (Hc o.2))):=Yw (L:=zky) zk7 zm9 (NB rfl) (zao hg0 h)
def zdi:LCode:=(.seq (.region [Qb 4])
 (.seq (.region [Qm 5 0,
  Qm 6 1,
  Qo 7 (.call 95 [(.t 5),(.t 6)]),
  Qo 8 (.bin .geq (.t 7) (.c (i6 0))),
  Qm 4 8])
 .ret))
def z9l:Lay:=⟨9,[],false⟩
def z6q:List LRes:=[.t 4]
def ziv:LFn:=⟨2,z9l,zdi,z6q⟩
theorem znd:wb Tryz.prog [] 82=some ziv:=by kernel_rfl
theorem zlv:uk Tryz.prog 82:=⟨_,Tryz.func82,rfl,rfl⟩
noncomputable def x9{σ:Type}(g0:σ→(List UInt8)→Option (Bool×σ))(m:Option Nat)(a0:List (List UInt8))(z0:σ):Option (Bool×σ):=
 (jx g0 m a0 z0).bind fun v1=>
 some ((decide (v1.1≥0)),v1.2)
def zvl{σ:Type}(Hc:σ→AHeap)(fi0:Fn)(ff0 fc0:List AVal)(a0:List (List UInt8))(z0:σ)(o:Bool×σ):Exit→Env→AHeap→Nat→Prop:=Zz z6q (Xx 3 4 (.bool o.1) ([]++up 3 (Hc o.2)))
theorem zcj{σ:Type}{Hc:σ→AHeap}{fi0:Fn}{ff0 fc0:List AVal}{g0:σ→(List UInt8)→Option (Bool×σ)}(hg0:Clo Tryz.prog fi0 ff0 fc0 Hc (fun(x:(List UInt8))=>[.str x]) (fun(b:Bool)=>.bool b) g0){a0:List (List UInt8)}{z0:σ}{m:Option Nat}{o:Bool×σ}(h:x9 g0 m a0 z0=some o):LWp Tryz.prog z9l 3 zdi (zvl Hc fi0 ff0 fc0 a0 z0 o) (ye 0 [.isl 1 (a0.map za) false,.fn fi0 ff0 fc0]) ([]++Hc z0) 3:=by
 unfold x9 at h
 refine LWp.sim (e:=[(0,.isl 1 (a0.map za) false),(1,.fn fi0 ff0 fc0)]) (L:=([]++up 3 (Hc z0))) (n:=4) (zt4 (T:=Hc z0) (e':=ye 0 [.isl 1 (a0.map za) false,.fn fi0 ff0 fc0]) (e:=[(0,.isl 1 (a0.map za) false),(1,.fn fi0 ff0 fc0)]) (lit':=[]) (lit:=[]) (hg0.tl z0) rfl rfl (AI (VS rfl) (AI (Vw.clo hg0.hf hg0.hc (by decide) (zss _)) TT)) TT) ?_
 refine zc (zh ?_)
 refine zc (zh ?_)
 obtain⟨v1,h1,h⟩:=bind_some h
 refine ztl (m:=1) (q:=3) (lit0:=[]) (lit:=[]) (L:=[]) (L':=[]) (rest:=[]) (R':=i6 v1.1) (hg0.tl _) (hg0.tl _) [] (zr9 hg0 h1) rfl rfl rfl rfl rfl rfl (AI (VS rfl) (AI (Vw.clo hg0.hf hg0.hc (by decide) (zc8 _ _)) TT)) TT (wv _ rfl) TT rfl ?_
 refine wo ?_
 cases h
 exact AI TT (y2d (n':=6) (q:=4) (lit':=[]) (hg0.tl _) [] [] rfl rfl (VS rfl) TT)
theorem zs0{σ:Type}{Hc:σ→AHeap}{fi0:Fn}{ff0 fc0:List AVal}{g0:σ→(List UInt8)→Option (Bool×σ)}(hg0:Clo Tryz.prog fi0 ff0 fc0 Hc (fun(x:(List UInt8))=>[.str x]) (fun(b:Bool)=>.bool b) g0){a0:List (List UInt8)}{z0:σ}{m:Option Nat}{o:Bool×σ}(h:x9 g0 m a0 z0=some o):ACalls Tryz.prog 82 [.isl 1 (a0.map za) false,.fn fi0 ff0 fc0] ([]++Hc z0) 3 (kg 4 (.bool o.1) ([]++up 3 (Hc o.2))):=Yw (L:=ziv) znd zlv (NB rfl) (zcj hg0 h)
def zt6:LCode:=(.seq (.block 1
 (.seq (.region [Qf 12 1 1,
  Ql 13 1 12,
  Qm 14 3,
  Qo 15 (.bin .lss (.t 13) (.t 14)),
  Qm 16 15,
  Qe 17 1 1 (16,false),
  Qk 18 1 17 (16,false),
  Qn 19 4 (16,false),
  Qg 20 (.bin .gtr (.t 18) (.t 19)) (16,false),
  Qo 21 (.pick (.t 16) (.c (.bool true)) (.t 20)),
  Qm 11 21])
 (.cond (.t 11)
  (.seq (.region [Qb 2])
  .ret)
  (.seq (.region [Qf 23 2 1,
   Ql 24 1 23,
   Qo 25 (.bin .neq (.t 24) (.c (.str []))),
   Qm 26 25,
   Qe 27 0 1 (26,true),
   Qk 28 1 27 (26,true),
   Qg 29 (.bin .neq (.t 28) (.c (i6 3))) (26,true),
   Qp 30 26 29,
   Qm 22 30])
  (.cond (.t 22)
   (.seq (.region [Qb 2])
   .ret)
   (.seq (.region [Qf 32 4 1,
    Ql 33 1 32,
    Qo 34 (.len false (.t 33)),
    Qo 35 (.bin .gtr (.t 34) (.c (i6 0))),
    Qm 36 35,
    Qe 37 0 1 (36,true),
    Qk 38 1 37 (36,true),
    Qg 39 (.bin .neq (.t 38) (.c (i6 4))) (36,true),
    Qp 40 36 39,
    Qm 41 40,
    Qe 42 0 1 (41,true),
    Qk 43 1 42 (41,true),
    Qg 44 (.bin .neq (.t 43) (.c (i6 5))) (41,true),
    Qp 45 41 44,
    Qm 31 45])
   (.cond (.t 31)
    (.seq (.region [Qb 2])
    .ret)
    (.seq (.region [Qf 47 0 1,
     Ql 48 1 47,
     Qo 49 (.bin .eql (.t 48) (.c (i6 5))),
     Qm 50 49,
     Qe 51 3 1 (50,true),
     Qk 52 1 51 (50,true),
     Qg 53 (.len false (.t 52)) (50,true),
     Qe 54 4 1 (50,true),
     Qk 55 1 54 (50,true),
     Qg 56 (.len false (.t 55)) (50,true),
     Qg 57 (.bin .neq (.t 53) (.t 56)) (50,true),
     Qn 58 57 (50,true),
     Qe 59 3 1 (58,false),
     Qk 60 1 59 (58,false),
     Qg 61 (.call 81 [(.t 60)]) (58,false),
     Qg 62 (.pick (.t 58) (.c (.bool true)) (.t 61)) (50,true),
     Qp 63 50 62,
     Qm 46 63])
    (.cond (.t 46)
     (.seq (.region [Qb 2])
     .ret)
     (.seq (.region [Qf 65 0 1,
      Ql 66 1 65,
      Qo 67 (.bin .neq (.t 66) (.c (i6 5))),
      Qm 68 67,
      Qe 69 3 1 (68,true),
      Qk 70 1 69 (68,true),
      Qg 71 (.len false (.t 70)) (68,true),
      Qg 72 (.bin .gtr (.t 71) (.c (i6 0))) (68,true),
      Qp 73 68 72,
      Qm 64 73])
     (.cond (.t 64)
      (.seq (.region [Qb 2])
      .ret)
      .skip)))))))))))
 (.seq (.region [Qf 74 2 1,
  Ql 75 1 74,
  Qc 76 80 75,
  Qm 77 76,
  Qe 78 3 1 (77,true),
  Qk 79 1 78 (77,true),
  Qg 80 (.call 82 [(.t 79),(.c (.fn (.func 83) [] []))]) (77,true),
  Qg 81 (.un .not (.t 80)) (77,true),
  Qp 82 77 81,
  Qm 2 82])
 .ret))
def zsd:LCode:=(.seq (.region [Qo 1 (.box (.t 0)),
 Qb 2])
 (.seq (.region [Qi 3 0,
  Qi 4 0])
 (.seq (.seq (.region [Qf 5 0 1,
  Ql 6 1 5])
 (.block 0
  (.seq (.region [Qo 8 (.bin .eql (.t 6) (.c (i6 1))),
   Qm 7 8])
  (.cond (.t 7)
   (.region [Qi 4 1])
   (.seq (.region [Qo 10 (.bin .eql (.t 6) (.c (i6 2))),
    Qm 9 10])
   (.cond (.t 9)
    (.region [Qo 3 (.mv (.c (i6 (-9007199254740991)))),
     Qi 4 9007199254740991])
    .skip))))))
 zt6)))
def zak:Lay:=⟨83,[],false⟩
def zlb:List LRes:=[.t 2]
def y0k:LFn:=⟨1,zak,zsd,zlb⟩
theorem zx1:wb Tryz.prog [] 62=some y0k:=by kernel_rfl
theorem zxa:uk Tryz.prog 62:=⟨_,Tryz.func62,rfl,rfl⟩
noncomputable def xl(m:Option Nat)(a0:GJ)(v1:Int)(v2:Int):Option Bool:=
 if((decide (a0.fN<v1)) || (decide (a0.fN > v2)))=true then
  some false
 else
  if((!(a0.fT==([]:List UInt8)))&&(a0.fK != 3))=true then
   some false
  else
   if(((decide (((a0.fE.map ze).length:Int) > 0))&&(a0.fK != 4))&&(a0.fK != 5))=true then
    some false
   else
    (if(((a0.fK==5)==true)&&((((a0.fA.map za).length:Int) != ((a0.fE.map ze).length:Int))==false))=true then wg m a0.fA else some default).bind fun v3=>
    if((a0.fK==5)&&((((a0.fA.map za).length:Int) != ((a0.fE.map ze).length:Int)) || v3))=true then
     some false
    else
     if((a0.fK != 5)&&(decide (((a0.fA.map za).length:Int) > 0)))=true then
      some false
     else
      (we m a0.fT).bind fun v4=>
      (if(v4==true)=true then x9 (fun(s:Unit) (x:(List UInt8))=>(qe m x).map fun o=>(o,())) m a0.fA () else some default).bind fun v5=>
      some (v4&&(!v5.1))
def y10(a0:GJ)(o:Bool):Exit→Env→AHeap→Nat→Prop:=Zz zlb (jo (.bool o))
theorem z0u{a0:GJ}{v1:Int}{v2:Int}{m:Option Nat}{o:Bool}(h:xl m a0 v1 v2=some o) :
 LWp Tryz.prog zak 0 zt6 (y10 a0 o) [(1,.ptr (0,0) 0 0),(3,i6 v1),(4,i6 v2)] [((0,0),.one (z6 a0))] 1:=by
 unfold xl at h
 refine zc ?_
 refine jj ?_
 refine zc (zh ?_)
 refine AI (fun hp=>hp) ?_
 refine AI (fun hp=>(AI hp hp)) ?_
 refine AI (fun hc=>(bqf hc)) ?_
 refine LWp.sim (e:=[(1,.ptr (0,0) 0 0),(11,.bool ((decide (a0.fN<v1)) || (decide (a0.fN > v2))))]) (L:=[((0,0),.one (z6 a0))]) (n:=1) ?_ ?_
 ·exact qq (M:=[((0,0),(0,0))]) rfl (SP rfl (AI (VS rfl) TT)) (AI (AI rfl (OL rfl)) TT)
 refine yp (v:=((decide (a0.fN<v1)) || (decide (a0.fN > v2)))) rfl TT (fun h3=>?_) (fun h3=>?_)
 ·have h:=zj h3 h
  refine zc (zh ?_)
  refine wo ?_
  cases h
  exact AI TT (AI rfl (VS rfl))
 ·have h:=zo h3 h
  refine zc (zh ?_)
  refine AI (fun hp=>hp) ?_
  refine AI (fun hp=>hp) ?_
  refine AI (fun hc=>(bqt hc)) ?_
  refine LWp.sim (e:=[(1,.ptr (0,0) 0 0),(22,.bool ((!(a0.fT==([]:List UInt8)))&&(a0.fK != 3)))]) (L:=[((0,0),.one (z6 a0))]) (n:=1) ?_ ?_
  ·exact qq (M:=[((0,0),(0,0))]) rfl (SP rfl (AI (VS rfl) TT)) (AI (AI rfl (OL rfl)) TT)
  refine yp (v:=((!(a0.fT==([]:List UInt8)))&&(a0.fK != 3))) rfl TT (fun h4=>?_) (fun h4=>?_)
  ·have h:=zj h4 h
   refine zc (zh ?_)
   refine wo ?_
   cases h
   exact AI TT (AI rfl (VS rfl))
  ·have h:=zo h4 h
   refine zc (zh ?_)
   refine AI (fun hp=>hp) ?_
   refine AI (fun hp=>hp) ?_
   refine AI (fun hc=>(bqt hc)) ?_
   refine AI (fun hp=>hp) ?_
   refine AI (fun hp=>hp) ?_
   refine AI (fun hc=>(bqt hc)) ?_
   refine LWp.sim (e:=[(1,.ptr (0,0) 0 0),(31,.bool (((decide (((a0.fE.map ze).length:Int) > 0))&&(a0.fK != 4))&&(a0.fK != 5)))]) (L:=[((0,0),.one (z6 a0))]) (n:=1) ?_ ?_
   ·exact qq (M:=[((0,0),(0,0))]) rfl (SP rfl (AI (VS rfl) TT)) (AI (AI rfl (OL rfl)) TT)
   refine yp (v:=(((decide (((a0.fE.map ze).length:Int) > 0))&&(a0.fK != 4))&&(a0.fK != 5))) rfl TT (fun h5=>?_) (fun h5=>?_)
   ·have h:=zj h5 h
    refine zc (zh ?_)
    refine wo ?_
    cases h
    exact AI TT (AI rfl (VS rfl))
   ·have h:=zo h5 h
    refine zc (zh ?_)
    refine AI (fun hp=>hp) ?_
    refine AI (fun hp=>hp) ?_
    refine AI (fun hp=>hp) ?_
    refine AI (fun hp=>hp) ?_
    refine AI (fun hp=>(AI hp hp)) ?_
    refine AI (fun hp=>hp) ?_
    refine AI (fun hp=>hp) ?_
    obtain⟨v3,h6,h⟩:=bind_some h
    refine Or.inl (EX (.bool v3) (AI (fun hp=>AI hp (PFn.call (zzt (zj hp h6)) (AI (VS rfl) TT) (AI rfl (AI rfl rfl)))) ?_))
    refine AI (fun hp=>(AI hp (fun hc=>(z5z hp (bqf hc))))) ?_
    refine AI (fun hc=>(bqt hc)) ?_
    refine LWp.sim (e:=[(1,.ptr (0,0) 0 0),(46,.bool ((a0.fK==5)&&((((a0.fA.map za).length:Int) != ((a0.fE.map ze).length:Int)) || v3)))]) (L:=[((0,0),.one (z6 a0))]) (n:=1) ?_ ?_
    ·exact qq (M:=[((0,0),(0,0))]) rfl (SP rfl (AI (VS rfl) TT)) (AI (AI rfl (OL rfl)) TT)
    refine yp (v:=((a0.fK==5)&&((((a0.fA.map za).length:Int) != ((a0.fE.map ze).length:Int)) || v3))) rfl TT (fun h7=>?_) (fun h7=>?_)
    ·have h:=zj h7 h
     refine zc (zh ?_)
     refine wo ?_
     cases h
     exact AI TT (AI rfl (VS rfl))
    ·have h:=zo h7 h
     refine zc (zh ?_)
     refine AI (fun hp=>hp) ?_
     refine AI (fun hp=>hp) ?_
     refine AI (fun hp=>hp) ?_
     refine AI (fun hc=>(bqt hc)) ?_
     refine LWp.sim (e:=[(1,.ptr (0,0) 0 0),(64,.bool ((a0.fK != 5)&&(decide (((a0.fA.map za).length:Int) > 0))))]) (L:=[((0,0),.one (z6 a0))]) (n:=1) ?_ ?_
     ·exact qq (M:=[((0,0),(0,0))]) rfl (SP rfl (AI (VS rfl) TT)) (AI (AI rfl (OL rfl)) TT)
     refine yp (v:=((a0.fK != 5)&&(decide (((a0.fA.map za).length:Int) > 0)))) rfl TT (fun h8=>?_) (fun h8=>?_)
     ·have h:=zj h8 h
      refine zc (zh ?_)
      refine wo ?_
      cases h
      exact AI TT (AI rfl (VS rfl))
     ·have h:=zo h8 h
      refine xr ?_
      refine zc (zh ?_)
      obtain⟨v4,h9,h⟩:=bind_some h
      refine PFn.call (zhq h9) (AI (VS rfl) TT) ?_
      refine AI (fun hp=>hp) ?_
      obtain⟨v5,h10,h⟩:=bind_some h
      refine Or.inl (EX (.bool v5.1) (AI (fun hp=>AI hp (ACalls.same rfl (Q1 (k:=3) (m:=1) (L':=[]) (rest:=[((0,0),.one (z6 a0))]) (R':=.bool v5.1) [] (zs0 (show Clo Tryz.prog (.func 83) [] [] (fun(s:Unit)=>[]) (fun(x:(List UInt8))=>[.str x]) (fun(b:Bool)=>.bool b) (fun(s:Unit) (x:(List UInt8))=>(qe m x).map fun o=>(o,())) from Clo.mk' (fun s=>Tl.lit rfl TT rfl) rfl rfl (fun _=>rfl) (fun s x o h=>by obtain⟨o1,h1,rfl⟩:=Option.map_eq_some_iff.1 h;exact EX _ (AI (zqi h1) TT))) (zj hp h10)) rfl rfl rfl (S2 rfl rfl TT) TT (wv _ rfl) TT rfl (AI rfl (HeapTo.get (AI (AI rfl (OL rfl)) TT)))))) ?_))
      refine AI (fun hp=>hp) ?_
      refine AI (fun hc=>(bqt hc)) ?_
      refine LWp.sim (e:=[(2,.bool (v4&&(!v5.1)))]) (L:=[]) (n:=0) ?_ ?_
      ·exact qq (M:=[]) rfl (AI (VS rfl) TT) TT
      refine wo ?_
      cases h
      exact AI TT (AI rfl (VS rfl))
noncomputable def wi(m:Option Nat)(a0:GJ):Option Bool:=
 if(a0.fK==1)=true then
  xl m a0 0 1
 else
  if(a0.fK==2)=true then
   xl m a0 (-9007199254740991) 9007199254740991
  else
   xl m a0 0 0
theorem zj7{a0:GJ}{m:Option Nat}{o:Bool}(h:wi m a0=some o):LWp Tryz.prog zak 0 zsd (y10 a0 o) (ye 0 [.agg (z6 a0)]) [] 0:=by
 unfold wi at h
 refine zc (zh ?_)
 refine zc (zh ?_)
 refine zc ?_
 refine zc (zh ?_)
 refine jj ?_
 refine zc (zh ?_)
 refine LWp.sim (e:=[(1,.ptr (0,0) 0 0),(3,i6 0),(4,i6 0),(6,i6 a0.fK),(7,.bool (a0.fK==1))]) (L:=[((0,0),.one (z6 a0))]) (n:=1) ?_ ?_
 ·exact qq (M:=[((0,0),(0,0))]) rfl (SP rfl (S4 rfl rfl rfl rfl TT)) (AI (AI rfl (OL rfl)) TT)
 refine yp (v:=(a0.fK==1)) rfl TT (fun h1=>?_) (fun h1=>?_)
 ·have h:=zj h1 h
  refine zh ?_
  refine LWp.sim ?_ (z0u h)
  exact qq (M:=[((0,0),(0,0))]) rfl (SP rfl (S2 rfl rfl TT)) (AI (AI rfl (OL rfl)) TT)
 ·have h:=zo h1 h
  refine zc (zh ?_)
  refine yp (v:=(a0.fK==2)) rfl TT (fun h2=>?_) (fun h2=>?_)
  ·have h:=zj h2 h
   refine zh ?_
   refine LWp.sim ?_ (z0u h)
   exact qq (M:=[((0,0),(0,0))]) rfl (SP rfl (S2 rfl rfl TT)) (AI (AI rfl (OL rfl)) TT)
  ·have h:=zo h2 h
   refine xr ?_
   refine LWp.sim ?_ (z0u h)
   exact qq (M:=[((0,0),(0,0))]) rfl (SP rfl (S2 rfl rfl TT)) (AI (AI rfl (OL rfl)) TT)
theorem y03{a0:GJ}{m:Option Nat}{o:Bool}(h:wi m a0=some o):PFn Tryz.prog 62 [.agg (z6 a0)] (.bool o):=PFn.ofFnW (L:=y0k) zx1 zxa (NB rfl) rfl (zj7 h)
def z6m:LCode:=(.seq (.region [Qo 23 (.bin .lss (.t 22) (.t 21))])
 (.seq (.cond (.t 23)
  .skip
  (.exit 1))
 (.seq (.block 2
  (.seq (.region [Qo 24 (.iaddr 5 (.t 20) (.t 22)),
   Qt 25 5 24,
   Qo 4 (.alloc [(i6 0),(i6 0),(.str []),(.isl 1 [] true),(.isl 5 [] true)]),
   ⟨none,.store 5 (.t 4) (.t 25),none⟩])
  (.seq (.region [Qt 26 5 4,
   Qc 27 47 26,
   Qm 5 27])
  (.seq (.region [Qm 28 5,
   Qo 29 (.bin .neq (.t 28) (.c (i6 0)))])
  (.cond (.t 29)
   (.seq (.region [Qm 30 5,
    Qm 2 30])
   .ret)
   .skip)))))
 (.region [Qo 31 (.bin .add (.t 22) (.c (i6 1))),
  Qm 22 31]))))
def z0k:LCode:=(.seq (.region [Qi 2 0])
 .ret)
def zdz:LCode:=(.seq (.region [Qo 1 (.box (.t 0)),
 Qi 2 0])
 (.seq (.block 0
  (.seq (.region [Qf 7 0 1,
   Ql 8 1 7,
   Qo 9 (.bin .lss (.t 8) (.c (i6 0))),
   Qm 10 9,
   Qe 11 0 1 (10,false),
   Qk 12 1 11 (10,false),
   Qg 13 (.bin .geq (.t 12) (.c (i6 6))) (10,false),
   Qo 14 (.pick (.t 10) (.c (.bool true)) (.t 13)),
   Qm 6 14])
  (.cond (.t 6)
   (.seq (.region [Qi 2 7])
   .ret)
   (.seq (.region [Qt 16 5 1,
    Qc 17 62 16,
    Qo 18 (.un .not (.t 17)),
    Qm 15 18])
   (.cond (.t 15)
    (.seq (.region [Qi 2 3])
    .ret)
    .skip)))))
 (.seq (.seq (.region [Qf 19 4 1,
  Ql 20 1 19,
  Qo 21 (.len false (.t 20)),
  Qi 22 0])
 (.block 1
  (.loop
   z6m)))
 z0k)))
def Ys:Lay:=⟨32,[],false⟩
def z8z:List LRes:=[.t 2]
def zk3:LFn:=⟨1,Ys,zdz,z8z⟩
theorem zj2:wb Tryz.prog [] 47=some zk3:=by kernel_rfl
theorem zmy:uk Tryz.prog 47:=⟨_,Tryz.func47,rfl,rfl⟩
def z6p(a0:GJ)(o:Int):Exit→Env→AHeap→Nat→Prop:=Zz z8z (Xx 3 3 (i6 o) [])
def Uf(a0:GJ)(s:Int):Env:=[(20,.isl 5 (a0.fE.map ze) false),(21,i6 ((a0.fE.map ze).length:Int)),(22,i6 s)]
def z1q(a0:GJ)(s:Int):AHeap:=[]
def z3d(a0:GJ)(o:Int):Exit→Env→AHeap→Nat→Prop:=(xa 1 (Ya Tryz.prog Ys 3 z0k (z6p a0 o)))
noncomputable def kf(rec5:GJ→Option Int)(m:Option Nat):Option Int:=
 some 0
noncomputable def qw(rec5:GJ→Option Int)(m:Option Nat)(a0:GJ)(v4:Int):Option (Int ⊕ Int):=
 if(decide (v4<((a0.fE.map ze).length:Int)))=true then
  if(0:Int)≤v4∧v4<((a0.fE.map ze).length:Int) then
  ((Zo (a0.fE.getD v4.toNat default))).bind fun v7=>
  (rec5 v7).bind fun v8=>
  if(v8 != 0)=true then
   Option.map Sum.inr (
    some v8)
  else
   some (.inl (W (v4+1)))
  else none
 else
  Option.map Sum.inr (
   kf rec5 m)
noncomputable def xj(rec5:GJ→Option Int)(m:Option Nat)(a0:GJ)(v4:Int):Option Int:=Y1 m (fun(s:Int)=>qw rec5 m a0 s) v4
abbrev Hr5(rec5:GJ→Option Int):Prop:=∀ {a0:GJ} {o:Int},rec5 a0=some o→ACalls Tryz.prog 47 [.agg (z6 a0)] [] 3 (kg 3 (i6 o) [])
theorem zck{rec5:GJ→Option Int}(hrec5:Hr5 rec5){a0:GJ}{m:Option Nat}{o:Int}(h:kf rec5 m=some o) :
 LWp Tryz.prog Ys 3 z0k (z6p a0 o) [] [] 3:=by
 unfold kf at h
 refine zc (zh ?_)
 refine wo ?_
 cases h
 exact AI TT (Km (n':=3) [] [] rfl rfl (VS rfl) TT)
theorem z8x{rec5:GJ→Option Int}(hrec5:Hr5 rec5){a0:GJ}{v4:Int}{m:Option Nat}{o:Int ⊕ Int}(h:qw rec5 m a0 v4=some o) :
 LWp Tryz.prog Ys 3 z6m (Z2 3 3 (Uf a0) (z1q a0) (z3d a0) o) [(20,.isl 5 (a0.fE.map ze) false),(21,i6 ((a0.fE.map ze).length:Int)),(22,i6 v4)] [] 3:=by
 unfold qw at h
 refine zc (zh ?_)
 refine zc ?_
 refine yp (v:=(decide (v4<((a0.fE.map ze).length:Int)))) rfl TT (fun h14=>?_) (fun h14=>?_)
 ·have h:=zj h14 h
  refine xr ?_
  refine zc ?_
  refine jj ?_
  refine zc (zh ?_)
  obtain⟨h15,h⟩:=qv h
  refine AI h15 ?_
  obtain⟨v7,h16,h⟩:=bind_some h
  refine EX (z6 v7) (AI (u4 (u5 ze h15) h16) (AI (AI (Ze h15) (NB rfl)) ?_))
  refine zc (zh ?_)
  obtain⟨v8,h17,h⟩:=bind_some h
  refine Q1 (k:=3) (m:=0) (L':=[]) (rest:=[((3,0),.one (z6 v7))]) (R':=i6 v8) [] (hrec5 h17) rfl rfl rfl (AI (VS rfl) TT) TT (wv _ rfl) TT rfl ?_
  refine LWp.sim (e:=[(5,i6 v8),(20,.isl 5 (a0.fE.map ze) false),(21,i6 ((a0.fE.map ze).length:Int)),(22,i6 v4)]) (L:=[]) (n:=3) ?_ ?_
  ·exact qq (M:=[]) rfl (S4 rfl rfl rfl rfl TT) TT
  refine zc (zh ?_)
  refine yp (v:=(v8 != 0)) rfl TT (fun h18=>?_) (fun h18=>?_)
  ·have h:=zj h18 h
   refine zc (zh ?_)
   refine wo ?_
   obtain⟨o,hq,rfl⟩:=Option.map_eq_some_iff.1 h
   replace h:=hq;clear hq
   refine AI nofun ?_
   cases h
   exact AI TT (Km (n':=3) [] [] rfl rfl (VS rfl) TT)
  ·have h:=zo h18 h
   refine xr ?_
   refine zh ?_
   cases h
   exact AI rfl (qq (M:=[]) rfl (S2 rfl rfl (AI (VS rfl) TT)) TT)
 ·have h:=zo h14 h
  refine Jr ?_
  obtain⟨o,hq,rfl⟩:=Option.map_eq_some_iff.1 h
  replace h:=hq;clear hq
  refine AI nofun ?_
  refine LWp.sim ?_ (zck hrec5 h)
  exact qq (M:=[]) rfl TT TT
theorem zbo{rec5:GJ→Option Int}(hrec5:Hr5 rec5){a0:GJ}{v4:Int}{m:Option Nat}{o:Int}(h:xj rec5 m a0 v4=some o) :
 LWp Tryz.prog Ys 3 (.loop z6m) (xa 1 (Ya Tryz.prog Ys 3 z0k (z6p a0 o))) [(20,.isl 5 (a0.fE.map ze) false),(21,i6 ((a0.fE.map ze).length:Int)),(22,i6 v4)] [] 3:=
 ww (m:=m) (s:=(v4:Int)) (r:=o) (fun(s:Int)=>qw rec5 m a0 s) (Uf a0) (z1q a0) (z3d a0) (fun s o h=>z8x hrec5 h) h
noncomputable def qz(rec5:GJ→Option Int)(m:Option Nat)(a0:GJ):Option Int:=
 if((decide (a0.fK<0)) || (decide (a0.fK≥6)))=true then
  some 7
 else
  (wi m a0).bind fun v1=>
  if(!v1)=true then
   some 3
  else
   xj rec5 m a0 0
theorem zbz{rec5:GJ→Option Int}(hrec5:Hr5 rec5){a0:GJ}{m:Option Nat}{o:Int}(h:qz rec5 m a0=some o):LWp Tryz.prog Ys 3 zdz (z6p a0 o) (ye 0 [.agg (z6 a0)]) [] 3:=by
 unfold qz at h
 refine zc (zh ?_)
 refine zc ?_
 refine jj ?_
 refine zc (zh ?_)
 refine AI (fun hp=>hp) ?_
 refine AI (fun hp=>hp) ?_
 refine AI (fun hc=>(bqf hc)) ?_
 refine LWp.sim (e:=[(1,.ptr (3,0) 0 0),(6,.bool ((decide (a0.fK<0)) || (decide (a0.fK≥6))))]) (L:=[((3,0),.one (z6 a0))]) (n:=4) ?_ ?_
 ·exact qq (M:=[((3,0),(3,0))]) rfl (SP rfl (AI (VS rfl) TT)) (AI (AI rfl (OL rfl)) TT)
 refine yp (v:=((decide (a0.fK<0)) || (decide (a0.fK≥6)))) rfl TT (fun h1=>?_) (fun h1=>?_)
 ·have h:=zj h1 h
  refine zc (zh ?_)
  refine wo ?_
  cases h
  exact AI TT (Km (n':=4) [] [] rfl rfl (VS rfl) TT)
 ·have h:=zo h1 h
  refine zc (zh ?_)
  obtain⟨v1,h2,h⟩:=bind_some h
  refine PFn.call (y03 h2) (AI (VS rfl) TT) ?_
  refine yp (v:=(!v1)) rfl TT (fun h3=>?_) (fun h3=>?_)
  ·have h:=zj h3 h
   refine zc (zh ?_)
   refine wo ?_
   cases h
   exact AI TT (Km (n':=4) [] [] rfl rfl (VS rfl) TT)
  ·have h:=zo h3 h
   refine xr ?_
   refine zc ?_
   refine zc (zh ?_)
   refine LWp.sim (e:=[(20,.isl 5 (a0.fE.map ze) false),(21,i6 ((a0.fE.map ze).length:Int)),(22,i6 0)]) (L:=[]) (n:=3) ?_ ?_
   ·exact qq (M:=[]) rfl (S2 rfl rfl (AI (VS rfl) TT)) TT
   refine jj ?_
   refine LWp.sim ?_ (zbo hrec5 h)
   exact qq (M:=[]) rfl (S2 rfl rfl (AI (VS rfl) TT)) TT
theorem zfb{rec5:GJ→Option Int}(hrec5:Hr5 rec5){a0:GJ}{m:Option Nat}{o:Int}(h:qz rec5 m a0=some o):ACalls Tryz.prog 47 [.agg (z6 a0)] [] 3 (kg 3 (i6 o) []):=Yw (L:=zk3) zj2 zmy (NB rfl) (zbz hrec5 h)
noncomputable def xx(m:Option Nat):Nat→GJ→Option Int
 |0=>fun _=>none
 |k+1=>qz (xx m k) m
noncomputable def kr(m:Option Nat)(a0:GJ):Option Int:=zp7 m (fun k=>xx m k a0)
theorem z8d{m:Option Nat}:∀ (k:Nat) {a0:GJ} {o:Int},xx m k a0=some o→ACalls Tryz.prog 47 [.agg (z6 a0)] [] 3 (kg 3 (i6 o) [])
 |0,_,_,h=>nomatch h
 |k+1,_,_,h=>zfb (fun h=>z8d k h) h
theorem zn1{a0:GJ}{m:Option Nat}{o:Int}(h:kr m a0=some o):ACalls Tryz.prog 47 [.agg (z6 a0)] [] 3 (kg 3 (i6 o) []):=(X9 h).elim fun k h=>z8d k h
noncomputable def Zh(m:Option Nat)(a0:GJ):Option Int:=qz (kr m) m a0
theorem y09{a0:GJ}{m:Option Nat}{o:Int}(h:Zh m a0=some o):PFn Tryz.prog 47 [.agg (z6 a0)] (i6 o):=
 ⟨rfl,_,Q1 (k:=3) (m:=0) (L':=[]) (rest:=[]) (R':=i6 o) [] (zfb zn1 h) rfl rfl rfl (AI (VS rfl) TT) TT (wv _ rfl) TT rfl ⟨rfl,rfl,rfl⟩⟩
def ztw:LCode:=(.seq (.region [Qo 1 (.box (.t 0)),
 Qi 2 0])
 (.seq (.region [Qo 3 (.alloc [(i6 0)]),
  ⟨none,.store 1 (.t 3) (.c (i6 0)),none⟩])
 (.seq (.seq (.region [Qt 4 5 1,
  Qo 5 (.call 46 [(.t 4),(.c (i6 1)),(.t 3)]),
  Qo 6 (.un .not (.t 5))])
 (.cond (.t 6)
  (.seq (.region [Qi 2 2])
  .ret)
  .skip))
 (.seq (.region [Qt 7 5 1,
  Qc 8 47 7,
  Qm 2 8])
 .ret))))
def zo8:Lay:=⟨9,[],false⟩
def zlh:List LRes:=[.t 2]
def zz0:LFn:=⟨1,zo8,ztw,zlh⟩
theorem zv9:wb Tryz.prog [] 27=some zz0:=by kernel_rfl
theorem zxd:uk Tryz.prog 27:=⟨_,Tryz.func27,rfl,rfl⟩
noncomputable def ju(m:Option Nat)(a0:GJ):Option Int:=
 (vi m a0 1 0).bind fun v1=>
 if(!v1.1)=true then
  some 2
 else
  (Zh m a0).bind fun v2=>
  some v2
def y2g(a0:GJ)(o:Int):Exit→Env→AHeap→Nat→Prop:=Zz zlh (jo (i6 o))
theorem zjk{a0:GJ}{m:Option Nat}{o:Int}(h:ju m a0=some o):LWp Tryz.prog zo8 0 ztw (y2g a0 o) (ye 0 [.agg (z6 a0)]) [] 0:=by
 unfold ju at h
 refine zc (zh ?_)
 refine zc (zh ?_)
 refine zc ?_
 refine zc (zh ?_)
 obtain⟨v1,h1,h⟩:=bind_some h
 refine Q1 (k:=3) (m:=0) (L':=[((1,0),.one [i6 v1.2])]) (rest:=[((0,0),.one (z6 a0))]) (R':=.bool v1.1) [((0,0),(1,0))] (zos h1) rfl rfl rfl (S2 rfl rfl (SP rfl TT)) (AI (h0I (1,0) rfl rfl (OL rfl)) TT) (wv _ rfl) (AI rfl (AI rfl TT)) rfl ?_
 refine yp (v:=(!v1.1)) rfl TT (fun h2=>?_) (fun h2=>?_)
 ·have h:=zj h2 h
  refine zc (zh ?_)
  refine LWp.sim (e:=[(2,i6 2)]) (L:=[]) (n:=0) ?_ ?_
  ·exact qq (M:=[]) rfl (AI (VS rfl) TT) TT
  refine wo ?_
  cases h
  exact AI TT (AI rfl (VS rfl))
 ·have h:=zo h2 h
  refine xr ?_
  refine zc (zh ?_)
  obtain⟨v2,h3,h⟩:=bind_some h
  refine PFn.call (y09 h3) (AI (VS rfl) TT) ?_
  refine LWp.sim (e:=[(2,i6 v2)]) (L:=[]) (n:=0) ?_ ?_
  ·exact qq (M:=[]) rfl (AI (VS rfl) TT) TT
  refine wo ?_
  cases h
  exact AI TT (AI rfl (VS rfl))
theorem zst{a0:GJ}{m:Option Nat}{o:Int}(h:ju m a0=some o):PFn Tryz.prog 27 [.agg (z6 a0)] (i6 o):=PFn.ofFnW (L:=zz0) zv9 zxd (NB rfl) rfl (zjk h)
def ztc:LCode:=(.seq (.region [Qo 2 (.alloc [(i6 0),(i6 0),(.str []),(.isl 1 [] true),(.isl 5 [] true)])])
 (.seq (.region [Qm 3 0,
  Qo 4 (.build [(i6 0),(i6 0),(.str []),(.isl 1 [] true),(.isl 5 [] true)] [(0,1,(.c (i6 2))),(1,1,(.t 3))]),
  ⟨none,.store 5 (.t 2) (.t 4),none⟩])
 .ret))
def zls:Lay:=⟨5,[],false⟩
def znp:List LRes:=[.cell 2 true 5]
def zy0:LFn:=⟨1,zls,ztc,znp⟩
theorem zw0:wb Tryz.prog [] 49=some zy0:=by kernel_rfl
theorem zvz:uk Tryz.prog 49:=⟨_,Tryz.func49,rfl,rfl⟩
noncomputable def w4(m:Option Nat)(a0:Int):Option GJ:=
 some (GJ.mk 2 a0 ([]:List UInt8) ([]:List (List UInt8)) ([]:List (List AVal)))
def y1z(a0:Int)(o:GJ):Exit→Env→AHeap→Nat→Prop:=Zz znp (jo (.agg (z6 o)))
theorem zj4{a0:Int}{m:Option Nat}{o:GJ}(h:w4 m a0=some o):LWp Tryz.prog zls 0 ztc (y1z a0 o) (ye 0 [i6 a0]) [] 0:=by
 unfold w4 at h
 refine zc (zh ?_)
 refine zc (zh ?_)
 refine wo ?_
 cases h
 exact AI (AI TT (AI rfl (NB rfl))) (AI rfl (Vw.aggL (S2 rfl rfl (AI (VS rfl) (AI (Vw.islF _ _ _) (AI (Vw.islF _ _ _) TT))))))
theorem z9r{a0:Int}{m:Option Nat}{o:GJ}(h:w4 m a0=some o):PFn Tryz.prog 49 [i6 a0] (.agg (z6 o)):=PFn.ofFnW (L:=zy0) zw0 zvz (NB rfl) rfl (zj4 h)
def ztx:LCode:=(.seq (.region [Qo 2 (.alloc [(i6 0),(i6 0),(.str []),(.isl 1 [] true),(.isl 5 [] true)])])
 (.seq (.region [Qm 3 0,
  Qo 4 (.build [(i6 0),(i6 0),(.str []),(.isl 1 [] true),(.isl 5 [] true)] [(0,1,(.c (i6 3))),(2,1,(.t 3))]),
  ⟨none,.store 5 (.t 2) (.t 4),none⟩])
 .ret))
def zhx:Lay:=⟨5,[],false⟩
def zo6:List LRes:=[.cell 2 true 5]
def y00:LFn:=⟨1,zhx,ztx,zo6⟩
theorem zxq:wb Tryz.prog [] 50=some y00:=by kernel_rfl
theorem zug:uk Tryz.prog 50:=⟨_,Tryz.func50,rfl,rfl⟩
noncomputable def vz(m:Option Nat)(a0:List UInt8):Option GJ:=
 some (GJ.mk 3 0 a0 ([]:List (List UInt8)) ([]:List (List AVal)))
def y2z(a0:List UInt8)(o:GJ):Exit→Env→AHeap→Nat→Prop:=Zz zo6 (jo (.agg (z6 o)))
theorem znr{a0:List UInt8}{m:Option Nat}{o:GJ}(h:vz m a0=some o):LWp Tryz.prog zhx 0 ztx (y2z a0 o) (ye 0 [.str a0]) [] 0:=by
 unfold vz at h
 refine zc (zh ?_)
 refine zc (zh ?_)
 refine wo ?_
 cases h
 exact AI (AI TT (AI rfl (NB rfl))) (AI rfl (Vw.aggL (S2 rfl rfl (AI (VS rfl) (AI (Vw.islF _ _ _) (AI (Vw.islF _ _ _) TT))))))
theorem zfa{a0:List UInt8}{m:Option Nat}{o:GJ}(h:vz m a0=some o):PFn Tryz.prog 50 [.str a0] (.agg (z6 o)):=PFn.ofFnW (L:=y00) zxq zug (NB rfl) rfl (znr h)
def zs5:LCode:=(.seq (.region [Qo 4 (.alloc [(i6 0),(i6 0),(.str []),(.isl 1 [] true),(.isl 5 [] true)])])
 (.seq (.region [Qm 5 0,
  Qm 6 1,
  Qo 7 (.build [(i6 0),(i6 0),(.str []),(.isl 1 [] true),(.isl 5 [] true)] [(0,1,(.c (i6 5))),(3,1,(.t 5)),(4,1,(.t 6))]),
  ⟨none,.store 5 (.t 4) (.t 7),none⟩])
 .ret))
def zkk:Lay:=⟨8,[],false⟩
def znn:List LRes:=[.cell 4 true 5]
def zy1:LFn:=⟨2,zkk,zs5,znn⟩
theorem zvg:wb Tryz.prog [] 48=some zy1:=by kernel_rfl
theorem zuw:uk Tryz.prog 48:=⟨_,Tryz.func48,rfl,rfl⟩
noncomputable def xt(m:Option Nat)(a0:List (List UInt8))(a1:List (List AVal)):Option GJ:=
 some (GJ.mk 5 0 ([]:List UInt8) a0 a1)
def y2q(a0:List (List UInt8))(a1:List (List AVal))(o:GJ):Exit→Env→AHeap→Nat→Prop:=Zz znn (jo (.agg (z6 o)))
theorem zii{a0:List (List UInt8)}{a1:List (List AVal)}{m:Option Nat}{o:GJ}(h:xt m a0 a1=some o):LWp Tryz.prog zkk 0 zs5 (y2q a0 a1 o) (ye 0 [.isl 1 (a0.map za) false,.isl 5 (a1.map ze) false]) [] 0:=by
 unfold xt at h
 refine zc (zh ?_)
 refine zc (zh ?_)
 refine wo ?_
 cases h
 exact AI (AI TT (AI rfl (NB rfl))) (AI rfl (VS rfl))
theorem z1f{a0:List (List UInt8)}{a1:List (List AVal)}{m:Option Nat}{o:GJ}(h:xt m a0 a1=some o):PFn Tryz.prog 48 [.isl 1 (a0.map za) false,.isl 5 (a1.map ze) false] (.agg (z6 o)):=PFn.ofFnW (L:=zy1) zvg zuw (NB rfl) rfl (zii h)
def ztd:LCode:=(.seq (.region [Qo 1 (.box (.t 0)),
 Qo 2 (.alloc [(i6 0),(i6 0),(.str []),(.isl 1 [] true),(.isl 5 [] true)])])
 (.seq (.region [Qf 4 4 1,
  Qt 5 5 4,
  Qc 6 22 5,
  Qo 3 (.alloc [(i6 0),(i6 0),(.str []),(.isl 1 [] true),(.isl 5 [] true)]),
  ⟨none,.store 5 (.t 3) (.t 6),none⟩])
 (.seq (.seq (.region [Qf 7 0 1,
  Ql 8 1 7])
 (.block 0
  (.seq (.region [Qo 10 (.bin .eql (.t 8) (.c (i6 1))),
   Qm 9 10])
  (.cond (.t 9)
   (.seq (.draw [⟨Qf 12 1 1,[]⟩,
    ⟨Ql 13 1 12,[]⟩,
    ⟨Qf 15 3 1,[]⟩,
    ⟨Ql 16 1 15,[]⟩,
    ⟨Qt 18 5 3,[]⟩,
    ⟨Qo 11 (.mkSl true 1 [(.str [])] 3 [(0,(.c (.str [105,100]))),(1,(.c (.str [109,101,116,104,111,100]))),(2,(.c (.str [112,97,114,97,109,115])))]),[]⟩,
    ⟨Qc 14 49 13,[3,4]⟩,
    ⟨Qc 17 50 16,[4]⟩,
    ⟨Qo 19 (.mkSl true 5 [(i6 0),(i6 0),(.str []),(.isl 1 [] true),(.isl 5 [] true)] 3 [(0,(.t 14)),(1,(.t 17)),(2,(.t 18))]),[]⟩,
    ⟨Qo 20 (.call 48 [(.t 11),(.t 19)]),[]⟩,
    ⟨⟨none,.store 5 (.t 2) (.t 20),none⟩,[]⟩])
   .ret)
   (.seq (.region [Qo 22 (.bin .eql (.t 8) (.c (i6 2))),
    Qm 21 22])
   (.cond (.t 21)
    (.seq (.draw [⟨Qf 24 3 1,[]⟩,
     ⟨Ql 25 1 24,[]⟩,
     ⟨Qt 27 5 3,[]⟩,
     ⟨Qo 23 (.mkSl true 1 [(.str [])] 2 [(0,(.c (.str [109,101,116,104,111,100]))),(1,(.c (.str [112,97,114,97,109,115])))]),[]⟩,
     ⟨Qc 26 50 25,[2]⟩,
     ⟨Qo 28 (.mkSl true 5 [(i6 0),(i6 0),(.str []),(.isl 1 [] true),(.isl 5 [] true)] 2 [(0,(.t 26)),(1,(.t 27))]),[]⟩,
     ⟨Qo 29 (.call 48 [(.t 23),(.t 28)]),[]⟩,
     ⟨⟨none,.store 5 (.t 2) (.t 29),none⟩,[]⟩])
    .ret)
    (.seq (.region [Qo 31 (.bin .eql (.t 8) (.c (i6 3))),
     Qm 30 31])
    (.cond (.t 30)
     (.seq (.draw [⟨Qf 33 1 1,[]⟩,
      ⟨Ql 34 1 33,[]⟩,
      ⟨Qt 36 5 3,[]⟩,
      ⟨Qo 32 (.mkSl true 1 [(.str [])] 2 [(0,(.c (.str [105,100]))),(1,(.c (.str [114,101,115,117,108,116])))]),[]⟩,
      ⟨Qc 35 49 34,[2]⟩,
      ⟨Qo 37 (.mkSl true 5 [(i6 0),(i6 0),(.str []),(.isl 1 [] true),(.isl 5 [] true)] 2 [(0,(.t 35)),(1,(.t 36))]),[]⟩,
      ⟨Qo 38 (.call 48 [(.t 32),(.t 37)]),[]⟩,
      ⟨⟨none,.store 5 (.t 2) (.t 38),none⟩,[]⟩])
     .ret)
     (.seq (.region [Qo 40 (.bin .eql (.t 8) (.c (i6 4))),
      Qm 39 40])
     (.cond (.t 39)
      (.seq (.draw [⟨Qf 42 1 1,[]⟩,
       ⟨Ql 43 1 42,[]⟩,
       ⟨Qf 46 2 1,[]⟩,
       ⟨Ql 47 1 46,[]⟩,
       ⟨Qf 49 3 1,[]⟩,
       ⟨Ql 50 1 49,[]⟩,
       ⟨Qo 41 (.mkSl true 1 [(.str [])] 2 [(0,(.c (.str [105,100]))),(1,(.c (.str [101,114,114,111,114])))]),[]⟩,
       ⟨Qo 45 (.mkSl true 1 [(.str [])] 2 [(0,(.c (.str [99,111,100,101]))),(1,(.c (.str [109,101,115,115,97,103,101])))]),[]⟩,
       ⟨Qc 44 49 43,[3,5]⟩,
       ⟨Qc 48 49 47,[5]⟩,
       ⟨Qc 51 50 50,[]⟩,
       ⟨Qo 52 (.mkSl true 5 [(i6 0),(i6 0),(.str []),(.isl 1 [] true),(.isl 5 [] true)] 2 [(0,(.t 48)),(1,(.t 51))]),[]⟩,
       ⟨Qo 53 (.call 48 [(.t 45),(.t 52)]),[]⟩,
       ⟨Qo 54 (.mkSl true 5 [(i6 0),(i6 0),(.str []),(.isl 1 [] true),(.isl 5 [] true)] 2 [(0,(.t 44)),(1,(.t 53))]),[]⟩,
       ⟨Qo 55 (.call 48 [(.t 41),(.t 54)]),[]⟩,
       ⟨⟨none,.store 5 (.t 2) (.t 55),none⟩,[]⟩])
      .ret)
      .skip))))))))))
 (.seq (.draw [⟨Qf 59 1 1,[]⟩,
  ⟨Ql 60 1 59,[]⟩,
  ⟨Qo 56 (.mkSl true 1 [(.str [])] 2 [(0,(.c (.str [109,101,116,104,111,100]))),(1,(.c (.str [112,97,114,97,109,115])))]),[]⟩,
  ⟨Qo 58 (.mkSl true 1 [(.str [])] 1 [(0,(.c (.str [105,100])))]),[]⟩,
  ⟨Qo 57 (.call 50 [(.c (.str [36,47,99,97,110,99,101,108]))]),[1]⟩,
  ⟨Qc 61 49 60,[]⟩,
  ⟨Qo 62 (.mkSl true 5 [(i6 0),(i6 0),(.str []),(.isl 1 [] true),(.isl 5 [] true)] 1 [(0,(.t 61))]),[]⟩,
  ⟨Qo 63 (.call 48 [(.t 58),(.t 62)]),[]⟩,
  ⟨Qo 64 (.mkSl true 5 [(i6 0),(i6 0),(.str []),(.isl 1 [] true),(.isl 5 [] true)] 2 [(0,(.t 57)),(1,(.t 63))]),[]⟩,
  ⟨Qo 65 (.call 48 [(.t 56),(.t 64)]),[]⟩,
  ⟨⟨none,.store 5 (.t 2) (.t 65),none⟩,[]⟩])
 .ret))))
def zm7:Lay:=⟨66,[],false⟩
def znx:List LRes:=[.cell 2 true 5]
def zz9:LFn:=⟨1,zm7,ztd,znx⟩
theorem zv0:wb Tryz.prog [] 28=some zz9:=by kernel_rfl
theorem zwg:uk Tryz.prog 28:=⟨_,Tryz.func28,rfl,rfl⟩
noncomputable def wc(m:Option Nat)(a0:GM):Option GJ:=
 (wl m (GJ.mk a0.fB.fK a0.fB.fN a0.fB.fT a0.fB.fA a0.fB.fE)).bind fun v1=>
 if(a0.fK==1)=true then
  (w4 m a0.fI).bind fun v2=>
  (vz m a0.fM).bind fun v3=>
  (xt m ([([105,100]:List UInt8),([109,101,116,104,111,100]:List UInt8),([112,97,114,97,109,115]:List UInt8)]:List (List UInt8)) ([z6 v2,z6 v3,z6 v1]:List (List AVal))).bind fun v4=>
  some v4
 else
  if(a0.fK==2)=true then
   (vz m a0.fM).bind fun v5=>
   (xt m ([([109,101,116,104,111,100]:List UInt8),([112,97,114,97,109,115]:List UInt8)]:List (List UInt8)) ([z6 v5,z6 v1]:List (List AVal))).bind fun v6=>
   some v6
  else
   if(a0.fK==3)=true then
    (w4 m a0.fI).bind fun v7=>
    (xt m ([([105,100]:List UInt8),([114,101,115,117,108,116]:List UInt8)]:List (List UInt8)) ([z6 v7,z6 v1]:List (List AVal))).bind fun v8=>
    some v8
   else
    if(a0.fK==4)=true then
     (w4 m a0.fI).bind fun v9=>
     (w4 m a0.fC).bind fun v10=>
     (vz m a0.fM).bind fun v11=>
     (xt m ([([99,111,100,101]:List UInt8),([109,101,115,115,97,103,101]:List UInt8)]:List (List UInt8)) ([z6 v10,z6 v11]:List (List AVal))).bind fun v12=>
     (xt m ([([105,100]:List UInt8),([101,114,114,111,114]:List UInt8)]:List (List UInt8)) ([z6 v9,z6 v12]:List (List AVal))).bind fun v13=>
     some v13
    else
     (vz m ([36,47,99,97,110,99,101,108]:List UInt8)).bind fun v14=>
     (w4 m a0.fI).bind fun v15=>
     (xt m ([([105,100]:List UInt8)]:List (List UInt8)) ([z6 v15]:List (List AVal))).bind fun v16=>
     (xt m ([([109,101,116,104,111,100]:List UInt8),([112,97,114,97,109,115]:List UInt8)]:List (List UInt8)) ([z6 v14,z6 v16]:List (List AVal))).bind fun v17=>
     some v17
def y2u(a0:GM)(o:GJ):Exit→Env→AHeap→Nat→Prop:=Zz znx (jo (.agg (z6 o)))
set_option maxHeartbeats 4000000 in
theorem zk9{a0:GM}{m:Option Nat}{o:GJ}(h:wc m a0=some o):LWp Tryz.prog zm7 0 ztd (y2u a0 o) (ye 0 [.agg [i6 a0.fK,i6 a0.fI,i6 a0.fC,.str a0.fM,i6 a0.fB.fK,i6 a0.fB.fN,.str a0.fB.fT,.isl 1 (a0.fB.fA.map za) false,.isl 5 (a0.fB.fE.map ze) false]]) [] 0:=by
 unfold wc at h
 refine zc (zh ?_)
 refine zc (zh ?_)
 obtain⟨v1,h1,h⟩:=bind_some h
 refine Q1 (k:=3) (m:=0) (L':=[]) (rest:=[((1,0),.one [i6 0,i6 0,.str [],.isl 1 (([]:List (List UInt8)).map za) true,.isl 5 (([]:List (List AVal)).map ze) true]),((0,0),.one [i6 a0.fK,i6 a0.fI,i6 a0.fC,.str a0.fM,i6 a0.fB.fK,i6 a0.fB.fN,.str a0.fB.fT,.isl 1 (a0.fB.fA.map za) false,.isl 5 (a0.fB.fE.map ze) false])]) (R':=.agg (z6 v1)) [] (z76 h1) rfl rfl rfl (AI (VS rfl) TT) TT (wv _ rfl) TT rfl ?_
 refine zc ?_
 refine zc (zh ?_)
 refine LWp.sim (e:=[(1,.ptr (0,0) 0 0),(2,.ptr (1,0) 0 0),(3,.ptr (2,0) 0 0),(8,i6 a0.fK)]) (L:=[((0,0),.one [i6 a0.fK,i6 a0.fI,i6 a0.fC,.str a0.fM,i6 a0.fB.fK,i6 a0.fB.fN,.str a0.fB.fT,.isl 1 (a0.fB.fA.map za) false,.isl 5 (a0.fB.fE.map ze) false]),((1,0),.one [i6 0,i6 0,.str [],.isl 1 (([]:List (List UInt8)).map za) true,.isl 5 (([]:List (List AVal)).map ze) true]),((2,0),.one (z6 v1))]) (n:=3) ?_ ?_
 ·exact qq (M:=[((0,0),(0,0)),((1,0),(1,0)),((2,0),(3,0))]) rfl (SP rfl (SP rfl (SP rfl (AI (VS rfl) TT)))) (AI (AI rfl (OL rfl)) (AI (AI rfl (OL rfl)) (AI (AI rfl (OL rfl)) TT)))
 refine jj ?_
 refine zc (zh ?_)
 refine yp (v:=(a0.fK==1)) rfl TT (fun h2=>?_) (fun h2=>?_)
 ·have h:=zj h2 h
  refine zc ?_
  refine U8 ?_
  obtain⟨v2,h3,h⟩:=bind_some h
  refine PFn.call (z9r h3) (AI (VS rfl) TT) ?_
  refine AI rfl ?_
  refine AI rfl ?_
  obtain⟨v3,h4,h⟩:=bind_some h
  refine PFn.call (zfa h4) (AI (VS rfl) TT) ?_
  refine AI rfl ?_
  obtain⟨v4,h5,h⟩:=bind_some h
  refine PFn.call (z1f h5) (AI (Vw.islF _ _ _) (AI (Vw.islF _ _ _) TT)) ?_
  refine LWp.sim (e:=[(2,.ptr (0,0) 0 0)]) (L:=[((0,0),.one (z6 v4))]) (n:=1) ?_ ?_
  ·exact qq (M:=[((0,0),(1,0))]) rfl (SP rfl TT) (AI (AI rfl (OL rfl)) TT)
  refine wo ?_
  cases h
  exact AI (AI TT (AI rfl (NB rfl))) (AI rfl (VS rfl))
 ·have h:=zo h2 h
  refine zc (zh ?_)
  refine yp (v:=(a0.fK==2)) rfl TT (fun h6=>?_) (fun h6=>?_)
  ·have h:=zj h6 h
   refine zc ?_
   refine U8 ?_
   obtain⟨v5,h7,h⟩:=bind_some h
   refine PFn.call (zfa h7) (AI (VS rfl) TT) ?_
   refine AI rfl ?_
   obtain⟨v6,h8,h⟩:=bind_some h
   refine PFn.call (z1f h8) (AI (Vw.islF _ _ _) (AI (Vw.islF _ _ _) TT)) ?_
   refine LWp.sim (e:=[(2,.ptr (0,0) 0 0)]) (L:=[((0,0),.one (z6 v6))]) (n:=1) ?_ ?_
   ·exact qq (M:=[((0,0),(1,0))]) rfl (SP rfl TT) (AI (AI rfl (OL rfl)) TT)
   refine wo ?_
   cases h
   exact AI (AI TT (AI rfl (NB rfl))) (AI rfl (VS rfl))
  ·have h:=zo h6 h
   refine zc (zh ?_)
   refine yp (v:=(a0.fK==3)) rfl TT (fun h9=>?_) (fun h9=>?_)
   ·have h:=zj h9 h
    refine zc ?_
    refine U8 ?_
    obtain⟨v7,h10,h⟩:=bind_some h
    refine PFn.call (z9r h10) (AI (VS rfl) TT) ?_
    refine AI rfl ?_
    obtain⟨v8,h11,h⟩:=bind_some h
    refine PFn.call (z1f h11) (AI (Vw.islF _ _ _) (AI (Vw.islF _ _ _) TT)) ?_
    refine LWp.sim (e:=[(2,.ptr (0,0) 0 0)]) (L:=[((0,0),.one (z6 v8))]) (n:=1) ?_ ?_
    ·exact qq (M:=[((0,0),(1,0))]) rfl (SP rfl TT) (AI (AI rfl (OL rfl)) TT)
    refine wo ?_
    cases h
    exact AI (AI TT (AI rfl (NB rfl))) (AI rfl (VS rfl))
   ·have h:=zo h9 h
    refine zc (zh ?_)
    refine LWp.sim (e:=[(1,.ptr (0,0) 0 0),(2,.ptr (1,0) 0 0),(39,.bool (a0.fK==4))]) (L:=[((0,0),.one [i6 a0.fK,i6 a0.fI,i6 a0.fC,.str a0.fM,i6 a0.fB.fK,i6 a0.fB.fN,.str a0.fB.fT,.isl 1 (a0.fB.fA.map za) false,.isl 5 (a0.fB.fE.map ze) false]),((1,0),.one [i6 0,i6 0,.str [],.isl 1 (([]:List (List UInt8)).map za) true,.isl 5 (([]:List (List AVal)).map ze) true])]) (n:=2) ?_ ?_
    ·exact qq (M:=[((0,0),(0,0)),((1,0),(1,0))]) rfl (SP rfl (SP rfl (AI (VS rfl) TT))) (AI (AI rfl (OL rfl)) (AI (AI rfl (OL rfl)) TT))
    refine yp (v:=(a0.fK==4)) rfl TT (fun h12=>?_) (fun h12=>?_)
    ·have h:=zj h12 h
     refine zc ?_
     refine U8 ?_
     obtain⟨v9,h13,h⟩:=bind_some h
     refine PFn.call (z9r h13) (AI (VS rfl) TT) ?_
     refine AI rfl ?_
     refine AI rfl ?_
     obtain⟨v10,h14,h⟩:=bind_some h
     refine PFn.call (z9r h14) (AI (VS rfl) TT) ?_
     refine AI rfl ?_
     obtain⟨v11,h15,h⟩:=bind_some h
     refine PFn.call (zfa h15) (AI (VS rfl) TT) ?_
     obtain⟨v12,h16,h⟩:=bind_some h
     refine PFn.call (z1f h16) (AI (Vw.islF _ _ _) (AI (Vw.islF _ _ _) TT)) ?_
     obtain⟨v13,h17,h⟩:=bind_some h
     refine PFn.call (z1f h17) (AI (Vw.islF _ _ _) (AI (Vw.islF _ _ _) TT)) ?_
     refine LWp.sim (e:=[(2,.ptr (0,0) 0 0)]) (L:=[((0,0),.one (z6 v13))]) (n:=1) ?_ ?_
     ·exact qq (M:=[((0,0),(1,0))]) rfl (SP rfl TT) (AI (AI rfl (OL rfl)) TT)
     refine wo ?_
     cases h
     exact AI (AI TT (AI rfl (NB rfl))) (AI rfl (VS rfl))
    ·have h:=zo h12 h
     refine xr ?_
     refine zc ?_
     refine U8 ?_
     obtain⟨v14,h18,h⟩:=bind_some h
     refine PFn.call (zfa h18) (AI (VS rfl) TT) ?_
     refine AI rfl ?_
     obtain⟨v15,h19,h⟩:=bind_some h
     refine PFn.call (z9r h19) (AI (VS rfl) TT) ?_
     obtain⟨v16,h20,h⟩:=bind_some h
     refine PFn.call (z1f h20) (AI (Vw.islF _ _ _) (AI (Vw.islF _ _ _) TT)) ?_
     obtain⟨v17,h21,h⟩:=bind_some h
     refine PFn.call (z1f h21) (AI (Vw.islF _ _ _) (AI (Vw.islF _ _ _) TT)) ?_
     refine LWp.sim (e:=[(2,.ptr (0,0) 0 0)]) (L:=[((0,0),.one (z6 v17))]) (n:=1) ?_ ?_
     ·exact qq (M:=[((0,0),(1,0))]) rfl (SP rfl TT) (AI (AI rfl (OL rfl)) TT)
     refine wo ?_
     cases h
     exact AI (AI TT (AI rfl (NB rfl))) (AI rfl (VS rfl))
theorem zzn{a0:GM}{m:Option Nat}{o:GJ}(h:wc m a0=some o):PFn Tryz.prog 28 [.agg [i6 a0.fK,i6 a0.fI,i6 a0.fC,.str a0.fM,i6 a0.fB.fK,i6 a0.fB.fN,.str a0.fB.fT,.isl 1 (a0.fB.fA.map za) false,.isl 5 (a0.fB.fE.map ze) false]] (.agg (z6 o)):=PFn.ofFnW (L:=zz9) zv0 zwg (NB rfl) rfl (zk9 h)
def ztt:LCode:=(.seq (.region [Qo 1 (.box (.t 0)),
 Qo 2 (.alloc [(i6 0),(i6 0),(.str []),(.isl 1 [] true),(.isl 5 [] true)]),
 Qi 3 0])
 (.seq (.seq (.region [Qf 7 0 1,
  Ql 8 1 7,
  Qo 9 (.bin .lss (.t 8) (.c (i6 1))),
  Qm 10 9,
  Qe 11 0 1 (10,false),
  Qk 12 1 11 (10,false),
  Qg 13 (.bin .gtr (.t 12) (.c (i6 5))) (10,false),
  Qo 14 (.pick (.t 10) (.c (.bool true)) (.t 13))])
 (.cond (.t 14)
  (.seq (.region [Qo 15 (.build [(i6 0),(i6 0),(.str []),(.isl 1 [] true),(.isl 5 [] true)] []),
   ⟨none,.store 5 (.t 2) (.t 15),none⟩,
   Qi 3 7])
  .ret)
  .skip))
 (.seq (.seq (.region [Qt 16 9 1,
  Qc 17 26 16,
  Qo 18 (.un .not (.t 17))])
 (.cond (.t 18)
  (.seq (.region [Qo 19 (.build [(i6 0),(i6 0),(.str []),(.isl 1 [] true),(.isl 5 [] true)] []),
   ⟨none,.store 5 (.t 2) (.t 19),none⟩,
   Qi 3 3])
  .ret)
  .skip))
 (.seq (.seq (.region [Qf 20 4 1,
  Qt 21 5 20,
  Qc 22 27 21,
  Qm 4 22])
 (.seq (.region [Qm 23 4,
  Qo 24 (.bin .neq (.t 23) (.c (i6 0)))])
 (.cond (.t 24)
  (.seq (.region [Qo 25 (.build [(i6 0),(i6 0),(.str []),(.isl 1 [] true),(.isl 5 [] true)] []),
   Qm 26 4,
   ⟨none,.store 5 (.t 2) (.t 25),none⟩,
   Qm 3 26])
  .ret)
  .skip)))
 (.seq (.region [Qt 27 9 1,
  Qc 28 28 27,
  Qo 5 (.alloc [(i6 0),(i6 0),(.str []),(.isl 1 [] true),(.isl 5 [] true)]),
  ⟨none,.store 5 (.t 5) (.t 28),none⟩])
 (.seq (.seq (.region [Qt 29 5 5,
  Qc 30 27 29,
  Qm 6 30])
 (.seq (.region [Qm 31 6,
  Qo 32 (.bin .neq (.t 31) (.c (i6 0)))])
 (.cond (.t 32)
  (.seq (.region [Qo 33 (.build [(i6 0),(i6 0),(.str []),(.isl 1 [] true),(.isl 5 [] true)] []),
   Qm 34 6,
   ⟨none,.store 5 (.t 2) (.t 33),none⟩,
   Qm 3 34])
  .ret)
  .skip)))
 (.seq (.region [Qt 35 5 5,
  ⟨none,.store 5 (.t 2) (.t 35),none⟩,
  Qi 3 0])
 .ret)))))))
def zmg:Lay:=⟨36,[],false⟩
def zk8:List LRes:=[.cell 2 true 5,.t 3]
def y1g:LFn:=⟨1,zmg,ztt,zk8⟩
theorem zw9:wb Tryz.prog [] 17=some y1g:=by kernel_rfl
theorem zvj:uk Tryz.prog 17:=⟨_,Tryz.func17,rfl,rfl⟩
noncomputable def vg(m:Option Nat)(a0:GM):Option (GJ×Int):=
 if((decide (a0.fK<1)) || (decide (a0.fK > 5)))=true then
  some ((GJ.mk 0 0 [] [] []),7)
 else
  (jt m (GM.mk a0.fK a0.fI a0.fC a0.fM (GJ.mk a0.fB.fK a0.fB.fN a0.fB.fT a0.fB.fA a0.fB.fE))).bind fun v1=>
  if(!v1)=true then
   some ((GJ.mk 0 0 [] [] []),3)
  else
   (ju m (GJ.mk a0.fB.fK a0.fB.fN a0.fB.fT a0.fB.fA a0.fB.fE)).bind fun v2=>
   if(v2 != 0)=true then
    some ((GJ.mk 0 0 [] [] []),v2)
   else
    (wc m (GM.mk a0.fK a0.fI a0.fC a0.fM (GJ.mk a0.fB.fK a0.fB.fN a0.fB.fT a0.fB.fA a0.fB.fE))).bind fun v3=>
    (ju m v3).bind fun v4=>
    if(v4 != 0)=true then
     some ((GJ.mk 0 0 [] [] []),v4)
    else
     some (v3,0)
def y1x(a0:GM)(o:GJ×Int):Exit→Env→AHeap→Nat→Prop:=Zz zk8 (jo (.tup [.agg (z6 o.1),i6 o.2]))
theorem zms{a0:GM}{m:Option Nat}{o:GJ×Int}(h:vg m a0=some o):LWp Tryz.prog zmg 0 ztt (y1x a0 o) (ye 0 [.agg [i6 a0.fK,i6 a0.fI,i6 a0.fC,.str a0.fM,i6 a0.fB.fK,i6 a0.fB.fN,.str a0.fB.fT,.isl 1 (a0.fB.fA.map za) false,.isl 5 (a0.fB.fE.map ze) false]]) [] 0:=by
 unfold vg at h
 refine zc (zh ?_)
 refine zc ?_
 refine zc (zh ?_)
 refine AI (fun hp=>hp) ?_
 refine AI (fun hp=>hp) ?_
 refine AI (fun hc=>(bqf hc)) ?_
 refine LWp.sim (e:=[(1,.ptr (0,0) 0 0),(2,.ptr (1,0) 0 0),(14,.bool ((decide (a0.fK<1)) || (decide (a0.fK > 5))))]) (L:=[((0,0),.one [i6 a0.fK,i6 a0.fI,i6 a0.fC,.str a0.fM,i6 a0.fB.fK,i6 a0.fB.fN,.str a0.fB.fT,.isl 1 (a0.fB.fA.map za) false,.isl 5 (a0.fB.fE.map ze) false]),((1,0),.one [i6 0,i6 0,.str [],.isl 1 (([]:List (List UInt8)).map za) true,.isl 5 (([]:List (List AVal)).map ze) true])]) (n:=2) ?_ ?_
 ·exact qq (M:=[((0,0),(0,0)),((1,0),(1,0))]) rfl (SP rfl (SP rfl (AI (VS rfl) TT))) (AI (AI rfl (OL rfl)) (AI (AI rfl (OL rfl)) TT))
 refine yp (v:=((decide (a0.fK<1)) || (decide (a0.fK > 5)))) rfl TT (fun h1=>?_) (fun h1=>?_)
 ·have h:=zj h1 h
  refine zc (zh ?_)
  refine wo ?_
  cases h
  exact AI (AI TT (AI rfl (NB rfl))) (AI TT (AI rfl (Vw.tupL (AI (Vw.aggL (S2 rfl rfl (AI (VS rfl) (AI (Vw.islF _ _ _) (AI (Vw.islF _ _ _) TT))))) (AI (VS rfl) TT)))))
 ·have h:=zo h1 h
  refine xr ?_
  refine zc ?_
  refine zc (zh ?_)
  obtain⟨v1,h2,h⟩:=bind_some h
  refine PFn.call (zzi h2) (AI (VS rfl) TT) ?_
  refine yp (v:=(!v1)) rfl TT (fun h3=>?_) (fun h3=>?_)
  ·have h:=zj h3 h
   refine zc (zh ?_)
   refine wo ?_
   cases h
   exact AI (AI TT (AI rfl (NB rfl))) (AI TT (AI rfl (Vw.tupL (AI (Vw.aggL (S2 rfl rfl (AI (VS rfl) (AI (Vw.islF _ _ _) (AI (Vw.islF _ _ _) TT))))) (AI (VS rfl) TT)))))
  ·have h:=zo h3 h
   refine xr ?_
   refine zc ?_
   refine zc (zh ?_)
   obtain⟨v2,h4,h⟩:=bind_some h
   refine PFn.call (zst h4) (AI (VS rfl) TT) ?_
   refine zc (zh ?_)
   refine LWp.sim (e:=[(1,.ptr (0,0) 0 0),(2,.ptr (1,0) 0 0),(4,i6 v2),(24,.bool (v2 != 0))]) (L:=[((0,0),.one [i6 a0.fK,i6 a0.fI,i6 a0.fC,.str a0.fM,i6 a0.fB.fK,i6 a0.fB.fN,.str a0.fB.fT,.isl 1 (a0.fB.fA.map za) false,.isl 5 (a0.fB.fE.map ze) false]),((1,0),.one [i6 0,i6 0,.str [],.isl 1 (([]:List (List UInt8)).map za) true,.isl 5 (([]:List (List AVal)).map ze) true])]) (n:=2) ?_ ?_
   ·exact qq (M:=[((0,0),(0,0)),((1,0),(1,0))]) rfl (SP rfl (SP rfl (S2 rfl rfl TT))) (AI (AI rfl (OL rfl)) (AI (AI rfl (OL rfl)) TT))
   refine yp (v:=(v2 != 0)) rfl TT (fun h5=>?_) (fun h5=>?_)
   ·have h:=zj h5 h
    refine zc (zh ?_)
    refine wo ?_
    cases h
    exact AI (AI TT (AI rfl (NB rfl))) (AI TT (AI rfl (Vw.tupL (AI (Vw.aggL (S2 rfl rfl (AI (VS rfl) (AI (Vw.islF _ _ _) (AI (Vw.islF _ _ _) TT))))) (AI (VS rfl) TT)))))
   ·have h:=zo h5 h
    refine xr ?_
    refine zc (zh ?_)
    obtain⟨v3,h6,h⟩:=bind_some h
    refine PFn.call (zzn h6) (AI (VS rfl) TT) ?_
    refine zc ?_
    refine zc (zh ?_)
    obtain⟨v4,h7,h⟩:=bind_some h
    refine PFn.call (zst h7) (AI (VS rfl) TT) ?_
    refine zc (zh ?_)
    refine LWp.sim (e:=[(2,.ptr (0,0) 0 0),(5,.ptr (1,0) 0 0),(6,i6 v4),(32,.bool (v4 != 0))]) (L:=[((0,0),.one [i6 0,i6 0,.str [],.isl 1 (([]:List (List UInt8)).map za) true,.isl 5 (([]:List (List AVal)).map ze) true]),((1,0),.one (z6 v3))]) (n:=2) ?_ ?_
    ·exact qq (M:=[((0,0),(1,0)),((1,0),(2,0))]) rfl (SP rfl (SP rfl (S2 rfl rfl TT))) (AI (AI rfl (OL rfl)) (AI (AI rfl (OL rfl)) TT))
    refine yp (v:=(v4 != 0)) rfl TT (fun h8=>?_) (fun h8=>?_)
    ·have h:=zj h8 h
     refine zc (zh ?_)
     refine wo ?_
     cases h
     exact AI (AI TT (AI rfl (NB rfl))) (AI TT (AI rfl (Vw.tupL (AI (Vw.aggL (S2 rfl rfl (AI (VS rfl) (AI (Vw.islF _ _ _) (AI (Vw.islF _ _ _) TT))))) (AI (VS rfl) TT)))))
    ·have h:=zo h8 h
     refine xr ?_
     refine zc (zh ?_)
     refine wo ?_
     cases h
     exact AI (AI TT (AI rfl (NB rfl))) (AI TT (AI rfl (VS rfl)))
theorem zsw{a0:GM}{m:Option Nat}{o:GJ×Int}(h:vg m a0=some o):PFn Tryz.prog 17 [.agg [i6 a0.fK,i6 a0.fI,i6 a0.fC,.str a0.fM,i6 a0.fB.fK,i6 a0.fB.fN,.str a0.fB.fT,.isl 1 (a0.fB.fA.map za) false,.isl 5 (a0.fB.fE.map ze) false]] (.tup [.agg (z6 o.1),i6 o.2]):=PFn.ofFnW (L:=y1g) zw9 zvj (NB rfl) rfl (zms h)
def ziz:LCode:=(.seq (.region [Qo 5 (.box (.t 2)),
 Qo 6 (.alloc [(i6 0),(i6 0),(i6 0),(.str []),(i6 0),(i6 0),(.str []),(.isl 1 [] true),(.isl 5 [] true)]),
 Qi 7 0])
 (.seq (.draw [⟨Qm 11 0,[]⟩,
  ⟨Qo 12 (.nilck (.t 11)),[]⟩,
  ⟨Qf 13 0 12,[]⟩,
  ⟨Ql 14 1 13,[]⟩,
  ⟨Qm 15 1,[]⟩,
  ⟨Qt 16 5 5,[]⟩,
  ⟨Qc 17 22 16,[3]⟩,
  ⟨Qo 18 (.build [(i6 0),(i6 0),(i6 0),(.str []),(i6 0),(i6 0),(.str []),(.isl 1 [] true),(.isl 5 [] true)] [(0,1,(.c (i6 1))),(1,1,(.t 14)),(3,1,(.t 15)),(4,5,(.t 17))]),[]⟩,
  ⟨Qo 8 (.alloc [(i6 0),(i6 0),(i6 0),(.str []),(i6 0),(i6 0),(.str []),(.isl 1 [] true),(.isl 5 [] true)]),[3,5]⟩,
  ⟨⟨none,.store 9 (.t 8) (.t 18),none⟩,[]⟩])
 (.seq (.seq (.region [Qt 20 9 8,
  Qc 21 17 20,
  Qm 19 21,
  Qo 22 (.ext 0 (.t 19)),
  Qo 23 (.ext 1 (.t 19)),
  Qo 9 (.alloc [(i6 0),(i6 0),(.str []),(.isl 1 [] true),(.isl 5 [] true)]),
  ⟨none,.store 5 (.t 9) (.t 22),none⟩,
  Qm 10 23])
 (.seq (.region [Qm 24 10,
  Qo 25 (.bin .neq (.t 24) (.c (i6 0)))])
 (.cond (.t 25)
  (.seq (.region [Qo 26 (.build [(i6 0),(i6 0),(i6 0),(.str []),(i6 0),(i6 0),(.str []),(.isl 1 [] true),(.isl 5 [] true)] []),
   Qm 27 10,
   ⟨none,.store 9 (.t 6) (.t 26),none⟩,
   Qm 7 27])
  .ret)
  .skip)))
 (.seq (.seq (.region [Qm 28 0,
  Qo 29 (.nilck (.t 28)),
  Qf 30 1 29,
  Ql 31 1 30,
  Qo 32 (.mlen (.t 31)),
  Qo 33 (.bin .geq (.t 32) (.c (i6 40)))])
 (.cond (.t 33)
  (.seq (.region [Qo 34 (.build [(i6 0),(i6 0),(i6 0),(.str []),(i6 0),(i6 0),(.str []),(.isl 1 [] true),(.isl 5 [] true)] []),
   ⟨none,.store 9 (.t 6) (.t 34),none⟩,
   Qi 7 2])
  .ret)
  .skip))
 (.seq (.draw [⟨Qm 35 0,[]⟩,
  ⟨Qo 36 (.nilck (.t 35)),[]⟩,
  ⟨Qf 37 1 36,[]⟩,
  ⟨Ql 38 1 37,[]⟩,
  ⟨Qm 39 0,[]⟩,
  ⟨Qo 40 (.nilck (.t 39)),[]⟩,
  ⟨Qf 41 0 40,[]⟩,
  ⟨Ql 42 1 41,[]⟩,
  ⟨⟨none,.mset [.int] false false [(i6 0)] (.t 38) (.t 42) (.c (i6 0)),none⟩,[]⟩])
 (.seq (.region [Qm 43 0,
  Qo 44 (.nilck (.t 43)),
  Qf 45 0 44,
  Ql 46 1 45,
  Qo 47 (.bin .add (.t 46) (.c (i6 1))),
  Qo 48 (.nilck (.t 43)),
  Qf 49 0 48,
  ⟨none,.store 1 (.t 49) (.t 47),none⟩])
 (.seq (.region [Qt 50 9 8,
  ⟨none,.store 9 (.t 6) (.t 50),none⟩,
  Qi 7 0])
 .ret)))))))
def ze0:Lay:=⟨51,[],false⟩
def zes:List LRes:=[.cell 6 true 9,.t 7]
def zt8:LFn:=⟨3,ze0,ziz,zes⟩
theorem zr8:wb Tryz.prog [] 8=some zt8:=by kernel_rfl
theorem zq6:uk Tryz.prog 8:=⟨_,Tryz.func8,rfl,rfl⟩
noncomputable def w6(m:Option Nat)(a0:List UInt8)(a1:GJ)(a2:Int)(a3:List (Int×Int)):Option (GM×Int×Int×(List (Int×Int))):=
 (Yk m a1).bind fun v1=>
 (vg m (GM.mk 1 a2 0 a0 v1)).bind fun v2=>
 if(v2.2 != 0)=true then
  some ((GM.mk 0 0 0 ([]:List UInt8) (GJ.mk 0 0 [] [] [])),v2.2,a2,a3)
 else
  if(decide (((a3.map (em z8 z8)).length:Int)≥40))=true then
   some ((GM.mk 0 0 0 ([]:List UInt8) (GJ.mk 0 0 [] [] [])),2,a2,a3)
  else
   some ((GM.mk 1 a2 0 a0 v1),0,(W (a2+1)),(mp wt a3 a2 0))
def zzf(a0:List UInt8)(a1:GJ)(a2:Int)(a3:List (Int×Int))(o:GM×Int×Int×(List (Int×Int))):Exit→Env→AHeap→Nat→Prop:=Zz zes (Xx 3 3 (.tup [.agg [i6 o.1.fK,i6 o.1.fI,i6 o.1.fC,.str o.1.fM,i6 o.1.fB.fK,i6 o.1.fB.fN,.str o.1.fB.fT,.isl 1 (o.1.fB.fA.map za) false,.isl 5 (o.1.fB.fE.map ze) false],i6 o.2.1]) [((0,0),.one [i6 o.2.2.1,.map (0,1)]),((0,1),.amap (o.2.2.2.map (em z8 z8)))])
theorem zh8{a0:List UInt8}{a1:GJ}{a2:Int}{a3:List (Int×Int)}{m:Option Nat}{o:GM×Int×Int×(List (Int×Int))}(h:w6 m a0 a1 a2 a3=some o):LWp Tryz.prog ze0 3 ziz (zzf a0 a1 a2 a3 o) (ye 0 [.ptr (0,0) 0 0,.str a0,.agg (z6 a1)]) [((0,0),.one [i6 a2,.map (0,1)]),((0,1),.amap (a3.map (em z8 z8)))] 3:=by
 unfold w6 at h
 refine zc (zh ?_)
 refine zc ?_
 refine U8 ?_
 obtain⟨v1,h1,h⟩:=bind_some h
 refine PFn.call (zza h1) (AI (VS rfl) TT) ?_
 refine AI rfl ?_
 refine AI rfl ?_
 refine AI rfl ?_
 refine LWp.sim (e:=[(0,.ptr (0,0) 0 0),(6,.ptr (3,0) 0 0),(8,.ptr (4,0) 0 0)]) (L:=[((0,0),.one [i6 a2,.map (0,1)]),((0,1),.amap (a3.map (em z8 z8))),((3,0),.one [i6 0,i6 0,i6 0,.str [],i6 0,i6 0,.str [],.isl 1 (([]:List (List UInt8)).map za) true,.isl 5 (([]:List (List AVal)).map ze) true]),((4,0),.one [i6 1,i6 a2,i6 0,.str a0,i6 v1.fK,i6 v1.fN,.str v1.fT,.isl 1 (v1.fA.map za) false,.isl 5 (v1.fE.map ze) false])]) (n:=5) ?_ ?_
 ·exact qq (M:=[((3,0),(4,0)),((4,0),(5,0))]) rfl (SP rfl (SP rfl (SP rfl TT))) (AI (AI rfl (BVw.oneL (AI (VS rfl) (AI (Vw.map _ _ rfl) TT)))) (AI (AI rfl (BVw.ofMap z8 z8 zb a3)) (AI (AI rfl (OL rfl)) (AI (AI rfl (OL rfl)) TT))))
 refine zc ?_
 refine zc (zh ?_)
 obtain⟨v2,h2,h⟩:=bind_some h
 refine PFn.call (zsw h2) (AI (VS rfl) TT) ?_
 refine LWp.sim (e:=[(0,.ptr (0,0) 0 0),(6,.ptr (3,0) 0 0),(8,.ptr (4,0) 0 0),(10,i6 v2.2)]) (L:=[((0,0),.one [i6 a2,.map (0,1)]),((0,1),.amap (a3.map (em z8 z8))),((3,0),.one [i6 0,i6 0,i6 0,.str [],i6 0,i6 0,.str [],.isl 1 (([]:List (List UInt8)).map za) true,.isl 5 (([]:List (List AVal)).map ze) true]),((4,0),.one [i6 1,i6 a2,i6 0,.str a0,i6 v1.fK,i6 v1.fN,.str v1.fT,.isl 1 (v1.fA.map za) false,.isl 5 (v1.fE.map ze) false])]) (n:=5) ?_ ?_
 ·exact qq (M:=[((3,0),(3,0)),((4,0),(4,0))]) rfl (SP rfl (SP rfl (SP rfl (AI (VS rfl) TT)))) (AI (AI rfl (BVw.oneL (AI (VS rfl) (AI (Vw.map _ _ rfl) TT)))) (AI (AI rfl (BVw.ofMap z8 z8 zb a3)) (AI (AI rfl (OL rfl)) (AI (AI rfl (OL rfl)) TT))))
 refine zc (zh ?_)
 refine yp (v:=(v2.2 != 0)) rfl TT (fun h3=>?_) (fun h3=>?_)
 ·have h:=zj h3 h
  refine zc (zh ?_)
  refine wo ?_
  cases h
  exact AI (AI TT (AI rfl (NB rfl))) (AI TT (Km (n':=5) [] [] rfl rfl (Vw.tupL (AI (Vw.aggL (S4 rfl rfl rfl rfl (S2 rfl rfl (AI (VS rfl) (AI (Vw.islF _ _ _) (AI (Vw.islF _ _ _) TT)))))) (AI (VS rfl) TT))) (AI (AI rfl (BVw.oneL (AI (VS rfl) (AI (Vw.map _ _ rfl) TT)))) (AI (AI rfl (BVw.ofMap z8 z8 zb a3)) TT))))
 ·have h:=zo h3 h
  refine xr ?_
  refine zc ?_
  refine zc (zh ?_)
  refine LWp.sim (e:=[(0,.ptr (0,0) 0 0),(6,.ptr (3,0) 0 0),(8,.ptr (4,0) 0 0),(33,.bool (decide (((a3.map (em z8 z8)).length:Int)≥40)))]) (L:=[((0,0),.one [i6 a2,.map (0,1)]),((0,1),.amap (a3.map (em z8 z8))),((3,0),.one [i6 0,i6 0,i6 0,.str [],i6 0,i6 0,.str [],.isl 1 (([]:List (List UInt8)).map za) true,.isl 5 (([]:List (List AVal)).map ze) true]),((4,0),.one [i6 1,i6 a2,i6 0,.str a0,i6 v1.fK,i6 v1.fN,.str v1.fT,.isl 1 (v1.fA.map za) false,.isl 5 (v1.fE.map ze) false])]) (n:=5) ?_ ?_
  ·exact qq (M:=[((3,0),(3,0)),((4,0),(4,0))]) rfl (SP rfl (SP rfl (SP rfl (AI (VS rfl) TT)))) (AI (AI rfl (BVw.oneL (AI (VS rfl) (AI (Vw.map _ _ rfl) TT)))) (AI (AI rfl (BVw.ofMap z8 z8 zb a3)) (AI (AI rfl (OL rfl)) (AI (AI rfl (OL rfl)) TT))))
  refine yp (v:=(decide (((a3.map (em z8 z8)).length:Int)≥40))) rfl TT (fun h4=>?_) (fun h4=>?_)
  ·have h:=zj h4 h
   refine zc (zh ?_)
   refine wo ?_
   cases h
   exact AI (AI TT (AI rfl (NB rfl))) (AI TT (Km (n':=5) [] [] rfl rfl (Vw.tupL (AI (Vw.aggL (S4 rfl rfl rfl rfl (S2 rfl rfl (AI (VS rfl) (AI (Vw.islF _ _ _) (AI (Vw.islF _ _ _) TT)))))) (AI (VS rfl) TT))) (AI (AI rfl (BVw.oneL (AI (VS rfl) (AI (Vw.map _ _ rfl) TT)))) (AI (AI rfl (BVw.ofMap z8 z8 zb a3)) TT))))
  ·have h:=zo h4 h
   refine xr ?_
   refine zc ?_
   refine zrw rfl ?_
   refine EX ((mp wt a3 a2 0).map (em z8 z8)) (AI (z0r (ek:=z8) (ev:=z8) Xn a2 0 a3) ?_)
   refine LWp.sim (e:=[(0,.ptr (0,0) 0 0),(6,.ptr (3,0) 0 0),(8,.ptr (4,0) 0 0)]) (L:=[((0,0),.one [i6 a2,.map (0,1)]),((0,1),.amap ((mp wt a3 a2 0).map (em z8 z8))),((3,0),.one [i6 0,i6 0,i6 0,.str [],i6 0,i6 0,.str [],.isl 1 (([]:List (List UInt8)).map za) true,.isl 5 (([]:List (List AVal)).map ze) true]),((4,0),.one [i6 1,i6 a2,i6 0,.str a0,i6 v1.fK,i6 v1.fN,.str v1.fT,.isl 1 (v1.fA.map za) false,.isl 5 (v1.fE.map ze) false])]) (n:=5) ?_ ?_
   ·exact qq (M:=[((3,0),(3,0)),((4,0),(4,0))]) rfl (SP rfl (SP rfl (SP rfl TT))) (AI (AI rfl (BVw.oneL (AI (VS rfl) (AI (Vw.map _ _ rfl) TT)))) (AI (AI rfl (BVw.ofMap z8 z8 zb (mp wt a3 a2 0))) (AI (AI rfl (OL rfl)) (AI (AI rfl (OL rfl)) TT))))
   refine zc (zh ?_)
   refine LWp.sim (e:=[(6,.ptr (3,0) 0 0),(8,.ptr (4,0) 0 0)]) (L:=[((0,0),.one [i6 (W (a2+1)),.map (0,1)]),((0,1),.amap ((mp wt a3 a2 0).map (em z8 z8))),((3,0),.one [i6 0,i6 0,i6 0,.str [],i6 0,i6 0,.str [],.isl 1 (([]:List (List UInt8)).map za) true,.isl 5 (([]:List (List AVal)).map ze) true]),((4,0),.one [i6 1,i6 a2,i6 0,.str a0,i6 v1.fK,i6 v1.fN,.str v1.fT,.isl 1 (v1.fA.map za) false,.isl 5 (v1.fE.map ze) false])]) (n:=5) ?_ ?_
   ·exact qq (M:=[((3,0),(3,0)),((4,0),(4,0))]) rfl (SP rfl (SP rfl TT)) (AI (AI rfl (BVw.oneL (AI (VS rfl) (AI (Vw.map _ _ rfl) TT)))) (AI (AI rfl (BVw.ofMap z8 z8 zb (mp wt a3 a2 0))) (AI (AI rfl (OL rfl)) (AI (AI rfl (OL rfl)) TT))))
   refine zc (zh ?_)
   refine wo ?_
   cases h
   exact AI (AI TT (AI rfl (NB rfl))) (AI TT (Km (n':=5) [] [] rfl rfl (VS rfl) (AI (AI rfl (BVw.oneL (AI (VS rfl) (AI (Vw.map _ _ rfl) TT)))) (AI (AI rfl (BVw.ofMap z8 z8 zb (mp wt a3 a2 0))) TT))))
theorem zv7{a0:List UInt8}{a1:GJ}{a2:Int}{a3:List (Int×Int)}{m:Option Nat}{o:GM×Int×Int×(List (Int×Int))}(h:w6 m a0 a1 a2 a3=some o):ACalls Tryz.prog 8 [.ptr (0,0) 0 0,.str a0,.agg (z6 a1)] [((0,0),.one [i6 a2,.map (0,1)]),((0,1),.amap (a3.map (em z8 z8)))] 3 (kg 3 (.tup [.agg [i6 o.1.fK,i6 o.1.fI,i6 o.1.fC,.str o.1.fM,i6 o.1.fB.fK,i6 o.1.fB.fN,.str o.1.fB.fT,.isl 1 (o.1.fB.fA.map za) false,.isl 5 (o.1.fB.fE.map ze) false],i6 o.2.1]) [((0,0),.one [i6 o.2.2.1,.map (0,1)]),((0,1),.amap (o.2.2.2.map (em z8 z8)))]):=Yw (L:=zt8) zr8 zq6 (NB rfl) (zh8 h)
def zyw:LCode:=(.seq (.region [Qo 2 (.box (.t 0)),
 Qo 3 (.box (.t 1)),
 Qb 4])
 (.seq (.region [Qf 5 0 2,
  Ql 6 1 5,
  Qf 7 0 3,
  Ql 8 1 7,
  Qo 9 (.bin .eql (.t 6) (.t 8)),
  Qm 10 9,
  Qe 11 1 2 (10,true),
  Qk 12 1 11 (10,true),
  Qe 13 1 3 (10,true),
  Qk 14 1 13 (10,true),
  Qg 15 (.bin .eql (.t 12) (.t 14)) (10,true),
  Qp 16 10 15,
  Qm 17 16,
  Qe 18 2 2 (17,true),
  Qk 19 1 18 (17,true),
  Qe 20 2 3 (17,true),
  Qk 21 1 20 (17,true),
  Qg 22 (.bin .eql (.t 19) (.t 21)) (17,true),
  Qp 23 17 22,
  Qm 24 23,
  Qe 25 3 2 (24,true),
  Qk 26 1 25 (24,true),
  Qe 27 3 3 (24,true),
  Qk 28 1 27 (24,true),
  Qg 29 (.bin .eql (.t 26) (.t 28)) (24,true),
  Qp 30 24 29,
  Qm 31 30,
  Qe 32 4 2 (31,true),
  Qg 33 (.load true 5 (.t 32)) (31,true),
  Qe 34 4 3 (31,true),
  Qg 35 (.load true 5 (.t 34)) (31,true),
  Qg 36 (.call 23 [(.t 33),(.t 35)]) (31,true),
  Qp 37 31 36,
  Qm 4 37])
 .ret))
def zse:Lay:=⟨38,[],false⟩
def zsx:List LRes:=[.t 4]
def y3h:LFn:=⟨2,zse,zyw,zsx⟩
theorem zye:wb Tryz.prog [] 9=some y3h:=by kernel_rfl
theorem y01:uk Tryz.prog 9:=⟨_,Tryz.func9,rfl,rfl⟩
noncomputable def zk(m:Option Nat)(a0:GM)(a1:GM):Option Bool:=
 (if(((((a0.fK==a1.fK)&&(a0.fI==a1.fI))&&(a0.fC==a1.fC))&&(a0.fM==a1.fM))==true)=true then yi m (GJ.mk a0.fB.fK a0.fB.fN a0.fB.fT a0.fB.fA a0.fB.fE) (GJ.mk a1.fB.fK a1.fB.fN a1.fB.fT a1.fB.fA a1.fB.fE) else some default).bind fun v1=>
 some (((((a0.fK==a1.fK)&&(a0.fI==a1.fI))&&(a0.fC==a1.fC))&&(a0.fM==a1.fM))&&v1)
def y3k(a0:GM)(a1:GM)(o:Bool):Exit→Env→AHeap→Nat→Prop:=Zz zsx (jo (.bool o))
theorem zrq{a0:GM}{a1:GM}{m:Option Nat}{o:Bool}(h:zk m a0 a1=some o):LWp Tryz.prog zse 0 zyw (y3k a0 a1 o) (ye 0 [.agg [i6 a0.fK,i6 a0.fI,i6 a0.fC,.str a0.fM,i6 a0.fB.fK,i6 a0.fB.fN,.str a0.fB.fT,.isl 1 (a0.fB.fA.map za) false,.isl 5 (a0.fB.fE.map ze) false],.agg [i6 a1.fK,i6 a1.fI,i6 a1.fC,.str a1.fM,i6 a1.fB.fK,i6 a1.fB.fN,.str a1.fB.fT,.isl 1 (a1.fB.fA.map za) false,.isl 5 (a1.fB.fE.map ze) false]]) [] 0:=by
 unfold zk at h
 refine zc (zh ?_)
 refine zc (zh ?_)
 refine AI (fun hp=>hp) ?_
 refine AI (fun hp=>hp) ?_
 refine AI (fun hp=>(AI hp hp)) ?_
 refine AI (fun hc=>(bqt hc)) ?_
 refine AI (fun hp=>hp) ?_
 refine AI (fun hp=>hp) ?_
 refine AI (fun hp=>(AI hp hp)) ?_
 refine AI (fun hc=>(bqt hc)) ?_
 refine AI (fun hp=>hp) ?_
 refine AI (fun hp=>hp) ?_
 refine AI (fun hp=>(AI hp hp)) ?_
 refine AI (fun hc=>(bqt hc)) ?_
 refine AI (fun hp=>hp) ?_
 refine AI (fun hp=>hp) ?_
 obtain⟨v1,h1,h⟩:=bind_some h
 refine Or.inl (EX (.bool v1) (AI (fun hp=>AI (AI hp hp) (ACalls.same rfl (Q1 (k:=3) (m:=0) (L':=[]) (rest:=[((1,0),.one [i6 a1.fK,i6 a1.fI,i6 a1.fC,.str a1.fM,i6 a1.fB.fK,i6 a1.fB.fN,.str a1.fB.fT,.isl 1 (a1.fB.fA.map za) false,.isl 5 (a1.fB.fE.map ze) false]),((0,0),.one [i6 a0.fK,i6 a0.fI,i6 a0.fC,.str a0.fM,i6 a0.fB.fK,i6 a0.fB.fN,.str a0.fB.fT,.isl 1 (a0.fB.fA.map za) false,.isl 5 (a0.fB.fE.map ze) false])]) (R':=.bool v1) [] (z9x (zj hp h1)) rfl rfl rfl (S2 rfl rfl TT) TT (wv _ rfl) TT rfl (AI rfl (HeapTo.get (AI (AI rfl (OL rfl)) (AI (AI rfl (OL rfl)) TT))))))) ?_))
 refine AI (fun hc=>(bqt hc)) ?_
 refine LWp.sim (e:=[(4,.bool (((((a0.fK==a1.fK)&&(a0.fI==a1.fI))&&(a0.fC==a1.fC))&&(a0.fM==a1.fM))&&v1))]) (L:=[]) (n:=0) ?_ ?_
 ·exact qq (M:=[]) rfl (AI (VS rfl) TT) TT
 refine wo ?_
 cases h
 exact AI TT (AI rfl (VS rfl))
theorem zzs{a0:GM}{a1:GM}{m:Option Nat}{o:Bool}(h:zk m a0 a1=some o):PFn Tryz.prog 9 [.agg [i6 a0.fK,i6 a0.fI,i6 a0.fC,.str a0.fM,i6 a0.fB.fK,i6 a0.fB.fN,.str a0.fB.fT,.isl 1 (a0.fB.fA.map za) false,.isl 5 (a0.fB.fE.map ze) false],.agg [i6 a1.fK,i6 a1.fI,i6 a1.fC,.str a1.fM,i6 a1.fB.fK,i6 a1.fB.fN,.str a1.fB.fT,.isl 1 (a1.fB.fA.map za) false,.isl 5 (a1.fB.fE.map ze) false]] (.bool o):=PFn.ofFnW (L:=y3h) zye y01 (NB rfl) rfl (zrq h)
end Go.Proofs.YtlilpmnmedmjaaaGreatDoor
