/-
  Own text GenA of this claim: what functions of the given program compute, in plain Lean, and the proof; no condition.
-/
import Derived.Test.YtjkfnbjgpilokaaGreatDoorChecked
import Derived.Test.YtjkfnbjgpilokaaGreatDoorFc
import Derived.Test.YtjkfnbjgpilokaaGreatDoorFd
import Derived.Test.YtjkfnbjgpilokaaGreatDoorLib
import Derived.Test.YtjkfnbjgpilokaaGreatDoorBd
import Derived.Test.YtjkfnbjgpilokaaGreatDoorKw
import Derived.KernelRfl
open Go.Fx.LWp renaming sim→p2
open List renaming map→pB,replicate→pC
open Option renaming map_eq_some_iff→p1,map→p4
open Go.Fx.PFn renaming call→p3,ofFnW→p9
open Sum renaming inr→pA
open Go.Fx.Vw renaming mslE→pD
namespace Go.Proofs.YtjkfnbjgpilokaaGreatDoor
noncomputable section
open Go.Fx
set_option linter.unusedVariables false
set_option maxHeartbeats 4000000
set_option maxHeartbeats 1600000
structure G_Module where
 f_Name:List UInt8
 f_Source:List UInt8
instance:Inhabited G_Module:=⟨(G_Module.mk [] [])⟩
structure G_TextEdit where
 f_Start:Int
 f_End:Int
 f_NewText:List UInt8
instance:Inhabited G_TextEdit:=⟨(G_TextEdit.mk 0 0 [])⟩
structure G_FileEdit where
 f_Module:Int
 f_TextEdit:G_TextEdit
instance:Inhabited G_FileEdit:=⟨(G_FileEdit.mk 0 (G_TextEdit.mk 0 0 []))⟩
def z6(x:G_Module):List AVal:=[.str x.f_Name,.str x.f_Source]
def z8(x:G_FileEdit):List AVal:=[i6 x.f_Module,i6 x.f_TextEdit.f_Start,i6 x.f_TextEdit.f_End,.str x.f_TextEdit.f_NewText]
def uj(x:List UInt8):List AVal:=[.str x]
def z7(x:G_TextEdit):List AVal:=[i6 x.f_Start,i6 x.f_End,.str x.f_NewText]
def yf(x:List G_TextEdit):List AVal:=[.isl 3 (x.map z7) false]
theorem Ud(x:G_Module):AVal.nid.nidL (z6 x)=true∧∀y∈z6 x,y.imm=some y:=⟨rfl,by simp[z6,AVal.imm]⟩
theorem zkh(x:G_FileEdit):AVal.nid.nidL (z8 x)=true∧∀y∈z8 x,y.imm=some y:=⟨rfl,by simp[z8,AVal.imm]⟩
theorem zvk(x:List UInt8):AVal.nid.nidL (uj x)=true∧∀y∈uj x,y.imm=some y:=⟨rfl,by simp[uj,AVal.imm]⟩
theorem zlo(x:G_TextEdit):AVal.nid.nidL (z7 x)=true∧∀y∈z7 x,y.imm=some y:=⟨rfl,by simp[z7,AVal.imm]⟩
theorem Vt(x:List G_TextEdit):AVal.nid.nidL (yf x)=true∧∀y∈yf x,y.imm=some y:=⟨rfl,by simp[yf,AVal.imm]⟩
def xk(m:Option Nat):Option (Bool):=some true
theorem zwc{m:Option Nat}{o:Bool}(h:xk m=some o):PFn Tryz.prog 6 [] (.bool o):=by
 cases h
 exact zrk
def zab:LCode:=(.seq (.region [Qo 1 (.box (.t 0)),
 Qb 2])
 (.seq (.region [Qf 3 1 1,
  Ql 4 1 3,
  Qo 5 (.len true (.t 4)),
  Qo 6 (.bin .gtr (.t 5) (.c (i6 2000))),
  Qm 2 6])
 .ret))
def z6n:Lay:=⟨7,[],false⟩
def z5g:List LRes:=[.t 2]
def zim:LFn:=⟨1,z6n,zab,z5g⟩
theorem zeh:w4 Tryz.prog [] 28=some zim:=by kernel_rfl
theorem zdb:uc Tryz.prog 28:=⟨_,Tryz.func28,rfl,rfl⟩
def qj(m:Option Nat)(a0:G_Module):Option Bool:=
 some (decide ((a0.f_Source.length:Int) > 2000))
def zrg(a0:G_Module)(o:Bool):Exit→Env→AHeap→Nat→Prop:=Q0 z5g (Jl 3 4 (.bool o) [])
theorem z8t{a0:G_Module}{m:Option Nat}{o:Bool}(h:qj m a0=some o):LWp Tryz.prog z6n 3 zab (zrg a0 o) (yi 0 [.agg [.str a0.f_Name,.str a0.f_Source]]) [] 3:=by
 unfold qj at h
 refine zl (y5 ?_)
 refine zl (y5 ?_)
 refine vl ?_
 cases h
 exact AI TT (znk (n':=4) [] [] rfl rfl (VS rfl) TT)
theorem zjz{a0:G_Module}{m:Option Nat}{o:Bool}(h:qj m a0=some o):ACalls Tryz.prog 28 [.agg [.str a0.f_Name,.str a0.f_Source]] [] 3 (Z6 4 (.bool o) []):=Qd (L:=zim) zeh zdb (NB rfl) (z8t h)
def z3h:LCode:=(.seq (.region [Qo 9 (.bin .lss (.t 8) (.t 7))])
 (.seq (.cond (.t 9)
  .skip
  (.exit 0))
 (.seq (.block 1
  (.seq (.region [Qm 10 8,
   Qm 5 10])
  (.seq (.region [Qm 11 1,
   Qm 12 0,
   Qm 13 5,
   Qo 14 (.iaddr 2 (.t 12) (.t 13)),
   Qt 15 2 14,
   Qo 16 (.callv (.t 11) [(.t 15)])])
  (.cond (.t 16)
   (.seq (.region [Qm 17 5,
    Qm 4 17])
   .ret)
   .skip))))
 (.region [Qo 18 (.bin .add (.t 8) (.c (i6 1))),
  Qm 8 18]))))
def Kk:LCode:=(.seq (.region [Qo 4 (.mv (.c (i6 (-1))))])
 .ret)
def z9h:LCode:=(.seq (.region [Qi 4 0])
 (.seq (.seq (.region [Qm 6 0,
  Qo 7 (.len false (.t 6)),
  Qi 8 0])
 (.block 0
  (.loop
   z3h)))
 Kk))
def Zc:Lay:=⟨19,[],false⟩
def z6j:List LRes:=[.t 4]
def zdh:LFn:=⟨2,Zc,z9h,z6j⟩
theorem zjf:w4 Tryz.prog [] 62=some zdh:=by kernel_rfl
theorem zgj:uc Tryz.prog 62:=⟨_,Tryz.func62,rfl,rfl⟩
def z2n{σ:Type}(Hc:σ→AHeap)(fi0:Fn)(ff0 fc0:List AVal)(a0:List G_Module)(z0:σ)(o:Int×σ):Exit→Env→AHeap→Nat→Prop:=Q0 z6j (Jl 3 4 (i6 o.1) ([]++up 3 (Hc o.2)))
def Vl{σ:Type}(Hc:σ→AHeap)(fi0:Fn)(ff0 fc0:List AVal)(a0:List G_Module)(s:(Int×σ)):Env:=[(0,.isl 2 (a0.map z6) false),(1,.fn fi0 ff0 fc0),(7,i6 ((a0.map z6).length:Int)),(8,i6 s.1)]
def U4{σ:Type}(Hc:σ→AHeap)(fi0:Fn)(ff0 fc0:List AVal)(a0:List G_Module)(s:(Int×σ)):AHeap:=([]++up 3 (Hc s.2))
def z1c{σ:Type}(Hc:σ→AHeap)(fi0:Fn)(ff0 fc0:List AVal)(a0:List G_Module)(z0:σ)(o:(Int×σ)):Exit→Env→AHeap→Nat→Prop:=(j4 0 (Qh Tryz.prog Zc 3 Kk (z2n Hc fi0 ff0 fc0 a0 z0 o)))
def qy{σ:Type}(g0:σ→G_Module→Option (Bool×σ))(m:Option Nat)(v3:σ):Option (Int×σ):=
 some ((-1),v3)
def zw{σ:Type}(g0:σ→G_Module→Option (Bool×σ))(m:Option Nat)(a0:List G_Module)(v2:Int)(v3:σ):Option ((Int×σ) ⊕ (Int×σ)):=
 if(decide (v2<((a0.map z6).length:Int)))=true then
  if(0:Int)≤v2∧v2<((a0.map z6).length:Int) then
  (g0 v3 (G_Module.mk ((a0.getD v2.toNat default).f_Name) ((a0.getD v2.toNat default).f_Source))).bind fun v5=>
  if v5.1=true then
   p4 pA (
    some (v2,v5.2))
  else
   some (.inl ((W (v2+1)),v5.2))
  else none
 else
  p4 pA (
   qy g0 m v3)
def yw{σ:Type}(g0:σ→G_Module→Option (Bool×σ))(m:Option Nat)(a0:List G_Module)(v2:Int)(v3:σ):Option (Int×σ):=Zf m (fun(s:(Int×σ))=>zw g0 m a0 s.1 s.2) (v2,v3)
theorem z7x{σ:Type}{Hc:σ→AHeap}{fi0:Fn}{ff0 fc0:List AVal}{g0:σ→G_Module→Option (Bool×σ)}(hg0:Clo Tryz.prog fi0 ff0 fc0 Hc (fun(x:G_Module)=>[.agg [.str x.f_Name,.str x.f_Source]]) (fun(b:Bool)=>.bool b) g0){a0:List G_Module}{z0:σ}{v3:σ}{m:Option Nat}{o:(Int×σ)}(h:qy g0 m v3=some o) :
 LWp Tryz.prog Zc 3 Kk (z2n Hc fi0 ff0 fc0 a0 z0 o) [] ([]++up 3 (Hc v3)) 4:=by
 unfold qy at h
 refine zl (y5 ?_)
 refine vl ?_
 cases h
 exact AI TT (zvl (n':=4) (q:=3) (lit':=[]) (hg0.tl _) [] [] rfl rfl (VS rfl) TT)
theorem z4i{σ:Type}{Hc:σ→AHeap}{fi0:Fn}{ff0 fc0:List AVal}{g0:σ→G_Module→Option (Bool×σ)}(hg0:Clo Tryz.prog fi0 ff0 fc0 Hc (fun(x:G_Module)=>[.agg [.str x.f_Name,.str x.f_Source]]) (fun(b:Bool)=>.bool b) g0){z0:σ}{a0:List G_Module}{v2:Int}{v3:σ}{m:Option Nat}{o:(Int×σ) ⊕ (Int×σ)}(h:zw g0 m a0 v2 v3=some o) :
 LWp Tryz.prog Zc 3 z3h (Zg 3 4 (Vl Hc fi0 ff0 fc0 a0) (U4 Hc fi0 ff0 fc0 a0) (z1c Hc fi0 ff0 fc0 a0 z0) o) [(0,.isl 2 (a0.map z6) false),(1,.fn fi0 ff0 fc0),(7,i6 ((a0.map z6).length:Int)),(8,i6 v2)] ([]++up 3 (Hc v3)) 4:=by
 unfold zw at h
 refine zl (y5 ?_)
 refine zl ?_
 refine j0 (v:=(decide (v2<((a0.map z6).length:Int)))) rfl TT (fun h9=>?_) (fun h9=>?_)
 ·have h:=yq h9 h
  refine jw ?_
  refine zl ?_
  refine ja ?_
  refine zl (y5 ?_)
  refine zl (y5 ?_)
  obtain⟨h10,h⟩:=zk h
  refine AI h10 ?_
  refine EX (z6 (a0.getD v2.toNat default)) (AI (qt z6 _ _ (xr z6 h10)) (AI (AI (wa h10) (NB rfl)) ?_))
  obtain⟨v5,h11,h⟩:=bind_some h
  refine Clo.use (q:=3) (lit:=[]) hg0 h11 rfl rfl (AI (VS rfl) TT) ?_
  refine p2 (e:=[(0,.isl 2 (a0.map z6) false),(1,.fn fi0 ff0 fc0),(5,i6 v2),(7,i6 ((a0.map z6).length:Int)),(8,i6 v2),(16,.bool v5.1)]) (L:=([]++up 3 (Hc v5.2))) (n:=4) ?_ ?_
  ·exact zl8 (M:=[]) (lit':=[]) (hg0.tl _) rfl (AI (VS rfl) (AI (Vw.clo hg0.hf hg0.hc (by decide) (Wa (Z5 (n:=4) (q:=4) (lit':=[]) rfl))) (S4 rfl rfl rfl rfl TT))) TT
  refine j0 (v:=v5.1) rfl TT (fun h12=>?_) (fun h12=>?_)
  ·have h:=yq h12 h
   refine zl (y5 ?_)
   refine vl ?_
   obtain⟨o,hq,rfl⟩:=p1.1 h
   replace h:=hq;clear hq
   refine AI nofun ?_
   cases h
   exact AI TT (zvl (n':=4) (q:=3) (lit':=[]) (hg0.tl _) [] [] rfl rfl (VS rfl) TT)
  ·have h:=qc h12 h
   refine jw ?_
   refine y5 ?_
   cases h
   exact AI rfl (zl8 (M:=[]) (lit':=[]) (hg0.tl _) rfl (AI (VS rfl) (AI (Vw.clo hg0.hf hg0.hc (by decide) (Wa (Z5 (n:=4) (q:=3) (lit':=[]) rfl))) (S2 rfl rfl TT))) TT)
 ·have h:=qc h9 h
  refine Xn ?_
  obtain⟨o,hq,rfl⟩:=p1.1 h
  replace h:=hq;clear hq
  refine AI nofun ?_
  refine p2 ?_ (z7x hg0 h)
  exact zl8 (M:=[]) (lit':=[]) (hg0.tl _) rfl TT TT
theorem z8i{σ:Type}{Hc:σ→AHeap}{fi0:Fn}{ff0 fc0:List AVal}{g0:σ→G_Module→Option (Bool×σ)}(hg0:Clo Tryz.prog fi0 ff0 fc0 Hc (fun(x:G_Module)=>[.agg [.str x.f_Name,.str x.f_Source]]) (fun(b:Bool)=>.bool b) g0){z0:σ}{a0:List G_Module}{v2:Int}{v3:σ}{m:Option Nat}{o:(Int×σ)}(h:yw g0 m a0 v2 v3=some o) :
 LWp Tryz.prog Zc 3 (.loop z3h) (j4 0 (Qh Tryz.prog Zc 3 Kk (z2n Hc fi0 ff0 fc0 a0 z0 o))) [(0,.isl 2 (a0.map z6) false),(1,.fn fi0 ff0 fc0),(7,i6 ((a0.map z6).length:Int)),(8,i6 v2)] ([]++up 3 (Hc v3)) 4:=
 ji (m:=m) (s:=((v2,v3):(Int×σ))) (r:=o) (fun(s:(Int×σ))=>zw g0 m a0 s.1 s.2) (Vl Hc fi0 ff0 fc0 a0) (U4 Hc fi0 ff0 fc0 a0) (z1c Hc fi0 ff0 fc0 a0 z0) (fun s o h=>z4i hg0 h) h
def ym{σ:Type}(g0:σ→G_Module→Option (Bool×σ))(m:Option Nat)(a0:List G_Module)(z0:σ):Option (Int×σ):=
 yw g0 m a0 0 z0
theorem z81{σ:Type}{Hc:σ→AHeap}{fi0:Fn}{ff0 fc0:List AVal}{g0:σ→G_Module→Option (Bool×σ)}(hg0:Clo Tryz.prog fi0 ff0 fc0 Hc (fun(x:G_Module)=>[.agg [.str x.f_Name,.str x.f_Source]]) (fun(b:Bool)=>.bool b) g0){a0:List G_Module}{z0:σ}{m:Option Nat}{o:Int×σ}(h:ym g0 m a0 z0=some o):LWp Tryz.prog Zc 3 z9h (z2n Hc fi0 ff0 fc0 a0 z0 o) (yi 0 [.isl 2 (a0.map z6) false,.fn fi0 ff0 fc0]) ([]++Hc z0) 3:=by
 unfold ym at h
 refine p2 (e:=[(0,.isl 2 (a0.map z6) false),(1,.fn fi0 ff0 fc0)]) (L:=([]++up 3 (Hc z0))) (n:=4) (zf1 (T:=Hc z0) (e':=yi 0 [.isl 2 (a0.map z6) false,.fn fi0 ff0 fc0]) (e:=[(0,.isl 2 (a0.map z6) false),(1,.fn fi0 ff0 fc0)]) (lit':=[]) (lit:=[]) (hg0.tl z0) rfl rfl (AI (VS rfl) (AI (Vw.clo hg0.hf hg0.hc (by decide) (zjg _)) TT)) TT) ?_
 refine zl (y5 ?_)
 refine zl ?_
 refine zl (y5 ?_)
 refine ja ?_
 refine p2 ?_ (z8i hg0 h)
 exact zl8 (M:=[]) (lit':=[]) (hg0.tl _) rfl (AI (VS rfl) (AI (Vw.clo hg0.hf hg0.hc (by decide) (Wa (Z5 (n:=4) (q:=3) (lit':=[]) rfl))) (S2 rfl rfl TT))) TT
theorem zb0{σ:Type}{Hc:σ→AHeap}{fi0:Fn}{ff0 fc0:List AVal}{g0:σ→G_Module→Option (Bool×σ)}(hg0:Clo Tryz.prog fi0 ff0 fc0 Hc (fun(x:G_Module)=>[.agg [.str x.f_Name,.str x.f_Source]]) (fun(b:Bool)=>.bool b) g0){a0:List G_Module}{z0:σ}{m:Option Nat}{o:Int×σ}(h:ym g0 m a0 z0=some o):ACalls Tryz.prog 62 [.isl 2 (a0.map z6) false,.fn fi0 ff0 fc0] ([]++Hc z0) 3 (Z6 4 (i6 o.1) ([]++up 3 (Hc o.2))):=Qd (L:=zdh) zjf zgj (NB rfl) (z81 hg0 h)
def zb5:LCode:=(.seq (.region [Qb 4])
 (.seq (.region [Qm 5 0,
  Qm 6 1,
  Qo 7 (.call 62 [(.t 5),(.t 6)]),
  Qo 8 (.bin .geq (.t 7) (.c (i6 0))),
  Qm 4 8])
 .ret))
def z64:Lay:=⟨9,[],false⟩
def z3y:List LRes:=[.t 4]
def zh8:LFn:=⟨2,z64,zb5,z3y⟩
theorem zjd:w4 Tryz.prog [] 27=some zh8:=by kernel_rfl
theorem ze3:uc Tryz.prog 27:=⟨_,Tryz.func27,rfl,rfl⟩
def zp{σ:Type}(g0:σ→G_Module→Option (Bool×σ))(m:Option Nat)(a0:List G_Module)(z0:σ):Option (Bool×σ):=
 (ym g0 m a0 z0).bind fun v1=>
 some ((decide (v1.1≥0)),v1.2)
def zqe{σ:Type}(Hc:σ→AHeap)(fi0:Fn)(ff0 fc0:List AVal)(a0:List G_Module)(z0:σ)(o:Bool×σ):Exit→Env→AHeap→Nat→Prop:=Q0 z3y (Jl 3 4 (.bool o.1) ([]++up 3 (Hc o.2)))
theorem z6x{σ:Type}{Hc:σ→AHeap}{fi0:Fn}{ff0 fc0:List AVal}{g0:σ→G_Module→Option (Bool×σ)}(hg0:Clo Tryz.prog fi0 ff0 fc0 Hc (fun(x:G_Module)=>[.agg [.str x.f_Name,.str x.f_Source]]) (fun(b:Bool)=>.bool b) g0){a0:List G_Module}{z0:σ}{m:Option Nat}{o:Bool×σ}(h:zp g0 m a0 z0=some o):LWp Tryz.prog z64 3 zb5 (zqe Hc fi0 ff0 fc0 a0 z0 o) (yi 0 [.isl 2 (a0.map z6) false,.fn fi0 ff0 fc0]) ([]++Hc z0) 3:=by
 unfold zp at h
 refine p2 (e:=[(0,.isl 2 (a0.map z6) false),(1,.fn fi0 ff0 fc0)]) (L:=([]++up 3 (Hc z0))) (n:=4) (zf1 (T:=Hc z0) (e':=yi 0 [.isl 2 (a0.map z6) false,.fn fi0 ff0 fc0]) (e:=[(0,.isl 2 (a0.map z6) false),(1,.fn fi0 ff0 fc0)]) (lit':=[]) (lit:=[]) (hg0.tl z0) rfl rfl (AI (VS rfl) (AI (Vw.clo hg0.hf hg0.hc (by decide) (zjg _)) TT)) TT) ?_
 refine zl (y5 ?_)
 refine zl (y5 ?_)
 obtain⟨v1,h1,h⟩:=bind_some h
 refine znn (m:=1) (q:=3) (lit0:=[]) (lit:=[]) (L:=[]) (L':=[]) (rest:=[]) (R':=i6 v1.1) (hg0.tl _) (hg0.tl _) [] (zb0 hg0 h1) rfl rfl rfl rfl rfl rfl (AI (VS rfl) (AI (Vw.clo hg0.hf hg0.hc (by decide) (z76 _ _)) TT)) TT (ug _ rfl) TT rfl ?_
 refine vl ?_
 cases h
 exact AI TT (zvl (n':=6) (q:=4) (lit':=[]) (hg0.tl _) [] [] rfl rfl (VS rfl) TT)
theorem za5{σ:Type}{Hc:σ→AHeap}{fi0:Fn}{ff0 fc0:List AVal}{g0:σ→G_Module→Option (Bool×σ)}(hg0:Clo Tryz.prog fi0 ff0 fc0 Hc (fun(x:G_Module)=>[.agg [.str x.f_Name,.str x.f_Source]]) (fun(b:Bool)=>.bool b) g0){a0:List G_Module}{z0:σ}{m:Option Nat}{o:Bool×σ}(h:zp g0 m a0 z0=some o):ACalls Tryz.prog 27 [.isl 2 (a0.map z6) false,.fn fi0 ff0 fc0] ([]++Hc z0) 3 (Z6 4 (.bool o.1) ([]++up 3 (Hc o.2))):=Qd (L:=zh8) zjd ze3 (NB rfl) (z6x hg0 h)
def jr(m:Option Nat)(a0:List UInt8)(a1:Int):Option Int:=some (Go.Lib.indexByte a0 a1.toNat.toUInt8)
theorem zkx:uc Tryz.prog 104:=⟨_,Tryz.func104,rfl,rfl⟩
theorem z8n{m:Option Nat}{a0:List UInt8}{a1:Int}{o:Int}(h:jr m a0 a1=some o):PFn Tryz.prog 104 [.str a0,.int .u8 a1] (i6 o):=by
 cases h
 exact z5m Tryz.l104 rfl zkx a0 a1
def zo5:LCode:=(.seq (.region [Qb 2])
 (.seq (.region [Qm 3 0,
  Qo 4 (.call 104 [(.c (.str [32,9,10,13])),(.t 3)]),
  Qo 5 (.bin .geq (.t 4) (.c (i6 0))),
  Qm 2 5])
 .ret))
def zh5:Lay:=⟨6,[],false⟩
def zj5:List LRes:=[.t 2]
def zup:LFn:=⟨1,zh5,zo5,zj5⟩
theorem zrp:w4 Tryz.prog [] 94=some zup:=by kernel_rfl
theorem zq9:uc Tryz.prog 94:=⟨_,Tryz.func94,rfl,rfl⟩
def wu(m:Option Nat)(a0:Int):Option Bool:=
 (jr m ([32,9,10,13]:List UInt8) a0).bind fun v1=>
 some (decide (v1≥0))
def zxq(a0:Int)(o:Bool):Exit→Env→AHeap→Nat→Prop:=Q0 zj5 (jj (.bool o))
theorem zdj{a0:Int}{m:Option Nat}{o:Bool}(h:wu m a0=some o):LWp Tryz.prog zh5 0 zo5 (zxq a0 o) (yi 0 [.int .u8 a0]) [] 0:=by
 unfold wu at h
 refine zl (y5 ?_)
 refine zl (y5 ?_)
 obtain⟨v1,h1,h⟩:=bind_some h
 refine p3 (z8n h1) (S2 rfl rfl TT) ?_
 refine vl ?_
 cases h
 exact AI TT (AI rfl (VS rfl))
theorem zs4{a0:Int}{m:Option Nat}{o:Bool}(h:wu m a0=some o):PFn Tryz.prog 94 [.int .u8 a0] (.bool o):=p9 (L:=zup) zrp zq9 (NB rfl) rfl (zdj h)
def z93:LCode:=(.seq (.region [Qb 2])
 (.seq (.region [Qm 3 0,
  Qo 4 (.call 104 [(.c (.str [32,9,10,13])),(.t 3)]),
  Qo 5 (.bin .geq (.t 4) (.c (i6 0))),
  Qm 2 5])
 .ret))
def z4x:Lay:=⟨6,[],false⟩
def z4v:List LRes:=[.t 2]
def zdl:LFn:=⟨1,z4x,z93,z4v⟩
theorem zdq:w4 Tryz.prog [] 94=some zdl:=by kernel_rfl
theorem zjj:uc Tryz.prog 94:=⟨_,Tryz.func94,rfl,rfl⟩
def jh(m:Option Nat)(a0:Int):Option Bool:=
 (jr m ([32,9,10,13]:List UInt8) a0).bind fun v1=>
 some (decide (v1≥0))
def zoq(a0:Int)(o:Bool):Exit→Env→AHeap→Nat→Prop:=Q0 z4v (Jl 3 4 (.bool o) [])
theorem z8o{a0:Int}{m:Option Nat}{o:Bool}(h:jh m a0=some o):LWp Tryz.prog z4x 3 z93 (zoq a0 o) (yi 0 [.int .u8 a0]) [] 3:=by
 unfold jh at h
 refine zl (y5 ?_)
 refine zl (y5 ?_)
 obtain⟨v1,h1,h⟩:=bind_some h
 refine p3 (z8n h1) (S2 rfl rfl TT) ?_
 refine vl ?_
 cases h
 exact AI TT (znk (n':=3) [] [] rfl rfl (VS rfl) TT)
theorem zkj{a0:Int}{m:Option Nat}{o:Bool}(h:jh m a0=some o):ACalls Tryz.prog 94 [.int .u8 a0] [] 3 (Z6 4 (.bool o) []):=Qd (L:=zdl) zdq zjj (NB rfl) (z8o h)
def zaz:LCode:=(.cond (.t 17)
 .skip
 (.exit 0))
def z9c:LCode:=(.block 1
 (.region [Qm 18 1,
  Qo 19 (.bin .add (.t 18) (.c (i6 1))),
  Qm 1 19]))
def z34:LCode:=(.seq (.seq (.region [Qm 7 1,
 Qm 8 0,
 Qo 9 (.len true (.t 8)),
 Qo 10 (.bin .lss (.t 7) (.t 9)),
 Qm 11 10,
 Qn 12 2 (11,true),
 Qn 13 0 (11,true),
 Qn 14 1 (11,true),
 Qg 15 (.idxS (.t 13) (.t 14)) (11,true),
 Qg 16 (.callv (.t 12) [(.t 15)]) (11,true),
 Qp 17 11 16])
 zaz)
 z9c)
def Ke:LCode:=(.seq (.region [Qm 20 1,
 Qm 6 20])
 .ret)
def zaq:LCode:=(.seq (.region [Qi 6 0])
 (.seq (.block 0
  (.loop
   z34))
 Ke))
def ko:Lay:=⟨21,[],false⟩
def z3v:List LRes:=[.t 6]
def zht:LFn:=⟨3,ko,zaq,z3v⟩
theorem zgb:w4 Tryz.prog [] 95=some zht:=by kernel_rfl
theorem zgg:uc Tryz.prog 95:=⟨_,Tryz.func95,rfl,rfl⟩
def z3b{σ:Type}(Hc:σ→AHeap)(fi0:Fn)(ff0 fc0:List AVal)(a0:List UInt8)(a1:Int)(z0:σ)(o:Int×σ):Exit→Env→AHeap→Nat→Prop:=Q0 z3v (Jl 3 4 (i6 o.1) ([]++up 3 (Hc o.2)))
def X7{σ:Type}(Hc:σ→AHeap)(fi0:Fn)(ff0 fc0:List AVal)(a0:List UInt8)(s:(Int×σ)):Env:=[(0,.str a0),(1,i6 s.1),(2,.fn fi0 ff0 fc0)]
def Jb{σ:Type}(Hc:σ→AHeap)(fi0:Fn)(ff0 fc0:List AVal)(a0:List UInt8)(s:(Int×σ)):AHeap:=([]++up 3 (Hc s.2))
def Vb{σ:Type}(Hc:σ→AHeap)(fi0:Fn)(ff0 fc0:List AVal)(a0:List UInt8)(a1:Int)(z0:σ)(o:(Int×σ)):Exit→Env→AHeap→Nat→Prop:=(j4 0 (Qh Tryz.prog ko 3 Ke (z3b Hc fi0 ff0 fc0 a0 a1 z0 o)))
def ww{σ:Type}(g0:σ→Int→Option (Bool×σ))(m:Option Nat)(v4:Int)(v11:σ):Option (Int×σ):=
 some (v4,v11)
def wc{σ:Type}(g0:σ→Int→Option (Bool×σ))(m:Option Nat)(a0:List UInt8)(v4:Int)(v10:Bool)(v11:σ):Option ((Int×σ) ⊕ (Int×σ)):=
 if v10=true then
  some (.inl ((W (v4+1)),v11))
 else
  p4 pA (
   ww g0 m v4 v11)
theorem z7j{σ:Type}{Hc:σ→AHeap}{fi0:Fn}{ff0 fc0:List AVal}{g0:σ→Int→Option (Bool×σ)}(hg0:Clo Tryz.prog fi0 ff0 fc0 Hc (fun(x:Int)=>[.int .u8 x]) (fun(b:Bool)=>.bool b) g0){a0:List UInt8}{a1:Int}{z0:σ}{v4:Int}{v11:σ}{m:Option Nat}{o:(Int×σ)}(h:ww g0 m v4 v11=some o) :
 LWp Tryz.prog ko 3 Ke (z3b Hc fi0 ff0 fc0 a0 a1 z0 o) [(1,i6 v4)] ([]++up 3 (Hc v11)) 4:=by
 unfold ww at h
 refine zl (y5 ?_)
 refine vl ?_
 cases h
 exact AI TT (zvl (n':=4) (q:=3) (lit':=[]) (hg0.tl _) [] [] rfl rfl (VS rfl) TT)
theorem U9{σ:Type}{Hc:σ→AHeap}{fi0:Fn}{ff0 fc0:List AVal}{g0:σ→Int→Option (Bool×σ)}(hg0:Clo Tryz.prog fi0 ff0 fc0 Hc (fun(x:Int)=>[.int .u8 x]) (fun(b:Bool)=>.bool b) g0){a1:Int}{z0:σ}{a0:List UInt8}{v4:Int}{v10:Bool}{v11:σ}{m:Option Nat}{o:((Int×σ) ⊕ (Int×σ))}(h:wc g0 m a0 v4 v10 v11=some o) :
 LWp Tryz.prog ko 3 zaz (Qh Tryz.prog ko 3 z9c (Zg 3 4 (X7 Hc fi0 ff0 fc0 a0) (Jb Hc fi0 ff0 fc0 a0) (Vb Hc fi0 ff0 fc0 a0 a1 z0) o)) [(0,.str a0),(1,i6 v4),(2,.fn fi0 ff0 fc0),(17,.bool v10)] ([]++up 3 (Hc v11)) 4:=by
 unfold wc at h
 refine j0 (v:=v10) rfl TT (fun h15=>?_) (fun h15=>?_)
 ·have h:=yq h15 h
  refine jw ?_
  refine ja ?_
  refine y5 ?_
  cases h
  exact AI rfl (zl8 (M:=[]) (lit':=[]) (hg0.tl _) rfl (S2 rfl rfl (AI (Vw.clo hg0.hf hg0.hc (by decide) (Wa (Z5 (n:=4) (q:=3) (lit':=[]) rfl))) TT)) TT)
 ·have h:=qc h15 h
  refine Xn ?_
  obtain⟨o,hq,rfl⟩:=p1.1 h
  replace h:=hq;clear hq
  refine AI nofun ?_
  refine p2 ?_ (z7j hg0 h)
  exact zl8 (M:=[]) (lit':=[]) (hg0.tl _) rfl (AI (VS rfl) TT) TT
def ju{σ:Type}(g0:σ→Int→Option (Bool×σ))(m:Option Nat)(a0:List UInt8)(v4:Int)(v5:σ):Option ((Int×σ) ⊕ (Int×σ)):=
 if(((decide (v4<(a0.length:Int)))==true)=true→(0:Int)≤v4∧v4<(a0.length:Int)) then
 if((decide (v4<(a0.length:Int)))==true)=true then
  (g0 v5 (((a0.getD v4.toNat 0).toNat:Nat):Int)).bind fun v9=>
  wc g0 m a0 v4 ((decide (v4<(a0.length:Int)))&&v9.1) v9.2
 else
  wc g0 m a0 v4 ((decide (v4<(a0.length:Int)))&&false) v5
 else none
def wz{σ:Type}(g0:σ→Int→Option (Bool×σ))(m:Option Nat)(a0:List UInt8)(v4:Int)(v5:σ):Option (Int×σ):=Zf m (fun(s:(Int×σ))=>ju g0 m a0 s.1 s.2) (v4,v5)
theorem z4b{σ:Type}{Hc:σ→AHeap}{fi0:Fn}{ff0 fc0:List AVal}{g0:σ→Int→Option (Bool×σ)}(hg0:Clo Tryz.prog fi0 ff0 fc0 Hc (fun(x:Int)=>[.int .u8 x]) (fun(b:Bool)=>.bool b) g0){a1:Int}{z0:σ}{a0:List UInt8}{v4:Int}{v5:σ}{m:Option Nat}{o:(Int×σ) ⊕ (Int×σ)}(h:ju g0 m a0 v4 v5=some o) :
 LWp Tryz.prog ko 3 z34 (Zg 3 4 (X7 Hc fi0 ff0 fc0 a0) (Jb Hc fi0 ff0 fc0 a0) (Vb Hc fi0 ff0 fc0 a0 a1 z0) o) [(0,.str a0),(1,i6 v4),(2,.fn fi0 ff0 fc0)] ([]++up 3 (Hc v5)) 4:=by
 unfold ju at h
 refine zl ?_
 refine zl (y5 ?_)
 obtain⟨h11,h⟩:=zk h
 refine AI (fun hp=>(AI (AI hp hp) (h11 hp))) ?_
 refine Or.inr (AI (fun h12=>?_) (fun h13=>?_))
 ·have h:=yq h12 h
  obtain⟨v9,h14,h⟩:=bind_some h
  refine AI (AI h12 h12) ?_
  refine Clo.use (q:=3) (lit:=[]) hg0 h14 rfl rfl (AI (VS rfl) TT) ?_
  refine p2 ?_ (U9 hg0 h)
  exact zl8 (M:=[]) (lit':=[]) (hg0.tl _) rfl (S2 rfl rfl (AI (Vw.clo hg0.hf hg0.hc (by decide) (Wa (Z5 (n:=4) (q:=4) (lit':=[]) rfl))) (AI (VS rfl) TT))) TT
 ·have h:=qc h13 h
  refine EX (.cnd ((decide (v4<(a0.length:Int)))==true) (.bool false)) (AI (Or.inr (EX _ (congrArg (fun q=>AVal.cnd q _) h13))) ?_)
  refine AI (fun hc=>(bqt hc)) ?_
  refine p2 ?_ (U9 hg0 h)
  exact zl8 (M:=[]) (lit':=[]) (hg0.tl _) rfl (S2 rfl rfl (AI (Vw.clo hg0.hf hg0.hc (by decide) (Wa (Z5 (n:=4) (q:=3) (lit':=[]) rfl))) (AI (VS rfl) TT))) TT
theorem z7n{σ:Type}{Hc:σ→AHeap}{fi0:Fn}{ff0 fc0:List AVal}{g0:σ→Int→Option (Bool×σ)}(hg0:Clo Tryz.prog fi0 ff0 fc0 Hc (fun(x:Int)=>[.int .u8 x]) (fun(b:Bool)=>.bool b) g0){a1:Int}{z0:σ}{a0:List UInt8}{v4:Int}{v5:σ}{m:Option Nat}{o:(Int×σ)}(h:wz g0 m a0 v4 v5=some o) :
 LWp Tryz.prog ko 3 (.loop z34) (j4 0 (Qh Tryz.prog ko 3 Ke (z3b Hc fi0 ff0 fc0 a0 a1 z0 o))) [(0,.str a0),(1,i6 v4),(2,.fn fi0 ff0 fc0)] ([]++up 3 (Hc v5)) 4:=
 ji (m:=m) (s:=((v4,v5):(Int×σ))) (r:=o) (fun(s:(Int×σ))=>ju g0 m a0 s.1 s.2) (X7 Hc fi0 ff0 fc0 a0) (Jb Hc fi0 ff0 fc0 a0) (Vb Hc fi0 ff0 fc0 a0 a1 z0) (fun s o h=>z4b hg0 h) h
def x3{σ:Type}(g0:σ→Int→Option (Bool×σ))(m:Option Nat)(a0:List UInt8)(a1:Int)(z0:σ):Option (Int×σ):=
 wz g0 m a0 a1 z0
theorem z7v{σ:Type}{Hc:σ→AHeap}{fi0:Fn}{ff0 fc0:List AVal}{g0:σ→Int→Option (Bool×σ)}(hg0:Clo Tryz.prog fi0 ff0 fc0 Hc (fun(x:Int)=>[.int .u8 x]) (fun(b:Bool)=>.bool b) g0){a0:List UInt8}{a1:Int}{z0:σ}{m:Option Nat}{o:Int×σ}(h:x3 g0 m a0 a1 z0=some o):LWp Tryz.prog ko 3 zaq (z3b Hc fi0 ff0 fc0 a0 a1 z0 o) (yi 0 [.str a0,i6 a1,.fn fi0 ff0 fc0]) ([]++Hc z0) 3:=by
 unfold x3 at h
 refine p2 (e:=[(0,.str a0),(1,i6 a1),(2,.fn fi0 ff0 fc0)]) (L:=([]++up 3 (Hc z0))) (n:=4) (zf1 (T:=Hc z0) (e':=yi 0 [.str a0,i6 a1,.fn fi0 ff0 fc0]) (e:=[(0,.str a0),(1,i6 a1),(2,.fn fi0 ff0 fc0)]) (lit':=[]) (lit:=[]) (hg0.tl z0) rfl rfl (S2 rfl rfl (AI (Vw.clo hg0.hf hg0.hc (by decide) (zjg _)) TT)) TT) ?_
 refine zl (y5 ?_)
 refine zl ?_
 refine ja ?_
 refine p2 ?_ (z7n hg0 h)
 exact zl8 (M:=[]) (lit':=[]) (hg0.tl _) rfl (S2 rfl rfl (AI (Vw.clo hg0.hf hg0.hc (by decide) (Wa (Z5 (n:=4) (q:=3) (lit':=[]) rfl))) TT)) TT
theorem Js{σ:Type}{Hc:σ→AHeap}{fi0:Fn}{ff0 fc0:List AVal}{g0:σ→Int→Option (Bool×σ)}(hg0:Clo Tryz.prog fi0 ff0 fc0 Hc (fun(x:Int)=>[.int .u8 x]) (fun(b:Bool)=>.bool b) g0){a0:List UInt8}{a1:Int}{z0:σ}{m:Option Nat}{o:Int×σ}(h:x3 g0 m a0 a1 z0=some o):ACalls Tryz.prog 95 [.str a0,i6 a1,.fn fi0 ff0 fc0] ([]++Hc z0) 3 (Z6 4 (i6 o.1) ([]++up 3 (Hc o.2))):=Qd (L:=zht) zgb zgg (NB rfl) (z7v hg0 h)
def zg0:LCode:=(.seq (.region [Qb 4])
 (.seq (.region [Qm 5 0,
  Qo 6 (.len true (.t 5)),
  Qm 7 1,
  Qo 8 (.len true (.t 7)),
  Qo 9 (.bin .geq (.t 6) (.t 8)),
  Qm 10 9,
  Qn 11 0 (10,true),
  Qn 12 1 (10,true),
  Qg 13 (.len true (.t 12)) (10,true),
  Qg 14 (.slStr (.t 11) none (some (.t 13))) (10,true),
  Qn 15 1 (10,true),
  Qg 16 (.bin .eql (.t 14) (.t 15)) (10,true),
  Qp 17 10 16,
  Qm 4 17])
 .ret))
def zad:Lay:=⟨18,[],false⟩
def z9d:List LRes:=[.t 4]
def zno:LFn:=⟨2,zad,zg0,z9d⟩
theorem zl2:w4 Tryz.prog [] 110=some zno:=by kernel_rfl
theorem zm2:uc Tryz.prog 110:=⟨_,Tryz.func110,rfl,rfl⟩
def xm(m:Option Nat)(a0:List UInt8)(a1:List UInt8):Option Bool:=
 if(((decide ((a0.length:Int)≥(a1.length:Int)))==true)=true→(0:Int)≤(a1.length:Int)∧(a1.length:Int)≤(a0.length:Int)) then
 some ((decide ((a0.length:Int)≥(a1.length:Int)))&&(((a0.take (a1.length:Int).toNat).drop 0)==a1))
 else none
def zsy(a0:List UInt8)(a1:List UInt8)(o:Bool):Exit→Env→AHeap→Nat→Prop:=Q0 z9d (jj (.bool o))
theorem zcl{a0:List UInt8}{a1:List UInt8}{m:Option Nat}{o:Bool}(h:xm m a0 a1=some o):LWp Tryz.prog zad 0 zg0 (zsy a0 a1 o) (yi 0 [.str a0,.str a1]) [] 0:=by
 unfold xm at h
 refine zl (y5 ?_)
 refine zl (y5 ?_)
 refine AI (fun hp=>hp) ?_
 obtain⟨h1,h⟩:=zk h
 refine AI (fun hp=>(AI (AI hp hp) (AI (Int.le_refl _) (h1 hp)))) ?_
 refine AI (fun hp=>(AI hp hp)) ?_
 refine AI (fun hc=>(bqt hc)) ?_
 refine p2 (e:=[(4,.bool ((decide ((a0.length:Int)≥(a1.length:Int)))&&(((a0.take (a1.length:Int).toNat).drop 0)==a1)))]) (L:=[]) (n:=0) ?_ ?_
 ·exact jq (M:=[]) rfl (AI (VS rfl) TT) TT
 refine vl ?_
 cases h
 exact AI TT (AI rfl (VS rfl))
theorem zob{a0:List UInt8}{a1:List UInt8}{m:Option Nat}{o:Bool}(h:xm m a0 a1=some o):PFn Tryz.prog 110 [.str a0,.str a1] (.bool o):=p9 (L:=zno) zl2 zm2 (NB rfl) rfl (zcl h)
def znb:LCode:=(.seq (.region [Qb 4])
 (.seq (.region [Qm 5 0,
  Qm 6 1,
  Qo 7 (.call 110 [(.t 5),(.t 6)]),
  Qm 4 7])
 .ret))
def zdr:Lay:=⟨8,[],false⟩
def zgs:List LRes:=[.t 4]
def zt4:LFn:=⟨2,zdr,znb,zgs⟩
theorem zrf:w4 Tryz.prog [] 73=some zt4:=by kernel_rfl
theorem zq7:uc Tryz.prog 73:=⟨_,Tryz.func73,rfl,rfl⟩
def xx(m:Option Nat)(a0:List UInt8)(a1:List UInt8):Option Bool:=
 (xm m a0 a1).bind fun v1=>
 some v1
def zwl(a0:List UInt8)(a1:List UInt8)(o:Bool):Exit→Env→AHeap→Nat→Prop:=Q0 zgs (jj (.bool o))
theorem zep{a0:List UInt8}{a1:List UInt8}{m:Option Nat}{o:Bool}(h:xx m a0 a1=some o):LWp Tryz.prog zdr 0 znb (zwl a0 a1 o) (yi 0 [.str a0,.str a1]) [] 0:=by
 unfold xx at h
 refine zl (y5 ?_)
 refine zl (y5 ?_)
 obtain⟨v1,h1,h⟩:=bind_some h
 refine p3 (zob h1) (S2 rfl rfl TT) ?_
 refine vl ?_
 cases h
 exact AI TT (AI rfl (VS rfl))
theorem zsz{a0:List UInt8}{a1:List UInt8}{m:Option Nat}{o:Bool}(h:xx m a0 a1=some o):PFn Tryz.prog 73 [.str a0,.str a1] (.bool o):=p9 (L:=zt4) zrf zq7 (NB rfl) rfl (zep h)
def z92:LCode:=(.seq (.region [Qb 2])
 (.seq (.region [Qm 3 0,
  Qo 4 (.bin .neq (.t 3) (.c (.int .u8 10))),
  Qm 2 4])
 .ret))
def z4f:Lay:=⟨5,[],false⟩
def z4g:List LRes:=[.t 2]
def zg1:LFn:=⟨1,z4f,z92,z4g⟩
theorem zer:w4 Tryz.prog [] 96=some zg1:=by kernel_rfl
theorem zdc:uc Tryz.prog 96:=⟨_,Tryz.func96,rfl,rfl⟩
def jf(m:Option Nat)(a0:Int):Option Bool:=
 some (a0 != 10)
def zp6(a0:Int)(o:Bool):Exit→Env→AHeap→Nat→Prop:=Q0 z4g (Jl 3 4 (.bool o) [])
theorem z7q{a0:Int}{m:Option Nat}{o:Bool}(h:jf m a0=some o):LWp Tryz.prog z4f 3 z92 (zp6 a0 o) (yi 0 [.int .u8 a0]) [] 3:=by
 unfold jf at h
 refine zl (y5 ?_)
 refine zl (y5 ?_)
 refine vl ?_
 cases h
 exact AI TT (znk (n':=3) [] [] rfl rfl (VS rfl) TT)
theorem zkw{a0:Int}{m:Option Nat}{o:Bool}(h:jf m a0=some o):ACalls Tryz.prog 96 [.int .u8 a0] [] 3 (Z6 4 (.bool o) []):=Qd (L:=zg1) zer zdc (NB rfl) (z7q h)
def zmz:LCode:=(.seq (.region [Qb 2])
 (.seq (.region [Qm 3 0,
  Qo 4 (.bin .geq (.t 3) (.c (.int .u8 97))),
  Qm 5 4,
  Qn 6 0 (5,true),
  Qg 7 (.bin .leq (.t 6) (.c (.int .u8 122))) (5,true),
  Qp 8 5 7,
  Qm 9 8,
  Qn 10 0 (9,false),
  Qg 11 (.bin .geq (.t 10) (.c (.int .u8 65))) (9,false),
  Qn 12 11 (9,false),
  Qn 13 0 (12,true),
  Qg 14 (.bin .leq (.t 13) (.c (.int .u8 90))) (12,true),
  Qg 15 (.pick (.t 12) (.t 14) (.c (.bool false))) (9,false),
  Qo 16 (.pick (.t 9) (.c (.bool true)) (.t 15)),
  Qm 17 16,
  Qn 18 0 (17,false),
  Qg 19 (.bin .eql (.t 18) (.c (.int .u8 95))) (17,false),
  Qo 20 (.pick (.t 17) (.c (.bool true)) (.t 19)),
  Qm 2 20])
 .ret))
def zhy:Lay:=⟨21,[],false⟩
def zde:List LRes:=[.t 2]
def ztq:LFn:=⟨1,zhy,zmz,zde⟩
theorem zq4:w4 Tryz.prog [] 97=some ztq:=by kernel_rfl
theorem zog:uc Tryz.prog 97:=⟨_,Tryz.func97,rfl,rfl⟩
def jg(m:Option Nat)(a0:Int):Option Bool:=
 some ((((decide (a0≥97))&&(decide (a0≤122))) || ((decide (a0≥65))&&(decide (a0≤90)))) || (a0==95))
def zw9(a0:Int)(o:Bool):Exit→Env→AHeap→Nat→Prop:=Q0 zde (jj (.bool o))
theorem zg9{a0:Int}{m:Option Nat}{o:Bool}(h:jg m a0=some o):LWp Tryz.prog zhy 0 zmz (zw9 a0 o) (yi 0 [.int .u8 a0]) [] 0:=by
 unfold jg at h
 refine zl (y5 ?_)
 refine zl (y5 ?_)
 refine AI (fun hp=>hp) ?_
 refine AI (fun hc=>(bqt hc)) ?_
 refine AI (fun hp=>hp) ?_
 refine AI (fun hp=>hp) ?_
 refine AI (fun hp=>hp) ?_
 refine AI (fun hp=>(AI hp (fun hc=>(zu7 hp (bqt hc))))) ?_
 refine AI (fun hc=>(bqf hc)) ?_
 refine AI (fun hp=>hp) ?_
 refine AI (fun hc=>(bqf hc)) ?_
 refine p2 (e:=[(2,.bool ((((decide (a0≥97))&&(decide (a0≤122))) || ((decide (a0≥65))&&(decide (a0≤90)))) || (a0==95)))]) (L:=[]) (n:=0) ?_ ?_
 ·exact jq (M:=[]) rfl (AI (VS rfl) TT) TT
 refine vl ?_
 cases h
 exact AI TT (AI rfl (VS rfl))
theorem zo9{a0:Int}{m:Option Nat}{o:Bool}(h:jg m a0=some o):PFn Tryz.prog 97 [.int .u8 a0] (.bool o):=p9 (L:=ztq) zq4 zog (NB rfl) rfl (zg9 h)
def zo0:LCode:=(.seq (.region [Qb 2])
 (.seq (.region [Qm 3 0,
  Qo 4 (.bin .geq (.t 3) (.c (.int .u8 48))),
  Qm 5 4,
  Qn 6 0 (5,true),
  Qg 7 (.bin .leq (.t 6) (.c (.int .u8 57))) (5,true),
  Qp 8 5 7,
  Qm 2 8])
 .ret))
def zh1:Lay:=⟨9,[],false⟩
def zgc:List LRes:=[.t 2]
def ztk:LFn:=⟨1,zh1,zo0,zgc⟩
theorem zqy:w4 Tryz.prog [] 99=some ztk:=by kernel_rfl
theorem zqn:uc Tryz.prog 99:=⟨_,Tryz.func99,rfl,rfl⟩
def jt(m:Option Nat)(a0:Int):Option Bool:=
 some ((decide (a0≥48))&&(decide (a0≤57)))
def zxk(a0:Int)(o:Bool):Exit→Env→AHeap→Nat→Prop:=Q0 zgc (jj (.bool o))
theorem zja{a0:Int}{m:Option Nat}{o:Bool}(h:jt m a0=some o):LWp Tryz.prog zh1 0 zo0 (zxk a0 o) (yi 0 [.int .u8 a0]) [] 0:=by
 unfold jt at h
 refine zl (y5 ?_)
 refine zl (y5 ?_)
 refine AI (fun hp=>hp) ?_
 refine AI (fun hc=>(bqt hc)) ?_
 refine p2 (e:=[(2,.bool ((decide (a0≥48))&&(decide (a0≤57))))]) (L:=[]) (n:=0) ?_ ?_
 ·exact jq (M:=[]) rfl (AI (VS rfl) TT) TT
 refine vl ?_
 cases h
 exact AI TT (AI rfl (VS rfl))
theorem zny{a0:Int}{m:Option Nat}{o:Bool}(h:jt m a0=some o):PFn Tryz.prog 99 [.int .u8 a0] (.bool o):=p9 (L:=ztk) zqy zqn (NB rfl) rfl (zja h)
def zax:LCode:=(.seq (.region [Qb 2])
 (.seq (.region [Qm 3 0,
  Qc 4 97 3,
  Qm 5 4,
  Qn 6 0 (5,false),
  Qg 7 (.call 99 [(.t 6)]) (5,false),
  Qo 8 (.pick (.t 5) (.c (.bool true)) (.t 7)),
  Qm 2 8])
 .ret))
def z5p:Lay:=⟨9,[],false⟩
def z3o:List LRes:=[.t 2]
def ze7:LFn:=⟨1,z5p,zax,z3o⟩
theorem zgk:w4 Tryz.prog [] 98=some ze7:=by kernel_rfl
theorem zh3:uc Tryz.prog 98:=⟨_,Tryz.func98,rfl,rfl⟩
def xe(m:Option Nat)(a0:Int):Option Bool:=
 (jg m a0).bind fun v1=>
 (if(v1==false)=true then jt m a0 else some default).bind fun v2=>
 some (v1 || v2)
def zre(a0:Int)(o:Bool):Exit→Env→AHeap→Nat→Prop:=Q0 z3o (Jl 3 4 (.bool o) [])
theorem z8k{a0:Int}{m:Option Nat}{o:Bool}(h:xe m a0=some o):LWp Tryz.prog z5p 3 zax (zre a0 o) (yi 0 [.int .u8 a0]) [] 3:=by
 unfold xe at h
 refine zl (y5 ?_)
 refine zl (y5 ?_)
 obtain⟨v1,h1,h⟩:=bind_some h
 refine p3 (zo9 h1) (AI (VS rfl) TT) ?_
 obtain⟨v2,h2,h⟩:=bind_some h
 refine Or.inl (EX (.bool v2) (AI (fun hp=>AI hp (p3 (zny (yq hp h2)) (AI (VS rfl) TT) (AI rfl (AI rfl rfl)))) ?_))
 refine AI (fun hc=>(bqf hc)) ?_
 refine p2 (e:=[(2,.bool (v1 || v2))]) (L:=[]) (n:=3) ?_ ?_
 ·exact jq (M:=[]) rfl (AI (VS rfl) TT) TT
 refine vl ?_
 cases h
 exact AI TT (znk (n':=3) [] [] rfl rfl (VS rfl) TT)
theorem zkg{a0:Int}{m:Option Nat}{o:Bool}(h:xe m a0=some o):ACalls Tryz.prog 98 [.int .u8 a0] [] 3 (Z6 4 (.bool o) []):=Qd (L:=ze7) zgk zh3 (NB rfl) (z8k h)
def uf(m:Option Nat):Option (List (List UInt8)):=some kwL
theorem zqm{m:Option Nat}{o:List (List UInt8)}(h:uf m=some o):PFn Tryz.prog 101 [] (.isl 1 (o.map uj) false):=by
 cases h
 exact zw2
def z85:LCode:=(.seq (.region [Qo 9 (.bin .lss (.t 8) (.t 7))])
 (.seq (.cond (.t 9)
  .skip
  (.exit 0))
 (.seq (.block 1
  (.seq (.region [Qm 10 8,
   Qm 5 10])
  (.seq (.region [Qm 11 1,
   Qm 12 0,
   Qm 13 5,
   Qo 14 (.iaddr 1 (.t 12) (.t 13)),
   Ql 15 1 14,
   Qo 16 (.bin .eql (.t 11) (.t 15))])
  (.cond (.t 16)
   (.seq (.region [Qm 17 5,
    Qm 4 17])
   .ret)
   .skip))))
 (.region [Qo 18 (.bin .add (.t 8) (.c (i6 1))),
  Qm 8 18]))))
def z3g:LCode:=(.seq (.region [Qo 4 (.mv (.c (i6 (-1))))])
 .ret)
def zjk:LCode:=(.seq (.region [Qi 4 0])
 (.seq (.seq (.region [Qm 6 0,
  Qo 7 (.len false (.t 6)),
  Qi 8 0])
 (.block 0
  (.loop
   z85)))
 z3g))
def Yr:Lay:=⟨19,[],false⟩
def zaj:List LRes:=[.t 4]
def zo6:LFn:=⟨2,Yr,zjk,zaj⟩
theorem zkq:w4 Tryz.prog [] 148=some zo6:=by kernel_rfl
theorem zmk:uc Tryz.prog 148:=⟨_,Tryz.func148,rfl,rfl⟩
def z90(a0:List (List UInt8))(a1:List UInt8)(o:Int):Exit→Env→AHeap→Nat→Prop:=Q0 zaj (jj (i6 o))
def Kx(a0:List (List UInt8))(a1:List UInt8)(s:Int):Env:=[(0,.isl 1 (a0.map uj) false),(1,.str a1),(7,i6 ((a0.map uj).length:Int)),(8,i6 s)]
def z16(a0:List (List UInt8))(a1:List UInt8)(s:Int):AHeap:=[]
def z52(a0:List (List UInt8))(a1:List UInt8)(o:Int):Exit→Env→AHeap→Nat→Prop:=(j4 0 (Qh Tryz.prog Yr 0 z3g (z90 a0 a1 o)))
def j9(m:Option Nat):Option Int:=
 some (-1)
def yz(m:Option Nat)(a0:List (List UInt8))(a1:List UInt8)(v1:Int):Option (Int ⊕ Int):=
 if(decide (v1<((a0.map uj).length:Int)))=true then
  if(0:Int)≤v1∧v1<((a0.map uj).length:Int) then
  if(a1==(a0.getD v1.toNat default))=true then
   p4 pA (
    some v1)
  else
   some (.inl (W (v1+1)))
  else none
 else
  p4 pA (
   j9 m)
def qv(m:Option Nat)(a0:List (List UInt8))(a1:List UInt8)(v1:Int):Option Int:=Zf m (fun(s:Int)=>yz m a0 a1 s) v1
theorem zcn{a0:List (List UInt8)}{a1:List UInt8}{m:Option Nat}{o:Int}(h:j9 m=some o) :
 LWp Tryz.prog Yr 0 z3g (z90 a0 a1 o) [] [] 0:=by
 unfold j9 at h
 refine zl (y5 ?_)
 refine vl ?_
 cases h
 exact AI TT (AI rfl (VS rfl))
theorem z74{a0:List (List UInt8)}{a1:List UInt8}{v1:Int}{m:Option Nat}{o:Int ⊕ Int}(h:yz m a0 a1 v1=some o) :
 LWp Tryz.prog Yr 0 z85 (Zg 0 0 (Kx a0 a1) (z16 a0 a1) (z52 a0 a1) o) [(0,.isl 1 (a0.map uj) false),(1,.str a1),(7,i6 ((a0.map uj).length:Int)),(8,i6 v1)] [] 0:=by
 unfold yz at h
 refine zl (y5 ?_)
 refine zl ?_
 refine j0 (v:=(decide (v1<((a0.map uj).length:Int)))) rfl TT (fun h7=>?_) (fun h7=>?_)
 ·have h:=yq h7 h
  refine jw ?_
  refine zl ?_
  refine ja ?_
  refine zl (y5 ?_)
  refine zl (y5 ?_)
  obtain⟨h8,h⟩:=zk h
  refine AI h8 ?_
  refine EX (uj (a0.getD v1.toNat default)) (AI (qt uj _ _ (xr uj h8)) (AI (AI (wa h8) (NB rfl)) ?_))
  refine p2 (e:=[(0,.isl 1 (a0.map uj) false),(1,.str a1),(5,i6 v1),(7,i6 ((a0.map uj).length:Int)),(8,i6 v1),(16,.bool (a1==(a0.getD v1.toNat default)))]) (L:=[]) (n:=0) ?_ ?_
  ·exact jq (M:=[]) rfl (S4 rfl rfl rfl rfl (S2 rfl rfl TT)) TT
  refine j0 (v:=(a1==(a0.getD v1.toNat default))) rfl TT (fun h9=>?_) (fun h9=>?_)
  ·have h:=yq h9 h
   refine zl (y5 ?_)
   refine vl ?_
   obtain⟨o,hq,rfl⟩:=p1.1 h
   replace h:=hq;clear hq
   refine AI nofun ?_
   cases h
   exact AI TT (AI rfl (VS rfl))
  ·have h:=qc h9 h
   refine jw ?_
   refine y5 ?_
   cases h
   exact AI rfl (jq (M:=[]) rfl (S4 rfl rfl rfl rfl TT) TT)
 ·have h:=qc h7 h
  refine Xn ?_
  obtain⟨o,hq,rfl⟩:=p1.1 h
  replace h:=hq;clear hq
  refine AI nofun ?_
  refine p2 ?_ (zcn h)
  exact jq (M:=[]) rfl TT TT
theorem zd3{a0:List (List UInt8)}{a1:List UInt8}{v1:Int}{m:Option Nat}{o:Int}(h:qv m a0 a1 v1=some o) :
 LWp Tryz.prog Yr 0 (.loop z85) (j4 0 (Qh Tryz.prog Yr 0 z3g (z90 a0 a1 o))) [(0,.isl 1 (a0.map uj) false),(1,.str a1),(7,i6 ((a0.map uj).length:Int)),(8,i6 v1)] [] 0:=
 ji (m:=m) (s:=(v1:Int)) (r:=o) (fun(s:Int)=>yz m a0 a1 s) (Kx a0 a1) (z16 a0 a1) (z52 a0 a1) (fun s o h=>z74 h) h
def j8(m:Option Nat)(a0:List (List UInt8))(a1:List UInt8):Option Int:=
 qv m a0 a1 0
theorem zbi{a0:List (List UInt8)}{a1:List UInt8}{m:Option Nat}{o:Int}(h:j8 m a0 a1=some o):LWp Tryz.prog Yr 0 zjk (z90 a0 a1 o) (yi 0 [.isl 1 (a0.map uj) false,.str a1]) [] 0:=by
 unfold j8 at h
 refine zl (y5 ?_)
 refine zl ?_
 refine zl (y5 ?_)
 refine ja ?_
 refine p2 ?_ (zd3 h)
 exact jq (M:=[]) rfl (S4 rfl rfl rfl rfl TT) TT
theorem zq3{a0:List (List UInt8)}{a1:List UInt8}{m:Option Nat}{o:Int}(h:j8 m a0 a1=some o):PFn Tryz.prog 148 [.isl 1 (a0.map uj) false,.str a1] (i6 o):=p9 (L:=zo6) zkq zmk (NB rfl) rfl (zbi h)
def zdy:LCode:=(.seq (.region [Qb 4])
 (.seq (.region [Qm 5 0,
  Qm 6 1,
  Qo 7 (.call 148 [(.t 5),(.t 6)]),
  Qo 8 (.bin .geq (.t 7) (.c (i6 0))),
  Qm 4 8])
 .ret))
def zac:Lay:=⟨9,[],false⟩
def z8y:List LRes:=[.t 4]
def znj:LFn:=⟨2,zac,zdy,z8y⟩
theorem zme:w4 Tryz.prog [] 100=some znj:=by kernel_rfl
theorem zjv:uc Tryz.prog 100:=⟨_,Tryz.func100,rfl,rfl⟩
def yh(m:Option Nat)(a0:List (List UInt8))(a1:List UInt8):Option Bool:=
 (j8 m a0 a1).bind fun v1=>
 some (decide (v1≥0))
def ztj(a0:List (List UInt8))(a1:List UInt8)(o:Bool):Exit→Env→AHeap→Nat→Prop:=Q0 z8y (jj (.bool o))
theorem zcw{a0:List (List UInt8)}{a1:List UInt8}{m:Option Nat}{o:Bool}(h:yh m a0 a1=some o):LWp Tryz.prog zac 0 zdy (ztj a0 a1 o) (yi 0 [.isl 1 (a0.map uj) false,.str a1]) [] 0:=by
 unfold yh at h
 refine zl (y5 ?_)
 refine zl (y5 ?_)
 obtain⟨v1,h1,h⟩:=bind_some h
 refine p3 (zq3 h1) (S2 rfl rfl TT) ?_
 refine vl ?_
 cases h
 exact AI TT (AI rfl (VS rfl))
theorem zey{a0:List (List UInt8)}{a1:List UInt8}{m:Option Nat}{o:Bool}(h:yh m a0 a1=some o):PFn Tryz.prog 100 [.isl 1 (a0.map uj) false,.str a1] (.bool o):=p9 (L:=znj) zme zjv (NB rfl) rfl (zcw h)
def z8x:LCode:=(.seq (.region [Qb 2])
 (.seq (.region [Qm 3 0,
  Qo 4 (.bin .geq (.t 3) (.c (.int .u8 48))),
  Qm 5 4,
  Qn 6 0 (5,true),
  Qg 7 (.bin .leq (.t 6) (.c (.int .u8 57))) (5,true),
  Qp 8 5 7,
  Qm 2 8])
 .ret))
def z6g:Lay:=⟨9,[],false⟩
def z5q:List LRes:=[.t 2]
def zfh:LFn:=⟨1,z6g,z8x,z5q⟩
theorem ziv:w4 Tryz.prog [] 99=some zfh:=by kernel_rfl
theorem ziw:uc Tryz.prog 99:=⟨_,Tryz.func99,rfl,rfl⟩
def jd(m:Option Nat)(a0:Int):Option Bool:=
 some ((decide (a0≥48))&&(decide (a0≤57)))
def zqp(a0:Int)(o:Bool):Exit→Env→AHeap→Nat→Prop:=Q0 z5q (Jl 3 4 (.bool o) [])
theorem z8p{a0:Int}{m:Option Nat}{o:Bool}(h:jd m a0=some o):LWp Tryz.prog z6g 3 z8x (zqp a0 o) (yi 0 [.int .u8 a0]) [] 3:=by
 unfold jd at h
 refine zl (y5 ?_)
 refine zl (y5 ?_)
 refine AI (fun hp=>hp) ?_
 refine AI (fun hc=>(bqt hc)) ?_
 refine p2 (e:=[(2,.bool ((decide (a0≥48))&&(decide (a0≤57))))]) (L:=[]) (n:=3) ?_ ?_
 ·exact jq (M:=[]) rfl (AI (VS rfl) TT) TT
 refine vl ?_
 cases h
 exact AI TT (znk (n':=3) [] [] rfl rfl (VS rfl) TT)
theorem zlf{a0:Int}{m:Option Nat}{o:Bool}(h:jd m a0=some o):ACalls Tryz.prog 99 [.int .u8 a0] [] 3 (Z6 4 (.bool o) []):=Qd (L:=zfh) ziv ziw (NB rfl) (z8p h)
def z4l:LCode:=(.seq (.region [Qb 2])
 (.seq (.region [Qm 3 0,
  Qo 4 (.bin .neq (.t 3) (.c (.int .u8 10))),
  Qm 2 4])
 .ret))
def z0w:Lay:=⟨5,[],false⟩
def z11:List LRes:=[.t 2]
def zak:LFn:=⟨1,z0w,z4l,z11⟩
theorem zbl:w4 Tryz.prog [] 150=some zak:=by kernel_rfl
theorem zcb:uc Tryz.prog 150:=⟨_,Tryz.func150,rfl,rfl⟩
def yr(m:Option Nat)(a0:Int):Option Bool:=
 some (a0 != 10)
def zm0(a0:Int)(o:Bool):Exit→Env→AHeap→Nat→Prop:=Q0 z11 (Jl 3 4 (.bool o) [])
theorem z55{a0:Int}{m:Option Nat}{o:Bool}(h:yr m a0=some o):LWp Tryz.prog z0w 3 z4l (zm0 a0 o) (yi 0 [.int .u8 a0]) [] 3:=by
 unfold yr at h
 refine zl (y5 ?_)
 refine zl (y5 ?_)
 refine vl ?_
 cases h
 exact AI TT (znk (n':=3) [] [] rfl rfl (VS rfl) TT)
theorem zgq{a0:Int}{m:Option Nat}{o:Bool}(h:yr m a0=some o):ACalls Tryz.prog 150 [.int .u8 a0] [] 3 (Z6 4 (.bool o) []):=Qd (L:=zak) zbl zcb (NB rfl) (z55 h)
def zfd:LCode:=(.region [Qm 15 4,
 Qo 16 (.bin .add (.t 15) (.c (i6 1))),
 Qm 4 16])
def z6u:LCode:=(.seq (.seq (.region [Qm 5 4,
 Qm 6 0,
 Qo 7 (.len true (.t 6)),
 Qo 8 (.bin .lss (.t 5) (.t 7)),
 Qm 9 8,
 Qn 10 0 (9,true),
 Qn 11 4 (9,true),
 Qg 12 (.idxS (.t 10) (.t 11)) (9,true),
 Qg 13 (.bin .neq (.t 12) (.c (.int .u8 10))) (9,true),
 Qp 14 9 13])
 (.cond (.t 14)
  .skip
  (.exit 0)))
 (.seq (.block 1
  (.block 2
   (.seq (.region [Qm 18 0,
    Qm 19 4,
    Qo 20 (.idxS (.t 18) (.t 19)),
    Qo 21 (.bin .eql (.t 20) (.c (.int .u8 34))),
    Qm 17 21])
   (.cond (.t 17)
    (.seq (.region [Qm 22 4,
     Qo 23 (.bin .add (.t 22) (.c (i6 1))),
     Qm 2 23,
     Qi 3 106])
    .ret)
    (.seq (.region [Qm 25 0,
     Qm 26 4,
     Qo 27 (.idxS (.t 25) (.t 26)),
     Qo 28 (.bin .eql (.t 27) (.c (.int .u8 92))),
     Qm 29 28,
     Qn 30 4 (29,true),
     Qg 31 (.bin .add (.t 30) (.c (i6 1))) (29,true),
     Qn 32 0 (29,true),
     Qg 33 (.len true (.t 32)) (29,true),
     Qg 34 (.bin .lss (.t 31) (.t 33)) (29,true),
     Qp 35 29 34,
     Qm 36 35,
     Qn 37 0 (36,true),
     Qn 38 4 (36,true),
     Qg 39 (.bin .add (.t 38) (.c (i6 1))) (36,true),
     Qg 40 (.idxS (.t 37) (.t 39)) (36,true),
     Qg 41 (.bin .neq (.t 40) (.c (.int .u8 10))) (36,true),
     Qp 42 36 41,
     Qm 24 42])
    (.cond (.t 24)
     (.region [Qm 43 4,
      Qo 44 (.bin .add (.t 43) (.c (i6 1))),
      Qm 4 44])
     .skip))))))
 zfd))
def z2w:LCode:=(.seq (.region [Qm 45 0,
 Qo 46 (.call 95 [(.t 45),(.c (i6 1)),(.c (.fn (.func 150) [] []))]),
 Qm 2 46,
 Qi 3 108])
 .ret)
def zjb:LCode:=(.seq (.region [Qi 2 0,
 Qi 3 0])
 (.seq (.seq (.region [Qi 4 1])
 (.block 0
  (.loop
   z6u)))
 z2w))
def Zi:Lay:=⟨47,[],false⟩
def z9f:List LRes:=[.t 2,.t 3]
def zne:LFn:=⟨1,Zi,zjb,z9f⟩
theorem zk6:w4 Tryz.prog [] 102=some zne:=by kernel_rfl
theorem zko:uc Tryz.prog 102:=⟨_,Tryz.func102,rfl,rfl⟩
def zav(a0:List UInt8)(o:Int×Int):Exit→Env→AHeap→Nat→Prop:=Q0 z9f (jj (.tup [i6 o.1,i6 o.2]))
def J8(a0:List UInt8)(s:Int):Env:=[(0,.str a0),(4,i6 s)]
def V4(a0:List UInt8)(s:Int):AHeap:=[]
def z01(a0:List UInt8)(o:(Int×Int)):Exit→Env→AHeap→Nat→Prop:=(j4 0 (Qh Tryz.prog Zi 0 z2w (zav a0 o)))
def xi(m:Option Nat)(a0:List UInt8)(v4:Int):Option (Int ⊕ (Int×Int)):=
 some (.inl (W (v4+1)))
theorem z26{a0:List UInt8}{v4:Int}{m:Option Nat}{o:(Int ⊕ (Int×Int))}(h:xi m a0 v4=some o) :
 LWp Tryz.prog Zi 0 zfd (Zg 0 0 (J8 a0) (V4 a0) (z01 a0) o) [(0,.str a0),(4,i6 v4)] [] 0:=by
 unfold xi at h
 refine y5 ?_
 cases h
 exact AI rfl (jq (M:=[]) rfl (S2 rfl rfl TT) TT)
def j5(m:Option Nat)(a0:List UInt8):Option (Int×Int):=
 (x3 (fun(s:Unit) (x:Int)=>(yr m x).map fun o=>(o,())) m a0 1 ()).bind fun v5=>
 some (v5.1,108)
def x4(m:Option Nat)(a0:List UInt8)(v2:Int):Option (Int ⊕ (Int×Int)):=
 if(((decide (v2<(a0.length:Int)))==true)=true→(0:Int)≤v2∧v2<(a0.length:Int)) then
 if((decide (v2<(a0.length:Int)))&&((((a0.getD v2.toNat 0).toNat:Nat):Int) != 10))=true then
  if(0:Int)≤v2∧v2<(a0.length:Int) then
  if((((a0.getD v2.toNat 0).toNat:Nat):Int)==34)=true then
   p4 pA (
    some ((W (v2+1)),106))
  else
   if(0:Int)≤v2∧v2<(a0.length:Int) then
   if(((((((a0.getD v2.toNat 0).toNat:Nat):Int)==92)&&(decide ((W (v2+1))<(a0.length:Int))))==true)=true→(0:Int)≤(W (v2+1))∧(W (v2+1))<(a0.length:Int)) then
   if((((((a0.getD v2.toNat 0).toNat:Nat):Int)==92)&&(decide ((W (v2+1))<(a0.length:Int))))&&((((a0.getD (W (v2+1)).toNat 0).toNat:Nat):Int) != 10))=true then
    xi m a0 (W (v2+1))
   else
    xi m a0 v2
   else none
   else none
  else none
 else
  p4 pA (
   j5 m a0)
 else none
def x5(m:Option Nat)(a0:List UInt8)(v2:Int):Option (Int×Int):=Zf m (fun(s:Int)=>x4 m a0 s) v2
theorem zch{a0:List UInt8}{m:Option Nat}{o:(Int×Int)}(h:j5 m a0=some o) :
 LWp Tryz.prog Zi 0 z2w (zav a0 o) [(0,.str a0)] [] 0:=by
 unfold j5 at h
 refine zl (y5 ?_)
 obtain⟨v5,h22,h⟩:=bind_some h
 refine z37 (k:=3) (m:=1) (L':=[]) (rest:=[]) (R':=i6 v5.1) [] (Js (show Clo Tryz.prog (.func 150) [] [] (fun(s:Unit)=>[]) (fun(x:Int)=>[.int .u8 x]) (fun(b:Bool)=>.bool b) (fun(s:Unit) (x:Int)=>(yr m x).map fun o=>(o,())) from Clo.mk' (fun s=>Tl.lit rfl TT rfl) rfl rfl (fun _=>rfl) (fun s x o h=>by obtain⟨o1,h1,rfl⟩:=p1.1 h;exact EX _ (AI (zgq h1) TT))) h22) rfl rfl rfl (S2 rfl rfl (AI (VS rfl) TT)) TT (ug _ rfl) TT rfl ?_
 refine vl ?_
 cases h
 exact AI TT (AI TT (AI rfl (VS rfl)))
theorem z82{a0:List UInt8}{v2:Int}{m:Option Nat}{o:Int ⊕ (Int×Int)}(h:x4 m a0 v2=some o) :
 LWp Tryz.prog Zi 0 z6u (Zg 0 0 (J8 a0) (V4 a0) (z01 a0) o) [(0,.str a0),(4,i6 v2)] [] 0:=by
 unfold x4 at h
 refine zl ?_
 refine zl (y5 ?_)
 obtain⟨h15,h⟩:=zk h
 refine AI (fun hp=>(AI (AI hp hp) (h15 hp))) ?_
 refine AI (fun hp=>hp) ?_
 refine AI (fun hc=>(bqt hc)) ?_
 refine p2 (e:=[(0,.str a0),(4,i6 v2),(14,.bool ((decide (v2<(a0.length:Int)))&&((((a0.getD v2.toNat 0).toNat:Nat):Int) != 10)))]) (L:=[]) (n:=0) ?_ ?_
 ·exact jq (M:=[]) rfl (S2 rfl rfl (AI (VS rfl) TT)) TT
 refine j0 (v:=((decide (v2<(a0.length:Int)))&&((((a0.getD v2.toNat 0).toNat:Nat):Int) != 10))) rfl TT (fun h16=>?_) (fun h16=>?_)
 ·have h:=yq h16 h
  refine jw ?_
  refine zl ?_
  refine ja ?_
  refine ja ?_
  refine zl (y5 ?_)
  obtain⟨h17,h⟩:=zk h
  refine AI h17 ?_
  refine j0 (v:=((((a0.getD v2.toNat 0).toNat:Nat):Int)==34)) rfl TT (fun h18=>?_) (fun h18=>?_)
  ·have h:=yq h18 h
   refine zl (y5 ?_)
   refine p2 (e:=[(2,i6 (W (v2+1))),(3,i6 106)]) (L:=[]) (n:=0) ?_ ?_
   ·exact jq (M:=[]) rfl (S2 rfl rfl TT) TT
   refine vl ?_
   obtain⟨o,hq,rfl⟩:=p1.1 h
   replace h:=hq;clear hq
   refine AI nofun ?_
   cases h
   exact AI TT (AI TT (AI rfl (VS rfl)))
  ·have h:=qc h18 h
   refine zl (y5 ?_)
   obtain⟨h19,h⟩:=zk h
   refine AI h19 ?_
   refine AI (fun hp=>hp) ?_
   refine AI (fun hp=>hp) ?_
   refine AI (fun hp=>(AI hp hp)) ?_
   refine AI (fun hc=>(bqt hc)) ?_
   refine AI (fun hp=>hp) ?_
   obtain⟨h20,h⟩:=zk h
   refine AI (fun hp=>(AI (AI hp hp) (h20 hp))) ?_
   refine AI (fun hp=>hp) ?_
   refine AI (fun hc=>(bqt hc)) ?_
   refine p2 (e:=[(0,.str a0),(4,i6 v2),(24,.bool ((((((a0.getD v2.toNat 0).toNat:Nat):Int)==92)&&(decide ((W (v2+1))<(a0.length:Int))))&&((((a0.getD (W (v2+1)).toNat 0).toNat:Nat):Int) != 10)))]) (L:=[]) (n:=0) ?_ ?_
   ·exact jq (M:=[]) rfl (S2 rfl rfl (AI (VS rfl) TT)) TT
   refine j0 (v:=((((((a0.getD v2.toNat 0).toNat:Nat):Int)==92)&&(decide ((W (v2+1))<(a0.length:Int))))&&((((a0.getD (W (v2+1)).toNat 0).toNat:Nat):Int) != 10))) rfl TT (fun h21=>?_) (fun h21=>?_)
   ·have h:=yq h21 h
    refine y5 ?_
    refine p2 ?_ (z26 h)
    exact jq (M:=[]) rfl (S2 rfl rfl TT) TT
   ·have h:=qc h21 h
    refine jw ?_
    refine p2 ?_ (z26 h)
    exact jq (M:=[]) rfl (S2 rfl rfl TT) TT
 ·have h:=qc h16 h
  refine Xn ?_
  obtain⟨o,hq,rfl⟩:=p1.1 h
  replace h:=hq;clear hq
  refine AI nofun ?_
  refine p2 ?_ (zch h)
  exact jq (M:=[]) rfl (AI (VS rfl) TT) TT
theorem zbn{a0:List UInt8}{v2:Int}{m:Option Nat}{o:(Int×Int)}(h:x5 m a0 v2=some o) :
 LWp Tryz.prog Zi 0 (.loop z6u) (j4 0 (Qh Tryz.prog Zi 0 z2w (zav a0 o))) [(0,.str a0),(4,i6 v2)] [] 0:=
 ji (m:=m) (s:=(v2:Int)) (r:=o) (fun(s:Int)=>x4 m a0 s) (J8 a0) (V4 a0) (z01 a0) (fun s o h=>z82 h) h
def w8(m:Option Nat)(a0:List UInt8):Option (Int×Int):=
 x5 m a0 1
theorem zbv{a0:List UInt8}{m:Option Nat}{o:Int×Int}(h:w8 m a0=some o):LWp Tryz.prog Zi 0 zjb (zav a0 o) (yi 0 [.str a0]) [] 0:=by
 unfold w8 at h
 refine zl (y5 ?_)
 refine zl ?_
 refine zl (y5 ?_)
 refine ja ?_
 refine p2 ?_ (zbn h)
 exact jq (M:=[]) rfl (S2 rfl rfl TT) TT
theorem zom{a0:List UInt8}{m:Option Nat}{o:Int×Int}(h:w8 m a0=some o):PFn Tryz.prog 102 [.str a0] (.tup [i6 o.1,i6 o.2]):=p9 (L:=zne) zk6 zko (NB rfl) rfl (zbv h)
def vj(m:Option Nat):Option (List (List UInt8)):=some tpL
theorem zrm{m:Option Nat}{o:List (List UInt8)}(h:vj m=some o):PFn Tryz.prog 103 [] (.isl 1 (o.map uj) false):=by
 cases h
 exact zx8
def zo4:LCode:=(.seq (.region [Qi 2 0,
 Qi 3 0])
 (.seq (.seq (.region [Qm 6 0,
  Qo 7 (.idxS (.t 6) (.c (i6 0))),
  Qm 4 7])
 (.block 0
  (.seq (.region [Qm 9 4,
   Qc 10 94 9,
   Qm 8 10])
  (.cond (.t 8)
   (.seq (.region [Qm 11 0,
    Qo 12 (.call 95 [(.t 11),(.c (i6 0)),(.c (.fn (.func 94) [] []))]),
    Qm 2 12,
    Qi 3 101])
   .ret)
   (.seq (.region [Qm 14 0,
    Qo 15 (.call 73 [(.t 14),(.c (.str [47,47]))]),
    Qm 13 15])
   (.cond (.t 13)
    (.seq (.region [Qm 16 0,
     Qo 17 (.call 95 [(.t 16),(.c (i6 0)),(.c (.fn (.func 96) [] []))]),
     Qm 2 17,
     Qi 3 102])
    .ret)
    (.seq (.region [Qm 19 4,
     Qc 20 97 19,
     Qm 18 20])
    (.cond (.t 18)
     (.seq (.region [Qm 21 0,
      Qo 22 (.call 95 [(.t 21),(.c (i6 0)),(.c (.fn (.func 98) [] []))]),
      Qm 5 22])
     (.seq (.seq (.draw [⟨Qm 24 0,[]⟩,
      ⟨Qm 25 5,[]⟩,
      ⟨Qo 26 (.slStr (.t 24) none (some (.t 25))),[]⟩,
      ⟨Qo 23 (.call 101 []),[]⟩,
      ⟨Qo 27 (.call 100 [(.t 23),(.t 26)]),[]⟩])
     (.cond (.t 27)
      (.seq (.region [Qm 28 5,
       Qm 2 28,
       Qi 3 104])
      .ret)
      .skip))
     (.seq (.region [Qm 29 5,
      Qm 2 29,
      Qi 3 103])
     .ret)))
     (.seq (.region [Qm 31 4,
      Qc 32 99 31,
      Qm 30 32])
     (.cond (.t 30)
      (.seq (.region [Qm 33 0,
       Qo 34 (.call 95 [(.t 33),(.c (i6 0)),(.c (.fn (.func 99) [] []))]),
       Qm 2 34,
       Qi 3 105])
      .ret)
      (.seq (.region [Qm 36 4,
       Qo 37 (.bin .eql (.t 36) (.c (.int .u8 34))),
       Qm 35 37])
      (.cond (.t 35)
       (.seq (.region [Qm 38 0,
        Qc 39 102 38,
        Qo 40 (.ext 0 (.t 39)),
        Qo 41 (.ext 1 (.t 39)),
        Qm 2 40,
        Qm 3 41])
       .ret)
       (.seq (.draw [⟨Qm 43 0,[]⟩,
        ⟨Qo 44 (.len true (.t 43)),[]⟩,
        ⟨Qo 45 (.bin .gtr (.t 44) (.c (i6 1))),[]⟩,
        ⟨Qm 46 45,[]⟩,
        ⟨Qn 48 0 (46,true),[]⟩,
        ⟨Qg 49 (.slStr (.t 48) none (some (.c (i6 2)))) (46,true),[]⟩,
        ⟨Qg 47 (.call 103 []) (46,true),[]⟩,
        ⟨Qg 50 (.call 100 [(.t 47),(.t 49)]) (46,true),[]⟩,
        ⟨Qp 51 46 50,[]⟩,
        ⟨Qm 42 51,[]⟩])
       (.cond (.t 42)
        (.seq (.region [Qi 2 2,
         Qi 3 107])
        .ret)
        (.seq (.region [Qm 53 4,
         Qo 54 (.call 104 [(.c (.str [40,41,123,125,91,93,60,62,44,59,58,46,61,43,45,42,47,33,38,124])),(.t 53)]),
         Qo 55 (.bin .geq (.t 54) (.c (i6 0))),
         Qm 52 55])
        (.cond (.t 52)
         (.seq (.region [Qi 2 1,
          Qi 3 107])
         .ret)
         .skip))))))))))))))))
 (.seq (.region [Qi 2 1,
  Qi 3 108])
 .ret)))
def zfz:Lay:=⟨56,[],false⟩
def zhr:List LRes:=[.t 2,.t 3]
def zu9:LFn:=⟨1,zfz,zo4,zhr⟩
theorem zp3:w4 Tryz.prog [] 63=some zu9:=by kernel_rfl
theorem zr6:uc Tryz.prog 63:=⟨_,Tryz.func63,rfl,rfl⟩
def vh(m:Option Nat)(a0:List UInt8):Option (Int×Int):=
 if(0:Int)≤0∧0<(a0.length:Int) then
 (wu m (((a0.getD (0:Int).toNat 0).toNat:Nat):Int)).bind fun v1=>
 if v1=true then
  (x3 (fun(s:Unit) (x:Int)=>(jh m x).map fun o=>(o,())) m a0 0 ()).bind fun v2=>
  some (v2.1,101)
 else
  (xx m a0 ([47,47]:List UInt8)).bind fun v3=>
  if v3=true then
   (x3 (fun(s:Unit) (x:Int)=>(jf m x).map fun o=>(o,())) m a0 0 ()).bind fun v4=>
   some (v4.1,102)
  else
   (jg m (((a0.getD (0:Int).toNat 0).toNat:Nat):Int)).bind fun v5=>
   if v5=true then
    (x3 (fun(s:Unit) (x:Int)=>(xe m x).map fun o=>(o,())) m a0 0 ()).bind fun v6=>
    if(0:Int)≤v6.1∧v6.1≤(a0.length:Int) then
    (uf m).bind fun v7=>
    (yh m v7 ((a0.take v6.1.toNat).drop 0)).bind fun v8=>
    if v8=true then
     some (v6.1,104)
    else
     some (v6.1,103)
    else none
   else
    (jt m (((a0.getD (0:Int).toNat 0).toNat:Nat):Int)).bind fun v9=>
    if v9=true then
     (x3 (fun(s:Unit) (x:Int)=>(jd m x).map fun o=>(o,())) m a0 0 ()).bind fun v10=>
     some (v10.1,105)
    else
     if((((a0.getD (0:Int).toNat 0).toNat:Nat):Int)==34)=true then
      (w8 m a0).bind fun v11=>
      some (v11.1,v11.2)
     else
      if(((decide ((a0.length:Int) > 1))==true)=true→(0:Int)≤2∧2≤(a0.length:Int)) then
      (if((decide ((a0.length:Int) > 1))==true)=true then vj m else some default).bind fun v12=>
      (if((decide ((a0.length:Int) > 1))==true)=true then yh m v12 ((a0.take (2:Int).toNat).drop 0) else some default).bind fun v13=>
      if((decide ((a0.length:Int) > 1))&&v13)=true then
       some (2,107)
      else
       (jr m ([40,41,123,125,91,93,60,62,44,59,58,46,61,43,45,42,47,33,38,124]:List UInt8) (((a0.getD (0:Int).toNat 0).toNat:Nat):Int)).bind fun v14=>
       if(decide (v14≥0))=true then
        some (1,107)
       else
        some (1,108)
      else none
 else none
def zxn(a0:List UInt8)(o:Int×Int):Exit→Env→AHeap→Nat→Prop:=Q0 zhr (jj (.tup [i6 o.1,i6 o.2]))
theorem zel{a0:List UInt8}{m:Option Nat}{o:Int×Int}(h:vh m a0=some o):LWp Tryz.prog zfz 0 zo4 (zxn a0 o) (yi 0 [.str a0]) [] 0:=by
 unfold vh at h
 refine zl (y5 ?_)
 refine zl ?_
 refine zl (y5 ?_)
 obtain⟨h1,h⟩:=zk h
 refine AI h1 ?_
 refine ja ?_
 refine zl (y5 ?_)
 obtain⟨v1,h2,h⟩:=bind_some h
 refine p3 (zs4 h2) (AI (VS rfl) TT) ?_
 refine p2 (e:=[(0,.str a0),(4,.int .u8 (((a0.getD (0:Int).toNat 0).toNat:Nat):Int)),(8,.bool v1)]) (L:=[]) (n:=0) ?_ ?_
 ·exact jq (M:=[]) rfl (S2 rfl rfl (AI (VS rfl) TT)) TT
 refine j0 (v:=v1) rfl TT (fun h3=>?_) (fun h3=>?_)
 ·have h:=yq h3 h
  refine zl (y5 ?_)
  obtain⟨v2,h4,h⟩:=bind_some h
  refine z37 (k:=3) (m:=1) (L':=[]) (rest:=[]) (R':=i6 v2.1) [] (Js (show Clo Tryz.prog (.func 94) [] [] (fun(s:Unit)=>[]) (fun(x:Int)=>[.int .u8 x]) (fun(b:Bool)=>.bool b) (fun(s:Unit) (x:Int)=>(jh m x).map fun o=>(o,())) from Clo.mk' (fun s=>Tl.lit rfl TT rfl) rfl rfl (fun _=>rfl) (fun s x o h=>by obtain⟨o1,h1,rfl⟩:=p1.1 h;exact EX _ (AI (zkj h1) TT))) h4) rfl rfl rfl (S2 rfl rfl (AI (VS rfl) TT)) TT (ug _ rfl) TT rfl ?_
  refine vl ?_
  cases h
  exact AI TT (AI TT (AI rfl (VS rfl)))
 ·have h:=qc h3 h
  refine zl (y5 ?_)
  obtain⟨v3,h5,h⟩:=bind_some h
  refine p3 (zsz h5) (S2 rfl rfl TT) ?_
  refine j0 (v:=v3) rfl TT (fun h6=>?_) (fun h6=>?_)
  ·have h:=yq h6 h
   refine zl (y5 ?_)
   obtain⟨v4,h7,h⟩:=bind_some h
   refine z37 (k:=3) (m:=1) (L':=[]) (rest:=[]) (R':=i6 v4.1) [] (Js (show Clo Tryz.prog (.func 96) [] [] (fun(s:Unit)=>[]) (fun(x:Int)=>[.int .u8 x]) (fun(b:Bool)=>.bool b) (fun(s:Unit) (x:Int)=>(jf m x).map fun o=>(o,())) from Clo.mk' (fun s=>Tl.lit rfl TT rfl) rfl rfl (fun _=>rfl) (fun s x o h=>by obtain⟨o1,h1,rfl⟩:=p1.1 h;exact EX _ (AI (zkw h1) TT))) h7) rfl rfl rfl (S2 rfl rfl (AI (VS rfl) TT)) TT (ug _ rfl) TT rfl ?_
   refine vl ?_
   cases h
   exact AI TT (AI TT (AI rfl (VS rfl)))
  ·have h:=qc h6 h
   refine zl (y5 ?_)
   obtain⟨v5,h8,h⟩:=bind_some h
   refine p3 (zo9 h8) (AI (VS rfl) TT) ?_
   refine j0 (v:=v5) rfl TT (fun h9=>?_) (fun h9=>?_)
   ·have h:=yq h9 h
    refine zl (y5 ?_)
    obtain⟨v6,h10,h⟩:=bind_some h
    refine z37 (k:=3) (m:=1) (L':=[]) (rest:=[]) (R':=i6 v6.1) [] (Js (show Clo Tryz.prog (.func 98) [] [] (fun(s:Unit)=>[]) (fun(x:Int)=>[.int .u8 x]) (fun(b:Bool)=>.bool b) (fun(s:Unit) (x:Int)=>(xe m x).map fun o=>(o,())) from Clo.mk' (fun s=>Tl.lit rfl TT rfl) rfl rfl (fun _=>rfl) (fun s x o h=>by obtain⟨o1,h1,rfl⟩:=p1.1 h;exact EX _ (AI (zkg h1) TT))) h10) rfl rfl rfl (S2 rfl rfl (AI (VS rfl) TT)) TT (ug _ rfl) TT rfl ?_
    refine p2 (e:=[(0,.str a0),(5,i6 v6.1)]) (L:=[]) (n:=0) ?_ ?_
    ·exact jq (M:=[]) rfl (S2 rfl rfl TT) TT
    refine zl ?_
    refine zl ?_
    refine zj0 rfl ?_
    obtain⟨h11,h⟩:=zk h
    refine AI (AI (Int.le_refl _) h11) ?_
    obtain⟨v7,h12,h⟩:=bind_some h
    refine p3 (zqm h12) TT ?_
    obtain⟨v8,h13,h⟩:=bind_some h
    refine p3 (zey h13) (S2 rfl rfl TT) ?_
    refine j0 (v:=v8) rfl TT (fun h14=>?_) (fun h14=>?_)
    ·have h:=yq h14 h
     refine zl (y5 ?_)
     refine p2 (e:=[(2,i6 v6.1),(3,i6 104)]) (L:=[]) (n:=0) ?_ ?_
     ·exact jq (M:=[]) rfl (S2 rfl rfl TT) TT
     refine vl ?_
     cases h
     exact AI TT (AI TT (AI rfl (VS rfl)))
    ·have h:=qc h14 h
     refine jw ?_
     refine zl (y5 ?_)
     refine p2 (e:=[(2,i6 v6.1),(3,i6 103)]) (L:=[]) (n:=0) ?_ ?_
     ·exact jq (M:=[]) rfl (S2 rfl rfl TT) TT
     refine vl ?_
     cases h
     exact AI TT (AI TT (AI rfl (VS rfl)))
   ·have h:=qc h9 h
    refine zl (y5 ?_)
    obtain⟨v9,h15,h⟩:=bind_some h
    refine p3 (zny h15) (AI (VS rfl) TT) ?_
    refine p2 (e:=[(0,.str a0),(4,.int .u8 (((a0.getD (0:Int).toNat 0).toNat:Nat):Int)),(30,.bool v9)]) (L:=[]) (n:=0) ?_ ?_
    ·exact jq (M:=[]) rfl (S2 rfl rfl (AI (VS rfl) TT)) TT
    refine j0 (v:=v9) rfl TT (fun h16=>?_) (fun h16=>?_)
    ·have h:=yq h16 h
     refine zl (y5 ?_)
     obtain⟨v10,h17,h⟩:=bind_some h
     refine z37 (k:=3) (m:=1) (L':=[]) (rest:=[]) (R':=i6 v10.1) [] (Js (show Clo Tryz.prog (.func 99) [] [] (fun(s:Unit)=>[]) (fun(x:Int)=>[.int .u8 x]) (fun(b:Bool)=>.bool b) (fun(s:Unit) (x:Int)=>(jd m x).map fun o=>(o,())) from Clo.mk' (fun s=>Tl.lit rfl TT rfl) rfl rfl (fun _=>rfl) (fun s x o h=>by obtain⟨o1,h1,rfl⟩:=p1.1 h;exact EX _ (AI (zlf h1) TT))) h17) rfl rfl rfl (S2 rfl rfl (AI (VS rfl) TT)) TT (ug _ rfl) TT rfl ?_
     refine vl ?_
     cases h
     exact AI TT (AI TT (AI rfl (VS rfl)))
    ·have h:=qc h16 h
     refine zl (y5 ?_)
     refine j0 (v:=((((a0.getD (0:Int).toNat 0).toNat:Nat):Int)==34)) rfl TT (fun h18=>?_) (fun h18=>?_)
     ·have h:=yq h18 h
      refine zl (y5 ?_)
      obtain⟨v11,h19,h⟩:=bind_some h
      refine p3 (zom h19) (AI (VS rfl) TT) ?_
      refine p2 (e:=[(2,i6 v11.1),(3,i6 v11.2)]) (L:=[]) (n:=0) ?_ ?_
      ·exact jq (M:=[]) rfl (S2 rfl rfl TT) TT
      refine vl ?_
      cases h
      exact AI TT (AI TT (AI rfl (VS rfl)))
     ·have h:=qc h18 h
      refine zl ?_
      refine zj0 rfl ?_
      obtain⟨h20,h⟩:=zk h
      refine AI (fun hp=>(AI hp (AI (Int.le_refl _) (h20 hp)))) ?_
      obtain⟨v12,h21,h⟩:=bind_some h
      refine Or.inl (EX (.isl 1 (v12.map uj) false) (AI (fun hp=>p3 (zrm (yq hp h21)) TT (AI rfl (AI rfl rfl))) ?_))
      obtain⟨v13,h22,h⟩:=bind_some h
      refine Or.inl (EX (.bool v13) (AI (fun hp=>AI (AI hp hp) (p3 (zey (yq hp h22)) (S2 rfl rfl TT) (AI rfl (AI rfl rfl)))) ?_))
      refine AI (fun hc=>(bqt hc)) ?_
      refine p2 (e:=[(4,.int .u8 (((a0.getD (0:Int).toNat 0).toNat:Nat):Int)),(42,.bool ((decide ((a0.length:Int) > 1))&&v13))]) (L:=[]) (n:=0) ?_ ?_
      ·exact jq (M:=[]) rfl (S2 rfl rfl TT) TT
      refine j0 (v:=((decide ((a0.length:Int) > 1))&&v13)) rfl TT (fun h23=>?_) (fun h23=>?_)
      ·have h:=yq h23 h
       refine zl (y5 ?_)
       refine vl ?_
       cases h
       exact AI TT (AI TT (AI rfl (VS rfl)))
      ·have h:=qc h23 h
       refine zl (y5 ?_)
       obtain⟨v14,h24,h⟩:=bind_some h
       refine p3 (z8n h24) (S2 rfl rfl TT) ?_
       refine j0 (v:=(decide (v14≥0))) rfl TT (fun h25=>?_) (fun h25=>?_)
       ·have h:=yq h25 h
        refine zl (y5 ?_)
        refine vl ?_
        cases h
        exact AI TT (AI TT (AI rfl (VS rfl)))
       ·have h:=qc h25 h
        refine jw ?_
        refine zl (y5 ?_)
        refine vl ?_
        cases h
        exact AI TT (AI TT (AI rfl (VS rfl)))
theorem zve{a0:List UInt8}{m:Option Nat}{o:Int×Int}(h:vh m a0=some o):PFn Tryz.prog 63 [.str a0] (.tup [i6 o.1,i6 o.2]):=p9 (L:=zu9) zp3 zr6 (NB rfl) rfl (zel h)
def zo8:LCode:=(.seq (.region [Qb 2])
 (.seq (.seq (.region [Qm 5 0,
  Qo 6 (.len true (.t 5)),
  Qo 7 (.bin .eql (.t 6) (.c (i6 0))),
  Qm 8 7,
  Qn 9 0 (8,false),
  Qg 10 (.len true (.t 9)) (8,false),
  Qg 11 (.bin .gtr (.t 10) (.c (i6 30))) (8,false),
  Qo 12 (.pick (.t 8) (.c (.bool true)) (.t 11))])
 (.cond (.t 12)
  (.seq (.region [Qb 2])
  .ret)
  .skip))
 (.seq (.region [Qm 14 0,
  Qc 15 63 14,
  Qm 13 15,
  Qo 16 (.ext 0 (.t 13)),
  Qo 17 (.ext 1 (.t 13)),
  Qm 3 16,
  Qm 4 17])
 (.seq (.region [Qm 18 3,
  Qm 19 0,
  Qo 20 (.len true (.t 19)),
  Qo 21 (.bin .eql (.t 18) (.t 20)),
  Qm 22 21,
  Qn 23 4 (22,true),
  Qg 24 (.bin .eql (.t 23) (.c (i6 103))) (22,true),
  Qp 25 22 24,
  Qm 2 25])
 .ret))))
def ze0:Lay:=⟨26,[],false⟩
def zj3:List LRes:=[.t 2]
def zvf:LFn:=⟨1,ze0,zo8,zj3⟩
theorem zop:w4 Tryz.prog [] 30=some zvf:=by kernel_rfl
theorem zqh:uc Tryz.prog 30:=⟨_,Tryz.func30,rfl,rfl⟩
def xq(m:Option Nat)(a0:List UInt8):Option Bool:=
 if(((a0.length:Int)==0) || (decide ((a0.length:Int) > 30)))=true then
  some false
 else
  (vh m a0).bind fun v1=>
  some ((v1.1==(a0.length:Int))&&(v1.2==103))
def zx1(a0:List UInt8)(o:Bool):Exit→Env→AHeap→Nat→Prop:=Q0 zj3 (jj (.bool o))
theorem zf4{a0:List UInt8}{m:Option Nat}{o:Bool}(h:xq m a0=some o):LWp Tryz.prog ze0 0 zo8 (zx1 a0 o) (yi 0 [.str a0]) [] 0:=by
 unfold xq at h
 refine zl (y5 ?_)
 refine zl ?_
 refine zl (y5 ?_)
 refine AI (fun hp=>hp) ?_
 refine AI (fun hp=>hp) ?_
 refine AI (fun hc=>(bqf hc)) ?_
 refine p2 (e:=[(0,.str a0),(12,.bool (((a0.length:Int)==0) || (decide ((a0.length:Int) > 30))))]) (L:=[]) (n:=0) ?_ ?_
 ·exact jq (M:=[]) rfl (S2 rfl rfl TT) TT
 refine j0 (v:=(((a0.length:Int)==0) || (decide ((a0.length:Int) > 30)))) rfl TT (fun h1=>?_) (fun h1=>?_)
 ·have h:=yq h1 h
  refine zl (y5 ?_)
  refine vl ?_
  cases h
  exact AI TT (AI rfl (VS rfl))
 ·have h:=qc h1 h
  refine jw ?_
  refine zl (y5 ?_)
  obtain⟨v1,h2,h⟩:=bind_some h
  refine p3 (zve h2) (AI (VS rfl) TT) ?_
  refine zl (y5 ?_)
  refine AI (fun hp=>hp) ?_
  refine AI (fun hc=>(bqt hc)) ?_
  refine p2 (e:=[(2,.bool ((v1.1==(a0.length:Int))&&(v1.2==103)))]) (L:=[]) (n:=0) ?_ ?_
  ·exact jq (M:=[]) rfl (AI (VS rfl) TT) TT
  refine vl ?_
  cases h
  exact AI TT (AI rfl (VS rfl))
theorem zuz{a0:List UInt8}{m:Option Nat}{o:Bool}(h:xq m a0=some o):PFn Tryz.prog 30 [.str a0] (.bool o):=p9 (L:=zvf) zop zqh (NB rfl) rfl (zf4 h)
def zb2:LCode:=(.seq (.region [Qo 1 (.box (.t 0)),
 Qb 2])
 (.seq (.region [Qf 3 0 1,
  Ql 4 1 3,
  Qc 5 30 4,
  Qo 6 (.un .not (.t 5)),
  Qm 2 6])
 .ret))
def z56:Lay:=⟨7,[],false⟩
def z53:List LRes:=[.t 2]
def zhn:LFn:=⟨1,z56,zb2,z53⟩
theorem zhm:w4 Tryz.prog [] 29=some zhn:=by kernel_rfl
theorem zgz:uc Tryz.prog 29:=⟨_,Tryz.func29,rfl,rfl⟩
def qk(m:Option Nat)(a0:G_Module):Option Bool:=
 (xq m a0.f_Name).bind fun v1=>
 some (!v1)
def zpd(a0:G_Module)(o:Bool):Exit→Env→AHeap→Nat→Prop:=Q0 z53 (Jl 3 4 (.bool o) [])
theorem z75{a0:G_Module}{m:Option Nat}{o:Bool}(h:qk m a0=some o):LWp Tryz.prog z56 3 zb2 (zpd a0 o) (yi 0 [.agg [.str a0.f_Name,.str a0.f_Source]]) [] 3:=by
 unfold qk at h
 refine zl (y5 ?_)
 refine zl (y5 ?_)
 obtain⟨v1,h1,h⟩:=bind_some h
 refine p3 (zuz h1) (AI (VS rfl) TT) ?_
 refine vl ?_
 cases h
 exact AI TT (znk (n':=4) [] [] rfl rfl (VS rfl) TT)
theorem zkt{a0:G_Module}{m:Option Nat}{o:Bool}(h:qk m a0=some o):ACalls Tryz.prog 29 [.agg [.str a0.f_Name,.str a0.f_Source]] [] 3 (Z6 4 (.bool o) []):=Qd (L:=zhn) zhm zgz (NB rfl) (z75 h)
def z9s:LCode:=(.seq (.region [Qo 2 (.box (.t 0)),
 Qb 3])
 (.seq (.region [Qf 4 0 2,
  Ql 5 1 4,
  Ql 6 1 1,
  Qo 7 (.bin .eql (.t 5) (.t 6)),
  Qm 3 7])
 .ret))
def z5k:Lay:=⟨8,[],false⟩
def z58:List LRes:=[.t 3]
def zgx:LFn:=⟨2,z5k,z9s,z58⟩
theorem ze6:w4 Tryz.prog [] 64=some zgx:=by kernel_rfl
theorem ze9:uc Tryz.prog 64:=⟨_,Tryz.func64,rfl,rfl⟩
def xc(m:Option Nat)(a0:List UInt8)(a1:G_Module):Option Bool:=
 some (a1.f_Name==a0)
def zqz(a0:List UInt8)(a1:G_Module)(o:Bool):Exit→Env→AHeap→Nat→Prop:=Q0 z58 (Jl 3 4 (.bool o) [((1,0),.one [.str a0])])
theorem z7u{a0:List UInt8}{a1:G_Module}{m:Option Nat}{o:Bool}(h:xc m a0 a1=some o):LWp Tryz.prog z5k 3 z9s (zqz a0 a1 o) (yi 0 [.agg [.str a1.f_Name,.str a1.f_Source],.ptr (1,0) 0 0]) [((1,0),.one [.str a0])] 3:=by
 unfold xc at h
 refine zl (y5 ?_)
 refine zl (y5 ?_)
 refine vl ?_
 cases h
 exact AI TT (znk (n':=4) [] [] rfl rfl (VS rfl) (AI (AI rfl (OL rfl)) TT))
theorem zkl{a0:List UInt8}{a1:G_Module}{m:Option Nat}{o:Bool}(h:xc m a0 a1=some o):ACalls Tryz.prog 64 [.agg [.str a1.f_Name,.str a1.f_Source],.ptr (1,0) 0 0] [((1,0),.one [.str a0])] 3 (Z6 4 (.bool o) [((1,0),.one [.str a0])]):=Qd (L:=zgx) ze6 ze9 (NB rfl) (z7u h)
def zo7:LCode:=(.seq (.region [Qo 3 (.box (.t 1)),
 Qi 4 0])
 (.seq (.region [Qm 5 0,
  Qo 6 (.mkfn (.func 64) [] [(.t 3)]),
  Qo 7 (.call 62 [(.t 5),(.t 6)]),
  Qm 4 7])
 .ret))
def zij:Lay:=⟨8,[],false⟩
def zfl:List LRes:=[.t 4]
def zsw:LFn:=⟨2,zij,zo7,zfl⟩
theorem zoc:w4 Tryz.prog [] 31=some zsw:=by kernel_rfl
theorem zpk:uc Tryz.prog 31:=⟨_,Tryz.func31,rfl,rfl⟩
def jx(m:Option Nat)(a0:List G_Module)(a1:List UInt8):Option Int:=
 (ym (fun(s:Unit) (x:G_Module)=>(xc m a1 x).map fun o=>(o,())) m a0 ()).bind fun v1=>
 some v1.1
def zwd(a0:List G_Module)(a1:List UInt8)(o:Int):Exit→Env→AHeap→Nat→Prop:=Q0 zfl (jj (i6 o))
theorem zhz{a0:List G_Module}{a1:List UInt8}{m:Option Nat}{o:Int}(h:jx m a0 a1=some o):LWp Tryz.prog zij 0 zo7 (zwd a0 a1 o) (yi 0 [.isl 2 (a0.map z6) false,.str a1]) [] 0:=by
 unfold jx at h
 refine zl (y5 ?_)
 refine zl (y5 ?_)
 obtain⟨v1,h1,h⟩:=bind_some h
 refine z37 (k:=3) (m:=1) (L':=[((0,0),.one [.str a1])]) (rest:=[]) (R':=i6 v1.1) [((1,0),(0,0))] (zb0 (show Clo Tryz.prog (.func 64) [] [.ptr (1,0) 0 0] (fun(s:Unit)=>[((1,0),.one [.str a1])]) (fun(x:G_Module)=>[.agg [.str x.f_Name,.str x.f_Source]]) (fun(b:Bool)=>.bool b) (fun(s:Unit) (x:G_Module)=>(xc m a1 x).map fun o=>(o,())) from Clo.mk' (fun s=>Tl.lit rfl (AI (rfl) TT) rfl) rfl rfl (fun _=>rfl) (fun s x o h=>by obtain⟨o1,h1,rfl⟩:=p1.1 h;exact EX _ (AI (zkl h1) (AI rfl (AI rfl TT))))) h1) rfl rfl rfl (AI (VS rfl) (AI (Vw.fnL TT (SP rfl TT)) TT)) (AI (h0I (0,0) rfl rfl (OL rfl)) TT) (ug _ rfl) (AI rfl (AI rfl TT)) rfl ?_
 refine vl ?_
 cases h
 exact AI TT (AI rfl (VS rfl))
theorem zsg{a0:List G_Module}{a1:List UInt8}{m:Option Nat}{o:Int}(h:jx m a0 a1=some o):PFn Tryz.prog 31 [.isl 2 (a0.map z6) false,.str a1] (i6 o):=p9 (L:=zsw) zoc zpk (NB rfl) rfl (zhz h)
def zol:LCode:=(.seq (.region [Qo 17 (.bin .lss (.t 16) (.t 15))])
 (.seq (.cond (.t 17)
  .skip
  (.exit 0))
 (.seq (.block 1
  (.seq (.region [Qm 18 16,
   Qo 19 (.iaddr 2 (.t 14) (.t 16)),
   Qt 20 2 19,
   Qo 4 (.alloc [(.str []),(.str [])]),
   Qm 3 18,
   ⟨none,.store 2 (.t 4) (.t 20),none⟩])
  (.seq (.draw [⟨Qm 21 0,[]⟩,
   ⟨Qm 22 3,[]⟩,
   ⟨Qo 23 (.slSl 2 (.t 21) none (some (.t 22)) none),[]⟩,
   ⟨Qf 24 0 4,[]⟩,
   ⟨Ql 25 1 24,[]⟩,
   ⟨Qo 26 (.call 31 [(.t 23),(.t 25)]),[]⟩,
   ⟨Qo 27 (.bin .geq (.t 26) (.c (i6 0))),[]⟩])
  (.cond (.t 27)
   (.seq (.region [Qi 2 6])
   .ret)
   .skip))))
 (.region [Qo 28 (.bin .add (.t 16) (.c (i6 1))),
  Qm 16 28]))))
def zmc:LCode:=(.seq (.region [Qi 2 0])
 .ret)
def zv8:LCode:=(.seq (.region [Qi 2 0])
 (.seq (.seq (.region [Qm 5 0,
  Qo 6 (.len false (.t 5)),
  Qo 7 (.bin .gtr (.t 6) (.c (i6 8))),
  Qm 8 7,
  Qn 9 0 (8,false),
  Qg 10 (.call 27 [(.t 9),(.c (.fn (.func 28) [] []))]) (8,false),
  Qo 11 (.pick (.t 8) (.c (.bool true)) (.t 10))])
 (.cond (.t 11)
  (.seq (.region [Qi 2 2])
  .ret)
  .skip))
 (.seq (.seq (.region [Qm 12 0,
  Qo 13 (.call 27 [(.t 12),(.c (.fn (.func 29) [] []))])])
 (.cond (.t 13)
  (.seq (.region [Qi 2 3])
  .ret)
  .skip))
 (.seq (.seq (.region [Qm 14 0,
  Qo 15 (.len false (.t 14)),
  Qi 16 0])
 (.block 0
  (.loop
   zol)))
 zmc))))
def Ky:Lay:=⟨29,[],false⟩
def znw:List LRes:=[.t 2]
def zy0:LFn:=⟨1,Ky,zv8,znw⟩
theorem zs7:w4 Tryz.prog [] 8=some zy0:=by kernel_rfl
theorem zv5:uc Tryz.prog 8:=⟨_,Tryz.func8,rfl,rfl⟩
def zvj(a0:List G_Module)(o:Int):Exit→Env→AHeap→Nat→Prop:=Q0 znw (jj (i6 o))
def z50(a0:List G_Module)(s:Int):Env:=[(0,.isl 2 (a0.map z6) false),(14,.isl 2 (a0.map z6) false),(15,i6 ((a0.map z6).length:Int)),(16,i6 s)]
def z9p(a0:List G_Module)(s:Int):AHeap:=[]
def zib(a0:List G_Module)(o:Int):Exit→Env→AHeap→Nat→Prop:=(j4 0 (Qh Tryz.prog Ky 0 zmc (zvj a0 o)))
def jl(m:Option Nat):Option Int:=
 some 0
def qi(m:Option Nat)(a0:List G_Module)(v4:Int):Option (Int ⊕ Int):=
 if(decide (v4<((a0.map z6).length:Int)))=true then
  if(0:Int)≤v4∧v4<((a0.map z6).length:Int) then
  if(0:Int)≤v4∧v4≤((a0.map z6).length:Int) then
  (jx m (a0.take v4.toNat) ((a0.getD v4.toNat default).f_Name)).bind fun v6=>
  if(decide (v6≥0))=true then
   p4 pA (
    some 6)
  else
   some (.inl (W (v4+1)))
  else none
  else none
 else
  p4 pA (
   jl m)
def xn(m:Option Nat)(a0:List G_Module)(v4:Int):Option Int:=Zf m (fun(s:Int)=>qi m a0 s) v4
theorem zl3{a0:List G_Module}{m:Option Nat}{o:Int}(h:jl m=some o) :
 LWp Tryz.prog Ky 0 zmc (zvj a0 o) [] [] 0:=by
 unfold jl at h
 refine zl (y5 ?_)
 refine vl ?_
 cases h
 exact AI TT (AI rfl (VS rfl))
theorem zgv{a0:List G_Module}{v4:Int}{m:Option Nat}{o:Int ⊕ Int}(h:qi m a0 v4=some o) :
 LWp Tryz.prog Ky 0 zol (Zg 0 0 (z50 a0) (z9p a0) (zib a0) o) [(0,.isl 2 (a0.map z6) false),(14,.isl 2 (a0.map z6) false),(15,i6 ((a0.map z6).length:Int)),(16,i6 v4)] [] 0:=by
 unfold qi at h
 refine zl (y5 ?_)
 refine zl ?_
 refine j0 (v:=(decide (v4<((a0.map z6).length:Int)))) rfl TT (fun h15=>?_) (fun h15=>?_)
 ·have h:=yq h15 h
  refine jw ?_
  refine zl ?_
  refine ja ?_
  refine zl (y5 ?_)
  obtain⟨h16,h⟩:=zk h
  refine AI h16 ?_
  refine EX (z6 (a0.getD v4.toNat default)) (AI (qt z6 _ _ (xr z6 h16)) (AI (AI (wa h16) (NB rfl)) ?_))
  refine zl ?_
  refine zj0 rfl ?_
  obtain⟨h17,h⟩:=zk h
  refine EX (.isl 2 ((a0.take v4.toNat).map z6) false) (AI (zxp z6 (slB z6 a0 _) rfl) (AI (AI rfl (AI (Int.le_refl _) h17)) ?_))
  obtain⟨v6,h18,h⟩:=bind_some h
  refine p3 (zsg h18) (S2 rfl rfl TT) ?_
  refine p2 (e:=[(0,.isl 2 (a0.map z6) false),(14,.isl 2 (a0.map z6) false),(15,i6 ((a0.map z6).length:Int)),(16,i6 v4),(27,.bool (decide (v6≥0)))]) (L:=[]) (n:=0) ?_ ?_
  ·exact jq (M:=[]) rfl (S4 rfl rfl rfl rfl (AI (VS rfl) TT)) TT
  refine j0 (v:=(decide (v6≥0))) rfl TT (fun h19=>?_) (fun h19=>?_)
  ·have h:=yq h19 h
   refine zl (y5 ?_)
   refine vl ?_
   obtain⟨o,hq,rfl⟩:=p1.1 h
   replace h:=hq;clear hq
   refine AI nofun ?_
   cases h
   exact AI TT (AI rfl (VS rfl))
  ·have h:=qc h19 h
   refine jw ?_
   refine y5 ?_
   cases h
   exact AI rfl (jq (M:=[]) rfl (S4 rfl rfl rfl rfl TT) TT)
 ·have h:=qc h15 h
  refine Xn ?_
  obtain⟨o,hq,rfl⟩:=p1.1 h
  replace h:=hq;clear hq
  refine AI nofun ?_
  refine p2 ?_ (zl3 h)
  exact jq (M:=[]) rfl TT TT
theorem zkp{a0:List G_Module}{v4:Int}{m:Option Nat}{o:Int}(h:xn m a0 v4=some o) :
 LWp Tryz.prog Ky 0 (.loop zol) (j4 0 (Qh Tryz.prog Ky 0 zmc (zvj a0 o))) [(0,.isl 2 (a0.map z6) false),(14,.isl 2 (a0.map z6) false),(15,i6 ((a0.map z6).length:Int)),(16,i6 v4)] [] 0:=
 ji (m:=m) (s:=(v4:Int)) (r:=o) (fun(s:Int)=>qi m a0 s) (z50 a0) (z9p a0) (zib a0) (fun s o h=>zgv h) h
def yb(m:Option Nat)(a0:List G_Module):Option Int:=
 (if((decide (((a0.map z6).length:Int) > 8))==false)=true then zp (fun(s:Unit) (x:G_Module)=>(qj m x).map fun o=>(o,())) m a0 () else some default).bind fun v1=>
 if((decide (((a0.map z6).length:Int) > 8)) || v1.1)=true then
  some 2
 else
  (zp (fun(s:Unit) (x:G_Module)=>(qk m x).map fun o=>(o,())) m a0 ()).bind fun v2=>
  if v2.1=true then
   some 3
  else
   xn m a0 0
theorem zlg{a0:List G_Module}{m:Option Nat}{o:Int}(h:yb m a0=some o):LWp Tryz.prog Ky 0 zv8 (zvj a0 o) (yi 0 [.isl 2 (a0.map z6) false]) [] 0:=by
 unfold yb at h
 refine zl (y5 ?_)
 refine zl ?_
 refine zl (y5 ?_)
 obtain⟨v1,h1,h⟩:=bind_some h
 refine Or.inl (EX (.bool v1.1) (AI (fun hp=>AI hp (ACalls.same rfl (z37 (k:=3) (m:=1) (L':=[]) (rest:=[]) (R':=.bool v1.1) [] (za5 (show Clo Tryz.prog (.func 28) [] [] (fun(s:Unit)=>[]) (fun(x:G_Module)=>[.agg [.str x.f_Name,.str x.f_Source]]) (fun(b:Bool)=>.bool b) (fun(s:Unit) (x:G_Module)=>(qj m x).map fun o=>(o,())) from Clo.mk' (fun s=>Tl.lit rfl TT rfl) rfl rfl (fun _=>rfl) (fun s x o h=>by obtain⟨o1,h1,rfl⟩:=p1.1 h;exact EX _ (AI (zjz h1) TT))) (yq hp h1)) rfl rfl rfl (S2 rfl rfl TT) TT (ug _ rfl) TT rfl (AI rfl (HeapTo.get TT))))) ?_))
 refine AI (fun hc=>(bqf hc)) ?_
 refine p2 (e:=[(0,.isl 2 (a0.map z6) false),(11,.bool ((decide (((a0.map z6).length:Int) > 8)) || v1.1))]) (L:=[]) (n:=0) ?_ ?_
 ·exact jq (M:=[]) rfl (S2 rfl rfl TT) TT
 refine j0 (v:=((decide (((a0.map z6).length:Int) > 8)) || v1.1)) rfl TT (fun h2=>?_) (fun h2=>?_)
 ·have h:=yq h2 h
  refine zl (y5 ?_)
  refine vl ?_
  cases h
  exact AI TT (AI rfl (VS rfl))
 ·have h:=qc h2 h
  refine jw ?_
  refine zl ?_
  refine zl (y5 ?_)
  obtain⟨v2,h3,h⟩:=bind_some h
  refine z37 (k:=3) (m:=1) (L':=[]) (rest:=[]) (R':=.bool v2.1) [] (za5 (show Clo Tryz.prog (.func 29) [] [] (fun(s:Unit)=>[]) (fun(x:G_Module)=>[.agg [.str x.f_Name,.str x.f_Source]]) (fun(b:Bool)=>.bool b) (fun(s:Unit) (x:G_Module)=>(qk m x).map fun o=>(o,())) from Clo.mk' (fun s=>Tl.lit rfl TT rfl) rfl rfl (fun _=>rfl) (fun s x o h=>by obtain⟨o1,h1,rfl⟩:=p1.1 h;exact EX _ (AI (zkt h1) TT))) h3) rfl rfl rfl (S2 rfl rfl TT) TT (ug _ rfl) TT rfl ?_
  refine j0 (v:=v2.1) rfl TT (fun h4=>?_) (fun h4=>?_)
  ·have h:=yq h4 h
   refine zl (y5 ?_)
   refine vl ?_
   cases h
   exact AI TT (AI rfl (VS rfl))
  ·have h:=qc h4 h
   refine jw ?_
   refine zl ?_
   refine zl (y5 ?_)
   refine ja ?_
   refine p2 ?_ (zkp h)
   exact jq (M:=[]) rfl (S4 rfl rfl rfl rfl TT) TT
theorem zll{a0:List G_Module}{m:Option Nat}{o:Int}(h:yb m a0=some o):PFn Tryz.prog 8 [.isl 2 (a0.map z6) false] (i6 o):=p9 (L:=zy0) zs7 zv5 (NB rfl) rfl (zlg h)
def zhk:LCode:=(.seq (.region [Qo 16 (.bin .lss (.t 15) (.t 14))])
 (.seq (.cond (.t 16)
  .skip
  (.exit 0))
 (.seq (.block 1
  (.seq (.region [Qo 17 (.iaddr 4 (.t 13) (.t 15)),
   Qt 18 4 17,
   Qo 9 (.alloc [(i6 0),(i6 0),(i6 0),(.str [])]),
   ⟨none,.store 4 (.t 9) (.t 18),none⟩])
  (.seq (.seq (.region [Qf 19 0 9,
   Ql 20 1 19,
   Qm 21 7,
   Qo 22 (.bin .lss (.t 20) (.t 21)),
   Qm 23 22,
   Qe 24 0 9 (23,false),
   Qk 25 1 24 (23,false),
   Qn 26 0 (23,false),
   Qg 27 (.len false (.t 26)) (23,false),
   Qg 28 (.bin .geq (.t 25) (.t 27)) (23,false),
   Qo 29 (.pick (.t 23) (.c (.bool true)) (.t 28))])
  (.cond (.t 29)
   (.seq (.region [Qo 4 (.mv (.c (.val (.slice none 0 0)))),
    Qb 5])
   .ret)
   .skip))
  (.seq (.region [Qf 30 0 9,
   Ql 31 1 30,
   Qm 7 31])
  (.draw [⟨Qm 32 6,[]⟩,
   ⟨Qf 33 0 9,[]⟩,
   ⟨Ql 34 1 33,[]⟩,
   ⟨Qm 35 6,[]⟩,
   ⟨Qf 36 0 9,[]⟩,
   ⟨Ql 37 1 36,[]⟩,
   ⟨Qo 38 (.iaddr 1 (.t 35) (.t 37)),[]⟩,
   ⟨Ql 39 1 38,[]⟩,
   ⟨Qf 40 1 9,[]⟩,
   ⟨Qt 41 3 40,[]⟩,
   ⟨Qo 42 (.mkSl true 3 [(i6 0),(i6 0),(.str [])] 1 [(0,(.t 41))]),[]⟩,
   ⟨Qo 43 (.app true 3 32 (.t 39) (.t 42)),[2]⟩,
   ⟨Qo 44 (.iaddr 1 (.t 32) (.t 34)),[]⟩,
   ⟨⟨none,.store 1 (.t 44) (.t 43),none⟩,[]⟩])))))
 (.region [Qo 45 (.bin .add (.t 15) (.c (i6 1))),
  Qm 15 45]))))
def za2:LCode:=(.seq (.region [Qm 46 6,
 Qm 4 46,
 Qo 5 (.mv (.c (.bool true)))])
 .ret)
def znx:LCode:=(.seq (.region [Qo 4 (.mv (.c (.val (.slice none 0 0)))),
 Qb 5])
 (.seq (.region [Qm 10 0,
  Qo 11 (.len false (.t 10)),
  Qo 12 (.mkslice false 1 24 [(.isl 3 [] true)] (.t 11) (.t 11)),
  Qm 6 12])
 (.seq (.region [Qi 7 0])
 (.seq (.seq (.region [Qm 13 1,
  Qo 14 (.len false (.t 13)),
  Qi 15 0])
 (.block 0
  (.loop
   zhk)))
 za2))))
def Je:Lay:=⟨47,[12],false⟩
def zif:List LRes:=[.t 4,.t 5]
def zt2:LFn:=⟨2,Je,znx,zif⟩
theorem zqi:w4 Tryz.prog [12] 24=some zt2:=by kernel_rfl
theorem zr1:uc Tryz.prog 24:=⟨_,Tryz.func24,rfl,rfl⟩
def zmf(a0:List G_Module)(a1:List G_FileEdit)(o:(List (List G_TextEdit))×Bool):Exit→Env→AHeap→Nat→Prop:=Q0 zif (jj (.tup [.isl 1 (o.1.map yf) false,.bool o.2]))
def z1o(a0:List G_Module)(a1:List G_FileEdit)(s:(Int×Int×(List (List G_TextEdit)))):Env:=[(0,.isl 2 (a0.map z6) false),(6,.msl (0,0) 1 0 s.2.2.length true),(7,i6 s.1),(13,.isl 4 (a1.map z8) false),(14,i6 ((a1.map z8).length:Int)),(15,i6 s.2.1)]
def z3s(a0:List G_Module)(a1:List G_FileEdit)(s:(Int×Int×(List (List G_TextEdit)))):AHeap:=([((0,0),.rows 1 (V3 1 3 (s.2.2.map (pB z7))))]++(fam 1 s.2.2.length none))
def z95(a0:List G_Module)(a1:List G_FileEdit)(o:((List (List G_TextEdit))×Bool)):Exit→Env→AHeap→Nat→Prop:=(j4 0 (Qh Tryz.prog Je 0 za2 (zmf a0 a1 o)))
def jb(m:Option Nat)(v3:List (List G_TextEdit)):Option ((List (List G_TextEdit))×Bool):=
 some (v3,true)
def yy(m:Option Nat)(a0:List G_Module)(a1:List G_FileEdit)(v1:Int)(v2:Int)(v3:List (List G_TextEdit)):Option ((Int×Int×(List (List G_TextEdit))) ⊕ ((List (List G_TextEdit))×Bool)):=
 if(decide (v2<((a1.map z8).length:Int)))=true then
  if(0:Int)≤v2∧v2<((a1.map z8).length:Int) then
  if((decide ((a1.getD v2.toNat default).f_Module<v1)) || (decide ((a1.getD v2.toNat default).f_Module≥((a0.map z6).length:Int))))=true then
   p4 pA (
    some (([]:List (List G_TextEdit)),false))
  else
   if(0:Int)≤(a1.getD v2.toNat default).f_Module∧(a1.getD v2.toNat default).f_Module<((v3.length:Nat):Int) then
   if(0+((a1.getD v2.toNat default).f_Module).toNat)<v3.length then
   if(((v3.getD (0+((a1.getD v2.toNat default).f_Module).toNat) default)++([(G_TextEdit.mk (((a1.getD v2.toNat default).f_TextEdit).f_Start) (((a1.getD v2.toNat default).f_TextEdit).f_End) (((a1.getD v2.toNat default).f_TextEdit).f_NewText))]:List G_TextEdit)).map z7).length*32≤140737488355328 then
   if(0:Int)≤(a1.getD v2.toNat default).f_Module∧(a1.getD v2.toNat default).f_Module<((v3.length:Nat):Int) then
   if(0+((a1.getD v2.toNat default).f_Module).toNat)<v3.length then
   some (.inl ((a1.getD v2.toNat default).f_Module,(W (v2+1)),(v3.set (0+((a1.getD v2.toNat default).f_Module).toNat) ((v3.getD (0+((a1.getD v2.toNat default).f_Module).toNat) default)++([(G_TextEdit.mk (((a1.getD v2.toNat default).f_TextEdit).f_Start) (((a1.getD v2.toNat default).f_TextEdit).f_End) (((a1.getD v2.toNat default).f_TextEdit).f_NewText))]:List G_TextEdit)))))
   else none
   else none
   else none
   else none
   else none
  else none
 else
  p4 pA (
   jb m v3)
def qw(m:Option Nat)(a0:List G_Module)(a1:List G_FileEdit)(v1:Int)(v2:Int)(v3:List (List G_TextEdit)):Option ((List (List G_TextEdit))×Bool):=Zf m (fun(s:(Int×Int×(List (List G_TextEdit))))=>yy m a0 a1 s.1 s.2.1 s.2.2) (v1,v2,v3)
theorem zh4{a0:List G_Module}{a1:List G_FileEdit}{v3:List (List G_TextEdit)}{m:Option Nat}{o:((List (List G_TextEdit))×Bool)}(h:jb m v3=some o) :
 LWp Tryz.prog Je 0 za2 (zmf a0 a1 o) [(6,.msl (0,0) 1 0 v3.length true)] ([((0,0),.rows 1 (V3 1 3 (v3.map (pB z7))))]++(fam 1 v3.length none)) 2:=by
 unfold jb at h
 refine zl (y5 ?_)
 refine vl ?_
 cases h
 exact AI TT (AI TT (AI rfl (Vw.tupL (AI (Vw.frzG z7 (fun h=>Bool.noConfusion h) rfl rfl (by first|rfl|omega|(simp;done)|(simp at *;omega))) (AI (VS rfl) TT)))))
set_option maxHeartbeats 4000000 in
theorem zd1{a0:List G_Module}{a1:List G_FileEdit}{v1:Int}{v2:Int}{v3:List (List G_TextEdit)}{m:Option Nat}{o:(Int×Int×(List (List G_TextEdit))) ⊕ ((List (List G_TextEdit))×Bool)}(h:yy m a0 a1 v1 v2 v3=some o) :
 LWp Tryz.prog Je 0 zhk (Zg 0 2 (z1o a0 a1) (z3s a0 a1) (z95 a0 a1) o) [(0,.isl 2 (a0.map z6) false),(6,.msl (0,0) 1 0 v3.length true),(7,i6 v1),(13,.isl 4 (a1.map z8) false),(14,i6 ((a1.map z8).length:Int)),(15,i6 v2)] ([((0,0),.rows 1 (V3 1 3 (v3.map (pB z7))))]++(fam 1 v3.length none)) 2:=by
 unfold yy at h
 refine zl (y5 ?_)
 refine zl ?_
 refine j0 (v:=(decide (v2<((a1.map z8).length:Int)))) rfl TT (fun h22=>?_) (fun h22=>?_)
 ·have h:=yq h22 h
  refine jw ?_
  refine zl ?_
  refine ja ?_
  refine zl (y5 ?_)
  obtain⟨h23,h⟩:=zk h
  refine AI h23 ?_
  refine EX (z8 (a1.getD v2.toNat default)) (AI (qt z8 _ _ (xr z8 h23)) (AI (AI (wa h23) (NB rfl)) ?_))
  refine zl ?_
  refine zl (y5 ?_)
  refine AI (fun hp=>hp) ?_
  refine AI (fun hp=>hp) ?_
  refine AI (fun hp=>(AI hp hp)) ?_
  refine AI (fun hc=>(bqf hc)) ?_
  refine p2 (e:=[(0,.isl 2 (a0.map z6) false),(6,.msl (0,0) 1 0 v3.length true),(9,.ptr (1,0) 0 0),(13,.isl 4 (a1.map z8) false),(14,i6 ((a1.map z8).length:Int)),(15,i6 v2),(29,.bool ((decide ((a1.getD v2.toNat default).f_Module<v1)) || (decide ((a1.getD v2.toNat default).f_Module≥((a0.map z6).length:Int)))))]) (L:=([((0,0),.rows 1 (V3 2 3 (v3.map (pB z7)))),((1,0),.one [i6 ((a1.getD v2.toNat default).f_Module),i6 (((a1.getD v2.toNat default).f_TextEdit).f_Start),i6 (((a1.getD v2.toNat default).f_TextEdit).f_End),.str (((a1.getD v2.toNat default).f_TextEdit).f_NewText)])]++(fam 2 v3.length none))) (n:=3) ?_ ?_
  ·exact zvn (M:=[((0,0),(0,0)),((1,0),(2,0))]) (lit':=[((2,0),.one [i6 ((a1.getD v2.toNat default).f_Module),i6 (((a1.getD v2.toNat default).f_TextEdit).f_Start),i6 (((a1.getD v2.toNat default).f_TextEdit).f_End),.str (((a1.getD v2.toNat default).f_TextEdit).f_NewText)]),((0,0),.rows 1 (V3 1 3 (v3.map (pB z7))))]) (T:=(fam 1 v3.length none)) (q:=1) (q':=2) rfl (IsFam.cast (by first|rfl|simp) IsFam.base) (AI (VS rfl) (AI (pD rfl (by first|rfl|omega|(simp;done)|(simp at *;omega)) rfl) (SP rfl (S4 rfl rfl rfl rfl TT)))) (AI (AI rfl BVw.grJ) (AI (AI rfl (OL rfl)) TT))
  refine j0 (v:=((decide ((a1.getD v2.toNat default).f_Module<v1)) || (decide ((a1.getD v2.toNat default).f_Module≥((a0.map z6).length:Int))))) rfl TT (fun h24=>?_) (fun h24=>?_)
  ·have h:=yq h24 h
   refine zl ?_
   refine LWp.ghost 1 ?_
   refine y5 ?_
   refine p2 (e:=[(4,.msl (0,0) 1 0 (([]:List (List G_TextEdit)).length) false),(5,.bool false)]) (L:=[((0,0),.rows 1 (([]:List (List G_TextEdit)).map yf))]) (n:=1) ?_ ?_
   ·exact jq (M:=[((0,0),(3,0))]) rfl (AI (Vw.nilM _ _ _ _ _ _ rfl rfl) (AI (VS rfl) TT)) (AI (AI rfl (BVw.enc yf (fun _=>rfl) _ ([]:List (List G_TextEdit)))) TT)
   refine vl ?_
   obtain⟨o,hq,rfl⟩:=p1.1 h
   replace h:=hq;clear hq
   refine AI nofun ?_
   cases h
   exact AI TT (AI TT (AI rfl (Vw.tupL (AI (Vw.frzB yf Vt (fun h=>h) rfl rfl (by first|rfl|omega|(simp;done)|(simp at *;omega))) (AI (VS rfl) TT)))))
  ·have h:=qc h24 h
   refine jw ?_
   refine zl (y5 ?_)
   refine p2 (e:=[(0,.isl 2 (a0.map z6) false),(6,.msl (0,0) 1 0 v3.length true),(7,i6 ((a1.getD v2.toNat default).f_Module)),(9,.ptr (1,0) 0 0),(13,.isl 4 (a1.map z8) false),(14,i6 ((a1.map z8).length:Int)),(15,i6 v2)]) (L:=([((3,0),.tok),((0,0),.rows 1 (z12 2 3 (v3.map (pB z7)) (0+((a1.getD v2.toNat default).f_Module).toNat) (3,0) ((v3.getD (0+((a1.getD v2.toNat default).f_Module).toNat) default).map z7))),((1,0),.one [i6 ((a1.getD v2.toNat default).f_Module),i6 (((a1.getD v2.toNat default).f_TextEdit).f_Start),i6 (((a1.getD v2.toNat default).f_TextEdit).f_End),.str (((a1.getD v2.toNat default).f_TextEdit).f_NewText)])]++(fam 2 v3.length (some (0+((a1.getD v2.toNat default).f_Module).toNat))))) (n:=4) ?_ ?_
   ·exact zye (m:=(3,0)) (i:=(0+((a1.getD v2.toNat default).f_Module).toNat)) (M:=[((0,0),(0,0)),((1,0),(1,0))]) (lit':=[((0,0),.rows 1 (V3 2 3 (v3.map (pB z7)))),((1,0),.one [i6 ((a1.getD v2.toNat default).f_Module),i6 (((a1.getD v2.toNat default).f_TextEdit).f_Start),i6 (((a1.getD v2.toNat default).f_TextEdit).f_End),.str (((a1.getD v2.toNat default).f_TextEdit).f_NewText)])]) (T:=(fam 2 v3.length none)) (q:=2) (q':=2) rfl (by decide) (IsFam.cast (by first|rfl|simp) IsFam.base) (AI (VS rfl) (AI (pD rfl (by first|rfl|omega|(simp;done)|(simp at *;omega)) rfl) (AI (VS rfl) (SP rfl (S2 rfl rfl (AI (VS rfl) TT)))))) (AI (AI rfl (BVw.grFE z7 (by decide) rfl)) (AI (AI rfl (OL rfl)) TT))
   refine zq6 ?_
   obtain⟨h27,h⟩:=zk h
   refine AI h27 ?_
   obtain⟨h28,h⟩:=zk h
   refine EX ([.osl (3,0) 3 ((v3.getD (0+((a1.getD v2.toNat default).f_Module).toNat) default).map z7)]) (AI (z4y z7 h28) (AI (AI (zay z7 h28) (NB rfl)) ?_))
   obtain⟨h29,h⟩:=zk h
   refine EX (((v3.getD (0+((a1.getD v2.toNat default).f_Module).toNat) default)++([(G_TextEdit.mk (((a1.getD v2.toNat default).f_TextEdit).f_Start) (((a1.getD v2.toNat default).f_TextEdit).f_End) (((a1.getD v2.toNat default).f_TextEdit).f_NewText))]:List G_TextEdit)).map z7) (AI (z8r z7 (v3.getD (0+((a1.getD v2.toNat default).f_Module).toNat) default) ([(G_TextEdit.mk (((a1.getD v2.toNat default).f_TextEdit).f_Start) (((a1.getD v2.toNat default).f_TextEdit).f_End) (((a1.getD v2.toNat default).f_TextEdit).f_NewText))]:List G_TextEdit)) (AI h29 ?_))
   refine AI rfl ?_
   obtain⟨h30,h⟩:=zk h
   refine AI h30 ?_
   obtain⟨h31,h⟩:=zk h
   refine EX (z12 2 3 (v3.map (pB z7)) (0+((a1.getD v2.toNat default).f_Module).toNat) (4,0) (((v3.getD (0+((a1.getD v2.toNat default).f_Module).toNat) default)++([(G_TextEdit.mk (((a1.getD v2.toNat default).f_TextEdit).f_Start) (((a1.getD v2.toNat default).f_TextEdit).f_End) (((a1.getD v2.toNat default).f_TextEdit).f_NewText))]:List G_TextEdit)).map z7)) (AI (zdu z7 h31) (AI (AI rfl (AI (zay z7 h31) (NB rfl))) ?_))
   refine p2 (e:=[(0,.isl 2 (a0.map z6) false),(6,.msl (0,0) 1 0 ((v3.set (0+((a1.getD v2.toNat default).f_Module).toNat) ((v3.getD (0+((a1.getD v2.toNat default).f_Module).toNat) default)++([(G_TextEdit.mk (((a1.getD v2.toNat default).f_TextEdit).f_Start) (((a1.getD v2.toNat default).f_TextEdit).f_End) (((a1.getD v2.toNat default).f_TextEdit).f_NewText))]:List G_TextEdit))).length) true),(7,i6 ((a1.getD v2.toNat default).f_Module)),(13,.isl 4 (a1.map z8) false),(14,i6 ((a1.map z8).length:Int)),(15,i6 v2)]) (L:=([((0,0),.rows 1 (V3 1 3 ((v3.set (0+((a1.getD v2.toNat default).f_Module).toNat) ((v3.getD (0+((a1.getD v2.toNat default).f_Module).toNat) default)++([(G_TextEdit.mk (((a1.getD v2.toNat default).f_TextEdit).f_Start) (((a1.getD v2.toNat default).f_TextEdit).f_End) (((a1.getD v2.toNat default).f_TextEdit).f_NewText))]:List G_TextEdit))).map (pB z7))))]++(fam 1 (v3.set (0+((a1.getD v2.toNat default).f_Module).toNat) ((v3.getD (0+((a1.getD v2.toNat default).f_Module).toNat) default)++([(G_TextEdit.mk (((a1.getD v2.toNat default).f_TextEdit).f_Start) (((a1.getD v2.toNat default).f_TextEdit).f_End) (((a1.getD v2.toNat default).f_TextEdit).f_NewText))]:List G_TextEdit))).length none))) (n:=3) ?_ ?_
   ·exact zyb (t:=(4,0)) (i:=(0+((a1.getD v2.toNat default).f_Module).toNat)) (M:=[((0,0),(0,0))]) (lit':=[((4,0),.tok),((0,0),.rows 1 (z12 2 3 (v3.map (pB z7)) (0+((a1.getD v2.toNat default).f_Module).toNat) (4,0) (((v3.getD (0+((a1.getD v2.toNat default).f_Module).toNat) default)++([(G_TextEdit.mk (((a1.getD v2.toNat default).f_TextEdit).f_Start) (((a1.getD v2.toNat default).f_TextEdit).f_End) (((a1.getD v2.toNat default).f_TextEdit).f_NewText))]:List G_TextEdit)).map z7))),((1,0),.one [i6 ((a1.getD v2.toNat default).f_Module),i6 (((a1.getD v2.toNat default).f_TextEdit).f_Start),i6 (((a1.getD v2.toNat default).f_TextEdit).f_End),.str (((a1.getD v2.toNat default).f_TextEdit).f_NewText)])]) (T:=(AHeap.del (fam 2 v3.length (some (0+((a1.getD v2.toNat default).f_Module).toNat))) (3,0))) (q:=2) (q':=1) rfl (by decide) rfl (IsFam.cast (by first|rfl|simp) (IsFam.del (by decide) IsFam.base)) (AI (VS rfl) (AI (pD rfl (by first|rfl|omega|(simp;done)|(simp at *;omega)) rfl) (S4 rfl rfl rfl rfl TT))) (AI (AI rfl (BVw.grUE z7)) TT)
   refine y5 ?_
   cases h
   exact AI rfl (zvn (M:=[((0,0),(0,0))]) (lit':=[((0,0),.rows 1 (V3 1 3 ((v3.set (0+((a1.getD v2.toNat default).f_Module).toNat) ((v3.getD (0+((a1.getD v2.toNat default).f_Module).toNat) default)++([(G_TextEdit.mk (((a1.getD v2.toNat default).f_TextEdit).f_Start) (((a1.getD v2.toNat default).f_TextEdit).f_End) (((a1.getD v2.toNat default).f_TextEdit).f_NewText))]:List G_TextEdit))).map (pB z7))))]) (T:=(fam 1 (v3.set (0+((a1.getD v2.toNat default).f_Module).toNat) ((v3.getD (0+((a1.getD v2.toNat default).f_Module).toNat) default)++([(G_TextEdit.mk (((a1.getD v2.toNat default).f_TextEdit).f_Start) (((a1.getD v2.toNat default).f_TextEdit).f_End) (((a1.getD v2.toNat default).f_TextEdit).f_NewText))]:List G_TextEdit))).length none)) (q:=1) (q':=1) rfl (IsFam.cast (by first|rfl|simp) IsFam.base) (AI (VS rfl) (AI (pD rfl (by first|rfl|omega|(simp;done)|(simp at *;omega)) rfl) (S4 rfl rfl rfl rfl TT))) (AI (AI rfl BVw.grJ) TT))
 ·have h:=qc h22 h
  refine Xn ?_
  obtain⟨o,hq,rfl⟩:=p1.1 h
  replace h:=hq;clear hq
  refine AI nofun ?_
  refine p2 ?_ (zh4 h)
  exact zvn (M:=[((0,0),(0,0))]) (lit':=[((0,0),.rows 1 (V3 1 3 (v3.map (pB z7))))]) (T:=(fam 1 v3.length none)) (q:=1) (q':=1) rfl (IsFam.cast (by first|rfl|simp) IsFam.base) (AI (pD rfl (by first|rfl|omega|(simp;done)|(simp at *;omega)) rfl) TT) (AI (AI rfl BVw.grJ) TT)
theorem zi7{a0:List G_Module}{a1:List G_FileEdit}{v1:Int}{v2:Int}{v3:List (List G_TextEdit)}{m:Option Nat}{o:((List (List G_TextEdit))×Bool)}(h:qw m a0 a1 v1 v2 v3=some o) :
 LWp Tryz.prog Je 0 (.loop zhk) (j4 0 (Qh Tryz.prog Je 0 za2 (zmf a0 a1 o))) [(0,.isl 2 (a0.map z6) false),(6,.msl (0,0) 1 0 v3.length true),(7,i6 v1),(13,.isl 4 (a1.map z8) false),(14,i6 ((a1.map z8).length:Int)),(15,i6 v2)] ([((0,0),.rows 1 (V3 1 3 (v3.map (pB z7))))]++(fam 1 v3.length none)) 2:=
 ji (m:=m) (s:=((v1,v2,v3):(Int×Int×(List (List G_TextEdit))))) (r:=o) (fun(s:(Int×Int×(List (List G_TextEdit))))=>yy m a0 a1 s.1 s.2.1 s.2.2) (z1o a0 a1) (z3s a0 a1) (z95 a0 a1) (fun s o h=>zd1 h) h
def xj(m:Option Nat)(a0:List G_Module)(a1:List G_FileEdit):Option ((List (List G_TextEdit))×Bool):=
 if(0:Int)≤((a0.map z6).length:Int)∧((a0.map z6).length:Int)≤((a0.map z6).length:Int)∧((a0.map z6).length:Int)*24≤140737488355328 then
 qw m a0 a1 0 0 (pC ((a0.map z6).length:Int).toNat ([]:List G_TextEdit))
 else none
theorem zet{a0:List G_Module}{a1:List G_FileEdit}{m:Option Nat}{o:(List (List G_TextEdit))×Bool}(h:xj m a0 a1=some o):LWp Tryz.prog Je 0 znx (zmf a0 a1 o) (yi 0 [.isl 2 (a0.map z6) false,.isl 4 (a1.map z8) false]) [] 0:=by
 unfold xj at h
 refine zl ?_
 refine LWp.ghost 1 ?_
 refine y5 ?_
 refine p2 (e:=[(0,.isl 2 (a0.map z6) false),(1,.isl 4 (a1.map z8) false)]) (L:=[]) (n:=0) ?_ ?_
 ·exact jq (M:=[]) rfl (S2 rfl rfl TT) TT
 refine zl (y5 ?_)
 obtain⟨h1,h⟩:=zk h
 refine EX (pC ((a0.map z6).length:Int).toNat [AVal.isl 3 [] true]) (EX true (AI (Or.inr rfl) (AI (by simp) (AI h1 ?_))))
 refine p2 (e:=[(0,.isl 2 (a0.map z6) false),(1,.isl 4 (a1.map z8) false),(6,.msl (0,0) 1 0 ((pC ((a0.map z6).length:Int).toNat ([]:List G_TextEdit)).length) true)]) (L:=([((0,0),.rows 1 (V3 1 3 ((pC ((a0.map z6).length:Int).toNat ([]:List G_TextEdit)).map (pB z7))))]++(fam 1 (pC ((a0.map z6).length:Int).toNat ([]:List G_TextEdit)).length none))) (n:=2) ?_ ?_
 ·exact zuy (M:=[((0,0),(0,0))]) (lit':=[((0,0),.rows 1 (pC ((a0.map z6).length:Int).toNat [.isl 3 [] true]))]) (T:=[]) (q:=101) (q':=1) rfl (S2 rfl rfl (AI (pD rfl (by first|rfl|omega|(simp;done)|(simp at *;omega)) rfl) TT)) (AI (AI rfl (BVw.grNewE z7 (by decide))) TT)
 refine zl (y5 ?_)
 refine zl ?_
 refine zl (y5 ?_)
 refine ja ?_
 refine p2 ?_ (zi7 h)
 exact zvn (M:=[((0,0),(0,0))]) (lit':=[((0,0),.rows 1 (V3 1 3 ((pC ((a0.map z6).length:Int).toNat ([]:List G_TextEdit)).map (pB z7))))]) (T:=(fam 1 (pC ((a0.map z6).length:Int).toNat ([]:List G_TextEdit)).length none)) (q:=1) (q':=1) rfl (IsFam.cast (by first|rfl|simp) IsFam.base) (AI (VS rfl) (AI (pD rfl (by first|rfl|omega|(simp;done)|(simp at *;omega)) rfl) (S4 rfl rfl rfl rfl TT))) (AI (AI rfl BVw.grJ) TT)
theorem zs9{a0:List G_Module}{a1:List G_FileEdit}{m:Option Nat}{o:(List (List G_TextEdit))×Bool}(h:xj m a0 a1=some o):PFn Tryz.prog 24 [.isl 2 (a0.map z6) false,.isl 4 (a1.map z8) false] (.tup [.isl 1 (o.1.map yf) false,.bool o.2]):=p9 (L:=zt2) zqi zr1 (NB rfl) rfl (zet h)
def w5(m:Option Nat)(a0:List G_Module):Option (List G_Module):=zto 32 a0
theorem zi4:uc Tryz.prog 25:=⟨_,Tryz.func25,rfl,rfl⟩
theorem zm8{m:Option Nat}{a0:List G_Module}{o:List G_Module}(h:w5 m a0=some o):ACalls Tryz.prog 25 [.isl 2 (a0.map z6) false] [] 3 (Z6 4 (.msl (3,0) 2 0 o.length false) [((3,0),.rows 2 (o.map z6))]):=
 z7b (c:=48) (zs:=[(.str []),(.str [])]) z6 zi4 Tryz.func25 ⟨_,_,_,_,_,_,_,_,_,_,_,_,_,_,_,_,_,_,_,_,_,_,_,_,_,_,_,_,rfl,rfl,rfl⟩ (by kernel_rfl) (by kernel_rfl) (by kernel_rfl) (by kernel_rfl) (by decide) (by decide) rfl h _
def zfe:LCode:=(.seq (.region [Qo 22 (.bin .lss (.t 21) (.t 20))])
 (.seq (.cond (.t 22)
  .skip
  (.exit 0))
 (.seq (.block 1
  (.seq (.region [Qo 23 (.iaddr 3 (.t 19) (.t 21)),
   Qt 24 3 23,
   Qo 8 (.alloc [(i6 0),(i6 0),(.str [])]),
   ⟨none,.store 3 (.t 8) (.t 24),none⟩])
  (.seq (.seq (.region [Qf 25 0 8,
   Ql 26 1 25,
   Qm 27 5,
   Qo 28 (.bin .leq (.t 26) (.t 27)),
   Qm 29 28,
   Qe 30 1 8 (29,false),
   Qk 31 1 30 (29,false),
   Qe 32 0 8 (29,false),
   Qk 33 1 32 (29,false),
   Qg 34 (.bin .lss (.t 31) (.t 33)) (29,false),
   Qo 35 (.pick (.t 29) (.c (.bool true)) (.t 34)),
   Qm 36 35,
   Qe 37 1 8 (36,false),
   Qk 38 1 37 (36,false),
   Qn 39 0 (36,false),
   Qg 40 (.len true (.t 39)) (36,false),
   Qg 41 (.bin .gtr (.t 38) (.t 40)) (36,false),
   Qo 42 (.pick (.t 36) (.c (.bool true)) (.t 41))])
  (.cond (.t 42)
   (.seq (.region [Qi 4 3])
   .ret)
   .skip))
  (.seq (.region [Qf 43 1 8,
   Ql 44 1 43,
   Qm 5 44])
  (.region [Qm 45 6,
   Qf 46 2 8,
   Ql 47 1 46,
   Qo 48 (.len true (.t 47)),
   Qf 49 1 8,
   Ql 50 1 49,
   Qf 51 0 8,
   Ql 52 1 51,
   Qo 53 (.bin .sub (.t 50) (.t 52)),
   Qo 54 (.bin .sub (.t 48) (.t 53)),
   Qo 55 (.bin .add (.t 45) (.t 54)),
   Qm 6 55])))))
 (.region [Qo 56 (.bin .add (.t 21) (.c (i6 1))),
  Qm 21 56]))))
def zb1:LCode:=(.seq (.seq (.region [Qm 57 6,
 Qo 58 (.bin .gtr (.t 57) (.c (i6 2000)))])
 (.cond (.t 58)
  (.seq (.region [Qi 4 2])
  .ret)
  .skip))
 (.seq (.region [Qi 4 0])
 .ret))
def zn0:LCode:=(.seq (.region [Qi 4 0])
 (.seq (.seq (.region [Qm 9 0,
  Qo 10 (.len true (.t 9)),
  Qo 11 (.bin .gtr (.t 10) (.c (i6 2000))),
  Qm 12 11,
  Qn 13 1 (12,false),
  Qg 14 (.len false (.t 13)) (12,false),
  Qg 15 (.bin .gtr (.t 14) (.c (i6 50))) (12,false),
  Qo 16 (.pick (.t 12) (.c (.bool true)) (.t 15))])
 (.cond (.t 16)
  (.seq (.region [Qi 4 2])
  .ret)
  .skip))
 (.seq (.region [Qm 17 0,
  Qo 18 (.len true (.t 17)),
  Qo 5 (.mv (.c (i6 (-1)))),
  Qm 6 18])
 (.seq (.seq (.region [Qm 19 1,
  Qo 20 (.len false (.t 19)),
  Qi 21 0])
 (.block 0
  (.loop
   zfe)))
 zb1))))
def J5:Lay:=⟨59,[],false⟩
def zi6:List LRes:=[.t 4]
def zuh:LFn:=⟨2,J5,zn0,zi6⟩
theorem zpv:w4 Tryz.prog [] 59=some zuh:=by kernel_rfl
theorem zqd:uc Tryz.prog 59:=⟨_,Tryz.func59,rfl,rfl⟩
def zjx(a0:List UInt8)(a1:List G_TextEdit)(o:Int):Exit→Env→AHeap→Nat→Prop:=Q0 zi6 (jj (i6 o))
def z0z(a0:List UInt8)(a1:List G_TextEdit)(s:(Int×Int×Int)):Env:=[(0,.str a0),(5,i6 s.1),(6,i6 s.2.1),(19,.isl 3 (a1.map z7) false),(20,i6 ((a1.map z7).length:Int)),(21,i6 s.2.2)]
def z6o(a0:List UInt8)(a1:List G_TextEdit)(s:(Int×Int×Int)):AHeap:=[]
def zan(a0:List UInt8)(a1:List G_TextEdit)(o:Int):Exit→Env→AHeap→Nat→Prop:=(j4 0 (Qh Tryz.prog J5 0 zb1 (zjx a0 a1 o)))
def jz(m:Option Nat)(v2:Int):Option Int:=
 if(decide (v2 > 2000))=true then
  some 2
 else
  some 0
def qq(m:Option Nat)(a0:List UInt8)(a1:List G_TextEdit)(v1:Int)(v2:Int)(v3:Int):Option ((Int×Int×Int) ⊕ Int):=
 if(decide (v3<((a1.map z7).length:Int)))=true then
  if(0:Int)≤v3∧v3<((a1.map z7).length:Int) then
  if(((decide ((a1.getD v3.toNat default).f_Start≤v1)) || (decide ((a1.getD v3.toNat default).f_End<(a1.getD v3.toNat default).f_Start))) || (decide ((a1.getD v3.toNat default).f_End > (a0.length:Int))))=true then
   p4 pA (
    some 3)
  else
   some (.inl ((a1.getD v3.toNat default).f_End,(W (v2+(W ((((a1.getD v3.toNat default).f_NewText).length:Int)-(W ((a1.getD v3.toNat default).f_End-(a1.getD v3.toNat default).f_Start)))))),(W (v3+1))))
  else none
 else
  p4 pA (
   jz m v2)
def xt(m:Option Nat)(a0:List UInt8)(a1:List G_TextEdit)(v1:Int)(v2:Int)(v3:Int):Option Int:=Zf m (fun(s:(Int×Int×Int))=>qq m a0 a1 s.1 s.2.1 s.2.2) (v1,v2,v3)
theorem zdz{a0:List UInt8}{a1:List G_TextEdit}{v2:Int}{m:Option Nat}{o:Int}(h:jz m v2=some o) :
 LWp Tryz.prog J5 0 zb1 (zjx a0 a1 o) [(6,i6 v2)] [] 0:=by
 unfold jz at h
 refine zl ?_
 refine zl (y5 ?_)
 refine j0 (v:=(decide (v2 > 2000))) rfl TT (fun h11=>?_) (fun h11=>?_)
 ·have h:=yq h11 h
  refine zl (y5 ?_)
  refine vl ?_
  cases h
  exact AI TT (AI rfl (VS rfl))
 ·have h:=qc h11 h
  refine jw ?_
  refine zl (y5 ?_)
  refine vl ?_
  cases h
  exact AI TT (AI rfl (VS rfl))
theorem zci{a0:List UInt8}{a1:List G_TextEdit}{v1:Int}{v2:Int}{v3:Int}{m:Option Nat}{o:(Int×Int×Int) ⊕ Int}(h:qq m a0 a1 v1 v2 v3=some o) :
 LWp Tryz.prog J5 0 zfe (Zg 0 0 (z0z a0 a1) (z6o a0 a1) (zan a0 a1) o) [(0,.str a0),(5,i6 v1),(6,i6 v2),(19,.isl 3 (a1.map z7) false),(20,i6 ((a1.map z7).length:Int)),(21,i6 v3)] [] 0:=by
 unfold qq at h
 refine zl (y5 ?_)
 refine zl ?_
 refine j0 (v:=(decide (v3<((a1.map z7).length:Int)))) rfl TT (fun h8=>?_) (fun h8=>?_)
 ·have h:=yq h8 h
  refine jw ?_
  refine zl ?_
  refine ja ?_
  refine zl (y5 ?_)
  obtain⟨h9,h⟩:=zk h
  refine AI h9 ?_
  refine EX (z7 (a1.getD v3.toNat default)) (AI (qt z7 _ _ (xr z7 h9)) (AI (AI (wa h9) (NB rfl)) ?_))
  refine zl ?_
  refine zl (y5 ?_)
  refine AI (fun hp=>hp) ?_
  refine AI (fun hp=>hp) ?_
  refine AI (fun hp=>(AI hp hp)) ?_
  refine AI (fun hc=>(bqf hc)) ?_
  refine AI (fun hp=>hp) ?_
  refine AI (fun hp=>hp) ?_
  refine AI (fun hp=>(AI hp hp)) ?_
  refine AI (fun hc=>(bqf hc)) ?_
  refine p2 (e:=[(0,.str a0),(6,i6 v2),(8,.ptr (0,0) 0 0),(19,.isl 3 (a1.map z7) false),(20,i6 ((a1.map z7).length:Int)),(21,i6 v3),(42,.bool (((decide ((a1.getD v3.toNat default).f_Start≤v1)) || (decide ((a1.getD v3.toNat default).f_End<(a1.getD v3.toNat default).f_Start))) || (decide ((a1.getD v3.toNat default).f_End > (a0.length:Int)))))]) (L:=[((0,0),.one [i6 ((a1.getD v3.toNat default).f_Start),i6 ((a1.getD v3.toNat default).f_End),.str ((a1.getD v3.toNat default).f_NewText)])]) (n:=1) ?_ ?_
  ·exact jq (M:=[((0,0),(0,0))]) rfl (S2 rfl rfl (SP rfl (S4 rfl rfl rfl rfl TT))) (AI (AI rfl (OL rfl)) TT)
  refine j0 (v:=(((decide ((a1.getD v3.toNat default).f_Start≤v1)) || (decide ((a1.getD v3.toNat default).f_End<(a1.getD v3.toNat default).f_Start))) || (decide ((a1.getD v3.toNat default).f_End > (a0.length:Int))))) rfl TT (fun h10=>?_) (fun h10=>?_)
  ·have h:=yq h10 h
   refine zl (y5 ?_)
   refine vl ?_
   obtain⟨o,hq,rfl⟩:=p1.1 h
   replace h:=hq;clear hq
   refine AI nofun ?_
   cases h
   exact AI TT (AI rfl (VS rfl))
  ·have h:=qc h10 h
   refine jw ?_
   refine zl (y5 ?_)
   refine y5 ?_
   refine p2 (e:=[(0,.str a0),(5,i6 ((a1.getD v3.toNat default).f_End)),(6,i6 (W (v2+(W ((((a1.getD v3.toNat default).f_NewText).length:Int)-(W ((a1.getD v3.toNat default).f_End-(a1.getD v3.toNat default).f_Start))))))),(19,.isl 3 (a1.map z7) false),(20,i6 ((a1.map z7).length:Int)),(21,i6 v3)]) (L:=[]) (n:=0) ?_ ?_
   ·exact jq (M:=[]) rfl (S4 rfl rfl rfl rfl (S2 rfl rfl TT)) TT
   refine y5 ?_
   cases h
   exact AI rfl (jq (M:=[]) rfl (S4 rfl rfl rfl rfl (S2 rfl rfl TT)) TT)
 ·have h:=qc h8 h
  refine Xn ?_
  obtain⟨o,hq,rfl⟩:=p1.1 h
  replace h:=hq;clear hq
  refine AI nofun ?_
  refine p2 ?_ (zdz h)
  exact jq (M:=[]) rfl (AI (VS rfl) TT) TT
theorem zft{a0:List UInt8}{a1:List G_TextEdit}{v1:Int}{v2:Int}{v3:Int}{m:Option Nat}{o:Int}(h:xt m a0 a1 v1 v2 v3=some o) :
 LWp Tryz.prog J5 0 (.loop zfe) (j4 0 (Qh Tryz.prog J5 0 zb1 (zjx a0 a1 o))) [(0,.str a0),(5,i6 v1),(6,i6 v2),(19,.isl 3 (a1.map z7) false),(20,i6 ((a1.map z7).length:Int)),(21,i6 v3)] [] 0:=
 ji (m:=m) (s:=((v1,v2,v3):(Int×Int×Int))) (r:=o) (fun(s:(Int×Int×Int))=>qq m a0 a1 s.1 s.2.1 s.2.2) (z0z a0 a1) (z6o a0 a1) (zan a0 a1) (fun s o h=>zci h) h
def xw(m:Option Nat)(a0:List UInt8)(a1:List G_TextEdit):Option Int:=
 if((decide ((a0.length:Int) > 2000)) || (decide (((a1.map z7).length:Int) > 50)))=true then
  some 2
 else
  xt m a0 a1 (-1) (a0.length:Int) 0
theorem zfm{a0:List UInt8}{a1:List G_TextEdit}{m:Option Nat}{o:Int}(h:xw m a0 a1=some o):LWp Tryz.prog J5 0 zn0 (zjx a0 a1 o) (yi 0 [.str a0,.isl 3 (a1.map z7) false]) [] 0:=by
 unfold xw at h
 refine zl (y5 ?_)
 refine zl ?_
 refine zl (y5 ?_)
 refine AI (fun hp=>hp) ?_
 refine AI (fun hp=>hp) ?_
 refine AI (fun hc=>(bqf hc)) ?_
 refine p2 (e:=[(0,.str a0),(1,.isl 3 (a1.map z7) false),(16,.bool ((decide ((a0.length:Int) > 2000)) || (decide (((a1.map z7).length:Int) > 50))))]) (L:=[]) (n:=0) ?_ ?_
 ·exact jq (M:=[]) rfl (S2 rfl rfl (AI (VS rfl) TT)) TT
 refine j0 (v:=((decide ((a0.length:Int) > 2000)) || (decide (((a1.map z7).length:Int) > 50)))) rfl TT (fun h1=>?_) (fun h1=>?_)
 ·have h:=yq h1 h
  refine zl (y5 ?_)
  refine vl ?_
  cases h
  exact AI TT (AI rfl (VS rfl))
 ·have h:=qc h1 h
  refine jw ?_
  refine zl (y5 ?_)
  refine zl ?_
  refine zl (y5 ?_)
  refine ja ?_
  refine p2 ?_ (zft h)
  exact jq (M:=[]) rfl (S4 rfl rfl rfl rfl (S2 rfl rfl TT)) TT
theorem zsu{a0:List UInt8}{a1:List G_TextEdit}{m:Option Nat}{o:Int}(h:xw m a0 a1=some o):PFn Tryz.prog 59 [.str a0,.isl 3 (a1.map z7) false] (i6 o):=p9 (L:=zuh) zpv zqd (NB rfl) rfl (zfm h)
def zdo:LCode:=(.seq (.region [Qo 20 (.bin .lss (.t 19) (.t 18))])
 (.seq (.cond (.t 20)
  .skip
  (.exit 0))
 (.seq (.block 1
  (.seq (.region [Qo 21 (.iaddr 3 (.t 17) (.t 19)),
   Qt 22 3 21,
   Qo 10 (.alloc [(i6 0),(i6 0),(.str [])]),
   ⟨none,.store 3 (.t 10) (.t 22),none⟩])
  (.seq (.draw [⟨Qm 23 0,[]⟩,
   ⟨Qm 24 8,[]⟩,
   ⟨Qf 25 0 10,[]⟩,
   ⟨Ql 26 1 25,[]⟩,
   ⟨Qo 27 (.slStr (.t 23) (some (.t 24)) (some (.t 26))),[]⟩,
   ⟨Qf 28 2 10,[]⟩,
   ⟨Ql 29 1 28,[]⟩,
   ⟨Qo 30 (.bin .add (.t 27) (.t 29)),[]⟩,
   ⟨Qo 31 (.call 60 [(.t 7),(.t 30)]),[]⟩])
  (.region [Qf 32 1 10,
   Ql 33 1 32,
   Qm 8 33]))))
 (.region [Qo 34 (.bin .add (.t 19) (.c (i6 1))),
  Qm 19 34]))))
def zai:LCode:=(.seq (.region [Qm 35 0,
 Qm 36 8,
 Qo 37 (.slStr (.t 35) (some (.t 36)) none),
 Qo 38 (.call 60 [(.t 7),(.t 37)])])
 (.seq (.region [Qc 39 61 7,
  Qm 4 39,
  Qi 5 0])
 .ret))
def zn3:LCode:=(.seq (.region [Qo 4 (.mv (.c (.str []))),
 Qi 5 0])
 (.seq (.seq (.region [Qm 11 0,
  Qm 12 1,
  Qo 13 (.call 59 [(.t 11),(.t 12)]),
  Qm 6 13])
 (.seq (.region [Qm 14 6,
  Qo 15 (.bin .neq (.t 14) (.c (i6 0)))])
 (.cond (.t 15)
  (.seq (.region [Qm 16 6,
   Qo 4 (.mv (.c (.str []))),
   Qm 5 16])
  .ret)
  .skip)))
 (.seq (.region [Qo 7 (.allocB 124 5)])
 (.seq (.region [Qi 8 0])
 (.seq (.seq (.region [Qm 17 1,
  Qo 18 (.len false (.t 17)),
  Qi 19 0])
 (.block 0
  (.loop
   zdo)))
 zai)))))
def Jk:Lay:=⟨40,[7],false⟩
def ziz:List LRes:=[.t 4,.t 5]
def zvg:LFn:=⟨2,Jk,zn3,ziz⟩
theorem zpg:w4 Tryz.prog [7] 26=some zvg:=by kernel_rfl
theorem zrh:uc Tryz.prog 26:=⟨_,Tryz.func26,rfl,rfl⟩
def zls(a0:List UInt8)(a1:List G_TextEdit)(o:(List UInt8)×Int):Exit→Env→AHeap→Nat→Prop:=Q0 ziz (jj (.tup [.str o.1,i6 o.2]))
def z10(a0:List UInt8)(a1:List G_TextEdit)(s:(Int×Int×(List UInt8))):Env:=[(0,.str a0),(7,.ptr (0,0) 0 0),(8,i6 s.1),(17,.isl 3 (a1.map z7) false),(18,i6 ((a1.map z7).length:Int)),(19,i6 s.2.1)]
def z5d(a0:List UInt8)(a1:List G_TextEdit)(s:(Int×Int×(List UInt8))):AHeap:=[((0,0),.bld 124 (1,0)),((1,0),.buf 5 s.2.2)]
def zbd(a0:List UInt8)(a1:List G_TextEdit)(o:((List UInt8)×Int)):Exit→Env→AHeap→Nat→Prop:=(j4 0 (Qh Tryz.prog Jk 0 zai (zls a0 a1 o)))
def wj(m:Option Nat)(a0:List UInt8)(v2:Int)(v4:List UInt8):Option ((List UInt8)×Int):=
 if(0:Int)≤v2∧v2≤(a0.length:Int) then
 if v4.length+((a0.take a0.length).drop v2.toNat).length≤140737488355328 then
 if(v4++((a0.take a0.length).drop v2.toNat)).length≤9223372036854775807 then
 some ((v4++((a0.take a0.length).drop v2.toNat)),0)
 else none
 else none
 else none
def xv(m:Option Nat)(a0:List UInt8)(a1:List G_TextEdit)(v2:Int)(v3:Int)(v4:List UInt8):Option ((Int×Int×(List UInt8)) ⊕ ((List UInt8)×Int)):=
 if(decide (v3<((a1.map z7).length:Int)))=true then
  if(0:Int)≤v3∧v3<((a1.map z7).length:Int) then
  if(0:Int)≤v2∧v2≤(a1.getD v3.toNat default).f_Start∧((a1.getD v3.toNat default).f_Start)≤(a0.length:Int) then
  if(((((a0.take ((a1.getD v3.toNat default).f_Start).toNat).drop v2.toNat).length+((a1.getD v3.toNat default).f_NewText).length:Nat):Int)≤9223372036854775807) then
  if v4.length+(((a0.take ((a1.getD v3.toNat default).f_Start).toNat).drop v2.toNat)++(a1.getD v3.toNat default).f_NewText).length≤140737488355328 then
  some (.inl ((a1.getD v3.toNat default).f_End,(W (v3+1)),(v4++(((a0.take ((a1.getD v3.toNat default).f_Start).toNat).drop v2.toNat)++(a1.getD v3.toNat default).f_NewText))))
  else none
  else none
  else none
  else none
 else
  p4 pA (
   wj m a0 v2 v4)
def jv(m:Option Nat)(a0:List UInt8)(a1:List G_TextEdit)(v2:Int)(v3:Int)(v4:List UInt8):Option ((List UInt8)×Int):=Zf m (fun(s:(Int×Int×(List UInt8)))=>xv m a0 a1 s.1 s.2.1 s.2.2) (v2,v3,v4)
theorem zdp{a1:List G_TextEdit}{a0:List UInt8}{v2:Int}{v4:List UInt8}{m:Option Nat}{o:((List UInt8)×Int)}(h:wj m a0 v2 v4=some o) :
 LWp Tryz.prog Jk 0 zai (zls a0 a1 o) [(0,.str a0),(7,.ptr (0,0) 0 0),(8,i6 v2)] [((0,0),.bld 124 (1,0)),((1,0),.buf 5 v4)] 2:=by
 unfold wj at h
 refine zl (y5 ?_)
 obtain⟨h18,h⟩:=zk h
 refine AI (AI (And.left h18) (AI (And.right h18) (Int.le_refl _))) ?_
 obtain⟨h19,h⟩:=zk h
 refine z0a (b:=(0,0)) (g:=(1,0)) (bs:=v4) Q8 rfl rfl h19 ?_
 refine zl (y5 ?_)
 obtain⟨h20,h⟩:=zk h
 refine z1v (b:=(0,0)) (g:=(2,0)) (bs:=(v4++((a0.take a0.length).drop v2.toNat))) zhg rfl rfl h20 ?_
 refine vl ?_
 cases h
 exact AI TT (AI TT (AI rfl (VS rfl)))
theorem zc9{a0:List UInt8}{a1:List G_TextEdit}{v2:Int}{v3:Int}{v4:List UInt8}{m:Option Nat}{o:(Int×Int×(List UInt8)) ⊕ ((List UInt8)×Int)}(h:xv m a0 a1 v2 v3 v4=some o) :
 LWp Tryz.prog Jk 0 zdo (Zg 0 2 (z10 a0 a1) (z5d a0 a1) (zbd a0 a1) o) [(0,.str a0),(7,.ptr (0,0) 0 0),(8,i6 v2),(17,.isl 3 (a1.map z7) false),(18,i6 ((a1.map z7).length:Int)),(19,i6 v3)] [((0,0),.bld 124 (1,0)),((1,0),.buf 5 v4)] 2:=by
 unfold xv at h
 refine zl (y5 ?_)
 refine zl ?_
 refine j0 (v:=(decide (v3<((a1.map z7).length:Int)))) rfl TT (fun h13=>?_) (fun h13=>?_)
 ·have h:=yq h13 h
  refine jw ?_
  refine zl ?_
  refine ja ?_
  refine zl (y5 ?_)
  obtain⟨h14,h⟩:=zk h
  refine AI h14 ?_
  refine EX (z7 (a1.getD v3.toNat default)) (AI (qt z7 _ _ (xr z7 h14)) (AI (AI (wa h14) (NB rfl)) ?_))
  refine zl ?_
  refine zj0 rfl ?_
  obtain⟨h15,h⟩:=zk h
  refine AI h15 ?_
  obtain⟨h16,h⟩:=zk h
  refine AI h16 ?_
  obtain⟨h17,h⟩:=zk h
  refine z0a (b:=(0,0)) (g:=(1,0)) (bs:=v4) Q8 rfl rfl h17 ?_
  refine p2 (e:=[(0,.str a0),(7,.ptr (0,0) 0 0),(10,.ptr (1,0) 0 0),(17,.isl 3 (a1.map z7) false),(18,i6 ((a1.map z7).length:Int)),(19,i6 v3)]) (L:=[((0,0),.bld 124 (2,0)),((1,0),.one [i6 ((a1.getD v3.toNat default).f_Start),i6 ((a1.getD v3.toNat default).f_End),.str ((a1.getD v3.toNat default).f_NewText)]),((2,0),.buf 5 (v4++(((a0.take ((a1.getD v3.toNat default).f_Start).toNat).drop v2.toNat)++(a1.getD v3.toNat default).f_NewText)))]) (n:=3) ?_ ?_
  ·exact jq (M:=[((0,0),(0,0)),((1,0),(2,0)),((2,0),(3,0))]) rfl (AI (VS rfl) (SP rfl (SP rfl (S2 rfl rfl (AI (VS rfl) TT))))) (AI (AI rfl (BVw.bld _ _ _ rfl)) (AI (AI rfl (OL rfl)) (AI (AI rfl (BVw.buf _ _)) TT)))
  refine y5 ?_
  refine y5 ?_
  cases h
  exact AI rfl (jq (M:=[((0,0),(0,0)),((1,0),(2,0))]) rfl (AI (VS rfl) (SP rfl (S4 rfl rfl rfl rfl TT))) (AI (AI rfl (BVw.bld _ _ _ rfl)) (AI (AI rfl (BVw.buf _ _)) TT)))
 ·have h:=qc h13 h
  refine Xn ?_
  obtain⟨o,hq,rfl⟩:=p1.1 h
  replace h:=hq;clear hq
  refine AI nofun ?_
  refine p2 ?_ (zdp h)
  exact jq (M:=[((0,0),(0,0)),((1,0),(1,0))]) rfl (AI (VS rfl) (SP rfl (AI (VS rfl) TT))) (AI (AI rfl (BVw.bld _ _ _ rfl)) (AI (AI rfl (BVw.buf _ _)) TT))
theorem zew{a0:List UInt8}{a1:List G_TextEdit}{v2:Int}{v3:Int}{v4:List UInt8}{m:Option Nat}{o:((List UInt8)×Int)}(h:jv m a0 a1 v2 v3 v4=some o) :
 LWp Tryz.prog Jk 0 (.loop zdo) (j4 0 (Qh Tryz.prog Jk 0 zai (zls a0 a1 o))) [(0,.str a0),(7,.ptr (0,0) 0 0),(8,i6 v2),(17,.isl 3 (a1.map z7) false),(18,i6 ((a1.map z7).length:Int)),(19,i6 v3)] [((0,0),.bld 124 (1,0)),((1,0),.buf 5 v4)] 2:=
 ji (m:=m) (s:=((v2,v3,v4):(Int×Int×(List UInt8)))) (r:=o) (fun(s:(Int×Int×(List UInt8)))=>xv m a0 a1 s.1 s.2.1 s.2.2) (z10 a0 a1) (z5d a0 a1) (zbd a0 a1) (fun s o h=>zc9 h) h
def w6(m:Option Nat)(a0:List UInt8)(a1:List G_TextEdit):Option ((List UInt8)×Int):=
 (xw m a0 a1).bind fun v1=>
 if(v1 != 0)=true then
  some (([]:List UInt8),v1)
 else
  jv m a0 a1 0 0 ([]:List UInt8)
theorem zgt{a0:List UInt8}{a1:List G_TextEdit}{m:Option Nat}{o:(List UInt8)×Int}(h:w6 m a0 a1=some o):LWp Tryz.prog Jk 0 zn3 (zls a0 a1 o) (yi 0 [.str a0,.isl 3 (a1.map z7) false]) [] 0:=by
 unfold w6 at h
 refine zl (y5 ?_)
 refine zl ?_
 refine zl (y5 ?_)
 obtain⟨v1,h1,h⟩:=bind_some h
 refine p3 (zsu h1) (S2 rfl rfl TT) ?_
 refine zl (y5 ?_)
 refine p2 (e:=[(0,.str a0),(1,.isl 3 (a1.map z7) false),(6,i6 v1),(15,.bool (v1 != 0))]) (L:=[]) (n:=0) ?_ ?_
 ·exact jq (M:=[]) rfl (S4 rfl rfl rfl rfl TT) TT
 refine j0 (v:=(v1 != 0)) rfl TT (fun h2=>?_) (fun h2=>?_)
 ·have h:=yq h2 h
  refine zl (y5 ?_)
  refine vl ?_
  cases h
  exact AI TT (AI TT (AI rfl (VS rfl)))
 ·have h:=qc h2 h
  refine jw ?_
  refine zl (y5 ?_)
  refine zl (y5 ?_)
  refine zl ?_
  refine zl (y5 ?_)
  refine ja ?_
  refine p2 ?_ (zew h)
  exact jq (M:=[((0,0),(0,0)),((1,0),(0,1))]) rfl (AI (VS rfl) (SP rfl (S4 rfl rfl rfl rfl TT))) (AI (AI rfl (BVw.bld _ _ _ rfl)) (AI (AI rfl (BVw.buf _ _)) TT))
theorem zs8{a0:List UInt8}{a1:List G_TextEdit}{m:Option Nat}{o:(List UInt8)×Int}(h:w6 m a0 a1=some o):PFn Tryz.prog 26 [.str a0,.isl 3 (a1.map z7) false] (.tup [.str o.1,i6 o.2]):=p9 (L:=zvg) zpg zrh (NB rfl) rfl (zgt h)
def zqg:LCode:=(.seq (.region [Qo 33 (.bin .lss (.t 32) (.t 31))])
 (.seq (.cond (.t 33)
  .skip
  (.exit 0))
 (.seq (.block 1
  (.seq (.region [Qm 34 32,
   Qo 35 (.iaddr 2 (.t 30) (.t 32)),
   Qt 36 2 35,
   Qo 11 (.alloc [(.str []),(.str [])]),
   Qm 10 34,
   ⟨none,.store 2 (.t 11) (.t 36),none⟩])
  (.seq (.draw [⟨Qf 38 1 11,[]⟩,
   ⟨Ql 39 1 38,[]⟩,
   ⟨Qm 40 7,[]⟩,
   ⟨Qm 41 10,[]⟩,
   ⟨Qo 42 (.iaddr 1 (.t 40) (.t 41)),[]⟩,
   ⟨Ql 43 1 42,[]⟩,
   ⟨Qo 44 (.call 26 [(.t 39),(.t 43)]),[]⟩,
   ⟨Qm 37 44,[]⟩,
   ⟨Qo 45 (.ext 0 (.t 37)),[]⟩,
   ⟨Qo 46 (.ext 1 (.t 37)),[]⟩,
   ⟨Qm 12 45,[]⟩,
   ⟨Qm 13 46,[]⟩])
  (.seq (.seq (.region [Qm 47 13,
   Qo 48 (.bin .neq (.t 47) (.c (i6 0)))])
  (.cond (.t 48)
   (.seq (.region [Qm 49 13,
    Qo 4 (.mv (.c (.val (.slice none 0 0)))),
    Qm 5 49])
   .ret)
   .skip))
  (.region [Qm 50 9,
   Qm 51 10,
   Qm 52 12,
   Qo 53 (.iaddr 2 (.t 50) (.t 51)),
   Qf 54 1 53,
   ⟨none,.store 1 (.t 54) (.t 52),none⟩])))))
 (.region [Qo 55 (.bin .add (.t 32) (.c (i6 1))),
  Qm 32 55]))))
def zmv:LCode:=(.seq (.seq (.region [Qm 56 9,
 Qc 57 8 56,
 Qm 14 57])
 (.seq (.region [Qm 58 14,
  Qo 59 (.bin .neq (.t 58) (.c (i6 0)))])
 (.cond (.t 59)
  (.seq (.region [Qm 60 14,
   Qo 4 (.mv (.c (.val (.slice none 0 0)))),
   Qm 5 60])
  .ret)
  .skip)))
 (.seq (.region [Qm 61 9,
  Qm 4 61,
  Qi 5 0])
 .ret))
def zts:LCode:=(.seq (.region [Qo 4 (.mv (.c (.val (.slice none 0 0)))),
 Qi 5 0])
 (.seq (.seq (.region [Qm 15 0,
  Qc 16 8 15,
  Qm 6 16])
 (.seq (.region [Qm 17 6,
  Qo 18 (.bin .neq (.t 17) (.c (i6 0)))])
 (.cond (.t 18)
  (.seq (.region [Qm 19 6,
   Qo 4 (.mv (.c (.val (.slice none 0 0)))),
   Qm 5 19])
  .ret)
  .skip)))
 (.seq (.region [Qm 21 0,
  Qm 22 1,
  Qo 23 (.call 24 [(.t 21),(.t 22)]),
  Qm 20 23,
  Qo 24 (.ext 0 (.t 20)),
  Qo 25 (.ext 1 (.t 20)),
  Qm 7 24,
  Qm 8 25])
 (.seq (.seq (.region [Qm 26 8,
  Qo 27 (.un .not (.t 26))])
 (.cond (.t 27)
  (.seq (.region [Qo 4 (.mv (.c (.val (.slice none 0 0)))),
   Qi 5 3])
  .ret)
  .skip))
 (.seq (.region [Qm 28 0,
  Qc 29 25 28,
  Qm 9 29])
 (.seq (.seq (.region [Qm 30 0,
  Qo 31 (.len false (.t 30)),
  Qi 32 0])
 (.block 0
  (.loop
   zqg)))
 zmv))))))
def z02:Lay:=⟨62,[],false⟩
def znu:List LRes:=[.t 4,.t 5]
def zxy:LFn:=⟨2,z02,zts,znu⟩
theorem zsq:w4 Tryz.prog [] 7=some zxy:=by kernel_rfl
theorem zuv:uc Tryz.prog 7:=⟨_,Tryz.func7,rfl,rfl⟩
def zvr(a0:List G_Module)(a1:List G_FileEdit)(o:(List G_Module)×Int):Exit→Env→AHeap→Nat→Prop:=Q0 znu (jj (.tup [.isl 2 (o.1.map z6) false,i6 o.2]))
def z4o(a0:List G_Module)(v2:(List (List G_TextEdit))×Bool)(s:(Int×(List G_Module))):Env:=[(7,.isl 1 (v2.1.map yf) false),(9,.msl (0,0) 2 0 s.2.length false),(30,.isl 2 (a0.map z6) false),(31,i6 ((a0.map z6).length:Int)),(32,i6 s.1)]
def z9e(a0:List G_Module)(v2:(List (List G_TextEdit))×Bool)(s:(Int×(List G_Module))):AHeap:=[((0,0),.rows 2 (s.2.map z6))]
def zeu(a0:List G_Module)(a1:List G_FileEdit)(o:((List G_Module)×Int)):Exit→Env→AHeap→Nat→Prop:=(j4 0 (Qh Tryz.prog z02 0 zmv (zvr a0 a1 o)))
def qh(m:Option Nat)(v6:List G_Module):Option ((List G_Module)×Int):=
 (yb m v6).bind fun v9=>
 if(v9 != 0)=true then
  some ([],v9)
 else
  some (v6,0)
def yj(m:Option Nat)(a0:List G_Module)(v2:(List (List G_TextEdit))×Bool)(v5:Int)(v6:List G_Module):Option ((Int×(List G_Module)) ⊕ ((List G_Module)×Int)):=
 if(decide (v5<((a0.map z6).length:Int)))=true then
  if(0:Int)≤v5∧v5<((a0.map z6).length:Int) then
  if(0:Int)≤v5∧v5<((v2.1.map yf).length:Int) then
  (w6 m ((a0.getD v5.toNat default).f_Source) (v2.1.getD v5.toNat default)).bind fun v8=>
  if(v8.2 != 0)=true then
   p4 pA (
    some ([],v8.2))
  else
   if(0:Int)≤v5∧v5<((v6.length:Nat):Int) then
   if(0+v5.toNat)<v6.length then
   some (.inl ((W (v5+1)),(v6.set (0+v5.toNat) (G_Module.mk ((v6.getD (0+v5.toNat) default).f_Name) v8.1))))
   else none
   else none
  else none
  else none
 else
  p4 pA (
   qh m v6)
def qg(m:Option Nat)(a0:List G_Module)(v2:(List (List G_TextEdit))×Bool)(v5:Int)(v6:List G_Module):Option ((List G_Module)×Int):=Zf m (fun(s:(Int×(List G_Module)))=>yj m a0 v2 s.1 s.2) (v5,v6)
theorem zmt{a0:List G_Module}{a1:List G_FileEdit}{v6:List G_Module}{m:Option Nat}{o:((List G_Module)×Int)}(h:qh m v6=some o) :
 LWp Tryz.prog z02 0 zmv (zvr a0 a1 o) [(9,.msl (0,0) 2 0 v6.length false)] [((0,0),.rows 2 (v6.map z6))] 1:=by
 unfold qh at h
 refine zl ?_
 refine zl (y5 ?_)
 obtain⟨v9,h27,h⟩:=bind_some h
 refine PFn.readB [(0,0)] (zll h27) rfl (AI (Vw.frzB z6 Ud (fun h=>h) rfl rfl (by first|rfl|omega|(simp;done)|(simp at *;omega))) TT) ?_
 refine zl (y5 ?_)
 refine j0 (v:=(v9 != 0)) rfl TT (fun h28=>?_) (fun h28=>?_)
 ·have h:=yq h28 h
  refine zl (y5 ?_)
  refine p2 (e:=[(4,.val (.slice none 0 0)),(5,i6 v9)]) (L:=[]) (n:=0) ?_ ?_
  ·exact jq (M:=[]) rfl (S2 rfl rfl TT) TT
  refine vl ?_
  cases h
  exact AI TT (AI TT (AI rfl (Vw.tupL (AI (Vw.nilI _ _) (AI (VS rfl) TT)))))
 ·have h:=qc h28 h
  refine jw ?_
  refine zl (y5 ?_)
  refine p2 (e:=[(4,.msl (0,0) 2 0 v6.length false),(5,i6 0)]) (L:=[((0,0),.rows 2 (v6.map z6))]) (n:=1) ?_ ?_
  ·exact jq (M:=[((0,0),(0,0))]) rfl (AI (pD rfl (by first|rfl|omega|(simp;done)|(simp at *;omega)) rfl) (AI (VS rfl) TT)) (AI (AI rfl (BVw.enc z6 (fun _=>rfl) _ v6)) TT)
  refine vl ?_
  cases h
  exact AI TT (AI TT (AI rfl (Vw.tupL (AI (Vw.frzB z6 Ud (fun h=>h) rfl rfl (by first|rfl|omega|(simp;done)|(simp at *;omega))) (AI (VS rfl) TT)))))
theorem zdd{a1:List G_FileEdit}{a0:List G_Module}{v2:(List (List G_TextEdit))×Bool}{v5:Int}{v6:List G_Module}{m:Option Nat}{o:(Int×(List G_Module)) ⊕ ((List G_Module)×Int)}(h:yj m a0 v2 v5 v6=some o) :
 LWp Tryz.prog z02 0 zqg (Zg 0 1 (z4o a0 v2) (z9e a0 v2) (zeu a0 a1) o) [(7,.isl 1 (v2.1.map yf) false),(9,.msl (0,0) 2 0 v6.length false),(30,.isl 2 (a0.map z6) false),(31,i6 ((a0.map z6).length:Int)),(32,i6 v5)] [((0,0),.rows 2 (v6.map z6))] 1:=by
 unfold yj at h
 refine zl (y5 ?_)
 refine zl ?_
 refine j0 (v:=(decide (v5<((a0.map z6).length:Int)))) rfl TT (fun h20=>?_) (fun h20=>?_)
 ·have h:=yq h20 h
  refine jw ?_
  refine zl ?_
  refine ja ?_
  refine zl (y5 ?_)
  obtain⟨h21,h⟩:=zk h
  refine AI h21 ?_
  refine EX (z6 (a0.getD v5.toNat default)) (AI (qt z6 _ _ (xr z6 h21)) (AI (AI (wa h21) (NB rfl)) ?_))
  refine zl ?_
  refine zj0 rfl ?_
  obtain⟨h22,h⟩:=zk h
  refine AI h22 ?_
  refine EX (yf (v2.1.getD v5.toNat default)) (AI (qt yf _ _ (xr yf h22)) (AI (AI (wa h22) (NB rfl)) ?_))
  obtain⟨v8,h23,h⟩:=bind_some h
  refine p3 (zs8 h23) (S2 rfl rfl TT) ?_
  refine p2 (e:=[(7,.isl 1 (v2.1.map yf) false),(9,.msl (0,0) 2 0 v6.length false),(10,i6 v5),(12,.str v8.1),(13,i6 v8.2),(30,.isl 2 (a0.map z6) false),(31,i6 ((a0.map z6).length:Int)),(32,i6 v5)]) (L:=[((0,0),.rows 2 (v6.map z6))]) (n:=1) ?_ ?_
  ·exact jq (M:=[((0,0),(0,0))]) rfl (AI (VS rfl) (AI (pD rfl (by first|rfl|omega|(simp;done)|(simp at *;omega)) rfl) (S4 rfl rfl rfl rfl (S2 rfl rfl TT)))) (AI (AI rfl (BVw.enc z6 (fun _=>rfl) _ v6)) TT)
  refine zl ?_
  refine zl (y5 ?_)
  refine j0 (v:=(v8.2 != 0)) rfl TT (fun h24=>?_) (fun h24=>?_)
  ·have h:=yq h24 h
   refine zl (y5 ?_)
   refine vl ?_
   obtain⟨o,hq,rfl⟩:=p1.1 h
   replace h:=hq;clear hq
   refine AI nofun ?_
   cases h
   exact AI TT (AI TT (AI rfl (Vw.tupL (AI (Vw.nilI _ _) (AI (VS rfl) TT)))))
  ·have h:=qc h24 h
   refine jw ?_
   refine y5 ?_
   obtain⟨h25,h⟩:=zk h
   refine AI h25 ?_
   obtain⟨h26,h⟩:=zk h
   refine EX ((v6.set (0+v5.toNat) (G_Module.mk ((v6.getD (0+v5.toNat) default).f_Name) v8.1)).map z6) (AI (zqf z6 _ _ _ _ _ h26 rfl) (AI (AI rfl (AI (zv6 z6 h26) (NB rfl))) ?_))
   refine p2 (e:=[(7,.isl 1 (v2.1.map yf) false),(9,.msl (0,0) 2 0 v6.length false),(30,.isl 2 (a0.map z6) false),(31,i6 ((a0.map z6).length:Int)),(32,i6 v5)]) (L:=[((0,0),.rows 2 ((v6.set (0+v5.toNat) (G_Module.mk ((v6.getD (0+v5.toNat) default).f_Name) v8.1)).map z6))]) (n:=1) ?_ ?_
   ·exact jq (M:=[((0,0),(0,0))]) rfl (AI (VS rfl) (AI (pD rfl (by first|rfl|omega|(simp;done)|(simp at *;omega)) rfl) (S2 rfl rfl (AI (VS rfl) TT)))) (AI (AI rfl (BVw.enc z6 (fun _=>rfl) _ (v6.set (0+v5.toNat) (G_Module.mk ((v6.getD (0+v5.toNat) default).f_Name) v8.1)))) TT)
   refine y5 ?_
   cases h
   exact AI rfl (jq (M:=[((0,0),(0,0))]) rfl (AI (VS rfl) (AI (pD rfl (by first|rfl|omega|(simp;done)|(simp at *;omega)) rfl) (S2 rfl rfl (AI (VS rfl) TT)))) (AI (AI rfl (BVw.enc z6 (fun _=>rfl) _ (v6.set (0+v5.toNat) (G_Module.mk ((v6.getD (0+v5.toNat) default).f_Name) v8.1)))) TT))
 ·have h:=qc h20 h
  refine Xn ?_
  obtain⟨o,hq,rfl⟩:=p1.1 h
  replace h:=hq;clear hq
  refine AI nofun ?_
  refine p2 ?_ (zmt h)
  exact jq (M:=[((0,0),(0,0))]) rfl (AI (pD rfl (by first|rfl|omega|(simp;done)|(simp at *;omega)) rfl) TT) (AI (AI rfl (BVw.enc z6 (fun _=>rfl) _ v6)) TT)
theorem zmu{a1:List G_FileEdit}{a0:List G_Module}{v2:(List (List G_TextEdit))×Bool}{v5:Int}{v6:List G_Module}{m:Option Nat}{o:((List G_Module)×Int)}(h:qg m a0 v2 v5 v6=some o) :
 LWp Tryz.prog z02 0 (.loop zqg) (j4 0 (Qh Tryz.prog z02 0 zmv (zvr a0 a1 o))) [(7,.isl 1 (v2.1.map yf) false),(9,.msl (0,0) 2 0 v6.length false),(30,.isl 2 (a0.map z6) false),(31,i6 ((a0.map z6).length:Int)),(32,i6 v5)] [((0,0),.rows 2 (v6.map z6))] 1:=
 ji (m:=m) (s:=((v5,v6):(Int×(List G_Module)))) (r:=o) (fun(s:(Int×(List G_Module)))=>yj m a0 v2 s.1 s.2) (z4o a0 v2) (z9e a0 v2) (zeu a0 a1) (fun s o h=>zdd h) h
def x9(m:Option Nat)(a0:List G_Module)(a1:List G_FileEdit):Option ((List G_Module)×Int):=
 (yb m a0).bind fun v1=>
 if(v1 != 0)=true then
  some ([],v1)
 else
  (xj m a0 a1).bind fun v2=>
  if(!v2.2)=true then
   some ([],3)
  else
   (w5 m a0).bind fun v3=>
   qg m a0 v2 0 v3
theorem zkz{a0:List G_Module}{a1:List G_FileEdit}{m:Option Nat}{o:(List G_Module)×Int}(h:x9 m a0 a1=some o):LWp Tryz.prog z02 0 zts (zvr a0 a1 o) (yi 0 [.isl 2 (a0.map z6) false,.isl 4 (a1.map z8) false]) [] 0:=by
 unfold x9 at h
 refine zl (y5 ?_)
 refine zl ?_
 refine zl (y5 ?_)
 obtain⟨v1,h1,h⟩:=bind_some h
 refine p3 (zll h1) (AI (VS rfl) TT) ?_
 refine zl (y5 ?_)
 refine j0 (v:=(v1 != 0)) rfl TT (fun h2=>?_) (fun h2=>?_)
 ·have h:=yq h2 h
  refine zl (y5 ?_)
  refine p2 (e:=[(4,.val (.slice none 0 0)),(5,i6 v1)]) (L:=[]) (n:=0) ?_ ?_
  ·exact jq (M:=[]) rfl (S2 rfl rfl TT) TT
  refine vl ?_
  cases h
  exact AI TT (AI TT (AI rfl (Vw.tupL (AI (Vw.nilI _ _) (AI (VS rfl) TT)))))
 ·have h:=qc h2 h
  refine jw ?_
  refine zl (y5 ?_)
  obtain⟨v2,h3,h⟩:=bind_some h
  refine p3 (zs9 h3) (S2 rfl rfl TT) ?_
  refine p2 (e:=[(0,.isl 2 (a0.map z6) false),(7,.isl 1 (v2.1.map yf) false),(8,.bool v2.2)]) (L:=[]) (n:=0) ?_ ?_
  ·exact jq (M:=[]) rfl (S2 rfl rfl (AI (VS rfl) TT)) TT
  refine zl ?_
  refine zl (y5 ?_)
  refine j0 (v:=(!v2.2)) rfl TT (fun h4=>?_) (fun h4=>?_)
  ·have h:=yq h4 h
   refine zl (y5 ?_)
   refine vl ?_
   cases h
   exact AI TT (AI TT (AI rfl (Vw.tupL (AI (Vw.nilI _ _) (AI (VS rfl) TT)))))
  ·have h:=qc h4 h
   refine jw ?_
   refine zl (y5 ?_)
   obtain⟨v3,h5,h⟩:=bind_some h
   refine z37 (k:=3) (m:=1) (L':=[((0,0),.rows 2 (v3.map z6))]) (rest:=[]) (R':=.msl (0,0) 2 0 v3.length false) [] (zm8 h5) rfl rfl rfl (AI (VS rfl) TT) TT rfl (AI rfl (AI (zk3 z6 (fun _=>rfl) _ _) TT)) rfl ?_
   refine zl ?_
   refine zl (y5 ?_)
   refine p2 (e:=[(7,.isl 1 (v2.1.map yf) false),(9,.msl (0,0) 2 0 v3.length false),(30,.isl 2 (a0.map z6) false),(31,i6 ((a0.map z6).length:Int)),(32,i6 0)]) (L:=[((0,0),.rows 2 (v3.map z6))]) (n:=1) ?_ ?_
   ·exact jq (M:=[((0,0),(0,0))]) rfl (AI (VS rfl) (AI (pD rfl (by first|rfl|omega|(simp;done)|(simp at *;omega)) rfl) (S2 rfl rfl (AI (VS rfl) TT)))) (AI (AI rfl (BVw.enc z6 (fun _=>rfl) _ v3)) TT)
   refine ja ?_
   refine p2 ?_ (zmu h)
   exact jq (M:=[((0,0),(0,0))]) rfl (AI (VS rfl) (AI (pD rfl (by first|rfl|omega|(simp;done)|(simp at *;omega)) rfl) (S2 rfl rfl (AI (VS rfl) TT)))) (AI (AI rfl (BVw.enc z6 (fun _=>rfl) _ v3)) TT)
theorem zvz{a0:List G_Module}{a1:List G_FileEdit}{m:Option Nat}{o:(List G_Module)×Int}(h:x9 m a0 a1=some o):PFn Tryz.prog 7 [.isl 2 (a0.map z6) false,.isl 4 (a1.map z8) false] (.tup [.isl 2 (o.1.map z6) false,i6 o.2]):=p9 (L:=zxy) zsq zuv (NB rfl) rfl (zkz h)
def znq:LCode:=(.region [Qm 11 6,
 Qo 12 (.bin .add (.t 11) (.c (i6 1))),
 Qm 6 12])
def zev:LCode:=(.seq (.seq (.region [Qm 7 6,
 Qm 8 0,
 Qo 9 (.len false (.t 8)),
 Qo 10 (.bin .lss (.t 7) (.t 9))])
 (.cond (.t 10)
  .skip
  (.exit 0)))
 (.seq (.block 1
  (.seq (.region [Qm 13 0,
   Qm 14 6,
   Qo 15 (.iaddr 4 (.t 13) (.t 14)),
   Qf 16 0 15,
   Ql 17 1 16,
   Qm 18 1,
   Qo 19 (.bin .eql (.t 17) (.t 18))])
  (.cond (.t 19)
   (.region [Qm 20 5,
    Qm 21 0,
    Qm 22 6,
    Qo 23 (.iaddr 4 (.t 21) (.t 22)),
    Qf 24 1 23,
    Qt 25 3 24,
    Qo 26 (.mkSl true 3 [(i6 0),(i6 0),(.str [])] 1 [(0,(.t 25))]),
    Qo 27 (.app true 3 32 (.t 20) (.t 26)),
    Qm 5 27])
   .skip)))
 znq))
def z8v:LCode:=(.seq (.region [Qm 28 5,
 Qm 4 28])
 .ret)
def zns:LCode:=(.seq (.region [Qo 4 (.mv (.c (.val (.slice none 0 0))))])
 (.seq (.region [Qo 5 (.mv (.c (.val (.slice none 0 0))))])
 (.seq (.seq (.region [Qi 6 0])
 (.block 0
  (.loop
   zev)))
 z8v)))
def Qy:Lay:=⟨29,[],false⟩
def zi0:List LRes:=[.t 4]
def zsl:LFn:=⟨2,Qy,zns,zi0⟩
theorem zpc:w4 Tryz.prog [] 33=some zsl:=by kernel_rfl
theorem zpt:uc Tryz.prog 33:=⟨_,Tryz.func33,rfl,rfl⟩
def zl0(a0:List G_FileEdit)(a1:Int)(o:(List G_TextEdit)):Exit→Env→AHeap→Nat→Prop:=Q0 zi0 (jj (.isl 3 (o.map z7) false))
def Wl(a0:List G_FileEdit)(a1:Int)(s:((List G_TextEdit)×Int)):Env:=[(0,.isl 4 (a0.map z8) false),(1,i6 a1),(5,.osl (0,0) 3 (s.1.map z7)),(6,i6 s.2)]
def Ko(a0:List G_FileEdit)(a1:Int)(s:((List G_TextEdit)×Int)):AHeap:=[((0,0),.tok)]
def z3c(a0:List G_FileEdit)(a1:Int)(o:(List G_TextEdit)):Exit→Env→AHeap→Nat→Prop:=(j4 0 (Qh Tryz.prog Qy 0 z8v (zl0 a0 a1 o)))
def yv(m:Option Nat)(a0:List G_FileEdit)(a1:Int)(v3:Int)(v5:List G_TextEdit):Option (((List G_TextEdit)×Int) ⊕ (List G_TextEdit)):=
 some (.inl (v5,(W (v3+1))))
theorem z4d{a0:List G_FileEdit}{a1:Int}{v3:Int}{v5:List G_TextEdit}{m:Option Nat}{o:(((List G_TextEdit)×Int) ⊕ (List G_TextEdit))}(h:yv m a0 a1 v3 v5=some o) :
 LWp Tryz.prog Qy 0 znq (Zg 0 1 (Wl a0 a1) (Ko a0 a1) (z3c a0 a1) o) [(0,.isl 4 (a0.map z8) false),(1,i6 a1),(5,.osl (0,0) 3 (v5.map z7)),(6,i6 v3)] [((0,0),.tok)] 1:=by
 unfold yv at h
 refine y5 ?_
 cases h
 exact AI rfl (jq (M:=[((0,0),(0,0))]) rfl (S2 rfl rfl (AI (Vw.osl _ _ _ _ rfl) (AI (VS rfl) TT))) (AI (AI rfl BVw.tok) TT))
def qx(m:Option Nat)(v2:List G_TextEdit):Option (List G_TextEdit):=
 some v2
def zz(m:Option Nat)(a0:List G_FileEdit)(a1:Int)(v2:List G_TextEdit)(v3:Int):Option (((List G_TextEdit)×Int) ⊕ (List G_TextEdit)):=
 if(decide (v3<((a0.map z8).length:Int)))=true then
  if(0:Int)≤v3∧v3<((a0.map z8).length:Int) then
  if((a0.getD v3.toNat default).f_Module==a1)=true then
   if(0:Int)≤v3∧v3<((a0.map z8).length:Int) then
   if((v2++([(G_TextEdit.mk (((a0.getD v3.toNat default).f_TextEdit).f_Start) (((a0.getD v3.toNat default).f_TextEdit).f_End) (((a0.getD v3.toNat default).f_TextEdit).f_NewText))]:List G_TextEdit)).map z7).length*32≤140737488355328 then
   yv m a0 a1 v3 (v2++([(G_TextEdit.mk (((a0.getD v3.toNat default).f_TextEdit).f_Start) (((a0.getD v3.toNat default).f_TextEdit).f_End) (((a0.getD v3.toNat default).f_TextEdit).f_NewText))]:List G_TextEdit))
   else none
   else none
  else
   yv m a0 a1 v3 v2
  else none
 else
  p4 pA (
   qx m v2)
def zy(m:Option Nat)(a0:List G_FileEdit)(a1:Int)(v2:List G_TextEdit)(v3:Int):Option (List G_TextEdit):=Zf m (fun(s:((List G_TextEdit)×Int))=>zz m a0 a1 s.1 s.2) (v2,v3)
theorem zgu{a0:List G_FileEdit}{a1:Int}{v2:List G_TextEdit}{m:Option Nat}{o:(List G_TextEdit)}(h:qx m v2=some o) :
 LWp Tryz.prog Qy 0 z8v (zl0 a0 a1 o) [(5,.osl (0,0) 3 (v2.map z7))] [((0,0),.tok)] 1:=by
 unfold qx at h
 refine zl (y5 ?_)
 refine vl ?_
 cases h
 exact AI TT (AI rfl (Vw.oslI _ _ _))
theorem zcs{a0:List G_FileEdit}{a1:Int}{v2:List G_TextEdit}{v3:Int}{m:Option Nat}{o:((List G_TextEdit)×Int) ⊕ (List G_TextEdit)}(h:zz m a0 a1 v2 v3=some o) :
 LWp Tryz.prog Qy 0 zev (Zg 0 1 (Wl a0 a1) (Ko a0 a1) (z3c a0 a1) o) [(0,.isl 4 (a0.map z8) false),(1,i6 a1),(5,.osl (0,0) 3 (v2.map z7)),(6,i6 v3)] [((0,0),.tok)] 1:=by
 unfold zz at h
 refine zl ?_
 refine zl (y5 ?_)
 refine j0 (v:=(decide (v3<((a0.map z8).length:Int)))) rfl TT (fun h11=>?_) (fun h11=>?_)
 ·have h:=yq h11 h
  refine jw ?_
  refine zl ?_
  refine ja ?_
  refine zl (y5 ?_)
  obtain⟨h12,h⟩:=zk h
  refine AI h12 ?_
  refine EX (z8 (a0.getD v3.toNat default)) (AI (qt z8 _ _ (xr z8 h12)) (AI (AI (wa h12) (NB rfl)) ?_))
  refine p2 (e:=[(0,.isl 4 (a0.map z8) false),(1,i6 a1),(5,.osl (0,0) 3 (v2.map z7)),(6,i6 v3),(19,.bool ((a0.getD v3.toNat default).f_Module==a1))]) (L:=[((0,0),.tok)]) (n:=1) ?_ ?_
  ·exact jq (M:=[((0,0),(0,0))]) rfl (S2 rfl rfl (AI (Vw.osl _ _ _ _ rfl) (S2 rfl rfl TT))) (AI (AI rfl BVw.tok) TT)
  refine j0 (v:=((a0.getD v3.toNat default).f_Module==a1)) rfl TT (fun h13=>?_) (fun h13=>?_)
  ·have h:=yq h13 h
   refine y5 ?_
   obtain⟨h14,h⟩:=zk h
   refine AI h14 ?_
   refine EX (z8 (a0.getD v3.toNat default)) (AI (qt z8 _ _ (xr z8 h14)) (AI (AI (wa h14) (NB rfl)) ?_))
   obtain⟨h15,h⟩:=zk h
   refine EX ((v2++([(G_TextEdit.mk (((a0.getD v3.toNat default).f_TextEdit).f_Start) (((a0.getD v3.toNat default).f_TextEdit).f_End) (((a0.getD v3.toNat default).f_TextEdit).f_NewText))]:List G_TextEdit)).map z7) (AI (z8r z7 v2 ([(G_TextEdit.mk (((a0.getD v3.toNat default).f_TextEdit).f_Start) (((a0.getD v3.toNat default).f_TextEdit).f_End) (((a0.getD v3.toNat default).f_TextEdit).f_NewText))]:List G_TextEdit)) (AI h15 ?_))
   refine p2 ?_ (z4d h)
   exact jq (M:=[((0,0),(1,0))]) rfl (S2 rfl rfl (AI (Vw.osl _ _ _ _ rfl) (AI (VS rfl) TT))) (AI (AI rfl BVw.tok) TT)
  ·have h:=qc h13 h
   refine jw ?_
   refine p2 ?_ (z4d h)
   exact jq (M:=[((0,0),(0,0))]) rfl (S2 rfl rfl (AI (Vw.osl _ _ _ _ rfl) (AI (VS rfl) TT))) (AI (AI rfl BVw.tok) TT)
 ·have h:=qc h11 h
  refine Xn ?_
  obtain⟨o,hq,rfl⟩:=p1.1 h
  replace h:=hq;clear hq
  refine AI nofun ?_
  refine p2 ?_ (zgu h)
  exact jq (M:=[((0,0),(0,0))]) rfl (AI (Vw.osl _ _ _ _ rfl) TT) (AI (AI rfl BVw.tok) TT)
theorem zek{a0:List G_FileEdit}{a1:Int}{v2:List G_TextEdit}{v3:Int}{m:Option Nat}{o:(List G_TextEdit)}(h:zy m a0 a1 v2 v3=some o) :
 LWp Tryz.prog Qy 0 (.loop zev) (j4 0 (Qh Tryz.prog Qy 0 z8v (zl0 a0 a1 o))) [(0,.isl 4 (a0.map z8) false),(1,i6 a1),(5,.osl (0,0) 3 (v2.map z7)),(6,i6 v3)] [((0,0),.tok)] 1:=
 ji (m:=m) (s:=((v2,v3):((List G_TextEdit)×Int))) (r:=o) (fun(s:((List G_TextEdit)×Int))=>zz m a0 a1 s.1 s.2) (Wl a0 a1) (Ko a0 a1) (z3c a0 a1) (fun s o h=>zcs h) h
def y8(m:Option Nat)(a0:List G_FileEdit)(a1:Int):Option (List G_TextEdit):=
 zy m a0 a1 [] 0
theorem zje{a0:List G_FileEdit}{a1:Int}{m:Option Nat}{o:(List G_TextEdit)}(h:y8 m a0 a1=some o):LWp Tryz.prog Qy 0 zns (zl0 a0 a1 o) (yi 0 [.isl 4 (a0.map z8) false,i6 a1]) [] 0:=by
 unfold y8 at h
 refine zl (y5 ?_)
 refine zl (y5 ?_)
 refine zl ?_
 refine zl (y5 ?_)
 refine ja ?_
 refine p2 ?_ (zek h)
 exact jq (M:=[]) rfl (S2 rfl rfl (AI (Vw.nilO _ _ (by decide)) (AI (VS rfl) TT))) (AI (AI rfl (AI (by decide) (by decide))) TT)
theorem zn2{a0:List G_FileEdit}{a1:Int}{m:Option Nat}{o:(List G_TextEdit)}(h:y8 m a0 a1=some o):PFn Tryz.prog 33 [.isl 4 (a0.map z8) false,i6 a1] (.isl 3 (o.map z7) false):=p9 (L:=zsl) zpc zpt (NB rfl) rfl (zje h)
def zng:LCode:=(.seq (.region [Qm 33 1,
 Qm 34 6,
 Qo 35 (.iaddr 3 (.t 33) (.t 34)),
 Qt 36 3 35,
 Qo 8 (.alloc [(i6 0),(i6 0),(.str [])]),
 ⟨none,.store 3 (.t 8) (.t 36),none⟩])
 (.seq (.seq (.region [Qf 37 0 8,
  Ql 38 1 37,
  Qo 39 (.bin .lss (.t 38) (.c (i6 0))),
  Qm 40 39,
  Qe 41 0 8 (40,false),
  Qk 42 1 41 (40,false),
  Qn 43 7 (40,false),
  Qg 44 (.bin .leq (.t 42) (.t 43)) (40,false),
  Qo 45 (.pick (.t 40) (.c (.bool true)) (.t 44)),
  Qm 46 45,
  Qe 47 1 8 (46,false),
  Qk 48 1 47 (46,false),
  Qe 49 0 8 (46,false),
  Qk 50 1 49 (46,false),
  Qg 51 (.bin .lss (.t 48) (.t 50)) (46,false),
  Qo 52 (.pick (.t 46) (.c (.bool true)) (.t 51)),
  Qm 53 52,
  Qe 54 1 8 (53,false),
  Qk 55 1 54 (53,false),
  Qn 56 0 (53,false),
  Qg 57 (.len true (.t 56)) (53,false),
  Qg 58 (.bin .gtr (.t 55) (.t 57)) (53,false),
  Qo 59 (.pick (.t 53) (.c (.bool true)) (.t 58))])
 (.cond (.t 59)
  (.seq (.region [Qi 4 3])
  .ret)
  .skip))
 (.region [Qm 60 5,
  Qf 61 2 8,
  Ql 62 1 61,
  Qo 63 (.len true (.t 62)),
  Qo 64 (.bin .add (.t 60) (.t 63)),
  Qf 65 0 8,
  Ql 66 1 65,
  Qo 67 (.bin .add (.t 64) (.t 66)),
  Qf 68 1 8,
  Ql 69 1 68,
  Qo 70 (.bin .sub (.t 67) (.t 69)),
  Qm 5 70])))
def zo1:LCode:=(.region [Qm 23 6,
 Qo 24 (.bin .add (.t 23) (.c (i6 1))),
 Qm 6 24])
def zfn:LCode:=(.seq (.seq (.region [Qm 19 6,
 Qm 20 1,
 Qo 21 (.len false (.t 20)),
 Qo 22 (.bin .lss (.t 19) (.t 21))])
 (.cond (.t 22)
  .skip
  (.exit 0)))
 (.seq (.block 1
  (.seq (.region [Qo 7 (.mv (.c (i6 (-1))))])
  (.seq (.seq (.region [Qm 25 6,
   Qo 26 (.bin .gtr (.t 25) (.c (i6 0)))])
  (.cond (.t 26)
   (.region [Qm 27 1,
    Qm 28 6,
    Qo 29 (.bin .sub (.t 28) (.c (i6 1))),
    Qo 30 (.iaddr 3 (.t 27) (.t 29)),
    Qf 31 1 30,
    Ql 32 1 31,
    Qm 7 32])
   .skip))
  zng)))
 zo1))
def zb8:LCode:=(.seq (.seq (.region [Qm 71 5,
 Qo 72 (.bin .gtr (.t 71) (.c (i6 2000)))])
 (.cond (.t 72)
  (.seq (.region [Qi 4 2])
  .ret)
  .skip))
 (.seq (.region [Qi 4 0])
 .ret))
def znz:LCode:=(.seq (.region [Qi 4 0])
 (.seq (.seq (.region [Qm 9 0,
  Qo 10 (.len true (.t 9)),
  Qo 11 (.bin .gtr (.t 10) (.c (i6 2000))),
  Qm 12 11,
  Qn 13 1 (12,false),
  Qg 14 (.len false (.t 13)) (12,false),
  Qg 15 (.bin .gtr (.t 14) (.c (i6 50))) (12,false),
  Qo 16 (.pick (.t 12) (.c (.bool true)) (.t 15))])
 (.cond (.t 16)
  (.seq (.region [Qi 4 2])
  .ret)
  .skip))
 (.seq (.region [Qm 17 0,
  Qo 18 (.len true (.t 17)),
  Qm 5 18])
 (.seq (.seq (.region [Qi 6 0])
 (.block 0
  (.loop
   zfn)))
 zb8))))
def Ye:Lay:=⟨73,[],false⟩
def zit:List LRes:=[.t 4]
def ztu:LFn:=⟨2,Ye,znz,zit⟩
theorem zod:w4 Tryz.prog [] 32=some ztu:=by kernel_rfl
theorem zpp:uc Tryz.prog 32:=⟨_,Tryz.func32,rfl,rfl⟩
def zlc(a0:List UInt8)(a1:List G_TextEdit)(o:Int):Exit→Env→AHeap→Nat→Prop:=Q0 zit (jj (i6 o))
def Ws(a0:List UInt8)(a1:List G_TextEdit)(s:(Int×Int)):Env:=[(0,.str a0),(1,.isl 3 (a1.map z7) false),(5,i6 s.1),(6,i6 s.2)]
def Uj(a0:List UInt8)(a1:List G_TextEdit)(s:(Int×Int)):AHeap:=[]
def z27(a0:List UInt8)(a1:List G_TextEdit)(o:Int):Exit→Env→AHeap→Nat→Prop:=(j4 0 (Qh Tryz.prog Ye 0 zb8 (zlc a0 a1 o)))
def zx(m:Option Nat)(a0:List UInt8)(a1:List G_TextEdit)(v2:Int)(v3:Int)(v5:Int):Option ((Int×Int) ⊕ Int):=
 if(0:Int)≤v3∧v3<((a1.map z7).length:Int) then
 if((((decide ((a1.getD v3.toNat default).f_Start<0)) || (decide ((a1.getD v3.toNat default).f_Start≤v5))) || (decide ((a1.getD v3.toNat default).f_End<(a1.getD v3.toNat default).f_Start))) || (decide ((a1.getD v3.toNat default).f_End > (a0.length:Int))))=true then
  p4 pA (
   some 3)
 else
  some (.inl ((W ((W ((W (v2+(((a1.getD v3.toNat default).f_NewText).length:Int)))+(a1.getD v3.toNat default).f_Start))-(a1.getD v3.toNat default).f_End)),(W (v3+1))))
 else none
theorem z6k{a0:List UInt8}{a1:List G_TextEdit}{v2:Int}{v3:Int}{v5:Int}{m:Option Nat}{o:((Int×Int) ⊕ Int)}(h:zx m a0 a1 v2 v3 v5=some o) :
 LWp Tryz.prog Ye 0 zng (j4 1 (Qh Tryz.prog Ye 0 zo1 (Zg 0 0 (Ws a0 a1) (Uj a0 a1) (z27 a0 a1) o))) [(0,.str a0),(1,.isl 3 (a1.map z7) false),(5,i6 v2),(6,i6 v3),(7,i6 v5)] [] 0:=by
 unfold zx at h
 refine zl (y5 ?_)
 obtain⟨h15,h⟩:=zk h
 refine AI h15 ?_
 refine EX (z7 (a1.getD v3.toNat default)) (AI (qt z7 _ _ (xr z7 h15)) (AI (AI (wa h15) (NB rfl)) ?_))
 refine zl ?_
 refine zl (y5 ?_)
 refine AI (fun hp=>hp) ?_
 refine AI (fun hp=>(AI hp hp)) ?_
 refine AI (fun hc=>(bqf hc)) ?_
 refine AI (fun hp=>hp) ?_
 refine AI (fun hp=>hp) ?_
 refine AI (fun hp=>(AI hp hp)) ?_
 refine AI (fun hc=>(bqf hc)) ?_
 refine AI (fun hp=>hp) ?_
 refine AI (fun hp=>hp) ?_
 refine AI (fun hp=>(AI hp hp)) ?_
 refine AI (fun hc=>(bqf hc)) ?_
 refine p2 (e:=[(0,.str a0),(1,.isl 3 (a1.map z7) false),(5,i6 v2),(6,i6 v3),(8,.ptr (0,0) 0 0),(59,.bool ((((decide ((a1.getD v3.toNat default).f_Start<0)) || (decide ((a1.getD v3.toNat default).f_Start≤v5))) || (decide ((a1.getD v3.toNat default).f_End<(a1.getD v3.toNat default).f_Start))) || (decide ((a1.getD v3.toNat default).f_End > (a0.length:Int)))))]) (L:=[((0,0),.one [i6 ((a1.getD v3.toNat default).f_Start),i6 ((a1.getD v3.toNat default).f_End),.str ((a1.getD v3.toNat default).f_NewText)])]) (n:=1) ?_ ?_
 ·exact jq (M:=[((0,0),(0,0))]) rfl (S4 rfl rfl rfl rfl (SP rfl (AI (VS rfl) TT))) (AI (AI rfl (OL rfl)) TT)
 refine j0 (v:=((((decide ((a1.getD v3.toNat default).f_Start<0)) || (decide ((a1.getD v3.toNat default).f_Start≤v5))) || (decide ((a1.getD v3.toNat default).f_End<(a1.getD v3.toNat default).f_Start))) || (decide ((a1.getD v3.toNat default).f_End > (a0.length:Int))))) rfl TT (fun h16=>?_) (fun h16=>?_)
 ·have h:=yq h16 h
  refine zl (y5 ?_)
  refine vl ?_
  obtain⟨o,hq,rfl⟩:=p1.1 h
  replace h:=hq;clear hq
  refine AI nofun ?_
  cases h
  exact AI TT (AI rfl (VS rfl))
 ·have h:=qc h16 h
  refine jw ?_
  refine y5 ?_
  refine p2 (e:=[(0,.str a0),(1,.isl 3 (a1.map z7) false),(5,i6 (W ((W ((W (v2+(((a1.getD v3.toNat default).f_NewText).length:Int)))+(a1.getD v3.toNat default).f_Start))-(a1.getD v3.toNat default).f_End))),(6,i6 v3)]) (L:=[]) (n:=0) ?_ ?_
  ·exact jq (M:=[]) rfl (S4 rfl rfl rfl rfl TT) TT
  refine y5 ?_
  cases h
  exact AI rfl (jq (M:=[]) rfl (S4 rfl rfl rfl rfl TT) TT)
def qz(m:Option Nat)(v2:Int):Option Int:=
 if(decide (v2 > 2000))=true then
  some 2
 else
  some 0
def y1(m:Option Nat)(a0:List UInt8)(a1:List G_TextEdit)(v2:Int)(v3:Int):Option ((Int×Int) ⊕ Int):=
 if(decide (v3<((a1.map z7).length:Int)))=true then
  if(decide (v3 > 0))=true then
   if(0:Int)≤(W (v3-1))∧(W (v3-1))<((a1.map z7).length:Int) then
   zx m a0 a1 v2 v3 ((a1.getD ((W (v3-1)).toNat) default).f_End)
   else none
  else
   zx m a0 a1 v2 v3 (-1)
 else
  p4 pA (
   qz m v2)
def yx(m:Option Nat)(a0:List UInt8)(a1:List G_TextEdit)(v2:Int)(v3:Int):Option Int:=Zf m (fun(s:(Int×Int))=>y1 m a0 a1 s.1 s.2) (v2,v3)
theorem zes{a0:List UInt8}{a1:List G_TextEdit}{v2:Int}{m:Option Nat}{o:Int}(h:qz m v2=some o) :
 LWp Tryz.prog Ye 0 zb8 (zlc a0 a1 o) [(5,i6 v2)] [] 0:=by
 unfold qz at h
 refine zl ?_
 refine zl (y5 ?_)
 refine j0 (v:=(decide (v2 > 2000))) rfl TT (fun h17=>?_) (fun h17=>?_)
 ·have h:=yq h17 h
  refine zl (y5 ?_)
  refine vl ?_
  cases h
  exact AI TT (AI rfl (VS rfl))
 ·have h:=qc h17 h
  refine jw ?_
  refine zl (y5 ?_)
  refine vl ?_
  cases h
  exact AI TT (AI rfl (VS rfl))
theorem zcg{a0:List UInt8}{a1:List G_TextEdit}{v2:Int}{v3:Int}{m:Option Nat}{o:(Int×Int) ⊕ Int}(h:y1 m a0 a1 v2 v3=some o) :
 LWp Tryz.prog Ye 0 zfn (Zg 0 0 (Ws a0 a1) (Uj a0 a1) (z27 a0 a1) o) [(0,.str a0),(1,.isl 3 (a1.map z7) false),(5,i6 v2),(6,i6 v3)] [] 0:=by
 unfold y1 at h
 refine zl ?_
 refine zl (y5 ?_)
 refine j0 (v:=(decide (v3<((a1.map z7).length:Int)))) rfl TT (fun h12=>?_) (fun h12=>?_)
 ·have h:=yq h12 h
  refine jw ?_
  refine zl ?_
  refine ja ?_
  refine zl (y5 ?_)
  refine zl ?_
  refine zl (y5 ?_)
  refine j0 (v:=(decide (v3 > 0))) rfl TT (fun h13=>?_) (fun h13=>?_)
  ·have h:=yq h13 h
   refine y5 ?_
   obtain⟨h14,h⟩:=zk h
   refine AI h14 ?_
   refine EX (z7 (a1.getD ((W (v3-1)).toNat) default)) (AI (qt z7 _ _ (xr z7 h14)) (AI (AI (wa h14) (NB rfl)) ?_))
   refine p2 ?_ (z6k h)
   exact jq (M:=[]) rfl (S4 rfl rfl rfl rfl (AI (VS rfl) TT)) TT
  ·have h:=qc h13 h
   refine jw ?_
   refine p2 ?_ (z6k h)
   exact jq (M:=[]) rfl (S4 rfl rfl rfl rfl (AI (VS rfl) TT)) TT
 ·have h:=qc h12 h
  refine Xn ?_
  obtain⟨o,hq,rfl⟩:=p1.1 h
  replace h:=hq;clear hq
  refine AI nofun ?_
  refine p2 ?_ (zes h)
  exact jq (M:=[]) rfl (AI (VS rfl) TT) TT
theorem zj8{a0:List UInt8}{a1:List G_TextEdit}{v2:Int}{v3:Int}{m:Option Nat}{o:Int}(h:yx m a0 a1 v2 v3=some o) :
 LWp Tryz.prog Ye 0 (.loop zfn) (j4 0 (Qh Tryz.prog Ye 0 zb8 (zlc a0 a1 o))) [(0,.str a0),(1,.isl 3 (a1.map z7) false),(5,i6 v2),(6,i6 v3)] [] 0:=
 ji (m:=m) (s:=((v2,v3):(Int×Int))) (r:=o) (fun(s:(Int×Int))=>y1 m a0 a1 s.1 s.2) (Ws a0 a1) (Uj a0 a1) (z27 a0 a1) (fun s o h=>zcg h) h
def yk(m:Option Nat)(a0:List UInt8)(a1:List G_TextEdit):Option Int:=
 if((decide ((a0.length:Int) > 2000)) || (decide (((a1.map z7).length:Int) > 50)))=true then
  some 2
 else
  yx m a0 a1 (a0.length:Int) 0
theorem zjc{a0:List UInt8}{a1:List G_TextEdit}{m:Option Nat}{o:Int}(h:yk m a0 a1=some o):LWp Tryz.prog Ye 0 znz (zlc a0 a1 o) (yi 0 [.str a0,.isl 3 (a1.map z7) false]) [] 0:=by
 unfold yk at h
 refine zl (y5 ?_)
 refine zl ?_
 refine zl (y5 ?_)
 refine AI (fun hp=>hp) ?_
 refine AI (fun hp=>hp) ?_
 refine AI (fun hc=>(bqf hc)) ?_
 refine p2 (e:=[(0,.str a0),(1,.isl 3 (a1.map z7) false),(16,.bool ((decide ((a0.length:Int) > 2000)) || (decide (((a1.map z7).length:Int) > 50))))]) (L:=[]) (n:=0) ?_ ?_
 ·exact jq (M:=[]) rfl (S2 rfl rfl (AI (VS rfl) TT)) TT
 refine j0 (v:=((decide ((a0.length:Int) > 2000)) || (decide (((a1.map z7).length:Int) > 50)))) rfl TT (fun h1=>?_) (fun h1=>?_)
 ·have h:=yq h1 h
  refine zl (y5 ?_)
  refine vl ?_
  cases h
  exact AI TT (AI rfl (VS rfl))
 ·have h:=qc h1 h
  refine jw ?_
  refine zl (y5 ?_)
  refine zl ?_
  refine zl (y5 ?_)
  refine ja ?_
  refine p2 ?_ (zj8 h)
  exact jq (M:=[]) rfl (S4 rfl rfl rfl rfl TT) TT
theorem zse{a0:List UInt8}{a1:List G_TextEdit}{m:Option Nat}{o:Int}(h:yk m a0 a1=some o):PFn Tryz.prog 32 [.str a0,.isl 3 (a1.map z7) false] (i6 o):=p9 (L:=ztu) zod zpp (NB rfl) rfl (zjc h)
def zpm:LCode:=(.seq (.seq (.region [Qm 8 5,
 Qm 9 1,
 Qo 10 (.len false (.t 9)),
 Qo 11 (.bin .lss (.t 8) (.t 10))])
 (.cond (.t 11)
  .skip
  (.exit 0)))
 (.seq (.block 1
  (.seq (.quiet [Qm 14 1,
   Qm 15 5,
   Qo 16 (.iaddr 4 (.t 14) (.t 15)),
   Qf 17 0 16,
   Ql 18 1 17,
   Qo 19 (.bin .lss (.t 18) (.c (i6 0))),
   Qm 20 19,
   Qn 21 1 (20,false),
   Qn 22 5 (20,false),
   Qg 23 (.iaddr 4 (.t 21) (.t 22)) (20,false),
   Qe 24 0 23 (20,false),
   Qk 25 1 24 (20,false),
   Qn 26 0 (20,false),
   Qg 27 (.len false (.t 26)) (20,false),
   Qg 28 (.bin .geq (.t 25) (.t 27)) (20,false),
   Qo 29 (.pick (.t 20) (.c (.bool true)) (.t 28)),
   Qm 30 29,
   Qn 31 5 (30,false),
   Qg 32 (.bin .gtr (.t 31) (.c (i6 0))) (30,false),
   Qn 33 32 (30,false),
   Qn 34 1 (33,true),
   Qn 35 5 (33,true),
   Qg 36 (.iaddr 4 (.t 34) (.t 35)) (33,true),
   Qe 37 0 36 (33,true),
   Qk 38 1 37 (33,true),
   Qn 39 1 (33,true),
   Qn 40 5 (33,true),
   Qg 41 (.bin .sub (.t 40) (.c (i6 1))) (33,true),
   Qg 42 (.iaddr 4 (.t 39) (.t 41)) (33,true),
   Qe 43 0 42 (33,true),
   Qk 44 1 43 (33,true),
   Qg 45 (.bin .lss (.t 38) (.t 44)) (33,true),
   Qg 46 (.pick (.t 33) (.t 45) (.c (.bool false))) (30,false),
   Qo 47 (.pick (.t 30) (.c (.bool true)) (.t 46))])
  (.cond (.t 47)
   (.seq (.region [Qi 4 3])
   .ret)
   .skip)))
 (.region [Qm 12 5,
  Qo 13 (.bin .add (.t 12) (.c (i6 1))),
  Qm 5 13])))
def zqv:LCode:=(.seq (.seq (.region [Qm 48 6,
 Qm 49 0,
 Qo 50 (.len false (.t 49)),
 Qo 51 (.bin .lss (.t 48) (.t 50))])
 (.cond (.t 51)
  .skip
  (.exit 2)))
 (.seq (.block 3
  (.seq (.draw [⟨Qm 54 0,[]⟩,
   ⟨Qm 55 6,[]⟩,
   ⟨Qo 56 (.iaddr 2 (.t 54) (.t 55)),[]⟩,
   ⟨Qf 57 1 56,[]⟩,
   ⟨Ql 58 1 57,[]⟩,
   ⟨Qm 59 1,[]⟩,
   ⟨Qm 60 6,[]⟩,
   ⟨Qo 61 (.call 33 [(.t 59),(.t 60)]),[4]⟩,
   ⟨Qo 62 (.call 32 [(.t 58),(.t 61)]),[]⟩,
   ⟨Qm 7 62,[]⟩])
  (.seq (.region [Qm 63 7,
   Qo 64 (.bin .neq (.t 63) (.c (i6 0)))])
  (.cond (.t 64)
   (.seq (.region [Qm 65 7,
    Qm 4 65])
   .ret)
   .skip))))
 (.region [Qm 52 6,
  Qo 53 (.bin .add (.t 52) (.c (i6 1))),
  Qm 6 53])))
def zjy:LCode:=(.seq (.region [Qi 4 0])
 .ret)
def zmj:LCode:=(.seq (.seq (.region [Qi 6 0])
 (.block 2
  (.loop
   zqv)))
 zjy)
def zst:LCode:=(.seq (.region [Qi 4 0])
 (.seq (.seq (.region [Qi 5 0])
 (.block 0
  (.loop
   zpm)))
 zmj))
def Yz:Lay:=⟨66,[],false⟩
def znh:List LRes:=[.t 4]
def zy2:LFn:=⟨2,Yz,zst,znh⟩
theorem zua:w4 Tryz.prog [] 9=some zy2:=by kernel_rfl
theorem zud:uc Tryz.prog 9:=⟨_,Tryz.func9,rfl,rfl⟩
def zql(a0:List G_Module)(a1:List G_FileEdit)(o:Int):Exit→Env→AHeap→Nat→Prop:=Q0 znh (jj (i6 o))
def z5v(a0:List G_Module)(a1:List G_FileEdit)(s:Int):Env:=[(0,.isl 2 (a0.map z6) false),(1,.isl 4 (a1.map z8) false),(5,i6 s)]
def za9(a0:List G_Module)(a1:List G_FileEdit)(s:Int):AHeap:=[]
def zen(a0:List G_Module)(a1:List G_FileEdit)(o:Int):Exit→Env→AHeap→Nat→Prop:=(j4 0 (Qh Tryz.prog Yz 0 zmj (zql a0 a1 o)))
def qd(m:Option Nat):Option Int:=
 some 0
def zm(m:Option Nat)(a0:List G_Module)(a1:List G_FileEdit)(v4:Int):Option (Int ⊕ Int):=
 if(decide (v4<((a0.map z6).length:Int)))=true then
  if(0:Int)≤v4∧v4<((a0.map z6).length:Int) then
  (y8 m a1 v4).bind fun v7=>
  (yk m ((a0.getD v4.toNat default).f_Source) v7).bind fun v8=>
  if(v8 != 0)=true then
   p4 pA (
    some v8)
  else
   some (.inl (W (v4+1)))
  else none
 else
  p4 pA (
   qd m)
def y4(m:Option Nat)(a0:List G_Module)(a1:List G_FileEdit)(v4:Int):Option Int:=Zf m (fun(s:Int)=>zm m a0 a1 s) v4
def y3(m:Option Nat)(a0:List G_Module)(a1:List G_FileEdit):Option Int:=
 y4 m a0 a1 0
def zo(m:Option Nat)(a0:List G_Module)(a1:List G_FileEdit)(v1:Int):Option (Int ⊕ Int):=
 if(decide (v1<((a1.map z8).length:Int)))=true then
  if(0:Int)≤v1∧v1<((a1.map z8).length:Int) then
  if(((decide ((a1.getD v1.toNat default).f_Module<0))==false)=true→(0:Int)≤v1∧v1<((a1.map z8).length:Int)) then
  if(((((decide ((a1.getD v1.toNat default).f_Module<0)) || (decide ((a1.getD v1.toNat default).f_Module≥((a0.map z6).length:Int))))==false)&&((decide (v1 > 0))==true))=true→(0:Int)≤v1∧v1<((a1.map z8).length:Int)) then
  if(((((decide ((a1.getD v1.toNat default).f_Module<0)) || (decide ((a1.getD v1.toNat default).f_Module≥((a0.map z6).length:Int))))==false)&&((decide (v1 > 0))==true))=true→(0:Int)≤(W (v1-1))∧(W (v1-1))<((a1.map z8).length:Int)) then
  if(((decide ((a1.getD v1.toNat default).f_Module<0)) || (decide ((a1.getD v1.toNat default).f_Module≥((a0.map z6).length:Int)))) || ((decide (v1 > 0))&&(decide ((a1.getD v1.toNat default).f_Module<(a1.getD ((W (v1-1)).toNat) default).f_Module))))=true then
   p4 pA (
    some 3)
  else
   some (.inl (W (v1+1)))
  else none
  else none
  else none
  else none
 else
  p4 pA (
   y3 m a0 a1)
def zn(m:Option Nat)(a0:List G_Module)(a1:List G_FileEdit)(v1:Int):Option Int:=Zf m (fun(s:Int)=>zo m a0 a1 s) v1
def z5r(a0:List G_Module)(a1:List G_FileEdit)(s:Int):Env:=[(0,.isl 2 (a0.map z6) false),(1,.isl 4 (a1.map z8) false),(6,i6 s)]
def zbb(a0:List G_Module)(a1:List G_FileEdit)(s:Int):AHeap:=[]
def ziy(a0:List G_Module)(a1:List G_FileEdit)(o:Int):Exit→Env→AHeap→Nat→Prop:=(j4 2 (Qh Tryz.prog Yz 0 zjy (zql a0 a1 o)))
theorem zjt{a0:List G_Module}{a1:List G_FileEdit}{m:Option Nat}{o:Int}(h:qd m=some o) :
 LWp Tryz.prog Yz 0 zjy (zql a0 a1 o) [] [] 0:=by
 unfold qd at h
 refine zl (y5 ?_)
 refine vl ?_
 cases h
 exact AI TT (AI rfl (VS rfl))
theorem zdi{a0:List G_Module}{a1:List G_FileEdit}{v4:Int}{m:Option Nat}{o:Int ⊕ Int}(h:zm m a0 a1 v4=some o) :
 LWp Tryz.prog Yz 0 zqv (Zg 0 0 (z5r a0 a1) (zbb a0 a1) (ziy a0 a1) o) [(0,.isl 2 (a0.map z6) false),(1,.isl 4 (a1.map z8) false),(6,i6 v4)] [] 0:=by
 unfold zm at h
 refine zl ?_
 refine zl (y5 ?_)
 refine j0 (v:=(decide (v4<((a0.map z6).length:Int)))) rfl TT (fun h29=>?_) (fun h29=>?_)
 ·have h:=yq h29 h
  refine jw ?_
  refine zl ?_
  refine ja ?_
  refine zl ?_
  refine zq6 ?_
  obtain⟨h30,h⟩:=zk h
  refine AI h30 ?_
  refine EX (z6 (a0.getD v4.toNat default)) (AI (qt z6 _ _ (xr z6 h30)) (AI (AI (wa h30) (NB rfl)) ?_))
  obtain⟨v7,h31,h⟩:=bind_some h
  refine p3 (zn2 h31) (S2 rfl rfl TT) ?_
  refine AI (AI (AI (wa h30) (NB rfl)) (congrArg (yn false 1 1) (qt z6 _ _ (xr z6 h30)))) ?_
  obtain⟨v8,h32,h⟩:=bind_some h
  refine p3 (zse h32) (S2 rfl rfl TT) ?_
  refine p2 (e:=[(0,.isl 2 (a0.map z6) false),(1,.isl 4 (a1.map z8) false),(6,i6 v4),(7,i6 v8)]) (L:=[]) (n:=0) ?_ ?_
  ·exact jq (M:=[]) rfl (S4 rfl rfl rfl rfl TT) TT
  refine zl (y5 ?_)
  refine j0 (v:=(v8 != 0)) rfl TT (fun h33=>?_) (fun h33=>?_)
  ·have h:=yq h33 h
   refine zl (y5 ?_)
   refine vl ?_
   obtain⟨o,hq,rfl⟩:=p1.1 h
   replace h:=hq;clear hq
   refine AI nofun ?_
   cases h
   exact AI TT (AI rfl (VS rfl))
  ·have h:=qc h33 h
   refine jw ?_
   refine y5 ?_
   cases h
   exact AI rfl (jq (M:=[]) rfl (S2 rfl rfl (AI (VS rfl) TT)) TT)
 ·have h:=qc h29 h
  refine Xn ?_
  obtain⟨o,hq,rfl⟩:=p1.1 h
  replace h:=hq;clear hq
  refine AI nofun ?_
  refine p2 ?_ (zjt h)
  exact jq (M:=[]) rfl TT TT
theorem zk5{a0:List G_Module}{a1:List G_FileEdit}{v4:Int}{m:Option Nat}{o:Int}(h:y4 m a0 a1 v4=some o) :
 LWp Tryz.prog Yz 0 (.loop zqv) (j4 2 (Qh Tryz.prog Yz 0 zjy (zql a0 a1 o))) [(0,.isl 2 (a0.map z6) false),(1,.isl 4 (a1.map z8) false),(6,i6 v4)] [] 0:=
 ji (m:=m) (s:=(v4:Int)) (r:=o) (fun(s:Int)=>zm m a0 a1 s) (z5r a0 a1) (zbb a0 a1) (ziy a0 a1) (fun s o h=>zdi h) h
theorem zms{a0:List G_Module}{a1:List G_FileEdit}{m:Option Nat}{o:Int}(h:y3 m a0 a1=some o) :
 LWp Tryz.prog Yz 0 zmj (zql a0 a1 o) [(0,.isl 2 (a0.map z6) false),(1,.isl 4 (a1.map z8) false)] [] 0:=by
 unfold y3 at h
 refine zl ?_
 refine zl (y5 ?_)
 refine ja ?_
 refine p2 ?_ (zk5 h)
 exact jq (M:=[]) rfl (S2 rfl rfl (AI (VS rfl) TT)) TT
theorem zg7{a0:List G_Module}{a1:List G_FileEdit}{v1:Int}{m:Option Nat}{o:Int ⊕ Int}(h:zo m a0 a1 v1=some o) :
 LWp Tryz.prog Yz 0 zpm (Zg 0 0 (z5v a0 a1) (za9 a0 a1) (zen a0 a1) o) [(0,.isl 2 (a0.map z6) false),(1,.isl 4 (a1.map z8) false),(5,i6 v1)] [] 0:=by
 unfold zo at h
 refine zl ?_
 refine zl (y5 ?_)
 refine j0 (v:=(decide (v1<((a1.map z8).length:Int)))) rfl TT (fun h13=>?_) (fun h13=>?_)
 ·have h:=yq h13 h
  refine jw ?_
  refine zl ?_
  refine ja ?_
  refine zl ?_
  refine zhh ?_
  obtain⟨h14,h⟩:=zk h
  refine AI h14 ?_
  refine EX (z8 (a1.getD v1.toNat default)) (AI (qt z8 _ _ (xr z8 h14)) (AI (AI (wa h14) (NB rfl)) ?_))
  obtain⟨h15,h⟩:=zk h
  refine AI (fun hp=>(AI (AI hp hp) (h15 hp))) ?_
  refine AI (fun hp=>hp) ?_
  refine EX (z8 (a1.getD v1.toNat default)) (AI (fun hp=>AI (qt z8 _ _ (xr z8 (h15 hp))) (AI hp (AI (wa (h15 hp)) (NB rfl)))) ?_)
  refine AI (fun hp=>hp) ?_
  refine AI (fun hp=>(AI hp hp)) ?_
  refine AI (fun hc=>(bqf hc)) ?_
  refine AI (fun hp=>hp) ?_
  refine AI (fun hp=>hp) ?_
  obtain⟨h16,h⟩:=zk h
  refine AI (fun hp=>(AI (AI hp hp) (h16 hp))) ?_
  refine AI (fun hp=>hp) ?_
  refine EX (z8 (a1.getD v1.toNat default)) (AI (fun hp=>AI (qt z8 _ _ (xr z8 (h16 hp))) (AI hp (AI (wa (h16 hp)) (NB rfl)))) ?_)
  refine AI (fun hp=>hp) ?_
  obtain⟨h17,h⟩:=zk h
  refine AI (fun hp=>(AI (AI hp hp) (h17 hp))) ?_
  refine AI (fun hp=>hp) ?_
  refine EX (z8 (a1.getD ((W (v1-1)).toNat) default)) (AI (fun hp=>AI (qt z8 _ _ (xr z8 (h17 hp))) (AI hp (AI (wa (h17 hp)) (NB rfl)))) ?_)
  refine AI (fun hp=>(AI hp hp)) ?_
  refine AI (fun hp=>(AI hp (fun hc=>(zu7 hp (bqt hc))))) ?_
  refine AI (fun hc=>(bqf hc)) ?_
  refine p2 (e:=[(0,.isl 2 (a0.map z6) false),(1,.isl 4 (a1.map z8) false),(5,i6 v1),(47,.bool (((decide ((a1.getD v1.toNat default).f_Module<0)) || (decide ((a1.getD v1.toNat default).f_Module≥((a0.map z6).length:Int)))) || ((decide (v1 > 0))&&(decide ((a1.getD v1.toNat default).f_Module<(a1.getD ((W (v1-1)).toNat) default).f_Module)))))]) (L:=[]) (n:=0) ?_ ?_
  ·exact jq (M:=[]) rfl (S4 rfl rfl rfl rfl TT) TT
  refine j0 (v:=(((decide ((a1.getD v1.toNat default).f_Module<0)) || (decide ((a1.getD v1.toNat default).f_Module≥((a0.map z6).length:Int)))) || ((decide (v1 > 0))&&(decide ((a1.getD v1.toNat default).f_Module<(a1.getD ((W (v1-1)).toNat) default).f_Module))))) rfl TT (fun h18=>?_) (fun h18=>?_)
  ·have h:=yq h18 h
   refine zl (y5 ?_)
   refine vl ?_
   obtain⟨o,hq,rfl⟩:=p1.1 h
   replace h:=hq;clear hq
   refine AI nofun ?_
   cases h
   exact AI TT (AI rfl (VS rfl))
  ·have h:=qc h18 h
   refine jw ?_
   refine y5 ?_
   cases h
   exact AI rfl (jq (M:=[]) rfl (S2 rfl rfl (AI (VS rfl) TT)) TT)
 ·have h:=qc h13 h
  refine Xn ?_
  obtain⟨o,hq,rfl⟩:=p1.1 h
  replace h:=hq;clear hq
  refine AI nofun ?_
  refine p2 ?_ (zms h)
  exact jq (M:=[]) rfl (S2 rfl rfl TT) TT
theorem zku{a0:List G_Module}{a1:List G_FileEdit}{v1:Int}{m:Option Nat}{o:Int}(h:zn m a0 a1 v1=some o) :
 LWp Tryz.prog Yz 0 (.loop zpm) (j4 0 (Qh Tryz.prog Yz 0 zmj (zql a0 a1 o))) [(0,.isl 2 (a0.map z6) false),(1,.isl 4 (a1.map z8) false),(5,i6 v1)] [] 0:=
 ji (m:=m) (s:=(v1:Int)) (r:=o) (fun(s:Int)=>zo m a0 a1 s) (z5v a0 a1) (za9 a0 a1) (zen a0 a1) (fun s o h=>zg7 h) h
def y7(m:Option Nat)(a0:List G_Module)(a1:List G_FileEdit):Option Int:=
 zn m a0 a1 0
theorem zk7{a0:List G_Module}{a1:List G_FileEdit}{m:Option Nat}{o:Int}(h:y7 m a0 a1=some o):LWp Tryz.prog Yz 0 zst (zql a0 a1 o) (yi 0 [.isl 2 (a0.map z6) false,.isl 4 (a1.map z8) false]) [] 0:=by
 unfold y7 at h
 refine zl (y5 ?_)
 refine zl ?_
 refine zl (y5 ?_)
 refine ja ?_
 refine p2 ?_ (zku h)
 exact jq (M:=[]) rfl (S2 rfl rfl (AI (VS rfl) TT)) TT
theorem zwx{a0:List G_Module}{a1:List G_FileEdit}{m:Option Nat}{o:Int}(h:y7 m a0 a1=some o):PFn Tryz.prog 9 [.isl 2 (a0.map z6) false,.isl 4 (a1.map z8) false] (i6 o):=p9 (L:=zy2) zua zud (NB rfl) rfl (zk7 h)
def zj4:LCode:=(.seq (.seq (.region [Qm 9 5,
 Qo 10 (.bin .geq (.t 9) (.c (i6 0)))])
 (.cond (.t 10)
  .skip
  (.exit 0)))
 (.seq (.block 1
  (.quiet [Qm 13 0,
   Qm 14 1,
   Qm 15 5,
   Qo 16 (.iaddr 3 (.t 14) (.t 15)),
   Qf 17 0 16,
   Ql 18 1 17,
   Qo 19 (.slStr (.t 13) none (some (.t 18))),
   Qm 20 1,
   Qm 21 5,
   Qo 22 (.iaddr 3 (.t 20) (.t 21)),
   Qf 23 2 22,
   Ql 24 1 23,
   Qo 25 (.bin .add (.t 19) (.t 24)),
   Qm 26 0,
   Qm 27 1,
   Qm 28 5,
   Qo 29 (.iaddr 3 (.t 27) (.t 28)),
   Qf 30 1 29,
   Ql 31 1 30,
   Qo 32 (.slStr (.t 26) (some (.t 31)) none),
   Qo 33 (.bin .add (.t 25) (.t 32)),
   Qm 0 33]))
 (.region [Qm 11 5,
  Qo 12 (.bin .sub (.t 11) (.c (i6 1))),
  Qm 5 12])))
def zba:LCode:=(.seq (.region [Qm 34 0,
 Qm 4 34])
 .ret)
def zn6:LCode:=(.seq (.region [Qo 4 (.mv (.c (.str [])))])
 (.seq (.seq (.region [Qm 6 1,
  Qo 7 (.len false (.t 6)),
  Qo 8 (.bin .sub (.t 7) (.c (i6 1))),
  Qm 5 8])
 (.block 0
  (.loop
   zj4)))
 zba))
def J9:Lay:=⟨35,[],false⟩
def zfs:List LRes:=[.t 4]
def ztn:LFn:=⟨2,J9,zn6,zfs⟩
theorem zpb:w4 Tryz.prog [] 34=some ztn:=by kernel_rfl
theorem zr0:uc Tryz.prog 34:=⟨_,Tryz.func34,rfl,rfl⟩
def zma(a0:List UInt8)(a1:List G_TextEdit)(o:(List UInt8)):Exit→Env→AHeap→Nat→Prop:=Q0 zfs (jj (.str o))
def z1a(a1:List G_TextEdit)(s:((List UInt8)×Int)):Env:=[(0,.str s.1),(1,.isl 3 (a1.map z7) false),(5,i6 s.2)]
def z6m(a1:List G_TextEdit)(s:((List UInt8)×Int)):AHeap:=[]
def zae(a0:List UInt8)(a1:List G_TextEdit)(o:(List UInt8)):Exit→Env→AHeap→Nat→Prop:=(j4 0 (Qh Tryz.prog J9 0 zba (zma a0 a1 o)))
def jc(m:Option Nat)(v1:List UInt8):Option (List UInt8):=
 some v1
def yl(m:Option Nat)(a1:List G_TextEdit)(v1:List UInt8)(v2:Int):Option (((List UInt8)×Int) ⊕ (List UInt8)):=
 if(decide (v2≥0))=true then
  if(0:Int)≤v2∧v2<((a1.map z7).length:Int) then
  if(0:Int)≤(a1.getD v2.toNat default).f_Start∧(a1.getD v2.toNat default).f_Start≤(v1.length:Int) then
  if(0:Int)≤v2∧v2<((a1.map z7).length:Int) then
  if(((((v1.take ((a1.getD v2.toNat default).f_Start).toNat).drop 0).length+((a1.getD v2.toNat default).f_NewText).length:Nat):Int)≤9223372036854775807) then
  if(0:Int)≤v2∧v2<((a1.map z7).length:Int) then
  if(0:Int)≤(a1.getD v2.toNat default).f_End∧(a1.getD v2.toNat default).f_End≤(v1.length:Int) then
  if((((((v1.take ((a1.getD v2.toNat default).f_Start).toNat).drop 0)++(a1.getD v2.toNat default).f_NewText).length+((v1.take v1.length).drop ((a1.getD v2.toNat default).f_End).toNat).length:Nat):Int)≤9223372036854775807) then
  some (.inl (((((v1.take ((a1.getD v2.toNat default).f_Start).toNat).drop 0)++(a1.getD v2.toNat default).f_NewText)++((v1.take v1.length).drop ((a1.getD v2.toNat default).f_End).toNat)),(W (v2-1))))
  else none
  else none
  else none
  else none
  else none
  else none
  else none
 else
  p4 pA (
   jc m v1)
def qo(m:Option Nat)(a1:List G_TextEdit)(v1:List UInt8)(v2:Int):Option (List UInt8):=Zf m (fun(s:((List UInt8)×Int))=>yl m a1 s.1 s.2) (v1,v2)
theorem zfc{a0:List UInt8}{a1:List G_TextEdit}{v1:List UInt8}{m:Option Nat}{o:(List UInt8)}(h:jc m v1=some o) :
 LWp Tryz.prog J9 0 zba (zma a0 a1 o) [(0,.str v1)] [] 0:=by
 unfold jc at h
 refine zl (y5 ?_)
 refine vl ?_
 cases h
 exact AI TT (AI rfl (VS rfl))
theorem zc7{a0:List UInt8}{a1:List G_TextEdit}{v1:List UInt8}{v2:Int}{m:Option Nat}{o:((List UInt8)×Int) ⊕ (List UInt8)}(h:yl m a1 v1 v2=some o) :
 LWp Tryz.prog J9 0 zj4 (Zg 0 0 (z1a a1) (z6m a1) (zae a0 a1) o) [(0,.str v1),(1,.isl 3 (a1.map z7) false),(5,i6 v2)] [] 0:=by
 unfold yl at h
 refine zl ?_
 refine zl (y5 ?_)
 refine j0 (v:=(decide (v2≥0))) rfl TT (fun h17=>?_) (fun h17=>?_)
 ·have h:=yq h17 h
  refine jw ?_
  refine zl ?_
  refine ja ?_
  refine zhh ?_
  obtain⟨h18,h⟩:=zk h
  refine AI h18 ?_
  refine EX (z7 (a1.getD v2.toNat default)) (AI (qt z7 _ _ (xr z7 h18)) (AI (AI (wa h18) (NB rfl)) ?_))
  obtain⟨h19,h⟩:=zk h
  refine AI (AI (Int.le_refl _) h19) ?_
  obtain⟨h20,h⟩:=zk h
  refine AI h20 ?_
  refine EX (z7 (a1.getD v2.toNat default)) (AI (qt z7 _ _ (xr z7 h20)) (AI (AI (wa h20) (NB rfl)) ?_))
  obtain⟨h21,h⟩:=zk h
  refine AI h21 ?_
  obtain⟨h22,h⟩:=zk h
  refine AI h22 ?_
  refine EX (z7 (a1.getD v2.toNat default)) (AI (qt z7 _ _ (xr z7 h22)) (AI (AI (wa h22) (NB rfl)) ?_))
  obtain⟨h23,h⟩:=zk h
  refine AI (AI (And.left h23) (AI (And.right h23) (Int.le_refl _))) ?_
  obtain⟨h24,h⟩:=zk h
  refine AI h24 ?_
  refine p2 (e:=[(0,.str ((((v1.take ((a1.getD v2.toNat default).f_Start).toNat).drop 0)++(a1.getD v2.toNat default).f_NewText)++((v1.take v1.length).drop ((a1.getD v2.toNat default).f_End).toNat))),(1,.isl 3 (a1.map z7) false),(5,i6 v2)]) (L:=[]) (n:=0) ?_ ?_
  ·exact jq (M:=[]) rfl (S2 rfl rfl (AI (VS rfl) TT)) TT
  refine y5 ?_
  cases h
  exact AI rfl (jq (M:=[]) rfl (S2 rfl rfl (AI (VS rfl) TT)) TT)
 ·have h:=qc h17 h
  refine Xn ?_
  obtain⟨o,hq,rfl⟩:=p1.1 h
  replace h:=hq;clear hq
  refine AI nofun ?_
  refine p2 ?_ (zfc h)
  exact jq (M:=[]) rfl (AI (VS rfl) TT) TT
theorem zfp{a0:List UInt8}{a1:List G_TextEdit}{v1:List UInt8}{v2:Int}{m:Option Nat}{o:(List UInt8)}(h:qo m a1 v1 v2=some o) :
 LWp Tryz.prog J9 0 (.loop zj4) (j4 0 (Qh Tryz.prog J9 0 zba (zma a0 a1 o))) [(0,.str v1),(1,.isl 3 (a1.map z7) false),(5,i6 v2)] [] 0:=
 ji (m:=m) (s:=((v1,v2):((List UInt8)×Int))) (r:=o) (fun(s:((List UInt8)×Int))=>yl m a1 s.1 s.2) (z1a a1) (z6m a1) (zae a0 a1) (fun s o h=>zc7 h) h
def qf(m:Option Nat)(a0:List UInt8)(a1:List G_TextEdit):Option (List UInt8):=
 qo m a1 a0 (W (((a1.map z7).length:Int)-1))
theorem zj1{a0:List UInt8}{a1:List G_TextEdit}{m:Option Nat}{o:(List UInt8)}(h:qf m a0 a1=some o):LWp Tryz.prog J9 0 zn6 (zma a0 a1 o) (yi 0 [.str a0,.isl 3 (a1.map z7) false]) [] 0:=by
 unfold qf at h
 refine zl (y5 ?_)
 refine zl ?_
 refine zl (y5 ?_)
 refine ja ?_
 refine p2 ?_ (zfp h)
 exact jq (M:=[]) rfl (S2 rfl rfl (AI (VS rfl) TT)) TT
theorem zss{a0:List UInt8}{a1:List G_TextEdit}{m:Option Nat}{o:(List UInt8)}(h:qf m a0 a1=some o):PFn Tryz.prog 34 [.str a0,.isl 3 (a1.map z7) false] (.str o):=p9 (L:=ztn) zpb zr0 (NB rfl) rfl (zj1 h)
def zfy:LCode:=(.seq (.seq (.region [Qm 7 6,
 Qm 8 0,
 Qo 9 (.len false (.t 8)),
 Qo 10 (.bin .lss (.t 7) (.t 9))])
 (.cond (.t 10)
  .skip
  (.exit 0)))
 (.seq (.block 1
  (.draw [⟨Qm 13 5,[]⟩,
   ⟨Qm 14 0,[]⟩,
   ⟨Qm 15 6,[]⟩,
   ⟨Qo 16 (.iaddr 2 (.t 14) (.t 15)),[]⟩,
   ⟨Qf 17 0 16,[]⟩,
   ⟨Ql 18 1 17,[]⟩,
   ⟨Qm 19 0,[]⟩,
   ⟨Qm 20 6,[]⟩,
   ⟨Qo 21 (.iaddr 2 (.t 19) (.t 20)),[]⟩,
   ⟨Qf 22 1 21,[]⟩,
   ⟨Ql 23 1 22,[]⟩,
   ⟨Qm 24 1,[]⟩,
   ⟨Qm 25 6,[]⟩,
   ⟨Qo 26 (.call 33 [(.t 24),(.t 25)]),[5,10]⟩,
   ⟨Qo 27 (.call 34 [(.t 23),(.t 26)]),[5]⟩,
   ⟨Qo 28 (.build [(.str []),(.str [])] [(0,1,(.t 18)),(1,1,(.t 27))]),[]⟩,
   ⟨Qo 29 (.mkSl true 2 [(.str []),(.str [])] 1 [(0,(.t 28))]),[]⟩,
   ⟨Qo 30 (.app true 2 32 (.t 13) (.t 29)),[]⟩,
   ⟨Qm 5 30,[]⟩]))
 (.region [Qm 11 6,
  Qo 12 (.bin .add (.t 11) (.c (i6 1))),
  Qm 6 12])))
def za8:LCode:=(.seq (.region [Qm 31 5,
 Qm 4 31])
 .ret)
def zn1:LCode:=(.seq (.region [Qo 4 (.mv (.c (.val (.slice none 0 0))))])
 (.seq (.region [Qo 5 (.mv (.c (.val (.slice none 0 0))))])
 (.seq (.seq (.region [Qi 6 0])
 (.block 0
  (.loop
   zfy)))
 za8)))
def J1:Lay:=⟨32,[],false⟩
def zge:List LRes:=[.t 4]
def zuu:LFn:=⟨2,J1,zn1,zge⟩
theorem zot:w4 Tryz.prog [] 10=some zuu:=by kernel_rfl
theorem zp9:uc Tryz.prog 10:=⟨_,Tryz.func10,rfl,rfl⟩
def zl9(a0:List G_Module)(a1:List G_FileEdit)(o:(List G_Module)):Exit→Env→AHeap→Nat→Prop:=Q0 zge (jj (.isl 2 (o.map z6) false))
def z25(a0:List G_Module)(a1:List G_FileEdit)(s:((List G_Module)×Int)):Env:=[(0,.isl 2 (a0.map z6) false),(1,.isl 4 (a1.map z8) false),(5,.osl (0,0) 2 (s.1.map z6)),(6,i6 s.2)]
def z61(a0:List G_Module)(a1:List G_FileEdit)(s:((List G_Module)×Int)):AHeap:=[((0,0),.tok)]
def zah(a0:List G_Module)(a1:List G_FileEdit)(o:(List G_Module)):Exit→Env→AHeap→Nat→Prop:=(j4 0 (Qh Tryz.prog J1 0 za8 (zl9 a0 a1 o)))
def qu(m:Option Nat)(v3:List G_Module):Option (List G_Module):=
 some v3
def y6(m:Option Nat)(a0:List G_Module)(a1:List G_FileEdit)(v3:List G_Module)(v4:Int):Option (((List G_Module)×Int) ⊕ (List G_Module)):=
 if(decide (v4<((a0.map z6).length:Int)))=true then
  if(0:Int)≤v4∧v4<((a0.map z6).length:Int) then
  if(0:Int)≤v4∧v4<((a0.map z6).length:Int) then
  (y8 m a1 v4).bind fun v7=>
  (qf m ((a0.getD v4.toNat default).f_Source) v7).bind fun v8=>
  if((v3++([(G_Module.mk ((a0.getD v4.toNat default).f_Name) v8)]:List G_Module)).map z6).length*32≤140737488355328 then
  some (.inl ((v3++([(G_Module.mk ((a0.getD v4.toNat default).f_Name) v8)]:List G_Module)),(W (v4+1))))
  else none
  else none
  else none
 else
  p4 pA (
   qu m v3)
def yp(m:Option Nat)(a0:List G_Module)(a1:List G_FileEdit)(v3:List G_Module)(v4:Int):Option (List G_Module):=Zf m (fun(s:((List G_Module)×Int))=>y6 m a0 a1 s.1 s.2) (v3,v4)
theorem zj2{a0:List G_Module}{a1:List G_FileEdit}{v3:List G_Module}{m:Option Nat}{o:(List G_Module)}(h:qu m v3=some o) :
 LWp Tryz.prog J1 0 za8 (zl9 a0 a1 o) [(5,.osl (0,0) 2 (v3.map z6))] [((0,0),.tok)] 1:=by
 unfold qu at h
 refine zl (y5 ?_)
 refine vl ?_
 cases h
 exact AI TT (AI rfl (Vw.oslI _ _ _))
theorem zbz{a0:List G_Module}{a1:List G_FileEdit}{v3:List G_Module}{v4:Int}{m:Option Nat}{o:((List G_Module)×Int) ⊕ (List G_Module)}(h:y6 m a0 a1 v3 v4=some o) :
 LWp Tryz.prog J1 0 zfy (Zg 0 1 (z25 a0 a1) (z61 a0 a1) (zah a0 a1) o) [(0,.isl 2 (a0.map z6) false),(1,.isl 4 (a1.map z8) false),(5,.osl (0,0) 2 (v3.map z6)),(6,i6 v4)] [((0,0),.tok)] 1:=by
 unfold y6 at h
 refine zl ?_
 refine zl (y5 ?_)
 refine j0 (v:=(decide (v4<((a0.map z6).length:Int)))) rfl TT (fun h13=>?_) (fun h13=>?_)
 ·have h:=yq h13 h
  refine jw ?_
  refine zl ?_
  refine ja ?_
  refine zq6 ?_
  obtain⟨h14,h⟩:=zk h
  refine AI h14 ?_
  refine EX (z6 (a0.getD v4.toNat default)) (AI (qt z6 _ _ (xr z6 h14)) (AI (AI (wa h14) (NB rfl)) ?_))
  obtain⟨h15,h⟩:=zk h
  refine AI h15 ?_
  refine EX (z6 (a0.getD v4.toNat default)) (AI (qt z6 _ _ (xr z6 h15)) (AI (AI (wa h15) (NB rfl)) ?_))
  obtain⟨v7,h16,h⟩:=bind_some h
  refine p3 (zn2 h16) (S2 rfl rfl TT) ?_
  refine AI (AI (AI (wa h15) (NB rfl)) (congrArg (yn false 1 1) (qt z6 _ _ (xr z6 h15)))) ?_
  refine AI (AI (AI (wa h14) (NB rfl)) (congrArg (yn false 1 0) (qt z6 _ _ (xr z6 h14)))) ?_
  obtain⟨v8,h17,h⟩:=bind_some h
  refine p3 (zss h17) (S2 rfl rfl TT) ?_
  refine AI (AI (AI (wa h14) (NB rfl)) (congrArg (yn false 1 0) (qt z6 _ _ (xr z6 h14)))) ?_
  obtain⟨h18,h⟩:=zk h
  refine EX ((v3++([(G_Module.mk ((a0.getD v4.toNat default).f_Name) v8)]:List G_Module)).map z6) (AI (z8r z6 v3 ([(G_Module.mk ((a0.getD v4.toNat default).f_Name) v8)]:List G_Module)) (AI h18 ?_))
  refine p2 (e:=[(0,.isl 2 (a0.map z6) false),(1,.isl 4 (a1.map z8) false),(5,.osl (0,0) 2 ((v3++([(G_Module.mk ((a0.getD v4.toNat default).f_Name) v8)]:List G_Module)).map z6)),(6,i6 v4)]) (L:=[((0,0),.tok)]) (n:=1) ?_ ?_
  ·exact jq (M:=[((0,0),(1,0))]) rfl (S2 rfl rfl (AI (Vw.osl _ _ _ _ rfl) (AI (VS rfl) TT))) (AI (AI rfl BVw.tok) TT)
  refine y5 ?_
  cases h
  exact AI rfl (jq (M:=[((0,0),(0,0))]) rfl (S2 rfl rfl (AI (Vw.osl _ _ _ _ rfl) (AI (VS rfl) TT))) (AI (AI rfl BVw.tok) TT))
 ·have h:=qc h13 h
  refine Xn ?_
  obtain⟨o,hq,rfl⟩:=p1.1 h
  replace h:=hq;clear hq
  refine AI nofun ?_
  refine p2 ?_ (zj2 h)
  exact jq (M:=[((0,0),(0,0))]) rfl (AI (Vw.osl _ _ _ _ rfl) TT) (AI (AI rfl BVw.tok) TT)
theorem ziq{a0:List G_Module}{a1:List G_FileEdit}{v3:List G_Module}{v4:Int}{m:Option Nat}{o:(List G_Module)}(h:yp m a0 a1 v3 v4=some o) :
 LWp Tryz.prog J1 0 (.loop zfy) (j4 0 (Qh Tryz.prog J1 0 za8 (zl9 a0 a1 o))) [(0,.isl 2 (a0.map z6) false),(1,.isl 4 (a1.map z8) false),(5,.osl (0,0) 2 (v3.map z6)),(6,i6 v4)] [((0,0),.tok)] 1:=
 ji (m:=m) (s:=((v3,v4):((List G_Module)×Int))) (r:=o) (fun(s:((List G_Module)×Int))=>y6 m a0 a1 s.1 s.2) (z25 a0 a1) (z61 a0 a1) (zah a0 a1) (fun s o h=>zbz h) h
def qe(m:Option Nat)(a0:List G_Module)(a1:List G_FileEdit):Option (List G_Module):=
 yp m a0 a1 [] 0
theorem zff{a0:List G_Module}{a1:List G_FileEdit}{m:Option Nat}{o:(List G_Module)}(h:qe m a0 a1=some o):LWp Tryz.prog J1 0 zn1 (zl9 a0 a1 o) (yi 0 [.isl 2 (a0.map z6) false,.isl 4 (a1.map z8) false]) [] 0:=by
 unfold qe at h
 refine zl (y5 ?_)
 refine zl (y5 ?_)
 refine zl ?_
 refine zl (y5 ?_)
 refine ja ?_
 refine p2 ?_ (ziq h)
 exact jq (M:=[]) rfl (S2 rfl rfl (AI (Vw.nilO _ _ (by decide)) (AI (VS rfl) TT))) (AI (AI rfl (AI (by decide) (by decide))) TT)
theorem zsv{a0:List G_Module}{a1:List G_FileEdit}{m:Option Nat}{o:(List G_Module)}(h:qe m a0 a1=some o):PFn Tryz.prog 10 [.isl 2 (a0.map z6) false,.isl 4 (a1.map z8) false] (.isl 2 (o.map z6) false):=p9 (L:=zuu) zot zp9 (NB rfl) rfl (zff h)
def zdm:LCode:=(.seq (.seq (.region [Qm 11 5,
 Qm 12 0,
 Qo 13 (.len false (.t 12)),
 Qo 14 (.bin .lss (.t 11) (.t 13))])
 (.cond (.t 14)
  .skip
  (.exit 0)))
 (.seq (.block 1
  (.seq (.quiet [Qm 17 0,
   Qm 18 5,
   Qo 19 (.iaddr 2 (.t 17) (.t 18)),
   Qt 20 2 19,
   Qm 21 1,
   Qm 22 5,
   Qo 23 (.iaddr 2 (.t 21) (.t 22)),
   Qt 24 2 23,
   Qo 25 (.eq true (.agg [.str,.str]) (.t 20) (.t 24))])
  (.cond (.t 25)
   (.seq (.region [Qb 4])
   .ret)
   .skip)))
 (.region [Qm 15 5,
  Qo 16 (.bin .add (.t 15) (.c (i6 1))),
  Qm 5 16])))
def z9z:LCode:=(.seq (.region [Qo 4 (.mv (.c (.bool true)))])
 .ret)
def zmy:LCode:=(.seq (.region [Qb 4])
 (.seq (.seq (.region [Qm 6 0,
  Qo 7 (.len false (.t 6)),
  Qm 8 1,
  Qo 9 (.len false (.t 8)),
  Qo 10 (.bin .neq (.t 7) (.t 9))])
 (.cond (.t 10)
  (.seq (.region [Qb 4])
  .ret)
  .skip))
 (.seq (.seq (.region [Qi 5 0])
 (.block 0
  (.loop
   zdm)))
 z9z)))
def Jf:Lay:=⟨26,[],false⟩
def zis:List LRes:=[.t 4]
def ztv:LFn:=⟨2,Jf,zmy,zis⟩
theorem zor:w4 Tryz.prog [] 11=some ztv:=by kernel_rfl
theorem zoj:uc Tryz.prog 11:=⟨_,Tryz.func11,rfl,rfl⟩
def zmr(a0:List G_Module)(a1:List G_Module)(o:Bool):Exit→Env→AHeap→Nat→Prop:=Q0 zis (jj (.bool o))
def z1p(a0:List G_Module)(a1:List G_Module)(s:Int):Env:=[(0,.isl 2 (a0.map z6) false),(1,.isl 2 (a1.map z6) false),(5,i6 s)]
def z5z(a0:List G_Module)(a1:List G_Module)(s:Int):AHeap:=[]
def z9l(a0:List G_Module)(a1:List G_Module)(o:Bool):Exit→Env→AHeap→Nat→Prop:=(j4 0 (Qh Tryz.prog Jf 0 z9z (zmr a0 a1 o)))
def x8(m:Option Nat):Option Bool:=
 some true
def yg(m:Option Nat)(a0:List G_Module)(a1:List G_Module)(v1:Int):Option (Int ⊕ Bool):=
 if(decide (v1<((a0.map z6).length:Int)))=true then
  if(0:Int)≤v1∧v1<((a0.map z6).length:Int) then
  if(0:Int)≤v1∧v1<((a1.map z6).length:Int) then
  if(!(((a0.getD v1.toNat default).f_Name==(a1.getD v1.toNat default).f_Name)&&(((a0.getD v1.toNat default).f_Source==(a1.getD v1.toNat default).f_Source)&&true)))=true then
   p4 pA (
    some false)
  else
   some (.inl (W (v1+1)))
  else none
  else none
 else
  p4 pA (
   x8 m)
def qa(m:Option Nat)(a0:List G_Module)(a1:List G_Module)(v1:Int):Option Bool:=Zf m (fun(s:Int)=>yg m a0 a1 s) v1
theorem zgw{a0:List G_Module}{a1:List G_Module}{m:Option Nat}{o:Bool}(h:x8 m=some o) :
 LWp Tryz.prog Jf 0 z9z (zmr a0 a1 o) [] [] 0:=by
 unfold x8 at h
 refine zl (y5 ?_)
 refine vl ?_
 cases h
 exact AI TT (AI rfl (VS rfl))
theorem zda{a0:List G_Module}{a1:List G_Module}{v1:Int}{m:Option Nat}{o:Int ⊕ Bool}(h:yg m a0 a1 v1=some o) :
 LWp Tryz.prog Jf 0 zdm (Zg 0 0 (z1p a0 a1) (z5z a0 a1) (z9l a0 a1) o) [(0,.isl 2 (a0.map z6) false),(1,.isl 2 (a1.map z6) false),(5,i6 v1)] [] 0:=by
 unfold yg at h
 refine zl ?_
 refine zl (y5 ?_)
 refine j0 (v:=(decide (v1<((a0.map z6).length:Int)))) rfl TT (fun h10=>?_) (fun h10=>?_)
 ·have h:=yq h10 h
  refine jw ?_
  refine zl ?_
  refine ja ?_
  refine zl ?_
  refine zhh ?_
  obtain⟨h11,h⟩:=zk h
  refine AI h11 ?_
  refine EX (z6 (a0.getD v1.toNat default)) (AI (qt z6 _ _ (xr z6 h11)) (AI (AI (wa h11) (NB rfl)) ?_))
  obtain⟨h12,h⟩:=zk h
  refine AI h12 ?_
  refine EX (z6 (a1.getD v1.toNat default)) (AI (qt z6 _ _ (xr z6 h12)) (AI (AI (wa h12) (NB rfl)) ?_))
  refine p2 (e:=[(0,.isl 2 (a0.map z6) false),(1,.isl 2 (a1.map z6) false),(5,i6 v1),(25,.bool (!(((a0.getD v1.toNat default).f_Name==(a1.getD v1.toNat default).f_Name)&&(((a0.getD v1.toNat default).f_Source==(a1.getD v1.toNat default).f_Source)&&true))))]) (L:=[]) (n:=0) ?_ ?_
  ·exact jq (M:=[]) rfl (S4 rfl rfl rfl rfl TT) TT
  refine j0 (v:=(!(((a0.getD v1.toNat default).f_Name==(a1.getD v1.toNat default).f_Name)&&(((a0.getD v1.toNat default).f_Source==(a1.getD v1.toNat default).f_Source)&&true)))) rfl TT (fun h13=>?_) (fun h13=>?_)
  ·have h:=yq h13 h
   refine zl (y5 ?_)
   refine vl ?_
   obtain⟨o,hq,rfl⟩:=p1.1 h
   replace h:=hq;clear hq
   refine AI nofun ?_
   cases h
   exact AI TT (AI rfl (VS rfl))
  ·have h:=qc h13 h
   refine jw ?_
   refine y5 ?_
   cases h
   exact AI rfl (jq (M:=[]) rfl (S2 rfl rfl (AI (VS rfl) TT)) TT)
 ·have h:=qc h10 h
  refine Xn ?_
  obtain⟨o,hq,rfl⟩:=p1.1 h
  replace h:=hq;clear hq
  refine AI nofun ?_
  refine p2 ?_ (zgw h)
  exact jq (M:=[]) rfl TT TT
theorem zfk{a0:List G_Module}{a1:List G_Module}{v1:Int}{m:Option Nat}{o:Bool}(h:qa m a0 a1 v1=some o) :
 LWp Tryz.prog Jf 0 (.loop zdm) (j4 0 (Qh Tryz.prog Jf 0 z9z (zmr a0 a1 o))) [(0,.isl 2 (a0.map z6) false),(1,.isl 2 (a1.map z6) false),(5,i6 v1)] [] 0:=
 ji (m:=m) (s:=(v1:Int)) (r:=o) (fun(s:Int)=>yg m a0 a1 s) (z1p a0 a1) (z5z a0 a1) (z9l a0 a1) (fun s o h=>zda h) h
def yt(m:Option Nat)(a0:List G_Module)(a1:List G_Module):Option Bool:=
 if(((a0.map z6).length:Int) != ((a1.map z6).length:Int))=true then
  some false
 else
  qa m a0 a1 0
theorem zhp{a0:List G_Module}{a1:List G_Module}{m:Option Nat}{o:Bool}(h:yt m a0 a1=some o):LWp Tryz.prog Jf 0 zmy (zmr a0 a1 o) (yi 0 [.isl 2 (a0.map z6) false,.isl 2 (a1.map z6) false]) [] 0:=by
 unfold yt at h
 refine zl (y5 ?_)
 refine zl ?_
 refine zl (y5 ?_)
 refine j0 (v:=(((a0.map z6).length:Int) != ((a1.map z6).length:Int))) rfl TT (fun h1=>?_) (fun h1=>?_)
 ·have h:=yq h1 h
  refine zl (y5 ?_)
  refine vl ?_
  cases h
  exact AI TT (AI rfl (VS rfl))
 ·have h:=qc h1 h
  refine jw ?_
  refine zl ?_
  refine zl (y5 ?_)
  refine ja ?_
  refine p2 ?_ (zfk h)
  exact jq (M:=[]) rfl (S2 rfl rfl (AI (VS rfl) TT)) TT
theorem zum{a0:List G_Module}{a1:List G_Module}{m:Option Nat}{o:Bool}(h:yt m a0 a1=some o):PFn Tryz.prog 11 [.isl 2 (a0.map z6) false,.isl 2 (a1.map z6) false] (.bool o):=p9 (L:=ztv) zor zoj (NB rfl) rfl (zhp h)
def zu2:LCode:=(.seq (.region [Qm 33 5,
 Qm 34 8,
 Qo 35 (.call 11 [(.t 33),(.t 34)]),
 Qm 36 35,
 Qn 37 6 (36,true),
 Qn 38 7 (36,true),
 Qg 39 (.bin .eql (.t 37) (.t 38)) (36,true),
 Qp 40 36 39,
 Qm 4 40])
 .ret)
def zth:LCode:=(.seq (.region [Qo 8 (.mv (.c (.val (.slice none 0 0))))])
 (.seq (.seq (.region [Qm 24 7,
  Qo 25 (.bin .eql (.t 24) (.c (i6 0)))])
 (.cond (.t 25)
  (.seq (.region [Qm 26 0,
   Qm 27 1,
   Qo 28 (.call 10 [(.t 26),(.t 27)]),
   Qm 8 28])
  (.seq (.region [Qm 29 8,
   Qc 30 8 29,
   Qm 7 30])
  (.seq (.region [Qm 31 7,
   Qo 32 (.bin .neq (.t 31) (.c (i6 0)))])
  (.cond (.t 32)
   (.region [Qo 8 (.mv (.c (.val (.slice none 0 0))))])
   .skip))))
  .skip))
 zu2))
def zub:LCode:=(.seq (.region [Qb 4])
 (.seq (.seq (.region [Qo 9 (.call 6 []),
  Qo 10 (.un .not (.t 9))])
 (.cond (.t 10)
  (.seq (.region [Qb 4])
  .ret)
  .skip))
 (.seq (.region [Qm 12 0,
  Qm 13 1,
  Qo 14 (.call 7 [(.t 12),(.t 13)]),
  Qm 11 14,
  Qo 15 (.ext 0 (.t 11)),
  Qo 16 (.ext 1 (.t 11)),
  Qm 5 15,
  Qm 6 16])
 (.seq (.region [Qm 17 0,
  Qc 18 8 17,
  Qm 7 18])
 (.seq (.seq (.region [Qm 19 7,
  Qo 20 (.bin .eql (.t 19) (.c (i6 0)))])
 (.cond (.t 20)
  (.region [Qm 21 0,
   Qm 22 1,
   Qo 23 (.call 9 [(.t 21),(.t 22)]),
   Qm 7 23])
  .skip))
 zth)))))
def za1:Lay:=⟨41,[],false⟩
def znr:List LRes:=[.t 4]
def zxs:LFn:=⟨2,za1,zub,znr⟩
theorem ztr:w4 Tryz.prog [] 3=some zxs:=by kernel_rfl
theorem zsp:uc Tryz.prog 3:=⟨_,Tryz.func3,rfl,rfl⟩
def zb(m:Option Nat)(v2:(List G_Module)×Int)(v8:List G_Module)(v9:Int):Option Bool:=
 (yt m v2.1 v8).bind fun v10=>
 some (v10&&(v2.2==v9))
def zwj(a0:List G_Module)(a1:List G_FileEdit)(o:Bool):Exit→Env→AHeap→Nat→Prop:=Q0 znr (jj (.bool o))
theorem z38{a0:List G_Module}{a1:List G_FileEdit}{v2:(List G_Module)×Int}{v8:List G_Module}{v9:Int}{m:Option Nat}{o:Bool}(h:zb m v2 v8 v9=some o) :
 LWp Tryz.prog za1 0 zu2 (zwj a0 a1 o) [(5,.isl 2 (v2.1.map z6) false),(6,i6 v2.2),(7,i6 v9),(8,.isl 2 (v8.map z6) false)] [] 0:=by
 unfold zb at h
 refine zl (y5 ?_)
 obtain⟨v10,h11,h⟩:=bind_some h
 refine p3 (zum h11) (S2 rfl rfl TT) ?_
 refine AI (fun hp=>(AI hp hp)) ?_
 refine AI (fun hc=>(bqt hc)) ?_
 refine p2 (e:=[(4,.bool (v10&&(v2.2==v9)))]) (L:=[]) (n:=0) ?_ ?_
 ·exact jq (M:=[]) rfl (AI (VS rfl) TT) TT
 refine vl ?_
 cases h
 exact AI TT (AI rfl (VS rfl))
def zf(m:Option Nat)(a0:List G_Module)(a1:List G_FileEdit)(v2:(List G_Module)×Int)(v5:Int):Option Bool:=
 if(v5==0)=true then
  (qe m a0 a1).bind fun v6=>
  (yb m v6).bind fun v7=>
  if(v7 != 0)=true then
   zb m v2 [] v7
  else
   zb m v2 v6 v7
 else
  zb m v2 [] v5
theorem zap{a0:List G_Module}{a1:List G_FileEdit}{v2:(List G_Module)×Int}{v5:Int}{m:Option Nat}{o:Bool}(h:zf m a0 a1 v2 v5=some o) :
 LWp Tryz.prog za1 0 zth (zwj a0 a1 o) [(0,.isl 2 (a0.map z6) false),(1,.isl 4 (a1.map z8) false),(5,.isl 2 (v2.1.map z6) false),(6,i6 v2.2),(7,i6 v5)] [] 0:=by
 unfold zf at h
 refine zl (y5 ?_)
 refine zl ?_
 refine zl (y5 ?_)
 refine j0 (v:=(v5==0)) rfl TT (fun h7=>?_) (fun h7=>?_)
 ·have h:=yq h7 h
  refine zl (y5 ?_)
  obtain⟨v6,h8,h⟩:=bind_some h
  refine p3 (zsv h8) (S2 rfl rfl TT) ?_
  refine zl (y5 ?_)
  obtain⟨v7,h9,h⟩:=bind_some h
  refine p3 (zll h9) (AI (VS rfl) TT) ?_
  refine p2 (e:=[(5,.isl 2 (v2.1.map z6) false),(6,i6 v2.2),(7,i6 v7),(8,.isl 2 (v6.map z6) false)]) (L:=[]) (n:=0) ?_ ?_
  ·exact jq (M:=[]) rfl (S4 rfl rfl rfl rfl TT) TT
  refine zl (y5 ?_)
  refine j0 (v:=(v7 != 0)) rfl TT (fun h10=>?_) (fun h10=>?_)
  ·have h:=yq h10 h
   refine y5 ?_
   refine p2 ?_ (z38 h)
   exact jq (M:=[]) rfl (S2 rfl rfl (AI (VS rfl) (AI (Vw.nilI _ _) TT))) TT
  ·have h:=qc h10 h
   refine jw ?_
   refine p2 ?_ (z38 h)
   exact jq (M:=[]) rfl (S4 rfl rfl rfl rfl TT) TT
 ·have h:=qc h7 h
  refine jw ?_
  refine p2 ?_ (z38 h)
  exact jq (M:=[]) rfl (S2 rfl rfl (AI (VS rfl) (AI (Vw.nilI _ _) TT))) TT
def zd(m:Option Nat)(a0:List G_Module)(a1:List G_FileEdit):Option Bool:=
 (xk m).bind fun v1=>
 if(!v1)=true then
  some false
 else
  (x9 m a0 a1).bind fun v2=>
  (yb m a0).bind fun v3=>
  if(v3==0)=true then
   (y7 m a0 a1).bind fun v4=>
   zf m a0 a1 v2 v4
  else
   zf m a0 a1 v2 v3
theorem zli{a0:List G_Module}{a1:List G_FileEdit}{m:Option Nat}{o:Bool}(h:zd m a0 a1=some o):LWp Tryz.prog za1 0 zub (zwj a0 a1 o) (yi 0 [.isl 2 (a0.map z6) false,.isl 4 (a1.map z8) false]) [] 0:=by
 unfold zd at h
 refine zl (y5 ?_)
 refine zl ?_
 refine zl (y5 ?_)
 obtain⟨v1,h1,h⟩:=bind_some h
 refine p3 (zwc h1) TT ?_
 refine j0 (v:=(!v1)) rfl TT (fun h2=>?_) (fun h2=>?_)
 ·have h:=yq h2 h
  refine zl (y5 ?_)
  refine vl ?_
  cases h
  exact AI TT (AI rfl (VS rfl))
 ·have h:=qc h2 h
  refine jw ?_
  refine zl (y5 ?_)
  obtain⟨v2,h3,h⟩:=bind_some h
  refine p3 (zvz h3) (S2 rfl rfl TT) ?_
  refine p2 (e:=[(0,.isl 2 (a0.map z6) false),(1,.isl 4 (a1.map z8) false),(5,.isl 2 (v2.1.map z6) false),(6,i6 v2.2)]) (L:=[]) (n:=0) ?_ ?_
  ·exact jq (M:=[]) rfl (S4 rfl rfl rfl rfl TT) TT
  refine zl (y5 ?_)
  obtain⟨v3,h4,h⟩:=bind_some h
  refine p3 (zll h4) (AI (VS rfl) TT) ?_
  refine zl ?_
  refine zl (y5 ?_)
  refine j0 (v:=(v3==0)) rfl TT (fun h5=>?_) (fun h5=>?_)
  ·have h:=yq h5 h
   refine y5 ?_
   obtain⟨v4,h6,h⟩:=bind_some h
   refine p3 (zwx h6) (S2 rfl rfl TT) ?_
   refine p2 ?_ (zap h)
   exact jq (M:=[]) rfl (S4 rfl rfl rfl rfl (AI (VS rfl) TT)) TT
  ·have h:=qc h5 h
   refine jw ?_
   refine p2 ?_ (zap h)
   exact jq (M:=[]) rfl (S4 rfl rfl rfl rfl (AI (VS rfl) TT)) TT
theorem zwb{a0:List G_Module}{a1:List G_FileEdit}{m:Option Nat}{o:Bool}(h:zd m a0 a1=some o):PFn Tryz.prog 3 [.isl 2 (a0.map z6) false,.isl 4 (a1.map z8) false] (.bool o):=p9 (L:=zxs) ztr zsp (NB rfl) rfl (zli h)
end
end Go.Proofs.YtjkfnbjgpilokaaGreatDoor
