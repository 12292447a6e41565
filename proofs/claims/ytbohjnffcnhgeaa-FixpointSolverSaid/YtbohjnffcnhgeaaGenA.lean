/-
  Own text GenA of this claim: what functions of the given program compute, in plain Lean, and the proof; no condition.
-/
import Derived.Test.YtbohjnffcnhgeaaChecked
import Derived.Test.YtbohjnffcnhgeaaFc
import Derived.KernelRfl
open Go.Fx.BVw renaming enc→p3,grJ→p8
open Bool renaming noConfusion→p9
open Go.Fx.LWp renaming sim→p2
open List renaming replicate→p4,map→p5
open Option renaming map_eq_some_iff→p0,map→p6
open Go.Fx.PFn renaming ofFnW→pA
open Sum renaming inr→p7
open Go.Fx.Vw renaming mslE→p1,msl→pB
namespace Go.Proofs.Ytbohjnffcnhgeaa
noncomputable section
open Go.Fx
set_option linter.unusedVariables false
set_option maxHeartbeats 4000000
structure GR where
 fM:Int
 fA:List Int
instance:Inhabited GR:=⟨(GR.mk 0 [])⟩
structure GS where
 fD:Int
 fa:Int
 fb:Int
instance:Inhabited GS:=⟨(GS.mk 0 0 0)⟩
def z7(x:Int):List AVal:=[i6 x]
def z8(x:GR):List AVal:=[i6 x.fM,.isl 1 (x.fA.map z7) false]
def z6(x:List GR):List AVal:=[.isl 2 (x.map z8) false]
def zr(x:GS):List AVal:=[i6 x.fD,i6 x.fa,i6 x.fb]
abbrev cT(a1:List GS):List GS:=a1.take (if 15<((a1.map zr).length:Int) then 15 else((a1.map zr).length:Int)).toNat
def z39(x:List Int):List AVal:=[.isl 1 (x.map z7) false]
theorem Yg(x:Int):AVal.nid.nidL (z7 x)=true∧∀y∈z7 x,y.imm=some y:=⟨rfl,by simp[z7,AVal.imm]⟩
theorem Xp(x:GR):AVal.nid.nidL (z8 x)=true∧∀y∈z8 x,y.imm=some y:=⟨rfl,by simp[z8,AVal.imm]⟩
theorem Xd(x:List GR):AVal.nid.nidL (z6 x)=true∧∀y∈z6 x,y.imm=some y:=⟨rfl,by simp[z6,AVal.imm]⟩
theorem zym(x:GS):AVal.nid.nidL (zr x)=true∧∀y∈zr x,y.imm=some y:=⟨rfl,by simp[zr,AVal.imm]⟩
theorem zxj(x:List Int):AVal.nid.nidL (z39 x)=true∧∀y∈z39 x,y.imm=some y:=⟨rfl,by simp[z39,AVal.imm]⟩
theorem y02(x:Int):AVal.nid.nidL (z7 x)=true:=rfl
theorem zx(x:GR):AVal.nid.nidL (z8 x)=true:=rfl
theorem Kz(x:List GR):AVal.nid.nidL (z6 x)=true:=rfl
theorem zyf(x:GS):AVal.nid.nidL (zr x)=true:=rfl
theorem zvc(x:List Int):AVal.nid.nidL (z39 x)=true:=rfl
def zgo:LCode:=(.seq (.region [Qo 1 (.box (.t 0)),
 Qb 2])
 (.seq (.region [Qf 3 1 1,
  Ql 4 1 3,
  Qo 5 (.len false (.t 4)),
  Qo 6 (.bin .gtr (.t 5) (.c (i6 60))),
  Qm 2 6])
 .ret))
def zd7:Lay:=⟨7,[],false⟩
def zda:List LRes:=[.t 2]
def zon:LFn:=⟨1,zd7,zgo,zda⟩
theorem zmm:Zb Try.prog [] 30=some zon:=by kernel_rfl
theorem zky:Xk Try.prog 30:=⟨_,Try.func30,rfl,rfl⟩
def vd(m:Option Nat)(a0:GR):Option Bool:=
 some (decide (((a0.fA.map z7).length:Int) > 60))
def zwq(a0:GR)(o:Bool):Exit→Env→AHeap→Nat→Prop:=W4 zda (Yy 3 4 (.bool o) [])
theorem ze3{a0:GR}{m:Option Nat}{o:Bool}(h:vd m a0=some o):LWp Try.prog zd7 3 zgo (zwq a0 o) (qe 0 [.agg [i6 a0.fM,.isl 1 (a0.fA.map z7) false]]) [] 3:=by
 unfold vd at h
 refine SR ?_
 refine SR ?_
 refine Ya ?_
 cases h
 exact AI TT (z1f (n':=4) [] [] rfl rfl (VS rfl) TT)
theorem ztd{a0:GR}{m:Option Nat}{o:Bool}(h:vd m a0=some o):ACalls Try.prog 30 [.agg [i6 a0.fM,.isl 1 (a0.fA.map z7) false]] [] 3 (Ze 4 (.bool o) []):=Zr (L:=zon) zmm zky (NB rfl) (ze3 h)
def z8p:LCode:=(.seq (.region [Qo 9 (.bin .lss (.t 8) (.t 7))])
 (.seq (.cond (.t 9)
  .skip
  (.exit 0))
 (.seq (.block 1
  (.seq (.region [Qm 10 8,
   Qm 5 10])
  (.seq (.region [Qm 11 1,
   Qm 12 0,
   Qm 13 5,
   Qo 14 (.iaddr 2 (.t 12) (.t 13)),
   Qt 15 2 14,
   Qo 16 (.callv (.t 11) [(.t 15)])])
  (.cond (.t 16)
   (.seq (.region [Qm 17 5,
    Qm 4 17])
   .ret)
   .skip))))
 (.region [Qo 18 (.bin .add (.t 8) (.c (i6 1))),
  Qm 8 18]))))
def z2w:LCode:=(.seq (.region [Qo 4 (.mv (.c (i6 (-1))))])
 .ret)
def zh5:LCode:=(.seq (.region [Qi 4 0])
 (.seq (.seq (.region [Qm 6 0,
  Qo 7 (.len false (.t 6)),
  Qi 8 0])
 (.block 0
  (.loop
   z8p)))
 z2w))
def J8:Lay:=⟨19,[],false⟩
def zbq:List LRes:=[.t 4]
def zor:LFn:=⟨2,J8,zh5,zbq⟩
theorem zkz:Zb Try.prog [] 34=some zor:=by kernel_rfl
theorem zkt:Xk Try.prog 34:=⟨_,Try.func34,rfl,rfl⟩
def z85{σ:Type}(Hc:σ→AHeap)(fi0:Fn)(ff0 fc0:List AVal)(a0:List GR)(z0:σ)(o:Int×σ):Exit→Env→AHeap→Nat→Prop:=W4 zbq (Yy 3 4 (i6 o.1) ([]++up 3 (Hc o.2)))
def z1l{σ:Type}(Hc:σ→AHeap)(fi0:Fn)(ff0 fc0:List AVal)(a0:List GR)(s:(Int×σ)):Env:=[(0,.isl 2 (a0.map z8) false),(1,.fn fi0 ff0 fc0),(7,i6 ((a0.map z8).length:Int)),(8,i6 s.1)]
def z3d{σ:Type}(Hc:σ→AHeap)(fi0:Fn)(ff0 fc0:List AVal)(a0:List GR)(s:(Int×σ)):AHeap:=([]++up 3 (Hc s.2))
def z6i{σ:Type}(Hc:σ→AHeap)(fi0:Fn)(ff0 fc0:List AVal)(a0:List GR)(z0:σ)(o:(Int×σ)):Exit→Env→AHeap→Nat→Prop:=(zb 0 (uw Try.prog J8 3 z2w (z85 Hc fi0 ff0 fc0 a0 z0 o)))
def ku{σ:Type}(g0:σ→GR→Option (Bool×σ))(m:Option Nat)(v3:σ):Option (Int×σ):=
 some ((-1),v3)
def yl{σ:Type}(g0:σ→GR→Option (Bool×σ))(m:Option Nat)(a0:List GR)(v2:Int)(v3:σ):Option ((Int×σ) ⊕ (Int×σ)):=
 if(decide (v2<((a0.map z8).length:Int)))=true then
  if(0:Int)≤v2∧v2<((a0.map z8).length:Int) then
  (g0 v3 (GR.mk ((a0.getD v2.toNat default).fM) ((a0.getD v2.toNat default).fA))).bind fun v5=>
  if v5.1=true then
   p6 p7 (
    some (v2,v5.2))
  else
   some (.inl ((W (v2+1)),v5.2))
  else none
 else
  p6 p7 (
   ku g0 m v3)
def xr{σ:Type}(g0:σ→GR→Option (Bool×σ))(m:Option Nat)(a0:List GR)(v2:Int)(v3:σ):Option (Int×σ):=kw m (fun(s:(Int×σ))=>yl g0 m a0 s.1 s.2) (v2,v3)
theorem zea{σ:Type}{Hc:σ→AHeap}{fi0:Fn}{ff0 fc0:List AVal}{g0:σ→GR→Option (Bool×σ)}(hg0:Clo Try.prog fi0 ff0 fc0 Hc (fun(x:GR)=>[.agg [i6 x.fM,.isl 1 (x.fA.map z7) false]]) (fun(b:Bool)=>.bool b) g0){a0:List GR}{z0:σ}{v3:σ}{m:Option Nat}{o:(Int×σ)}(h:ku g0 m v3=some o) :
 LWp Try.prog J8 3 z2w (z85 Hc fi0 ff0 fc0 a0 z0 o) [] ([]++up 3 (Hc v3)) 4:=by
 unfold ku at h
 refine SR ?_
 refine Ya ?_
 cases h
 exact AI TT (zwo (n':=4) (q:=3) (lit':=[]) (hg0.tl _) [] [] rfl rfl (VS rfl) TT)
theorem zc1{σ:Type}{Hc:σ→AHeap}{fi0:Fn}{ff0 fc0:List AVal}{g0:σ→GR→Option (Bool×σ)}(hg0:Clo Try.prog fi0 ff0 fc0 Hc (fun(x:GR)=>[.agg [i6 x.fM,.isl 1 (x.fA.map z7) false]]) (fun(b:Bool)=>.bool b) g0){z0:σ}{a0:List GR}{v2:Int}{v3:σ}{m:Option Nat}{o:(Int×σ) ⊕ (Int×σ)}(h:yl g0 m a0 v2 v3=some o) :
 LWp Try.prog J8 3 z8p (yi 3 4 (z1l Hc fi0 ff0 fc0 a0) (z3d Hc fi0 ff0 fc0 a0) (z6i Hc fi0 ff0 fc0 a0 z0) o) [(0,.isl 2 (a0.map z8) false),(1,.fn fi0 ff0 fc0),(7,i6 ((a0.map z8).length:Int)),(8,i6 v2)] ([]++up 3 (Hc v3)) 4:=by
 unfold yl at h
 refine SR ?_
 refine xn ?_
 refine qh (v:=(decide (v2<((a0.map z8).length:Int)))) rfl TT (fun h9=>?_) (fun h9=>?_)
 ·have h:=zj h9 h
  refine qp ?_
  refine xn ?_
  refine zo ?_
  refine SR ?_
  refine SR ?_
  obtain⟨h10,h⟩:=za h
  refine AI h10 ?_
  refine EX (z8 (a0.getD v2.toNat default)) (AI (zc z8 _ _ (yj z8 h10)) (AI (AI (xv h10) (NB rfl)) ?_))
  obtain⟨v5,h11,h⟩:=bind_some h
  refine Clo.use (q:=3) (lit:=[]) hg0 h11 rfl rfl (AI (VS rfl) TT) ?_
  refine p2 (e:=[(0,.isl 2 (a0.map z8) false),(1,.fn fi0 ff0 fc0),(5,i6 v2),(7,i6 ((a0.map z8).length:Int)),(8,i6 v2),(16,.bool v5.1)]) (L:=([]++up 3 (Hc v5.2))) (n:=4) ?_ ?_
  ·exact zuz (M:=[]) (lit':=[]) (hg0.tl _) rfl (AI (VS rfl) (AI (Vw.clo hg0.hf hg0.hc (by decide) (z25 (Jv (n:=4) (q:=4) (lit':=[]) rfl))) (S4 rfl rfl rfl rfl TT))) TT
  refine qh (v:=v5.1) rfl TT (fun h12=>?_) (fun h12=>?_)
  ·have h:=zj h12 h
   refine SR ?_
   refine Ya ?_
   obtain⟨o,hq,rfl⟩:=p0.1 h
   replace h:=hq;clear hq
   refine AI nofun ?_
   cases h
   exact AI TT (zwo (n':=4) (q:=3) (lit':=[]) (hg0.tl _) [] [] rfl rfl (VS rfl) TT)
  ·have h:=zm h12 h
   refine qp ?_
   refine Y6 ?_
   cases h
   exact AI rfl (zuz (M:=[]) (lit':=[]) (hg0.tl _) rfl (AI (VS rfl) (AI (Vw.clo hg0.hf hg0.hc (by decide) (z25 (Jv (n:=4) (q:=3) (lit':=[]) rfl))) (S2 rfl rfl TT))) TT)
 ·have h:=zm h9 h
  refine ur ?_
  obtain⟨o,hq,rfl⟩:=p0.1 h
  replace h:=hq;clear hq
  refine AI nofun ?_
  refine p2 ?_ (zea hg0 h)
  exact zuz (M:=[]) (lit':=[]) (hg0.tl _) rfl TT TT
theorem zfn{σ:Type}{Hc:σ→AHeap}{fi0:Fn}{ff0 fc0:List AVal}{g0:σ→GR→Option (Bool×σ)}(hg0:Clo Try.prog fi0 ff0 fc0 Hc (fun(x:GR)=>[.agg [i6 x.fM,.isl 1 (x.fA.map z7) false]]) (fun(b:Bool)=>.bool b) g0){z0:σ}{a0:List GR}{v2:Int}{v3:σ}{m:Option Nat}{o:(Int×σ)}(h:xr g0 m a0 v2 v3=some o) :
 LWp Try.prog J8 3 (.loop z8p) (zb 0 (uw Try.prog J8 3 z2w (z85 Hc fi0 ff0 fc0 a0 z0 o))) [(0,.isl 2 (a0.map z8) false),(1,.fn fi0 ff0 fc0),(7,i6 ((a0.map z8).length:Int)),(8,i6 v2)] ([]++up 3 (Hc v3)) 4:=
 zn (m:=m) (s:=((v2,v3):(Int×σ))) (r:=o) (fun(s:(Int×σ))=>yl g0 m a0 s.1 s.2) (z1l Hc fi0 ff0 fc0 a0) (z3d Hc fi0 ff0 fc0 a0) (z6i Hc fi0 ff0 fc0 a0 z0) (fun s o h=>zc1 hg0 h) h
def jo{σ:Type}(g0:σ→GR→Option (Bool×σ))(m:Option Nat)(a0:List GR)(z0:σ):Option (Int×σ):=
 xr g0 m a0 0 z0
theorem ze4{σ:Type}{Hc:σ→AHeap}{fi0:Fn}{ff0 fc0:List AVal}{g0:σ→GR→Option (Bool×σ)}(hg0:Clo Try.prog fi0 ff0 fc0 Hc (fun(x:GR)=>[.agg [i6 x.fM,.isl 1 (x.fA.map z7) false]]) (fun(b:Bool)=>.bool b) g0){a0:List GR}{z0:σ}{m:Option Nat}{o:Int×σ}(h:jo g0 m a0 z0=some o):LWp Try.prog J8 3 zh5 (z85 Hc fi0 ff0 fc0 a0 z0 o) (qe 0 [.isl 2 (a0.map z8) false,.fn fi0 ff0 fc0]) ([]++Hc z0) 3:=by
 unfold jo at h
 refine p2 (e:=[(0,.isl 2 (a0.map z8) false),(1,.fn fi0 ff0 fc0)]) (L:=([]++up 3 (Hc z0))) (n:=4) (zgn (T:=Hc z0) (e':=qe 0 [.isl 2 (a0.map z8) false,.fn fi0 ff0 fc0]) (e:=[(0,.isl 2 (a0.map z8) false),(1,.fn fi0 ff0 fc0)]) (lit':=[]) (lit:=[]) (hg0.tl z0) rfl rfl (AI (VS rfl) (AI (Vw.clo hg0.hf hg0.hc (by decide) (zgx _)) TT)) TT) ?_
 refine SR ?_
 refine xn ?_
 refine SR ?_
 refine zo ?_
 refine p2 ?_ (zfn hg0 h)
 exact zuz (M:=[]) (lit':=[]) (hg0.tl _) rfl (AI (VS rfl) (AI (Vw.clo hg0.hf hg0.hc (by decide) (z25 (Jv (n:=4) (q:=3) (lit':=[]) rfl))) (S2 rfl rfl TT))) TT
theorem zs9{σ:Type}{Hc:σ→AHeap}{fi0:Fn}{ff0 fc0:List AVal}{g0:σ→GR→Option (Bool×σ)}(hg0:Clo Try.prog fi0 ff0 fc0 Hc (fun(x:GR)=>[.agg [i6 x.fM,.isl 1 (x.fA.map z7) false]]) (fun(b:Bool)=>.bool b) g0){a0:List GR}{z0:σ}{m:Option Nat}{o:Int×σ}(h:jo g0 m a0 z0=some o):ACalls Try.prog 34 [.isl 2 (a0.map z8) false,.fn fi0 ff0 fc0] ([]++Hc z0) 3 (Ze 4 (i6 o.1) ([]++up 3 (Hc o.2))):=Zr (L:=zor) zkz zkt (NB rfl) (ze4 hg0 h)
def zj9:LCode:=(.seq (.region [Qb 4])
 (.seq (.region [Qm 5 0,
  Qm 6 1,
  Qo 7 (.call 34 [(.t 5),(.t 6)]),
  Qo 8 (.bin .geq (.t 7) (.c (i6 0))),
  Qm 4 8])
 .ret))
def zcg:Lay:=⟨9,[],false⟩
def za7:List LRes:=[.t 4]
def zmj:LFn:=⟨2,zcg,zj9,za7⟩
theorem zox:Zb Try.prog [] 29=some zmj:=by kernel_rfl
theorem zmf:Xk Try.prog 29:=⟨_,Try.func29,rfl,rfl⟩
def qi{σ:Type}(g0:σ→GR→Option (Bool×σ))(m:Option Nat)(a0:List GR)(z0:σ):Option (Bool×σ):=
 (jo g0 m a0 z0).bind fun v1=>
 some ((decide (v1.1≥0)),v1.2)
def zxh{σ:Type}(Hc:σ→AHeap)(fi0:Fn)(ff0 fc0:List AVal)(a0:List GR)(z0:σ)(o:Bool×σ):Exit→Env→AHeap→Nat→Prop:=W4 za7 (Yy 3 4 (.bool o.1) ([]++up 3 (Hc o.2)))
theorem zfu{σ:Type}{Hc:σ→AHeap}{fi0:Fn}{ff0 fc0:List AVal}{g0:σ→GR→Option (Bool×σ)}(hg0:Clo Try.prog fi0 ff0 fc0 Hc (fun(x:GR)=>[.agg [i6 x.fM,.isl 1 (x.fA.map z7) false]]) (fun(b:Bool)=>.bool b) g0){a0:List GR}{z0:σ}{m:Option Nat}{o:Bool×σ}(h:qi g0 m a0 z0=some o):LWp Try.prog zcg 3 zj9 (zxh Hc fi0 ff0 fc0 a0 z0 o) (qe 0 [.isl 2 (a0.map z8) false,.fn fi0 ff0 fc0]) ([]++Hc z0) 3:=by
 unfold qi at h
 refine p2 (e:=[(0,.isl 2 (a0.map z8) false),(1,.fn fi0 ff0 fc0)]) (L:=([]++up 3 (Hc z0))) (n:=4) (zgn (T:=Hc z0) (e':=qe 0 [.isl 2 (a0.map z8) false,.fn fi0 ff0 fc0]) (e:=[(0,.isl 2 (a0.map z8) false),(1,.fn fi0 ff0 fc0)]) (lit':=[]) (lit:=[]) (hg0.tl z0) rfl rfl (AI (VS rfl) (AI (Vw.clo hg0.hf hg0.hc (by decide) (zgx _)) TT)) TT) ?_
 refine SR ?_
 refine SR ?_
 obtain⟨v1,h1,h⟩:=bind_some h
 refine zot (m:=1) (q:=3) (lit0:=[]) (lit:=[]) (L:=[]) (L':=[]) (rest:=[]) (R':=i6 v1.1) (hg0.tl _) (hg0.tl _) [] (zs9 hg0 h1) rfl rfl rfl rfl rfl rfl (AI (VS rfl) (AI (Vw.clo hg0.hf hg0.hc (by decide) (z8u _ _)) TT)) TT (Zd _ rfl) TT rfl ?_
 refine Ya ?_
 cases h
 exact AI TT (zwo (n':=6) (q:=4) (lit':=[]) (hg0.tl _) [] [] rfl rfl (VS rfl) TT)
theorem zsq{σ:Type}{Hc:σ→AHeap}{fi0:Fn}{ff0 fc0:List AVal}{g0:σ→GR→Option (Bool×σ)}(hg0:Clo Try.prog fi0 ff0 fc0 Hc (fun(x:GR)=>[.agg [i6 x.fM,.isl 1 (x.fA.map z7) false]]) (fun(b:Bool)=>.bool b) g0){a0:List GR}{z0:σ}{m:Option Nat}{o:Bool×σ}(h:qi g0 m a0 z0=some o):ACalls Try.prog 29 [.isl 2 (a0.map z8) false,.fn fi0 ff0 fc0] ([]++Hc z0) 3 (Ze 4 (.bool o.1) ([]++up 3 (Hc o.2))):=Zr (L:=zmj) zox zmf (NB rfl) (zfu hg0 h)
def zi3:LCode:=(.seq (.region [Qb 3])
 (.seq (.region [Qm 4 0,
  Qo 5 (.bin .lss (.t 4) (.c (i6 0))),
  Qm 6 5,
  Qn 7 0 (6,false),
  Qk 8 1 1 (6,false),
  Qg 9 (.len false (.t 8)) (6,false),
  Qg 10 (.bin .geq (.t 7) (.t 9)) (6,false),
  Qo 11 (.pick (.t 6) (.c (.bool true)) (.t 10)),
  Qm 3 11])
 .ret))
def zby:Lay:=⟨12,[],false⟩
def zc8:List LRes:=[.t 3]
def zmo:LFn:=⟨2,zby,zi3,zc8⟩
theorem zre:Zb Try.prog [] 32=some zmo:=by kernel_rfl
theorem zkw:Xk Try.prog 32:=⟨_,Try.func32,rfl,rfl⟩
def va(m:Option Nat)(a0:List (List GR))(a1:Int):Option Bool:=
 some ((decide (a1<0)) || (decide (a1≥((a0.map z6).length:Int))))
def zwn(a0:List (List GR))(a1:Int)(o:Bool):Exit→Env→AHeap→Nat→Prop:=W4 zc8 (Yy 3 4 (.bool o) [((1,0),.one [.isl 1 (a0.map z6) false])])
theorem zfl{a0:List (List GR)}{a1:Int}{m:Option Nat}{o:Bool}(h:va m a0 a1=some o):LWp Try.prog zby 3 zi3 (zwn a0 a1 o) (qe 0 [i6 a1,.ptr (1,0) 0 0]) [((1,0),.one [.isl 1 (a0.map z6) false])] 3:=by
 unfold va at h
 refine SR ?_
 refine SR ?_
 refine HP ?_
 refine AI (fun hp=>(AI hp hp)) ?_
 refine AI (fun hc=>(bqf hc)) ?_
 refine p2 (e:=[(3,.bool ((decide (a1<0)) || (decide (a1≥((a0.map z6).length:Int)))))]) (L:=[((1,0),.one [.isl 1 (a0.map z6) false])]) (n:=3) ?_ ?_
 ·exact qy (M:=[]) rfl (AI (VS rfl) TT) (AI (AI rfl (OL rfl)) TT)
 refine Ya ?_
 cases h
 exact AI TT (z1f (n':=3) [] [] rfl rfl (VS rfl) (AI (AI rfl (OL rfl)) TT))
theorem zsl{a0:List (List GR)}{a1:Int}{m:Option Nat}{o:Bool}(h:va m a0 a1=some o):ACalls Try.prog 32 [i6 a1,.ptr (1,0) 0 0] [((1,0),.one [.isl 1 (a0.map z6) false])] 3 (Ze 4 (.bool o) [((1,0),.one [.isl 1 (a0.map z6) false])]):=Zr (L:=zmo) zre zkw (NB rfl) (zfl h)
def z7a:LCode:=(.seq (.region [Qo 9 (.bin .lss (.t 8) (.t 7))])
 (.seq (.cond (.t 9)
  .skip
  (.exit 0))
 (.seq (.block 1
  (.seq (.region [Qm 10 8,
   Qm 5 10])
  (.seq (.region [Qm 11 1,
   Qm 12 0,
   Qm 13 5,
   Qo 14 (.iaddr 1 (.t 12) (.t 13)),
   Ql 15 1 14,
   Qo 16 (.callv (.t 11) [(.t 15)])])
  (.cond (.t 16)
   (.seq (.region [Qm 17 5,
    Qm 4 17])
   .ret)
   .skip))))
 (.region [Qo 18 (.bin .add (.t 8) (.c (i6 1))),
  Qm 8 18]))))
def z2j:LCode:=(.seq (.region [Qo 4 (.mv (.c (i6 (-1))))])
 .ret)
def zge:LCode:=(.seq (.region [Qi 4 0])
 (.seq (.seq (.region [Qm 6 0,
  Qo 7 (.len false (.t 6)),
  Qi 8 0])
 (.block 0
  (.loop
   z7a)))
 z2j))
def Xv:Lay:=⟨19,[],false⟩
def zca:List LRes:=[.t 4]
def zq2:LFn:=⟨2,Xv,zge,zca⟩
theorem zps:Zb Try.prog [] 35=some zq2:=by kernel_rfl
theorem zrj:Xk Try.prog 35:=⟨_,Try.func35,rfl,rfl⟩
def z7o{σ:Type}(Hc:σ→AHeap)(fi0:Fn)(ff0 fc0:List AVal)(a0:List Int)(z0:σ)(o:Int×σ):Exit→Env→AHeap→Nat→Prop:=W4 zca (Yy 3 4 (i6 o.1) ([]++up 3 (Hc o.2)))
def z1r{σ:Type}(Hc:σ→AHeap)(fi0:Fn)(ff0 fc0:List AVal)(a0:List Int)(s:(Int×σ)):Env:=[(0,.isl 1 (a0.map z7) false),(1,.fn fi0 ff0 fc0),(7,i6 ((a0.map z7).length:Int)),(8,i6 s.1)]
def z4k{σ:Type}(Hc:σ→AHeap)(fi0:Fn)(ff0 fc0:List AVal)(a0:List Int)(s:(Int×σ)):AHeap:=([]++up 3 (Hc s.2))
def z5n{σ:Type}(Hc:σ→AHeap)(fi0:Fn)(ff0 fc0:List AVal)(a0:List Int)(z0:σ)(o:(Int×σ)):Exit→Env→AHeap→Nat→Prop:=(zb 0 (uw Try.prog Xv 3 z2j (z7o Hc fi0 ff0 fc0 a0 z0 o)))
def Zc{σ:Type}(g0:σ→Int→Option (Bool×σ))(m:Option Nat)(v3:σ):Option (Int×σ):=
 some ((-1),v3)
def xh{σ:Type}(g0:σ→Int→Option (Bool×σ))(m:Option Nat)(a0:List Int)(v2:Int)(v3:σ):Option ((Int×σ) ⊕ (Int×σ)):=
 if(decide (v2<((a0.map z7).length:Int)))=true then
  if(0:Int)≤v2∧v2<((a0.map z7).length:Int) then
  (g0 v3 (a0.getD v2.toNat default)).bind fun v5=>
  if v5.1=true then
   p6 p7 (
    some (v2,v5.2))
  else
   some (.inl ((W (v2+1)),v5.2))
  else none
 else
  p6 p7 (
   Zc g0 m v3)
def wl{σ:Type}(g0:σ→Int→Option (Bool×σ))(m:Option Nat)(a0:List Int)(v2:Int)(v3:σ):Option (Int×σ):=kw m (fun(s:(Int×σ))=>xh g0 m a0 s.1 s.2) (v2,v3)
theorem zg5{σ:Type}{Hc:σ→AHeap}{fi0:Fn}{ff0 fc0:List AVal}{g0:σ→Int→Option (Bool×σ)}(hg0:Clo Try.prog fi0 ff0 fc0 Hc (fun(x:Int)=>[i6 x]) (fun(b:Bool)=>.bool b) g0){a0:List Int}{z0:σ}{v3:σ}{m:Option Nat}{o:(Int×σ)}(h:Zc g0 m v3=some o) :
 LWp Try.prog Xv 3 z2j (z7o Hc fi0 ff0 fc0 a0 z0 o) [] ([]++up 3 (Hc v3)) 4:=by
 unfold Zc at h
 refine SR ?_
 refine Ya ?_
 cases h
 exact AI TT (zwo (n':=4) (q:=3) (lit':=[]) (hg0.tl _) [] [] rfl rfl (VS rfl) TT)
theorem z9u{σ:Type}{Hc:σ→AHeap}{fi0:Fn}{ff0 fc0:List AVal}{g0:σ→Int→Option (Bool×σ)}(hg0:Clo Try.prog fi0 ff0 fc0 Hc (fun(x:Int)=>[i6 x]) (fun(b:Bool)=>.bool b) g0){z0:σ}{a0:List Int}{v2:Int}{v3:σ}{m:Option Nat}{o:(Int×σ) ⊕ (Int×σ)}(h:xh g0 m a0 v2 v3=some o) :
 LWp Try.prog Xv 3 z7a (yi 3 4 (z1r Hc fi0 ff0 fc0 a0) (z4k Hc fi0 ff0 fc0 a0) (z5n Hc fi0 ff0 fc0 a0 z0) o) [(0,.isl 1 (a0.map z7) false),(1,.fn fi0 ff0 fc0),(7,i6 ((a0.map z7).length:Int)),(8,i6 v2)] ([]++up 3 (Hc v3)) 4:=by
 unfold xh at h
 refine SR ?_
 refine xn ?_
 refine qh (v:=(decide (v2<((a0.map z7).length:Int)))) rfl TT (fun h9=>?_) (fun h9=>?_)
 ·have h:=zj h9 h
  refine qp ?_
  refine xn ?_
  refine zo ?_
  refine SR ?_
  refine SR ?_
  obtain⟨h10,h⟩:=za h
  refine AI h10 ?_
  refine EX (z7 (a0.getD v2.toNat default)) (AI (zc z7 _ _ (yj z7 h10)) (AI (AI (xv h10) (NB rfl)) ?_))
  obtain⟨v5,h11,h⟩:=bind_some h
  refine Clo.use (q:=3) (lit:=[]) hg0 h11 rfl rfl (AI (VS rfl) TT) ?_
  refine p2 (e:=[(0,.isl 1 (a0.map z7) false),(1,.fn fi0 ff0 fc0),(5,i6 v2),(7,i6 ((a0.map z7).length:Int)),(8,i6 v2),(16,.bool v5.1)]) (L:=([]++up 3 (Hc v5.2))) (n:=4) ?_ ?_
  ·exact zuz (M:=[]) (lit':=[]) (hg0.tl _) rfl (AI (VS rfl) (AI (Vw.clo hg0.hf hg0.hc (by decide) (z25 (Jv (n:=4) (q:=4) (lit':=[]) rfl))) (S4 rfl rfl rfl rfl TT))) TT
  refine qh (v:=v5.1) rfl TT (fun h12=>?_) (fun h12=>?_)
  ·have h:=zj h12 h
   refine SR ?_
   refine Ya ?_
   obtain⟨o,hq,rfl⟩:=p0.1 h
   replace h:=hq;clear hq
   refine AI nofun ?_
   cases h
   exact AI TT (zwo (n':=4) (q:=3) (lit':=[]) (hg0.tl _) [] [] rfl rfl (VS rfl) TT)
  ·have h:=zm h12 h
   refine qp ?_
   refine Y6 ?_
   cases h
   exact AI rfl (zuz (M:=[]) (lit':=[]) (hg0.tl _) rfl (AI (VS rfl) (AI (Vw.clo hg0.hf hg0.hc (by decide) (z25 (Jv (n:=4) (q:=3) (lit':=[]) rfl))) (S2 rfl rfl TT))) TT)
 ·have h:=zm h9 h
  refine ur ?_
  obtain⟨o,hq,rfl⟩:=p0.1 h
  replace h:=hq;clear hq
  refine AI nofun ?_
  refine p2 ?_ (zg5 hg0 h)
  exact zuz (M:=[]) (lit':=[]) (hg0.tl _) rfl TT TT
theorem zf5{σ:Type}{Hc:σ→AHeap}{fi0:Fn}{ff0 fc0:List AVal}{g0:σ→Int→Option (Bool×σ)}(hg0:Clo Try.prog fi0 ff0 fc0 Hc (fun(x:Int)=>[i6 x]) (fun(b:Bool)=>.bool b) g0){z0:σ}{a0:List Int}{v2:Int}{v3:σ}{m:Option Nat}{o:(Int×σ)}(h:wl g0 m a0 v2 v3=some o) :
 LWp Try.prog Xv 3 (.loop z7a) (zb 0 (uw Try.prog Xv 3 z2j (z7o Hc fi0 ff0 fc0 a0 z0 o))) [(0,.isl 1 (a0.map z7) false),(1,.fn fi0 ff0 fc0),(7,i6 ((a0.map z7).length:Int)),(8,i6 v2)] ([]++up 3 (Hc v3)) 4:=
 zn (m:=m) (s:=((v2,v3):(Int×σ))) (r:=o) (fun(s:(Int×σ))=>xh g0 m a0 s.1 s.2) (z1r Hc fi0 ff0 fc0 a0) (z4k Hc fi0 ff0 fc0 a0) (z5n Hc fi0 ff0 fc0 a0 z0) (fun s o h=>z9u hg0 h) h
def kr{σ:Type}(g0:σ→Int→Option (Bool×σ))(m:Option Nat)(a0:List Int)(z0:σ):Option (Int×σ):=
 wl g0 m a0 0 z0
theorem zff{σ:Type}{Hc:σ→AHeap}{fi0:Fn}{ff0 fc0:List AVal}{g0:σ→Int→Option (Bool×σ)}(hg0:Clo Try.prog fi0 ff0 fc0 Hc (fun(x:Int)=>[i6 x]) (fun(b:Bool)=>.bool b) g0){a0:List Int}{z0:σ}{m:Option Nat}{o:Int×σ}(h:kr g0 m a0 z0=some o):LWp Try.prog Xv 3 zge (z7o Hc fi0 ff0 fc0 a0 z0 o) (qe 0 [.isl 1 (a0.map z7) false,.fn fi0 ff0 fc0]) ([]++Hc z0) 3:=by
 unfold kr at h
 refine p2 (e:=[(0,.isl 1 (a0.map z7) false),(1,.fn fi0 ff0 fc0)]) (L:=([]++up 3 (Hc z0))) (n:=4) (zgn (T:=Hc z0) (e':=qe 0 [.isl 1 (a0.map z7) false,.fn fi0 ff0 fc0]) (e:=[(0,.isl 1 (a0.map z7) false),(1,.fn fi0 ff0 fc0)]) (lit':=[]) (lit:=[]) (hg0.tl z0) rfl rfl (AI (VS rfl) (AI (Vw.clo hg0.hf hg0.hc (by decide) (zgx _)) TT)) TT) ?_
 refine SR ?_
 refine xn ?_
 refine SR ?_
 refine zo ?_
 refine p2 ?_ (zf5 hg0 h)
 exact zuz (M:=[]) (lit':=[]) (hg0.tl _) rfl (AI (VS rfl) (AI (Vw.clo hg0.hf hg0.hc (by decide) (z25 (Jv (n:=4) (q:=3) (lit':=[]) rfl))) (S2 rfl rfl TT))) TT
theorem zta{σ:Type}{Hc:σ→AHeap}{fi0:Fn}{ff0 fc0:List AVal}{g0:σ→Int→Option (Bool×σ)}(hg0:Clo Try.prog fi0 ff0 fc0 Hc (fun(x:Int)=>[i6 x]) (fun(b:Bool)=>.bool b) g0){a0:List Int}{z0:σ}{m:Option Nat}{o:Int×σ}(h:kr g0 m a0 z0=some o):ACalls Try.prog 35 [.isl 1 (a0.map z7) false,.fn fi0 ff0 fc0] ([]++Hc z0) 3 (Ze 4 (i6 o.1) ([]++up 3 (Hc o.2))):=Zr (L:=zq2) zps zrj (NB rfl) (zff hg0 h)
def zip:LCode:=(.seq (.region [Qb 4])
 (.seq (.region [Qm 5 0,
  Qm 6 1,
  Qo 7 (.call 35 [(.t 5),(.t 6)]),
  Qo 8 (.bin .geq (.t 7) (.c (i6 0))),
  Qm 4 8])
 .ret))
def zbd:Lay:=⟨9,[],false⟩
def zbe:List LRes:=[.t 4]
def zo5:LFn:=⟨2,zbd,zip,zbe⟩
theorem zpw:Zb Try.prog [] 31=some zo5:=by kernel_rfl
theorem zqv:Xk Try.prog 31:=⟨_,Try.func31,rfl,rfl⟩
def jh{σ:Type}(g0:σ→Int→Option (Bool×σ))(m:Option Nat)(a0:List Int)(z0:σ):Option (Bool×σ):=
 (kr g0 m a0 z0).bind fun v1=>
 some ((decide (v1.1≥0)),v1.2)
def zw4{σ:Type}(Hc:σ→AHeap)(fi0:Fn)(ff0 fc0:List AVal)(a0:List Int)(z0:σ)(o:Bool×σ):Exit→Env→AHeap→Nat→Prop:=W4 zbe (Yy 3 4 (.bool o.1) ([]++up 3 (Hc o.2)))
theorem zdt{σ:Type}{Hc:σ→AHeap}{fi0:Fn}{ff0 fc0:List AVal}{g0:σ→Int→Option (Bool×σ)}(hg0:Clo Try.prog fi0 ff0 fc0 Hc (fun(x:Int)=>[i6 x]) (fun(b:Bool)=>.bool b) g0){a0:List Int}{z0:σ}{m:Option Nat}{o:Bool×σ}(h:jh g0 m a0 z0=some o):LWp Try.prog zbd 3 zip (zw4 Hc fi0 ff0 fc0 a0 z0 o) (qe 0 [.isl 1 (a0.map z7) false,.fn fi0 ff0 fc0]) ([]++Hc z0) 3:=by
 unfold jh at h
 refine p2 (e:=[(0,.isl 1 (a0.map z7) false),(1,.fn fi0 ff0 fc0)]) (L:=([]++up 3 (Hc z0))) (n:=4) (zgn (T:=Hc z0) (e':=qe 0 [.isl 1 (a0.map z7) false,.fn fi0 ff0 fc0]) (e:=[(0,.isl 1 (a0.map z7) false),(1,.fn fi0 ff0 fc0)]) (lit':=[]) (lit:=[]) (hg0.tl z0) rfl rfl (AI (VS rfl) (AI (Vw.clo hg0.hf hg0.hc (by decide) (zgx _)) TT)) TT) ?_
 refine SR ?_
 refine SR ?_
 obtain⟨v1,h1,h⟩:=bind_some h
 refine zot (m:=1) (q:=3) (lit0:=[]) (lit:=[]) (L:=[]) (L':=[]) (rest:=[]) (R':=i6 v1.1) (hg0.tl _) (hg0.tl _) [] (zta hg0 h1) rfl rfl rfl rfl rfl rfl (AI (VS rfl) (AI (Vw.clo hg0.hf hg0.hc (by decide) (z8u _ _)) TT)) TT (Zd _ rfl) TT rfl ?_
 refine Ya ?_
 cases h
 exact AI TT (zwo (n':=6) (q:=4) (lit':=[]) (hg0.tl _) [] [] rfl rfl (VS rfl) TT)
theorem zsi{σ:Type}{Hc:σ→AHeap}{fi0:Fn}{ff0 fc0:List AVal}{g0:σ→Int→Option (Bool×σ)}(hg0:Clo Try.prog fi0 ff0 fc0 Hc (fun(x:Int)=>[i6 x]) (fun(b:Bool)=>.bool b) g0){a0:List Int}{z0:σ}{m:Option Nat}{o:Bool×σ}(h:jh g0 m a0 z0=some o):ACalls Try.prog 31 [.isl 1 (a0.map z7) false,.fn fi0 ff0 fc0] ([]++Hc z0) 3 (Ze 4 (.bool o.1) ([]++up 3 (Hc o.2))):=Zr (L:=zo5) zpw zqv (NB rfl) (zdt hg0 h)
def zla:LCode:=(.seq (.region [Qo 15 (.bin .lss (.t 14) (.t 13))])
 (.seq (.cond (.t 15)
  .skip
  (.exit 0))
 (.seq (.block 1
  (.seq (.region [Qo 16 (.iaddr 1 (.t 12) (.t 14)),
   Ql 17 1 16,
   Qm 4 17])
  (.seq (.region [Qm 18 4,
   Qo 19 (.len false (.t 18)),
   Qo 20 (.bin .gtr (.t 19) (.c (i6 20))),
   Qm 21 20,
   Qn 22 4 (21,false),
   Qg 23 (.call 29 [(.t 22),(.c (.fn (.func 30) [] []))]) (21,false),
   Qo 24 (.pick (.t 21) (.c (.bool true)) (.t 23))])
  (.cond (.t 24)
   (.seq (.region [Qi 2 2])
   .ret)
   .skip))))
 (.region [Qo 25 (.bin .add (.t 14) (.c (i6 1))),
  Qm 14 25]))))
def zoa:LCode:=(.seq (.region [Qo 35 (.bin .lss (.t 34) (.t 33))])
 (.seq (.cond (.t 35)
  .skip
  (.exit 4))
 (.seq (.block 5
  (.seq (.region [Qo 36 (.iaddr 2 (.t 32) (.t 34)),
   Qt 37 2 36,
   Qo 8 (.alloc [(i6 0),(.isl 1 [] true)]),
   ⟨none,.store 2 (.t 8) (.t 37),none⟩])
  (.seq (.seq (.region [Qf 38 0 8,
   Ql 39 1 38,
   Qo 40 (.bin .lss (.t 39) (.c (i6 0))),
   Qm 41 40,
   Qe 42 0 8 (41,false),
   Qk 43 1 42 (41,false),
   Qg 44 (.bin .gtr (.t 43) (.c (i6 1048575))) (41,false),
   Qo 45 (.pick (.t 41) (.c (.bool true)) (.t 44))])
  (.cond (.t 45)
   (.seq (.region [Qi 2 1])
   .ret)
   .skip))
  (.seq (.region [Qf 46 1 8,
   Ql 47 1 46,
   Qo 48 (.mkfn (.func 32) [] [(.t 1)]),
   Qo 49 (.call 31 [(.t 47),(.t 48)])])
  (.cond (.t 49)
   (.seq (.region [Qi 2 3])
   .ret)
   .skip)))))
 (.region [Qo 50 (.bin .add (.t 34) (.c (i6 1))),
  Qm 34 50]))))
def zhd:LCode:=(.region [Qo 51 (.bin .add (.t 28) (.c (i6 1))),
 Qm 28 51])
def zna:LCode:=(.seq (.region [Qo 29 (.bin .lss (.t 28) (.t 27))])
 (.seq (.cond (.t 29)
  .skip
  (.exit 2))
 (.seq (.block 3
  (.seq (.region [Qo 30 (.iaddr 1 (.t 26) (.t 28)),
   Ql 31 1 30,
   Qm 6 31])
  (.seq (.region [Qm 32 6,
   Qo 33 (.len false (.t 32)),
   Qi 34 0])
  (.block 4
   (.loop
    zoa)))))
 zhd)))
def zix:LCode:=(.seq (.region [Qi 2 0])
 .ret)
def zi1:LCode:=(.seq (.seq (.region [Ql 26 1 1,
 Qo 27 (.len false (.t 26)),
 Qi 28 0])
 (.block 2
  (.loop
   zna)))
 zix)
def zv9:LCode:=(.seq (.region [Qo 1 (.box (.t 0)),
 Qi 2 0])
 (.seq (.seq (.region [Ql 9 1 1,
  Qo 10 (.len false (.t 9)),
  Qo 11 (.bin .gtr (.t 10) (.c (i6 60)))])
 (.cond (.t 11)
  (.seq (.region [Qi 2 2])
  .ret)
  .skip))
 (.seq (.seq (.region [Ql 12 1 1,
  Qo 13 (.len false (.t 12)),
  Qi 14 0])
 (.block 0
  (.loop
   zla)))
 zi1)))
def Y5:Lay:=⟨52,[],false⟩
def zlj:List LRes:=[.t 2]
def zyz:LFn:=⟨1,Y5,zv9,zlj⟩
theorem zxe:Zb Try.prog [] 21=some zyz:=by kernel_rfl
theorem zx4:Xk Try.prog 21:=⟨_,Try.func21,rfl,rfl⟩
def zev(a0:List (List GR))(o:Int):Exit→Env→AHeap→Nat→Prop:=W4 zlj (Yd (i6 o))
def z6d(a0:List (List GR))(s:Int):Env:=[(1,.ptr (0,0) 0 0),(12,.isl 1 (a0.map z6) false),(13,i6 ((a0.map z6).length:Int)),(14,i6 s)]
def zae(a0:List (List GR))(s:Int):AHeap:=[((0,0),.one [.isl 1 (a0.map z6) false])]
def zgr(a0:List (List GR))(o:Int):Exit→Env→AHeap→Nat→Prop:=(zb 0 (uw Try.prog Y5 0 zi1 (zev a0 o)))
def Zm(m:Option Nat)(a0:List (List GR))(v9:Int):Option (Int ⊕ Int):=
 some (.inl (W (v9+1)))
def vb(m:Option Nat)(a0:List (List GR))(v9:Int)(v15:Int):Option (Int ⊕ (Int ⊕ Int)):=
 if(decide (v15<(((a0.getD v9.toNat default).map z8).length:Int)))=true then
  if(0:Int)≤v15∧v15<(((a0.getD v9.toNat default).map z8).length:Int) then
  if((decide (((a0.getD v9.toNat default).getD v15.toNat default).fM<0)) || (decide (((a0.getD v9.toNat default).getD v15.toNat default).fM > 1048575)))=true then
   p6 p7 (
    p6 p7 (
     some 1))
  else
   (jh (fun(s:Unit) (x:Int)=>(va m a0 x).map fun o=>(o,())) m (((a0.getD v9.toNat default).getD v15.toNat default).fA) ()).bind fun v17=>
   if v17.1=true then
    p6 p7 (
     p6 p7 (
      some 3))
   else
    some (.inl (W (v15+1)))
  else none
 else
  p6 p7 (
   Zm m a0 v9)
def ut(m:Option Nat)(a0:List (List GR))(v9:Int)(v15:Int):Option (Int ⊕ Int):=kw m (fun(s:Int)=>vb m a0 v9 s) v15
def Zp(m:Option Nat):Option Int:=
 some 0
def ve(m:Option Nat)(a0:List (List GR))(v9:Int):Option (Int ⊕ Int):=
 if(decide (v9<((a0.map z6).length:Int)))=true then
  if(0:Int)≤v9∧v9<((a0.map z6).length:Int) then
  ut m a0 v9 0
  else none
 else
  p6 p7 (
   Zp m)
def ul(m:Option Nat)(a0:List (List GR))(v9:Int):Option Int:=kw m (fun(s:Int)=>ve m a0 s) v9
def Zo(m:Option Nat)(a0:List (List GR)):Option Int:=
 ul m a0 0
def wz(m:Option Nat)(a0:List (List GR))(v2:Int):Option (Int ⊕ Int):=
 if(decide (v2<((a0.map z6).length:Int)))=true then
  if(0:Int)≤v2∧v2<((a0.map z6).length:Int) then
  (if((decide ((((a0.getD v2.toNat default).map z8).length:Int) > 20))==false)=true then qi (fun(s:Unit) (x:GR)=>(vd m x).map fun o=>(o,())) m (a0.getD v2.toNat default) () else some default).bind fun v4=>
  if((decide ((((a0.getD v2.toNat default).map z8).length:Int) > 20)) || v4.1)=true then
   p6 p7 (
    some 2)
  else
   some (.inl (W (v2+1)))
  else none
 else
  p6 p7 (
   Zo m a0)
def ux(m:Option Nat)(a0:List (List GR))(v2:Int):Option Int:=kw m (fun(s:Int)=>wz m a0 s) v2
def W9(a0:List (List GR))(s:Int):Env:=[(1,.ptr (0,0) 0 0),(26,.isl 1 (a0.map z6) false),(27,i6 ((a0.map z6).length:Int)),(28,i6 s)]
def Vq(a0:List (List GR))(s:Int):AHeap:=[((0,0),.one [.isl 1 (a0.map z6) false])]
def z0v(a0:List (List GR))(o:Int):Exit→Env→AHeap→Nat→Prop:=(zb 2 (uw Try.prog Y5 0 zix (zev a0 o)))
def z67(a0:List (List GR))(v9:Int)(s:Int):Env:=[(1,.ptr (0,0) 0 0),(26,.isl 1 (a0.map z6) false),(27,i6 ((a0.map z6).length:Int)),(28,i6 v9),(32,.isl 2 ((a0.getD v9.toNat default).map z8) false),(33,i6 (((a0.getD v9.toNat default).map z8).length:Int)),(34,i6 s)]
def zcf(a0:List (List GR))(v9:Int)(s:Int):AHeap:=[((0,0),.one [.isl 1 (a0.map z6) false])]
def zir(a0:List (List GR))(o:(Int ⊕ Int)):Exit→Env→AHeap→Nat→Prop:=(zb 4 (zb 3 (uw Try.prog Y5 0 zhd (yi 0 1 (W9 a0) (Vq a0) (z0v a0) o))))
theorem zq0{a0:List (List GR)}{v9:Int}{m:Option Nat}{o:(Int ⊕ Int)}(h:Zm m a0 v9=some o) :
 LWp Try.prog Y5 0 zhd (yi 0 1 (W9 a0) (Vq a0) (z0v a0) o) [(1,.ptr (0,0) 0 0),(26,.isl 1 (a0.map z6) false),(27,i6 ((a0.map z6).length:Int)),(28,i6 v9)] [((0,0),.one [.isl 1 (a0.map z6) false])] 1:=by
 unfold Zm at h
 refine Y6 ?_
 cases h
 exact AI rfl (qy (M:=[((0,0),(0,0))]) rfl (SP rfl (S2 rfl rfl (AI (VS rfl) TT))) (AI (AI rfl (OL rfl)) TT))
theorem zkl{a0:List (List GR)}{v9:Int}{v15:Int}{m:Option Nat}{o:Int ⊕ (Int ⊕ Int)}(h:vb m a0 v9 v15=some o) :
 LWp Try.prog Y5 0 zoa (yi 0 1 (z67 a0 v9) (zcf a0 v9) (zir a0) o) [(1,.ptr (0,0) 0 0),(26,.isl 1 (a0.map z6) false),(27,i6 ((a0.map z6).length:Int)),(28,i6 v9),(32,.isl 2 ((a0.getD v9.toNat default).map z8) false),(33,i6 (((a0.getD v9.toNat default).map z8).length:Int)),(34,i6 v15)] [((0,0),.one [.isl 1 (a0.map z6) false])] 1:=by
 unfold vb at h
 refine SR ?_
 refine xn ?_
 refine qh (v:=(decide (v15<(((a0.getD v9.toNat default).map z8).length:Int)))) rfl TT (fun h60=>?_) (fun h60=>?_)
 ·have h:=zj h60 h
  refine qp ?_
  refine xn ?_
  refine zo ?_
  refine SR ?_
  obtain⟨h61,h⟩:=za h
  refine AI h61 ?_
  refine EX (z8 ((a0.getD v9.toNat default).getD v15.toNat default)) (AI (zc z8 _ _ (yj z8 h61)) (AI (AI (xv h61) (NB rfl)) ?_))
  refine xn ?_
  refine SR ?_
  refine HP ?_
  refine HP ?_
  refine AI (fun hc=>(bqf hc)) ?_
  refine p2 (e:=[(1,.ptr (0,0) 0 0),(8,.ptr (1,0) 0 0),(26,.isl 1 (a0.map z6) false),(27,i6 ((a0.map z6).length:Int)),(28,i6 v9),(32,.isl 2 ((a0.getD v9.toNat default).map z8) false),(33,i6 (((a0.getD v9.toNat default).map z8).length:Int)),(34,i6 v15),(45,.bool ((decide (((a0.getD v9.toNat default).getD v15.toNat default).fM<0)) || (decide (((a0.getD v9.toNat default).getD v15.toNat default).fM > 1048575))))]) (L:=[((0,0),.one [.isl 1 (a0.map z6) false]),((1,0),.one [i6 (((a0.getD v9.toNat default).getD v15.toNat default).fM),.isl 1 ((((a0.getD v9.toNat default).getD v15.toNat default).fA).map z7) false])]) (n:=2) ?_ ?_
  ·exact qy (M:=[((0,0),(0,0)),((1,0),(1,0))]) rfl (SP rfl (SP rfl (S4 rfl rfl rfl rfl (S2 rfl rfl (AI (VS rfl) TT))))) (AI (AI rfl (OL rfl)) (AI (AI rfl (OL rfl)) TT))
  refine qh (v:=((decide (((a0.getD v9.toNat default).getD v15.toNat default).fM<0)) || (decide (((a0.getD v9.toNat default).getD v15.toNat default).fM > 1048575)))) rfl TT (fun h62=>?_) (fun h62=>?_)
  ·have h:=zj h62 h
   refine SR ?_
   refine Ya ?_
   obtain⟨o,hq,rfl⟩:=p0.1 h
   replace h:=hq;clear hq
   refine AI nofun ?_
   obtain⟨o,hq,rfl⟩:=p0.1 h
   replace h:=hq;clear hq
   refine AI nofun ?_
   cases h
   exact AI TT (AI rfl (VS rfl))
  ·have h:=zm h62 h
   refine qp ?_
   refine SR ?_
   obtain⟨v17,h63,h⟩:=bind_some h
   refine Q4 (k:=3) (m:=1) (L':=[((0,0),.one [.isl 1 (a0.map z6) false])]) (rest:=[((1,0),.one [i6 (((a0.getD v9.toNat default).getD v15.toNat default).fM),.isl 1 ((((a0.getD v9.toNat default).getD v15.toNat default).fA).map z7) false])]) (R':=.bool v17.1) [((1,0),(0,0))] (zsi (show Clo Try.prog (.func 32) [] [.ptr (1,0) 0 0] (fun(s:Unit)=>[((1,0),.one [.isl 1 (a0.map z6) false])]) (fun(x:Int)=>[i6 x]) (fun(b:Bool)=>.bool b) (fun(s:Unit) (x:Int)=>(va m a0 x).map fun o=>(o,())) from Clo.mk' (fun s=>Tl.lit rfl (AI (rfl) TT) rfl) rfl rfl (fun _=>rfl) (fun s x o h=>by obtain⟨o1,h1,rfl⟩:=p0.1 h;exact EX _ (AI (zsl h1) (AI rfl (AI rfl TT))))) h63) rfl rfl rfl (AI (VS rfl) (AI (Vw.fnL TT (SP rfl TT)) TT)) (AI (h0I (0,0) rfl rfl (OL rfl)) TT) (Zd _ rfl) (AI rfl (AI rfl TT)) rfl ?_
   refine qh (v:=v17.1) rfl TT (fun h64=>?_) (fun h64=>?_)
   ·have h:=zj h64 h
    refine SR ?_
    refine Ya ?_
    obtain⟨o,hq,rfl⟩:=p0.1 h
    replace h:=hq;clear hq
    refine AI nofun ?_
    obtain⟨o,hq,rfl⟩:=p0.1 h
    replace h:=hq;clear hq
    refine AI nofun ?_
    cases h
    exact AI TT (AI rfl (VS rfl))
   ·have h:=zm h64 h
    refine qp ?_
    refine Y6 ?_
    cases h
    exact AI rfl (qy (M:=[((0,0),(0,0))]) rfl (SP rfl (S4 rfl rfl rfl rfl (S2 rfl rfl TT))) (AI (AI rfl (OL rfl)) TT))
 ·have h:=zm h60 h
  refine ur ?_
  obtain⟨o,hq,rfl⟩:=p0.1 h
  replace h:=hq;clear hq
  refine AI nofun ?_
  refine p2 ?_ (zq0 h)
  exact qy (M:=[((0,0),(0,0))]) rfl (SP rfl (S2 rfl rfl (AI (VS rfl) TT))) (AI (AI rfl (OL rfl)) TT)
theorem zl3{a0:List (List GR)}{v9:Int}{v15:Int}{m:Option Nat}{o:(Int ⊕ Int)}(h:ut m a0 v9 v15=some o) :
 LWp Try.prog Y5 0 (.loop zoa) (zb 4 (zb 3 (uw Try.prog Y5 0 zhd (yi 0 1 (W9 a0) (Vq a0) (z0v a0) o)))) [(1,.ptr (0,0) 0 0),(26,.isl 1 (a0.map z6) false),(27,i6 ((a0.map z6).length:Int)),(28,i6 v9),(32,.isl 2 ((a0.getD v9.toNat default).map z8) false),(33,i6 (((a0.getD v9.toNat default).map z8).length:Int)),(34,i6 v15)] [((0,0),.one [.isl 1 (a0.map z6) false])] 1:=
 zn (m:=m) (s:=(v15:Int)) (r:=o) (fun(s:Int)=>vb m a0 v9 s) (z67 a0 v9) (zcf a0 v9) (zir a0) (fun s o h=>zkl h) h
theorem zr0{a0:List (List GR)}{m:Option Nat}{o:Int}(h:Zp m=some o) :
 LWp Try.prog Y5 0 zix (zev a0 o) [] [] 0:=by
 unfold Zp at h
 refine SR ?_
 refine Ya ?_
 cases h
 exact AI TT (AI rfl (VS rfl))
theorem zk2{a0:List (List GR)}{v9:Int}{m:Option Nat}{o:Int ⊕ Int}(h:ve m a0 v9=some o) :
 LWp Try.prog Y5 0 zna (yi 0 1 (W9 a0) (Vq a0) (z0v a0) o) [(1,.ptr (0,0) 0 0),(26,.isl 1 (a0.map z6) false),(27,i6 ((a0.map z6).length:Int)),(28,i6 v9)] [((0,0),.one [.isl 1 (a0.map z6) false])] 1:=by
 unfold ve at h
 refine SR ?_
 refine xn ?_
 refine qh (v:=(decide (v9<((a0.map z6).length:Int)))) rfl TT (fun h48=>?_) (fun h48=>?_)
 ·have h:=zj h48 h
  refine qp ?_
  refine xn ?_
  refine zo ?_
  refine SR ?_
  obtain⟨h49,h⟩:=za h
  refine AI h49 ?_
  refine EX (z6 (a0.getD v9.toNat default)) (AI (zc z6 _ _ (yj z6 h49)) (AI (AI (xv h49) (NB rfl)) ?_))
  refine SR ?_
  refine zo ?_
  refine p2 ?_ (zl3 h)
  exact qy (M:=[((0,0),(0,0))]) rfl (SP rfl (S4 rfl rfl rfl rfl (S2 rfl rfl TT))) (AI (AI rfl (OL rfl)) TT)
 ·have h:=zm h48 h
  refine ur ?_
  obtain⟨o,hq,rfl⟩:=p0.1 h
  replace h:=hq;clear hq
  refine AI nofun ?_
  refine p2 ?_ (zr0 h)
  exact qy (M:=[]) rfl TT TT
theorem zku{a0:List (List GR)}{v9:Int}{m:Option Nat}{o:Int}(h:ul m a0 v9=some o) :
 LWp Try.prog Y5 0 (.loop zna) (zb 2 (uw Try.prog Y5 0 zix (zev a0 o))) [(1,.ptr (0,0) 0 0),(26,.isl 1 (a0.map z6) false),(27,i6 ((a0.map z6).length:Int)),(28,i6 v9)] [((0,0),.one [.isl 1 (a0.map z6) false])] 1:=
 zn (m:=m) (s:=(v9:Int)) (r:=o) (fun(s:Int)=>ve m a0 s) (W9 a0) (Vq a0) (z0v a0) (fun s o h=>zk2 h) h
theorem zp6{a0:List (List GR)}{m:Option Nat}{o:Int}(h:Zo m a0=some o) :
 LWp Try.prog Y5 0 zi1 (zev a0 o) [(1,.ptr (0,0) 0 0)] [((0,0),.one [.isl 1 (a0.map z6) false])] 1:=by
 unfold Zo at h
 refine xn ?_
 refine SR ?_
 refine zo ?_
 refine p2 ?_ (zku h)
 exact qy (M:=[((0,0),(0,0))]) rfl (SP rfl (S2 rfl rfl (AI (VS rfl) TT))) (AI (AI rfl (OL rfl)) TT)
theorem zjs{a0:List (List GR)}{v2:Int}{m:Option Nat}{o:Int ⊕ Int}(h:wz m a0 v2=some o) :
 LWp Try.prog Y5 0 zla (yi 0 1 (z6d a0) (zae a0) (zgr a0) o) [(1,.ptr (0,0) 0 0),(12,.isl 1 (a0.map z6) false),(13,i6 ((a0.map z6).length:Int)),(14,i6 v2)] [((0,0),.one [.isl 1 (a0.map z6) false])] 1:=by
 unfold wz at h
 refine SR ?_
 refine xn ?_
 refine qh (v:=(decide (v2<((a0.map z6).length:Int)))) rfl TT (fun h10=>?_) (fun h10=>?_)
 ·have h:=zj h10 h
  refine qp ?_
  refine xn ?_
  refine zo ?_
  refine SR ?_
  obtain⟨h11,h⟩:=za h
  refine AI h11 ?_
  refine EX (z6 (a0.getD v2.toNat default)) (AI (zc z6 _ _ (yj z6 h11)) (AI (AI (xv h11) (NB rfl)) ?_))
  refine SR ?_
  obtain⟨v4,h12,h⟩:=bind_some h
  refine Or.inl (EX (.bool v4.1) (AI (fun hp=>AI hp (ACalls.same rfl (Q4 (k:=3) (m:=1) (L':=[]) (rest:=[((0,0),.one [.isl 1 (a0.map z6) false])]) (R':=.bool v4.1) [] (zsq (show Clo Try.prog (.func 30) [] [] (fun(s:Unit)=>[]) (fun(x:GR)=>[.agg [i6 x.fM,.isl 1 (x.fA.map z7) false]]) (fun(b:Bool)=>.bool b) (fun(s:Unit) (x:GR)=>(vd m x).map fun o=>(o,())) from Clo.mk' (fun s=>Tl.lit rfl TT rfl) rfl rfl (fun _=>rfl) (fun s x o h=>by obtain⟨o1,h1,rfl⟩:=p0.1 h;exact EX _ (AI (ztd h1) TT))) (zj hp h12)) rfl rfl rfl (S2 rfl rfl TT) TT (Zd _ rfl) TT rfl (AI rfl (HeapTo.get (AI (AI rfl (OL rfl)) TT)))))) ?_))
  refine AI (fun hc=>(bqf hc)) ?_
  refine p2 (e:=[(1,.ptr (0,0) 0 0),(12,.isl 1 (a0.map z6) false),(13,i6 ((a0.map z6).length:Int)),(14,i6 v2),(24,.bool ((decide ((((a0.getD v2.toNat default).map z8).length:Int) > 20)) || v4.1))]) (L:=[((0,0),.one [.isl 1 (a0.map z6) false])]) (n:=1) ?_ ?_
  ·exact qy (M:=[((0,0),(0,0))]) rfl (SP rfl (S4 rfl rfl rfl rfl TT)) (AI (AI rfl (OL rfl)) TT)
  refine qh (v:=((decide ((((a0.getD v2.toNat default).map z8).length:Int) > 20)) || v4.1)) rfl TT (fun h13=>?_) (fun h13=>?_)
  ·have h:=zj h13 h
   refine SR ?_
   refine Ya ?_
   obtain⟨o,hq,rfl⟩:=p0.1 h
   replace h:=hq;clear hq
   refine AI nofun ?_
   cases h
   exact AI TT (AI rfl (VS rfl))
  ·have h:=zm h13 h
   refine qp ?_
   refine Y6 ?_
   cases h
   exact AI rfl (qy (M:=[((0,0),(0,0))]) rfl (SP rfl (S2 rfl rfl (AI (VS rfl) TT))) (AI (AI rfl (OL rfl)) TT))
 ·have h:=zm h10 h
  refine ur ?_
  obtain⟨o,hq,rfl⟩:=p0.1 h
  replace h:=hq;clear hq
  refine AI nofun ?_
  refine p2 ?_ (zp6 h)
  exact qy (M:=[((0,0),(0,0))]) rfl (SP rfl TT) (AI (AI rfl (OL rfl)) TT)
theorem zn0{a0:List (List GR)}{v2:Int}{m:Option Nat}{o:Int}(h:ux m a0 v2=some o) :
 LWp Try.prog Y5 0 (.loop zla) (zb 0 (uw Try.prog Y5 0 zi1 (zev a0 o))) [(1,.ptr (0,0) 0 0),(12,.isl 1 (a0.map z6) false),(13,i6 ((a0.map z6).length:Int)),(14,i6 v2)] [((0,0),.one [.isl 1 (a0.map z6) false])] 1:=
 zn (m:=m) (s:=(v2:Int)) (r:=o) (fun(s:Int)=>wz m a0 s) (z6d a0) (zae a0) (zgr a0) (fun s o h=>zjs h) h
def kl(m:Option Nat)(a0:List (List GR)):Option Int:=
 if(decide (((a0.map z6).length:Int) > 60))=true then
  some 2
 else
  ux m a0 0
theorem zoe{a0:List (List GR)}{m:Option Nat}{o:Int}(h:kl m a0=some o):LWp Try.prog Y5 0 zv9 (zev a0 o) (qe 0 [.isl 1 (a0.map z6) false]) [] 0:=by
 unfold kl at h
 refine SR ?_
 refine xn ?_
 refine SR ?_
 refine qh (v:=(decide (((a0.map z6).length:Int) > 60))) rfl TT (fun h1=>?_) (fun h1=>?_)
 ·have h:=zj h1 h
  refine SR ?_
  refine Ya ?_
  cases h
  exact AI TT (AI rfl (VS rfl))
 ·have h:=zm h1 h
  refine qp ?_
  refine xn ?_
  refine SR ?_
  refine p2 (e:=[(1,.ptr (0,0) 0 0),(12,.isl 1 (a0.map z6) false),(13,i6 ((a0.map z6).length:Int)),(14,i6 0)]) (L:=[((0,0),.one [.isl 1 (a0.map z6) false])]) (n:=1) ?_ ?_
  ·exact qy (M:=[((0,0),(0,0))]) rfl (SP rfl (S2 rfl rfl (AI (VS rfl) TT))) (AI (AI rfl (OL rfl)) TT)
  refine zo ?_
  refine p2 ?_ (zn0 h)
  exact qy (M:=[((0,0),(0,0))]) rfl (SP rfl (S2 rfl rfl (AI (VS rfl) TT))) (AI (AI rfl (OL rfl)) TT)
theorem zr8{a0:List (List GR)}{m:Option Nat}{o:Int}(h:kl m a0=some o):PFn Try.prog 21 [.isl 1 (a0.map z6) false] (i6 o):=pA (L:=zyz) zxe zx4 (NB rfl) rfl (zoe h)
def z6u:LCode:=(.seq (.region [Qo 10 (.bin .lss (.t 9) (.t 8))])
 (.seq (.cond (.t 10)
  .skip
  (.exit 0))
 (.seq (.block 1
  (.seq (.region [Qm 11 9,
   Qm 4 11])
  (.region [Qm 12 3,
   Qm 13 4,
   Qm 14 4,
   Qo 15 (.iaddr 1 (.t 12) (.t 13)),
   ⟨none,.store 1 (.t 15) (.t 14),none⟩])))
 (.region [Qo 16 (.bin .add (.t 9) (.c (i6 1))),
  Qm 9 16]))))
def z37:LCode:=(.seq (.region [Qm 17 3,
 Qm 2 17])
 .ret)
def zgw:LCode:=(.seq (.region [Qo 2 (.mv (.c (.val (.slice none 0 0))))])
 (.seq (.region [Qm 5 0,
  Qo 6 (.mkslice false 1 8 [(i6 0)] (.t 5) (.t 5)),
  Qm 3 6])
 (.seq (.seq (.region [Qm 7 3,
  Qo 8 (.len false (.t 7)),
  Qi 9 0])
 (.block 0
  (.loop
   z6u)))
 z37)))
def Jc:Lay:=⟨18,[6],false⟩
def zd1:List LRes:=[.t 2]
def zn7:LFn:=⟨1,Jc,zgw,zd1⟩
theorem zqc:Zb Try.prog [6] 25=some zn7:=by kernel_rfl
theorem zq3:Xk Try.prog 25:=⟨_,Try.func25,rfl,rfl⟩
def z79(a0:Int)(o:(List Int)):Exit→Env→AHeap→Nat→Prop:=W4 zd1 (Yy 3 4 (.msl (3,0) 1 0 o.length true) [((3,0),.rows 1 (o.map z7))])
def z20(a0:Int)(s:(Int×(List Int))):Env:=[(3,.msl (3,0) 1 0 s.2.length true),(8,i6 ((((p4 a0.toNat (0:Int)).map z7).length:Nat):Int)),(9,i6 s.1)]
def z4l(a0:Int)(s:(Int×(List Int))):AHeap:=[((3,0),.rows 1 (s.2.map z7))]
def z6b(a0:Int)(o:(List Int)):Exit→Env→AHeap→Nat→Prop:=(zb 0 (uw Try.prog Jc 3 z37 (z79 a0 o)))
def Z9(m:Option Nat)(v2:List Int):Option (List Int):=
 some v2
def vj(m:Option Nat)(a0:Int)(v1:Int)(v2:List Int):Option ((Int×(List Int)) ⊕ (List Int)):=
 if(decide (v1<((((p4 a0.toNat (0:Int)).map z7).length:Nat):Int)))=true then
  if(0:Int)≤v1∧v1<((v2.length:Nat):Int) then
  if(0+v1.toNat)<v2.length then
  some (.inl ((W (v1+1)),(v2.set (0+v1.toNat) v1)))
  else none
  else none
 else
  p6 p7 (
   Z9 m v2)
def u9(m:Option Nat)(a0:Int)(v1:Int)(v2:List Int):Option (List Int):=kw m (fun(s:(Int×(List Int)))=>vj m a0 s.1 s.2) (v1,v2)
theorem zf0{a0:Int}{v2:List Int}{m:Option Nat}{o:(List Int)}(h:Z9 m v2=some o) :
 LWp Try.prog Jc 3 z37 (z79 a0 o) [(3,.msl (3,0) 1 0 v2.length true)] [((3,0),.rows 1 (v2.map z7))] 4:=by
 unfold Z9 at h
 refine SR ?_
 refine Ya ?_
 cases h
 exact AI TT (z1f (n':=4) [((3,0),(3,0))] [] rfl rfl (p1 rfl (by first|rfl|omega|(simp;done)|(simp at *;omega)) rfl) (AI (AI rfl (p3 z7 (fun _=>rfl) _ v2)) TT))
theorem zdg{a0:Int}{v1:Int}{v2:List Int}{m:Option Nat}{o:(Int×(List Int)) ⊕ (List Int)}(h:vj m a0 v1 v2=some o) :
 LWp Try.prog Jc 3 z6u (yi 3 4 (z20 a0) (z4l a0) (z6b a0) o) [(3,.msl (3,0) 1 0 v2.length true),(8,i6 ((((p4 a0.toNat (0:Int)).map z7).length:Nat):Int)),(9,i6 v1)] [((3,0),.rows 1 (v2.map z7))] 4:=by
 unfold vj at h
 refine SR ?_
 refine xn ?_
 refine qh (v:=(decide (v1<((((p4 a0.toNat (0:Int)).map z7).length:Nat):Int)))) rfl TT (fun h8=>?_) (fun h8=>?_)
 ·have h:=zj h8 h
  refine qp ?_
  refine xn ?_
  refine zo ?_
  refine SR ?_
  refine Y6 ?_
  obtain⟨h9,h⟩:=za h
  refine AI h9 ?_
  obtain⟨h10,h⟩:=za h
  refine EX ((v2.set (0+v1.toNat) v1).map z7) (AI (Kg z7 _ _ _ _ _ h10 rfl) (AI (AI rfl (AI (kv z7 h10) (NB rfl))) ?_))
  refine p2 (e:=[(3,.msl (3,0) 1 0 v2.length true),(8,i6 ((((p4 a0.toNat (0:Int)).map z7).length:Nat):Int)),(9,i6 v1)]) (L:=[((3,0),.rows 1 ((v2.set (0+v1.toNat) v1).map z7))]) (n:=4) ?_ ?_
  ·exact qy (M:=[((3,0),(3,0))]) rfl (AI (p1 rfl (by first|rfl|omega|(simp;done)|(simp at *;omega)) rfl) (S2 rfl rfl TT)) (AI (AI rfl (p3 z7 (fun _=>rfl) _ (v2.set (0+v1.toNat) v1))) TT)
  refine Y6 ?_
  cases h
  exact AI rfl (qy (M:=[((3,0),(3,0))]) rfl (AI (p1 rfl (by first|rfl|omega|(simp;done)|(simp at *;omega)) rfl) (S2 rfl rfl TT)) (AI (AI rfl (p3 z7 (fun _=>rfl) _ (v2.set (0+v1.toNat) v1))) TT))
 ·have h:=zm h8 h
  refine ur ?_
  obtain⟨o,hq,rfl⟩:=p0.1 h
  replace h:=hq;clear hq
  refine AI nofun ?_
  refine p2 ?_ (zf0 h)
  exact qy (M:=[((3,0),(3,0))]) rfl (AI (p1 rfl (by first|rfl|omega|(simp;done)|(simp at *;omega)) rfl) TT) (AI (AI rfl (p3 z7 (fun _=>rfl) _ v2)) TT)
theorem zg1{a0:Int}{v1:Int}{v2:List Int}{m:Option Nat}{o:(List Int)}(h:u9 m a0 v1 v2=some o) :
 LWp Try.prog Jc 3 (.loop z6u) (zb 0 (uw Try.prog Jc 3 z37 (z79 a0 o))) [(3,.msl (3,0) 1 0 v2.length true),(8,i6 ((((p4 a0.toNat (0:Int)).map z7).length:Nat):Int)),(9,i6 v1)] [((3,0),.rows 1 (v2.map z7))] 4:=
 zn (m:=m) (s:=((v1,v2):(Int×(List Int)))) (r:=o) (fun(s:(Int×(List Int)))=>vj m a0 s.1 s.2) (z20 a0) (z4l a0) (z6b a0) (fun s o h=>zdg h) h
def vz(m:Option Nat)(a0:Int):Option (List Int):=
 if(0:Int)≤a0∧a0≤a0∧a0*8≤140737488355328 then
 u9 m a0 0 (p4 a0.toNat (0:Int))
 else none
theorem zeu{a0:Int}{m:Option Nat}{o:(List Int)}(h:vz m a0=some o):LWp Try.prog Jc 3 zgw (z79 a0 o) (qe 0 [i6 a0]) [] 3:=by
 unfold vz at h
 refine xn ?_
 refine LWp.ghost 1 ?_
 refine Y6 ?_
 refine p2 (e:=[(0,i6 a0)]) (L:=[]) (n:=3) ?_ ?_
 ·exact qy (M:=[]) rfl (AI (VS rfl) TT) TT
 refine SR ?_
 obtain⟨h1,h⟩:=za h
 refine EX ((p4 a0.toNat (0:Int)).map z7) (EX true (AI (Or.inl (V7 z7 a0.toNat 0)) (AI (by simp) (AI h1 ?_))))
 refine xn ?_
 refine SR ?_
 refine zo ?_
 refine p2 ?_ (zg1 h)
 exact qy (M:=[((3,0),(3,0))]) rfl (AI (p1 rfl (by first|rfl|omega|(simp;done)|(simp at *;omega)) rfl) (S2 rfl rfl TT)) (AI (AI rfl (p3 z7 (fun _=>rfl) _ (p4 a0.toNat (0:Int)))) TT)
theorem zii{a0:Int}{m:Option Nat}{o:(List Int)}(h:vz m a0=some o):ACalls Try.prog 25 [i6 a0] [] 3 (Ze 4 (.msl (3,0) 1 0 o.length true) [((3,0),.rows 1 (o.map z7))]):=Zr (L:=zn7) zqc zq3 (NB rfl) (zeu h)
def zln:LCode:=(.seq (.region [Qo 9 (.bin .lss (.t 8) (.t 7))])
 (.seq (.cond (.t 9)
  .skip
  (.exit 0))
 (.seq (.block 1
  (.seq (.region [Qm 10 8,
   Qm 5 10])
  (.seq (.region [Qm 11 1,
   Qm 12 0,
   Qm 13 5,
   Qo 14 (.iaddr 1 (.t 12) (.t 13)),
   Ql 15 1 14,
   Qo 16 (.bin .eql (.t 11) (.t 15))])
  (.cond (.t 16)
   (.seq (.region [Qm 17 5,
    Qm 4 17])
   .ret)
   .skip))))
 (.region [Qo 18 (.bin .add (.t 8) (.c (i6 1))),
  Qm 8 18]))))
def zhi:LCode:=(.seq (.region [Qo 4 (.mv (.c (i6 (-1))))])
 .ret)
def zvk:LCode:=(.seq (.region [Qi 4 0])
 (.seq (.seq (.region [Qm 6 0,
  Qo 7 (.len false (.t 6)),
  Qi 8 0])
 (.block 0
  (.loop
   zln)))
 zhi))
def Uw:Lay:=⟨19,[],false⟩
def znm:List LRes:=[.t 4]
def zzh:LFn:=⟨2,Uw,zvk,znm⟩
theorem zx0:Zb Try.prog [] 36=some zzh:=by kernel_rfl
theorem zxl:Xk Try.prog 36:=⟨_,Try.func36,rfl,rfl⟩
def zsg(a0:List Int)(a1:Int)(o:Int):Exit→Env→AHeap→Nat→Prop:=W4 znm (Yd (i6 o))
def z5p(a0:List Int)(a1:Int)(s:Int):Env:=[(0,.isl 1 (a0.map z7) false),(1,i6 a1),(7,i6 ((a0.map z7).length:Int)),(8,i6 s)]
def za1(a0:List Int)(a1:Int)(s:Int):AHeap:=[]
def zgv(a0:List Int)(a1:Int)(o:Int):Exit→Env→AHeap→Nat→Prop:=(zb 0 (uw Try.prog Uw 0 zhi (zsg a0 a1 o)))
def Y3(m:Option Nat):Option Int:=
 some (-1)
def jw(m:Option Nat)(a0:List Int)(a1:Int)(v1:Int):Option (Int ⊕ Int):=
 if(decide (v1<((a0.map z7).length:Int)))=true then
  if(0:Int)≤v1∧v1<((a0.map z7).length:Int) then
  if(a1==(a0.getD v1.toNat default))=true then
   p6 p7 (
    some v1)
  else
   some (.inl (W (v1+1)))
  else none
 else
  p6 p7 (
   Y3 m)
def u7(m:Option Nat)(a0:List Int)(a1:Int)(v1:Int):Option Int:=kw m (fun(s:Int)=>jw m a0 a1 s) v1
theorem zm9{a0:List Int}{a1:Int}{m:Option Nat}{o:Int}(h:Y3 m=some o) :
 LWp Try.prog Uw 0 zhi (zsg a0 a1 o) [] [] 0:=by
 unfold Y3 at h
 refine SR ?_
 refine Ya ?_
 cases h
 exact AI TT (AI rfl (VS rfl))
theorem zkj{a0:List Int}{a1:Int}{v1:Int}{m:Option Nat}{o:Int ⊕ Int}(h:jw m a0 a1 v1=some o) :
 LWp Try.prog Uw 0 zln (yi 0 0 (z5p a0 a1) (za1 a0 a1) (zgv a0 a1) o) [(0,.isl 1 (a0.map z7) false),(1,i6 a1),(7,i6 ((a0.map z7).length:Int)),(8,i6 v1)] [] 0:=by
 unfold jw at h
 refine SR ?_
 refine xn ?_
 refine qh (v:=(decide (v1<((a0.map z7).length:Int)))) rfl TT (fun h7=>?_) (fun h7=>?_)
 ·have h:=zj h7 h
  refine qp ?_
  refine xn ?_
  refine zo ?_
  refine SR ?_
  refine SR ?_
  obtain⟨h8,h⟩:=za h
  refine AI h8 ?_
  refine EX (z7 (a0.getD v1.toNat default)) (AI (zc z7 _ _ (yj z7 h8)) (AI (AI (xv h8) (NB rfl)) ?_))
  refine p2 (e:=[(0,.isl 1 (a0.map z7) false),(1,i6 a1),(5,i6 v1),(7,i6 ((a0.map z7).length:Int)),(8,i6 v1),(16,.bool (a1==(a0.getD v1.toNat default)))]) (L:=[]) (n:=0) ?_ ?_
  ·exact qy (M:=[]) rfl (S4 rfl rfl rfl rfl (S2 rfl rfl TT)) TT
  refine qh (v:=(a1==(a0.getD v1.toNat default))) rfl TT (fun h9=>?_) (fun h9=>?_)
  ·have h:=zj h9 h
   refine SR ?_
   refine Ya ?_
   obtain⟨o,hq,rfl⟩:=p0.1 h
   replace h:=hq;clear hq
   refine AI nofun ?_
   cases h
   exact AI TT (AI rfl (VS rfl))
  ·have h:=zm h9 h
   refine qp ?_
   refine Y6 ?_
   cases h
   exact AI rfl (qy (M:=[]) rfl (S4 rfl rfl rfl rfl TT) TT)
 ·have h:=zm h7 h
  refine ur ?_
  obtain⟨o,hq,rfl⟩:=p0.1 h
  replace h:=hq;clear hq
  refine AI nofun ?_
  refine p2 ?_ (zm9 h)
  exact qy (M:=[]) rfl TT TT
theorem zm1{a0:List Int}{a1:Int}{v1:Int}{m:Option Nat}{o:Int}(h:u7 m a0 a1 v1=some o) :
 LWp Try.prog Uw 0 (.loop zln) (zb 0 (uw Try.prog Uw 0 zhi (zsg a0 a1 o))) [(0,.isl 1 (a0.map z7) false),(1,i6 a1),(7,i6 ((a0.map z7).length:Int)),(8,i6 v1)] [] 0:=
 zn (m:=m) (s:=(v1:Int)) (r:=o) (fun(s:Int)=>jw m a0 a1 s) (z5p a0 a1) (za1 a0 a1) (zgv a0 a1) (fun s o h=>zkj h) h
def Z3(m:Option Nat)(a0:List Int)(a1:Int):Option Int:=
 u7 m a0 a1 0
theorem zlw{a0:List Int}{a1:Int}{m:Option Nat}{o:Int}(h:Z3 m a0 a1=some o):LWp Try.prog Uw 0 zvk (zsg a0 a1 o) (qe 0 [.isl 1 (a0.map z7) false,i6 a1]) [] 0:=by
 unfold Z3 at h
 refine SR ?_
 refine xn ?_
 refine SR ?_
 refine zo ?_
 refine p2 ?_ (zm1 h)
 exact qy (M:=[]) rfl (S4 rfl rfl rfl rfl TT) TT
theorem zzl{a0:List Int}{a1:Int}{m:Option Nat}{o:Int}(h:Z3 m a0 a1=some o):PFn Try.prog 36 [.isl 1 (a0.map z7) false,i6 a1] (i6 o):=pA (L:=zzh) zx0 zxl (NB rfl) rfl (zlw h)
def zvs:LCode:=(.seq (.region [Qb 4])
 (.seq (.region [Qm 5 0,
  Qm 6 1,
  Qo 7 (.call 36 [(.t 5),(.t 6)]),
  Qo 8 (.bin .geq (.t 7) (.c (i6 0))),
  Qm 4 8])
 .ret))
def zm4:Lay:=⟨9,[],false⟩
def zo3:List LRes:=[.t 4]
def y0k:LFn:=⟨2,zm4,zvs,zo3⟩
theorem zxw:Zb Try.prog [] 33=some y0k:=by kernel_rfl
theorem zxt:Xk Try.prog 33:=⟨_,Try.func33,rfl,rfl⟩
def jv(m:Option Nat)(a0:List Int)(a1:Int):Option Bool:=
 (Z3 m a0 a1).bind fun v1=>
 some (decide (v1≥0))
def y0y(a0:List Int)(a1:Int)(o:Bool):Exit→Env→AHeap→Nat→Prop:=W4 zo3 (Yd (.bool o))
theorem zmz{a0:List Int}{a1:Int}{m:Option Nat}{o:Bool}(h:jv m a0 a1=some o):LWp Try.prog zm4 0 zvs (y0y a0 a1 o) (qe 0 [.isl 1 (a0.map z7) false,i6 a1]) [] 0:=by
 unfold jv at h
 refine SR ?_
 refine SR ?_
 obtain⟨v1,h1,h⟩:=bind_some h
 refine PFn.call (zzl h1) (S2 rfl rfl TT) ?_
 refine Ya ?_
 cases h
 exact AI TT (AI rfl (VS rfl))
theorem zvo{a0:List Int}{a1:Int}{m:Option Nat}{o:Bool}(h:jv m a0 a1=some o):PFn Try.prog 33 [.isl 1 (a0.map z7) false,i6 a1] (.bool o):=pA (L:=y0k) zxw zxt (NB rfl) rfl (zmz h)
def zm2:LCode:=(.seq (.region [Qo 14 (.bin .lss (.t 13) (.t 12))])
 (.seq (.cond (.t 14)
  .skip
  (.exit 0))
 (.seq (.block 1
  (.seq (.region [Qo 15 (.iaddr 1 (.t 11) (.t 13)),
   Ql 16 1 15,
   Qm 7 16])
  (.region [Qm 17 5,
   Qm 18 1,
   Qm 19 7,
   Qo 20 (.iaddr 1 (.t 18) (.t 19)),
   Ql 21 1 20,
   Qo 22 (.bin .and (.t 17) (.t 21)),
   Qm 5 22])))
 (.region [Qo 23 (.bin .add (.t 13) (.c (i6 1))),
  Qm 13 23]))))
def zid:LCode:=(.seq (.region [Qm 24 5,
 Qm 4 24])
 .ret)
def zvd:LCode:=(.seq (.region [Qo 2 (.box (.t 0)),
 Qi 4 0])
 (.seq (.region [Qf 8 0 2,
  Ql 9 1 8,
  Qm 5 9])
 (.seq (.seq (.region [Qf 10 1 2,
  Ql 11 1 10,
  Qo 12 (.len false (.t 11)),
  Qi 13 0])
 (.block 0
  (.loop
   zm2)))
 zid)))
def Uq:Lay:=⟨25,[],false⟩
def zrm:List LRes:=[.t 4]
def zza:LFn:=⟨2,Uq,zvd,zrm⟩
theorem zxx:Zb Try.prog [] 23=some zza:=by kernel_rfl
theorem zx8:Xk Try.prog 23:=⟨_,Try.func23,rfl,rfl⟩
def zty(a0:GR)(a1:List Int)(o:Int):Exit→Env→AHeap→Nat→Prop:=W4 zrm (Yd (i6 o))
def z5j(a0:GR)(a1:List Int)(s:(Int×Int)):Env:=[(1,.isl 1 (a1.map z7) false),(5,i6 s.1),(11,.isl 1 (a0.fA.map z7) false),(12,i6 ((a0.fA.map z7).length:Int)),(13,i6 s.2)]
def zb5(a0:GR)(a1:List Int)(s:(Int×Int)):AHeap:=[]
def zg9(a0:GR)(a1:List Int)(o:Int):Exit→Env→AHeap→Nat→Prop:=(zb 0 (uw Try.prog Uq 0 zid (zty a0 a1 o)))
def Zf(m:Option Nat)(v1:Int):Option Int:=
 some v1
def kg(m:Option Nat)(a0:GR)(a1:List Int)(v1:Int)(v2:Int):Option ((Int×Int) ⊕ Int):=
 if(decide (v2<((a0.fA.map z7).length:Int)))=true then
  if(0:Int)≤v2∧v2<((a0.fA.map z7).length:Int) then
  if(0:Int)≤(a0.fA.getD v2.toNat default)∧(a0.fA.getD v2.toNat default)<((a1.map z7).length:Int) then
  some (.inl ((y6 .and .i64 v1 (a1.getD ((a0.fA.getD v2.toNat default).toNat) default)),(W (v2+1))))
  else none
  else none
 else
  p6 p7 (
   Zf m v1)
def uf(m:Option Nat)(a0:GR)(a1:List Int)(v1:Int)(v2:Int):Option Int:=kw m (fun(s:(Int×Int))=>kg m a0 a1 s.1 s.2) (v1,v2)
theorem zqr{a0:GR}{a1:List Int}{v1:Int}{m:Option Nat}{o:Int}(h:Zf m v1=some o) :
 LWp Try.prog Uq 0 zid (zty a0 a1 o) [(5,i6 v1)] [] 0:=by
 unfold Zf at h
 refine SR ?_
 refine Ya ?_
 cases h
 exact AI TT (AI rfl (VS rfl))
theorem zjf{a0:GR}{a1:List Int}{v1:Int}{v2:Int}{m:Option Nat}{o:(Int×Int) ⊕ Int}(h:kg m a0 a1 v1 v2=some o) :
 LWp Try.prog Uq 0 zm2 (yi 0 0 (z5j a0 a1) (zb5 a0 a1) (zg9 a0 a1) o) [(1,.isl 1 (a1.map z7) false),(5,i6 v1),(11,.isl 1 (a0.fA.map z7) false),(12,i6 ((a0.fA.map z7).length:Int)),(13,i6 v2)] [] 0:=by
 unfold kg at h
 refine SR ?_
 refine xn ?_
 refine qh (v:=(decide (v2<((a0.fA.map z7).length:Int)))) rfl TT (fun h7=>?_) (fun h7=>?_)
 ·have h:=zj h7 h
  refine qp ?_
  refine xn ?_
  refine zo ?_
  refine SR ?_
  obtain⟨h8,h⟩:=za h
  refine AI h8 ?_
  refine EX (z7 (a0.fA.getD v2.toNat default)) (AI (zc z7 _ _ (yj z7 h8)) (AI (AI (xv h8) (NB rfl)) ?_))
  refine Y6 ?_
  obtain⟨h9,h⟩:=za h
  refine AI h9 ?_
  refine EX (z7 (a1.getD ((a0.fA.getD v2.toNat default).toNat) default)) (AI (zc z7 _ _ (yj z7 h9)) (AI (AI (xv h9) (NB rfl)) ?_))
  refine p2 (e:=[(1,.isl 1 (a1.map z7) false),(5,i6 (y6 .and .i64 v1 (a1.getD ((a0.fA.getD v2.toNat default).toNat) default))),(11,.isl 1 (a0.fA.map z7) false),(12,i6 ((a0.fA.map z7).length:Int)),(13,i6 v2)]) (L:=[]) (n:=0) ?_ ?_
  ·exact qy (M:=[]) rfl (S4 rfl rfl rfl rfl (AI (VS rfl) TT)) TT
  refine Y6 ?_
  cases h
  exact AI rfl (qy (M:=[]) rfl (S4 rfl rfl rfl rfl (AI (VS rfl) TT)) TT)
 ·have h:=zm h7 h
  refine ur ?_
  obtain⟨o,hq,rfl⟩:=p0.1 h
  replace h:=hq;clear hq
  refine AI nofun ?_
  refine p2 ?_ (zqr h)
  exact qy (M:=[]) rfl (AI (VS rfl) TT) TT
theorem zny{a0:GR}{a1:List Int}{v1:Int}{v2:Int}{m:Option Nat}{o:Int}(h:uf m a0 a1 v1 v2=some o) :
 LWp Try.prog Uq 0 (.loop zm2) (zb 0 (uw Try.prog Uq 0 zid (zty a0 a1 o))) [(1,.isl 1 (a1.map z7) false),(5,i6 v1),(11,.isl 1 (a0.fA.map z7) false),(12,i6 ((a0.fA.map z7).length:Int)),(13,i6 v2)] [] 0:=
 zn (m:=m) (s:=((v1,v2):(Int×Int))) (r:=o) (fun(s:(Int×Int))=>kg m a0 a1 s.1 s.2) (z5j a0 a1) (zb5 a0 a1) (zg9 a0 a1) (fun s o h=>zjf h) h
def vo(m:Option Nat)(a0:GR)(a1:List Int):Option Int:=
 uf m a0 a1 a0.fM 0
theorem zq7{a0:GR}{a1:List Int}{m:Option Nat}{o:Int}(h:vo m a0 a1=some o):LWp Try.prog Uq 0 zvd (zty a0 a1 o) (qe 0 [.agg [i6 a0.fM,.isl 1 (a0.fA.map z7) false],.isl 1 (a1.map z7) false]) [] 0:=by
 unfold vo at h
 refine SR ?_
 refine SR ?_
 refine xn ?_
 refine SR ?_
 refine p2 (e:=[(1,.isl 1 (a1.map z7) false),(5,i6 a0.fM),(11,.isl 1 (a0.fA.map z7) false),(12,i6 ((a0.fA.map z7).length:Int)),(13,i6 0)]) (L:=[]) (n:=0) ?_ ?_
 ·exact qy (M:=[]) rfl (S4 rfl rfl rfl rfl (AI (VS rfl) TT)) TT
 refine zo ?_
 refine p2 ?_ (zny h)
 exact qy (M:=[]) rfl (S4 rfl rfl rfl rfl (AI (VS rfl) TT)) TT
theorem zp4{a0:GR}{a1:List Int}{m:Option Nat}{o:Int}(h:vo m a0 a1=some o):PFn Try.prog 23 [.agg [i6 a0.fM,.isl 1 (a0.fA.map z7) false],.isl 1 (a1.map z7) false] (i6 o):=pA (L:=zza) zxx zx8 (NB rfl) rfl (zq7 h)
def zpj:LCode:=(.seq (.region [Qo 11 (.bin .lss (.t 10) (.t 9))])
 (.seq (.cond (.t 11)
  .skip
  (.exit 0))
 (.seq (.block 1
  (.seq (.region [Qo 12 (.iaddr 2 (.t 8) (.t 10)),
   Qt 13 2 12,
   Qo 7 (.alloc [(i6 0),(.isl 1 [] true)]),
   ⟨none,.store 2 (.t 7) (.t 13),none⟩])
  (.region [Qm 14 5,
   Qt 15 2 7,
   Qm 16 1,
   Qo 17 (.call 23 [(.t 15),(.t 16)]),
   Qo 18 (.bin .or (.t 14) (.t 17)),
   Qm 5 18])))
 (.region [Qo 19 (.bin .add (.t 10) (.c (i6 1))),
  Qm 10 19]))))
def zj7:LCode:=(.seq (.region [Qm 20 5,
 Qm 4 20])
 .ret)
def zut:LCode:=(.seq (.region [Qi 4 0])
 (.seq (.region [Qi 5 0])
 (.seq (.seq (.region [Qm 8 0,
  Qo 9 (.len false (.t 8)),
  Qi 10 0])
 (.block 0
  (.loop
   zpj)))
 zj7)))
def Ux:Lay:=⟨21,[],false⟩
def zrh:List LRes:=[.t 4]
def zzu:LFn:=⟨2,Ux,zut,zrh⟩
theorem zwf:Zb Try.prog [] 27=some zzu:=by kernel_rfl
theorem zx6:Xk Try.prog 27:=⟨_,Try.func27,rfl,rfl⟩
def zsc(a0:List GR)(a1:List Int)(o:Int):Exit→Env→AHeap→Nat→Prop:=W4 zrh (Yd (i6 o))
def z6p(a0:List GR)(a1:List Int)(s:(Int×Int)):Env:=[(1,.isl 1 (a1.map z7) false),(5,i6 s.1),(8,.isl 2 (a0.map z8) false),(9,i6 ((a0.map z8).length:Int)),(10,i6 s.2)]
def zd0(a0:List GR)(a1:List Int)(s:(Int×Int)):AHeap:=[]
def zhr(a0:List GR)(a1:List Int)(o:Int):Exit→Env→AHeap→Nat→Prop:=(zb 0 (uw Try.prog Ux 0 zj7 (zsc a0 a1 o)))
def uj(m:Option Nat)(v2:Int):Option Int:=
 some v2
def w6(m:Option Nat)(a0:List GR)(a1:List Int)(v2:Int)(v3:Int):Option ((Int×Int) ⊕ Int):=
 if(decide (v3<((a0.map z8).length:Int)))=true then
  if(0:Int)≤v3∧v3<((a0.map z8).length:Int) then
  (vo m (GR.mk ((a0.getD v3.toNat default).fM) ((a0.getD v3.toNat default).fA)) a1).bind fun v5=>
  some (.inl ((y6 .or .i64 v2 v5),(W (v3+1))))
  else none
 else
  p6 p7 (
   uj m v2)
def k7(m:Option Nat)(a0:List GR)(a1:List Int)(v2:Int)(v3:Int):Option Int:=kw m (fun(s:(Int×Int))=>w6 m a0 a1 s.1 s.2) (v2,v3)
theorem zlt{a0:List GR}{a1:List Int}{v2:Int}{m:Option Nat}{o:Int}(h:uj m v2=some o) :
 LWp Try.prog Ux 0 zj7 (zsc a0 a1 o) [(5,i6 v2)] [] 0:=by
 unfold uj at h
 refine SR ?_
 refine Ya ?_
 cases h
 exact AI TT (AI rfl (VS rfl))
theorem zk7{a0:List GR}{a1:List Int}{v2:Int}{v3:Int}{m:Option Nat}{o:(Int×Int) ⊕ Int}(h:w6 m a0 a1 v2 v3=some o) :
 LWp Try.prog Ux 0 zpj (yi 0 0 (z6p a0 a1) (zd0 a0 a1) (zhr a0 a1) o) [(1,.isl 1 (a1.map z7) false),(5,i6 v2),(8,.isl 2 (a0.map z8) false),(9,i6 ((a0.map z8).length:Int)),(10,i6 v3)] [] 0:=by
 unfold w6 at h
 refine SR ?_
 refine xn ?_
 refine qh (v:=(decide (v3<((a0.map z8).length:Int)))) rfl TT (fun h7=>?_) (fun h7=>?_)
 ·have h:=zj h7 h
  refine qp ?_
  refine xn ?_
  refine zo ?_
  refine SR ?_
  obtain⟨h8,h⟩:=za h
  refine AI h8 ?_
  refine EX (z8 (a0.getD v3.toNat default)) (AI (zc z8 _ _ (yj z8 h8)) (AI (AI (xv h8) (NB rfl)) ?_))
  refine Y6 ?_
  obtain⟨v5,h9,h⟩:=bind_some h
  refine PFn.call (zp4 h9) (S2 rfl rfl TT) ?_
  refine p2 (e:=[(1,.isl 1 (a1.map z7) false),(5,i6 (y6 .or .i64 v2 v5)),(8,.isl 2 (a0.map z8) false),(9,i6 ((a0.map z8).length:Int)),(10,i6 v3)]) (L:=[]) (n:=0) ?_ ?_
  ·exact qy (M:=[]) rfl (S4 rfl rfl rfl rfl (AI (VS rfl) TT)) TT
  refine Y6 ?_
  cases h
  exact AI rfl (qy (M:=[]) rfl (S4 rfl rfl rfl rfl (AI (VS rfl) TT)) TT)
 ·have h:=zm h7 h
  refine ur ?_
  obtain⟨o,hq,rfl⟩:=p0.1 h
  replace h:=hq;clear hq
  refine AI nofun ?_
  refine p2 ?_ (zlt h)
  exact qy (M:=[]) rfl (AI (VS rfl) TT) TT
theorem zrf{a0:List GR}{a1:List Int}{v2:Int}{v3:Int}{m:Option Nat}{o:Int}(h:k7 m a0 a1 v2 v3=some o) :
 LWp Try.prog Ux 0 (.loop zpj) (zb 0 (uw Try.prog Ux 0 zj7 (zsc a0 a1 o))) [(1,.isl 1 (a1.map z7) false),(5,i6 v2),(8,.isl 2 (a0.map z8) false),(9,i6 ((a0.map z8).length:Int)),(10,i6 v3)] [] 0:=
 zn (m:=m) (s:=((v2,v3):(Int×Int))) (r:=o) (fun(s:(Int×Int))=>w6 m a0 a1 s.1 s.2) (z6p a0 a1) (zd0 a0 a1) (zhr a0 a1) (fun s o h=>zk7 h) h
def jl(m:Option Nat)(a0:List GR)(a1:List Int):Option Int:=
 k7 m a0 a1 0 0
theorem zlv{a0:List GR}{a1:List Int}{m:Option Nat}{o:Int}(h:jl m a0 a1=some o):LWp Try.prog Ux 0 zut (zsc a0 a1 o) (qe 0 [.isl 2 (a0.map z8) false,.isl 1 (a1.map z7) false]) [] 0:=by
 unfold jl at h
 refine SR ?_
 refine SR ?_
 refine xn ?_
 refine SR ?_
 refine zo ?_
 refine p2 ?_ (zrf h)
 exact qy (M:=[]) rfl (S4 rfl rfl rfl rfl (AI (VS rfl) TT)) TT
theorem zne{a0:List GR}{a1:List Int}{m:Option Nat}{o:Int}(h:jl m a0 a1=some o):PFn Try.prog 27 [.isl 2 (a0.map z8) false,.isl 1 (a1.map z7) false] (i6 o):=pA (L:=zzu) zwf zx6 (NB rfl) rfl (zlv h)
def z96:LCode:=(.seq (.region [Qo 9 (.bin .lss (.t 8) (.t 7))])
 (.seq (.cond (.t 9)
  .skip
  (.exit 0))
 (.seq (.block 1
  (.seq (.region [Qm 10 8,
   Qm 5 10])
  (.seq (.region [Qm 11 1,
   Qm 12 0,
   Qm 13 5,
   Qo 14 (.iaddr 1 (.t 12) (.t 13)),
   Ql 15 1 14,
   Qo 16 (.bin .eql (.t 11) (.t 15))])
  (.cond (.t 16)
   (.seq (.region [Qm 17 5,
    Qm 4 17])
   .ret)
   .skip))))
 (.region [Qo 18 (.bin .add (.t 8) (.c (i6 1))),
  Qm 8 18]))))
def z2z:LCode:=(.seq (.region [Qo 4 (.mv (.c (i6 (-1))))])
 .ret)
def zh4:LCode:=(.seq (.region [Qi 4 0])
 (.seq (.seq (.region [Qm 6 0,
  Qo 7 (.len false (.t 6)),
  Qi 8 0])
 (.block 0
  (.loop
   z96)))
 z2z))
def Jf:Lay:=⟨19,[],false⟩
def z9p:List LRes:=[.t 4]
def zp3:LFn:=⟨2,Jf,zh4,z9p⟩
theorem zno:Zb Try.prog [] 36=some zp3:=by kernel_rfl
theorem zp0:Xk Try.prog 36:=⟨_,Try.func36,rfl,rfl⟩
def z6x(a0:Nat)(a1:Nat)(a2:Int)(a3:List Int)(o:Int):Exit→Env→AHeap→Nat→Prop:=W4 z9p (Yy 3 3 (i6 o) [((0,0),.rows 1 (a3.map z7))])
def z23(a0:Nat)(a1:Nat)(a2:Int)(a3:List Int)(s:Int):Env:=[(0,.msl (0,0) 1 a0 a1 true),(1,i6 a2),(7,i6 ((a1:Nat):Int)),(8,i6 s)]
def z41(a0:Nat)(a1:Nat)(a2:Int)(a3:List Int)(s:Int):AHeap:=[((0,0),.rows 1 (a3.map z7))]
def z5r(a0:Nat)(a1:Nat)(a2:Int)(a3:List Int)(o:Int):Exit→Env→AHeap→Nat→Prop:=(zb 0 (uw Try.prog Jf 3 z2z (z6x a0 a1 a2 a3 o)))
def Zh(m:Option Nat)(a3:List Int):Option Int:=
 some (-1)
def uc(m:Option Nat)(a0:Nat)(a1:Nat)(a2:Int)(a3:List Int)(v1:Int):Option (Int ⊕ Int):=
 if(decide (v1<((a1:Nat):Int)))=true then
  if(0:Int)≤v1∧v1<((a1:Nat):Int) then
  if(a0+v1.toNat)<a3.length then
  if(a2==(a3.getD (a0+v1.toNat) default))=true then
   p6 p7 (
    some v1)
  else
   some (.inl (W (v1+1)))
  else none
  else none
 else
  p6 p7 (
   Zh m a3)
def Yq(m:Option Nat)(a0:Nat)(a1:Nat)(a2:Int)(a3:List Int)(v1:Int):Option Int:=kw m (fun(s:Int)=>uc m a0 a1 a2 a3 s) v1
theorem zex{a0:Nat}{a1:Nat}{a2:Int}{a3:List Int}{m:Option Nat}{o:Int}(h:Zh m a3=some o) :
 LWp Try.prog Jf 3 z2z (z6x a0 a1 a2 a3 o) [] [((0,0),.rows 1 (a3.map z7))] 3:=by
 unfold Zh at h
 refine SR ?_
 refine Ya ?_
 cases h
 exact AI TT (z1f (n':=3) [] [] rfl rfl (VS rfl) (AI (AI rfl (p3 z7 (fun _=>rfl) _ a3)) TT))
theorem zai{a0:Nat}{a1:Nat}{a2:Int}{a3:List Int}{v1:Int}{m:Option Nat}{o:Int ⊕ Int}(h:uc m a0 a1 a2 a3 v1=some o) :
 LWp Try.prog Jf 3 z96 (yi 3 3 (z23 a0 a1 a2 a3) (z41 a0 a1 a2 a3) (z5r a0 a1 a2 a3) o) [(0,.msl (0,0) 1 a0 a1 true),(1,i6 a2),(7,i6 ((a1:Nat):Int)),(8,i6 v1)] [((0,0),.rows 1 (a3.map z7))] 3:=by
 unfold uc at h
 refine SR ?_
 refine xn ?_
 refine qh (v:=(decide (v1<((a1:Nat):Int)))) rfl TT (fun h9=>?_) (fun h9=>?_)
 ·have h:=zj h9 h
  refine qp ?_
  refine xn ?_
  refine zo ?_
  refine SR ?_
  refine SR ?_
  obtain⟨h10,h⟩:=za h
  refine AI h10 ?_
  obtain⟨h11,h⟩:=za h
  refine EX (z7 (a3.getD (a0+v1.toNat) default)) (AI (zc z7 _ _ h11) (AI (AI (kv z7 h11) (NB rfl)) ?_))
  refine p2 (e:=[(0,.msl (0,0) 1 a0 a1 true),(1,i6 a2),(5,i6 v1),(7,i6 ((a1:Nat):Int)),(8,i6 v1),(16,.bool (a2==(a3.getD (a0+v1.toNat) default)))]) (L:=[((0,0),.rows 1 (a3.map z7))]) (n:=3) ?_ ?_
  ·exact qy (M:=[]) rfl (AI (pB _ _ _ _ _ _ rfl) (S4 rfl rfl rfl rfl (AI (VS rfl) TT))) (AI (AI rfl (p3 z7 (fun _=>rfl) _ a3)) TT)
  refine qh (v:=(a2==(a3.getD (a0+v1.toNat) default))) rfl TT (fun h12=>?_) (fun h12=>?_)
  ·have h:=zj h12 h
   refine SR ?_
   refine Ya ?_
   obtain⟨o,hq,rfl⟩:=p0.1 h
   replace h:=hq;clear hq
   refine AI nofun ?_
   cases h
   exact AI TT (z1f (n':=3) [] [] rfl rfl (VS rfl) (AI (AI rfl (p3 z7 (fun _=>rfl) _ a3)) TT))
  ·have h:=zm h12 h
   refine qp ?_
   refine Y6 ?_
   cases h
   exact AI rfl (qy (M:=[]) rfl (AI (pB _ _ _ _ _ _ rfl) (S2 rfl rfl (AI (VS rfl) TT))) (AI (AI rfl (p3 z7 (fun _=>rfl) _ a3)) TT))
 ·have h:=zm h9 h
  refine ur ?_
  obtain⟨o,hq,rfl⟩:=p0.1 h
  replace h:=hq;clear hq
  refine AI nofun ?_
  refine p2 ?_ (zex h)
  exact qy (M:=[]) rfl TT (AI (AI rfl (p3 z7 (fun _=>rfl) _ a3)) TT)
theorem zed{a0:Nat}{a1:Nat}{a2:Int}{a3:List Int}{v1:Int}{m:Option Nat}{o:Int}(h:Yq m a0 a1 a2 a3 v1=some o) :
 LWp Try.prog Jf 3 (.loop z96) (zb 0 (uw Try.prog Jf 3 z2z (z6x a0 a1 a2 a3 o))) [(0,.msl (0,0) 1 a0 a1 true),(1,i6 a2),(7,i6 ((a1:Nat):Int)),(8,i6 v1)] [((0,0),.rows 1 (a3.map z7))] 3:=
 zn (m:=m) (s:=(v1:Int)) (r:=o) (fun(s:Int)=>uc m a0 a1 a2 a3 s) (z23 a0 a1 a2 a3) (z41 a0 a1 a2 a3) (z5r a0 a1 a2 a3) (fun s o h=>zai h) h
def Z2(m:Option Nat)(a0:Nat)(a1:Nat)(a2:Int)(a3:List Int):Option Int:=
 Yq m a0 a1 a2 a3 0
theorem zeo{a0:Nat}{a1:Nat}{a2:Int}{a3:List Int}{m:Option Nat}{o:Int}(h:Z2 m a0 a1 a2 a3=some o):LWp Try.prog Jf 3 zh4 (z6x a0 a1 a2 a3 o) (qe 0 [.msl (0,0) 1 a0 a1 true,i6 a2]) [((0,0),.rows 1 (a3.map z7))] 3:=by
 unfold Z2 at h
 refine SR ?_
 refine xn ?_
 refine SR ?_
 refine zo ?_
 refine p2 ?_ (zed h)
 exact qy (M:=[]) rfl (AI (pB _ _ _ _ _ _ rfl) (S2 rfl rfl (AI (VS rfl) TT))) (AI (AI rfl (p3 z7 (fun _=>rfl) _ a3)) TT)
theorem zt6{a0:Nat}{a1:Nat}{a2:Int}{a3:List Int}{m:Option Nat}{o:Int}(h:Z2 m a0 a1 a2 a3=some o):ACalls Try.prog 36 [.msl (0,0) 1 a0 a1 true,i6 a2] [((0,0),.rows 1 (a3.map z7))] 3 (Ze 3 (i6 o) [((0,0),.rows 1 (a3.map z7))]):=Zr (L:=zp3) zno zp0 (NB rfl) (zeo h)
def zie:LCode:=(.seq (.region [Qb 4])
 (.seq (.region [Qm 5 0,
  Qm 6 1,
  Qo 7 (.call 36 [(.t 5),(.t 6)]),
  Qo 8 (.bin .geq (.t 7) (.c (i6 0))),
  Qm 4 8])
 .ret))
def zck:Lay:=⟨9,[],false⟩
def zdb:List LRes:=[.t 4]
def znf:LFn:=⟨2,zck,zie,zdb⟩
theorem zpk:Zb Try.prog [] 33=some znf:=by kernel_rfl
theorem zpc:Xk Try.prog 33:=⟨_,Try.func33,rfl,rfl⟩
def Zj(m:Option Nat)(a0:Nat)(a1:Nat)(a2:Int)(a3:List Int):Option Bool:=
 (Z2 m a0 a1 a2 a3).bind fun v1=>
 some (decide (v1≥0))
def zwp(a0:Nat)(a1:Nat)(a2:Int)(a3:List Int)(o:Bool):Exit→Env→AHeap→Nat→Prop:=W4 zdb (Yy 3 3 (.bool o) [((0,0),.rows 1 (a3.map z7))])
theorem zet{a0:Nat}{a1:Nat}{a2:Int}{a3:List Int}{m:Option Nat}{o:Bool}(h:Zj m a0 a1 a2 a3=some o):LWp Try.prog zck 3 zie (zwp a0 a1 a2 a3 o) (qe 0 [.msl (0,0) 1 a0 a1 true,i6 a2]) [((0,0),.rows 1 (a3.map z7))] 3:=by
 unfold Zj at h
 refine SR ?_
 refine SR ?_
 obtain⟨v1,h1,h⟩:=bind_some h
 refine Q4 (k:=3) (m:=0) (L':=[((0,0),.rows 1 (a3.map z7))]) (rest:=[]) (R':=i6 v1) [((0,0),(0,0))] (zt6 h1) rfl rfl rfl (AI (pB _ _ _ _ _ _ rfl) (AI (VS rfl) TT)) (AI (h0I (0,0) rfl rfl (p3 z7 (fun _=>rfl) _ a3)) TT) (Zd _ rfl) (AI rfl (AI (qj z7 (fun _=>rfl) _ _) TT)) rfl ?_
 refine Ya ?_
 cases h
 exact AI TT (z1f (n':=4) [] [] rfl rfl (VS rfl) (AI (AI rfl (p3 z7 (fun _=>rfl) _ a3)) TT))
theorem y0p{a0:Nat}{a1:Nat}{a2:Int}{a3:List Int}{m:Option Nat}{o:Bool}(h:Zj m a0 a1 a2 a3=some o):ACalls Try.prog 33 [.msl (0,0) 1 a0 a1 true,i6 a2] [((0,0),.rows 1 (a3.map z7))] 3 (Ze 3 (.bool o) [((0,0),.rows 1 (a3.map z7))]):=Zr (L:=znf) zpk zpc (NB rfl) (zet h)
def z7y:LCode:=(.seq (.region [Qo 9 (.bin .lss (.t 8) (.t 7))])
 (.seq (.cond (.t 9)
  .skip
  (.exit 0))
 (.seq (.block 1
  (.seq (.region [Qm 10 8,
   Qm 5 10])
  (.seq (.region [Qm 11 1,
   Qm 12 0,
   Qm 13 5,
   Qo 14 (.iaddr 1 (.t 12) (.t 13)),
   Ql 15 1 14,
   Qo 16 (.bin .eql (.t 11) (.t 15))])
  (.cond (.t 16)
   (.seq (.region [Qm 17 5,
    Qm 4 17])
   .ret)
   .skip))))
 (.region [Qo 18 (.bin .add (.t 8) (.c (i6 1))),
  Qm 8 18]))))
def z2l:LCode:=(.seq (.region [Qo 4 (.mv (.c (i6 (-1))))])
 .ret)
def zhm:LCode:=(.seq (.region [Qi 4 0])
 (.seq (.seq (.region [Qm 6 0,
  Qo 7 (.len false (.t 6)),
  Qi 8 0])
 (.block 0
  (.loop
   z7y)))
 z2l))
def J9:Lay:=⟨19,[],false⟩
def z9v:List LRes:=[.t 4]
def znx:LFn:=⟨2,J9,zhm,z9v⟩
theorem zni:Zb Try.prog [] 36=some znx:=by kernel_rfl
theorem zkx:Xk Try.prog 36:=⟨_,Try.func36,rfl,rfl⟩
def z7h(a0:Nat)(a1:Nat)(a2:Int)(a3:List Int)(o:Int):Exit→Env→AHeap→Nat→Prop:=W4 z9v (Yy 3 3 (i6 o) [((0,0),.rows 1 (a3.map z7))])
def z1s(a0:Nat)(a1:Nat)(a2:Int)(a3:List Int)(s:Int):Env:=[(0,.msl (0,0) 1 a0 a1 false),(1,i6 a2),(7,i6 ((a1:Nat):Int)),(8,i6 s)]
def z4z(a0:Nat)(a1:Nat)(a2:Int)(a3:List Int)(s:Int):AHeap:=[((0,0),.rows 1 (a3.map z7))]
def z5m(a0:Nat)(a1:Nat)(a2:Int)(a3:List Int)(o:Int):Exit→Env→AHeap→Nat→Prop:=(zb 0 (uw Try.prog J9 3 z2l (z7h a0 a1 a2 a3 o)))
def Z0(m:Option Nat)(a3:List Int):Option Int:=
 some (-1)
def x3(m:Option Nat)(a0:Nat)(a1:Nat)(a2:Int)(a3:List Int)(v1:Int):Option (Int ⊕ Int):=
 if(decide (v1<((a1:Nat):Int)))=true then
  if(0:Int)≤v1∧v1<((a1:Nat):Int) then
  if(a0+v1.toNat)<a3.length then
  if(a2==(a3.getD (a0+v1.toNat) default))=true then
   p6 p7 (
    some v1)
  else
   some (.inl (W (v1+1)))
  else none
  else none
 else
  p6 p7 (
   Z0 m a3)
def w9(m:Option Nat)(a0:Nat)(a1:Nat)(a2:Int)(a3:List Int)(v1:Int):Option Int:=kw m (fun(s:Int)=>x3 m a0 a1 a2 a3 s) v1
theorem zfz{a0:Nat}{a1:Nat}{a2:Int}{a3:List Int}{m:Option Nat}{o:Int}(h:Z0 m a3=some o) :
 LWp Try.prog J9 3 z2l (z7h a0 a1 a2 a3 o) [] [((0,0),.rows 1 (a3.map z7))] 3:=by
 unfold Z0 at h
 refine SR ?_
 refine Ya ?_
 cases h
 exact AI TT (z1f (n':=3) [] [] rfl rfl (VS rfl) (AI (AI rfl (p3 z7 (fun _=>rfl) _ a3)) TT))
theorem zdm{a0:Nat}{a1:Nat}{a2:Int}{a3:List Int}{v1:Int}{m:Option Nat}{o:Int ⊕ Int}(h:x3 m a0 a1 a2 a3 v1=some o) :
 LWp Try.prog J9 3 z7y (yi 3 3 (z1s a0 a1 a2 a3) (z4z a0 a1 a2 a3) (z5m a0 a1 a2 a3) o) [(0,.msl (0,0) 1 a0 a1 false),(1,i6 a2),(7,i6 ((a1:Nat):Int)),(8,i6 v1)] [((0,0),.rows 1 (a3.map z7))] 3:=by
 unfold x3 at h
 refine SR ?_
 refine xn ?_
 refine qh (v:=(decide (v1<((a1:Nat):Int)))) rfl TT (fun h9=>?_) (fun h9=>?_)
 ·have h:=zj h9 h
  refine qp ?_
  refine xn ?_
  refine zo ?_
  refine SR ?_
  refine SR ?_
  obtain⟨h10,h⟩:=za h
  refine AI h10 ?_
  obtain⟨h11,h⟩:=za h
  refine EX (z7 (a3.getD (a0+v1.toNat) default)) (AI (zc z7 _ _ h11) (AI (AI (kv z7 h11) (NB rfl)) ?_))
  refine p2 (e:=[(0,.msl (0,0) 1 a0 a1 false),(1,i6 a2),(5,i6 v1),(7,i6 ((a1:Nat):Int)),(8,i6 v1),(16,.bool (a2==(a3.getD (a0+v1.toNat) default)))]) (L:=[((0,0),.rows 1 (a3.map z7))]) (n:=3) ?_ ?_
  ·exact qy (M:=[]) rfl (AI (pB _ _ _ _ _ _ rfl) (S4 rfl rfl rfl rfl (AI (VS rfl) TT))) (AI (AI rfl (p3 z7 (fun _=>rfl) _ a3)) TT)
  refine qh (v:=(a2==(a3.getD (a0+v1.toNat) default))) rfl TT (fun h12=>?_) (fun h12=>?_)
  ·have h:=zj h12 h
   refine SR ?_
   refine Ya ?_
   obtain⟨o,hq,rfl⟩:=p0.1 h
   replace h:=hq;clear hq
   refine AI nofun ?_
   cases h
   exact AI TT (z1f (n':=3) [] [] rfl rfl (VS rfl) (AI (AI rfl (p3 z7 (fun _=>rfl) _ a3)) TT))
  ·have h:=zm h12 h
   refine qp ?_
   refine Y6 ?_
   cases h
   exact AI rfl (qy (M:=[]) rfl (AI (pB _ _ _ _ _ _ rfl) (S2 rfl rfl (AI (VS rfl) TT))) (AI (AI rfl (p3 z7 (fun _=>rfl) _ a3)) TT))
 ·have h:=zm h9 h
  refine ur ?_
  obtain⟨o,hq,rfl⟩:=p0.1 h
  replace h:=hq;clear hq
  refine AI nofun ?_
  refine p2 ?_ (zfz h)
  exact qy (M:=[]) rfl TT (AI (AI rfl (p3 z7 (fun _=>rfl) _ a3)) TT)
theorem zfe{a0:Nat}{a1:Nat}{a2:Int}{a3:List Int}{v1:Int}{m:Option Nat}{o:Int}(h:w9 m a0 a1 a2 a3 v1=some o) :
 LWp Try.prog J9 3 (.loop z7y) (zb 0 (uw Try.prog J9 3 z2l (z7h a0 a1 a2 a3 o))) [(0,.msl (0,0) 1 a0 a1 false),(1,i6 a2),(7,i6 ((a1:Nat):Int)),(8,i6 v1)] [((0,0),.rows 1 (a3.map z7))] 3:=
 zn (m:=m) (s:=(v1:Int)) (r:=o) (fun(s:Int)=>x3 m a0 a1 a2 a3 s) (z1s a0 a1 a2 a3) (z4z a0 a1 a2 a3) (z5m a0 a1 a2 a3) (fun s o h=>zdm h) h
def k8(m:Option Nat)(a0:Nat)(a1:Nat)(a2:Int)(a3:List Int):Option Int:=
 w9 m a0 a1 a2 a3 0
theorem zeb{a0:Nat}{a1:Nat}{a2:Int}{a3:List Int}{m:Option Nat}{o:Int}(h:k8 m a0 a1 a2 a3=some o):LWp Try.prog J9 3 zhm (z7h a0 a1 a2 a3 o) (qe 0 [.msl (0,0) 1 a0 a1 false,i6 a2]) [((0,0),.rows 1 (a3.map z7))] 3:=by
 unfold k8 at h
 refine SR ?_
 refine xn ?_
 refine SR ?_
 refine zo ?_
 refine p2 ?_ (zfe h)
 exact qy (M:=[]) rfl (AI (pB _ _ _ _ _ _ rfl) (S2 rfl rfl (AI (VS rfl) TT))) (AI (AI rfl (p3 z7 (fun _=>rfl) _ a3)) TT)
theorem ztj{a0:Nat}{a1:Nat}{a2:Int}{a3:List Int}{m:Option Nat}{o:Int}(h:k8 m a0 a1 a2 a3=some o):ACalls Try.prog 36 [.msl (0,0) 1 a0 a1 false,i6 a2] [((0,0),.rows 1 (a3.map z7))] 3 (Ze 3 (i6 o) [((0,0),.rows 1 (a3.map z7))]):=Zr (L:=znx) zni zkx (NB rfl) (zeb h)
def zj5:LCode:=(.seq (.region [Qb 4])
 (.seq (.region [Qm 5 0,
  Qm 6 1,
  Qo 7 (.call 36 [(.t 5),(.t 6)]),
  Qo 8 (.bin .geq (.t 7) (.c (i6 0))),
  Qm 4 8])
 .ret))
def zbu:Lay:=⟨9,[],false⟩
def zbk:List LRes:=[.t 4]
def zmu:LFn:=⟨2,zbu,zj5,zbk⟩
theorem znr:Zb Try.prog [] 33=some zmu:=by kernel_rfl
theorem zq4:Xk Try.prog 33:=⟨_,Try.func33,rfl,rfl⟩
def qx(m:Option Nat)(a0:Nat)(a1:Nat)(a2:Int)(a3:List Int):Option Bool:=
 (k8 m a0 a1 a2 a3).bind fun v1=>
 some (decide (v1≥0))
def zy6(a0:Nat)(a1:Nat)(a2:Int)(a3:List Int)(o:Bool):Exit→Env→AHeap→Nat→Prop:=W4 zbk (Yy 3 3 (.bool o) [((0,0),.rows 1 (a3.map z7))])
theorem zf6{a0:Nat}{a1:Nat}{a2:Int}{a3:List Int}{m:Option Nat}{o:Bool}(h:qx m a0 a1 a2 a3=some o):LWp Try.prog zbu 3 zj5 (zy6 a0 a1 a2 a3 o) (qe 0 [.msl (0,0) 1 a0 a1 false,i6 a2]) [((0,0),.rows 1 (a3.map z7))] 3:=by
 unfold qx at h
 refine SR ?_
 refine SR ?_
 obtain⟨v1,h1,h⟩:=bind_some h
 refine Q4 (k:=3) (m:=0) (L':=[((0,0),.rows 1 (a3.map z7))]) (rest:=[]) (R':=i6 v1) [((0,0),(0,0))] (ztj h1) rfl rfl rfl (AI (pB _ _ _ _ _ _ rfl) (AI (VS rfl) TT)) (AI (h0I (0,0) rfl rfl (p3 z7 (fun _=>rfl) _ a3)) TT) (Zd _ rfl) (AI rfl (AI (qj z7 (fun _=>rfl) _ _) TT)) rfl ?_
 refine Ya ?_
 cases h
 exact AI TT (z1f (n':=4) [] [] rfl rfl (VS rfl) (AI (AI rfl (p3 z7 (fun _=>rfl) _ a3)) TT))
theorem zhj{a0:Nat}{a1:Nat}{a2:Int}{a3:List Int}{m:Option Nat}{o:Bool}(h:qx m a0 a1 a2 a3=some o):ACalls Try.prog 33 [.msl (0,0) 1 a0 a1 false,i6 a2] [((0,0),.rows 1 (a3.map z7))] 3 (Ze 3 (.bool o) [((0,0),.rows 1 (a3.map z7))]):=Zr (L:=zmu) znr zq4 (NB rfl) (zf6 h)
def zhe:LCode:=(.region [Qo 57 (.bin .add (.t 36) (.c (i6 1))),
 Qm 36 57])
def z94:LCode:=(.seq (.region [Qo 37 (.bin .lss (.t 36) (.t 35))])
 (.seq (.cond (.t 37)
  .skip
  (.exit 4))
 (.seq (.block 5
  (.seq (.region [Qo 38 (.iaddr 1 (.t 34) (.t 36)),
   Ql 39 1 38,
   Qm 12 39])
  (.seq (.region [Qm 40 6,
   Qm 41 12,
   Qo 42 (.iaddr 1 (.t 40) (.t 41)),
   Ql 43 1 42,
   Qm 44 7,
   Qo 45 (.call 33 [(.t 43),(.t 44)]),
   Qo 46 (.un .not (.t 45))])
  (.cond (.t 46)
   (.region [Qm 47 6,
    Qm 48 12,
    Qm 49 6,
    Qm 50 12,
    Qo 51 (.iaddr 1 (.t 49) (.t 50)),
    Ql 52 1 51,
    Qm 53 7,
    Qo 54 (.mkSl true 1 [(i6 0)] 1 [(0,(.t 53))]),
    Qo 55 (.app true 1 8 (.t 52) (.t 54)),
    Qo 56 (.iaddr 1 (.t 47) (.t 48)),
    ⟨none,.store 1 (.t 56) (.t 55),none⟩])
   .skip))))
 zhe)))
def z2q:LCode:=(.region [Qo 58 (.bin .add (.t 29) (.c (i6 1))),
 Qm 29 58])
def z8n:LCode:=(.seq (.region [Qo 30 (.bin .lss (.t 29) (.t 28))])
 (.seq (.cond (.t 30)
  .skip
  (.exit 2))
 (.seq (.block 3
  (.seq (.region [Qo 31 (.iaddr 2 (.t 27) (.t 29)),
   Qt 32 2 31,
   Qo 10 (.alloc [(i6 0),(.isl 1 [] true)]),
   ⟨none,.store 2 (.t 10) (.t 32),none⟩])
  (.seq (.region [Qf 33 1 10,
   Ql 34 1 33,
   Qo 35 (.len false (.t 34)),
   Qi 36 0])
  (.block 4
   (.loop
    z94)))))
 z2q)))
def z2g:LCode:=(.region [Qo 59 (.bin .add (.t 22) (.c (i6 1))),
 Qm 22 59])
def z9g:LCode:=(.seq (.region [Qo 23 (.bin .lss (.t 22) (.t 21))])
 (.seq (.cond (.t 23)
  .skip
  (.exit 0))
 (.seq (.block 1
  (.seq (.region [Qm 24 22,
   Qo 25 (.iaddr 1 (.t 20) (.t 22)),
   Ql 26 1 25,
   Qm 7 24,
   Qm 8 26])
  (.seq (.region [Qm 27 8,
   Qo 28 (.len false (.t 27)),
   Qi 29 0])
  (.block 2
   (.loop
    z8n)))))
 z2g)))
def zih:LCode:=(.region [Qo 106 (.bin .add (.t 94) (.c (i6 1))),
 Qm 94 106])
def z9k:LCode:=(.seq (.region [Qo 95 (.bin .lss (.t 94) (.t 93))])
 (.seq (.cond (.t 95)
  .skip
  (.exit 8))
 (.seq (.block 9
  (.seq (.region [Qo 96 (.iaddr 1 (.t 92) (.t 94)),
   Ql 97 1 96,
   Qm 16 97])
  (.seq (.region [Qm 98 2,
   Qm 99 16,
   Qo 100 (.call 33 [(.t 98),(.t 99)]),
   Qo 101 (.un .not (.t 100))])
  (.cond (.t 101)
   (.region [Qm 102 2,
    Qm 103 16,
    Qo 104 (.mkSl true 1 [(i6 0)] 1 [(0,(.t 103))]),
    Qo 105 (.app false 1 8 (.t 102) (.t 104)),
    Qm 2 105])
   .skip))))
 zih)))
def z8j:LCode:=(.seq (.seq (.region [Qm 60 2,
 Qo 61 (.len false (.t 60)),
 Qo 62 (.bin .gtr (.t 61) (.c (i6 0)))])
 (.cond (.t 62)
  .skip
  (.exit 6)))
 (.block 7
  (.seq (.region [Qm 63 2,
   Qo 64 (.iaddr 1 (.t 63) (.c (i6 0))),
   Ql 65 1 64,
   Qm 13 65])
  (.seq (.region [Qm 66 2,
   Qo 67 (.slSl 1 (.t 66) (some (.c (i6 1))) none none),
   Qm 2 67])
  (.seq (.draw [⟨Qm 68 1,[]⟩,
   ⟨Qm 69 13,[]⟩,
   ⟨Qo 70 (.iaddr 1 (.t 68) (.t 69)),[]⟩,
   ⟨Ql 71 1 70,[]⟩,
   ⟨Qm 72 0,[]⟩,
   ⟨Qm 73 13,[]⟩,
   ⟨Qo 74 (.iaddr 1 (.t 72) (.t 73)),[]⟩,
   ⟨Ql 75 1 74,[]⟩,
   ⟨Qm 76 1,[]⟩,
   ⟨Qo 77 (.call 27 [(.t 75),(.t 76)]),[3]⟩,
   ⟨Qo 78 (.bin .or (.t 71) (.t 77)),[]⟩,
   ⟨Qm 14 78,[]⟩])
  (.seq (.seq (.region [Qm 79 14,
   Qm 80 1,
   Qm 81 13,
   Qo 82 (.iaddr 1 (.t 80) (.t 81)),
   Ql 83 1 82,
   Qo 84 (.bin .eql (.t 79) (.t 83))])
  (.cond (.t 84)
   (.exit 7)
   .skip))
  (.seq (.region [Qm 85 1,
   Qm 86 13,
   Qm 87 14,
   Qo 88 (.iaddr 1 (.t 85) (.t 86)),
   ⟨none,.store 1 (.t 88) (.t 87),none⟩])
  (.seq (.region [Qm 89 6,
   Qm 90 13,
   Qo 91 (.iaddr 1 (.t 89) (.t 90)),
   Ql 92 1 91,
   Qo 93 (.len false (.t 92)),
   Qi 94 0])
  (.block 8
   (.loop
    z9k))))))))))
def z2v:LCode:=(.block 6
 (.loop
  z8j))
def zbg:LCode:=(.seq (.region [Qm 17 0,
 Qo 18 (.len false (.t 17)),
 Qo 19 (.mkslice false 1 24 [(.isl 1 [] true)] (.t 18) (.t 18)),
 Qm 6 19])
 (.seq (.seq (.region [Qm 20 0,
  Qo 21 (.len false (.t 20)),
  Qi 22 0])
 (.block 0
  (.loop
   z9g)))
 z2v))
def ju:Lay:=⟨107,[19,105],false⟩
def zcr:List LRes:=[]
def zlh:LFn:=⟨3,ju,zbg,zcr⟩
theorem zqj:Zb Try.prog [19,105] 22=some zlh:=by kernel_rfl
theorem zo8:Xk Try.prog 22:=⟨_,Try.func22,rfl,rfl⟩
def z1a(a0:List (List GR))(a1:List Int)(a2:List Int)(o:(List Int)):Exit→Env→AHeap→Nat→Prop:=W4 zcr (Yy 3 3 (.tup []) [((0,0),.rows 1 (o.map z7))])
def X8(a0:List (List GR))(a1:List Int)(a2:List Int)(s:(Int×(List (List Int)))):Env:=[(0,.isl 1 (a0.map z6) false),(1,.msl (0,0) 1 0 a1.length true),(2,.msl (3,0) 1 0 a2.length true),(6,.msl (4,0) 1 0 s.2.length true),(20,.isl 1 (a0.map z6) false),(21,i6 ((a0.map z6).length:Int)),(22,i6 s.1)]
def Xz(a0:List (List GR))(a1:List Int)(a2:List Int)(s:(Int×(List (List Int)))):AHeap:=([((0,0),.rows 1 (a1.map z7)),((3,0),.rows 1 (a2.map z7)),((4,0),.rows 1 (wm 5 1 (s.2.map (p5 z7))))]++(fam 5 s.2.length none))
def We(a0:List (List GR))(a1:List Int)(a2:List Int)(o:(List Int)):Exit→Env→AHeap→Nat→Prop:=(zb 0 (uw Try.prog ju 3 z2v (z1a a0 a1 a2 o)))
def Yz(a0:List (List GR))(a1:List Int)(a2:List Int)(v27:Int)(s:(Int×(List (List Int)))):Env:=[(0,.isl 1 (a0.map z6) false),(1,.msl (0,0) 1 0 a1.length true),(2,.msl (3,0) 1 0 a2.length true),(6,.msl (4,0) 1 0 s.2.length true),(7,i6 v27),(20,.isl 1 (a0.map z6) false),(21,i6 ((a0.map z6).length:Int)),(22,i6 v27),(27,.isl 2 ((a0.getD v27.toNat default).map z8) false),(28,i6 (((a0.getD v27.toNat default).map z8).length:Int)),(29,i6 s.1)]
def X0(a0:List (List GR))(a1:List Int)(a2:List Int)(v27:Int)(s:(Int×(List (List Int)))):AHeap:=([((0,0),.rows 1 (a1.map z7)),((3,0),.rows 1 (a2.map z7)),((4,0),.rows 1 (wm 5 1 (s.2.map (p5 z7))))]++(fam 5 s.2.length none))
def Ji(a0:List (List GR))(a1:List Int)(a2:List Int)(o:((Int×(List (List Int))) ⊕ (List Int))):Exit→Env→AHeap→Nat→Prop:=(zb 2 (zb 1 (uw Try.prog ju 3 z2g (yi 3 6 (X8 a0 a1 a2) (Xz a0 a1 a2) (We a0 a1 a2) o))))
def Wp(a0:List (List GR))(a1:List Int)(a2:List Int)(v27:Int)(v63:Int)(s:(Int×(List (List Int)))):Env:=[(0,.isl 1 (a0.map z6) false),(1,.msl (0,0) 1 0 a1.length true),(2,.msl (3,0) 1 0 a2.length true),(6,.msl (4,0) 1 0 s.2.length true),(7,i6 v27),(20,.isl 1 (a0.map z6) false),(21,i6 ((a0.map z6).length:Int)),(22,i6 v27),(27,.isl 2 ((a0.getD v27.toNat default).map z8) false),(28,i6 (((a0.getD v27.toNat default).map z8).length:Int)),(29,i6 v63),(34,.isl 1 ((((a0.getD v27.toNat default).getD v63.toNat default).fA).map z7) false),(35,i6 (((((a0.getD v27.toNat default).getD v63.toNat default).fA).map z7).length:Int)),(36,i6 s.1)]
def Vs(a0:List (List GR))(a1:List Int)(a2:List Int)(v27:Int)(v63:Int)(s:(Int×(List (List Int)))):AHeap:=([((0,0),.rows 1 (a1.map z7)),((3,0),.rows 1 (a2.map z7)),((4,0),.rows 1 (wm 5 1 (s.2.map (p5 z7))))]++(fam 5 s.2.length none))
def Ue(a0:List (List GR))(a1:List Int)(a2:List Int)(v27:Int)(o:((Int×(List (List Int))) ⊕ ((Int×(List (List Int))) ⊕ (List Int)))):Exit→Env→AHeap→Nat→Prop:=(zb 4 (zb 3 (uw Try.prog ju 3 z2q (yi 3 6 (Yz a0 a1 a2 v27) (X0 a0 a1 a2 v27) (Ji a0 a1 a2) o))))
def xq(m:Option Nat)(a0:List (List GR))(a1:List Int)(a2:List Int)(v27:Int)(v63:Int)(v75:Int)(v80:List (List Int)):Option ((Int×(List (List Int))) ⊕ ((Int×(List (List Int))) ⊕ ((Int×(List (List Int))) ⊕ (List Int)))):=
 some (.inl ((W (v75+1)),v80))
theorem z1y{a0:List (List GR)}{a1:List Int}{a2:List Int}{v27:Int}{v63:Int}{v75:Int}{v80:List (List Int)}{m:Option Nat}{o:((Int×(List (List Int))) ⊕ ((Int×(List (List Int))) ⊕ ((Int×(List (List Int))) ⊕ (List Int))))}(h:xq m a0 a1 a2 v27 v63 v75 v80=some o) :
 LWp Try.prog ju 3 zhe (yi 3 6 (Wp a0 a1 a2 v27 v63) (Vs a0 a1 a2 v27 v63) (Ue a0 a1 a2 v27) o) [(0,.isl 1 (a0.map z6) false),(1,.msl (0,0) 1 0 a1.length true),(2,.msl (3,0) 1 0 a2.length true),(6,.msl (4,0) 1 0 v80.length true),(7,i6 v27),(20,.isl 1 (a0.map z6) false),(21,i6 ((a0.map z6).length:Int)),(22,i6 v27),(27,.isl 2 ((a0.getD v27.toNat default).map z8) false),(28,i6 (((a0.getD v27.toNat default).map z8).length:Int)),(29,i6 v63),(34,.isl 1 ((((a0.getD v27.toNat default).getD v63.toNat default).fA).map z7) false),(35,i6 (((((a0.getD v27.toNat default).getD v63.toNat default).fA).map z7).length:Int)),(36,i6 v75)] ([((0,0),.rows 1 (a1.map z7)),((3,0),.rows 1 (a2.map z7)),((4,0),.rows 1 (wm 5 1 (v80.map (p5 z7))))]++(fam 5 v80.length none)) 6:=by
 unfold xq at h
 refine Y6 ?_
 cases h
 exact AI rfl (Xa (M:=[((3,0),(3,0)),((4,0),(4,0))]) (lit':=[((0,0),.rows 1 (a1.map z7)),((3,0),.rows 1 (a2.map z7)),((4,0),.rows 1 (wm 5 1 (v80.map (p5 z7))))]) (T:=(fam 5 v80.length none)) (q:=5) (q':=5) rfl (IsFam.cast (by first|rfl|simp) IsFam.base) (AI (VS rfl) (AI (p1 rfl (by first|rfl|omega|(simp;done)|(simp at *;omega)) rfl) (AI (p1 rfl (by first|rfl|omega|(simp;done)|(simp at *;omega)) rfl) (AI (p1 rfl (by first|rfl|omega|(simp;done)|(simp at *;omega)) rfl) (S4 rfl rfl rfl rfl (S4 rfl rfl rfl rfl (S2 rfl rfl TT))))))) (AI (AI rfl (p3 z7 (fun _=>rfl) _ a1)) (AI (AI rfl (p3 z7 (fun _=>rfl) _ a2)) (AI (AI rfl p8) TT))))
def jx(m:Option Nat)(a0:List (List GR))(a1:List Int)(a2:List Int)(v27:Int)(v63:Int)(v76:List (List Int)):Option ((Int×(List (List Int))) ⊕ ((Int×(List (List Int))) ⊕ (List Int))):=
 some (.inl ((W (v63+1)),v76))
def ya(m:Option Nat)(a0:List (List GR))(a1:List Int)(a2:List Int)(v27:Int)(v63:Int)(v75:Int)(v76:List (List Int)):Option ((Int×(List (List Int))) ⊕ ((Int×(List (List Int))) ⊕ ((Int×(List (List Int))) ⊕ (List Int)))):=
 if(decide (v75<(((((a0.getD v27.toNat default).getD v63.toNat default).fA).map z7).length:Int)))=true then
  if(0:Int)≤v75∧v75<(((((a0.getD v27.toNat default).getD v63.toNat default).fA).map z7).length:Int) then
  if(0:Int)≤((((a0.getD v27.toNat default).getD v63.toNat default).fA).getD v75.toNat default)∧((((a0.getD v27.toNat default).getD v63.toNat default).fA).getD v75.toNat default)<((v76.length:Nat):Int) then
  if(0+((((a0.getD v27.toNat default).getD v63.toNat default).fA).getD v75.toNat default).toNat)<v76.length then
  (jv m (v76.getD (0+((((a0.getD v27.toNat default).getD v63.toNat default).fA).getD v75.toNat default).toNat) default) v27).bind fun v79=>
  if(!v79)=true then
   if(0:Int)≤((((a0.getD v27.toNat default).getD v63.toNat default).fA).getD v75.toNat default)∧((((a0.getD v27.toNat default).getD v63.toNat default).fA).getD v75.toNat default)<((v76.length:Nat):Int) then
   if(0+((((a0.getD v27.toNat default).getD v63.toNat default).fA).getD v75.toNat default).toNat)<v76.length then
   if(((v76.getD (0+((((a0.getD v27.toNat default).getD v63.toNat default).fA).getD v75.toNat default).toNat) default)++([v27]:List Int)).map z7).length*8≤140737488355328 then
   if(0:Int)≤((((a0.getD v27.toNat default).getD v63.toNat default).fA).getD v75.toNat default)∧((((a0.getD v27.toNat default).getD v63.toNat default).fA).getD v75.toNat default)<((v76.length:Nat):Int) then
   if(0+((((a0.getD v27.toNat default).getD v63.toNat default).fA).getD v75.toNat default).toNat)<v76.length then
   xq m a0 a1 a2 v27 v63 v75 (v76.set (0+((((a0.getD v27.toNat default).getD v63.toNat default).fA).getD v75.toNat default).toNat) ((v76.getD (0+((((a0.getD v27.toNat default).getD v63.toNat default).fA).getD v75.toNat default).toNat) default)++([v27]:List Int)))
   else none
   else none
   else none
   else none
   else none
  else
   xq m a0 a1 a2 v27 v63 v75 v76
  else none
  else none
  else none
 else
  p6 p7 (
   jx m a0 a1 a2 v27 v63 v76)
def y7(m:Option Nat)(a0:List (List GR))(a1:List Int)(a2:List Int)(v27:Int)(v63:Int)(v75:Int)(v76:List (List Int)):Option ((Int×(List (List Int))) ⊕ ((Int×(List (List Int))) ⊕ (List Int))):=kw m (fun(s:(Int×(List (List Int))))=>ya m a0 a1 a2 v27 v63 s.1 s.2) (v75,v76)
theorem z9w{a0:List (List GR)}{a1:List Int}{a2:List Int}{v27:Int}{v63:Int}{v76:List (List Int)}{m:Option Nat}{o:((Int×(List (List Int))) ⊕ ((Int×(List (List Int))) ⊕ (List Int)))}(h:jx m a0 a1 a2 v27 v63 v76=some o) :
 LWp Try.prog ju 3 z2q (yi 3 6 (Yz a0 a1 a2 v27) (X0 a0 a1 a2 v27) (Ji a0 a1 a2) o) [(0,.isl 1 (a0.map z6) false),(1,.msl (0,0) 1 0 a1.length true),(2,.msl (3,0) 1 0 a2.length true),(6,.msl (4,0) 1 0 v76.length true),(7,i6 v27),(20,.isl 1 (a0.map z6) false),(21,i6 ((a0.map z6).length:Int)),(22,i6 v27),(27,.isl 2 ((a0.getD v27.toNat default).map z8) false),(28,i6 (((a0.getD v27.toNat default).map z8).length:Int)),(29,i6 v63)] ([((0,0),.rows 1 (a1.map z7)),((3,0),.rows 1 (a2.map z7)),((4,0),.rows 1 (wm 5 1 (v76.map (p5 z7))))]++(fam 5 v76.length none)) 6:=by
 unfold jx at h
 refine Y6 ?_
 cases h
 exact AI rfl (Xa (M:=[((3,0),(3,0)),((4,0),(4,0))]) (lit':=[((0,0),.rows 1 (a1.map z7)),((3,0),.rows 1 (a2.map z7)),((4,0),.rows 1 (wm 5 1 (v76.map (p5 z7))))]) (T:=(fam 5 v76.length none)) (q:=5) (q':=5) rfl (IsFam.cast (by first|rfl|simp) IsFam.base) (AI (VS rfl) (AI (p1 rfl (by first|rfl|omega|(simp;done)|(simp at *;omega)) rfl) (AI (p1 rfl (by first|rfl|omega|(simp;done)|(simp at *;omega)) rfl) (AI (p1 rfl (by first|rfl|omega|(simp;done)|(simp at *;omega)) rfl) (S4 rfl rfl rfl rfl (S2 rfl rfl (AI (VS rfl) TT))))))) (AI (AI rfl (p3 z7 (fun _=>rfl) _ a1)) (AI (AI rfl (p3 z7 (fun _=>rfl) _ a2)) (AI (AI rfl p8) TT))))
set_option maxHeartbeats 4000000 in
theorem z97{a0:List (List GR)}{a1:List Int}{a2:List Int}{v27:Int}{v63:Int}{v75:Int}{v76:List (List Int)}{m:Option Nat}{o:(Int×(List (List Int))) ⊕ ((Int×(List (List Int))) ⊕ ((Int×(List (List Int))) ⊕ (List Int)))}(h:ya m a0 a1 a2 v27 v63 v75 v76=some o) :
 LWp Try.prog ju 3 z94 (yi 3 6 (Wp a0 a1 a2 v27 v63) (Vs a0 a1 a2 v27 v63) (Ue a0 a1 a2 v27) o) [(0,.isl 1 (a0.map z6) false),(1,.msl (0,0) 1 0 a1.length true),(2,.msl (3,0) 1 0 a2.length true),(6,.msl (4,0) 1 0 v76.length true),(7,i6 v27),(20,.isl 1 (a0.map z6) false),(21,i6 ((a0.map z6).length:Int)),(22,i6 v27),(27,.isl 2 ((a0.getD v27.toNat default).map z8) false),(28,i6 (((a0.getD v27.toNat default).map z8).length:Int)),(29,i6 v63),(34,.isl 1 ((((a0.getD v27.toNat default).getD v63.toNat default).fA).map z7) false),(35,i6 (((((a0.getD v27.toNat default).getD v63.toNat default).fA).map z7).length:Int)),(36,i6 v75)] ([((0,0),.rows 1 (a1.map z7)),((3,0),.rows 1 (a2.map z7)),((4,0),.rows 1 (wm 5 1 (v76.map (p5 z7))))]++(fam 5 v76.length none)) 6:=by
 unfold ya at h
 refine SR ?_
 refine xn ?_
 refine qh (v:=(decide (v75<(((((a0.getD v27.toNat default).getD v63.toNat default).fA).map z7).length:Int)))) rfl TT (fun h364=>?_) (fun h364=>?_)
 ·have h:=zj h364 h
  refine qp ?_
  refine xn ?_
  refine zo ?_
  refine SR ?_
  obtain⟨h365,h⟩:=za h
  refine AI h365 ?_
  refine EX (z7 ((((a0.getD v27.toNat default).getD v63.toNat default).fA).getD v75.toNat default)) (AI (zc z7 _ _ (yj z7 h365)) (AI (AI (xv h365) (NB rfl)) ?_))
  refine SR ?_
  obtain⟨h366,h⟩:=za h
  refine AI h366 ?_
  obtain⟨h367,h⟩:=za h
  refine EX ([.osl (5,(0+((((a0.getD v27.toNat default).getD v63.toNat default).fA).getD v75.toNat default).toNat)) 1 ((v76.getD (0+((((a0.getD v27.toNat default).getD v63.toNat default).fA).getD v75.toNat default).toNat) default).map z7)]) (AI (z0m z7 h367) (AI (AI (z2s z7 h367) (NB rfl)) ?_))
  obtain⟨v79,h368,h⟩:=bind_some h
  refine PFn.call (zvo h368) (AI (Vw.oslI _ _ _) (AI (VS rfl) TT)) ?_
  refine p2 (e:=[(0,.isl 1 (a0.map z6) false),(1,.msl (0,0) 1 0 a1.length true),(2,.msl (3,0) 1 0 a2.length true),(6,.msl (4,0) 1 0 v76.length true),(7,i6 v27),(12,i6 ((((a0.getD v27.toNat default).getD v63.toNat default).fA).getD v75.toNat default)),(20,.isl 1 (a0.map z6) false),(21,i6 ((a0.map z6).length:Int)),(22,i6 v27),(27,.isl 2 ((a0.getD v27.toNat default).map z8) false),(28,i6 (((a0.getD v27.toNat default).map z8).length:Int)),(29,i6 v63),(34,.isl 1 ((((a0.getD v27.toNat default).getD v63.toNat default).fA).map z7) false),(35,i6 (((((a0.getD v27.toNat default).getD v63.toNat default).fA).map z7).length:Int)),(36,i6 v75),(46,.bool (!v79))]) (L:=([((0,0),.rows 1 (a1.map z7)),((3,0),.rows 1 (a2.map z7)),((4,0),.rows 1 (wm 5 1 (v76.map (p5 z7))))]++(fam 5 v76.length none))) (n:=6) ?_ ?_
  ·exact Xa (M:=[((3,0),(3,0)),((4,0),(4,0))]) (lit':=[((0,0),.rows 1 (a1.map z7)),((3,0),.rows 1 (a2.map z7)),((4,0),.rows 1 (wm 5 1 (v76.map (p5 z7))))]) (T:=(fam 5 v76.length none)) (q:=5) (q':=5) rfl (IsFam.cast (by first|rfl|simp) IsFam.base) (AI (VS rfl) (AI (p1 rfl (by first|rfl|omega|(simp;done)|(simp at *;omega)) rfl) (AI (p1 rfl (by first|rfl|omega|(simp;done)|(simp at *;omega)) rfl) (AI (p1 rfl (by first|rfl|omega|(simp;done)|(simp at *;omega)) rfl) (S4 rfl rfl rfl rfl (S4 rfl rfl rfl rfl (S4 rfl rfl rfl rfl TT))))))) (AI (AI rfl (p3 z7 (fun _=>rfl) _ a1)) (AI (AI rfl (p3 z7 (fun _=>rfl) _ a2)) (AI (AI rfl p8) TT)))
  refine qh (v:=(!v79)) rfl TT (fun h369=>?_) (fun h369=>?_)
  ·have h:=zj h369 h
   refine p2 (e:=[(0,.isl 1 (a0.map z6) false),(1,.msl (0,0) 1 0 a1.length true),(2,.msl (3,0) 1 0 a2.length true),(6,.msl (4,0) 1 0 v76.length true),(7,i6 v27),(12,i6 ((((a0.getD v27.toNat default).getD v63.toNat default).fA).getD v75.toNat default)),(20,.isl 1 (a0.map z6) false),(21,i6 ((a0.map z6).length:Int)),(22,i6 v27),(27,.isl 2 ((a0.getD v27.toNat default).map z8) false),(28,i6 (((a0.getD v27.toNat default).map z8).length:Int)),(29,i6 v63),(34,.isl 1 ((((a0.getD v27.toNat default).getD v63.toNat default).fA).map z7) false),(35,i6 (((((a0.getD v27.toNat default).getD v63.toNat default).fA).map z7).length:Int)),(36,i6 v75)]) (L:=([((6,0),.tok),((0,0),.rows 1 (a1.map z7)),((3,0),.rows 1 (a2.map z7)),((4,0),.rows 1 (z4w 5 1 (v76.map (p5 z7)) (0+((((a0.getD v27.toNat default).getD v63.toNat default).fA).getD v75.toNat default).toNat) (6,0) ((v76.getD (0+((((a0.getD v27.toNat default).getD v63.toNat default).fA).getD v75.toNat default).toNat) default).map z7)))]++(fam 5 v76.length (some (0+((((a0.getD v27.toNat default).getD v63.toNat default).fA).getD v75.toNat default).toNat))))) (n:=7) ?_ ?_
   ·exact y1y (m:=(6,0)) (i:=(0+((((a0.getD v27.toNat default).getD v63.toNat default).fA).getD v75.toNat default).toNat)) (M:=[((3,0),(3,0)),((4,0),(4,0))]) (lit':=[((0,0),.rows 1 (a1.map z7)),((3,0),.rows 1 (a2.map z7)),((4,0),.rows 1 (wm 5 1 (v76.map (p5 z7))))]) (T:=(fam 5 v76.length none)) (q:=5) (q':=5) rfl (by decide) (IsFam.cast (by first|rfl|simp) IsFam.base) (AI (VS rfl) (AI (p1 rfl (by first|rfl|omega|(simp;done)|(simp at *;omega)) rfl) (AI (p1 rfl (by first|rfl|omega|(simp;done)|(simp at *;omega)) rfl) (AI (p1 rfl (by first|rfl|omega|(simp;done)|(simp at *;omega)) rfl) (S4 rfl rfl rfl rfl (S4 rfl rfl rfl rfl (S2 rfl rfl (AI (VS rfl) TT)))))))) (AI (AI rfl (p3 z7 (fun _=>rfl) _ a1)) (AI (AI rfl (p3 z7 (fun _=>rfl) _ a2)) (AI (AI rfl (BVw.grFE z7 (by decide) rfl)) TT)))
   refine Y6 ?_
   obtain⟨h372,h⟩:=za h
   refine AI h372 ?_
   obtain⟨h373,h⟩:=za h
   refine EX ([.osl (6,0) 1 ((v76.getD (0+((((a0.getD v27.toNat default).getD v63.toNat default).fA).getD v75.toNat default).toNat) default).map z7)]) (AI (z4x z7 h373) (AI (AI (z2r z7 h373) (NB rfl)) ?_))
   obtain⟨h374,h⟩:=za h
   refine EX (((v76.getD (0+((((a0.getD v27.toNat default).getD v63.toNat default).fA).getD v75.toNat default).toNat) default)++([v27]:List Int)).map z7) (AI (z90 z7 (v76.getD (0+((((a0.getD v27.toNat default).getD v63.toNat default).fA).getD v75.toNat default).toNat) default) ([v27]:List Int)) (AI h374 ?_))
   obtain⟨h375,h⟩:=za h
   refine AI h375 ?_
   obtain⟨h376,h⟩:=za h
   refine EX (z4w 5 1 (v76.map (p5 z7)) (0+((((a0.getD v27.toNat default).getD v63.toNat default).fA).getD v75.toNat default).toNat) (7,0) (((v76.getD (0+((((a0.getD v27.toNat default).getD v63.toNat default).fA).getD v75.toNat default).toNat) default)++([v27]:List Int)).map z7)) (AI (zbn z7 h376) (AI (AI rfl (AI (z2r z7 h376) (NB rfl))) ?_))
   refine p2 (e:=[(0,.isl 1 (a0.map z6) false),(1,.msl (0,0) 1 0 a1.length true),(2,.msl (3,0) 1 0 a2.length true),(6,.msl (4,0) 1 0 ((v76.set (0+((((a0.getD v27.toNat default).getD v63.toNat default).fA).getD v75.toNat default).toNat) ((v76.getD (0+((((a0.getD v27.toNat default).getD v63.toNat default).fA).getD v75.toNat default).toNat) default)++([v27]:List Int))).length) true),(7,i6 v27),(20,.isl 1 (a0.map z6) false),(21,i6 ((a0.map z6).length:Int)),(22,i6 v27),(27,.isl 2 ((a0.getD v27.toNat default).map z8) false),(28,i6 (((a0.getD v27.toNat default).map z8).length:Int)),(29,i6 v63),(34,.isl 1 ((((a0.getD v27.toNat default).getD v63.toNat default).fA).map z7) false),(35,i6 (((((a0.getD v27.toNat default).getD v63.toNat default).fA).map z7).length:Int)),(36,i6 v75)]) (L:=([((0,0),.rows 1 (a1.map z7)),((3,0),.rows 1 (a2.map z7)),((4,0),.rows 1 (wm 5 1 ((v76.set (0+((((a0.getD v27.toNat default).getD v63.toNat default).fA).getD v75.toNat default).toNat) ((v76.getD (0+((((a0.getD v27.toNat default).getD v63.toNat default).fA).getD v75.toNat default).toNat) default)++([v27]:List Int))).map (p5 z7))))]++(fam 5 (v76.set (0+((((a0.getD v27.toNat default).getD v63.toNat default).fA).getD v75.toNat default).toNat) ((v76.getD (0+((((a0.getD v27.toNat default).getD v63.toNat default).fA).getD v75.toNat default).toNat) default)++([v27]:List Int))).length none))) (n:=7) ?_ ?_
   ·exact y1x (t:=(7,0)) (i:=(0+((((a0.getD v27.toNat default).getD v63.toNat default).fA).getD v75.toNat default).toNat)) (M:=[((3,0),(3,0)),((4,0),(4,0))]) (lit':=[((7,0),.tok),((0,0),.rows 1 (a1.map z7)),((3,0),.rows 1 (a2.map z7)),((4,0),.rows 1 (z4w 5 1 (v76.map (p5 z7)) (0+((((a0.getD v27.toNat default).getD v63.toNat default).fA).getD v75.toNat default).toNat) (7,0) (((v76.getD (0+((((a0.getD v27.toNat default).getD v63.toNat default).fA).getD v75.toNat default).toNat) default)++([v27]:List Int)).map z7)))]) (T:=(AHeap.del (fam 5 v76.length (some (0+((((a0.getD v27.toNat default).getD v63.toNat default).fA).getD v75.toNat default).toNat))) (6,0))) (q:=5) (q':=5) rfl (by decide) rfl (IsFam.cast (by first|rfl|simp) (IsFam.del (by decide) IsFam.base)) (AI (VS rfl) (AI (p1 rfl (by first|rfl|omega|(simp;done)|(simp at *;omega)) rfl) (AI (p1 rfl (by first|rfl|omega|(simp;done)|(simp at *;omega)) rfl) (AI (p1 rfl (by first|rfl|omega|(simp;done)|(simp at *;omega)) rfl) (S4 rfl rfl rfl rfl (S4 rfl rfl rfl rfl (S2 rfl rfl TT))))))) (AI (AI rfl (p3 z7 (fun _=>rfl) _ a1)) (AI (AI rfl (p3 z7 (fun _=>rfl) _ a2)) (AI (AI rfl (BVw.grUE z7)) TT)))
   refine p2 ?_ (z1y h)
   exact Xa (M:=[((3,0),(3,0)),((4,0),(4,0))]) (lit':=[((0,0),.rows 1 (a1.map z7)),((3,0),.rows 1 (a2.map z7)),((4,0),.rows 1 (wm 5 1 ((v76.set (0+((((a0.getD v27.toNat default).getD v63.toNat default).fA).getD v75.toNat default).toNat) ((v76.getD (0+((((a0.getD v27.toNat default).getD v63.toNat default).fA).getD v75.toNat default).toNat) default)++([v27]:List Int))).map (p5 z7))))]) (T:=(fam 5 (v76.set (0+((((a0.getD v27.toNat default).getD v63.toNat default).fA).getD v75.toNat default).toNat) ((v76.getD (0+((((a0.getD v27.toNat default).getD v63.toNat default).fA).getD v75.toNat default).toNat) default)++([v27]:List Int))).length none)) (q:=5) (q':=5) rfl (IsFam.cast (by first|rfl|simp) IsFam.base) (AI (VS rfl) (AI (p1 rfl (by first|rfl|omega|(simp;done)|(simp at *;omega)) rfl) (AI (p1 rfl (by first|rfl|omega|(simp;done)|(simp at *;omega)) rfl) (AI (p1 rfl (by first|rfl|omega|(simp;done)|(simp at *;omega)) rfl) (S4 rfl rfl rfl rfl (S4 rfl rfl rfl rfl (S2 rfl rfl TT))))))) (AI (AI rfl (p3 z7 (fun _=>rfl) _ a1)) (AI (AI rfl (p3 z7 (fun _=>rfl) _ a2)) (AI (AI rfl p8) TT)))
  ·have h:=zm h369 h
   refine qp ?_
   refine p2 ?_ (z1y h)
   exact Xa (M:=[((3,0),(3,0)),((4,0),(4,0))]) (lit':=[((0,0),.rows 1 (a1.map z7)),((3,0),.rows 1 (a2.map z7)),((4,0),.rows 1 (wm 5 1 (v76.map (p5 z7))))]) (T:=(fam 5 v76.length none)) (q:=5) (q':=5) rfl (IsFam.cast (by first|rfl|simp) IsFam.base) (AI (VS rfl) (AI (p1 rfl (by first|rfl|omega|(simp;done)|(simp at *;omega)) rfl) (AI (p1 rfl (by first|rfl|omega|(simp;done)|(simp at *;omega)) rfl) (AI (p1 rfl (by first|rfl|omega|(simp;done)|(simp at *;omega)) rfl) (S4 rfl rfl rfl rfl (S4 rfl rfl rfl rfl (S2 rfl rfl TT))))))) (AI (AI rfl (p3 z7 (fun _=>rfl) _ a1)) (AI (AI rfl (p3 z7 (fun _=>rfl) _ a2)) (AI (AI rfl p8) TT)))
 ·have h:=zm h364 h
  refine ur ?_
  obtain⟨o,hq,rfl⟩:=p0.1 h
  replace h:=hq;clear hq
  refine AI nofun ?_
  refine p2 ?_ (z9w h)
  exact Xa (M:=[((3,0),(3,0)),((4,0),(4,0))]) (lit':=[((0,0),.rows 1 (a1.map z7)),((3,0),.rows 1 (a2.map z7)),((4,0),.rows 1 (wm 5 1 (v76.map (p5 z7))))]) (T:=(fam 5 v76.length none)) (q:=5) (q':=5) rfl (IsFam.cast (by first|rfl|simp) IsFam.base) (AI (VS rfl) (AI (p1 rfl (by first|rfl|omega|(simp;done)|(simp at *;omega)) rfl) (AI (p1 rfl (by first|rfl|omega|(simp;done)|(simp at *;omega)) rfl) (AI (p1 rfl (by first|rfl|omega|(simp;done)|(simp at *;omega)) rfl) (S4 rfl rfl rfl rfl (S2 rfl rfl (AI (VS rfl) TT))))))) (AI (AI rfl (p3 z7 (fun _=>rfl) _ a1)) (AI (AI rfl (p3 z7 (fun _=>rfl) _ a2)) (AI (AI rfl p8) TT)))
theorem zcm{a0:List (List GR)}{a1:List Int}{a2:List Int}{v27:Int}{v63:Int}{v75:Int}{v76:List (List Int)}{m:Option Nat}{o:((Int×(List (List Int))) ⊕ ((Int×(List (List Int))) ⊕ (List Int)))}(h:y7 m a0 a1 a2 v27 v63 v75 v76=some o) :
 LWp Try.prog ju 3 (.loop z94) (zb 4 (zb 3 (uw Try.prog ju 3 z2q (yi 3 6 (Yz a0 a1 a2 v27) (X0 a0 a1 a2 v27) (Ji a0 a1 a2) o)))) [(0,.isl 1 (a0.map z6) false),(1,.msl (0,0) 1 0 a1.length true),(2,.msl (3,0) 1 0 a2.length true),(6,.msl (4,0) 1 0 v76.length true),(7,i6 v27),(20,.isl 1 (a0.map z6) false),(21,i6 ((a0.map z6).length:Int)),(22,i6 v27),(27,.isl 2 ((a0.getD v27.toNat default).map z8) false),(28,i6 (((a0.getD v27.toNat default).map z8).length:Int)),(29,i6 v63),(34,.isl 1 ((((a0.getD v27.toNat default).getD v63.toNat default).fA).map z7) false),(35,i6 (((((a0.getD v27.toNat default).getD v63.toNat default).fA).map z7).length:Int)),(36,i6 v75)] ([((0,0),.rows 1 (a1.map z7)),((3,0),.rows 1 (a2.map z7)),((4,0),.rows 1 (wm 5 1 (v76.map (p5 z7))))]++(fam 5 v76.length none)) 6:=
 zn (m:=m) (s:=((v75,v76):(Int×(List (List Int))))) (r:=o) (fun(s:(Int×(List (List Int))))=>ya m a0 a1 a2 v27 v63 s.1 s.2) (Wp a0 a1 a2 v27 v63) (Vs a0 a1 a2 v27 v63) (Ue a0 a1 a2 v27) (fun s o h=>z97 h) h
def jy(m:Option Nat)(a0:List (List GR))(a1:List Int)(a2:List Int)(v27:Int)(v64:List (List Int)):Option ((Int×(List (List Int))) ⊕ (List Int)):=
 some (.inl ((W (v27+1)),v64))
def yv(m:Option Nat)(a0:List (List GR))(a1:List Int)(a2:List Int)(v27:Int)(v63:Int)(v64:List (List Int)):Option ((Int×(List (List Int))) ⊕ ((Int×(List (List Int))) ⊕ (List Int))):=
 if(decide (v63<(((a0.getD v27.toNat default).map z8).length:Int)))=true then
  if(0:Int)≤v63∧v63<(((a0.getD v27.toNat default).map z8).length:Int) then
  y7 m a0 a1 a2 v27 v63 0 v64
  else none
 else
  p6 p7 (
   jy m a0 a1 a2 v27 v64)
def qm(m:Option Nat)(a0:List (List GR))(a1:List Int)(a2:List Int)(v27:Int)(v63:Int)(v64:List (List Int)):Option ((Int×(List (List Int))) ⊕ (List Int)):=kw m (fun(s:(Int×(List (List Int))))=>yv m a0 a1 a2 v27 s.1 s.2) (v63,v64)
theorem zd6{a0:List (List GR)}{a1:List Int}{a2:List Int}{v27:Int}{v64:List (List Int)}{m:Option Nat}{o:((Int×(List (List Int))) ⊕ (List Int))}(h:jy m a0 a1 a2 v27 v64=some o) :
 LWp Try.prog ju 3 z2g (yi 3 6 (X8 a0 a1 a2) (Xz a0 a1 a2) (We a0 a1 a2) o) [(0,.isl 1 (a0.map z6) false),(1,.msl (0,0) 1 0 a1.length true),(2,.msl (3,0) 1 0 a2.length true),(6,.msl (4,0) 1 0 v64.length true),(20,.isl 1 (a0.map z6) false),(21,i6 ((a0.map z6).length:Int)),(22,i6 v27)] ([((0,0),.rows 1 (a1.map z7)),((3,0),.rows 1 (a2.map z7)),((4,0),.rows 1 (wm 5 1 (v64.map (p5 z7))))]++(fam 5 v64.length none)) 6:=by
 unfold jy at h
 refine Y6 ?_
 cases h
 exact AI rfl (Xa (M:=[((3,0),(3,0)),((4,0),(4,0))]) (lit':=[((0,0),.rows 1 (a1.map z7)),((3,0),.rows 1 (a2.map z7)),((4,0),.rows 1 (wm 5 1 (v64.map (p5 z7))))]) (T:=(fam 5 v64.length none)) (q:=5) (q':=5) rfl (IsFam.cast (by first|rfl|simp) IsFam.base) (AI (VS rfl) (AI (p1 rfl (by first|rfl|omega|(simp;done)|(simp at *;omega)) rfl) (AI (p1 rfl (by first|rfl|omega|(simp;done)|(simp at *;omega)) rfl) (AI (p1 rfl (by first|rfl|omega|(simp;done)|(simp at *;omega)) rfl) (S2 rfl rfl (AI (VS rfl) TT)))))) (AI (AI rfl (p3 z7 (fun _=>rfl) _ a1)) (AI (AI rfl (p3 z7 (fun _=>rfl) _ a2)) (AI (AI rfl p8) TT))))
theorem z98{a0:List (List GR)}{a1:List Int}{a2:List Int}{v27:Int}{v63:Int}{v64:List (List Int)}{m:Option Nat}{o:(Int×(List (List Int))) ⊕ ((Int×(List (List Int))) ⊕ (List Int))}(h:yv m a0 a1 a2 v27 v63 v64=some o) :
 LWp Try.prog ju 3 z8n (yi 3 6 (Yz a0 a1 a2 v27) (X0 a0 a1 a2 v27) (Ji a0 a1 a2) o) [(0,.isl 1 (a0.map z6) false),(1,.msl (0,0) 1 0 a1.length true),(2,.msl (3,0) 1 0 a2.length true),(6,.msl (4,0) 1 0 v64.length true),(7,i6 v27),(20,.isl 1 (a0.map z6) false),(21,i6 ((a0.map z6).length:Int)),(22,i6 v27),(27,.isl 2 ((a0.getD v27.toNat default).map z8) false),(28,i6 (((a0.getD v27.toNat default).map z8).length:Int)),(29,i6 v63)] ([((0,0),.rows 1 (a1.map z7)),((3,0),.rows 1 (a2.map z7)),((4,0),.rows 1 (wm 5 1 (v64.map (p5 z7))))]++(fam 5 v64.length none)) 6:=by
 unfold yv at h
 refine SR ?_
 refine xn ?_
 refine qh (v:=(decide (v63<(((a0.getD v27.toNat default).map z8).length:Int)))) rfl TT (fun h336=>?_) (fun h336=>?_)
 ·have h:=zj h336 h
  refine qp ?_
  refine xn ?_
  refine zo ?_
  refine SR ?_
  obtain⟨h337,h⟩:=za h
  refine AI h337 ?_
  refine EX (z8 ((a0.getD v27.toNat default).getD v63.toNat default)) (AI (zc z8 _ _ (yj z8 h337)) (AI (AI (xv h337) (NB rfl)) ?_))
  refine SR ?_
  refine p2 (e:=[(0,.isl 1 (a0.map z6) false),(1,.msl (0,0) 1 0 a1.length true),(2,.msl (3,0) 1 0 a2.length true),(6,.msl (4,0) 1 0 v64.length true),(7,i6 v27),(20,.isl 1 (a0.map z6) false),(21,i6 ((a0.map z6).length:Int)),(22,i6 v27),(27,.isl 2 ((a0.getD v27.toNat default).map z8) false),(28,i6 (((a0.getD v27.toNat default).map z8).length:Int)),(29,i6 v63),(34,.isl 1 ((((a0.getD v27.toNat default).getD v63.toNat default).fA).map z7) false),(35,i6 (((((a0.getD v27.toNat default).getD v63.toNat default).fA).map z7).length:Int)),(36,i6 0)]) (L:=([((0,0),.rows 1 (a1.map z7)),((3,0),.rows 1 (a2.map z7)),((4,0),.rows 1 (wm 5 1 (v64.map (p5 z7))))]++(fam 5 v64.length none))) (n:=6) ?_ ?_
  ·exact Xa (M:=[((3,0),(3,0)),((4,0),(4,0))]) (lit':=[((6,0),.one [i6 (((a0.getD v27.toNat default).getD v63.toNat default).fM),.isl 1 ((((a0.getD v27.toNat default).getD v63.toNat default).fA).map z7) false]),((0,0),.rows 1 (a1.map z7)),((3,0),.rows 1 (a2.map z7)),((4,0),.rows 1 (wm 5 1 (v64.map (p5 z7))))]) (T:=(fam 5 v64.length none)) (q:=5) (q':=5) rfl (IsFam.cast (by first|rfl|simp) IsFam.base) (AI (VS rfl) (AI (p1 rfl (by first|rfl|omega|(simp;done)|(simp at *;omega)) rfl) (AI (p1 rfl (by first|rfl|omega|(simp;done)|(simp at *;omega)) rfl) (AI (p1 rfl (by first|rfl|omega|(simp;done)|(simp at *;omega)) rfl) (S4 rfl rfl rfl rfl (S4 rfl rfl rfl rfl (S2 rfl rfl TT))))))) (AI (AI rfl (p3 z7 (fun _=>rfl) _ a1)) (AI (AI rfl (p3 z7 (fun _=>rfl) _ a2)) (AI (AI rfl p8) TT)))
  refine zo ?_
  refine p2 ?_ (zcm h)
  exact Xa (M:=[((3,0),(3,0)),((4,0),(4,0))]) (lit':=[((0,0),.rows 1 (a1.map z7)),((3,0),.rows 1 (a2.map z7)),((4,0),.rows 1 (wm 5 1 (v64.map (p5 z7))))]) (T:=(fam 5 v64.length none)) (q:=5) (q':=5) rfl (IsFam.cast (by first|rfl|simp) IsFam.base) (AI (VS rfl) (AI (p1 rfl (by first|rfl|omega|(simp;done)|(simp at *;omega)) rfl) (AI (p1 rfl (by first|rfl|omega|(simp;done)|(simp at *;omega)) rfl) (AI (p1 rfl (by first|rfl|omega|(simp;done)|(simp at *;omega)) rfl) (S4 rfl rfl rfl rfl (S4 rfl rfl rfl rfl (S2 rfl rfl TT))))))) (AI (AI rfl (p3 z7 (fun _=>rfl) _ a1)) (AI (AI rfl (p3 z7 (fun _=>rfl) _ a2)) (AI (AI rfl p8) TT)))
 ·have h:=zm h336 h
  refine ur ?_
  obtain⟨o,hq,rfl⟩:=p0.1 h
  replace h:=hq;clear hq
  refine AI nofun ?_
  refine p2 ?_ (zd6 h)
  exact Xa (M:=[((3,0),(3,0)),((4,0),(4,0))]) (lit':=[((0,0),.rows 1 (a1.map z7)),((3,0),.rows 1 (a2.map z7)),((4,0),.rows 1 (wm 5 1 (v64.map (p5 z7))))]) (T:=(fam 5 v64.length none)) (q:=5) (q':=5) rfl (IsFam.cast (by first|rfl|simp) IsFam.base) (AI (VS rfl) (AI (p1 rfl (by first|rfl|omega|(simp;done)|(simp at *;omega)) rfl) (AI (p1 rfl (by first|rfl|omega|(simp;done)|(simp at *;omega)) rfl) (AI (p1 rfl (by first|rfl|omega|(simp;done)|(simp at *;omega)) rfl) (S2 rfl rfl (AI (VS rfl) TT)))))) (AI (AI rfl (p3 z7 (fun _=>rfl) _ a1)) (AI (AI rfl (p3 z7 (fun _=>rfl) _ a2)) (AI (AI rfl p8) TT)))
theorem zb1{a0:List (List GR)}{a1:List Int}{a2:List Int}{v27:Int}{v63:Int}{v64:List (List Int)}{m:Option Nat}{o:((Int×(List (List Int))) ⊕ (List Int))}(h:qm m a0 a1 a2 v27 v63 v64=some o) :
 LWp Try.prog ju 3 (.loop z8n) (zb 2 (zb 1 (uw Try.prog ju 3 z2g (yi 3 6 (X8 a0 a1 a2) (Xz a0 a1 a2) (We a0 a1 a2) o)))) [(0,.isl 1 (a0.map z6) false),(1,.msl (0,0) 1 0 a1.length true),(2,.msl (3,0) 1 0 a2.length true),(6,.msl (4,0) 1 0 v64.length true),(7,i6 v27),(20,.isl 1 (a0.map z6) false),(21,i6 ((a0.map z6).length:Int)),(22,i6 v27),(27,.isl 2 ((a0.getD v27.toNat default).map z8) false),(28,i6 (((a0.getD v27.toNat default).map z8).length:Int)),(29,i6 v63)] ([((0,0),.rows 1 (a1.map z7)),((3,0),.rows 1 (a2.map z7)),((4,0),.rows 1 (wm 5 1 (v64.map (p5 z7))))]++(fam 5 v64.length none)) 6:=
 zn (m:=m) (s:=((v63,v64):(Int×(List (List Int))))) (r:=o) (fun(s:(Int×(List (List Int))))=>yv m a0 a1 a2 v27 s.1 s.2) (Yz a0 a1 a2 v27) (X0 a0 a1 a2 v27) (Ji a0 a1 a2) (fun s o h=>z98 h) h
def jt(m:Option Nat)(a0:List (List GR))(v28:List (List Int))(v98:Nat)(v100:List Int)(v101:List Int)(v119:Int)(v126:Int)(v133:Nat)(v134:Nat)(v135:List Int):Option ((Nat×Nat×Int×(List Int)) ⊕ ((Nat×Nat×(List Int)×(List Int)) ⊕ (List Int))):=
 some (.inl (v133,v134,(W (v126+1)),v135))
def ql(m:Option Nat)(a0:List (List GR))(v28:List (List Int))(v98:Nat)(v100:List Int)(v101:List Int)(v119:Int)(v124:Nat)(v125:Nat)(v126:Int)(v127:List Int):Option ((Nat×Nat×Int×(List Int)) ⊕ ((Nat×Nat×(List Int)×(List Int)) ⊕ (List Int))):=
 if(decide (v126<(((v28.getD (0+(v101.getD (v98+(0:Int).toNat) default).toNat) default).map z7).length:Int)))=true then
  if(0:Int)≤v126∧v126<(((v28.getD (0+(v101.getD (v98+(0:Int).toNat) default).toNat) default).map z7).length:Int) then
  (qx m v124 v125 ((v28.getD (0+(v101.getD (v98+(0:Int).toNat) default).toNat) default).getD v126.toNat default) v127).bind fun v132=>
  if(!v132)=true then
   if v124+v125≤(v127.map z7).length then
   if(((v127.drop v124).take v125++([((v28.getD (0+(v101.getD (v98+(0:Int).toNat) default).toNat) default).getD v126.toNat default)]:List Int)).map z7).length*8≤140737488355328 then
   jt m a0 v28 v98 v100 v101 v119 v126 0 ((((v127.drop v124).take v125++([((v28.getD (0+(v101.getD (v98+(0:Int).toNat) default).toNat) default).getD v126.toNat default)]:List Int)).map z7).length) ((v127.drop v124).take v125++([((v28.getD (0+(v101.getD (v98+(0:Int).toNat) default).toNat) default).getD v126.toNat default)]:List Int))
   else none
   else none
  else
   jt m a0 v28 v98 v100 v101 v119 v126 v124 v125 v127
  else none
 else
  p6 p7 (
   some (.inl (v124,v125,(v100.set (0+(v101.getD (v98+(0:Int).toNat) default).toNat) (y6 .or .i64 (v100.getD (0+(v101.getD (v98+(0:Int).toNat) default).toNat) default) v119)),v127)))
def yg(m:Option Nat)(a0:List (List GR))(v28:List (List Int))(v98:Nat)(v100:List Int)(v101:List Int)(v119:Int)(v124:Nat)(v125:Nat)(v126:Int)(v127:List Int):Option ((Nat×Nat×(List Int)×(List Int)) ⊕ (List Int)):=kw m (fun(s:(Nat×Nat×Int×(List Int)))=>ql m a0 v28 v98 v100 v101 v119 s.1 s.2.1 s.2.2.1 s.2.2.2) (v124,v125,v126,v127)
def zu(m:Option Nat)(a0:List (List GR))(v28:List (List Int))(v98:Nat)(v99:Nat)(v100:List Int)(v101:List Int):Option ((Nat×Nat×(List Int)×(List Int)) ⊕ (List Int)):=
 if(decide (((v99:Nat):Int) > 0))=true then
  if(0:Int)≤0∧0<((v99:Nat):Int) then
  if(v98+(0:Int).toNat)<v101.length then
  if(0:Int)≤1∧1≤((v99:Nat):Int) then
  if(0:Int)≤(v101.getD (v98+(0:Int).toNat) default)∧(v101.getD (v98+(0:Int).toNat) default)<((v100.length:Nat):Int) then
  if(0+(v101.getD (v98+(0:Int).toNat) default).toNat)<v100.length then
  if(0:Int)≤(v101.getD (v98+(0:Int).toNat) default)∧(v101.getD (v98+(0:Int).toNat) default)<((a0.map z6).length:Int) then
  (jl m (a0.getD ((v101.getD (v98+(0:Int).toNat) default).toNat) default) v100).bind fun v119=>
  if(0:Int)≤(v101.getD (v98+(0:Int).toNat) default)∧(v101.getD (v98+(0:Int).toNat) default)<((v100.length:Nat):Int) then
  if(0+(v101.getD (v98+(0:Int).toNat) default).toNat)<v100.length then
  if((y6 .or .i64 (v100.getD (0+(v101.getD (v98+(0:Int).toNat) default).toNat) default) v119)==(v100.getD (0+(v101.getD (v98+(0:Int).toNat) default).toNat) default))=true then
   some (.inl ((v98+(1:Int).toNat),(v99-(1:Int).toNat),v100,v101))
  else
   if(0:Int)≤(v101.getD (v98+(0:Int).toNat) default)∧(v101.getD (v98+(0:Int).toNat) default)<((v100.length:Nat):Int) then
   if(0+(v101.getD (v98+(0:Int).toNat) default).toNat)<v100.length then
   if(0:Int)≤(v101.getD (v98+(0:Int).toNat) default)∧(v101.getD (v98+(0:Int).toNat) default)<((v28.length:Nat):Int) then
   if(0+(v101.getD (v98+(0:Int).toNat) default).toNat)<v28.length then
   yg m a0 v28 v98 v100 v101 v119 (v98+(1:Int).toNat) (v99-(1:Int).toNat) 0 v101
   else none
   else none
   else none
   else none
  else none
  else none
  else none
  else none
  else none
  else none
  else none
  else none
 else
  p6 p7 (
   some v100)
def yw(m:Option Nat)(a0:List (List GR))(v28:List (List Int))(v98:Nat)(v99:Nat)(v100:List Int)(v101:List Int):Option (List Int):=kw m (fun(s:(Nat×Nat×(List Int)×(List Int)))=>zu m a0 v28 s.1 s.2.1 s.2.2.1 s.2.2.2) (v98,v99,v100,v101)
def yu(m:Option Nat)(a0:List (List GR))(a1:List Int)(a2:List Int)(v28:List (List Int)):Option (List Int):=
 yw m a0 v28 0 a2.length a1 a2
def qb(m:Option Nat)(a0:List (List GR))(a1:List Int)(a2:List Int)(v27:Int)(v28:List (List Int)):Option ((Int×(List (List Int))) ⊕ (List Int)):=
 if(decide (v27<((a0.map z6).length:Int)))=true then
  if(0:Int)≤v27∧v27<((a0.map z6).length:Int) then
  qm m a0 a1 a2 v27 0 v28
  else none
 else
  p6 p7 (
   yu m a0 a1 a2 v28)
def qw(m:Option Nat)(a0:List (List GR))(a1:List Int)(a2:List Int)(v27:Int)(v28:List (List Int)):Option (List Int):=kw m (fun(s:(Int×(List (List Int))))=>qb m a0 a1 a2 s.1 s.2) (v27,v28)
def Xc(a0:List (List GR))(v28:List (List Int))(s:(Nat×Nat×(List Int)×(List Int))):Env:=[(0,.isl 1 (a0.map z6) false),(1,.msl (0,0) 1 0 s.2.2.1.length true),(2,.msl (3,0) 1 s.1 s.2.1 false),(6,.msl (4,0) 1 0 v28.length true)]
def Jj(a0:List (List GR))(v28:List (List Int))(s:(Nat×Nat×(List Int)×(List Int))):AHeap:=([((0,0),.rows 1 (s.2.2.1.map z7)),((3,0),.rows 1 (s.2.2.2.map z7)),((4,0),.rows 1 (wm 5 1 (v28.map (p5 z7))))]++(fam 5 v28.length none))
def Vb(a0:List (List GR))(a1:List Int)(a2:List Int)(o:(List Int)):Exit→Env→AHeap→Nat→Prop:=(zb 6 (z1a a0 a1 a2 o))
def Ww(a0:List (List GR))(v28:List (List Int))(v98:Nat)(v100:List Int)(v101:List Int)(v119:Int)(s:(Nat×Nat×Int×(List Int))):Env:=[(0,.isl 1 (a0.map z6) false),(1,.msl (0,0) 1 0 ((v100.set (0+(v101.getD (v98+(0:Int).toNat) default).toNat) (y6 .or .i64 (v100.getD (0+(v101.getD (v98+(0:Int).toNat) default).toNat) default) v119)).length) true),(2,.msl (3,0) 1 s.1 s.2.1 false),(6,.msl (4,0) 1 0 v28.length true),(92,.isl 1 ((v28.getD (0+(v101.getD (v98+(0:Int).toNat) default).toNat) default).map z7) false),(93,i6 (((v28.getD (0+(v101.getD (v98+(0:Int).toNat) default).toNat) default).map z7).length:Int)),(94,i6 s.2.2.1)]
def Vz(a0:List (List GR))(v28:List (List Int))(v98:Nat)(v100:List Int)(v101:List Int)(v119:Int)(s:(Nat×Nat×Int×(List Int))):AHeap:=([((0,0),.rows 1 ((v100.set (0+(v101.getD (v98+(0:Int).toNat) default).toNat) (y6 .or .i64 (v100.getD (0+(v101.getD (v98+(0:Int).toNat) default).toNat) default) v119)).map z7)),((3,0),.rows 1 (s.2.2.2.map z7)),((4,0),.rows 1 (wm 5 1 (v28.map (p5 z7))))]++(fam 5 v28.length none))
def Us(a0:List (List GR))(a1:List Int)(a2:List Int)(v28:List (List Int))(o:((Nat×Nat×(List Int)×(List Int)) ⊕ (List Int))):Exit→Env→AHeap→Nat→Prop:=(zb 8 (zb 7 (yi 3 6 (Xc a0 v28) (Jj a0 v28) (Vb a0 a1 a2) o)))
theorem z1z{a1:List Int}{a2:List Int}{a0:List (List GR)}{v28:List (List Int)}{v98:Nat}{v100:List Int}{v101:List Int}{v119:Int}{v126:Int}{v133:Nat}{v134:Nat}{v135:List Int}{m:Option Nat}{o:((Nat×Nat×Int×(List Int)) ⊕ ((Nat×Nat×(List Int)×(List Int)) ⊕ (List Int)))}(h:jt m a0 v28 v98 v100 v101 v119 v126 v133 v134 v135=some o) :
 LWp Try.prog ju 3 zih (yi 3 6 (Ww a0 v28 v98 v100 v101 v119) (Vz a0 v28 v98 v100 v101 v119) (Us a0 a1 a2 v28) o) [(0,.isl 1 (a0.map z6) false),(1,.msl (0,0) 1 0 ((v100.set (0+(v101.getD (v98+(0:Int).toNat) default).toNat) (y6 .or .i64 (v100.getD (0+(v101.getD (v98+(0:Int).toNat) default).toNat) default) v119)).length) true),(2,.msl (3,0) 1 v133 v134 false),(6,.msl (4,0) 1 0 v28.length true),(92,.isl 1 ((v28.getD (0+(v101.getD (v98+(0:Int).toNat) default).toNat) default).map z7) false),(93,i6 (((v28.getD (0+(v101.getD (v98+(0:Int).toNat) default).toNat) default).map z7).length:Int)),(94,i6 v126)] ([((0,0),.rows 1 ((v100.set (0+(v101.getD (v98+(0:Int).toNat) default).toNat) (y6 .or .i64 (v100.getD (0+(v101.getD (v98+(0:Int).toNat) default).toNat) default) v119)).map z7)),((3,0),.rows 1 (v135.map z7)),((4,0),.rows 1 (wm 5 1 (v28.map (p5 z7))))]++(fam 5 v28.length none)) 6:=by
 unfold jt at h
 refine Y6 ?_
 cases h
 exact AI rfl (Xa (M:=[((3,0),(3,0)),((4,0),(4,0))]) (lit':=[((0,0),.rows 1 ((v100.set (0+(v101.getD (v98+(0:Int).toNat) default).toNat) (y6 .or .i64 (v100.getD (0+(v101.getD (v98+(0:Int).toNat) default).toNat) default) v119)).map z7)),((3,0),.rows 1 (v135.map z7)),((4,0),.rows 1 (wm 5 1 (v28.map (p5 z7))))]) (T:=(fam 5 v28.length none)) (q:=5) (q':=5) rfl (IsFam.cast (by first|rfl|simp) IsFam.base) (AI (VS rfl) (AI (p1 rfl (by first|rfl|omega|(simp;done)|(simp at *;omega)) rfl) (AI (pB _ _ _ _ _ _ rfl) (AI (p1 rfl (by first|rfl|omega|(simp;done)|(simp at *;omega)) rfl) (S2 rfl rfl (AI (VS rfl) TT)))))) (AI (AI rfl (p3 z7 (fun _=>rfl) _ (v100.set (0+(v101.getD (v98+(0:Int).toNat) default).toNat) (y6 .or .i64 (v100.getD (0+(v101.getD (v98+(0:Int).toNat) default).toNat) default) v119)))) (AI (AI rfl (p3 z7 (fun _=>rfl) _ v135)) (AI (AI rfl p8) TT))))
set_option maxHeartbeats 4000000 in
theorem z7i{a1:List Int}{a2:List Int}{a0:List (List GR)}{v28:List (List Int)}{v98:Nat}{v100:List Int}{v101:List Int}{v119:Int}{v124:Nat}{v125:Nat}{v126:Int}{v127:List Int}{m:Option Nat}{o:(Nat×Nat×Int×(List Int)) ⊕ ((Nat×Nat×(List Int)×(List Int)) ⊕ (List Int))}(h:ql m a0 v28 v98 v100 v101 v119 v124 v125 v126 v127=some o) :
 LWp Try.prog ju 3 z9k (yi 3 6 (Ww a0 v28 v98 v100 v101 v119) (Vz a0 v28 v98 v100 v101 v119) (Us a0 a1 a2 v28) o) [(0,.isl 1 (a0.map z6) false),(1,.msl (0,0) 1 0 ((v100.set (0+(v101.getD (v98+(0:Int).toNat) default).toNat) (y6 .or .i64 (v100.getD (0+(v101.getD (v98+(0:Int).toNat) default).toNat) default) v119)).length) true),(2,.msl (3,0) 1 v124 v125 false),(6,.msl (4,0) 1 0 v28.length true),(92,.isl 1 ((v28.getD (0+(v101.getD (v98+(0:Int).toNat) default).toNat) default).map z7) false),(93,i6 (((v28.getD (0+(v101.getD (v98+(0:Int).toNat) default).toNat) default).map z7).length:Int)),(94,i6 v126)] ([((0,0),.rows 1 ((v100.set (0+(v101.getD (v98+(0:Int).toNat) default).toNat) (y6 .or .i64 (v100.getD (0+(v101.getD (v98+(0:Int).toNat) default).toNat) default) v119)).map z7)),((3,0),.rows 1 (v127.map z7)),((4,0),.rows 1 (wm 5 1 (v28.map (p5 z7))))]++(fam 5 v28.length none)) 6:=by
 unfold ql at h
 refine SR ?_
 refine xn ?_
 refine qh (v:=(decide (v126<(((v28.getD (0+(v101.getD (v98+(0:Int).toNat) default).toNat) default).map z7).length:Int)))) rfl TT (fun h470=>?_) (fun h470=>?_)
 ·have h:=zj h470 h
  refine qp ?_
  refine xn ?_
  refine zo ?_
  refine SR ?_
  obtain⟨h471,h⟩:=za h
  refine AI h471 ?_
  refine EX (z7 ((v28.getD (0+(v101.getD (v98+(0:Int).toNat) default).toNat) default).getD v126.toNat default)) (AI (zc z7 _ _ (yj z7 h471)) (AI (AI (xv h471) (NB rfl)) ?_))
  refine SR ?_
  obtain⟨v132,h472,h⟩:=bind_some h
  refine Q4 (k:=3) (m:=0) (L':=[((3,0),.rows 1 (v127.map z7))]) (rest:=([((0,0),.rows 1 ((v100.set (0+(v101.getD (v98+(0:Int).toNat) default).toNat) (y6 .or .i64 (v100.getD (0+(v101.getD (v98+(0:Int).toNat) default).toNat) default) v119)).map z7)),((4,0),.rows 1 (wm 5 1 (v28.map (p5 z7))))]++(fam 5 v28.length none))) (R':=.bool v132) [((0,0),(3,0))] (zhj h472) rfl rfl rfl (AI (pB _ _ _ _ _ _ rfl) (AI (VS rfl) TT)) (AI (h0I (3,0) rfl rfl (p3 z7 (fun _=>rfl) _ v127)) TT) (Zd _ rfl) (AI rfl (AI (qj z7 (fun _=>rfl) _ _) TT)) (Un (lit:=[((0,0),.rows 1 ((v100.set (0+(v101.getD (v98+(0:Int).toNat) default).toNat) (y6 .or .i64 (v100.getD (0+(v101.getD (v98+(0:Int).toNat) default).toNat) default) v119)).map z7)),((3,0),.rows 1 (v127.map z7)),((4,0),.rows 1 (wm 5 1 (v28.map (p5 z7))))]) (T:=(fam 5 v28.length none)) InQ.base (fun _=>rfl) rfl) ?_
  refine p2 (e:=[(0,.isl 1 (a0.map z6) false),(1,.msl (0,0) 1 0 ((v100.set (0+(v101.getD (v98+(0:Int).toNat) default).toNat) (y6 .or .i64 (v100.getD (0+(v101.getD (v98+(0:Int).toNat) default).toNat) default) v119)).length) true),(2,.msl (3,0) 1 v124 v125 false),(6,.msl (4,0) 1 0 v28.length true),(16,i6 ((v28.getD (0+(v101.getD (v98+(0:Int).toNat) default).toNat) default).getD v126.toNat default)),(92,.isl 1 ((v28.getD (0+(v101.getD (v98+(0:Int).toNat) default).toNat) default).map z7) false),(93,i6 (((v28.getD (0+(v101.getD (v98+(0:Int).toNat) default).toNat) default).map z7).length:Int)),(94,i6 v126),(101,.bool (!v132))]) (L:=([((0,0),.rows 1 ((v100.set (0+(v101.getD (v98+(0:Int).toNat) default).toNat) (y6 .or .i64 (v100.getD (0+(v101.getD (v98+(0:Int).toNat) default).toNat) default) v119)).map z7)),((3,0),.rows 1 (v127.map z7)),((4,0),.rows 1 (wm 5 1 (v28.map (p5 z7))))]++(fam 5 v28.length none))) (n:=6) ?_ ?_
  ·exact Xa (M:=[((3,0),(3,0)),((4,0),(4,0))]) (lit':=[((3,0),.rows 1 (v127.map z7)),((0,0),.rows 1 ((v100.set (0+(v101.getD (v98+(0:Int).toNat) default).toNat) (y6 .or .i64 (v100.getD (0+(v101.getD (v98+(0:Int).toNat) default).toNat) default) v119)).map z7)),((4,0),.rows 1 (wm 5 1 (v28.map (p5 z7))))]) (T:=(fam 5 v28.length none)) (q:=5) (q':=5) rfl (IsFam.cast (by first|rfl|simp) IsFam.base) (AI (VS rfl) (AI (p1 rfl (by first|rfl|omega|(simp;done)|(simp at *;omega)) rfl) (AI (pB _ _ _ _ _ _ rfl) (AI (p1 rfl (by first|rfl|omega|(simp;done)|(simp at *;omega)) rfl) (S4 rfl rfl rfl rfl (AI (VS rfl) TT)))))) (AI (AI rfl (p3 z7 (fun _=>rfl) _ (v100.set (0+(v101.getD (v98+(0:Int).toNat) default).toNat) (y6 .or .i64 (v100.getD (0+(v101.getD (v98+(0:Int).toNat) default).toNat) default) v119)))) (AI (AI rfl (p3 z7 (fun _=>rfl) _ v127)) (AI (AI rfl p8) TT)))
  refine qh (v:=(!v132)) rfl TT (fun h473=>?_) (fun h473=>?_)
  ·have h:=zj h473 h
   refine Y6 ?_
   obtain⟨h474,h⟩:=za h
   obtain⟨h475,h⟩:=za h
   refine AI (fun h=>p9 h) (AI h474 (EX (((v127.drop v124).take v125++([((v28.getD (0+(v101.getD (v98+(0:Int).toNat) default).toNat) default).getD v126.toNat default)]:List Int)).map z7) (AI (y1t z7 v127 ([((v28.getD (0+(v101.getD (v98+(0:Int).toNat) default).toNat) default).getD v126.toNat default)]:List Int) _ _) (AI h475 ?_))))
   refine p2 ?_ (z1z h)
   exact Xa (M:=[((3,0),(6,0)),((4,0),(4,0))]) (lit':=[((6,0),.rows 1 (((v127.drop v124).take v125++([((v28.getD (0+(v101.getD (v98+(0:Int).toNat) default).toNat) default).getD v126.toNat default)]:List Int)).map z7)),((0,0),.rows 1 ((v100.set (0+(v101.getD (v98+(0:Int).toNat) default).toNat) (y6 .or .i64 (v100.getD (0+(v101.getD (v98+(0:Int).toNat) default).toNat) default) v119)).map z7)),((4,0),.rows 1 (wm 5 1 (v28.map (p5 z7))))]) (T:=(AHeap.del (fam 5 v28.length none) (3,0))) (q:=5) (q':=5) rfl (IsFam.cast (by first|rfl|simp) (IsFam.del (by decide) IsFam.base)) (AI (VS rfl) (AI (p1 rfl (by first|rfl|omega|(simp;done)|(simp at *;omega)) rfl) (AI (p1 rfl (by first|rfl|omega|(simp;done)|(simp at *;omega)) rfl) (AI (p1 rfl (by first|rfl|omega|(simp;done)|(simp at *;omega)) rfl) (S2 rfl rfl (AI (VS rfl) TT)))))) (AI (AI rfl (p3 z7 (fun _=>rfl) _ (v100.set (0+(v101.getD (v98+(0:Int).toNat) default).toNat) (y6 .or .i64 (v100.getD (0+(v101.getD (v98+(0:Int).toNat) default).toNat) default) v119)))) (AI (AI rfl (p3 z7 (fun _=>rfl) _ ((v127.drop v124).take v125++([((v28.getD (0+(v101.getD (v98+(0:Int).toNat) default).toNat) default).getD v126.toNat default)]:List Int)))) (AI (AI rfl p8) TT)))
  ·have h:=zm h473 h
   refine qp ?_
   refine p2 ?_ (z1z h)
   exact Xa (M:=[((3,0),(3,0)),((4,0),(4,0))]) (lit':=[((0,0),.rows 1 ((v100.set (0+(v101.getD (v98+(0:Int).toNat) default).toNat) (y6 .or .i64 (v100.getD (0+(v101.getD (v98+(0:Int).toNat) default).toNat) default) v119)).map z7)),((3,0),.rows 1 (v127.map z7)),((4,0),.rows 1 (wm 5 1 (v28.map (p5 z7))))]) (T:=(fam 5 v28.length none)) (q:=5) (q':=5) rfl (IsFam.cast (by first|rfl|simp) IsFam.base) (AI (VS rfl) (AI (p1 rfl (by first|rfl|omega|(simp;done)|(simp at *;omega)) rfl) (AI (pB _ _ _ _ _ _ rfl) (AI (p1 rfl (by first|rfl|omega|(simp;done)|(simp at *;omega)) rfl) (S2 rfl rfl (AI (VS rfl) TT)))))) (AI (AI rfl (p3 z7 (fun _=>rfl) _ (v100.set (0+(v101.getD (v98+(0:Int).toNat) default).toNat) (y6 .or .i64 (v100.getD (0+(v101.getD (v98+(0:Int).toNat) default).toNat) default) v119)))) (AI (AI rfl (p3 z7 (fun _=>rfl) _ v127)) (AI (AI rfl p8) TT)))
 ·have h:=zm h470 h
  refine ur ?_
  obtain⟨o,hq,rfl⟩:=p0.1 h
  replace h:=hq;clear hq
  refine AI nofun ?_
  cases h
  exact AI rfl (Xa (M:=[((3,0),(3,0)),((4,0),(4,0))]) (lit':=[((0,0),.rows 1 ((v100.set (0+(v101.getD (v98+(0:Int).toNat) default).toNat) (y6 .or .i64 (v100.getD (0+(v101.getD (v98+(0:Int).toNat) default).toNat) default) v119)).map z7)),((3,0),.rows 1 (v127.map z7)),((4,0),.rows 1 (wm 5 1 (v28.map (p5 z7))))]) (T:=(fam 5 v28.length none)) (q:=5) (q':=5) rfl (IsFam.cast (by first|rfl|simp) IsFam.base) (AI (VS rfl) (AI (p1 rfl (by first|rfl|omega|(simp;done)|(simp at *;omega)) rfl) (AI (pB _ _ _ _ _ _ rfl) (AI (p1 rfl (by first|rfl|omega|(simp;done)|(simp at *;omega)) rfl) TT)))) (AI (AI rfl (p3 z7 (fun _=>rfl) _ (v100.set (0+(v101.getD (v98+(0:Int).toNat) default).toNat) (y6 .or .i64 (v100.getD (0+(v101.getD (v98+(0:Int).toNat) default).toNat) default) v119)))) (AI (AI rfl (p3 z7 (fun _=>rfl) _ v127)) (AI (AI rfl p8) TT))))
theorem zd3{a1:List Int}{a2:List Int}{a0:List (List GR)}{v28:List (List Int)}{v98:Nat}{v100:List Int}{v101:List Int}{v119:Int}{v124:Nat}{v125:Nat}{v126:Int}{v127:List Int}{m:Option Nat}{o:((Nat×Nat×(List Int)×(List Int)) ⊕ (List Int))}(h:yg m a0 v28 v98 v100 v101 v119 v124 v125 v126 v127=some o) :
 LWp Try.prog ju 3 (.loop z9k) (zb 8 (zb 7 (yi 3 6 (Xc a0 v28) (Jj a0 v28) (Vb a0 a1 a2) o))) [(0,.isl 1 (a0.map z6) false),(1,.msl (0,0) 1 0 ((v100.set (0+(v101.getD (v98+(0:Int).toNat) default).toNat) (y6 .or .i64 (v100.getD (0+(v101.getD (v98+(0:Int).toNat) default).toNat) default) v119)).length) true),(2,.msl (3,0) 1 v124 v125 false),(6,.msl (4,0) 1 0 v28.length true),(92,.isl 1 ((v28.getD (0+(v101.getD (v98+(0:Int).toNat) default).toNat) default).map z7) false),(93,i6 (((v28.getD (0+(v101.getD (v98+(0:Int).toNat) default).toNat) default).map z7).length:Int)),(94,i6 v126)] ([((0,0),.rows 1 ((v100.set (0+(v101.getD (v98+(0:Int).toNat) default).toNat) (y6 .or .i64 (v100.getD (0+(v101.getD (v98+(0:Int).toNat) default).toNat) default) v119)).map z7)),((3,0),.rows 1 (v127.map z7)),((4,0),.rows 1 (wm 5 1 (v28.map (p5 z7))))]++(fam 5 v28.length none)) 6:=
 zn (m:=m) (s:=((v124,v125,v126,v127):(Nat×Nat×Int×(List Int)))) (r:=o) (fun(s:(Nat×Nat×Int×(List Int)))=>ql m a0 v28 v98 v100 v101 v119 s.1 s.2.1 s.2.2.1 s.2.2.2) (Ww a0 v28 v98 v100 v101 v119) (Vz a0 v28 v98 v100 v101 v119) (Us a0 a1 a2 v28) (fun s o h=>z7i h) h
set_option maxHeartbeats 4000000 in
theorem z6z{a1:List Int}{a2:List Int}{a0:List (List GR)}{v28:List (List Int)}{v98:Nat}{v99:Nat}{v100:List Int}{v101:List Int}{m:Option Nat}{o:(Nat×Nat×(List Int)×(List Int)) ⊕ (List Int)}(h:zu m a0 v28 v98 v99 v100 v101=some o) :
 LWp Try.prog ju 3 z8j (yi 3 6 (Xc a0 v28) (Jj a0 v28) (Vb a0 a1 a2) o) [(0,.isl 1 (a0.map z6) false),(1,.msl (0,0) 1 0 v100.length true),(2,.msl (3,0) 1 v98 v99 false),(6,.msl (4,0) 1 0 v28.length true)] ([((0,0),.rows 1 (v100.map z7)),((3,0),.rows 1 (v101.map z7)),((4,0),.rows 1 (wm 5 1 (v28.map (p5 z7))))]++(fam 5 v28.length none)) 6:=by
 unfold zu at h
 refine xn ?_
 refine SR ?_
 refine qh (v:=(decide (((v99:Nat):Int) > 0))) rfl TT (fun h443=>?_) (fun h443=>?_)
 ·have h:=zj h443 h
  refine qp ?_
  refine zo ?_
  refine SR ?_
  obtain⟨h444,h⟩:=za h
  refine AI h444 ?_
  obtain⟨h445,h⟩:=za h
  refine EX (z7 (v101.getD (v98+(0:Int).toNat) default)) (AI (zc z7 _ _ h445) (AI (AI (kv z7 h445) (NB rfl)) ?_))
  refine SR ?_
  obtain⟨h446,h⟩:=za h
  refine EX (.msl (3,0) 1 (v98+(1:Int).toNat) (v99-(1:Int).toNat) false) (AI (by simp) (AI (AI rfl (AI (And.left h446) (AI (And.right h446) (Int.le_refl _)))) ?_))
  refine p2 (e:=[(0,.isl 1 (a0.map z6) false),(1,.msl (0,0) 1 0 v100.length true),(2,.msl (3,0) 1 (v98+(1:Int).toNat) (v99-(1:Int).toNat) false),(6,.msl (4,0) 1 0 v28.length true),(13,i6 (v101.getD (v98+(0:Int).toNat) default))]) (L:=([((0,0),.rows 1 (v100.map z7)),((3,0),.rows 1 (v101.map z7)),((4,0),.rows 1 (wm 5 1 (v28.map (p5 z7))))]++(fam 5 v28.length none))) (n:=6) ?_ ?_
  ·exact Xa (M:=[((3,0),(3,0)),((4,0),(4,0))]) (lit':=[((0,0),.rows 1 (v100.map z7)),((3,0),.rows 1 (v101.map z7)),((4,0),.rows 1 (wm 5 1 (v28.map (p5 z7))))]) (T:=(fam 5 v28.length none)) (q:=5) (q':=5) rfl (IsFam.cast (by first|rfl|simp) IsFam.base) (AI (VS rfl) (AI (p1 rfl (by first|rfl|omega|(simp;done)|(simp at *;omega)) rfl) (AI (pB _ _ _ _ _ _ rfl) (AI (p1 rfl (by first|rfl|omega|(simp;done)|(simp at *;omega)) rfl) (AI (VS rfl) TT))))) (AI (AI rfl (p3 z7 (fun _=>rfl) _ v100)) (AI (AI rfl (p3 z7 (fun _=>rfl) _ v101)) (AI (AI rfl p8) TT)))
  refine xn ?_
  refine z59 ?_
  obtain⟨h447,h⟩:=za h
  refine AI h447 ?_
  obtain⟨h448,h⟩:=za h
  refine EX (z7 (v100.getD (0+(v101.getD (v98+(0:Int).toNat) default).toNat) default)) (AI (zc z7 _ _ h448) (AI (AI (kv z7 h448) (NB rfl)) ?_))
  obtain⟨h449,h⟩:=za h
  refine AI h449 ?_
  refine EX (z6 (a0.getD ((v101.getD (v98+(0:Int).toNat) default).toNat) default)) (AI (zc z6 _ _ (yj z6 h449)) (AI (AI (xv h449) (NB rfl)) ?_))
  obtain⟨v119,h450,h⟩:=bind_some h
  refine PFn.readB [(0,0)] (zne h450) rfl (AI (VS rfl) (AI (Vw.frzB z7 Yg (fun h=>p9 h) rfl rfl (by first|rfl|omega|(simp;done)|(simp at *;omega))) TT)) ?_
  refine AI (AI (AI (kv z7 h448) (NB rfl)) (congrArg (xj false 1 0) (zc z7 _ _ h448))) ?_
  refine p2 (e:=[(0,.isl 1 (a0.map z6) false),(1,.msl (0,0) 1 0 v100.length true),(2,.msl (3,0) 1 (v98+(1:Int).toNat) (v99-(1:Int).toNat) false),(6,.msl (4,0) 1 0 v28.length true),(13,i6 (v101.getD (v98+(0:Int).toNat) default)),(14,i6 (y6 .or .i64 (v100.getD (0+(v101.getD (v98+(0:Int).toNat) default).toNat) default) v119))]) (L:=([((0,0),.rows 1 (v100.map z7)),((3,0),.rows 1 (v101.map z7)),((4,0),.rows 1 (wm 5 1 (v28.map (p5 z7))))]++(fam 5 v28.length none))) (n:=6) ?_ ?_
  ·exact Xa (M:=[((3,0),(3,0)),((4,0),(4,0))]) (lit':=[((0,0),.rows 1 (v100.map z7)),((3,0),.rows 1 (v101.map z7)),((4,0),.rows 1 (wm 5 1 (v28.map (p5 z7))))]) (T:=(fam 5 v28.length none)) (q:=5) (q':=5) rfl (IsFam.cast (by first|rfl|simp) IsFam.base) (AI (VS rfl) (AI (p1 rfl (by first|rfl|omega|(simp;done)|(simp at *;omega)) rfl) (AI (pB _ _ _ _ _ _ rfl) (AI (p1 rfl (by first|rfl|omega|(simp;done)|(simp at *;omega)) rfl) (S2 rfl rfl TT))))) (AI (AI rfl (p3 z7 (fun _=>rfl) _ v100)) (AI (AI rfl (p3 z7 (fun _=>rfl) _ v101)) (AI (AI rfl p8) TT)))
  refine xn ?_
  refine SR ?_
  obtain⟨h451,h⟩:=za h
  refine AI h451 ?_
  obtain⟨h452,h⟩:=za h
  refine EX (z7 (v100.getD (0+(v101.getD (v98+(0:Int).toNat) default).toNat) default)) (AI (zc z7 _ _ h452) (AI (AI (kv z7 h452) (NB rfl)) ?_))
  refine qh (v:=((y6 .or .i64 (v100.getD (0+(v101.getD (v98+(0:Int).toNat) default).toNat) default) v119)==(v100.getD (0+(v101.getD (v98+(0:Int).toNat) default).toNat) default))) rfl TT (fun h453=>?_) (fun h453=>?_)
  ·have h:=zj h453 h
   refine ur ?_
   cases h
   exact AI rfl (Xa (M:=[((3,0),(3,0)),((4,0),(4,0))]) (lit':=[((0,0),.rows 1 (v100.map z7)),((3,0),.rows 1 (v101.map z7)),((4,0),.rows 1 (wm 5 1 (v28.map (p5 z7))))]) (T:=(fam 5 v28.length none)) (q:=5) (q':=5) rfl (IsFam.cast (by first|rfl|simp) IsFam.base) (AI (VS rfl) (AI (p1 rfl (by first|rfl|omega|(simp;done)|(simp at *;omega)) rfl) (AI (pB _ _ _ _ _ _ rfl) (AI (p1 rfl (by first|rfl|omega|(simp;done)|(simp at *;omega)) rfl) TT)))) (AI (AI rfl (p3 z7 (fun _=>rfl) _ v100)) (AI (AI rfl (p3 z7 (fun _=>rfl) _ v101)) (AI (AI rfl p8) TT))))
  ·have h:=zm h453 h
   refine qp ?_
   refine SR ?_
   obtain⟨h454,h⟩:=za h
   refine AI h454 ?_
   obtain⟨h455,h⟩:=za h
   refine EX ((v100.set (0+(v101.getD (v98+(0:Int).toNat) default).toNat) (y6 .or .i64 (v100.getD (0+(v101.getD (v98+(0:Int).toNat) default).toNat) default) v119)).map z7) (AI (Kg z7 _ _ _ _ _ h455 rfl) (AI (AI rfl (AI (kv z7 h455) (NB rfl))) ?_))
   refine p2 (e:=[(0,.isl 1 (a0.map z6) false),(1,.msl (0,0) 1 0 v100.length true),(2,.msl (3,0) 1 (v98+(1:Int).toNat) (v99-(1:Int).toNat) false),(6,.msl (4,0) 1 0 v28.length true),(13,i6 (v101.getD (v98+(0:Int).toNat) default))]) (L:=([((0,0),.rows 1 ((v100.set (0+(v101.getD (v98+(0:Int).toNat) default).toNat) (y6 .or .i64 (v100.getD (0+(v101.getD (v98+(0:Int).toNat) default).toNat) default) v119)).map z7)),((3,0),.rows 1 (v101.map z7)),((4,0),.rows 1 (wm 5 1 (v28.map (p5 z7))))]++(fam 5 v28.length none))) (n:=6) ?_ ?_
   ·exact Xa (M:=[((3,0),(3,0)),((4,0),(4,0))]) (lit':=[((0,0),.rows 1 ((v100.set (0+(v101.getD (v98+(0:Int).toNat) default).toNat) (y6 .or .i64 (v100.getD (0+(v101.getD (v98+(0:Int).toNat) default).toNat) default) v119)).map z7)),((3,0),.rows 1 (v101.map z7)),((4,0),.rows 1 (wm 5 1 (v28.map (p5 z7))))]) (T:=(fam 5 v28.length none)) (q:=5) (q':=5) rfl (IsFam.cast (by first|rfl|simp) IsFam.base) (AI (VS rfl) (AI (p1 rfl (by first|rfl|omega|(simp;done)|(simp at *;omega)) rfl) (AI (pB _ _ _ _ _ _ rfl) (AI (p1 rfl (by first|rfl|omega|(simp;done)|(simp at *;omega)) rfl) (AI (VS rfl) TT))))) (AI (AI rfl (p3 z7 (fun _=>rfl) _ (v100.set (0+(v101.getD (v98+(0:Int).toNat) default).toNat) (y6 .or .i64 (v100.getD (0+(v101.getD (v98+(0:Int).toNat) default).toNat) default) v119)))) (AI (AI rfl (p3 z7 (fun _=>rfl) _ v101)) (AI (AI rfl p8) TT)))
   refine SR ?_
   obtain⟨h456,h⟩:=za h
   refine AI h456 ?_
   obtain⟨h457,h⟩:=za h
   refine EX ([.osl (5,(0+(v101.getD (v98+(0:Int).toNat) default).toNat)) 1 ((v28.getD (0+(v101.getD (v98+(0:Int).toNat) default).toNat) default).map z7)]) (AI (z0m z7 h457) (AI (AI (z2s z7 h457) (NB rfl)) ?_))
   refine zo ?_
   refine p2 ?_ (zd3 h)
   exact Xa (M:=[((3,0),(3,0)),((4,0),(4,0))]) (lit':=[((0,0),.rows 1 ((v100.set (0+(v101.getD (v98+(0:Int).toNat) default).toNat) (y6 .or .i64 (v100.getD (0+(v101.getD (v98+(0:Int).toNat) default).toNat) default) v119)).map z7)),((3,0),.rows 1 (v101.map z7)),((4,0),.rows 1 (wm 5 1 (v28.map (p5 z7))))]) (T:=(fam 5 v28.length none)) (q:=5) (q':=5) rfl (IsFam.cast (by first|rfl|simp) IsFam.base) (AI (VS rfl) (AI (p1 rfl (by first|rfl|omega|(simp;done)|(simp at *;omega)) rfl) (AI (pB _ _ _ _ _ _ rfl) (AI (p1 rfl (by first|rfl|omega|(simp;done)|(simp at *;omega)) rfl) (AI (Vw.oslI _ _ _) (S2 rfl rfl TT)))))) (AI (AI rfl (p3 z7 (fun _=>rfl) _ (v100.set (0+(v101.getD (v98+(0:Int).toNat) default).toNat) (y6 .or .i64 (v100.getD (0+(v101.getD (v98+(0:Int).toNat) default).toNat) default) v119)))) (AI (AI rfl (p3 z7 (fun _=>rfl) _ v101)) (AI (AI rfl p8) TT)))
 ·have h:=zm h443 h
  refine ur ?_
  obtain⟨o,hq,rfl⟩:=p0.1 h
  replace h:=hq;clear hq
  refine AI nofun ?_
  cases h
  exact z1f (n':=6) [] [] rfl rfl (VS rfl) (AI (AI rfl (p3 z7 (fun _=>rfl) _ v100)) TT)
theorem zc2{a1:List Int}{a2:List Int}{a0:List (List GR)}{v28:List (List Int)}{v98:Nat}{v99:Nat}{v100:List Int}{v101:List Int}{m:Option Nat}{o:(List Int)}(h:yw m a0 v28 v98 v99 v100 v101=some o) :
 LWp Try.prog ju 3 (.loop z8j) (zb 6 (z1a a0 a1 a2 o)) [(0,.isl 1 (a0.map z6) false),(1,.msl (0,0) 1 0 v100.length true),(2,.msl (3,0) 1 v98 v99 false),(6,.msl (4,0) 1 0 v28.length true)] ([((0,0),.rows 1 (v100.map z7)),((3,0),.rows 1 (v101.map z7)),((4,0),.rows 1 (wm 5 1 (v28.map (p5 z7))))]++(fam 5 v28.length none)) 6:=
 zn (m:=m) (s:=((v98,v99,v100,v101):(Nat×Nat×(List Int)×(List Int)))) (r:=o) (fun(s:(Nat×Nat×(List Int)×(List Int)))=>zu m a0 v28 s.1 s.2.1 s.2.2.1 s.2.2.2) (Xc a0 v28) (Jj a0 v28) (Vb a0 a1 a2) (fun s o h=>z6z h) h
theorem zc0{a0:List (List GR)}{a1:List Int}{a2:List Int}{v28:List (List Int)}{m:Option Nat}{o:(List Int)}(h:yu m a0 a1 a2 v28=some o) :
 LWp Try.prog ju 3 z2v (z1a a0 a1 a2 o) [(0,.isl 1 (a0.map z6) false),(1,.msl (0,0) 1 0 a1.length true),(2,.msl (3,0) 1 0 a2.length true),(6,.msl (4,0) 1 0 v28.length true)] ([((0,0),.rows 1 (a1.map z7)),((3,0),.rows 1 (a2.map z7)),((4,0),.rows 1 (wm 5 1 (v28.map (p5 z7))))]++(fam 5 v28.length none)) 6:=by
 unfold yu at h
 refine zo ?_
 refine p2 ?_ (zc2 h)
 exact Xa (M:=[((3,0),(3,0)),((4,0),(4,0))]) (lit':=[((0,0),.rows 1 (a1.map z7)),((3,0),.rows 1 (a2.map z7)),((4,0),.rows 1 (wm 5 1 (v28.map (p5 z7))))]) (T:=(fam 5 v28.length none)) (q:=5) (q':=5) rfl (IsFam.cast (by first|rfl|simp) IsFam.base) (AI (VS rfl) (AI (p1 rfl (by first|rfl|omega|(simp;done)|(simp at *;omega)) rfl) (AI (Vw.mslW rfl (by first|rfl|omega|(simp;done)|(simp at *;omega))) (AI (p1 rfl (by first|rfl|omega|(simp;done)|(simp at *;omega)) rfl) TT)))) (AI (AI rfl (p3 z7 (fun _=>rfl) _ a1)) (AI (AI rfl (p3 z7 (fun _=>rfl) _ a2)) (AI (AI rfl p8) TT)))
theorem zab{a0:List (List GR)}{a1:List Int}{a2:List Int}{v27:Int}{v28:List (List Int)}{m:Option Nat}{o:(Int×(List (List Int))) ⊕ (List Int)}(h:qb m a0 a1 a2 v27 v28=some o) :
 LWp Try.prog ju 3 z9g (yi 3 6 (X8 a0 a1 a2) (Xz a0 a1 a2) (We a0 a1 a2) o) [(0,.isl 1 (a0.map z6) false),(1,.msl (0,0) 1 0 a1.length true),(2,.msl (3,0) 1 0 a2.length true),(6,.msl (4,0) 1 0 v28.length true),(20,.isl 1 (a0.map z6) false),(21,i6 ((a0.map z6).length:Int)),(22,i6 v27)] ([((0,0),.rows 1 (a1.map z7)),((3,0),.rows 1 (a2.map z7)),((4,0),.rows 1 (wm 5 1 (v28.map (p5 z7))))]++(fam 5 v28.length none)) 6:=by
 unfold qb at h
 refine SR ?_
 refine xn ?_
 refine qh (v:=(decide (v27<((a0.map z6).length:Int)))) rfl TT (fun h252=>?_) (fun h252=>?_)
 ·have h:=zj h252 h
  refine qp ?_
  refine xn ?_
  refine zo ?_
  refine SR ?_
  obtain⟨h253,h⟩:=za h
  refine AI h253 ?_
  refine EX (z6 (a0.getD v27.toNat default)) (AI (zc z6 _ _ (yj z6 h253)) (AI (AI (xv h253) (NB rfl)) ?_))
  refine SR ?_
  refine p2 (e:=[(0,.isl 1 (a0.map z6) false),(1,.msl (0,0) 1 0 a1.length true),(2,.msl (3,0) 1 0 a2.length true),(6,.msl (4,0) 1 0 v28.length true),(7,i6 v27),(20,.isl 1 (a0.map z6) false),(21,i6 ((a0.map z6).length:Int)),(22,i6 v27),(27,.isl 2 ((a0.getD v27.toNat default).map z8) false),(28,i6 (((a0.getD v27.toNat default).map z8).length:Int)),(29,i6 0)]) (L:=([((0,0),.rows 1 (a1.map z7)),((3,0),.rows 1 (a2.map z7)),((4,0),.rows 1 (wm 5 1 (v28.map (p5 z7))))]++(fam 5 v28.length none))) (n:=6) ?_ ?_
  ·exact Xa (M:=[((3,0),(3,0)),((4,0),(4,0))]) (lit':=[((0,0),.rows 1 (a1.map z7)),((3,0),.rows 1 (a2.map z7)),((4,0),.rows 1 (wm 5 1 (v28.map (p5 z7))))]) (T:=(fam 5 v28.length none)) (q:=5) (q':=5) rfl (IsFam.cast (by first|rfl|simp) IsFam.base) (AI (VS rfl) (AI (p1 rfl (by first|rfl|omega|(simp;done)|(simp at *;omega)) rfl) (AI (p1 rfl (by first|rfl|omega|(simp;done)|(simp at *;omega)) rfl) (AI (p1 rfl (by first|rfl|omega|(simp;done)|(simp at *;omega)) rfl) (S4 rfl rfl rfl rfl (S2 rfl rfl (AI (VS rfl) TT))))))) (AI (AI rfl (p3 z7 (fun _=>rfl) _ a1)) (AI (AI rfl (p3 z7 (fun _=>rfl) _ a2)) (AI (AI rfl p8) TT)))
  refine zo ?_
  refine p2 ?_ (zb1 h)
  exact Xa (M:=[((3,0),(3,0)),((4,0),(4,0))]) (lit':=[((0,0),.rows 1 (a1.map z7)),((3,0),.rows 1 (a2.map z7)),((4,0),.rows 1 (wm 5 1 (v28.map (p5 z7))))]) (T:=(fam 5 v28.length none)) (q:=5) (q':=5) rfl (IsFam.cast (by first|rfl|simp) IsFam.base) (AI (VS rfl) (AI (p1 rfl (by first|rfl|omega|(simp;done)|(simp at *;omega)) rfl) (AI (p1 rfl (by first|rfl|omega|(simp;done)|(simp at *;omega)) rfl) (AI (p1 rfl (by first|rfl|omega|(simp;done)|(simp at *;omega)) rfl) (S4 rfl rfl rfl rfl (S2 rfl rfl (AI (VS rfl) TT))))))) (AI (AI rfl (p3 z7 (fun _=>rfl) _ a1)) (AI (AI rfl (p3 z7 (fun _=>rfl) _ a2)) (AI (AI rfl p8) TT)))
 ·have h:=zm h252 h
  refine ur ?_
  obtain⟨o,hq,rfl⟩:=p0.1 h
  replace h:=hq;clear hq
  refine AI nofun ?_
  refine p2 ?_ (zc0 h)
  exact Xa (M:=[((3,0),(3,0)),((4,0),(4,0))]) (lit':=[((0,0),.rows 1 (a1.map z7)),((3,0),.rows 1 (a2.map z7)),((4,0),.rows 1 (wm 5 1 (v28.map (p5 z7))))]) (T:=(fam 5 v28.length none)) (q:=5) (q':=5) rfl (IsFam.cast (by first|rfl|simp) IsFam.base) (AI (VS rfl) (AI (p1 rfl (by first|rfl|omega|(simp;done)|(simp at *;omega)) rfl) (AI (p1 rfl (by first|rfl|omega|(simp;done)|(simp at *;omega)) rfl) (AI (p1 rfl (by first|rfl|omega|(simp;done)|(simp at *;omega)) rfl) TT)))) (AI (AI rfl (p3 z7 (fun _=>rfl) _ a1)) (AI (AI rfl (p3 z7 (fun _=>rfl) _ a2)) (AI (AI rfl p8) TT)))
theorem zf1{a0:List (List GR)}{a1:List Int}{a2:List Int}{v27:Int}{v28:List (List Int)}{m:Option Nat}{o:(List Int)}(h:qw m a0 a1 a2 v27 v28=some o) :
 LWp Try.prog ju 3 (.loop z9g) (zb 0 (uw Try.prog ju 3 z2v (z1a a0 a1 a2 o))) [(0,.isl 1 (a0.map z6) false),(1,.msl (0,0) 1 0 a1.length true),(2,.msl (3,0) 1 0 a2.length true),(6,.msl (4,0) 1 0 v28.length true),(20,.isl 1 (a0.map z6) false),(21,i6 ((a0.map z6).length:Int)),(22,i6 v27)] ([((0,0),.rows 1 (a1.map z7)),((3,0),.rows 1 (a2.map z7)),((4,0),.rows 1 (wm 5 1 (v28.map (p5 z7))))]++(fam 5 v28.length none)) 6:=
 zn (m:=m) (s:=((v27,v28):(Int×(List (List Int))))) (r:=o) (fun(s:(Int×(List (List Int))))=>qb m a0 a1 a2 s.1 s.2) (X8 a0 a1 a2) (Xz a0 a1 a2) (We a0 a1 a2) (fun s o h=>zab h) h
def y8(m:Option Nat)(a0:List (List GR))(a1:List Int)(a2:List Int):Option (List Int):=
 if(0:Int)≤((a0.map z6).length:Int)∧((a0.map z6).length:Int)≤((a0.map z6).length:Int)∧((a0.map z6).length:Int)*24≤140737488355328 then
 qw m a0 a1 a2 0 (p4 ((a0.map z6).length:Int).toNat ([]:List Int))
 else none
theorem zg4{a0:List (List GR)}{a1:List Int}{a2:List Int}{m:Option Nat}{o:(List Int)}(h:y8 m a0 a1 a2=some o):LWp Try.prog ju 3 zbg (z1a a0 a1 a2 o) (qe 0 [.isl 1 (a0.map z6) false,.msl (0,0) 1 0 a1.length true,.msl (0,1) 1 0 a2.length true]) [((0,0),.rows 1 (a1.map z7)),((0,1),.rows 1 (a2.map z7))] 3:=by
 unfold y8 at h
 refine SR ?_
 obtain⟨h1,h⟩:=za h
 refine EX (p4 ((a0.map z6).length:Int).toNat [AVal.isl 1 [] true]) (EX true (AI (Or.inr rfl) (AI (by simp) (AI h1 ?_))))
 refine p2 (e:=[(0,.isl 1 (a0.map z6) false),(1,.msl (0,0) 1 0 a1.length true),(2,.msl (3,0) 1 0 a2.length true),(6,.msl (4,0) 1 0 ((p4 ((a0.map z6).length:Int).toNat ([]:List Int)).length) true)]) (L:=([((0,0),.rows 1 (a1.map z7)),((3,0),.rows 1 (a2.map z7)),((4,0),.rows 1 (wm 5 1 ((p4 ((a0.map z6).length:Int).toNat ([]:List Int)).map (p5 z7))))]++(fam 5 (p4 ((a0.map z6).length:Int).toNat ([]:List Int)).length none))) (n:=6) ?_ ?_
 ·exact zvp (M:=[((3,0),(0,1)),((4,0),(3,0))]) (lit':=[((3,0),.rows 1 (p4 ((a0.map z6).length:Int).toNat [.isl 1 [] true])),((0,0),.rows 1 (a1.map z7)),((0,1),.rows 1 (a2.map z7))]) (T:=[]) (q:=104) (q':=5) rfl (AI (VS rfl) (AI (p1 rfl (by first|rfl|omega|(simp;done)|(simp at *;omega)) rfl) (AI (p1 rfl (by first|rfl|omega|(simp;done)|(simp at *;omega)) rfl) (AI (p1 rfl (by first|rfl|omega|(simp;done)|(simp at *;omega)) rfl) TT)))) (AI (AI rfl (p3 z7 (fun _=>rfl) _ a1)) (AI (AI rfl (p3 z7 (fun _=>rfl) _ a2)) (AI (AI rfl (BVw.grNewE z7 (by decide))) TT)))
 refine xn ?_
 refine SR ?_
 refine zo ?_
 refine p2 ?_ (zf1 h)
 exact Xa (M:=[((3,0),(3,0)),((4,0),(4,0))]) (lit':=[((0,0),.rows 1 (a1.map z7)),((3,0),.rows 1 (a2.map z7)),((4,0),.rows 1 (wm 5 1 ((p4 ((a0.map z6).length:Int).toNat ([]:List Int)).map (p5 z7))))]) (T:=(fam 5 (p4 ((a0.map z6).length:Int).toNat ([]:List Int)).length none)) (q:=5) (q':=5) rfl (IsFam.cast (by first|rfl|simp) IsFam.base) (AI (VS rfl) (AI (p1 rfl (by first|rfl|omega|(simp;done)|(simp at *;omega)) rfl) (AI (p1 rfl (by first|rfl|omega|(simp;done)|(simp at *;omega)) rfl) (AI (p1 rfl (by first|rfl|omega|(simp;done)|(simp at *;omega)) rfl) (S2 rfl rfl (AI (VS rfl) TT)))))) (AI (AI rfl (p3 z7 (fun _=>rfl) _ a1)) (AI (AI rfl (p3 z7 (fun _=>rfl) _ a2)) (AI (AI rfl p8) TT)))
theorem ztc{a0:List (List GR)}{a1:List Int}{a2:List Int}{m:Option Nat}{o:(List Int)}(h:y8 m a0 a1 a2=some o):ACalls Try.prog 22 [.isl 1 (a0.map z6) false,.msl (0,0) 1 0 a1.length true,.msl (0,1) 1 0 a2.length true] [((0,0),.rows 1 (a1.map z7)),((0,1),.rows 1 (a2.map z7))] 3 (Ze 3 (.tup []) [((0,0),.rows 1 (o.map z7))]):=Zr (L:=zlh) zqj zo8 (NB rfl) (zg4 h)
def zj6:LCode:=(.seq (.region [Qo 2 (.mv (.c (.val (.slice none 0 0)))),
 Qi 3 0])
 (.seq (.seq (.region [Qm 6 0,
  Qc 7 21 6,
  Qm 4 7])
 (.seq (.region [Qm 8 4,
  Qo 9 (.bin .neq (.t 8) (.c (i6 0)))])
 (.cond (.t 9)
  (.seq (.region [Qm 10 4,
   Qo 2 (.mv (.c (.val (.slice none 0 0)))),
   Qm 3 10])
  .ret)
  .skip)))
 (.seq (.region [Qm 11 0,
  Qo 12 (.len false (.t 11)),
  Qo 13 (.mkslice false 1 8 [(i6 0)] (.t 12) (.t 12)),
  Qm 5 13])
 (.seq (.region [Qm 14 0,
  Qm 15 5,
  Qm 16 0,
  Qo 17 (.len false (.t 16)),
  Qc 18 25 17,
  Qo 19 (.call 22 [(.t 14),(.t 15),(.t 18)])])
 (.seq (.region [Qm 20 5,
  Qm 2 20,
  Qi 3 0])
 .ret)))))
def zau:Lay:=⟨21,[13],false⟩
def zbr:List LRes:=[.t 2,.t 3]
def zr5:LFn:=⟨1,zau,zj6,zbr⟩
theorem zpb:Zb Try.prog [13] 17=some zr5:=by kernel_rfl
theorem zmy:Xk Try.prog 17:=⟨_,Try.func17,rfl,rfl⟩
def Z1(m:Option Nat)(a0:List (List GR)):Option (Int×(List Int)):=
 (kl m a0).bind fun v1=>
 if(v1 != 0)=true then
  some (v1,([]:List Int))
 else
  if(0:Int)≤((a0.map z6).length:Int)∧((a0.map z6).length:Int)≤((a0.map z6).length:Int)∧((a0.map z6).length:Int)*8≤140737488355328 then
  (vz m ((a0.map z6).length:Int)).bind fun v2=>
  (y8 m a0 (p4 ((a0.map z6).length:Int).toNat (0:Int)) v2).bind fun v3=>
  if v3.length=(p4 ((a0.map z6).length:Int).toNat (0:Int)).length then
  some (0,v3)
  else none
  else none
def zxv(a0:List (List GR))(o:Int×(List Int)):Exit→Env→AHeap→Nat→Prop:=W4 zbr (Yy 3 4 (.tup [.msl (3,0) 1 0 o.2.length false,i6 o.1]) [((3,0),.rows 1 (o.2.map z7))])
theorem zfi{a0:List (List GR)}{m:Option Nat}{o:Int×(List Int)}(h:Z1 m a0=some o):LWp Try.prog zau 3 zj6 (zxv a0 o) (qe 0 [.isl 1 (a0.map z6) false]) [] 3:=by
 unfold Z1 at h
 refine xn ?_
 refine LWp.ghost 1 ?_
 refine Y6 ?_
 refine p2 (e:=[(0,.isl 1 (a0.map z6) false)]) (L:=[]) (n:=3) ?_ ?_
 ·exact qy (M:=[]) rfl (AI (VS rfl) TT) TT
 refine xn ?_
 refine SR ?_
 obtain⟨v1,h1,h⟩:=bind_some h
 refine PFn.call (zr8 h1) (AI (VS rfl) TT) ?_
 refine SR ?_
 refine qh (v:=(v1 != 0)) rfl TT (fun h2=>?_) (fun h2=>?_)
 ·have h:=zj h2 h
  refine xn ?_
  refine LWp.ghost 1 ?_
  refine Y6 ?_
  refine p2 (e:=[(2,.msl (3,0) 1 0 (([]:List Int).length) false),(3,i6 v1)]) (L:=[((3,0),.rows 1 (([]:List Int).map z7))]) (n:=4) ?_ ?_
  ·exact qy (M:=[((3,0),(3,0))]) rfl (AI (Vw.nilM _ _ _ _ _ _ rfl rfl) (AI (VS rfl) TT)) (AI (AI rfl (p3 z7 (fun _=>rfl) _ ([]:List Int))) TT)
  refine Ya ?_
  cases h
  exact AI TT (AI TT (z1f (n':=4) [((3,0),(3,0))] [] rfl rfl (Vw.tupL (AI (p1 rfl (by first|rfl|omega|(simp;done)|(simp at *;omega)) rfl) (AI (VS rfl) TT))) (AI (AI rfl (p3 z7 (fun _=>rfl) _ ([]:List Int))) TT)))
 ·have h:=zm h2 h
  refine qp ?_
  refine SR ?_
  obtain⟨h3,h⟩:=za h
  refine EX ((p4 ((a0.map z6).length:Int).toNat (0:Int)).map z7) (EX true (AI (Or.inl (V7 z7 ((a0.map z6).length:Int).toNat 0)) (AI (by simp) (AI h3 ?_))))
  refine p2 (e:=[(0,.isl 1 (a0.map z6) false),(5,.msl (3,0) 1 0 (((p4 ((a0.map z6).length:Int).toNat (0:Int)).map z7).length) true)]) (L:=[((3,0),.rows 1 ((p4 ((a0.map z6).length:Int).toNat (0:Int)).map z7))]) (n:=4) ?_ ?_
  ·exact qy (M:=[((3,0),(3,0))]) rfl (AI (VS rfl) (AI (p1 rfl (by first|rfl|omega|(simp;done)|(simp at *;omega)) rfl) TT)) (AI (AI rfl (p3 z7 (fun _=>rfl) _ (p4 ((a0.map z6).length:Int).toNat (0:Int)))) TT)
  refine SR ?_
  obtain⟨v2,h4,h⟩:=bind_some h
  refine Q4 (k:=3) (m:=1) (L':=[((4,0),.rows 1 (v2.map z7))]) (rest:=[((3,0),.rows 1 ((p4 ((a0.map z6).length:Int).toNat (0:Int)).map z7))]) (R':=.msl (4,0) 1 0 v2.length true) [] (zii h4) rfl rfl rfl (AI (VS rfl) TT) TT rfl (AI rfl (AI (qj z7 (fun _=>rfl) _ _) TT)) rfl ?_
  obtain⟨v3,h5,h⟩:=bind_some h
  refine Q4 (k:=3) (m:=0) (L':=[((3,0),.rows 1 (v3.map z7))]) (rest:=[]) (R':=.tup []) [((0,0),(3,0)),((0,1),(4,0))] (ztc h5) rfl rfl rfl (AI (VS rfl) (AI (p1 rfl (by first|rfl|omega|(simp;done)|(simp at *;omega)) rfl) (AI (p1 rfl (by first|rfl|omega|(simp;done)|(simp at *;omega)) rfl) TT))) (AI (h0I (3,0) rfl rfl (p3 z7 (fun _=>rfl) _ (p4 ((a0.map z6).length:Int).toNat (0:Int)))) (AI (h0I (4,0) rfl rfl (p3 z7 (fun _=>rfl) _ v2)) TT)) (Zd _ rfl) (AI rfl (AI (qj z7 (fun _=>rfl) _ _) TT)) rfl ?_
  obtain⟨h6,h⟩:=za h
  refine SR ?_
  refine p2 (e:=[(2,.msl (3,0) 1 0 (((p4 ((a0.map z6).length:Int).toNat (0:Int)).map z7).length) true),(3,i6 0)]) (L:=[((3,0),.rows 1 (v3.map z7))]) (n:=4) ?_ ?_
  ·exact qy (M:=[((3,0),(3,0))]) rfl (AI (p1 rfl (by first|rfl|omega|(simp;done)|(simp at *;omega)) rfl) (AI (VS rfl) TT)) (AI (AI rfl (p3 z7 (fun _=>rfl) _ v3)) TT)
  refine Ya ?_
  cases h
  exact AI TT (AI TT (z1f (n':=4) [((3,0),(3,0))] [] rfl rfl (Vw.tupL (AI (Vw.mslW rfl (by first|rfl|omega|(simp;done)|(simp at *;omega))) (AI (VS rfl) TT))) (AI (AI rfl (p3 z7 (fun _=>rfl) _ v3)) TT)))
theorem zhh{a0:List (List GR)}{m:Option Nat}{o:Int×(List Int)}(h:Z1 m a0=some o):ACalls Try.prog 17 [.isl 1 (a0.map z6) false] [] 3 (Ze 4 (.tup [.msl (3,0) 1 0 o.2.length false,i6 o.1]) [((3,0),.rows 1 (o.2.map z7))]):=Zr (L:=zr5) zpb zmy (NB rfl) (zfi h)
def zlx:LCode:=(.seq (.region [Qo 14 (.bin .lss (.t 13) (.t 12))])
 (.seq (.cond (.t 14)
  .skip
  (.exit 0))
 (.seq (.block 1
  (.seq (.region [Qm 15 13,
   Qm 5 15])
  (.seq (.quiet [Qm 16 0,
   Qm 17 5,
   Qo 18 (.iaddr 1 (.t 16) (.t 17)),
   Ql 19 1 18,
   Qm 20 1,
   Qm 21 5,
   Qo 22 (.iaddr 1 (.t 20) (.t 21)),
   Ql 23 1 22,
   Qo 24 (.bin .neq (.t 19) (.t 23))])
  (.cond (.t 24)
   (.seq (.region [Qb 4])
   .ret)
   .skip))))
 (.region [Qo 25 (.bin .add (.t 13) (.c (i6 1))),
  Qm 13 25]))))
def zgz:LCode:=(.seq (.region [Qo 4 (.mv (.c (.bool true)))])
 .ret)
def zvw:LCode:=(.seq (.region [Qb 4])
 (.seq (.seq (.region [Qm 6 0,
  Qo 7 (.len false (.t 6)),
  Qm 8 1,
  Qo 9 (.len false (.t 8)),
  Qo 10 (.bin .neq (.t 7) (.t 9))])
 (.cond (.t 10)
  (.seq (.region [Qb 4])
  .ret)
  .skip))
 (.seq (.seq (.region [Qm 11 0,
  Qo 12 (.len false (.t 11)),
  Qi 13 0])
 (.block 0
  (.loop
   zlx)))
 zgz)))
def Uh:Lay:=⟨26,[],false⟩
def zr7:List LRes:=[.t 4]
def y09:LFn:=⟨2,Uh,zvw,zr7⟩
theorem zwh:Zb Try.prog [] 28=some y09:=by kernel_rfl
theorem zy7:Xk Try.prog 28:=⟨_,Try.func28,rfl,rfl⟩
def ztb(a0:List Int)(a1:List Int)(o:Bool):Exit→Env→AHeap→Nat→Prop:=W4 zr7 (Yd (.bool o))
def z5v(a0:List Int)(a1:List Int)(s:Int):Env:=[(0,.isl 1 (a0.map z7) false),(1,.isl 1 (a1.map z7) false),(12,i6 ((a0.map z7).length:Int)),(13,i6 s)]
def zco(a0:List Int)(a1:List Int)(s:Int):AHeap:=[]
def zhz(a0:List Int)(a1:List Int)(o:Bool):Exit→Env→AHeap→Nat→Prop:=(zb 0 (uw Try.prog Uh 0 zgz (ztb a0 a1 o)))
def Y8(m:Option Nat):Option Bool:=
 some true
def Z8(m:Option Nat)(a0:List Int)(a1:List Int)(v1:Int):Option (Int ⊕ Bool):=
 if(decide (v1<((a0.map z7).length:Int)))=true then
  if(0:Int)≤v1∧v1<((a0.map z7).length:Int) then
  if(0:Int)≤v1∧v1<((a1.map z7).length:Int) then
  if((a0.getD v1.toNat default) != (a1.getD v1.toNat default))=true then
   p6 p7 (
    some false)
  else
   some (.inl (W (v1+1)))
  else none
  else none
 else
  p6 p7 (
   Y8 m)
def X3(m:Option Nat)(a0:List Int)(a1:List Int)(v1:Int):Option Bool:=kw m (fun(s:Int)=>Z8 m a0 a1 s) v1
theorem zr2{a0:List Int}{a1:List Int}{m:Option Nat}{o:Bool}(h:Y8 m=some o) :
 LWp Try.prog Uh 0 zgz (ztb a0 a1 o) [] [] 0:=by
 unfold Y8 at h
 refine SR ?_
 refine Ya ?_
 cases h
 exact AI TT (AI rfl (VS rfl))
theorem zki{a0:List Int}{a1:List Int}{v1:Int}{m:Option Nat}{o:Int ⊕ Bool}(h:Z8 m a0 a1 v1=some o) :
 LWp Try.prog Uh 0 zlx (yi 0 0 (z5v a0 a1) (zco a0 a1) (zhz a0 a1) o) [(0,.isl 1 (a0.map z7) false),(1,.isl 1 (a1.map z7) false),(12,i6 ((a0.map z7).length:Int)),(13,i6 v1)] [] 0:=by
 unfold Z8 at h
 refine SR ?_
 refine xn ?_
 refine qh (v:=(decide (v1<((a0.map z7).length:Int)))) rfl TT (fun h10=>?_) (fun h10=>?_)
 ·have h:=zj h10 h
  refine qp ?_
  refine xn ?_
  refine zo ?_
  refine SR ?_
  refine xn ?_
  refine zrs ?_
  obtain⟨h11,h⟩:=za h
  refine AI h11 ?_
  refine EX (z7 (a0.getD v1.toNat default)) (AI (zc z7 _ _ (yj z7 h11)) (AI (AI (xv h11) (NB rfl)) ?_))
  obtain⟨h12,h⟩:=za h
  refine AI h12 ?_
  refine EX (z7 (a1.getD v1.toNat default)) (AI (zc z7 _ _ (yj z7 h12)) (AI (AI (xv h12) (NB rfl)) ?_))
  refine p2 (e:=[(0,.isl 1 (a0.map z7) false),(1,.isl 1 (a1.map z7) false),(12,i6 ((a0.map z7).length:Int)),(13,i6 v1),(24,.bool ((a0.getD v1.toNat default) != (a1.getD v1.toNat default)))]) (L:=[]) (n:=0) ?_ ?_
  ·exact qy (M:=[]) rfl (S4 rfl rfl rfl rfl (AI (VS rfl) TT)) TT
  refine qh (v:=((a0.getD v1.toNat default) != (a1.getD v1.toNat default))) rfl TT (fun h13=>?_) (fun h13=>?_)
  ·have h:=zj h13 h
   refine SR ?_
   refine Ya ?_
   obtain⟨o,hq,rfl⟩:=p0.1 h
   replace h:=hq;clear hq
   refine AI nofun ?_
   cases h
   exact AI TT (AI rfl (VS rfl))
  ·have h:=zm h13 h
   refine qp ?_
   refine Y6 ?_
   cases h
   exact AI rfl (qy (M:=[]) rfl (S4 rfl rfl rfl rfl TT) TT)
 ·have h:=zm h10 h
  refine ur ?_
  obtain⟨o,hq,rfl⟩:=p0.1 h
  replace h:=hq;clear hq
  refine AI nofun ?_
  refine p2 ?_ (zr2 h)
  exact qy (M:=[]) rfl TT TT
theorem zpv{a0:List Int}{a1:List Int}{v1:Int}{m:Option Nat}{o:Bool}(h:X3 m a0 a1 v1=some o) :
 LWp Try.prog Uh 0 (.loop zlx) (zb 0 (uw Try.prog Uh 0 zgz (ztb a0 a1 o))) [(0,.isl 1 (a0.map z7) false),(1,.isl 1 (a1.map z7) false),(12,i6 ((a0.map z7).length:Int)),(13,i6 v1)] [] 0:=
 zn (m:=m) (s:=(v1:Int)) (r:=o) (fun(s:Int)=>Z8 m a0 a1 s) (z5v a0 a1) (zco a0 a1) (zhz a0 a1) (fun s o h=>zki h) h
def Z6(m:Option Nat)(a0:List Int)(a1:List Int):Option Bool:=
 if(((a0.map z7).length:Int) != ((a1.map z7).length:Int))=true then
  some false
 else
  X3 m a0 a1 0
theorem zrn{a0:List Int}{a1:List Int}{m:Option Nat}{o:Bool}(h:Z6 m a0 a1=some o):LWp Try.prog Uh 0 zvw (ztb a0 a1 o) (qe 0 [.isl 1 (a0.map z7) false,.isl 1 (a1.map z7) false]) [] 0:=by
 unfold Z6 at h
 refine SR ?_
 refine xn ?_
 refine SR ?_
 refine qh (v:=(((a0.map z7).length:Int) != ((a1.map z7).length:Int))) rfl TT (fun h1=>?_) (fun h1=>?_)
 ·have h:=zj h1 h
  refine SR ?_
  refine Ya ?_
  cases h
  exact AI TT (AI rfl (VS rfl))
 ·have h:=zm h1 h
  refine qp ?_
  refine xn ?_
  refine SR ?_
  refine p2 (e:=[(0,.isl 1 (a0.map z7) false),(1,.isl 1 (a1.map z7) false),(12,i6 ((a0.map z7).length:Int)),(13,i6 0)]) (L:=[]) (n:=0) ?_ ?_
  ·exact qy (M:=[]) rfl (S4 rfl rfl rfl rfl TT) TT
  refine zo ?_
  refine p2 ?_ (zpv h)
  exact qy (M:=[]) rfl (S4 rfl rfl rfl rfl TT) TT
theorem zyw{a0:List Int}{a1:List Int}{m:Option Nat}{o:Bool}(h:Z6 m a0 a1=some o):PFn Try.prog 28 [.isl 1 (a0.map z7) false,.isl 1 (a1.map z7) false] (.bool o):=pA (L:=y09) zwh zy7 (NB rfl) rfl (zrn h)
def zqu:LCode:=(.seq (.region [Qo 26 (.bin .lss (.t 25) (.t 24))])
 (.seq (.cond (.t 26)
  .skip
  (.exit 2))
 (.seq (.block 3
  (.seq (.region [Qm 27 25,
   Qo 28 (.iaddr 1 (.t 23) (.t 25)),
   Ql 29 1 28,
   Qm 8 27,
   Qm 9 29])
  (.region [Qm 30 7,
   Qm 31 8,
   Qm 32 9,
   Qm 33 5,
   Qo 34 (.call 27 [(.t 32),(.t 33)]),
   Qo 35 (.iaddr 1 (.t 30) (.t 31)),
   ⟨none,.store 1 (.t 35) (.t 34),none⟩])))
 (.region [Qo 36 (.bin .add (.t 25) (.c (i6 1))),
  Qm 25 36]))))
def zht:LCode:=(.seq (.seq (.region [Qm 37 7,
 Qm 38 5,
 Qo 39 (.call 28 [(.t 37),(.t 38)])])
 (.cond (.t 39)
  (.seq (.region [Qm 40 6,
   Qm 2 40,
   Qi 3 0])
  .ret)
  .skip))
 (.region [Qm 41 7,
  Qm 5 41]))
def zcx:LCode:=(.region [Qm 18 6,
 Qo 19 (.bin .add (.t 18) (.c (i6 1))),
 Qm 6 19])
def zqf:LCode:=(.seq (.block 1
 (.seq (.region [Qm 20 0,
  Qo 21 (.len false (.t 20)),
  Qo 22 (.mkslice false 1 8 [(i6 0)] (.t 21) (.t 21)),
  Qm 7 22])
 (.seq (.seq (.region [Qm 23 0,
  Qo 24 (.len false (.t 23)),
  Qi 25 0])
 (.block 2
  (.loop
   zqu)))
 zht)))
 zcx)
def zuv:LCode:=(.seq (.region [Qi 2 0,
 Qi 3 0])
 (.seq (.seq (.region [Qm 10 0,
  Qc 11 21 10,
  Qm 4 11])
 (.seq (.region [Qm 12 4,
  Qo 13 (.bin .neq (.t 12) (.c (i6 0)))])
 (.cond (.t 13)
  (.seq (.region [Qm 14 4,
   Qi 2 0,
   Qm 3 14])
  .ret)
  .skip)))
 (.seq (.region [Qm 15 0,
  Qo 16 (.len false (.t 15)),
  Qo 17 (.mkslice false 1 8 [(i6 0)] (.t 16) (.t 16)),
  Qm 5 17])
 (.seq (.region [Qi 6 0])
 (.block 0
  (.loop
   zqf))))))
def Q8:Lay:=⟨42,[17,22],false⟩
def zn2:List LRes:=[.t 2,.t 3]
def zyq:LFn:=⟨1,Q8,zuv,zn2⟩
theorem zwe:Zb Try.prog [17,22] 18=some zyq:=by kernel_rfl
theorem zx1:Xk Try.prog 18:=⟨_,Try.func18,rfl,rfl⟩
def zy0(a0:List (List GR))(o:Int×Int):Exit→Env→AHeap→Nat→Prop:=W4 zn2 (Yd (.tup [i6 o.1,i6 o.2]))
def Xr(a0:List (List GR))(s:(Int×(List Int))):Env:=[(0,.isl 1 (a0.map z6) false),(5,.msl (0,0) 1 0 s.2.length true),(6,i6 s.1)]
def W2(a0:List (List GR))(s:(Int×(List Int))):AHeap:=[((0,0),.rows 1 (s.2.map z7))]
def Kj(a0:List (List GR))(o:(Int×Int)):Exit→Env→AHeap→Nat→Prop:=(zb 0 (zy0 a0 o))
def z6e(a0:List (List GR))(v8:Int)(v9:List Int)(s:(Int×(List Int))):Env:=[(0,.isl 1 (a0.map z6) false),(5,.msl (0,0) 1 0 v9.length true),(6,i6 v8),(7,.msl (1,0) 1 0 s.2.length true),(23,.isl 1 (a0.map z6) false),(24,i6 ((a0.map z6).length:Int)),(25,i6 s.1)]
def zd9(a0:List (List GR))(v8:Int)(v9:List Int)(s:(Int×(List Int))):AHeap:=[((0,0),.rows 1 (v9.map z7)),((1,0),.rows 1 (s.2.map z7))]
def zi9(a0:List (List GR))(o:((Int×(List Int)) ⊕ (Int×Int))):Exit→Env→AHeap→Nat→Prop:=(zb 2 (uw Try.prog Q8 0 zht (zb 1 (uw Try.prog Q8 0 zcx (yi 0 1 (Xr a0) (W2 a0) (Kj a0) o)))))
def Zg(m:Option Nat)(a0:List (List GR))(v8:Int)(v18:List Int):Option ((Int×(List Int)) ⊕ (Int×Int)):=
 some (.inl ((W (v8+1)),v18))
def ke(m:Option Nat)(a0:List (List GR))(v8:Int)(v9:List Int)(v18:List Int):Option ((Int×(List Int)) ⊕ (Int×Int)):=
 (Z6 m v18 v9).bind fun v21=>
 if v21=true then
  p6 p7 (
   some (v8,0))
 else
  Zg m a0 v8 v18
def kf(m:Option Nat)(a0:List (List GR))(v8:Int)(v9:List Int)(v17:Int)(v18:List Int):Option ((Int×(List Int)) ⊕ ((Int×(List Int)) ⊕ (Int×Int))):=
 if(decide (v17<((a0.map z6).length:Int)))=true then
  if(0:Int)≤v17∧v17<((a0.map z6).length:Int) then
  (jl m (a0.getD v17.toNat default) v9).bind fun v20=>
  if(0:Int)≤v17∧v17<((v18.length:Nat):Int) then
  if(0+v17.toNat)<v18.length then
  some (.inl ((W (v17+1)),(v18.set (0+v17.toNat) v20)))
  else none
  else none
  else none
 else
  p6 p7 (
   ke m a0 v8 v9 v18)
def ug(m:Option Nat)(a0:List (List GR))(v8:Int)(v9:List Int)(v17:Int)(v18:List Int):Option ((Int×(List Int)) ⊕ (Int×Int)):=kw m (fun(s:(Int×(List Int)))=>kf m a0 v8 v9 s.1 s.2) (v17,v18)
theorem znz{a0:List (List GR)}{v8:Int}{v18:List Int}{m:Option Nat}{o:((Int×(List Int)) ⊕ (Int×Int))}(h:Zg m a0 v8 v18=some o) :
 LWp Try.prog Q8 0 zcx (yi 0 1 (Xr a0) (W2 a0) (Kj a0) o) [(0,.isl 1 (a0.map z6) false),(5,.msl (0,0) 1 0 v18.length true),(6,i6 v8)] [((0,0),.rows 1 (v18.map z7))] 1:=by
 unfold Zg at h
 refine Y6 ?_
 cases h
 exact AI rfl (qy (M:=[((0,0),(0,0))]) rfl (AI (VS rfl) (AI (p1 rfl (by first|rfl|omega|(simp;done)|(simp at *;omega)) rfl) (AI (VS rfl) TT))) (AI (AI rfl (p3 z7 (fun _=>rfl) _ v18)) TT))
theorem zml{a0:List (List GR)}{v8:Int}{v9:List Int}{v18:List Int}{m:Option Nat}{o:((Int×(List Int)) ⊕ (Int×Int))}(h:ke m a0 v8 v9 v18=some o) :
 LWp Try.prog Q8 0 zht (zb 1 (uw Try.prog Q8 0 zcx (yi 0 1 (Xr a0) (W2 a0) (Kj a0) o))) [(0,.isl 1 (a0.map z6) false),(5,.msl (0,0) 1 0 v9.length true),(6,i6 v8),(7,.msl (1,0) 1 0 v18.length true)] [((0,0),.rows 1 (v9.map z7)),((1,0),.rows 1 (v18.map z7))] 2:=by
 unfold ke at h
 refine xn ?_
 refine SR ?_
 obtain⟨v21,h56,h⟩:=bind_some h
 refine PFn.readB [(1,0),(0,0)] (zyw h56) rfl (AI (Vw.frzB z7 Yg (fun h=>p9 h) rfl rfl (by first|rfl|omega|(simp;done)|(simp at *;omega))) (AI (Vw.frzB z7 Yg (fun h=>p9 h) rfl rfl (by first|rfl|omega|(simp;done)|(simp at *;omega))) TT)) ?_
 refine qh (v:=v21) rfl TT (fun h57=>?_) (fun h57=>?_)
 ·have h:=zj h57 h
  refine SR ?_
  refine Ya ?_
  obtain⟨o,hq,rfl⟩:=p0.1 h
  replace h:=hq;clear hq
  refine AI nofun ?_
  cases h
  exact AI TT (AI TT (AI rfl (VS rfl)))
 ·have h:=zm h57 h
  refine qp ?_
  refine Y6 ?_
  refine p2 ?_ (znz h)
  exact qy (M:=[((0,0),(1,0))]) rfl (AI (VS rfl) (AI (p1 rfl (by first|rfl|omega|(simp;done)|(simp at *;omega)) rfl) (AI (VS rfl) TT))) (AI (AI rfl (p3 z7 (fun _=>rfl) _ v18)) TT)
theorem zjd{a0:List (List GR)}{v8:Int}{v9:List Int}{v17:Int}{v18:List Int}{m:Option Nat}{o:(Int×(List Int)) ⊕ ((Int×(List Int)) ⊕ (Int×Int))}(h:kf m a0 v8 v9 v17 v18=some o) :
 LWp Try.prog Q8 0 zqu (yi 0 2 (z6e a0 v8 v9) (zd9 a0 v8 v9) (zi9 a0) o) [(0,.isl 1 (a0.map z6) false),(5,.msl (0,0) 1 0 v9.length true),(6,i6 v8),(7,.msl (1,0) 1 0 v18.length true),(23,.isl 1 (a0.map z6) false),(24,i6 ((a0.map z6).length:Int)),(25,i6 v17)] [((0,0),.rows 1 (v9.map z7)),((1,0),.rows 1 (v18.map z7))] 2:=by
 unfold kf at h
 refine SR ?_
 refine xn ?_
 refine qh (v:=(decide (v17<((a0.map z6).length:Int)))) rfl TT (fun h51=>?_) (fun h51=>?_)
 ·have h:=zj h51 h
  refine qp ?_
  refine xn ?_
  refine zo ?_
  refine SR ?_
  obtain⟨h52,h⟩:=za h
  refine AI h52 ?_
  refine EX (z6 (a0.getD v17.toNat default)) (AI (zc z6 _ _ (yj z6 h52)) (AI (AI (xv h52) (NB rfl)) ?_))
  refine Y6 ?_
  obtain⟨v20,h53,h⟩:=bind_some h
  refine PFn.readB [(0,0)] (zne h53) rfl (AI (VS rfl) (AI (Vw.frzB z7 Yg (fun h=>p9 h) rfl rfl (by first|rfl|omega|(simp;done)|(simp at *;omega))) TT)) ?_
  obtain⟨h54,h⟩:=za h
  refine AI h54 ?_
  obtain⟨h55,h⟩:=za h
  refine EX ((v18.set (0+v17.toNat) v20).map z7) (AI (Kg z7 _ _ _ _ _ h55 rfl) (AI (AI rfl (AI (kv z7 h55) (NB rfl))) ?_))
  refine p2 (e:=[(0,.isl 1 (a0.map z6) false),(5,.msl (0,0) 1 0 v9.length true),(6,i6 v8),(7,.msl (1,0) 1 0 v18.length true),(23,.isl 1 (a0.map z6) false),(24,i6 ((a0.map z6).length:Int)),(25,i6 v17)]) (L:=[((0,0),.rows 1 (v9.map z7)),((1,0),.rows 1 ((v18.set (0+v17.toNat) v20).map z7))]) (n:=2) ?_ ?_
  ·exact qy (M:=[((0,0),(0,0)),((1,0),(1,0))]) rfl (AI (VS rfl) (AI (p1 rfl (by first|rfl|omega|(simp;done)|(simp at *;omega)) rfl) (AI (VS rfl) (AI (p1 rfl (by first|rfl|omega|(simp;done)|(simp at *;omega)) rfl) (S2 rfl rfl (AI (VS rfl) TT)))))) (AI (AI rfl (p3 z7 (fun _=>rfl) _ v9)) (AI (AI rfl (p3 z7 (fun _=>rfl) _ (v18.set (0+v17.toNat) v20))) TT))
  refine Y6 ?_
  cases h
  exact AI rfl (qy (M:=[((0,0),(0,0)),((1,0),(1,0))]) rfl (AI (VS rfl) (AI (p1 rfl (by first|rfl|omega|(simp;done)|(simp at *;omega)) rfl) (AI (VS rfl) (AI (p1 rfl (by first|rfl|omega|(simp;done)|(simp at *;omega)) rfl) (S2 rfl rfl (AI (VS rfl) TT)))))) (AI (AI rfl (p3 z7 (fun _=>rfl) _ v9)) (AI (AI rfl (p3 z7 (fun _=>rfl) _ (v18.set (0+v17.toNat) v20))) TT)))
 ·have h:=zm h51 h
  refine ur ?_
  obtain⟨o,hq,rfl⟩:=p0.1 h
  replace h:=hq;clear hq
  refine AI nofun ?_
  refine p2 ?_ (zml h)
  exact qy (M:=[((0,0),(0,0)),((1,0),(1,0))]) rfl (AI (VS rfl) (AI (p1 rfl (by first|rfl|omega|(simp;done)|(simp at *;omega)) rfl) (AI (VS rfl) (AI (p1 rfl (by first|rfl|omega|(simp;done)|(simp at *;omega)) rfl) TT)))) (AI (AI rfl (p3 z7 (fun _=>rfl) _ v9)) (AI (AI rfl (p3 z7 (fun _=>rfl) _ v18)) TT))
theorem zr4{a0:List (List GR)}{v8:Int}{v9:List Int}{v17:Int}{v18:List Int}{m:Option Nat}{o:((Int×(List Int)) ⊕ (Int×Int))}(h:ug m a0 v8 v9 v17 v18=some o) :
 LWp Try.prog Q8 0 (.loop zqu) (zb 2 (uw Try.prog Q8 0 zht (zb 1 (uw Try.prog Q8 0 zcx (yi 0 1 (Xr a0) (W2 a0) (Kj a0) o))))) [(0,.isl 1 (a0.map z6) false),(5,.msl (0,0) 1 0 v9.length true),(6,i6 v8),(7,.msl (1,0) 1 0 v18.length true),(23,.isl 1 (a0.map z6) false),(24,i6 ((a0.map z6).length:Int)),(25,i6 v17)] [((0,0),.rows 1 (v9.map z7)),((1,0),.rows 1 (v18.map z7))] 2:=
 zn (m:=m) (s:=((v17,v18):(Int×(List Int)))) (r:=o) (fun(s:(Int×(List Int)))=>kf m a0 v8 v9 s.1 s.2) (z6e a0 v8 v9) (zd9 a0 v8 v9) (zi9 a0) (fun s o h=>zjd h) h
def kj(m:Option Nat)(a0:List (List GR))(v8:Int)(v9:List Int):Option ((Int×(List Int)) ⊕ (Int×Int)):=
 if(0:Int)≤((a0.map z6).length:Int)∧((a0.map z6).length:Int)≤((a0.map z6).length:Int)∧((a0.map z6).length:Int)*8≤140737488355328 then
 ug m a0 v8 v9 0 (p4 ((a0.map z6).length:Int).toNat (0:Int))
 else none
def ki(m:Option Nat)(a0:List (List GR))(v8:Int)(v9:List Int):Option (Int×Int):=kw m (fun(s:(Int×(List Int)))=>kj m a0 s.1 s.2) (v8,v9)
theorem zk1{a0:List (List GR)}{v8:Int}{v9:List Int}{m:Option Nat}{o:(Int×(List Int)) ⊕ (Int×Int)}(h:kj m a0 v8 v9=some o) :
 LWp Try.prog Q8 0 zqf (yi 0 1 (Xr a0) (W2 a0) (Kj a0) o) [(0,.isl 1 (a0.map z6) false),(5,.msl (0,0) 1 0 v9.length true),(6,i6 v8)] [((0,0),.rows 1 (v9.map z7))] 1:=by
 unfold kj at h
 refine xn ?_
 refine zo ?_
 refine SR ?_
 obtain⟨h40,h⟩:=za h
 refine EX ((p4 ((a0.map z6).length:Int).toNat (0:Int)).map z7) (EX true (AI (Or.inl (V7 z7 ((a0.map z6).length:Int).toNat 0)) (AI (by simp) (AI h40 ?_))))
 refine xn ?_
 refine SR ?_
 refine zo ?_
 refine p2 ?_ (zr4 h)
 exact qy (M:=[((0,0),(0,0)),((1,0),(1,0))]) rfl (AI (VS rfl) (AI (p1 rfl (by first|rfl|omega|(simp;done)|(simp at *;omega)) rfl) (AI (VS rfl) (AI (p1 rfl (by first|rfl|omega|(simp;done)|(simp at *;omega)) rfl) (S2 rfl rfl (AI (VS rfl) TT)))))) (AI (AI rfl (p3 z7 (fun _=>rfl) _ v9)) (AI (AI rfl (p3 z7 (fun _=>rfl) _ (p4 ((a0.map z6).length:Int).toNat (0:Int)))) TT))
theorem zpg{a0:List (List GR)}{v8:Int}{v9:List Int}{m:Option Nat}{o:(Int×Int)}(h:ki m a0 v8 v9=some o) :
 LWp Try.prog Q8 0 (.loop zqf) (zb 0 (zy0 a0 o)) [(0,.isl 1 (a0.map z6) false),(5,.msl (0,0) 1 0 v9.length true),(6,i6 v8)] [((0,0),.rows 1 (v9.map z7))] 1:=
 zn (m:=m) (s:=((v8,v9):(Int×(List Int)))) (r:=o) (fun(s:(Int×(List Int)))=>kj m a0 s.1 s.2) (Xr a0) (W2 a0) (Kj a0) (fun s o h=>zk1 h) h
def Y9(m:Option Nat)(a0:List (List GR)):Option (Int×Int):=
 (kl m a0).bind fun v1=>
 if(v1 != 0)=true then
  some (0,v1)
 else
  if(0:Int)≤((a0.map z6).length:Int)∧((a0.map z6).length:Int)≤((a0.map z6).length:Int)∧((a0.map z6).length:Int)*8≤140737488355328 then
  ki m a0 0 (p4 ((a0.map z6).length:Int).toNat (0:Int))
  else none
theorem zmw{a0:List (List GR)}{m:Option Nat}{o:Int×Int}(h:Y9 m a0=some o):LWp Try.prog Q8 0 zuv (zy0 a0 o) (qe 0 [.isl 1 (a0.map z6) false]) [] 0:=by
 unfold Y9 at h
 refine SR ?_
 refine xn ?_
 refine SR ?_
 obtain⟨v1,h1,h⟩:=bind_some h
 refine PFn.call (zr8 h1) (AI (VS rfl) TT) ?_
 refine SR ?_
 refine qh (v:=(v1 != 0)) rfl TT (fun h2=>?_) (fun h2=>?_)
 ·have h:=zj h2 h
  refine SR ?_
  refine p2 (e:=[(2,i6 0),(3,i6 v1)]) (L:=[]) (n:=0) ?_ ?_
  ·exact qy (M:=[]) rfl (S2 rfl rfl TT) TT
  refine Ya ?_
  cases h
  exact AI TT (AI TT (AI rfl (VS rfl)))
 ·have h:=zm h2 h
  refine qp ?_
  refine SR ?_
  obtain⟨h3,h⟩:=za h
  refine EX ((p4 ((a0.map z6).length:Int).toNat (0:Int)).map z7) (EX true (AI (Or.inl (V7 z7 ((a0.map z6).length:Int).toNat 0)) (AI (by simp) (AI h3 ?_))))
  refine p2 (e:=[(0,.isl 1 (a0.map z6) false),(5,.msl (0,0) 1 0 (((p4 ((a0.map z6).length:Int).toNat (0:Int)).map z7).length) true)]) (L:=[((0,0),.rows 1 ((p4 ((a0.map z6).length:Int).toNat (0:Int)).map z7))]) (n:=1) ?_ ?_
  ·exact qy (M:=[((0,0),(0,0))]) rfl (AI (VS rfl) (AI (p1 rfl (by first|rfl|omega|(simp;done)|(simp at *;omega)) rfl) TT)) (AI (AI rfl (p3 z7 (fun _=>rfl) _ (p4 ((a0.map z6).length:Int).toNat (0:Int)))) TT)
  refine SR ?_
  refine zo ?_
  refine p2 ?_ (zpg h)
  exact qy (M:=[((0,0),(0,0))]) rfl (AI (VS rfl) (AI (p1 rfl (by first|rfl|omega|(simp;done)|(simp at *;omega)) rfl) (AI (VS rfl) TT))) (AI (AI rfl (p3 z7 (fun _=>rfl) _ (p4 ((a0.map z6).length:Int).toNat (0:Int)))) TT)
theorem zzs{a0:List (List GR)}{m:Option Nat}{o:Int×Int}(h:Y9 m a0=some o):PFn Try.prog 18 [.isl 1 (a0.map z6) false] (.tup [i6 o.1,i6 o.2]):=pA (L:=zyq) zwe zx1 (NB rfl) rfl (zmw h)
def zl0:LCode:=(.seq (.region [Qo 15 (.bin .lss (.t 14) (.t 13))])
 (.seq (.cond (.t 15)
  .skip
  (.exit 0))
 (.seq (.block 1
  (.seq (.region [Qm 16 14,
   Qo 17 (.iaddr 1 (.t 12) (.t 14)),
   Ql 18 1 17,
   Qm 5 16,
   Qm 6 18])
  (.seq (.region [Qm 19 6,
   Qm 20 1,
   Qm 21 5,
   Qo 22 (.iaddr 1 (.t 20) (.t 21)),
   Ql 23 1 22,
   Qo 24 (.bin .neq (.t 19) (.t 23))])
  (.cond (.t 24)
   (.seq (.region [Qb 4])
   .ret)
   .skip))))
 (.region [Qo 25 (.bin .add (.t 14) (.c (i6 1))),
  Qm 14 25]))))
def zh8:LCode:=(.seq (.region [Qo 4 (.mv (.c (.bool true)))])
 .ret)
def zvx:LCode:=(.seq (.region [Qb 4])
 (.seq (.seq (.region [Qm 7 0,
  Qo 8 (.len false (.t 7)),
  Qm 9 1,
  Qo 10 (.len false (.t 9)),
  Qo 11 (.bin .neq (.t 8) (.t 10))])
 (.cond (.t 11)
  (.seq (.region [Qb 4])
  .ret)
  .skip))
 (.seq (.seq (.region [Qm 12 0,
  Qo 13 (.len false (.t 12)),
  Qi 14 0])
 (.block 0
  (.loop
   zl0)))
 zh8)))
def Uf:Lay:=⟨26,[],false⟩
def zl5:List LRes:=[.t 4]
def y05:LFn:=⟨2,Uf,zvx,zl5⟩
theorem zx5:Zb Try.prog [] 15=some y05:=by kernel_rfl
theorem zwx:Xk Try.prog 15:=⟨_,Try.func15,rfl,rfl⟩
def zto(a0:List Int)(a1:List Int)(o:Bool):Exit→Env→AHeap→Nat→Prop:=W4 zl5 (Yd (.bool o))
def z6f(a0:List Int)(a1:List Int)(s:Int):Env:=[(1,.isl 1 (a1.map z7) false),(12,.isl 1 (a0.map z7) false),(13,i6 ((a0.map z7).length:Int)),(14,i6 s)]
def zc4(a0:List Int)(a1:List Int)(s:Int):AHeap:=[]
def ziu(a0:List Int)(a1:List Int)(o:Bool):Exit→Env→AHeap→Nat→Prop:=(zb 0 (uw Try.prog Uf 0 zh8 (zto a0 a1 o)))
def vp(m:Option Nat):Option Bool:=
 some true
def qg(m:Option Nat)(a0:List Int)(a1:List Int)(v1:Int):Option (Int ⊕ Bool):=
 if(decide (v1<((a0.map z7).length:Int)))=true then
  if(0:Int)≤v1∧v1<((a0.map z7).length:Int) then
  if(0:Int)≤v1∧v1<((a1.map z7).length:Int) then
  if((a0.getD v1.toNat default) != (a1.getD v1.toNat default))=true then
   p6 p7 (
    some false)
  else
   some (.inl (W (v1+1)))
  else none
  else none
 else
  p6 p7 (
   vp m)
def jp(m:Option Nat)(a0:List Int)(a1:List Int)(v1:Int):Option Bool:=kw m (fun(s:Int)=>qg m a0 a1 s) v1
theorem zmt{a0:List Int}{a1:List Int}{m:Option Nat}{o:Bool}(h:vp m=some o) :
 LWp Try.prog Uf 0 zh8 (zto a0 a1 o) [] [] 0:=by
 unfold vp at h
 refine SR ?_
 refine Ya ?_
 cases h
 exact AI TT (AI rfl (VS rfl))
theorem zje{a0:List Int}{a1:List Int}{v1:Int}{m:Option Nat}{o:Int ⊕ Bool}(h:qg m a0 a1 v1=some o) :
 LWp Try.prog Uf 0 zl0 (yi 0 0 (z6f a0 a1) (zc4 a0 a1) (ziu a0 a1) o) [(1,.isl 1 (a1.map z7) false),(12,.isl 1 (a0.map z7) false),(13,i6 ((a0.map z7).length:Int)),(14,i6 v1)] [] 0:=by
 unfold qg at h
 refine SR ?_
 refine xn ?_
 refine qh (v:=(decide (v1<((a0.map z7).length:Int)))) rfl TT (fun h10=>?_) (fun h10=>?_)
 ·have h:=zj h10 h
  refine qp ?_
  refine xn ?_
  refine zo ?_
  refine SR ?_
  obtain⟨h11,h⟩:=za h
  refine AI h11 ?_
  refine EX (z7 (a0.getD v1.toNat default)) (AI (zc z7 _ _ (yj z7 h11)) (AI (AI (xv h11) (NB rfl)) ?_))
  refine SR ?_
  obtain⟨h12,h⟩:=za h
  refine AI h12 ?_
  refine EX (z7 (a1.getD v1.toNat default)) (AI (zc z7 _ _ (yj z7 h12)) (AI (AI (xv h12) (NB rfl)) ?_))
  refine p2 (e:=[(1,.isl 1 (a1.map z7) false),(12,.isl 1 (a0.map z7) false),(13,i6 ((a0.map z7).length:Int)),(14,i6 v1),(24,.bool ((a0.getD v1.toNat default) != (a1.getD v1.toNat default)))]) (L:=[]) (n:=0) ?_ ?_
  ·exact qy (M:=[]) rfl (S4 rfl rfl rfl rfl (AI (VS rfl) TT)) TT
  refine qh (v:=((a0.getD v1.toNat default) != (a1.getD v1.toNat default))) rfl TT (fun h13=>?_) (fun h13=>?_)
  ·have h:=zj h13 h
   refine SR ?_
   refine Ya ?_
   obtain⟨o,hq,rfl⟩:=p0.1 h
   replace h:=hq;clear hq
   refine AI nofun ?_
   cases h
   exact AI TT (AI rfl (VS rfl))
  ·have h:=zm h13 h
   refine qp ?_
   refine Y6 ?_
   cases h
   exact AI rfl (qy (M:=[]) rfl (S4 rfl rfl rfl rfl TT) TT)
 ·have h:=zm h10 h
  refine ur ?_
  obtain⟨o,hq,rfl⟩:=p0.1 h
  replace h:=hq;clear hq
  refine AI nofun ?_
  refine p2 ?_ (zmt h)
  exact qy (M:=[]) rfl TT TT
theorem zpm{a0:List Int}{a1:List Int}{v1:Int}{m:Option Nat}{o:Bool}(h:jp m a0 a1 v1=some o) :
 LWp Try.prog Uf 0 (.loop zl0) (zb 0 (uw Try.prog Uf 0 zh8 (zto a0 a1 o))) [(1,.isl 1 (a1.map z7) false),(12,.isl 1 (a0.map z7) false),(13,i6 ((a0.map z7).length:Int)),(14,i6 v1)] [] 0:=
 zn (m:=m) (s:=(v1:Int)) (r:=o) (fun(s:Int)=>qg m a0 a1 s) (z6f a0 a1) (zc4 a0 a1) (ziu a0 a1) (fun s o h=>zje h) h
def zq(m:Option Nat)(a0:List Int)(a1:List Int):Option Bool:=
 if(((a0.map z7).length:Int) != ((a1.map z7).length:Int))=true then
  some false
 else
  jp m a0 a1 0
theorem zn8{a0:List Int}{a1:List Int}{m:Option Nat}{o:Bool}(h:zq m a0 a1=some o):LWp Try.prog Uf 0 zvx (zto a0 a1 o) (qe 0 [.isl 1 (a0.map z7) false,.isl 1 (a1.map z7) false]) [] 0:=by
 unfold zq at h
 refine SR ?_
 refine xn ?_
 refine SR ?_
 refine qh (v:=(((a0.map z7).length:Int) != ((a1.map z7).length:Int))) rfl TT (fun h1=>?_) (fun h1=>?_)
 ·have h:=zj h1 h
  refine SR ?_
  refine Ya ?_
  cases h
  exact AI TT (AI rfl (VS rfl))
 ·have h:=zm h1 h
  refine qp ?_
  refine xn ?_
  refine SR ?_
  refine p2 (e:=[(1,.isl 1 (a1.map z7) false),(12,.isl 1 (a0.map z7) false),(13,i6 ((a0.map z7).length:Int)),(14,i6 0)]) (L:=[]) (n:=0) ?_ ?_
  ·exact qy (M:=[]) rfl (S4 rfl rfl rfl rfl TT) TT
  refine zo ?_
  refine p2 ?_ (zpm h)
  exact qy (M:=[]) rfl (S4 rfl rfl rfl rfl TT) TT
theorem z4b{a0:List Int}{a1:List Int}{m:Option Nat}{o:Bool}(h:zq m a0 a1=some o):PFn Try.prog 15 [.isl 1 (a0.map z7) false,.isl 1 (a1.map z7) false] (.bool o):=pA (L:=y05) zx5 zwx (NB rfl) rfl (zn8 h)
def zz4:LCode:=(.seq (.region [Qb 0])
 (.seq (.region [Qo 6 (.build [(i6 0),(.isl 1 [] true)] [(0,1,(.c (i6 1)))]),
  Qo 7 (.mkSl true 1 [(i6 0)] 1 [(0,(.c (i6 1)))]),
  Qo 8 (.build [(i6 0),(.isl 1 [] true)] [(0,1,(.c (i6 6))),(1,1,(.t 7))]),
  Qo 9 (.mkSl true 2 [(i6 0),(.isl 1 [] true)] 2 [(0,(.t 6)),(1,(.t 8))]),
  Qo 10 (.mkSl true 1 [(i6 0)] 1 [(0,(.c (i6 0)))]),
  Qo 11 (.build [(i6 0),(.isl 1 [] true)] [(0,1,(.c (i6 3))),(1,1,(.t 10))]),
  Qo 12 (.mkSl true 2 [(i6 0),(.isl 1 [] true)] 1 [(0,(.t 11))]),
  Qo 13 (.mkSl true 1 [(.isl 2 [] true)] 2 [(0,(.t 9)),(1,(.t 12))]),
  Qm 1 13])
 (.seq (.region [Qm 15 1,
  Qc 16 17 15,
  Qm 14 16,
  Qo 17 (.ext 0 (.t 14)),
  Qo 18 (.ext 1 (.t 14)),
  Qm 2 17,
  Qm 3 18])
 (.seq (.region [Qm 20 1,
  Qc 21 18 20,
  Qm 19 21,
  Qo 22 (.ext 0 (.t 19)),
  Qo 23 (.ext 1 (.t 19)),
  Qm 4 22,
  Qm 5 23])
 (.seq (.region [Qm 24 3,
  Qo 25 (.bin .eql (.t 24) (.c (i6 0))),
  Qm 26 25,
  Qn 27 5 (26,true),
  Qg 28 (.bin .eql (.t 27) (.c (i6 0))) (26,true),
  Qp 29 26 28,
  Qm 30 29,
  Qn 31 2 (30,true),
  Qg 32 (.mkSl true 1 [(i6 0)] 2 [(0,(.c (i6 1))),(1,(.c (i6 1)))]) (30,true),
  Qg 33 (.call 15 [(.t 31),(.t 32)]) (30,true),
  Qp 34 30 33,
  Qm 35 34,
  Qn 36 4 (35,true),
  Qg 37 (.bin .eql (.t 36) (.c (i6 2))) (35,true),
  Qp 38 35 37,
  Qm 0 38])
 .ret)))))
def zuy:Lay:=⟨39,[],false⟩
def zve:List LRes:=[.t 0]
def y1s:LFn:=⟨0,zuy,zz4,zve⟩
theorem zz3:Zb Try.prog [] 4=some y1s:=by kernel_rfl
theorem zyj:Xk Try.prog 4:=⟨_,Try.func4,rfl,rfl⟩
def y5(m:Option Nat):Option Bool:=
 (Z1 m ([([(GR.mk 1 ([]:List Int)),(GR.mk 6 ([1]:List Int))]:List GR),([(GR.mk 3 ([0]:List Int))]:List GR)]:List (List GR))).bind fun v1=>
 (Y9 m ([([(GR.mk 1 ([]:List Int)),(GR.mk 6 ([1]:List Int))]:List GR),([(GR.mk 3 ([0]:List Int))]:List GR)]:List (List GR))).bind fun v2=>
 (if(((v1.1==0)&&(v2.2==0))==true)=true then zq m v1.2 ([1,1]:List Int) else some default).bind fun v3=>
 some ((((v1.1==0)&&(v2.2==0))&&v3)&&(v2.1==2))
def y2m(o:Bool):Exit→Env→AHeap→Nat→Prop:=W4 zve (Yd (.bool o))
theorem zu4{m:Option Nat}{o:Bool}(h:y5 m=some o):LWp Try.prog zuy 0 zz4 (y2m o) (qe 0 []) [] 0:=by
 unfold y5 at h
 refine SR ?_
 refine SR ?_
 refine p2 (e:=[(1,.isl 1 (([([(GR.mk 1 ([]:List Int)),(GR.mk 6 ([1]:List Int))]:List GR),([(GR.mk 3 ([0]:List Int))]:List GR)]:List (List GR)).map z6) true)]) (L:=[]) (n:=0) ?_ ?_
 ·exact qy (M:=[]) rfl (AI (VS rfl) TT) TT
 refine SR ?_
 obtain⟨v1,h1,h⟩:=bind_some h
 refine Q4 (k:=3) (m:=1) (L':=[((0,0),.rows 1 (v1.2.map z7))]) (rest:=[]) (R':=.tup [.msl (0,0) 1 0 v1.2.length false,i6 v1.1]) [] (zhh h1) rfl rfl rfl (AI (Vw.islF _ _ _) TT) TT rfl (AI rfl (AI (qj z7 (fun _=>rfl) _ _) TT)) rfl ?_
 refine SR ?_
 obtain⟨v2,h2,h⟩:=bind_some h
 refine PFn.call (zzs h2) (AI (Vw.islF _ _ _) TT) ?_
 refine p2 (e:=[(2,.msl (0,0) 1 0 v1.2.length false),(3,i6 v1.1),(4,i6 v2.1),(5,i6 v2.2)]) (L:=[((0,0),.rows 1 (v1.2.map z7))]) (n:=1) ?_ ?_
 ·exact qy (M:=[((0,0),(0,0))]) rfl (AI (p1 rfl (by first|rfl|omega|(simp;done)|(simp at *;omega)) rfl) (S2 rfl rfl (AI (VS rfl) TT))) (AI (AI rfl (p3 z7 (fun _=>rfl) _ v1.2)) TT)
 refine SR ?_
 refine HP ?_
 refine HB ?_
 refine Or.inl (EX (.isl 1 (([1,1]:List Int).map z7) true) (AI (fun hp=>AI rfl (AI rfl rfl)) ?_))
 obtain⟨v3,h3,h⟩:=bind_some h
 refine Or.inl (EX (.bool v3) (AI (fun hp=>AI (AI hp hp) (PFn.readB [(0,0)] (z4b (zj hp h3)) rfl (AI (Vw.frzB z7 Yg (fun h=>h) rfl rfl (by first|rfl|omega|(simp;done)|(simp at *;omega))) (AI (Vw.islF _ _ _) TT)) (AI rfl (AI rfl rfl)))) ?_))
 refine HB ?_
 refine HP ?_
 refine HB ?_
 refine p2 (e:=[(0,.bool ((((v1.1==0)&&(v2.2==0))&&v3)&&(v2.1==2)))]) (L:=[]) (n:=0) ?_ ?_
 ·exact qy (M:=[]) rfl (AI (VS rfl) TT) TT
 refine Ya ?_
 cases h
 exact AI TT (AI rfl (VS rfl))
theorem znl{m:Option Nat}{o:Bool}(h:y5 m=some o):PFn Try.prog 4 [] (.bool o):=pA (L:=y1s) zz3 zyj (NB rfl) rfl (zu4 h)
def zvl:LCode:=(.seq (.region [Qo 2 (.mv (.c (.val (.slice none 0 0))))])
 (.seq (.seq (.region [Qm 3 0,
  Qo 4 (.eq false .slice (.t 3) (.c (.val (.slice none 0 0))))])
 (.cond (.t 4)
  (.seq (.region [Qo 2 (.mv (.c (.val (.slice none 0 0))))])
  .ret)
  .skip))
 (.seq (.region [Qo 5 (.mkSl true 1 [(i6 0)] 0 []),
  Qm 6 0,
  Qo 7 (.app true 1 8 (.t 5) (.t 6)),
  Qm 2 7])
 .ret)))
def zqw:Lay:=⟨8,[],false⟩
def zm3:List LRes:=[.t 2]
def y0m:LFn:=⟨1,zqw,zvl,zm3⟩
theorem zxb:Zb Try.prog [] 20=some y0m:=by kernel_rfl
theorem zob:Xk Try.prog 20:=⟨_,Try.func20,rfl,rfl⟩
def ub(m:Option Nat)(a0:List Int):Option (List Int):=
 if(a0.map z7)≠[] then
 if((([]:List Int)++a0).map z7).length*8≤140737488355328 then
 some (([]:List Int)++a0)
 else none
 else none
def y1i(a0:List Int)(o:(List Int)):Exit→Env→AHeap→Nat→Prop:=W4 zm3 (Yd (.isl 1 (o.map z7) false))
theorem zrd{a0:List Int}{m:Option Nat}{o:(List Int)}(h:ub m a0=some o):LWp Try.prog zqw 0 zvl (y1i a0 o) (qe 0 [.isl 1 (a0.map z7) false]) [] 0:=by
 unfold ub at h
 refine SR ?_
 refine xn ?_
 refine SR ?_
 obtain⟨h1,h⟩:=za h
 refine AI h1 ?_
 refine qh (v:=false) rfl TT (fun hc=>p9 hc) (fun hc=>?_)
 refine qp ?_
 refine SR ?_
 obtain⟨h2,h⟩:=za h
 refine EX ((([]:List Int)++a0).map z7) (AI (z90 z7 ([]:List Int) a0) (AI (AI rfl h2) ?_))
 refine Ya ?_
 cases h
 exact AI TT (AI rfl (Vw.oslI _ _ _))
theorem y06{a0:List Int}{m:Option Nat}{o:(List Int)}(h:ub m a0=some o):PFn Try.prog 20 [.isl 1 (a0.map z7) false] (.isl 1 (o.map z7) false):=pA (L:=y0m) zxb zob (NB rfl) rfl (zrd h)
def uk(m:Option Nat):List Int→Option (List Int)
 |[]=>some []
 |x::r=>ub m (x::r)
theorem zf4{m:Option Nat}{a0 o:List Int}(h:uk m a0=some o):PFn Try.prog 20 [(.isl 1 (a0.map z7) false)] (.isl 1 (o.map z7) false):=by
 cases a0 with
 |nil=>
  cases h
  exact z5x (c:=3) (zs:=[(i6 0)]) (b:=8) zob Try.func20 ⟨_,_,_,_,_,_,_,_,_,_,_,_,_,_,_,_,_,_,_,_,_,_,_,_,_,_,_,_,rfl,rfl,rfl⟩ (by kernel_rfl) (by kernel_rfl) (by kernel_rfl) (by kernel_rfl) (by decide) (by decide) rfl
 |cons x r=>exact y06 (m:=m) h
def z9i:LCode:=(.seq (.region [Qo 21 (.bin .lss (.t 20) (.t 19))])
 (.seq (.cond (.t 21)
  .skip
  (.exit 2))
 (.seq (.block 3
  (.seq (.region [Qo 22 (.iaddr 2 (.t 18) (.t 20)),
   Qt 23 2 22,
   Qo 7 (.alloc [(i6 0),(.isl 1 [] true)]),
   ⟨none,.store 2 (.t 7) (.t 23),none⟩])
  (.draw [⟨Qm 24 3,[]⟩,
   ⟨Qm 25 4,[]⟩,
   ⟨Qm 26 3,[]⟩,
   ⟨Qm 27 4,[]⟩,
   ⟨Qo 28 (.iaddr 1 (.t 26) (.t 27)),[]⟩,
   ⟨Ql 29 1 28,[]⟩,
   ⟨Qf 30 0 7,[]⟩,
   ⟨Ql 31 1 30,[]⟩,
   ⟨Qf 32 1 7,[]⟩,
   ⟨Ql 33 1 32,[]⟩,
   ⟨Qc 34 20 33,[5,7]⟩,
   ⟨Qo 35 (.build [(i6 0),(.isl 1 [] true)] [(0,1,(.t 31)),(1,1,(.t 34))]),[]⟩,
   ⟨Qo 36 (.mkSl true 2 [(i6 0),(.isl 1 [] true)] 1 [(0,(.t 35))]),[]⟩,
   ⟨Qo 37 (.app false 2 32 (.t 29) (.t 36)),[]⟩,
   ⟨Qo 38 (.iaddr 1 (.t 24) (.t 25)),[]⟩,
   ⟨⟨none,.store 1 (.t 38) (.t 37),none⟩,[]⟩])))
 (.region [Qo 39 (.bin .add (.t 20) (.c (i6 1))),
  Qm 20 39]))))
def z30:LCode:=(.region [Qo 40 (.bin .add (.t 13) (.c (i6 1))),
 Qm 13 40])
def z7l:LCode:=(.seq (.region [Qo 14 (.bin .lss (.t 13) (.t 12))])
 (.seq (.cond (.t 14)
  .skip
  (.exit 0))
 (.seq (.block 1
  (.seq (.region [Qm 15 13,
   Qo 16 (.iaddr 1 (.t 11) (.t 13)),
   Ql 17 1 16,
   Qm 4 15,
   Qm 5 17])
  (.seq (.region [Qm 18 5,
   Qo 19 (.len false (.t 18)),
   Qi 20 0])
  (.block 2
   (.loop
    z9i)))))
 z30)))
def z32:LCode:=(.seq (.region [Qm 41 3,
 Qm 2 41])
 .ret)
def ziz:LCode:=(.seq (.region [Qo 2 (.mv (.c (.val (.slice none 0 0))))])
 (.seq (.region [Qm 8 0,
  Qo 9 (.len false (.t 8)),
  Qo 10 (.mkslice false 1 24 [(.isl 2 [] true)] (.t 9) (.t 9)),
  Qm 3 10])
 (.seq (.seq (.region [Qm 11 0,
  Qo 12 (.len false (.t 11)),
  Qi 13 0])
 (.block 0
  (.loop
   z7l)))
 z32)))
def Zt:Lay:=⟨42,[10,37],false⟩
def zbb:List LRes:=[.t 2]
def zok:LFn:=⟨1,Zt,ziz,zbb⟩
theorem zlk:Zb Try.prog [10,37] 19=some zok:=by kernel_rfl
theorem zpu:Xk Try.prog 19:=⟨_,Try.func19,rfl,rfl⟩
def z9d(a0:List (List GR))(o:(List (List GR))):Exit→Env→AHeap→Nat→Prop:=W4 zbb (Yy 3 5 (.msl (4,0) 1 0 o.length true) ([((4,0),.rows 1 (Y1 3 2 o))]++(uz 3 2 z8 (tl o) none)))
def Qz(a0:List (List GR))(s:(Int×(List (List GR)))):Env:=[(3,.msl (3,0) 1 0 s.2.length true),(11,.isl 1 (a0.map z6) false),(12,i6 ((a0.map z6).length:Int)),(13,i6 s.1)]
def Jh(a0:List (List GR))(s:(Int×(List (List GR)))):AHeap:=([((3,0),.rows 1 (Y1 4 2 s.2))]++(uz 4 2 z8 (tl s.2) none))
def Wc(a0:List (List GR))(o:(List (List GR))):Exit→Env→AHeap→Nat→Prop:=(zb 0 (uw Try.prog Zt 3 z32 (z9d a0 o)))
def z22(a0:List (List GR))(v6:Int)(s:(Int×(List (List GR)))):Env:=[(3,.msl (3,0) 1 0 s.2.length true),(4,i6 v6),(11,.isl 1 (a0.map z6) false),(12,i6 ((a0.map z6).length:Int)),(13,i6 v6),(18,.isl 2 ((a0.getD v6.toNat default).map z8) false),(19,i6 (((a0.getD v6.toNat default).map z8).length:Int)),(20,i6 s.1)]
def z51(a0:List (List GR))(v6:Int)(s:(Int×(List (List GR)))):AHeap:=([((3,0),.rows 1 (Y1 4 2 s.2))]++(uz 4 2 z8 (tl s.2) none))
def z5t(a0:List (List GR))(o:((Int×(List (List GR))) ⊕ (List (List GR)))):Exit→Env→AHeap→Nat→Prop:=(zb 2 (zb 1 (uw Try.prog Zt 3 z30 (yi 3 5 (Qz a0) (Jh a0) (Wc a0) o))))
def vg(m:Option Nat)(a0:List (List GR))(v6:Int)(v15:List (List GR)):Option ((Int×(List (List GR))) ⊕ (List (List GR))):=
 some (.inl ((W (v6+1)),v15))
def qr(m:Option Nat)(a0:List (List GR))(v6:Int)(v14:Int)(v15:List (List GR)):Option ((Int×(List (List GR))) ⊕ ((Int×(List (List GR))) ⊕ (List (List GR)))):=
 if(decide (v14<(((a0.getD v6.toNat default).map z8).length:Int)))=true then
  if(0:Int)≤v14∧v14<(((a0.getD v6.toNat default).map z8).length:Int) then
  if(0+v6.toNat)<v15.length then
  if(0:Int)≤v6∧v6<((v15.length:Nat):Int) then
  (uk m (((a0.getD v6.toNat default).getD v14.toNat default).fA)).bind fun v17=>
  if(((v15.getD (0+v6.toNat) default)++([(GR.mk (((a0.getD v6.toNat default).getD v14.toNat default).fM) v17)]:List GR)).map z8).length*32≤140737488355328 then
  if(0:Int)≤v6∧v6<((v15.length:Nat):Int) then
  some (.inl ((W (v14+1)),(v15.set (0+v6.toNat) ((v15.getD (0+v6.toNat) default)++([(GR.mk (((a0.getD v6.toNat default).getD v14.toNat default).fM) v17)]:List GR)))))
  else none
  else none
  else none
  else none
  else none
 else
  p6 p7 (
   vg m a0 v6 v15)
def xt(m:Option Nat)(a0:List (List GR))(v6:Int)(v14:Int)(v15:List (List GR)):Option ((Int×(List (List GR))) ⊕ (List (List GR))):=kw m (fun(s:(Int×(List (List GR))))=>qr m a0 v6 s.1 s.2) (v14,v15)
theorem zf3{a0:List (List GR)}{v6:Int}{v15:List (List GR)}{m:Option Nat}{o:((Int×(List (List GR))) ⊕ (List (List GR)))}(h:vg m a0 v6 v15=some o) :
 LWp Try.prog Zt 3 z30 (yi 3 5 (Qz a0) (Jh a0) (Wc a0) o) [(3,.msl (3,0) 1 0 v15.length true),(11,.isl 1 (a0.map z6) false),(12,i6 ((a0.map z6).length:Int)),(13,i6 v6)] ([((3,0),.rows 1 (Y1 4 2 v15))]++(uz 4 2 z8 (tl v15) none)) 5:=by
 unfold vg at h
 refine Y6 ?_
 cases h
 exact AI rfl (Vm (M:=[((3,0),(3,0))]) (lit':=[((3,0),.rows 1 (Y1 4 2 v15))]) (T:=(uz 4 2 z8 (tl v15) none)) (q:=4) (q':=4) zx rfl IsFamM.base (AI (p1 rfl (by first|rfl|omega|(simp;done)|(simp at *;omega)) rfl) (S2 rfl rfl (AI (VS rfl) TT))) (AI (AI rfl BVw.tabJ) TT))
theorem zam{a0:List (List GR)}{v6:Int}{v14:Int}{v15:List (List GR)}{m:Option Nat}{o:(Int×(List (List GR))) ⊕ ((Int×(List (List GR))) ⊕ (List (List GR)))}(h:qr m a0 v6 v14 v15=some o) :
 LWp Try.prog Zt 3 z9i (yi 3 5 (z22 a0 v6) (z51 a0 v6) (z5t a0) o) [(3,.msl (3,0) 1 0 v15.length true),(4,i6 v6),(11,.isl 1 (a0.map z6) false),(12,i6 ((a0.map z6).length:Int)),(13,i6 v6),(18,.isl 2 ((a0.getD v6.toNat default).map z8) false),(19,i6 (((a0.getD v6.toNat default).map z8).length:Int)),(20,i6 v14)] ([((3,0),.rows 1 (Y1 4 2 v15))]++(uz 4 2 z8 (tl v15) none)) 5:=by
 unfold qr at h
 refine SR ?_
 refine xn ?_
 refine qh (v:=(decide (v14<(((a0.getD v6.toNat default).map z8).length:Int)))) rfl TT (fun h72=>?_) (fun h72=>?_)
 ·have h:=zj h72 h
  refine qp ?_
  refine xn ?_
  refine zo ?_
  refine SR ?_
  obtain⟨h73,h⟩:=za h
  refine AI h73 ?_
  refine EX (z8 ((a0.getD v6.toNat default).getD v14.toNat default)) (AI (zc z8 _ _ (yj z8 h73)) (AI (AI (xv h73) (NB rfl)) ?_))
  obtain⟨h75,h⟩:=za h
  refine p2 (e:=[(3,.msl (3,0) 1 0 v15.length true),(4,i6 v6),(7,.ptr (4,0) 0 0),(11,.isl 1 (a0.map z6) false),(12,i6 ((a0.map z6).length:Int)),(13,i6 v6),(18,.isl 2 ((a0.getD v6.toNat default).map z8) false),(19,i6 (((a0.getD v6.toNat default).map z8).length:Int)),(20,i6 v14)]) (L:=([((6,0),.rows 2 ((v15.getD (0+v6.toNat) default).map z8)),((3,0),.rows 1 (z11 5 2 v15 (0+v6.toNat) (.msl (6,0) 2 0 ((v15.getD (0+v6.toNat) default).length) false))),((4,0),.one [i6 (((a0.getD v6.toNat default).getD v14.toNat default).fM),.isl 1 ((((a0.getD v6.toNat default).getD v14.toNat default).fA).map z7) false])]++(uz 5 2 z8 (tl v15) (some (0+v6.toNat))))) (n:=7) ?_ ?_
  ·exact zui (m:=(6,0)) (i:=(0+v6.toNat)) (M:=[((3,0),(3,0)),((4,0),(5,0))]) (lit':=[((5,0),.one [i6 (((a0.getD v6.toNat default).getD v14.toNat default).fM),.isl 1 ((((a0.getD v6.toNat default).getD v14.toNat default).fA).map z7) false]),((3,0),.rows 1 (Y1 4 2 v15))]) (T:=(uz 4 2 z8 (tl v15) none)) (q:=4) (q':=5) zx (ziy h75) rfl (by decide) IsFamM.base (AI (p1 rfl (by first|rfl|omega|(simp;done)|(simp at *;omega)) rfl) (AI (VS rfl) (SP rfl (S4 rfl rfl rfl rfl (S2 rfl rfl TT))))) (AI (AI rfl (BVw.tabF (z2h h75) (by decide) (zhg _))) (AI (AI rfl (OL rfl)) TT))
  refine z59 ?_
  obtain⟨h76,h⟩:=za h
  refine AI h76 ?_
  refine EX ([.msl (6,0) 2 0 ((v15.getD (0+v6.toNat) default).length) false]) (AI (Jl h75) (AI (AI (Jd h75) (NB rfl)) ?_))
  obtain⟨v17,h77,h⟩:=bind_some h
  refine PFn.call (zf4 h77) (AI (VS rfl) TT) ?_
  refine AI rfl ?_
  refine AI (AI (AI (Jd h75) (NB rfl)) (congrArg (xj false 1 0) (Jl h75))) ?_
  obtain⟨h78,h⟩:=za h
  refine AI (fun h=>p9 h) (AI (zyd z8 (by first|rfl|omega|(simp;done)|(simp at *;omega))) (EX (((v15.getD (0+v6.toNat) default)++([(GR.mk (((a0.getD v6.toNat default).getD v14.toNat default).fM) v17)]:List GR)).map z8) (AI (zzp z8 (v15.getD (0+v6.toNat) default) ([(GR.mk (((a0.getD v6.toNat default).getD v14.toNat default).fM) v17)]:List GR) (by first|rfl|omega|(simp;done)|(simp at *;omega))) (AI h78 ?_))))
  obtain⟨h79,h⟩:=za h
  refine AI h79 ?_
  refine EX (z11 5 2 v15 (0+v6.toNat) (.msl (7,0) 2 0 ((((v15.getD (0+v6.toNat) default)++([(GR.mk (((a0.getD v6.toNat default).getD v14.toNat default).fM) v17)]:List GR)).map z8).length) false)) (AI (z0b h75) (AI (AI rfl (AI (Jd h75) (NB rfl))) ?_))
  refine p2 (e:=[(3,.msl (3,0) 1 0 ((v15.set (0+v6.toNat) ((v15.getD (0+v6.toNat) default)++([(GR.mk (((a0.getD v6.toNat default).getD v14.toNat default).fM) v17)]:List GR))).length) true),(4,i6 v6),(11,.isl 1 (a0.map z6) false),(12,i6 ((a0.map z6).length:Int)),(13,i6 v6),(18,.isl 2 ((a0.getD v6.toNat default).map z8) false),(19,i6 (((a0.getD v6.toNat default).map z8).length:Int)),(20,i6 v14)]) (L:=([((3,0),.rows 1 (Y1 4 2 (v15.set (0+v6.toNat) ((v15.getD (0+v6.toNat) default)++([(GR.mk (((a0.getD v6.toNat default).getD v14.toNat default).fM) v17)]:List GR)))))]++(uz 4 2 z8 (tl (v15.set (0+v6.toNat) ((v15.getD (0+v6.toNat) default)++([(GR.mk (((a0.getD v6.toNat default).getD v14.toNat default).fM) v17)]:List GR)))) none))) (n:=6) ?_ ?_
  ·exact zu8 (t:=(7,0)) (i:=(0+v6.toNat)) (M:=[((3,0),(3,0))]) (lit':=[((7,0),.rows 2 (((v15.getD (0+v6.toNat) default)++([(GR.mk (((a0.getD v6.toNat default).getD v14.toNat default).fM) v17)]:List GR)).map z8)),((3,0),.rows 1 (z11 5 2 v15 (0+v6.toNat) (.msl (7,0) 2 0 ((((v15.getD (0+v6.toNat) default)++([(GR.mk (((a0.getD v6.toNat default).getD v14.toNat default).fM) v17)]:List GR)).map z8).length) false))),((4,0),.one [i6 (((a0.getD v6.toNat default).getD v14.toNat default).fM),.isl 1 ((((a0.getD v6.toNat default).getD v14.toNat default).fA).map z7) false])]) (T:=(AHeap.del (uz 5 2 z8 (tl v15) (some (0+v6.toNat))) (6,0))) (q:=5) (q':=4) zx rfl (by decide) rfl (IsFamM.del (by decide) IsFamM.base) (AI (p1 rfl (by first|rfl|omega|(simp;done)|(simp at *;omega)) rfl) (S4 rfl rfl rfl rfl (S2 rfl rfl (AI (VS rfl) TT)))) (AI (AI rfl (BVw.tabU (by first|rfl|omega|(simp;done)|(simp at *;omega)))) TT)
  refine Y6 ?_
  cases h
  exact AI rfl (Vm (M:=[((3,0),(3,0))]) (lit':=[((3,0),.rows 1 (Y1 4 2 (v15.set (0+v6.toNat) ((v15.getD (0+v6.toNat) default)++([(GR.mk (((a0.getD v6.toNat default).getD v14.toNat default).fM) v17)]:List GR)))))]) (T:=(uz 4 2 z8 (tl (v15.set (0+v6.toNat) ((v15.getD (0+v6.toNat) default)++([(GR.mk (((a0.getD v6.toNat default).getD v14.toNat default).fM) v17)]:List GR)))) none)) (q:=4) (q':=4) zx rfl IsFamM.base (AI (p1 rfl (by first|rfl|omega|(simp;done)|(simp at *;omega)) rfl) (S4 rfl rfl rfl rfl (S2 rfl rfl (AI (VS rfl) TT)))) (AI (AI rfl BVw.tabJ) TT))
 ·have h:=zm h72 h
  refine ur ?_
  obtain⟨o,hq,rfl⟩:=p0.1 h
  replace h:=hq;clear hq
  refine AI nofun ?_
  refine p2 ?_ (zf3 h)
  exact Vm (M:=[((3,0),(3,0))]) (lit':=[((3,0),.rows 1 (Y1 4 2 v15))]) (T:=(uz 4 2 z8 (tl v15) none)) (q:=4) (q':=4) zx rfl IsFamM.base (AI (p1 rfl (by first|rfl|omega|(simp;done)|(simp at *;omega)) rfl) (S2 rfl rfl (AI (VS rfl) TT))) (AI (AI rfl BVw.tabJ) TT)
theorem zdr{a0:List (List GR)}{v6:Int}{v14:Int}{v15:List (List GR)}{m:Option Nat}{o:((Int×(List (List GR))) ⊕ (List (List GR)))}(h:xt m a0 v6 v14 v15=some o) :
 LWp Try.prog Zt 3 (.loop z9i) (zb 2 (zb 1 (uw Try.prog Zt 3 z30 (yi 3 5 (Qz a0) (Jh a0) (Wc a0) o)))) [(3,.msl (3,0) 1 0 v15.length true),(4,i6 v6),(11,.isl 1 (a0.map z6) false),(12,i6 ((a0.map z6).length:Int)),(13,i6 v6),(18,.isl 2 ((a0.getD v6.toNat default).map z8) false),(19,i6 (((a0.getD v6.toNat default).map z8).length:Int)),(20,i6 v14)] ([((3,0),.rows 1 (Y1 4 2 v15))]++(uz 4 2 z8 (tl v15) none)) 5:=
 zn (m:=m) (s:=((v14,v15):(Int×(List (List GR))))) (r:=o) (fun(s:(Int×(List (List GR))))=>qr m a0 v6 s.1 s.2) (z22 a0 v6) (z51 a0 v6) (z5t a0) (fun s o h=>zam h) h
def vl(m:Option Nat)(v7:List (List GR)):Option (List (List GR)):=
 some v7
def qt(m:Option Nat)(a0:List (List GR))(v6:Int)(v7:List (List GR)):Option ((Int×(List (List GR))) ⊕ (List (List GR))):=
 if(decide (v6<((a0.map z6).length:Int)))=true then
  if(0:Int)≤v6∧v6<((a0.map z6).length:Int) then
  xt m a0 v6 0 v7
  else none
 else
  p6 p7 (
   vl m v7)
def js(m:Option Nat)(a0:List (List GR))(v6:Int)(v7:List (List GR)):Option (List (List GR)):=kw m (fun(s:(Int×(List (List GR))))=>qt m a0 s.1 s.2) (v6,v7)
theorem zem{a0:List (List GR)}{v7:List (List GR)}{m:Option Nat}{o:(List (List GR))}(h:vl m v7=some o) :
 LWp Try.prog Zt 3 z32 (z9d a0 o) [(3,.msl (3,0) 1 0 v7.length true)] ([((3,0),.rows 1 (Y1 4 2 v7))]++(uz 4 2 z8 (tl v7) none)) 5:=by
 unfold vl at h
 refine SR ?_
 refine Ya ?_
 cases h
 exact AI TT (y1v (n':=5) (q:=4) (lit':=[((3,0),.rows 1 (Y1 4 2 v7))]) zx [((4,0),(3,0))] [] rfl rfl (p1 rfl (by first|rfl|omega|(simp;done)|(simp at *;omega)) rfl) (AI (AI rfl BVw.tabT) TT))
theorem zbi{a0:List (List GR)}{v6:Int}{v7:List (List GR)}{m:Option Nat}{o:(Int×(List (List GR))) ⊕ (List (List GR))}(h:qt m a0 v6 v7=some o) :
 LWp Try.prog Zt 3 z7l (yi 3 5 (Qz a0) (Jh a0) (Wc a0) o) [(3,.msl (3,0) 1 0 v7.length true),(11,.isl 1 (a0.map z6) false),(12,i6 ((a0.map z6).length:Int)),(13,i6 v6)] ([((3,0),.rows 1 (Y1 4 2 v7))]++(uz 4 2 z8 (tl v7) none)) 5:=by
 unfold qt at h
 refine SR ?_
 refine xn ?_
 refine qh (v:=(decide (v6<((a0.map z6).length:Int)))) rfl TT (fun h54=>?_) (fun h54=>?_)
 ·have h:=zj h54 h
  refine qp ?_
  refine xn ?_
  refine zo ?_
  refine SR ?_
  obtain⟨h55,h⟩:=za h
  refine AI h55 ?_
  refine EX (z6 (a0.getD v6.toNat default)) (AI (zc z6 _ _ (yj z6 h55)) (AI (AI (xv h55) (NB rfl)) ?_))
  refine SR ?_
  refine p2 (e:=[(3,.msl (3,0) 1 0 v7.length true),(4,i6 v6),(11,.isl 1 (a0.map z6) false),(12,i6 ((a0.map z6).length:Int)),(13,i6 v6),(18,.isl 2 ((a0.getD v6.toNat default).map z8) false),(19,i6 (((a0.getD v6.toNat default).map z8).length:Int)),(20,i6 0)]) (L:=([((3,0),.rows 1 (Y1 4 2 v7))]++(uz 4 2 z8 (tl v7) none))) (n:=5) ?_ ?_
  ·exact Vm (M:=[((3,0),(3,0))]) (lit':=[((3,0),.rows 1 (Y1 4 2 v7))]) (T:=(uz 4 2 z8 (tl v7) none)) (q:=4) (q':=4) zx rfl IsFamM.base (AI (p1 rfl (by first|rfl|omega|(simp;done)|(simp at *;omega)) rfl) (S4 rfl rfl rfl rfl (S2 rfl rfl (AI (VS rfl) TT)))) (AI (AI rfl BVw.tabJ) TT)
  refine zo ?_
  refine p2 ?_ (zdr h)
  exact Vm (M:=[((3,0),(3,0))]) (lit':=[((3,0),.rows 1 (Y1 4 2 v7))]) (T:=(uz 4 2 z8 (tl v7) none)) (q:=4) (q':=4) zx rfl IsFamM.base (AI (p1 rfl (by first|rfl|omega|(simp;done)|(simp at *;omega)) rfl) (S4 rfl rfl rfl rfl (S2 rfl rfl (AI (VS rfl) TT)))) (AI (AI rfl BVw.tabJ) TT)
 ·have h:=zm h54 h
  refine ur ?_
  obtain⟨o,hq,rfl⟩:=p0.1 h
  replace h:=hq;clear hq
  refine AI nofun ?_
  refine p2 ?_ (zem h)
  exact Vm (M:=[((3,0),(3,0))]) (lit':=[((3,0),.rows 1 (Y1 4 2 v7))]) (T:=(uz 4 2 z8 (tl v7) none)) (q:=4) (q':=4) zx rfl IsFamM.base (AI (p1 rfl (by first|rfl|omega|(simp;done)|(simp at *;omega)) rfl) TT) (AI (AI rfl BVw.tabJ) TT)
theorem zel{a0:List (List GR)}{v6:Int}{v7:List (List GR)}{m:Option Nat}{o:(List (List GR))}(h:js m a0 v6 v7=some o) :
 LWp Try.prog Zt 3 (.loop z7l) (zb 0 (uw Try.prog Zt 3 z32 (z9d a0 o))) [(3,.msl (3,0) 1 0 v7.length true),(11,.isl 1 (a0.map z6) false),(12,i6 ((a0.map z6).length:Int)),(13,i6 v6)] ([((3,0),.rows 1 (Y1 4 2 v7))]++(uz 4 2 z8 (tl v7) none)) 5:=
 zn (m:=m) (s:=((v6,v7):(Int×(List (List GR))))) (r:=o) (fun(s:(Int×(List (List GR))))=>qt m a0 s.1 s.2) (Qz a0) (Jh a0) (Wc a0) (fun s o h=>zbi h) h
def xx(m:Option Nat)(a0:List (List GR)):Option (List (List GR)):=
 if(0:Int)≤((a0.map z6).length:Int)∧((a0.map z6).length:Int)≤((a0.map z6).length:Int)∧((a0.map z6).length:Int)*24≤140737488355328 then
 js m a0 0 (p4 ((a0.map z6).length:Int).toNat ([]:List GR))
 else none
theorem zdw{a0:List (List GR)}{m:Option Nat}{o:(List (List GR))}(h:xx m a0=some o):LWp Try.prog Zt 3 ziz (z9d a0 o) (qe 0 [.isl 1 (a0.map z6) false]) [] 3:=by
 unfold xx at h
 refine xn ?_
 refine LWp.ghost 1 ?_
 refine Y6 ?_
 refine p2 (e:=[(0,.isl 1 (a0.map z6) false)]) (L:=[]) (n:=3) ?_ ?_
 ·exact qy (M:=[]) rfl (AI (VS rfl) TT) TT
 refine SR ?_
 obtain⟨h1,h⟩:=za h
 refine EX (p4 ((a0.map z6).length:Int).toNat [AVal.isl 2 [] true]) (EX true (AI (Or.inr rfl) (AI (by simp) (AI h1 ?_))))
 refine LWp.ghosts 2 ((a0.map z6).length:Int).toNat ?_
 refine p2 (e:=[(0,.isl 1 (a0.map z6) false),(3,.msl (3,0) 1 0 ((p4 ((a0.map z6).length:Int).toNat ([]:List GR)).length) true)]) (L:=([((3,0),.rows 1 (Y1 4 2 (p4 ((a0.map z6).length:Int).toNat ([]:List GR))))]++(uz 4 2 z8 (tl (p4 ((a0.map z6).length:Int).toNat ([]:List GR))) none))) (n:=5) ?_ ?_
 ·exact Vm (M:=[((3,0),(3,0))]) (lit':=[((3,0),.rows 1 (p4 ((a0.map z6).length:Int).toNat [.isl 2 [] true]))]) (T:=(gh 4 2 ((a0.map z6).length:Int).toNat)) (q:=4) (q':=4) zx rfl IsFamM.gh (AI (VS rfl) (AI (p1 rfl (by first|rfl|omega|(simp;done)|(simp at *;omega)) rfl) TT)) (AI (AI rfl (BVw.tabNew (zvu rfl))) TT)
 refine xn ?_
 refine SR ?_
 refine zo ?_
 refine p2 ?_ (zel h)
 exact Vm (M:=[((3,0),(3,0))]) (lit':=[((3,0),.rows 1 (Y1 4 2 (p4 ((a0.map z6).length:Int).toNat ([]:List GR))))]) (T:=(uz 4 2 z8 (tl (p4 ((a0.map z6).length:Int).toNat ([]:List GR))) none)) (q:=4) (q':=4) zx rfl IsFamM.base (AI (p1 rfl (by first|rfl|omega|(simp;done)|(simp at *;omega)) rfl) (S2 rfl rfl (AI (VS rfl) TT))) (AI (AI rfl BVw.tabJ) TT)
theorem zuc{a0:List (List GR)}{m:Option Nat}{o:(List (List GR))}(h:xx m a0=some o):ACalls Try.prog 19 [.isl 1 (a0.map z6) false] [] 3 (Ze 5 (.msl (4,0) 1 0 o.length true) ([((4,0),.rows 1 (Y1 3 2 o))]++(uz 3 2 z8 (tl o) none))):=Zr (L:=zok) zlk zpu (NB rfl) (zdw h)
def zo4:LCode:=(.seq (.region [Qo 2 (.mv (.c (.val (.pointer none)))),
 Qi 3 0])
 (.seq (.region [Qm 7 0,
  Qc 8 17 7,
  Qm 6 8,
  Qo 9 (.ext 0 (.t 6)),
  Qo 10 (.ext 1 (.t 6)),
  Qm 4 9,
  Qm 5 10])
 (.seq (.seq (.region [Qm 11 5,
  Qo 12 (.bin .neq (.t 11) (.c (i6 0)))])
 (.cond (.t 12)
  (.seq (.region [Qm 13 5,
   Qo 2 (.mv (.c (.val (.pointer none)))),
   Qm 3 13])
  .ret)
  .skip))
 (.seq (.region [Qm 14 0,
  Qc 15 19 14,
  Qm 16 4,
  Qo 17 (.build [(.isl 1 [] true),(.isl 1 [] true)] [(0,1,(.t 15)),(1,1,(.t 16))]),
  Qo 18 (.box (.t 17)),
  Qm 2 18,
  Qi 3 0])
 .ret))))
def zgl:Lay:=⟨19,[18],false⟩
def zh3:List LRes:=[.t 2,.t 3]
def znt:LFn:=⟨1,zgl,zo4,zh3⟩
theorem zi8:Zb Try.prog [18] 5=some znt:=by kernel_rfl
theorem zh7:Xk Try.prog 5:=⟨_,Try.func5,rfl,rfl⟩
def kh(m:Option Nat)(a0:List (List GR)):Option (Int ⊕ (Int×(List (List GR))×(List Int))):=
 (Z1 m a0).bind fun v1=>
 if(v1.1 != 0)=true then
  some (.inl v1.1)
 else
  (xx m a0).bind fun v2=>
  some (.inr (0,v2,v1.2))
def y0a(a0:List (List GR))(o:Int ⊕ (Int×(List (List GR))×(List Int))):Exit→Env→AHeap→Nat→Prop:=W4 zh3 (match o with|(.inl o)=>Yy 3 3 (.tup [.val (.pointer none),i6 o]) []|(.inr o)=>Yy 3 6 (.tup [.ptr (3,0) 0 0,i6 o.1]) [((3,0),.one [.msl (4,0) 1 0 o.2.1.length true,.msl (5,0) 1 0 o.2.2.length false]),((4,0),.rows 1 (o.2.1.map z6)),((5,0),.rows 1 (o.2.2.map z7))])
theorem z61{a0:List (List GR)}{m:Option Nat}{o:Int ⊕ (Int×(List (List GR))×(List Int))}(h:kh m a0=some o):LWp Try.prog zgl 3 zo4 (y0a a0 o) (qe 0 [.isl 1 (a0.map z6) false]) [] 3:=by
 unfold kh at h
 refine SR ?_
 refine SR ?_
 obtain⟨v1,h1,h⟩:=bind_some h
 refine Q4 (k:=3) (m:=1) (L':=[((3,0),.rows 1 (v1.2.map z7))]) (rest:=[]) (R':=.tup [.msl (3,0) 1 0 v1.2.length false,i6 v1.1]) [] (zhh h1) rfl rfl rfl (AI (VS rfl) TT) TT rfl (AI rfl (AI (qj z7 (fun _=>rfl) _ _) TT)) rfl ?_
 refine p2 (e:=[(0,.isl 1 (a0.map z6) false),(4,.msl (3,0) 1 0 v1.2.length false),(5,i6 v1.1)]) (L:=[((3,0),.rows 1 (v1.2.map z7))]) (n:=4) ?_ ?_
 ·exact qy (M:=[((3,0),(3,0))]) rfl (AI (VS rfl) (AI (p1 rfl (by first|rfl|omega|(simp;done)|(simp at *;omega)) rfl) (AI (VS rfl) TT))) (AI (AI rfl (p3 z7 (fun _=>rfl) _ v1.2)) TT)
 refine xn ?_
 refine SR ?_
 refine qh (v:=(v1.1 != 0)) rfl TT (fun h2=>?_) (fun h2=>?_)
 ·have h:=zj h2 h
  refine SR ?_
  refine Ya ?_
  cases h
  exact AI TT (AI TT (z1f (n':=4) [] [] rfl rfl (VS rfl) TT))
 ·have h:=zm h2 h
  refine qp ?_
  refine SR ?_
  obtain⟨v2,h3,h⟩:=bind_some h
  refine zgf (k:=3) (m:=2) (qq:=4) (s:=2) (e:=z8) (l:=tl v2) (L':=[((5,0),.rows 1 (Y1 4 2 v2))]) (rest:=[((3,0),.rows 1 (v1.2.map z7))]) (R':=.msl (5,0) 1 0 v2.length true) zx 0 rfl [] (zuc h3) rfl rfl rfl rfl (AI (VS rfl) TT) TT rfl (AI rfl (AI (z7x (fun _ _=>rfl)) TT)) rfl rfl ?_
  refine p2 (e:=[(2,.ptr (3,0) 0 0),(3,i6 0)]) (L:=[((3,0),.one [.msl (4,0) 1 0 v2.length true,.msl (5,0) 1 0 v1.2.length false]),((4,0),.rows 1 (v2.map z6)),((5,0),.rows 1 (v1.2.map z7))]) (n:=7) ?_ ?_
  ·exact y0t (n':=8) (q:=4) (lit':=[((7,0),.one [.msl (5,0) 1 0 v2.length true,.msl (3,0) 1 0 v1.2.length false]),((5,0),.rows 1 (Y1 4 2 v2)),((3,0),.rows 1 (v1.2.map z7))]) (T:=(uz 4 2 z8 (tl v2) none)) [((3,0),(7,0)),((4,0),(5,0)),((5,0),(3,0))] [] rfl rfl rfl (SP rfl (AI (VS rfl) TT)) (AI (AI rfl (BVw.oneL (AI (p1 rfl (by first|rfl|omega|(simp;done)|(simp at *;omega)) rfl) (AI (p1 rfl (by first|rfl|omega|(simp;done)|(simp at *;omega)) rfl) TT)))) (AI (AI rfl (BVw.tabZE Xp (fun _=>rfl) rfl IsFamM.base)) (AI (AI rfl (p3 z7 (fun _=>rfl) _ v1.2)) TT)))
  refine Ya ?_
  cases h
  exact AI TT (AI TT (z1f (n':=7) [((3,0),(3,0)),((4,0),(4,0)),((5,0),(5,0))] [] rfl rfl (Vw.tupL (SP rfl (AI (VS rfl) TT))) (AI (AI rfl (BVw.oneL (AI (p1 rfl (by first|rfl|omega|(simp;done)|(simp at *;omega)) rfl) (AI (p1 rfl (by first|rfl|omega|(simp;done)|(simp at *;omega)) rfl) TT)))) (AI (AI rfl (p3 z6 (fun _=>rfl) _ v2)) (AI (AI rfl (p3 z7 (fun _=>rfl) _ v1.2)) TT)))))
theorem zst{a0:List (List GR)}{m:Option Nat}{o:Int}(h:kh m a0=some ((.inl o))):ACalls Try.prog 5 [.isl 1 (a0.map z6) false] [] 3 (Ze 3 (.tup [.val (.pointer none),i6 o]) []):=Zr (L:=znt) zi8 zh7 (NB rfl) (z61 h)
theorem zs4{a0:List (List GR)}{m:Option Nat}{o:Int×(List (List GR))×(List Int)}(h:kh m a0=some ((.inr o))):ACalls Try.prog 5 [.isl 1 (a0.map z6) false] [] 3 (Ze 6 (.tup [.ptr (3,0) 0 0,i6 o.1]) [((3,0),.one [.msl (4,0) 1 0 o.2.1.length true,.msl (5,0) 1 0 o.2.2.length false]),((4,0),.rows 1 (o.2.1.map z6)),((5,0),.rows 1 (o.2.2.map z7))]):=Zr (L:=znt) zi8 zh7 (NB rfl) (z61 h)
def zyb:LCode:=(.seq (.region [Qo 32 (.bin .lss (.t 31) (.t 30))])
 (.seq (.cond (.t 32)
  .skip
  (.exit 2))
 (.seq (.block 3
  (.seq (.region [Qo 33 (.iaddr 2 (.t 29) (.t 31)),
   Qt 34 2 33,
   Qo 7 (.alloc [(i6 0),(.isl 1 [] true)]),
   ⟨none,.store 2 (.t 7) (.t 34),none⟩])
  (.region [Qm 35 3,
   Qm 36 35,
   Qe 37 1 7 (36,false),
   Qk 38 1 37 (36,false),
   Qg 39 (.len false (.t 38)) (36,false),
   Qg 40 (.bin .gtr (.t 39) (.c (i6 60))) (36,false),
   Qo 41 (.pick (.t 36) (.c (.bool true)) (.t 40)),
   Qm 3 41])))
 (.region [Qo 42 (.bin .add (.t 31) (.c (i6 1))),
  Qm 31 42]))))
def zs3:LCode:=(.region [Qo 43 (.bin .add (.t 19) (.c (i6 1))),
 Qm 19 43])
def zy2:LCode:=(.seq (.region [Qo 20 (.bin .lss (.t 19) (.t 18))])
 (.seq (.cond (.t 20)
  .skip
  (.exit 0))
 (.seq (.block 1
  (.seq (.region [Qo 21 (.iaddr 1 (.t 17) (.t 19)),
   Ql 22 1 21,
   Qm 5 22])
  (.seq (.region [Qm 23 3,
   Qm 24 23,
   Qn 25 5 (24,false),
   Qg 26 (.len false (.t 25)) (24,false),
   Qg 27 (.bin .gtr (.t 26) (.c (i6 20))) (24,false),
   Qo 28 (.pick (.t 24) (.c (.bool true)) (.t 27)),
   Qm 3 28])
  (.seq (.region [Qm 29 5,
   Qo 30 (.len false (.t 29)),
   Qi 31 0])
  (.block 2
   (.loop
    zyb))))))
 zs3)))
def zw3:LCode:=(.seq (.region [Qo 69 (.bin .lss (.t 68) (.t 67))])
 (.seq (.cond (.t 69)
  .skip
  (.exit 8))
 (.seq (.block 9
  (.seq (.region [Qo 70 (.iaddr 1 (.t 66) (.t 68)),
   Ql 71 1 70,
   Qm 13 71])
  (.seq (.region [Qm 72 13,
   Qo 73 (.bin .lss (.t 72) (.c (i6 0))),
   Qm 74 73,
   Qn 75 13 (74,false),
   Qn 76 0 (74,false),
   Qg 77 (.len false (.t 76)) (74,false),
   Qg 78 (.bin .geq (.t 75) (.t 77)) (74,false),
   Qo 79 (.pick (.t 74) (.c (.bool true)) (.t 78))])
  (.cond (.t 79)
   (.seq (.region [Qi 2 3])
   .ret)
   .skip))))
 (.region [Qo 80 (.bin .add (.t 68) (.c (i6 1))),
  Qm 68 80]))))
def zup:LCode:=(.region [Qo 81 (.bin .add (.t 53) (.c (i6 1))),
 Qm 53 81])
def zxm:LCode:=(.seq (.region [Qo 54 (.bin .lss (.t 53) (.t 52))])
 (.seq (.cond (.t 54)
  .skip
  (.exit 6))
 (.seq (.block 7
  (.seq (.region [Qo 55 (.iaddr 2 (.t 51) (.t 53)),
   Qt 56 2 55,
   Qo 11 (.alloc [(i6 0),(.isl 1 [] true)]),
   ⟨none,.store 2 (.t 11) (.t 56),none⟩])
  (.seq (.seq (.region [Qf 57 0 11,
   Ql 58 1 57,
   Qo 59 (.bin .lss (.t 58) (.c (i6 0))),
   Qm 60 59,
   Qe 61 0 11 (60,false),
   Qk 62 1 61 (60,false),
   Qg 63 (.bin .geq (.t 62) (.c (i6 1048576))) (60,false),
   Qo 64 (.pick (.t 60) (.c (.bool true)) (.t 63))])
  (.cond (.t 64)
   (.seq (.region [Qi 2 1])
   .ret)
   .skip))
  (.seq (.region [Qf 65 1 11,
   Ql 66 1 65,
   Qo 67 (.len false (.t 66)),
   Qi 68 0])
  (.block 8
   (.loop
    zw3))))))
 zup)))
def zse:LCode:=(.region [Qo 82 (.bin .add (.t 47) (.c (i6 1))),
 Qm 47 82])
def zw0:LCode:=(.seq (.region [Qo 48 (.bin .lss (.t 47) (.t 46))])
 (.seq (.cond (.t 48)
  .skip
  (.exit 4))
 (.seq (.block 5
  (.seq (.region [Qo 49 (.iaddr 1 (.t 45) (.t 47)),
   Ql 50 1 49,
   Qm 9 50])
  (.seq (.region [Qm 51 9,
   Qo 52 (.len false (.t 51)),
   Qi 53 0])
  (.block 6
   (.loop
    zxm)))))
 zse)))
def zsm:LCode:=(.seq (.region [Qi 2 0])
 .ret)
def zsd:LCode:=(.seq (.seq (.region [Qm 44 3])
 (.cond (.t 44)
  (.seq (.region [Qi 2 2])
  .ret)
  .skip))
 (.seq (.seq (.region [Qm 45 0,
  Qo 46 (.len false (.t 45)),
  Qi 47 0])
 (.block 4
  (.loop
   zw0)))
 zsm))
def zvf:LCode:=(.seq (.region [Qi 2 0])
 (.seq (.region [Qm 14 0,
  Qo 15 (.len false (.t 14)),
  Qo 16 (.bin .gtr (.t 15) (.c (i6 60))),
  Qm 3 16])
 (.seq (.seq (.region [Qm 17 0,
  Qo 18 (.len false (.t 17)),
  Qi 19 0])
 (.block 0
  (.loop
   zy2)))
 zsd)))
def Zi:Lay:=⟨83,[],false⟩
def zvt:List LRes:=[.t 2]
def y1u:LFn:=⟨1,Zi,zvf,zvt⟩
theorem zyt:Zb Try.prog [] 6=some y1u:=by kernel_rfl
theorem zyp:Xk Try.prog 6:=⟨_,Try.func6,rfl,rfl⟩
def zw9(a0:List (List GR))(o:Int):Exit→Env→AHeap→Nat→Prop:=W4 zvt (Yd (i6 o))
def Kd(a0:List (List GR))(s:(Bool×Int)):Env:=[(0,.isl 1 (a0.map z6) false),(3,.bool s.1),(17,.isl 1 (a0.map z6) false),(18,i6 ((a0.map z6).length:Int)),(19,i6 s.2)]
def z09(a0:List (List GR))(s:(Bool×Int)):AHeap:=[]
def z56(a0:List (List GR))(o:Int):Exit→Env→AHeap→Nat→Prop:=(zb 0 (uw Try.prog Zi 0 zsd (zw9 a0 o)))
def zcd(a0:List (List GR))(v4:Int)(s:(Bool×Int)):Env:=[(0,.isl 1 (a0.map z6) false),(3,.bool s.1),(17,.isl 1 (a0.map z6) false),(18,i6 ((a0.map z6).length:Int)),(19,i6 v4),(29,.isl 2 ((a0.getD v4.toNat default).map z8) false),(30,i6 (((a0.getD v4.toNat default).map z8).length:Int)),(31,i6 s.2)]
def zgm(a0:List (List GR))(v4:Int)(s:(Bool×Int)):AHeap:=[]
def zq1(a0:List (List GR))(o:((Bool×Int) ⊕ Int)):Exit→Env→AHeap→Nat→Prop:=(zb 2 (zb 1 (uw Try.prog Zi 0 zs3 (yi 0 0 (Kd a0) (z09 a0) (z56 a0) o))))
def wy(m:Option Nat)(a0:List (List GR))(v4:Int)(v7:Bool):Option ((Bool×Int) ⊕ Int):=
 some (.inl (v7,(W (v4+1))))
def x5(m:Option Nat)(a0:List (List GR))(v4:Int)(v7:Bool)(v8:Int):Option ((Bool×Int) ⊕ ((Bool×Int) ⊕ Int)):=
 if(decide (v8<(((a0.getD v4.toNat default).map z8).length:Int)))=true then
  if(0:Int)≤v8∧v8<(((a0.getD v4.toNat default).map z8).length:Int) then
  some (.inl ((v7 || (decide ((((((a0.getD v4.toNat default).getD v8.toNat default).fA).map z7).length:Int) > 60))),(W (v8+1))))
  else none
 else
  p6 p7 (
   wy m a0 v4 v7)
def j8(m:Option Nat)(a0:List (List GR))(v4:Int)(v7:Bool)(v8:Int):Option ((Bool×Int) ⊕ Int):=kw m (fun(s:(Bool×Int))=>x5 m a0 v4 s.1 s.2) (v7,v8)
theorem zua{a0:List (List GR)}{v4:Int}{v7:Bool}{m:Option Nat}{o:((Bool×Int) ⊕ Int)}(h:wy m a0 v4 v7=some o) :
 LWp Try.prog Zi 0 zs3 (yi 0 0 (Kd a0) (z09 a0) (z56 a0) o) [(0,.isl 1 (a0.map z6) false),(3,.bool v7),(17,.isl 1 (a0.map z6) false),(18,i6 ((a0.map z6).length:Int)),(19,i6 v4)] [] 0:=by
 unfold wy at h
 refine Y6 ?_
 cases h
 exact AI rfl (qy (M:=[]) rfl (S4 rfl rfl rfl rfl (AI (VS rfl) TT)) TT)
theorem zng{a0:List (List GR)}{v4:Int}{v7:Bool}{v8:Int}{m:Option Nat}{o:(Bool×Int) ⊕ ((Bool×Int) ⊕ Int)}(h:x5 m a0 v4 v7 v8=some o) :
 LWp Try.prog Zi 0 zyb (yi 0 0 (zcd a0 v4) (zgm a0 v4) (zq1 a0) o) [(0,.isl 1 (a0.map z6) false),(3,.bool v7),(17,.isl 1 (a0.map z6) false),(18,i6 ((a0.map z6).length:Int)),(19,i6 v4),(29,.isl 2 ((a0.getD v4.toNat default).map z8) false),(30,i6 (((a0.getD v4.toNat default).map z8).length:Int)),(31,i6 v8)] [] 0:=by
 unfold x5 at h
 refine SR ?_
 refine xn ?_
 refine qh (v:=(decide (v8<(((a0.getD v4.toNat default).map z8).length:Int)))) rfl TT (fun h23=>?_) (fun h23=>?_)
 ·have h:=zj h23 h
  refine qp ?_
  refine xn ?_
  refine zo ?_
  refine SR ?_
  obtain⟨h24,h⟩:=za h
  refine AI h24 ?_
  refine EX (z8 ((a0.getD v4.toNat default).getD v8.toNat default)) (AI (zc z8 _ _ (yj z8 h24)) (AI (AI (xv h24) (NB rfl)) ?_))
  refine Y6 ?_
  refine HP ?_
  refine HP ?_
  refine HP ?_
  refine AI (fun hc=>(bqf hc)) ?_
  refine p2 (e:=[(0,.isl 1 (a0.map z6) false),(3,.bool (v7 || (decide ((((((a0.getD v4.toNat default).getD v8.toNat default).fA).map z7).length:Int) > 60)))),(17,.isl 1 (a0.map z6) false),(18,i6 ((a0.map z6).length:Int)),(19,i6 v4),(29,.isl 2 ((a0.getD v4.toNat default).map z8) false),(30,i6 (((a0.getD v4.toNat default).map z8).length:Int)),(31,i6 v8)]) (L:=[]) (n:=0) ?_ ?_
  ·exact qy (M:=[]) rfl (S4 rfl rfl rfl rfl (S4 rfl rfl rfl rfl TT)) TT
  refine Y6 ?_
  cases h
  exact AI rfl (qy (M:=[]) rfl (S4 rfl rfl rfl rfl (S4 rfl rfl rfl rfl TT)) TT)
 ·have h:=zm h23 h
  refine ur ?_
  obtain⟨o,hq,rfl⟩:=p0.1 h
  replace h:=hq;clear hq
  refine AI nofun ?_
  refine p2 ?_ (zua h)
  exact qy (M:=[]) rfl (S4 rfl rfl rfl rfl (AI (VS rfl) TT)) TT
theorem zud{a0:List (List GR)}{v4:Int}{v7:Bool}{v8:Int}{m:Option Nat}{o:((Bool×Int) ⊕ Int)}(h:j8 m a0 v4 v7 v8=some o) :
 LWp Try.prog Zi 0 (.loop zyb) (zb 2 (zb 1 (uw Try.prog Zi 0 zs3 (yi 0 0 (Kd a0) (z09 a0) (z56 a0) o)))) [(0,.isl 1 (a0.map z6) false),(3,.bool v7),(17,.isl 1 (a0.map z6) false),(18,i6 ((a0.map z6).length:Int)),(19,i6 v4),(29,.isl 2 ((a0.getD v4.toNat default).map z8) false),(30,i6 (((a0.getD v4.toNat default).map z8).length:Int)),(31,i6 v8)] [] 0:=
 zn (m:=m) (s:=((v7,v8):(Bool×Int))) (r:=o) (fun(s:(Bool×Int))=>x5 m a0 v4 s.1 s.2) (zcd a0 v4) (zgm a0 v4) (zq1 a0) (fun s o h=>zng h) h
def wa(m:Option Nat)(a0:List (List GR))(v13:Int)(v19:Int):Option (Int ⊕ (Int ⊕ Int)):=
 some (.inl (W (v19+1)))
def yr(m:Option Nat)(a0:List (List GR))(v13:Int)(v19:Int)(v21:Int):Option (Int ⊕ (Int ⊕ (Int ⊕ Int))):=
 if(decide (v21<(((((a0.getD v13.toNat default).getD v19.toNat default).fA).map z7).length:Int)))=true then
  if(0:Int)≤v21∧v21<(((((a0.getD v13.toNat default).getD v19.toNat default).fA).map z7).length:Int) then
  if((decide (((((a0.getD v13.toNat default).getD v19.toNat default).fA).getD v21.toNat default)<0)) || (decide (((((a0.getD v13.toNat default).getD v19.toNat default).fA).getD v21.toNat default)≥((a0.map z6).length:Int))))=true then
   p6 p7 (
    p6 p7 (
     p6 p7 (
      some 3)))
  else
   some (.inl (W (v21+1)))
  else none
 else
  p6 p7 (
   wa m a0 v13 v19)
def xz(m:Option Nat)(a0:List (List GR))(v13:Int)(v19:Int)(v21:Int):Option (Int ⊕ (Int ⊕ Int)):=kw m (fun(s:Int)=>yr m a0 v13 v19 s) v21
def wb(m:Option Nat)(a0:List (List GR))(v13:Int):Option (Int ⊕ Int):=
 some (.inl (W (v13+1)))
def yt(m:Option Nat)(a0:List (List GR))(v13:Int)(v19:Int):Option (Int ⊕ (Int ⊕ Int)):=
 if(decide (v19<(((a0.getD v13.toNat default).map z8).length:Int)))=true then
  if(0:Int)≤v19∧v19<(((a0.getD v13.toNat default).map z8).length:Int) then
  if((decide (((a0.getD v13.toNat default).getD v19.toNat default).fM<0)) || (decide (((a0.getD v13.toNat default).getD v19.toNat default).fM≥1048576)))=true then
   p6 p7 (
    p6 p7 (
     some 1))
  else
   xz m a0 v13 v19 0
  else none
 else
  p6 p7 (
   wb m a0 v13)
def j0(m:Option Nat)(a0:List (List GR))(v13:Int)(v19:Int):Option (Int ⊕ Int):=kw m (fun(s:Int)=>yt m a0 v13 s) v19
def wc(m:Option Nat):Option Int:=
 some 0
def yx(m:Option Nat)(a0:List (List GR))(v13:Int):Option (Int ⊕ Int):=
 if(decide (v13<((a0.map z6).length:Int)))=true then
  if(0:Int)≤v13∧v13<((a0.map z6).length:Int) then
  j0 m a0 v13 0
  else none
 else
  p6 p7 (
   wc m)
def xw(m:Option Nat)(a0:List (List GR))(v13:Int):Option Int:=kw m (fun(s:Int)=>yx m a0 s) v13
def wv(m:Option Nat)(a0:List (List GR))(v3:Bool):Option Int:=
 if v3=true then
  some 2
 else
  xw m a0 0
def x9(m:Option Nat)(a0:List (List GR))(v3:Bool)(v4:Int):Option ((Bool×Int) ⊕ Int):=
 if(decide (v4<((a0.map z6).length:Int)))=true then
  if(0:Int)≤v4∧v4<((a0.map z6).length:Int) then
  j8 m a0 v4 (v3 || (decide ((((a0.getD v4.toNat default).map z8).length:Int) > 20))) 0
  else none
 else
  p6 p7 (
   wv m a0 v3)
def jc(m:Option Nat)(a0:List (List GR))(v3:Bool)(v4:Int):Option Int:=kw m (fun(s:(Bool×Int))=>x9 m a0 s.1 s.2) (v3,v4)
def Wa(a0:List (List GR))(s:Int):Env:=[(0,.isl 1 (a0.map z6) false),(45,.isl 1 (a0.map z6) false),(46,i6 ((a0.map z6).length:Int)),(47,i6 s)]
def Kb(a0:List (List GR))(s:Int):AHeap:=[]
def z0o(a0:List (List GR))(o:Int):Exit→Env→AHeap→Nat→Prop:=(zb 4 (uw Try.prog Zi 0 zsm (zw9 a0 o)))
def W5(a0:List (List GR))(v13:Int)(s:Int):Env:=[(0,.isl 1 (a0.map z6) false),(45,.isl 1 (a0.map z6) false),(46,i6 ((a0.map z6).length:Int)),(47,i6 v13),(51,.isl 2 ((a0.getD v13.toNat default).map z8) false),(52,i6 (((a0.getD v13.toNat default).map z8).length:Int)),(53,i6 s)]
def Vy(a0:List (List GR))(v13:Int)(s:Int):AHeap:=[]
def z00(a0:List (List GR))(o:(Int ⊕ Int)):Exit→Env→AHeap→Nat→Prop:=(zb 6 (zb 5 (uw Try.prog Zi 0 zse (yi 0 0 (Wa a0) (Kb a0) (z0o a0) o))))
def z6m(a0:List (List GR))(v13:Int)(v19:Int)(s:Int):Env:=[(0,.isl 1 (a0.map z6) false),(45,.isl 1 (a0.map z6) false),(46,i6 ((a0.map z6).length:Int)),(47,i6 v13),(51,.isl 2 ((a0.getD v13.toNat default).map z8) false),(52,i6 (((a0.getD v13.toNat default).map z8).length:Int)),(53,i6 v19),(66,.isl 1 ((((a0.getD v13.toNat default).getD v19.toNat default).fA).map z7) false),(67,i6 (((((a0.getD v13.toNat default).getD v19.toNat default).fA).map z7).length:Int)),(68,i6 s)]
def zb6(a0:List (List GR))(v13:Int)(v19:Int)(s:Int):AHeap:=[]
def zhb(a0:List (List GR))(v13:Int)(o:(Int ⊕ (Int ⊕ Int))):Exit→Env→AHeap→Nat→Prop:=(zb 8 (zb 7 (uw Try.prog Zi 0 zup (yi 0 0 (W5 a0 v13) (Vy a0 v13) (z00 a0) o))))
theorem zri{a0:List (List GR)}{v13:Int}{v19:Int}{m:Option Nat}{o:(Int ⊕ (Int ⊕ Int))}(h:wa m a0 v13 v19=some o) :
 LWp Try.prog Zi 0 zup (yi 0 0 (W5 a0 v13) (Vy a0 v13) (z00 a0) o) [(0,.isl 1 (a0.map z6) false),(45,.isl 1 (a0.map z6) false),(46,i6 ((a0.map z6).length:Int)),(47,i6 v13),(51,.isl 2 ((a0.getD v13.toNat default).map z8) false),(52,i6 (((a0.getD v13.toNat default).map z8).length:Int)),(53,i6 v19)] [] 0:=by
 unfold wa at h
 refine Y6 ?_
 cases h
 exact AI rfl (qy (M:=[]) rfl (S4 rfl rfl rfl rfl (S2 rfl rfl (AI (VS rfl) TT))) TT)
theorem zjt{a0:List (List GR)}{v13:Int}{v19:Int}{v21:Int}{m:Option Nat}{o:Int ⊕ (Int ⊕ (Int ⊕ Int))}(h:yr m a0 v13 v19 v21=some o) :
 LWp Try.prog Zi 0 zw3 (yi 0 0 (z6m a0 v13 v19) (zb6 a0 v13 v19) (zhb a0 v13) o) [(0,.isl 1 (a0.map z6) false),(45,.isl 1 (a0.map z6) false),(46,i6 ((a0.map z6).length:Int)),(47,i6 v13),(51,.isl 2 ((a0.getD v13.toNat default).map z8) false),(52,i6 (((a0.getD v13.toNat default).map z8).length:Int)),(53,i6 v19),(66,.isl 1 ((((a0.getD v13.toNat default).getD v19.toNat default).fA).map z7) false),(67,i6 (((((a0.getD v13.toNat default).getD v19.toNat default).fA).map z7).length:Int)),(68,i6 v21)] [] 0:=by
 unfold yr at h
 refine SR ?_
 refine xn ?_
 refine qh (v:=(decide (v21<(((((a0.getD v13.toNat default).getD v19.toNat default).fA).map z7).length:Int)))) rfl TT (fun h137=>?_) (fun h137=>?_)
 ·have h:=zj h137 h
  refine qp ?_
  refine xn ?_
  refine zo ?_
  refine SR ?_
  obtain⟨h138,h⟩:=za h
  refine AI h138 ?_
  refine EX (z7 ((((a0.getD v13.toNat default).getD v19.toNat default).fA).getD v21.toNat default)) (AI (zc z7 _ _ (yj z7 h138)) (AI (AI (xv h138) (NB rfl)) ?_))
  refine SR ?_
  refine HP ?_
  refine AI (fun hp=>(AI hp hp)) ?_
  refine AI (fun hc=>(bqf hc)) ?_
  refine p2 (e:=[(0,.isl 1 (a0.map z6) false),(45,.isl 1 (a0.map z6) false),(46,i6 ((a0.map z6).length:Int)),(47,i6 v13),(51,.isl 2 ((a0.getD v13.toNat default).map z8) false),(52,i6 (((a0.getD v13.toNat default).map z8).length:Int)),(53,i6 v19),(66,.isl 1 ((((a0.getD v13.toNat default).getD v19.toNat default).fA).map z7) false),(67,i6 (((((a0.getD v13.toNat default).getD v19.toNat default).fA).map z7).length:Int)),(68,i6 v21),(79,.bool ((decide (((((a0.getD v13.toNat default).getD v19.toNat default).fA).getD v21.toNat default)<0)) || (decide (((((a0.getD v13.toNat default).getD v19.toNat default).fA).getD v21.toNat default)≥((a0.map z6).length:Int)))))]) (L:=[]) (n:=0) ?_ ?_
  ·exact qy (M:=[]) rfl (S4 rfl rfl rfl rfl (S4 rfl rfl rfl rfl (S2 rfl rfl (AI (VS rfl) TT)))) TT
  refine qh (v:=((decide (((((a0.getD v13.toNat default).getD v19.toNat default).fA).getD v21.toNat default)<0)) || (decide (((((a0.getD v13.toNat default).getD v19.toNat default).fA).getD v21.toNat default)≥((a0.map z6).length:Int))))) rfl TT (fun h139=>?_) (fun h139=>?_)
  ·have h:=zj h139 h
   refine SR ?_
   refine Ya ?_
   obtain⟨o,hq,rfl⟩:=p0.1 h
   replace h:=hq;clear hq
   refine AI nofun ?_
   obtain⟨o,hq,rfl⟩:=p0.1 h
   replace h:=hq;clear hq
   refine AI nofun ?_
   obtain⟨o,hq,rfl⟩:=p0.1 h
   replace h:=hq;clear hq
   refine AI nofun ?_
   cases h
   exact AI TT (AI rfl (VS rfl))
  ·have h:=zm h139 h
   refine qp ?_
   refine Y6 ?_
   cases h
   exact AI rfl (qy (M:=[]) rfl (S4 rfl rfl rfl rfl (S4 rfl rfl rfl rfl (S2 rfl rfl TT))) TT)
 ·have h:=zm h137 h
  refine ur ?_
  obtain⟨o,hq,rfl⟩:=p0.1 h
  replace h:=hq;clear hq
  refine AI nofun ?_
  refine p2 ?_ (zri h)
  exact qy (M:=[]) rfl (S4 rfl rfl rfl rfl (S2 rfl rfl (AI (VS rfl) TT))) TT
theorem zl8{a0:List (List GR)}{v13:Int}{v19:Int}{v21:Int}{m:Option Nat}{o:(Int ⊕ (Int ⊕ Int))}(h:xz m a0 v13 v19 v21=some o) :
 LWp Try.prog Zi 0 (.loop zw3) (zb 8 (zb 7 (uw Try.prog Zi 0 zup (yi 0 0 (W5 a0 v13) (Vy a0 v13) (z00 a0) o)))) [(0,.isl 1 (a0.map z6) false),(45,.isl 1 (a0.map z6) false),(46,i6 ((a0.map z6).length:Int)),(47,i6 v13),(51,.isl 2 ((a0.getD v13.toNat default).map z8) false),(52,i6 (((a0.getD v13.toNat default).map z8).length:Int)),(53,i6 v19),(66,.isl 1 ((((a0.getD v13.toNat default).getD v19.toNat default).fA).map z7) false),(67,i6 (((((a0.getD v13.toNat default).getD v19.toNat default).fA).map z7).length:Int)),(68,i6 v21)] [] 0:=
 zn (m:=m) (s:=(v21:Int)) (r:=o) (fun(s:Int)=>yr m a0 v13 v19 s) (z6m a0 v13 v19) (zb6 a0 v13 v19) (zhb a0 v13) (fun s o h=>zjt h) h
theorem zlp{a0:List (List GR)}{v13:Int}{m:Option Nat}{o:(Int ⊕ Int)}(h:wb m a0 v13=some o) :
 LWp Try.prog Zi 0 zse (yi 0 0 (Wa a0) (Kb a0) (z0o a0) o) [(0,.isl 1 (a0.map z6) false),(45,.isl 1 (a0.map z6) false),(46,i6 ((a0.map z6).length:Int)),(47,i6 v13)] [] 0:=by
 unfold wb at h
 refine Y6 ?_
 cases h
 exact AI rfl (qy (M:=[]) rfl (S4 rfl rfl rfl rfl TT) TT)
theorem zjq{a0:List (List GR)}{v13:Int}{v19:Int}{m:Option Nat}{o:Int ⊕ (Int ⊕ Int)}(h:yt m a0 v13 v19=some o) :
 LWp Try.prog Zi 0 zxm (yi 0 0 (W5 a0 v13) (Vy a0 v13) (z00 a0) o) [(0,.isl 1 (a0.map z6) false),(45,.isl 1 (a0.map z6) false),(46,i6 ((a0.map z6).length:Int)),(47,i6 v13),(51,.isl 2 ((a0.getD v13.toNat default).map z8) false),(52,i6 (((a0.getD v13.toNat default).map z8).length:Int)),(53,i6 v19)] [] 0:=by
 unfold yt at h
 refine SR ?_
 refine xn ?_
 refine qh (v:=(decide (v19<(((a0.getD v13.toNat default).map z8).length:Int)))) rfl TT (fun h128=>?_) (fun h128=>?_)
 ·have h:=zj h128 h
  refine qp ?_
  refine xn ?_
  refine zo ?_
  refine SR ?_
  obtain⟨h129,h⟩:=za h
  refine AI h129 ?_
  refine EX (z8 ((a0.getD v13.toNat default).getD v19.toNat default)) (AI (zc z8 _ _ (yj z8 h129)) (AI (AI (xv h129) (NB rfl)) ?_))
  refine xn ?_
  refine SR ?_
  refine HP ?_
  refine HP ?_
  refine AI (fun hc=>(bqf hc)) ?_
  refine p2 (e:=[(0,.isl 1 (a0.map z6) false),(11,.ptr (0,0) 0 0),(45,.isl 1 (a0.map z6) false),(46,i6 ((a0.map z6).length:Int)),(47,i6 v13),(51,.isl 2 ((a0.getD v13.toNat default).map z8) false),(52,i6 (((a0.getD v13.toNat default).map z8).length:Int)),(53,i6 v19),(64,.bool ((decide (((a0.getD v13.toNat default).getD v19.toNat default).fM<0)) || (decide (((a0.getD v13.toNat default).getD v19.toNat default).fM≥1048576))))]) (L:=[((0,0),.one [i6 (((a0.getD v13.toNat default).getD v19.toNat default).fM),.isl 1 ((((a0.getD v13.toNat default).getD v19.toNat default).fA).map z7) false])]) (n:=1) ?_ ?_
  ·exact qy (M:=[((0,0),(0,0))]) rfl (AI (VS rfl) (SP rfl (S4 rfl rfl rfl rfl (S2 rfl rfl (AI (VS rfl) TT))))) (AI (AI rfl (OL rfl)) TT)
  refine qh (v:=((decide (((a0.getD v13.toNat default).getD v19.toNat default).fM<0)) || (decide (((a0.getD v13.toNat default).getD v19.toNat default).fM≥1048576)))) rfl TT (fun h130=>?_) (fun h130=>?_)
  ·have h:=zj h130 h
   refine SR ?_
   refine Ya ?_
   obtain⟨o,hq,rfl⟩:=p0.1 h
   replace h:=hq;clear hq
   refine AI nofun ?_
   obtain⟨o,hq,rfl⟩:=p0.1 h
   replace h:=hq;clear hq
   refine AI nofun ?_
   cases h
   exact AI TT (AI rfl (VS rfl))
  ·have h:=zm h130 h
   refine qp ?_
   refine SR ?_
   refine zo ?_
   refine p2 ?_ (zl8 h)
   exact qy (M:=[]) rfl (S4 rfl rfl rfl rfl (S4 rfl rfl rfl rfl (S2 rfl rfl TT))) TT
 ·have h:=zm h128 h
  refine ur ?_
  obtain⟨o,hq,rfl⟩:=p0.1 h
  replace h:=hq;clear hq
  refine AI nofun ?_
  refine p2 ?_ (zlp h)
  exact qy (M:=[]) rfl (S4 rfl rfl rfl rfl TT) TT
theorem znj{a0:List (List GR)}{v13:Int}{v19:Int}{m:Option Nat}{o:(Int ⊕ Int)}(h:j0 m a0 v13 v19=some o) :
 LWp Try.prog Zi 0 (.loop zxm) (zb 6 (zb 5 (uw Try.prog Zi 0 zse (yi 0 0 (Wa a0) (Kb a0) (z0o a0) o)))) [(0,.isl 1 (a0.map z6) false),(45,.isl 1 (a0.map z6) false),(46,i6 ((a0.map z6).length:Int)),(47,i6 v13),(51,.isl 2 ((a0.getD v13.toNat default).map z8) false),(52,i6 (((a0.getD v13.toNat default).map z8).length:Int)),(53,i6 v19)] [] 0:=
 zn (m:=m) (s:=(v19:Int)) (r:=o) (fun(s:Int)=>yt m a0 v13 s) (W5 a0 v13) (Vy a0 v13) (z00 a0) (fun s o h=>zjq h) h
theorem zo1{a0:List (List GR)}{m:Option Nat}{o:Int}(h:wc m=some o) :
 LWp Try.prog Zi 0 zsm (zw9 a0 o) [] [] 0:=by
 unfold wc at h
 refine SR ?_
 refine Ya ?_
 cases h
 exact AI TT (AI rfl (VS rfl))
theorem zjl{a0:List (List GR)}{v13:Int}{m:Option Nat}{o:Int ⊕ Int}(h:yx m a0 v13=some o) :
 LWp Try.prog Zi 0 zw0 (yi 0 0 (Wa a0) (Kb a0) (z0o a0) o) [(0,.isl 1 (a0.map z6) false),(45,.isl 1 (a0.map z6) false),(46,i6 ((a0.map z6).length:Int)),(47,i6 v13)] [] 0:=by
 unfold yx at h
 refine SR ?_
 refine xn ?_
 refine qh (v:=(decide (v13<((a0.map z6).length:Int)))) rfl TT (fun h102=>?_) (fun h102=>?_)
 ·have h:=zj h102 h
  refine qp ?_
  refine xn ?_
  refine zo ?_
  refine SR ?_
  obtain⟨h103,h⟩:=za h
  refine AI h103 ?_
  refine EX (z6 (a0.getD v13.toNat default)) (AI (zc z6 _ _ (yj z6 h103)) (AI (AI (xv h103) (NB rfl)) ?_))
  refine SR ?_
  refine zo ?_
  refine p2 ?_ (znj h)
  exact qy (M:=[]) rfl (S4 rfl rfl rfl rfl (S2 rfl rfl (AI (VS rfl) TT))) TT
 ·have h:=zm h102 h
  refine ur ?_
  obtain⟨o,hq,rfl⟩:=p0.1 h
  replace h:=hq;clear hq
  refine AI nofun ?_
  refine p2 ?_ (zo1 h)
  exact qy (M:=[]) rfl TT TT
theorem zmx{a0:List (List GR)}{v13:Int}{m:Option Nat}{o:Int}(h:xw m a0 v13=some o) :
 LWp Try.prog Zi 0 (.loop zw0) (zb 4 (uw Try.prog Zi 0 zsm (zw9 a0 o))) [(0,.isl 1 (a0.map z6) false),(45,.isl 1 (a0.map z6) false),(46,i6 ((a0.map z6).length:Int)),(47,i6 v13)] [] 0:=
 zn (m:=m) (s:=(v13:Int)) (r:=o) (fun(s:Int)=>yx m a0 s) (Wa a0) (Kb a0) (z0o a0) (fun s o h=>zjl h) h
theorem zu3{a0:List (List GR)}{v3:Bool}{m:Option Nat}{o:Int}(h:wv m a0 v3=some o) :
 LWp Try.prog Zi 0 zsd (zw9 a0 o) [(0,.isl 1 (a0.map z6) false),(3,.bool v3)] [] 0:=by
 unfold wv at h
 refine xn ?_
 refine SR ?_
 refine qh (v:=v3) rfl TT (fun h25=>?_) (fun h25=>?_)
 ·have h:=zj h25 h
  refine SR ?_
  refine Ya ?_
  cases h
  exact AI TT (AI rfl (VS rfl))
 ·have h:=zm h25 h
  refine qp ?_
  refine xn ?_
  refine SR ?_
  refine zo ?_
  refine p2 ?_ (zmx h)
  exact qy (M:=[]) rfl (S4 rfl rfl rfl rfl TT) TT
theorem zr6{a0:List (List GR)}{v3:Bool}{v4:Int}{m:Option Nat}{o:(Bool×Int) ⊕ Int}(h:x9 m a0 v3 v4=some o) :
 LWp Try.prog Zi 0 zy2 (yi 0 0 (Kd a0) (z09 a0) (z56 a0) o) [(0,.isl 1 (a0.map z6) false),(3,.bool v3),(17,.isl 1 (a0.map z6) false),(18,i6 ((a0.map z6).length:Int)),(19,i6 v4)] [] 0:=by
 unfold x9 at h
 refine SR ?_
 refine xn ?_
 refine qh (v:=(decide (v4<((a0.map z6).length:Int)))) rfl TT (fun h17=>?_) (fun h17=>?_)
 ·have h:=zj h17 h
  refine qp ?_
  refine xn ?_
  refine zo ?_
  refine SR ?_
  obtain⟨h18,h⟩:=za h
  refine AI h18 ?_
  refine EX (z6 (a0.getD v4.toNat default)) (AI (zc z6 _ _ (yj z6 h18)) (AI (AI (xv h18) (NB rfl)) ?_))
  refine SR ?_
  refine HP ?_
  refine HP ?_
  refine AI (fun hc=>(bqf hc)) ?_
  refine p2 (e:=[(0,.isl 1 (a0.map z6) false),(3,.bool (v3 || (decide ((((a0.getD v4.toNat default).map z8).length:Int) > 20)))),(5,.isl 2 ((a0.getD v4.toNat default).map z8) false),(17,.isl 1 (a0.map z6) false),(18,i6 ((a0.map z6).length:Int)),(19,i6 v4)]) (L:=[]) (n:=0) ?_ ?_
  ·exact qy (M:=[]) rfl (S4 rfl rfl rfl rfl (S2 rfl rfl TT)) TT
  refine SR ?_
  refine zo ?_
  refine p2 ?_ (zud h)
  exact qy (M:=[]) rfl (S4 rfl rfl rfl rfl (S4 rfl rfl rfl rfl TT)) TT
 ·have h:=zm h17 h
  refine ur ?_
  obtain⟨o,hq,rfl⟩:=p0.1 h
  replace h:=hq;clear hq
  refine AI nofun ?_
  refine p2 ?_ (zu3 h)
  exact qy (M:=[]) rfl (S2 rfl rfl TT) TT
theorem ztm{a0:List (List GR)}{v3:Bool}{v4:Int}{m:Option Nat}{o:Int}(h:jc m a0 v3 v4=some o) :
 LWp Try.prog Zi 0 (.loop zy2) (zb 0 (uw Try.prog Zi 0 zsd (zw9 a0 o))) [(0,.isl 1 (a0.map z6) false),(3,.bool v3),(17,.isl 1 (a0.map z6) false),(18,i6 ((a0.map z6).length:Int)),(19,i6 v4)] [] 0:=
 zn (m:=m) (s:=((v3,v4):(Bool×Int))) (r:=o) (fun(s:(Bool×Int))=>x9 m a0 s.1 s.2) (Kd a0) (z09 a0) (z56 a0) (fun s o h=>zr6 h) h
def qc(m:Option Nat)(a0:List (List GR)):Option Int:=
 jc m a0 (decide (((a0.map z6).length:Int) > 60)) 0
theorem zry{a0:List (List GR)}{m:Option Nat}{o:Int}(h:qc m a0=some o):LWp Try.prog Zi 0 zvf (zw9 a0 o) (qe 0 [.isl 1 (a0.map z6) false]) [] 0:=by
 unfold qc at h
 refine SR ?_
 refine SR ?_
 refine xn ?_
 refine SR ?_
 refine p2 (e:=[(0,.isl 1 (a0.map z6) false),(3,.bool (decide (((a0.map z6).length:Int) > 60))),(17,.isl 1 (a0.map z6) false),(18,i6 ((a0.map z6).length:Int)),(19,i6 0)]) (L:=[]) (n:=0) ?_ ?_
 ·exact qy (M:=[]) rfl (S4 rfl rfl rfl rfl (AI (VS rfl) TT)) TT
 refine zo ?_
 refine p2 ?_ (ztm h)
 exact qy (M:=[]) rfl (S4 rfl rfl rfl rfl (AI (VS rfl) TT)) TT
theorem zwm{a0:List (List GR)}{m:Option Nat}{o:Int}(h:qc m a0=some o):PFn Try.prog 6 [.isl 1 (a0.map z6) false] (i6 o):=pA (L:=y1u) zyt zyp (NB rfl) rfl (zry h)
def xl(m:Option Nat)(a0:List (List GR)):Option (List (List GR)):=zye 24 a0
theorem zs1:Xk Try.prog 7:=⟨_,Try.func7,rfl,rfl⟩
theorem zoh{m:Option Nat}{a0:List (List GR)}{o:List (List GR)}(h:xl m a0=some o):ACalls Try.prog 7 [.isl 1 (a0.map z6) false] [] 3 (Ze 4 (.msl (3,0) 1 0 o.length false) [((3,0),.rows 1 (o.map z6))]):=
 z6r z6 (fun _=>rfl) (by kernel_rfl) zs1 h _
def y00:LCode:=(.seq (.region [Qm 14 5,
 Qm 4 14])
 .ret)
def zzc:LCode:=(.seq (.region [Qi 4 0])
 (.seq (.region [Qm 6 0,
  Qm 7 1,
  Qo 8 (.bin .rem (.t 6) (.t 7)),
  Qm 5 8])
 (.seq (.seq (.region [Qm 9 5,
  Qo 10 (.bin .lss (.t 9) (.c (i6 0)))])
 (.cond (.t 10)
  (.region [Qm 11 5,
   Qm 12 1,
   Qo 13 (.bin .add (.t 11) (.t 12)),
   Qm 5 13])
  .skip))
 y00)))
def zma:Lay:=⟨15,[],false⟩
def zvq:List LRes:=[.t 4]
def y21:LFn:=⟨2,zma,zzc,zvq⟩
theorem zz0:Zb Try.prog [] 8=some y21:=by kernel_rfl
theorem zzv:Xk Try.prog 8:=⟨_,Try.func8,rfl,rfl⟩
def kq(m:Option Nat)(v1:Int):Option Int:=
 some v1
def y23(a0:Int)(a1:Int)(o:Int):Exit→Env→AHeap→Nat→Prop:=W4 zvq (Yd (i6 o))
theorem zgq{a0:Int}{a1:Int}{v1:Int}{m:Option Nat}{o:Int}(h:kq m v1=some o) :
 LWp Try.prog zma 0 y00 (y23 a0 a1 o) [(5,i6 v1)] [] 0:=by
 unfold kq at h
 refine SR ?_
 refine Ya ?_
 cases h
 exact AI TT (AI rfl (VS rfl))
def j4(m:Option Nat)(a0:Int)(a1:Int):Option Int:=
 if a1≠0 then
 if(decide ((a0.tmod a1)<0))=true then
  kq m (W ((a0.tmod a1)+a1))
 else
  kq m (a0.tmod a1)
 else none
theorem zu6{a0:Int}{a1:Int}{m:Option Nat}{o:Int}(h:j4 m a0 a1=some o):LWp Try.prog zma 0 zzc (y23 a0 a1 o) (qe 0 [i6 a0,i6 a1]) [] 0:=by
 unfold j4 at h
 refine SR ?_
 refine SR ?_
 obtain⟨h1,h⟩:=za h
 refine AI h1 ?_
 refine xn ?_
 refine SR ?_
 refine qh (v:=(decide ((a0.tmod a1)<0))) rfl TT (fun h2=>?_) (fun h2=>?_)
 ·have h:=zj h2 h
  refine Y6 ?_
  refine p2 ?_ (zgq h)
  exact qy (M:=[]) rfl (AI (VS rfl) TT) TT
 ·have h:=zm h2 h
  refine qp ?_
  refine p2 ?_ (zgq h)
  exact qy (M:=[]) rfl (AI (VS rfl) TT) TT
theorem zsf{a0:Int}{a1:Int}{m:Option Nat}{o:Int}(h:j4 m a0 a1=some o):PFn Try.prog 8 [i6 a0,i6 a1] (i6 o):=pA (L:=y21) zz0 zzv (NB rfl) rfl (zu6 h)
end
end Go.Proofs.Ytbohjnffcnhgeaa
