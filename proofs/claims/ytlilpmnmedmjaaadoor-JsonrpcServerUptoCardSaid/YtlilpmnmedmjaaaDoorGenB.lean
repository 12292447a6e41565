/-
  Own text GenB of this claim: what functions of the given program compute, in plain Lean, and the proof; no condition.
-/
import Derived.Test.YtlilpmnmedmjaaaDoorGenA
open Go.Fx.BVw renaming enc→p1,oneL→p2
open Go.Fx.LWp renaming sim→p3
open Option renaming map_eq_some_iff→p6
open Go.Fx.PFn renaming call→p4
open Go.Fx.Vw renaming mslE→p0,islF→p5,aggL→p7
namespace Go.Proofs.YtlilpmnmedmjaaaDoor
noncomputable section
open Go.Fx
set_option linter.unusedVariables false
def z69:LCode:=(.seq (.region [Qo 107 (.bin .lss (.t 106) (.t 105))])
 (.seq (.cond (.t 107)
  .skip
  (.exit 0))
 (.seq (.block 1
  (.seq (.region [Qo 108 (.iaddr 1 (.t 104) (.t 106)),
   Ql 109 1 108,
   Qm 6 109])
  (.region [Qm 110 4,
   Qm 111 110,
   Qn 112 6 (111,true),
   Qg 113 (.call 41 [(.t 112)]) (111,true),
   Qp 114 111 113,
   Qm 4 114])))
 (.region [Qo 115 (.bin .add (.t 106) (.c (i6 1))),
  Qm 106 115]))))
def z6p:LCode:=(.seq (.region [Qo 122 (.bin .lss (.t 121) (.t 120))])
 (.seq (.cond (.t 122)
  .skip
  (.exit 2))
 (.seq (.block 3
  (.seq (.region [Qo 123 (.iaddr 5 (.t 119) (.t 121)),
   Qt 124 5 123,
   Qo 8 (.alloc [(i6 0),(i6 0),(.str []),(.isl 1 [] true),(.isl 5 [] true)]),
   ⟨none,.store 5 (.t 8) (.t 124),none⟩])
  (.seq (.region [Qt 125 5 8,
   Qc 126 60 125,
   Qm 9 126])
  (.seq (.region [Qm 127 9,
   Qo 128 (.bin .neq (.t 127) (.c (i6 0)))])
  (.cond (.t 128)
   (.seq (.region [Qm 129 9,
    Qm 2 129])
   .ret)
   .skip)))))
 (.region [Qo 130 (.bin .add (.t 121) (.c (i6 1))),
  Qm 121 130]))))
def z1p:LCode:=(.seq (.region [Qi 2 0])
 .ret)
def z23:LCode:=(.seq (.seq (.region [Qm 116 4,
 Qo 117 (.un .not (.t 116))])
 (.cond (.t 117)
  (.seq (.region [Qi 2 3])
  .ret)
  .skip))
 (.seq (.seq (.region [Qf 118 4 1,
  Ql 119 1 118,
  Qo 120 (.len false (.t 119)),
  Qi 121 0])
 (.block 2
  (.loop
   z6p)))
 z1p))
def zgm:LCode:=(.seq (.seq (.region [Qf 103 3 1,
 Ql 104 1 103,
 Qo 105 (.len false (.t 104)),
 Qi 106 0])
 (.block 0
  (.loop
   z69)))
 z23)
def zfx:LCode:=(.seq (.region [Qo 1 (.box (.t 0)),
 Qi 2 0])
 (.seq (.seq (.region [Qf 10 0 1,
  Ql 11 1 10,
  Qo 12 (.bin .lss (.t 11) (.c (i6 0))),
  Qm 13 12,
  Qe 14 0 1 (13,false),
  Qk 15 1 14 (13,false),
  Qg 16 (.bin .gtr (.t 15) (.c (i6 5))) (13,false),
  Qo 17 (.pick (.t 13) (.c (.bool true)) (.t 16))])
 (.cond (.t 17)
  (.seq (.region [Qi 2 7])
  .ret)
  .skip))
 (.seq (.region [Qi 3 9007199254740991])
 (.seq (.region [Qf 18 1 1,
  Ql 19 1 18,
  Qo 20 (.bin .eql (.t 19) (.c (i6 0))),
  Qm 21 20,
  Qe 22 0 1 (21,false),
  Qk 23 1 22 (21,false),
  Qg 24 (.bin .eql (.t 23) (.c (i6 1))) (21,false),
  Qn 25 24 (21,false),
  Qe 26 1 1 (25,true),
  Qk 27 1 26 (25,true),
  Qg 28 (.bin .eql (.t 27) (.c (i6 1))) (25,true),
  Qg 29 (.pick (.t 25) (.t 28) (.c (.bool false))) (21,false),
  Qo 30 (.pick (.t 21) (.c (.bool true)) (.t 29)),
  Qm 31 30,
  Qe 32 0 1 (31,false),
  Qk 33 1 32 (31,false),
  Qg 34 (.bin .eql (.t 33) (.c (i6 2))) (31,false),
  Qn 35 34 (31,false),
  Qn 36 3 (35,true),
  Qg 37 (.un .neg (.t 36)) (35,true),
  Qe 38 1 1 (35,true),
  Qk 39 1 38 (35,true),
  Qg 40 (.bin .leq (.t 37) (.t 39)) (35,true),
  Qg 41 (.pick (.t 35) (.t 40) (.c (.bool false))) (31,false),
  Qn 42 41 (31,false),
  Qe 43 1 1 (42,true),
  Qk 44 1 43 (42,true),
  Qn 45 3 (42,true),
  Qg 46 (.bin .leq (.t 44) (.t 45)) (42,true),
  Qg 47 (.pick (.t 42) (.t 46) (.c (.bool false))) (31,false),
  Qo 48 (.pick (.t 31) (.c (.bool true)) (.t 47)),
  Qm 4 48])
 (.seq (.region [Qm 49 4,
  Qm 50 49,
  Qe 51 2 1 (50,true),
  Qk 52 1 51 (50,true),
  Qg 53 (.bin .eql (.t 52) (.c (.str []))) (50,true),
  Qn 54 53 (50,true),
  Qe 55 0 1 (54,false),
  Qk 56 1 55 (54,false),
  Qg 57 (.bin .eql (.t 56) (.c (i6 3))) (54,false),
  Qn 58 57 (54,false),
  Qe 59 2 1 (58,true),
  Qk 60 1 59 (58,true),
  Qg 61 (.call 41 [(.t 60)]) (58,true),
  Qg 62 (.pick (.t 58) (.t 61) (.c (.bool false))) (54,false),
  Qg 63 (.pick (.t 54) (.c (.bool true)) (.t 62)) (50,true),
  Qp 64 50 63,
  Qm 4 64])
 (.seq (.region [Qm 65 4,
  Qm 66 65,
  Qe 67 4 1 (66,true),
  Qk 68 1 67 (66,true),
  Qg 69 (.len false (.t 68)) (66,true),
  Qg 70 (.bin .eql (.t 69) (.c (i6 0))) (66,true),
  Qn 71 70 (66,true),
  Qe 72 0 1 (71,false),
  Qk 73 1 72 (71,false),
  Qg 74 (.bin .geq (.t 73) (.c (i6 4))) (71,false),
  Qg 75 (.pick (.t 71) (.c (.bool true)) (.t 74)) (66,true),
  Qp 76 66 75,
  Qm 4 76])
 (.seq (.seq (.region [Qf 77 0 1,
  Ql 78 1 77,
  Qo 79 (.bin .eql (.t 78) (.c (i6 5)))])
 (.cond (.t 79)
  (.region [Qm 80 4,
   Qm 81 80,
   Qe 82 3 1 (81,true),
   Qk 83 1 82 (81,true),
   Qg 84 (.len false (.t 83)) (81,true),
   Qe 85 4 1 (81,true),
   Qk 86 1 85 (81,true),
   Qg 87 (.len false (.t 86)) (81,true),
   Qg 88 (.bin .eql (.t 84) (.t 87)) (81,true),
   Qp 89 81 88,
   Qm 90 89,
   Qe 91 3 1 (90,true),
   Qk 92 1 91 (90,true),
   Qg 93 (.call 71 [(.t 92)]) (90,true),
   Qg 94 (.un .not (.t 93)) (90,true),
   Qp 95 90 94,
   Qm 4 95])
  (.region [Qm 96 4,
   Qm 97 96,
   Qe 98 3 1 (97,true),
   Qk 99 1 98 (97,true),
   Qg 100 (.len false (.t 99)) (97,true),
   Qg 101 (.bin .eql (.t 100) (.c (i6 0))) (97,true),
   Qp 102 97 101,
   Qm 4 102])))
 zgm)))))))
def ux:Lay:=⟨131,[],false⟩
def z8d:List LRes:=[.t 2]
def zpf:LFn:=⟨1,ux,zfx,z8d⟩
theorem zle:wm Tryd.prog [] 60=some zpf:=by kernel_rfl
theorem zqy:Zc Tryd.prog 60:=⟨_,Tryd.func60,rfl,rfl⟩
def Wt(a0:GJ)(o:Int):Exit→Env→AHeap→Nat→Prop:=Y2 z8d (Zz 3 3 (i6 o) [])
def z0x(a0:GJ)(s:(Bool×Int)):Env:=[(1,.ptr (3,0) 0 0),(4,.bool s.1),(104,.isl 1 (a0.fA.map za) false),(105,i6 ((a0.fA.map za).length:Int)),(106,i6 s.2)]
def z26(a0:GJ)(s:(Bool×Int)):AHeap:=[((3,0),.one (z7 a0))]
def z4z(a0:GJ)(o:Int):Exit→Env→AHeap→Nat→Prop:=(x4 0 (Yk Tryd.prog ux 3 z23 (Wt a0 o)))
def kc(rec5:GJ→Option Int)(m:Option Nat):Option Int:=
 some 0
def jz(rec5:GJ→Option Int)(m:Option Nat)(a0:GJ)(v11:Int):Option (Int ⊕ Int):=
 if(decide (v11<((a0.fE.map ze).length:Int)))=true then
  if(0:Int)≤v11∧v11<((a0.fE.map ze).length:Int) then
  ((Yt (a0.fE.getD v11.toNat default))).bind fun v14=>
  (rec5 v14).bind fun v15=>
  if(v15 != 0)=true then
   Option.map Sum.inr (
    some v15)
  else
   some (.inl (W (v11+1)))
  else none
 else
  Option.map Sum.inr (
   kc rec5 m)
def uq(rec5:GJ→Option Int)(m:Option Nat)(a0:GJ)(v11:Int):Option Int:=Y5 m (fun(s:Int)=>jz rec5 m a0 s) v11
def yw(rec5:GJ→Option Int)(m:Option Nat)(a0:GJ)(v5:Bool):Option Int:=
 if(!v5)=true then
  some 3
 else
  uq rec5 m a0 0
def y9(rec5:GJ→Option Int)(m:Option Nat)(a0:GJ)(v5:Bool)(v6:Int):Option ((Bool×Int) ⊕ Int):=
 if(decide (v6<((a0.fA.map za).length:Int)))=true then
  if(0:Int)≤v6∧v6<((a0.fA.map za).length:Int) then
  (if(v5==true)=true then qv m (a0.fA.getD v6.toNat default) else some default).bind fun v8=>
  some (.inl ((v5&&v8),(W (v6+1))))
  else none
 else
  Option.map Sum.inr (
   yw rec5 m a0 v5)
def xh(rec5:GJ→Option Int)(m:Option Nat)(a0:GJ)(v5:Bool)(v6:Int):Option Int:=Y5 m (fun(s:(Bool×Int))=>y9 rec5 m a0 s.1 s.2) (v5,v6)
def z15(a0:GJ)(s:Int):Env:=[(119,.isl 5 (a0.fE.map ze) false),(120,i6 ((a0.fE.map ze).length:Int)),(121,i6 s)]
def z2o(a0:GJ)(s:Int):AHeap:=[]
def z5r(a0:GJ)(o:Int):Exit→Env→AHeap→Nat→Prop:=(x4 2 (Yk Tryd.prog ux 3 z1p (Wt a0 o)))
abbrev Hr5(rec5:GJ→Option Int):Prop:=∀ {a0:GJ} {o:Int},rec5 a0=some o→ACalls Tryd.prog 60 [.agg (z7 a0)] [] 3 (u0 3 (i6 o) [])
theorem ze7{rec5:GJ→Option Int}(hrec5:Hr5 rec5){a0:GJ}{m:Option Nat}{o:Int}(h:kc rec5 m=some o) :
 LWp Tryd.prog ux 3 z1p (Wt a0 o) [] [] 3:=by
 unfold kc at h
 refine SR ?_
 refine wl ?_
 cases h
 exact AI TT (Yl (n':=3) [] [] rfl rfl (VS rfl) TT)
theorem za2{rec5:GJ→Option Int}(hrec5:Hr5 rec5){a0:GJ}{v11:Int}{m:Option Nat}{o:Int ⊕ Int}(h:jz rec5 m a0 v11=some o) :
 LWp Tryd.prog ux 3 z6p (Z7 3 3 (z15 a0) (z2o a0) (z5r a0) o) [(119,.isl 5 (a0.fE.map ze) false),(120,i6 ((a0.fE.map ze).length:Int)),(121,i6 v11)] [] 3:=by
 unfold jz at h
 refine SR ?_
 refine wn ?_
 refine y4 (v:=(decide (v11<((a0.fE.map ze).length:Int)))) rfl TT (fun h25=>?_) (fun h25=>?_)
 ·have h:=zd h25 h
  refine x6 ?_
  refine wn ?_
  refine xk ?_
  refine SR ?_
  obtain⟨h26,h⟩:=zj h
  refine AI h26 ?_
  obtain⟨v14,h27,h⟩:=bind_some h
  refine EX (z7 v14) (AI (Z5 (uz ze h26) h27) (AI (AI (Y1 h26) (NB rfl)) ?_))
  refine SR ?_
  obtain⟨v15,h28,h⟩:=bind_some h
  refine Z2 (k:=3) (m:=0) (L':=[]) (rest:=[((3,0),.one (z7 v14))]) (R':=i6 v15) [] (hrec5 h28) rfl rfl rfl (AI (VS rfl) TT) TT (xl _ rfl) TT rfl ?_
  refine p3 (e:=[(9,i6 v15),(119,.isl 5 (a0.fE.map ze) false),(120,i6 ((a0.fE.map ze).length:Int)),(121,i6 v11)]) (L:=[]) (n:=3) ?_ ?_
  ·exact y7 (M:=[]) rfl (S4 rfl rfl rfl rfl TT) TT
  refine SR ?_
  refine y4 (v:=(v15 != 0)) rfl TT (fun h29=>?_) (fun h29=>?_)
  ·have h:=zd h29 h
   refine SR ?_
   refine wl ?_
   obtain⟨o,hq,rfl⟩:=p6.1 h
   replace h:=hq;clear hq
   refine AI nofun ?_
   cases h
   exact AI TT (Yl (n':=3) [] [] rfl rfl (VS rfl) TT)
  ·have h:=zk h29 h
   refine x6 ?_
   refine J1 ?_
   cases h
   exact AI rfl (y7 (M:=[]) rfl (S2 rfl rfl (AI (VS rfl) TT)) TT)
 ·have h:=zk h25 h
  refine Xh ?_
  obtain⟨o,hq,rfl⟩:=p6.1 h
  replace h:=hq;clear hq
  refine AI nofun ?_
  refine p3 ?_ (ze7 hrec5 h)
  exact y7 (M:=[]) rfl TT TT
theorem zdp{rec5:GJ→Option Int}(hrec5:Hr5 rec5){a0:GJ}{v11:Int}{m:Option Nat}{o:Int}(h:uq rec5 m a0 v11=some o) :
 LWp Tryd.prog ux 3 (.loop z6p) (x4 2 (Yk Tryd.prog ux 3 z1p (Wt a0 o))) [(119,.isl 5 (a0.fE.map ze) false),(120,i6 ((a0.fE.map ze).length:Int)),(121,i6 v11)] [] 3:=
 wy (m:=m) (s:=(v11:Int)) (r:=o) (fun(s:Int)=>jz rec5 m a0 s) (z15 a0) (z2o a0) (z5r a0) (fun s o h=>za2 hrec5 h) h
theorem zco{rec5:GJ→Option Int}(hrec5:Hr5 rec5){a0:GJ}{v5:Bool}{m:Option Nat}{o:Int}(h:yw rec5 m a0 v5=some o) :
 LWp Tryd.prog ux 3 z23 (Wt a0 o) [(1,.ptr (3,0) 0 0),(4,.bool v5)] [((3,0),.one (z7 a0))] 4:=by
 unfold yw at h
 refine wn ?_
 refine SR ?_
 refine y4 (v:=(!v5)) rfl TT (fun h14=>?_) (fun h14=>?_)
 ·have h:=zd h14 h
  refine SR ?_
  refine wl ?_
  cases h
  exact AI TT (Yl (n':=4) [] [] rfl rfl (VS rfl) TT)
 ·have h:=zk h14 h
  refine x6 ?_
  refine wn ?_
  refine SR ?_
  refine xk ?_
  refine p3 ?_ (zdp hrec5 h)
  exact y7 (M:=[]) rfl (S2 rfl rfl (AI (VS rfl) TT)) TT
theorem zbj{rec5:GJ→Option Int}(hrec5:Hr5 rec5){a0:GJ}{v5:Bool}{v6:Int}{m:Option Nat}{o:(Bool×Int) ⊕ Int}(h:y9 rec5 m a0 v5 v6=some o) :
 LWp Tryd.prog ux 3 z69 (Z7 3 4 (z0x a0) (z26 a0) (z4z a0) o) [(1,.ptr (3,0) 0 0),(4,.bool v5),(104,.isl 1 (a0.fA.map za) false),(105,i6 ((a0.fA.map za).length:Int)),(106,i6 v6)] [((3,0),.one (z7 a0))] 4:=by
 unfold y9 at h
 refine SR ?_
 refine wn ?_
 refine y4 (v:=(decide (v6<((a0.fA.map za).length:Int)))) rfl TT (fun h11=>?_) (fun h11=>?_)
 ·have h:=zd h11 h
  refine x6 ?_
  refine wn ?_
  refine xk ?_
  refine SR ?_
  obtain⟨h12,h⟩:=zj h
  refine AI h12 ?_
  refine EX (za (a0.fA.getD v6.toNat default)) (AI (jx za _ _ (uz za h12)) (AI (AI (Y1 h12) (NB rfl)) ?_))
  refine J1 ?_
  obtain⟨v8,h13,h⟩:=bind_some h
  refine Or.inl (EX (.bool v8) (AI (fun hp=>AI hp (p4 (zoq (zd hp h13)) (AI (VS rfl) TT) (AI rfl (AI rfl rfl)))) ?_))
  refine HB ?_
  refine p3 (e:=[(1,.ptr (3,0) 0 0),(4,.bool (v5&&v8)),(104,.isl 1 (a0.fA.map za) false),(105,i6 ((a0.fA.map za).length:Int)),(106,i6 v6)]) (L:=[((3,0),.one (z7 a0))]) (n:=4) ?_ ?_
  ·exact y7 (M:=[((3,0),(3,0))]) rfl (SP rfl (S4 rfl rfl rfl rfl TT)) (AI (AI rfl (OL rfl)) TT)
  refine J1 ?_
  cases h
  exact AI rfl (y7 (M:=[((3,0),(3,0))]) rfl (SP rfl (S4 rfl rfl rfl rfl TT)) (AI (AI rfl (OL rfl)) TT))
 ·have h:=zk h11 h
  refine Xh ?_
  obtain⟨o,hq,rfl⟩:=p6.1 h
  replace h:=hq;clear hq
  refine AI nofun ?_
  refine p3 ?_ (zco hrec5 h)
  exact y7 (M:=[((3,0),(3,0))]) rfl (SP rfl (AI (VS rfl) TT)) (AI (AI rfl (OL rfl)) TT)
theorem zd1{rec5:GJ→Option Int}(hrec5:Hr5 rec5){a0:GJ}{v5:Bool}{v6:Int}{m:Option Nat}{o:Int}(h:xh rec5 m a0 v5 v6=some o) :
 LWp Tryd.prog ux 3 (.loop z69) (x4 0 (Yk Tryd.prog ux 3 z23 (Wt a0 o))) [(1,.ptr (3,0) 0 0),(4,.bool v5),(104,.isl 1 (a0.fA.map za) false),(105,i6 ((a0.fA.map za).length:Int)),(106,i6 v6)] [((3,0),.one (z7 a0))] 4:=
 wy (m:=m) (s:=((v5,v6):(Bool×Int))) (r:=o) (fun(s:(Bool×Int))=>y9 rec5 m a0 s.1 s.2) (z0x a0) (z26 a0) (z4z a0) (fun s o h=>zbj hrec5 h) h
def y8(rec5:GJ→Option Int)(m:Option Nat)(a0:GJ)(v3:Bool):Option Int:=
 xh rec5 m a0 v3 0
theorem z3m{rec5:GJ→Option Int}(hrec5:Hr5 rec5){a0:GJ}{v3:Bool}{m:Option Nat}{o:Int}(h:y8 rec5 m a0 v3=some o) :
 LWp Tryd.prog ux 3 zgm (Wt a0 o) [(1,.ptr (3,0) 0 0),(4,.bool v3)] [((3,0),.one (z7 a0))] 4:=by
 unfold y8 at h
 refine wn ?_
 refine SR ?_
 refine xk ?_
 refine p3 ?_ (zd1 hrec5 h)
 exact y7 (M:=[((3,0),(3,0))]) rfl (SP rfl (S4 rfl rfl rfl rfl TT)) (AI (AI rfl (OL rfl)) TT)
def y6(rec5:GJ→Option Int)(m:Option Nat)(a0:GJ):Option Int:=
 if((decide (a0.fK<0)) || (decide (a0.fK > 5)))=true then
  some 7
 else
  (if((((((a0.fN==0) || ((a0.fK==1)&&(a0.fN==1))) || (((a0.fK==2)&&(decide ((W (0-9007199254740991))≤a0.fN)))&&(decide (a0.fN≤9007199254740991))))==true)&&((a0.fT==([]:List UInt8))==false))&&((a0.fK==3)==true))=true then qv m a0.fT else some default).bind fun v1=>
  if(a0.fK==5)=true then
   (if(((((((a0.fN==0) || ((a0.fK==1)&&(a0.fN==1))) || (((a0.fK==2)&&(decide ((W (0-9007199254740991))≤a0.fN)))&&(decide (a0.fN≤9007199254740991))))&&((a0.fT==([]:List UInt8)) || ((a0.fK==3)&&v1)))&&((((a0.fE.map ze).length:Int)==0) || (decide (a0.fK≥4))))&&(((a0.fA.map za).length:Int)==((a0.fE.map ze).length:Int)))==true)=true then vl m a0.fA else some default).bind fun v2=>
   y8 rec5 m a0 (((((((a0.fN==0) || ((a0.fK==1)&&(a0.fN==1))) || (((a0.fK==2)&&(decide ((W (0-9007199254740991))≤a0.fN)))&&(decide (a0.fN≤9007199254740991))))&&((a0.fT==([]:List UInt8)) || ((a0.fK==3)&&v1)))&&((((a0.fE.map ze).length:Int)==0) || (decide (a0.fK≥4))))&&(((a0.fA.map za).length:Int)==((a0.fE.map ze).length:Int)))&&(!v2))
  else
   y8 rec5 m a0 ((((((a0.fN==0) || ((a0.fK==1)&&(a0.fN==1))) || (((a0.fK==2)&&(decide ((W (0-9007199254740991))≤a0.fN)))&&(decide (a0.fN≤9007199254740991))))&&((a0.fT==([]:List UInt8)) || ((a0.fK==3)&&v1)))&&((((a0.fE.map ze).length:Int)==0) || (decide (a0.fK≥4))))&&(((a0.fA.map za).length:Int)==0))
theorem zdc{rec5:GJ→Option Int}(hrec5:Hr5 rec5){a0:GJ}{m:Option Nat}{o:Int}(h:y6 rec5 m a0=some o):LWp Tryd.prog ux 3 zfx (Wt a0 o) (zu 0 [.agg (z7 a0)]) [] 3:=by
 unfold y6 at h
 refine SR ?_
 refine wn ?_
 refine SR ?_
 refine HP ?_
 refine HP ?_
 refine AI (fun hc=>(bqf hc)) ?_
 refine p3 (e:=[(1,.ptr (3,0) 0 0),(17,.bool ((decide (a0.fK<0)) || (decide (a0.fK > 5))))]) (L:=[((3,0),.one (z7 a0))]) (n:=4) ?_ ?_
 ·exact y7 (M:=[((3,0),(3,0))]) rfl (SP rfl (AI (VS rfl) TT)) (AI (AI rfl (OL rfl)) TT)
 refine y4 (v:=((decide (a0.fK<0)) || (decide (a0.fK > 5)))) rfl TT (fun h1=>?_) (fun h1=>?_)
 ·have h:=zd h1 h
  refine SR ?_
  refine wl ?_
  cases h
  exact AI TT (Yl (n':=4) [] [] rfl rfl (VS rfl) TT)
 ·have h:=zk h1 h
  refine x6 ?_
  refine SR ?_
  refine SR ?_
  refine HP ?_
  refine HP ?_
  refine HP ?_
  refine HP ?_
  refine HP ?_
  refine AI (fun hp=>(AI hp (fun hc=>(z3u hp (bqt hc))))) ?_
  refine AI (fun hc=>(bqf hc)) ?_
  refine HP ?_
  refine HP ?_
  refine HP ?_
  refine HP ?_
  refine HP ?_
  refine AI (fun hp=>(AI hp hp)) ?_
  refine AI (fun hp=>(AI hp (fun hc=>(z3u hp (bqt hc))))) ?_
  refine HP ?_
  refine HP ?_
  refine AI (fun hp=>(AI hp hp)) ?_
  refine AI (fun hp=>(AI hp (fun hc=>(z3u hp (bqt hc))))) ?_
  refine AI (fun hc=>(bqf hc)) ?_
  refine p3 (e:=[(1,.ptr (3,0) 0 0),(4,.bool (((a0.fN==0) || ((a0.fK==1)&&(a0.fN==1))) || (((a0.fK==2)&&(decide ((W (0-9007199254740991))≤a0.fN)))&&(decide (a0.fN≤9007199254740991)))))]) (L:=[((3,0),.one (z7 a0))]) (n:=4) ?_ ?_
  ·exact y7 (M:=[((3,0),(3,0))]) rfl (SP rfl (AI (VS rfl) TT)) (AI (AI rfl (OL rfl)) TT)
  refine SR ?_
  refine HP ?_
  refine HP ?_
  refine HP ?_
  refine HP ?_
  refine HP ?_
  refine HP ?_
  refine HP ?_
  obtain⟨v1,h2,h⟩:=bind_some h
  refine Or.inl (EX (.bool v1) (AI (fun hp=>AI hp (p4 (zoq (zd hp h2)) (AI (VS rfl) TT) (AI rfl (AI rfl rfl)))) ?_))
  refine AI (fun hp=>(AI hp (fun hc=>(z3u hp (bqt hc))))) ?_
  refine AI (fun hp=>(AI hp (fun hc=>(z3u hp (bqf hc))))) ?_
  refine HB ?_
  refine p3 (e:=[(1,.ptr (3,0) 0 0),(4,.bool ((((a0.fN==0) || ((a0.fK==1)&&(a0.fN==1))) || (((a0.fK==2)&&(decide ((W (0-9007199254740991))≤a0.fN)))&&(decide (a0.fN≤9007199254740991))))&&((a0.fT==([]:List UInt8)) || ((a0.fK==3)&&v1))))]) (L:=[((3,0),.one (z7 a0))]) (n:=4) ?_ ?_
  ·exact y7 (M:=[((3,0),(3,0))]) rfl (SP rfl (AI (VS rfl) TT)) (AI (AI rfl (OL rfl)) TT)
  refine SR ?_
  refine HP ?_
  refine HP ?_
  refine HP ?_
  refine HP ?_
  refine HP ?_
  refine HP ?_
  refine AI (fun hp=>(AI hp (fun hc=>(z3u hp (bqf hc))))) ?_
  refine HB ?_
  refine p3 (e:=[(1,.ptr (3,0) 0 0),(4,.bool (((((a0.fN==0) || ((a0.fK==1)&&(a0.fN==1))) || (((a0.fK==2)&&(decide ((W (0-9007199254740991))≤a0.fN)))&&(decide (a0.fN≤9007199254740991))))&&((a0.fT==([]:List UInt8)) || ((a0.fK==3)&&v1)))&&((((a0.fE.map ze).length:Int)==0) || (decide (a0.fK≥4)))))]) (L:=[((3,0),.one (z7 a0))]) (n:=4) ?_ ?_
  ·exact y7 (M:=[((3,0),(3,0))]) rfl (SP rfl (AI (VS rfl) TT)) (AI (AI rfl (OL rfl)) TT)
  refine wn ?_
  refine SR ?_
  refine y4 (v:=(a0.fK==5)) rfl TT (fun h3=>?_) (fun h3=>?_)
  ·have h:=zd h3 h
   refine J1 ?_
   refine HP ?_
   refine HP ?_
   refine HP ?_
   refine HP ?_
   refine AI (fun hp=>(AI hp hp)) ?_
   refine HB ?_
   refine HP ?_
   obtain⟨v2,h4,h⟩:=bind_some h
   refine Or.inl (EX (.bool v2) (AI (fun hp=>AI hp (p4 (y3b (zd hp h4)) (AI (VS rfl) TT) (AI rfl (AI rfl rfl)))) ?_))
   refine HP ?_
   refine HB ?_
   refine p3 ?_ (z3m hrec5 h)
   exact y7 (M:=[((3,0),(3,0))]) rfl (SP rfl (AI (VS rfl) TT)) (AI (AI rfl (OL rfl)) TT)
  ·have h:=zk h3 h
   refine J1 ?_
   refine HP ?_
   refine HP ?_
   refine HP ?_
   refine HB ?_
   refine p3 ?_ (z3m hrec5 h)
   exact y7 (M:=[((3,0),(3,0))]) rfl (SP rfl (AI (VS rfl) TT)) (AI (AI rfl (OL rfl)) TT)
theorem zfr{rec5:GJ→Option Int}(hrec5:Hr5 rec5){a0:GJ}{m:Option Nat}{o:Int}(h:y6 rec5 m a0=some o):ACalls Tryd.prog 60 [.agg (z7 a0)] [] 3 (u0 3 (i6 o) []):=Z0 (L:=zpf) zle zqy (NB rfl) (zdc hrec5 h)
def qg(m:Option Nat):Nat→GJ→Option Int
 |0=>fun _=>none
 |k+1=>y6 (qg m k) m
def kl(m:Option Nat)(a0:GJ):Option Int:=zl5 m (fun k=>qg m k a0)
theorem za1{m:Option Nat}:∀ (k:Nat) {a0:GJ} {o:Int},qg m k a0=some o→ACalls Tryd.prog 60 [.agg (z7 a0)] [] 3 (u0 3 (i6 o) [])
 |0,_,_,h=>nomatch h
 |k+1,_,_,h=>zfr (fun h=>za1 k h) h
theorem zp3{a0:GJ}{m:Option Nat}{o:Int}(h:kl m a0=some o):ACalls Tryd.prog 60 [.agg (z7 a0)] [] 3 (u0 3 (i6 o) []):=(Jg h).elim fun k h=>za1 k h
def ur(m:Option Nat)(a0:GJ):Option Int:=y6 (kl m) m a0
theorem y59{a0:GJ}{m:Option Nat}{o:Int}(h:ur m a0=some o):PFn Tryd.prog 60 [.agg (z7 a0)] (i6 o):=
 ⟨rfl,_,Z2 (k:=3) (m:=0) (L':=[]) (rest:=[]) (R':=i6 o) [] (zfr zp3 h) rfl rfl rfl (AI (VS rfl) TT) TT (xl _ rfl) TT rfl ⟨rfl,rfl,rfl⟩⟩
def zx6:LCode:=(.seq (.region [Qo 1 (.box (.t 0)),
 Qi 2 0])
 (.seq (.seq (.region [Qt 6 5 1,
  Qc 7 59 6,
  Qm 5 7,
  Qo 8 (.ext 0 (.t 5)),
  Qo 9 (.ext 1 (.t 5)),
  Qm 3 8,
  Qm 4 9])
 (.seq (.region [Qm 10 3,
  Qo 11 (.bin .gtr (.t 10) (.c (i6 400))),
  Qm 12 11,
  Qn 13 4 (12,false),
  Qg 14 (.bin .gtr (.t 13) (.c (i6 20))) (12,false),
  Qo 15 (.pick (.t 12) (.c (.bool true)) (.t 14))])
 (.cond (.t 15)
  (.seq (.region [Qi 2 2])
  .ret)
  .skip)))
 (.seq (.region [Qt 16 5 1,
  Qc 17 60 16,
  Qm 2 17])
 .ret)))
def zku:Lay:=⟨18,[],false⟩
def zlc:List LRes:=[.t 2]
def y48:LFn:=⟨1,zku,zx6,zlc⟩
theorem y00:wm Tryd.prog [] 38=some y48:=by kernel_rfl
theorem zzg:Zc Tryd.prog 38:=⟨_,Tryd.func38,rfl,rfl⟩
def qu(m:Option Nat)(a0:GJ):Option Int:=
 (Z6 m a0).bind fun v1=>
 if((decide (v1.1 > 400)) || (decide (v1.2 > 20)))=true then
  some 2
 else
  (ur m a0).bind fun v2=>
  some v2
def y6z(a0:GJ)(o:Int):Exit→Env→AHeap→Nat→Prop:=Y2 zlc (vi (i6 o))
theorem zl8{a0:GJ}{m:Option Nat}{o:Int}(h:qu m a0=some o):LWp Tryd.prog zku 0 zx6 (y6z a0 o) (zu 0 [.agg (z7 a0)]) [] 0:=by
 unfold qu at h
 refine SR ?_
 refine wn ?_
 refine SR ?_
 obtain⟨v1,h1,h⟩:=bind_some h
 refine p4 (y3x h1) (AI (VS rfl) TT) ?_
 refine p3 (e:=[(1,.ptr (0,0) 0 0),(3,i6 v1.1),(4,i6 v1.2)]) (L:=[((0,0),.one (z7 a0))]) (n:=1) ?_ ?_
 ·exact y7 (M:=[((0,0),(0,0))]) rfl (SP rfl (S2 rfl rfl TT)) (AI (AI rfl (OL rfl)) TT)
 refine SR ?_
 refine HP ?_
 refine AI (fun hc=>(bqf hc)) ?_
 refine y4 (v:=((decide (v1.1 > 400)) || (decide (v1.2 > 20)))) rfl TT (fun h2=>?_) (fun h2=>?_)
 ·have h:=zd h2 h
  refine SR ?_
  refine wl ?_
  cases h
  exact AI TT (AI rfl (VS rfl))
 ·have h:=zk h2 h
  refine x6 ?_
  refine SR ?_
  obtain⟨v2,h3,h⟩:=bind_some h
  refine p4 (y59 h3) (AI (VS rfl) TT) ?_
  refine p3 (e:=[(2,i6 v2)]) (L:=[]) (n:=0) ?_ ?_
  ·exact y7 (M:=[]) rfl (AI (VS rfl) TT) TT
  refine wl ?_
  cases h
  exact AI TT (AI rfl (VS rfl))
theorem zwj{a0:GJ}{m:Option Nat}{o:Int}(h:qu m a0=some o):PFn Tryd.prog 38 [.agg (z7 a0)] (i6 o):=PFn.ofFnW (L:=y48) y00 zzg (NB rfl) rfl (zl8 h)
def zxa:LCode:=(.seq (.region [Qo 2 (.alloc [(i6 0),(i6 0),(.str []),(.isl 1 [] true),(.isl 5 [] true)])])
 (.seq (.region [Qm 3 0,
  Qo 4 (.build [(i6 0),(i6 0),(.str []),(.isl 1 [] true),(.isl 5 [] true)] [(0,1,(.c (i6 2))),(1,1,(.t 3))]),
  ⟨none,.store 5 (.t 2) (.t 4),none⟩])
 .ret))
def zry:Lay:=⟨5,[],false⟩
def zol:List LRes:=[.cell 2 true 5]
def y2u:LFn:=⟨1,zry,zxa,zol⟩
theorem y0y:wm Tryd.prog [] 62=some y2u:=by kernel_rfl
theorem zzc:Zc Tryd.prog 62:=⟨_,Tryd.func62,rfl,rfl⟩
def qp(m:Option Nat)(a0:Int):Option GJ:=
 some (GJ.mk 2 a0 ([]:List UInt8) ([]:List (List UInt8)) ([]:List (List AVal)))
def y6y(a0:Int)(o:GJ):Exit→Env→AHeap→Nat→Prop:=Y2 zol (vi (.agg (z7 o)))
theorem zm0{a0:Int}{m:Option Nat}{o:GJ}(h:qp m a0=some o):LWp Tryd.prog zry 0 zxa (y6y a0 o) (zu 0 [i6 a0]) [] 0:=by
 unfold qp at h
 refine SR ?_
 refine SR ?_
 refine wl ?_
 cases h
 exact AI (AI TT (AI rfl (NB rfl))) (AI rfl (p7 (S2 rfl rfl (AI (VS rfl) (AI (p5 _ _ _) (AI (p5 _ _ _) TT))))))
theorem zas{a0:Int}{m:Option Nat}{o:GJ}(h:qp m a0=some o):PFn Tryd.prog 62 [i6 a0] (.agg (z7 o)):=PFn.ofFnW (L:=y2u) y0y zzc (NB rfl) rfl (zm0 h)
def zx9:LCode:=(.seq (.region [Qo 2 (.alloc [(i6 0),(i6 0),(.str []),(.isl 1 [] true),(.isl 5 [] true)])])
 (.seq (.region [Qm 3 0,
  Qo 4 (.build [(i6 0),(i6 0),(.str []),(.isl 1 [] true),(.isl 5 [] true)] [(0,1,(.c (i6 3))),(2,1,(.t 3))]),
  ⟨none,.store 5 (.t 2) (.t 4),none⟩])
 .ret))
def zll:Lay:=⟨5,[],false⟩
def zsy:List LRes:=[.cell 2 true 5]
def y32:LFn:=⟨1,zll,zx9,zsy⟩
theorem zzp:wm Tryd.prog [] 63=some y32:=by kernel_rfl
theorem zyr:Zc Tryd.prog 63:=⟨_,Tryd.func63,rfl,rfl⟩
def wi(m:Option Nat)(a0:List UInt8):Option GJ:=
 some (GJ.mk 3 0 a0 ([]:List (List UInt8)) ([]:List (List AVal)))
def y72(a0:List UInt8)(o:GJ):Exit→Env→AHeap→Nat→Prop:=Y2 zsy (vi (.agg (z7 o)))
theorem zr8{a0:List UInt8}{m:Option Nat}{o:GJ}(h:wi m a0=some o):LWp Tryd.prog zll 0 zx9 (y72 a0 o) (zu 0 [.str a0]) [] 0:=by
 unfold wi at h
 refine SR ?_
 refine SR ?_
 refine wl ?_
 cases h
 exact AI (AI TT (AI rfl (NB rfl))) (AI rfl (p7 (S2 rfl rfl (AI (VS rfl) (AI (p5 _ _ _) (AI (p5 _ _ _) TT))))))
theorem zfy{a0:List UInt8}{m:Option Nat}{o:GJ}(h:wi m a0=some o):PFn Tryd.prog 63 [.str a0] (.agg (z7 o)):=PFn.ofFnW (L:=y32) zzp zyr (NB rfl) rfl (zr8 h)
def zx3:LCode:=(.seq (.region [Qo 4 (.box (.t 1)),
 Qo 5 (.box (.t 2)),
 Qo 6 (.alloc [(i6 0),(i6 0),(.str []),(.isl 1 [] true),(.isl 5 [] true)])])
 (.seq (.draw [⟨Qm 7 0,[]⟩,
  ⟨Qf 9 3 5,[]⟩,
  ⟨Ql 10 1 9,[]⟩,
  ⟨Qt 12 5 4,[]⟩,
  ⟨Qf 14 4 5,[]⟩,
  ⟨Ql 15 1 14,[]⟩,
  ⟨Qo 8 (.mkSl true 1 [(.str [])] 1 [(0,(.t 7))]),[]⟩,
  ⟨Qo 13 (.mkSl true 5 [(i6 0),(i6 0),(.str []),(.isl 1 [] true),(.isl 5 [] true)] 1 [(0,(.t 12))]),[]⟩,
  ⟨Qo 11 (.app true 1 16 (.t 8) (.t 10)),[3,5]⟩,
  ⟨Qo 16 (.app true 5 80 (.t 13) (.t 15)),[]⟩,
  ⟨Qo 17 (.build [(i6 0),(i6 0),(.str []),(.isl 1 [] true),(.isl 5 [] true)] [(0,1,(.c (i6 5))),(3,1,(.t 11)),(4,1,(.t 16))]),[]⟩,
  ⟨⟨none,.store 5 (.t 6) (.t 17),none⟩,[]⟩])
 .ret))
def znu:Lay:=⟨18,[],false⟩
def zqt:List LRes:=[.cell 6 true 5]
def y5m:LFn:=⟨3,znu,zx3,zqt⟩
theorem y1h:wm Tryd.prog [] 61=some y5m:=by kernel_rfl
theorem y0d:Zc Tryd.prog 61:=⟨_,Tryd.func61,rfl,rfl⟩
def zb(m:Option Nat)(a0:List UInt8)(a1:GJ)(a2:GJ):Option GJ:=
 if((([a0]:List (List UInt8))++a2.fA).map za).length*16≤140737488355328 then
 if((([z7 a1]:List (List AVal))++a2.fE).map ze).length*80≤140737488355328 then
 some (GJ.mk 5 0 ([]:List UInt8) (([a0]:List (List UInt8))++a2.fA) (([z7 a1]:List (List AVal))++a2.fE))
 else none
 else none
def y6w(a0:List UInt8)(a1:GJ)(a2:GJ)(o:GJ):Exit→Env→AHeap→Nat→Prop:=Y2 zqt (vi (.agg (z7 o)))
theorem zp5{a0:List UInt8}{a1:GJ}{a2:GJ}{m:Option Nat}{o:GJ}(h:zb m a0 a1 a2=some o):LWp Tryd.prog znu 0 zx3 (y6w a0 a1 a2 o) (zu 0 [.str a0,.agg (z7 a1),.agg (z7 a2)]) [] 0:=by
 unfold zb at h
 refine SR ?_
 refine wn ?_
 refine Kr ?_
 obtain⟨h1,h⟩:=zj h
 refine EX ((([a0]:List (List UInt8))++a2.fA).map za) (AI (Ux za ([a0]:List (List UInt8)) a2.fA) (AI (AI rfl h1) ?_))
 refine AI rfl ?_
 refine AI rfl ?_
 obtain⟨h2,h⟩:=zj h
 refine EX ((([z7 a1]:List (List AVal))++a2.fE).map ze) (AI (Ux ze ([z7 a1]:List (List AVal)) a2.fE) (AI (AI rfl h2) ?_))
 refine p3 (e:=[(6,.ptr (0,0) 0 0)]) (L:=[((0,0),.one [i6 5,i6 0,.str [],.osl (1,0) 1 ((([a0]:List (List UInt8))++a2.fA).map za),.osl (2,0) 5 ((([z7 a1]:List (List AVal))++a2.fE).map ze)]),((1,0),.tok),((2,0),.tok)]) (n:=3) ?_ ?_
 ·exact y7 (M:=[((0,0),(2,0)),((1,0),(3,0)),((2,0),(4,0))]) rfl (SP rfl TT) (AI (AI rfl (p2 (S2 rfl rfl (AI (VS rfl) (AI (Vw.osl _ _ _ _ rfl) (AI (Vw.osl _ _ _ _ rfl) TT)))))) (AI (AI rfl BVw.tok) (AI (AI rfl BVw.tok) TT)))
 refine wl ?_
 cases h
 exact AI (AI TT (AI rfl (NB rfl))) (AI rfl (p7 (S2 rfl rfl (AI (VS rfl) (AI (Vw.oslI _ _ _) (AI (Vw.oslI _ _ _) TT))))))
theorem Xq{a0:List UInt8}{a1:GJ}{a2:GJ}{m:Option Nat}{o:GJ}(h:zb m a0 a1 a2=some o):PFn Tryd.prog 61 [.str a0,.agg (z7 a1),.agg (z7 a2)] (.agg (z7 o)):=PFn.ofFnW (L:=y5m) y1h y0d (NB rfl) rfl (zp5 h)
def zy7:LCode:=(.seq (.region [Qo 1 (.box (.t 0)),
 Qo 2 (.alloc [(i6 0),(i6 0),(.str []),(.isl 1 [] true),(.isl 5 [] true)])])
 (.seq (.region [Qo 4 (.build [(i6 0),(i6 0),(.str []),(.isl 1 [] true),(.isl 5 [] true)] []),
  Qo 3 (.alloc [(i6 0),(i6 0),(.str []),(.isl 1 [] true),(.isl 5 [] true)]),
  ⟨none,.store 5 (.t 3) (.t 4),none⟩])
 (.seq (.seq (.region [Qf 5 0 1,
  Ql 6 1 5])
 (.block 0
  (.seq (.region [Qo 8 (.bin .eql (.t 6) (.c (i6 1))),
   Qm 7 8])
  (.cond (.t 7)
   (.seq (.draw [⟨Qf 9 1 1,[]⟩,
    ⟨Ql 10 1 9,[]⟩,
    ⟨Qf 12 3 1,[]⟩,
    ⟨Ql 13 1 12,[]⟩,
    ⟨Qf 15 4 1,[]⟩,
    ⟨Qt 16 5 15,[]⟩,
    ⟨Qt 17 5 3,[]⟩,
    ⟨Qc 11 62 10,[3,5,6]⟩,
    ⟨Qc 14 63 13,[5,6]⟩,
    ⟨Qo 18 (.call 61 [(.c (.str [112,97,114,97,109,115])),(.t 16),(.t 17)]),[]⟩,
    ⟨Qo 19 (.call 61 [(.c (.str [109,101,116,104,111,100])),(.t 14),(.t 18)]),[]⟩,
    ⟨Qo 20 (.call 61 [(.c (.str [105,100])),(.t 11),(.t 19)]),[]⟩,
    ⟨⟨none,.store 5 (.t 2) (.t 20),none⟩,[]⟩])
   .ret)
   (.seq (.region [Qo 22 (.bin .eql (.t 6) (.c (i6 2))),
    Qm 21 22])
   (.cond (.t 21)
    (.seq (.draw [⟨Qf 23 3 1,[]⟩,
     ⟨Ql 24 1 23,[]⟩,
     ⟨Qf 26 4 1,[]⟩,
     ⟨Qt 27 5 26,[]⟩,
     ⟨Qt 28 5 3,[]⟩,
     ⟨Qc 25 63 24,[3,4]⟩,
     ⟨Qo 29 (.call 61 [(.c (.str [112,97,114,97,109,115])),(.t 27),(.t 28)]),[]⟩,
     ⟨Qo 30 (.call 61 [(.c (.str [109,101,116,104,111,100])),(.t 25),(.t 29)]),[]⟩,
     ⟨⟨none,.store 5 (.t 2) (.t 30),none⟩,[]⟩])
    .ret)
    (.seq (.region [Qo 32 (.bin .eql (.t 6) (.c (i6 3))),
     Qm 31 32])
    (.cond (.t 31)
     (.seq (.draw [⟨Qf 33 1 1,[]⟩,
      ⟨Ql 34 1 33,[]⟩,
      ⟨Qf 36 4 1,[]⟩,
      ⟨Qt 37 5 36,[]⟩,
      ⟨Qt 38 5 3,[]⟩,
      ⟨Qc 35 62 34,[3,4]⟩,
      ⟨Qo 39 (.call 61 [(.c (.str [114,101,115,117,108,116])),(.t 37),(.t 38)]),[]⟩,
      ⟨Qo 40 (.call 61 [(.c (.str [105,100])),(.t 35),(.t 39)]),[]⟩,
      ⟨⟨none,.store 5 (.t 2) (.t 40),none⟩,[]⟩])
     .ret)
     (.seq (.region [Qo 42 (.bin .eql (.t 6) (.c (i6 4))),
      Qm 41 42])
     (.cond (.t 41)
      (.seq (.draw [⟨Qf 43 1 1,[]⟩,
       ⟨Ql 44 1 43,[]⟩,
       ⟨Qf 46 2 1,[]⟩,
       ⟨Ql 47 1 46,[]⟩,
       ⟨Qf 49 3 1,[]⟩,
       ⟨Ql 50 1 49,[]⟩,
       ⟨Qt 52 5 3,[]⟩,
       ⟨Qt 55 5 3,[]⟩,
       ⟨Qc 45 62 44,[3,5,6,7]⟩,
       ⟨Qc 48 62 47,[5,6,7]⟩,
       ⟨Qc 51 63 50,[6,7]⟩,
       ⟨Qo 53 (.call 61 [(.c (.str [109,101,115,115,97,103,101])),(.t 51),(.t 52)]),[7]⟩,
       ⟨Qo 54 (.call 61 [(.c (.str [99,111,100,101])),(.t 48),(.t 53)]),[7]⟩,
       ⟨Qo 56 (.call 61 [(.c (.str [101,114,114,111,114])),(.t 54),(.t 55)]),[]⟩,
       ⟨Qo 57 (.call 61 [(.c (.str [105,100])),(.t 45),(.t 56)]),[]⟩,
       ⟨⟨none,.store 5 (.t 2) (.t 57),none⟩,[]⟩])
      .ret)
      .skip))))))))))
 (.seq (.draw [⟨Qf 59 1 1,[]⟩,
  ⟨Ql 60 1 59,[]⟩,
  ⟨Qt 62 5 3,[]⟩,
  ⟨Qt 64 5 3,[]⟩,
  ⟨Qo 58 (.call 63 [(.c (.str [36,47,99,97,110,99,101,108]))]),[1,2,3]⟩,
  ⟨Qc 61 62 60,[2,3]⟩,
  ⟨Qo 63 (.call 61 [(.c (.str [105,100])),(.t 61),(.t 62)]),[3]⟩,
  ⟨Qo 65 (.call 61 [(.c (.str [112,97,114,97,109,115])),(.t 63),(.t 64)]),[]⟩,
  ⟨Qo 66 (.call 61 [(.c (.str [109,101,116,104,111,100])),(.t 58),(.t 65)]),[]⟩,
  ⟨⟨none,.store 5 (.t 2) (.t 66),none⟩,[]⟩])
 .ret))))
def zph:Lay:=⟨67,[],false⟩
def zna:List LRes:=[.cell 2 true 5]
def y58:LFn:=⟨1,zph,zy7,zna⟩
theorem zyd:wm Tryd.prog [] 39=some y58:=by kernel_rfl
theorem y1u:Zc Tryd.prog 39:=⟨_,Tryd.func39,rfl,rfl⟩
def yy(m:Option Nat)(a0:GM):Option GJ:=
 if(a0.fK==1)=true then
  (qp m a0.fI).bind fun v1=>
  (wi m a0.fM).bind fun v2=>
  (zb m ([112,97,114,97,109,115]:List UInt8) (GJ.mk a0.fB.fK a0.fB.fN a0.fB.fT a0.fB.fA a0.fB.fE) (GJ.mk 0 0 [] [] [])).bind fun v3=>
  (zb m ([109,101,116,104,111,100]:List UInt8) v2 v3).bind fun v4=>
  (zb m ([105,100]:List UInt8) v1 v4).bind fun v5=>
  some v5
 else
  if(a0.fK==2)=true then
   (wi m a0.fM).bind fun v6=>
   (zb m ([112,97,114,97,109,115]:List UInt8) (GJ.mk a0.fB.fK a0.fB.fN a0.fB.fT a0.fB.fA a0.fB.fE) (GJ.mk 0 0 [] [] [])).bind fun v7=>
   (zb m ([109,101,116,104,111,100]:List UInt8) v6 v7).bind fun v8=>
   some v8
  else
   if(a0.fK==3)=true then
    (qp m a0.fI).bind fun v9=>
    (zb m ([114,101,115,117,108,116]:List UInt8) (GJ.mk a0.fB.fK a0.fB.fN a0.fB.fT a0.fB.fA a0.fB.fE) (GJ.mk 0 0 [] [] [])).bind fun v10=>
    (zb m ([105,100]:List UInt8) v9 v10).bind fun v11=>
    some v11
   else
    if(a0.fK==4)=true then
     (qp m a0.fI).bind fun v12=>
     (qp m a0.fC).bind fun v13=>
     (wi m a0.fM).bind fun v14=>
     (zb m ([109,101,115,115,97,103,101]:List UInt8) v14 (GJ.mk 0 0 [] [] [])).bind fun v15=>
     (zb m ([99,111,100,101]:List UInt8) v13 v15).bind fun v16=>
     (zb m ([101,114,114,111,114]:List UInt8) v16 (GJ.mk 0 0 [] [] [])).bind fun v17=>
     (zb m ([105,100]:List UInt8) v12 v17).bind fun v18=>
     some v18
    else
     (wi m ([36,47,99,97,110,99,101,108]:List UInt8)).bind fun v19=>
     (qp m a0.fI).bind fun v20=>
     (zb m ([105,100]:List UInt8) v20 (GJ.mk 0 0 [] [] [])).bind fun v21=>
     (zb m ([112,97,114,97,109,115]:List UInt8) v21 (GJ.mk 0 0 [] [] [])).bind fun v22=>
     (zb m ([109,101,116,104,111,100]:List UInt8) v19 v22).bind fun v23=>
     some v23
def y6f(a0:GM)(o:GJ):Exit→Env→AHeap→Nat→Prop:=Y2 zna (vi (.agg (z7 o)))
set_option maxHeartbeats 4000000 in
theorem zrx{a0:GM}{m:Option Nat}{o:GJ}(h:yy m a0=some o):LWp Tryd.prog zph 0 zy7 (y6f a0 o) (zu 0 [.agg [i6 a0.fK,i6 a0.fI,i6 a0.fC,.str a0.fM,i6 a0.fB.fK,i6 a0.fB.fN,.str a0.fB.fT,.isl 1 (a0.fB.fA.map za) false,.isl 5 (a0.fB.fE.map ze) false]]) [] 0:=by
 unfold yy at h
 refine SR ?_
 refine SR ?_
 refine wn ?_
 refine SR ?_
 refine xk ?_
 refine SR ?_
 refine p3 (e:=[(1,.ptr (0,0) 0 0),(2,.ptr (1,0) 0 0),(3,.ptr (2,0) 0 0),(6,i6 a0.fK),(7,.bool (a0.fK==1))]) (L:=[((0,0),.one [i6 a0.fK,i6 a0.fI,i6 a0.fC,.str a0.fM,i6 a0.fB.fK,i6 a0.fB.fN,.str a0.fB.fT,.isl 1 (a0.fB.fA.map za) false,.isl 5 (a0.fB.fE.map ze) false]),((1,0),.one [i6 0,i6 0,.str [],.isl 1 (([]:List (List UInt8)).map za) true,.isl 5 (([]:List (List AVal)).map ze) true]),((2,0),.one [i6 0,i6 0,.str [],.isl 1 (([]:List (List UInt8)).map za) true,.isl 5 (([]:List (List AVal)).map ze) true])]) (n:=3) ?_ ?_
 ·exact y7 (M:=[((0,0),(0,0)),((1,0),(1,0)),((2,0),(2,0))]) rfl (SP rfl (SP rfl (SP rfl (S2 rfl rfl TT)))) (AI (AI rfl (OL rfl)) (AI (AI rfl (OL rfl)) (AI (AI rfl (OL rfl)) TT)))
 refine y4 (v:=(a0.fK==1)) rfl TT (fun h1=>?_) (fun h1=>?_)
 ·have h:=zd h1 h
  refine wn ?_
  refine Kr ?_
  obtain⟨v1,h2,h⟩:=bind_some h
  refine p4 (zas h2) (AI (VS rfl) TT) ?_
  refine AI rfl ?_
  refine AI rfl ?_
  refine AI rfl ?_
  obtain⟨v2,h3,h⟩:=bind_some h
  refine p4 (zfy h3) (AI (VS rfl) TT) ?_
  refine AI rfl ?_
  refine AI rfl ?_
  obtain⟨v3,h4,h⟩:=bind_some h
  refine p4 (Xq h4) (S2 rfl rfl (AI (p7 (S2 rfl rfl (AI (VS rfl) (AI (p5 _ _ _) (AI (p5 _ _ _) TT))))) TT)) ?_
  obtain⟨v4,h5,h⟩:=bind_some h
  refine p4 (Xq h5) (S2 rfl rfl (AI (VS rfl) TT)) ?_
  obtain⟨v5,h6,h⟩:=bind_some h
  refine p4 (Xq h6) (S2 rfl rfl (AI (VS rfl) TT)) ?_
  refine p3 (e:=[(2,.ptr (0,0) 0 0)]) (L:=[((0,0),.one (z7 v5))]) (n:=1) ?_ ?_
  ·exact y7 (M:=[((0,0),(1,0))]) rfl (SP rfl TT) (AI (AI rfl (OL rfl)) TT)
  refine wl ?_
  cases h
  exact AI (AI TT (AI rfl (NB rfl))) (AI rfl (VS rfl))
 ·have h:=zk h1 h
  refine SR ?_
  refine y4 (v:=(a0.fK==2)) rfl TT (fun h7=>?_) (fun h7=>?_)
  ·have h:=zd h7 h
   refine wn ?_
   refine Kr ?_
   obtain⟨v6,h8,h⟩:=bind_some h
   refine p4 (zfy h8) (AI (VS rfl) TT) ?_
   refine AI rfl ?_
   refine AI rfl ?_
   obtain⟨v7,h9,h⟩:=bind_some h
   refine p4 (Xq h9) (S2 rfl rfl (AI (p7 (S2 rfl rfl (AI (VS rfl) (AI (p5 _ _ _) (AI (p5 _ _ _) TT))))) TT)) ?_
   obtain⟨v8,h10,h⟩:=bind_some h
   refine p4 (Xq h10) (S2 rfl rfl (AI (VS rfl) TT)) ?_
   refine p3 (e:=[(2,.ptr (0,0) 0 0)]) (L:=[((0,0),.one (z7 v8))]) (n:=1) ?_ ?_
   ·exact y7 (M:=[((0,0),(1,0))]) rfl (SP rfl TT) (AI (AI rfl (OL rfl)) TT)
   refine wl ?_
   cases h
   exact AI (AI TT (AI rfl (NB rfl))) (AI rfl (VS rfl))
  ·have h:=zk h7 h
   refine SR ?_
   refine y4 (v:=(a0.fK==3)) rfl TT (fun h11=>?_) (fun h11=>?_)
   ·have h:=zd h11 h
    refine wn ?_
    refine Kr ?_
    obtain⟨v9,h12,h⟩:=bind_some h
    refine p4 (zas h12) (AI (VS rfl) TT) ?_
    refine AI rfl ?_
    refine AI rfl ?_
    obtain⟨v10,h13,h⟩:=bind_some h
    refine p4 (Xq h13) (S2 rfl rfl (AI (p7 (S2 rfl rfl (AI (VS rfl) (AI (p5 _ _ _) (AI (p5 _ _ _) TT))))) TT)) ?_
    obtain⟨v11,h14,h⟩:=bind_some h
    refine p4 (Xq h14) (S2 rfl rfl (AI (VS rfl) TT)) ?_
    refine p3 (e:=[(2,.ptr (0,0) 0 0)]) (L:=[((0,0),.one (z7 v11))]) (n:=1) ?_ ?_
    ·exact y7 (M:=[((0,0),(1,0))]) rfl (SP rfl TT) (AI (AI rfl (OL rfl)) TT)
    refine wl ?_
    cases h
    exact AI (AI TT (AI rfl (NB rfl))) (AI rfl (VS rfl))
   ·have h:=zk h11 h
    refine SR ?_
    refine y4 (v:=(a0.fK==4)) rfl TT (fun h15=>?_) (fun h15=>?_)
    ·have h:=zd h15 h
     refine wn ?_
     refine Kr ?_
     obtain⟨v12,h16,h⟩:=bind_some h
     refine p4 (zas h16) (AI (VS rfl) TT) ?_
     refine AI rfl ?_
     refine AI rfl ?_
     refine AI rfl ?_
     refine AI rfl ?_
     obtain⟨v13,h17,h⟩:=bind_some h
     refine p4 (zas h17) (AI (VS rfl) TT) ?_
     refine AI rfl ?_
     refine AI rfl ?_
     refine AI rfl ?_
     obtain⟨v14,h18,h⟩:=bind_some h
     refine p4 (zfy h18) (AI (VS rfl) TT) ?_
     refine AI rfl ?_
     refine AI rfl ?_
     obtain⟨v15,h19,h⟩:=bind_some h
     refine p4 (Xq h19) (S2 rfl rfl (AI (p7 (S2 rfl rfl (AI (VS rfl) (AI (p5 _ _ _) (AI (p5 _ _ _) TT))))) TT)) ?_
     refine AI rfl ?_
     obtain⟨v16,h20,h⟩:=bind_some h
     refine p4 (Xq h20) (S2 rfl rfl (AI (VS rfl) TT)) ?_
     refine AI rfl ?_
     obtain⟨v17,h21,h⟩:=bind_some h
     refine p4 (Xq h21) (S2 rfl rfl (AI (p7 (S2 rfl rfl (AI (VS rfl) (AI (p5 _ _ _) (AI (p5 _ _ _) TT))))) TT)) ?_
     obtain⟨v18,h22,h⟩:=bind_some h
     refine p4 (Xq h22) (S2 rfl rfl (AI (VS rfl) TT)) ?_
     refine p3 (e:=[(2,.ptr (0,0) 0 0)]) (L:=[((0,0),.one (z7 v18))]) (n:=1) ?_ ?_
     ·exact y7 (M:=[((0,0),(1,0))]) rfl (SP rfl TT) (AI (AI rfl (OL rfl)) TT)
     refine wl ?_
     cases h
     exact AI (AI TT (AI rfl (NB rfl))) (AI rfl (VS rfl))
    ·have h:=zk h15 h
     refine x6 ?_
     refine wn ?_
     refine Kr ?_
     obtain⟨v19,h23,h⟩:=bind_some h
     refine p4 (zfy h23) (AI (VS rfl) TT) ?_
     refine AI rfl ?_
     refine AI rfl ?_
     refine AI rfl ?_
     obtain⟨v20,h24,h⟩:=bind_some h
     refine p4 (zas h24) (AI (VS rfl) TT) ?_
     refine AI rfl ?_
     refine AI rfl ?_
     obtain⟨v21,h25,h⟩:=bind_some h
     refine p4 (Xq h25) (S2 rfl rfl (AI (p7 (S2 rfl rfl (AI (VS rfl) (AI (p5 _ _ _) (AI (p5 _ _ _) TT))))) TT)) ?_
     refine AI rfl ?_
     obtain⟨v22,h26,h⟩:=bind_some h
     refine p4 (Xq h26) (S2 rfl rfl (AI (p7 (S2 rfl rfl (AI (VS rfl) (AI (p5 _ _ _) (AI (p5 _ _ _) TT))))) TT)) ?_
     obtain⟨v23,h27,h⟩:=bind_some h
     refine p4 (Xq h27) (S2 rfl rfl (AI (VS rfl) TT)) ?_
     refine p3 (e:=[(2,.ptr (0,0) 0 0)]) (L:=[((0,0),.one (z7 v23))]) (n:=1) ?_ ?_
     ·exact y7 (M:=[((0,0),(1,0))]) rfl (SP rfl TT) (AI (AI rfl (OL rfl)) TT)
     refine wl ?_
     cases h
     exact AI (AI TT (AI rfl (NB rfl))) (AI rfl (VS rfl))
theorem y5w{a0:GM}{m:Option Nat}{o:GJ}(h:yy m a0=some o):PFn Tryd.prog 39 [.agg [i6 a0.fK,i6 a0.fI,i6 a0.fC,.str a0.fM,i6 a0.fB.fK,i6 a0.fB.fN,.str a0.fB.fT,.isl 1 (a0.fB.fA.map za) false,.isl 5 (a0.fB.fE.map ze) false]] (.agg (z7 o)):=PFn.ofFnW (L:=y58) zyd y1u (NB rfl) rfl (zrx h)
def zx0:LCode:=(.seq (.region [Qo 1 (.box (.t 0)),
 Qo 2 (.alloc [(i6 0),(i6 0),(.str []),(.isl 1 [] true),(.isl 5 [] true)]),
 Qi 3 0])
 (.seq (.seq (.region [Qf 7 0 1,
  Ql 8 1 7,
  Qo 9 (.bin .lss (.t 8) (.c (i6 1))),
  Qm 10 9,
  Qe 11 0 1 (10,false),
  Qk 12 1 11 (10,false),
  Qg 13 (.bin .gtr (.t 12) (.c (i6 5))) (10,false),
  Qo 14 (.pick (.t 10) (.c (.bool true)) (.t 13))])
 (.cond (.t 14)
  (.seq (.region [Qo 15 (.build [(i6 0),(i6 0),(.str []),(.isl 1 [] true),(.isl 5 [] true)] []),
   ⟨none,.store 5 (.t 2) (.t 15),none⟩,
   Qi 3 7])
  .ret)
  .skip))
 (.seq (.seq (.region [Qt 16 9 1,
  Qc 17 37 16,
  Qo 18 (.un .not (.t 17))])
 (.cond (.t 18)
  (.seq (.region [Qo 19 (.build [(i6 0),(i6 0),(.str []),(.isl 1 [] true),(.isl 5 [] true)] []),
   ⟨none,.store 5 (.t 2) (.t 19),none⟩,
   Qi 3 3])
  .ret)
  .skip))
 (.seq (.seq (.region [Qf 20 4 1,
  Qt 21 5 20,
  Qc 22 38 21,
  Qm 4 22])
 (.seq (.region [Qm 23 4,
  Qo 24 (.bin .neq (.t 23) (.c (i6 0)))])
 (.cond (.t 24)
  (.seq (.region [Qo 25 (.build [(i6 0),(i6 0),(.str []),(.isl 1 [] true),(.isl 5 [] true)] []),
   Qm 26 4,
   ⟨none,.store 5 (.t 2) (.t 25),none⟩,
   Qm 3 26])
  .ret)
  .skip)))
 (.seq (.region [Qt 27 9 1,
  Qc 28 39 27,
  Qo 5 (.alloc [(i6 0),(i6 0),(.str []),(.isl 1 [] true),(.isl 5 [] true)]),
  ⟨none,.store 5 (.t 5) (.t 28),none⟩])
 (.seq (.seq (.region [Qt 29 5 5,
  Qc 30 38 29,
  Qm 6 30])
 (.seq (.region [Qm 31 6,
  Qo 32 (.bin .neq (.t 31) (.c (i6 0)))])
 (.cond (.t 32)
  (.seq (.region [Qo 33 (.build [(i6 0),(i6 0),(.str []),(.isl 1 [] true),(.isl 5 [] true)] []),
   Qm 34 6,
   ⟨none,.store 5 (.t 2) (.t 33),none⟩,
   Qm 3 34])
  .ret)
  .skip)))
 (.seq (.region [Qt 35 5 5,
  ⟨none,.store 5 (.t 2) (.t 35),none⟩,
  Qi 3 0])
 .ret)))))))
def zs3:Lay:=⟨36,[],false⟩
def znd:List LRes:=[.cell 2 true 5,.t 3]
def y2r:LFn:=⟨1,zs3,zx0,znd⟩
theorem y0i:wm Tryd.prog [] 22=some y2r:=by kernel_rfl
theorem y1w:Zc Tryd.prog 22:=⟨_,Tryd.func22,rfl,rfl⟩
def zz(m:Option Nat)(a0:GM):Option (GJ×Int):=
 if((decide (a0.fK<1)) || (decide (a0.fK > 5)))=true then
  some ((GJ.mk 0 0 [] [] []),7)
 else
  (qj m (GM.mk a0.fK a0.fI a0.fC a0.fM (GJ.mk a0.fB.fK a0.fB.fN a0.fB.fT a0.fB.fA a0.fB.fE))).bind fun v1=>
  if(!v1)=true then
   some ((GJ.mk 0 0 [] [] []),3)
  else
   (qu m (GJ.mk a0.fB.fK a0.fB.fN a0.fB.fT a0.fB.fA a0.fB.fE)).bind fun v2=>
   if(v2 != 0)=true then
    some ((GJ.mk 0 0 [] [] []),v2)
   else
    (yy m (GM.mk a0.fK a0.fI a0.fC a0.fM (GJ.mk a0.fB.fK a0.fB.fN a0.fB.fT a0.fB.fA a0.fB.fE))).bind fun v3=>
    (qu m v3).bind fun v4=>
    if(v4 != 0)=true then
     some ((GJ.mk 0 0 [] [] []),v4)
    else
     some (v3,0)
def y6l(a0:GM)(o:GJ×Int):Exit→Env→AHeap→Nat→Prop:=Y2 znd (vi (.tup [.agg (z7 o.1),i6 o.2]))
theorem zq3{a0:GM}{m:Option Nat}{o:GJ×Int}(h:zz m a0=some o):LWp Tryd.prog zs3 0 zx0 (y6l a0 o) (zu 0 [.agg [i6 a0.fK,i6 a0.fI,i6 a0.fC,.str a0.fM,i6 a0.fB.fK,i6 a0.fB.fN,.str a0.fB.fT,.isl 1 (a0.fB.fA.map za) false,.isl 5 (a0.fB.fE.map ze) false]]) [] 0:=by
 unfold zz at h
 refine SR ?_
 refine wn ?_
 refine SR ?_
 refine HP ?_
 refine HP ?_
 refine AI (fun hc=>(bqf hc)) ?_
 refine p3 (e:=[(1,.ptr (0,0) 0 0),(2,.ptr (1,0) 0 0),(14,.bool ((decide (a0.fK<1)) || (decide (a0.fK > 5))))]) (L:=[((0,0),.one [i6 a0.fK,i6 a0.fI,i6 a0.fC,.str a0.fM,i6 a0.fB.fK,i6 a0.fB.fN,.str a0.fB.fT,.isl 1 (a0.fB.fA.map za) false,.isl 5 (a0.fB.fE.map ze) false]),((1,0),.one [i6 0,i6 0,.str [],.isl 1 (([]:List (List UInt8)).map za) true,.isl 5 (([]:List (List AVal)).map ze) true])]) (n:=2) ?_ ?_
 ·exact y7 (M:=[((0,0),(0,0)),((1,0),(1,0))]) rfl (SP rfl (SP rfl (AI (VS rfl) TT))) (AI (AI rfl (OL rfl)) (AI (AI rfl (OL rfl)) TT))
 refine y4 (v:=((decide (a0.fK<1)) || (decide (a0.fK > 5)))) rfl TT (fun h1=>?_) (fun h1=>?_)
 ·have h:=zd h1 h
  refine SR ?_
  refine wl ?_
  cases h
  exact AI (AI TT (AI rfl (NB rfl))) (AI TT (AI rfl (Vw.tupL (AI (p7 (S2 rfl rfl (AI (VS rfl) (AI (p5 _ _ _) (AI (p5 _ _ _) TT))))) (AI (VS rfl) TT)))))
 ·have h:=zk h1 h
  refine x6 ?_
  refine wn ?_
  refine SR ?_
  obtain⟨v1,h2,h⟩:=bind_some h
  refine p4 (y5d h2) (AI (VS rfl) TT) ?_
  refine y4 (v:=(!v1)) rfl TT (fun h3=>?_) (fun h3=>?_)
  ·have h:=zd h3 h
   refine SR ?_
   refine wl ?_
   cases h
   exact AI (AI TT (AI rfl (NB rfl))) (AI TT (AI rfl (Vw.tupL (AI (p7 (S2 rfl rfl (AI (VS rfl) (AI (p5 _ _ _) (AI (p5 _ _ _) TT))))) (AI (VS rfl) TT)))))
  ·have h:=zk h3 h
   refine x6 ?_
   refine wn ?_
   refine SR ?_
   obtain⟨v2,h4,h⟩:=bind_some h
   refine p4 (zwj h4) (AI (VS rfl) TT) ?_
   refine SR ?_
   refine p3 (e:=[(1,.ptr (0,0) 0 0),(2,.ptr (1,0) 0 0),(4,i6 v2),(24,.bool (v2 != 0))]) (L:=[((0,0),.one [i6 a0.fK,i6 a0.fI,i6 a0.fC,.str a0.fM,i6 a0.fB.fK,i6 a0.fB.fN,.str a0.fB.fT,.isl 1 (a0.fB.fA.map za) false,.isl 5 (a0.fB.fE.map ze) false]),((1,0),.one [i6 0,i6 0,.str [],.isl 1 (([]:List (List UInt8)).map za) true,.isl 5 (([]:List (List AVal)).map ze) true])]) (n:=2) ?_ ?_
   ·exact y7 (M:=[((0,0),(0,0)),((1,0),(1,0))]) rfl (SP rfl (SP rfl (S2 rfl rfl TT))) (AI (AI rfl (OL rfl)) (AI (AI rfl (OL rfl)) TT))
   refine y4 (v:=(v2 != 0)) rfl TT (fun h5=>?_) (fun h5=>?_)
   ·have h:=zd h5 h
    refine SR ?_
    refine wl ?_
    cases h
    exact AI (AI TT (AI rfl (NB rfl))) (AI TT (AI rfl (Vw.tupL (AI (p7 (S2 rfl rfl (AI (VS rfl) (AI (p5 _ _ _) (AI (p5 _ _ _) TT))))) (AI (VS rfl) TT)))))
   ·have h:=zk h5 h
    refine x6 ?_
    refine SR ?_
    obtain⟨v3,h6,h⟩:=bind_some h
    refine p4 (y5w h6) (AI (VS rfl) TT) ?_
    refine wn ?_
    refine SR ?_
    obtain⟨v4,h7,h⟩:=bind_some h
    refine p4 (zwj h7) (AI (VS rfl) TT) ?_
    refine SR ?_
    refine p3 (e:=[(2,.ptr (0,0) 0 0),(5,.ptr (1,0) 0 0),(6,i6 v4),(32,.bool (v4 != 0))]) (L:=[((0,0),.one [i6 0,i6 0,.str [],.isl 1 (([]:List (List UInt8)).map za) true,.isl 5 (([]:List (List AVal)).map ze) true]),((1,0),.one (z7 v3))]) (n:=2) ?_ ?_
    ·exact y7 (M:=[((0,0),(1,0)),((1,0),(2,0))]) rfl (SP rfl (SP rfl (S2 rfl rfl TT))) (AI (AI rfl (OL rfl)) (AI (AI rfl (OL rfl)) TT))
    refine y4 (v:=(v4 != 0)) rfl TT (fun h8=>?_) (fun h8=>?_)
    ·have h:=zd h8 h
     refine SR ?_
     refine wl ?_
     cases h
     exact AI (AI TT (AI rfl (NB rfl))) (AI TT (AI rfl (Vw.tupL (AI (p7 (S2 rfl rfl (AI (VS rfl) (AI (p5 _ _ _) (AI (p5 _ _ _) TT))))) (AI (VS rfl) TT)))))
    ·have h:=zk h8 h
     refine x6 ?_
     refine SR ?_
     refine wl ?_
     cases h
     exact AI (AI TT (AI rfl (NB rfl))) (AI TT (AI rfl (VS rfl)))
theorem zxj{a0:GM}{m:Option Nat}{o:GJ×Int}(h:zz m a0=some o):PFn Tryd.prog 22 [.agg [i6 a0.fK,i6 a0.fI,i6 a0.fC,.str a0.fM,i6 a0.fB.fK,i6 a0.fB.fN,.str a0.fB.fT,.isl 1 (a0.fB.fA.map za) false,.isl 5 (a0.fB.fE.map ze) false]] (.tup [.agg (z7 o.1),i6 o.2]):=PFn.ofFnW (L:=y2r) y0i y1w (NB rfl) rfl (zq3 h)
def zhv:LCode:=(.region [Qo 22 (.bin .add (.t 11) (.c (i6 1))),
 Qm 11 22])
def z7a:LCode:=(.seq (.region [Qo 12 (.bin .lss (.t 11) (.t 10))])
 (.seq (.cond (.t 12)
  .skip
  (.exit 0))
 (.seq (.block 1
  (.seq (.region [Qm 13 11,
   Qo 14 (.iaddr 3 (.t 9) (.t 11)),
   Qt 15 3 14,
   Qo 5 (.alloc [(i6 0),(.bool false),(.bool false)]),
   Qm 4 13,
   ⟨none,.store 3 (.t 5) (.t 15),none⟩])
  (.seq (.region [Qf 16 1 5,
   Ql 17 1 16])
  (.cond (.t 17)
   (.region [Qm 18 3,
    Qm 19 4,
    Qo 20 (.mkSl true 1 [(i6 0)] 1 [(0,(.t 19))]),
    Qo 21 (.app true 1 8 (.t 18) (.t 20)),
    Qm 3 21])
   .skip))))
 zhv)))
def z1w:LCode:=(.seq (.region [Qm 23 3,
 Qm 2 23])
 .ret)
def zgv:LCode:=(.seq (.region [Qo 2 (.mv (.c (.val (.slice none 0 0))))])
 (.seq (.region [Qo 3 (.mv (.c (.val (.slice none 0 0))))])
 (.seq (.seq (.region [Qm 6 0,
  Qo 7 (.nilck (.t 6)),
  Qf 8 0 7,
  Ql 9 1 8,
  Qo 10 (.len false (.t 9)),
  Qi 11 0])
 (.block 0
  (.loop
   z7a)))
 z1w)))
def Yw:Lay:=⟨24,[],false⟩
def z8a:List LRes:=[.t 2]
def zml:LFn:=⟨1,Yw,zgv,z8a⟩
theorem zrd:wm Tryd.prog [] 16=some zml:=by kernel_rfl
theorem zli:Zc Tryd.prog 16:=⟨_,Tryd.func16,rfl,rfl⟩
def z7q(a0:List G_Job)(a1:List GM)(o:(List Int)):Exit→Env→AHeap→Nat→Prop:=Y2 z8a (Zz 3 5 (.isl 1 (o.map ww) false) [((0,0),.one [.msl (3,0) 3 0 a0.length false,.msl (4,0) 9 0 a1.length false]),((3,0),.rows 3 (a0.map zh)),((4,0),.rows 9 (a1.map z6))])
def Wg(a0:List G_Job)(a1:List GM)(s:((List Int)×Int)):Env:=[(3,.osl (5,0) 1 (s.1.map ww)),(9,.msl (3,0) 3 0 a0.length false),(10,i6 ((a0.length:Nat):Int)),(11,i6 s.2)]
def Vv(a0:List G_Job)(a1:List GM)(s:((List Int)×Int)):AHeap:=[((0,0),.one [.msl (3,0) 3 0 a0.length false,.msl (4,0) 9 0 a1.length false]),((3,0),.rows 3 (a0.map zh)),((4,0),.rows 9 (a1.map z6)),((5,0),.tok)]
def z01(a0:List G_Job)(a1:List GM)(o:(List Int)):Exit→Env→AHeap→Nat→Prop:=(x4 0 (Yk Tryd.prog Yw 3 z1w (z7q a0 a1 o)))
def xg(m:Option Nat)(a0:List G_Job)(a1:List GM)(v3:Int)(v5:List Int):Option (((List Int)×Int) ⊕ (List Int)):=
 some (.inl (v5,(W (v3+1))))
theorem z3f{a0:List G_Job}{a1:List GM}{v3:Int}{v5:List Int}{m:Option Nat}{o:(((List Int)×Int) ⊕ (List Int))}(h:xg m a0 a1 v3 v5=some o) :
 LWp Tryd.prog Yw 3 zhv (Z7 3 6 (Wg a0 a1) (Vv a0 a1) (z01 a0 a1) o) [(3,.osl (5,0) 1 (v5.map ww)),(9,.msl (3,0) 3 0 a0.length false),(10,i6 ((a0.length:Nat):Int)),(11,i6 v3)] [((0,0),.one [.msl (3,0) 3 0 a0.length false,.msl (4,0) 9 0 a1.length false]),((3,0),.rows 3 (a0.map zh)),((4,0),.rows 9 (a1.map z6)),((5,0),.tok)] 6:=by
 unfold xg at h
 refine J1 ?_
 cases h
 exact AI rfl (y7 (M:=[((3,0),(3,0)),((4,0),(4,0)),((5,0),(5,0))]) rfl (AI (Vw.osl _ _ _ _ rfl) (AI (p0 rfl (by first|rfl|omega|(simp;done)|(simp at *;omega)) rfl) (S2 rfl rfl TT))) (AI (AI rfl (p2 (AI (p0 rfl (by first|rfl|omega|(simp;done)|(simp at *;omega)) rfl) (AI (p0 rfl (by first|rfl|omega|(simp;done)|(simp at *;omega)) rfl) TT)))) (AI (AI rfl (p1 zh (fun _=>rfl) _ a0)) (AI (AI rfl (p1 z6 (fun _=>rfl) _ a1)) (AI (AI rfl BVw.tok) TT)))))
def w8(m:Option Nat)(a0:List G_Job)(a1:List GM)(v2:List Int):Option (List Int):=
 some v2
def yb(m:Option Nat)(a0:List G_Job)(a1:List GM)(v2:List Int)(v3:Int):Option (((List Int)×Int) ⊕ (List Int)):=
 if(decide (v3<((a0.length:Nat):Int)))=true then
  if(0:Int)≤v3∧v3<((a0.length:Nat):Int) then
  if(0+v3.toNat)<a0.length then
  if(a0.getD (0+v3.toNat) default).f_Pending=true then
   if((v2++([v3]:List Int)).map ww).length*8≤140737488355328 then
   xg m a0 a1 v3 (v2++([v3]:List Int))
   else none
  else
   xg m a0 a1 v3 v2
  else none
  else none
 else
  Option.map Sum.inr (
   w8 m a0 a1 v2)
def xf(m:Option Nat)(a0:List G_Job)(a1:List GM)(v2:List Int)(v3:Int):Option (List Int):=Y5 m (fun(s:((List Int)×Int))=>yb m a0 a1 s.1 s.2) (v2,v3)
theorem zct{a0:List G_Job}{a1:List GM}{v2:List Int}{m:Option Nat}{o:(List Int)}(h:w8 m a0 a1 v2=some o) :
 LWp Tryd.prog Yw 3 z1w (z7q a0 a1 o) [(3,.osl (3,0) 1 (v2.map ww))] [((0,0),.one [.msl (4,0) 3 0 a0.length false,.msl (5,0) 9 0 a1.length false]),((3,0),.tok),((4,0),.rows 3 (a0.map zh)),((5,0),.rows 9 (a1.map z6))] 6:=by
 unfold w8 at h
 refine SR ?_
 refine wl ?_
 cases h
 exact AI TT (Yl (n':=6) [((3,0),(4,0)),((4,0),(5,0))] [] rfl rfl (Vw.oslI _ _ _) (AI (AI rfl (p2 (AI (p0 rfl (by first|rfl|omega|(simp;done)|(simp at *;omega)) rfl) (AI (p0 rfl (by first|rfl|omega|(simp;done)|(simp at *;omega)) rfl) TT)))) (AI (AI rfl (p1 zh (fun _=>rfl) _ a0)) (AI (AI rfl (p1 z6 (fun _=>rfl) _ a1)) TT))))
theorem zbn{a0:List G_Job}{a1:List GM}{v2:List Int}{v3:Int}{m:Option Nat}{o:((List Int)×Int) ⊕ (List Int)}(h:yb m a0 a1 v2 v3=some o) :
 LWp Tryd.prog Yw 3 z7a (Z7 3 6 (Wg a0 a1) (Vv a0 a1) (z01 a0 a1) o) [(3,.osl (5,0) 1 (v2.map ww)),(9,.msl (3,0) 3 0 a0.length false),(10,i6 ((a0.length:Nat):Int)),(11,i6 v3)] [((0,0),.one [.msl (3,0) 3 0 a0.length false,.msl (4,0) 9 0 a1.length false]),((3,0),.rows 3 (a0.map zh)),((4,0),.rows 9 (a1.map z6)),((5,0),.tok)] 6:=by
 unfold yb at h
 refine SR ?_
 refine wn ?_
 refine y4 (v:=(decide (v3<((a0.length:Nat):Int)))) rfl TT (fun h11=>?_) (fun h11=>?_)
 ·have h:=zd h11 h
  refine x6 ?_
  refine wn ?_
  refine xk ?_
  refine SR ?_
  obtain⟨h12,h⟩:=zj h
  refine AI h12 ?_
  obtain⟨h13,h⟩:=zj h
  refine EX (zh (a0.getD (0+v3.toNat) default)) (AI (jx zh _ _ h13) (AI (AI (Yc zh h13) (NB rfl)) ?_))
  refine SR ?_
  refine p3 (e:=[(3,.osl (3,0) 1 (v2.map ww)),(4,i6 v3),(9,.msl (4,0) 3 0 a0.length false),(10,i6 ((a0.length:Nat):Int)),(11,i6 v3),(17,.bool ((a0.getD (0+v3.toNat) default).f_Pending))]) (L:=[((0,0),.one [.msl (4,0) 3 0 a0.length false,.msl (5,0) 9 0 a1.length false]),((3,0),.tok),((4,0),.rows 3 (a0.map zh)),((5,0),.rows 9 (a1.map z6))]) (n:=6) ?_ ?_
  ·exact y7 (M:=[((3,0),(5,0)),((4,0),(3,0)),((5,0),(4,0))]) rfl (AI (Vw.osl _ _ _ _ rfl) (AI (VS rfl) (AI (p0 rfl (by first|rfl|omega|(simp;done)|(simp at *;omega)) rfl) (S2 rfl rfl (AI (VS rfl) TT))))) (AI (AI rfl (p2 (AI (p0 rfl (by first|rfl|omega|(simp;done)|(simp at *;omega)) rfl) (AI (p0 rfl (by first|rfl|omega|(simp;done)|(simp at *;omega)) rfl) TT)))) (AI (AI rfl BVw.tok) (AI (AI rfl (p1 zh (fun _=>rfl) _ a0)) (AI (AI rfl (p1 z6 (fun _=>rfl) _ a1)) TT))))
  refine y4 (v:=(a0.getD (0+v3.toNat) default).f_Pending) rfl TT (fun h14=>?_) (fun h14=>?_)
  ·have h:=zd h14 h
   refine J1 ?_
   obtain⟨h15,h⟩:=zj h
   refine EX ((v2++([v3]:List Int)).map ww) (AI (Ux ww v2 ([v3]:List Int)) (AI h15 ?_))
   refine p3 ?_ (z3f h)
   exact y7 (M:=[((3,0),(4,0)),((4,0),(5,0)),((5,0),(6,0))]) rfl (AI (Vw.osl _ _ _ _ rfl) (AI (p0 rfl (by first|rfl|omega|(simp;done)|(simp at *;omega)) rfl) (S2 rfl rfl TT))) (AI (AI rfl (p2 (AI (p0 rfl (by first|rfl|omega|(simp;done)|(simp at *;omega)) rfl) (AI (p0 rfl (by first|rfl|omega|(simp;done)|(simp at *;omega)) rfl) TT)))) (AI (AI rfl (p1 zh (fun _=>rfl) _ a0)) (AI (AI rfl (p1 z6 (fun _=>rfl) _ a1)) (AI (AI rfl BVw.tok) TT))))
  ·have h:=zk h14 h
   refine x6 ?_
   refine p3 ?_ (z3f h)
   exact y7 (M:=[((3,0),(4,0)),((4,0),(5,0)),((5,0),(3,0))]) rfl (AI (Vw.osl _ _ _ _ rfl) (AI (p0 rfl (by first|rfl|omega|(simp;done)|(simp at *;omega)) rfl) (S2 rfl rfl TT))) (AI (AI rfl (p2 (AI (p0 rfl (by first|rfl|omega|(simp;done)|(simp at *;omega)) rfl) (AI (p0 rfl (by first|rfl|omega|(simp;done)|(simp at *;omega)) rfl) TT)))) (AI (AI rfl (p1 zh (fun _=>rfl) _ a0)) (AI (AI rfl (p1 z6 (fun _=>rfl) _ a1)) (AI (AI rfl BVw.tok) TT))))
 ·have h:=zk h11 h
  refine Xh ?_
  obtain⟨o,hq,rfl⟩:=p6.1 h
  replace h:=hq;clear hq
  refine AI nofun ?_
  refine p3 ?_ (zct h)
  exact y7 (M:=[((3,0),(5,0)),((4,0),(3,0)),((5,0),(4,0))]) rfl (AI (Vw.osl _ _ _ _ rfl) TT) (AI (AI rfl (p2 (AI (p0 rfl (by first|rfl|omega|(simp;done)|(simp at *;omega)) rfl) (AI (p0 rfl (by first|rfl|omega|(simp;done)|(simp at *;omega)) rfl) TT)))) (AI (AI rfl BVw.tok) (AI (AI rfl (p1 zh (fun _=>rfl) _ a0)) (AI (AI rfl (p1 z6 (fun _=>rfl) _ a1)) TT))))
theorem zey{a0:List G_Job}{a1:List GM}{v2:List Int}{v3:Int}{m:Option Nat}{o:(List Int)}(h:xf m a0 a1 v2 v3=some o) :
 LWp Tryd.prog Yw 3 (.loop z7a) (x4 0 (Yk Tryd.prog Yw 3 z1w (z7q a0 a1 o))) [(3,.osl (5,0) 1 (v2.map ww)),(9,.msl (3,0) 3 0 a0.length false),(10,i6 ((a0.length:Nat):Int)),(11,i6 v3)] [((0,0),.one [.msl (3,0) 3 0 a0.length false,.msl (4,0) 9 0 a1.length false]),((3,0),.rows 3 (a0.map zh)),((4,0),.rows 9 (a1.map z6)),((5,0),.tok)] 6:=
 wy (m:=m) (s:=((v2,v3):((List Int)×Int))) (r:=o) (fun(s:((List Int)×Int))=>yb m a0 a1 s.1 s.2) (Wg a0 a1) (Vv a0 a1) (z01 a0 a1) (fun s o h=>zbn h) h
def x7(m:Option Nat)(a0:List G_Job)(a1:List GM):Option (List Int):=
 xf m a0 a1 [] 0
theorem zdq{a0:List G_Job}{a1:List GM}{m:Option Nat}{o:(List Int)}(h:x7 m a0 a1=some o):LWp Tryd.prog Yw 3 zgv (z7q a0 a1 o) (zu 0 [.ptr (0,0) 0 0]) [((0,0),.one [.msl (0,1) 3 0 a0.length false,.msl (0,2) 9 0 a1.length false]),((0,1),.rows 3 (a0.map zh)),((0,2),.rows 9 (a1.map z6))] 3:=by
 unfold x7 at h
 refine SR ?_
 refine SR ?_
 refine wn ?_
 refine SR ?_
 refine p3 (e:=[(3,.val (.slice none 0 0)),(9,.msl (3,0) 3 0 a0.length false),(10,i6 ((a0.length:Nat):Int)),(11,i6 0)]) (L:=[((0,0),.one [.msl (3,0) 3 0 a0.length false,.msl (4,0) 9 0 a1.length false]),((3,0),.rows 3 (a0.map zh)),((4,0),.rows 9 (a1.map z6))]) (n:=5) ?_ ?_
 ·exact y7 (M:=[((3,0),(0,1)),((4,0),(0,2))]) rfl (AI (VS rfl) (AI (p0 rfl (by first|rfl|omega|(simp;done)|(simp at *;omega)) rfl) (S2 rfl rfl TT))) (AI (AI rfl (p2 (AI (p0 rfl (by first|rfl|omega|(simp;done)|(simp at *;omega)) rfl) (AI (p0 rfl (by first|rfl|omega|(simp;done)|(simp at *;omega)) rfl) TT)))) (AI (AI rfl (p1 zh (fun _=>rfl) _ a0)) (AI (AI rfl (p1 z6 (fun _=>rfl) _ a1)) TT)))
 refine xk ?_
 refine p3 ?_ (zey h)
 exact y7 (M:=[((3,0),(3,0)),((4,0),(4,0))]) rfl (AI (Vw.nilO _ _ (by decide)) (AI (p0 rfl (by first|rfl|omega|(simp;done)|(simp at *;omega)) rfl) (S2 rfl rfl TT))) (AI (AI rfl (p2 (AI (p0 rfl (by first|rfl|omega|(simp;done)|(simp at *;omega)) rfl) (AI (p0 rfl (by first|rfl|omega|(simp;done)|(simp at *;omega)) rfl) TT)))) (AI (AI rfl (p1 zh (fun _=>rfl) _ a0)) (AI (AI rfl (p1 z6 (fun _=>rfl) _ a1)) (AI (AI rfl (AI (by decide) (by decide))) TT))))
theorem zhs{a0:List G_Job}{a1:List GM}{m:Option Nat}{o:(List Int)}(h:x7 m a0 a1=some o):ACalls Tryd.prog 16 [.ptr (0,0) 0 0] [((0,0),.one [.msl (0,1) 3 0 a0.length false,.msl (0,2) 9 0 a1.length false]),((0,1),.rows 3 (a0.map zh)),((0,2),.rows 9 (a1.map z6))] 3 (u0 5 (.isl 1 (o.map ww) false) [((0,0),.one [.msl (3,0) 3 0 a0.length false,.msl (4,0) 9 0 a1.length false]),((3,0),.rows 3 (a0.map zh)),((4,0),.rows 9 (a1.map z6))]):=Z0 (L:=zml) zrd zli (NB rfl) (zdq h)
def zl0:LCode:=(.region [Qo 40 (.bin .add (.t 25) (.c (i6 1))),
 Qm 25 40])
def zcg:LCode:=(.seq (.region [Qo 26 (.bin .lss (.t 25) (.t 24))])
 (.seq (.cond (.t 26)
  .skip
  (.exit 0))
 (.seq (.block 1
  (.seq (.region [Qm 27 25,
   Qo 28 (.iaddr 3 (.t 23) (.t 25)),
   Qt 29 3 28,
   Qo 10 (.alloc [(i6 0),(.bool false),(.bool false)]),
   Qm 9 27,
   ⟨none,.store 3 (.t 10) (.t 29),none⟩])
  (.seq (.region [Qf 30 1 10,
   Ql 31 1 30,
   Qm 32 31,
   Qe 33 0 10 (32,true),
   Qk 34 1 33 (32,true),
   Qe 35 1 3 (32,true),
   Qk 36 1 35 (32,true),
   Qg 37 (.bin .eql (.t 34) (.t 36)) (32,true),
   Qp 38 32 37])
  (.cond (.t 38)
   (.region [Qm 39 9,
    Qm 8 39])
   .skip))))
 zl0)))
def z6g:LCode:=(.seq (.seq (.region [Qf 41 0 3,
 Ql 42 1 41])
 (.block 2
  (.seq (.region [Qo 44 (.bin .eql (.t 42) (.c (i6 1))),
   Qm 43 44])
  (.cond (.t 43)
   (.seq (.seq (.region [Qm 45 8,
    Qo 46 (.bin .geq (.t 45) (.c (i6 0)))])
   (.cond (.t 46)
    (.seq (.draw [⟨Qm 47 0,[]⟩,
     ⟨Qm 48 0,[]⟩,
     ⟨Qo 49 (.nilck (.t 48)),[]⟩,
     ⟨Qf 50 1 49,[]⟩,
     ⟨Ql 51 1 50,[]⟩,
     ⟨Qf 52 1 3,[]⟩,
     ⟨Ql 53 1 52,[]⟩,
     ⟨Qo 54 (.build [(i6 0),(i6 0),(i6 0),(.str []),(i6 0),(i6 0),(.str []),(.isl 1 [] true),(.isl 5 [] true)] [(0,1,(.c (i6 4))),(1,1,(.t 53)),(2,1,(.c (i6 6))),(3,1,(.c (.str [100,117,112,108,105,99,97,116,101,32,114,101,113,117,101,115,116])))]),[]⟩,
     ⟨Qo 55 (.mkSl true 9 [(i6 0),(i6 0),(i6 0),(.str []),(i6 0),(i6 0),(.str []),(.isl 1 [] true),(.isl 5 [] true)] 1 [(0,(.t 54))]),[]⟩,
     ⟨Qo 56 (.app false 9 120 (.t 51) (.t 55)),[]⟩,
     ⟨Qo 57 (.nilck (.t 47)),[]⟩,
     ⟨Qf 58 1 57,[]⟩,
     ⟨⟨none,.store 1 (.t 58) (.t 56),none⟩,[]⟩])
    (.seq (.region [Qo 59 (.build [(i6 0),(i6 0)] []),
     ⟨none,.store 2 (.t 4) (.t 59),none⟩,
     Qi 5 0])
    .ret))
    .skip))
   (.seq (.seq (.region [Qm 60 0,
    Qc 61 16 60,
    Qo 62 (.len false (.t 61)),
    Qo 63 (.bin .geq (.t 62) (.c (i6 40)))])
   (.cond (.t 63)
    (.seq (.draw [⟨Qm 64 0,[]⟩,
     ⟨Qm 65 0,[]⟩,
     ⟨Qo 66 (.nilck (.t 65)),[]⟩,
     ⟨Qf 67 1 66,[]⟩,
     ⟨Ql 68 1 67,[]⟩,
     ⟨Qf 69 1 3,[]⟩,
     ⟨Ql 70 1 69,[]⟩,
     ⟨Qo 71 (.build [(i6 0),(i6 0),(i6 0),(.str []),(i6 0),(i6 0),(.str []),(.isl 1 [] true),(.isl 5 [] true)] [(0,1,(.c (i6 4))),(1,1,(.t 70)),(2,1,(.c (i6 2))),(3,1,(.c (.str [116,111,111,32,109,97,110,121,32,114,101,113,117,101,115,116,115])))]),[]⟩,
     ⟨Qo 72 (.mkSl true 9 [(i6 0),(i6 0),(i6 0),(.str []),(i6 0),(i6 0),(.str []),(.isl 1 [] true),(.isl 5 [] true)] 1 [(0,(.t 71))]),[]⟩,
     ⟨Qo 73 (.app false 9 120 (.t 68) (.t 72)),[]⟩,
     ⟨Qo 74 (.nilck (.t 64)),[]⟩,
     ⟨Qf 75 1 74,[]⟩,
     ⟨⟨none,.store 1 (.t 75) (.t 73),none⟩,[]⟩])
    (.seq (.region [Qo 76 (.build [(i6 0),(i6 0)] []),
     ⟨none,.store 2 (.t 4) (.t 76),none⟩,
     Qi 5 0])
    .ret))
    .skip))
   (.seq (.draw [⟨Qm 77 0,[]⟩,
    ⟨Qm 78 0,[]⟩,
    ⟨Qo 79 (.nilck (.t 78)),[]⟩,
    ⟨Qf 80 0 79,[]⟩,
    ⟨Ql 81 1 80,[]⟩,
    ⟨Qf 82 1 3,[]⟩,
    ⟨Ql 83 1 82,[]⟩,
    ⟨Qo 84 (.build [(i6 0),(.bool false),(.bool false)] [(0,1,(.t 83)),(1,1,(.c (.bool true))),(2,1,(.c (.bool false)))]),[]⟩,
    ⟨Qo 85 (.mkSl true 3 [(i6 0),(.bool false),(.bool false)] 1 [(0,(.t 84))]),[]⟩,
    ⟨Qo 86 (.app false 3 16 (.t 81) (.t 85)),[]⟩,
    ⟨Qo 87 (.nilck (.t 77)),[]⟩,
    ⟨Qf 88 0 87,[]⟩,
    ⟨⟨none,.store 1 (.t 88) (.t 86),none⟩,[]⟩])
   (.seq (.region [Qm 89 0,
    Qo 90 (.nilck (.t 89)),
    Qf 91 0 90,
    Ql 92 1 91,
    Qo 93 (.len false (.t 92)),
    Qo 94 (.bin .sub (.t 93) (.c (i6 1))),
    Qo 95 (.build [(i6 0),(i6 0)] [(0,1,(.c (i6 1))),(1,1,(.t 94))]),
    ⟨none,.store 2 (.t 4) (.t 95),none⟩,
    Qi 5 0])
   .ret))))
   (.seq (.region [Qo 97 (.bin .eql (.t 42) (.c (i6 2))),
    Qm 96 97])
   (.cond (.t 96)
    (.seq (.region [Qo 98 (.build [(i6 0),(i6 0)] [(0,1,(.c (i6 3)))]),
     ⟨none,.store 2 (.t 4) (.t 98),none⟩,
     Qi 5 0])
    .ret)
    (.seq (.region [Qo 100 (.bin .eql (.t 42) (.c (i6 5))),
     Qm 99 100])
    (.cond (.t 99)
     (.seq (.seq (.region [Qm 101 8,
      Qo 102 (.bin .geq (.t 101) (.c (i6 0))),
      Qm 103 102,
      Qn 104 0 (103,true),
      Qg 105 (.nilck (.t 104)) (103,true),
      Qe 106 0 105 (103,true),
      Qk 107 1 106 (103,true),
      Qn 108 8 (103,true),
      Qg 109 (.iaddr 3 (.t 107) (.t 108)) (103,true),
      Qe 110 2 109 (103,true),
      Qk 111 1 110 (103,true),
      Qg 112 (.un .not (.t 111)) (103,true),
      Qp 113 103 112])
     (.cond (.t 113)
      (.seq (.region [Qm 114 0,
       Qo 115 (.nilck (.t 114)),
       Qf 116 0 115,
       Ql 117 1 116,
       Qm 118 8,
       Qo 119 (.iaddr 3 (.t 117) (.t 118)),
       Qf 120 2 119,
       ⟨none,.store 1 (.t 120) (.c (.bool true)),none⟩])
      (.seq (.region [Qm 121 8,
       Qo 122 (.build [(i6 0),(i6 0)] [(0,1,(.c (i6 2))),(1,1,(.t 121))]),
       ⟨none,.store 2 (.t 4) (.t 122),none⟩,
       Qi 5 0])
      .ret))
      .skip))
     (.seq (.region [Qo 123 (.build [(i6 0),(i6 0)] []),
      ⟨none,.store 2 (.t 4) (.t 123),none⟩,
      Qi 5 0])
     .ret))
     .skip))))))))
 (.seq (.region [Qo 124 (.build [(i6 0),(i6 0)] []),
  ⟨none,.store 2 (.t 4) (.t 124),none⟩,
  Qi 5 7])
 .ret))
def zp0:LCode:=(.seq (.region [Qo 3 (.box (.t 1)),
 Qo 4 (.alloc [(i6 0),(i6 0)]),
 Qi 5 0])
 (.seq (.seq (.region [Qt 12 9 3,
  Qc 13 22 12,
  Qm 11 13,
  Qo 14 (.ext 0 (.t 11)),
  Qo 15 (.ext 1 (.t 11)),
  Qo 6 (.alloc [(i6 0),(i6 0),(.str []),(.isl 1 [] true),(.isl 5 [] true)]),
  ⟨none,.store 5 (.t 6) (.t 14),none⟩,
  Qm 7 15])
 (.seq (.region [Qm 16 7,
  Qo 17 (.bin .neq (.t 16) (.c (i6 0)))])
 (.cond (.t 17)
  (.seq (.region [Qo 18 (.build [(i6 0),(i6 0)] []),
   Qm 19 7,
   ⟨none,.store 2 (.t 4) (.t 18),none⟩,
   Qm 5 19])
  .ret)
  .skip)))
 (.seq (.region [Qo 8 (.mv (.c (i6 (-1))))])
 (.seq (.seq (.region [Qm 20 0,
  Qo 21 (.nilck (.t 20)),
  Qf 22 0 21,
  Ql 23 1 22,
  Qo 24 (.len false (.t 23)),
  Qi 25 0])
 (.block 0
  (.loop
   zcg)))
 z6g))))
def Xu:Lay:=⟨125,[56,73,86],false⟩
def zfc:List LRes:=[.cell 4 true 2,.t 5]
def zxr:LFn:=⟨2,Xu,zp0,zfc⟩
theorem zu2:wm Tryd.prog [56,73,86] 8=some zxr:=by kernel_rfl
theorem zvv:Zc Tryd.prog 8:=⟨_,Tryd.func8,rfl,rfl⟩
def zgn(a0:GM)(a1:List G_Job)(a2:List GM)(o:G_QAction×Int×(List G_Job)×(List GM)):Exit→Env→AHeap→Nat→Prop:=Y2 zfc (Zz 3 5 (.tup [.agg [i6 o.1.f_Do,i6 o.1.f_Job],i6 o.2.1]) [((0,0),.one [.msl (3,0) 3 0 o.2.2.1.length false,.msl (4,0) 9 0 o.2.2.2.length false]),((3,0),.rows 3 (o.2.2.1.map zh)),((4,0),.rows 9 (o.2.2.2.map z6))])
def Kg(a0:GM)(a1:List G_Job)(a2:List GM)(s:(Int×Int)):Env:=[(0,.ptr (0,0) 0 0),(3,.ptr (5,0) 0 0),(4,.ptr (6,0) 0 0),(8,i6 s.1),(23,.msl (3,0) 3 0 a1.length false),(24,i6 ((a1.length:Nat):Int)),(25,i6 s.2)]
def Uy(a0:GM)(a1:List G_Job)(a2:List GM)(s:(Int×Int)):AHeap:=[((0,0),.one [.msl (3,0) 3 0 a1.length false,.msl (4,0) 9 0 a2.length false]),((3,0),.rows 3 (a1.map zh)),((4,0),.rows 9 (a2.map z6)),((5,0),.one [i6 a0.fK,i6 a0.fI,i6 a0.fC,.str a0.fM,i6 a0.fB.fK,i6 a0.fB.fN,.str a0.fB.fT,.isl 1 (a0.fB.fA.map za) false,.isl 5 (a0.fB.fE.map ze) false]),((6,0),.one [i6 0,i6 0])]
def z2t(a0:GM)(a1:List G_Job)(a2:List GM)(o:(G_QAction×Int×(List G_Job)×(List GM))):Exit→Env→AHeap→Nat→Prop:=(x4 0 (Yk Tryd.prog Xu 3 z6g (zgn a0 a1 a2 o)))
def xj(m:Option Nat)(a0:GM)(a1:List G_Job)(a2:List GM)(v4:Int)(v6:Int):Option ((Int×Int) ⊕ (G_QAction×Int×(List G_Job)×(List GM))):=
 some (.inl (v6,(W (v4+1))))
theorem z4r{a0:GM}{a1:List G_Job}{a2:List GM}{v4:Int}{v6:Int}{m:Option Nat}{o:((Int×Int) ⊕ (G_QAction×Int×(List G_Job)×(List GM)))}(h:xj m a0 a1 a2 v4 v6=some o) :
 LWp Tryd.prog Xu 3 zl0 (Z7 3 7 (Kg a0 a1 a2) (Uy a0 a1 a2) (z2t a0 a1 a2) o) [(0,.ptr (0,0) 0 0),(3,.ptr (5,0) 0 0),(4,.ptr (6,0) 0 0),(8,i6 v6),(23,.msl (3,0) 3 0 a1.length false),(24,i6 ((a1.length:Nat):Int)),(25,i6 v4)] [((0,0),.one [.msl (3,0) 3 0 a1.length false,.msl (4,0) 9 0 a2.length false]),((3,0),.rows 3 (a1.map zh)),((4,0),.rows 9 (a2.map z6)),((5,0),.one [i6 a0.fK,i6 a0.fI,i6 a0.fC,.str a0.fM,i6 a0.fB.fK,i6 a0.fB.fN,.str a0.fB.fT,.isl 1 (a0.fB.fA.map za) false,.isl 5 (a0.fB.fE.map ze) false]),((6,0),.one [i6 0,i6 0])] 7:=by
 unfold xj at h
 refine J1 ?_
 cases h
 exact AI rfl (y7 (M:=[((3,0),(3,0)),((4,0),(4,0)),((5,0),(5,0)),((6,0),(6,0))]) rfl (SP rfl (SP rfl (SP rfl (AI (VS rfl) (AI (p0 rfl (by first|rfl|omega|(simp;done)|(simp at *;omega)) rfl) (S2 rfl rfl TT)))))) (AI (AI rfl (p2 (AI (p0 rfl (by first|rfl|omega|(simp;done)|(simp at *;omega)) rfl) (AI (p0 rfl (by first|rfl|omega|(simp;done)|(simp at *;omega)) rfl) TT)))) (AI (AI rfl (p1 zh (fun _=>rfl) _ a1)) (AI (AI rfl (p1 z6 (fun _=>rfl) _ a2)) (AI (AI rfl (OL rfl)) (AI (AI rfl (OL rfl)) TT))))))
def zm(m:Option Nat)(a0:GM)(a1:List G_Job)(a2:List GM)(v3:Int):Option (G_QAction×Int×(List G_Job)×(List GM)):=
 if(a0.fK==1)=true then
  if(decide (v3≥0))=true then
   if((a2++([(GM.mk 4 a0.fI 6 ([100,117,112,108,105,99,97,116,101,32,114,101,113,117,101,115,116]:List UInt8) (GJ.mk 0 0 [] [] []))]:List GM)).map z6).length*120≤140737488355328 then
   some ((G_QAction.mk 0 0),0,a1,(a2++([(GM.mk 4 a0.fI 6 ([100,117,112,108,105,99,97,116,101,32,114,101,113,117,101,115,116]:List UInt8) (GJ.mk 0 0 [] [] []))]:List GM)))
   else none
  else
   (x7 m a1 a2).bind fun v7=>
   if(decide (((v7.map ww).length:Int)≥40))=true then
    if((a2++([(GM.mk 4 a0.fI 2 ([116,111,111,32,109,97,110,121,32,114,101,113,117,101,115,116,115]:List UInt8) (GJ.mk 0 0 [] [] []))]:List GM)).map z6).length*120≤140737488355328 then
    some ((G_QAction.mk 0 0),0,a1,(a2++([(GM.mk 4 a0.fI 2 ([116,111,111,32,109,97,110,121,32,114,101,113,117,101,115,116,115]:List UInt8) (GJ.mk 0 0 [] [] []))]:List GM)))
    else none
   else
    if((a1++([(G_Job.mk a0.fI true false)]:List G_Job)).map zh).length*16≤140737488355328 then
    some ((G_QAction.mk 1 (W (((((a1++([(G_Job.mk a0.fI true false)]:List G_Job)).map zh).length:Nat):Int)-1))),0,(a1++([(G_Job.mk a0.fI true false)]:List G_Job)),a2)
    else none
 else
  if(a0.fK==2)=true then
   some ((G_QAction.mk 3 0),0,a1,a2)
  else
   if(a0.fK==5)=true then
    if(((decide (v3≥0))==true)=true→(0:Int)≤v3∧v3<((a1.length:Nat):Int)) then
    if(((decide (v3≥0))==true)=true→(0+v3.toNat)<a1.length) then
    if((decide (v3≥0))&&(!((a1.getD (0+v3.toNat) default).f_Canceled)))=true then
     if(0:Int)≤v3∧v3<((a1.length:Nat):Int) then
     if(0+v3.toNat)<a1.length then
     some ((G_QAction.mk 2 v3),0,(a1.set (0+v3.toNat) (G_Job.mk ((a1.getD (0+v3.toNat) default).fI) ((a1.getD (0+v3.toNat) default).f_Pending) true)),a2)
     else none
     else none
    else
     some ((G_QAction.mk 0 0),0,a1,a2)
    else none
    else none
   else
    some ((G_QAction.mk 0 0),7,a1,a2)
def yh(m:Option Nat)(a0:GM)(a1:List G_Job)(a2:List GM)(v3:Int)(v4:Int):Option ((Int×Int) ⊕ (G_QAction×Int×(List G_Job)×(List GM))):=
 if(decide (v4<((a1.length:Nat):Int)))=true then
  if(0:Int)≤v4∧v4<((a1.length:Nat):Int) then
  if(0+v4.toNat)<a1.length then
  if((a1.getD (0+v4.toNat) default).f_Pending&&((a1.getD (0+v4.toNat) default).fI==a0.fI))=true then
   xj m a0 a1 a2 v4 v4
  else
   xj m a0 a1 a2 v4 v3
  else none
  else none
 else
  Option.map Sum.inr (
   zm m a0 a1 a2 v3)
def yu(m:Option Nat)(a0:GM)(a1:List G_Job)(a2:List GM)(v3:Int)(v4:Int):Option (G_QAction×Int×(List G_Job)×(List GM)):=Y5 m (fun(s:(Int×Int))=>yh m a0 a1 a2 s.1 s.2) (v3,v4)
set_option maxHeartbeats 4000000 in
theorem zk6{a0:GM}{a1:List G_Job}{a2:List GM}{v3:Int}{m:Option Nat}{o:(G_QAction×Int×(List G_Job)×(List GM))}(h:zm m a0 a1 a2 v3=some o) :
 LWp Tryd.prog Xu 3 z6g (zgn a0 a1 a2 o) [(0,.ptr (0,0) 0 0),(3,.ptr (3,0) 0 0),(4,.ptr (4,0) 0 0),(8,i6 v3)] [((0,0),.one [.msl (5,0) 3 0 a1.length false,.msl (6,0) 9 0 a2.length false]),((3,0),.one [i6 a0.fK,i6 a0.fI,i6 a0.fC,.str a0.fM,i6 a0.fB.fK,i6 a0.fB.fN,.str a0.fB.fT,.isl 1 (a0.fB.fA.map za) false,.isl 5 (a0.fB.fE.map ze) false]),((4,0),.one [i6 0,i6 0]),((5,0),.rows 3 (a1.map zh)),((6,0),.rows 9 (a2.map z6))] 7:=by
 unfold zm at h
 refine wn ?_
 refine SR ?_
 refine xk ?_
 refine SR ?_
 refine y4 (v:=(a0.fK==1)) rfl TT (fun h15=>?_) (fun h15=>?_)
 ·have h:=zd h15 h
  refine wn ?_
  refine SR ?_
  refine y4 (v:=(decide (v3≥0))) rfl TT (fun h16=>?_) (fun h16=>?_)
  ·have h:=zd h16 h
   refine wn ?_
   refine zdz rfl ?_
   obtain⟨h17,h⟩:=zj h
   refine AI (fun h=>Bool.noConfusion h) (AI (y0c z6 (by first|rfl|omega|(simp;done)|(simp at *;omega))) (EX ((a2++([(GM.mk 4 a0.fI 6 ([100,117,112,108,105,99,97,116,101,32,114,101,113,117,101,115,116]:List UInt8) (GJ.mk 0 0 [] [] []))]:List GM)).map z6) (AI (y20 z6 a2 ([(GM.mk 4 a0.fI 6 ([100,117,112,108,105,99,97,116,101,32,114,101,113,117,101,115,116]:List UInt8) (GJ.mk 0 0 [] [] []))]:List GM) (by first|rfl|omega|(simp;done)|(simp at *;omega))) (AI h17 ?_))))
   refine p3 (e:=[(4,.ptr (3,0) 0 0)]) (L:=[((0,0),.one [.msl (4,0) 3 0 a1.length false,.msl (5,0) 9 0 (((a2++([(GM.mk 4 a0.fI 6 ([100,117,112,108,105,99,97,116,101,32,114,101,113,117,101,115,116]:List UInt8) (GJ.mk 0 0 [] [] []))]:List GM)).map z6).length) false]),((3,0),.one [i6 0,i6 0]),((4,0),.rows 3 (a1.map zh)),((5,0),.rows 9 ((a2++([(GM.mk 4 a0.fI 6 ([100,117,112,108,105,99,97,116,101,32,114,101,113,117,101,115,116]:List UInt8) (GJ.mk 0 0 [] [] []))]:List GM)).map z6))]) (n:=6) ?_ ?_
   ·exact y7 (M:=[((3,0),(4,0)),((4,0),(5,0)),((5,0),(7,0))]) rfl (SP rfl TT) (AI (AI rfl (p2 (AI (p0 rfl (by first|rfl|omega|(simp;done)|(simp at *;omega)) rfl) (AI (p0 rfl (by first|rfl|omega|(simp;done)|(simp at *;omega)) rfl) TT)))) (AI (AI rfl (OL rfl)) (AI (AI rfl (p1 zh (fun _=>rfl) _ a1)) (AI (AI rfl (p1 z6 (fun _=>rfl) _ (a2++([(GM.mk 4 a0.fI 6 ([100,117,112,108,105,99,97,116,101,32,114,101,113,117,101,115,116]:List UInt8) (GJ.mk 0 0 [] [] []))]:List GM)))) TT))))
   refine SR ?_
   refine wl ?_
   cases h
   exact AI (AI TT (AI rfl (NB rfl))) (AI TT (Yl (n':=6) [((3,0),(4,0)),((4,0),(5,0))] [] rfl rfl (VS rfl) (AI (AI rfl (p2 (AI (p0 rfl (by first|rfl|omega|(simp;done)|(simp at *;omega)) rfl) (AI (p0 rfl (by first|rfl|omega|(simp;done)|(simp at *;omega)) rfl) TT)))) (AI (AI rfl (p1 zh (fun _=>rfl) _ a1)) (AI (AI rfl (p1 z6 (fun _=>rfl) _ (a2++([(GM.mk 4 a0.fI 6 ([100,117,112,108,105,99,97,116,101,32,114,101,113,117,101,115,116]:List UInt8) (GJ.mk 0 0 [] [] []))]:List GM)))) TT)))))
  ·have h:=zk h16 h
   refine x6 ?_
   refine wn ?_
   refine SR ?_
   obtain⟨v7,h18,h⟩:=bind_some h
   refine Z2 (k:=3) (m:=2) (L':=[((0,0),.one [.msl (7,0) 3 0 a1.length false,.msl (8,0) 9 0 a2.length false]),((7,0),.rows 3 (a1.map zh)),((8,0),.rows 9 (a2.map z6))]) (rest:=[((3,0),.one [i6 a0.fK,i6 a0.fI,i6 a0.fC,.str a0.fM,i6 a0.fB.fK,i6 a0.fB.fN,.str a0.fB.fT,.isl 1 (a0.fB.fA.map za) false,.isl 5 (a0.fB.fE.map ze) false]),((4,0),.one [i6 0,i6 0])]) (R':=.isl 1 (v7.map ww) false) [((0,0),(0,0)),((0,1),(5,0)),((0,2),(6,0))] (zhs h18) rfl rfl rfl (SP rfl TT) (AI (h0I (0,0) rfl rfl (p2 (AI (p0 rfl (by first|rfl|omega|(simp;done)|(simp at *;omega)) rfl) (AI (p0 rfl (by first|rfl|omega|(simp;done)|(simp at *;omega)) rfl) TT)))) (AI (h0I (5,0) rfl rfl (p1 zh (fun _=>rfl) _ a1)) (AI (h0I (6,0) rfl rfl (p1 z6 (fun _=>rfl) _ a2)) TT))) (xl _ rfl) (AI rfl (AI rfl (AI rfl (AI (yf zh (fun _=>rfl) _ _) (AI rfl (AI (yf z6 (fun _=>rfl) _ _) TT)))))) rfl ?_
   refine p3 (e:=[(0,.ptr (0,0) 0 0),(3,.ptr (3,0) 0 0),(4,.ptr (4,0) 0 0),(63,.bool (decide (((v7.map ww).length:Int)≥40)))]) (L:=[((0,0),.one [.msl (5,0) 3 0 a1.length false,.msl (6,0) 9 0 a2.length false]),((3,0),.one [i6 a0.fK,i6 a0.fI,i6 a0.fC,.str a0.fM,i6 a0.fB.fK,i6 a0.fB.fN,.str a0.fB.fT,.isl 1 (a0.fB.fA.map za) false,.isl 5 (a0.fB.fE.map ze) false]),((4,0),.one [i6 0,i6 0]),((5,0),.rows 3 (a1.map zh)),((6,0),.rows 9 (a2.map z6))]) (n:=7) ?_ ?_
   ·exact y7 (M:=[((3,0),(3,0)),((4,0),(4,0)),((5,0),(7,0)),((6,0),(8,0))]) rfl (SP rfl (SP rfl (SP rfl (AI (VS rfl) TT)))) (AI (AI rfl (p2 (AI (p0 rfl (by first|rfl|omega|(simp;done)|(simp at *;omega)) rfl) (AI (p0 rfl (by first|rfl|omega|(simp;done)|(simp at *;omega)) rfl) TT)))) (AI (AI rfl (OL rfl)) (AI (AI rfl (OL rfl)) (AI (AI rfl (p1 zh (fun _=>rfl) _ a1)) (AI (AI rfl (p1 z6 (fun _=>rfl) _ a2)) TT)))))
   refine y4 (v:=(decide (((v7.map ww).length:Int)≥40))) rfl TT (fun h19=>?_) (fun h19=>?_)
   ·have h:=zd h19 h
    refine wn ?_
    refine zdz rfl ?_
    obtain⟨h20,h⟩:=zj h
    refine AI (fun h=>Bool.noConfusion h) (AI (y0c z6 (by first|rfl|omega|(simp;done)|(simp at *;omega))) (EX ((a2++([(GM.mk 4 a0.fI 2 ([116,111,111,32,109,97,110,121,32,114,101,113,117,101,115,116,115]:List UInt8) (GJ.mk 0 0 [] [] []))]:List GM)).map z6) (AI (y20 z6 a2 ([(GM.mk 4 a0.fI 2 ([116,111,111,32,109,97,110,121,32,114,101,113,117,101,115,116,115]:List UInt8) (GJ.mk 0 0 [] [] []))]:List GM) (by first|rfl|omega|(simp;done)|(simp at *;omega))) (AI h20 ?_))))
    refine p3 (e:=[(4,.ptr (3,0) 0 0)]) (L:=[((0,0),.one [.msl (4,0) 3 0 a1.length false,.msl (5,0) 9 0 (((a2++([(GM.mk 4 a0.fI 2 ([116,111,111,32,109,97,110,121,32,114,101,113,117,101,115,116,115]:List UInt8) (GJ.mk 0 0 [] [] []))]:List GM)).map z6).length) false]),((3,0),.one [i6 0,i6 0]),((4,0),.rows 3 (a1.map zh)),((5,0),.rows 9 ((a2++([(GM.mk 4 a0.fI 2 ([116,111,111,32,109,97,110,121,32,114,101,113,117,101,115,116,115]:List UInt8) (GJ.mk 0 0 [] [] []))]:List GM)).map z6))]) (n:=6) ?_ ?_
    ·exact y7 (M:=[((3,0),(4,0)),((4,0),(5,0)),((5,0),(7,0))]) rfl (SP rfl TT) (AI (AI rfl (p2 (AI (p0 rfl (by first|rfl|omega|(simp;done)|(simp at *;omega)) rfl) (AI (p0 rfl (by first|rfl|omega|(simp;done)|(simp at *;omega)) rfl) TT)))) (AI (AI rfl (OL rfl)) (AI (AI rfl (p1 zh (fun _=>rfl) _ a1)) (AI (AI rfl (p1 z6 (fun _=>rfl) _ (a2++([(GM.mk 4 a0.fI 2 ([116,111,111,32,109,97,110,121,32,114,101,113,117,101,115,116,115]:List UInt8) (GJ.mk 0 0 [] [] []))]:List GM)))) TT))))
    refine SR ?_
    refine wl ?_
    cases h
    exact AI (AI TT (AI rfl (NB rfl))) (AI TT (Yl (n':=6) [((3,0),(4,0)),((4,0),(5,0))] [] rfl rfl (VS rfl) (AI (AI rfl (p2 (AI (p0 rfl (by first|rfl|omega|(simp;done)|(simp at *;omega)) rfl) (AI (p0 rfl (by first|rfl|omega|(simp;done)|(simp at *;omega)) rfl) TT)))) (AI (AI rfl (p1 zh (fun _=>rfl) _ a1)) (AI (AI rfl (p1 z6 (fun _=>rfl) _ (a2++([(GM.mk 4 a0.fI 2 ([116,111,111,32,109,97,110,121,32,114,101,113,117,101,115,116,115]:List UInt8) (GJ.mk 0 0 [] [] []))]:List GM)))) TT)))))
   ·have h:=zk h19 h
    refine x6 ?_
    refine wn ?_
    refine zdz rfl ?_
    obtain⟨h21,h⟩:=zj h
    refine AI (fun h=>Bool.noConfusion h) (AI (y0c zh (by first|rfl|omega|(simp;done)|(simp at *;omega))) (EX ((a1++([(G_Job.mk a0.fI true false)]:List G_Job)).map zh) (AI (y20 zh a1 ([(G_Job.mk a0.fI true false)]:List G_Job) (by first|rfl|omega|(simp;done)|(simp at *;omega))) (AI h21 ?_))))
    refine p3 (e:=[(0,.ptr (0,0) 0 0),(4,.ptr (3,0) 0 0)]) (L:=[((0,0),.one [.msl (4,0) 3 0 (((a1++([(G_Job.mk a0.fI true false)]:List G_Job)).map zh).length) false,.msl (5,0) 9 0 a2.length false]),((3,0),.one [i6 0,i6 0]),((4,0),.rows 3 ((a1++([(G_Job.mk a0.fI true false)]:List G_Job)).map zh)),((5,0),.rows 9 (a2.map z6))]) (n:=6) ?_ ?_
    ·exact y7 (M:=[((3,0),(4,0)),((4,0),(7,0)),((5,0),(6,0))]) rfl (SP rfl (SP rfl TT)) (AI (AI rfl (p2 (AI (p0 rfl (by first|rfl|omega|(simp;done)|(simp at *;omega)) rfl) (AI (p0 rfl (by first|rfl|omega|(simp;done)|(simp at *;omega)) rfl) TT)))) (AI (AI rfl (OL rfl)) (AI (AI rfl (p1 zh (fun _=>rfl) _ (a1++([(G_Job.mk a0.fI true false)]:List G_Job)))) (AI (AI rfl (p1 z6 (fun _=>rfl) _ a2)) TT))))
    refine SR ?_
    refine p3 (e:=[(4,.ptr (3,0) 0 0),(5,i6 0)]) (L:=[((0,0),.one [.msl (4,0) 3 0 (((a1++([(G_Job.mk a0.fI true false)]:List G_Job)).map zh).length) false,.msl (5,0) 9 0 a2.length false]),((3,0),.one [i6 1,i6 (W (((((a1++([(G_Job.mk a0.fI true false)]:List G_Job)).map zh).length:Nat):Int)-1))]),((4,0),.rows 3 ((a1++([(G_Job.mk a0.fI true false)]:List G_Job)).map zh)),((5,0),.rows 9 (a2.map z6))]) (n:=6) ?_ ?_
    ·exact y7 (M:=[((3,0),(3,0)),((4,0),(4,0)),((5,0),(5,0))]) rfl (SP rfl (AI (VS rfl) TT)) (AI (AI rfl (p2 (AI (p0 rfl (by first|rfl|omega|(simp;done)|(simp at *;omega)) rfl) (AI (p0 rfl (by first|rfl|omega|(simp;done)|(simp at *;omega)) rfl) TT)))) (AI (AI rfl (OL rfl)) (AI (AI rfl (p1 zh (fun _=>rfl) _ (a1++([(G_Job.mk a0.fI true false)]:List G_Job)))) (AI (AI rfl (p1 z6 (fun _=>rfl) _ a2)) TT))))
    refine wl ?_
    cases h
    exact AI (AI TT (AI rfl (NB rfl))) (AI TT (Yl (n':=6) [((3,0),(4,0)),((4,0),(5,0))] [] rfl rfl (VS rfl) (AI (AI rfl (p2 (AI (p0 rfl (by first|rfl|omega|(simp;done)|(simp at *;omega)) rfl) (AI (p0 rfl (by first|rfl|omega|(simp;done)|(simp at *;omega)) rfl) TT)))) (AI (AI rfl (p1 zh (fun _=>rfl) _ (a1++([(G_Job.mk a0.fI true false)]:List G_Job)))) (AI (AI rfl (p1 z6 (fun _=>rfl) _ a2)) TT)))))
 ·have h:=zk h15 h
  refine SR ?_
  refine y4 (v:=(a0.fK==2)) rfl TT (fun h22=>?_) (fun h22=>?_)
  ·have h:=zd h22 h
   refine SR ?_
   refine p3 (e:=[(4,.ptr (3,0) 0 0),(5,i6 0)]) (L:=[((0,0),.one [.msl (4,0) 3 0 a1.length false,.msl (5,0) 9 0 a2.length false]),((3,0),.one [i6 3,i6 0]),((4,0),.rows 3 (a1.map zh)),((5,0),.rows 9 (a2.map z6))]) (n:=6) ?_ ?_
   ·exact y7 (M:=[((3,0),(4,0)),((4,0),(5,0)),((5,0),(6,0))]) rfl (SP rfl (AI (VS rfl) TT)) (AI (AI rfl (p2 (AI (p0 rfl (by first|rfl|omega|(simp;done)|(simp at *;omega)) rfl) (AI (p0 rfl (by first|rfl|omega|(simp;done)|(simp at *;omega)) rfl) TT)))) (AI (AI rfl (OL rfl)) (AI (AI rfl (p1 zh (fun _=>rfl) _ a1)) (AI (AI rfl (p1 z6 (fun _=>rfl) _ a2)) TT))))
   refine wl ?_
   cases h
   exact AI (AI TT (AI rfl (NB rfl))) (AI TT (Yl (n':=6) [((3,0),(4,0)),((4,0),(5,0))] [] rfl rfl (VS rfl) (AI (AI rfl (p2 (AI (p0 rfl (by first|rfl|omega|(simp;done)|(simp at *;omega)) rfl) (AI (p0 rfl (by first|rfl|omega|(simp;done)|(simp at *;omega)) rfl) TT)))) (AI (AI rfl (p1 zh (fun _=>rfl) _ a1)) (AI (AI rfl (p1 z6 (fun _=>rfl) _ a2)) TT)))))
  ·have h:=zk h22 h
   refine SR ?_
   refine p3 (e:=[(0,.ptr (0,0) 0 0),(4,.ptr (3,0) 0 0),(8,i6 v3),(99,.bool (a0.fK==5))]) (L:=[((0,0),.one [.msl (4,0) 3 0 a1.length false,.msl (5,0) 9 0 a2.length false]),((3,0),.one [i6 0,i6 0]),((4,0),.rows 3 (a1.map zh)),((5,0),.rows 9 (a2.map z6))]) (n:=6) ?_ ?_
   ·exact y7 (M:=[((3,0),(4,0)),((4,0),(5,0)),((5,0),(6,0))]) rfl (SP rfl (SP rfl (S2 rfl rfl TT))) (AI (AI rfl (p2 (AI (p0 rfl (by first|rfl|omega|(simp;done)|(simp at *;omega)) rfl) (AI (p0 rfl (by first|rfl|omega|(simp;done)|(simp at *;omega)) rfl) TT)))) (AI (AI rfl (OL rfl)) (AI (AI rfl (p1 zh (fun _=>rfl) _ a1)) (AI (AI rfl (p1 z6 (fun _=>rfl) _ a2)) TT))))
   refine y4 (v:=(a0.fK==5)) rfl TT (fun h23=>?_) (fun h23=>?_)
   ·have h:=zd h23 h
    refine wn ?_
    refine SR ?_
    refine HP ?_
    refine HP ?_
    refine HP ?_
    obtain⟨h24,h⟩:=zj h
    refine AI (fun hp=>(AI (AI hp hp) (h24 hp))) ?_
    refine HP ?_
    obtain⟨h25,h⟩:=zj h
    refine EX (zh (a1.getD (0+v3.toNat) default)) (AI (fun hp=>AI (jx zh _ _ (h25 hp)) (AI hp (AI (Yc zh (h25 hp)) (NB rfl)))) ?_)
    refine HP ?_
    refine HB ?_
    refine p3 (e:=[(0,.ptr (0,0) 0 0),(4,.ptr (3,0) 0 0),(8,i6 v3),(113,.bool ((decide (v3≥0))&&(!((a1.getD (0+v3.toNat) default).f_Canceled))))]) (L:=[((0,0),.one [.msl (4,0) 3 0 a1.length false,.msl (5,0) 9 0 a2.length false]),((3,0),.one [i6 0,i6 0]),((4,0),.rows 3 (a1.map zh)),((5,0),.rows 9 (a2.map z6))]) (n:=6) ?_ ?_
    ·exact y7 (M:=[((3,0),(3,0)),((4,0),(4,0)),((5,0),(5,0))]) rfl (SP rfl (SP rfl (S2 rfl rfl TT))) (AI (AI rfl (p2 (AI (p0 rfl (by first|rfl|omega|(simp;done)|(simp at *;omega)) rfl) (AI (p0 rfl (by first|rfl|omega|(simp;done)|(simp at *;omega)) rfl) TT)))) (AI (AI rfl (OL rfl)) (AI (AI rfl (p1 zh (fun _=>rfl) _ a1)) (AI (AI rfl (p1 z6 (fun _=>rfl) _ a2)) TT))))
    refine y4 (v:=((decide (v3≥0))&&(!((a1.getD (0+v3.toNat) default).f_Canceled)))) rfl TT (fun h26=>?_) (fun h26=>?_)
    ·have h:=zd h26 h
     refine SR ?_
     obtain⟨h27,h⟩:=zj h
     refine AI h27 ?_
     obtain⟨h28,h⟩:=zj h
     refine EX ((a1.set (0+v3.toNat) (G_Job.mk ((a1.getD (0+v3.toNat) default).fI) ((a1.getD (0+v3.toNat) default).f_Pending) true)).map zh) (AI (z3z zh _ _ _ _ _ h28 rfl) (AI (AI rfl (AI (Yc zh h28) (NB rfl))) ?_))
     refine p3 (e:=[(4,.ptr (3,0) 0 0),(8,i6 v3)]) (L:=[((0,0),.one [.msl (4,0) 3 0 a1.length false,.msl (5,0) 9 0 a2.length false]),((3,0),.one [i6 0,i6 0]),((4,0),.rows 3 ((a1.set (0+v3.toNat) (G_Job.mk ((a1.getD (0+v3.toNat) default).fI) ((a1.getD (0+v3.toNat) default).f_Pending) true)).map zh)),((5,0),.rows 9 (a2.map z6))]) (n:=6) ?_ ?_
     ·exact y7 (M:=[((3,0),(3,0)),((4,0),(4,0)),((5,0),(5,0))]) rfl (SP rfl (AI (VS rfl) TT)) (AI (AI rfl (p2 (AI (p0 rfl (by first|rfl|omega|(simp;done)|(simp at *;omega)) rfl) (AI (p0 rfl (by first|rfl|omega|(simp;done)|(simp at *;omega)) rfl) TT)))) (AI (AI rfl (OL rfl)) (AI (AI rfl (p1 zh (fun _=>rfl) _ (a1.set (0+v3.toNat) (G_Job.mk ((a1.getD (0+v3.toNat) default).fI) ((a1.getD (0+v3.toNat) default).f_Pending) true)))) (AI (AI rfl (p1 z6 (fun _=>rfl) _ a2)) TT))))
     refine SR ?_
     refine wl ?_
     cases h
     exact AI (AI TT (AI rfl (NB rfl))) (AI TT (Yl (n':=6) [((3,0),(4,0)),((4,0),(5,0))] [] rfl rfl (VS rfl) (AI (AI rfl (p2 (AI (p0 rfl (by first|rfl|omega|(simp;done)|(simp at *;omega)) rfl) (AI (p0 rfl (by first|rfl|omega|(simp;done)|(simp at *;omega)) rfl) TT)))) (AI (AI rfl (p1 zh (fun _=>rfl) _ (a1.set (0+v3.toNat) (G_Job.mk ((a1.getD (0+v3.toNat) default).fI) ((a1.getD (0+v3.toNat) default).f_Pending) true)))) (AI (AI rfl (p1 z6 (fun _=>rfl) _ a2)) TT)))))
    ·have h:=zk h26 h
     refine x6 ?_
     refine SR ?_
     refine wl ?_
     cases h
     exact AI (AI TT (AI rfl (NB rfl))) (AI TT (Yl (n':=6) [((3,0),(4,0)),((4,0),(5,0))] [] rfl rfl (VS rfl) (AI (AI rfl (p2 (AI (p0 rfl (by first|rfl|omega|(simp;done)|(simp at *;omega)) rfl) (AI (p0 rfl (by first|rfl|omega|(simp;done)|(simp at *;omega)) rfl) TT)))) (AI (AI rfl (p1 zh (fun _=>rfl) _ a1)) (AI (AI rfl (p1 z6 (fun _=>rfl) _ a2)) TT)))))
   ·have h:=zk h23 h
    refine x6 ?_
    refine SR ?_
    refine wl ?_
    cases h
    exact AI (AI TT (AI rfl (NB rfl))) (AI TT (Yl (n':=6) [((3,0),(4,0)),((4,0),(5,0))] [] rfl rfl (VS rfl) (AI (AI rfl (p2 (AI (p0 rfl (by first|rfl|omega|(simp;done)|(simp at *;omega)) rfl) (AI (p0 rfl (by first|rfl|omega|(simp;done)|(simp at *;omega)) rfl) TT)))) (AI (AI rfl (p1 zh (fun _=>rfl) _ a1)) (AI (AI rfl (p1 z6 (fun _=>rfl) _ a2)) TT)))))
theorem zdo{a0:GM}{a1:List G_Job}{a2:List GM}{v3:Int}{v4:Int}{m:Option Nat}{o:(Int×Int) ⊕ (G_QAction×Int×(List G_Job)×(List GM))}(h:yh m a0 a1 a2 v3 v4=some o) :
 LWp Tryd.prog Xu 3 zcg (Z7 3 7 (Kg a0 a1 a2) (Uy a0 a1 a2) (z2t a0 a1 a2) o) [(0,.ptr (0,0) 0 0),(3,.ptr (5,0) 0 0),(4,.ptr (6,0) 0 0),(8,i6 v3),(23,.msl (3,0) 3 0 a1.length false),(24,i6 ((a1.length:Nat):Int)),(25,i6 v4)] [((0,0),.one [.msl (3,0) 3 0 a1.length false,.msl (4,0) 9 0 a2.length false]),((3,0),.rows 3 (a1.map zh)),((4,0),.rows 9 (a2.map z6)),((5,0),.one [i6 a0.fK,i6 a0.fI,i6 a0.fC,.str a0.fM,i6 a0.fB.fK,i6 a0.fB.fN,.str a0.fB.fT,.isl 1 (a0.fB.fA.map za) false,.isl 5 (a0.fB.fE.map ze) false]),((6,0),.one [i6 0,i6 0])] 7:=by
 unfold yh at h
 refine SR ?_
 refine wn ?_
 refine y4 (v:=(decide (v4<((a1.length:Nat):Int)))) rfl TT (fun h11=>?_) (fun h11=>?_)
 ·have h:=zd h11 h
  refine x6 ?_
  refine wn ?_
  refine xk ?_
  refine SR ?_
  obtain⟨h12,h⟩:=zj h
  refine AI h12 ?_
  obtain⟨h13,h⟩:=zj h
  refine EX (zh (a1.getD (0+v4.toNat) default)) (AI (jx zh _ _ h13) (AI (AI (Yc zh h13) (NB rfl)) ?_))
  refine SR ?_
  refine HP ?_
  refine HP ?_
  refine AI (fun hp=>(AI hp hp)) ?_
  refine HB ?_
  refine p3 (e:=[(0,.ptr (0,0) 0 0),(3,.ptr (3,0) 0 0),(4,.ptr (4,0) 0 0),(8,i6 v3),(9,i6 v4),(23,.msl (5,0) 3 0 a1.length false),(24,i6 ((a1.length:Nat):Int)),(25,i6 v4),(38,.bool ((a1.getD (0+v4.toNat) default).f_Pending&&((a1.getD (0+v4.toNat) default).fI==a0.fI)))]) (L:=[((0,0),.one [.msl (5,0) 3 0 a1.length false,.msl (6,0) 9 0 a2.length false]),((3,0),.one [i6 a0.fK,i6 a0.fI,i6 a0.fC,.str a0.fM,i6 a0.fB.fK,i6 a0.fB.fN,.str a0.fB.fT,.isl 1 (a0.fB.fA.map za) false,.isl 5 (a0.fB.fE.map ze) false]),((4,0),.one [i6 0,i6 0]),((5,0),.rows 3 (a1.map zh)),((6,0),.rows 9 (a2.map z6))]) (n:=7) ?_ ?_
  ·exact y7 (M:=[((3,0),(5,0)),((4,0),(6,0)),((5,0),(3,0)),((6,0),(4,0))]) rfl (SP rfl (SP rfl (SP rfl (S2 rfl rfl (AI (p0 rfl (by first|rfl|omega|(simp;done)|(simp at *;omega)) rfl) (S2 rfl rfl (AI (VS rfl) TT))))))) (AI (AI rfl (p2 (AI (p0 rfl (by first|rfl|omega|(simp;done)|(simp at *;omega)) rfl) (AI (p0 rfl (by first|rfl|omega|(simp;done)|(simp at *;omega)) rfl) TT)))) (AI (AI rfl (OL rfl)) (AI (AI rfl (OL rfl)) (AI (AI rfl (p1 zh (fun _=>rfl) _ a1)) (AI (AI rfl (p1 z6 (fun _=>rfl) _ a2)) TT)))))
  refine y4 (v:=((a1.getD (0+v4.toNat) default).f_Pending&&((a1.getD (0+v4.toNat) default).fI==a0.fI))) rfl TT (fun h14=>?_) (fun h14=>?_)
  ·have h:=zd h14 h
   refine J1 ?_
   refine p3 ?_ (z4r h)
   exact y7 (M:=[((3,0),(5,0)),((4,0),(6,0)),((5,0),(3,0)),((6,0),(4,0))]) rfl (SP rfl (SP rfl (SP rfl (AI (VS rfl) (AI (p0 rfl (by first|rfl|omega|(simp;done)|(simp at *;omega)) rfl) (S2 rfl rfl TT)))))) (AI (AI rfl (p2 (AI (p0 rfl (by first|rfl|omega|(simp;done)|(simp at *;omega)) rfl) (AI (p0 rfl (by first|rfl|omega|(simp;done)|(simp at *;omega)) rfl) TT)))) (AI (AI rfl (p1 zh (fun _=>rfl) _ a1)) (AI (AI rfl (p1 z6 (fun _=>rfl) _ a2)) (AI (AI rfl (OL rfl)) (AI (AI rfl (OL rfl)) TT)))))
  ·have h:=zk h14 h
   refine x6 ?_
   refine p3 ?_ (z4r h)
   exact y7 (M:=[((3,0),(5,0)),((4,0),(6,0)),((5,0),(3,0)),((6,0),(4,0))]) rfl (SP rfl (SP rfl (SP rfl (AI (VS rfl) (AI (p0 rfl (by first|rfl|omega|(simp;done)|(simp at *;omega)) rfl) (S2 rfl rfl TT)))))) (AI (AI rfl (p2 (AI (p0 rfl (by first|rfl|omega|(simp;done)|(simp at *;omega)) rfl) (AI (p0 rfl (by first|rfl|omega|(simp;done)|(simp at *;omega)) rfl) TT)))) (AI (AI rfl (p1 zh (fun _=>rfl) _ a1)) (AI (AI rfl (p1 z6 (fun _=>rfl) _ a2)) (AI (AI rfl (OL rfl)) (AI (AI rfl (OL rfl)) TT)))))
 ·have h:=zk h11 h
  refine Xh ?_
  obtain⟨o,hq,rfl⟩:=p6.1 h
  replace h:=hq;clear hq
  refine AI nofun ?_
  refine p3 ?_ (zk6 h)
  exact y7 (M:=[((3,0),(5,0)),((4,0),(6,0)),((5,0),(3,0)),((6,0),(4,0))]) rfl (SP rfl (SP rfl (SP rfl (AI (VS rfl) TT)))) (AI (AI rfl (p2 (AI (p0 rfl (by first|rfl|omega|(simp;done)|(simp at *;omega)) rfl) (AI (p0 rfl (by first|rfl|omega|(simp;done)|(simp at *;omega)) rfl) TT)))) (AI (AI rfl (OL rfl)) (AI (AI rfl (OL rfl)) (AI (AI rfl (p1 zh (fun _=>rfl) _ a1)) (AI (AI rfl (p1 z6 (fun _=>rfl) _ a2)) TT)))))
theorem zkn{a0:GM}{a1:List G_Job}{a2:List GM}{v3:Int}{v4:Int}{m:Option Nat}{o:(G_QAction×Int×(List G_Job)×(List GM))}(h:yu m a0 a1 a2 v3 v4=some o) :
 LWp Tryd.prog Xu 3 (.loop zcg) (x4 0 (Yk Tryd.prog Xu 3 z6g (zgn a0 a1 a2 o))) [(0,.ptr (0,0) 0 0),(3,.ptr (5,0) 0 0),(4,.ptr (6,0) 0 0),(8,i6 v3),(23,.msl (3,0) 3 0 a1.length false),(24,i6 ((a1.length:Nat):Int)),(25,i6 v4)] [((0,0),.one [.msl (3,0) 3 0 a1.length false,.msl (4,0) 9 0 a2.length false]),((3,0),.rows 3 (a1.map zh)),((4,0),.rows 9 (a2.map z6)),((5,0),.one [i6 a0.fK,i6 a0.fI,i6 a0.fC,.str a0.fM,i6 a0.fB.fK,i6 a0.fB.fN,.str a0.fB.fT,.isl 1 (a0.fB.fA.map za) false,.isl 5 (a0.fB.fE.map ze) false]),((6,0),.one [i6 0,i6 0])] 7:=
 wy (m:=m) (s:=((v3,v4):(Int×Int))) (r:=o) (fun(s:(Int×Int))=>yh m a0 a1 a2 s.1 s.2) (Kg a0 a1 a2) (Uy a0 a1 a2) (z2t a0 a1 a2) (fun s o h=>zdo h) h
def y5(m:Option Nat)(a0:GM)(a1:List G_Job)(a2:List GM):Option (G_QAction×Int×(List G_Job)×(List GM)):=
 (zz m (GM.mk a0.fK a0.fI a0.fC a0.fM (GJ.mk a0.fB.fK a0.fB.fN a0.fB.fT a0.fB.fA a0.fB.fE))).bind fun v1=>
 if(v1.2 != 0)=true then
  some ((G_QAction.mk 0 0),v1.2,a1,a2)
 else
  yu m a0 a1 a2 (-1) 0
theorem ziq{a0:GM}{a1:List G_Job}{a2:List GM}{m:Option Nat}{o:G_QAction×Int×(List G_Job)×(List GM)}(h:y5 m a0 a1 a2=some o):LWp Tryd.prog Xu 3 zp0 (zgn a0 a1 a2 o) (zu 0 [.ptr (0,0) 0 0,.agg [i6 a0.fK,i6 a0.fI,i6 a0.fC,.str a0.fM,i6 a0.fB.fK,i6 a0.fB.fN,.str a0.fB.fT,.isl 1 (a0.fB.fA.map za) false,.isl 5 (a0.fB.fE.map ze) false]]) [((0,0),.one [.msl (0,1) 3 0 a1.length false,.msl (0,2) 9 0 a2.length false]),((0,1),.rows 3 (a1.map zh)),((0,2),.rows 9 (a2.map z6))] 3:=by
 unfold y5 at h
 refine SR ?_
 refine wn ?_
 refine SR ?_
 obtain⟨v1,h1,h⟩:=bind_some h
 refine p4 (zxj h1) (AI (VS rfl) TT) ?_
 refine p3 (e:=[(0,.ptr (0,0) 0 0),(3,.ptr (3,0) 0 0),(4,.ptr (4,0) 0 0),(7,i6 v1.2)]) (L:=[((0,0),.one [.msl (5,0) 3 0 a1.length false,.msl (6,0) 9 0 a2.length false]),((3,0),.one [i6 a0.fK,i6 a0.fI,i6 a0.fC,.str a0.fM,i6 a0.fB.fK,i6 a0.fB.fN,.str a0.fB.fT,.isl 1 (a0.fB.fA.map za) false,.isl 5 (a0.fB.fE.map ze) false]),((4,0),.one [i6 0,i6 0]),((5,0),.rows 3 (a1.map zh)),((6,0),.rows 9 (a2.map z6))]) (n:=7) ?_ ?_
 ·exact y7 (M:=[((3,0),(3,0)),((4,0),(4,0)),((5,0),(0,1)),((6,0),(0,2))]) rfl (SP rfl (SP rfl (SP rfl (AI (VS rfl) TT)))) (AI (AI rfl (p2 (AI (p0 rfl (by first|rfl|omega|(simp;done)|(simp at *;omega)) rfl) (AI (p0 rfl (by first|rfl|omega|(simp;done)|(simp at *;omega)) rfl) TT)))) (AI (AI rfl (OL rfl)) (AI (AI rfl (OL rfl)) (AI (AI rfl (p1 zh (fun _=>rfl) _ a1)) (AI (AI rfl (p1 z6 (fun _=>rfl) _ a2)) TT)))))
 refine SR ?_
 refine y4 (v:=(v1.2 != 0)) rfl TT (fun h2=>?_) (fun h2=>?_)
 ·have h:=zd h2 h
  refine SR ?_
  refine wl ?_
  cases h
  exact AI (AI TT (AI rfl (NB rfl))) (AI TT (Yl (n':=7) [((3,0),(5,0)),((4,0),(6,0))] [] rfl rfl (VS rfl) (AI (AI rfl (p2 (AI (p0 rfl (by first|rfl|omega|(simp;done)|(simp at *;omega)) rfl) (AI (p0 rfl (by first|rfl|omega|(simp;done)|(simp at *;omega)) rfl) TT)))) (AI (AI rfl (p1 zh (fun _=>rfl) _ a1)) (AI (AI rfl (p1 z6 (fun _=>rfl) _ a2)) TT)))))
 ·have h:=zk h2 h
  refine x6 ?_
  refine SR ?_
  refine wn ?_
  refine SR ?_
  refine p3 (e:=[(0,.ptr (0,0) 0 0),(3,.ptr (3,0) 0 0),(4,.ptr (4,0) 0 0),(8,i6 (-1)),(23,.msl (5,0) 3 0 a1.length false),(24,i6 ((a1.length:Nat):Int)),(25,i6 0)]) (L:=[((0,0),.one [.msl (5,0) 3 0 a1.length false,.msl (6,0) 9 0 a2.length false]),((3,0),.one [i6 a0.fK,i6 a0.fI,i6 a0.fC,.str a0.fM,i6 a0.fB.fK,i6 a0.fB.fN,.str a0.fB.fT,.isl 1 (a0.fB.fA.map za) false,.isl 5 (a0.fB.fE.map ze) false]),((4,0),.one [i6 0,i6 0]),((5,0),.rows 3 (a1.map zh)),((6,0),.rows 9 (a2.map z6))]) (n:=7) ?_ ?_
  ·exact y7 (M:=[((3,0),(3,0)),((4,0),(4,0)),((5,0),(5,0)),((6,0),(6,0))]) rfl (SP rfl (SP rfl (SP rfl (AI (VS rfl) (AI (p0 rfl (by first|rfl|omega|(simp;done)|(simp at *;omega)) rfl) (S2 rfl rfl TT)))))) (AI (AI rfl (p2 (AI (p0 rfl (by first|rfl|omega|(simp;done)|(simp at *;omega)) rfl) (AI (p0 rfl (by first|rfl|omega|(simp;done)|(simp at *;omega)) rfl) TT)))) (AI (AI rfl (OL rfl)) (AI (AI rfl (OL rfl)) (AI (AI rfl (p1 zh (fun _=>rfl) _ a1)) (AI (AI rfl (p1 z6 (fun _=>rfl) _ a2)) TT)))))
  refine xk ?_
  refine p3 ?_ (zkn h)
  exact y7 (M:=[((3,0),(5,0)),((4,0),(6,0)),((5,0),(3,0)),((6,0),(4,0))]) rfl (SP rfl (SP rfl (SP rfl (AI (VS rfl) (AI (p0 rfl (by first|rfl|omega|(simp;done)|(simp at *;omega)) rfl) (S2 rfl rfl TT)))))) (AI (AI rfl (p2 (AI (p0 rfl (by first|rfl|omega|(simp;done)|(simp at *;omega)) rfl) (AI (p0 rfl (by first|rfl|omega|(simp;done)|(simp at *;omega)) rfl) TT)))) (AI (AI rfl (p1 zh (fun _=>rfl) _ a1)) (AI (AI rfl (p1 z6 (fun _=>rfl) _ a2)) (AI (AI rfl (OL rfl)) (AI (AI rfl (OL rfl)) TT)))))
theorem y23{a0:GM}{a1:List G_Job}{a2:List GM}{m:Option Nat}{o:G_QAction×Int×(List G_Job)×(List GM)}(h:y5 m a0 a1 a2=some o):ACalls Tryd.prog 8 [.ptr (0,0) 0 0,.agg [i6 a0.fK,i6 a0.fI,i6 a0.fC,.str a0.fM,i6 a0.fB.fK,i6 a0.fB.fN,.str a0.fB.fT,.isl 1 (a0.fB.fA.map za) false,.isl 5 (a0.fB.fE.map ze) false]] [((0,0),.one [.msl (0,1) 3 0 a1.length false,.msl (0,2) 9 0 a2.length false]),((0,1),.rows 3 (a1.map zh)),((0,2),.rows 9 (a2.map z6))] 3 (u0 5 (.tup [.agg [i6 o.1.f_Do,i6 o.1.f_Job],i6 o.2.1]) [((0,0),.one [.msl (3,0) 3 0 o.2.2.1.length false,.msl (4,0) 9 0 o.2.2.2.length false]),((3,0),.rows 3 (o.2.2.1.map zh)),((4,0),.rows 9 (o.2.2.2.map z6))]):=Z0 (L:=zxr) zu2 zvv (NB rfl) (ziq h)
def zic:LCode:=(.seq (.region [Qi 4 0])
 (.seq (.block 0
  (.seq (.region [Qm 6 1,
   Qo 7 (.bin .lss (.t 6) (.c (i6 0))),
   Qm 8 7,
   Qn 9 1 (8,false),
   Qn 10 0 (8,false),
   Qg 11 (.nilck (.t 10)) (8,false),
   Qe 12 0 11 (8,false),
   Qk 13 1 12 (8,false),
   Qg 14 (.len false (.t 13)) (8,false),
   Qg 15 (.bin .geq (.t 9) (.t 14)) (8,false),
   Qo 16 (.pick (.t 8) (.c (.bool true)) (.t 15)),
   Qm 5 16])
  (.cond (.t 5)
   (.seq (.region [Qi 4 5])
   .ret)
   (.seq (.region [Qm 18 0,
    Qo 19 (.nilck (.t 18)),
    Qf 20 0 19,
    Ql 21 1 20,
    Qm 22 1,
    Qo 23 (.iaddr 3 (.t 21) (.t 22)),
    Qf 24 1 23,
    Ql 25 1 24,
    Qo 26 (.un .not (.t 25)),
    Qm 17 26])
   (.cond (.t 17)
    (.seq (.region [Qi 4 8])
    .ret)
    .skip)))))
 (.seq (.region [Qi 4 0])
 .ret)))
def zaw:Lay:=⟨27,[],false⟩
def zai:List LRes:=[.t 4]
def zmd:LFn:=⟨2,zaw,zic,zai⟩
theorem zlh:wm Tryd.prog [] 23=some zmd:=by kernel_rfl
theorem zo0:Zc Tryd.prog 23:=⟨_,Tryd.func23,rfl,rfl⟩
def jq(m:Option Nat)(a0:Int)(a1:List G_job)(a2:List GM):Option Int:=
 if((decide (a0<0)) || (decide (a0≥((a1.length:Nat):Int))))=true then
  some 5
 else
  if(0:Int)≤a0∧a0<((a1.length:Nat):Int) then
  if(0+a0.toNat)<a1.length then
  if(!((a1.getD (0+a0.toNat) default).f_pending))=true then
   some 8
  else
   some 0
  else none
  else none
def y15(a0:Int)(a1:List G_job)(a2:List GM)(o:Int):Exit→Env→AHeap→Nat→Prop:=Y2 zai (Zz 3 5 (i6 o) [((0,0),.one [.msl (3,0) 3 0 a1.length false,.msl (4,0) 9 0 a2.length false]),((3,0),.rows 3 (a1.map z8)),((4,0),.rows 9 (a2.map z6))])
theorem zeg{a0:Int}{a1:List G_job}{a2:List GM}{m:Option Nat}{o:Int}(h:jq m a0 a1 a2=some o):LWp Tryd.prog zaw 3 zic (y15 a0 a1 a2 o) (zu 0 [.ptr (0,0) 0 0,i6 a0]) [((0,0),.one [.msl (0,1) 3 0 a1.length false,.msl (0,2) 9 0 a2.length false]),((0,1),.rows 3 (a1.map z8)),((0,2),.rows 9 (a2.map z6))] 3:=by
 unfold jq at h
 refine SR ?_
 refine wn ?_
 refine xk ?_
 refine SR ?_
 refine HP ?_
 refine HP ?_
 refine HP ?_
 refine HP ?_
 refine AI (fun hp=>(AI hp hp)) ?_
 refine AI (fun hc=>(bqf hc)) ?_
 refine p3 (e:=[(0,.ptr (0,0) 0 0),(1,i6 a0),(5,.bool ((decide (a0<0)) || (decide (a0≥((a1.length:Nat):Int)))))]) (L:=[((0,0),.one [.msl (3,0) 3 0 a1.length false,.msl (4,0) 9 0 a2.length false]),((3,0),.rows 3 (a1.map z8)),((4,0),.rows 9 (a2.map z6))]) (n:=5) ?_ ?_
 ·exact y7 (M:=[((3,0),(0,1)),((4,0),(0,2))]) rfl (SP rfl (S2 rfl rfl TT)) (AI (AI rfl (p2 (AI (p0 rfl (by first|rfl|omega|(simp;done)|(simp at *;omega)) rfl) (AI (p0 rfl (by first|rfl|omega|(simp;done)|(simp at *;omega)) rfl) TT)))) (AI (AI rfl (p1 z8 (fun _=>rfl) _ a1)) (AI (AI rfl (p1 z6 (fun _=>rfl) _ a2)) TT)))
 refine y4 (v:=((decide (a0<0)) || (decide (a0≥((a1.length:Nat):Int))))) rfl TT (fun h1=>?_) (fun h1=>?_)
 ·have h:=zd h1 h
  refine SR ?_
  refine wl ?_
  cases h
  exact AI TT (Yl (n':=5) [((3,0),(3,0)),((4,0),(4,0))] [] rfl rfl (VS rfl) (AI (AI rfl (p2 (AI (p0 rfl (by first|rfl|omega|(simp;done)|(simp at *;omega)) rfl) (AI (p0 rfl (by first|rfl|omega|(simp;done)|(simp at *;omega)) rfl) TT)))) (AI (AI rfl (p1 z8 (fun _=>rfl) _ a1)) (AI (AI rfl (p1 z6 (fun _=>rfl) _ a2)) TT))))
 ·have h:=zk h1 h
  refine SR ?_
  obtain⟨h2,h⟩:=zj h
  refine AI h2 ?_
  obtain⟨h3,h⟩:=zj h
  refine EX (z8 (a1.getD (0+a0.toNat) default)) (AI (jx z8 _ _ h3) (AI (AI (Yc z8 h3) (NB rfl)) ?_))
  refine p3 (e:=[(17,.bool (!((a1.getD (0+a0.toNat) default).f_pending)))]) (L:=[((0,0),.one [.msl (3,0) 3 0 a1.length false,.msl (4,0) 9 0 a2.length false]),((3,0),.rows 3 (a1.map z8)),((4,0),.rows 9 (a2.map z6))]) (n:=5) ?_ ?_
  ·exact y7 (M:=[((3,0),(3,0)),((4,0),(4,0))]) rfl (AI (VS rfl) TT) (AI (AI rfl (p2 (AI (p0 rfl (by first|rfl|omega|(simp;done)|(simp at *;omega)) rfl) (AI (p0 rfl (by first|rfl|omega|(simp;done)|(simp at *;omega)) rfl) TT)))) (AI (AI rfl (p1 z8 (fun _=>rfl) _ a1)) (AI (AI rfl (p1 z6 (fun _=>rfl) _ a2)) TT)))
  refine y4 (v:=(!((a1.getD (0+a0.toNat) default).f_pending))) rfl TT (fun h4=>?_) (fun h4=>?_)
  ·have h:=zd h4 h
   refine SR ?_
   refine wl ?_
   cases h
   exact AI TT (Yl (n':=5) [((3,0),(3,0)),((4,0),(4,0))] [] rfl rfl (VS rfl) (AI (AI rfl (p2 (AI (p0 rfl (by first|rfl|omega|(simp;done)|(simp at *;omega)) rfl) (AI (p0 rfl (by first|rfl|omega|(simp;done)|(simp at *;omega)) rfl) TT)))) (AI (AI rfl (p1 z8 (fun _=>rfl) _ a1)) (AI (AI rfl (p1 z6 (fun _=>rfl) _ a2)) TT))))
  ·have h:=zk h4 h
   refine x6 ?_
   refine SR ?_
   refine wl ?_
   cases h
   exact AI TT (Yl (n':=5) [((3,0),(3,0)),((4,0),(4,0))] [] rfl rfl (VS rfl) (AI (AI rfl (p2 (AI (p0 rfl (by first|rfl|omega|(simp;done)|(simp at *;omega)) rfl) (AI (p0 rfl (by first|rfl|omega|(simp;done)|(simp at *;omega)) rfl) TT)))) (AI (AI rfl (p1 z8 (fun _=>rfl) _ a1)) (AI (AI rfl (p1 z6 (fun _=>rfl) _ a2)) TT))))
theorem zfj{a0:Int}{a1:List G_job}{a2:List GM}{m:Option Nat}{o:Int}(h:jq m a0 a1 a2=some o):ACalls Tryd.prog 23 [.ptr (0,0) 0 0,i6 a0] [((0,0),.one [.msl (0,1) 3 0 a1.length false,.msl (0,2) 9 0 a2.length false]),((0,1),.rows 3 (a1.map z8)),((0,2),.rows 9 (a2.map z6))] 3 (u0 5 (i6 o) [((0,0),.one [.msl (3,0) 3 0 a1.length false,.msl (4,0) 9 0 a2.length false]),((3,0),.rows 3 (a1.map z8)),((4,0),.rows 9 (a2.map z6))]):=Z0 (L:=zmd) zlh zo0 (NB rfl) (zeg h)
def zh8:LCode:=(.seq (.region [Qo 5 (.box (.t 2)),
 Qi 6 0])
 (.seq (.region [Qm 9 0,
  Qo 10 (.nilck (.t 9)),
  Qf 11 0 10,
  Ql 12 1 11,
  Qm 13 1,
  Qo 14 (.iaddr 3 (.t 12) (.t 13)),
  Qf 15 0 14,
  Ql 16 1 15,
  Qf 17 1 5,
  ⟨none,.store 1 (.t 17) (.t 16),none⟩])
 (.seq (.seq (.region [Qt 19 9 5,
  Qc 20 18 19,
  Qm 18 20,
  Qo 21 (.ext 0 (.t 18)),
  Qo 22 (.ext 1 (.t 18)),
  Qo 7 (.alloc [(i6 0),(i6 0),(.str []),(.isl 1 [] true),(.isl 5 [] true)]),
  ⟨none,.store 5 (.t 7) (.t 21),none⟩,
  Qm 8 22])
 (.seq (.region [Qm 23 8,
  Qo 24 (.bin .neq (.t 23) (.c (i6 0)))])
 (.cond (.t 24)
  (.seq (.region [Qm 25 8,
   Qm 6 25])
  .ret)
  .skip)))
 (.seq (.region [Qm 26 0,
  Qo 27 (.nilck (.t 26)),
  Qf 28 0 27,
  Ql 29 1 28,
  Qm 30 1,
  Qo 31 (.iaddr 3 (.t 29) (.t 30)),
  Qf 32 1 31,
  ⟨none,.store 1 (.t 32) (.c (.bool false)),none⟩])
 (.seq (.draw [⟨Qm 33 0,[]⟩,
  ⟨Qm 34 0,[]⟩,
  ⟨Qo 35 (.nilck (.t 34)),[]⟩,
  ⟨Qf 36 1 35,[]⟩,
  ⟨Ql 37 1 36,[]⟩,
  ⟨Qt 38 9 5,[]⟩,
  ⟨Qo 39 (.mkSl true 9 [(i6 0),(i6 0),(i6 0),(.str []),(i6 0),(i6 0),(.str []),(.isl 1 [] true),(.isl 5 [] true)] 1 [(0,(.t 38))]),[]⟩,
  ⟨Qo 40 (.app false 9 120 (.t 37) (.t 39)),[]⟩,
  ⟨Qo 41 (.nilck (.t 33)),[]⟩,
  ⟨Qf 42 1 41,[]⟩,
  ⟨⟨none,.store 1 (.t 42) (.t 40),none⟩,[]⟩])
 (.seq (.region [Qi 6 0])
 .ret))))))
def z9l:Lay:=⟨43,[40],false⟩
def zc4:List LRes:=[.t 6]
def zs9:LFn:=⟨3,z9l,zh8,zc4⟩
theorem zp7:wm Tryd.prog [40] 24=some zs9:=by kernel_rfl
theorem zsq:Zc Tryd.prog 24:=⟨_,Tryd.func24,rfl,rfl⟩
def ya(m:Option Nat)(a0:Int)(a1:GM)(a2:List G_job)(a3:List GM):Option (Int×(List G_job)×(List GM)):=
 if(0:Int)≤a0∧a0<((a2.length:Nat):Int) then
 if(0+a0.toNat)<a2.length then
 (vq m (GM.mk a1.fK ((a2.getD (0+a0.toNat) default).f_id) a1.fC a1.fM (GJ.mk a1.fB.fK a1.fB.fN a1.fB.fT a1.fB.fA a1.fB.fE))).bind fun v1=>
 if(v1.2 != 0)=true then
  some (v1.2,a2,a3)
 else
  if(0:Int)≤a0∧a0<((a2.length:Nat):Int) then
  if(0+a0.toNat)<a2.length then
  if((a3++([(GM.mk a1.fK ((a2.getD (0+a0.toNat) default).f_id) a1.fC a1.fM (GJ.mk a1.fB.fK a1.fB.fN a1.fB.fT a1.fB.fA a1.fB.fE))]:List GM)).map z6).length*120≤140737488355328 then
  some (0,(a2.set (0+a0.toNat) (G_job.mk ((a2.getD (0+a0.toNat) default).f_id) false ((a2.getD (0+a0.toNat) default).f_canceled))),(a3++([(GM.mk a1.fK ((a2.getD (0+a0.toNat) default).f_id) a1.fC a1.fM (GJ.mk a1.fB.fK a1.fB.fN a1.fB.fT a1.fB.fA a1.fB.fE))]:List GM)))
  else none
  else none
  else none
 else none
 else none
def zzf(a0:Int)(a1:GM)(a2:List G_job)(a3:List GM)(o:Int×(List G_job)×(List GM)):Exit→Env→AHeap→Nat→Prop:=Y2 zc4 (Zz 3 5 (i6 o.1) [((0,0),.one [.msl (3,0) 3 0 o.2.1.length false,.msl (4,0) 9 0 o.2.2.length false]),((3,0),.rows 3 (o.2.1.map z8)),((4,0),.rows 9 (o.2.2.map z6))])
theorem zdd{a0:Int}{a1:GM}{a2:List G_job}{a3:List GM}{m:Option Nat}{o:Int×(List G_job)×(List GM)}(h:ya m a0 a1 a2 a3=some o):LWp Tryd.prog z9l 3 zh8 (zzf a0 a1 a2 a3 o) (zu 0 [.ptr (0,0) 0 0,i6 a0,.agg [i6 a1.fK,i6 a1.fI,i6 a1.fC,.str a1.fM,i6 a1.fB.fK,i6 a1.fB.fN,.str a1.fB.fT,.isl 1 (a1.fB.fA.map za) false,.isl 5 (a1.fB.fE.map ze) false]]) [((0,0),.one [.msl (0,1) 3 0 a2.length false,.msl (0,2) 9 0 a3.length false]),((0,1),.rows 3 (a2.map z8)),((0,2),.rows 9 (a3.map z6))] 3:=by
 unfold ya at h
 refine SR ?_
 refine SR ?_
 obtain⟨h1,h⟩:=zj h
 refine AI h1 ?_
 obtain⟨h2,h⟩:=zj h
 refine EX (z8 (a2.getD (0+a0.toNat) default)) (AI (jx z8 _ _ h2) (AI (AI (Yc z8 h2) (NB rfl)) ?_))
 refine p3 (e:=[(0,.ptr (0,0) 0 0),(1,i6 a0),(5,.ptr (3,0) 0 0)]) (L:=[((0,0),.one [.msl (4,0) 3 0 a2.length false,.msl (5,0) 9 0 a3.length false]),((3,0),.one [i6 a1.fK,i6 ((a2.getD (0+a0.toNat) default).f_id),i6 a1.fC,.str a1.fM,i6 a1.fB.fK,i6 a1.fB.fN,.str a1.fB.fT,.isl 1 (a1.fB.fA.map za) false,.isl 5 (a1.fB.fE.map ze) false]),((4,0),.rows 3 (a2.map z8)),((5,0),.rows 9 (a3.map z6))]) (n:=6) ?_ ?_
 ·exact y7 (M:=[((3,0),(3,0)),((4,0),(0,1)),((5,0),(0,2))]) rfl (SP rfl (AI (VS rfl) (SP rfl TT))) (AI (AI rfl (p2 (AI (p0 rfl (by first|rfl|omega|(simp;done)|(simp at *;omega)) rfl) (AI (p0 rfl (by first|rfl|omega|(simp;done)|(simp at *;omega)) rfl) TT)))) (AI (AI rfl (OL rfl)) (AI (AI rfl (p1 z8 (fun _=>rfl) _ a2)) (AI (AI rfl (p1 z6 (fun _=>rfl) _ a3)) TT))))
 refine wn ?_
 refine SR ?_
 obtain⟨v1,h3,h⟩:=bind_some h
 refine p4 (zxw h3) (AI (VS rfl) TT) ?_
 refine p3 (e:=[(0,.ptr (0,0) 0 0),(1,i6 a0),(5,.ptr (3,0) 0 0),(8,i6 v1.2)]) (L:=[((0,0),.one [.msl (4,0) 3 0 a2.length false,.msl (5,0) 9 0 a3.length false]),((3,0),.one [i6 a1.fK,i6 ((a2.getD (0+a0.toNat) default).f_id),i6 a1.fC,.str a1.fM,i6 a1.fB.fK,i6 a1.fB.fN,.str a1.fB.fT,.isl 1 (a1.fB.fA.map za) false,.isl 5 (a1.fB.fE.map ze) false]),((4,0),.rows 3 (a2.map z8)),((5,0),.rows 9 (a3.map z6))]) (n:=6) ?_ ?_
 ·exact y7 (M:=[((3,0),(3,0)),((4,0),(4,0)),((5,0),(5,0))]) rfl (SP rfl (AI (VS rfl) (SP rfl (AI (VS rfl) TT)))) (AI (AI rfl (p2 (AI (p0 rfl (by first|rfl|omega|(simp;done)|(simp at *;omega)) rfl) (AI (p0 rfl (by first|rfl|omega|(simp;done)|(simp at *;omega)) rfl) TT)))) (AI (AI rfl (OL rfl)) (AI (AI rfl (p1 z8 (fun _=>rfl) _ a2)) (AI (AI rfl (p1 z6 (fun _=>rfl) _ a3)) TT))))
 refine SR ?_
 refine y4 (v:=(v1.2 != 0)) rfl TT (fun h4=>?_) (fun h4=>?_)
 ·have h:=zd h4 h
  refine SR ?_
  refine wl ?_
  cases h
  exact AI TT (Yl (n':=6) [((3,0),(4,0)),((4,0),(5,0))] [] rfl rfl (VS rfl) (AI (AI rfl (p2 (AI (p0 rfl (by first|rfl|omega|(simp;done)|(simp at *;omega)) rfl) (AI (p0 rfl (by first|rfl|omega|(simp;done)|(simp at *;omega)) rfl) TT)))) (AI (AI rfl (p1 z8 (fun _=>rfl) _ a2)) (AI (AI rfl (p1 z6 (fun _=>rfl) _ a3)) TT))))
 ·have h:=zk h4 h
  refine x6 ?_
  refine SR ?_
  obtain⟨h5,h⟩:=zj h
  refine AI h5 ?_
  obtain⟨h6,h⟩:=zj h
  refine EX ((a2.set (0+a0.toNat) (G_job.mk ((a2.getD (0+a0.toNat) default).f_id) false ((a2.getD (0+a0.toNat) default).f_canceled))).map z8) (AI (z3z z8 _ _ _ _ _ h6 rfl) (AI (AI rfl (AI (Yc z8 h6) (NB rfl))) ?_))
  refine p3 (e:=[(0,.ptr (0,0) 0 0),(5,.ptr (3,0) 0 0)]) (L:=[((0,0),.one [.msl (4,0) 3 0 a2.length false,.msl (5,0) 9 0 a3.length false]),((3,0),.one [i6 a1.fK,i6 ((a2.getD (0+a0.toNat) default).f_id),i6 a1.fC,.str a1.fM,i6 a1.fB.fK,i6 a1.fB.fN,.str a1.fB.fT,.isl 1 (a1.fB.fA.map za) false,.isl 5 (a1.fB.fE.map ze) false]),((4,0),.rows 3 ((a2.set (0+a0.toNat) (G_job.mk ((a2.getD (0+a0.toNat) default).f_id) false ((a2.getD (0+a0.toNat) default).f_canceled))).map z8)),((5,0),.rows 9 (a3.map z6))]) (n:=6) ?_ ?_
  ·exact y7 (M:=[((3,0),(3,0)),((4,0),(4,0)),((5,0),(5,0))]) rfl (SP rfl (SP rfl TT)) (AI (AI rfl (p2 (AI (p0 rfl (by first|rfl|omega|(simp;done)|(simp at *;omega)) rfl) (AI (p0 rfl (by first|rfl|omega|(simp;done)|(simp at *;omega)) rfl) TT)))) (AI (AI rfl (OL rfl)) (AI (AI rfl (p1 z8 (fun _=>rfl) _ (a2.set (0+a0.toNat) (G_job.mk ((a2.getD (0+a0.toNat) default).f_id) false ((a2.getD (0+a0.toNat) default).f_canceled))))) (AI (AI rfl (p1 z6 (fun _=>rfl) _ a3)) TT))))
  refine wn ?_
  refine zdz rfl ?_
  obtain⟨h7,h⟩:=zj h
  refine AI (fun h=>Bool.noConfusion h) (AI (y0c z6 (by first|rfl|omega|(simp;done)|(simp at *;omega))) (EX ((a3++([(GM.mk a1.fK ((a2.getD (0+a0.toNat) default).f_id) a1.fC a1.fM (GJ.mk a1.fB.fK a1.fB.fN a1.fB.fT a1.fB.fA a1.fB.fE))]:List GM)).map z6) (AI (y20 z6 a3 ([(GM.mk a1.fK ((a2.getD (0+a0.toNat) default).f_id) a1.fC a1.fM (GJ.mk a1.fB.fK a1.fB.fN a1.fB.fT a1.fB.fA a1.fB.fE))]:List GM) (by first|rfl|omega|(simp;done)|(simp at *;omega))) (AI h7 ?_))))
  refine p3 (e:=[]) (L:=[((0,0),.one [.msl (3,0) 3 0 a2.length false,.msl (4,0) 9 0 (((a3++([(GM.mk a1.fK ((a2.getD (0+a0.toNat) default).f_id) a1.fC a1.fM (GJ.mk a1.fB.fK a1.fB.fN a1.fB.fT a1.fB.fA a1.fB.fE))]:List GM)).map z6).length) false]),((3,0),.rows 3 ((a2.set (0+a0.toNat) (G_job.mk ((a2.getD (0+a0.toNat) default).f_id) false ((a2.getD (0+a0.toNat) default).f_canceled))).map z8)),((4,0),.rows 9 ((a3++([(GM.mk a1.fK ((a2.getD (0+a0.toNat) default).f_id) a1.fC a1.fM (GJ.mk a1.fB.fK a1.fB.fN a1.fB.fT a1.fB.fA a1.fB.fE))]:List GM)).map z6))]) (n:=5) ?_ ?_
  ·exact y7 (M:=[((3,0),(4,0)),((4,0),(6,0))]) rfl TT (AI (AI rfl (p2 (AI (p0 rfl (by first|rfl|omega|(simp;done)|(simp at *;omega)) rfl) (AI (p0 rfl (by first|rfl|omega|(simp;done)|(simp at *;omega)) rfl) TT)))) (AI (AI rfl (p1 z8 (fun _=>rfl) _ (a2.set (0+a0.toNat) (G_job.mk ((a2.getD (0+a0.toNat) default).f_id) false ((a2.getD (0+a0.toNat) default).f_canceled))))) (AI (AI rfl (p1 z6 (fun _=>rfl) _ (a3++([(GM.mk a1.fK ((a2.getD (0+a0.toNat) default).f_id) a1.fC a1.fM (GJ.mk a1.fB.fK a1.fB.fN a1.fB.fT a1.fB.fA a1.fB.fE))]:List GM)))) TT)))
  refine SR ?_
  refine wl ?_
  cases h
  exact AI TT (Yl (n':=5) [((3,0),(3,0)),((4,0),(4,0))] [] rfl rfl (VS rfl) (AI (AI rfl (p2 (AI (p0 rfl (by first|rfl|omega|(simp;done)|(simp at *;omega)) rfl) (AI (p0 rfl (by first|rfl|omega|(simp;done)|(simp at *;omega)) rfl) TT)))) (AI (AI rfl (p1 z8 (fun _=>rfl) _ (a2.set (0+a0.toNat) (G_job.mk ((a2.getD (0+a0.toNat) default).f_id) false ((a2.getD (0+a0.toNat) default).f_canceled))))) (AI (AI rfl (p1 z6 (fun _=>rfl) _ (a3++([(GM.mk a1.fK ((a2.getD (0+a0.toNat) default).f_id) a1.fC a1.fM (GJ.mk a1.fB.fK a1.fB.fN a1.fB.fT a1.fB.fA a1.fB.fE))]:List GM)))) TT))))
theorem zga{a0:Int}{a1:GM}{a2:List G_job}{a3:List GM}{m:Option Nat}{o:Int×(List G_job)×(List GM)}(h:ya m a0 a1 a2 a3=some o):ACalls Tryd.prog 24 [.ptr (0,0) 0 0,i6 a0,.agg [i6 a1.fK,i6 a1.fI,i6 a1.fC,.str a1.fM,i6 a1.fB.fK,i6 a1.fB.fN,.str a1.fB.fT,.isl 1 (a1.fB.fA.map za) false,.isl 5 (a1.fB.fE.map ze) false]] [((0,0),.one [.msl (0,1) 3 0 a2.length false,.msl (0,2) 9 0 a3.length false]),((0,1),.rows 3 (a2.map z8)),((0,2),.rows 9 (a3.map z6))] 3 (u0 5 (i6 o.1) [((0,0),.one [.msl (3,0) 3 0 o.2.1.length false,.msl (4,0) 9 0 o.2.2.length false]),((3,0),.rows 3 (o.2.1.map z8)),((4,0),.rows 9 (o.2.2.map z6))]):=Z0 (L:=zs9) zp7 zsq (NB rfl) (zdd h)
def zmh:LCode:=(.seq (.region [Qo 5 (.box (.t 2)),
 Qi 6 0])
 (.seq (.seq (.region [Qm 8 0,
  Qm 9 1,
  Qo 10 (.call 23 [(.t 8),(.t 9)]),
  Qm 7 10])
 (.seq (.region [Qm 11 7,
  Qo 12 (.bin .neq (.t 11) (.c (i6 0)))])
 (.cond (.t 12)
  (.seq (.region [Qm 13 7,
   Qm 6 13])
  .ret)
  .skip)))
 (.seq (.region [Qm 14 0,
  Qm 15 1,
  Qt 16 5 5,
  Qc 17 25 16,
  Qo 18 (.build [(i6 0),(i6 0),(i6 0),(.str []),(i6 0),(i6 0),(.str []),(.isl 1 [] true),(.isl 5 [] true)] [(0,1,(.c (i6 3))),(4,5,(.t 17))]),
  Qo 19 (.call 24 [(.t 14),(.t 15),(.t 18)]),
  Qm 6 19])
 .ret)))
def zif:Lay:=⟨20,[],false⟩
def zg3:List LRes:=[.t 6]
def zwo:LFn:=⟨3,zif,zmh,zg3⟩
theorem zva:wm Tryd.prog [] 9=some zwo:=by kernel_rfl
theorem zup:Zc Tryd.prog 9:=⟨_,Tryd.func9,rfl,rfl⟩
def xz(m:Option Nat)(a0:Int)(a1:GJ)(a2:List G_job)(a3:List GM):Option (Int×(List G_job)×(List GM)):=
 (jq m a0 a2 a3).bind fun v1=>
 if(v1 != 0)=true then
  some (v1,a2,a3)
 else
  (xw m a1).bind fun v2=>
  (ya m a0 (GM.mk 3 0 0 ([]:List UInt8) v2) a2 a3).bind fun v3=>
  some (v3.1,v3.2.1,v3.2.2)
def y43(a0:Int)(a1:GJ)(a2:List G_job)(a3:List GM)(o:Int×(List G_job)×(List GM)):Exit→Env→AHeap→Nat→Prop:=Y2 zg3 (Zz 3 5 (i6 o.1) [((0,0),.one [.msl (3,0) 3 0 o.2.1.length false,.msl (4,0) 9 0 o.2.2.length false]),((3,0),.rows 3 (o.2.1.map z8)),((4,0),.rows 9 (o.2.2.map z6))])
theorem zk1{a0:Int}{a1:GJ}{a2:List G_job}{a3:List GM}{m:Option Nat}{o:Int×(List G_job)×(List GM)}(h:xz m a0 a1 a2 a3=some o):LWp Tryd.prog zif 3 zmh (y43 a0 a1 a2 a3 o) (zu 0 [.ptr (0,0) 0 0,i6 a0,.agg (z7 a1)]) [((0,0),.one [.msl (0,1) 3 0 a2.length false,.msl (0,2) 9 0 a3.length false]),((0,1),.rows 3 (a2.map z8)),((0,2),.rows 9 (a3.map z6))] 3:=by
 unfold xz at h
 refine SR ?_
 refine wn ?_
 refine SR ?_
 obtain⟨v1,h1,h⟩:=bind_some h
 refine Z2 (k:=3) (m:=2) (L':=[((0,0),.one [.msl (4,0) 3 0 a2.length false,.msl (5,0) 9 0 a3.length false]),((4,0),.rows 3 (a2.map z8)),((5,0),.rows 9 (a3.map z6))]) (rest:=[((3,0),.one (z7 a1))]) (R':=i6 v1) [((0,0),(0,0)),((0,1),(0,1)),((0,2),(0,2))] (zfj h1) rfl rfl rfl (SP rfl (AI (VS rfl) TT)) (AI (h0I (0,0) rfl rfl (p2 (AI (p0 rfl (by first|rfl|omega|(simp;done)|(simp at *;omega)) rfl) (AI (p0 rfl (by first|rfl|omega|(simp;done)|(simp at *;omega)) rfl) TT)))) (AI (h0I (0,1) rfl rfl (p1 z8 (fun _=>rfl) _ a2)) (AI (h0I (0,2) rfl rfl (p1 z6 (fun _=>rfl) _ a3)) TT))) (xl _ rfl) (AI rfl (AI rfl (AI rfl (AI (yf z8 (fun _=>rfl) _ _) (AI rfl (AI (yf z6 (fun _=>rfl) _ _) TT)))))) rfl ?_
 refine SR ?_
 refine p3 (e:=[(0,.ptr (0,0) 0 0),(1,i6 a0),(5,.ptr (3,0) 0 0),(7,i6 v1),(12,.bool (v1 != 0))]) (L:=[((0,0),.one [.msl (4,0) 3 0 a2.length false,.msl (5,0) 9 0 a3.length false]),((3,0),.one (z7 a1)),((4,0),.rows 3 (a2.map z8)),((5,0),.rows 9 (a3.map z6))]) (n:=6) ?_ ?_
 ·exact y7 (M:=[((3,0),(3,0)),((4,0),(4,0)),((5,0),(5,0))]) rfl (SP rfl (AI (VS rfl) (SP rfl (S2 rfl rfl TT)))) (AI (AI rfl (p2 (AI (p0 rfl (by first|rfl|omega|(simp;done)|(simp at *;omega)) rfl) (AI (p0 rfl (by first|rfl|omega|(simp;done)|(simp at *;omega)) rfl) TT)))) (AI (AI rfl (OL rfl)) (AI (AI rfl (p1 z8 (fun _=>rfl) _ a2)) (AI (AI rfl (p1 z6 (fun _=>rfl) _ a3)) TT))))
 refine y4 (v:=(v1 != 0)) rfl TT (fun h2=>?_) (fun h2=>?_)
 ·have h:=zd h2 h
  refine SR ?_
  refine wl ?_
  cases h
  exact AI TT (Yl (n':=6) [((3,0),(4,0)),((4,0),(5,0))] [] rfl rfl (VS rfl) (AI (AI rfl (p2 (AI (p0 rfl (by first|rfl|omega|(simp;done)|(simp at *;omega)) rfl) (AI (p0 rfl (by first|rfl|omega|(simp;done)|(simp at *;omega)) rfl) TT)))) (AI (AI rfl (p1 z8 (fun _=>rfl) _ a2)) (AI (AI rfl (p1 z6 (fun _=>rfl) _ a3)) TT))))
 ·have h:=zk h2 h
  refine x6 ?_
  refine SR ?_
  obtain⟨v2,h3,h⟩:=bind_some h
  refine Z2 (k:=3) (m:=0) (L':=[]) (rest:=[((0,0),.one [.msl (4,0) 3 0 a2.length false,.msl (5,0) 9 0 a3.length false]),((3,0),.one (z7 a1)),((4,0),.rows 3 (a2.map z8)),((5,0),.rows 9 (a3.map z6))]) (R':=.agg (z7 v2)) [] (z48 h3) rfl rfl rfl (AI (VS rfl) TT) TT (xl _ rfl) TT rfl ?_
  obtain⟨v3,h4,h⟩:=bind_some h
  refine Z2 (k:=3) (m:=2) (L':=[((0,0),.one [.msl (7,0) 3 0 v3.2.1.length false,.msl (8,0) 9 0 v3.2.2.length false]),((7,0),.rows 3 (v3.2.1.map z8)),((8,0),.rows 9 (v3.2.2.map z6))]) (rest:=[((3,0),.one (z7 a1))]) (R':=i6 v3.1) [((0,0),(0,0)),((0,1),(4,0)),((0,2),(5,0))] (zga h4) rfl rfl rfl (SP rfl (S2 rfl rfl TT)) (AI (h0I (0,0) rfl rfl (p2 (AI (p0 rfl (by first|rfl|omega|(simp;done)|(simp at *;omega)) rfl) (AI (p0 rfl (by first|rfl|omega|(simp;done)|(simp at *;omega)) rfl) TT)))) (AI (h0I (4,0) rfl rfl (p1 z8 (fun _=>rfl) _ a2)) (AI (h0I (5,0) rfl rfl (p1 z6 (fun _=>rfl) _ a3)) TT))) (xl _ rfl) (AI rfl (AI rfl (AI rfl (AI (yf z8 (fun _=>rfl) _ _) (AI rfl (AI (yf z6 (fun _=>rfl) _ _) TT)))))) rfl ?_
  refine wl ?_
  cases h
  exact AI TT (Yl (n':=10) [((3,0),(7,0)),((4,0),(8,0))] [] rfl rfl (VS rfl) (AI (AI rfl (p2 (AI (p0 rfl (by first|rfl|omega|(simp;done)|(simp at *;omega)) rfl) (AI (p0 rfl (by first|rfl|omega|(simp;done)|(simp at *;omega)) rfl) TT)))) (AI (AI rfl (p1 z8 (fun _=>rfl) _ v3.2.1)) (AI (AI rfl (p1 z6 (fun _=>rfl) _ v3.2.2)) TT))))
theorem zyt{a0:Int}{a1:GJ}{a2:List G_job}{a3:List GM}{m:Option Nat}{o:Int×(List G_job)×(List GM)}(h:xz m a0 a1 a2 a3=some o):ACalls Tryd.prog 9 [.ptr (0,0) 0 0,i6 a0,.agg (z7 a1)] [((0,0),.one [.msl (0,1) 3 0 a2.length false,.msl (0,2) 9 0 a3.length false]),((0,1),.rows 3 (a2.map z8)),((0,2),.rows 9 (a3.map z6))] 3 (u0 5 (i6 o.1) [((0,0),.one [.msl (3,0) 3 0 o.2.1.length false,.msl (4,0) 9 0 o.2.2.length false]),((3,0),.rows 3 (o.2.1.map z8)),((4,0),.rows 9 (o.2.2.map z6))]):=Z0 (L:=zwo) zva zup (NB rfl) (zk1 h)
def zih:LCode:=(.seq (.region [Qo 5 (.box (.t 2)),
 Qi 6 0])
 (.seq (.seq (.region [Qm 9 1,
  Qo 10 (.bin .lss (.t 9) (.c (i6 0))),
  Qm 11 10,
  Qn 12 1 (11,false),
  Qn 13 0 (11,false),
  Qg 14 (.nilck (.t 13)) (11,false),
  Qe 15 0 14 (11,false),
  Qk 16 1 15 (11,false),
  Qg 17 (.len false (.t 16)) (11,false),
  Qg 18 (.bin .geq (.t 12) (.t 17)) (11,false),
  Qo 19 (.pick (.t 11) (.c (.bool true)) (.t 18))])
 (.cond (.t 19)
  (.seq (.region [Qi 6 5])
  .ret)
  .skip))
 (.seq (.seq (.region [Qm 20 0,
  Qo 21 (.nilck (.t 20)),
  Qf 22 0 21,
  Ql 23 1 22,
  Qm 24 1,
  Qo 25 (.iaddr 3 (.t 23) (.t 24)),
  Qf 26 1 25,
  Ql 27 1 26,
  Qo 28 (.un .not (.t 27))])
 (.cond (.t 28)
  (.seq (.region [Qi 6 8])
  .ret)
  .skip))
 (.seq (.seq (.region [Qf 29 0 5,
  Ql 30 1 29,
  Qo 31 (.bin .eql (.t 30) (.c (i6 4))),
  Qm 32 31,
  Qe 33 2 5 (32,true),
  Qk 34 1 33 (32,true),
  Qg 35 (.bin .lss (.t 34) (.c (i6 1))) (32,true),
  Qn 36 35 (32,true),
  Qe 37 2 5 (36,false),
  Qk 38 1 37 (36,false),
  Qg 39 (.bin .gtr (.t 38) (.c (i6 99))) (36,false),
  Qg 40 (.pick (.t 36) (.c (.bool true)) (.t 39)) (32,true),
  Qn 41 40 (32,true),
  Qe 42 3 5 (41,false),
  Qk 43 1 42 (41,false),
  Qg 44 (.call 26 [(.t 43),(.c (i6 0))]) (41,false),
  Qg 45 (.un .not (.t 44)) (41,false),
  Qg 46 (.pick (.t 41) (.c (.bool true)) (.t 45)) (32,true),
  Qp 47 32 46])
 (.cond (.t 47)
  (.seq (.region [Qi 6 1])
  .ret)
  .skip))
 (.seq (.region [Qm 48 0,
  Qo 49 (.nilck (.t 48)),
  Qf 50 0 49,
  Ql 51 1 50,
  Qm 52 1,
  Qo 53 (.iaddr 3 (.t 51) (.t 52)),
  Qf 54 0 53,
  Ql 55 1 54,
  Qf 56 1 5,
  ⟨none,.store 1 (.t 56) (.t 55),none⟩])
 (.seq (.seq (.region [Qt 58 9 5,
  Qc 59 22 58,
  Qm 57 59,
  Qo 60 (.ext 0 (.t 57)),
  Qo 61 (.ext 1 (.t 57)),
  Qo 7 (.alloc [(i6 0),(i6 0),(.str []),(.isl 1 [] true),(.isl 5 [] true)]),
  ⟨none,.store 5 (.t 7) (.t 60),none⟩,
  Qm 8 61])
 (.seq (.region [Qm 62 8,
  Qo 63 (.bin .neq (.t 62) (.c (i6 0)))])
 (.cond (.t 63)
  (.seq (.region [Qm 64 8,
   Qm 6 64])
  .ret)
  .skip)))
 (.seq (.region [Qm 65 0,
  Qo 66 (.nilck (.t 65)),
  Qf 67 0 66,
  Ql 68 1 67,
  Qm 69 1,
  Qo 70 (.iaddr 3 (.t 68) (.t 69)),
  Qf 71 1 70,
  ⟨none,.store 1 (.t 71) (.c (.bool false)),none⟩])
 (.seq (.draw [⟨Qm 72 0,[]⟩,
  ⟨Qm 73 0,[]⟩,
  ⟨Qo 74 (.nilck (.t 73)),[]⟩,
  ⟨Qf 75 1 74,[]⟩,
  ⟨Ql 76 1 75,[]⟩,
  ⟨Qt 77 9 5,[]⟩,
  ⟨Qo 78 (.mkSl true 9 [(i6 0),(i6 0),(i6 0),(.str []),(i6 0),(i6 0),(.str []),(.isl 1 [] true),(.isl 5 [] true)] 1 [(0,(.t 77))]),[]⟩,
  ⟨Qo 79 (.app false 9 120 (.t 76) (.t 78)),[]⟩,
  ⟨Qo 80 (.nilck (.t 72)),[]⟩,
  ⟨Qf 81 1 80,[]⟩,
  ⟨⟨none,.store 1 (.t 81) (.t 79),none⟩,[]⟩])
 (.seq (.region [Qi 6 0])
 .ret)))))))))
def zbu:Lay:=⟨82,[79],false⟩
def z8t:List LRes:=[.t 6]
def znc:LFn:=⟨3,zbu,zih,z8t⟩
theorem zor:wm Tryd.prog [79] 10=some znc:=by kernel_rfl
theorem zqd:Zc Tryd.prog 10:=⟨_,Tryd.func10,rfl,rfl⟩
def zc(m:Option Nat)(a0:Int)(a1:GM)(a2:List G_Job)(a3:List GM):Option (Int×(List G_Job)×(List GM)):=
 if((decide (a0<0)) || (decide (a0≥((a2.length:Nat):Int))))=true then
  some (5,a2,a3)
 else
  if(0:Int)≤a0∧a0<((a2.length:Nat):Int) then
  if(0+a0.toNat)<a2.length then
  if(!((a2.getD (0+a0.toNat) default).f_Pending))=true then
   some (8,a2,a3)
  else
   (if(((a1.fK==4)==true)&&(((decide (a1.fC<1)) || (decide (a1.fC > 99)))==false))=true then yq m a1.fM 0 else some default).bind fun v1=>
   if((a1.fK==4)&&(((decide (a1.fC<1)) || (decide (a1.fC > 99))) || (!v1)))=true then
    some (1,a2,a3)
   else
    if(0:Int)≤a0∧a0<((a2.length:Nat):Int) then
    if(0+a0.toNat)<a2.length then
    (zz m (GM.mk a1.fK ((a2.getD (0+a0.toNat) default).fI) a1.fC a1.fM (GJ.mk a1.fB.fK a1.fB.fN a1.fB.fT a1.fB.fA a1.fB.fE))).bind fun v2=>
    if(v2.2 != 0)=true then
     some (v2.2,a2,a3)
    else
     if(0:Int)≤a0∧a0<((a2.length:Nat):Int) then
     if(0+a0.toNat)<a2.length then
     if((a3++([(GM.mk a1.fK ((a2.getD (0+a0.toNat) default).fI) a1.fC a1.fM (GJ.mk a1.fB.fK a1.fB.fN a1.fB.fT a1.fB.fA a1.fB.fE))]:List GM)).map z6).length*120≤140737488355328 then
     some (0,(a2.set (0+a0.toNat) (G_Job.mk ((a2.getD (0+a0.toNat) default).fI) false ((a2.getD (0+a0.toNat) default).f_Canceled))),(a3++([(GM.mk a1.fK ((a2.getD (0+a0.toNat) default).fI) a1.fC a1.fM (GJ.mk a1.fB.fK a1.fB.fN a1.fB.fT a1.fB.fA a1.fB.fE))]:List GM)))
     else none
     else none
     else none
    else none
    else none
  else none
  else none
def y05(a0:Int)(a1:GM)(a2:List G_Job)(a3:List GM)(o:Int×(List G_Job)×(List GM)):Exit→Env→AHeap→Nat→Prop:=Y2 z8t (Zz 3 5 (i6 o.1) [((0,0),.one [.msl (3,0) 3 0 o.2.1.length false,.msl (4,0) 9 0 o.2.2.length false]),((3,0),.rows 3 (o.2.1.map zh)),((4,0),.rows 9 (o.2.2.map z6))])
set_option maxHeartbeats 4000000 in
theorem zf1{a0:Int}{a1:GM}{a2:List G_Job}{a3:List GM}{m:Option Nat}{o:Int×(List G_Job)×(List GM)}(h:zc m a0 a1 a2 a3=some o):LWp Tryd.prog zbu 3 zih (y05 a0 a1 a2 a3 o) (zu 0 [.ptr (0,0) 0 0,i6 a0,.agg [i6 a1.fK,i6 a1.fI,i6 a1.fC,.str a1.fM,i6 a1.fB.fK,i6 a1.fB.fN,.str a1.fB.fT,.isl 1 (a1.fB.fA.map za) false,.isl 5 (a1.fB.fE.map ze) false]]) [((0,0),.one [.msl (0,1) 3 0 a2.length false,.msl (0,2) 9 0 a3.length false]),((0,1),.rows 3 (a2.map zh)),((0,2),.rows 9 (a3.map z6))] 3:=by
 unfold zc at h
 refine SR ?_
 refine wn ?_
 refine SR ?_
 refine HP ?_
 refine HP ?_
 refine HP ?_
 refine HP ?_
 refine AI (fun hp=>(AI hp hp)) ?_
 refine AI (fun hc=>(bqf hc)) ?_
 refine p3 (e:=[(0,.ptr (0,0) 0 0),(1,i6 a0),(5,.ptr (3,0) 0 0),(19,.bool ((decide (a0<0)) || (decide (a0≥((a2.length:Nat):Int)))))]) (L:=[((0,0),.one [.msl (4,0) 3 0 a2.length false,.msl (5,0) 9 0 a3.length false]),((3,0),.one [i6 a1.fK,i6 a1.fI,i6 a1.fC,.str a1.fM,i6 a1.fB.fK,i6 a1.fB.fN,.str a1.fB.fT,.isl 1 (a1.fB.fA.map za) false,.isl 5 (a1.fB.fE.map ze) false]),((4,0),.rows 3 (a2.map zh)),((5,0),.rows 9 (a3.map z6))]) (n:=6) ?_ ?_
 ·exact y7 (M:=[((3,0),(3,0)),((4,0),(0,1)),((5,0),(0,2))]) rfl (SP rfl (AI (VS rfl) (SP rfl (AI (VS rfl) TT)))) (AI (AI rfl (p2 (AI (p0 rfl (by first|rfl|omega|(simp;done)|(simp at *;omega)) rfl) (AI (p0 rfl (by first|rfl|omega|(simp;done)|(simp at *;omega)) rfl) TT)))) (AI (AI rfl (OL rfl)) (AI (AI rfl (p1 zh (fun _=>rfl) _ a2)) (AI (AI rfl (p1 z6 (fun _=>rfl) _ a3)) TT))))
 refine y4 (v:=((decide (a0<0)) || (decide (a0≥((a2.length:Nat):Int))))) rfl TT (fun h1=>?_) (fun h1=>?_)
 ·have h:=zd h1 h
  refine SR ?_
  refine wl ?_
  cases h
  exact AI TT (Yl (n':=6) [((3,0),(4,0)),((4,0),(5,0))] [] rfl rfl (VS rfl) (AI (AI rfl (p2 (AI (p0 rfl (by first|rfl|omega|(simp;done)|(simp at *;omega)) rfl) (AI (p0 rfl (by first|rfl|omega|(simp;done)|(simp at *;omega)) rfl) TT)))) (AI (AI rfl (p1 zh (fun _=>rfl) _ a2)) (AI (AI rfl (p1 z6 (fun _=>rfl) _ a3)) TT))))
 ·have h:=zk h1 h
  refine x6 ?_
  refine wn ?_
  refine SR ?_
  obtain⟨h2,h⟩:=zj h
  refine AI h2 ?_
  obtain⟨h3,h⟩:=zj h
  refine EX (zh (a2.getD (0+a0.toNat) default)) (AI (jx zh _ _ h3) (AI (AI (Yc zh h3) (NB rfl)) ?_))
  refine p3 (e:=[(0,.ptr (0,0) 0 0),(1,i6 a0),(5,.ptr (3,0) 0 0),(28,.bool (!((a2.getD (0+a0.toNat) default).f_Pending)))]) (L:=[((0,0),.one [.msl (4,0) 3 0 a2.length false,.msl (5,0) 9 0 a3.length false]),((3,0),.one [i6 a1.fK,i6 a1.fI,i6 a1.fC,.str a1.fM,i6 a1.fB.fK,i6 a1.fB.fN,.str a1.fB.fT,.isl 1 (a1.fB.fA.map za) false,.isl 5 (a1.fB.fE.map ze) false]),((4,0),.rows 3 (a2.map zh)),((5,0),.rows 9 (a3.map z6))]) (n:=6) ?_ ?_
  ·exact y7 (M:=[((3,0),(3,0)),((4,0),(4,0)),((5,0),(5,0))]) rfl (SP rfl (AI (VS rfl) (SP rfl (AI (VS rfl) TT)))) (AI (AI rfl (p2 (AI (p0 rfl (by first|rfl|omega|(simp;done)|(simp at *;omega)) rfl) (AI (p0 rfl (by first|rfl|omega|(simp;done)|(simp at *;omega)) rfl) TT)))) (AI (AI rfl (OL rfl)) (AI (AI rfl (p1 zh (fun _=>rfl) _ a2)) (AI (AI rfl (p1 z6 (fun _=>rfl) _ a3)) TT))))
  refine y4 (v:=(!((a2.getD (0+a0.toNat) default).f_Pending))) rfl TT (fun h4=>?_) (fun h4=>?_)
  ·have h:=zd h4 h
   refine SR ?_
   refine wl ?_
   cases h
   exact AI TT (Yl (n':=6) [((3,0),(4,0)),((4,0),(5,0))] [] rfl rfl (VS rfl) (AI (AI rfl (p2 (AI (p0 rfl (by first|rfl|omega|(simp;done)|(simp at *;omega)) rfl) (AI (p0 rfl (by first|rfl|omega|(simp;done)|(simp at *;omega)) rfl) TT)))) (AI (AI rfl (p1 zh (fun _=>rfl) _ a2)) (AI (AI rfl (p1 z6 (fun _=>rfl) _ a3)) TT))))
  ·have h:=zk h4 h
   refine x6 ?_
   refine wn ?_
   refine SR ?_
   refine HP ?_
   refine HP ?_
   refine HP ?_
   refine HP ?_
   refine HP ?_
   refine AI (fun hp=>(AI hp (fun hc=>(z3u hp (bqf hc))))) ?_
   refine HP ?_
   refine HP ?_
   obtain⟨v1,h5,h⟩:=bind_some h
   refine Or.inl (EX (.bool v1) (AI (fun hp=>AI hp (p4 (zhf (zd hp h5)) (S2 rfl rfl TT) (AI rfl (AI rfl rfl)))) ?_))
   refine HP ?_
   refine AI (fun hp=>(AI hp (fun hc=>(z3u hp (bqf hc))))) ?_
   refine HB ?_
   refine p3 (e:=[(0,.ptr (0,0) 0 0),(1,i6 a0),(5,.ptr (3,0) 0 0),(47,.bool ((a1.fK==4)&&(((decide (a1.fC<1)) || (decide (a1.fC > 99))) || (!v1))))]) (L:=[((0,0),.one [.msl (4,0) 3 0 a2.length false,.msl (5,0) 9 0 a3.length false]),((3,0),.one [i6 a1.fK,i6 a1.fI,i6 a1.fC,.str a1.fM,i6 a1.fB.fK,i6 a1.fB.fN,.str a1.fB.fT,.isl 1 (a1.fB.fA.map za) false,.isl 5 (a1.fB.fE.map ze) false]),((4,0),.rows 3 (a2.map zh)),((5,0),.rows 9 (a3.map z6))]) (n:=6) ?_ ?_
   ·exact y7 (M:=[((3,0),(3,0)),((4,0),(4,0)),((5,0),(5,0))]) rfl (SP rfl (AI (VS rfl) (SP rfl (AI (VS rfl) TT)))) (AI (AI rfl (p2 (AI (p0 rfl (by first|rfl|omega|(simp;done)|(simp at *;omega)) rfl) (AI (p0 rfl (by first|rfl|omega|(simp;done)|(simp at *;omega)) rfl) TT)))) (AI (AI rfl (OL rfl)) (AI (AI rfl (p1 zh (fun _=>rfl) _ a2)) (AI (AI rfl (p1 z6 (fun _=>rfl) _ a3)) TT))))
   refine y4 (v:=((a1.fK==4)&&(((decide (a1.fC<1)) || (decide (a1.fC > 99))) || (!v1)))) rfl TT (fun h6=>?_) (fun h6=>?_)
   ·have h:=zd h6 h
    refine SR ?_
    refine wl ?_
    cases h
    exact AI TT (Yl (n':=6) [((3,0),(4,0)),((4,0),(5,0))] [] rfl rfl (VS rfl) (AI (AI rfl (p2 (AI (p0 rfl (by first|rfl|omega|(simp;done)|(simp at *;omega)) rfl) (AI (p0 rfl (by first|rfl|omega|(simp;done)|(simp at *;omega)) rfl) TT)))) (AI (AI rfl (p1 zh (fun _=>rfl) _ a2)) (AI (AI rfl (p1 z6 (fun _=>rfl) _ a3)) TT))))
   ·have h:=zk h6 h
    refine x6 ?_
    refine SR ?_
    obtain⟨h7,h⟩:=zj h
    refine AI h7 ?_
    obtain⟨h8,h⟩:=zj h
    refine EX (zh (a2.getD (0+a0.toNat) default)) (AI (jx zh _ _ h8) (AI (AI (Yc zh h8) (NB rfl)) ?_))
    refine p3 (e:=[(0,.ptr (0,0) 0 0),(1,i6 a0),(5,.ptr (3,0) 0 0)]) (L:=[((0,0),.one [.msl (4,0) 3 0 a2.length false,.msl (5,0) 9 0 a3.length false]),((3,0),.one [i6 a1.fK,i6 ((a2.getD (0+a0.toNat) default).fI),i6 a1.fC,.str a1.fM,i6 a1.fB.fK,i6 a1.fB.fN,.str a1.fB.fT,.isl 1 (a1.fB.fA.map za) false,.isl 5 (a1.fB.fE.map ze) false]),((4,0),.rows 3 (a2.map zh)),((5,0),.rows 9 (a3.map z6))]) (n:=6) ?_ ?_
    ·exact y7 (M:=[((3,0),(3,0)),((4,0),(4,0)),((5,0),(5,0))]) rfl (SP rfl (AI (VS rfl) (SP rfl TT))) (AI (AI rfl (p2 (AI (p0 rfl (by first|rfl|omega|(simp;done)|(simp at *;omega)) rfl) (AI (p0 rfl (by first|rfl|omega|(simp;done)|(simp at *;omega)) rfl) TT)))) (AI (AI rfl (OL rfl)) (AI (AI rfl (p1 zh (fun _=>rfl) _ a2)) (AI (AI rfl (p1 z6 (fun _=>rfl) _ a3)) TT))))
    refine wn ?_
    refine SR ?_
    obtain⟨v2,h9,h⟩:=bind_some h
    refine p4 (zxj h9) (AI (VS rfl) TT) ?_
    refine p3 (e:=[(0,.ptr (0,0) 0 0),(1,i6 a0),(5,.ptr (3,0) 0 0),(8,i6 v2.2)]) (L:=[((0,0),.one [.msl (4,0) 3 0 a2.length false,.msl (5,0) 9 0 a3.length false]),((3,0),.one [i6 a1.fK,i6 ((a2.getD (0+a0.toNat) default).fI),i6 a1.fC,.str a1.fM,i6 a1.fB.fK,i6 a1.fB.fN,.str a1.fB.fT,.isl 1 (a1.fB.fA.map za) false,.isl 5 (a1.fB.fE.map ze) false]),((4,0),.rows 3 (a2.map zh)),((5,0),.rows 9 (a3.map z6))]) (n:=6) ?_ ?_
    ·exact y7 (M:=[((3,0),(3,0)),((4,0),(4,0)),((5,0),(5,0))]) rfl (SP rfl (AI (VS rfl) (SP rfl (AI (VS rfl) TT)))) (AI (AI rfl (p2 (AI (p0 rfl (by first|rfl|omega|(simp;done)|(simp at *;omega)) rfl) (AI (p0 rfl (by first|rfl|omega|(simp;done)|(simp at *;omega)) rfl) TT)))) (AI (AI rfl (OL rfl)) (AI (AI rfl (p1 zh (fun _=>rfl) _ a2)) (AI (AI rfl (p1 z6 (fun _=>rfl) _ a3)) TT))))
    refine SR ?_
    refine y4 (v:=(v2.2 != 0)) rfl TT (fun h10=>?_) (fun h10=>?_)
    ·have h:=zd h10 h
     refine SR ?_
     refine wl ?_
     cases h
     exact AI TT (Yl (n':=6) [((3,0),(4,0)),((4,0),(5,0))] [] rfl rfl (VS rfl) (AI (AI rfl (p2 (AI (p0 rfl (by first|rfl|omega|(simp;done)|(simp at *;omega)) rfl) (AI (p0 rfl (by first|rfl|omega|(simp;done)|(simp at *;omega)) rfl) TT)))) (AI (AI rfl (p1 zh (fun _=>rfl) _ a2)) (AI (AI rfl (p1 z6 (fun _=>rfl) _ a3)) TT))))
    ·have h:=zk h10 h
     refine x6 ?_
     refine SR ?_
     obtain⟨h11,h⟩:=zj h
     refine AI h11 ?_
     obtain⟨h12,h⟩:=zj h
     refine EX ((a2.set (0+a0.toNat) (G_Job.mk ((a2.getD (0+a0.toNat) default).fI) false ((a2.getD (0+a0.toNat) default).f_Canceled))).map zh) (AI (z3z zh _ _ _ _ _ h12 rfl) (AI (AI rfl (AI (Yc zh h12) (NB rfl))) ?_))
     refine p3 (e:=[(0,.ptr (0,0) 0 0),(5,.ptr (3,0) 0 0)]) (L:=[((0,0),.one [.msl (4,0) 3 0 a2.length false,.msl (5,0) 9 0 a3.length false]),((3,0),.one [i6 a1.fK,i6 ((a2.getD (0+a0.toNat) default).fI),i6 a1.fC,.str a1.fM,i6 a1.fB.fK,i6 a1.fB.fN,.str a1.fB.fT,.isl 1 (a1.fB.fA.map za) false,.isl 5 (a1.fB.fE.map ze) false]),((4,0),.rows 3 ((a2.set (0+a0.toNat) (G_Job.mk ((a2.getD (0+a0.toNat) default).fI) false ((a2.getD (0+a0.toNat) default).f_Canceled))).map zh)),((5,0),.rows 9 (a3.map z6))]) (n:=6) ?_ ?_
     ·exact y7 (M:=[((3,0),(3,0)),((4,0),(4,0)),((5,0),(5,0))]) rfl (SP rfl (SP rfl TT)) (AI (AI rfl (p2 (AI (p0 rfl (by first|rfl|omega|(simp;done)|(simp at *;omega)) rfl) (AI (p0 rfl (by first|rfl|omega|(simp;done)|(simp at *;omega)) rfl) TT)))) (AI (AI rfl (OL rfl)) (AI (AI rfl (p1 zh (fun _=>rfl) _ (a2.set (0+a0.toNat) (G_Job.mk ((a2.getD (0+a0.toNat) default).fI) false ((a2.getD (0+a0.toNat) default).f_Canceled))))) (AI (AI rfl (p1 z6 (fun _=>rfl) _ a3)) TT))))
     refine wn ?_
     refine zdz rfl ?_
     obtain⟨h13,h⟩:=zj h
     refine AI (fun h=>Bool.noConfusion h) (AI (y0c z6 (by first|rfl|omega|(simp;done)|(simp at *;omega))) (EX ((a3++([(GM.mk a1.fK ((a2.getD (0+a0.toNat) default).fI) a1.fC a1.fM (GJ.mk a1.fB.fK a1.fB.fN a1.fB.fT a1.fB.fA a1.fB.fE))]:List GM)).map z6) (AI (y20 z6 a3 ([(GM.mk a1.fK ((a2.getD (0+a0.toNat) default).fI) a1.fC a1.fM (GJ.mk a1.fB.fK a1.fB.fN a1.fB.fT a1.fB.fA a1.fB.fE))]:List GM) (by first|rfl|omega|(simp;done)|(simp at *;omega))) (AI h13 ?_))))
     refine p3 (e:=[]) (L:=[((0,0),.one [.msl (3,0) 3 0 a2.length false,.msl (4,0) 9 0 (((a3++([(GM.mk a1.fK ((a2.getD (0+a0.toNat) default).fI) a1.fC a1.fM (GJ.mk a1.fB.fK a1.fB.fN a1.fB.fT a1.fB.fA a1.fB.fE))]:List GM)).map z6).length) false]),((3,0),.rows 3 ((a2.set (0+a0.toNat) (G_Job.mk ((a2.getD (0+a0.toNat) default).fI) false ((a2.getD (0+a0.toNat) default).f_Canceled))).map zh)),((4,0),.rows 9 ((a3++([(GM.mk a1.fK ((a2.getD (0+a0.toNat) default).fI) a1.fC a1.fM (GJ.mk a1.fB.fK a1.fB.fN a1.fB.fT a1.fB.fA a1.fB.fE))]:List GM)).map z6))]) (n:=5) ?_ ?_
     ·exact y7 (M:=[((3,0),(4,0)),((4,0),(6,0))]) rfl TT (AI (AI rfl (p2 (AI (p0 rfl (by first|rfl|omega|(simp;done)|(simp at *;omega)) rfl) (AI (p0 rfl (by first|rfl|omega|(simp;done)|(simp at *;omega)) rfl) TT)))) (AI (AI rfl (p1 zh (fun _=>rfl) _ (a2.set (0+a0.toNat) (G_Job.mk ((a2.getD (0+a0.toNat) default).fI) false ((a2.getD (0+a0.toNat) default).f_Canceled))))) (AI (AI rfl (p1 z6 (fun _=>rfl) _ (a3++([(GM.mk a1.fK ((a2.getD (0+a0.toNat) default).fI) a1.fC a1.fM (GJ.mk a1.fB.fK a1.fB.fN a1.fB.fT a1.fB.fA a1.fB.fE))]:List GM)))) TT)))
     refine SR ?_
     refine wl ?_
     cases h
     exact AI TT (Yl (n':=5) [((3,0),(3,0)),((4,0),(4,0))] [] rfl rfl (VS rfl) (AI (AI rfl (p2 (AI (p0 rfl (by first|rfl|omega|(simp;done)|(simp at *;omega)) rfl) (AI (p0 rfl (by first|rfl|omega|(simp;done)|(simp at *;omega)) rfl) TT)))) (AI (AI rfl (p1 zh (fun _=>rfl) _ (a2.set (0+a0.toNat) (G_Job.mk ((a2.getD (0+a0.toNat) default).fI) false ((a2.getD (0+a0.toNat) default).f_Canceled))))) (AI (AI rfl (p1 z6 (fun _=>rfl) _ (a3++([(GM.mk a1.fK ((a2.getD (0+a0.toNat) default).fI) a1.fC a1.fM (GJ.mk a1.fB.fK a1.fB.fN a1.fB.fT a1.fB.fA a1.fB.fE))]:List GM)))) TT))))
theorem zff{a0:Int}{a1:GM}{a2:List G_Job}{a3:List GM}{m:Option Nat}{o:Int×(List G_Job)×(List GM)}(h:zc m a0 a1 a2 a3=some o):ACalls Tryd.prog 10 [.ptr (0,0) 0 0,i6 a0,.agg [i6 a1.fK,i6 a1.fI,i6 a1.fC,.str a1.fM,i6 a1.fB.fK,i6 a1.fB.fN,.str a1.fB.fT,.isl 1 (a1.fB.fA.map za) false,.isl 5 (a1.fB.fE.map ze) false]] [((0,0),.one [.msl (0,1) 3 0 a2.length false,.msl (0,2) 9 0 a3.length false]),((0,1),.rows 3 (a2.map zh)),((0,2),.rows 9 (a3.map z6))] 3 (u0 5 (i6 o.1) [((0,0),.one [.msl (3,0) 3 0 o.2.1.length false,.msl (4,0) 9 0 o.2.2.length false]),((3,0),.rows 3 (o.2.1.map zh)),((4,0),.rows 9 (o.2.2.map z6))]):=Z0 (L:=znc) zor zqd (NB rfl) (zf1 h)
def zg7:LCode:=(.seq (.region [Qi 8 0])
 (.seq (.seq (.region [Qm 10 0,
  Qm 11 1,
  Qo 12 (.call 23 [(.t 10),(.t 11)]),
  Qm 9 12])
 (.seq (.region [Qm 13 9,
  Qo 14 (.bin .neq (.t 13) (.c (i6 0)))])
 (.cond (.t 14)
  (.seq (.region [Qm 15 9,
   Qm 8 15])
  .ret)
  .skip)))
 (.seq (.seq (.region [Qm 16 2,
  Qo 17 (.bin .lss (.t 16) (.c (i6 1))),
  Qm 18 17,
  Qn 19 2 (18,false),
  Qg 20 (.bin .gtr (.t 19) (.c (i6 99))) (18,false),
  Qo 21 (.pick (.t 18) (.c (.bool true)) (.t 20)),
  Qm 22 21,
  Qn 23 3 (22,false),
  Qg 24 (.call 27 [(.t 23),(.c (i6 0))]) (22,false),
  Qg 25 (.un .not (.t 24)) (22,false),
  Qo 26 (.pick (.t 22) (.c (.bool true)) (.t 25))])
 (.cond (.t 26)
  (.seq (.region [Qi 8 1])
  .ret)
  .skip))
 (.seq (.region [Qm 27 0,
  Qm 28 1,
  Qm 29 2,
  Qm 30 3,
  Qo 31 (.build [(i6 0),(i6 0),(i6 0),(.str []),(i6 0),(i6 0),(.str []),(.isl 1 [] true),(.isl 5 [] true)] [(0,1,(.c (i6 4))),(2,1,(.t 29)),(3,1,(.t 30))]),
  Qo 32 (.call 24 [(.t 27),(.t 28),(.t 31)]),
  Qm 8 32])
 .ret))))
def zan:Lay:=⟨33,[],false⟩
def zbf:List LRes:=[.t 8]
def zsf:LFn:=⟨4,zan,zg7,zbf⟩
theorem zp1:wm Tryd.prog [] 11=some zsf:=by kernel_rfl
theorem zr4:Zc Tryd.prog 11:=⟨_,Tryd.func11,rfl,rfl⟩
def wj(m:Option Nat)(a0:Int)(a1:Int)(a2:List UInt8)(a3:List G_job)(a4:List GM):Option (Int×(List G_job)×(List GM)):=
 (jq m a0 a3 a4).bind fun v1=>
 if(v1 != 0)=true then
  some (v1,a3,a4)
 else
  (if(((decide (a1<1)) || (decide (a1 > 99)))==false)=true then jc m a2 0 else some default).bind fun v2=>
  if(((decide (a1<1)) || (decide (a1 > 99))) || (!v2))=true then
   some (1,a3,a4)
  else
   (ya m a0 (GM.mk 4 0 a1 a2 (GJ.mk 0 0 [] [] [])) a3 a4).bind fun v3=>
   some (v3.1,v3.2.1,v3.2.2)
def y02(a0:Int)(a1:Int)(a2:List UInt8)(a3:List G_job)(a4:List GM)(o:Int×(List G_job)×(List GM)):Exit→Env→AHeap→Nat→Prop:=Y2 zbf (Zz 3 5 (i6 o.1) [((0,0),.one [.msl (3,0) 3 0 o.2.1.length false,.msl (4,0) 9 0 o.2.2.length false]),((3,0),.rows 3 (o.2.1.map z8)),((4,0),.rows 9 (o.2.2.map z6))])
theorem zdr{a0:Int}{a1:Int}{a2:List UInt8}{a3:List G_job}{a4:List GM}{m:Option Nat}{o:Int×(List G_job)×(List GM)}(h:wj m a0 a1 a2 a3 a4=some o):LWp Tryd.prog zan 3 zg7 (y02 a0 a1 a2 a3 a4 o) (zu 0 [.ptr (0,0) 0 0,i6 a0,i6 a1,.str a2]) [((0,0),.one [.msl (0,1) 3 0 a3.length false,.msl (0,2) 9 0 a4.length false]),((0,1),.rows 3 (a3.map z8)),((0,2),.rows 9 (a4.map z6))] 3:=by
 unfold wj at h
 refine SR ?_
 refine wn ?_
 refine SR ?_
 obtain⟨v1,h1,h⟩:=bind_some h
 refine Z2 (k:=3) (m:=2) (L':=[((0,0),.one [.msl (3,0) 3 0 a3.length false,.msl (4,0) 9 0 a4.length false]),((3,0),.rows 3 (a3.map z8)),((4,0),.rows 9 (a4.map z6))]) (rest:=[]) (R':=i6 v1) [((0,0),(0,0)),((0,1),(0,1)),((0,2),(0,2))] (zfj h1) rfl rfl rfl (SP rfl (AI (VS rfl) TT)) (AI (h0I (0,0) rfl rfl (p2 (AI (p0 rfl (by first|rfl|omega|(simp;done)|(simp at *;omega)) rfl) (AI (p0 rfl (by first|rfl|omega|(simp;done)|(simp at *;omega)) rfl) TT)))) (AI (h0I (0,1) rfl rfl (p1 z8 (fun _=>rfl) _ a3)) (AI (h0I (0,2) rfl rfl (p1 z6 (fun _=>rfl) _ a4)) TT))) (xl _ rfl) (AI rfl (AI rfl (AI rfl (AI (yf z8 (fun _=>rfl) _ _) (AI rfl (AI (yf z6 (fun _=>rfl) _ _) TT)))))) rfl ?_
 refine SR ?_
 refine y4 (v:=(v1 != 0)) rfl TT (fun h2=>?_) (fun h2=>?_)
 ·have h:=zd h2 h
  refine SR ?_
  refine p3 (e:=[(8,i6 v1)]) (L:=[((0,0),.one [.msl (3,0) 3 0 a3.length false,.msl (4,0) 9 0 a4.length false]),((3,0),.rows 3 (a3.map z8)),((4,0),.rows 9 (a4.map z6))]) (n:=5) ?_ ?_
  ·exact y7 (M:=[((3,0),(3,0)),((4,0),(4,0))]) rfl (AI (VS rfl) TT) (AI (AI rfl (p2 (AI (p0 rfl (by first|rfl|omega|(simp;done)|(simp at *;omega)) rfl) (AI (p0 rfl (by first|rfl|omega|(simp;done)|(simp at *;omega)) rfl) TT)))) (AI (AI rfl (p1 z8 (fun _=>rfl) _ a3)) (AI (AI rfl (p1 z6 (fun _=>rfl) _ a4)) TT)))
  refine wl ?_
  cases h
  exact AI TT (Yl (n':=5) [((3,0),(3,0)),((4,0),(4,0))] [] rfl rfl (VS rfl) (AI (AI rfl (p2 (AI (p0 rfl (by first|rfl|omega|(simp;done)|(simp at *;omega)) rfl) (AI (p0 rfl (by first|rfl|omega|(simp;done)|(simp at *;omega)) rfl) TT)))) (AI (AI rfl (p1 z8 (fun _=>rfl) _ a3)) (AI (AI rfl (p1 z6 (fun _=>rfl) _ a4)) TT))))
 ·have h:=zk h2 h
  refine x6 ?_
  refine wn ?_
  refine SR ?_
  refine HP ?_
  refine AI (fun hc=>(bqf hc)) ?_
  obtain⟨v2,h3,h⟩:=bind_some h
  refine Or.inl (EX (.bool v2) (AI (fun hp=>AI hp (p4 (zhk (zd hp h3)) (S2 rfl rfl TT) (AI rfl (AI rfl rfl)))) ?_))
  refine HP ?_
  refine AI (fun hc=>(bqf hc)) ?_
  refine p3 (e:=[(0,.ptr (0,0) 0 0),(1,i6 a0),(2,i6 a1),(3,.str a2),(26,.bool (((decide (a1<1)) || (decide (a1 > 99))) || (!v2)))]) (L:=[((0,0),.one [.msl (3,0) 3 0 a3.length false,.msl (4,0) 9 0 a4.length false]),((3,0),.rows 3 (a3.map z8)),((4,0),.rows 9 (a4.map z6))]) (n:=5) ?_ ?_
  ·exact y7 (M:=[((3,0),(3,0)),((4,0),(4,0))]) rfl (SP rfl (S4 rfl rfl rfl rfl TT)) (AI (AI rfl (p2 (AI (p0 rfl (by first|rfl|omega|(simp;done)|(simp at *;omega)) rfl) (AI (p0 rfl (by first|rfl|omega|(simp;done)|(simp at *;omega)) rfl) TT)))) (AI (AI rfl (p1 z8 (fun _=>rfl) _ a3)) (AI (AI rfl (p1 z6 (fun _=>rfl) _ a4)) TT)))
  refine y4 (v:=(((decide (a1<1)) || (decide (a1 > 99))) || (!v2))) rfl TT (fun h4=>?_) (fun h4=>?_)
  ·have h:=zd h4 h
   refine SR ?_
   refine wl ?_
   cases h
   exact AI TT (Yl (n':=5) [((3,0),(3,0)),((4,0),(4,0))] [] rfl rfl (VS rfl) (AI (AI rfl (p2 (AI (p0 rfl (by first|rfl|omega|(simp;done)|(simp at *;omega)) rfl) (AI (p0 rfl (by first|rfl|omega|(simp;done)|(simp at *;omega)) rfl) TT)))) (AI (AI rfl (p1 z8 (fun _=>rfl) _ a3)) (AI (AI rfl (p1 z6 (fun _=>rfl) _ a4)) TT))))
  ·have h:=zk h4 h
   refine x6 ?_
   refine SR ?_
   obtain⟨v3,h5,h⟩:=bind_some h
   refine Z2 (k:=3) (m:=2) (L':=[((0,0),.one [.msl (5,0) 3 0 v3.2.1.length false,.msl (6,0) 9 0 v3.2.2.length false]),((5,0),.rows 3 (v3.2.1.map z8)),((6,0),.rows 9 (v3.2.2.map z6))]) (rest:=[]) (R':=i6 v3.1) [((0,0),(0,0)),((0,1),(3,0)),((0,2),(4,0))] (zga h5) rfl rfl rfl (SP rfl (AI (VS rfl) (AI (p7 (S4 rfl rfl rfl rfl (S2 rfl rfl (AI (VS rfl) (AI (p5 _ _ _) (AI (p5 _ _ _) TT)))))) TT))) (AI (h0I (0,0) rfl rfl (p2 (AI (p0 rfl (by first|rfl|omega|(simp;done)|(simp at *;omega)) rfl) (AI (p0 rfl (by first|rfl|omega|(simp;done)|(simp at *;omega)) rfl) TT)))) (AI (h0I (3,0) rfl rfl (p1 z8 (fun _=>rfl) _ a3)) (AI (h0I (4,0) rfl rfl (p1 z6 (fun _=>rfl) _ a4)) TT))) (xl _ rfl) (AI rfl (AI rfl (AI rfl (AI (yf z8 (fun _=>rfl) _ _) (AI rfl (AI (yf z6 (fun _=>rfl) _ _) TT)))))) rfl ?_
   refine wl ?_
   cases h
   exact AI TT (Yl (n':=8) [((3,0),(5,0)),((4,0),(6,0))] [] rfl rfl (VS rfl) (AI (AI rfl (p2 (AI (p0 rfl (by first|rfl|omega|(simp;done)|(simp at *;omega)) rfl) (AI (p0 rfl (by first|rfl|omega|(simp;done)|(simp at *;omega)) rfl) TT)))) (AI (AI rfl (p1 z8 (fun _=>rfl) _ v3.2.1)) (AI (AI rfl (p1 z6 (fun _=>rfl) _ v3.2.2)) TT))))
theorem zw9{a0:Int}{a1:Int}{a2:List UInt8}{a3:List G_job}{a4:List GM}{m:Option Nat}{o:Int×(List G_job)×(List GM)}(h:wj m a0 a1 a2 a3 a4=some o):ACalls Tryd.prog 11 [.ptr (0,0) 0 0,i6 a0,i6 a1,.str a2] [((0,0),.one [.msl (0,1) 3 0 a3.length false,.msl (0,2) 9 0 a4.length false]),((0,1),.rows 3 (a3.map z8)),((0,2),.rows 9 (a4.map z6))] 3 (u0 5 (i6 o.1) [((0,0),.one [.msl (3,0) 3 0 o.2.1.length false,.msl (4,0) 9 0 o.2.2.length false]),((3,0),.rows 3 (o.2.1.map z8)),((4,0),.rows 9 (o.2.2.map z6))]):=Z0 (L:=zsf) zp1 zr4 (NB rfl) (zdr h)
def z71:LCode:=(.seq (.region [Qo 15 (.bin .lss (.t 14) (.t 13))])
 (.seq (.cond (.t 15)
  .skip
  (.exit 0))
 (.seq (.block 1
  (.seq (.region [Qm 16 14,
   Qm 4 16])
  (.region [Qm 17 3,
   Qm 18 4,
   Qm 19 3,
   Qm 20 4,
   Qo 21 (.iaddr 9 (.t 19) (.t 20)),
   Qf 22 4 21,
   Qt 23 5 22,
   Qc 24 25 23,
   Qo 25 (.iaddr 9 (.t 17) (.t 18)),
   Qf 26 4 25,
   ⟨none,.store 5 (.t 26) (.t 24),none⟩])))
 (.region [Qo 27 (.bin .add (.t 14) (.c (i6 1))),
  Qm 14 27]))))
def z1t:LCode:=(.seq (.region [Qm 28 3,
 Qm 2 28])
 .ret)
def zi3:LCode:=(.seq (.region [Qo 2 (.mv (.c (.val (.slice none 0 0))))])
 (.seq (.region [Qm 5 0,
  Qo 6 (.nilck (.t 5)),
  Qf 7 1 6,
  Ql 8 1 7,
  Qm 3 8])
 (.seq (.region [Qm 9 0,
  Qo 10 (.nilck (.t 9)),
  Qf 11 1 10,
  ⟨none,.store 1 (.t 11) (.c (.val (.slice none 0 0))),none⟩])
 (.seq (.seq (.region [Qm 12 3,
  Qo 13 (.len false (.t 12)),
  Qi 14 0])
 (.block 0
  (.loop
   z71)))
 z1t))))
def X7:Lay:=⟨29,[],false⟩
def z8i:List LRes:=[.t 2]
def zlm:LFn:=⟨1,X7,zi3,z8i⟩
theorem zoy:wm Tryd.prog [] 12=some zlm:=by kernel_rfl
theorem zks:Zc Tryd.prog 12:=⟨_,Tryd.func12,rfl,rfl⟩
def z7z(a0:List G_job)(a1:List GM)(o:(List GM)):Exit→Env→AHeap→Nat→Prop:=Y2 z8i (Zz 3 5 (.isl 9 (o.map z6) false) [((0,0),.one [.msl (3,0) 3 0 a0.length false,.msl (4,0) 9 0 (([]:List GM).length) false]),((3,0),.rows 3 (a0.map z8)),((4,0),.rows 9 (([]:List GM).map z6))])
def z16(a0:List G_job)(a1:List GM)(s:(Int×(List GM))):Env:=[(3,.msl (5,0) 9 0 s.2.length false),(13,i6 ((a1.length:Nat):Int)),(14,i6 s.1)]
def z2d(a0:List G_job)(a1:List GM)(s:(Int×(List GM))):AHeap:=[((0,0),.one [.msl (3,0) 3 0 a0.length false,.msl (4,0) 9 0 (([]:List GM).length) false]),((3,0),.rows 3 (a0.map z8)),((4,0),.rows 9 (([]:List GM).map z6)),((5,0),.rows 9 (s.2.map z6))]
def z67(a0:List G_job)(a1:List GM)(o:(List GM)):Exit→Env→AHeap→Nat→Prop:=(x4 0 (Yk Tryd.prog X7 3 z1t (z7z a0 a1 o)))
def kw(m:Option Nat)(a0:List G_job)(v3:List GM):Option (List GM):=
 some v3
def jk(m:Option Nat)(a0:List G_job)(a1:List GM)(v2:Int)(v3:List GM):Option ((Int×(List GM)) ⊕ (List GM)):=
 if(decide (v2<((a1.length:Nat):Int)))=true then
  if(0:Int)≤v2∧v2<((v3.length:Nat):Int) then
  if(0+v2.toNat)<v3.length then
  (xw m (GJ.mk (((v3.getD (0+v2.toNat) default).fB).fK) (((v3.getD (0+v2.toNat) default).fB).fN) (((v3.getD (0+v2.toNat) default).fB).fT) (((v3.getD (0+v2.toNat) default).fB).fA) (((v3.getD (0+v2.toNat) default).fB).fE))).bind fun v5=>
  if(0:Int)≤v2∧v2<((v3.length:Nat):Int) then
  if(0+v2.toNat)<v3.length then
  some (.inl ((W (v2+1)),(v3.set (0+v2.toNat) (GM.mk ((v3.getD (0+v2.toNat) default).fK) ((v3.getD (0+v2.toNat) default).fI) ((v3.getD (0+v2.toNat) default).fC) ((v3.getD (0+v2.toNat) default).fM) v5))))
  else none
  else none
  else none
  else none
 else
  Option.map Sum.inr (
   kw m a0 v3)
def vj(m:Option Nat)(a0:List G_job)(a1:List GM)(v2:Int)(v3:List GM):Option (List GM):=Y5 m (fun(s:(Int×(List GM)))=>jk m a0 a1 s.1 s.2) (v2,v3)
theorem zd7{a1:List GM}{a0:List G_job}{v3:List GM}{m:Option Nat}{o:(List GM)}(h:kw m a0 v3=some o) :
 LWp Tryd.prog X7 3 z1t (z7z a0 a1 o) [(3,.msl (3,0) 9 0 v3.length false)] [((0,0),.one [.msl (4,0) 3 0 a0.length false,.msl (5,0) 9 0 (([]:List GM).length) false]),((3,0),.rows 9 (v3.map z6)),((4,0),.rows 3 (a0.map z8)),((5,0),.rows 9 (([]:List GM).map z6))] 6:=by
 unfold kw at h
 refine SR ?_
 refine wl ?_
 cases h
 exact AI TT (Yl (n':=6) [((3,0),(4,0)),((4,0),(5,0))] [(3,0)] rfl rfl (Vw.frzB z6 z74 (fun h=>h) rfl rfl (by first|rfl|omega|(simp;done)|(simp at *;omega))) (AI (AI rfl (p2 (AI (p0 rfl (by first|rfl|omega|(simp;done)|(simp at *;omega)) rfl) (AI (p0 rfl (by first|rfl|omega|(simp;done)|(simp at *;omega)) rfl) TT)))) (AI (AI rfl (p1 z8 (fun _=>rfl) _ a0)) (AI (AI rfl (p1 z6 (fun _=>rfl) _ ([]:List GM))) TT))))
theorem zah{a0:List G_job}{a1:List GM}{v2:Int}{v3:List GM}{m:Option Nat}{o:(Int×(List GM)) ⊕ (List GM)}(h:jk m a0 a1 v2 v3=some o) :
 LWp Tryd.prog X7 3 z71 (Z7 3 6 (z16 a0 a1) (z2d a0 a1) (z67 a0 a1) o) [(3,.msl (5,0) 9 0 v3.length false),(13,i6 ((a1.length:Nat):Int)),(14,i6 v2)] [((0,0),.one [.msl (3,0) 3 0 a0.length false,.msl (4,0) 9 0 (([]:List GM).length) false]),((3,0),.rows 3 (a0.map z8)),((4,0),.rows 9 (([]:List GM).map z6)),((5,0),.rows 9 (v3.map z6))] 6:=by
 unfold jk at h
 refine SR ?_
 refine wn ?_
 refine y4 (v:=(decide (v2<((a1.length:Nat):Int)))) rfl TT (fun h13=>?_) (fun h13=>?_)
 ·have h:=zd h13 h
  refine x6 ?_
  refine wn ?_
  refine xk ?_
  refine SR ?_
  refine J1 ?_
  obtain⟨h14,h⟩:=zj h
  refine AI h14 ?_
  obtain⟨h15,h⟩:=zj h
  refine EX (z6 (v3.getD (0+v2.toNat) default)) (AI (jx z6 _ _ h15) (AI (AI (Yc z6 h15) (NB rfl)) ?_))
  obtain⟨v5,h16,h⟩:=bind_some h
  refine Z2 (k:=3) (m:=0) (L':=[]) (rest:=[((0,0),.one [.msl (3,0) 3 0 a0.length false,.msl (4,0) 9 0 (([]:List GM).length) false]),((3,0),.rows 3 (a0.map z8)),((4,0),.rows 9 (([]:List GM).map z6)),((5,0),.rows 9 (v3.map z6))]) (R':=.agg (z7 v5)) [] (z48 h16) rfl rfl rfl (AI (VS rfl) TT) TT (xl _ rfl) TT rfl ?_
  obtain⟨h17,h⟩:=zj h
  refine AI h17 ?_
  obtain⟨h18,h⟩:=zj h
  refine EX ((v3.set (0+v2.toNat) (GM.mk ((v3.getD (0+v2.toNat) default).fK) ((v3.getD (0+v2.toNat) default).fI) ((v3.getD (0+v2.toNat) default).fC) ((v3.getD (0+v2.toNat) default).fM) v5)).map z6) (AI (z3z z6 _ _ _ _ _ h18 rfl) (AI (AI rfl (AI (Yc z6 h18) (NB rfl))) ?_))
  refine p3 (e:=[(3,.msl (3,0) 9 0 v3.length false),(13,i6 ((a1.length:Nat):Int)),(14,i6 v2)]) (L:=[((0,0),.one [.msl (4,0) 3 0 a0.length false,.msl (5,0) 9 0 (([]:List GM).length) false]),((3,0),.rows 9 ((v3.set (0+v2.toNat) (GM.mk ((v3.getD (0+v2.toNat) default).fK) ((v3.getD (0+v2.toNat) default).fI) ((v3.getD (0+v2.toNat) default).fC) ((v3.getD (0+v2.toNat) default).fM) v5)).map z6)),((4,0),.rows 3 (a0.map z8)),((5,0),.rows 9 (([]:List GM).map z6))]) (n:=6) ?_ ?_
  ·exact y7 (M:=[((3,0),(5,0)),((4,0),(3,0)),((5,0),(4,0))]) rfl (AI (p0 rfl (by first|rfl|omega|(simp;done)|(simp at *;omega)) rfl) (S2 rfl rfl TT)) (AI (AI rfl (p2 (AI (p0 rfl (by first|rfl|omega|(simp;done)|(simp at *;omega)) rfl) (AI (p0 rfl (by first|rfl|omega|(simp;done)|(simp at *;omega)) rfl) TT)))) (AI (AI rfl (p1 z6 (fun _=>rfl) _ (v3.set (0+v2.toNat) (GM.mk ((v3.getD (0+v2.toNat) default).fK) ((v3.getD (0+v2.toNat) default).fI) ((v3.getD (0+v2.toNat) default).fC) ((v3.getD (0+v2.toNat) default).fM) v5)))) (AI (AI rfl (p1 z8 (fun _=>rfl) _ a0)) (AI (AI rfl (p1 z6 (fun _=>rfl) _ ([]:List GM))) TT))))
  refine J1 ?_
  cases h
  exact AI rfl (y7 (M:=[((3,0),(4,0)),((4,0),(5,0)),((5,0),(3,0))]) rfl (AI (p0 rfl (by first|rfl|omega|(simp;done)|(simp at *;omega)) rfl) (S2 rfl rfl TT)) (AI (AI rfl (p2 (AI (p0 rfl (by first|rfl|omega|(simp;done)|(simp at *;omega)) rfl) (AI (p0 rfl (by first|rfl|omega|(simp;done)|(simp at *;omega)) rfl) TT)))) (AI (AI rfl (p1 z8 (fun _=>rfl) _ a0)) (AI (AI rfl (p1 z6 (fun _=>rfl) _ ([]:List GM))) (AI (AI rfl (p1 z6 (fun _=>rfl) _ (v3.set (0+v2.toNat) (GM.mk ((v3.getD (0+v2.toNat) default).fK) ((v3.getD (0+v2.toNat) default).fI) ((v3.getD (0+v2.toNat) default).fC) ((v3.getD (0+v2.toNat) default).fM) v5)))) TT)))))
 ·have h:=zk h13 h
  refine Xh ?_
  obtain⟨o,hq,rfl⟩:=p6.1 h
  replace h:=hq;clear hq
  refine AI nofun ?_
  refine p3 ?_ (zd7 h)
  exact y7 (M:=[((3,0),(5,0)),((4,0),(3,0)),((5,0),(4,0))]) rfl (AI (p0 rfl (by first|rfl|omega|(simp;done)|(simp at *;omega)) rfl) TT) (AI (AI rfl (p2 (AI (p0 rfl (by first|rfl|omega|(simp;done)|(simp at *;omega)) rfl) (AI (p0 rfl (by first|rfl|omega|(simp;done)|(simp at *;omega)) rfl) TT)))) (AI (AI rfl (p1 z6 (fun _=>rfl) _ v3)) (AI (AI rfl (p1 z8 (fun _=>rfl) _ a0)) (AI (AI rfl (p1 z6 (fun _=>rfl) _ ([]:List GM))) TT))))
theorem zet{a0:List G_job}{a1:List GM}{v2:Int}{v3:List GM}{m:Option Nat}{o:(List GM)}(h:vj m a0 a1 v2 v3=some o) :
 LWp Tryd.prog X7 3 (.loop z71) (x4 0 (Yk Tryd.prog X7 3 z1t (z7z a0 a1 o))) [(3,.msl (5,0) 9 0 v3.length false),(13,i6 ((a1.length:Nat):Int)),(14,i6 v2)] [((0,0),.one [.msl (3,0) 3 0 a0.length false,.msl (4,0) 9 0 (([]:List GM).length) false]),((3,0),.rows 3 (a0.map z8)),((4,0),.rows 9 (([]:List GM).map z6)),((5,0),.rows 9 (v3.map z6))] 6:=
 wy (m:=m) (s:=((v2,v3):(Int×(List GM)))) (r:=o) (fun(s:(Int×(List GM)))=>jk m a0 a1 s.1 s.2) (z16 a0 a1) (z2d a0 a1) (z67 a0 a1) (fun s o h=>zah h) h
def ko(m:Option Nat)(a0:List G_job)(a1:List GM):Option (List GM):=
 vj m a0 a1 0 a1
theorem ze2{a0:List G_job}{a1:List GM}{m:Option Nat}{o:(List GM)}(h:ko m a0 a1=some o):LWp Tryd.prog X7 3 zi3 (z7z a0 a1 o) (zu 0 [.ptr (0,0) 0 0]) [((0,0),.one [.msl (0,1) 3 0 a0.length false,.msl (0,2) 9 0 a1.length false]),((0,1),.rows 3 (a0.map z8)),((0,2),.rows 9 (a1.map z6))] 3:=by
 unfold ko at h
 refine SR ?_
 refine SR ?_
 refine SR ?_
 refine LWp.ghost 9 ?_
 refine p3 (e:=[(3,.msl (3,0) 9 0 a1.length false)]) (L:=[((0,0),.one [.msl (4,0) 3 0 a0.length false,.msl (5,0) 9 0 (([]:List GM).length) false]),((3,0),.rows 9 (a1.map z6)),((4,0),.rows 3 (a0.map z8)),((5,0),.rows 9 (([]:List GM).map z6))]) (n:=6) ?_ ?_
 ·exact y7 (M:=[((3,0),(0,2)),((4,0),(0,1)),((5,0),(3,0))]) rfl (AI (p0 rfl (by first|rfl|omega|(simp;done)|(simp at *;omega)) rfl) TT) (AI (AI rfl (p2 (AI (p0 rfl (by first|rfl|omega|(simp;done)|(simp at *;omega)) rfl) (AI (Vw.nilM _ _ _ _ _ _ rfl rfl) TT)))) (AI (AI rfl (p1 z6 (fun _=>rfl) _ a1)) (AI (AI rfl (p1 z8 (fun _=>rfl) _ a0)) (AI (AI rfl (p1 z6 (fun _=>rfl) _ ([]:List GM))) TT))))
 refine wn ?_
 refine SR ?_
 refine xk ?_
 refine p3 ?_ (zet h)
 exact y7 (M:=[((3,0),(4,0)),((4,0),(5,0)),((5,0),(3,0))]) rfl (AI (p0 rfl (by first|rfl|omega|(simp;done)|(simp at *;omega)) rfl) (S2 rfl rfl TT)) (AI (AI rfl (p2 (AI (p0 rfl (by first|rfl|omega|(simp;done)|(simp at *;omega)) rfl) (AI (p0 rfl (by first|rfl|omega|(simp;done)|(simp at *;omega)) rfl) TT)))) (AI (AI rfl (p1 z8 (fun _=>rfl) _ a0)) (AI (AI rfl (p1 z6 (fun _=>rfl) _ ([]:List GM))) (AI (AI rfl (p1 z6 (fun _=>rfl) _ a1)) TT))))
theorem zvk{a0:List G_job}{a1:List GM}{m:Option Nat}{o:(List GM)}(h:ko m a0 a1=some o):ACalls Tryd.prog 12 [.ptr (0,0) 0 0] [((0,0),.one [.msl (0,1) 3 0 a0.length false,.msl (0,2) 9 0 a1.length false]),((0,1),.rows 3 (a0.map z8)),((0,2),.rows 9 (a1.map z6))] 3 (u0 5 (.isl 9 (o.map z6) false) [((0,0),.one [.msl (3,0) 3 0 a0.length false,.msl (4,0) 9 0 (([]:List GM).length) false]),((3,0),.rows 3 (a0.map z8)),((4,0),.rows 9 (([]:List GM).map z6))]):=Z0 (L:=zlm) zoy zks (NB rfl) (ze2 h)
def zwx:LCode:=(.seq (.region [Qo 2 (.box (.t 0)),
 Qo 3 (.box (.t 1)),
 Qb 4])
 (.seq (.region [Qf 5 0 2,
  Ql 6 1 5,
  Qf 7 0 3,
  Ql 8 1 7,
  Qo 9 (.bin .eql (.t 6) (.t 8)),
  Qm 10 9,
  Qe 11 1 2 (10,true),
  Qk 12 1 11 (10,true),
  Qe 13 1 3 (10,true),
  Qk 14 1 13 (10,true),
  Qg 15 (.bin .eql (.t 12) (.t 14)) (10,true),
  Qp 16 10 15,
  Qm 17 16,
  Qe 18 2 2 (17,true),
  Qk 19 1 18 (17,true),
  Qe 20 2 3 (17,true),
  Qk 21 1 20 (17,true),
  Qg 22 (.bin .eql (.t 19) (.t 21)) (17,true),
  Qp 23 17 22,
  Qm 24 23,
  Qe 25 3 2 (24,true),
  Qk 26 1 25 (24,true),
  Qe 27 3 3 (24,true),
  Qk 28 1 27 (24,true),
  Qg 29 (.bin .eql (.t 26) (.t 28)) (24,true),
  Qp 30 24 29,
  Qm 31 30,
  Qe 32 4 2 (31,true),
  Qg 33 (.load true 5 (.t 32)) (31,true),
  Qe 34 4 3 (31,true),
  Qg 35 (.load true 5 (.t 34)) (31,true),
  Qg 36 (.call 28 [(.t 33),(.t 35)]) (31,true),
  Qp 37 31 36,
  Qm 4 37])
 .ret))
def zlk:Lay:=⟨38,[],false⟩
def zro:List LRes:=[.t 4]
def y5s:LFn:=⟨2,zlk,zwx,zro⟩
theorem y0l:wm Tryd.prog [] 13=some y5s:=by kernel_rfl
theorem y0m:Zc Tryd.prog 13:=⟨_,Tryd.func13,rfl,rfl⟩
def yx(m:Option Nat)(a0:GM)(a1:GM):Option Bool:=
 (if(((((a0.fK==a1.fK)&&(a0.fI==a1.fI))&&(a0.fC==a1.fC))&&(a0.fM==a1.fM))==true)=true then yk m (GJ.mk a0.fB.fK a0.fB.fN a0.fB.fT a0.fB.fA a0.fB.fE) (GJ.mk a1.fB.fK a1.fB.fN a1.fB.fT a1.fB.fA a1.fB.fE) else some default).bind fun v1=>
 some (((((a0.fK==a1.fK)&&(a0.fI==a1.fI))&&(a0.fC==a1.fC))&&(a0.fM==a1.fM))&&v1)
def y7a(a0:GM)(a1:GM)(o:Bool):Exit→Env→AHeap→Nat→Prop:=Y2 zro (vi (.bool o))
theorem zpn{a0:GM}{a1:GM}{m:Option Nat}{o:Bool}(h:yx m a0 a1=some o):LWp Tryd.prog zlk 0 zwx (y7a a0 a1 o) (zu 0 [.agg [i6 a0.fK,i6 a0.fI,i6 a0.fC,.str a0.fM,i6 a0.fB.fK,i6 a0.fB.fN,.str a0.fB.fT,.isl 1 (a0.fB.fA.map za) false,.isl 5 (a0.fB.fE.map ze) false],.agg [i6 a1.fK,i6 a1.fI,i6 a1.fC,.str a1.fM,i6 a1.fB.fK,i6 a1.fB.fN,.str a1.fB.fT,.isl 1 (a1.fB.fA.map za) false,.isl 5 (a1.fB.fE.map ze) false]]) [] 0:=by
 unfold yx at h
 refine SR ?_
 refine SR ?_
 refine HP ?_
 refine HP ?_
 refine AI (fun hp=>(AI hp hp)) ?_
 refine HB ?_
 refine HP ?_
 refine HP ?_
 refine AI (fun hp=>(AI hp hp)) ?_
 refine HB ?_
 refine HP ?_
 refine HP ?_
 refine AI (fun hp=>(AI hp hp)) ?_
 refine HB ?_
 refine HP ?_
 refine HP ?_
 obtain⟨v1,h1,h⟩:=bind_some h
 refine Or.inl (EX (.bool v1) (AI (fun hp=>AI (AI hp hp) (ACalls.same rfl (Z2 (k:=3) (m:=0) (L':=[]) (rest:=[((1,0),.one [i6 a1.fK,i6 a1.fI,i6 a1.fC,.str a1.fM,i6 a1.fB.fK,i6 a1.fB.fN,.str a1.fB.fT,.isl 1 (a1.fB.fA.map za) false,.isl 5 (a1.fB.fE.map ze) false]),((0,0),.one [i6 a0.fK,i6 a0.fI,i6 a0.fC,.str a0.fM,i6 a0.fB.fK,i6 a0.fB.fN,.str a0.fB.fT,.isl 1 (a0.fB.fA.map za) false,.isl 5 (a0.fB.fE.map ze) false])]) (R':=.bool v1) [] (z9g (zd hp h1)) rfl rfl rfl (S2 rfl rfl TT) TT (xl _ rfl) TT rfl (AI rfl (HeapTo.get (AI (AI rfl (OL rfl)) (AI (AI rfl (OL rfl)) TT))))))) ?_))
 refine HB ?_
 refine p3 (e:=[(4,.bool (((((a0.fK==a1.fK)&&(a0.fI==a1.fI))&&(a0.fC==a1.fC))&&(a0.fM==a1.fM))&&v1))]) (L:=[]) (n:=0) ?_ ?_
 ·exact y7 (M:=[]) rfl (AI (VS rfl) TT) TT
 refine wl ?_
 cases h
 exact AI TT (AI rfl (VS rfl))
theorem y3q{a0:GM}{a1:GM}{m:Option Nat}{o:Bool}(h:yx m a0 a1=some o):PFn Tryd.prog 13 [.agg [i6 a0.fK,i6 a0.fI,i6 a0.fC,.str a0.fM,i6 a0.fB.fK,i6 a0.fB.fN,.str a0.fB.fT,.isl 1 (a0.fB.fA.map za) false,.isl 5 (a0.fB.fE.map ze) false],.agg [i6 a1.fK,i6 a1.fI,i6 a1.fC,.str a1.fM,i6 a1.fB.fK,i6 a1.fB.fN,.str a1.fB.fT,.isl 1 (a1.fB.fA.map za) false,.isl 5 (a1.fB.fE.map ze) false]] (.bool o):=PFn.ofFnW (L:=y5s) y0l y0m (NB rfl) rfl (zpn h)
def zmo:LCode:=(.seq (.region [Qo 15 (.bin .lss (.t 14) (.t 13))])
 (.seq (.cond (.t 15)
  .skip
  (.exit 0))
 (.seq (.block 1
  (.seq (.region [Qm 16 14,
   Qo 17 (.iaddr 1 (.t 12) (.t 14)),
   Ql 18 1 17,
   Qm 5 16,
   Qm 6 18])
  (.seq (.region [Qm 19 6,
   Qm 20 1,
   Qm 21 5,
   Qo 22 (.iaddr 1 (.t 20) (.t 21)),
   Ql 23 1 22,
   Qo 24 (.bin .neq (.t 19) (.t 23))])
  (.cond (.t 24)
   (.seq (.region [Qb 4])
   .ret)
   .skip))))
 (.region [Qo 25 (.bin .add (.t 14) (.c (i6 1))),
  Qm 14 25]))))
def zfz:LCode:=(.seq (.region [Qo 4 (.mv (.c (.bool true)))])
 .ret)
def zwk:LCode:=(.seq (.region [Qb 4])
 (.seq (.seq (.region [Qm 7 0,
  Qo 8 (.len false (.t 7)),
  Qm 9 1,
  Qo 10 (.len false (.t 9)),
  Qo 11 (.bin .neq (.t 8) (.t 10))])
 (.cond (.t 11)
  (.seq (.region [Qb 4])
  .ret)
  .skip))
 (.seq (.seq (.region [Qm 12 0,
  Qo 13 (.len false (.t 12)),
  Qi 14 0])
 (.block 0
  (.loop
   zmo)))
 zfz)))
def Vu:Lay:=⟨26,[],false⟩
def zmj:List LRes:=[.t 4]
def y3l:LFn:=⟨2,Vu,zwk,zmj⟩
theorem y0h:wm Tryd.prog [] 14=some y3l:=by kernel_rfl
theorem zye:Zc Tryd.prog 14:=⟨_,Tryd.func14,rfl,rfl⟩
def zw2(a0:List Int)(a1:List Int)(o:Bool):Exit→Env→AHeap→Nat→Prop:=Y2 zmj (vi (.bool o))
def z4y(a0:List Int)(a1:List Int)(s:Int):Env:=[(1,.isl 1 (a1.map ww) false),(12,.isl 1 (a0.map ww) false),(13,i6 ((a0.map ww).length:Int)),(14,i6 s)]
def z9i(a0:List Int)(a1:List Int)(s:Int):AHeap:=[]
def zi4(a0:List Int)(a1:List Int)(o:Bool):Exit→Env→AHeap→Nat→Prop:=(x4 0 (Yk Tryd.prog Vu 0 zfz (zw2 a0 a1 o)))
def vz(m:Option Nat):Option Bool:=
 some true
def xq(m:Option Nat)(a0:List Int)(a1:List Int)(v1:Int):Option (Int ⊕ Bool):=
 if(decide (v1<((a0.map ww).length:Int)))=true then
  if(0:Int)≤v1∧v1<((a0.map ww).length:Int) then
  if(0:Int)≤v1∧v1<((a1.map ww).length:Int) then
  if((a0.getD v1.toNat default) != (a1.getD v1.toNat default))=true then
   Option.map Sum.inr (
    some false)
  else
   some (.inl (W (v1+1)))
  else none
  else none
 else
  Option.map Sum.inr (
   vz m)
def w7(m:Option Nat)(a0:List Int)(a1:List Int)(v1:Int):Option Bool:=Y5 m (fun(s:Int)=>xq m a0 a1 s) v1
theorem zo6{a0:List Int}{a1:List Int}{m:Option Nat}{o:Bool}(h:vz m=some o) :
 LWp Tryd.prog Vu 0 zfz (zw2 a0 a1 o) [] [] 0:=by
 unfold vz at h
 refine SR ?_
 refine wl ?_
 cases h
 exact AI TT (AI rfl (VS rfl))
theorem zjw{a0:List Int}{a1:List Int}{v1:Int}{m:Option Nat}{o:Int ⊕ Bool}(h:xq m a0 a1 v1=some o) :
 LWp Tryd.prog Vu 0 zmo (Z7 0 0 (z4y a0 a1) (z9i a0 a1) (zi4 a0 a1) o) [(1,.isl 1 (a1.map ww) false),(12,.isl 1 (a0.map ww) false),(13,i6 ((a0.map ww).length:Int)),(14,i6 v1)] [] 0:=by
 unfold xq at h
 refine SR ?_
 refine wn ?_
 refine y4 (v:=(decide (v1<((a0.map ww).length:Int)))) rfl TT (fun h10=>?_) (fun h10=>?_)
 ·have h:=zd h10 h
  refine x6 ?_
  refine wn ?_
  refine xk ?_
  refine SR ?_
  obtain⟨h11,h⟩:=zj h
  refine AI h11 ?_
  refine EX (ww (a0.getD v1.toNat default)) (AI (jx ww _ _ (uz ww h11)) (AI (AI (Y1 h11) (NB rfl)) ?_))
  refine SR ?_
  obtain⟨h12,h⟩:=zj h
  refine AI h12 ?_
  refine EX (ww (a1.getD v1.toNat default)) (AI (jx ww _ _ (uz ww h12)) (AI (AI (Y1 h12) (NB rfl)) ?_))
  refine p3 (e:=[(1,.isl 1 (a1.map ww) false),(12,.isl 1 (a0.map ww) false),(13,i6 ((a0.map ww).length:Int)),(14,i6 v1),(24,.bool ((a0.getD v1.toNat default) != (a1.getD v1.toNat default)))]) (L:=[]) (n:=0) ?_ ?_
  ·exact y7 (M:=[]) rfl (S4 rfl rfl rfl rfl (AI (VS rfl) TT)) TT
  refine y4 (v:=((a0.getD v1.toNat default) != (a1.getD v1.toNat default))) rfl TT (fun h13=>?_) (fun h13=>?_)
  ·have h:=zd h13 h
   refine SR ?_
   refine wl ?_
   obtain⟨o,hq,rfl⟩:=p6.1 h
   replace h:=hq;clear hq
   refine AI nofun ?_
   cases h
   exact AI TT (AI rfl (VS rfl))
  ·have h:=zk h13 h
   refine x6 ?_
   refine J1 ?_
   cases h
   exact AI rfl (y7 (M:=[]) rfl (S4 rfl rfl rfl rfl TT) TT)
 ·have h:=zk h10 h
  refine Xh ?_
  obtain⟨o,hq,rfl⟩:=p6.1 h
  replace h:=hq;clear hq
  refine AI nofun ?_
  refine p3 ?_ (zo6 h)
  exact y7 (M:=[]) rfl TT TT
theorem zs1{a0:List Int}{a1:List Int}{v1:Int}{m:Option Nat}{o:Bool}(h:w7 m a0 a1 v1=some o) :
 LWp Tryd.prog Vu 0 (.loop zmo) (x4 0 (Yk Tryd.prog Vu 0 zfz (zw2 a0 a1 o))) [(1,.isl 1 (a1.map ww) false),(12,.isl 1 (a0.map ww) false),(13,i6 ((a0.map ww).length:Int)),(14,i6 v1)] [] 0:=
 wy (m:=m) (s:=(v1:Int)) (r:=o) (fun(s:Int)=>xq m a0 a1 s) (z4y a0 a1) (z9i a0 a1) (zi4 a0 a1) (fun s o h=>zjw h) h
def jn(m:Option Nat)(a0:List Int)(a1:List Int):Option Bool:=
 if(((a0.map ww).length:Int) != ((a1.map ww).length:Int))=true then
  some false
 else
  w7 m a0 a1 0
theorem zrv{a0:List Int}{a1:List Int}{m:Option Nat}{o:Bool}(h:jn m a0 a1=some o):LWp Tryd.prog Vu 0 zwk (zw2 a0 a1 o) (zu 0 [.isl 1 (a0.map ww) false,.isl 1 (a1.map ww) false]) [] 0:=by
 unfold jn at h
 refine SR ?_
 refine wn ?_
 refine SR ?_
 refine y4 (v:=(((a0.map ww).length:Int) != ((a1.map ww).length:Int))) rfl TT (fun h1=>?_) (fun h1=>?_)
 ·have h:=zd h1 h
  refine SR ?_
  refine wl ?_
  cases h
  exact AI TT (AI rfl (VS rfl))
 ·have h:=zk h1 h
  refine x6 ?_
  refine wn ?_
  refine SR ?_
  refine p3 (e:=[(1,.isl 1 (a1.map ww) false),(12,.isl 1 (a0.map ww) false),(13,i6 ((a0.map ww).length:Int)),(14,i6 0)]) (L:=[]) (n:=0) ?_ ?_
  ·exact y7 (M:=[]) rfl (S4 rfl rfl rfl rfl TT) TT
  refine xk ?_
  refine p3 ?_ (zs1 h)
  exact y7 (M:=[]) rfl (S4 rfl rfl rfl rfl TT) TT
theorem y4q{a0:List Int}{a1:List Int}{m:Option Nat}{o:Bool}(h:jn m a0 a1=some o):PFn Tryd.prog 14 [.isl 1 (a0.map ww) false,.isl 1 (a1.map ww) false] (.bool o):=PFn.ofFnW (L:=y3l) y0h zye (NB rfl) rfl (zrv h)
def zfu:LCode:=(.seq (.region [Qb 4])
 (.seq (.region [Qm 5 1,
  Qo 6 (.bin .geq (.t 5) (.c (i6 0))),
  Qm 7 6,
  Qn 8 1 (7,true),
  Qn 9 0 (7,true),
  Qg 10 (.nilck (.t 9)) (7,true),
  Qe 11 0 10 (7,true),
  Qk 12 1 11 (7,true),
  Qg 13 (.len false (.t 12)) (7,true),
  Qg 14 (.bin .lss (.t 8) (.t 13)) (7,true),
  Qp 15 7 14,
  Qm 16 15,
  Qn 17 0 (16,true),
  Qg 18 (.nilck (.t 17)) (16,true),
  Qe 19 0 18 (16,true),
  Qk 20 1 19 (16,true),
  Qn 21 1 (16,true),
  Qg 22 (.iaddr 3 (.t 20) (.t 21)) (16,true),
  Qe 23 2 22 (16,true),
  Qk 24 1 23 (16,true),
  Qp 25 16 24,
  Qm 4 25])
 .ret))
def zad:Lay:=⟨26,[],false⟩
def z9p:List LRes:=[.t 4]
def zrp:LFn:=⟨2,zad,zfu,z9p⟩
theorem zrg:wm Tryd.prog [] 17=some zrp:=by kernel_rfl
theorem zmf:Zc Tryd.prog 17:=⟨_,Tryd.func17,rfl,rfl⟩
def xm(m:Option Nat)(a0:Int)(a1:List G_job)(a2:List GM):Option Bool:=
 if((((decide (a0≥0))&&(decide (a0<((a1.length:Nat):Int))))==true)=true→(0:Int)≤a0∧a0<((a1.length:Nat):Int)) then
 if((((decide (a0≥0))&&(decide (a0<((a1.length:Nat):Int))))==true)=true→(0+a0.toNat)<a1.length) then
 some (((decide (a0≥0))&&(decide (a0<((a1.length:Nat):Int))))&&(a1.getD (0+a0.toNat) default).f_canceled)
 else none
 else none
def zyb(a0:Int)(a1:List G_job)(a2:List GM)(o:Bool):Exit→Env→AHeap→Nat→Prop:=Y2 z9p (Zz 3 5 (.bool o) [((0,0),.one [.msl (3,0) 3 0 a1.length false,.msl (4,0) 9 0 a2.length false]),((3,0),.rows 3 (a1.map z8)),((4,0),.rows 9 (a2.map z6))])
theorem zf6{a0:Int}{a1:List G_job}{a2:List GM}{m:Option Nat}{o:Bool}(h:xm m a0 a1 a2=some o):LWp Tryd.prog zad 3 zfu (zyb a0 a1 a2 o) (zu 0 [.ptr (0,0) 0 0,i6 a0]) [((0,0),.one [.msl (0,1) 3 0 a1.length false,.msl (0,2) 9 0 a2.length false]),((0,1),.rows 3 (a1.map z8)),((0,2),.rows 9 (a2.map z6))] 3:=by
 unfold xm at h
 refine SR ?_
 refine SR ?_
 refine HP ?_
 refine HP ?_
 refine HP ?_
 refine HP ?_
 refine AI (fun hp=>(AI hp hp)) ?_
 refine HB ?_
 refine HP ?_
 refine HP ?_
 refine HP ?_
 obtain⟨h1,h⟩:=zj h
 refine AI (fun hp=>(AI (AI hp hp) (h1 hp))) ?_
 refine HP ?_
 obtain⟨h2,h⟩:=zj h
 refine EX (z8 (a1.getD (0+a0.toNat) default)) (AI (fun hp=>AI (jx z8 _ _ (h2 hp)) (AI hp (AI (Yc z8 (h2 hp)) (NB rfl)))) ?_)
 refine HB ?_
 refine p3 (e:=[(4,.bool (((decide (a0≥0))&&(decide (a0<((a1.length:Nat):Int))))&&(a1.getD (0+a0.toNat) default).f_canceled))]) (L:=[((0,0),.one [.msl (3,0) 3 0 a1.length false,.msl (4,0) 9 0 a2.length false]),((3,0),.rows 3 (a1.map z8)),((4,0),.rows 9 (a2.map z6))]) (n:=5) ?_ ?_
 ·exact y7 (M:=[((3,0),(0,1)),((4,0),(0,2))]) rfl (AI (VS rfl) TT) (AI (AI rfl (p2 (AI (p0 rfl (by first|rfl|omega|(simp;done)|(simp at *;omega)) rfl) (AI (p0 rfl (by first|rfl|omega|(simp;done)|(simp at *;omega)) rfl) TT)))) (AI (AI rfl (p1 z8 (fun _=>rfl) _ a1)) (AI (AI rfl (p1 z6 (fun _=>rfl) _ a2)) TT)))
 refine wl ?_
 cases h
 exact AI TT (Yl (n':=5) [((3,0),(3,0)),((4,0),(4,0))] [] rfl rfl (VS rfl) (AI (AI rfl (p2 (AI (p0 rfl (by first|rfl|omega|(simp;done)|(simp at *;omega)) rfl) (AI (p0 rfl (by first|rfl|omega|(simp;done)|(simp at *;omega)) rfl) TT)))) (AI (AI rfl (p1 z8 (fun _=>rfl) _ a1)) (AI (AI rfl (p1 z6 (fun _=>rfl) _ a2)) TT))))
theorem zuf{a0:Int}{a1:List G_job}{a2:List GM}{m:Option Nat}{o:Bool}(h:xm m a0 a1 a2=some o):ACalls Tryd.prog 17 [.ptr (0,0) 0 0,i6 a0] [((0,0),.one [.msl (0,1) 3 0 a1.length false,.msl (0,2) 9 0 a2.length false]),((0,1),.rows 3 (a1.map z8)),((0,2),.rows 9 (a2.map z6))] 3 (u0 5 (.bool o) [((0,0),.one [.msl (3,0) 3 0 a1.length false,.msl (4,0) 9 0 a2.length false]),((3,0),.rows 3 (a1.map z8)),((4,0),.rows 9 (a2.map z6))]):=Z0 (L:=zrp) zrg zmf (NB rfl) (zf6 h)
end
end Go.Proofs.YtlilpmnmedmjaaaDoor
