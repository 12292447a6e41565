/-
  Own text GenB of this claim: what functions of the given program compute, in plain Lean, and the proof; no condition.
-/
import Derived.Test.YtbohjnffcnhgeaaGenA
open Go.Fx.BVw renaming enc→p1,oneL→p6,grJ→p8
open Bool renaming noConfusion→pA
open Go.Fx.LWp renaming sim→p2
open List renaming map→p3,replicate→p5
open Option renaming map_eq_some_iff→p4,map→p7
open Sum renaming inr→p9
open Go.Fx.Vw renaming mslE→p0
namespace Go.Proofs.Ytbohjnffcnhgeaa
noncomputable section
open Go.Fx
set_option linter.unusedVariables false
def z7c:LCode:=(.seq (.region [Qo 21 (.bin .lss (.t 20) (.t 19))])
 (.seq (.cond (.t 21)
  .skip
  (.exit 2))
 (.seq (.block 3
  (.seq (.region [Qo 22 (.iaddr 2 (.t 18) (.t 20)),
   Qt 23 2 22,
   Qo 7 (.alloc [(i6 0),(.isl 1 [] true)]),
   ⟨none,.store 2 (.t 7) (.t 23),none⟩])
  (.draw [⟨Qm 24 3,[]⟩,
   ⟨Qm 25 4,[]⟩,
   ⟨Qm 26 3,[]⟩,
   ⟨Qm 27 4,[]⟩,
   ⟨Qo 28 (.iaddr 1 (.t 26) (.t 27)),[]⟩,
   ⟨Ql 29 1 28,[]⟩,
   ⟨Qf 30 0 7,[]⟩,
   ⟨Ql 31 1 30,[]⟩,
   ⟨Qf 32 1 7,[]⟩,
   ⟨Ql 33 1 32,[]⟩,
   ⟨Qc 34 20 33,[5,7]⟩,
   ⟨Qo 35 (.build [(i6 0),(.isl 1 [] true)] [(0,1,(.t 31)),(1,1,(.t 34))]),[]⟩,
   ⟨Qo 36 (.mkSl true 2 [(i6 0),(.isl 1 [] true)] 1 [(0,(.t 35))]),[]⟩,
   ⟨Qo 37 (.app false 2 32 (.t 29) (.t 36)),[]⟩,
   ⟨Qo 38 (.iaddr 1 (.t 24) (.t 25)),[]⟩,
   ⟨⟨none,.store 1 (.t 38) (.t 37),none⟩,[]⟩])))
 (.region [Qo 39 (.bin .add (.t 20) (.c (i6 1))),
  Qm 20 39]))))
def z3b:LCode:=(.region [Qo 40 (.bin .add (.t 13) (.c (i6 1))),
 Qm 13 40])
def z7u:LCode:=(.seq (.region [Qo 14 (.bin .lss (.t 13) (.t 12))])
 (.seq (.cond (.t 14)
  .skip
  (.exit 0))
 (.seq (.block 1
  (.seq (.region [Qm 15 13,
   Qo 16 (.iaddr 1 (.t 11) (.t 13)),
   Ql 17 1 16,
   Qm 4 15,
   Qm 5 17])
  (.seq (.region [Qm 18 5,
   Qo 19 (.len false (.t 18)),
   Qi 20 0])
  (.block 2
   (.loop
    z7c)))))
 z3b)))
def z33:LCode:=(.seq (.region [Qm 41 3,
 Qm 2 41])
 .ret)
def zh2:LCode:=(.seq (.region [Qo 2 (.mv (.c (.val (.slice none 0 0))))])
 (.seq (.region [Qm 8 0,
  Qo 9 (.len false (.t 8)),
  Qo 10 (.mkslice false 1 24 [(.isl 2 [] true)] (.t 9) (.t 9)),
  Qm 3 10])
 (.seq (.seq (.region [Qm 11 0,
  Qo 12 (.len false (.t 11)),
  Qi 13 0])
 (.block 0
  (.loop
   z7u)))
 z33)))
def Zs:Lay:=⟨42,[10,37],false⟩
def zb4:List LRes:=[.t 2]
def zm5:LFn:=⟨1,Zs,zh2,zb4⟩
theorem zl9:Zb Try.prog [10,37] 19=some zm5:=by kernel_rfl
theorem zmr:Xk Try.prog 19:=⟨_,Try.func19,rfl,rfl⟩
def z81(a0:List (List GR))(o:(List (List GR))):Exit→Env→AHeap→Nat→Prop:=W4 zb4 (Yy 3 5 (.msl (4,0) 1 0 o.length true) ([((0,0),.rows 1 (a0.map z6)),((4,0),.rows 1 (Y1 3 2 o))]++(uz 3 2 z8 (tl o) none)))
def X2(a0:List (List GR))(s:(Int×(List (List GR)))):Env:=[(3,.msl (3,0) 1 0 s.2.length true),(11,.msl (0,0) 1 0 a0.length true),(12,i6 ((a0.length:Nat):Int)),(13,i6 s.1)]
def Xy(a0:List (List GR))(s:(Int×(List (List GR)))):AHeap:=([((0,0),.rows 1 (a0.map z6)),((3,0),.rows 1 (Y1 4 2 s.2))]++(uz 4 2 z8 (tl s.2) none))
def Wh(a0:List (List GR))(o:(List (List GR))):Exit→Env→AHeap→Nat→Prop:=(zb 0 (uw Try.prog Zs 3 z33 (z81 a0 o)))
def z29(a0:List (List GR))(v6:Int)(s:(Int×(List (List GR)))):Env:=[(3,.msl (3,0) 1 0 s.2.length true),(4,i6 v6),(11,.msl (0,0) 1 0 a0.length true),(12,i6 ((a0.length:Nat):Int)),(13,i6 v6),(18,.isl 2 ((a0.getD (0+v6.toNat) default).map z8) false),(19,i6 (((a0.getD (0+v6.toNat) default).map z8).length:Int)),(20,i6 s.1)]
def z3f(a0:List (List GR))(v6:Int)(s:(Int×(List (List GR)))):AHeap:=([((0,0),.rows 1 (a0.map z6)),((3,0),.rows 1 (Y1 4 2 s.2))]++(uz 4 2 z8 (tl s.2) none))
def z6h(a0:List (List GR))(o:((Int×(List (List GR))) ⊕ (List (List GR)))):Exit→Env→AHeap→Nat→Prop:=(zb 2 (zb 1 (uw Try.prog Zs 3 z3b (yi 3 5 (X2 a0) (Xy a0) (Wh a0) o))))
def k6(m:Option Nat)(a0:List (List GR))(v6:Int)(v15:List (List GR)):Option ((Int×(List (List GR))) ⊕ (List (List GR))):=
 some (.inl ((W (v6+1)),v15))
def xu(m:Option Nat)(a0:List (List GR))(v6:Int)(v14:Int)(v15:List (List GR)):Option ((Int×(List (List GR))) ⊕ ((Int×(List (List GR))) ⊕ (List (List GR)))):=
 if(decide (v14<(((a0.getD (0+v6.toNat) default).map z8).length:Int)))=true then
  if(0:Int)≤v14∧v14<(((a0.getD (0+v6.toNat) default).map z8).length:Int) then
  if(0+v6.toNat)<v15.length then
  if(0:Int)≤v6∧v6<((v15.length:Nat):Int) then
  (uk m (((a0.getD (0+v6.toNat) default).getD v14.toNat default).fA)).bind fun v17=>
  if(((v15.getD (0+v6.toNat) default)++([(GR.mk (((a0.getD (0+v6.toNat) default).getD v14.toNat default).fM) v17)]:List GR)).map z8).length*32≤140737488355328 then
  if(0:Int)≤v6∧v6<((v15.length:Nat):Int) then
  some (.inl ((W (v14+1)),(v15.set (0+v6.toNat) ((v15.getD (0+v6.toNat) default)++([(GR.mk (((a0.getD (0+v6.toNat) default).getD v14.toNat default).fM) v17)]:List GR)))))
  else none
  else none
  else none
  else none
  else none
 else
  p7 p9 (
   k6 m a0 v6 v15)
def vu(m:Option Nat)(a0:List (List GR))(v6:Int)(v14:Int)(v15:List (List GR)):Option ((Int×(List (List GR))) ⊕ (List (List GR))):=kw m (fun(s:(Int×(List (List GR))))=>xu m a0 v6 s.1 s.2) (v14,v15)
theorem zez{a0:List (List GR)}{v6:Int}{v15:List (List GR)}{m:Option Nat}{o:((Int×(List (List GR))) ⊕ (List (List GR)))}(h:k6 m a0 v6 v15=some o) :
 LWp Try.prog Zs 3 z3b (yi 3 5 (X2 a0) (Xy a0) (Wh a0) o) [(3,.msl (3,0) 1 0 v15.length true),(11,.msl (0,0) 1 0 a0.length true),(12,i6 ((a0.length:Nat):Int)),(13,i6 v6)] ([((0,0),.rows 1 (a0.map z6)),((3,0),.rows 1 (Y1 4 2 v15))]++(uz 4 2 z8 (tl v15) none)) 5:=by
 unfold k6 at h
 refine Y6 ?_
 cases h
 exact AI rfl (Vm (M:=[((3,0),(3,0))]) (lit':=[((0,0),.rows 1 (a0.map z6)),((3,0),.rows 1 (Y1 4 2 v15))]) (T:=(uz 4 2 z8 (tl v15) none)) (q:=4) (q':=4) zx rfl IsFamM.base (AI (p0 rfl (by first|rfl|omega|(simp;done)|(simp at *;omega)) rfl) (AI (p0 rfl (by first|rfl|omega|(simp;done)|(simp at *;omega)) rfl) (S2 rfl rfl TT))) (AI (AI rfl (p1 z6 (fun _=>rfl) _ a0)) (AI (AI rfl BVw.tabJ) TT)))
theorem zc3{a0:List (List GR)}{v6:Int}{v14:Int}{v15:List (List GR)}{m:Option Nat}{o:(Int×(List (List GR))) ⊕ ((Int×(List (List GR))) ⊕ (List (List GR)))}(h:xu m a0 v6 v14 v15=some o) :
 LWp Try.prog Zs 3 z7c (yi 3 5 (z29 a0 v6) (z3f a0 v6) (z6h a0) o) [(3,.msl (3,0) 1 0 v15.length true),(4,i6 v6),(11,.msl (0,0) 1 0 a0.length true),(12,i6 ((a0.length:Nat):Int)),(13,i6 v6),(18,.isl 2 ((a0.getD (0+v6.toNat) default).map z8) false),(19,i6 (((a0.getD (0+v6.toNat) default).map z8).length:Int)),(20,i6 v14)] ([((0,0),.rows 1 (a0.map z6)),((3,0),.rows 1 (Y1 4 2 v15))]++(uz 4 2 z8 (tl v15) none)) 5:=by
 unfold xu at h
 refine SR ?_
 refine xn ?_
 refine qh (v:=(decide (v14<(((a0.getD (0+v6.toNat) default).map z8).length:Int)))) rfl TT (fun h75=>?_) (fun h75=>?_)
 ·have h:=zj h75 h
  refine qp ?_
  refine xn ?_
  refine zo ?_
  refine SR ?_
  obtain⟨h76,h⟩:=za h
  refine AI h76 ?_
  refine EX (z8 ((a0.getD (0+v6.toNat) default).getD v14.toNat default)) (AI (zc z8 _ _ (yj z8 h76)) (AI (AI (xv h76) (NB rfl)) ?_))
  obtain⟨h78,h⟩:=za h
  refine p2 (e:=[(3,.msl (3,0) 1 0 v15.length true),(4,i6 v6),(7,.ptr (4,0) 0 0),(11,.msl (0,0) 1 0 a0.length true),(12,i6 ((a0.length:Nat):Int)),(13,i6 v6),(18,.isl 2 ((a0.getD (0+v6.toNat) default).map z8) false),(19,i6 (((a0.getD (0+v6.toNat) default).map z8).length:Int)),(20,i6 v14)]) (L:=([((6,0),.rows 2 ((v15.getD (0+v6.toNat) default).map z8)),((0,0),.rows 1 (a0.map z6)),((3,0),.rows 1 (z11 5 2 v15 (0+v6.toNat) (.msl (6,0) 2 0 ((v15.getD (0+v6.toNat) default).length) false))),((4,0),.one [i6 (((a0.getD (0+v6.toNat) default).getD v14.toNat default).fM),.isl 1 ((((a0.getD (0+v6.toNat) default).getD v14.toNat default).fA).map z7) false])]++(uz 5 2 z8 (tl v15) (some (0+v6.toNat))))) (n:=7) ?_ ?_
  ·exact zui (m:=(6,0)) (i:=(0+v6.toNat)) (M:=[((3,0),(3,0)),((4,0),(5,0))]) (lit':=[((5,0),.one [i6 (((a0.getD (0+v6.toNat) default).getD v14.toNat default).fM),.isl 1 ((((a0.getD (0+v6.toNat) default).getD v14.toNat default).fA).map z7) false]),((0,0),.rows 1 (a0.map z6)),((3,0),.rows 1 (Y1 4 2 v15))]) (T:=(uz 4 2 z8 (tl v15) none)) (q:=4) (q':=5) zx (ziy h78) rfl (by decide) IsFamM.base (AI (p0 rfl (by first|rfl|omega|(simp;done)|(simp at *;omega)) rfl) (AI (VS rfl) (SP rfl (AI (p0 rfl (by first|rfl|omega|(simp;done)|(simp at *;omega)) rfl) (S4 rfl rfl rfl rfl (AI (VS rfl) TT)))))) (AI (AI rfl (p1 z6 (fun _=>rfl) _ a0)) (AI (AI rfl (BVw.tabF (z2h h78) (by decide) (zhg _))) (AI (AI rfl (OL rfl)) TT)))
  refine z59 ?_
  obtain⟨h79,h⟩:=za h
  refine AI h79 ?_
  refine EX ([.msl (6,0) 2 0 ((v15.getD (0+v6.toNat) default).length) false]) (AI (Jl h78) (AI (AI (Jd h78) (NB rfl)) ?_))
  obtain⟨v17,h80,h⟩:=bind_some h
  refine PFn.call (zf4 h80) (AI (VS rfl) TT) ?_
  refine AI rfl ?_
  refine AI (AI (AI (Jd h78) (NB rfl)) (congrArg (xj false 1 0) (Jl h78))) ?_
  obtain⟨h81,h⟩:=za h
  refine AI (fun h=>pA h) (AI (zyd z8 (by first|rfl|omega|(simp;done)|(simp at *;omega))) (EX (((v15.getD (0+v6.toNat) default)++([(GR.mk (((a0.getD (0+v6.toNat) default).getD v14.toNat default).fM) v17)]:List GR)).map z8) (AI (zzp z8 (v15.getD (0+v6.toNat) default) ([(GR.mk (((a0.getD (0+v6.toNat) default).getD v14.toNat default).fM) v17)]:List GR) (by first|rfl|omega|(simp;done)|(simp at *;omega))) (AI h81 ?_))))
  obtain⟨h82,h⟩:=za h
  refine AI h82 ?_
  refine EX (z11 5 2 v15 (0+v6.toNat) (.msl (7,0) 2 0 ((((v15.getD (0+v6.toNat) default)++([(GR.mk (((a0.getD (0+v6.toNat) default).getD v14.toNat default).fM) v17)]:List GR)).map z8).length) false)) (AI (z0b h78) (AI (AI rfl (AI (Jd h78) (NB rfl))) ?_))
  refine p2 (e:=[(3,.msl (3,0) 1 0 ((v15.set (0+v6.toNat) ((v15.getD (0+v6.toNat) default)++([(GR.mk (((a0.getD (0+v6.toNat) default).getD v14.toNat default).fM) v17)]:List GR))).length) true),(4,i6 v6),(11,.msl (0,0) 1 0 a0.length true),(12,i6 ((a0.length:Nat):Int)),(13,i6 v6),(18,.isl 2 ((a0.getD (0+v6.toNat) default).map z8) false),(19,i6 (((a0.getD (0+v6.toNat) default).map z8).length:Int)),(20,i6 v14)]) (L:=([((0,0),.rows 1 (a0.map z6)),((3,0),.rows 1 (Y1 4 2 (v15.set (0+v6.toNat) ((v15.getD (0+v6.toNat) default)++([(GR.mk (((a0.getD (0+v6.toNat) default).getD v14.toNat default).fM) v17)]:List GR)))))]++(uz 4 2 z8 (tl (v15.set (0+v6.toNat) ((v15.getD (0+v6.toNat) default)++([(GR.mk (((a0.getD (0+v6.toNat) default).getD v14.toNat default).fM) v17)]:List GR)))) none))) (n:=6) ?_ ?_
  ·exact zu8 (t:=(7,0)) (i:=(0+v6.toNat)) (M:=[((3,0),(3,0))]) (lit':=[((7,0),.rows 2 (((v15.getD (0+v6.toNat) default)++([(GR.mk (((a0.getD (0+v6.toNat) default).getD v14.toNat default).fM) v17)]:List GR)).map z8)),((0,0),.rows 1 (a0.map z6)),((3,0),.rows 1 (z11 5 2 v15 (0+v6.toNat) (.msl (7,0) 2 0 ((((v15.getD (0+v6.toNat) default)++([(GR.mk (((a0.getD (0+v6.toNat) default).getD v14.toNat default).fM) v17)]:List GR)).map z8).length) false))),((4,0),.one [i6 (((a0.getD (0+v6.toNat) default).getD v14.toNat default).fM),.isl 1 ((((a0.getD (0+v6.toNat) default).getD v14.toNat default).fA).map z7) false])]) (T:=(AHeap.del (uz 5 2 z8 (tl v15) (some (0+v6.toNat))) (6,0))) (q:=5) (q':=4) zx rfl (by decide) rfl (IsFamM.del (by decide) IsFamM.base) (AI (p0 rfl (by first|rfl|omega|(simp;done)|(simp at *;omega)) rfl) (AI (VS rfl) (AI (p0 rfl (by first|rfl|omega|(simp;done)|(simp at *;omega)) rfl) (S4 rfl rfl rfl rfl (AI (VS rfl) TT))))) (AI (AI rfl (p1 z6 (fun _=>rfl) _ a0)) (AI (AI rfl (BVw.tabU (by first|rfl|omega|(simp;done)|(simp at *;omega)))) TT))
  refine Y6 ?_
  cases h
  exact AI rfl (Vm (M:=[((3,0),(3,0))]) (lit':=[((0,0),.rows 1 (a0.map z6)),((3,0),.rows 1 (Y1 4 2 (v15.set (0+v6.toNat) ((v15.getD (0+v6.toNat) default)++([(GR.mk (((a0.getD (0+v6.toNat) default).getD v14.toNat default).fM) v17)]:List GR)))))]) (T:=(uz 4 2 z8 (tl (v15.set (0+v6.toNat) ((v15.getD (0+v6.toNat) default)++([(GR.mk (((a0.getD (0+v6.toNat) default).getD v14.toNat default).fM) v17)]:List GR)))) none)) (q:=4) (q':=4) zx rfl IsFamM.base (AI (p0 rfl (by first|rfl|omega|(simp;done)|(simp at *;omega)) rfl) (AI (VS rfl) (AI (p0 rfl (by first|rfl|omega|(simp;done)|(simp at *;omega)) rfl) (S4 rfl rfl rfl rfl (AI (VS rfl) TT))))) (AI (AI rfl (p1 z6 (fun _=>rfl) _ a0)) (AI (AI rfl BVw.tabJ) TT)))
 ·have h:=zm h75 h
  refine ur ?_
  obtain⟨o,hq,rfl⟩:=p4.1 h
  replace h:=hq;clear hq
  refine AI nofun ?_
  refine p2 ?_ (zez h)
  exact Vm (M:=[((3,0),(3,0))]) (lit':=[((0,0),.rows 1 (a0.map z6)),((3,0),.rows 1 (Y1 4 2 v15))]) (T:=(uz 4 2 z8 (tl v15) none)) (q:=4) (q':=4) zx rfl IsFamM.base (AI (p0 rfl (by first|rfl|omega|(simp;done)|(simp at *;omega)) rfl) (AI (p0 rfl (by first|rfl|omega|(simp;done)|(simp at *;omega)) rfl) (S2 rfl rfl TT))) (AI (AI rfl (p1 z6 (fun _=>rfl) _ a0)) (AI (AI rfl BVw.tabJ) TT))
theorem zee{a0:List (List GR)}{v6:Int}{v14:Int}{v15:List (List GR)}{m:Option Nat}{o:((Int×(List (List GR))) ⊕ (List (List GR)))}(h:vu m a0 v6 v14 v15=some o) :
 LWp Try.prog Zs 3 (.loop z7c) (zb 2 (zb 1 (uw Try.prog Zs 3 z3b (yi 3 5 (X2 a0) (Xy a0) (Wh a0) o)))) [(3,.msl (3,0) 1 0 v15.length true),(4,i6 v6),(11,.msl (0,0) 1 0 a0.length true),(12,i6 ((a0.length:Nat):Int)),(13,i6 v6),(18,.isl 2 ((a0.getD (0+v6.toNat) default).map z8) false),(19,i6 (((a0.getD (0+v6.toNat) default).map z8).length:Int)),(20,i6 v14)] ([((0,0),.rows 1 (a0.map z6)),((3,0),.rows 1 (Y1 4 2 v15))]++(uz 4 2 z8 (tl v15) none)) 5:=
 zn (m:=m) (s:=((v14,v15):(Int×(List (List GR))))) (r:=o) (fun(s:(Int×(List (List GR))))=>xu m a0 v6 s.1 s.2) (z29 a0 v6) (z3f a0 v6) (z6h a0) (fun s o h=>zc3 h) h
def kb(m:Option Nat)(a0:List (List GR))(v7:List (List GR)):Option (List (List GR)):=
 some v7
def xp(m:Option Nat)(a0:List (List GR))(v6:Int)(v7:List (List GR)):Option ((Int×(List (List GR))) ⊕ (List (List GR))):=
 if(decide (v6<((a0.length:Nat):Int)))=true then
  if(0:Int)≤v6∧v6<((a0.length:Nat):Int) then
  if(0+v6.toNat)<a0.length then
  vu m a0 v6 0 v7
  else none
  else none
 else
  p7 p9 (
   kb m a0 v7)
def um(m:Option Nat)(a0:List (List GR))(v6:Int)(v7:List (List GR)):Option (List (List GR)):=kw m (fun(s:(Int×(List (List GR))))=>xp m a0 s.1 s.2) (v6,v7)
theorem zdp{a0:List (List GR)}{v7:List (List GR)}{m:Option Nat}{o:(List (List GR))}(h:kb m a0 v7=some o) :
 LWp Try.prog Zs 3 z33 (z81 a0 o) [(3,.msl (3,0) 1 0 v7.length true)] ([((0,0),.rows 1 (a0.map z6)),((3,0),.rows 1 (Y1 4 2 v7))]++(uz 4 2 z8 (tl v7) none)) 5:=by
 unfold kb at h
 refine SR ?_
 refine Ya ?_
 cases h
 exact AI TT (y1v (n':=5) (q:=4) (lit':=[((0,0),.rows 1 (a0.map z6)),((3,0),.rows 1 (Y1 4 2 v7))]) zx [((4,0),(3,0))] [] rfl rfl (p0 rfl (by first|rfl|omega|(simp;done)|(simp at *;omega)) rfl) (AI (AI rfl (p1 z6 (fun _=>rfl) _ a0)) (AI (AI rfl BVw.tabT) TT)))
theorem zbj{a0:List (List GR)}{v6:Int}{v7:List (List GR)}{m:Option Nat}{o:(Int×(List (List GR))) ⊕ (List (List GR))}(h:xp m a0 v6 v7=some o) :
 LWp Try.prog Zs 3 z7u (yi 3 5 (X2 a0) (Xy a0) (Wh a0) o) [(3,.msl (3,0) 1 0 v7.length true),(11,.msl (0,0) 1 0 a0.length true),(12,i6 ((a0.length:Nat):Int)),(13,i6 v6)] ([((0,0),.rows 1 (a0.map z6)),((3,0),.rows 1 (Y1 4 2 v7))]++(uz 4 2 z8 (tl v7) none)) 5:=by
 unfold xp at h
 refine SR ?_
 refine xn ?_
 refine qh (v:=(decide (v6<((a0.length:Nat):Int)))) rfl TT (fun h56=>?_) (fun h56=>?_)
 ·have h:=zj h56 h
  refine qp ?_
  refine xn ?_
  refine zo ?_
  refine SR ?_
  obtain⟨h57,h⟩:=za h
  refine AI h57 ?_
  obtain⟨h58,h⟩:=za h
  refine EX (z6 (a0.getD (0+v6.toNat) default)) (AI (zc z6 _ _ h58) (AI (AI (kv z6 h58) (NB rfl)) ?_))
  refine SR ?_
  refine p2 (e:=[(3,.msl (3,0) 1 0 v7.length true),(4,i6 v6),(11,.msl (0,0) 1 0 a0.length true),(12,i6 ((a0.length:Nat):Int)),(13,i6 v6),(18,.isl 2 ((a0.getD (0+v6.toNat) default).map z8) false),(19,i6 (((a0.getD (0+v6.toNat) default).map z8).length:Int)),(20,i6 0)]) (L:=([((0,0),.rows 1 (a0.map z6)),((3,0),.rows 1 (Y1 4 2 v7))]++(uz 4 2 z8 (tl v7) none))) (n:=5) ?_ ?_
  ·exact Vm (M:=[((3,0),(3,0))]) (lit':=[((0,0),.rows 1 (a0.map z6)),((3,0),.rows 1 (Y1 4 2 v7))]) (T:=(uz 4 2 z8 (tl v7) none)) (q:=4) (q':=4) zx rfl IsFamM.base (AI (p0 rfl (by first|rfl|omega|(simp;done)|(simp at *;omega)) rfl) (AI (VS rfl) (AI (p0 rfl (by first|rfl|omega|(simp;done)|(simp at *;omega)) rfl) (S4 rfl rfl rfl rfl (AI (VS rfl) TT))))) (AI (AI rfl (p1 z6 (fun _=>rfl) _ a0)) (AI (AI rfl BVw.tabJ) TT))
  refine zo ?_
  refine p2 ?_ (zee h)
  exact Vm (M:=[((3,0),(3,0))]) (lit':=[((0,0),.rows 1 (a0.map z6)),((3,0),.rows 1 (Y1 4 2 v7))]) (T:=(uz 4 2 z8 (tl v7) none)) (q:=4) (q':=4) zx rfl IsFamM.base (AI (p0 rfl (by first|rfl|omega|(simp;done)|(simp at *;omega)) rfl) (AI (VS rfl) (AI (p0 rfl (by first|rfl|omega|(simp;done)|(simp at *;omega)) rfl) (S4 rfl rfl rfl rfl (AI (VS rfl) TT))))) (AI (AI rfl (p1 z6 (fun _=>rfl) _ a0)) (AI (AI rfl BVw.tabJ) TT))
 ·have h:=zm h56 h
  refine ur ?_
  obtain⟨o,hq,rfl⟩:=p4.1 h
  replace h:=hq;clear hq
  refine AI nofun ?_
  refine p2 ?_ (zdp h)
  exact Vm (M:=[((3,0),(3,0))]) (lit':=[((0,0),.rows 1 (a0.map z6)),((3,0),.rows 1 (Y1 4 2 v7))]) (T:=(uz 4 2 z8 (tl v7) none)) (q:=4) (q':=4) zx rfl IsFamM.base (AI (p0 rfl (by first|rfl|omega|(simp;done)|(simp at *;omega)) rfl) TT) (AI (AI rfl (p1 z6 (fun _=>rfl) _ a0)) (AI (AI rfl BVw.tabJ) TT))
theorem zg7{a0:List (List GR)}{v6:Int}{v7:List (List GR)}{m:Option Nat}{o:(List (List GR))}(h:um m a0 v6 v7=some o) :
 LWp Try.prog Zs 3 (.loop z7u) (zb 0 (uw Try.prog Zs 3 z33 (z81 a0 o))) [(3,.msl (3,0) 1 0 v7.length true),(11,.msl (0,0) 1 0 a0.length true),(12,i6 ((a0.length:Nat):Int)),(13,i6 v6)] ([((0,0),.rows 1 (a0.map z6)),((3,0),.rows 1 (Y1 4 2 v7))]++(uz 4 2 z8 (tl v7) none)) 5:=
 zn (m:=m) (s:=((v6,v7):(Int×(List (List GR))))) (r:=o) (fun(s:(Int×(List (List GR))))=>xp m a0 s.1 s.2) (X2 a0) (Xy a0) (Wh a0) (fun s o h=>zbj h) h
def qu(m:Option Nat)(a0:List (List GR)):Option (List (List GR)):=
 if(0:Int)≤((a0.length:Nat):Int)∧((a0.length:Nat):Int)≤((a0.length:Nat):Int)∧((a0.length:Nat):Int)*24≤140737488355328 then
 um m a0 0 (p5 ((a0.length:Nat):Int).toNat ([]:List GR))
 else none
theorem zft{a0:List (List GR)}{m:Option Nat}{o:(List (List GR))}(h:qu m a0=some o):LWp Try.prog Zs 3 zh2 (z81 a0 o) (qe 0 [.msl (0,0) 1 0 a0.length true]) [((0,0),.rows 1 (a0.map z6))] 3:=by
 unfold qu at h
 refine xn ?_
 refine LWp.ghost 1 ?_
 refine Y6 ?_
 refine p2 (e:=[(0,.msl (0,0) 1 0 a0.length true)]) (L:=[((0,0),.rows 1 (a0.map z6))]) (n:=3) ?_ ?_
 ·exact qy (M:=[]) rfl (AI (p0 rfl (by first|rfl|omega|(simp;done)|(simp at *;omega)) rfl) TT) (AI (AI rfl (p1 z6 (fun _=>rfl) _ a0)) TT)
 refine SR ?_
 obtain⟨h1,h⟩:=za h
 refine EX (p5 ((a0.length:Nat):Int).toNat [AVal.isl 2 [] true]) (EX true (AI (Or.inr rfl) (AI (by simp) (AI h1 ?_))))
 refine LWp.ghosts 2 ((a0.length:Nat):Int).toNat ?_
 refine p2 (e:=[(0,.msl (0,0) 1 0 a0.length true),(3,.msl (3,0) 1 0 ((p5 ((a0.length:Nat):Int).toNat ([]:List GR)).length) true)]) (L:=([((0,0),.rows 1 (a0.map z6)),((3,0),.rows 1 (Y1 4 2 (p5 ((a0.length:Nat):Int).toNat ([]:List GR))))]++(uz 4 2 z8 (tl (p5 ((a0.length:Nat):Int).toNat ([]:List GR))) none))) (n:=5) ?_ ?_
 ·exact Vm (M:=[((3,0),(3,0))]) (lit':=[((3,0),.rows 1 (p5 ((a0.length:Nat):Int).toNat [.isl 2 [] true])),((0,0),.rows 1 (a0.map z6))]) (T:=(gh 4 2 ((a0.length:Nat):Int).toNat)) (q:=4) (q':=4) zx rfl IsFamM.gh (AI (p0 rfl (by first|rfl|omega|(simp;done)|(simp at *;omega)) rfl) (AI (p0 rfl (by first|rfl|omega|(simp;done)|(simp at *;omega)) rfl) TT)) (AI (AI rfl (p1 z6 (fun _=>rfl) _ a0)) (AI (AI rfl (BVw.tabNew (zvu rfl))) TT))
 refine xn ?_
 refine SR ?_
 refine zo ?_
 refine p2 ?_ (zg7 h)
 exact Vm (M:=[((3,0),(3,0))]) (lit':=[((0,0),.rows 1 (a0.map z6)),((3,0),.rows 1 (Y1 4 2 (p5 ((a0.length:Nat):Int).toNat ([]:List GR))))]) (T:=(uz 4 2 z8 (tl (p5 ((a0.length:Nat):Int).toNat ([]:List GR))) none)) (q:=4) (q':=4) zx rfl IsFamM.base (AI (p0 rfl (by first|rfl|omega|(simp;done)|(simp at *;omega)) rfl) (AI (p0 rfl (by first|rfl|omega|(simp;done)|(simp at *;omega)) rfl) (S2 rfl rfl TT))) (AI (AI rfl (p1 z6 (fun _=>rfl) _ a0)) (AI (AI rfl BVw.tabJ) TT))
theorem z7j{a0:List (List GR)}{m:Option Nat}{o:(List (List GR))}(h:qu m a0=some o):ACalls Try.prog 19 [.msl (0,0) 1 0 a0.length true] [((0,0),.rows 1 (a0.map z6))] 3 (Ze 5 (.msl (4,0) 1 0 o.length true) ([((0,0),.rows 1 (a0.map z6)),((4,0),.rows 1 (Y1 3 2 o))]++(uz 3 2 z8 (tl o) none))):=Zr (L:=zm5) zl9 zmr (NB rfl) (zft h)
def zi4:LCode:=(.region [Qo 57 (.bin .add (.t 36) (.c (i6 1))),
 Qm 36 57])
def z9a:LCode:=(.seq (.region [Qo 37 (.bin .lss (.t 36) (.t 35))])
 (.seq (.cond (.t 37)
  .skip
  (.exit 4))
 (.seq (.block 5
  (.seq (.region [Qo 38 (.iaddr 1 (.t 34) (.t 36)),
   Ql 39 1 38,
   Qm 12 39])
  (.seq (.region [Qm 40 6,
   Qm 41 12,
   Qo 42 (.iaddr 1 (.t 40) (.t 41)),
   Ql 43 1 42,
   Qm 44 7,
   Qo 45 (.call 33 [(.t 43),(.t 44)]),
   Qo 46 (.un .not (.t 45))])
  (.cond (.t 46)
   (.region [Qm 47 6,
    Qm 48 12,
    Qm 49 6,
    Qm 50 12,
    Qo 51 (.iaddr 1 (.t 49) (.t 50)),
    Ql 52 1 51,
    Qm 53 7,
    Qo 54 (.mkSl true 1 [(i6 0)] 1 [(0,(.t 53))]),
    Qo 55 (.app true 1 8 (.t 52) (.t 54)),
    Qo 56 (.iaddr 1 (.t 47) (.t 48)),
    ⟨none,.store 1 (.t 56) (.t 55),none⟩])
   .skip))))
 zi4)))
def z35:LCode:=(.region [Qo 58 (.bin .add (.t 29) (.c (i6 1))),
 Qm 29 58])
def z6t:LCode:=(.seq (.region [Qo 30 (.bin .lss (.t 29) (.t 28))])
 (.seq (.cond (.t 30)
  .skip
  (.exit 2))
 (.seq (.block 3
  (.seq (.region [Qo 31 (.iaddr 2 (.t 27) (.t 29)),
   Qt 32 2 31,
   Qo 10 (.alloc [(i6 0),(.isl 1 [] true)]),
   ⟨none,.store 2 (.t 10) (.t 32),none⟩])
  (.seq (.region [Qf 33 1 10,
   Ql 34 1 33,
   Qo 35 (.len false (.t 34)),
   Qi 36 0])
  (.block 4
   (.loop
    z9a)))))
 z35)))
def z2x:LCode:=(.region [Qo 59 (.bin .add (.t 22) (.c (i6 1))),
 Qm 22 59])
def z77:LCode:=(.seq (.region [Qo 23 (.bin .lss (.t 22) (.t 21))])
 (.seq (.cond (.t 23)
  .skip
  (.exit 0))
 (.seq (.block 1
  (.seq (.region [Qm 24 22,
   Qo 25 (.iaddr 1 (.t 20) (.t 22)),
   Ql 26 1 25,
   Qm 7 24,
   Qm 8 26])
  (.seq (.region [Qm 27 8,
   Qo 28 (.len false (.t 27)),
   Qi 29 0])
  (.block 2
   (.loop
    z6t)))))
 z2x)))
def ziw:LCode:=(.region [Qo 106 (.bin .add (.t 94) (.c (i6 1))),
 Qm 94 106])
def z89:LCode:=(.seq (.region [Qo 95 (.bin .lss (.t 94) (.t 93))])
 (.seq (.cond (.t 95)
  .skip
  (.exit 8))
 (.seq (.block 9
  (.seq (.region [Qo 96 (.iaddr 1 (.t 92) (.t 94)),
   Ql 97 1 96,
   Qm 16 97])
  (.seq (.region [Qm 98 2,
   Qm 99 16,
   Qo 100 (.call 33 [(.t 98),(.t 99)]),
   Qo 101 (.un .not (.t 100))])
  (.cond (.t 101)
   (.region [Qm 102 2,
    Qm 103 16,
    Qo 104 (.mkSl true 1 [(i6 0)] 1 [(0,(.t 103))]),
    Qo 105 (.app false 1 8 (.t 102) (.t 104)),
    Qm 2 105])
   .skip))))
 ziw)))
def z72:LCode:=(.seq (.seq (.region [Qm 60 2,
 Qo 61 (.len false (.t 60)),
 Qo 62 (.bin .gtr (.t 61) (.c (i6 0)))])
 (.cond (.t 62)
  .skip
  (.exit 6)))
 (.block 7
  (.seq (.region [Qm 63 2,
   Qo 64 (.iaddr 1 (.t 63) (.c (i6 0))),
   Ql 65 1 64,
   Qm 13 65])
  (.seq (.region [Qm 66 2,
   Qo 67 (.slSl 1 (.t 66) (some (.c (i6 1))) none none),
   Qm 2 67])
  (.seq (.draw [⟨Qm 68 1,[]⟩,
   ⟨Qm 69 13,[]⟩,
   ⟨Qo 70 (.iaddr 1 (.t 68) (.t 69)),[]⟩,
   ⟨Ql 71 1 70,[]⟩,
   ⟨Qm 72 0,[]⟩,
   ⟨Qm 73 13,[]⟩,
   ⟨Qo 74 (.iaddr 1 (.t 72) (.t 73)),[]⟩,
   ⟨Ql 75 1 74,[]⟩,
   ⟨Qm 76 1,[]⟩,
   ⟨Qo 77 (.call 27 [(.t 75),(.t 76)]),[3]⟩,
   ⟨Qo 78 (.bin .or (.t 71) (.t 77)),[]⟩,
   ⟨Qm 14 78,[]⟩])
  (.seq (.seq (.region [Qm 79 14,
   Qm 80 1,
   Qm 81 13,
   Qo 82 (.iaddr 1 (.t 80) (.t 81)),
   Ql 83 1 82,
   Qo 84 (.bin .eql (.t 79) (.t 83))])
  (.cond (.t 84)
   (.exit 7)
   .skip))
  (.seq (.region [Qm 85 1,
   Qm 86 13,
   Qm 87 14,
   Qo 88 (.iaddr 1 (.t 85) (.t 86)),
   ⟨none,.store 1 (.t 88) (.t 87),none⟩])
  (.seq (.region [Qm 89 6,
   Qm 90 13,
   Qo 91 (.iaddr 1 (.t 89) (.t 90)),
   Ql 92 1 91,
   Qo 93 (.len false (.t 92)),
   Qi 94 0])
  (.block 8
   (.loop
    z89))))))))))
def z2k:LCode:=(.block 6
 (.loop
  z72))
def zdh:LCode:=(.seq (.region [Qm 17 0,
 Qo 18 (.len false (.t 17)),
 Qo 19 (.mkslice false 1 24 [(.isl 1 [] true)] (.t 18) (.t 18)),
 Qm 6 19])
 (.seq (.seq (.region [Qm 20 0,
  Qo 21 (.len false (.t 20)),
  Qi 22 0])
 (.block 0
  (.loop
   z77)))
 z2k))
def jz:Lay:=⟨107,[19,105],false⟩
def zdi:List LRes:=[]
def zo0:LFn:=⟨3,jz,zdh,zdi⟩
theorem zmp:Zb Try.prog [19,105] 22=some zo0:=by kernel_rfl
theorem zn9:Xk Try.prog 22:=⟨_,Try.func22,rfl,rfl⟩
def z12(a0:List (List GR))(a1:List Int)(a2:List Int)(o:(List Int)):Exit→Env→AHeap→Nat→Prop:=W4 zdi (Yy 3 3 (.tup []) [((0,0),.rows 1 (a0.map z6)),((0,1),.rows 1 (o.map z7))])
def X6(a0:List (List GR))(a1:List Int)(a2:List Int)(s:(Int×(List (List Int)))):Env:=[(0,.msl (0,0) 1 0 a0.length true),(1,.msl (0,1) 1 0 a1.length false),(2,.msl (3,0) 1 0 a2.length true),(6,.msl (4,0) 1 0 s.2.length true),(20,.msl (0,0) 1 0 a0.length true),(21,i6 ((a0.length:Nat):Int)),(22,i6 s.1)]
def Xu(a0:List (List GR))(a1:List Int)(a2:List Int)(s:(Int×(List (List Int)))):AHeap:=([((0,0),.rows 1 (a0.map z6)),((0,1),.rows 1 (a1.map z7)),((3,0),.rows 1 (a2.map z7)),((4,0),.rows 1 (wm 5 1 (s.2.map (p3 z7))))]++(fam 5 s.2.length none))
def W6(a0:List (List GR))(a1:List Int)(a2:List Int)(o:(List Int)):Exit→Env→AHeap→Nat→Prop:=(zb 0 (uw Try.prog jz 3 z2k (z12 a0 a1 a2 o)))
def Q1(a0:List (List GR))(a1:List Int)(a2:List Int)(v27:Int)(s:(Int×(List (List Int)))):Env:=[(0,.msl (0,0) 1 0 a0.length true),(1,.msl (0,1) 1 0 a1.length false),(2,.msl (3,0) 1 0 a2.length true),(6,.msl (4,0) 1 0 s.2.length true),(7,i6 v27),(20,.msl (0,0) 1 0 a0.length true),(21,i6 ((a0.length:Nat):Int)),(22,i6 v27),(27,.isl 2 ((a0.getD (0+v27.toNat) default).map z8) false),(28,i6 (((a0.getD (0+v27.toNat) default).map z8).length:Int)),(29,i6 s.1)]
def Qx(a0:List (List GR))(a1:List Int)(a2:List Int)(v27:Int)(s:(Int×(List (List Int)))):AHeap:=([((0,0),.rows 1 (a0.map z6)),((0,1),.rows 1 (a1.map z7)),((3,0),.rows 1 (a2.map z7)),((4,0),.rows 1 (wm 5 1 (s.2.map (p3 z7))))]++(fam 5 s.2.length none))
def J6(a0:List (List GR))(a1:List Int)(a2:List Int)(o:((Int×(List (List Int))) ⊕ (List Int))):Exit→Env→AHeap→Nat→Prop:=(zb 2 (zb 1 (uw Try.prog jz 3 z2x (yi 3 6 (X6 a0 a1 a2) (Xu a0 a1 a2) (W6 a0 a1 a2) o))))
def Wz(a0:List (List GR))(a1:List Int)(a2:List Int)(v27:Int)(v63:Int)(s:(Int×(List (List Int)))):Env:=[(0,.msl (0,0) 1 0 a0.length true),(1,.msl (0,1) 1 0 a1.length false),(2,.msl (3,0) 1 0 a2.length true),(6,.msl (4,0) 1 0 s.2.length true),(7,i6 v27),(20,.msl (0,0) 1 0 a0.length true),(21,i6 ((a0.length:Nat):Int)),(22,i6 v27),(27,.isl 2 ((a0.getD (0+v27.toNat) default).map z8) false),(28,i6 (((a0.getD (0+v27.toNat) default).map z8).length:Int)),(29,i6 v63),(34,.isl 1 ((((a0.getD (0+v27.toNat) default).getD v63.toNat default).fA).map z7) false),(35,i6 (((((a0.getD (0+v27.toNat) default).getD v63.toNat default).fA).map z7).length:Int)),(36,i6 s.1)]
def K7(a0:List (List GR))(a1:List Int)(a2:List Int)(v27:Int)(v63:Int)(s:(Int×(List (List Int)))):AHeap:=([((0,0),.rows 1 (a0.map z6)),((0,1),.rows 1 (a1.map z7)),((3,0),.rows 1 (a2.map z7)),((4,0),.rows 1 (wm 5 1 (s.2.map (p3 z7))))]++(fam 5 s.2.length none))
def Ur(a0:List (List GR))(a1:List Int)(a2:List Int)(v27:Int)(o:((Int×(List (List Int))) ⊕ ((Int×(List (List Int))) ⊕ (List Int)))):Exit→Env→AHeap→Nat→Prop:=(zb 4 (zb 3 (uw Try.prog jz 3 z35 (yi 3 6 (Q1 a0 a1 a2 v27) (Qx a0 a1 a2 v27) (J6 a0 a1 a2) o))))
def j9(m:Option Nat)(a0:List (List GR))(a1:List Int)(a2:List Int)(v27:Int)(v63:Int)(v75:Int)(v80:List (List Int)):Option ((Int×(List (List Int))) ⊕ ((Int×(List (List Int))) ⊕ ((Int×(List (List Int))) ⊕ (List Int)))):=
 some (.inl ((W (v75+1)),v80))
theorem z1x{a0:List (List GR)}{a1:List Int}{a2:List Int}{v27:Int}{v63:Int}{v75:Int}{v80:List (List Int)}{m:Option Nat}{o:((Int×(List (List Int))) ⊕ ((Int×(List (List Int))) ⊕ ((Int×(List (List Int))) ⊕ (List Int))))}(h:j9 m a0 a1 a2 v27 v63 v75 v80=some o) :
 LWp Try.prog jz 3 zi4 (yi 3 6 (Wz a0 a1 a2 v27 v63) (K7 a0 a1 a2 v27 v63) (Ur a0 a1 a2 v27) o) [(0,.msl (0,0) 1 0 a0.length true),(1,.msl (0,1) 1 0 a1.length false),(2,.msl (3,0) 1 0 a2.length true),(6,.msl (4,0) 1 0 v80.length true),(7,i6 v27),(20,.msl (0,0) 1 0 a0.length true),(21,i6 ((a0.length:Nat):Int)),(22,i6 v27),(27,.isl 2 ((a0.getD (0+v27.toNat) default).map z8) false),(28,i6 (((a0.getD (0+v27.toNat) default).map z8).length:Int)),(29,i6 v63),(34,.isl 1 ((((a0.getD (0+v27.toNat) default).getD v63.toNat default).fA).map z7) false),(35,i6 (((((a0.getD (0+v27.toNat) default).getD v63.toNat default).fA).map z7).length:Int)),(36,i6 v75)] ([((0,0),.rows 1 (a0.map z6)),((0,1),.rows 1 (a1.map z7)),((3,0),.rows 1 (a2.map z7)),((4,0),.rows 1 (wm 5 1 (v80.map (p3 z7))))]++(fam 5 v80.length none)) 6:=by
 unfold j9 at h
 refine Y6 ?_
 cases h
 exact AI rfl (Xa (M:=[((3,0),(3,0)),((4,0),(4,0))]) (lit':=[((0,0),.rows 1 (a0.map z6)),((0,1),.rows 1 (a1.map z7)),((3,0),.rows 1 (a2.map z7)),((4,0),.rows 1 (wm 5 1 (v80.map (p3 z7))))]) (T:=(fam 5 v80.length none)) (q:=5) (q':=5) rfl (IsFam.cast (by first|rfl|simp) IsFam.base) (AI (p0 rfl (by first|rfl|omega|(simp;done)|(simp at *;omega)) rfl) (AI (p0 rfl (by first|rfl|omega|(simp;done)|(simp at *;omega)) rfl) (AI (p0 rfl (by first|rfl|omega|(simp;done)|(simp at *;omega)) rfl) (AI (p0 rfl (by first|rfl|omega|(simp;done)|(simp at *;omega)) rfl) (AI (VS rfl) (AI (p0 rfl (by first|rfl|omega|(simp;done)|(simp at *;omega)) rfl) (S4 rfl rfl rfl rfl (S4 rfl rfl rfl rfl TT)))))))) (AI (AI rfl (p1 z6 (fun _=>rfl) _ a0)) (AI (AI rfl (p1 z7 (fun _=>rfl) _ a1)) (AI (AI rfl (p1 z7 (fun _=>rfl) _ a2)) (AI (AI rfl p8) TT)))))
def wn(m:Option Nat)(a0:List (List GR))(a1:List Int)(a2:List Int)(v27:Int)(v63:Int)(v76:List (List Int)):Option ((Int×(List (List Int))) ⊕ ((Int×(List (List Int))) ⊕ (List Int))):=
 some (.inl ((W (v63+1)),v76))
def x7(m:Option Nat)(a0:List (List GR))(a1:List Int)(a2:List Int)(v27:Int)(v63:Int)(v75:Int)(v76:List (List Int)):Option ((Int×(List (List Int))) ⊕ ((Int×(List (List Int))) ⊕ ((Int×(List (List Int))) ⊕ (List Int)))):=
 if(decide (v75<(((((a0.getD (0+v27.toNat) default).getD v63.toNat default).fA).map z7).length:Int)))=true then
  if(0:Int)≤v75∧v75<(((((a0.getD (0+v27.toNat) default).getD v63.toNat default).fA).map z7).length:Int) then
  if(0:Int)≤((((a0.getD (0+v27.toNat) default).getD v63.toNat default).fA).getD v75.toNat default)∧((((a0.getD (0+v27.toNat) default).getD v63.toNat default).fA).getD v75.toNat default)<((v76.length:Nat):Int) then
  if(0+((((a0.getD (0+v27.toNat) default).getD v63.toNat default).fA).getD v75.toNat default).toNat)<v76.length then
  (jv m (v76.getD (0+((((a0.getD (0+v27.toNat) default).getD v63.toNat default).fA).getD v75.toNat default).toNat) default) v27).bind fun v79=>
  if(!v79)=true then
   if(0:Int)≤((((a0.getD (0+v27.toNat) default).getD v63.toNat default).fA).getD v75.toNat default)∧((((a0.getD (0+v27.toNat) default).getD v63.toNat default).fA).getD v75.toNat default)<((v76.length:Nat):Int) then
   if(0+((((a0.getD (0+v27.toNat) default).getD v63.toNat default).fA).getD v75.toNat default).toNat)<v76.length then
   if(((v76.getD (0+((((a0.getD (0+v27.toNat) default).getD v63.toNat default).fA).getD v75.toNat default).toNat) default)++([v27]:List Int)).map z7).length*8≤140737488355328 then
   if(0:Int)≤((((a0.getD (0+v27.toNat) default).getD v63.toNat default).fA).getD v75.toNat default)∧((((a0.getD (0+v27.toNat) default).getD v63.toNat default).fA).getD v75.toNat default)<((v76.length:Nat):Int) then
   if(0+((((a0.getD (0+v27.toNat) default).getD v63.toNat default).fA).getD v75.toNat default).toNat)<v76.length then
   j9 m a0 a1 a2 v27 v63 v75 (v76.set (0+((((a0.getD (0+v27.toNat) default).getD v63.toNat default).fA).getD v75.toNat default).toNat) ((v76.getD (0+((((a0.getD (0+v27.toNat) default).getD v63.toNat default).fA).getD v75.toNat default).toNat) default)++([v27]:List Int)))
   else none
   else none
   else none
   else none
   else none
  else
   j9 m a0 a1 a2 v27 v63 v75 v76
  else none
  else none
  else none
 else
  p7 p9 (
   wn m a0 a1 a2 v27 v63 v76)
def ww(m:Option Nat)(a0:List (List GR))(a1:List Int)(a2:List Int)(v27:Int)(v63:Int)(v75:Int)(v76:List (List Int)):Option ((Int×(List (List Int))) ⊕ ((Int×(List (List Int))) ⊕ (List Int))):=kw m (fun(s:(Int×(List (List Int))))=>x7 m a0 a1 a2 v27 v63 s.1 s.2) (v75,v76)
theorem zah{a0:List (List GR)}{a1:List Int}{a2:List Int}{v27:Int}{v63:Int}{v76:List (List Int)}{m:Option Nat}{o:((Int×(List (List Int))) ⊕ ((Int×(List (List Int))) ⊕ (List Int)))}(h:wn m a0 a1 a2 v27 v63 v76=some o) :
 LWp Try.prog jz 3 z35 (yi 3 6 (Q1 a0 a1 a2 v27) (Qx a0 a1 a2 v27) (J6 a0 a1 a2) o) [(0,.msl (0,0) 1 0 a0.length true),(1,.msl (0,1) 1 0 a1.length false),(2,.msl (3,0) 1 0 a2.length true),(6,.msl (4,0) 1 0 v76.length true),(7,i6 v27),(20,.msl (0,0) 1 0 a0.length true),(21,i6 ((a0.length:Nat):Int)),(22,i6 v27),(27,.isl 2 ((a0.getD (0+v27.toNat) default).map z8) false),(28,i6 (((a0.getD (0+v27.toNat) default).map z8).length:Int)),(29,i6 v63)] ([((0,0),.rows 1 (a0.map z6)),((0,1),.rows 1 (a1.map z7)),((3,0),.rows 1 (a2.map z7)),((4,0),.rows 1 (wm 5 1 (v76.map (p3 z7))))]++(fam 5 v76.length none)) 6:=by
 unfold wn at h
 refine Y6 ?_
 cases h
 exact AI rfl (Xa (M:=[((3,0),(3,0)),((4,0),(4,0))]) (lit':=[((0,0),.rows 1 (a0.map z6)),((0,1),.rows 1 (a1.map z7)),((3,0),.rows 1 (a2.map z7)),((4,0),.rows 1 (wm 5 1 (v76.map (p3 z7))))]) (T:=(fam 5 v76.length none)) (q:=5) (q':=5) rfl (IsFam.cast (by first|rfl|simp) IsFam.base) (AI (p0 rfl (by first|rfl|omega|(simp;done)|(simp at *;omega)) rfl) (AI (p0 rfl (by first|rfl|omega|(simp;done)|(simp at *;omega)) rfl) (AI (p0 rfl (by first|rfl|omega|(simp;done)|(simp at *;omega)) rfl) (AI (p0 rfl (by first|rfl|omega|(simp;done)|(simp at *;omega)) rfl) (AI (VS rfl) (AI (p0 rfl (by first|rfl|omega|(simp;done)|(simp at *;omega)) rfl) (S4 rfl rfl rfl rfl (AI (VS rfl) TT)))))))) (AI (AI rfl (p1 z6 (fun _=>rfl) _ a0)) (AI (AI rfl (p1 z7 (fun _=>rfl) _ a1)) (AI (AI rfl (p1 z7 (fun _=>rfl) _ a2)) (AI (AI rfl p8) TT)))))
set_option maxHeartbeats 4000000 in
theorem z7s{a0:List (List GR)}{a1:List Int}{a2:List Int}{v27:Int}{v63:Int}{v75:Int}{v76:List (List Int)}{m:Option Nat}{o:(Int×(List (List Int))) ⊕ ((Int×(List (List Int))) ⊕ ((Int×(List (List Int))) ⊕ (List Int)))}(h:x7 m a0 a1 a2 v27 v63 v75 v76=some o) :
 LWp Try.prog jz 3 z9a (yi 3 6 (Wz a0 a1 a2 v27 v63) (K7 a0 a1 a2 v27 v63) (Ur a0 a1 a2 v27) o) [(0,.msl (0,0) 1 0 a0.length true),(1,.msl (0,1) 1 0 a1.length false),(2,.msl (3,0) 1 0 a2.length true),(6,.msl (4,0) 1 0 v76.length true),(7,i6 v27),(20,.msl (0,0) 1 0 a0.length true),(21,i6 ((a0.length:Nat):Int)),(22,i6 v27),(27,.isl 2 ((a0.getD (0+v27.toNat) default).map z8) false),(28,i6 (((a0.getD (0+v27.toNat) default).map z8).length:Int)),(29,i6 v63),(34,.isl 1 ((((a0.getD (0+v27.toNat) default).getD v63.toNat default).fA).map z7) false),(35,i6 (((((a0.getD (0+v27.toNat) default).getD v63.toNat default).fA).map z7).length:Int)),(36,i6 v75)] ([((0,0),.rows 1 (a0.map z6)),((0,1),.rows 1 (a1.map z7)),((3,0),.rows 1 (a2.map z7)),((4,0),.rows 1 (wm 5 1 (v76.map (p3 z7))))]++(fam 5 v76.length none)) 6:=by
 unfold x7 at h
 refine SR ?_
 refine xn ?_
 refine qh (v:=(decide (v75<(((((a0.getD (0+v27.toNat) default).getD v63.toNat default).fA).map z7).length:Int)))) rfl TT (fun h367=>?_) (fun h367=>?_)
 ·have h:=zj h367 h
  refine qp ?_
  refine xn ?_
  refine zo ?_
  refine SR ?_
  obtain⟨h368,h⟩:=za h
  refine AI h368 ?_
  refine EX (z7 ((((a0.getD (0+v27.toNat) default).getD v63.toNat default).fA).getD v75.toNat default)) (AI (zc z7 _ _ (yj z7 h368)) (AI (AI (xv h368) (NB rfl)) ?_))
  refine SR ?_
  obtain⟨h369,h⟩:=za h
  refine AI h369 ?_
  obtain⟨h370,h⟩:=za h
  refine EX ([.osl (5,(0+((((a0.getD (0+v27.toNat) default).getD v63.toNat default).fA).getD v75.toNat default).toNat)) 1 ((v76.getD (0+((((a0.getD (0+v27.toNat) default).getD v63.toNat default).fA).getD v75.toNat default).toNat) default).map z7)]) (AI (z0m z7 h370) (AI (AI (z2s z7 h370) (NB rfl)) ?_))
  obtain⟨v79,h371,h⟩:=bind_some h
  refine PFn.call (zvo h371) (AI (Vw.oslI _ _ _) (AI (VS rfl) TT)) ?_
  refine p2 (e:=[(0,.msl (0,0) 1 0 a0.length true),(1,.msl (0,1) 1 0 a1.length false),(2,.msl (3,0) 1 0 a2.length true),(6,.msl (4,0) 1 0 v76.length true),(7,i6 v27),(12,i6 ((((a0.getD (0+v27.toNat) default).getD v63.toNat default).fA).getD v75.toNat default)),(20,.msl (0,0) 1 0 a0.length true),(21,i6 ((a0.length:Nat):Int)),(22,i6 v27),(27,.isl 2 ((a0.getD (0+v27.toNat) default).map z8) false),(28,i6 (((a0.getD (0+v27.toNat) default).map z8).length:Int)),(29,i6 v63),(34,.isl 1 ((((a0.getD (0+v27.toNat) default).getD v63.toNat default).fA).map z7) false),(35,i6 (((((a0.getD (0+v27.toNat) default).getD v63.toNat default).fA).map z7).length:Int)),(36,i6 v75),(46,.bool (!v79))]) (L:=([((0,0),.rows 1 (a0.map z6)),((0,1),.rows 1 (a1.map z7)),((3,0),.rows 1 (a2.map z7)),((4,0),.rows 1 (wm 5 1 (v76.map (p3 z7))))]++(fam 5 v76.length none))) (n:=6) ?_ ?_
  ·exact Xa (M:=[((3,0),(3,0)),((4,0),(4,0))]) (lit':=[((0,0),.rows 1 (a0.map z6)),((0,1),.rows 1 (a1.map z7)),((3,0),.rows 1 (a2.map z7)),((4,0),.rows 1 (wm 5 1 (v76.map (p3 z7))))]) (T:=(fam 5 v76.length none)) (q:=5) (q':=5) rfl (IsFam.cast (by first|rfl|simp) IsFam.base) (AI (p0 rfl (by first|rfl|omega|(simp;done)|(simp at *;omega)) rfl) (AI (p0 rfl (by first|rfl|omega|(simp;done)|(simp at *;omega)) rfl) (AI (p0 rfl (by first|rfl|omega|(simp;done)|(simp at *;omega)) rfl) (AI (p0 rfl (by first|rfl|omega|(simp;done)|(simp at *;omega)) rfl) (S2 rfl rfl (AI (p0 rfl (by first|rfl|omega|(simp;done)|(simp at *;omega)) rfl) (S4 rfl rfl rfl rfl (S4 rfl rfl rfl rfl (AI (VS rfl) TT))))))))) (AI (AI rfl (p1 z6 (fun _=>rfl) _ a0)) (AI (AI rfl (p1 z7 (fun _=>rfl) _ a1)) (AI (AI rfl (p1 z7 (fun _=>rfl) _ a2)) (AI (AI rfl p8) TT))))
  refine qh (v:=(!v79)) rfl TT (fun h372=>?_) (fun h372=>?_)
  ·have h:=zj h372 h
   refine p2 (e:=[(0,.msl (0,0) 1 0 a0.length true),(1,.msl (0,1) 1 0 a1.length false),(2,.msl (3,0) 1 0 a2.length true),(6,.msl (4,0) 1 0 v76.length true),(7,i6 v27),(12,i6 ((((a0.getD (0+v27.toNat) default).getD v63.toNat default).fA).getD v75.toNat default)),(20,.msl (0,0) 1 0 a0.length true),(21,i6 ((a0.length:Nat):Int)),(22,i6 v27),(27,.isl 2 ((a0.getD (0+v27.toNat) default).map z8) false),(28,i6 (((a0.getD (0+v27.toNat) default).map z8).length:Int)),(29,i6 v63),(34,.isl 1 ((((a0.getD (0+v27.toNat) default).getD v63.toNat default).fA).map z7) false),(35,i6 (((((a0.getD (0+v27.toNat) default).getD v63.toNat default).fA).map z7).length:Int)),(36,i6 v75)]) (L:=([((6,0),.tok),((0,0),.rows 1 (a0.map z6)),((0,1),.rows 1 (a1.map z7)),((3,0),.rows 1 (a2.map z7)),((4,0),.rows 1 (z4w 5 1 (v76.map (p3 z7)) (0+((((a0.getD (0+v27.toNat) default).getD v63.toNat default).fA).getD v75.toNat default).toNat) (6,0) ((v76.getD (0+((((a0.getD (0+v27.toNat) default).getD v63.toNat default).fA).getD v75.toNat default).toNat) default).map z7)))]++(fam 5 v76.length (some (0+((((a0.getD (0+v27.toNat) default).getD v63.toNat default).fA).getD v75.toNat default).toNat))))) (n:=7) ?_ ?_
   ·exact y1y (m:=(6,0)) (i:=(0+((((a0.getD (0+v27.toNat) default).getD v63.toNat default).fA).getD v75.toNat default).toNat)) (M:=[((3,0),(3,0)),((4,0),(4,0))]) (lit':=[((0,0),.rows 1 (a0.map z6)),((0,1),.rows 1 (a1.map z7)),((3,0),.rows 1 (a2.map z7)),((4,0),.rows 1 (wm 5 1 (v76.map (p3 z7))))]) (T:=(fam 5 v76.length none)) (q:=5) (q':=5) rfl (by decide) (IsFam.cast (by first|rfl|simp) IsFam.base) (AI (p0 rfl (by first|rfl|omega|(simp;done)|(simp at *;omega)) rfl) (AI (p0 rfl (by first|rfl|omega|(simp;done)|(simp at *;omega)) rfl) (AI (p0 rfl (by first|rfl|omega|(simp;done)|(simp at *;omega)) rfl) (AI (p0 rfl (by first|rfl|omega|(simp;done)|(simp at *;omega)) rfl) (S2 rfl rfl (AI (p0 rfl (by first|rfl|omega|(simp;done)|(simp at *;omega)) rfl) (S4 rfl rfl rfl rfl (S4 rfl rfl rfl rfl TT)))))))) (AI (AI rfl (p1 z6 (fun _=>rfl) _ a0)) (AI (AI rfl (p1 z7 (fun _=>rfl) _ a1)) (AI (AI rfl (p1 z7 (fun _=>rfl) _ a2)) (AI (AI rfl (BVw.grFE z7 (by decide) rfl)) TT))))
   refine Y6 ?_
   obtain⟨h375,h⟩:=za h
   refine AI h375 ?_
   obtain⟨h376,h⟩:=za h
   refine EX ([.osl (6,0) 1 ((v76.getD (0+((((a0.getD (0+v27.toNat) default).getD v63.toNat default).fA).getD v75.toNat default).toNat) default).map z7)]) (AI (z4x z7 h376) (AI (AI (z2r z7 h376) (NB rfl)) ?_))
   obtain⟨h377,h⟩:=za h
   refine EX (((v76.getD (0+((((a0.getD (0+v27.toNat) default).getD v63.toNat default).fA).getD v75.toNat default).toNat) default)++([v27]:List Int)).map z7) (AI (z90 z7 (v76.getD (0+((((a0.getD (0+v27.toNat) default).getD v63.toNat default).fA).getD v75.toNat default).toNat) default) ([v27]:List Int)) (AI h377 ?_))
   obtain⟨h378,h⟩:=za h
   refine AI h378 ?_
   obtain⟨h379,h⟩:=za h
   refine EX (z4w 5 1 (v76.map (p3 z7)) (0+((((a0.getD (0+v27.toNat) default).getD v63.toNat default).fA).getD v75.toNat default).toNat) (7,0) (((v76.getD (0+((((a0.getD (0+v27.toNat) default).getD v63.toNat default).fA).getD v75.toNat default).toNat) default)++([v27]:List Int)).map z7)) (AI (zbn z7 h379) (AI (AI rfl (AI (z2r z7 h379) (NB rfl))) ?_))
   refine p2 (e:=[(0,.msl (0,0) 1 0 a0.length true),(1,.msl (0,1) 1 0 a1.length false),(2,.msl (3,0) 1 0 a2.length true),(6,.msl (4,0) 1 0 ((v76.set (0+((((a0.getD (0+v27.toNat) default).getD v63.toNat default).fA).getD v75.toNat default).toNat) ((v76.getD (0+((((a0.getD (0+v27.toNat) default).getD v63.toNat default).fA).getD v75.toNat default).toNat) default)++([v27]:List Int))).length) true),(7,i6 v27),(20,.msl (0,0) 1 0 a0.length true),(21,i6 ((a0.length:Nat):Int)),(22,i6 v27),(27,.isl 2 ((a0.getD (0+v27.toNat) default).map z8) false),(28,i6 (((a0.getD (0+v27.toNat) default).map z8).length:Int)),(29,i6 v63),(34,.isl 1 ((((a0.getD (0+v27.toNat) default).getD v63.toNat default).fA).map z7) false),(35,i6 (((((a0.getD (0+v27.toNat) default).getD v63.toNat default).fA).map z7).length:Int)),(36,i6 v75)]) (L:=([((0,0),.rows 1 (a0.map z6)),((0,1),.rows 1 (a1.map z7)),((3,0),.rows 1 (a2.map z7)),((4,0),.rows 1 (wm 5 1 ((v76.set (0+((((a0.getD (0+v27.toNat) default).getD v63.toNat default).fA).getD v75.toNat default).toNat) ((v76.getD (0+((((a0.getD (0+v27.toNat) default).getD v63.toNat default).fA).getD v75.toNat default).toNat) default)++([v27]:List Int))).map (p3 z7))))]++(fam 5 (v76.set (0+((((a0.getD (0+v27.toNat) default).getD v63.toNat default).fA).getD v75.toNat default).toNat) ((v76.getD (0+((((a0.getD (0+v27.toNat) default).getD v63.toNat default).fA).getD v75.toNat default).toNat) default)++([v27]:List Int))).length none))) (n:=7) ?_ ?_
   ·exact y1x (t:=(7,0)) (i:=(0+((((a0.getD (0+v27.toNat) default).getD v63.toNat default).fA).getD v75.toNat default).toNat)) (M:=[((3,0),(3,0)),((4,0),(4,0))]) (lit':=[((7,0),.tok),((0,0),.rows 1 (a0.map z6)),((0,1),.rows 1 (a1.map z7)),((3,0),.rows 1 (a2.map z7)),((4,0),.rows 1 (z4w 5 1 (v76.map (p3 z7)) (0+((((a0.getD (0+v27.toNat) default).getD v63.toNat default).fA).getD v75.toNat default).toNat) (7,0) (((v76.getD (0+((((a0.getD (0+v27.toNat) default).getD v63.toNat default).fA).getD v75.toNat default).toNat) default)++([v27]:List Int)).map z7)))]) (T:=(AHeap.del (fam 5 v76.length (some (0+((((a0.getD (0+v27.toNat) default).getD v63.toNat default).fA).getD v75.toNat default).toNat))) (6,0))) (q:=5) (q':=5) rfl (by decide) rfl (IsFam.cast (by first|rfl|simp) (IsFam.del (by decide) IsFam.base)) (AI (p0 rfl (by first|rfl|omega|(simp;done)|(simp at *;omega)) rfl) (AI (p0 rfl (by first|rfl|omega|(simp;done)|(simp at *;omega)) rfl) (AI (p0 rfl (by first|rfl|omega|(simp;done)|(simp at *;omega)) rfl) (AI (p0 rfl (by first|rfl|omega|(simp;done)|(simp at *;omega)) rfl) (AI (VS rfl) (AI (p0 rfl (by first|rfl|omega|(simp;done)|(simp at *;omega)) rfl) (S4 rfl rfl rfl rfl (S4 rfl rfl rfl rfl TT)))))))) (AI (AI rfl (p1 z6 (fun _=>rfl) _ a0)) (AI (AI rfl (p1 z7 (fun _=>rfl) _ a1)) (AI (AI rfl (p1 z7 (fun _=>rfl) _ a2)) (AI (AI rfl (BVw.grUE z7)) TT))))
   refine p2 ?_ (z1x h)
   exact Xa (M:=[((3,0),(3,0)),((4,0),(4,0))]) (lit':=[((0,0),.rows 1 (a0.map z6)),((0,1),.rows 1 (a1.map z7)),((3,0),.rows 1 (a2.map z7)),((4,0),.rows 1 (wm 5 1 ((v76.set (0+((((a0.getD (0+v27.toNat) default).getD v63.toNat default).fA).getD v75.toNat default).toNat) ((v76.getD (0+((((a0.getD (0+v27.toNat) default).getD v63.toNat default).fA).getD v75.toNat default).toNat) default)++([v27]:List Int))).map (p3 z7))))]) (T:=(fam 5 (v76.set (0+((((a0.getD (0+v27.toNat) default).getD v63.toNat default).fA).getD v75.toNat default).toNat) ((v76.getD (0+((((a0.getD (0+v27.toNat) default).getD v63.toNat default).fA).getD v75.toNat default).toNat) default)++([v27]:List Int))).length none)) (q:=5) (q':=5) rfl (IsFam.cast (by first|rfl|simp) IsFam.base) (AI (p0 rfl (by first|rfl|omega|(simp;done)|(simp at *;omega)) rfl) (AI (p0 rfl (by first|rfl|omega|(simp;done)|(simp at *;omega)) rfl) (AI (p0 rfl (by first|rfl|omega|(simp;done)|(simp at *;omega)) rfl) (AI (p0 rfl (by first|rfl|omega|(simp;done)|(simp at *;omega)) rfl) (AI (VS rfl) (AI (p0 rfl (by first|rfl|omega|(simp;done)|(simp at *;omega)) rfl) (S4 rfl rfl rfl rfl (S4 rfl rfl rfl rfl TT)))))))) (AI (AI rfl (p1 z6 (fun _=>rfl) _ a0)) (AI (AI rfl (p1 z7 (fun _=>rfl) _ a1)) (AI (AI rfl (p1 z7 (fun _=>rfl) _ a2)) (AI (AI rfl p8) TT))))
  ·have h:=zm h372 h
   refine qp ?_
   refine p2 ?_ (z1x h)
   exact Xa (M:=[((3,0),(3,0)),((4,0),(4,0))]) (lit':=[((0,0),.rows 1 (a0.map z6)),((0,1),.rows 1 (a1.map z7)),((3,0),.rows 1 (a2.map z7)),((4,0),.rows 1 (wm 5 1 (v76.map (p3 z7))))]) (T:=(fam 5 v76.length none)) (q:=5) (q':=5) rfl (IsFam.cast (by first|rfl|simp) IsFam.base) (AI (p0 rfl (by first|rfl|omega|(simp;done)|(simp at *;omega)) rfl) (AI (p0 rfl (by first|rfl|omega|(simp;done)|(simp at *;omega)) rfl) (AI (p0 rfl (by first|rfl|omega|(simp;done)|(simp at *;omega)) rfl) (AI (p0 rfl (by first|rfl|omega|(simp;done)|(simp at *;omega)) rfl) (AI (VS rfl) (AI (p0 rfl (by first|rfl|omega|(simp;done)|(simp at *;omega)) rfl) (S4 rfl rfl rfl rfl (S4 rfl rfl rfl rfl TT)))))))) (AI (AI rfl (p1 z6 (fun _=>rfl) _ a0)) (AI (AI rfl (p1 z7 (fun _=>rfl) _ a1)) (AI (AI rfl (p1 z7 (fun _=>rfl) _ a2)) (AI (AI rfl p8) TT))))
 ·have h:=zm h367 h
  refine ur ?_
  obtain⟨o,hq,rfl⟩:=p4.1 h
  replace h:=hq;clear hq
  refine AI nofun ?_
  refine p2 ?_ (zah h)
  exact Xa (M:=[((3,0),(3,0)),((4,0),(4,0))]) (lit':=[((0,0),.rows 1 (a0.map z6)),((0,1),.rows 1 (a1.map z7)),((3,0),.rows 1 (a2.map z7)),((4,0),.rows 1 (wm 5 1 (v76.map (p3 z7))))]) (T:=(fam 5 v76.length none)) (q:=5) (q':=5) rfl (IsFam.cast (by first|rfl|simp) IsFam.base) (AI (p0 rfl (by first|rfl|omega|(simp;done)|(simp at *;omega)) rfl) (AI (p0 rfl (by first|rfl|omega|(simp;done)|(simp at *;omega)) rfl) (AI (p0 rfl (by first|rfl|omega|(simp;done)|(simp at *;omega)) rfl) (AI (p0 rfl (by first|rfl|omega|(simp;done)|(simp at *;omega)) rfl) (AI (VS rfl) (AI (p0 rfl (by first|rfl|omega|(simp;done)|(simp at *;omega)) rfl) (S4 rfl rfl rfl rfl (AI (VS rfl) TT)))))))) (AI (AI rfl (p1 z6 (fun _=>rfl) _ a0)) (AI (AI rfl (p1 z7 (fun _=>rfl) _ a1)) (AI (AI rfl (p1 z7 (fun _=>rfl) _ a2)) (AI (AI rfl p8) TT))))
theorem zan{a0:List (List GR)}{a1:List Int}{a2:List Int}{v27:Int}{v63:Int}{v75:Int}{v76:List (List Int)}{m:Option Nat}{o:((Int×(List (List Int))) ⊕ ((Int×(List (List Int))) ⊕ (List Int)))}(h:ww m a0 a1 a2 v27 v63 v75 v76=some o) :
 LWp Try.prog jz 3 (.loop z9a) (zb 4 (zb 3 (uw Try.prog jz 3 z35 (yi 3 6 (Q1 a0 a1 a2 v27) (Qx a0 a1 a2 v27) (J6 a0 a1 a2) o)))) [(0,.msl (0,0) 1 0 a0.length true),(1,.msl (0,1) 1 0 a1.length false),(2,.msl (3,0) 1 0 a2.length true),(6,.msl (4,0) 1 0 v76.length true),(7,i6 v27),(20,.msl (0,0) 1 0 a0.length true),(21,i6 ((a0.length:Nat):Int)),(22,i6 v27),(27,.isl 2 ((a0.getD (0+v27.toNat) default).map z8) false),(28,i6 (((a0.getD (0+v27.toNat) default).map z8).length:Int)),(29,i6 v63),(34,.isl 1 ((((a0.getD (0+v27.toNat) default).getD v63.toNat default).fA).map z7) false),(35,i6 (((((a0.getD (0+v27.toNat) default).getD v63.toNat default).fA).map z7).length:Int)),(36,i6 v75)] ([((0,0),.rows 1 (a0.map z6)),((0,1),.rows 1 (a1.map z7)),((3,0),.rows 1 (a2.map z7)),((4,0),.rows 1 (wm 5 1 (v76.map (p3 z7))))]++(fam 5 v76.length none)) 6:=
 zn (m:=m) (s:=((v75,v76):(Int×(List (List Int))))) (r:=o) (fun(s:(Int×(List (List Int))))=>x7 m a0 a1 a2 v27 v63 s.1 s.2) (Wz a0 a1 a2 v27 v63) (K7 a0 a1 a2 v27 v63) (Ur a0 a1 a2 v27) (fun s o h=>z7s h) h
def wq(m:Option Nat)(a0:List (List GR))(a1:List Int)(a2:List Int)(v27:Int)(v64:List (List Int)):Option ((Int×(List (List Int))) ⊕ (List Int)):=
 some (.inl ((W (v27+1)),v64))
def xa(m:Option Nat)(a0:List (List GR))(a1:List Int)(a2:List Int)(v27:Int)(v63:Int)(v64:List (List Int)):Option ((Int×(List (List Int))) ⊕ ((Int×(List (List Int))) ⊕ (List Int))):=
 if(decide (v63<(((a0.getD (0+v27.toNat) default).map z8).length:Int)))=true then
  if(0:Int)≤v63∧v63<(((a0.getD (0+v27.toNat) default).map z8).length:Int) then
  ww m a0 a1 a2 v27 v63 0 v64
  else none
 else
  p7 p9 (
   wq m a0 a1 a2 v27 v64)
def ws(m:Option Nat)(a0:List (List GR))(a1:List Int)(a2:List Int)(v27:Int)(v63:Int)(v64:List (List Int)):Option ((Int×(List (List Int))) ⊕ (List Int)):=kw m (fun(s:(Int×(List (List Int))))=>xa m a0 a1 a2 v27 s.1 s.2) (v63,v64)
theorem za9{a0:List (List GR)}{a1:List Int}{a2:List Int}{v27:Int}{v64:List (List Int)}{m:Option Nat}{o:((Int×(List (List Int))) ⊕ (List Int))}(h:wq m a0 a1 a2 v27 v64=some o) :
 LWp Try.prog jz 3 z2x (yi 3 6 (X6 a0 a1 a2) (Xu a0 a1 a2) (W6 a0 a1 a2) o) [(0,.msl (0,0) 1 0 a0.length true),(1,.msl (0,1) 1 0 a1.length false),(2,.msl (3,0) 1 0 a2.length true),(6,.msl (4,0) 1 0 v64.length true),(20,.msl (0,0) 1 0 a0.length true),(21,i6 ((a0.length:Nat):Int)),(22,i6 v27)] ([((0,0),.rows 1 (a0.map z6)),((0,1),.rows 1 (a1.map z7)),((3,0),.rows 1 (a2.map z7)),((4,0),.rows 1 (wm 5 1 (v64.map (p3 z7))))]++(fam 5 v64.length none)) 6:=by
 unfold wq at h
 refine Y6 ?_
 cases h
 exact AI rfl (Xa (M:=[((3,0),(3,0)),((4,0),(4,0))]) (lit':=[((0,0),.rows 1 (a0.map z6)),((0,1),.rows 1 (a1.map z7)),((3,0),.rows 1 (a2.map z7)),((4,0),.rows 1 (wm 5 1 (v64.map (p3 z7))))]) (T:=(fam 5 v64.length none)) (q:=5) (q':=5) rfl (IsFam.cast (by first|rfl|simp) IsFam.base) (AI (p0 rfl (by first|rfl|omega|(simp;done)|(simp at *;omega)) rfl) (AI (p0 rfl (by first|rfl|omega|(simp;done)|(simp at *;omega)) rfl) (AI (p0 rfl (by first|rfl|omega|(simp;done)|(simp at *;omega)) rfl) (AI (p0 rfl (by first|rfl|omega|(simp;done)|(simp at *;omega)) rfl) (AI (p0 rfl (by first|rfl|omega|(simp;done)|(simp at *;omega)) rfl) (S2 rfl rfl TT)))))) (AI (AI rfl (p1 z6 (fun _=>rfl) _ a0)) (AI (AI rfl (p1 z7 (fun _=>rfl) _ a1)) (AI (AI rfl (p1 z7 (fun _=>rfl) _ a2)) (AI (AI rfl p8) TT)))))
theorem z7f{a0:List (List GR)}{a1:List Int}{a2:List Int}{v27:Int}{v63:Int}{v64:List (List Int)}{m:Option Nat}{o:(Int×(List (List Int))) ⊕ ((Int×(List (List Int))) ⊕ (List Int))}(h:xa m a0 a1 a2 v27 v63 v64=some o) :
 LWp Try.prog jz 3 z6t (yi 3 6 (Q1 a0 a1 a2 v27) (Qx a0 a1 a2 v27) (J6 a0 a1 a2) o) [(0,.msl (0,0) 1 0 a0.length true),(1,.msl (0,1) 1 0 a1.length false),(2,.msl (3,0) 1 0 a2.length true),(6,.msl (4,0) 1 0 v64.length true),(7,i6 v27),(20,.msl (0,0) 1 0 a0.length true),(21,i6 ((a0.length:Nat):Int)),(22,i6 v27),(27,.isl 2 ((a0.getD (0+v27.toNat) default).map z8) false),(28,i6 (((a0.getD (0+v27.toNat) default).map z8).length:Int)),(29,i6 v63)] ([((0,0),.rows 1 (a0.map z6)),((0,1),.rows 1 (a1.map z7)),((3,0),.rows 1 (a2.map z7)),((4,0),.rows 1 (wm 5 1 (v64.map (p3 z7))))]++(fam 5 v64.length none)) 6:=by
 unfold xa at h
 refine SR ?_
 refine xn ?_
 refine qh (v:=(decide (v63<(((a0.getD (0+v27.toNat) default).map z8).length:Int)))) rfl TT (fun h339=>?_) (fun h339=>?_)
 ·have h:=zj h339 h
  refine qp ?_
  refine xn ?_
  refine zo ?_
  refine SR ?_
  obtain⟨h340,h⟩:=za h
  refine AI h340 ?_
  refine EX (z8 ((a0.getD (0+v27.toNat) default).getD v63.toNat default)) (AI (zc z8 _ _ (yj z8 h340)) (AI (AI (xv h340) (NB rfl)) ?_))
  refine SR ?_
  refine p2 (e:=[(0,.msl (0,0) 1 0 a0.length true),(1,.msl (0,1) 1 0 a1.length false),(2,.msl (3,0) 1 0 a2.length true),(6,.msl (4,0) 1 0 v64.length true),(7,i6 v27),(20,.msl (0,0) 1 0 a0.length true),(21,i6 ((a0.length:Nat):Int)),(22,i6 v27),(27,.isl 2 ((a0.getD (0+v27.toNat) default).map z8) false),(28,i6 (((a0.getD (0+v27.toNat) default).map z8).length:Int)),(29,i6 v63),(34,.isl 1 ((((a0.getD (0+v27.toNat) default).getD v63.toNat default).fA).map z7) false),(35,i6 (((((a0.getD (0+v27.toNat) default).getD v63.toNat default).fA).map z7).length:Int)),(36,i6 0)]) (L:=([((0,0),.rows 1 (a0.map z6)),((0,1),.rows 1 (a1.map z7)),((3,0),.rows 1 (a2.map z7)),((4,0),.rows 1 (wm 5 1 (v64.map (p3 z7))))]++(fam 5 v64.length none))) (n:=6) ?_ ?_
  ·exact Xa (M:=[((3,0),(3,0)),((4,0),(4,0))]) (lit':=[((6,0),.one [i6 (((a0.getD (0+v27.toNat) default).getD v63.toNat default).fM),.isl 1 ((((a0.getD (0+v27.toNat) default).getD v63.toNat default).fA).map z7) false]),((0,0),.rows 1 (a0.map z6)),((0,1),.rows 1 (a1.map z7)),((3,0),.rows 1 (a2.map z7)),((4,0),.rows 1 (wm 5 1 (v64.map (p3 z7))))]) (T:=(fam 5 v64.length none)) (q:=5) (q':=5) rfl (IsFam.cast (by first|rfl|simp) IsFam.base) (AI (p0 rfl (by first|rfl|omega|(simp;done)|(simp at *;omega)) rfl) (AI (p0 rfl (by first|rfl|omega|(simp;done)|(simp at *;omega)) rfl) (AI (p0 rfl (by first|rfl|omega|(simp;done)|(simp at *;omega)) rfl) (AI (p0 rfl (by first|rfl|omega|(simp;done)|(simp at *;omega)) rfl) (AI (VS rfl) (AI (p0 rfl (by first|rfl|omega|(simp;done)|(simp at *;omega)) rfl) (S4 rfl rfl rfl rfl (S4 rfl rfl rfl rfl TT)))))))) (AI (AI rfl (p1 z6 (fun _=>rfl) _ a0)) (AI (AI rfl (p1 z7 (fun _=>rfl) _ a1)) (AI (AI rfl (p1 z7 (fun _=>rfl) _ a2)) (AI (AI rfl p8) TT))))
  refine zo ?_
  refine p2 ?_ (zan h)
  exact Xa (M:=[((3,0),(3,0)),((4,0),(4,0))]) (lit':=[((0,0),.rows 1 (a0.map z6)),((0,1),.rows 1 (a1.map z7)),((3,0),.rows 1 (a2.map z7)),((4,0),.rows 1 (wm 5 1 (v64.map (p3 z7))))]) (T:=(fam 5 v64.length none)) (q:=5) (q':=5) rfl (IsFam.cast (by first|rfl|simp) IsFam.base) (AI (p0 rfl (by first|rfl|omega|(simp;done)|(simp at *;omega)) rfl) (AI (p0 rfl (by first|rfl|omega|(simp;done)|(simp at *;omega)) rfl) (AI (p0 rfl (by first|rfl|omega|(simp;done)|(simp at *;omega)) rfl) (AI (p0 rfl (by first|rfl|omega|(simp;done)|(simp at *;omega)) rfl) (AI (VS rfl) (AI (p0 rfl (by first|rfl|omega|(simp;done)|(simp at *;omega)) rfl) (S4 rfl rfl rfl rfl (S4 rfl rfl rfl rfl TT)))))))) (AI (AI rfl (p1 z6 (fun _=>rfl) _ a0)) (AI (AI rfl (p1 z7 (fun _=>rfl) _ a1)) (AI (AI rfl (p1 z7 (fun _=>rfl) _ a2)) (AI (AI rfl p8) TT))))
 ·have h:=zm h339 h
  refine ur ?_
  obtain⟨o,hq,rfl⟩:=p4.1 h
  replace h:=hq;clear hq
  refine AI nofun ?_
  refine p2 ?_ (za9 h)
  exact Xa (M:=[((3,0),(3,0)),((4,0),(4,0))]) (lit':=[((0,0),.rows 1 (a0.map z6)),((0,1),.rows 1 (a1.map z7)),((3,0),.rows 1 (a2.map z7)),((4,0),.rows 1 (wm 5 1 (v64.map (p3 z7))))]) (T:=(fam 5 v64.length none)) (q:=5) (q':=5) rfl (IsFam.cast (by first|rfl|simp) IsFam.base) (AI (p0 rfl (by first|rfl|omega|(simp;done)|(simp at *;omega)) rfl) (AI (p0 rfl (by first|rfl|omega|(simp;done)|(simp at *;omega)) rfl) (AI (p0 rfl (by first|rfl|omega|(simp;done)|(simp at *;omega)) rfl) (AI (p0 rfl (by first|rfl|omega|(simp;done)|(simp at *;omega)) rfl) (AI (p0 rfl (by first|rfl|omega|(simp;done)|(simp at *;omega)) rfl) (S2 rfl rfl TT)))))) (AI (AI rfl (p1 z6 (fun _=>rfl) _ a0)) (AI (AI rfl (p1 z7 (fun _=>rfl) _ a1)) (AI (AI rfl (p1 z7 (fun _=>rfl) _ a2)) (AI (AI rfl p8) TT))))
theorem zd8{a0:List (List GR)}{a1:List Int}{a2:List Int}{v27:Int}{v63:Int}{v64:List (List Int)}{m:Option Nat}{o:((Int×(List (List Int))) ⊕ (List Int))}(h:ws m a0 a1 a2 v27 v63 v64=some o) :
 LWp Try.prog jz 3 (.loop z6t) (zb 2 (zb 1 (uw Try.prog jz 3 z2x (yi 3 6 (X6 a0 a1 a2) (Xu a0 a1 a2) (W6 a0 a1 a2) o)))) [(0,.msl (0,0) 1 0 a0.length true),(1,.msl (0,1) 1 0 a1.length false),(2,.msl (3,0) 1 0 a2.length true),(6,.msl (4,0) 1 0 v64.length true),(7,i6 v27),(20,.msl (0,0) 1 0 a0.length true),(21,i6 ((a0.length:Nat):Int)),(22,i6 v27),(27,.isl 2 ((a0.getD (0+v27.toNat) default).map z8) false),(28,i6 (((a0.getD (0+v27.toNat) default).map z8).length:Int)),(29,i6 v63)] ([((0,0),.rows 1 (a0.map z6)),((0,1),.rows 1 (a1.map z7)),((3,0),.rows 1 (a2.map z7)),((4,0),.rows 1 (wm 5 1 (v64.map (p3 z7))))]++(fam 5 v64.length none)) 6:=
 zn (m:=m) (s:=((v63,v64):(Int×(List (List Int))))) (r:=o) (fun(s:(Int×(List (List Int))))=>xa m a0 a1 a2 v27 s.1 s.2) (Q1 a0 a1 a2 v27) (Qx a0 a1 a2 v27) (J6 a0 a1 a2) (fun s o h=>z7f h) h
def wt(m:Option Nat)(a0:List (List GR))(v28:List (List Int))(v98:Nat)(v100:List Int)(v101:List Int)(v119:Int)(v126:Int)(v133:Nat)(v134:Nat)(v135:List Int):Option ((Nat×Nat×Int×(List Int)) ⊕ ((Nat×Nat×(List Int)×(List Int)) ⊕ (List Int))):=
 some (.inl (v133,v134,(W (v126+1)),v135))
def wr(m:Option Nat)(a0:List (List GR))(v28:List (List Int))(v98:Nat)(v100:List Int)(v101:List Int)(v119:Int)(v124:Nat)(v125:Nat)(v126:Int)(v127:List Int):Option ((Nat×Nat×Int×(List Int)) ⊕ ((Nat×Nat×(List Int)×(List Int)) ⊕ (List Int))):=
 if(decide (v126<(((v28.getD (0+(v101.getD (v98+(0:Int).toNat) default).toNat) default).map z7).length:Int)))=true then
  if(0:Int)≤v126∧v126<(((v28.getD (0+(v101.getD (v98+(0:Int).toNat) default).toNat) default).map z7).length:Int) then
  (qx m v124 v125 ((v28.getD (0+(v101.getD (v98+(0:Int).toNat) default).toNat) default).getD v126.toNat default) v127).bind fun v132=>
  if(!v132)=true then
   if v124+v125≤(v127.map z7).length then
   if(((v127.drop v124).take v125++([((v28.getD (0+(v101.getD (v98+(0:Int).toNat) default).toNat) default).getD v126.toNat default)]:List Int)).map z7).length*8≤140737488355328 then
   wt m a0 v28 v98 v100 v101 v119 v126 0 ((((v127.drop v124).take v125++([((v28.getD (0+(v101.getD (v98+(0:Int).toNat) default).toNat) default).getD v126.toNat default)]:List Int)).map z7).length) ((v127.drop v124).take v125++([((v28.getD (0+(v101.getD (v98+(0:Int).toNat) default).toNat) default).getD v126.toNat default)]:List Int))
   else none
   else none
  else
   wt m a0 v28 v98 v100 v101 v119 v126 v124 v125 v127
  else none
 else
  p7 p9 (
   some (.inl (v124,v125,(v100.set (0+(v101.getD (v98+(0:Int).toNat) default).toNat) (y6 .or .i64 (v100.getD (0+(v101.getD (v98+(0:Int).toNat) default).toNat) default) v119)),v127)))
def ud(m:Option Nat)(a0:List (List GR))(v28:List (List Int))(v98:Nat)(v100:List Int)(v101:List Int)(v119:Int)(v124:Nat)(v125:Nat)(v126:Int)(v127:List Int):Option ((Nat×Nat×(List Int)×(List Int)) ⊕ (List Int)):=kw m (fun(s:(Nat×Nat×Int×(List Int)))=>wr m a0 v28 v98 v100 v101 v119 s.1 s.2.1 s.2.2.1 s.2.2.2) (v124,v125,v126,v127)
def x4(m:Option Nat)(a0:List (List GR))(v28:List (List Int))(v98:Nat)(v99:Nat)(v100:List Int)(v101:List Int):Option ((Nat×Nat×(List Int)×(List Int)) ⊕ (List Int)):=
 if(decide (((v99:Nat):Int) > 0))=true then
  if(0:Int)≤0∧0<((v99:Nat):Int) then
  if(v98+(0:Int).toNat)<v101.length then
  if(0:Int)≤1∧1≤((v99:Nat):Int) then
  if(0:Int)≤(v101.getD (v98+(0:Int).toNat) default)∧(v101.getD (v98+(0:Int).toNat) default)<((v100.length:Nat):Int) then
  if(0+(v101.getD (v98+(0:Int).toNat) default).toNat)<v100.length then
  if(0:Int)≤(v101.getD (v98+(0:Int).toNat) default)∧(v101.getD (v98+(0:Int).toNat) default)<((a0.length:Nat):Int) then
  if(0+(v101.getD (v98+(0:Int).toNat) default).toNat)<a0.length then
  (jl m (a0.getD (0+(v101.getD (v98+(0:Int).toNat) default).toNat) default) v100).bind fun v119=>
  if(0:Int)≤(v101.getD (v98+(0:Int).toNat) default)∧(v101.getD (v98+(0:Int).toNat) default)<((v100.length:Nat):Int) then
  if(0+(v101.getD (v98+(0:Int).toNat) default).toNat)<v100.length then
  if((y6 .or .i64 (v100.getD (0+(v101.getD (v98+(0:Int).toNat) default).toNat) default) v119)==(v100.getD (0+(v101.getD (v98+(0:Int).toNat) default).toNat) default))=true then
   some (.inl ((v98+(1:Int).toNat),(v99-(1:Int).toNat),v100,v101))
  else
   if(0:Int)≤(v101.getD (v98+(0:Int).toNat) default)∧(v101.getD (v98+(0:Int).toNat) default)<((v100.length:Nat):Int) then
   if(0+(v101.getD (v98+(0:Int).toNat) default).toNat)<v100.length then
   if(0:Int)≤(v101.getD (v98+(0:Int).toNat) default)∧(v101.getD (v98+(0:Int).toNat) default)<((v28.length:Nat):Int) then
   if(0+(v101.getD (v98+(0:Int).toNat) default).toNat)<v28.length then
   ud m a0 v28 v98 v100 v101 v119 (v98+(1:Int).toNat) (v99-(1:Int).toNat) 0 v101
   else none
   else none
   else none
   else none
  else none
  else none
  else none
  else none
  else none
  else none
  else none
  else none
  else none
 else
  p7 p9 (
   some v100)
def wx(m:Option Nat)(a0:List (List GR))(v28:List (List Int))(v98:Nat)(v99:Nat)(v100:List Int)(v101:List Int):Option (List Int):=kw m (fun(s:(Nat×Nat×(List Int)×(List Int)))=>x4 m a0 v28 s.1 s.2.1 s.2.2.1 s.2.2.2) (v98,v99,v100,v101)
def j6(m:Option Nat)(a0:List (List GR))(a1:List Int)(a2:List Int)(v28:List (List Int)):Option (List Int):=
 wx m a0 v28 0 a2.length a1 a2
def xk(m:Option Nat)(a0:List (List GR))(a1:List Int)(a2:List Int)(v27:Int)(v28:List (List Int)):Option ((Int×(List (List Int))) ⊕ (List Int)):=
 if(decide (v27<((a0.length:Nat):Int)))=true then
  if(0:Int)≤v27∧v27<((a0.length:Nat):Int) then
  if(0+v27.toNat)<a0.length then
  ws m a0 a1 a2 v27 0 v28
  else none
  else none
 else
  p7 p9 (
   j6 m a0 a1 a2 v28)
def vq(m:Option Nat)(a0:List (List GR))(a1:List Int)(a2:List Int)(v27:Int)(v28:List (List Int)):Option (List Int):=kw m (fun(s:(Int×(List (List Int))))=>xk m a0 a1 a2 s.1 s.2) (v27,v28)
def Xj(a0:List (List GR))(v28:List (List Int))(s:(Nat×Nat×(List Int)×(List Int))):Env:=[(0,.msl (0,0) 1 0 a0.length true),(1,.msl (0,1) 1 0 s.2.2.1.length false),(2,.msl (3,0) 1 s.1 s.2.1 false),(6,.msl (4,0) 1 0 v28.length true)]
def Jt(a0:List (List GR))(v28:List (List Int))(s:(Nat×Nat×(List Int)×(List Int))):AHeap:=([((0,0),.rows 1 (a0.map z6)),((0,1),.rows 1 (s.2.2.1.map z7)),((3,0),.rows 1 (s.2.2.2.map z7)),((4,0),.rows 1 (wm 5 1 (v28.map (p3 z7))))]++(fam 5 v28.length none))
def Wt(a0:List (List GR))(a1:List Int)(a2:List Int)(o:(List Int)):Exit→Env→AHeap→Nat→Prop:=(zb 6 (z12 a0 a1 a2 o))
def V9(a0:List (List GR))(v28:List (List Int))(v98:Nat)(v100:List Int)(v101:List Int)(v119:Int)(s:(Nat×Nat×Int×(List Int))):Env:=[(0,.msl (0,0) 1 0 a0.length true),(1,.msl (0,1) 1 0 ((v100.set (0+(v101.getD (v98+(0:Int).toNat) default).toNat) (y6 .or .i64 (v100.getD (0+(v101.getD (v98+(0:Int).toNat) default).toNat) default) v119)).length) false),(2,.msl (3,0) 1 s.1 s.2.1 false),(6,.msl (4,0) 1 0 v28.length true),(92,.isl 1 ((v28.getD (0+(v101.getD (v98+(0:Int).toNat) default).toNat) default).map z7) false),(93,i6 (((v28.getD (0+(v101.getD (v98+(0:Int).toNat) default).toNat) default).map z7).length:Int)),(94,i6 s.2.2.1)]
def Vp(a0:List (List GR))(v28:List (List Int))(v98:Nat)(v100:List Int)(v101:List Int)(v119:Int)(s:(Nat×Nat×Int×(List Int))):AHeap:=([((0,0),.rows 1 (a0.map z6)),((0,1),.rows 1 ((v100.set (0+(v101.getD (v98+(0:Int).toNat) default).toNat) (y6 .or .i64 (v100.getD (0+(v101.getD (v98+(0:Int).toNat) default).toNat) default) v119)).map z7)),((3,0),.rows 1 (s.2.2.2.map z7)),((4,0),.rows 1 (wm 5 1 (v28.map (p3 z7))))]++(fam 5 v28.length none))
def Ul(a0:List (List GR))(a1:List Int)(a2:List Int)(v28:List (List Int))(o:((Nat×Nat×(List Int)×(List Int)) ⊕ (List Int))):Exit→Env→AHeap→Nat→Prop:=(zb 8 (zb 7 (yi 3 6 (Xj a0 v28) (Jt a0 v28) (Wt a0 a1 a2) o)))
theorem z1u{a1:List Int}{a2:List Int}{a0:List (List GR)}{v28:List (List Int)}{v98:Nat}{v100:List Int}{v101:List Int}{v119:Int}{v126:Int}{v133:Nat}{v134:Nat}{v135:List Int}{m:Option Nat}{o:((Nat×Nat×Int×(List Int)) ⊕ ((Nat×Nat×(List Int)×(List Int)) ⊕ (List Int)))}(h:wt m a0 v28 v98 v100 v101 v119 v126 v133 v134 v135=some o) :
 LWp Try.prog jz 3 ziw (yi 3 6 (V9 a0 v28 v98 v100 v101 v119) (Vp a0 v28 v98 v100 v101 v119) (Ul a0 a1 a2 v28) o) [(0,.msl (0,0) 1 0 a0.length true),(1,.msl (0,1) 1 0 ((v100.set (0+(v101.getD (v98+(0:Int).toNat) default).toNat) (y6 .or .i64 (v100.getD (0+(v101.getD (v98+(0:Int).toNat) default).toNat) default) v119)).length) false),(2,.msl (3,0) 1 v133 v134 false),(6,.msl (4,0) 1 0 v28.length true),(92,.isl 1 ((v28.getD (0+(v101.getD (v98+(0:Int).toNat) default).toNat) default).map z7) false),(93,i6 (((v28.getD (0+(v101.getD (v98+(0:Int).toNat) default).toNat) default).map z7).length:Int)),(94,i6 v126)] ([((0,0),.rows 1 (a0.map z6)),((0,1),.rows 1 ((v100.set (0+(v101.getD (v98+(0:Int).toNat) default).toNat) (y6 .or .i64 (v100.getD (0+(v101.getD (v98+(0:Int).toNat) default).toNat) default) v119)).map z7)),((3,0),.rows 1 (v135.map z7)),((4,0),.rows 1 (wm 5 1 (v28.map (p3 z7))))]++(fam 5 v28.length none)) 6:=by
 unfold wt at h
 refine Y6 ?_
 cases h
 exact AI rfl (Xa (M:=[((3,0),(3,0)),((4,0),(4,0))]) (lit':=[((0,0),.rows 1 (a0.map z6)),((0,1),.rows 1 ((v100.set (0+(v101.getD (v98+(0:Int).toNat) default).toNat) (y6 .or .i64 (v100.getD (0+(v101.getD (v98+(0:Int).toNat) default).toNat) default) v119)).map z7)),((3,0),.rows 1 (v135.map z7)),((4,0),.rows 1 (wm 5 1 (v28.map (p3 z7))))]) (T:=(fam 5 v28.length none)) (q:=5) (q':=5) rfl (IsFam.cast (by first|rfl|simp) IsFam.base) (AI (p0 rfl (by first|rfl|omega|(simp;done)|(simp at *;omega)) rfl) (AI (p0 rfl (by first|rfl|omega|(simp;done)|(simp at *;omega)) rfl) (AI (Vw.msl _ _ _ _ _ _ rfl) (AI (p0 rfl (by first|rfl|omega|(simp;done)|(simp at *;omega)) rfl) (S2 rfl rfl (AI (VS rfl) TT)))))) (AI (AI rfl (p1 z6 (fun _=>rfl) _ a0)) (AI (AI rfl (p1 z7 (fun _=>rfl) _ (v100.set (0+(v101.getD (v98+(0:Int).toNat) default).toNat) (y6 .or .i64 (v100.getD (0+(v101.getD (v98+(0:Int).toNat) default).toNat) default) v119)))) (AI (AI rfl (p1 z7 (fun _=>rfl) _ v135)) (AI (AI rfl p8) TT)))))
set_option maxHeartbeats 4000000 in
theorem z9b{a1:List Int}{a2:List Int}{a0:List (List GR)}{v28:List (List Int)}{v98:Nat}{v100:List Int}{v101:List Int}{v119:Int}{v124:Nat}{v125:Nat}{v126:Int}{v127:List Int}{m:Option Nat}{o:(Nat×Nat×Int×(List Int)) ⊕ ((Nat×Nat×(List Int)×(List Int)) ⊕ (List Int))}(h:wr m a0 v28 v98 v100 v101 v119 v124 v125 v126 v127=some o) :
 LWp Try.prog jz 3 z89 (yi 3 6 (V9 a0 v28 v98 v100 v101 v119) (Vp a0 v28 v98 v100 v101 v119) (Ul a0 a1 a2 v28) o) [(0,.msl (0,0) 1 0 a0.length true),(1,.msl (0,1) 1 0 ((v100.set (0+(v101.getD (v98+(0:Int).toNat) default).toNat) (y6 .or .i64 (v100.getD (0+(v101.getD (v98+(0:Int).toNat) default).toNat) default) v119)).length) false),(2,.msl (3,0) 1 v124 v125 false),(6,.msl (4,0) 1 0 v28.length true),(92,.isl 1 ((v28.getD (0+(v101.getD (v98+(0:Int).toNat) default).toNat) default).map z7) false),(93,i6 (((v28.getD (0+(v101.getD (v98+(0:Int).toNat) default).toNat) default).map z7).length:Int)),(94,i6 v126)] ([((0,0),.rows 1 (a0.map z6)),((0,1),.rows 1 ((v100.set (0+(v101.getD (v98+(0:Int).toNat) default).toNat) (y6 .or .i64 (v100.getD (0+(v101.getD (v98+(0:Int).toNat) default).toNat) default) v119)).map z7)),((3,0),.rows 1 (v127.map z7)),((4,0),.rows 1 (wm 5 1 (v28.map (p3 z7))))]++(fam 5 v28.length none)) 6:=by
 unfold wr at h
 refine SR ?_
 refine xn ?_
 refine qh (v:=(decide (v126<(((v28.getD (0+(v101.getD (v98+(0:Int).toNat) default).toNat) default).map z7).length:Int)))) rfl TT (fun h476=>?_) (fun h476=>?_)
 ·have h:=zj h476 h
  refine qp ?_
  refine xn ?_
  refine zo ?_
  refine SR ?_
  obtain⟨h477,h⟩:=za h
  refine AI h477 ?_
  refine EX (z7 ((v28.getD (0+(v101.getD (v98+(0:Int).toNat) default).toNat) default).getD v126.toNat default)) (AI (zc z7 _ _ (yj z7 h477)) (AI (AI (xv h477) (NB rfl)) ?_))
  refine SR ?_
  obtain⟨v132,h478,h⟩:=bind_some h
  refine Q4 (k:=3) (m:=0) (L':=[((3,0),.rows 1 (v127.map z7))]) (rest:=([((0,0),.rows 1 (a0.map z6)),((0,1),.rows 1 ((v100.set (0+(v101.getD (v98+(0:Int).toNat) default).toNat) (y6 .or .i64 (v100.getD (0+(v101.getD (v98+(0:Int).toNat) default).toNat) default) v119)).map z7)),((4,0),.rows 1 (wm 5 1 (v28.map (p3 z7))))]++(fam 5 v28.length none))) (R':=.bool v132) [((0,0),(3,0))] (zhj h478) rfl rfl rfl (AI (Vw.msl _ _ _ _ _ _ rfl) (AI (VS rfl) TT)) (AI (h0I (3,0) rfl rfl (p1 z7 (fun _=>rfl) _ v127)) TT) (Zd _ rfl) (AI rfl (AI (qj z7 (fun _=>rfl) _ _) TT)) (Un (lit:=[((0,0),.rows 1 (a0.map z6)),((0,1),.rows 1 ((v100.set (0+(v101.getD (v98+(0:Int).toNat) default).toNat) (y6 .or .i64 (v100.getD (0+(v101.getD (v98+(0:Int).toNat) default).toNat) default) v119)).map z7)),((3,0),.rows 1 (v127.map z7)),((4,0),.rows 1 (wm 5 1 (v28.map (p3 z7))))]) (T:=(fam 5 v28.length none)) InQ.base (fun _=>rfl) rfl) ?_
  refine p2 (e:=[(0,.msl (0,0) 1 0 a0.length true),(1,.msl (0,1) 1 0 ((v100.set (0+(v101.getD (v98+(0:Int).toNat) default).toNat) (y6 .or .i64 (v100.getD (0+(v101.getD (v98+(0:Int).toNat) default).toNat) default) v119)).length) false),(2,.msl (3,0) 1 v124 v125 false),(6,.msl (4,0) 1 0 v28.length true),(16,i6 ((v28.getD (0+(v101.getD (v98+(0:Int).toNat) default).toNat) default).getD v126.toNat default)),(92,.isl 1 ((v28.getD (0+(v101.getD (v98+(0:Int).toNat) default).toNat) default).map z7) false),(93,i6 (((v28.getD (0+(v101.getD (v98+(0:Int).toNat) default).toNat) default).map z7).length:Int)),(94,i6 v126),(101,.bool (!v132))]) (L:=([((0,0),.rows 1 (a0.map z6)),((0,1),.rows 1 ((v100.set (0+(v101.getD (v98+(0:Int).toNat) default).toNat) (y6 .or .i64 (v100.getD (0+(v101.getD (v98+(0:Int).toNat) default).toNat) default) v119)).map z7)),((3,0),.rows 1 (v127.map z7)),((4,0),.rows 1 (wm 5 1 (v28.map (p3 z7))))]++(fam 5 v28.length none))) (n:=6) ?_ ?_
  ·exact Xa (M:=[((3,0),(3,0)),((4,0),(4,0))]) (lit':=[((3,0),.rows 1 (v127.map z7)),((0,0),.rows 1 (a0.map z6)),((0,1),.rows 1 ((v100.set (0+(v101.getD (v98+(0:Int).toNat) default).toNat) (y6 .or .i64 (v100.getD (0+(v101.getD (v98+(0:Int).toNat) default).toNat) default) v119)).map z7)),((4,0),.rows 1 (wm 5 1 (v28.map (p3 z7))))]) (T:=(fam 5 v28.length none)) (q:=5) (q':=5) rfl (IsFam.cast (by first|rfl|simp) IsFam.base) (AI (p0 rfl (by first|rfl|omega|(simp;done)|(simp at *;omega)) rfl) (AI (p0 rfl (by first|rfl|omega|(simp;done)|(simp at *;omega)) rfl) (AI (Vw.msl _ _ _ _ _ _ rfl) (AI (p0 rfl (by first|rfl|omega|(simp;done)|(simp at *;omega)) rfl) (S4 rfl rfl rfl rfl (AI (VS rfl) TT)))))) (AI (AI rfl (p1 z6 (fun _=>rfl) _ a0)) (AI (AI rfl (p1 z7 (fun _=>rfl) _ (v100.set (0+(v101.getD (v98+(0:Int).toNat) default).toNat) (y6 .or .i64 (v100.getD (0+(v101.getD (v98+(0:Int).toNat) default).toNat) default) v119)))) (AI (AI rfl (p1 z7 (fun _=>rfl) _ v127)) (AI (AI rfl p8) TT))))
  refine qh (v:=(!v132)) rfl TT (fun h479=>?_) (fun h479=>?_)
  ·have h:=zj h479 h
   refine Y6 ?_
   obtain⟨h480,h⟩:=za h
   obtain⟨h481,h⟩:=za h
   refine AI (fun h=>pA h) (AI h480 (EX (((v127.drop v124).take v125++([((v28.getD (0+(v101.getD (v98+(0:Int).toNat) default).toNat) default).getD v126.toNat default)]:List Int)).map z7) (AI (y1t z7 v127 ([((v28.getD (0+(v101.getD (v98+(0:Int).toNat) default).toNat) default).getD v126.toNat default)]:List Int) _ _) (AI h481 ?_))))
   refine p2 ?_ (z1u h)
   exact Xa (M:=[((3,0),(6,0)),((4,0),(4,0))]) (lit':=[((6,0),.rows 1 (((v127.drop v124).take v125++([((v28.getD (0+(v101.getD (v98+(0:Int).toNat) default).toNat) default).getD v126.toNat default)]:List Int)).map z7)),((0,0),.rows 1 (a0.map z6)),((0,1),.rows 1 ((v100.set (0+(v101.getD (v98+(0:Int).toNat) default).toNat) (y6 .or .i64 (v100.getD (0+(v101.getD (v98+(0:Int).toNat) default).toNat) default) v119)).map z7)),((4,0),.rows 1 (wm 5 1 (v28.map (p3 z7))))]) (T:=(AHeap.del (fam 5 v28.length none) (3,0))) (q:=5) (q':=5) rfl (IsFam.cast (by first|rfl|simp) (IsFam.del (by decide) IsFam.base)) (AI (p0 rfl (by first|rfl|omega|(simp;done)|(simp at *;omega)) rfl) (AI (p0 rfl (by first|rfl|omega|(simp;done)|(simp at *;omega)) rfl) (AI (p0 rfl (by first|rfl|omega|(simp;done)|(simp at *;omega)) rfl) (AI (p0 rfl (by first|rfl|omega|(simp;done)|(simp at *;omega)) rfl) (S2 rfl rfl (AI (VS rfl) TT)))))) (AI (AI rfl (p1 z6 (fun _=>rfl) _ a0)) (AI (AI rfl (p1 z7 (fun _=>rfl) _ (v100.set (0+(v101.getD (v98+(0:Int).toNat) default).toNat) (y6 .or .i64 (v100.getD (0+(v101.getD (v98+(0:Int).toNat) default).toNat) default) v119)))) (AI (AI rfl (p1 z7 (fun _=>rfl) _ ((v127.drop v124).take v125++([((v28.getD (0+(v101.getD (v98+(0:Int).toNat) default).toNat) default).getD v126.toNat default)]:List Int)))) (AI (AI rfl p8) TT))))
  ·have h:=zm h479 h
   refine qp ?_
   refine p2 ?_ (z1u h)
   exact Xa (M:=[((3,0),(3,0)),((4,0),(4,0))]) (lit':=[((0,0),.rows 1 (a0.map z6)),((0,1),.rows 1 ((v100.set (0+(v101.getD (v98+(0:Int).toNat) default).toNat) (y6 .or .i64 (v100.getD (0+(v101.getD (v98+(0:Int).toNat) default).toNat) default) v119)).map z7)),((3,0),.rows 1 (v127.map z7)),((4,0),.rows 1 (wm 5 1 (v28.map (p3 z7))))]) (T:=(fam 5 v28.length none)) (q:=5) (q':=5) rfl (IsFam.cast (by first|rfl|simp) IsFam.base) (AI (p0 rfl (by first|rfl|omega|(simp;done)|(simp at *;omega)) rfl) (AI (p0 rfl (by first|rfl|omega|(simp;done)|(simp at *;omega)) rfl) (AI (Vw.msl _ _ _ _ _ _ rfl) (AI (p0 rfl (by first|rfl|omega|(simp;done)|(simp at *;omega)) rfl) (S2 rfl rfl (AI (VS rfl) TT)))))) (AI (AI rfl (p1 z6 (fun _=>rfl) _ a0)) (AI (AI rfl (p1 z7 (fun _=>rfl) _ (v100.set (0+(v101.getD (v98+(0:Int).toNat) default).toNat) (y6 .or .i64 (v100.getD (0+(v101.getD (v98+(0:Int).toNat) default).toNat) default) v119)))) (AI (AI rfl (p1 z7 (fun _=>rfl) _ v127)) (AI (AI rfl p8) TT))))
 ·have h:=zm h476 h
  refine ur ?_
  obtain⟨o,hq,rfl⟩:=p4.1 h
  replace h:=hq;clear hq
  refine AI nofun ?_
  cases h
  exact AI rfl (Xa (M:=[((3,0),(3,0)),((4,0),(4,0))]) (lit':=[((0,0),.rows 1 (a0.map z6)),((0,1),.rows 1 ((v100.set (0+(v101.getD (v98+(0:Int).toNat) default).toNat) (y6 .or .i64 (v100.getD (0+(v101.getD (v98+(0:Int).toNat) default).toNat) default) v119)).map z7)),((3,0),.rows 1 (v127.map z7)),((4,0),.rows 1 (wm 5 1 (v28.map (p3 z7))))]) (T:=(fam 5 v28.length none)) (q:=5) (q':=5) rfl (IsFam.cast (by first|rfl|simp) IsFam.base) (AI (p0 rfl (by first|rfl|omega|(simp;done)|(simp at *;omega)) rfl) (AI (p0 rfl (by first|rfl|omega|(simp;done)|(simp at *;omega)) rfl) (AI (Vw.msl _ _ _ _ _ _ rfl) (AI (p0 rfl (by first|rfl|omega|(simp;done)|(simp at *;omega)) rfl) TT)))) (AI (AI rfl (p1 z6 (fun _=>rfl) _ a0)) (AI (AI rfl (p1 z7 (fun _=>rfl) _ (v100.set (0+(v101.getD (v98+(0:Int).toNat) default).toNat) (y6 .or .i64 (v100.getD (0+(v101.getD (v98+(0:Int).toNat) default).toNat) default) v119)))) (AI (AI rfl (p1 z7 (fun _=>rfl) _ v127)) (AI (AI rfl p8) TT)))))
theorem zbx{a1:List Int}{a2:List Int}{a0:List (List GR)}{v28:List (List Int)}{v98:Nat}{v100:List Int}{v101:List Int}{v119:Int}{v124:Nat}{v125:Nat}{v126:Int}{v127:List Int}{m:Option Nat}{o:((Nat×Nat×(List Int)×(List Int)) ⊕ (List Int))}(h:ud m a0 v28 v98 v100 v101 v119 v124 v125 v126 v127=some o) :
 LWp Try.prog jz 3 (.loop z89) (zb 8 (zb 7 (yi 3 6 (Xj a0 v28) (Jt a0 v28) (Wt a0 a1 a2) o))) [(0,.msl (0,0) 1 0 a0.length true),(1,.msl (0,1) 1 0 ((v100.set (0+(v101.getD (v98+(0:Int).toNat) default).toNat) (y6 .or .i64 (v100.getD (0+(v101.getD (v98+(0:Int).toNat) default).toNat) default) v119)).length) false),(2,.msl (3,0) 1 v124 v125 false),(6,.msl (4,0) 1 0 v28.length true),(92,.isl 1 ((v28.getD (0+(v101.getD (v98+(0:Int).toNat) default).toNat) default).map z7) false),(93,i6 (((v28.getD (0+(v101.getD (v98+(0:Int).toNat) default).toNat) default).map z7).length:Int)),(94,i6 v126)] ([((0,0),.rows 1 (a0.map z6)),((0,1),.rows 1 ((v100.set (0+(v101.getD (v98+(0:Int).toNat) default).toNat) (y6 .or .i64 (v100.getD (0+(v101.getD (v98+(0:Int).toNat) default).toNat) default) v119)).map z7)),((3,0),.rows 1 (v127.map z7)),((4,0),.rows 1 (wm 5 1 (v28.map (p3 z7))))]++(fam 5 v28.length none)) 6:=
 zn (m:=m) (s:=((v124,v125,v126,v127):(Nat×Nat×Int×(List Int)))) (r:=o) (fun(s:(Nat×Nat×Int×(List Int)))=>wr m a0 v28 v98 v100 v101 v119 s.1 s.2.1 s.2.2.1 s.2.2.2) (V9 a0 v28 v98 v100 v101 v119) (Vp a0 v28 v98 v100 v101 v119) (Ul a0 a1 a2 v28) (fun s o h=>z9b h) h
set_option maxHeartbeats 4000000 in
theorem z9l{a1:List Int}{a2:List Int}{a0:List (List GR)}{v28:List (List Int)}{v98:Nat}{v99:Nat}{v100:List Int}{v101:List Int}{m:Option Nat}{o:(Nat×Nat×(List Int)×(List Int)) ⊕ (List Int)}(h:x4 m a0 v28 v98 v99 v100 v101=some o) :
 LWp Try.prog jz 3 z72 (yi 3 6 (Xj a0 v28) (Jt a0 v28) (Wt a0 a1 a2) o) [(0,.msl (0,0) 1 0 a0.length true),(1,.msl (0,1) 1 0 v100.length false),(2,.msl (3,0) 1 v98 v99 false),(6,.msl (4,0) 1 0 v28.length true)] ([((0,0),.rows 1 (a0.map z6)),((0,1),.rows 1 (v100.map z7)),((3,0),.rows 1 (v101.map z7)),((4,0),.rows 1 (wm 5 1 (v28.map (p3 z7))))]++(fam 5 v28.length none)) 6:=by
 unfold x4 at h
 refine xn ?_
 refine SR ?_
 refine qh (v:=(decide (((v99:Nat):Int) > 0))) rfl TT (fun h448=>?_) (fun h448=>?_)
 ·have h:=zj h448 h
  refine qp ?_
  refine zo ?_
  refine SR ?_
  obtain⟨h449,h⟩:=za h
  refine AI h449 ?_
  obtain⟨h450,h⟩:=za h
  refine EX (z7 (v101.getD (v98+(0:Int).toNat) default)) (AI (zc z7 _ _ h450) (AI (AI (kv z7 h450) (NB rfl)) ?_))
  refine SR ?_
  obtain⟨h451,h⟩:=za h
  refine EX (.msl (3,0) 1 (v98+(1:Int).toNat) (v99-(1:Int).toNat) false) (AI (by simp) (AI (AI rfl (AI (And.left h451) (AI (And.right h451) (Int.le_refl _)))) ?_))
  refine p2 (e:=[(0,.msl (0,0) 1 0 a0.length true),(1,.msl (0,1) 1 0 v100.length false),(2,.msl (3,0) 1 (v98+(1:Int).toNat) (v99-(1:Int).toNat) false),(6,.msl (4,0) 1 0 v28.length true),(13,i6 (v101.getD (v98+(0:Int).toNat) default))]) (L:=([((0,0),.rows 1 (a0.map z6)),((0,1),.rows 1 (v100.map z7)),((3,0),.rows 1 (v101.map z7)),((4,0),.rows 1 (wm 5 1 (v28.map (p3 z7))))]++(fam 5 v28.length none))) (n:=6) ?_ ?_
  ·exact Xa (M:=[((3,0),(3,0)),((4,0),(4,0))]) (lit':=[((0,0),.rows 1 (a0.map z6)),((0,1),.rows 1 (v100.map z7)),((3,0),.rows 1 (v101.map z7)),((4,0),.rows 1 (wm 5 1 (v28.map (p3 z7))))]) (T:=(fam 5 v28.length none)) (q:=5) (q':=5) rfl (IsFam.cast (by first|rfl|simp) IsFam.base) (AI (p0 rfl (by first|rfl|omega|(simp;done)|(simp at *;omega)) rfl) (AI (p0 rfl (by first|rfl|omega|(simp;done)|(simp at *;omega)) rfl) (AI (Vw.msl _ _ _ _ _ _ rfl) (AI (p0 rfl (by first|rfl|omega|(simp;done)|(simp at *;omega)) rfl) (AI (VS rfl) TT))))) (AI (AI rfl (p1 z6 (fun _=>rfl) _ a0)) (AI (AI rfl (p1 z7 (fun _=>rfl) _ v100)) (AI (AI rfl (p1 z7 (fun _=>rfl) _ v101)) (AI (AI rfl p8) TT))))
  refine xn ?_
  refine z59 ?_
  obtain⟨h452,h⟩:=za h
  refine AI h452 ?_
  obtain⟨h453,h⟩:=za h
  refine EX (z7 (v100.getD (0+(v101.getD (v98+(0:Int).toNat) default).toNat) default)) (AI (zc z7 _ _ h453) (AI (AI (kv z7 h453) (NB rfl)) ?_))
  obtain⟨h454,h⟩:=za h
  refine AI h454 ?_
  obtain⟨h455,h⟩:=za h
  refine EX (z6 (a0.getD (0+(v101.getD (v98+(0:Int).toNat) default).toNat) default)) (AI (zc z6 _ _ h455) (AI (AI (kv z6 h455) (NB rfl)) ?_))
  obtain⟨v119,h456,h⟩:=bind_some h
  refine PFn.readB [(0,1)] (zne h456) rfl (AI (VS rfl) (AI (Vw.frzB z7 Yg (fun h=>h) rfl rfl (by first|rfl|omega|(simp;done)|(simp at *;omega))) TT)) ?_
  refine AI (AI (AI (kv z7 h453) (NB rfl)) (congrArg (xj false 1 0) (zc z7 _ _ h453))) ?_
  refine p2 (e:=[(0,.msl (0,0) 1 0 a0.length true),(1,.msl (0,1) 1 0 v100.length false),(2,.msl (3,0) 1 (v98+(1:Int).toNat) (v99-(1:Int).toNat) false),(6,.msl (4,0) 1 0 v28.length true),(13,i6 (v101.getD (v98+(0:Int).toNat) default)),(14,i6 (y6 .or .i64 (v100.getD (0+(v101.getD (v98+(0:Int).toNat) default).toNat) default) v119))]) (L:=([((0,0),.rows 1 (a0.map z6)),((0,1),.rows 1 (v100.map z7)),((3,0),.rows 1 (v101.map z7)),((4,0),.rows 1 (wm 5 1 (v28.map (p3 z7))))]++(fam 5 v28.length none))) (n:=6) ?_ ?_
  ·exact Xa (M:=[((3,0),(3,0)),((4,0),(4,0))]) (lit':=[((0,0),.rows 1 (a0.map z6)),((0,1),.rows 1 (v100.map z7)),((3,0),.rows 1 (v101.map z7)),((4,0),.rows 1 (wm 5 1 (v28.map (p3 z7))))]) (T:=(fam 5 v28.length none)) (q:=5) (q':=5) rfl (IsFam.cast (by first|rfl|simp) IsFam.base) (AI (p0 rfl (by first|rfl|omega|(simp;done)|(simp at *;omega)) rfl) (AI (p0 rfl (by first|rfl|omega|(simp;done)|(simp at *;omega)) rfl) (AI (Vw.msl _ _ _ _ _ _ rfl) (AI (p0 rfl (by first|rfl|omega|(simp;done)|(simp at *;omega)) rfl) (S2 rfl rfl TT))))) (AI (AI rfl (p1 z6 (fun _=>rfl) _ a0)) (AI (AI rfl (p1 z7 (fun _=>rfl) _ v100)) (AI (AI rfl (p1 z7 (fun _=>rfl) _ v101)) (AI (AI rfl p8) TT))))
  refine xn ?_
  refine SR ?_
  obtain⟨h457,h⟩:=za h
  refine AI h457 ?_
  obtain⟨h458,h⟩:=za h
  refine EX (z7 (v100.getD (0+(v101.getD (v98+(0:Int).toNat) default).toNat) default)) (AI (zc z7 _ _ h458) (AI (AI (kv z7 h458) (NB rfl)) ?_))
  refine qh (v:=((y6 .or .i64 (v100.getD (0+(v101.getD (v98+(0:Int).toNat) default).toNat) default) v119)==(v100.getD (0+(v101.getD (v98+(0:Int).toNat) default).toNat) default))) rfl TT (fun h459=>?_) (fun h459=>?_)
  ·have h:=zj h459 h
   refine ur ?_
   cases h
   exact AI rfl (Xa (M:=[((3,0),(3,0)),((4,0),(4,0))]) (lit':=[((0,0),.rows 1 (a0.map z6)),((0,1),.rows 1 (v100.map z7)),((3,0),.rows 1 (v101.map z7)),((4,0),.rows 1 (wm 5 1 (v28.map (p3 z7))))]) (T:=(fam 5 v28.length none)) (q:=5) (q':=5) rfl (IsFam.cast (by first|rfl|simp) IsFam.base) (AI (p0 rfl (by first|rfl|omega|(simp;done)|(simp at *;omega)) rfl) (AI (p0 rfl (by first|rfl|omega|(simp;done)|(simp at *;omega)) rfl) (AI (Vw.msl _ _ _ _ _ _ rfl) (AI (p0 rfl (by first|rfl|omega|(simp;done)|(simp at *;omega)) rfl) TT)))) (AI (AI rfl (p1 z6 (fun _=>rfl) _ a0)) (AI (AI rfl (p1 z7 (fun _=>rfl) _ v100)) (AI (AI rfl (p1 z7 (fun _=>rfl) _ v101)) (AI (AI rfl p8) TT)))))
  ·have h:=zm h459 h
   refine qp ?_
   refine SR ?_
   obtain⟨h460,h⟩:=za h
   refine AI h460 ?_
   obtain⟨h461,h⟩:=za h
   refine EX ((v100.set (0+(v101.getD (v98+(0:Int).toNat) default).toNat) (y6 .or .i64 (v100.getD (0+(v101.getD (v98+(0:Int).toNat) default).toNat) default) v119)).map z7) (AI (Kg z7 _ _ _ _ _ h461 rfl) (AI (AI rfl (AI (kv z7 h461) (NB rfl))) ?_))
   refine p2 (e:=[(0,.msl (0,0) 1 0 a0.length true),(1,.msl (0,1) 1 0 v100.length false),(2,.msl (3,0) 1 (v98+(1:Int).toNat) (v99-(1:Int).toNat) false),(6,.msl (4,0) 1 0 v28.length true),(13,i6 (v101.getD (v98+(0:Int).toNat) default))]) (L:=([((0,0),.rows 1 (a0.map z6)),((0,1),.rows 1 ((v100.set (0+(v101.getD (v98+(0:Int).toNat) default).toNat) (y6 .or .i64 (v100.getD (0+(v101.getD (v98+(0:Int).toNat) default).toNat) default) v119)).map z7)),((3,0),.rows 1 (v101.map z7)),((4,0),.rows 1 (wm 5 1 (v28.map (p3 z7))))]++(fam 5 v28.length none))) (n:=6) ?_ ?_
   ·exact Xa (M:=[((3,0),(3,0)),((4,0),(4,0))]) (lit':=[((0,0),.rows 1 (a0.map z6)),((0,1),.rows 1 ((v100.set (0+(v101.getD (v98+(0:Int).toNat) default).toNat) (y6 .or .i64 (v100.getD (0+(v101.getD (v98+(0:Int).toNat) default).toNat) default) v119)).map z7)),((3,0),.rows 1 (v101.map z7)),((4,0),.rows 1 (wm 5 1 (v28.map (p3 z7))))]) (T:=(fam 5 v28.length none)) (q:=5) (q':=5) rfl (IsFam.cast (by first|rfl|simp) IsFam.base) (AI (p0 rfl (by first|rfl|omega|(simp;done)|(simp at *;omega)) rfl) (AI (p0 rfl (by first|rfl|omega|(simp;done)|(simp at *;omega)) rfl) (AI (Vw.msl _ _ _ _ _ _ rfl) (AI (p0 rfl (by first|rfl|omega|(simp;done)|(simp at *;omega)) rfl) (AI (VS rfl) TT))))) (AI (AI rfl (p1 z6 (fun _=>rfl) _ a0)) (AI (AI rfl (p1 z7 (fun _=>rfl) _ (v100.set (0+(v101.getD (v98+(0:Int).toNat) default).toNat) (y6 .or .i64 (v100.getD (0+(v101.getD (v98+(0:Int).toNat) default).toNat) default) v119)))) (AI (AI rfl (p1 z7 (fun _=>rfl) _ v101)) (AI (AI rfl p8) TT))))
   refine SR ?_
   obtain⟨h462,h⟩:=za h
   refine AI h462 ?_
   obtain⟨h463,h⟩:=za h
   refine EX ([.osl (5,(0+(v101.getD (v98+(0:Int).toNat) default).toNat)) 1 ((v28.getD (0+(v101.getD (v98+(0:Int).toNat) default).toNat) default).map z7)]) (AI (z0m z7 h463) (AI (AI (z2s z7 h463) (NB rfl)) ?_))
   refine zo ?_
   refine p2 ?_ (zbx h)
   exact Xa (M:=[((3,0),(3,0)),((4,0),(4,0))]) (lit':=[((0,0),.rows 1 (a0.map z6)),((0,1),.rows 1 ((v100.set (0+(v101.getD (v98+(0:Int).toNat) default).toNat) (y6 .or .i64 (v100.getD (0+(v101.getD (v98+(0:Int).toNat) default).toNat) default) v119)).map z7)),((3,0),.rows 1 (v101.map z7)),((4,0),.rows 1 (wm 5 1 (v28.map (p3 z7))))]) (T:=(fam 5 v28.length none)) (q:=5) (q':=5) rfl (IsFam.cast (by first|rfl|simp) IsFam.base) (AI (p0 rfl (by first|rfl|omega|(simp;done)|(simp at *;omega)) rfl) (AI (p0 rfl (by first|rfl|omega|(simp;done)|(simp at *;omega)) rfl) (AI (Vw.msl _ _ _ _ _ _ rfl) (AI (p0 rfl (by first|rfl|omega|(simp;done)|(simp at *;omega)) rfl) (AI (Vw.oslI _ _ _) (S2 rfl rfl TT)))))) (AI (AI rfl (p1 z6 (fun _=>rfl) _ a0)) (AI (AI rfl (p1 z7 (fun _=>rfl) _ (v100.set (0+(v101.getD (v98+(0:Int).toNat) default).toNat) (y6 .or .i64 (v100.getD (0+(v101.getD (v98+(0:Int).toNat) default).toNat) default) v119)))) (AI (AI rfl (p1 z7 (fun _=>rfl) _ v101)) (AI (AI rfl p8) TT))))
 ·have h:=zm h448 h
  refine ur ?_
  obtain⟨o,hq,rfl⟩:=p4.1 h
  replace h:=hq;clear hq
  refine AI nofun ?_
  cases h
  exact z1f (n':=6) [] [] rfl rfl (VS rfl) (AI (AI rfl (p1 z6 (fun _=>rfl) _ a0)) (AI (AI rfl (p1 z7 (fun _=>rfl) _ v100)) TT))
theorem zba{a1:List Int}{a2:List Int}{a0:List (List GR)}{v28:List (List Int)}{v98:Nat}{v99:Nat}{v100:List Int}{v101:List Int}{m:Option Nat}{o:(List Int)}(h:wx m a0 v28 v98 v99 v100 v101=some o) :
 LWp Try.prog jz 3 (.loop z72) (zb 6 (z12 a0 a1 a2 o)) [(0,.msl (0,0) 1 0 a0.length true),(1,.msl (0,1) 1 0 v100.length false),(2,.msl (3,0) 1 v98 v99 false),(6,.msl (4,0) 1 0 v28.length true)] ([((0,0),.rows 1 (a0.map z6)),((0,1),.rows 1 (v100.map z7)),((3,0),.rows 1 (v101.map z7)),((4,0),.rows 1 (wm 5 1 (v28.map (p3 z7))))]++(fam 5 v28.length none)) 6:=
 zn (m:=m) (s:=((v98,v99,v100,v101):(Nat×Nat×(List Int)×(List Int)))) (r:=o) (fun(s:(Nat×Nat×(List Int)×(List Int)))=>x4 m a0 v28 s.1 s.2.1 s.2.2.1 s.2.2.2) (Xj a0 v28) (Jt a0 v28) (Wt a0 a1 a2) (fun s o h=>z9l h) h
theorem za8{a0:List (List GR)}{a1:List Int}{a2:List Int}{v28:List (List Int)}{m:Option Nat}{o:(List Int)}(h:j6 m a0 a1 a2 v28=some o) :
 LWp Try.prog jz 3 z2k (z12 a0 a1 a2 o) [(0,.msl (0,0) 1 0 a0.length true),(1,.msl (0,1) 1 0 a1.length false),(2,.msl (3,0) 1 0 a2.length true),(6,.msl (4,0) 1 0 v28.length true)] ([((0,0),.rows 1 (a0.map z6)),((0,1),.rows 1 (a1.map z7)),((3,0),.rows 1 (a2.map z7)),((4,0),.rows 1 (wm 5 1 (v28.map (p3 z7))))]++(fam 5 v28.length none)) 6:=by
 unfold j6 at h
 refine zo ?_
 refine p2 ?_ (zba h)
 exact Xa (M:=[((3,0),(3,0)),((4,0),(4,0))]) (lit':=[((0,0),.rows 1 (a0.map z6)),((0,1),.rows 1 (a1.map z7)),((3,0),.rows 1 (a2.map z7)),((4,0),.rows 1 (wm 5 1 (v28.map (p3 z7))))]) (T:=(fam 5 v28.length none)) (q:=5) (q':=5) rfl (IsFam.cast (by first|rfl|simp) IsFam.base) (AI (p0 rfl (by first|rfl|omega|(simp;done)|(simp at *;omega)) rfl) (AI (p0 rfl (by first|rfl|omega|(simp;done)|(simp at *;omega)) rfl) (AI (Vw.mslW rfl (by first|rfl|omega|(simp;done)|(simp at *;omega))) (AI (p0 rfl (by first|rfl|omega|(simp;done)|(simp at *;omega)) rfl) TT)))) (AI (AI rfl (p1 z6 (fun _=>rfl) _ a0)) (AI (AI rfl (p1 z7 (fun _=>rfl) _ a1)) (AI (AI rfl (p1 z7 (fun _=>rfl) _ a2)) (AI (AI rfl p8) TT))))
theorem zb9{a0:List (List GR)}{a1:List Int}{a2:List Int}{v27:Int}{v28:List (List Int)}{m:Option Nat}{o:(Int×(List (List Int))) ⊕ (List Int)}(h:xk m a0 a1 a2 v27 v28=some o) :
 LWp Try.prog jz 3 z77 (yi 3 6 (X6 a0 a1 a2) (Xu a0 a1 a2) (W6 a0 a1 a2) o) [(0,.msl (0,0) 1 0 a0.length true),(1,.msl (0,1) 1 0 a1.length false),(2,.msl (3,0) 1 0 a2.length true),(6,.msl (4,0) 1 0 v28.length true),(20,.msl (0,0) 1 0 a0.length true),(21,i6 ((a0.length:Nat):Int)),(22,i6 v27)] ([((0,0),.rows 1 (a0.map z6)),((0,1),.rows 1 (a1.map z7)),((3,0),.rows 1 (a2.map z7)),((4,0),.rows 1 (wm 5 1 (v28.map (p3 z7))))]++(fam 5 v28.length none)) 6:=by
 unfold xk at h
 refine SR ?_
 refine xn ?_
 refine qh (v:=(decide (v27<((a0.length:Nat):Int)))) rfl TT (fun h254=>?_) (fun h254=>?_)
 ·have h:=zj h254 h
  refine qp ?_
  refine xn ?_
  refine zo ?_
  refine SR ?_
  obtain⟨h255,h⟩:=za h
  refine AI h255 ?_
  obtain⟨h256,h⟩:=za h
  refine EX (z6 (a0.getD (0+v27.toNat) default)) (AI (zc z6 _ _ h256) (AI (AI (kv z6 h256) (NB rfl)) ?_))
  refine SR ?_
  refine p2 (e:=[(0,.msl (0,0) 1 0 a0.length true),(1,.msl (0,1) 1 0 a1.length false),(2,.msl (3,0) 1 0 a2.length true),(6,.msl (4,0) 1 0 v28.length true),(7,i6 v27),(20,.msl (0,0) 1 0 a0.length true),(21,i6 ((a0.length:Nat):Int)),(22,i6 v27),(27,.isl 2 ((a0.getD (0+v27.toNat) default).map z8) false),(28,i6 (((a0.getD (0+v27.toNat) default).map z8).length:Int)),(29,i6 0)]) (L:=([((0,0),.rows 1 (a0.map z6)),((0,1),.rows 1 (a1.map z7)),((3,0),.rows 1 (a2.map z7)),((4,0),.rows 1 (wm 5 1 (v28.map (p3 z7))))]++(fam 5 v28.length none))) (n:=6) ?_ ?_
  ·exact Xa (M:=[((3,0),(3,0)),((4,0),(4,0))]) (lit':=[((0,0),.rows 1 (a0.map z6)),((0,1),.rows 1 (a1.map z7)),((3,0),.rows 1 (a2.map z7)),((4,0),.rows 1 (wm 5 1 (v28.map (p3 z7))))]) (T:=(fam 5 v28.length none)) (q:=5) (q':=5) rfl (IsFam.cast (by first|rfl|simp) IsFam.base) (AI (p0 rfl (by first|rfl|omega|(simp;done)|(simp at *;omega)) rfl) (AI (p0 rfl (by first|rfl|omega|(simp;done)|(simp at *;omega)) rfl) (AI (p0 rfl (by first|rfl|omega|(simp;done)|(simp at *;omega)) rfl) (AI (p0 rfl (by first|rfl|omega|(simp;done)|(simp at *;omega)) rfl) (AI (VS rfl) (AI (p0 rfl (by first|rfl|omega|(simp;done)|(simp at *;omega)) rfl) (S4 rfl rfl rfl rfl (AI (VS rfl) TT)))))))) (AI (AI rfl (p1 z6 (fun _=>rfl) _ a0)) (AI (AI rfl (p1 z7 (fun _=>rfl) _ a1)) (AI (AI rfl (p1 z7 (fun _=>rfl) _ a2)) (AI (AI rfl p8) TT))))
  refine zo ?_
  refine p2 ?_ (zd8 h)
  exact Xa (M:=[((3,0),(3,0)),((4,0),(4,0))]) (lit':=[((0,0),.rows 1 (a0.map z6)),((0,1),.rows 1 (a1.map z7)),((3,0),.rows 1 (a2.map z7)),((4,0),.rows 1 (wm 5 1 (v28.map (p3 z7))))]) (T:=(fam 5 v28.length none)) (q:=5) (q':=5) rfl (IsFam.cast (by first|rfl|simp) IsFam.base) (AI (p0 rfl (by first|rfl|omega|(simp;done)|(simp at *;omega)) rfl) (AI (p0 rfl (by first|rfl|omega|(simp;done)|(simp at *;omega)) rfl) (AI (p0 rfl (by first|rfl|omega|(simp;done)|(simp at *;omega)) rfl) (AI (p0 rfl (by first|rfl|omega|(simp;done)|(simp at *;omega)) rfl) (AI (VS rfl) (AI (p0 rfl (by first|rfl|omega|(simp;done)|(simp at *;omega)) rfl) (S4 rfl rfl rfl rfl (AI (VS rfl) TT)))))))) (AI (AI rfl (p1 z6 (fun _=>rfl) _ a0)) (AI (AI rfl (p1 z7 (fun _=>rfl) _ a1)) (AI (AI rfl (p1 z7 (fun _=>rfl) _ a2)) (AI (AI rfl p8) TT))))
 ·have h:=zm h254 h
  refine ur ?_
  obtain⟨o,hq,rfl⟩:=p4.1 h
  replace h:=hq;clear hq
  refine AI nofun ?_
  refine p2 ?_ (za8 h)
  exact Xa (M:=[((3,0),(3,0)),((4,0),(4,0))]) (lit':=[((0,0),.rows 1 (a0.map z6)),((0,1),.rows 1 (a1.map z7)),((3,0),.rows 1 (a2.map z7)),((4,0),.rows 1 (wm 5 1 (v28.map (p3 z7))))]) (T:=(fam 5 v28.length none)) (q:=5) (q':=5) rfl (IsFam.cast (by first|rfl|simp) IsFam.base) (AI (p0 rfl (by first|rfl|omega|(simp;done)|(simp at *;omega)) rfl) (AI (p0 rfl (by first|rfl|omega|(simp;done)|(simp at *;omega)) rfl) (AI (p0 rfl (by first|rfl|omega|(simp;done)|(simp at *;omega)) rfl) (AI (p0 rfl (by first|rfl|omega|(simp;done)|(simp at *;omega)) rfl) TT)))) (AI (AI rfl (p1 z6 (fun _=>rfl) _ a0)) (AI (AI rfl (p1 z7 (fun _=>rfl) _ a1)) (AI (AI rfl (p1 z7 (fun _=>rfl) _ a2)) (AI (AI rfl p8) TT))))
theorem zeg{a0:List (List GR)}{a1:List Int}{a2:List Int}{v27:Int}{v28:List (List Int)}{m:Option Nat}{o:(List Int)}(h:vq m a0 a1 a2 v27 v28=some o) :
 LWp Try.prog jz 3 (.loop z77) (zb 0 (uw Try.prog jz 3 z2k (z12 a0 a1 a2 o))) [(0,.msl (0,0) 1 0 a0.length true),(1,.msl (0,1) 1 0 a1.length false),(2,.msl (3,0) 1 0 a2.length true),(6,.msl (4,0) 1 0 v28.length true),(20,.msl (0,0) 1 0 a0.length true),(21,i6 ((a0.length:Nat):Int)),(22,i6 v27)] ([((0,0),.rows 1 (a0.map z6)),((0,1),.rows 1 (a1.map z7)),((3,0),.rows 1 (a2.map z7)),((4,0),.rows 1 (wm 5 1 (v28.map (p3 z7))))]++(fam 5 v28.length none)) 6:=
 zn (m:=m) (s:=((v27,v28):(Int×(List (List Int))))) (r:=o) (fun(s:(Int×(List (List Int))))=>xk m a0 a1 a2 s.1 s.2) (X6 a0 a1 a2) (Xu a0 a1 a2) (W6 a0 a1 a2) (fun s o h=>zb9 h) h
def xi(m:Option Nat)(a0:List (List GR))(a1:List Int)(a2:List Int):Option (List Int):=
 if(0:Int)≤((a0.length:Nat):Int)∧((a0.length:Nat):Int)≤((a0.length:Nat):Int)∧((a0.length:Nat):Int)*24≤140737488355328 then
 vq m a0 a1 a2 0 (p5 ((a0.length:Nat):Int).toNat ([]:List Int))
 else none
theorem zfx{a0:List (List GR)}{a1:List Int}{a2:List Int}{m:Option Nat}{o:(List Int)}(h:xi m a0 a1 a2=some o):LWp Try.prog jz 3 zdh (z12 a0 a1 a2 o) (qe 0 [.msl (0,0) 1 0 a0.length true,.msl (0,1) 1 0 a1.length false,.msl (0,2) 1 0 a2.length true]) [((0,0),.rows 1 (a0.map z6)),((0,1),.rows 1 (a1.map z7)),((0,2),.rows 1 (a2.map z7))] 3:=by
 unfold xi at h
 refine SR ?_
 obtain⟨h1,h⟩:=za h
 refine EX (p5 ((a0.length:Nat):Int).toNat [AVal.isl 1 [] true]) (EX true (AI (Or.inr rfl) (AI (by simp) (AI h1 ?_))))
 refine p2 (e:=[(0,.msl (0,0) 1 0 a0.length true),(1,.msl (0,1) 1 0 a1.length false),(2,.msl (3,0) 1 0 a2.length true),(6,.msl (4,0) 1 0 ((p5 ((a0.length:Nat):Int).toNat ([]:List Int)).length) true)]) (L:=([((0,0),.rows 1 (a0.map z6)),((0,1),.rows 1 (a1.map z7)),((3,0),.rows 1 (a2.map z7)),((4,0),.rows 1 (wm 5 1 ((p5 ((a0.length:Nat):Int).toNat ([]:List Int)).map (p3 z7))))]++(fam 5 (p5 ((a0.length:Nat):Int).toNat ([]:List Int)).length none))) (n:=6) ?_ ?_
 ·exact zvp (M:=[((3,0),(0,2)),((4,0),(3,0))]) (lit':=[((3,0),.rows 1 (p5 ((a0.length:Nat):Int).toNat [.isl 1 [] true])),((0,0),.rows 1 (a0.map z6)),((0,1),.rows 1 (a1.map z7)),((0,2),.rows 1 (a2.map z7))]) (T:=[]) (q:=104) (q':=5) rfl (AI (p0 rfl (by first|rfl|omega|(simp;done)|(simp at *;omega)) rfl) (AI (p0 rfl (by first|rfl|omega|(simp;done)|(simp at *;omega)) rfl) (AI (p0 rfl (by first|rfl|omega|(simp;done)|(simp at *;omega)) rfl) (AI (p0 rfl (by first|rfl|omega|(simp;done)|(simp at *;omega)) rfl) TT)))) (AI (AI rfl (p1 z6 (fun _=>rfl) _ a0)) (AI (AI rfl (p1 z7 (fun _=>rfl) _ a1)) (AI (AI rfl (p1 z7 (fun _=>rfl) _ a2)) (AI (AI rfl (BVw.grNewE z7 (by decide))) TT))))
 refine xn ?_
 refine SR ?_
 refine zo ?_
 refine p2 ?_ (zeg h)
 exact Xa (M:=[((3,0),(3,0)),((4,0),(4,0))]) (lit':=[((0,0),.rows 1 (a0.map z6)),((0,1),.rows 1 (a1.map z7)),((3,0),.rows 1 (a2.map z7)),((4,0),.rows 1 (wm 5 1 ((p5 ((a0.length:Nat):Int).toNat ([]:List Int)).map (p3 z7))))]) (T:=(fam 5 (p5 ((a0.length:Nat):Int).toNat ([]:List Int)).length none)) (q:=5) (q':=5) rfl (IsFam.cast (by first|rfl|simp) IsFam.base) (AI (p0 rfl (by first|rfl|omega|(simp;done)|(simp at *;omega)) rfl) (AI (p0 rfl (by first|rfl|omega|(simp;done)|(simp at *;omega)) rfl) (AI (p0 rfl (by first|rfl|omega|(simp;done)|(simp at *;omega)) rfl) (AI (p0 rfl (by first|rfl|omega|(simp;done)|(simp at *;omega)) rfl) (AI (p0 rfl (by first|rfl|omega|(simp;done)|(simp at *;omega)) rfl) (S2 rfl rfl TT)))))) (AI (AI rfl (p1 z6 (fun _=>rfl) _ a0)) (AI (AI rfl (p1 z7 (fun _=>rfl) _ a1)) (AI (AI rfl (p1 z7 (fun _=>rfl) _ a2)) (AI (AI rfl p8) TT))))
theorem zha{a0:List (List GR)}{a1:List Int}{a2:List Int}{m:Option Nat}{o:(List Int)}(h:xi m a0 a1 a2=some o):ACalls Try.prog 22 [.msl (0,0) 1 0 a0.length true,.msl (0,1) 1 0 a1.length false,.msl (0,2) 1 0 a2.length true] [((0,0),.rows 1 (a0.map z6)),((0,1),.rows 1 (a1.map z7)),((0,2),.rows 1 (a2.map z7))] 3 (Ze 3 (.tup []) [((0,0),.rows 1 (a0.map z6)),((0,1),.rows 1 (o.map z7))]):=Zr (L:=zo0) zmp zn9 (NB rfl) (zfx h)
def zlb:LCode:=(.seq (.region [Qo 5 (.box (.t 2)),
 Qi 6 0])
 (.seq (.seq (.region [Qm 9 1,
  Qo 10 (.bin .lss (.t 9) (.c (i6 0))),
  Qm 11 10,
  Qn 12 1 (11,false),
  Qn 13 0 (11,false),
  Qg 14 (.nilck (.t 13)) (11,false),
  Qe 15 0 14 (11,false),
  Qk 16 1 15 (11,false),
  Qg 17 (.len false (.t 16)) (11,false),
  Qg 18 (.bin .geq (.t 12) (.t 17)) (11,false),
  Qo 19 (.pick (.t 11) (.c (.bool true)) (.t 18))])
 (.cond (.t 19)
  (.seq (.region [Qi 6 1])
  .ret)
  .skip))
 (.seq (.region [Qm 20 0,
  Qo 21 (.nilck (.t 20)),
  Qf 22 0 21,
  Ql 23 1 22,
  Qc 24 19 23,
  Qm 7 24])
 (.seq (.draw [⟨Qm 25 7,[]⟩,
  ⟨Qm 26 1,[]⟩,
  ⟨Qm 27 7,[]⟩,
  ⟨Qm 28 1,[]⟩,
  ⟨Qo 29 (.iaddr 1 (.t 27) (.t 28)),[]⟩,
  ⟨Ql 30 1 29,[]⟩,
  ⟨Qf 31 0 5,[]⟩,
  ⟨Ql 32 1 31,[]⟩,
  ⟨Qf 33 1 5,[]⟩,
  ⟨Ql 34 1 33,[]⟩,
  ⟨Qc 35 20 34,[5,7]⟩,
  ⟨Qo 36 (.build [(i6 0),(.isl 1 [] true)] [(0,1,(.t 32)),(1,1,(.t 35))]),[]⟩,
  ⟨Qo 37 (.mkSl true 2 [(i6 0),(.isl 1 [] true)] 1 [(0,(.t 36))]),[]⟩,
  ⟨Qo 38 (.app false 2 32 (.t 30) (.t 37)),[]⟩,
  ⟨Qo 39 (.iaddr 1 (.t 25) (.t 26)),[]⟩,
  ⟨⟨none,.store 1 (.t 39) (.t 38),none⟩,[]⟩])
 (.seq (.seq (.region [Qm 40 7,
  Qc 41 21 40,
  Qm 8 41])
 (.seq (.region [Qm 42 8,
  Qo 43 (.bin .neq (.t 42) (.c (i6 0)))])
 (.cond (.t 43)
  (.seq (.region [Qm 44 8,
   Qm 6 44])
  .ret)
  .skip)))
 (.seq (.region [Qm 45 0,
  Qm 46 7,
  Qo 47 (.nilck (.t 45)),
  Qf 48 0 47,
  ⟨none,.store 1 (.t 48) (.t 46),none⟩])
 (.seq (.region [Qm 49 7,
  Qm 50 0,
  Qo 51 (.nilck (.t 50)),
  Qf 52 1 51,
  Ql 53 1 52,
  Qm 54 1,
  Qo 55 (.mkSl false 1 [(i6 0)] 1 [(0,(.t 54))]),
  Qo 56 (.call 22 [(.t 49),(.t 53),(.t 55)])])
 (.seq (.region [Qi 6 0])
 .ret))))))))
def zja:Lay:=⟨57,[38,55],false⟩
def zi5:List LRes:=[.t 6]
def zv6:LFn:=⟨3,zja,zlb,zi5⟩
theorem zu1:Zb Try.prog [38,55] 9=some zv6:=by kernel_rfl
theorem zt7:Xk Try.prog 9:=⟨_,Try.func9,rfl,rfl⟩
def ym(m:Option Nat)(a0:Int)(a1:GR)(a2:List (List GR))(a3:List Int):Option (Int×(List (List GR))×(List Int)):=
 if((decide (a0<0)) || (decide (a0≥((a2.length:Nat):Int))))=true then
  some (1,a2,a3)
 else
  (qu m a2).bind fun v1=>
  if(0+a0.toNat)<v1.length then
  if(0:Int)≤a0∧a0<((v1.length:Nat):Int) then
  (uk m a1.fA).bind fun v2=>
  if(((v1.getD (0+a0.toNat) default)++([(GR.mk a1.fM v2)]:List GR)).map z8).length*32≤140737488355328 then
  if(0:Int)≤a0∧a0<((v1.length:Nat):Int) then
  (kl m (v1.set (0+a0.toNat) ((v1.getD (0+a0.toNat) default)++([(GR.mk a1.fM v2)]:List GR)))).bind fun v3=>
  if(v3 != 0)=true then
   some (v3,a2,a3)
  else
   (xi m (v1.set (0+a0.toNat) ((v1.getD (0+a0.toNat) default)++([(GR.mk a1.fM v2)]:List GR))) a3 ([a0]:List Int)).bind fun v4=>
   if v4.length=a3.length then
   some (0,(v1.set (0+a0.toNat) ((v1.getD (0+a0.toNat) default)++([(GR.mk a1.fM v2)]:List GR))),v4)
   else none
  else none
  else none
  else none
  else none
def zzj(a0:Int)(a1:GR)(a2:List (List GR))(a3:List Int)(o:Int×(List (List GR))×(List Int)):Exit→Env→AHeap→Nat→Prop:=W4 zi5 (Yy 3 5 (i6 o.1) [((0,0),.one [.msl (3,0) 1 0 o.2.1.length true,.msl (4,0) 1 0 o.2.2.length false]),((3,0),.rows 1 (o.2.1.map z6)),((4,0),.rows 1 (o.2.2.map z7))])
set_option maxHeartbeats 4000000 in
theorem zjg{a0:Int}{a1:GR}{a2:List (List GR)}{a3:List Int}{m:Option Nat}{o:Int×(List (List GR))×(List Int)}(h:ym m a0 a1 a2 a3=some o):LWp Try.prog zja 3 zlb (zzj a0 a1 a2 a3 o) (qe 0 [.ptr (0,0) 0 0,i6 a0,.agg [i6 a1.fM,.isl 1 (a1.fA.map z7) false]]) [((0,0),.one [.msl (0,1) 1 0 a2.length true,.msl (0,2) 1 0 a3.length false]),((0,1),.rows 1 (a2.map z6)),((0,2),.rows 1 (a3.map z7))] 3:=by
 unfold ym at h
 refine SR ?_
 refine xn ?_
 refine SR ?_
 refine HP ?_
 refine HP ?_
 refine HP ?_
 refine HP ?_
 refine AI (fun hp=>(AI hp hp)) ?_
 refine AI (fun hc=>(bqf hc)) ?_
 refine p2 (e:=[(0,.ptr (0,0) 0 0),(1,i6 a0),(5,.ptr (3,0) 0 0),(19,.bool ((decide (a0<0)) || (decide (a0≥((a2.length:Nat):Int)))))]) (L:=[((0,0),.one [.msl (4,0) 1 0 a2.length true,.msl (5,0) 1 0 a3.length false]),((3,0),.one [i6 a1.fM,.isl 1 (a1.fA.map z7) false]),((4,0),.rows 1 (a2.map z6)),((5,0),.rows 1 (a3.map z7))]) (n:=6) ?_ ?_
 ·exact qy (M:=[((3,0),(3,0)),((4,0),(0,1)),((5,0),(0,2))]) rfl (SP rfl (AI (VS rfl) (SP rfl (AI (VS rfl) TT)))) (AI (AI rfl (p6 (AI (p0 rfl (by first|rfl|omega|(simp;done)|(simp at *;omega)) rfl) (AI (p0 rfl (by first|rfl|omega|(simp;done)|(simp at *;omega)) rfl) TT)))) (AI (AI rfl (OL rfl)) (AI (AI rfl (p1 z6 (fun _=>rfl) _ a2)) (AI (AI rfl (p1 z7 (fun _=>rfl) _ a3)) TT))))
 refine qh (v:=((decide (a0<0)) || (decide (a0≥((a2.length:Nat):Int))))) rfl TT (fun h1=>?_) (fun h1=>?_)
 ·have h:=zj h1 h
  refine SR ?_
  refine Ya ?_
  cases h
  exact AI TT (z1f (n':=6) [((3,0),(4,0)),((4,0),(5,0))] [] rfl rfl (VS rfl) (AI (AI rfl (p6 (AI (p0 rfl (by first|rfl|omega|(simp;done)|(simp at *;omega)) rfl) (AI (p0 rfl (by first|rfl|omega|(simp;done)|(simp at *;omega)) rfl) TT)))) (AI (AI rfl (p1 z6 (fun _=>rfl) _ a2)) (AI (AI rfl (p1 z7 (fun _=>rfl) _ a3)) TT))))
 ·have h:=zm h1 h
  refine qp ?_
  refine SR ?_
  obtain⟨v1,h2,h⟩:=bind_some h
  refine zgf (k:=3) (m:=2) (qq:=6) (s:=2) (e:=z8) (l:=tl v1) (L':=[((4,0),.rows 1 (a2.map z6)),((7,0),.rows 1 (Y1 6 2 v1))]) (rest:=[((0,0),.one [.msl (4,0) 1 0 a2.length true,.msl (5,0) 1 0 a3.length false]),((3,0),.one [i6 a1.fM,.isl 1 (a1.fA.map z7) false]),((5,0),.rows 1 (a3.map z7))]) (R':=.msl (7,0) 1 0 v1.length true) zx 0 rfl [((0,0),(4,0))] (z7j h2) rfl rfl rfl rfl (AI (p0 rfl (by first|rfl|omega|(simp;done)|(simp at *;omega)) rfl) TT) (AI (h0I (4,0) rfl rfl (p1 z6 (fun _=>rfl) _ a2)) TT) rfl (AI rfl (AI (qj z6 (fun _=>rfl) _ _) (AI rfl (AI (z7x (fun _ _=>rfl)) TT)))) rfl rfl ?_
  refine xn ?_
  obtain⟨h4,h⟩:=za h
  refine p2 (e:=[(0,.ptr (0,0) 0 0),(1,i6 a0),(5,.ptr (3,0) 0 0),(7,.msl (4,0) 1 0 v1.length true)]) (L:=([((8,0),.rows 2 ((v1.getD (0+a0.toNat) default).map z8)),((0,0),.one [.msl (5,0) 1 0 a2.length true,.msl (6,0) 1 0 a3.length false]),((3,0),.one [i6 a1.fM,.isl 1 (a1.fA.map z7) false]),((4,0),.rows 1 (z11 7 2 v1 (0+a0.toNat) (.msl (8,0) 2 0 ((v1.getD (0+a0.toNat) default).length) false))),((5,0),.rows 1 (a2.map z6)),((6,0),.rows 1 (a3.map z7))]++(uz 7 2 z8 (tl v1) (some (0+a0.toNat))))) (n:=9) ?_ ?_
  ·exact zui (m:=(8,0)) (i:=(0+a0.toNat)) (M:=[((3,0),(3,0)),((4,0),(7,0)),((5,0),(4,0)),((6,0),(5,0))]) (lit':=[((4,0),.rows 1 (a2.map z6)),((7,0),.rows 1 (Y1 6 2 v1)),((0,0),.one [.msl (4,0) 1 0 a2.length true,.msl (5,0) 1 0 a3.length false]),((3,0),.one [i6 a1.fM,.isl 1 (a1.fA.map z7) false]),((5,0),.rows 1 (a3.map z7))]) (T:=(uz 6 2 z8 (tl v1) none)) (q:=6) (q':=7) zx (ziy h4) rfl (by decide) IsFamM.base (SP rfl (AI (VS rfl) (SP rfl (AI (p0 rfl (by first|rfl|omega|(simp;done)|(simp at *;omega)) rfl) TT)))) (AI (AI rfl (p6 (AI (p0 rfl (by first|rfl|omega|(simp;done)|(simp at *;omega)) rfl) (AI (p0 rfl (by first|rfl|omega|(simp;done)|(simp at *;omega)) rfl) TT)))) (AI (AI rfl (OL rfl)) (AI (AI rfl (BVw.tabF (z2h h4) (by decide) (zhg _))) (AI (AI rfl (p1 z6 (fun _=>rfl) _ a2)) (AI (AI rfl (p1 z7 (fun _=>rfl) _ a3)) TT)))))
  refine z59 ?_
  obtain⟨h5,h⟩:=za h
  refine AI h5 ?_
  refine EX ([.msl (8,0) 2 0 ((v1.getD (0+a0.toNat) default).length) false]) (AI (Jl h4) (AI (AI (Jd h4) (NB rfl)) ?_))
  obtain⟨v2,h6,h⟩:=bind_some h
  refine PFn.call (zf4 h6) (AI (VS rfl) TT) ?_
  refine AI rfl ?_
  refine AI (AI (AI (Jd h4) (NB rfl)) (congrArg (xj false 1 0) (Jl h4))) ?_
  obtain⟨h7,h⟩:=za h
  refine AI (fun h=>pA h) (AI (zyd z8 (by first|rfl|omega|(simp;done)|(simp at *;omega))) (EX (((v1.getD (0+a0.toNat) default)++([(GR.mk a1.fM v2)]:List GR)).map z8) (AI (zzp z8 (v1.getD (0+a0.toNat) default) ([(GR.mk a1.fM v2)]:List GR) (by first|rfl|omega|(simp;done)|(simp at *;omega))) (AI h7 ?_))))
  obtain⟨h8,h⟩:=za h
  refine AI h8 ?_
  refine EX (z11 7 2 v1 (0+a0.toNat) (.msl (9,0) 2 0 ((((v1.getD (0+a0.toNat) default)++([(GR.mk a1.fM v2)]:List GR)).map z8).length) false)) (AI (z0b h4) (AI (AI rfl (AI (Jd h4) (NB rfl))) ?_))
  refine p2 (e:=[(0,.ptr (0,0) 0 0),(1,i6 a0),(7,.msl (3,0) 1 0 ((v1.set (0+a0.toNat) ((v1.getD (0+a0.toNat) default)++([(GR.mk a1.fM v2)]:List GR))).length) true)]) (L:=([((0,0),.one [.msl (4,0) 1 0 a2.length true,.msl (5,0) 1 0 a3.length false]),((3,0),.rows 1 (Y1 6 2 (v1.set (0+a0.toNat) ((v1.getD (0+a0.toNat) default)++([(GR.mk a1.fM v2)]:List GR))))),((4,0),.rows 1 (a2.map z6)),((5,0),.rows 1 (a3.map z7))]++(uz 6 2 z8 (tl (v1.set (0+a0.toNat) ((v1.getD (0+a0.toNat) default)++([(GR.mk a1.fM v2)]:List GR)))) none))) (n:=8) ?_ ?_
  ·exact zu8 (t:=(9,0)) (i:=(0+a0.toNat)) (M:=[((3,0),(4,0)),((4,0),(5,0)),((5,0),(6,0))]) (lit':=[((9,0),.rows 2 (((v1.getD (0+a0.toNat) default)++([(GR.mk a1.fM v2)]:List GR)).map z8)),((0,0),.one [.msl (5,0) 1 0 a2.length true,.msl (6,0) 1 0 a3.length false]),((3,0),.one [i6 a1.fM,.isl 1 (a1.fA.map z7) false]),((4,0),.rows 1 (z11 7 2 v1 (0+a0.toNat) (.msl (9,0) 2 0 ((((v1.getD (0+a0.toNat) default)++([(GR.mk a1.fM v2)]:List GR)).map z8).length) false))),((5,0),.rows 1 (a2.map z6)),((6,0),.rows 1 (a3.map z7))]) (T:=(AHeap.del (uz 7 2 z8 (tl v1) (some (0+a0.toNat))) (8,0))) (q:=7) (q':=6) zx rfl (by decide) rfl (IsFamM.del (by decide) IsFamM.base) (SP rfl (AI (VS rfl) (AI (p0 rfl (by first|rfl|omega|(simp;done)|(simp at *;omega)) rfl) TT))) (AI (AI rfl (p6 (AI (p0 rfl (by first|rfl|omega|(simp;done)|(simp at *;omega)) rfl) (AI (p0 rfl (by first|rfl|omega|(simp;done)|(simp at *;omega)) rfl) TT)))) (AI (AI rfl (BVw.tabU (by first|rfl|omega|(simp;done)|(simp at *;omega)))) (AI (AI rfl (p1 z6 (fun _=>rfl) _ a2)) (AI (AI rfl (p1 z7 (fun _=>rfl) _ a3)) TT))))
  refine p2 (e:=[(0,.ptr (0,0) 0 0),(1,i6 a0),(7,.msl (3,0) 1 0 ((v1.set (0+a0.toNat) ((v1.getD (0+a0.toNat) default)++([(GR.mk a1.fM v2)]:List GR))).length) true)]) (L:=[((0,0),.one [.msl (4,0) 1 0 a2.length true,.msl (5,0) 1 0 a3.length false]),((3,0),.rows 1 ((v1.set (0+a0.toNat) ((v1.getD (0+a0.toNat) default)++([(GR.mk a1.fM v2)]:List GR))).map z6)),((4,0),.rows 1 (a2.map z6)),((5,0),.rows 1 (a3.map z7))]) (n:=7) ?_ ?_
  ·exact y0t (n':=8) (q:=6) (lit':=[((0,0),.one [.msl (4,0) 1 0 a2.length true,.msl (5,0) 1 0 a3.length false]),((3,0),.rows 1 (Y1 6 2 (v1.set (0+a0.toNat) ((v1.getD (0+a0.toNat) default)++([(GR.mk a1.fM v2)]:List GR))))),((4,0),.rows 1 (a2.map z6)),((5,0),.rows 1 (a3.map z7))]) (T:=(uz 6 2 z8 (tl (v1.set (0+a0.toNat) ((v1.getD (0+a0.toNat) default)++([(GR.mk a1.fM v2)]:List GR)))) none)) [((3,0),(3,0)),((4,0),(4,0)),((5,0),(5,0))] [] rfl rfl rfl (SP rfl (AI (VS rfl) (AI (p0 rfl (by first|rfl|omega|(simp;done)|(simp at *;omega)) rfl) TT))) (AI (AI rfl (p6 (AI (p0 rfl (by first|rfl|omega|(simp;done)|(simp at *;omega)) rfl) (AI (p0 rfl (by first|rfl|omega|(simp;done)|(simp at *;omega)) rfl) TT)))) (AI (AI rfl (BVw.tabZE Xp (fun _=>rfl) rfl IsFamM.base)) (AI (AI rfl (p1 z6 (fun _=>rfl) _ a2)) (AI (AI rfl (p1 z7 (fun _=>rfl) _ a3)) TT))))
  refine xn ?_
  refine SR ?_
  obtain⟨v3,h9,h⟩:=bind_some h
  refine PFn.readB [(3,0)] (zr8 h9) rfl (AI (Vw.frzB z6 Xd (fun h=>pA h) rfl rfl (by first|rfl|omega|(simp;done)|(simp at *;omega))) TT) ?_
  refine SR ?_
  refine qh (v:=(v3 != 0)) rfl TT (fun h10=>?_) (fun h10=>?_)
  ·have h:=zj h10 h
   refine SR ?_
   refine Ya ?_
   cases h
   exact AI TT (z1f (n':=7) [((3,0),(4,0)),((4,0),(5,0))] [] rfl rfl (VS rfl) (AI (AI rfl (p6 (AI (p0 rfl (by first|rfl|omega|(simp;done)|(simp at *;omega)) rfl) (AI (p0 rfl (by first|rfl|omega|(simp;done)|(simp at *;omega)) rfl) TT)))) (AI (AI rfl (p1 z6 (fun _=>rfl) _ a2)) (AI (AI rfl (p1 z7 (fun _=>rfl) _ a3)) TT))))
  ·have h:=zm h10 h
   refine qp ?_
   refine SR ?_
   refine p2 (e:=[(0,.ptr (0,0) 0 0),(1,i6 a0),(7,.msl (3,0) 1 0 ((v1.set (0+a0.toNat) ((v1.getD (0+a0.toNat) default)++([(GR.mk a1.fM v2)]:List GR))).length) true)]) (L:=[((0,0),.one [.msl (3,0) 1 0 ((v1.set (0+a0.toNat) ((v1.getD (0+a0.toNat) default)++([(GR.mk a1.fM v2)]:List GR))).length) true,.msl (4,0) 1 0 a3.length false]),((3,0),.rows 1 ((v1.set (0+a0.toNat) ((v1.getD (0+a0.toNat) default)++([(GR.mk a1.fM v2)]:List GR))).map z6)),((4,0),.rows 1 (a3.map z7))]) (n:=5) ?_ ?_
   ·exact qy (M:=[((3,0),(3,0)),((4,0),(5,0))]) rfl (SP rfl (AI (VS rfl) (AI (p0 rfl (by first|rfl|omega|(simp;done)|(simp at *;omega)) rfl) TT))) (AI (AI rfl (p6 (AI (p0 rfl (by first|rfl|omega|(simp;done)|(simp at *;omega)) rfl) (AI (p0 rfl (by first|rfl|omega|(simp;done)|(simp at *;omega)) rfl) TT)))) (AI (AI rfl (p1 z6 (fun _=>rfl) _ (v1.set (0+a0.toNat) ((v1.getD (0+a0.toNat) default)++([(GR.mk a1.fM v2)]:List GR))))) (AI (AI rfl (p1 z7 (fun _=>rfl) _ a3)) TT)))
   refine SR ?_
   obtain⟨v4,h11,h⟩:=bind_some h
   refine Q4 (k:=3) (m:=0) (L':=[((3,0),.rows 1 ((v1.set (0+a0.toNat) ((v1.getD (0+a0.toNat) default)++([(GR.mk a1.fM v2)]:List GR))).map z6)),((4,0),.rows 1 (v4.map z7))]) (rest:=[((0,0),.one [.msl (3,0) 1 0 ((v1.set (0+a0.toNat) ((v1.getD (0+a0.toNat) default)++([(GR.mk a1.fM v2)]:List GR))).length) true,.msl (4,0) 1 0 a3.length false])]) (R':=.tup []) [((0,0),(3,0)),((0,1),(4,0)),((0,2),(5,0))] (zha h11) rfl rfl rfl (AI (p0 rfl (by first|rfl|omega|(simp;done)|(simp at *;omega)) rfl) (AI (p0 rfl (by first|rfl|omega|(simp;done)|(simp at *;omega)) rfl) (AI (p0 rfl (by first|rfl|omega|(simp;done)|(simp at *;omega)) rfl) TT))) (AI (h0I (3,0) rfl rfl (p1 z6 (fun _=>rfl) _ (v1.set (0+a0.toNat) ((v1.getD (0+a0.toNat) default)++([(GR.mk a1.fM v2)]:List GR))))) (AI (h0I (4,0) rfl rfl (p1 z7 (fun _=>rfl) _ a3)) (AI (h0I (5,0) rfl rfl (p1 z7 (fun _=>rfl) _ ([a0]:List Int))) TT))) (Zd _ rfl) (AI rfl (AI (qj z6 (fun _=>rfl) _ _) (AI rfl (AI (qj z7 (fun _=>rfl) _ _) TT)))) rfl ?_
   obtain⟨h12,h⟩:=za h
   refine p2 (e:=[]) (L:=[((0,0),.one [.msl (3,0) 1 0 ((v1.set (0+a0.toNat) ((v1.getD (0+a0.toNat) default)++([(GR.mk a1.fM v2)]:List GR))).length) true,.msl (4,0) 1 0 a3.length false]),((3,0),.rows 1 ((v1.set (0+a0.toNat) ((v1.getD (0+a0.toNat) default)++([(GR.mk a1.fM v2)]:List GR))).map z6)),((4,0),.rows 1 (v4.map z7))]) (n:=5) ?_ ?_
   ·exact qy (M:=[((3,0),(3,0)),((4,0),(4,0))]) rfl TT (AI (AI rfl (p6 (AI (p0 rfl (by first|rfl|omega|(simp;done)|(simp at *;omega)) rfl) (AI (p0 rfl (by first|rfl|omega|(simp;done)|(simp at *;omega)) rfl) TT)))) (AI (AI rfl (p1 z6 (fun _=>rfl) _ (v1.set (0+a0.toNat) ((v1.getD (0+a0.toNat) default)++([(GR.mk a1.fM v2)]:List GR))))) (AI (AI rfl (p1 z7 (fun _=>rfl) _ v4)) TT)))
   refine SR ?_
   refine Ya ?_
   cases h
   exact AI TT (z1f (n':=5) [((3,0),(3,0)),((4,0),(4,0))] [] rfl rfl (VS rfl) (AI (AI rfl (p6 (AI (p0 rfl (by first|rfl|omega|(simp;done)|(simp at *;omega)) rfl) (AI (p0 rfl (by first|rfl|omega|(simp;done)|(simp at *;omega)) rfl) TT)))) (AI (AI rfl (p1 z6 (fun _=>rfl) _ (v1.set (0+a0.toNat) ((v1.getD (0+a0.toNat) default)++([(GR.mk a1.fM v2)]:List GR))))) (AI (AI rfl (p1 z7 (fun _=>rfl) _ v4)) TT))))
theorem zxd{a0:Int}{a1:GR}{a2:List (List GR)}{a3:List Int}{m:Option Nat}{o:Int×(List (List GR))×(List Int)}(h:ym m a0 a1 a2 a3=some o):ACalls Try.prog 9 [.ptr (0,0) 0 0,i6 a0,.agg [i6 a1.fM,.isl 1 (a1.fA.map z7) false]] [((0,0),.one [.msl (0,1) 1 0 a2.length true,.msl (0,2) 1 0 a3.length false]),((0,1),.rows 1 (a2.map z6)),((0,2),.rows 1 (a3.map z7))] 3 (Ze 5 (i6 o.1) [((0,0),.one [.msl (3,0) 1 0 o.2.1.length true,.msl (4,0) 1 0 o.2.2.length false]),((3,0),.rows 1 (o.2.1.map z6)),((4,0),.rows 1 (o.2.2.map z7))]):=Zr (L:=zv6) zu1 zt7 (NB rfl) (zjg h)
def qo(m:Option Nat)(a0:List GR):Option (List GR):=zye 32 a0
theorem zpd:Xk Try.prog 10:=⟨_,Try.func10,rfl,rfl⟩
theorem zik{m:Option Nat}{a0:List GR}{o:List GR}(h:qo m a0=some o):ACalls Try.prog 10 [.isl 2 (a0.map z8) false] [] 3 (Ze 4 (.msl (3,0) 2 0 o.length false) [((3,0),.rows 2 (o.map z8))]):=
 z6r z8 (fun _=>rfl) (by kernel_rfl) zpd h _
def Try.i24_ren:Go.Shelf.Ren:=⟨fun|24=>24|n=>n,fun|24=>24|9=>37|3=>3|4=>4|0=>0|n=>n,fun|n=>n⟩
theorem Try.i24:DelL Try.prog Try.i24_ren:={
 mixed:=by kernel_rfl
 f24:=⟨Try.f24.name,Try.func24.trans (congrArg some (by kernel_rfl))⟩
 t0:=Try.underlying0
 a0:=Try.isAgg0
 z0:=Try.sizeOf0
 v0:=Try.zeroValue0
 t3:=Try.underlying3
 a3:=Try.isAgg3
 z3:=Try.sizeOf3
 v3:=Try.zeroValue3
 t4:=Try.underlying4
 a4:=Try.isAgg4
 z4:=Try.sizeOf4
 v4:=Try.zeroValue4
 t24:=Try.underlying24
 a24:=Try.isAgg24
 z24:=Try.sizeOf24
 v24:=Try.zeroValue24 }
def kp(m:Option Nat)(a0:Int)(a1:Int)(a2:List GR):Option (List GR):=y0s a2 a0 a1
theorem zqz:Xk Try.prog 24:=⟨_,Try.func24,rfl,rfl⟩
theorem zs8{m:Option Nat}{a0:Int}{a1:Int}{a2:List GR}{o:List GR}(h:kp m a0 a1 a2=some o):ACalls Try.prog 24 [.msl (0,0) 2 0 a2.length false,i6 a0,i6 a1] [((0,0),.rows 2 (a2.map z8))] 3 (Ze 4 (.msl (3,0) 2 0 o.length false) [((3,0),.rows 2 (o.map z8))]):=
 zf7 (zs:=[(i6 0),(.isl 1 [] true)]) z8 Try.i24 (by kernel_rfl) (by kernel_rfl) (by decide) rfl zqz rfl h _
def zgk:LCode:=(.region [Qo 117 (.bin .add (.t 88) (.c (i6 1))),
 Qm 88 117])
def z7k:LCode:=(.seq (.region [Qo 89 (.bin .lss (.t 88) (.t 87))])
 (.seq (.cond (.t 89)
  .skip
  (.exit 7))
 (.seq (.block 8
  (.seq (.region [Qo 90 (.iaddr 1 (.t 86) (.t 88)),
   Ql 91 1 90,
   Qm 14 91])
  (.seq (.draw [⟨Qt 92 2 12,[]⟩,
   ⟨Qm 93 0,[]⟩,
   ⟨Qo 94 (.nilck (.t 93)),[]⟩,
   ⟨Qf 95 1 94,[]⟩,
   ⟨Ql 96 1 95,[]⟩,
   ⟨Qm 98 7,[]⟩,
   ⟨Qm 99 14,[]⟩,
   ⟨Qo 100 (.iaddr 1 (.t 98) (.t 99)),[]⟩,
   ⟨Ql 101 1 100,[]⟩,
   ⟨Qm 103 7,[]⟩,
   ⟨Qm 104 9,[]⟩,
   ⟨Qo 105 (.iaddr 1 (.t 103) (.t 104)),[]⟩,
   ⟨Ql 106 1 105,[]⟩,
   ⟨Qo 97 (.call 23 [(.t 92),(.t 96)]),[8,12]⟩,
   ⟨Qo 102 (.bin .and (.t 97) (.t 101)),[]⟩,
   ⟨Qo 107 (.bin .andNot (.t 102) (.t 106)),[]⟩,
   ⟨Qm 15 107,[]⟩])
  (.seq (.region [Qm 108 15,
   Qo 109 (.bin .neq (.t 108) (.c (i6 0)))])
  (.cond (.t 109)
   (.seq (.region [Qm 110 7,
    Qm 111 9,
    Qo 112 (.iaddr 1 (.t 110) (.t 111)),
    Ql 113 1 112,
    Qm 114 15,
    Qo 115 (.bin .or (.t 113) (.t 114)),
    Qo 116 (.iaddr 1 (.t 110) (.t 111)),
    ⟨none,.store 1 (.t 116) (.t 115),none⟩])
   (.region [Qo 8 (.mv (.c (.bool true)))]))
   .skip)))))
 zgk)))
def z3a:LCode:=(.region [Qo 118 (.bin .add (.t 81) (.c (i6 1))),
 Qm 81 118])
def z95:LCode:=(.seq (.region [Qo 82 (.bin .lss (.t 81) (.t 80))])
 (.seq (.cond (.t 82)
  .skip
  (.exit 5))
 (.seq (.block 6
  (.seq (.region [Qo 83 (.iaddr 2 (.t 79) (.t 81)),
   Qt 84 2 83,
   Qo 12 (.alloc [(i6 0),(.isl 1 [] true)]),
   ⟨none,.store 2 (.t 12) (.t 84),none⟩])
  (.seq (.region [Qf 85 1 12,
   Ql 86 1 85,
   Qo 87 (.len false (.t 86)),
   Qi 88 0])
  (.block 7
   (.loop
    z7k)))))
 z3a)))
def z36:LCode:=(.region [Qo 119 (.bin .add (.t 74) (.c (i6 1))),
 Qm 74 119])
def z7b:LCode:=(.seq (.region [Qo 75 (.bin .lss (.t 74) (.t 73))])
 (.seq (.cond (.t 75)
  .skip
  (.exit 3))
 (.seq (.block 4
  (.seq (.region [Qm 76 74,
   Qo 77 (.iaddr 1 (.t 72) (.t 74)),
   Ql 78 1 77,
   Qm 9 76,
   Qm 10 78])
  (.seq (.region [Qm 79 10,
   Qo 80 (.len false (.t 79)),
   Qi 81 0])
  (.block 5
   (.loop
    z95)))))
 z36)))
def z6y:LCode:=(.seq (.seq (.region [Qm 68 8])
 (.cond (.t 68)
  .skip
  (.exit 1)))
 (.block 2
  (.seq (.region [Qb 8])
  (.seq (.region [Qm 69 0,
   Qo 70 (.nilck (.t 69)),
   Qf 71 0 70,
   Ql 72 1 71,
   Qo 73 (.len false (.t 72)),
   Qi 74 0])
  (.block 3
   (.loop
    z7b))))))
def z8l:LCode:=(.seq (.region [Qo 126 (.bin .lss (.t 125) (.t 124))])
 (.seq (.cond (.t 126)
  .skip
  (.exit 9))
 (.seq (.block 10
  (.seq (.region [Qm 127 125,
   Qm 16 127])
  (.draw [⟨Qm 128 0,[]⟩,
   ⟨Qo 129 (.nilck (.t 128)),[]⟩,
   ⟨Qf 130 1 129,[]⟩,
   ⟨Ql 131 1 130,[]⟩,
   ⟨Qm 132 16,[]⟩,
   ⟨Qo 133 (.iaddr 1 (.t 131) (.t 132)),[]⟩,
   ⟨Ql 134 1 133,[]⟩,
   ⟨Qm 135 7,[]⟩,
   ⟨Qm 136 16,[]⟩,
   ⟨Qo 137 (.iaddr 1 (.t 135) (.t 136)),[]⟩,
   ⟨Ql 138 1 137,[]⟩,
   ⟨Qo 139 (.bin .andNot (.t 134) (.t 138)),[]⟩,
   ⟨Qo 140 (.iaddr 1 (.t 131) (.t 132)),[]⟩,
   ⟨⟨none,.store 1 (.t 140) (.t 139),none⟩,[]⟩])))
 (.region [Qo 141 (.bin .add (.t 125) (.c (i6 1))),
  Qm 125 141]))))
def z2n:LCode:=(.seq (.region [Qm 142 0,
 Qm 143 0,
 Qo 144 (.nilck (.t 143)),
 Qf 145 0 144,
 Ql 146 1 145,
 Qc 147 19 146,
 Qo 148 (.nilck (.t 142)),
 Qf 149 0 148,
 ⟨none,.store 1 (.t 149) (.t 147),none⟩])
 (.seq (.draw [⟨Qm 150 0,[]⟩,
  ⟨Qo 151 (.nilck (.t 150)),[]⟩,
  ⟨Qf 152 0 151,[]⟩,
  ⟨Ql 153 1 152,[]⟩,
  ⟨Qm 154 1,[]⟩,
  ⟨Qm 155 0,[]⟩,
  ⟨Qo 156 (.nilck (.t 155)),[]⟩,
  ⟨Qf 157 0 156,[]⟩,
  ⟨Ql 158 1 157,[]⟩,
  ⟨Qm 159 1,[]⟩,
  ⟨Qo 160 (.iaddr 1 (.t 158) (.t 159)),[]⟩,
  ⟨Ql 161 1 160,[]⟩,
  ⟨Qm 162 2,[]⟩,
  ⟨Qm 163 2,[]⟩,
  ⟨Qo 164 (.bin .add (.t 163) (.c (i6 1))),[]⟩,
  ⟨Qo 165 (.call 24 [(.t 161),(.t 162),(.t 164)]),[3]⟩,
  ⟨Qo 166 (.iaddr 1 (.t 153) (.t 154)),[]⟩,
  ⟨⟨none,.store 1 (.t 166) (.t 165),none⟩,[]⟩])
 (.seq (.draw [⟨Qm 167 0,[]⟩,
  ⟨Qo 168 (.nilck (.t 167)),[]⟩,
  ⟨Qf 169 0 168,[]⟩,
  ⟨Ql 170 1 169,[]⟩,
  ⟨Qm 171 0,[]⟩,
  ⟨Qo 172 (.nilck (.t 171)),[]⟩,
  ⟨Qf 173 1 172,[]⟩,
  ⟨Ql 174 1 173,[]⟩,
  ⟨Qm 175 0,[]⟩,
  ⟨Qo 176 (.nilck (.t 175)),[]⟩,
  ⟨Qf 177 0 176,[]⟩,
  ⟨Ql 178 1 177,[]⟩,
  ⟨Qo 179 (.len false (.t 178)),[]⟩,
  ⟨Qc 180 25 179,[3,7]⟩,
  ⟨Qo 181 (.call 22 [(.t 170),(.t 174),(.t 180)]),[]⟩])
 (.seq (.region [Qi 6 0])
 .ret))))
def z2m:LCode:=(.seq (.seq (.region [Qm 120 0,
 Qo 121 (.nilck (.t 120)),
 Qf 122 1 121,
 Ql 123 1 122,
 Qo 124 (.len false (.t 123)),
 Qi 125 0])
 (.block 9
  (.loop
   z8l)))
 z2n)
def zcj:LCode:=(.seq (.region [Qi 6 0])
 (.seq (.block 0
  (.seq (.region [Qm 18 1,
   Qo 19 (.bin .lss (.t 18) (.c (i6 0))),
   Qm 20 19,
   Qn 21 1 (20,false),
   Qn 22 0 (20,false),
   Qg 23 (.nilck (.t 22)) (20,false),
   Qe 24 0 23 (20,false),
   Qk 25 1 24 (20,false),
   Qg 26 (.len false (.t 25)) (20,false),
   Qg 27 (.bin .geq (.t 21) (.t 26)) (20,false),
   Qo 28 (.pick (.t 20) (.c (.bool true)) (.t 27)),
   Qm 17 28])
  (.cond (.t 17)
   (.seq (.region [Qi 6 1])
   .ret)
   (.seq (.region [Qm 30 2,
    Qo 31 (.bin .lss (.t 30) (.c (i6 0))),
    Qm 32 31,
    Qn 33 2 (32,false),
    Qn 34 0 (32,false),
    Qg 35 (.nilck (.t 34)) (32,false),
    Qe 36 0 35 (32,false),
    Qk 37 1 36 (32,false),
    Qn 38 1 (32,false),
    Qg 39 (.iaddr 1 (.t 37) (.t 38)) (32,false),
    Qk 40 1 39 (32,false),
    Qg 41 (.len false (.t 40)) (32,false),
    Qg 42 (.bin .geq (.t 33) (.t 41)) (32,false),
    Qo 43 (.pick (.t 32) (.c (.bool true)) (.t 42)),
    Qm 29 43])
   (.cond (.t 29)
    (.seq (.region [Qi 6 5])
    .ret)
    .skip)))))
 (.seq (.region [Qm 44 0,
  Qo 45 (.nilck (.t 44)),
  Qf 46 0 45,
  Ql 47 1 46,
  Qo 48 (.len false (.t 47)),
  Qo 49 (.mkslice false 1 8 [(i6 0)] (.t 48) (.t 48)),
  Qm 7 49])
 (.seq (.draw [⟨Qm 50 7,[]⟩,
  ⟨Qm 51 1,[]⟩,
  ⟨Qm 52 0,[]⟩,
  ⟨Qo 53 (.nilck (.t 52)),[]⟩,
  ⟨Qf 54 0 53,[]⟩,
  ⟨Ql 55 1 54,[]⟩,
  ⟨Qm 56 1,[]⟩,
  ⟨Qo 57 (.iaddr 1 (.t 55) (.t 56)),[]⟩,
  ⟨Ql 58 1 57,[]⟩,
  ⟨Qm 59 2,[]⟩,
  ⟨Qo 60 (.iaddr 2 (.t 58) (.t 59)),[]⟩,
  ⟨Qt 61 2 60,[]⟩,
  ⟨Qm 62 0,[]⟩,
  ⟨Qo 63 (.nilck (.t 62)),[]⟩,
  ⟨Qf 64 1 63,[]⟩,
  ⟨Ql 65 1 64,[]⟩,
  ⟨Qo 66 (.call 23 [(.t 61),(.t 65)]),[]⟩,
  ⟨Qo 67 (.iaddr 1 (.t 50) (.t 51)),[]⟩,
  ⟨⟨none,.store 1 (.t 67) (.t 66),none⟩,[]⟩])
 (.seq (.seq (.region [Qo 8 (.mv (.c (.bool true)))])
 (.block 1
  (.loop
   z6y)))
 z2m)))))
def jb:Lay:=⟨182,[49],false⟩
def z9y:List LRes:=[.t 6]
def zmc:LFn:=⟨3,jb,zcj,z9y⟩
theorem zmn:Zb Try.prog [49] 11=some zmc:=by kernel_rfl
theorem zof:Xk Try.prog 11:=⟨_,Try.func11,rfl,rfl⟩
def Up(a0:Int)(a1:Int)(a2:List (List GR))(a3:List Int)(o:Int×(List (List GR))×(List Int)):Exit→Env→AHeap→Nat→Prop:=W4 z9y (Yy 3 5 (i6 o.1) [((0,0),.one [.msl (3,0) 1 0 o.2.1.length true,.msl (4,0) 1 0 o.2.2.length false]),((3,0),.rows 1 (o.2.1.map z6)),((4,0),.rows 1 (o.2.2.map z7))])
def Xh(a0:Int)(a1:Int)(a2:List (List GR))(a3:List Int)(s:(Bool×(List Int))):Env:=[(0,.ptr (0,0) 0 0),(1,i6 a0),(2,i6 a1),(7,.msl (5,0) 1 0 s.2.length true),(8,.bool s.1)]
def Jo(a0:Int)(a1:Int)(a2:List (List GR))(a3:List Int)(s:(Bool×(List Int))):AHeap:=[((0,0),.one [.msl (3,0) 1 0 a2.length true,.msl (4,0) 1 0 a3.length false]),((3,0),.rows 1 (a2.map z6)),((4,0),.rows 1 (a3.map z7)),((5,0),.rows 1 (s.2.map z7))]
def Wk(a0:Int)(a1:Int)(a2:List (List GR))(a3:List Int)(o:(Int×(List (List GR))×(List Int))):Exit→Env→AHeap→Nat→Prop:=(zb 1 (uw Try.prog jb 3 z2m (Up a0 a1 a2 a3 o)))
def Yr(a0:Int)(a1:Int)(a2:List (List GR))(a3:List Int)(s:(Bool×Int×(List Int))):Env:=[(0,.ptr (0,0) 0 0),(1,i6 a0),(2,i6 a1),(7,.msl (5,0) 1 0 s.2.2.length true),(8,.bool s.1),(72,.msl (3,0) 1 0 a2.length true),(73,i6 ((a2.length:Nat):Int)),(74,i6 s.2.1)]
def X5(a0:Int)(a1:Int)(a2:List (List GR))(a3:List Int)(s:(Bool×Int×(List Int))):AHeap:=[((0,0),.one [.msl (3,0) 1 0 a2.length true,.msl (4,0) 1 0 a3.length false]),((3,0),.rows 1 (a2.map z6)),((4,0),.rows 1 (a3.map z7)),((5,0),.rows 1 (s.2.2.map z7))]
def J7(a0:Int)(a1:Int)(a2:List (List GR))(a3:List Int)(o:((Bool×(List Int)) ⊕ (Int×(List (List GR))×(List Int)))):Exit→Env→AHeap→Nat→Prop:=(zb 3 (zb 2 (yi 3 6 (Xh a0 a1 a2 a3) (Jo a0 a1 a2 a3) (Wk a0 a1 a2 a3) o)))
def Yt(a0:Int)(a1:Int)(a2:List (List GR))(a3:List Int)(v284:Int)(s:(Bool×Int×(List Int))):Env:=[(0,.ptr (0,0) 0 0),(1,i6 a0),(2,i6 a1),(7,.msl (5,0) 1 0 s.2.2.length true),(8,.bool s.1),(9,i6 v284),(72,.msl (3,0) 1 0 a2.length true),(73,i6 ((a2.length:Nat):Int)),(74,i6 v284),(79,.isl 2 ((a2.getD (0+v284.toNat) default).map z8) false),(80,i6 (((a2.getD (0+v284.toNat) default).map z8).length:Int)),(81,i6 s.2.1)]
def Qy(a0:Int)(a1:Int)(a2:List (List GR))(a3:List Int)(v284:Int)(s:(Bool×Int×(List Int))):AHeap:=[((0,0),.one [.msl (3,0) 1 0 a2.length true,.msl (4,0) 1 0 a3.length false]),((3,0),.rows 1 (a2.map z6)),((4,0),.rows 1 (a3.map z7)),((5,0),.rows 1 (s.2.2.map z7))]
def Jb(a0:Int)(a1:Int)(a2:List (List GR))(a3:List Int)(o:((Bool×Int×(List Int)) ⊕ ((Bool×(List Int)) ⊕ (Int×(List (List GR))×(List Int))))):Exit→Env→AHeap→Nat→Prop:=(zb 5 (zb 4 (uw Try.prog jb 3 z36 (yi 3 6 (Yr a0 a1 a2 a3) (X5 a0 a1 a2 a3) (J7 a0 a1 a2 a3) o))))
def Wq(a0:Int)(a1:Int)(a2:List (List GR))(a3:List Int)(v284:Int)(v338:Int)(s:(Bool×Int×(List Int))):Env:=[(0,.ptr (0,0) 0 0),(1,i6 a0),(2,i6 a1),(7,.msl (5,0) 1 0 s.2.2.length true),(8,.bool s.1),(9,i6 v284),(12,.ptr (6,0) 0 0),(72,.msl (3,0) 1 0 a2.length true),(73,i6 ((a2.length:Nat):Int)),(74,i6 v284),(79,.isl 2 ((a2.getD (0+v284.toNat) default).map z8) false),(80,i6 (((a2.getD (0+v284.toNat) default).map z8).length:Int)),(81,i6 v338),(86,.isl 1 ((((a2.getD (0+v284.toNat) default).getD v338.toNat default).fA).map z7) false),(87,i6 (((((a2.getD (0+v284.toNat) default).getD v338.toNat default).fA).map z7).length:Int)),(88,i6 s.2.1)]
def Vt(a0:Int)(a1:Int)(a2:List (List GR))(a3:List Int)(v284:Int)(v338:Int)(s:(Bool×Int×(List Int))):AHeap:=[((0,0),.one [.msl (3,0) 1 0 a2.length true,.msl (4,0) 1 0 a3.length false]),((3,0),.rows 1 (a2.map z6)),((4,0),.rows 1 (a3.map z7)),((5,0),.rows 1 (s.2.2.map z7)),((6,0),.one [i6 (((a2.getD (0+v284.toNat) default).getD v338.toNat default).fM),.isl 1 ((((a2.getD (0+v284.toNat) default).getD v338.toNat default).fA).map z7) false])]
def Ut(a0:Int)(a1:Int)(a2:List (List GR))(a3:List Int)(v284:Int)(o:((Bool×Int×(List Int)) ⊕ ((Bool×Int×(List Int)) ⊕ ((Bool×(List Int)) ⊕ (Int×(List (List GR))×(List Int)))))):Exit→Env→AHeap→Nat→Prop:=(zb 7 (zb 6 (uw Try.prog jb 3 z3a (yi 3 6 (Yt a0 a1 a2 a3 v284) (Qy a0 a1 a2 a3 v284) (Jb a0 a1 a2 a3) o))))
def qv(m:Option Nat)(a0:Int)(a1:Int)(a2:List (List GR))(a3:List Int)(v284:Int)(v338:Int)(v356:Int)(v362:Bool)(v363:List Int):Option ((Bool×Int×(List Int)) ⊕ ((Bool×Int×(List Int)) ⊕ ((Bool×Int×(List Int)) ⊕ ((Bool×(List Int)) ⊕ (Int×(List (List GR))×(List Int)))))):=
 some (.inl (v362,(W (v356+1)),v363))
theorem z07{a0:Int}{a1:Int}{a2:List (List GR)}{a3:List Int}{v284:Int}{v338:Int}{v356:Int}{v362:Bool}{v363:List Int}{m:Option Nat}{o:((Bool×Int×(List Int)) ⊕ ((Bool×Int×(List Int)) ⊕ ((Bool×Int×(List Int)) ⊕ ((Bool×(List Int)) ⊕ (Int×(List (List GR))×(List Int))))))}(h:qv m a0 a1 a2 a3 v284 v338 v356 v362 v363=some o) :
 LWp Try.prog jb 3 zgk (yi 3 7 (Wq a0 a1 a2 a3 v284 v338) (Vt a0 a1 a2 a3 v284 v338) (Ut a0 a1 a2 a3 v284) o) [(0,.ptr (0,0) 0 0),(1,i6 a0),(2,i6 a1),(7,.msl (5,0) 1 0 v363.length true),(8,.bool v362),(9,i6 v284),(12,.ptr (6,0) 0 0),(72,.msl (3,0) 1 0 a2.length true),(73,i6 ((a2.length:Nat):Int)),(74,i6 v284),(79,.isl 2 ((a2.getD (0+v284.toNat) default).map z8) false),(80,i6 (((a2.getD (0+v284.toNat) default).map z8).length:Int)),(81,i6 v338),(86,.isl 1 ((((a2.getD (0+v284.toNat) default).getD v338.toNat default).fA).map z7) false),(87,i6 (((((a2.getD (0+v284.toNat) default).getD v338.toNat default).fA).map z7).length:Int)),(88,i6 v356)] [((0,0),.one [.msl (3,0) 1 0 a2.length true,.msl (4,0) 1 0 a3.length false]),((3,0),.rows 1 (a2.map z6)),((4,0),.rows 1 (a3.map z7)),((5,0),.rows 1 (v363.map z7)),((6,0),.one [i6 (((a2.getD (0+v284.toNat) default).getD v338.toNat default).fM),.isl 1 ((((a2.getD (0+v284.toNat) default).getD v338.toNat default).fA).map z7) false])] 7:=by
 unfold qv at h
 refine Y6 ?_
 cases h
 exact AI rfl (qy (M:=[((3,0),(3,0)),((4,0),(4,0)),((5,0),(5,0)),((6,0),(6,0))]) rfl (SP rfl (S2 rfl rfl (AI (p0 rfl (by first|rfl|omega|(simp;done)|(simp at *;omega)) rfl) (S2 rfl rfl (SP rfl (AI (p0 rfl (by first|rfl|omega|(simp;done)|(simp at *;omega)) rfl) (S4 rfl rfl rfl rfl (S4 rfl rfl rfl rfl TT)))))))) (AI (AI rfl (p6 (AI (p0 rfl (by first|rfl|omega|(simp;done)|(simp at *;omega)) rfl) (AI (p0 rfl (by first|rfl|omega|(simp;done)|(simp at *;omega)) rfl) TT)))) (AI (AI rfl (p1 z6 (fun _=>rfl) _ a2)) (AI (AI rfl (p1 z7 (fun _=>rfl) _ a3)) (AI (AI rfl (p1 z7 (fun _=>rfl) _ v363)) (AI (AI rfl (OL rfl)) TT))))))
def jg(m:Option Nat)(a0:Int)(a1:Int)(a2:List (List GR))(a3:List Int)(v284:Int)(v338:Int)(v355:Bool)(v357:List Int):Option ((Bool×Int×(List Int)) ⊕ ((Bool×Int×(List Int)) ⊕ ((Bool×(List Int)) ⊕ (Int×(List (List GR))×(List Int))))):=
 some (.inl (v355,(W (v338+1)),v357))
def y3(m:Option Nat)(a0:Int)(a1:Int)(a2:List (List GR))(a3:List Int)(v284:Int)(v338:Int)(v355:Bool)(v356:Int)(v357:List Int):Option ((Bool×Int×(List Int)) ⊕ ((Bool×Int×(List Int)) ⊕ ((Bool×Int×(List Int)) ⊕ ((Bool×(List Int)) ⊕ (Int×(List (List GR))×(List Int)))))):=
 if(decide (v356<(((((a2.getD (0+v284.toNat) default).getD v338.toNat default).fA).map z7).length:Int)))=true then
  if(0:Int)≤v356∧v356<(((((a2.getD (0+v284.toNat) default).getD v338.toNat default).fA).map z7).length:Int) then
  if(0:Int)≤((((a2.getD (0+v284.toNat) default).getD v338.toNat default).fA).getD v356.toNat default)∧((((a2.getD (0+v284.toNat) default).getD v338.toNat default).fA).getD v356.toNat default)<((v357.length:Nat):Int) then
  if(0+((((a2.getD (0+v284.toNat) default).getD v338.toNat default).fA).getD v356.toNat default).toNat)<v357.length then
  if(0:Int)≤v284∧v284<((v357.length:Nat):Int) then
  if(0+v284.toNat)<v357.length then
  (vo m (GR.mk (((a2.getD (0+v284.toNat) default).getD v338.toNat default).fM) (((a2.getD (0+v284.toNat) default).getD v338.toNat default).fA)) a3).bind fun v361=>
  if((y6 .andNot .i64 (y6 .and .i64 v361 (v357.getD (0+((((a2.getD (0+v284.toNat) default).getD v338.toNat default).fA).getD v356.toNat default).toNat) default)) (v357.getD (0+v284.toNat) default)) != 0)=true then
   if(0:Int)≤v284∧v284<((v357.length:Nat):Int) then
   if(0+v284.toNat)<v357.length then
   if(0:Int)≤v284∧v284<((v357.length:Nat):Int) then
   if(0+v284.toNat)<v357.length then
   qv m a0 a1 a2 a3 v284 v338 v356 true (v357.set (0+v284.toNat) (y6 .or .i64 (v357.getD (0+v284.toNat) default) (y6 .andNot .i64 (y6 .and .i64 v361 (v357.getD (0+((((a2.getD (0+v284.toNat) default).getD v338.toNat default).fA).getD v356.toNat default).toNat) default)) (v357.getD (0+v284.toNat) default))))
   else none
   else none
   else none
   else none
  else
   qv m a0 a1 a2 a3 v284 v338 v356 v355 v357
  else none
  else none
  else none
  else none
  else none
 else
  p7 p9 (
   jg m a0 a1 a2 a3 v284 v338 v355 v357)
def y4(m:Option Nat)(a0:Int)(a1:Int)(a2:List (List GR))(a3:List Int)(v284:Int)(v338:Int)(v355:Bool)(v356:Int)(v357:List Int):Option ((Bool×Int×(List Int)) ⊕ ((Bool×Int×(List Int)) ⊕ ((Bool×(List Int)) ⊕ (Int×(List (List GR))×(List Int))))):=kw m (fun(s:(Bool×Int×(List Int)))=>y3 m a0 a1 a2 a3 v284 v338 s.1 s.2.1 s.2.2) (v355,v356,v357)
theorem z76{a0:Int}{a1:Int}{a2:List (List GR)}{a3:List Int}{v284:Int}{v338:Int}{v355:Bool}{v357:List Int}{m:Option Nat}{o:((Bool×Int×(List Int)) ⊕ ((Bool×Int×(List Int)) ⊕ ((Bool×(List Int)) ⊕ (Int×(List (List GR))×(List Int)))))}(h:jg m a0 a1 a2 a3 v284 v338 v355 v357=some o) :
 LWp Try.prog jb 3 z3a (yi 3 6 (Yt a0 a1 a2 a3 v284) (Qy a0 a1 a2 a3 v284) (Jb a0 a1 a2 a3) o) [(0,.ptr (0,0) 0 0),(1,i6 a0),(2,i6 a1),(7,.msl (3,0) 1 0 v357.length true),(8,.bool v355),(9,i6 v284),(72,.msl (4,0) 1 0 a2.length true),(73,i6 ((a2.length:Nat):Int)),(74,i6 v284),(79,.isl 2 ((a2.getD (0+v284.toNat) default).map z8) false),(80,i6 (((a2.getD (0+v284.toNat) default).map z8).length:Int)),(81,i6 v338)] [((0,0),.one [.msl (4,0) 1 0 a2.length true,.msl (5,0) 1 0 a3.length false]),((3,0),.rows 1 (v357.map z7)),((4,0),.rows 1 (a2.map z6)),((5,0),.rows 1 (a3.map z7))] 6:=by
 unfold jg at h
 refine Y6 ?_
 cases h
 exact AI rfl (qy (M:=[((3,0),(4,0)),((4,0),(5,0)),((5,0),(3,0))]) rfl (SP rfl (S2 rfl rfl (AI (p0 rfl (by first|rfl|omega|(simp;done)|(simp at *;omega)) rfl) (S2 rfl rfl (AI (p0 rfl (by first|rfl|omega|(simp;done)|(simp at *;omega)) rfl) (S4 rfl rfl rfl rfl (AI (VS rfl) TT))))))) (AI (AI rfl (p6 (AI (p0 rfl (by first|rfl|omega|(simp;done)|(simp at *;omega)) rfl) (AI (p0 rfl (by first|rfl|omega|(simp;done)|(simp at *;omega)) rfl) TT)))) (AI (AI rfl (p1 z6 (fun _=>rfl) _ a2)) (AI (AI rfl (p1 z7 (fun _=>rfl) _ a3)) (AI (AI rfl (p1 z7 (fun _=>rfl) _ v357)) TT)))))
set_option maxHeartbeats 4000000 in
theorem z7n{a0:Int}{a1:Int}{a2:List (List GR)}{a3:List Int}{v284:Int}{v338:Int}{v355:Bool}{v356:Int}{v357:List Int}{m:Option Nat}{o:(Bool×Int×(List Int)) ⊕ ((Bool×Int×(List Int)) ⊕ ((Bool×Int×(List Int)) ⊕ ((Bool×(List Int)) ⊕ (Int×(List (List GR))×(List Int)))))}(h:y3 m a0 a1 a2 a3 v284 v338 v355 v356 v357=some o) :
 LWp Try.prog jb 3 z7k (yi 3 7 (Wq a0 a1 a2 a3 v284 v338) (Vt a0 a1 a2 a3 v284 v338) (Ut a0 a1 a2 a3 v284) o) [(0,.ptr (0,0) 0 0),(1,i6 a0),(2,i6 a1),(7,.msl (5,0) 1 0 v357.length true),(8,.bool v355),(9,i6 v284),(12,.ptr (6,0) 0 0),(72,.msl (3,0) 1 0 a2.length true),(73,i6 ((a2.length:Nat):Int)),(74,i6 v284),(79,.isl 2 ((a2.getD (0+v284.toNat) default).map z8) false),(80,i6 (((a2.getD (0+v284.toNat) default).map z8).length:Int)),(81,i6 v338),(86,.isl 1 ((((a2.getD (0+v284.toNat) default).getD v338.toNat default).fA).map z7) false),(87,i6 (((((a2.getD (0+v284.toNat) default).getD v338.toNat default).fA).map z7).length:Int)),(88,i6 v356)] [((0,0),.one [.msl (3,0) 1 0 a2.length true,.msl (4,0) 1 0 a3.length false]),((3,0),.rows 1 (a2.map z6)),((4,0),.rows 1 (a3.map z7)),((5,0),.rows 1 (v357.map z7)),((6,0),.one [i6 (((a2.getD (0+v284.toNat) default).getD v338.toNat default).fM),.isl 1 ((((a2.getD (0+v284.toNat) default).getD v338.toNat default).fA).map z7) false])] 7:=by
 unfold y3 at h
 refine SR ?_
 refine xn ?_
 refine qh (v:=(decide (v356<(((((a2.getD (0+v284.toNat) default).getD v338.toNat default).fA).map z7).length:Int)))) rfl TT (fun h1055=>?_) (fun h1055=>?_)
 ·have h:=zj h1055 h
  refine qp ?_
  refine xn ?_
  refine zo ?_
  refine SR ?_
  obtain⟨h1056,h⟩:=za h
  refine AI h1056 ?_
  refine EX (z7 ((((a2.getD (0+v284.toNat) default).getD v338.toNat default).fA).getD v356.toNat default)) (AI (zc z7 _ _ (yj z7 h1056)) (AI (AI (xv h1056) (NB rfl)) ?_))
  refine xn ?_
  refine z59 ?_
  obtain⟨h1057,h⟩:=za h
  refine AI h1057 ?_
  obtain⟨h1058,h⟩:=za h
  refine EX (z7 (v357.getD (0+((((a2.getD (0+v284.toNat) default).getD v338.toNat default).fA).getD v356.toNat default).toNat) default)) (AI (zc z7 _ _ h1058) (AI (AI (kv z7 h1058) (NB rfl)) ?_))
  obtain⟨h1059,h⟩:=za h
  refine AI h1059 ?_
  obtain⟨h1060,h⟩:=za h
  refine EX (z7 (v357.getD (0+v284.toNat) default)) (AI (zc z7 _ _ h1060) (AI (AI (kv z7 h1060) (NB rfl)) ?_))
  obtain⟨v361,h1061,h⟩:=bind_some h
  refine PFn.readB [(4,0)] (zp4 h1061) rfl (AI (VS rfl) (AI (Vw.frzB z7 Yg (fun h=>h) rfl rfl (by first|rfl|omega|(simp;done)|(simp at *;omega))) TT)) ?_
  refine AI (AI (AI (kv z7 h1060) (NB rfl)) (congrArg (xj false 1 0) (zc z7 _ _ h1060))) ?_
  refine AI (AI (AI (kv z7 h1058) (NB rfl)) (congrArg (xj false 1 0) (zc z7 _ _ h1058))) ?_
  refine p2 (e:=[(0,.ptr (0,0) 0 0),(1,i6 a0),(2,i6 a1),(7,.msl (3,0) 1 0 v357.length true),(8,.bool v355),(9,i6 v284),(12,.ptr (4,0) 0 0),(15,i6 (y6 .andNot .i64 (y6 .and .i64 v361 (v357.getD (0+((((a2.getD (0+v284.toNat) default).getD v338.toNat default).fA).getD v356.toNat default).toNat) default)) (v357.getD (0+v284.toNat) default))),(72,.msl (5,0) 1 0 a2.length true),(73,i6 ((a2.length:Nat):Int)),(74,i6 v284),(79,.isl 2 ((a2.getD (0+v284.toNat) default).map z8) false),(80,i6 (((a2.getD (0+v284.toNat) default).map z8).length:Int)),(81,i6 v338),(86,.isl 1 ((((a2.getD (0+v284.toNat) default).getD v338.toNat default).fA).map z7) false),(87,i6 (((((a2.getD (0+v284.toNat) default).getD v338.toNat default).fA).map z7).length:Int)),(88,i6 v356)]) (L:=[((0,0),.one [.msl (5,0) 1 0 a2.length true,.msl (6,0) 1 0 a3.length false]),((3,0),.rows 1 (v357.map z7)),((4,0),.one [i6 (((a2.getD (0+v284.toNat) default).getD v338.toNat default).fM),.isl 1 ((((a2.getD (0+v284.toNat) default).getD v338.toNat default).fA).map z7) false]),((5,0),.rows 1 (a2.map z6)),((6,0),.rows 1 (a3.map z7))]) (n:=7) ?_ ?_
  ·exact qy (M:=[((3,0),(5,0)),((4,0),(6,0)),((5,0),(3,0)),((6,0),(4,0))]) rfl (SP rfl (S2 rfl rfl (AI (p0 rfl (by first|rfl|omega|(simp;done)|(simp at *;omega)) rfl) (S2 rfl rfl (SP rfl (AI (VS rfl) (AI (p0 rfl (by first|rfl|omega|(simp;done)|(simp at *;omega)) rfl) (S4 rfl rfl rfl rfl (S4 rfl rfl rfl rfl TT))))))))) (AI (AI rfl (p6 (AI (p0 rfl (by first|rfl|omega|(simp;done)|(simp at *;omega)) rfl) (AI (p0 rfl (by first|rfl|omega|(simp;done)|(simp at *;omega)) rfl) TT)))) (AI (AI rfl (p1 z7 (fun _=>rfl) _ v357)) (AI (AI rfl (OL rfl)) (AI (AI rfl (p1 z6 (fun _=>rfl) _ a2)) (AI (AI rfl (p1 z7 (fun _=>rfl) _ a3)) TT)))))
  refine SR ?_
  refine qh (v:=((y6 .andNot .i64 (y6 .and .i64 v361 (v357.getD (0+((((a2.getD (0+v284.toNat) default).getD v338.toNat default).fA).getD v356.toNat default).toNat) default)) (v357.getD (0+v284.toNat) default)) != 0)) rfl TT (fun h1062=>?_) (fun h1062=>?_)
  ·have h:=zj h1062 h
   refine SR ?_
   obtain⟨h1063,h⟩:=za h
   refine AI h1063 ?_
   obtain⟨h1064,h⟩:=za h
   refine EX (z7 (v357.getD (0+v284.toNat) default)) (AI (zc z7 _ _ h1064) (AI (AI (kv z7 h1064) (NB rfl)) ?_))
   obtain⟨h1065,h⟩:=za h
   refine AI h1065 ?_
   obtain⟨h1066,h⟩:=za h
   refine EX ((v357.set (0+v284.toNat) (y6 .or .i64 (v357.getD (0+v284.toNat) default) (y6 .andNot .i64 (y6 .and .i64 v361 (v357.getD (0+((((a2.getD (0+v284.toNat) default).getD v338.toNat default).fA).getD v356.toNat default).toNat) default)) (v357.getD (0+v284.toNat) default)))).map z7) (AI (Kg z7 _ _ _ _ _ h1066 rfl) (AI (AI rfl (AI (kv z7 h1066) (NB rfl))) ?_))
   refine p2 (e:=[(0,.ptr (0,0) 0 0),(1,i6 a0),(2,i6 a1),(7,.msl (3,0) 1 0 v357.length true),(9,i6 v284),(12,.ptr (4,0) 0 0),(72,.msl (5,0) 1 0 a2.length true),(73,i6 ((a2.length:Nat):Int)),(74,i6 v284),(79,.isl 2 ((a2.getD (0+v284.toNat) default).map z8) false),(80,i6 (((a2.getD (0+v284.toNat) default).map z8).length:Int)),(81,i6 v338),(86,.isl 1 ((((a2.getD (0+v284.toNat) default).getD v338.toNat default).fA).map z7) false),(87,i6 (((((a2.getD (0+v284.toNat) default).getD v338.toNat default).fA).map z7).length:Int)),(88,i6 v356)]) (L:=[((0,0),.one [.msl (5,0) 1 0 a2.length true,.msl (6,0) 1 0 a3.length false]),((3,0),.rows 1 ((v357.set (0+v284.toNat) (y6 .or .i64 (v357.getD (0+v284.toNat) default) (y6 .andNot .i64 (y6 .and .i64 v361 (v357.getD (0+((((a2.getD (0+v284.toNat) default).getD v338.toNat default).fA).getD v356.toNat default).toNat) default)) (v357.getD (0+v284.toNat) default)))).map z7)),((4,0),.one [i6 (((a2.getD (0+v284.toNat) default).getD v338.toNat default).fM),.isl 1 ((((a2.getD (0+v284.toNat) default).getD v338.toNat default).fA).map z7) false]),((5,0),.rows 1 (a2.map z6)),((6,0),.rows 1 (a3.map z7))]) (n:=7) ?_ ?_
   ·exact qy (M:=[((3,0),(3,0)),((4,0),(4,0)),((5,0),(5,0)),((6,0),(6,0))]) rfl (SP rfl (S2 rfl rfl (AI (p0 rfl (by first|rfl|omega|(simp;done)|(simp at *;omega)) rfl) (AI (VS rfl) (SP rfl (AI (p0 rfl (by first|rfl|omega|(simp;done)|(simp at *;omega)) rfl) (S4 rfl rfl rfl rfl (S4 rfl rfl rfl rfl TT)))))))) (AI (AI rfl (p6 (AI (p0 rfl (by first|rfl|omega|(simp;done)|(simp at *;omega)) rfl) (AI (p0 rfl (by first|rfl|omega|(simp;done)|(simp at *;omega)) rfl) TT)))) (AI (AI rfl (p1 z7 (fun _=>rfl) _ (v357.set (0+v284.toNat) (y6 .or .i64 (v357.getD (0+v284.toNat) default) (y6 .andNot .i64 (y6 .and .i64 v361 (v357.getD (0+((((a2.getD (0+v284.toNat) default).getD v338.toNat default).fA).getD v356.toNat default).toNat) default)) (v357.getD (0+v284.toNat) default)))))) (AI (AI rfl (OL rfl)) (AI (AI rfl (p1 z6 (fun _=>rfl) _ a2)) (AI (AI rfl (p1 z7 (fun _=>rfl) _ a3)) TT)))))
   refine Y6 ?_
   refine p2 ?_ (z07 h)
   exact qy (M:=[((3,0),(5,0)),((4,0),(6,0)),((5,0),(3,0)),((6,0),(4,0))]) rfl (SP rfl (S2 rfl rfl (AI (p0 rfl (by first|rfl|omega|(simp;done)|(simp at *;omega)) rfl) (S2 rfl rfl (SP rfl (AI (p0 rfl (by first|rfl|omega|(simp;done)|(simp at *;omega)) rfl) (S4 rfl rfl rfl rfl (S4 rfl rfl rfl rfl TT)))))))) (AI (AI rfl (p6 (AI (p0 rfl (by first|rfl|omega|(simp;done)|(simp at *;omega)) rfl) (AI (p0 rfl (by first|rfl|omega|(simp;done)|(simp at *;omega)) rfl) TT)))) (AI (AI rfl (p1 z6 (fun _=>rfl) _ a2)) (AI (AI rfl (p1 z7 (fun _=>rfl) _ a3)) (AI (AI rfl (p1 z7 (fun _=>rfl) _ (v357.set (0+v284.toNat) (y6 .or .i64 (v357.getD (0+v284.toNat) default) (y6 .andNot .i64 (y6 .and .i64 v361 (v357.getD (0+((((a2.getD (0+v284.toNat) default).getD v338.toNat default).fA).getD v356.toNat default).toNat) default)) (v357.getD (0+v284.toNat) default)))))) (AI (AI rfl (OL rfl)) TT)))))
  ·have h:=zm h1062 h
   refine qp ?_
   refine p2 ?_ (z07 h)
   exact qy (M:=[((3,0),(5,0)),((4,0),(6,0)),((5,0),(3,0)),((6,0),(4,0))]) rfl (SP rfl (S2 rfl rfl (AI (p0 rfl (by first|rfl|omega|(simp;done)|(simp at *;omega)) rfl) (S2 rfl rfl (SP rfl (AI (p0 rfl (by first|rfl|omega|(simp;done)|(simp at *;omega)) rfl) (S4 rfl rfl rfl rfl (S4 rfl rfl rfl rfl TT)))))))) (AI (AI rfl (p6 (AI (p0 rfl (by first|rfl|omega|(simp;done)|(simp at *;omega)) rfl) (AI (p0 rfl (by first|rfl|omega|(simp;done)|(simp at *;omega)) rfl) TT)))) (AI (AI rfl (p1 z6 (fun _=>rfl) _ a2)) (AI (AI rfl (p1 z7 (fun _=>rfl) _ a3)) (AI (AI rfl (p1 z7 (fun _=>rfl) _ v357)) (AI (AI rfl (OL rfl)) TT)))))
 ·have h:=zm h1055 h
  refine ur ?_
  obtain⟨o,hq,rfl⟩:=p4.1 h
  replace h:=hq;clear hq
  refine AI nofun ?_
  refine p2 ?_ (z76 h)
  exact qy (M:=[((3,0),(5,0)),((4,0),(3,0)),((5,0),(4,0))]) rfl (SP rfl (S2 rfl rfl (AI (p0 rfl (by first|rfl|omega|(simp;done)|(simp at *;omega)) rfl) (S2 rfl rfl (AI (p0 rfl (by first|rfl|omega|(simp;done)|(simp at *;omega)) rfl) (S4 rfl rfl rfl rfl (AI (VS rfl) TT))))))) (AI (AI rfl (p6 (AI (p0 rfl (by first|rfl|omega|(simp;done)|(simp at *;omega)) rfl) (AI (p0 rfl (by first|rfl|omega|(simp;done)|(simp at *;omega)) rfl) TT)))) (AI (AI rfl (p1 z7 (fun _=>rfl) _ v357)) (AI (AI rfl (p1 z6 (fun _=>rfl) _ a2)) (AI (AI rfl (p1 z7 (fun _=>rfl) _ a3)) TT))))
theorem zaa{a0:Int}{a1:Int}{a2:List (List GR)}{a3:List Int}{v284:Int}{v338:Int}{v355:Bool}{v356:Int}{v357:List Int}{m:Option Nat}{o:((Bool×Int×(List Int)) ⊕ ((Bool×Int×(List Int)) ⊕ ((Bool×(List Int)) ⊕ (Int×(List (List GR))×(List Int)))))}(h:y4 m a0 a1 a2 a3 v284 v338 v355 v356 v357=some o) :
 LWp Try.prog jb 3 (.loop z7k) (zb 7 (zb 6 (uw Try.prog jb 3 z3a (yi 3 6 (Yt a0 a1 a2 a3 v284) (Qy a0 a1 a2 a3 v284) (Jb a0 a1 a2 a3) o)))) [(0,.ptr (0,0) 0 0),(1,i6 a0),(2,i6 a1),(7,.msl (5,0) 1 0 v357.length true),(8,.bool v355),(9,i6 v284),(12,.ptr (6,0) 0 0),(72,.msl (3,0) 1 0 a2.length true),(73,i6 ((a2.length:Nat):Int)),(74,i6 v284),(79,.isl 2 ((a2.getD (0+v284.toNat) default).map z8) false),(80,i6 (((a2.getD (0+v284.toNat) default).map z8).length:Int)),(81,i6 v338),(86,.isl 1 ((((a2.getD (0+v284.toNat) default).getD v338.toNat default).fA).map z7) false),(87,i6 (((((a2.getD (0+v284.toNat) default).getD v338.toNat default).fA).map z7).length:Int)),(88,i6 v356)] [((0,0),.one [.msl (3,0) 1 0 a2.length true,.msl (4,0) 1 0 a3.length false]),((3,0),.rows 1 (a2.map z6)),((4,0),.rows 1 (a3.map z7)),((5,0),.rows 1 (v357.map z7)),((6,0),.one [i6 (((a2.getD (0+v284.toNat) default).getD v338.toNat default).fM),.isl 1 ((((a2.getD (0+v284.toNat) default).getD v338.toNat default).fA).map z7) false])] 7:=
 zn (m:=m) (s:=((v355,v356,v357):(Bool×Int×(List Int)))) (r:=o) (fun(s:(Bool×Int×(List Int)))=>y3 m a0 a1 a2 a3 v284 v338 s.1 s.2.1 s.2.2) (Wq a0 a1 a2 a3 v284 v338) (Vt a0 a1 a2 a3 v284 v338) (Ut a0 a1 a2 a3 v284) (fun s o h=>z7n h) h
def je(m:Option Nat)(a0:Int)(a1:Int)(a2:List (List GR))(a3:List Int)(v284:Int)(v337:Bool)(v339:List Int):Option ((Bool×Int×(List Int)) ⊕ ((Bool×(List Int)) ⊕ (Int×(List (List GR))×(List Int)))):=
 some (.inl (v337,(W (v284+1)),v339))
def yz(m:Option Nat)(a0:Int)(a1:Int)(a2:List (List GR))(a3:List Int)(v284:Int)(v337:Bool)(v338:Int)(v339:List Int):Option ((Bool×Int×(List Int)) ⊕ ((Bool×Int×(List Int)) ⊕ ((Bool×(List Int)) ⊕ (Int×(List (List GR))×(List Int))))):=
 if(decide (v338<(((a2.getD (0+v284.toNat) default).map z8).length:Int)))=true then
  if(0:Int)≤v338∧v338<(((a2.getD (0+v284.toNat) default).map z8).length:Int) then
  y4 m a0 a1 a2 a3 v284 v338 v337 0 v339
  else none
 else
  p7 p9 (
   je m a0 a1 a2 a3 v284 v337 v339)
def xg(m:Option Nat)(a0:Int)(a1:Int)(a2:List (List GR))(a3:List Int)(v284:Int)(v337:Bool)(v338:Int)(v339:List Int):Option ((Bool×Int×(List Int)) ⊕ ((Bool×(List Int)) ⊕ (Int×(List (List GR))×(List Int)))):=kw m (fun(s:(Bool×Int×(List Int)))=>yz m a0 a1 a2 a3 v284 s.1 s.2.1 s.2.2) (v337,v338,v339)
theorem z93{a0:Int}{a1:Int}{a2:List (List GR)}{a3:List Int}{v284:Int}{v337:Bool}{v339:List Int}{m:Option Nat}{o:((Bool×Int×(List Int)) ⊕ ((Bool×(List Int)) ⊕ (Int×(List (List GR))×(List Int))))}(h:je m a0 a1 a2 a3 v284 v337 v339=some o) :
 LWp Try.prog jb 3 z36 (yi 3 6 (Yr a0 a1 a2 a3) (X5 a0 a1 a2 a3) (J7 a0 a1 a2 a3) o) [(0,.ptr (0,0) 0 0),(1,i6 a0),(2,i6 a1),(7,.msl (3,0) 1 0 v339.length true),(8,.bool v337),(72,.msl (4,0) 1 0 a2.length true),(73,i6 ((a2.length:Nat):Int)),(74,i6 v284)] [((0,0),.one [.msl (4,0) 1 0 a2.length true,.msl (5,0) 1 0 a3.length false]),((3,0),.rows 1 (v339.map z7)),((4,0),.rows 1 (a2.map z6)),((5,0),.rows 1 (a3.map z7))] 6:=by
 unfold je at h
 refine Y6 ?_
 cases h
 exact AI rfl (qy (M:=[((3,0),(4,0)),((4,0),(5,0)),((5,0),(3,0))]) rfl (SP rfl (S2 rfl rfl (AI (p0 rfl (by first|rfl|omega|(simp;done)|(simp at *;omega)) rfl) (AI (VS rfl) (AI (p0 rfl (by first|rfl|omega|(simp;done)|(simp at *;omega)) rfl) (S2 rfl rfl TT)))))) (AI (AI rfl (p6 (AI (p0 rfl (by first|rfl|omega|(simp;done)|(simp at *;omega)) rfl) (AI (p0 rfl (by first|rfl|omega|(simp;done)|(simp at *;omega)) rfl) TT)))) (AI (AI rfl (p1 z6 (fun _=>rfl) _ a2)) (AI (AI rfl (p1 z7 (fun _=>rfl) _ a3)) (AI (AI rfl (p1 z7 (fun _=>rfl) _ v339)) TT)))))
theorem z8i{a0:Int}{a1:Int}{a2:List (List GR)}{a3:List Int}{v284:Int}{v337:Bool}{v338:Int}{v339:List Int}{m:Option Nat}{o:(Bool×Int×(List Int)) ⊕ ((Bool×Int×(List Int)) ⊕ ((Bool×(List Int)) ⊕ (Int×(List (List GR))×(List Int))))}(h:yz m a0 a1 a2 a3 v284 v337 v338 v339=some o) :
 LWp Try.prog jb 3 z95 (yi 3 6 (Yt a0 a1 a2 a3 v284) (Qy a0 a1 a2 a3 v284) (Jb a0 a1 a2 a3) o) [(0,.ptr (0,0) 0 0),(1,i6 a0),(2,i6 a1),(7,.msl (5,0) 1 0 v339.length true),(8,.bool v337),(9,i6 v284),(72,.msl (3,0) 1 0 a2.length true),(73,i6 ((a2.length:Nat):Int)),(74,i6 v284),(79,.isl 2 ((a2.getD (0+v284.toNat) default).map z8) false),(80,i6 (((a2.getD (0+v284.toNat) default).map z8).length:Int)),(81,i6 v338)] [((0,0),.one [.msl (3,0) 1 0 a2.length true,.msl (4,0) 1 0 a3.length false]),((3,0),.rows 1 (a2.map z6)),((4,0),.rows 1 (a3.map z7)),((5,0),.rows 1 (v339.map z7))] 6:=by
 unfold yz at h
 refine SR ?_
 refine xn ?_
 refine qh (v:=(decide (v338<(((a2.getD (0+v284.toNat) default).map z8).length:Int)))) rfl TT (fun h1029=>?_) (fun h1029=>?_)
 ·have h:=zj h1029 h
  refine qp ?_
  refine xn ?_
  refine zo ?_
  refine SR ?_
  obtain⟨h1030,h⟩:=za h
  refine AI h1030 ?_
  refine EX (z8 ((a2.getD (0+v284.toNat) default).getD v338.toNat default)) (AI (zc z8 _ _ (yj z8 h1030)) (AI (AI (xv h1030) (NB rfl)) ?_))
  refine SR ?_
  refine p2 (e:=[(0,.ptr (0,0) 0 0),(1,i6 a0),(2,i6 a1),(7,.msl (3,0) 1 0 v339.length true),(8,.bool v337),(9,i6 v284),(12,.ptr (4,0) 0 0),(72,.msl (5,0) 1 0 a2.length true),(73,i6 ((a2.length:Nat):Int)),(74,i6 v284),(79,.isl 2 ((a2.getD (0+v284.toNat) default).map z8) false),(80,i6 (((a2.getD (0+v284.toNat) default).map z8).length:Int)),(81,i6 v338),(86,.isl 1 ((((a2.getD (0+v284.toNat) default).getD v338.toNat default).fA).map z7) false),(87,i6 (((((a2.getD (0+v284.toNat) default).getD v338.toNat default).fA).map z7).length:Int)),(88,i6 0)]) (L:=[((0,0),.one [.msl (5,0) 1 0 a2.length true,.msl (6,0) 1 0 a3.length false]),((3,0),.rows 1 (v339.map z7)),((4,0),.one [i6 (((a2.getD (0+v284.toNat) default).getD v338.toNat default).fM),.isl 1 ((((a2.getD (0+v284.toNat) default).getD v338.toNat default).fA).map z7) false]),((5,0),.rows 1 (a2.map z6)),((6,0),.rows 1 (a3.map z7))]) (n:=7) ?_ ?_
  ·exact qy (M:=[((3,0),(5,0)),((4,0),(6,0)),((5,0),(3,0)),((6,0),(4,0))]) rfl (SP rfl (S2 rfl rfl (AI (p0 rfl (by first|rfl|omega|(simp;done)|(simp at *;omega)) rfl) (S2 rfl rfl (SP rfl (AI (p0 rfl (by first|rfl|omega|(simp;done)|(simp at *;omega)) rfl) (S4 rfl rfl rfl rfl (S4 rfl rfl rfl rfl TT)))))))) (AI (AI rfl (p6 (AI (p0 rfl (by first|rfl|omega|(simp;done)|(simp at *;omega)) rfl) (AI (p0 rfl (by first|rfl|omega|(simp;done)|(simp at *;omega)) rfl) TT)))) (AI (AI rfl (p1 z7 (fun _=>rfl) _ v339)) (AI (AI rfl (OL rfl)) (AI (AI rfl (p1 z6 (fun _=>rfl) _ a2)) (AI (AI rfl (p1 z7 (fun _=>rfl) _ a3)) TT)))))
  refine zo ?_
  refine p2 ?_ (zaa h)
  exact qy (M:=[((3,0),(5,0)),((4,0),(6,0)),((5,0),(3,0)),((6,0),(4,0))]) rfl (SP rfl (S2 rfl rfl (AI (p0 rfl (by first|rfl|omega|(simp;done)|(simp at *;omega)) rfl) (S2 rfl rfl (SP rfl (AI (p0 rfl (by first|rfl|omega|(simp;done)|(simp at *;omega)) rfl) (S4 rfl rfl rfl rfl (S4 rfl rfl rfl rfl TT)))))))) (AI (AI rfl (p6 (AI (p0 rfl (by first|rfl|omega|(simp;done)|(simp at *;omega)) rfl) (AI (p0 rfl (by first|rfl|omega|(simp;done)|(simp at *;omega)) rfl) TT)))) (AI (AI rfl (p1 z6 (fun _=>rfl) _ a2)) (AI (AI rfl (p1 z7 (fun _=>rfl) _ a3)) (AI (AI rfl (p1 z7 (fun _=>rfl) _ v339)) (AI (AI rfl (OL rfl)) TT)))))
 ·have h:=zm h1029 h
  refine ur ?_
  obtain⟨o,hq,rfl⟩:=p4.1 h
  replace h:=hq;clear hq
  refine AI nofun ?_
  refine p2 ?_ (z93 h)
  exact qy (M:=[((3,0),(5,0)),((4,0),(3,0)),((5,0),(4,0))]) rfl (SP rfl (S2 rfl rfl (AI (p0 rfl (by first|rfl|omega|(simp;done)|(simp at *;omega)) rfl) (AI (VS rfl) (AI (p0 rfl (by first|rfl|omega|(simp;done)|(simp at *;omega)) rfl) (S2 rfl rfl TT)))))) (AI (AI rfl (p6 (AI (p0 rfl (by first|rfl|omega|(simp;done)|(simp at *;omega)) rfl) (AI (p0 rfl (by first|rfl|omega|(simp;done)|(simp at *;omega)) rfl) TT)))) (AI (AI rfl (p1 z7 (fun _=>rfl) _ v339)) (AI (AI rfl (p1 z6 (fun _=>rfl) _ a2)) (AI (AI rfl (p1 z7 (fun _=>rfl) _ a3)) TT))))
theorem za5{a0:Int}{a1:Int}{a2:List (List GR)}{a3:List Int}{v284:Int}{v337:Bool}{v338:Int}{v339:List Int}{m:Option Nat}{o:((Bool×Int×(List Int)) ⊕ ((Bool×(List Int)) ⊕ (Int×(List (List GR))×(List Int))))}(h:xg m a0 a1 a2 a3 v284 v337 v338 v339=some o) :
 LWp Try.prog jb 3 (.loop z95) (zb 5 (zb 4 (uw Try.prog jb 3 z36 (yi 3 6 (Yr a0 a1 a2 a3) (X5 a0 a1 a2 a3) (J7 a0 a1 a2 a3) o)))) [(0,.ptr (0,0) 0 0),(1,i6 a0),(2,i6 a1),(7,.msl (5,0) 1 0 v339.length true),(8,.bool v337),(9,i6 v284),(72,.msl (3,0) 1 0 a2.length true),(73,i6 ((a2.length:Nat):Int)),(74,i6 v284),(79,.isl 2 ((a2.getD (0+v284.toNat) default).map z8) false),(80,i6 (((a2.getD (0+v284.toNat) default).map z8).length:Int)),(81,i6 v338)] [((0,0),.one [.msl (3,0) 1 0 a2.length true,.msl (4,0) 1 0 a3.length false]),((3,0),.rows 1 (a2.map z6)),((4,0),.rows 1 (a3.map z7)),((5,0),.rows 1 (v339.map z7))] 6:=
 zn (m:=m) (s:=((v337,v338,v339):(Bool×Int×(List Int)))) (r:=o) (fun(s:(Bool×Int×(List Int)))=>yz m a0 a1 a2 a3 v284 s.1 s.2.1 s.2.2) (Yt a0 a1 a2 a3 v284) (Qy a0 a1 a2 a3 v284) (Jb a0 a1 a2 a3) (fun s o h=>z8i h) h
def yy(m:Option Nat)(a0:Int)(a1:Int)(a2:List (List GR))(a3:List Int)(v283:Bool)(v284:Int)(v285:List Int):Option ((Bool×Int×(List Int)) ⊕ ((Bool×(List Int)) ⊕ (Int×(List (List GR))×(List Int)))):=
 if(decide (v284<((a2.length:Nat):Int)))=true then
  if(0:Int)≤v284∧v284<((a2.length:Nat):Int) then
  if(0+v284.toNat)<a2.length then
  xg m a0 a1 a2 a3 v284 v283 0 v285
  else none
  else none
 else
  p7 p9 (
   some (.inl (v283,v285)))
def xf(m:Option Nat)(a0:Int)(a1:Int)(a2:List (List GR))(a3:List Int)(v283:Bool)(v284:Int)(v285:List Int):Option ((Bool×(List Int)) ⊕ (Int×(List (List GR))×(List Int))):=kw m (fun(s:(Bool×Int×(List Int)))=>yy m a0 a1 a2 a3 s.1 s.2.1 s.2.2) (v283,v284,v285)
theorem z88{a0:Int}{a1:Int}{a2:List (List GR)}{a3:List Int}{v283:Bool}{v284:Int}{v285:List Int}{m:Option Nat}{o:(Bool×Int×(List Int)) ⊕ ((Bool×(List Int)) ⊕ (Int×(List (List GR))×(List Int)))}(h:yy m a0 a1 a2 a3 v283 v284 v285=some o) :
 LWp Try.prog jb 3 z7b (yi 3 6 (Yr a0 a1 a2 a3) (X5 a0 a1 a2 a3) (J7 a0 a1 a2 a3) o) [(0,.ptr (0,0) 0 0),(1,i6 a0),(2,i6 a1),(7,.msl (5,0) 1 0 v285.length true),(8,.bool v283),(72,.msl (3,0) 1 0 a2.length true),(73,i6 ((a2.length:Nat):Int)),(74,i6 v284)] [((0,0),.one [.msl (3,0) 1 0 a2.length true,.msl (4,0) 1 0 a3.length false]),((3,0),.rows 1 (a2.map z6)),((4,0),.rows 1 (a3.map z7)),((5,0),.rows 1 (v285.map z7))] 6:=by
 unfold yy at h
 refine SR ?_
 refine xn ?_
 refine qh (v:=(decide (v284<((a2.length:Nat):Int)))) rfl TT (fun h950=>?_) (fun h950=>?_)
 ·have h:=zj h950 h
  refine qp ?_
  refine xn ?_
  refine zo ?_
  refine SR ?_
  obtain⟨h951,h⟩:=za h
  refine AI h951 ?_
  obtain⟨h952,h⟩:=za h
  refine EX (z6 (a2.getD (0+v284.toNat) default)) (AI (zc z6 _ _ h952) (AI (AI (kv z6 h952) (NB rfl)) ?_))
  refine SR ?_
  refine p2 (e:=[(0,.ptr (0,0) 0 0),(1,i6 a0),(2,i6 a1),(7,.msl (3,0) 1 0 v285.length true),(8,.bool v283),(9,i6 v284),(72,.msl (4,0) 1 0 a2.length true),(73,i6 ((a2.length:Nat):Int)),(74,i6 v284),(79,.isl 2 ((a2.getD (0+v284.toNat) default).map z8) false),(80,i6 (((a2.getD (0+v284.toNat) default).map z8).length:Int)),(81,i6 0)]) (L:=[((0,0),.one [.msl (4,0) 1 0 a2.length true,.msl (5,0) 1 0 a3.length false]),((3,0),.rows 1 (v285.map z7)),((4,0),.rows 1 (a2.map z6)),((5,0),.rows 1 (a3.map z7))]) (n:=6) ?_ ?_
  ·exact qy (M:=[((3,0),(5,0)),((4,0),(3,0)),((5,0),(4,0))]) rfl (SP rfl (S2 rfl rfl (AI (p0 rfl (by first|rfl|omega|(simp;done)|(simp at *;omega)) rfl) (S2 rfl rfl (AI (p0 rfl (by first|rfl|omega|(simp;done)|(simp at *;omega)) rfl) (S4 rfl rfl rfl rfl (AI (VS rfl) TT))))))) (AI (AI rfl (p6 (AI (p0 rfl (by first|rfl|omega|(simp;done)|(simp at *;omega)) rfl) (AI (p0 rfl (by first|rfl|omega|(simp;done)|(simp at *;omega)) rfl) TT)))) (AI (AI rfl (p1 z7 (fun _=>rfl) _ v285)) (AI (AI rfl (p1 z6 (fun _=>rfl) _ a2)) (AI (AI rfl (p1 z7 (fun _=>rfl) _ a3)) TT))))
  refine zo ?_
  refine p2 ?_ (za5 h)
  exact qy (M:=[((3,0),(4,0)),((4,0),(5,0)),((5,0),(3,0))]) rfl (SP rfl (S2 rfl rfl (AI (p0 rfl (by first|rfl|omega|(simp;done)|(simp at *;omega)) rfl) (S2 rfl rfl (AI (p0 rfl (by first|rfl|omega|(simp;done)|(simp at *;omega)) rfl) (S4 rfl rfl rfl rfl (AI (VS rfl) TT))))))) (AI (AI rfl (p6 (AI (p0 rfl (by first|rfl|omega|(simp;done)|(simp at *;omega)) rfl) (AI (p0 rfl (by first|rfl|omega|(simp;done)|(simp at *;omega)) rfl) TT)))) (AI (AI rfl (p1 z6 (fun _=>rfl) _ a2)) (AI (AI rfl (p1 z7 (fun _=>rfl) _ a3)) (AI (AI rfl (p1 z7 (fun _=>rfl) _ v285)) TT))))
 ·have h:=zm h950 h
  refine ur ?_
  obtain⟨o,hq,rfl⟩:=p4.1 h
  replace h:=hq;clear hq
  refine AI nofun ?_
  cases h
  exact AI rfl (qy (M:=[((3,0),(3,0)),((4,0),(4,0)),((5,0),(5,0))]) rfl (SP rfl (S2 rfl rfl (AI (p0 rfl (by first|rfl|omega|(simp;done)|(simp at *;omega)) rfl) (AI (VS rfl) TT)))) (AI (AI rfl (p6 (AI (p0 rfl (by first|rfl|omega|(simp;done)|(simp at *;omega)) rfl) (AI (p0 rfl (by first|rfl|omega|(simp;done)|(simp at *;omega)) rfl) TT)))) (AI (AI rfl (p1 z6 (fun _=>rfl) _ a2)) (AI (AI rfl (p1 z7 (fun _=>rfl) _ a3)) (AI (AI rfl (p1 z7 (fun _=>rfl) _ v285)) TT)))))
theorem zcy{a0:Int}{a1:Int}{a2:List (List GR)}{a3:List Int}{v283:Bool}{v284:Int}{v285:List Int}{m:Option Nat}{o:((Bool×(List Int)) ⊕ (Int×(List (List GR))×(List Int)))}(h:xf m a0 a1 a2 a3 v283 v284 v285=some o) :
 LWp Try.prog jb 3 (.loop z7b) (zb 3 (zb 2 (yi 3 6 (Xh a0 a1 a2 a3) (Jo a0 a1 a2 a3) (Wk a0 a1 a2 a3) o))) [(0,.ptr (0,0) 0 0),(1,i6 a0),(2,i6 a1),(7,.msl (5,0) 1 0 v285.length true),(8,.bool v283),(72,.msl (3,0) 1 0 a2.length true),(73,i6 ((a2.length:Nat):Int)),(74,i6 v284)] [((0,0),.one [.msl (3,0) 1 0 a2.length true,.msl (4,0) 1 0 a3.length false]),((3,0),.rows 1 (a2.map z6)),((4,0),.rows 1 (a3.map z7)),((5,0),.rows 1 (v285.map z7))] 6:=
 zn (m:=m) (s:=((v283,v284,v285):(Bool×Int×(List Int)))) (r:=o) (fun(s:(Bool×Int×(List Int)))=>yy m a0 a1 a2 a3 s.1 s.2.1 s.2.2) (Yr a0 a1 a2 a3) (X5 a0 a1 a2 a3) (J7 a0 a1 a2 a3) (fun s o h=>z88 h) h
def yp(m:Option Nat)(a0:Int)(a1:Int)(a2:List (List GR))(v365:List Int):Option (Int×(List (List GR))×(List Int)):=
 (qu m a2).bind fun v366=>
 if(0+a0.toNat)<v366.length then
 if(0:Int)≤a0∧a0<((v366.length:Nat):Int) then
 (kp m a1 (W (a1+1)) (v366.getD (0+a0.toNat) default)).bind fun v367=>
 if(0:Int)≤a0∧a0<((v366.length:Nat):Int) then
 (vz m (((v366.set (0+a0.toNat) v367).length:Nat):Int)).bind fun v368=>
 (xi m (v366.set (0+a0.toNat) v367) v365 v368).bind fun v369=>
 if v369.length=v365.length then
 some (0,(v366.set (0+a0.toNat) v367),v369)
 else none
 else none
 else none
 else none
def qa(m:Option Nat)(a0:Int)(a1:Int)(a2:List (List GR))(a3:List Int)(v123:List Int)(v364:Int)(v365:List Int):Option ((Int×(List Int)) ⊕ (Int×(List (List GR))×(List Int))):=
 if(decide (v364<((a3.length:Nat):Int)))=true then
  if(0:Int)≤v364∧v364<((v365.length:Nat):Int) then
  if(0+v364.toNat)<v365.length then
  if(0:Int)≤v364∧v364<((v123.length:Nat):Int) then
  if(0+v364.toNat)<v123.length then
  if(0:Int)≤v364∧v364<((v365.length:Nat):Int) then
  if(0+v364.toNat)<v365.length then
  some (.inl ((W (v364+1)),(v365.set (0+v364.toNat) (y6 .andNot .i64 (v365.getD (0+v364.toNat) default) (v123.getD (0+v364.toNat) default)))))
  else none
  else none
  else none
  else none
  else none
  else none
 else
  p7 p9 (
   yp m a0 a1 a2 v365)
def xc(m:Option Nat)(a0:Int)(a1:Int)(a2:List (List GR))(a3:List Int)(v123:List Int)(v364:Int)(v365:List Int):Option (Int×(List (List GR))×(List Int)):=kw m (fun(s:(Int×(List Int)))=>qa m a0 a1 a2 a3 v123 s.1 s.2) (v364,v365)
def yq(m:Option Nat)(a0:Int)(a1:Int)(a2:List (List GR))(a3:List Int)(v123:List Int):Option (Int×(List (List GR))×(List Int)):=
 xc m a0 a1 a2 a3 v123 0 a3
def ye(m:Option Nat)(a0:Int)(a1:Int)(a2:List (List GR))(a3:List Int)(v122:Bool)(v123:List Int):Option ((Bool×(List Int)) ⊕ (Int×(List (List GR))×(List Int))):=
 if v122=true then
  xf m a0 a1 a2 a3 false 0 v123
 else
  p7 p9 (
   yq m a0 a1 a2 a3 v123)
def xb(m:Option Nat)(a0:Int)(a1:Int)(a2:List (List GR))(a3:List Int)(v122:Bool)(v123:List Int):Option (Int×(List (List GR))×(List Int)):=kw m (fun(s:(Bool×(List Int)))=>ye m a0 a1 a2 a3 s.1 s.2) (v122,v123)
def z0y(a0:Int)(a1:Int)(a2:List (List GR))(a3:List Int)(v123:List Int)(s:(Int×(List Int))):Env:=[(0,.ptr (0,0) 0 0),(1,i6 a0),(2,i6 a1),(7,.msl (5,0) 1 0 v123.length true),(124,i6 ((a3.length:Nat):Int)),(125,i6 s.1)]
def z26(a0:Int)(a1:Int)(a2:List (List GR))(a3:List Int)(v123:List Int)(s:(Int×(List Int))):AHeap:=[((0,0),.one [.msl (3,0) 1 0 a2.length true,.msl (4,0) 1 0 s.2.length false]),((3,0),.rows 1 (a2.map z6)),((4,0),.rows 1 (s.2.map z7)),((5,0),.rows 1 (v123.map z7))]
def z45(a0:Int)(a1:Int)(a2:List (List GR))(a3:List Int)(o:(Int×(List (List GR))×(List Int))):Exit→Env→AHeap→Nat→Prop:=(zb 9 (uw Try.prog jb 3 z2n (Up a0 a1 a2 a3 o)))
set_option maxHeartbeats 4000000 in
theorem z87{a3:List Int}{a0:Int}{a1:Int}{a2:List (List GR)}{v365:List Int}{m:Option Nat}{o:(Int×(List (List GR))×(List Int))}(h:yp m a0 a1 a2 v365=some o) :
 LWp Try.prog jb 3 z2n (Up a0 a1 a2 a3 o) [(0,.ptr (0,0) 0 0),(1,i6 a0),(2,i6 a1)] [((0,0),.one [.msl (3,0) 1 0 a2.length true,.msl (4,0) 1 0 v365.length false]),((3,0),.rows 1 (a2.map z6)),((4,0),.rows 1 (v365.map z7))] 5:=by
 unfold yp at h
 refine SR ?_
 obtain⟨v366,h1088,h⟩:=bind_some h
 refine zgf (k:=3) (m:=2) (qq:=5) (s:=2) (e:=z8) (l:=tl v366) (L':=[((3,0),.rows 1 (a2.map z6)),((6,0),.rows 1 (Y1 5 2 v366))]) (rest:=[((0,0),.one [.msl (3,0) 1 0 a2.length true,.msl (4,0) 1 0 v365.length false]),((4,0),.rows 1 (v365.map z7))]) (R':=.msl (6,0) 1 0 v366.length true) zx 0 rfl [((0,0),(3,0))] (z7j h1088) rfl rfl rfl rfl (AI (p0 rfl (by first|rfl|omega|(simp;done)|(simp at *;omega)) rfl) TT) (AI (h0I (3,0) rfl rfl (p1 z6 (fun _=>rfl) _ a2)) TT) rfl (AI rfl (AI (qj z6 (fun _=>rfl) _ _) (AI rfl (AI (z7x (fun _ _=>rfl)) TT)))) rfl rfl ?_
 refine p2 (e:=[(0,.ptr (0,0) 0 0),(1,i6 a0),(2,i6 a1)]) (L:=([((0,0),.one [.msl (3,0) 1 0 v366.length true,.msl (4,0) 1 0 v365.length false]),((3,0),.rows 1 (Y1 5 2 v366)),((4,0),.rows 1 (v365.map z7))]++(uz 5 2 z8 (tl v366) none))) (n:=6) ?_ ?_
 ·exact Vm (M:=[((3,0),(6,0)),((4,0),(4,0))]) (lit':=[((3,0),.rows 1 (a2.map z6)),((6,0),.rows 1 (Y1 5 2 v366)),((0,0),.one [.msl (6,0) 1 0 v366.length true,.msl (4,0) 1 0 v365.length false]),((4,0),.rows 1 (v365.map z7))]) (T:=(uz 5 2 z8 (tl v366) none)) (q:=5) (q':=5) zx rfl IsFamM.base (SP rfl (S2 rfl rfl TT)) (AI (AI rfl (p6 (AI (p0 rfl (by first|rfl|omega|(simp;done)|(simp at *;omega)) rfl) (AI (p0 rfl (by first|rfl|omega|(simp;done)|(simp at *;omega)) rfl) TT)))) (AI (AI rfl BVw.tabJ) (AI (AI rfl (p1 z7 (fun _=>rfl) _ v365)) TT)))
 refine xn ?_
 obtain⟨h1090,h⟩:=za h
 refine p2 (e:=[(0,.ptr (0,0) 0 0),(1,i6 a0),(2,i6 a1)]) (L:=([((6,0),.rows 2 ((v366.getD (0+a0.toNat) default).map z8)),((0,0),.one [.msl (3,0) 1 0 v366.length true,.msl (4,0) 1 0 v365.length false]),((3,0),.rows 1 (z11 5 2 v366 (0+a0.toNat) (.msl (6,0) 2 0 ((v366.getD (0+a0.toNat) default).length) false))),((4,0),.rows 1 (v365.map z7))]++(uz 5 2 z8 (tl v366) (some (0+a0.toNat))))) (n:=7) ?_ ?_
 ·exact zui (m:=(6,0)) (i:=(0+a0.toNat)) (M:=[((3,0),(3,0)),((4,0),(4,0))]) (lit':=[((0,0),.one [.msl (3,0) 1 0 v366.length true,.msl (4,0) 1 0 v365.length false]),((3,0),.rows 1 (Y1 5 2 v366)),((4,0),.rows 1 (v365.map z7))]) (T:=(uz 5 2 z8 (tl v366) none)) (q:=5) (q':=5) zx (ziy h1090) rfl (by decide) IsFamM.base (SP rfl (S2 rfl rfl TT)) (AI (AI rfl (p6 (AI (p0 rfl (by first|rfl|omega|(simp;done)|(simp at *;omega)) rfl) (AI (p0 rfl (by first|rfl|omega|(simp;done)|(simp at *;omega)) rfl) TT)))) (AI (AI rfl (BVw.tabF (z2h h1090) (by decide) (zhg _))) (AI (AI rfl (p1 z7 (fun _=>rfl) _ v365)) TT)))
 refine z59 ?_
 obtain⟨h1091,h⟩:=za h
 refine AI h1091 ?_
 refine EX ([.msl (6,0) 2 0 ((v366.getD (0+a0.toNat) default).length) false]) (AI (Jl h1090) (AI (AI (Jd h1090) (NB rfl)) ?_))
 obtain⟨v367,h1092,h⟩:=bind_some h
 refine Q4 (k:=3) (m:=1) (L':=[((7,0),.rows 2 (v367.map z8))]) (rest:=([((0,0),.one [.msl (3,0) 1 0 v366.length true,.msl (4,0) 1 0 v365.length false]),((3,0),.rows 1 (z11 5 2 v366 (0+a0.toNat) (.msl (6,0) 2 0 ((v366.getD (0+a0.toNat) default).length) false))),((4,0),.rows 1 (v365.map z7))]++(uz 5 2 z8 (tl v366) (some (0+a0.toNat))))) (R':=.msl (7,0) 2 0 v367.length false) [((0,0),(6,0))] (zs8 h1092) rfl rfl rfl (AI (p0 rfl (by first|rfl|omega|(simp;done)|(simp at *;omega)) rfl) (S2 rfl rfl TT)) (AI (h0I (6,0) rfl rfl (p1 z8 (fun _=>rfl) _ (v366.getD (0+a0.toNat) default))) TT) rfl (AI rfl (AI (qj z8 (fun _=>rfl) _ _) TT)) (Un (lit:=[((6,0),.rows 2 ((v366.getD (0+a0.toNat) default).map z8)),((0,0),.one [.msl (3,0) 1 0 v366.length true,.msl (4,0) 1 0 v365.length false]),((3,0),.rows 1 (z11 5 2 v366 (0+a0.toNat) (.msl (6,0) 2 0 ((v366.getD (0+a0.toNat) default).length) false))),((4,0),.rows 1 (v365.map z7))]) (T:=(uz 5 2 z8 (tl v366) (some (0+a0.toNat)))) InQ.baseM (fun _=>rfl) rfl) ?_
 refine AI rfl ?_
 obtain⟨h1093,h⟩:=za h
 refine AI h1093 ?_
 refine EX (z11 5 2 v366 (0+a0.toNat) (.msl (7,0) 2 0 v367.length false)) (AI (z0b h1090) (AI (AI rfl (AI (Jd h1090) (NB rfl))) ?_))
 refine p2 (e:=[(0,.ptr (0,0) 0 0)]) (L:=([((0,0),.one [.msl (3,0) 1 0 ((v366.set (0+a0.toNat) v367).length) true,.msl (4,0) 1 0 v365.length false]),((3,0),.rows 1 (Y1 5 2 (v366.set (0+a0.toNat) v367))),((4,0),.rows 1 (v365.map z7))]++(uz 5 2 z8 (tl (v366.set (0+a0.toNat) v367)) none))) (n:=7) ?_ ?_
 ·exact zu8 (t:=(7,0)) (i:=(0+a0.toNat)) (M:=[((3,0),(3,0)),((4,0),(4,0))]) (lit':=[((7,0),.rows 2 (v367.map z8)),((0,0),.one [.msl (3,0) 1 0 v366.length true,.msl (4,0) 1 0 v365.length false]),((3,0),.rows 1 (z11 5 2 v366 (0+a0.toNat) (.msl (7,0) 2 0 v367.length false))),((4,0),.rows 1 (v365.map z7))]) (T:=(uz 5 2 z8 (tl v366) (some (0+a0.toNat)))) (q:=5) (q':=5) zx rfl (by decide) rfl IsFamM.base (SP rfl TT) (AI (AI rfl (p6 (AI (p0 rfl (by first|rfl|omega|(simp;done)|(simp at *;omega)) rfl) (AI (p0 rfl (by first|rfl|omega|(simp;done)|(simp at *;omega)) rfl) TT)))) (AI (AI rfl (BVw.tabU (by first|rfl|omega|(simp;done)|(simp at *;omega)))) (AI (AI rfl (p1 z7 (fun _=>rfl) _ v365)) TT)))
 refine p2 (e:=[(0,.ptr (0,0) 0 0)]) (L:=[((0,0),.one [.msl (3,0) 1 0 ((v366.set (0+a0.toNat) v367).length) true,.msl (4,0) 1 0 v365.length false]),((3,0),.rows 1 ((v366.set (0+a0.toNat) v367).map z6)),((4,0),.rows 1 (v365.map z7))]) (n:=6) ?_ ?_
 ·exact y0t (n':=7) (q:=5) (lit':=[((0,0),.one [.msl (3,0) 1 0 ((v366.set (0+a0.toNat) v367).length) true,.msl (4,0) 1 0 v365.length false]),((3,0),.rows 1 (Y1 5 2 (v366.set (0+a0.toNat) v367))),((4,0),.rows 1 (v365.map z7))]) (T:=(uz 5 2 z8 (tl (v366.set (0+a0.toNat) v367)) none)) [((3,0),(3,0)),((4,0),(4,0))] [] rfl rfl rfl (SP rfl TT) (AI (AI rfl (p6 (AI (p0 rfl (by first|rfl|omega|(simp;done)|(simp at *;omega)) rfl) (AI (p0 rfl (by first|rfl|omega|(simp;done)|(simp at *;omega)) rfl) TT)))) (AI (AI rfl (BVw.tabZE Xp (fun _=>rfl) rfl IsFamM.base)) (AI (AI rfl (p1 z7 (fun _=>rfl) _ v365)) TT)))
 refine xn ?_
 refine z59 ?_
 obtain⟨v368,h1094,h⟩:=bind_some h
 refine Q4 (k:=3) (m:=1) (L':=[((6,0),.rows 1 (v368.map z7))]) (rest:=[((0,0),.one [.msl (3,0) 1 0 ((v366.set (0+a0.toNat) v367).length) true,.msl (4,0) 1 0 v365.length false]),((3,0),.rows 1 ((v366.set (0+a0.toNat) v367).map z6)),((4,0),.rows 1 (v365.map z7))]) (R':=.msl (6,0) 1 0 v368.length true) [] (zii h1094) rfl rfl rfl (AI (VS rfl) TT) TT rfl (AI rfl (AI (qj z7 (fun _=>rfl) _ _) TT)) rfl ?_
 refine AI rfl ?_
 refine AI rfl ?_
 obtain⟨v369,h1095,h⟩:=bind_some h
 refine Q4 (k:=3) (m:=0) (L':=[((3,0),.rows 1 ((v366.set (0+a0.toNat) v367).map z6)),((4,0),.rows 1 (v369.map z7))]) (rest:=[((0,0),.one [.msl (3,0) 1 0 ((v366.set (0+a0.toNat) v367).length) true,.msl (4,0) 1 0 v365.length false])]) (R':=.tup []) [((0,0),(3,0)),((0,1),(4,0)),((0,2),(6,0))] (zha h1095) rfl rfl rfl (AI (p0 rfl (by first|rfl|omega|(simp;done)|(simp at *;omega)) rfl) (AI (p0 rfl (by first|rfl|omega|(simp;done)|(simp at *;omega)) rfl) (AI (p0 rfl (by first|rfl|omega|(simp;done)|(simp at *;omega)) rfl) TT))) (AI (h0I (3,0) rfl rfl (p1 z6 (fun _=>rfl) _ (v366.set (0+a0.toNat) v367))) (AI (h0I (4,0) rfl rfl (p1 z7 (fun _=>rfl) _ v365)) (AI (h0I (6,0) rfl rfl (p1 z7 (fun _=>rfl) _ v368)) TT))) (Zd _ rfl) (AI rfl (AI (qj z6 (fun _=>rfl) _ _) (AI rfl (AI (qj z7 (fun _=>rfl) _ _) TT)))) rfl ?_
 obtain⟨h1096,h⟩:=za h
 refine p2 (e:=[]) (L:=[((0,0),.one [.msl (3,0) 1 0 ((v366.set (0+a0.toNat) v367).length) true,.msl (4,0) 1 0 v365.length false]),((3,0),.rows 1 ((v366.set (0+a0.toNat) v367).map z6)),((4,0),.rows 1 (v369.map z7))]) (n:=5) ?_ ?_
 ·exact qy (M:=[((3,0),(3,0)),((4,0),(4,0))]) rfl TT (AI (AI rfl (p6 (AI (p0 rfl (by first|rfl|omega|(simp;done)|(simp at *;omega)) rfl) (AI (p0 rfl (by first|rfl|omega|(simp;done)|(simp at *;omega)) rfl) TT)))) (AI (AI rfl (p1 z6 (fun _=>rfl) _ (v366.set (0+a0.toNat) v367))) (AI (AI rfl (p1 z7 (fun _=>rfl) _ v369)) TT)))
 refine SR ?_
 refine Ya ?_
 cases h
 exact AI TT (z1f (n':=5) [((3,0),(3,0)),((4,0),(4,0))] [] rfl rfl (VS rfl) (AI (AI rfl (p6 (AI (p0 rfl (by first|rfl|omega|(simp;done)|(simp at *;omega)) rfl) (AI (p0 rfl (by first|rfl|omega|(simp;done)|(simp at *;omega)) rfl) TT)))) (AI (AI rfl (p1 z6 (fun _=>rfl) _ (v366.set (0+a0.toNat) v367))) (AI (AI rfl (p1 z7 (fun _=>rfl) _ v369)) TT))))
theorem z7g{a0:Int}{a1:Int}{a2:List (List GR)}{a3:List Int}{v123:List Int}{v364:Int}{v365:List Int}{m:Option Nat}{o:(Int×(List Int)) ⊕ (Int×(List (List GR))×(List Int))}(h:qa m a0 a1 a2 a3 v123 v364 v365=some o) :
 LWp Try.prog jb 3 z8l (yi 3 6 (z0y a0 a1 a2 a3 v123) (z26 a0 a1 a2 a3 v123) (z45 a0 a1 a2 a3) o) [(0,.ptr (0,0) 0 0),(1,i6 a0),(2,i6 a1),(7,.msl (5,0) 1 0 v123.length true),(124,i6 ((a3.length:Nat):Int)),(125,i6 v364)] [((0,0),.one [.msl (3,0) 1 0 a2.length true,.msl (4,0) 1 0 v365.length false]),((3,0),.rows 1 (a2.map z6)),((4,0),.rows 1 (v365.map z7)),((5,0),.rows 1 (v123.map z7))] 6:=by
 unfold qa at h
 refine SR ?_
 refine xn ?_
 refine qh (v:=(decide (v364<((a3.length:Nat):Int)))) rfl TT (fun h1081=>?_) (fun h1081=>?_)
 ·have h:=zj h1081 h
  refine qp ?_
  refine xn ?_
  refine zo ?_
  refine SR ?_
  refine zwr rfl ?_
  obtain⟨h1082,h⟩:=za h
  refine AI h1082 ?_
  obtain⟨h1083,h⟩:=za h
  refine EX (z7 (v365.getD (0+v364.toNat) default)) (AI (zc z7 _ _ h1083) (AI (AI (kv z7 h1083) (NB rfl)) ?_))
  obtain⟨h1084,h⟩:=za h
  refine AI h1084 ?_
  obtain⟨h1085,h⟩:=za h
  refine EX (z7 (v123.getD (0+v364.toNat) default)) (AI (zc z7 _ _ h1085) (AI (AI (kv z7 h1085) (NB rfl)) ?_))
  obtain⟨h1086,h⟩:=za h
  refine AI h1086 ?_
  obtain⟨h1087,h⟩:=za h
  refine EX ((v365.set (0+v364.toNat) (y6 .andNot .i64 (v365.getD (0+v364.toNat) default) (v123.getD (0+v364.toNat) default))).map z7) (AI (Kg z7 _ _ _ _ _ h1087 rfl) (AI (AI rfl (AI (kv z7 h1087) (NB rfl))) ?_))
  refine p2 (e:=[(0,.ptr (0,0) 0 0),(1,i6 a0),(2,i6 a1),(7,.msl (3,0) 1 0 v123.length true),(124,i6 ((a3.length:Nat):Int)),(125,i6 v364)]) (L:=[((0,0),.one [.msl (4,0) 1 0 a2.length true,.msl (5,0) 1 0 v365.length false]),((3,0),.rows 1 (v123.map z7)),((4,0),.rows 1 (a2.map z6)),((5,0),.rows 1 ((v365.set (0+v364.toNat) (y6 .andNot .i64 (v365.getD (0+v364.toNat) default) (v123.getD (0+v364.toNat) default))).map z7))]) (n:=6) ?_ ?_
  ·exact qy (M:=[((3,0),(5,0)),((4,0),(3,0)),((5,0),(4,0))]) rfl (SP rfl (S2 rfl rfl (AI (p0 rfl (by first|rfl|omega|(simp;done)|(simp at *;omega)) rfl) (S2 rfl rfl TT)))) (AI (AI rfl (p6 (AI (p0 rfl (by first|rfl|omega|(simp;done)|(simp at *;omega)) rfl) (AI (p0 rfl (by first|rfl|omega|(simp;done)|(simp at *;omega)) rfl) TT)))) (AI (AI rfl (p1 z7 (fun _=>rfl) _ v123)) (AI (AI rfl (p1 z6 (fun _=>rfl) _ a2)) (AI (AI rfl (p1 z7 (fun _=>rfl) _ (v365.set (0+v364.toNat) (y6 .andNot .i64 (v365.getD (0+v364.toNat) default) (v123.getD (0+v364.toNat) default))))) TT))))
  refine Y6 ?_
  cases h
  exact AI rfl (qy (M:=[((3,0),(4,0)),((4,0),(5,0)),((5,0),(3,0))]) rfl (SP rfl (S2 rfl rfl (AI (p0 rfl (by first|rfl|omega|(simp;done)|(simp at *;omega)) rfl) (S2 rfl rfl TT)))) (AI (AI rfl (p6 (AI (p0 rfl (by first|rfl|omega|(simp;done)|(simp at *;omega)) rfl) (AI (p0 rfl (by first|rfl|omega|(simp;done)|(simp at *;omega)) rfl) TT)))) (AI (AI rfl (p1 z6 (fun _=>rfl) _ a2)) (AI (AI rfl (p1 z7 (fun _=>rfl) _ (v365.set (0+v364.toNat) (y6 .andNot .i64 (v365.getD (0+v364.toNat) default) (v123.getD (0+v364.toNat) default))))) (AI (AI rfl (p1 z7 (fun _=>rfl) _ v123)) TT)))))
 ·have h:=zm h1081 h
  refine ur ?_
  obtain⟨o,hq,rfl⟩:=p4.1 h
  replace h:=hq;clear hq
  refine AI nofun ?_
  refine p2 ?_ (z87 h)
  exact qy (M:=[((3,0),(3,0)),((4,0),(4,0))]) rfl (SP rfl (S2 rfl rfl TT)) (AI (AI rfl (p6 (AI (p0 rfl (by first|rfl|omega|(simp;done)|(simp at *;omega)) rfl) (AI (p0 rfl (by first|rfl|omega|(simp;done)|(simp at *;omega)) rfl) TT)))) (AI (AI rfl (p1 z6 (fun _=>rfl) _ a2)) (AI (AI rfl (p1 z7 (fun _=>rfl) _ v365)) TT)))
theorem z9r{a0:Int}{a1:Int}{a2:List (List GR)}{a3:List Int}{v123:List Int}{v364:Int}{v365:List Int}{m:Option Nat}{o:(Int×(List (List GR))×(List Int))}(h:xc m a0 a1 a2 a3 v123 v364 v365=some o) :
 LWp Try.prog jb 3 (.loop z8l) (zb 9 (uw Try.prog jb 3 z2n (Up a0 a1 a2 a3 o))) [(0,.ptr (0,0) 0 0),(1,i6 a0),(2,i6 a1),(7,.msl (5,0) 1 0 v123.length true),(124,i6 ((a3.length:Nat):Int)),(125,i6 v364)] [((0,0),.one [.msl (3,0) 1 0 a2.length true,.msl (4,0) 1 0 v365.length false]),((3,0),.rows 1 (a2.map z6)),((4,0),.rows 1 (v365.map z7)),((5,0),.rows 1 (v123.map z7))] 6:=
 zn (m:=m) (s:=((v364,v365):(Int×(List Int)))) (r:=o) (fun(s:(Int×(List Int)))=>qa m a0 a1 a2 a3 v123 s.1 s.2) (z0y a0 a1 a2 a3 v123) (z26 a0 a1 a2 a3 v123) (z45 a0 a1 a2 a3) (fun s o h=>z7g h) h
theorem z9e{a0:Int}{a1:Int}{a2:List (List GR)}{a3:List Int}{v123:List Int}{m:Option Nat}{o:(Int×(List (List GR))×(List Int))}(h:yq m a0 a1 a2 a3 v123=some o) :
 LWp Try.prog jb 3 z2m (Up a0 a1 a2 a3 o) [(0,.ptr (0,0) 0 0),(1,i6 a0),(2,i6 a1),(7,.msl (3,0) 1 0 v123.length true)] [((0,0),.one [.msl (4,0) 1 0 a2.length true,.msl (5,0) 1 0 a3.length false]),((3,0),.rows 1 (v123.map z7)),((4,0),.rows 1 (a2.map z6)),((5,0),.rows 1 (a3.map z7))] 6:=by
 unfold yq at h
 refine xn ?_
 refine SR ?_
 refine zo ?_
 refine p2 ?_ (z9r h)
 exact qy (M:=[((3,0),(4,0)),((4,0),(5,0)),((5,0),(3,0))]) rfl (SP rfl (S2 rfl rfl (AI (p0 rfl (by first|rfl|omega|(simp;done)|(simp at *;omega)) rfl) (S2 rfl rfl TT)))) (AI (AI rfl (p6 (AI (p0 rfl (by first|rfl|omega|(simp;done)|(simp at *;omega)) rfl) (AI (p0 rfl (by first|rfl|omega|(simp;done)|(simp at *;omega)) rfl) TT)))) (AI (AI rfl (p1 z6 (fun _=>rfl) _ a2)) (AI (AI rfl (p1 z7 (fun _=>rfl) _ a3)) (AI (AI rfl (p1 z7 (fun _=>rfl) _ v123)) TT))))
theorem z8f{a0:Int}{a1:Int}{a2:List (List GR)}{a3:List Int}{v122:Bool}{v123:List Int}{m:Option Nat}{o:(Bool×(List Int)) ⊕ (Int×(List (List GR))×(List Int))}(h:ye m a0 a1 a2 a3 v122 v123=some o) :
 LWp Try.prog jb 3 z6y (yi 3 6 (Xh a0 a1 a2 a3) (Jo a0 a1 a2 a3) (Wk a0 a1 a2 a3) o) [(0,.ptr (0,0) 0 0),(1,i6 a0),(2,i6 a1),(7,.msl (5,0) 1 0 v123.length true),(8,.bool v122)] [((0,0),.one [.msl (3,0) 1 0 a2.length true,.msl (4,0) 1 0 a3.length false]),((3,0),.rows 1 (a2.map z6)),((4,0),.rows 1 (a3.map z7)),((5,0),.rows 1 (v123.map z7))] 6:=by
 unfold ye at h
 refine xn ?_
 refine SR ?_
 refine qh (v:=v122) rfl TT (fun h715=>?_) (fun h715=>?_)
 ·have h:=zj h715 h
  refine qp ?_
  refine zo ?_
  refine SR ?_
  refine SR ?_
  refine p2 (e:=[(0,.ptr (0,0) 0 0),(1,i6 a0),(2,i6 a1),(7,.msl (3,0) 1 0 v123.length true),(8,.bool false),(72,.msl (4,0) 1 0 a2.length true),(73,i6 ((a2.length:Nat):Int)),(74,i6 0)]) (L:=[((0,0),.one [.msl (4,0) 1 0 a2.length true,.msl (5,0) 1 0 a3.length false]),((3,0),.rows 1 (v123.map z7)),((4,0),.rows 1 (a2.map z6)),((5,0),.rows 1 (a3.map z7))]) (n:=6) ?_ ?_
  ·exact qy (M:=[((3,0),(5,0)),((4,0),(3,0)),((5,0),(4,0))]) rfl (SP rfl (S2 rfl rfl (AI (p0 rfl (by first|rfl|omega|(simp;done)|(simp at *;omega)) rfl) (AI (VS rfl) (AI (p0 rfl (by first|rfl|omega|(simp;done)|(simp at *;omega)) rfl) (S2 rfl rfl TT)))))) (AI (AI rfl (p6 (AI (p0 rfl (by first|rfl|omega|(simp;done)|(simp at *;omega)) rfl) (AI (p0 rfl (by first|rfl|omega|(simp;done)|(simp at *;omega)) rfl) TT)))) (AI (AI rfl (p1 z7 (fun _=>rfl) _ v123)) (AI (AI rfl (p1 z6 (fun _=>rfl) _ a2)) (AI (AI rfl (p1 z7 (fun _=>rfl) _ a3)) TT))))
  refine zo ?_
  refine p2 ?_ (zcy h)
  exact qy (M:=[((3,0),(4,0)),((4,0),(5,0)),((5,0),(3,0))]) rfl (SP rfl (S2 rfl rfl (AI (p0 rfl (by first|rfl|omega|(simp;done)|(simp at *;omega)) rfl) (AI (VS rfl) (AI (p0 rfl (by first|rfl|omega|(simp;done)|(simp at *;omega)) rfl) (S2 rfl rfl TT)))))) (AI (AI rfl (p6 (AI (p0 rfl (by first|rfl|omega|(simp;done)|(simp at *;omega)) rfl) (AI (p0 rfl (by first|rfl|omega|(simp;done)|(simp at *;omega)) rfl) TT)))) (AI (AI rfl (p1 z6 (fun _=>rfl) _ a2)) (AI (AI rfl (p1 z7 (fun _=>rfl) _ a3)) (AI (AI rfl (p1 z7 (fun _=>rfl) _ v123)) TT))))
 ·have h:=zm h715 h
  refine ur ?_
  obtain⟨o,hq,rfl⟩:=p4.1 h
  replace h:=hq;clear hq
  refine AI nofun ?_
  refine p2 ?_ (z9e h)
  exact qy (M:=[((3,0),(5,0)),((4,0),(3,0)),((5,0),(4,0))]) rfl (SP rfl (S2 rfl rfl (AI (p0 rfl (by first|rfl|omega|(simp;done)|(simp at *;omega)) rfl) TT))) (AI (AI rfl (p6 (AI (p0 rfl (by first|rfl|omega|(simp;done)|(simp at *;omega)) rfl) (AI (p0 rfl (by first|rfl|omega|(simp;done)|(simp at *;omega)) rfl) TT)))) (AI (AI rfl (p1 z7 (fun _=>rfl) _ v123)) (AI (AI rfl (p1 z6 (fun _=>rfl) _ a2)) (AI (AI rfl (p1 z7 (fun _=>rfl) _ a3)) TT))))
theorem zbv{a0:Int}{a1:Int}{a2:List (List GR)}{a3:List Int}{v122:Bool}{v123:List Int}{m:Option Nat}{o:(Int×(List (List GR))×(List Int))}(h:xb m a0 a1 a2 a3 v122 v123=some o) :
 LWp Try.prog jb 3 (.loop z6y) (zb 1 (uw Try.prog jb 3 z2m (Up a0 a1 a2 a3 o))) [(0,.ptr (0,0) 0 0),(1,i6 a0),(2,i6 a1),(7,.msl (5,0) 1 0 v123.length true),(8,.bool v122)] [((0,0),.one [.msl (3,0) 1 0 a2.length true,.msl (4,0) 1 0 a3.length false]),((3,0),.rows 1 (a2.map z6)),((4,0),.rows 1 (a3.map z7)),((5,0),.rows 1 (v123.map z7))] 6:=
 zn (m:=m) (s:=((v122,v123):(Bool×(List Int)))) (r:=o) (fun(s:(Bool×(List Int)))=>ye m a0 a1 a2 a3 s.1 s.2) (Xh a0 a1 a2 a3) (Jo a0 a1 a2 a3) (Wk a0 a1 a2 a3) (fun s o h=>z8f h) h
def zp(m:Option Nat)(a0:Int)(a1:Int)(a2:List (List GR))(a3:List Int):Option (Int×(List (List GR))×(List Int)):=
 if((decide (a0<0)) || (decide (a0≥((a2.length:Nat):Int))))=true then
  some (1,a2,a3)
 else
  if(((decide (a1<0))==false)=true→(0:Int)≤a0∧a0<((a2.length:Nat):Int)) then
  if(((decide (a1<0))==false)=true→(0+a0.toNat)<a2.length) then
  if((decide (a1<0)) || (decide (a1≥(((a2.getD (0+a0.toNat) default).map z8).length:Int))))=true then
   some (5,a2,a3)
  else
   if(0:Int)≤((a2.length:Nat):Int)∧((a2.length:Nat):Int)≤((a2.length:Nat):Int)∧((a2.length:Nat):Int)*8≤140737488355328 then
   if(0:Int)≤a0∧a0<((a2.length:Nat):Int) then
   if(0+a0.toNat)<a2.length then
   if(0:Int)≤a1∧a1<(((a2.getD (0+a0.toNat) default).map z8).length:Int) then
   (vo m (GR.mk (((a2.getD (0+a0.toNat) default).getD a1.toNat default).fM) (((a2.getD (0+a0.toNat) default).getD a1.toNat default).fA)) a3).bind fun v1=>
   if(0:Int)≤a0∧a0<((((p5 ((a2.length:Nat):Int).toNat (0:Int)).map z7).length:Nat):Int) then
   if(0+a0.toNat)<(p5 ((a2.length:Nat):Int).toNat (0:Int)).length then
   xb m a0 a1 a2 a3 true ((p5 ((a2.length:Nat):Int).toNat (0:Int)).set (0+a0.toNat) v1)
   else none
   else none
   else none
   else none
   else none
   else none
  else none
  else none
theorem ze5{a0:Int}{a1:Int}{a2:List (List GR)}{a3:List Int}{m:Option Nat}{o:Int×(List (List GR))×(List Int)}(h:zp m a0 a1 a2 a3=some o):LWp Try.prog jb 3 zcj (Up a0 a1 a2 a3 o) (qe 0 [.ptr (0,0) 0 0,i6 a0,i6 a1]) [((0,0),.one [.msl (0,1) 1 0 a2.length true,.msl (0,2) 1 0 a3.length false]),((0,1),.rows 1 (a2.map z6)),((0,2),.rows 1 (a3.map z7))] 3:=by
 unfold zp at h
 refine SR ?_
 refine xn ?_
 refine zo ?_
 refine SR ?_
 refine HP ?_
 refine HP ?_
 refine HP ?_
 refine HP ?_
 refine AI (fun hp=>(AI hp hp)) ?_
 refine AI (fun hc=>(bqf hc)) ?_
 refine p2 (e:=[(0,.ptr (0,0) 0 0),(1,i6 a0),(2,i6 a1),(17,.bool ((decide (a0<0)) || (decide (a0≥((a2.length:Nat):Int)))))]) (L:=[((0,0),.one [.msl (3,0) 1 0 a2.length true,.msl (4,0) 1 0 a3.length false]),((3,0),.rows 1 (a2.map z6)),((4,0),.rows 1 (a3.map z7))]) (n:=5) ?_ ?_
 ·exact qy (M:=[((3,0),(0,1)),((4,0),(0,2))]) rfl (SP rfl (S2 rfl rfl (AI (VS rfl) TT))) (AI (AI rfl (p6 (AI (p0 rfl (by first|rfl|omega|(simp;done)|(simp at *;omega)) rfl) (AI (p0 rfl (by first|rfl|omega|(simp;done)|(simp at *;omega)) rfl) TT)))) (AI (AI rfl (p1 z6 (fun _=>rfl) _ a2)) (AI (AI rfl (p1 z7 (fun _=>rfl) _ a3)) TT)))
 refine qh (v:=((decide (a0<0)) || (decide (a0≥((a2.length:Nat):Int))))) rfl TT (fun h1=>?_) (fun h1=>?_)
 ·have h:=zj h1 h
  refine SR ?_
  refine Ya ?_
  cases h
  exact AI TT (z1f (n':=5) [((3,0),(3,0)),((4,0),(4,0))] [] rfl rfl (VS rfl) (AI (AI rfl (p6 (AI (p0 rfl (by first|rfl|omega|(simp;done)|(simp at *;omega)) rfl) (AI (p0 rfl (by first|rfl|omega|(simp;done)|(simp at *;omega)) rfl) TT)))) (AI (AI rfl (p1 z6 (fun _=>rfl) _ a2)) (AI (AI rfl (p1 z7 (fun _=>rfl) _ a3)) TT))))
 ·have h:=zm h1 h
  refine SR ?_
  refine HP ?_
  refine HP ?_
  refine HP ?_
  obtain⟨h2,h⟩:=za h
  refine AI (fun hp=>(AI (AI hp hp) (h2 hp))) ?_
  obtain⟨h3,h⟩:=za h
  refine EX (z6 (a2.getD (0+a0.toNat) default)) (AI (fun hp=>AI (zc z6 _ _ (h3 hp)) (AI hp (AI (kv z6 (h3 hp)) (NB rfl)))) ?_)
  refine HP ?_
  refine AI (fun hp=>(AI hp hp)) ?_
  refine AI (fun hc=>(bqf hc)) ?_
  refine p2 (e:=[(0,.ptr (0,0) 0 0),(1,i6 a0),(2,i6 a1),(29,.bool ((decide (a1<0)) || (decide (a1≥(((a2.getD (0+a0.toNat) default).map z8).length:Int)))))]) (L:=[((0,0),.one [.msl (3,0) 1 0 a2.length true,.msl (4,0) 1 0 a3.length false]),((3,0),.rows 1 (a2.map z6)),((4,0),.rows 1 (a3.map z7))]) (n:=5) ?_ ?_
  ·exact qy (M:=[((3,0),(3,0)),((4,0),(4,0))]) rfl (SP rfl (S2 rfl rfl (AI (VS rfl) TT))) (AI (AI rfl (p6 (AI (p0 rfl (by first|rfl|omega|(simp;done)|(simp at *;omega)) rfl) (AI (p0 rfl (by first|rfl|omega|(simp;done)|(simp at *;omega)) rfl) TT)))) (AI (AI rfl (p1 z6 (fun _=>rfl) _ a2)) (AI (AI rfl (p1 z7 (fun _=>rfl) _ a3)) TT)))
  refine qh (v:=((decide (a1<0)) || (decide (a1≥(((a2.getD (0+a0.toNat) default).map z8).length:Int))))) rfl TT (fun h4=>?_) (fun h4=>?_)
  ·have h:=zj h4 h
   refine SR ?_
   refine Ya ?_
   cases h
   exact AI TT (z1f (n':=5) [((3,0),(3,0)),((4,0),(4,0))] [] rfl rfl (VS rfl) (AI (AI rfl (p6 (AI (p0 rfl (by first|rfl|omega|(simp;done)|(simp at *;omega)) rfl) (AI (p0 rfl (by first|rfl|omega|(simp;done)|(simp at *;omega)) rfl) TT)))) (AI (AI rfl (p1 z6 (fun _=>rfl) _ a2)) (AI (AI rfl (p1 z7 (fun _=>rfl) _ a3)) TT))))
  ·have h:=zm h4 h
   refine qp ?_
   refine SR ?_
   obtain⟨h5,h⟩:=za h
   refine EX ((p5 ((a2.length:Nat):Int).toNat (0:Int)).map z7) (EX true (AI (Or.inl (V7 z7 ((a2.length:Nat):Int).toNat 0)) (AI (by simp) (AI h5 ?_))))
   refine xn ?_
   refine zwr rfl ?_
   obtain⟨h6,h⟩:=za h
   refine AI h6 ?_
   obtain⟨h7,h⟩:=za h
   refine EX (z6 (a2.getD (0+a0.toNat) default)) (AI (zc z6 _ _ h7) (AI (AI (kv z6 h7) (NB rfl)) ?_))
   obtain⟨h8,h⟩:=za h
   refine AI h8 ?_
   refine EX (z8 ((a2.getD (0+a0.toNat) default).getD a1.toNat default)) (AI (zc z8 _ _ (yj z8 h8)) (AI (AI (xv h8) (NB rfl)) ?_))
   obtain⟨v1,h9,h⟩:=bind_some h
   refine PFn.readB [(4,0)] (zp4 h9) rfl (AI (VS rfl) (AI (Vw.frzB z7 Yg (fun h=>h) rfl rfl (by first|rfl|omega|(simp;done)|(simp at *;omega))) TT)) ?_
   obtain⟨h10,h⟩:=za h
   refine AI h10 ?_
   obtain⟨h11,h⟩:=za h
   refine EX (((p5 ((a2.length:Nat):Int).toNat (0:Int)).set (0+a0.toNat) v1).map z7) (AI (Kg z7 _ _ _ _ _ h11 rfl) (AI (AI rfl (AI (kv z7 h11) (NB rfl))) ?_))
   refine p2 (e:=[(0,.ptr (0,0) 0 0),(1,i6 a0),(2,i6 a1),(7,.msl (3,0) 1 0 (((p5 ((a2.length:Nat):Int).toNat (0:Int)).map z7).length) true)]) (L:=[((0,0),.one [.msl (4,0) 1 0 a2.length true,.msl (5,0) 1 0 a3.length false]),((3,0),.rows 1 (((p5 ((a2.length:Nat):Int).toNat (0:Int)).set (0+a0.toNat) v1).map z7)),((4,0),.rows 1 (a2.map z6)),((5,0),.rows 1 (a3.map z7))]) (n:=6) ?_ ?_
   ·exact qy (M:=[((3,0),(5,0)),((4,0),(3,0)),((5,0),(4,0))]) rfl (SP rfl (S2 rfl rfl (AI (p0 rfl (by first|rfl|omega|(simp;done)|(simp at *;omega)) rfl) TT))) (AI (AI rfl (p6 (AI (p0 rfl (by first|rfl|omega|(simp;done)|(simp at *;omega)) rfl) (AI (p0 rfl (by first|rfl|omega|(simp;done)|(simp at *;omega)) rfl) TT)))) (AI (AI rfl (p1 z7 (fun _=>rfl) _ ((p5 ((a2.length:Nat):Int).toNat (0:Int)).set (0+a0.toNat) v1))) (AI (AI rfl (p1 z6 (fun _=>rfl) _ a2)) (AI (AI rfl (p1 z7 (fun _=>rfl) _ a3)) TT))))
   refine xn ?_
   refine SR ?_
   refine zo ?_
   refine p2 ?_ (zbv h)
   exact qy (M:=[((3,0),(4,0)),((4,0),(5,0)),((5,0),(3,0))]) rfl (SP rfl (S2 rfl rfl (AI (p0 rfl (by first|rfl|omega|(simp;done)|(simp at *;omega)) rfl) (AI (VS rfl) TT)))) (AI (AI rfl (p6 (AI (p0 rfl (by first|rfl|omega|(simp;done)|(simp at *;omega)) rfl) (AI (p0 rfl (by first|rfl|omega|(simp;done)|(simp at *;omega)) rfl) TT)))) (AI (AI rfl (p1 z6 (fun _=>rfl) _ a2)) (AI (AI rfl (p1 z7 (fun _=>rfl) _ a3)) (AI (AI rfl (p1 z7 (fun _=>rfl) _ ((p5 ((a2.length:Nat):Int).toNat (0:Int)).set (0+a0.toNat) v1))) TT))))
theorem zs6{a0:Int}{a1:Int}{a2:List (List GR)}{a3:List Int}{m:Option Nat}{o:Int×(List (List GR))×(List Int)}(h:zp m a0 a1 a2 a3=some o):ACalls Try.prog 11 [.ptr (0,0) 0 0,i6 a0,i6 a1] [((0,0),.one [.msl (0,1) 1 0 a2.length true,.msl (0,2) 1 0 a3.length false]),((0,1),.rows 1 (a2.map z6)),((0,2),.rows 1 (a3.map z7))] 3 (Ze 5 (i6 o.1) [((0,0),.one [.msl (3,0) 1 0 o.2.1.length true,.msl (4,0) 1 0 o.2.2.length false]),((3,0),.rows 1 (o.2.1.map z6)),((4,0),.rows 1 (o.2.2.map z7))]):=Zr (L:=zmc) zmn zof (NB rfl) (ze5 h)
def z7d:LCode:=(.seq (.region [Qo 35 (.bin .lss (.t 34) (.t 33))])
 (.seq (.cond (.t 35)
  .skip
  (.exit 4))
 (.seq (.block 5
  (.seq (.region [Qo 36 (.iaddr 1 (.t 32) (.t 34)),
   Ql 37 1 36,
   Qm 12 37])
  (.region [Qm 38 10,
   Qm 39 1,
   Qm 40 12,
   Qo 41 (.iaddr 1 (.t 39) (.t 40)),
   Ql 42 1 41,
   Qo 43 (.bin .and (.t 38) (.t 42)),
   Qm 10 43])))
 (.region [Qo 44 (.bin .add (.t 34) (.c (i6 1))),
  Qm 34 44]))))
def z2o:LCode:=(.region [Qm 45 5,
 Qm 46 6,
 Qm 47 5,
 Qm 48 6,
 Qo 49 (.iaddr 1 (.t 47) (.t 48)),
 Ql 50 1 49,
 Qm 51 10,
 Qo 52 (.bin .or (.t 50) (.t 51)),
 Qo 53 (.iaddr 1 (.t 45) (.t 46)),
 ⟨none,.store 1 (.t 53) (.t 52),none⟩])
def z03:LCode:=(.region [Qo 54 (.bin .add (.t 25) (.c (i6 1))),
 Qm 25 54])
def z99:LCode:=(.seq (.region [Qo 26 (.bin .lss (.t 25) (.t 24))])
 (.seq (.cond (.t 26)
  .skip
  (.exit 2))
 (.seq (.block 3
  (.seq (.region [Qo 27 (.iaddr 2 (.t 23) (.t 25)),
   Qt 28 2 27,
   Qo 9 (.alloc [(i6 0),(.isl 1 [] true)]),
   ⟨none,.store 2 (.t 9) (.t 28),none⟩])
  (.seq (.region [Qf 29 0 9,
   Ql 30 1 29,
   Qm 10 30])
  (.seq (.seq (.region [Qf 31 1 9,
   Ql 32 1 31,
   Qo 33 (.len false (.t 32)),
   Qi 34 0])
  (.block 4
   (.loop
    z7d)))
  z2o))))
 z03)))
def z2u:LCode:=(.region [Qo 55 (.bin .add (.t 18) (.c (i6 1))),
 Qm 18 55])
def z74:LCode:=(.seq (.region [Qo 19 (.bin .lss (.t 18) (.t 17))])
 (.seq (.cond (.t 19)
  .skip
  (.exit 0))
 (.seq (.block 1
  (.seq (.region [Qm 20 18,
   Qo 21 (.iaddr 1 (.t 16) (.t 18)),
   Ql 22 1 21,
   Qm 6 20,
   Qm 7 22])
  (.seq (.region [Qm 23 7,
   Qo 24 (.len false (.t 23)),
   Qi 25 0])
  (.block 2
   (.loop
    z99)))))
 z2u)))
def z2y:LCode:=(.seq (.region [Qm 56 5,
 Qm 4 56])
 .ret)
def zi7:LCode:=(.seq (.region [Qo 4 (.mv (.c (.val (.slice none 0 0))))])
 (.seq (.region [Qm 13 0,
  Qo 14 (.len false (.t 13)),
  Qo 15 (.mkslice false 1 8 [(i6 0)] (.t 14) (.t 14)),
  Qm 5 15])
 (.seq (.seq (.region [Qm 16 0,
  Qo 17 (.len false (.t 16)),
  Qi 18 0])
 (.block 0
  (.loop
   z74)))
 z2y)))
def wk:Lay:=⟨57,[15],false⟩
def zak:List LRes:=[.t 4]
def zl6:LFn:=⟨2,wk,zi7,zak⟩
theorem zr1:Zb Try.prog [15] 26=some zl6:=by kernel_rfl
theorem zos:Xk Try.prog 26:=⟨_,Try.func26,rfl,rfl⟩
def z73(a0:List (List GR))(a1:List Int)(o:(List Int)):Exit→Env→AHeap→Nat→Prop:=W4 zak (Yy 3 4 (.msl (3,0) 1 0 o.length true) [((0,0),.rows 1 (a1.map z7)),((3,0),.rows 1 (o.map z7))])
def X1(a0:List (List GR))(a1:List Int)(s:(Int×(List Int))):Env:=[(1,.msl (0,0) 1 0 a1.length true),(5,.msl (3,0) 1 0 s.2.length true),(16,.isl 1 (a0.map z6) false),(17,i6 ((a0.map z6).length:Int)),(18,i6 s.1)]
def Ja(a0:List (List GR))(a1:List Int)(s:(Int×(List Int))):AHeap:=[((0,0),.rows 1 (a1.map z7)),((3,0),.rows 1 (s.2.map z7))]
def Wb(a0:List (List GR))(a1:List Int)(o:(List Int)):Exit→Env→AHeap→Nat→Prop:=(zb 0 (uw Try.prog wk 3 z2y (z73 a0 a1 o)))
def Yb(a0:List (List GR))(a1:List Int)(v9:Int)(s:(Int×(List Int))):Env:=[(1,.msl (0,0) 1 0 a1.length true),(5,.msl (3,0) 1 0 s.2.length true),(6,i6 v9),(16,.isl 1 (a0.map z6) false),(17,i6 ((a0.map z6).length:Int)),(18,i6 v9),(23,.isl 2 ((a0.getD v9.toNat default).map z8) false),(24,i6 (((a0.getD v9.toNat default).map z8).length:Int)),(25,i6 s.1)]
def Yo(a0:List (List GR))(a1:List Int)(v9:Int)(s:(Int×(List Int))):AHeap:=[((0,0),.rows 1 (a1.map z7)),((3,0),.rows 1 (s.2.map z7))]
def Q9(a0:List (List GR))(a1:List Int)(o:((Int×(List Int)) ⊕ (List Int))):Exit→Env→AHeap→Nat→Prop:=(zb 2 (zb 1 (uw Try.prog wk 3 z2u (yi 3 4 (X1 a0 a1) (Ja a0 a1) (Wb a0 a1) o))))
def Uz(a0:List (List GR))(a1:List Int)(v9:Int)(v21:Int)(v22:List Int)(s:(Int×Int)):Env:=[(1,.msl (0,0) 1 0 a1.length true),(5,.msl (3,0) 1 0 v22.length true),(6,i6 v9),(10,i6 s.1),(16,.isl 1 (a0.map z6) false),(17,i6 ((a0.map z6).length:Int)),(18,i6 v9),(23,.isl 2 ((a0.getD v9.toNat default).map z8) false),(24,i6 (((a0.getD v9.toNat default).map z8).length:Int)),(25,i6 v21),(32,.isl 1 ((((a0.getD v9.toNat default).getD v21.toNat default).fA).map z7) false),(33,i6 (((((a0.getD v9.toNat default).getD v21.toNat default).fA).map z7).length:Int)),(34,i6 s.2)]
def z27(a0:List (List GR))(a1:List Int)(v9:Int)(v21:Int)(v22:List Int)(s:(Int×Int)):AHeap:=[((0,0),.rows 1 (a1.map z7)),((3,0),.rows 1 (v22.map z7))]
def z4p(a0:List (List GR))(a1:List Int)(v9:Int)(o:((Int×(List Int)) ⊕ ((Int×(List Int)) ⊕ (List Int)))):Exit→Env→AHeap→Nat→Prop:=(zb 4 (uw Try.prog wk 3 z2o (zb 3 (uw Try.prog wk 3 z03 (yi 3 4 (Yb a0 a1 v9) (Yo a0 a1 v9) (Q9 a0 a1) o)))))
def u5(m:Option Nat)(a0:List (List GR))(a1:List Int)(v9:Int)(v21:Int)(v22:List Int)(v25:Int):Option ((Int×(List Int)) ⊕ ((Int×(List Int)) ⊕ (List Int))):=
 some (.inl ((W (v21+1)),(v22.set (0+v9.toNat) (y6 .or .i64 (v22.getD (0+v9.toNat) default) v25))))
def ky(m:Option Nat)(a0:List (List GR))(a1:List Int)(v9:Int)(v21:Int)(v22:List Int)(v25:Int):Option ((Int×(List Int)) ⊕ ((Int×(List Int)) ⊕ (List Int))):=
 if(0:Int)≤v9∧v9<((v22.length:Nat):Int) then
 if(0+v9.toNat)<v22.length then
 if(0:Int)≤v9∧v9<((v22.length:Nat):Int) then
 if(0+v9.toNat)<v22.length then
 u5 m a0 a1 v9 v21 v22 v25
 else none
 else none
 else none
 else none
def jj(m:Option Nat)(a0:List (List GR))(a1:List Int)(v9:Int)(v21:Int)(v22:List Int)(v25:Int)(v26:Int):Option ((Int×Int) ⊕ ((Int×(List Int)) ⊕ ((Int×(List Int)) ⊕ (List Int)))):=
 if(decide (v26<(((((a0.getD v9.toNat default).getD v21.toNat default).fA).map z7).length:Int)))=true then
  if(0:Int)≤v26∧v26<(((((a0.getD v9.toNat default).getD v21.toNat default).fA).map z7).length:Int) then
  if(0:Int)≤((((a0.getD v9.toNat default).getD v21.toNat default).fA).getD v26.toNat default)∧((((a0.getD v9.toNat default).getD v21.toNat default).fA).getD v26.toNat default)<((a1.length:Nat):Int) then
  if(0+((((a0.getD v9.toNat default).getD v21.toNat default).fA).getD v26.toNat default).toNat)<a1.length then
  some (.inl ((y6 .and .i64 v25 (a1.getD (0+((((a0.getD v9.toNat default).getD v21.toNat default).fA).getD v26.toNat default).toNat) default)),(W (v26+1))))
  else none
  else none
  else none
 else
  p7 p9 (
   ky m a0 a1 v9 v21 v22 v25)
def wi(m:Option Nat)(a0:List (List GR))(a1:List Int)(v9:Int)(v21:Int)(v22:List Int)(v25:Int)(v26:Int):Option ((Int×(List Int)) ⊕ ((Int×(List Int)) ⊕ (List Int))):=kw m (fun(s:(Int×Int))=>jj m a0 a1 v9 v21 v22 s.1 s.2) (v25,v26)
theorem zct{a0:List (List GR)}{a1:List Int}{v9:Int}{v21:Int}{v22:List Int}{v25:Int}{m:Option Nat}{o:((Int×(List Int)) ⊕ ((Int×(List Int)) ⊕ (List Int)))}(h:u5 m a0 a1 v9 v21 v22 v25=some o) :
 LWp Try.prog wk 3 z03 (yi 3 4 (Yb a0 a1 v9) (Yo a0 a1 v9) (Q9 a0 a1) o) [(1,.msl (0,0) 1 0 a1.length true),(5,.msl (3,0) 1 0 v22.length true),(6,i6 v9),(16,.isl 1 (a0.map z6) false),(17,i6 ((a0.map z6).length:Int)),(18,i6 v9),(23,.isl 2 ((a0.getD v9.toNat default).map z8) false),(24,i6 (((a0.getD v9.toNat default).map z8).length:Int)),(25,i6 v21)] [((0,0),.rows 1 (a1.map z7)),((3,0),.rows 1 ((v22.set (0+v9.toNat) (y6 .or .i64 (v22.getD (0+v9.toNat) default) v25)).map z7))] 4:=by
 unfold u5 at h
 refine Y6 ?_
 cases h
 exact AI rfl (qy (M:=[((3,0),(3,0))]) rfl (AI (p0 rfl (by first|rfl|omega|(simp;done)|(simp at *;omega)) rfl) (AI (p0 rfl (by first|rfl|omega|(simp;done)|(simp at *;omega)) rfl) (S4 rfl rfl rfl rfl (S2 rfl rfl (AI (VS rfl) TT))))) (AI (AI rfl (p1 z7 (fun _=>rfl) _ a1)) (AI (AI rfl (p1 z7 (fun _=>rfl) _ (v22.set (0+v9.toNat) (y6 .or .i64 (v22.getD (0+v9.toNat) default) v25)))) TT)))
theorem zbc{a0:List (List GR)}{a1:List Int}{v9:Int}{v21:Int}{v22:List Int}{v25:Int}{m:Option Nat}{o:((Int×(List Int)) ⊕ ((Int×(List Int)) ⊕ (List Int)))}(h:ky m a0 a1 v9 v21 v22 v25=some o) :
 LWp Try.prog wk 3 z2o (zb 3 (uw Try.prog wk 3 z03 (yi 3 4 (Yb a0 a1 v9) (Yo a0 a1 v9) (Q9 a0 a1) o))) [(1,.msl (0,0) 1 0 a1.length true),(5,.msl (3,0) 1 0 v22.length true),(6,i6 v9),(10,i6 v25),(16,.isl 1 (a0.map z6) false),(17,i6 ((a0.map z6).length:Int)),(18,i6 v9),(23,.isl 2 ((a0.getD v9.toNat default).map z8) false),(24,i6 (((a0.getD v9.toNat default).map z8).length:Int)),(25,i6 v21)] [((0,0),.rows 1 (a1.map z7)),((3,0),.rows 1 (v22.map z7))] 4:=by
 unfold ky at h
 refine Y6 ?_
 obtain⟨h166,h⟩:=za h
 refine AI h166 ?_
 obtain⟨h167,h⟩:=za h
 refine EX (z7 (v22.getD (0+v9.toNat) default)) (AI (zc z7 _ _ h167) (AI (AI (kv z7 h167) (NB rfl)) ?_))
 obtain⟨h168,h⟩:=za h
 refine AI h168 ?_
 obtain⟨h169,h⟩:=za h
 refine EX ((v22.set (0+v9.toNat) (y6 .or .i64 (v22.getD (0+v9.toNat) default) v25)).map z7) (AI (Kg z7 _ _ _ _ _ h169 rfl) (AI (AI rfl (AI (kv z7 h169) (NB rfl))) ?_))
 refine p2 ?_ (zct h)
 exact qy (M:=[((3,0),(3,0))]) rfl (AI (p0 rfl (by first|rfl|omega|(simp;done)|(simp at *;omega)) rfl) (AI (p0 rfl (by first|rfl|omega|(simp;done)|(simp at *;omega)) rfl) (S4 rfl rfl rfl rfl (S2 rfl rfl (AI (VS rfl) TT))))) (AI (AI rfl (p1 z7 (fun _=>rfl) _ a1)) (AI (AI rfl (p1 z7 (fun _=>rfl) _ (v22.set (0+v9.toNat) (y6 .or .i64 (v22.getD (0+v9.toNat) default) v25)))) TT))
theorem z7e{a0:List (List GR)}{a1:List Int}{v9:Int}{v21:Int}{v22:List Int}{v25:Int}{v26:Int}{m:Option Nat}{o:(Int×Int) ⊕ ((Int×(List Int)) ⊕ ((Int×(List Int)) ⊕ (List Int)))}(h:jj m a0 a1 v9 v21 v22 v25 v26=some o) :
 LWp Try.prog wk 3 z7d (yi 3 4 (Uz a0 a1 v9 v21 v22) (z27 a0 a1 v9 v21 v22) (z4p a0 a1 v9) o) [(1,.msl (0,0) 1 0 a1.length true),(5,.msl (3,0) 1 0 v22.length true),(6,i6 v9),(10,i6 v25),(16,.isl 1 (a0.map z6) false),(17,i6 ((a0.map z6).length:Int)),(18,i6 v9),(23,.isl 2 ((a0.getD v9.toNat default).map z8) false),(24,i6 (((a0.getD v9.toNat default).map z8).length:Int)),(25,i6 v21),(32,.isl 1 ((((a0.getD v9.toNat default).getD v21.toNat default).fA).map z7) false),(33,i6 (((((a0.getD v9.toNat default).getD v21.toNat default).fA).map z7).length:Int)),(34,i6 v26)] [((0,0),.rows 1 (a1.map z7)),((3,0),.rows 1 (v22.map z7))] 4:=by
 unfold jj at h
 refine SR ?_
 refine xn ?_
 refine qh (v:=(decide (v26<(((((a0.getD v9.toNat default).getD v21.toNat default).fA).map z7).length:Int)))) rfl TT (fun h162=>?_) (fun h162=>?_)
 ·have h:=zj h162 h
  refine qp ?_
  refine xn ?_
  refine zo ?_
  refine SR ?_
  obtain⟨h163,h⟩:=za h
  refine AI h163 ?_
  refine EX (z7 ((((a0.getD v9.toNat default).getD v21.toNat default).fA).getD v26.toNat default)) (AI (zc z7 _ _ (yj z7 h163)) (AI (AI (xv h163) (NB rfl)) ?_))
  refine Y6 ?_
  obtain⟨h164,h⟩:=za h
  refine AI h164 ?_
  obtain⟨h165,h⟩:=za h
  refine EX (z7 (a1.getD (0+((((a0.getD v9.toNat default).getD v21.toNat default).fA).getD v26.toNat default).toNat) default)) (AI (zc z7 _ _ h165) (AI (AI (kv z7 h165) (NB rfl)) ?_))
  refine p2 (e:=[(1,.msl (0,0) 1 0 a1.length true),(5,.msl (3,0) 1 0 v22.length true),(6,i6 v9),(10,i6 (y6 .and .i64 v25 (a1.getD (0+((((a0.getD v9.toNat default).getD v21.toNat default).fA).getD v26.toNat default).toNat) default))),(16,.isl 1 (a0.map z6) false),(17,i6 ((a0.map z6).length:Int)),(18,i6 v9),(23,.isl 2 ((a0.getD v9.toNat default).map z8) false),(24,i6 (((a0.getD v9.toNat default).map z8).length:Int)),(25,i6 v21),(32,.isl 1 ((((a0.getD v9.toNat default).getD v21.toNat default).fA).map z7) false),(33,i6 (((((a0.getD v9.toNat default).getD v21.toNat default).fA).map z7).length:Int)),(34,i6 v26)]) (L:=[((0,0),.rows 1 (a1.map z7)),((3,0),.rows 1 (v22.map z7))]) (n:=4) ?_ ?_
  ·exact qy (M:=[((3,0),(3,0))]) rfl (AI (p0 rfl (by first|rfl|omega|(simp;done)|(simp at *;omega)) rfl) (AI (p0 rfl (by first|rfl|omega|(simp;done)|(simp at *;omega)) rfl) (S4 rfl rfl rfl rfl (S4 rfl rfl rfl rfl (S2 rfl rfl (AI (VS rfl) TT)))))) (AI (AI rfl (p1 z7 (fun _=>rfl) _ a1)) (AI (AI rfl (p1 z7 (fun _=>rfl) _ v22)) TT))
  refine Y6 ?_
  cases h
  exact AI rfl (qy (M:=[((3,0),(3,0))]) rfl (AI (p0 rfl (by first|rfl|omega|(simp;done)|(simp at *;omega)) rfl) (AI (p0 rfl (by first|rfl|omega|(simp;done)|(simp at *;omega)) rfl) (S4 rfl rfl rfl rfl (S4 rfl rfl rfl rfl (S2 rfl rfl (AI (VS rfl) TT)))))) (AI (AI rfl (p1 z7 (fun _=>rfl) _ a1)) (AI (AI rfl (p1 z7 (fun _=>rfl) _ v22)) TT)))
 ·have h:=zm h162 h
  refine ur ?_
  obtain⟨o,hq,rfl⟩:=p4.1 h
  replace h:=hq;clear hq
  refine AI nofun ?_
  refine p2 ?_ (zbc h)
  exact qy (M:=[((3,0),(3,0))]) rfl (AI (p0 rfl (by first|rfl|omega|(simp;done)|(simp at *;omega)) rfl) (AI (p0 rfl (by first|rfl|omega|(simp;done)|(simp at *;omega)) rfl) (S4 rfl rfl rfl rfl (S4 rfl rfl rfl rfl TT)))) (AI (AI rfl (p1 z7 (fun _=>rfl) _ a1)) (AI (AI rfl (p1 z7 (fun _=>rfl) _ v22)) TT))
theorem zbw{a0:List (List GR)}{a1:List Int}{v9:Int}{v21:Int}{v22:List Int}{v25:Int}{v26:Int}{m:Option Nat}{o:((Int×(List Int)) ⊕ ((Int×(List Int)) ⊕ (List Int)))}(h:wi m a0 a1 v9 v21 v22 v25 v26=some o) :
 LWp Try.prog wk 3 (.loop z7d) (zb 4 (uw Try.prog wk 3 z2o (zb 3 (uw Try.prog wk 3 z03 (yi 3 4 (Yb a0 a1 v9) (Yo a0 a1 v9) (Q9 a0 a1) o))))) [(1,.msl (0,0) 1 0 a1.length true),(5,.msl (3,0) 1 0 v22.length true),(6,i6 v9),(10,i6 v25),(16,.isl 1 (a0.map z6) false),(17,i6 ((a0.map z6).length:Int)),(18,i6 v9),(23,.isl 2 ((a0.getD v9.toNat default).map z8) false),(24,i6 (((a0.getD v9.toNat default).map z8).length:Int)),(25,i6 v21),(32,.isl 1 ((((a0.getD v9.toNat default).getD v21.toNat default).fA).map z7) false),(33,i6 (((((a0.getD v9.toNat default).getD v21.toNat default).fA).map z7).length:Int)),(34,i6 v26)] [((0,0),.rows 1 (a1.map z7)),((3,0),.rows 1 (v22.map z7))] 4:=
 zn (m:=m) (s:=((v25,v26):(Int×Int))) (r:=o) (fun(s:(Int×Int))=>jj m a0 a1 v9 v21 v22 s.1 s.2) (Uz a0 a1 v9 v21 v22) (z27 a0 a1 v9 v21 v22) (z4p a0 a1 v9) (fun s o h=>z7e h) h
def kz(m:Option Nat)(a0:List (List GR))(a1:List Int)(v9:Int)(v22:List Int):Option ((Int×(List Int)) ⊕ (List Int)):=
 some (.inl ((W (v9+1)),v22))
def ji(m:Option Nat)(a0:List (List GR))(a1:List Int)(v9:Int)(v21:Int)(v22:List Int):Option ((Int×(List Int)) ⊕ ((Int×(List Int)) ⊕ (List Int))):=
 if(decide (v21<(((a0.getD v9.toNat default).map z8).length:Int)))=true then
  if(0:Int)≤v21∧v21<(((a0.getD v9.toNat default).map z8).length:Int) then
  wi m a0 a1 v9 v21 v22 (((a0.getD v9.toNat default).getD v21.toNat default).fM) 0
  else none
 else
  p7 p9 (
   kz m a0 a1 v9 v22)
def wh(m:Option Nat)(a0:List (List GR))(a1:List Int)(v9:Int)(v21:Int)(v22:List Int):Option ((Int×(List Int)) ⊕ (List Int)):=kw m (fun(s:(Int×(List Int)))=>ji m a0 a1 v9 s.1 s.2) (v21,v22)
theorem zcb{a0:List (List GR)}{a1:List Int}{v9:Int}{v22:List Int}{m:Option Nat}{o:((Int×(List Int)) ⊕ (List Int))}(h:kz m a0 a1 v9 v22=some o) :
 LWp Try.prog wk 3 z2u (yi 3 4 (X1 a0 a1) (Ja a0 a1) (Wb a0 a1) o) [(1,.msl (0,0) 1 0 a1.length true),(5,.msl (3,0) 1 0 v22.length true),(16,.isl 1 (a0.map z6) false),(17,i6 ((a0.map z6).length:Int)),(18,i6 v9)] [((0,0),.rows 1 (a1.map z7)),((3,0),.rows 1 (v22.map z7))] 4:=by
 unfold kz at h
 refine Y6 ?_
 cases h
 exact AI rfl (qy (M:=[((3,0),(3,0))]) rfl (AI (p0 rfl (by first|rfl|omega|(simp;done)|(simp at *;omega)) rfl) (AI (p0 rfl (by first|rfl|omega|(simp;done)|(simp at *;omega)) rfl) (S2 rfl rfl (AI (VS rfl) TT)))) (AI (AI rfl (p1 z7 (fun _=>rfl) _ a1)) (AI (AI rfl (p1 z7 (fun _=>rfl) _ v22)) TT)))
theorem z8a{a0:List (List GR)}{a1:List Int}{v9:Int}{v21:Int}{v22:List Int}{m:Option Nat}{o:(Int×(List Int)) ⊕ ((Int×(List Int)) ⊕ (List Int))}(h:ji m a0 a1 v9 v21 v22=some o) :
 LWp Try.prog wk 3 z99 (yi 3 4 (Yb a0 a1 v9) (Yo a0 a1 v9) (Q9 a0 a1) o) [(1,.msl (0,0) 1 0 a1.length true),(5,.msl (3,0) 1 0 v22.length true),(6,i6 v9),(16,.isl 1 (a0.map z6) false),(17,i6 ((a0.map z6).length:Int)),(18,i6 v9),(23,.isl 2 ((a0.getD v9.toNat default).map z8) false),(24,i6 (((a0.getD v9.toNat default).map z8).length:Int)),(25,i6 v21)] [((0,0),.rows 1 (a1.map z7)),((3,0),.rows 1 (v22.map z7))] 4:=by
 unfold ji at h
 refine SR ?_
 refine xn ?_
 refine qh (v:=(decide (v21<(((a0.getD v9.toNat default).map z8).length:Int)))) rfl TT (fun h152=>?_) (fun h152=>?_)
 ·have h:=zj h152 h
  refine qp ?_
  refine xn ?_
  refine zo ?_
  refine SR ?_
  obtain⟨h153,h⟩:=za h
  refine AI h153 ?_
  refine EX (z8 ((a0.getD v9.toNat default).getD v21.toNat default)) (AI (zc z8 _ _ (yj z8 h153)) (AI (AI (xv h153) (NB rfl)) ?_))
  refine SR ?_
  refine p2 (e:=[(1,.msl (0,0) 1 0 a1.length true),(5,.msl (3,0) 1 0 v22.length true),(6,i6 v9),(9,.ptr (4,0) 0 0),(10,i6 (((a0.getD v9.toNat default).getD v21.toNat default).fM)),(16,.isl 1 (a0.map z6) false),(17,i6 ((a0.map z6).length:Int)),(18,i6 v9),(23,.isl 2 ((a0.getD v9.toNat default).map z8) false),(24,i6 (((a0.getD v9.toNat default).map z8).length:Int)),(25,i6 v21)]) (L:=[((0,0),.rows 1 (a1.map z7)),((3,0),.rows 1 (v22.map z7)),((4,0),.one [i6 (((a0.getD v9.toNat default).getD v21.toNat default).fM),.isl 1 ((((a0.getD v9.toNat default).getD v21.toNat default).fA).map z7) false])]) (n:=5) ?_ ?_
  ·exact qy (M:=[((3,0),(3,0)),((4,0),(4,0))]) rfl (AI (p0 rfl (by first|rfl|omega|(simp;done)|(simp at *;omega)) rfl) (AI (p0 rfl (by first|rfl|omega|(simp;done)|(simp at *;omega)) rfl) (AI (VS rfl) (SP rfl (S4 rfl rfl rfl rfl (S2 rfl rfl (AI (VS rfl) TT))))))) (AI (AI rfl (p1 z7 (fun _=>rfl) _ a1)) (AI (AI rfl (p1 z7 (fun _=>rfl) _ v22)) (AI (AI rfl (OL rfl)) TT)))
  refine xn ?_
  refine SR ?_
  refine zo ?_
  refine p2 ?_ (zbw h)
  exact qy (M:=[((3,0),(3,0))]) rfl (AI (p0 rfl (by first|rfl|omega|(simp;done)|(simp at *;omega)) rfl) (AI (p0 rfl (by first|rfl|omega|(simp;done)|(simp at *;omega)) rfl) (S4 rfl rfl rfl rfl (S4 rfl rfl rfl rfl (S2 rfl rfl (AI (VS rfl) TT)))))) (AI (AI rfl (p1 z7 (fun _=>rfl) _ a1)) (AI (AI rfl (p1 z7 (fun _=>rfl) _ v22)) TT))
 ·have h:=zm h152 h
  refine ur ?_
  obtain⟨o,hq,rfl⟩:=p4.1 h
  replace h:=hq;clear hq
  refine AI nofun ?_
  refine p2 ?_ (zcb h)
  exact qy (M:=[((3,0),(3,0))]) rfl (AI (p0 rfl (by first|rfl|omega|(simp;done)|(simp at *;omega)) rfl) (AI (p0 rfl (by first|rfl|omega|(simp;done)|(simp at *;omega)) rfl) (S2 rfl rfl (AI (VS rfl) TT)))) (AI (AI rfl (p1 z7 (fun _=>rfl) _ a1)) (AI (AI rfl (p1 z7 (fun _=>rfl) _ v22)) TT))
theorem z9t{a0:List (List GR)}{a1:List Int}{v9:Int}{v21:Int}{v22:List Int}{m:Option Nat}{o:((Int×(List Int)) ⊕ (List Int))}(h:wh m a0 a1 v9 v21 v22=some o) :
 LWp Try.prog wk 3 (.loop z99) (zb 2 (zb 1 (uw Try.prog wk 3 z2u (yi 3 4 (X1 a0 a1) (Ja a0 a1) (Wb a0 a1) o)))) [(1,.msl (0,0) 1 0 a1.length true),(5,.msl (3,0) 1 0 v22.length true),(6,i6 v9),(16,.isl 1 (a0.map z6) false),(17,i6 ((a0.map z6).length:Int)),(18,i6 v9),(23,.isl 2 ((a0.getD v9.toNat default).map z8) false),(24,i6 (((a0.getD v9.toNat default).map z8).length:Int)),(25,i6 v21)] [((0,0),.rows 1 (a1.map z7)),((3,0),.rows 1 (v22.map z7))] 4:=
 zn (m:=m) (s:=((v21,v22):(Int×(List Int)))) (r:=o) (fun(s:(Int×(List Int)))=>ji m a0 a1 v9 s.1 s.2) (Yb a0 a1 v9) (Yo a0 a1 v9) (Q9 a0 a1) (fun s o h=>z8a h) h
def kx(m:Option Nat)(a1:List Int)(v10:List Int):Option (List Int):=
 some v10
def jr(m:Option Nat)(a0:List (List GR))(a1:List Int)(v9:Int)(v10:List Int):Option ((Int×(List Int)) ⊕ (List Int)):=
 if(decide (v9<((a0.map z6).length:Int)))=true then
  if(0:Int)≤v9∧v9<((a0.map z6).length:Int) then
  wh m a0 a1 v9 0 v10
  else none
 else
  p7 p9 (
   kx m a1 v10)
def vn(m:Option Nat)(a0:List (List GR))(a1:List Int)(v9:Int)(v10:List Int):Option (List Int):=kw m (fun(s:(Int×(List Int)))=>jr m a0 a1 s.1 s.2) (v9,v10)
theorem zcq{a0:List (List GR)}{a1:List Int}{v10:List Int}{m:Option Nat}{o:(List Int)}(h:kx m a1 v10=some o) :
 LWp Try.prog wk 3 z2y (z73 a0 a1 o) [(5,.msl (3,0) 1 0 v10.length true)] [((0,0),.rows 1 (a1.map z7)),((3,0),.rows 1 (v10.map z7))] 4:=by
 unfold kx at h
 refine SR ?_
 refine Ya ?_
 cases h
 exact AI TT (z1f (n':=4) [((3,0),(3,0))] [] rfl rfl (p0 rfl (by first|rfl|omega|(simp;done)|(simp at *;omega)) rfl) (AI (AI rfl (p1 z7 (fun _=>rfl) _ a1)) (AI (AI rfl (p1 z7 (fun _=>rfl) _ v10)) TT)))
theorem zce{a0:List (List GR)}{a1:List Int}{v9:Int}{v10:List Int}{m:Option Nat}{o:(Int×(List Int)) ⊕ (List Int)}(h:jr m a0 a1 v9 v10=some o) :
 LWp Try.prog wk 3 z74 (yi 3 4 (X1 a0 a1) (Ja a0 a1) (Wb a0 a1) o) [(1,.msl (0,0) 1 0 a1.length true),(5,.msl (3,0) 1 0 v10.length true),(16,.isl 1 (a0.map z6) false),(17,i6 ((a0.map z6).length:Int)),(18,i6 v9)] [((0,0),.rows 1 (a1.map z7)),((3,0),.rows 1 (v10.map z7))] 4:=by
 unfold jr at h
 refine SR ?_
 refine xn ?_
 refine qh (v:=(decide (v9<((a0.map z6).length:Int)))) rfl TT (fun h114=>?_) (fun h114=>?_)
 ·have h:=zj h114 h
  refine qp ?_
  refine xn ?_
  refine zo ?_
  refine SR ?_
  obtain⟨h115,h⟩:=za h
  refine AI h115 ?_
  refine EX (z6 (a0.getD v9.toNat default)) (AI (zc z6 _ _ (yj z6 h115)) (AI (AI (xv h115) (NB rfl)) ?_))
  refine SR ?_
  refine p2 (e:=[(1,.msl (0,0) 1 0 a1.length true),(5,.msl (3,0) 1 0 v10.length true),(6,i6 v9),(16,.isl 1 (a0.map z6) false),(17,i6 ((a0.map z6).length:Int)),(18,i6 v9),(23,.isl 2 ((a0.getD v9.toNat default).map z8) false),(24,i6 (((a0.getD v9.toNat default).map z8).length:Int)),(25,i6 0)]) (L:=[((0,0),.rows 1 (a1.map z7)),((3,0),.rows 1 (v10.map z7))]) (n:=4) ?_ ?_
  ·exact qy (M:=[((3,0),(3,0))]) rfl (AI (p0 rfl (by first|rfl|omega|(simp;done)|(simp at *;omega)) rfl) (AI (p0 rfl (by first|rfl|omega|(simp;done)|(simp at *;omega)) rfl) (S4 rfl rfl rfl rfl (S2 rfl rfl (AI (VS rfl) TT))))) (AI (AI rfl (p1 z7 (fun _=>rfl) _ a1)) (AI (AI rfl (p1 z7 (fun _=>rfl) _ v10)) TT))
  refine zo ?_
  refine p2 ?_ (z9t h)
  exact qy (M:=[((3,0),(3,0))]) rfl (AI (p0 rfl (by first|rfl|omega|(simp;done)|(simp at *;omega)) rfl) (AI (p0 rfl (by first|rfl|omega|(simp;done)|(simp at *;omega)) rfl) (S4 rfl rfl rfl rfl (S2 rfl rfl (AI (VS rfl) TT))))) (AI (AI rfl (p1 z7 (fun _=>rfl) _ a1)) (AI (AI rfl (p1 z7 (fun _=>rfl) _ v10)) TT))
 ·have h:=zm h114 h
  refine ur ?_
  obtain⟨o,hq,rfl⟩:=p4.1 h
  replace h:=hq;clear hq
  refine AI nofun ?_
  refine p2 ?_ (zcq h)
  exact qy (M:=[((3,0),(3,0))]) rfl (AI (p0 rfl (by first|rfl|omega|(simp;done)|(simp at *;omega)) rfl) TT) (AI (AI rfl (p1 z7 (fun _=>rfl) _ a1)) (AI (AI rfl (p1 z7 (fun _=>rfl) _ v10)) TT))
theorem zfm{a0:List (List GR)}{a1:List Int}{v9:Int}{v10:List Int}{m:Option Nat}{o:(List Int)}(h:vn m a0 a1 v9 v10=some o) :
 LWp Try.prog wk 3 (.loop z74) (zb 0 (uw Try.prog wk 3 z2y (z73 a0 a1 o))) [(1,.msl (0,0) 1 0 a1.length true),(5,.msl (3,0) 1 0 v10.length true),(16,.isl 1 (a0.map z6) false),(17,i6 ((a0.map z6).length:Int)),(18,i6 v9)] [((0,0),.rows 1 (a1.map z7)),((3,0),.rows 1 (v10.map z7))] 4:=
 zn (m:=m) (s:=((v9,v10):(Int×(List Int)))) (r:=o) (fun(s:(Int×(List Int)))=>jr m a0 a1 s.1 s.2) (X1 a0 a1) (Ja a0 a1) (Wb a0 a1) (fun s o h=>zce h) h
def vh(m:Option Nat)(a0:List (List GR))(a1:List Int):Option (List Int):=
 if(0:Int)≤((a0.map z6).length:Int)∧((a0.map z6).length:Int)≤((a0.map z6).length:Int)∧((a0.map z6).length:Int)*8≤140737488355328 then
 vn m a0 a1 0 (p5 ((a0.map z6).length:Int).toNat (0:Int))
 else none
theorem zfk{a0:List (List GR)}{a1:List Int}{m:Option Nat}{o:(List Int)}(h:vh m a0 a1=some o):LWp Try.prog wk 3 zi7 (z73 a0 a1 o) (qe 0 [.isl 1 (a0.map z6) false,.msl (0,0) 1 0 a1.length true]) [((0,0),.rows 1 (a1.map z7))] 3:=by
 unfold vh at h
 refine xn ?_
 refine LWp.ghost 1 ?_
 refine Y6 ?_
 refine p2 (e:=[(0,.isl 1 (a0.map z6) false),(1,.msl (0,0) 1 0 a1.length true)]) (L:=[((0,0),.rows 1 (a1.map z7))]) (n:=3) ?_ ?_
 ·exact qy (M:=[]) rfl (AI (VS rfl) (AI (p0 rfl (by first|rfl|omega|(simp;done)|(simp at *;omega)) rfl) TT)) (AI (AI rfl (p1 z7 (fun _=>rfl) _ a1)) TT)
 refine SR ?_
 obtain⟨h1,h⟩:=za h
 refine EX ((p5 ((a0.map z6).length:Int).toNat (0:Int)).map z7) (EX true (AI (Or.inl (V7 z7 ((a0.map z6).length:Int).toNat 0)) (AI (by simp) (AI h1 ?_))))
 refine xn ?_
 refine SR ?_
 refine zo ?_
 refine p2 ?_ (zfm h)
 exact qy (M:=[((3,0),(3,0))]) rfl (AI (p0 rfl (by first|rfl|omega|(simp;done)|(simp at *;omega)) rfl) (AI (p0 rfl (by first|rfl|omega|(simp;done)|(simp at *;omega)) rfl) (S2 rfl rfl (AI (VS rfl) TT)))) (AI (AI rfl (p1 z7 (fun _=>rfl) _ a1)) (AI (AI rfl (p1 z7 (fun _=>rfl) _ (p5 ((a0.map z6).length:Int).toNat (0:Int)))) TT))
theorem zsp{a0:List (List GR)}{a1:List Int}{m:Option Nat}{o:(List Int)}(h:vh m a0 a1=some o):ACalls Try.prog 26 [.isl 1 (a0.map z6) false,.msl (0,0) 1 0 a1.length true] [((0,0),.rows 1 (a1.map z7))] 3 (Ze 4 (.msl (3,0) 1 0 o.length true) [((0,0),.rows 1 (a1.map z7)),((3,0),.rows 1 (o.map z7))]):=Zr (L:=zl6) zr1 zos (NB rfl) (zfk h)
def zqd:LCode:=(.seq (.block 1
 (.seq (.region [Qm 12 0,
  Qm 13 4,
  Qo 14 (.call 26 [(.t 12),(.t 13)]),
  Qm 6 14])
 (.seq (.seq (.region [Qm 15 6,
  Qm 16 4,
  Qo 17 (.call 15 [(.t 15),(.t 16)])])
 (.cond (.t 17)
  (.seq (.region [Qm 18 4,
   Qm 19 5,
   Qm 2 18,
   Qm 3 19])
  .ret)
  .skip))
 (.region [Qm 20 6,
  Qm 4 20]))))
 (.region [Qm 10 5,
  Qo 11 (.bin .add (.t 10) (.c (i6 1))),
  Qm 5 11]))
def zvn:LCode:=(.seq (.region [Qo 2 (.mv (.c (.val (.slice none 0 0)))),
 Qi 3 0])
 (.seq (.region [Qm 7 0,
  Qo 8 (.len false (.t 7)),
  Qo 9 (.mkslice false 1 8 [(i6 0)] (.t 8) (.t 8)),
  Qm 4 9])
 (.seq (.region [Qi 5 0])
 (.block 0
  (.loop
   zqd)))))
def z84:Lay:=⟨21,[9],false⟩
def zp1:List LRes:=[.t 2,.t 3]
def y01:LFn:=⟨1,z84,zvn,zp1⟩
theorem zya:Zb Try.prog [9] 12=some y01:=by kernel_rfl
theorem zww:Xk Try.prog 12:=⟨_,Try.func12,rfl,rfl⟩
def zxy(a0:List (List GR))(o:(List Int)×Int):Exit→Env→AHeap→Nat→Prop:=W4 zp1 (Yd (.tup [.isl 1 (o.1.map z7) false,i6 o.2]))
def z6j(a0:List (List GR))(s:(Int×(List Int))):Env:=[(0,.isl 1 (a0.map z6) false),(4,.msl (0,0) 1 0 s.2.length true),(5,i6 s.1)]
def zdd(a0:List (List GR))(s:(Int×(List Int))):AHeap:=[((0,0),.rows 1 (s.2.map z7))]
def zh0(a0:List (List GR))(o:((List Int)×Int)):Exit→Env→AHeap→Nat→Prop:=(zb 0 (zxy a0 o))
def jk(m:Option Nat)(a0:List (List GR))(v3:Int)(v4:List Int):Option ((Int×(List Int)) ⊕ ((List Int)×Int)):=
 (vh m a0 v4).bind fun v7=>
 (zq m v7 v4).bind fun v8=>
 if v8=true then
  p7 p9 (
   some (v4,v3))
 else
  some (.inl ((W (v3+1)),v7))
def wj(m:Option Nat)(a0:List (List GR))(v3:Int)(v4:List Int):Option ((List Int)×Int):=kw m (fun(s:(Int×(List Int)))=>jk m a0 s.1 s.2) (v3,v4)
theorem zkr{a0:List (List GR)}{v3:Int}{v4:List Int}{m:Option Nat}{o:(Int×(List Int)) ⊕ ((List Int)×Int)}(h:jk m a0 v3 v4=some o) :
 LWp Try.prog z84 0 zqd (yi 0 1 (z6j a0) (zdd a0) (zh0 a0) o) [(0,.isl 1 (a0.map z6) false),(4,.msl (0,0) 1 0 v4.length true),(5,i6 v3)] [((0,0),.rows 1 (v4.map z7))] 1:=by
 unfold jk at h
 refine xn ?_
 refine zo ?_
 refine SR ?_
 obtain⟨v7,h8,h⟩:=bind_some h
 refine Q4 (k:=3) (m:=1) (L':=[((0,0),.rows 1 (v4.map z7)),((1,0),.rows 1 (v7.map z7))]) (rest:=[]) (R':=.msl (1,0) 1 0 v7.length true) [((0,0),(0,0))] (zsp h8) rfl rfl rfl (AI (VS rfl) (AI (p0 rfl (by first|rfl|omega|(simp;done)|(simp at *;omega)) rfl) TT)) (AI (h0I (0,0) rfl rfl (p1 z7 (fun _=>rfl) _ v4)) TT) rfl (AI rfl (AI (qj z7 (fun _=>rfl) _ _) (AI rfl (AI (qj z7 (fun _=>rfl) _ _) TT)))) rfl ?_
 refine xn ?_
 refine SR ?_
 obtain⟨v8,h9,h⟩:=bind_some h
 refine PFn.readB [(1,0),(0,0)] (z4b h9) rfl (AI (Vw.frzB z7 Yg (fun h=>pA h) rfl rfl (by first|rfl|omega|(simp;done)|(simp at *;omega))) (AI (Vw.frzB z7 Yg (fun h=>pA h) rfl rfl (by first|rfl|omega|(simp;done)|(simp at *;omega))) TT)) ?_
 refine qh (v:=v8) rfl TT (fun h10=>?_) (fun h10=>?_)
 ·have h:=zj h10 h
  refine SR ?_
  refine p2 (e:=[(2,.msl (0,0) 1 0 v4.length true),(3,i6 v3)]) (L:=[((0,0),.rows 1 (v4.map z7))]) (n:=1) ?_ ?_
  ·exact qy (M:=[((0,0),(0,0))]) rfl (AI (p0 rfl (by first|rfl|omega|(simp;done)|(simp at *;omega)) rfl) (AI (VS rfl) TT)) (AI (AI rfl (p1 z7 (fun _=>rfl) _ v4)) TT)
  refine Ya ?_
  obtain⟨o,hq,rfl⟩:=p4.1 h
  replace h:=hq;clear hq
  refine AI nofun ?_
  cases h
  exact AI TT (AI TT (AI rfl (Vw.tupL (AI (Vw.frzB z7 Yg (fun h=>pA h) rfl rfl (by first|rfl|omega|(simp;done)|(simp at *;omega))) (AI (VS rfl) TT)))))
 ·have h:=zm h10 h
  refine qp ?_
  refine Y6 ?_
  refine p2 (e:=[(0,.isl 1 (a0.map z6) false),(4,.msl (0,0) 1 0 v7.length true),(5,i6 v3)]) (L:=[((0,0),.rows 1 (v7.map z7))]) (n:=1) ?_ ?_
  ·exact qy (M:=[((0,0),(1,0))]) rfl (AI (VS rfl) (AI (p0 rfl (by first|rfl|omega|(simp;done)|(simp at *;omega)) rfl) (AI (VS rfl) TT))) (AI (AI rfl (p1 z7 (fun _=>rfl) _ v7)) TT)
  refine Y6 ?_
  cases h
  exact AI rfl (qy (M:=[((0,0),(0,0))]) rfl (AI (VS rfl) (AI (p0 rfl (by first|rfl|omega|(simp;done)|(simp at *;omega)) rfl) (AI (VS rfl) TT))) (AI (AI rfl (p1 z7 (fun _=>rfl) _ v7)) TT))
theorem znw{a0:List (List GR)}{v3:Int}{v4:List Int}{m:Option Nat}{o:((List Int)×Int)}(h:wj m a0 v3 v4=some o) :
 LWp Try.prog z84 0 (.loop zqd) (zb 0 (zxy a0 o)) [(0,.isl 1 (a0.map z6) false),(4,.msl (0,0) 1 0 v4.length true),(5,i6 v3)] [((0,0),.rows 1 (v4.map z7))] 1:=
 zn (m:=m) (s:=((v3,v4):(Int×(List Int)))) (r:=o) (fun(s:(Int×(List Int)))=>jk m a0 s.1 s.2) (z6j a0) (zdd a0) (zh0 a0) (fun s o h=>zkr h) h
def jm(m:Option Nat)(a0:List (List GR)):Option ((List Int)×Int):=
 if(0:Int)≤((a0.map z6).length:Int)∧((a0.map z6).length:Int)≤((a0.map z6).length:Int)∧((a0.map z6).length:Int)*8≤140737488355328 then
 wj m a0 0 (p5 ((a0.map z6).length:Int).toNat (0:Int))
 else none
theorem zqm{a0:List (List GR)}{m:Option Nat}{o:(List Int)×Int}(h:jm m a0=some o):LWp Try.prog z84 0 zvn (zxy a0 o) (qe 0 [.isl 1 (a0.map z6) false]) [] 0:=by
 unfold jm at h
 refine xn ?_
 refine LWp.ghost 1 ?_
 refine Y6 ?_
 refine p2 (e:=[(0,.isl 1 (a0.map z6) false)]) (L:=[]) (n:=0) ?_ ?_
 ·exact qy (M:=[]) rfl (AI (VS rfl) TT) TT
 refine SR ?_
 obtain⟨h1,h⟩:=za h
 refine EX ((p5 ((a0.map z6).length:Int).toNat (0:Int)).map z7) (EX true (AI (Or.inl (V7 z7 ((a0.map z6).length:Int).toNat 0)) (AI (by simp) (AI h1 ?_))))
 refine SR ?_
 refine zo ?_
 refine p2 ?_ (znw h)
 exact qy (M:=[((0,0),(0,0))]) rfl (AI (VS rfl) (AI (p0 rfl (by first|rfl|omega|(simp;done)|(simp at *;omega)) rfl) (AI (VS rfl) TT))) (AI (AI rfl (p1 z7 (fun _=>rfl) _ (p5 ((a0.map z6).length:Int).toNat (0:Int)))) TT)
theorem y0e{a0:List (List GR)}{m:Option Nat}{o:(List Int)×Int}(h:jm m a0=some o):PFn Try.prog 12 [.isl 1 (a0.map z6) false] (.tup [.isl 1 (o.1.map z7) false,i6 o.2]):=PFn.ofFnW (L:=y01) zya zww (NB rfl) rfl (zqm h)
def zj1:LCode:=(.seq (.region [Qo 2 (.mv (.c (.val (.slice none 0 0))))])
 (.seq (.region [Qm 3 0,
  Qo 4 (.nilck (.t 3)),
  Qf 5 0 4,
  Ql 6 1 5,
  Qc 7 19 6,
  Qm 2 7])
 .ret))
def zc6:Lay:=⟨8,[],false⟩
def zad:List LRes:=[.t 2]
def zns:LFn:=⟨1,zc6,zj1,zad⟩
theorem zpf:Zb Try.prog [] 14=some zns:=by kernel_rfl
theorem zpy:Xk Try.prog 14:=⟨_,Try.func14,rfl,rfl⟩
def kc(m:Option Nat)(a0:List (List GR))(a1:List Int):Option (List (List GR)):=
 (qu m a0).bind fun v1=>
 some v1
def zws(a0:List (List GR))(a1:List Int)(o:(List (List GR))):Exit→Env→AHeap→Nat→Prop:=W4 zad (Yy 3 5 (.isl 1 (o.map z6) false) [((0,0),.one [.msl (3,0) 1 0 a0.length true,.msl (4,0) 1 0 a1.length false]),((3,0),.rows 1 (a0.map z6)),((4,0),.rows 1 (a1.map z7))])
theorem zdx{a0:List (List GR)}{a1:List Int}{m:Option Nat}{o:(List (List GR))}(h:kc m a0 a1=some o):LWp Try.prog zc6 3 zj1 (zws a0 a1 o) (qe 0 [.ptr (0,0) 0 0]) [((0,0),.one [.msl (0,1) 1 0 a0.length true,.msl (0,2) 1 0 a1.length false]),((0,1),.rows 1 (a0.map z6)),((0,2),.rows 1 (a1.map z7))] 3:=by
 unfold kc at h
 refine SR ?_
 refine SR ?_
 obtain⟨v1,h1,h⟩:=bind_some h
 refine zgf (k:=3) (m:=2) (qq:=3) (s:=2) (e:=z8) (l:=tl v1) (L':=[((0,1),.rows 1 (a0.map z6)),((4,0),.rows 1 (Y1 3 2 v1))]) (rest:=[((0,0),.one [.msl (0,1) 1 0 a0.length true,.msl (0,2) 1 0 a1.length false]),((0,2),.rows 1 (a1.map z7))]) (R':=.msl (4,0) 1 0 v1.length true) zx 0 rfl [((0,0),(0,1))] (z7j h1) rfl rfl rfl rfl (AI (p0 rfl (by first|rfl|omega|(simp;done)|(simp at *;omega)) rfl) TT) (AI (h0I (0,1) rfl rfl (p1 z6 (fun _=>rfl) _ a0)) TT) rfl (AI rfl (AI (qj z6 (fun _=>rfl) _ _) (AI rfl (AI (z7x (fun _ _=>rfl)) TT)))) rfl rfl ?_
 refine p2 (e:=[(2,.msl (3,0) 1 0 v1.length true)]) (L:=[((0,0),.one [.msl (4,0) 1 0 a0.length true,.msl (5,0) 1 0 a1.length false]),((3,0),.rows 1 (v1.map z6)),((4,0),.rows 1 (a0.map z6)),((5,0),.rows 1 (a1.map z7))]) (n:=7) ?_ ?_
 ·exact y0t (n':=6) (q:=3) (lit':=[((0,1),.rows 1 (a0.map z6)),((4,0),.rows 1 (Y1 3 2 v1)),((0,0),.one [.msl (0,1) 1 0 a0.length true,.msl (0,2) 1 0 a1.length false]),((0,2),.rows 1 (a1.map z7))]) (T:=(uz 3 2 z8 (tl v1) none)) [((3,0),(4,0)),((4,0),(0,1)),((5,0),(0,2))] [] rfl rfl rfl (AI (p0 rfl (by first|rfl|omega|(simp;done)|(simp at *;omega)) rfl) TT) (AI (AI rfl (p6 (AI (p0 rfl (by first|rfl|omega|(simp;done)|(simp at *;omega)) rfl) (AI (p0 rfl (by first|rfl|omega|(simp;done)|(simp at *;omega)) rfl) TT)))) (AI (AI rfl (BVw.tabZE Xp (fun _=>rfl) rfl IsFamM.base)) (AI (AI rfl (p1 z6 (fun _=>rfl) _ a0)) (AI (AI rfl (p1 z7 (fun _=>rfl) _ a1)) TT))))
 refine Ya ?_
 cases h
 exact AI TT (z1f (n':=7) [((3,0),(4,0)),((4,0),(5,0))] [(3,0)] rfl rfl (Vw.frzB z6 Xd (fun h=>pA h) rfl rfl (by first|rfl|omega|(simp;done)|(simp at *;omega))) (AI (AI rfl (p6 (AI (p0 rfl (by first|rfl|omega|(simp;done)|(simp at *;omega)) rfl) (AI (p0 rfl (by first|rfl|omega|(simp;done)|(simp at *;omega)) rfl) TT)))) (AI (AI rfl (p1 z6 (fun _=>rfl) _ a0)) (AI (AI rfl (p1 z7 (fun _=>rfl) _ a1)) TT))))
theorem zsv{a0:List (List GR)}{a1:List Int}{m:Option Nat}{o:(List (List GR))}(h:kc m a0 a1=some o):ACalls Try.prog 14 [.ptr (0,0) 0 0] [((0,0),.one [.msl (0,1) 1 0 a0.length true,.msl (0,2) 1 0 a1.length false]),((0,1),.rows 1 (a0.map z6)),((0,2),.rows 1 (a1.map z7))] 3 (Ze 5 (.isl 1 (o.map z6) false) [((0,0),.one [.msl (3,0) 1 0 a0.length true,.msl (4,0) 1 0 a1.length false]),((3,0),.rows 1 (a0.map z6)),((4,0),.rows 1 (a1.map z7))]):=Zr (L:=zns) zpf zpy (NB rfl) (zdx h)
def zp2:LCode:=(.seq (.region [Qo 34 (.bin .lss (.t 33) (.t 32))])
 (.seq (.cond (.t 34)
  .skip
  (.exit 2))
 (.seq (.block 3
  (.seq (.region [Qm 35 33,
   Qm 6 35])
  (.seq (.draw [⟨Qm 36 0,[]⟩,
   ⟨Qm 37 5,[]⟩,
   ⟨Qo 38 (.iaddr 1 (.t 36) (.t 37)),[]⟩,
   ⟨Ql 39 1 38,[]⟩,
   ⟨Qm 40 6,[]⟩,
   ⟨Qo 41 (.iaddr 2 (.t 39) (.t 40)),[]⟩,
   ⟨Qf 42 0 41,[]⟩,
   ⟨Ql 43 1 42,[]⟩,
   ⟨Qm 44 1,[]⟩,
   ⟨Qm 45 5,[]⟩,
   ⟨Qo 46 (.iaddr 1 (.t 44) (.t 45)),[]⟩,
   ⟨Ql 47 1 46,[]⟩,
   ⟨Qm 48 6,[]⟩,
   ⟨Qo 49 (.iaddr 2 (.t 47) (.t 48)),[]⟩,
   ⟨Qf 50 0 49,[]⟩,
   ⟨Ql 51 1 50,[]⟩,
   ⟨Qo 52 (.bin .neq (.t 43) (.t 51)),[]⟩,
   ⟨Qm 53 52,[]⟩,
   ⟨Qn 54 0 (53,false),[]⟩,
   ⟨Qn 55 5 (53,false),[]⟩,
   ⟨Qg 56 (.iaddr 1 (.t 54) (.t 55)) (53,false),[]⟩,
   ⟨Qk 57 1 56 (53,false),[]⟩,
   ⟨Qn 58 6 (53,false),[]⟩,
   ⟨Qg 59 (.iaddr 2 (.t 57) (.t 58)) (53,false),[]⟩,
   ⟨Qe 60 1 59 (53,false),[]⟩,
   ⟨Qk 61 1 60 (53,false),[]⟩,
   ⟨Qn 62 1 (53,false),[]⟩,
   ⟨Qn 63 5 (53,false),[]⟩,
   ⟨Qg 64 (.iaddr 1 (.t 62) (.t 63)) (53,false),[]⟩,
   ⟨Qk 65 1 64 (53,false),[]⟩,
   ⟨Qn 66 6 (53,false),[]⟩,
   ⟨Qg 67 (.iaddr 2 (.t 65) (.t 66)) (53,false),[]⟩,
   ⟨Qe 68 1 67 (53,false),[]⟩,
   ⟨Qk 69 1 68 (53,false),[]⟩,
   ⟨Qg 70 (.call 15 [(.t 61),(.t 69)]) (53,false),[]⟩,
   ⟨Qg 71 (.un .not (.t 70)) (53,false),[]⟩,
   ⟨Qo 72 (.pick (.t 53) (.c (.bool true)) (.t 71)),[]⟩])
  (.cond (.t 72)
   (.seq (.region [Qb 4])
   .ret)
   .skip))))
 (.region [Qo 73 (.bin .add (.t 33) (.c (i6 1))),
  Qm 33 73]))))
def ziv:LCode:=(.region [Qo 74 (.bin .add (.t 14) (.c (i6 1))),
 Qm 14 74])
def zmd:LCode:=(.seq (.region [Qo 15 (.bin .lss (.t 14) (.t 13))])
 (.seq (.cond (.t 15)
  .skip
  (.exit 0))
 (.seq (.block 1
  (.seq (.region [Qm 16 14,
   Qm 5 16])
  (.seq (.seq (.quiet [Qm 17 0,
   Qm 18 5,
   Qo 19 (.iaddr 1 (.t 17) (.t 18)),
   Ql 20 1 19,
   Qo 21 (.len false (.t 20)),
   Qm 22 1,
   Qm 23 5,
   Qo 24 (.iaddr 1 (.t 22) (.t 23)),
   Ql 25 1 24,
   Qo 26 (.len false (.t 25)),
   Qo 27 (.bin .neq (.t 21) (.t 26))])
  (.cond (.t 27)
   (.seq (.region [Qb 4])
   .ret)
   .skip))
  (.seq (.region [Qm 28 0,
   Qm 29 5,
   Qo 30 (.iaddr 1 (.t 28) (.t 29)),
   Ql 31 1 30,
   Qo 32 (.len false (.t 31)),
   Qi 33 0])
  (.block 2
   (.loop
    zp2))))))
 ziv)))
def zij:LCode:=(.seq (.region [Qo 4 (.mv (.c (.bool true)))])
 .ret)
def zv7:LCode:=(.seq (.region [Qb 4])
 (.seq (.seq (.region [Qm 7 0,
  Qo 8 (.len false (.t 7)),
  Qm 9 1,
  Qo 10 (.len false (.t 9)),
  Qo 11 (.bin .neq (.t 8) (.t 10))])
 (.cond (.t 11)
  (.seq (.region [Qb 4])
  .ret)
  .skip))
 (.seq (.seq (.region [Qm 12 0,
  Qo 13 (.len false (.t 12)),
  Qi 14 0])
 (.block 0
  (.loop
   zmd)))
 zij)))
def X9:Lay:=⟨75,[],false⟩
def zlr:List LRes:=[.t 4]
def y0n:LFn:=⟨2,X9,zv7,zlr⟩
theorem zwt:Zb Try.prog [] 13=some y0n:=by kernel_rfl
theorem zxa:Xk Try.prog 13:=⟨_,Try.func13,rfl,rfl⟩
def zuj(a0:List (List GR))(a1:List (List GR))(o:Bool):Exit→Env→AHeap→Nat→Prop:=W4 zlr (Yd (.bool o))
def W8(a0:List (List GR))(a1:List (List GR))(s:Int):Env:=[(0,.isl 1 (a0.map z6) false),(1,.isl 1 (a1.map z6) false),(13,i6 ((a0.map z6).length:Int)),(14,i6 s)]
def Vx(a0:List (List GR))(a1:List (List GR))(s:Int):AHeap:=[]
def z0n(a0:List (List GR))(a1:List (List GR))(o:Bool):Exit→Env→AHeap→Nat→Prop:=(zb 0 (uw Try.prog X9 0 zij (zuj a0 a1 o)))
def z5g(a0:List (List GR))(a1:List (List GR))(v5:Int)(s:Int):Env:=[(0,.isl 1 (a0.map z6) false),(1,.isl 1 (a1.map z6) false),(5,i6 v5),(13,i6 ((a0.map z6).length:Int)),(14,i6 v5),(32,i6 (((a0.getD v5.toNat default).map z8).length:Int)),(33,i6 s)]
def zd5(a0:List (List GR))(a1:List (List GR))(v5:Int)(s:Int):AHeap:=[]
def zhp(a0:List (List GR))(a1:List (List GR))(o:(Int ⊕ Bool)):Exit→Env→AHeap→Nat→Prop:=(zb 2 (zb 1 (uw Try.prog X9 0 ziv (yi 0 0 (W8 a0 a1) (Vx a0 a1) (z0n a0 a1) o))))
def wu(m:Option Nat)(a0:List (List GR))(a1:List (List GR))(v5:Int):Option (Int ⊕ Bool):=
 some (.inl (W (v5+1)))
def x8(m:Option Nat)(a0:List (List GR))(a1:List (List GR))(v5:Int)(v11:Int):Option (Int ⊕ (Int ⊕ Bool)):=
 if(decide (v11<(((a0.getD v5.toNat default).map z8).length:Int)))=true then
  if(0:Int)≤v5∧v5<((a0.map z6).length:Int) then
  if(0:Int)≤v11∧v11<(((a0.getD v5.toNat default).map z8).length:Int) then
  if(0:Int)≤v5∧v5<((a1.map z6).length:Int) then
  if(0:Int)≤v11∧v11<(((a1.getD v5.toNat default).map z8).length:Int) then
  if(((((a0.getD v5.toNat default).getD v11.toNat default).fM != ((a1.getD v5.toNat default).getD v11.toNat default).fM)==false)=true→(0:Int)≤v5∧v5<((a0.map z6).length:Int)) then
  if(((((a0.getD v5.toNat default).getD v11.toNat default).fM != ((a1.getD v5.toNat default).getD v11.toNat default).fM)==false)=true→(0:Int)≤v11∧v11<(((a0.getD v5.toNat default).map z8).length:Int)) then
  if(((((a0.getD v5.toNat default).getD v11.toNat default).fM != ((a1.getD v5.toNat default).getD v11.toNat default).fM)==false)=true→(0:Int)≤v5∧v5<((a1.map z6).length:Int)) then
  if(((((a0.getD v5.toNat default).getD v11.toNat default).fM != ((a1.getD v5.toNat default).getD v11.toNat default).fM)==false)=true→(0:Int)≤v11∧v11<(((a1.getD v5.toNat default).map z8).length:Int)) then
  (if((((a0.getD v5.toNat default).getD v11.toNat default).fM != ((a1.getD v5.toNat default).getD v11.toNat default).fM)==false)=true then zq m (((a0.getD v5.toNat default).getD v11.toNat default).fA) (((a1.getD v5.toNat default).getD v11.toNat default).fA) else some default).bind fun v13=>
  if((((a0.getD v5.toNat default).getD v11.toNat default).fM != ((a1.getD v5.toNat default).getD v11.toNat default).fM) || (!v13))=true then
   p7 p9 (
    p7 p9 (
     some false))
  else
   some (.inl (W (v11+1)))
  else none
  else none
  else none
  else none
  else none
  else none
  else none
  else none
 else
  p7 p9 (
   wu m a0 a1 v5)
def jd(m:Option Nat)(a0:List (List GR))(a1:List (List GR))(v5:Int)(v11:Int):Option (Int ⊕ Bool):=kw m (fun(s:Int)=>x8 m a0 a1 v5 s) v11
theorem zl7{a0:List (List GR)}{a1:List (List GR)}{v5:Int}{m:Option Nat}{o:(Int ⊕ Bool)}(h:wu m a0 a1 v5=some o) :
 LWp Try.prog X9 0 ziv (yi 0 0 (W8 a0 a1) (Vx a0 a1) (z0n a0 a1) o) [(0,.isl 1 (a0.map z6) false),(1,.isl 1 (a1.map z6) false),(13,i6 ((a0.map z6).length:Int)),(14,i6 v5)] [] 0:=by
 unfold wu at h
 refine Y6 ?_
 cases h
 exact AI rfl (qy (M:=[]) rfl (S4 rfl rfl rfl rfl TT) TT)
theorem zjv{a0:List (List GR)}{a1:List (List GR)}{v5:Int}{v11:Int}{m:Option Nat}{o:Int ⊕ (Int ⊕ Bool)}(h:x8 m a0 a1 v5 v11=some o) :
 LWp Try.prog X9 0 zp2 (yi 0 0 (z5g a0 a1 v5) (zd5 a0 a1 v5) (zhp a0 a1) o) [(0,.isl 1 (a0.map z6) false),(1,.isl 1 (a1.map z6) false),(5,i6 v5),(13,i6 ((a0.map z6).length:Int)),(14,i6 v5),(32,i6 (((a0.getD v5.toNat default).map z8).length:Int)),(33,i6 v11)] [] 0:=by
 unfold x8 at h
 refine SR ?_
 refine xn ?_
 refine qh (v:=(decide (v11<(((a0.getD v5.toNat default).map z8).length:Int)))) rfl TT (fun h105=>?_) (fun h105=>?_)
 ·have h:=zj h105 h
  refine qp ?_
  refine xn ?_
  refine zo ?_
  refine SR ?_
  refine xn ?_
  refine zwr rfl ?_
  obtain⟨h106,h⟩:=za h
  refine AI h106 ?_
  refine EX (z6 (a0.getD v5.toNat default)) (AI (zc z6 _ _ (yj z6 h106)) (AI (AI (xv h106) (NB rfl)) ?_))
  obtain⟨h107,h⟩:=za h
  refine AI h107 ?_
  refine EX (z8 ((a0.getD v5.toNat default).getD v11.toNat default)) (AI (zc z8 _ _ (yj z8 h107)) (AI (AI (xv h107) (NB rfl)) ?_))
  obtain⟨h108,h⟩:=za h
  refine AI h108 ?_
  refine EX (z6 (a1.getD v5.toNat default)) (AI (zc z6 _ _ (yj z6 h108)) (AI (AI (xv h108) (NB rfl)) ?_))
  obtain⟨h109,h⟩:=za h
  refine AI h109 ?_
  refine EX (z8 ((a1.getD v5.toNat default).getD v11.toNat default)) (AI (zc z8 _ _ (yj z8 h109)) (AI (AI (xv h109) (NB rfl)) ?_))
  obtain⟨h110,h⟩:=za h
  refine AI (fun hp=>(AI (AI hp hp) (h110 hp))) ?_
  refine EX (z6 (a0.getD v5.toNat default)) (AI (fun hp=>AI (zc z6 _ _ (yj z6 (h110 hp))) (AI hp (AI (xv (h110 hp)) (NB rfl)))) ?_)
  obtain⟨h111,h⟩:=za h
  refine AI (fun hp=>(AI (AI hp hp) (h111 hp))) ?_
  refine HP ?_
  refine EX (z8 ((a0.getD v5.toNat default).getD v11.toNat default)) (AI (fun hp=>AI (zc z8 _ _ (yj z8 (h111 hp))) (AI hp (AI (xv (h111 hp)) (NB rfl)))) ?_)
  obtain⟨h112,h⟩:=za h
  refine AI (fun hp=>(AI (AI hp hp) (h112 hp))) ?_
  refine EX (z6 (a1.getD v5.toNat default)) (AI (fun hp=>AI (zc z6 _ _ (yj z6 (h112 hp))) (AI hp (AI (xv (h112 hp)) (NB rfl)))) ?_)
  obtain⟨h113,h⟩:=za h
  refine AI (fun hp=>(AI (AI hp hp) (h113 hp))) ?_
  refine HP ?_
  refine EX (z8 ((a1.getD v5.toNat default).getD v11.toNat default)) (AI (fun hp=>AI (zc z8 _ _ (yj z8 (h113 hp))) (AI hp (AI (xv (h113 hp)) (NB rfl)))) ?_)
  obtain⟨v13,h114,h⟩:=bind_some h
  refine Or.inl (EX (.bool v13) (AI (fun hp=>AI (AI hp hp) (PFn.call (z4b (zj hp h114)) (S2 rfl rfl TT) (AI rfl (AI rfl rfl)))) ?_))
  refine HP ?_
  refine AI (fun hc=>(bqf hc)) ?_
  refine p2 (e:=[(0,.isl 1 (a0.map z6) false),(1,.isl 1 (a1.map z6) false),(5,i6 v5),(13,i6 ((a0.map z6).length:Int)),(14,i6 v5),(32,i6 (((a0.getD v5.toNat default).map z8).length:Int)),(33,i6 v11),(72,.bool ((((a0.getD v5.toNat default).getD v11.toNat default).fM != ((a1.getD v5.toNat default).getD v11.toNat default).fM) || (!v13)))]) (L:=[]) (n:=0) ?_ ?_
  ·exact qy (M:=[]) rfl (S4 rfl rfl rfl rfl (S4 rfl rfl rfl rfl TT)) TT
  refine qh (v:=((((a0.getD v5.toNat default).getD v11.toNat default).fM != ((a1.getD v5.toNat default).getD v11.toNat default).fM) || (!v13))) rfl TT (fun h115=>?_) (fun h115=>?_)
  ·have h:=zj h115 h
   refine SR ?_
   refine Ya ?_
   obtain⟨o,hq,rfl⟩:=p4.1 h
   replace h:=hq;clear hq
   refine AI nofun ?_
   obtain⟨o,hq,rfl⟩:=p4.1 h
   replace h:=hq;clear hq
   refine AI nofun ?_
   cases h
   exact AI TT (AI rfl (VS rfl))
  ·have h:=zm h115 h
   refine qp ?_
   refine Y6 ?_
   cases h
   exact AI rfl (qy (M:=[]) rfl (S4 rfl rfl rfl rfl (S2 rfl rfl (AI (VS rfl) TT))) TT)
 ·have h:=zm h105 h
  refine ur ?_
  obtain⟨o,hq,rfl⟩:=p4.1 h
  replace h:=hq;clear hq
  refine AI nofun ?_
  refine p2 ?_ (zl7 h)
  exact qy (M:=[]) rfl (S4 rfl rfl rfl rfl TT) TT
theorem zmq{a0:List (List GR)}{a1:List (List GR)}{v5:Int}{v11:Int}{m:Option Nat}{o:(Int ⊕ Bool)}(h:jd m a0 a1 v5 v11=some o) :
 LWp Try.prog X9 0 (.loop zp2) (zb 2 (zb 1 (uw Try.prog X9 0 ziv (yi 0 0 (W8 a0 a1) (Vx a0 a1) (z0n a0 a1) o)))) [(0,.isl 1 (a0.map z6) false),(1,.isl 1 (a1.map z6) false),(5,i6 v5),(13,i6 ((a0.map z6).length:Int)),(14,i6 v5),(32,i6 (((a0.getD v5.toNat default).map z8).length:Int)),(33,i6 v11)] [] 0:=
 zn (m:=m) (s:=(v11:Int)) (r:=o) (fun(s:Int)=>x8 m a0 a1 v5 s) (z5g a0 a1 v5) (zd5 a0 a1 v5) (zhp a0 a1) (fun s o h=>zjv h) h
def wo(m:Option Nat):Option Bool:=
 some true
def x6(m:Option Nat)(a0:List (List GR))(a1:List (List GR))(v5:Int):Option (Int ⊕ Bool):=
 if(decide (v5<((a0.map z6).length:Int)))=true then
  if(0:Int)≤v5∧v5<((a0.map z6).length:Int) then
  if(0:Int)≤v5∧v5<((a1.map z6).length:Int) then
  if((((a0.getD v5.toNat default).map z8).length:Int) != (((a1.getD v5.toNat default).map z8).length:Int))=true then
   p7 p9 (
    some false)
  else
   if(0:Int)≤v5∧v5<((a0.map z6).length:Int) then
   jd m a0 a1 v5 0
   else none
  else none
  else none
 else
  p7 p9 (
   wo m)
def ja(m:Option Nat)(a0:List (List GR))(a1:List (List GR))(v5:Int):Option Bool:=kw m (fun(s:Int)=>x6 m a0 a1 s) v5
theorem znd{a0:List (List GR)}{a1:List (List GR)}{m:Option Nat}{o:Bool}(h:wo m=some o) :
 LWp Try.prog X9 0 zij (zuj a0 a1 o) [] [] 0:=by
 unfold wo at h
 refine SR ?_
 refine Ya ?_
 cases h
 exact AI TT (AI rfl (VS rfl))
theorem zk9{a0:List (List GR)}{a1:List (List GR)}{v5:Int}{m:Option Nat}{o:Int ⊕ Bool}(h:x6 m a0 a1 v5=some o) :
 LWp Try.prog X9 0 zmd (yi 0 0 (W8 a0 a1) (Vx a0 a1) (z0n a0 a1) o) [(0,.isl 1 (a0.map z6) false),(1,.isl 1 (a1.map z6) false),(13,i6 ((a0.map z6).length:Int)),(14,i6 v5)] [] 0:=by
 unfold x6 at h
 refine SR ?_
 refine xn ?_
 refine qh (v:=(decide (v5<((a0.map z6).length:Int)))) rfl TT (fun h78=>?_) (fun h78=>?_)
 ·have h:=zj h78 h
  refine qp ?_
  refine xn ?_
  refine zo ?_
  refine SR ?_
  refine xn ?_
  refine xn ?_
  refine zrs ?_
  obtain⟨h79,h⟩:=za h
  refine AI h79 ?_
  refine EX (z6 (a0.getD v5.toNat default)) (AI (zc z6 _ _ (yj z6 h79)) (AI (AI (xv h79) (NB rfl)) ?_))
  obtain⟨h80,h⟩:=za h
  refine AI h80 ?_
  refine EX (z6 (a1.getD v5.toNat default)) (AI (zc z6 _ _ (yj z6 h80)) (AI (AI (xv h80) (NB rfl)) ?_))
  refine p2 (e:=[(0,.isl 1 (a0.map z6) false),(1,.isl 1 (a1.map z6) false),(5,i6 v5),(13,i6 ((a0.map z6).length:Int)),(14,i6 v5),(27,.bool ((((a0.getD v5.toNat default).map z8).length:Int) != (((a1.getD v5.toNat default).map z8).length:Int)))]) (L:=[]) (n:=0) ?_ ?_
  ·exact qy (M:=[]) rfl (S4 rfl rfl rfl rfl (S2 rfl rfl TT)) TT
  refine qh (v:=((((a0.getD v5.toNat default).map z8).length:Int) != (((a1.getD v5.toNat default).map z8).length:Int))) rfl TT (fun h81=>?_) (fun h81=>?_)
  ·have h:=zj h81 h
   refine SR ?_
   refine Ya ?_
   obtain⟨o,hq,rfl⟩:=p4.1 h
   replace h:=hq;clear hq
   refine AI nofun ?_
   cases h
   exact AI TT (AI rfl (VS rfl))
  ·have h:=zm h81 h
   refine qp ?_
   refine SR ?_
   obtain⟨h82,h⟩:=za h
   refine AI h82 ?_
   refine EX (z6 (a0.getD v5.toNat default)) (AI (zc z6 _ _ (yj z6 h82)) (AI (AI (xv h82) (NB rfl)) ?_))
   refine zo ?_
   refine p2 ?_ (zmq h)
   exact qy (M:=[]) rfl (S4 rfl rfl rfl rfl (S2 rfl rfl (AI (VS rfl) TT))) TT
 ·have h:=zm h78 h
  refine ur ?_
  obtain⟨o,hq,rfl⟩:=p4.1 h
  replace h:=hq;clear hq
  refine AI nofun ?_
  refine p2 ?_ (znd h)
  exact qy (M:=[]) rfl TT TT
theorem zl4{a0:List (List GR)}{a1:List (List GR)}{v5:Int}{m:Option Nat}{o:Bool}(h:ja m a0 a1 v5=some o) :
 LWp Try.prog X9 0 (.loop zmd) (zb 0 (uw Try.prog X9 0 zij (zuj a0 a1 o))) [(0,.isl 1 (a0.map z6) false),(1,.isl 1 (a1.map z6) false),(13,i6 ((a0.map z6).length:Int)),(14,i6 v5)] [] 0:=
 zn (m:=m) (s:=(v5:Int)) (r:=o) (fun(s:Int)=>x6 m a0 a1 s) (W8 a0 a1) (Vx a0 a1) (z0n a0 a1) (fun s o h=>zk9 h) h
def qz(m:Option Nat)(a0:List (List GR))(a1:List (List GR)):Option Bool:=
 if(((a0.map z6).length:Int) != ((a1.map z6).length:Int))=true then
  some false
 else
  ja m a0 a1 0
theorem zl1{a0:List (List GR)}{a1:List (List GR)}{m:Option Nat}{o:Bool}(h:qz m a0 a1=some o):LWp Try.prog X9 0 zv7 (zuj a0 a1 o) (qe 0 [.isl 1 (a0.map z6) false,.isl 1 (a1.map z6) false]) [] 0:=by
 unfold qz at h
 refine SR ?_
 refine xn ?_
 refine SR ?_
 refine qh (v:=(((a0.map z6).length:Int) != ((a1.map z6).length:Int))) rfl TT (fun h1=>?_) (fun h1=>?_)
 ·have h:=zj h1 h
  refine SR ?_
  refine Ya ?_
  cases h
  exact AI TT (AI rfl (VS rfl))
 ·have h:=zm h1 h
  refine qp ?_
  refine xn ?_
  refine SR ?_
  refine p2 (e:=[(0,.isl 1 (a0.map z6) false),(1,.isl 1 (a1.map z6) false),(13,i6 ((a0.map z6).length:Int)),(14,i6 0)]) (L:=[]) (n:=0) ?_ ?_
  ·exact qy (M:=[]) rfl (S4 rfl rfl rfl rfl TT) TT
  refine zo ?_
  refine p2 ?_ (zl4 h)
  exact qy (M:=[]) rfl (S4 rfl rfl rfl rfl TT) TT
theorem zv3{a0:List (List GR)}{a1:List (List GR)}{m:Option Nat}{o:Bool}(h:qz m a0 a1=some o):PFn Try.prog 13 [.isl 1 (a0.map z6) false,.isl 1 (a1.map z6) false] (.bool o):=PFn.ofFnW (L:=y0n) zwt zxa (NB rfl) rfl (zl1 h)
def zjb:LCode:=(.seq (.region [Qo 2 (.mv (.c (.val (.slice none 0 0))))])
 (.seq (.seq (.region [Qm 3 0,
  Qo 4 (.eq false .slice (.t 3) (.c (.val (.slice none 0 0))))])
 (.cond (.t 4)
  (.seq (.region [Qo 2 (.mv (.c (.val (.slice none 0 0))))])
  .ret)
  .skip))
 (.seq (.region [Qo 5 (.mkSl true 1 [(i6 0)] 0 []),
  Qm 6 0,
  Qo 7 (.app true 1 8 (.t 5) (.t 6)),
  Qm 2 7])
 .ret)))
def zaj:Lay:=⟨8,[],false⟩
def zd4:List LRes:=[.t 2]
def zlc:LFn:=⟨1,zaj,zjb,zd4⟩
theorem zn4:Zb Try.prog [] 20=some zlc:=by kernel_rfl
theorem z9q:Xk Try.prog 20:=⟨_,Try.func20,rfl,rfl⟩
def vi(m:Option Nat)(a0:List Int):Option (List Int):=
 if a0.length≠0 then
 if((([]:List Int)++a0).map z7).length*8≤140737488355328 then
 some (([]:List Int)++a0)
 else none
 else none
def zwa(a0:List Int)(o:(List Int)):Exit→Env→AHeap→Nat→Prop:=W4 zd4 (Yy 3 3 (.isl 1 (o.map z7) false) [((0,0),.rows 1 (a0.map z7))])
theorem zef{a0:List Int}{m:Option Nat}{o:(List Int)}(h:vi m a0=some o):LWp Try.prog zaj 3 zjb (zwa a0 o) (qe 0 [.msl (0,0) 1 0 a0.length false]) [((0,0),.rows 1 (a0.map z7))] 3:=by
 unfold vi at h
 refine SR ?_
 refine xn ?_
 refine SR ?_
 obtain⟨h1,h⟩:=za h
 refine AI h1 ?_
 refine qh (v:=false) rfl TT (fun hc=>pA hc) (fun hc=>?_)
 refine qp ?_
 refine SR ?_
 refine AI (zyd z7 (by first|rfl|omega|(simp;done)|(simp at *;omega))) ?_
 refine EX (a0.map z7) (AI (zom z7 Yg (by first|rfl|omega|(simp;done)|(simp at *;omega))) ?_)
 obtain⟨h2,h⟩:=za h
 refine EX ((([]:List Int)++a0).map z7) (AI (z90 z7 ([]:List Int) a0) (AI (AI rfl h2) ?_))
 refine Ya ?_
 cases h
 exact AI TT (z1f (n':=4) [] [] rfl rfl (Vw.oslI _ _ _) (AI (AI rfl (p1 z7 (fun _=>rfl) _ a0)) TT))
theorem zs0{a0:List Int}{m:Option Nat}{o:(List Int)}(h:vi m a0=some o):ACalls Try.prog 20 [.msl (0,0) 1 0 a0.length false] [((0,0),.rows 1 (a0.map z7))] 3 (Ze 3 (.isl 1 (o.map z7) false) [((0,0),.rows 1 (a0.map z7))]):=Zr (L:=zlc) zn4 z9q (NB rfl) (zef h)
def Y0(m:Option Nat):List Int→Option (List Int)
 |[]=>some []
 |x::r=>vi m (x::r)
theorem zmg{m:Option Nat}{a0 o:List Int}(h:Y0 m a0=some o):ACalls Try.prog 20 [.msl (0,0) 1 0 a0.length false] [((0,0),.rows 1 (a0.map z7))] 3 (Ze 3 (.isl 1 (o.map z7) false) [((0,0),.rows 1 (a0.map z7))]):=by
 cases a0 with
 |nil=>
  cases h
  exact z78 (z5x (c:=3) (zs:=[(i6 0)]) (b:=8) z9q Try.func20 ⟨_,_,_,_,_,_,_,_,_,_,_,_,_,_,_,_,_,_,_,_,_,_,_,_,_,_,_,_,rfl,rfl,rfl⟩ (by kernel_rfl) (by kernel_rfl) (by kernel_rfl) (by kernel_rfl) (by decide) (by decide) rfl)
 |cons x r=>exact zs0 (m:=m) h
end
end Go.Proofs.Ytbohjnffcnhgeaa
