/-
  Own text GenB of this claim: what functions of the given program compute, in plain Lean, and the proof; no condition.
-/
import Derived.Test.YtlilpmnmedmjaaaGreatDoorGenA
namespace Go.Proofs.YtlilpmnmedmjaaaGreatDoor
open Go.Fx
set_option linter.unusedVariables false
def zkp:LCode:=(.seq (.region [Qo 10 (.bin .lss (.t 9) (.t 8))])
 (.seq (.cond (.t 10)
  .skip
  (.exit 0))
 (.seq (.block 1
  (.seq (.region [Qm 11 9,
   Qo 12 (.iaddr 1 (.t 7) (.t 9)),
   Ql 13 1 12,
   Qm 5 11,
   Qm 6 13])
  (.seq (.region [Qm 14 1,
   Qm 15 6,
   Qo 16 (.bin .eql (.t 14) (.t 15))])
  (.cond (.t 16)
   (.seq (.region [Qm 17 5,
    Qm 4 17])
   .ret)
   .skip))))
 (.region [Qo 18 (.bin .add (.t 9) (.c (i6 1))),
  Qm 9 18]))))
def zeo:LCode:=(.seq (.region [Qo 4 (.mv (.c (i6 (-1))))])
 .ret)
def zsh:LCode:=(.seq (.region [Qi 4 0])
 (.seq (.seq (.region [Qm 7 0,
  Qo 8 (.len false (.t 7)),
  Qi 9 0])
 (.block 0
  (.loop
   zkp)))
 zeo))
def Wv:Lay:=⟨19,[],false⟩
def zo4:List LRes:=[.t 4]
def y0s:LFn:=⟨2,Wv,zsh,zo4⟩
theorem zwj:wb Tryz.prog [] 12=some y0s:=by kernel_rfl
theorem zvu:uk Tryz.prog 12:=⟨_,Tryz.func12,rfl,rfl⟩
def zpw(a0:List Int)(a1:Int)(o:Int):Exit→Env→AHeap→Nat→Prop:=Zz zo4 (jo (i6 o))
def z3x(a0:List Int)(a1:Int)(s:Int):Env:=[(1,i6 a1),(7,.isl 1 (a0.map y4) false),(8,i6 ((a0.map y4).length:Int)),(9,i6 s)]
def zae(a0:List Int)(a1:Int)(s:Int):AHeap:=[]
def zeg(a0:List Int)(a1:Int)(o:Int):Exit→Env→AHeap→Nat→Prop:=(xa 0 (Ya Tryz.prog Wv 0 zeo (zpw a0 a1 o)))
noncomputable def w8(m:Option Nat):Option Int:=
 some (-1)
noncomputable def qb(m:Option Nat)(a0:List Int)(a1:Int)(v1:Int):Option (Int ⊕ Int):=
 if(decide (v1<((a0.map y4).length:Int)))=true then
  if(0:Int)≤v1∧v1<((a0.map y4).length:Int) then
  if(a1==(a0.getD v1.toNat default))=true then
   Option.map Sum.inr (
    some v1)
  else
   some (.inl (W (v1+1)))
  else none
 else
  Option.map Sum.inr (
   w8 m)
noncomputable def y7(m:Option Nat)(a0:List Int)(a1:Int)(v1:Int):Option Int:=Y1 m (fun(s:Int)=>qb m a0 a1 s) v1
theorem znv{a0:List Int}{a1:Int}{m:Option Nat}{o:Int}(h:w8 m=some o) :
 LWp Tryz.prog Wv 0 zeo (zpw a0 a1 o) [] [] 0:=by
 unfold w8 at h
 refine zc (zh ?_)
 refine wo ?_
 cases h
 exact AI TT (AI rfl (VS rfl))
theorem zha{a0:List Int}{a1:Int}{v1:Int}{m:Option Nat}{o:Int ⊕ Int}(h:qb m a0 a1 v1=some o) :
 LWp Tryz.prog Wv 0 zkp (Z2 0 0 (z3x a0 a1) (zae a0 a1) (zeg a0 a1) o) [(1,i6 a1),(7,.isl 1 (a0.map y4) false),(8,i6 ((a0.map y4).length:Int)),(9,i6 v1)] [] 0:=by
 unfold qb at h
 refine zc (zh ?_)
 refine zc ?_
 refine yp (v:=(decide (v1<((a0.map y4).length:Int)))) rfl TT (fun h7=>?_) (fun h7=>?_)
 ·have h:=zj h7 h
  refine xr ?_
  refine zc ?_
  refine jj ?_
  refine zc (zh ?_)
  obtain⟨h8,h⟩:=qv h
  refine AI h8 ?_
  refine EX (y4 (a0.getD v1.toNat default)) (AI (um y4 _ _ (u5 y4 h8)) (AI (AI (Ze h8) (NB rfl)) ?_))
  refine zc (zh ?_)
  refine LWp.sim (e:=[(1,i6 a1),(5,i6 v1),(7,.isl 1 (a0.map y4) false),(8,i6 ((a0.map y4).length:Int)),(9,i6 v1),(16,.bool (a1==(a0.getD v1.toNat default)))]) (L:=[]) (n:=0) ?_ ?_
  ·exact qq (M:=[]) rfl (S4 rfl rfl rfl rfl (S2 rfl rfl TT)) TT
  refine yp (v:=(a1==(a0.getD v1.toNat default))) rfl TT (fun h9=>?_) (fun h9=>?_)
  ·have h:=zj h9 h
   refine zc (zh ?_)
   refine wo ?_
   obtain⟨o,hq,rfl⟩:=Option.map_eq_some_iff.1 h
   replace h:=hq;clear hq
   refine AI nofun ?_
   cases h
   exact AI TT (AI rfl (VS rfl))
  ·have h:=zo h9 h
   refine xr ?_
   refine zh ?_
   cases h
   exact AI rfl (qq (M:=[]) rfl (S4 rfl rfl rfl rfl TT) TT)
 ·have h:=zo h7 h
  refine Jr ?_
  obtain⟨o,hq,rfl⟩:=Option.map_eq_some_iff.1 h
  replace h:=hq;clear hq
  refine AI nofun ?_
  refine LWp.sim ?_ (znv h)
  exact qq (M:=[]) rfl TT TT
theorem zjl{a0:List Int}{a1:Int}{v1:Int}{m:Option Nat}{o:Int}(h:y7 m a0 a1 v1=some o) :
 LWp Tryz.prog Wv 0 (.loop zkp) (xa 0 (Ya Tryz.prog Wv 0 zeo (zpw a0 a1 o))) [(1,i6 a1),(7,.isl 1 (a0.map y4) false),(8,i6 ((a0.map y4).length:Int)),(9,i6 v1)] [] 0:=
 ww (m:=m) (s:=(v1:Int)) (r:=o) (fun(s:Int)=>qb m a0 a1 s) (z3x a0 a1) (zae a0 a1) (zeg a0 a1) (fun s o h=>zha h) h
noncomputable def x3(m:Option Nat)(a0:List Int)(a1:Int):Option Int:=
 y7 m a0 a1 0
theorem zl5{a0:List Int}{a1:Int}{m:Option Nat}{o:Int}(h:x3 m a0 a1=some o):LWp Tryz.prog Wv 0 zsh (zpw a0 a1 o) (ye 0 [.isl 1 (a0.map y4) false,i6 a1]) [] 0:=by
 unfold x3 at h
 refine zc (zh ?_)
 refine zc ?_
 refine zc (zh ?_)
 refine jj ?_
 refine LWp.sim ?_ (zjl h)
 exact qq (M:=[]) rfl (S4 rfl rfl rfl rfl TT) TT
theorem zty{a0:List Int}{a1:Int}{m:Option Nat}{o:Int}(h:x3 m a0 a1=some o):PFn Tryz.prog 12 [.isl 1 (a0.map y4) false,i6 a1] (i6 o):=PFn.ofFnW (L:=y0s) zwj zvu (NB rfl) rfl (zl5 h)
def ztu:LCode:=(.seq (.region [Qb 4])
 (.seq (.region [Qm 5 0,
  Qm 6 1,
  Qo 7 (.call 12 [(.t 5),(.t 6)]),
  Qo 8 (.bin .geq (.t 7) (.c (i6 0))),
  Qm 4 8])
 .ret))
def zi7:Lay:=⟨9,[],false⟩
def zit:List LRes:=[.t 4]
def zyi:LFn:=⟨2,zi7,ztu,zit⟩
theorem zuv:wb Tryz.prog [] 10=some zyi:=by kernel_rfl
theorem zwv:uk Tryz.prog 10:=⟨_,Tryz.func10,rfl,rfl⟩
noncomputable def y6(m:Option Nat)(a0:List Int)(a1:Int):Option Bool:=
 (x3 m a0 a1).bind fun v1=>
 some (decide (v1≥0))
def y20(a0:List Int)(a1:Int)(o:Bool):Exit→Env→AHeap→Nat→Prop:=Zz zit (jo (.bool o))
theorem zjz{a0:List Int}{a1:Int}{m:Option Nat}{o:Bool}(h:y6 m a0 a1=some o):LWp Tryz.prog zi7 0 ztu (y20 a0 a1 o) (ye 0 [.isl 1 (a0.map y4) false,i6 a1]) [] 0:=by
 unfold y6 at h
 refine zc (zh ?_)
 refine zc (zh ?_)
 obtain⟨v1,h1,h⟩:=bind_some h
 refine PFn.call (zty h1) (S2 rfl rfl TT) ?_
 refine wo ?_
 cases h
 exact AI TT (AI rfl (VS rfl))
theorem zs9{a0:List Int}{a1:Int}{m:Option Nat}{o:Bool}(h:y6 m a0 a1=some o):PFn Tryz.prog 10 [.isl 1 (a0.map y4) false,i6 a1] (.bool o):=PFn.ofFnW (L:=zyi) zuv zwv (NB rfl) rfl (zjz h)
def zd9:LCode:=(.seq (.region [Qo 4 (.alloc [(i6 0),(i6 0),(i6 0),(.str []),(i6 0),(i6 0),(.str []),(.isl 1 [] true),(.isl 5 [] true)]),
 Qi 5 0])
 (.seq (.region [Qm 9 0,
  Qo 10 (.nilck (.t 9)),
  Qf 11 1 10,
  Ql 12 1 11,
  Qm 13 1,
  Qo 14 (.mlook [.int] false false true [(i6 0)] (.t 12) (.t 13)),
  Qm 8 14,
  Qo 15 (.ext 0 (.t 8)),
  Qo 16 (.ext 1 (.t 8)),
  Qm 6 15,
  Qm 7 16])
 (.seq (.block 0
  (.seq (.region [Qm 18 7,
   Qo 19 (.un .not (.t 18)),
   Qm 17 19])
  (.cond (.t 17)
   (.seq (.region [Qo 20 (.build [(i6 0),(i6 0),(i6 0),(.str []),(i6 0),(i6 0),(.str []),(.isl 1 [] true),(.isl 5 [] true)] []),
    ⟨none,.store 9 (.t 4) (.t 20),none⟩,
    Qi 5 5])
   .ret)
   (.seq (.region [Qm 22 6,
    Qo 23 (.bin .neq (.t 22) (.c (i6 0))),
    Qm 21 23])
   (.cond (.t 21)
    (.seq (.region [Qo 24 (.build [(i6 0),(i6 0),(i6 0),(.str []),(i6 0),(i6 0),(.str []),(.isl 1 [] true),(.isl 5 [] true)] []),
     ⟨none,.store 9 (.t 4) (.t 24),none⟩,
     Qi 5 6])
    .ret)
    .skip)))))
 (.seq (.region [Qm 25 0,
  Qo 26 (.nilck (.t 25)),
  Qf 27 1 26,
  Ql 28 1 27,
  Qm 29 1,
  ⟨none,.mset [.int] false false [(i6 0)] (.t 28) (.t 29) (.c (i6 1)),none⟩])
 (.seq (.region [Qm 30 1,
  Qo 31 (.build [(i6 0),(i6 0),(i6 0),(.str []),(i6 0),(i6 0),(.str []),(.isl 1 [] true),(.isl 5 [] true)] [(0,1,(.c (i6 5))),(1,1,(.t 30))]),
  ⟨none,.store 9 (.t 4) (.t 31),none⟩,
  Qi 5 0])
 .ret)))))
def z9q:Lay:=⟨32,[],false⟩
def z94:List LRes:=[.cell 4 true 9,.t 5]
def zp2:LFn:=⟨2,z9q,zd9,z94⟩
theorem zj8:wb Tryz.prog [] 11=some zp2:=by kernel_rfl
theorem zij:uk Tryz.prog 11:=⟨_,Tryz.func11,rfl,rfl⟩
noncomputable def xn(m:Option Nat)(a0:Int)(a1:Int)(a2:List (Int×Int)):Option (GM×Int×(List (Int×Int))):=
 if(!((lk wt a2 a0).isSome))=true then
  some ((GM.mk 0 0 0 ([]:List UInt8) (GJ.mk 0 0 [] [] [])),5,a2)
 else
  if(((lk wt a2 a0).getD 0) != 0)=true then
   some ((GM.mk 0 0 0 ([]:List UInt8) (GJ.mk 0 0 [] [] [])),6,a2)
  else
   some ((GM.mk 5 a0 0 ([]:List UInt8) (GJ.mk 0 0 [] [] [])),0,(mp wt a2 a0 1))
def zvd(a0:Int)(a1:Int)(a2:List (Int×Int))(o:GM×Int×(List (Int×Int))):Exit→Env→AHeap→Nat→Prop:=Zz z94 (Xx 3 3 (.tup [.agg [i6 o.1.fK,i6 o.1.fI,i6 o.1.fC,.str o.1.fM,i6 o.1.fB.fK,i6 o.1.fB.fN,.str o.1.fB.fT,.isl 1 (o.1.fB.fA.map za) false,.isl 5 (o.1.fB.fE.map ze) false],i6 o.2.1]) [((0,0),.one [i6 a1,.map (0,1)]),((0,1),.amap (o.2.2.map (em z8 z8)))])
theorem zb1{a0:Int}{a1:Int}{a2:List (Int×Int)}{m:Option Nat}{o:GM×Int×(List (Int×Int))}(h:xn m a0 a1 a2=some o):LWp Tryz.prog z9q 3 zd9 (zvd a0 a1 a2 o) (ye 0 [.ptr (0,0) 0 0,i6 a0]) [((0,0),.one [i6 a1,.map (0,1)]),((0,1),.amap (a2.map (em z8 z8)))] 3:=by
 unfold xn at h
 refine zc (zh ?_)
 refine zc (zh ?_)
 refine EX (.tup [i6 ((lk wt a2 a0).getD 0),.bool ((lk wt a2 a0).isSome)]) (AI (zdn (ek:=z8) (ev:=z8) (z:=0) Xn rfl a0 a2) (AI (U4 (ek:=z8) (ev:=z8) Xn _ _) ?_))
 refine LWp.sim (e:=[(0,.ptr (0,0) 0 0),(1,i6 a0),(4,.ptr (3,0) 0 0),(6,i6 ((lk wt a2 a0).getD 0)),(7,.bool ((lk wt a2 a0).isSome))]) (L:=[((0,0),.one [i6 a1,.map (0,1)]),((0,1),.amap (a2.map (em z8 z8))),((3,0),.one [i6 0,i6 0,i6 0,.str [],i6 0,i6 0,.str [],.isl 1 (([]:List (List UInt8)).map za) true,.isl 5 (([]:List (List AVal)).map ze) true])]) (n:=4) ?_ ?_
 ·exact qq (M:=[((3,0),(3,0))]) rfl (SP rfl (AI (VS rfl) (SP rfl (S2 rfl rfl TT)))) (AI (AI rfl (BVw.oneL (AI (VS rfl) (AI (Vw.map _ _ rfl) TT)))) (AI (AI rfl (BVw.ofMap z8 z8 zb a2)) (AI (AI rfl (OL rfl)) TT)))
 refine zc ?_
 refine jj ?_
 refine zc (zh ?_)
 refine yp (v:=(!((lk wt a2 a0).isSome))) rfl TT (fun h1=>?_) (fun h1=>?_)
 ·have h:=zj h1 h
  refine zc (zh ?_)
  refine wo ?_
  cases h
  exact AI (AI TT (AI rfl (NB rfl))) (AI TT (Km (n':=4) [] [] rfl rfl (Vw.tupL (AI (Vw.aggL (S4 rfl rfl rfl rfl (S2 rfl rfl (AI (VS rfl) (AI (Vw.islF _ _ _) (AI (Vw.islF _ _ _) TT)))))) (AI (VS rfl) TT))) (AI (AI rfl (BVw.oneL (AI (VS rfl) (AI (Vw.map _ _ rfl) TT)))) (AI (AI rfl (BVw.ofMap z8 z8 zb a2)) TT))))
 ·have h:=zo h1 h
  refine zc (zh ?_)
  refine yp (v:=(((lk wt a2 a0).getD 0) != 0)) rfl TT (fun h2=>?_) (fun h2=>?_)
  ·have h:=zj h2 h
   refine zc (zh ?_)
   refine LWp.sim (e:=[(4,.ptr (3,0) 0 0),(5,i6 6)]) (L:=[((0,0),.one [i6 a1,.map (0,1)]),((0,1),.amap (a2.map (em z8 z8))),((3,0),.one [i6 0,i6 0,i6 0,.str [],i6 0,i6 0,.str [],.isl 1 (([]:List (List UInt8)).map za) true,.isl 5 (([]:List (List AVal)).map ze) true])]) (n:=4) ?_ ?_
   ·exact qq (M:=[((3,0),(3,0))]) rfl (SP rfl (AI (VS rfl) TT)) (AI (AI rfl (BVw.oneL (AI (VS rfl) (AI (Vw.map _ _ rfl) TT)))) (AI (AI rfl (BVw.ofMap z8 z8 zb a2)) (AI (AI rfl (OL rfl)) TT)))
   refine wo ?_
   cases h
   exact AI (AI TT (AI rfl (NB rfl))) (AI TT (Km (n':=4) [] [] rfl rfl (Vw.tupL (AI (Vw.aggL (S4 rfl rfl rfl rfl (S2 rfl rfl (AI (VS rfl) (AI (Vw.islF _ _ _) (AI (Vw.islF _ _ _) TT)))))) (AI (VS rfl) TT))) (AI (AI rfl (BVw.oneL (AI (VS rfl) (AI (Vw.map _ _ rfl) TT)))) (AI (AI rfl (BVw.ofMap z8 z8 zb a2)) TT))))
  ·have h:=zo h2 h
   refine xr ?_
   refine zc (zh ?_)
   refine EX ((mp wt a2 a0 1).map (em z8 z8)) (AI (z0r (ek:=z8) (ev:=z8) Xn a0 1 a2) ?_)
   refine LWp.sim (e:=[(1,i6 a0),(4,.ptr (3,0) 0 0)]) (L:=[((0,0),.one [i6 a1,.map (0,1)]),((0,1),.amap ((mp wt a2 a0 1).map (em z8 z8))),((3,0),.one [i6 0,i6 0,i6 0,.str [],i6 0,i6 0,.str [],.isl 1 (([]:List (List UInt8)).map za) true,.isl 5 (([]:List (List AVal)).map ze) true])]) (n:=4) ?_ ?_
   ·exact qq (M:=[((3,0),(3,0))]) rfl (AI (VS rfl) (SP rfl TT)) (AI (AI rfl (BVw.oneL (AI (VS rfl) (AI (Vw.map _ _ rfl) TT)))) (AI (AI rfl (BVw.ofMap z8 z8 zb (mp wt a2 a0 1))) (AI (AI rfl (OL rfl)) TT)))
   refine zc (zh ?_)
   refine wo ?_
   cases h
   exact AI (AI TT (AI rfl (NB rfl))) (AI TT (Km (n':=4) [] [] rfl rfl (Vw.tupL (AI (Vw.aggL (S4 rfl rfl rfl rfl (S2 rfl rfl (AI (VS rfl) (AI (Vw.islF _ _ _) (AI (Vw.islF _ _ _) TT)))))) (AI (VS rfl) TT))) (AI (AI rfl (BVw.oneL (AI (VS rfl) (AI (Vw.map _ _ rfl) TT)))) (AI (AI rfl (BVw.ofMap z8 z8 zb (mp wt a2 a0 1))) TT))))
theorem zr3{a0:Int}{a1:Int}{a2:List (Int×Int)}{m:Option Nat}{o:GM×Int×(List (Int×Int))}(h:xn m a0 a1 a2=some o):ACalls Tryz.prog 11 [.ptr (0,0) 0 0,i6 a0] [((0,0),.one [i6 a1,.map (0,1)]),((0,1),.amap (a2.map (em z8 z8)))] 3 (kg 3 (.tup [.agg [i6 o.1.fK,i6 o.1.fI,i6 o.1.fC,.str o.1.fM,i6 o.1.fB.fK,i6 o.1.fB.fN,.str o.1.fB.fT,.isl 1 (o.1.fB.fA.map za) false,.isl 5 (o.1.fB.fE.map ze) false],i6 o.2.1]) [((0,0),.one [i6 a1,.map (0,1)]),((0,1),.amap (o.2.2.map (em z8 z8)))]):=Yw (L:=zp2) zj8 zij (NB rfl) (zb1 h)
def zf0:LCode:=(.seq (.region [Qo 3 (.box (.t 1)),
 Qi 4 0])
 (.seq (.seq (.region [Qt 10 9 3,
  Qc 11 17 10,
  Qm 9 11,
  Qo 12 (.ext 0 (.t 9)),
  Qo 13 (.ext 1 (.t 9)),
  Qo 5 (.alloc [(i6 0),(i6 0),(.str []),(.isl 1 [] true),(.isl 5 [] true)]),
  ⟨none,.store 5 (.t 5) (.t 12),none⟩,
  Qm 6 13])
 (.seq (.region [Qm 14 6,
  Qo 15 (.bin .neq (.t 14) (.c (i6 0)))])
 (.cond (.t 15)
  (.seq (.region [Qm 16 6,
   Qm 4 16])
  .ret)
  .skip)))
 (.seq (.seq (.region [Qf 17 0 3,
  Ql 18 1 17,
  Qo 19 (.bin .neq (.t 18) (.c (i6 3))),
  Qm 20 19,
  Qe 21 0 3 (20,true),
  Qk 22 1 21 (20,true),
  Qg 23 (.bin .neq (.t 22) (.c (i6 4))) (20,true),
  Qp 24 20 23])
 (.cond (.t 24)
  (.seq (.region [Qi 4 7])
  .ret)
  .skip))
 (.seq (.seq (.quiet [Qm 26 0,
  Qo 27 (.nilck (.t 26)),
  Qf 28 1 27,
  Ql 29 1 28,
  Qf 30 1 3,
  Ql 31 1 30,
  Qo 32 (.mlook [.int] false false true [(i6 0)] (.t 29) (.t 31)),
  Qm 25 32,
  Qo 33 (.ext 0 (.t 25)),
  Qo 34 (.ext 1 (.t 25)),
  Qm 7 33,
  Qm 8 34])
 (.seq (.region [Qm 35 8,
  Qo 36 (.un .not (.t 35))])
 (.cond (.t 36)
  (.seq (.region [Qi 4 5])
  .ret)
  .skip)))
 (.seq (.draw [⟨Qm 37 0,[]⟩,
  ⟨Qo 38 (.nilck (.t 37)),[]⟩,
  ⟨Qf 39 1 38,[]⟩,
  ⟨Ql 40 1 39,[]⟩,
  ⟨Qf 41 1 3,[]⟩,
  ⟨Ql 42 1 41,[]⟩,
  ⟨⟨none,.mdel [.int] false (.t 40) (.t 42),none⟩,[]⟩])
 (.seq (.region [Qi 4 0])
 .ret))))))
def z7o:Lay:=⟨43,[],false⟩
def z9z:List LRes:=[.t 4]
def zkd:LFn:=⟨2,z7o,zf0,z9z⟩
theorem zmi:wb Tryz.prog [] 13=some zkd:=by kernel_rfl
theorem zki:uk Tryz.prog 13:=⟨_,Tryz.func13,rfl,rfl⟩
noncomputable def xg(m:Option Nat)(a0:GM)(a1:Int)(a2:List (Int×Int)):Option (Int×(List (Int×Int))):=
 (vg m (GM.mk a0.fK a0.fI a0.fC a0.fM (GJ.mk a0.fB.fK a0.fB.fN a0.fB.fT a0.fB.fA a0.fB.fE))).bind fun v1=>
 if(v1.2 != 0)=true then
  some (v1.2,a2)
 else
  if((a0.fK != 3)&&(a0.fK != 4))=true then
   some (7,a2)
  else
   if(!((lk wt a2 a0.fI).isSome))=true then
    some (5,a2)
   else
    some (0,(md wt a2 a0.fI))
def zx6(a0:GM)(a1:Int)(a2:List (Int×Int))(o:Int×(List (Int×Int))):Exit→Env→AHeap→Nat→Prop:=Zz z9z (Xx 3 3 (i6 o.1) [((0,0),.one [i6 a1,.map (0,1)]),((0,1),.amap (o.2.map (em z8 z8)))])
theorem zba{a0:GM}{a1:Int}{a2:List (Int×Int)}{m:Option Nat}{o:Int×(List (Int×Int))}(h:xg m a0 a1 a2=some o):LWp Tryz.prog z7o 3 zf0 (zx6 a0 a1 a2 o) (ye 0 [.ptr (0,0) 0 0,.agg [i6 a0.fK,i6 a0.fI,i6 a0.fC,.str a0.fM,i6 a0.fB.fK,i6 a0.fB.fN,.str a0.fB.fT,.isl 1 (a0.fB.fA.map za) false,.isl 5 (a0.fB.fE.map ze) false]]) [((0,0),.one [i6 a1,.map (0,1)]),((0,1),.amap (a2.map (em z8 z8)))] 3:=by
 unfold xg at h
 refine zc (zh ?_)
 refine zc ?_
 refine zc (zh ?_)
 obtain⟨v1,h1,h⟩:=bind_some h
 refine PFn.call (zsw h1) (AI (VS rfl) TT) ?_
 refine LWp.sim (e:=[(0,.ptr (0,0) 0 0),(3,.ptr (3,0) 0 0),(6,i6 v1.2)]) (L:=[((0,0),.one [i6 a1,.map (0,1)]),((0,1),.amap (a2.map (em z8 z8))),((3,0),.one [i6 a0.fK,i6 a0.fI,i6 a0.fC,.str a0.fM,i6 a0.fB.fK,i6 a0.fB.fN,.str a0.fB.fT,.isl 1 (a0.fB.fA.map za) false,.isl 5 (a0.fB.fE.map ze) false])]) (n:=4) ?_ ?_
 ·exact qq (M:=[((3,0),(3,0))]) rfl (SP rfl (SP rfl (AI (VS rfl) TT))) (AI (AI rfl (BVw.oneL (AI (VS rfl) (AI (Vw.map _ _ rfl) TT)))) (AI (AI rfl (BVw.ofMap z8 z8 zb a2)) (AI (AI rfl (OL rfl)) TT)))
 refine zc (zh ?_)
 refine yp (v:=(v1.2 != 0)) rfl TT (fun h2=>?_) (fun h2=>?_)
 ·have h:=zj h2 h
  refine zc (zh ?_)
  refine wo ?_
  cases h
  exact AI TT (Km (n':=4) [] [] rfl rfl (VS rfl) (AI (AI rfl (BVw.oneL (AI (VS rfl) (AI (Vw.map _ _ rfl) TT)))) (AI (AI rfl (BVw.ofMap z8 z8 zb a2)) TT)))
 ·have h:=zo h2 h
  refine xr ?_
  refine zc ?_
  refine zc (zh ?_)
  refine AI (fun hp=>hp) ?_
  refine AI (fun hp=>hp) ?_
  refine AI (fun hc=>(bqt hc)) ?_
  refine LWp.sim (e:=[(0,.ptr (0,0) 0 0),(3,.ptr (3,0) 0 0),(24,.bool ((a0.fK != 3)&&(a0.fK != 4)))]) (L:=[((0,0),.one [i6 a1,.map (0,1)]),((0,1),.amap (a2.map (em z8 z8))),((3,0),.one [i6 a0.fK,i6 a0.fI,i6 a0.fC,.str a0.fM,i6 a0.fB.fK,i6 a0.fB.fN,.str a0.fB.fT,.isl 1 (a0.fB.fA.map za) false,.isl 5 (a0.fB.fE.map ze) false])]) (n:=4) ?_ ?_
  ·exact qq (M:=[((3,0),(3,0))]) rfl (SP rfl (SP rfl (AI (VS rfl) TT))) (AI (AI rfl (BVw.oneL (AI (VS rfl) (AI (Vw.map _ _ rfl) TT)))) (AI (AI rfl (BVw.ofMap z8 z8 zb a2)) (AI (AI rfl (OL rfl)) TT)))
  refine yp (v:=((a0.fK != 3)&&(a0.fK != 4))) rfl TT (fun h3=>?_) (fun h3=>?_)
  ·have h:=zj h3 h
   refine zc (zh ?_)
   refine wo ?_
   cases h
   exact AI TT (Km (n':=4) [] [] rfl rfl (VS rfl) (AI (AI rfl (BVw.oneL (AI (VS rfl) (AI (Vw.map _ _ rfl) TT)))) (AI (AI rfl (BVw.ofMap z8 z8 zb a2)) TT)))
  ·have h:=zo h3 h
   refine xr ?_
   refine zc ?_
   refine zc ?_
   refine zyx ?_
   refine EX (.tup [i6 ((lk wt a2 a0.fI).getD 0),.bool ((lk wt a2 a0.fI).isSome)]) (AI (zdn (ek:=z8) (ev:=z8) (z:=0) Xn rfl a0.fI a2) (AI (U4 (ek:=z8) (ev:=z8) Xn _ _) ?_))
   refine LWp.sim (e:=[(0,.ptr (0,0) 0 0),(3,.ptr (3,0) 0 0),(8,.bool ((lk wt a2 a0.fI).isSome))]) (L:=[((0,0),.one [i6 a1,.map (0,1)]),((0,1),.amap (a2.map (em z8 z8))),((3,0),.one [i6 a0.fK,i6 a0.fI,i6 a0.fC,.str a0.fM,i6 a0.fB.fK,i6 a0.fB.fN,.str a0.fB.fT,.isl 1 (a0.fB.fA.map za) false,.isl 5 (a0.fB.fE.map ze) false])]) (n:=4) ?_ ?_
   ·exact qq (M:=[((3,0),(3,0))]) rfl (SP rfl (SP rfl (AI (VS rfl) TT))) (AI (AI rfl (BVw.oneL (AI (VS rfl) (AI (Vw.map _ _ rfl) TT)))) (AI (AI rfl (BVw.ofMap z8 z8 zb a2)) (AI (AI rfl (OL rfl)) TT)))
   refine zc (zh ?_)
   refine yp (v:=(!((lk wt a2 a0.fI).isSome))) rfl TT (fun h4=>?_) (fun h4=>?_)
   ·have h:=zj h4 h
    refine zc (zh ?_)
    refine wo ?_
    cases h
    exact AI TT (Km (n':=4) [] [] rfl rfl (VS rfl) (AI (AI rfl (BVw.oneL (AI (VS rfl) (AI (Vw.map _ _ rfl) TT)))) (AI (AI rfl (BVw.ofMap z8 z8 zb a2)) TT)))
   ·have h:=zo h4 h
    refine xr ?_
    refine zc ?_
    refine zrw rfl ?_
    refine EX ((md wt a2 a0.fI).map (em z8 z8)) (AI (z7a (ek:=z8) (ev:=z8) Xn a0.fI a2) ?_)
    refine LWp.sim (e:=[]) (L:=[((0,0),.one [i6 a1,.map (0,1)]),((0,1),.amap ((md wt a2 a0.fI).map (em z8 z8)))]) (n:=3) ?_ ?_
    ·exact qq (M:=[]) rfl TT (AI (AI rfl (BVw.oneL (AI (VS rfl) (AI (Vw.map _ _ rfl) TT)))) (AI (AI rfl (BVw.ofMap z8 z8 zb (md wt a2 a0.fI))) TT))
    refine zc (zh ?_)
    refine wo ?_
    cases h
    exact AI TT (Km (n':=3) [] [] rfl rfl (VS rfl) (AI (AI rfl (BVw.oneL (AI (VS rfl) (AI (Vw.map _ _ rfl) TT)))) (AI (AI rfl (BVw.ofMap z8 z8 zb (md wt a2 a0.fI))) TT)))
theorem zpl{a0:GM}{a1:Int}{a2:List (Int×Int)}{m:Option Nat}{o:Int×(List (Int×Int))}(h:xg m a0 a1 a2=some o):ACalls Tryz.prog 13 [.ptr (0,0) 0 0,.agg [i6 a0.fK,i6 a0.fI,i6 a0.fC,.str a0.fM,i6 a0.fB.fK,i6 a0.fB.fN,.str a0.fB.fT,.isl 1 (a0.fB.fA.map za) false,.isl 5 (a0.fB.fE.map ze) false]] [((0,0),.one [i6 a1,.map (0,1)]),((0,1),.amap (a2.map (em z8 z8)))] 3 (kg 3 (i6 o.1) [((0,0),.one [i6 a1,.map (0,1)]),((0,1),.amap (o.2.map (em z8 z8)))]):=Yw (L:=zkd) zmi zki (NB rfl) (zba h)
def zff:LCode:=(.seq (.region [Qo 2 (.mv (.c (.val (.slice none 0 0))))])
 (.seq (.region [Qm 3 0,
  Qo 4 (.app true 1 8 (.c (.val (.slice none 0 0))) (.t 3)),
  Qm 2 4])
 .ret))
def z90:Lay:=⟨5,[],false⟩
def z7b:List LRes:=[.t 2]
def zjx:LFn:=⟨1,z90,zff,z7b⟩
theorem zli:wb Tryz.prog [] 14=some zjx:=by kernel_rfl
theorem zkr:uk Tryz.prog 14:=⟨_,Tryz.func14,rfl,rfl⟩
noncomputable def jy(m:Option Nat)(a0:List Int):Option Unit:=
 if(a0.map y4).length*8≤140737488355328 then
 some ()
 else none
def zub(a0:List Int)(o:Unit):Exit→Env→AHeap→Nat→Prop:=Zz z7b (Xx 3 4 (.osl (3,0) 1 (a0.map y4)) [((3,0),.tok)])
theorem zbv{a0:List Int}{m:Option Nat}{o:Unit}(h:jy m a0=some o):LWp Tryz.prog z90 3 zff (zub a0 o) (ye 0 [.isl 1 (a0.map y4) false]) [] 3:=by
 unfold jy at h
 refine zc (zh ?_)
 refine zc (zh ?_)
 obtain⟨h1,h⟩:=qv h
 refine EX (a0.map y4) (AI rfl (AI h1 ?_))
 refine wo ?_
 cases h
 exact AI TT (Km (n':=4) [((3,0),(3,0))] [] rfl rfl (Vw.osl _ _ _ _ rfl) (AI (AI rfl BVw.tok) TT))
theorem zqm{a0:List Int}{m:Option Nat}{o:Unit}(h:jy m a0=some o):ACalls Tryz.prog 14 [.isl 1 (a0.map y4) false] [] 3 (kg 4 (.osl (3,0) 1 (a0.map y4)) [((3,0),.tok)]):=Yw (L:=zjx) zli zkr (NB rfl) (zbv h)
def u6(m:Option Nat)(a0:List (Int×Int)):Option Unit:=some ()
theorem zhk:uk Tryz.prog 25:=⟨_,Tryz.func25,rfl,rfl⟩
theorem zpi{m:Option Nat}{a0:List (Int×Int)}{o:Unit}(h:u6 m a0=some o):ACalls Tryz.prog 25 [.map (0,0)] [((0,0),.amap (a0.map (em z8 z8)))] 3 (kg 4 (.fn (.func 43) [] [.ptr (3,0) 0 0]) [((3,0),.mbox (0,0)),((0,0),.amap (a0.map (em z8 z8)))]):=z2d Tryz.l25 rfl rfl zhk
theorem zbs(m:Nat):Go.Proofs.AnyZI.SortsIn Tryz.prog Tryz.l24_ren Go.Fence.wide m:=
 ⟨fun blk off cap ss W hH hblk hsz=>Go.callsIn_wide.2 (Go.Proofs.AnyM.slices_Sort_int Tryz.l42 blk off cap ss W hH hblk hsz),fun p cap W=>Go.callsIn_wide.2 (Go.Proofs.AnyM.slices_Sort_int_none Tryz.l42 p cap W)⟩
noncomputable def u3(m:Option Nat)(a0:List (Int×Int)):Option (List Int):=by classical exact if(a0.map (·.1)).Nodup∧(∀k∈a0.map (·.1),wfZ k=true)∧a0.length*8≤140737488355328 then some (Ja a0) else none
theorem zma:uk Tryz.prog 24:=⟨_,Tryz.func24,rfl,rfl⟩
theorem zrc{m:Option Nat}{a0:List (Int×Int)}{o:List Int}(h:u3 m a0=some o):ACalls Tryz.prog 24 [.fn (.func 43) [] [.ptr (0,0) 0 0]] [((0,0),.mbox (0,1)),((0,1),.amap (a0.map (em z8 z8)))] 3 (kg 3 (.isl 1 (o.map y4) false) [((0,0),.mbox (0,1)),((0,1),.amap (a0.map (em z8 z8)))]):=by
 unfold u3 at h
 split at h
 ·rename_i hc
  cases h
  exact Vs (ρk:=Tryz.l25_ren) (M:=a0) (ev:=z8) rfl Tryz.l24 { Tryz.l25 with } zbs (Go.Proofs.enters_of Tryz.func42 (by kernel_rfl) rfl) (Go.Proofs.enters_of Tryz.func43 (by kernel_rfl) rfl) rfl rfl (K:=3) rfl Tryz.underlying3 zma (a:=(0,0)) (b:=(0,1)) rfl rfl hc.1 hc.2.1 hc.2.2
 ·cases h
def zd6:LCode:=(.seq (.region [Qo 2 (.mv (.c (.val (.slice none 0 0))))])
 (.seq (.region [Qm 3 0,
  Qo 4 (.nilck (.t 3)),
  Qf 5 1 4,
  Ql 6 1 5,
  Qc 7 25 6,
  Qc 8 24 7,
  Qm 2 8])
 .ret))
def z9y:Lay:=⟨9,[],false⟩
def z8m:List LRes:=[.t 2]
def zi6:LFn:=⟨1,z9y,zd6,z8m⟩
theorem zn6:wb Tryz.prog [] 16=some zi6:=by kernel_rfl
theorem zn0:uk Tryz.prog 16:=⟨_,Tryz.func16,rfl,rfl⟩
noncomputable def je(m:Option Nat)(a0:Int)(a1:List (Int×Int)):Option (List Int):=
 (u6 m a1).bind fun v1=>
 (u3 m a1).bind fun v2=>
 some v2
def zua(a0:Int)(a1:List (Int×Int))(o:(List Int)):Exit→Env→AHeap→Nat→Prop:=Zz z8m (Xx 3 3 (.isl 1 (o.map y4) false) [((0,0),.one [i6 a0,.map (0,1)]),((0,1),.amap (a1.map (em z8 z8)))])
theorem zca{a0:Int}{a1:List (Int×Int)}{m:Option Nat}{o:(List Int)}(h:je m a0 a1=some o):LWp Tryz.prog z9y 3 zd6 (zua a0 a1 o) (ye 0 [.ptr (0,0) 0 0]) [((0,0),.one [i6 a0,.map (0,1)]),((0,1),.amap (a1.map (em z8 z8)))] 3:=by
 unfold je at h
 refine zc (zh ?_)
 refine zc (zh ?_)
 obtain⟨v1,h1,h⟩:=bind_some h
 refine Q1 (k:=3) (m:=1) (L':=[((3,0),.mbox (0,1)),((0,1),.amap (a1.map (em z8 z8)))]) (rest:=[((0,0),.one [i6 a0,.map (0,1)])]) (R':=.fn (.func 43) [] [.ptr (3,0) 0 0]) [((0,0),(0,1))] (zpi h1) rfl rfl rfl (AI (Vw.map _ _ rfl) TT) (AI (h0I (0,1) rfl rfl (BVw.ofMap z8 z8 zb a1)) TT) rfl (AI rfl (AI rfl (AI rfl (AI (Va z8 z8 zb zb _) TT)))) rfl ?_
 obtain⟨v2,h2,h⟩:=bind_some h
 refine Q1 (k:=3) (m:=0) (L':=[((3,0),.mbox (0,1)),((0,1),.amap (a1.map (em z8 z8)))]) (rest:=[((0,0),.one [i6 a0,.map (0,1)])]) (R':=.isl 1 (v2.map y4) false) [((0,0),(3,0)),((0,1),(0,1))] (zrc h2) rfl rfl rfl (AI (Vw.fnL TT (SP rfl TT)) TT) (AI (h0I (3,0) rfl rfl (BVw.mbox _ _ rfl)) (AI (h0I (0,1) rfl rfl (BVw.ofMap z8 z8 zb a1)) TT)) (wv _ rfl) (AI rfl (AI rfl (AI rfl (AI (Va z8 z8 zb zb _) TT)))) rfl ?_
 refine LWp.sim (e:=[(2,.isl 1 (v2.map y4) false)]) (L:=[((0,0),.one [i6 a0,.map (0,1)]),((0,1),.amap (a1.map (em z8 z8)))]) (n:=3) ?_ ?_
 ·exact qq (M:=[]) rfl (AI (VS rfl) TT) (AI (AI rfl (BVw.oneL (AI (VS rfl) (AI (Vw.map _ _ rfl) TT)))) (AI (AI rfl (BVw.ofMap z8 z8 zb a1)) TT))
 refine wo ?_
 cases h
 exact AI TT (Km (n':=3) [] [] rfl rfl (VS rfl) (AI (AI rfl (BVw.oneL (AI (VS rfl) (AI (Vw.map _ _ rfl) TT)))) (AI (AI rfl (BVw.ofMap z8 z8 zb a1)) TT)))
theorem zrr{a0:Int}{a1:List (Int×Int)}{m:Option Nat}{o:(List Int)}(h:je m a0 a1=some o):ACalls Tryz.prog 16 [.ptr (0,0) 0 0] [((0,0),.one [i6 a0,.map (0,1)]),((0,1),.amap (a1.map (em z8 z8)))] 3 (kg 3 (.isl 1 (o.map y4) false) [((0,0),.one [i6 a0,.map (0,1)]),((0,1),.amap (a1.map (em z8 z8)))]):=Yw (L:=zi6) zn6 zn0 (NB rfl) (zca h)
def zin:LCode:=(.seq (.region [Qo 15 (.bin .lss (.t 14) (.t 13))])
 (.seq (.cond (.t 15)
  .skip
  (.exit 0))
 (.seq (.block 1
  (.seq (.region [Qm 16 14,
   Qo 17 (.iaddr 1 (.t 12) (.t 14)),
   Ql 18 1 17,
   Qm 5 16,
   Qm 6 18])
  (.seq (.region [Qm 19 6,
   Qm 20 1,
   Qm 21 5,
   Qo 22 (.iaddr 1 (.t 20) (.t 21)),
   Ql 23 1 22,
   Qo 24 (.bin .neq (.t 19) (.t 23))])
  (.cond (.t 24)
   (.seq (.region [Qb 4])
   .ret)
   .skip))))
 (.region [Qo 25 (.bin .add (.t 14) (.c (i6 1))),
  Qm 14 25]))))
def zey:LCode:=(.seq (.region [Qo 4 (.mv (.c (.bool true)))])
 .ret)
def zsi:LCode:=(.seq (.region [Qb 4])
 (.seq (.seq (.region [Qm 7 0,
  Qo 8 (.len false (.t 7)),
  Qm 9 1,
  Qo 10 (.len false (.t 9)),
  Qo 11 (.bin .neq (.t 8) (.t 10))])
 (.cond (.t 11)
  (.seq (.region [Qb 4])
  .ret)
  .skip))
 (.seq (.seq (.region [Qm 12 0,
  Qo 13 (.len false (.t 12)),
  Qi 14 0])
 (.block 0
  (.loop
   zin)))
 zey)))
def Wz:Lay:=⟨26,[],false⟩
def zo2:List LRes:=[.t 4]
def zzx:LFn:=⟨2,Wz,zsi,zo2⟩
theorem zuc:wb Tryz.prog [] 15=some zzx:=by kernel_rfl
theorem zx0:uk Tryz.prog 15:=⟨_,Tryz.func15,rfl,rfl⟩
def zqr(a0:List Int)(a1:List Int)(o:Bool):Exit→Env→AHeap→Nat→Prop:=Zz zo2 (jo (.bool o))
def z3l(a0:List Int)(a1:List Int)(s:Int):Env:=[(1,.isl 1 (a1.map y4) false),(12,.isl 1 (a0.map y4) false),(13,i6 ((a0.map y4).length:Int)),(14,i6 s)]
def z9h(a0:List Int)(a1:List Int)(s:Int):AHeap:=[]
def zev(a0:List Int)(a1:List Int)(o:Bool):Exit→Env→AHeap→Nat→Prop:=(xa 0 (Ya Tryz.prog Wz 0 zey (zqr a0 a1 o)))
noncomputable def w9(m:Option Nat):Option Bool:=
 some true
noncomputable def x4(m:Option Nat)(a0:List Int)(a1:List Int)(v1:Int):Option (Int ⊕ Bool):=
 if(decide (v1<((a0.map y4).length:Int)))=true then
  if(0:Int)≤v1∧v1<((a0.map y4).length:Int) then
  if(0:Int)≤v1∧v1<((a1.map y4).length:Int) then
  if((a0.getD v1.toNat default) != (a1.getD v1.toNat default))=true then
   Option.map Sum.inr (
    some false)
  else
   some (.inl (W (v1+1)))
  else none
  else none
 else
  Option.map Sum.inr (
   w9 m)
noncomputable def j4(m:Option Nat)(a0:List Int)(a1:List Int)(v1:Int):Option Bool:=Y1 m (fun(s:Int)=>x4 m a0 a1 s) v1
theorem znt{a0:List Int}{a1:List Int}{m:Option Nat}{o:Bool}(h:w9 m=some o) :
 LWp Tryz.prog Wz 0 zey (zqr a0 a1 o) [] [] 0:=by
 unfold w9 at h
 refine zc (zh ?_)
 refine wo ?_
 cases h
 exact AI TT (AI rfl (VS rfl))
theorem zg5{a0:List Int}{a1:List Int}{v1:Int}{m:Option Nat}{o:Int ⊕ Bool}(h:x4 m a0 a1 v1=some o) :
 LWp Tryz.prog Wz 0 zin (Z2 0 0 (z3l a0 a1) (z9h a0 a1) (zev a0 a1) o) [(1,.isl 1 (a1.map y4) false),(12,.isl 1 (a0.map y4) false),(13,i6 ((a0.map y4).length:Int)),(14,i6 v1)] [] 0:=by
 unfold x4 at h
 refine zc (zh ?_)
 refine zc ?_
 refine yp (v:=(decide (v1<((a0.map y4).length:Int)))) rfl TT (fun h10=>?_) (fun h10=>?_)
 ·have h:=zj h10 h
  refine xr ?_
  refine zc ?_
  refine jj ?_
  refine zc (zh ?_)
  obtain⟨h11,h⟩:=qv h
  refine AI h11 ?_
  refine EX (y4 (a0.getD v1.toNat default)) (AI (um y4 _ _ (u5 y4 h11)) (AI (AI (Ze h11) (NB rfl)) ?_))
  refine zc (zh ?_)
  obtain⟨h12,h⟩:=qv h
  refine AI h12 ?_
  refine EX (y4 (a1.getD v1.toNat default)) (AI (um y4 _ _ (u5 y4 h12)) (AI (AI (Ze h12) (NB rfl)) ?_))
  refine LWp.sim (e:=[(1,.isl 1 (a1.map y4) false),(12,.isl 1 (a0.map y4) false),(13,i6 ((a0.map y4).length:Int)),(14,i6 v1),(24,.bool ((a0.getD v1.toNat default) != (a1.getD v1.toNat default)))]) (L:=[]) (n:=0) ?_ ?_
  ·exact qq (M:=[]) rfl (S4 rfl rfl rfl rfl (AI (VS rfl) TT)) TT
  refine yp (v:=((a0.getD v1.toNat default) != (a1.getD v1.toNat default))) rfl TT (fun h13=>?_) (fun h13=>?_)
  ·have h:=zj h13 h
   refine zc (zh ?_)
   refine wo ?_
   obtain⟨o,hq,rfl⟩:=Option.map_eq_some_iff.1 h
   replace h:=hq;clear hq
   refine AI nofun ?_
   cases h
   exact AI TT (AI rfl (VS rfl))
  ·have h:=zo h13 h
   refine xr ?_
   refine zh ?_
   cases h
   exact AI rfl (qq (M:=[]) rfl (S4 rfl rfl rfl rfl TT) TT)
 ·have h:=zo h10 h
  refine Jr ?_
  obtain⟨o,hq,rfl⟩:=Option.map_eq_some_iff.1 h
  replace h:=hq;clear hq
  refine AI nofun ?_
  refine LWp.sim ?_ (znt h)
  exact qq (M:=[]) rfl TT TT
theorem zjd{a0:List Int}{a1:List Int}{v1:Int}{m:Option Nat}{o:Bool}(h:j4 m a0 a1 v1=some o) :
 LWp Tryz.prog Wz 0 (.loop zin) (xa 0 (Ya Tryz.prog Wz 0 zey (zqr a0 a1 o))) [(1,.isl 1 (a1.map y4) false),(12,.isl 1 (a0.map y4) false),(13,i6 ((a0.map y4).length:Int)),(14,i6 v1)] [] 0:=
 ww (m:=m) (s:=(v1:Int)) (r:=o) (fun(s:Int)=>x4 m a0 a1 s) (z3l a0 a1) (z9h a0 a1) (zev a0 a1) (fun s o h=>zg5 h) h
noncomputable def xw(m:Option Nat)(a0:List Int)(a1:List Int):Option Bool:=
 if(((a0.map y4).length:Int) != ((a1.map y4).length:Int))=true then
  some false
 else
  j4 m a0 a1 0
theorem zjc{a0:List Int}{a1:List Int}{m:Option Nat}{o:Bool}(h:xw m a0 a1=some o):LWp Tryz.prog Wz 0 zsi (zqr a0 a1 o) (ye 0 [.isl 1 (a0.map y4) false,.isl 1 (a1.map y4) false]) [] 0:=by
 unfold xw at h
 refine zc (zh ?_)
 refine zc ?_
 refine zc (zh ?_)
 refine yp (v:=(((a0.map y4).length:Int) != ((a1.map y4).length:Int))) rfl TT (fun h1=>?_) (fun h1=>?_)
 ·have h:=zj h1 h
  refine zc (zh ?_)
  refine wo ?_
  cases h
  exact AI TT (AI rfl (VS rfl))
 ·have h:=zo h1 h
  refine xr ?_
  refine zc ?_
  refine zc (zh ?_)
  refine LWp.sim (e:=[(1,.isl 1 (a1.map y4) false),(12,.isl 1 (a0.map y4) false),(13,i6 ((a0.map y4).length:Int)),(14,i6 0)]) (L:=[]) (n:=0) ?_ ?_
  ·exact qq (M:=[]) rfl (S4 rfl rfl rfl rfl TT) TT
  refine jj ?_
  refine LWp.sim ?_ (zjd h)
  exact qq (M:=[]) rfl (S4 rfl rfl rfl rfl TT) TT
theorem y0o{a0:List Int}{a1:List Int}{m:Option Nat}{o:Bool}(h:xw m a0 a1=some o):PFn Tryz.prog 15 [.isl 1 (a0.map y4) false,.isl 1 (a1.map y4) false] (.bool o):=PFn.ofFnW (L:=zzx) zuc zx0 (NB rfl) rfl (zjc h)
def y0i:LCode:=(.seq (.region [Qm 135 16,
 Qm 136 14,
 Qo 137 (.bin .neq (.t 135) (.t 136)),
 Qm 138 137,
 Qg 139 (.load true 9 (.t 15)) (138,false),
 Qg 140 (.load true 9 (.t 12)) (138,false),
 Qg 141 (.call 9 [(.t 139),(.t 140)]) (138,false),
 Qg 142 (.un .not (.t 141)) (138,false),
 Qo 143 (.pick (.t 138) (.c (.bool true)) (.t 142))])
 (.cond (.t 143)
  (.seq (.region [Qb 4])
  .ret)
  .skip))
def zzg:LCode:=(.seq (.region [Qm 118 5,
 Qf 119 3 11,
 Ql 120 1 119,
 Qf 121 4 11,
 Qt 122 5 121,
 Qo 123 (.call 8 [(.t 118),(.t 120),(.t 122)]),
 Qm 117 123,
 Qo 124 (.ext 0 (.t 117)),
 Qo 125 (.ext 1 (.t 117)),
 Qo 15 (.alloc [(i6 0),(i6 0),(i6 0),(.str []),(i6 0),(i6 0),(.str []),(.isl 1 [] true),(.isl 5 [] true)]),
 ⟨none,.store 9 (.t 15) (.t 124),none⟩,
 Qm 16 125])
 (.seq (.seq (.region [Qm 126 14,
  Qo 127 (.bin .neq (.t 126) (.c (i6 0)))])
 (.cond (.t 127)
  (.region [Qo 128 (.build [(i6 0),(i6 0),(i6 0),(.str []),(i6 0),(i6 0),(.str []),(.isl 1 [] true),(.isl 5 [] true)] []),
   ⟨none,.store 9 (.t 12) (.t 128),none⟩])
  (.seq (.region [Qm 129 7,
   Qm 130 6,
   Qo 131 (.mkSl true 1 [(i6 0)] 1 [(0,(.t 130))]),
   Qo 132 (.app true 1 8 (.t 129) (.t 131)),
   Qm 7 132])
  (.region [Qm 133 6,
   Qo 134 (.bin .add (.t 133) (.c (i6 1))),
   Qm 6 134]))))
 y0i))
def y17:LCode:=(.seq (.region [Qm 168 5,
 Qf 169 1 10,
 Ql 170 1 169,
 Qo 171 (.call 11 [(.t 168),(.t 170)]),
 Qm 167 171,
 Qo 172 (.ext 0 (.t 167)),
 Qo 173 (.ext 1 (.t 167)),
 Qo 19 (.alloc [(i6 0),(i6 0),(i6 0),(.str []),(i6 0),(i6 0),(.str []),(.isl 1 [] true),(.isl 5 [] true)]),
 ⟨none,.store 9 (.t 19) (.t 172),none⟩,
 Qm 20 173])
 (.seq (.region [Qm 174 20,
  Qm 175 18,
  Qo 176 (.bin .neq (.t 174) (.t 175)),
  Qm 177 176,
  Qg 178 (.load true 9 (.t 19)) (177,false),
  Qg 179 (.load true 9 (.t 17)) (177,false),
  Qg 180 (.call 9 [(.t 178),(.t 179)]) (177,false),
  Qg 181 (.un .not (.t 180)) (177,false),
  Qo 182 (.pick (.t 177) (.c (.bool true)) (.t 181))])
 (.cond (.t 182)
  (.seq (.region [Qb 4])
  .ret)
  .skip)))
def zy5:LCode:=(.seq (.seq (.region [Qm 81 5,
 Qt 82 9 11,
 Qo 83 (.call 13 [(.t 81),(.t 82)]),
 Qm 84 22,
 Qo 85 (.bin .neq (.t 83) (.t 84))])
 (.cond (.t 85)
  (.seq (.region [Qb 4])
  .ret)
  .skip))
 (.seq (.region [Qm 86 22,
  Qo 87 (.bin .eql (.t 86) (.c (i6 0)))])
 (.cond (.t 87)
  (.draw [⟨Qm 88 7,[]⟩,
   ⟨Qm 89 23,[]⟩,
   ⟨Qo 90 (.slSl 1 (.t 88) none (some (.t 89)) none),[]⟩,
   ⟨Qm 92 7,[]⟩,
   ⟨Qm 93 23,[]⟩,
   ⟨Qo 94 (.bin .add (.t 93) (.c (i6 1))),[]⟩,
   ⟨Qo 95 (.slSl 1 (.t 92) (some (.t 94)) none none),[]⟩,
   ⟨Qc 91 14 90,[]⟩,
   ⟨Qo 96 (.app true 1 8 (.t 91) (.t 95)),[]⟩,
   ⟨Qm 7 96,[]⟩])
  .skip)))
def zyp:LCode:=(.seq (.region [Qm 71 7,
 Qf 72 1 11,
 Ql 73 1 72,
 Qo 74 (.call 12 [(.t 71),(.t 73)]),
 Qm 23 74])
 (.seq (.seq (.region [Qm 75 22,
  Qo 76 (.bin .eql (.t 75) (.c (i6 0))),
  Qm 77 76,
  Qn 78 23 (77,true),
  Qg 79 (.bin .lss (.t 78) (.c (i6 0))) (77,true),
  Qp 80 77 79])
 (.cond (.t 80)
  (.region [Qi 22 5])
  .skip))
 zy5))
def zb6:LCode:=(.seq (.region [Qm 183 5,
 Qc 184 16 183,
 Qm 185 7,
 Qo 186 (.call 15 [(.t 184),(.t 185)]),
 Qo 187 (.un .not (.t 186))])
 (.cond (.t 187)
  (.seq (.region [Qb 4])
  .ret)
  .skip))
def y15:LCode:=(.seq (.seq (.region [Qf 51 0 10,
 Ql 52 1 51,
 Qo 53 (.call 6 [(.t 52),(.c (i6 3))])])
 (.block 2
  (.seq (.region [Qo 98 (.bin .eql (.t 53) (.c (i6 0))),
   Qm 97 98])
  (.cond (.t 97)
   (.seq (.region [Qm 99 6,
    Qf 100 3 11,
    Ql 101 1 100,
    Qf 102 4 11,
    Qt 103 5 102,
    Qo 104 (.build [(i6 0),(i6 0),(i6 0),(.str []),(i6 0),(i6 0),(.str []),(.isl 1 [] true),(.isl 5 [] true)] [(0,1,(.c (i6 1))),(1,1,(.t 99)),(3,1,(.t 101)),(4,5,(.t 103))]),
    Qo 12 (.alloc [(i6 0),(i6 0),(i6 0),(.str []),(i6 0),(i6 0),(.str []),(.isl 1 [] true),(.isl 5 [] true)]),
    ⟨none,.store 9 (.t 12) (.t 104),none⟩])
   (.seq (.region [Qt 106 9 12,
    Qc 107 7 106,
    Qm 105 107,
    Qo 108 (.ext 0 (.t 105)),
    Qo 109 (.ext 1 (.t 105)),
    Qo 13 (.alloc [(i6 0),(i6 0),(.str []),(.isl 1 [] true),(.isl 5 [] true)]),
    ⟨none,.store 5 (.t 13) (.t 108),none⟩,
    Qm 14 109])
   (.seq (.seq (.region [Qm 110 14,
    Qo 111 (.bin .eql (.t 110) (.c (i6 0))),
    Qm 112 111,
    Qn 113 7 (112,true),
    Qg 114 (.len false (.t 113)) (112,true),
    Qg 115 (.bin .geq (.t 114) (.c (i6 40))) (112,true),
    Qp 116 112 115])
   (.cond (.t 116)
    (.region [Qi 14 2])
    .skip))
   zzg)))
   (.seq (.region [Qo 145 (.bin .eql (.t 53) (.c (i6 1))),
    Qm 144 145])
   (.cond (.t 144)
    (.seq (.region [Qf 146 1 10,
     Ql 147 1 146,
     Qo 148 (.build [(i6 0),(i6 0),(i6 0),(.str []),(i6 0),(i6 0),(.str []),(.isl 1 [] true),(.isl 5 [] true)] [(0,1,(.c (i6 5))),(1,1,(.t 147))]),
     Qo 17 (.alloc [(i6 0),(i6 0),(i6 0),(.str []),(i6 0),(i6 0),(.str []),(.isl 1 [] true),(.isl 5 [] true)]),
     ⟨none,.store 9 (.t 17) (.t 148),none⟩,
     Qi 18 0])
    (.seq (.block 3
     (.seq (.region [Qm 155 7,
      Qf 156 1 10,
      Ql 157 1 156,
      Qo 158 (.call 10 [(.t 155),(.t 157)]),
      Qo 159 (.un .not (.t 158)),
      Qm 154 159])
     (.cond (.t 154)
      (.region [Qo 160 (.build [(i6 0),(i6 0),(i6 0),(.str []),(i6 0),(i6 0),(.str []),(.isl 1 [] true),(.isl 5 [] true)] []),
       ⟨none,.store 9 (.t 17) (.t 160),none⟩,
       Qi 18 5])
      (.seq (.region [Qm 162 8,
       Qf 163 1 10,
       Ql 164 1 163,
       Qo 165 (.call 10 [(.t 162),(.t 164)]),
       Qm 161 165])
      (.cond (.t 161)
       (.region [Qo 166 (.build [(i6 0),(i6 0),(i6 0),(.str []),(i6 0),(i6 0),(.str []),(.isl 1 [] true),(.isl 5 [] true)] []),
        ⟨none,.store 9 (.t 17) (.t 166),none⟩,
        Qi 18 6])
       (.region [Qm 149 8,
        Qf 150 1 10,
        Ql 151 1 150,
        Qo 152 (.mkSl true 1 [(i6 0)] 1 [(0,(.t 151))]),
        Qo 153 (.app true 1 8 (.t 149) (.t 152)),
        Qm 8 153]))))))
    y17))
    (.seq (.region [Qt 55 9 11,
     Qc 56 7 55,
     Qm 54 56,
     Qo 57 (.ext 0 (.t 54)),
     Qo 58 (.ext 1 (.t 54)),
     Qo 21 (.alloc [(i6 0),(i6 0),(.str []),(.isl 1 [] true),(.isl 5 [] true)]),
     ⟨none,.store 5 (.t 21) (.t 57),none⟩,
     Qm 22 58])
    (.seq (.seq (.region [Qm 59 22,
     Qo 60 (.bin .eql (.t 59) (.c (i6 0))),
     Qm 61 60,
     Qe 62 0 11 (61,true),
     Qk 63 1 62 (61,true),
     Qg 64 (.bin .neq (.t 63) (.c (i6 3))) (61,true),
     Qp 65 61 64,
     Qm 66 65,
     Qe 67 0 11 (66,true),
     Qk 68 1 67 (66,true),
     Qg 69 (.bin .neq (.t 68) (.c (i6 4))) (66,true),
     Qp 70 66 69])
    (.cond (.t 70)
     (.region [Qi 22 7])
     .skip))
    zyp))))))))
 zb6)
def za4:LCode:=(.region [Qo 188 (.bin .add (.t 35) (.c (i6 1))),
 Qm 35 188])
def zu6:LCode:=(.seq (.region [Qo 36 (.bin .lss (.t 35) (.t 34))])
 (.seq (.cond (.t 36)
  .skip
  (.exit 0))
 (.seq (.block 1
  (.seq (.region [Qo 37 (.iaddr 3 (.t 33) (.t 35)),
   Qt 38 3 37,
   Qo 10 (.alloc [(i6 0),(i6 0),(i6 0)]),
   ⟨none,.store 3 (.t 10) (.t 38),none⟩])
  (.seq (.region [Qo 39 (.build [(i6 0),(i6 0),(i6 0),(.str []),(i6 0),(i6 0),(.str []),(.isl 1 [] true),(.isl 5 [] true)] []),
   Qo 11 (.alloc [(i6 0),(i6 0),(i6 0),(.str []),(i6 0),(i6 0),(.str []),(.isl 1 [] true),(.isl 5 [] true)]),
   ⟨none,.store 9 (.t 11) (.t 39),none⟩])
  (.seq (.seq (.region [Qm 40 0,
   Qo 41 (.len false (.t 40)),
   Qo 42 (.bin .gtr (.t 41) (.c (i6 0)))])
  (.cond (.t 42)
   (.region [Qm 43 0,
    Qf 44 1 10,
    Ql 45 1 44,
    Qm 46 0,
    Qo 47 (.len false (.t 46)),
    Qo 48 (.call 6 [(.t 45),(.t 47)]),
    Qo 49 (.iaddr 9 (.t 43) (.t 48)),
    Qt 50 9 49,
    ⟨none,.store 9 (.t 11) (.t 50),none⟩])
   .skip))
  y15))))
 za4)))
def zr5:LCode:=(.seq (.region [Qo 189 (.call 4 []),
 Qm 4 189])
 .ret)
def zt3:LCode:=(.seq (.region [Qb 4])
 (.seq (.seq (.region [Qo 24 (.call 4 []),
  Qo 25 (.un .not (.t 24))])
 (.cond (.t 25)
  (.seq (.region [Qb 4])
  .ret)
  .skip))
 (.seq (.region [Qo 26 (.call 5 []),
  Qm 5 26])
 (.seq (.seq (.region [Qm 27 5,
  Qo 28 (.eq false .ptr (.t 27) (.c (.val (.pointer none))))])
 (.cond (.t 28)
  (.seq (.region [Qb 4])
  .ret)
  .skip))
 (.seq (.region [Qi 6 0])
 (.seq (.region [Qo 7 (.mv (.c (.val (.slice none 0 0)))),
  Qo 8 (.mv (.c (.val (.slice none 0 0))))])
 (.seq (.seq (.region [Qm 29 1,
  Qm 30 1,
  Qo 31 (.len false (.t 30)),
  Qo 32 (.mnx false [(.t 31),(.c (i6 30))]),
  Qo 33 (.slSl 3 (.t 29) none (some (.t 32)) none),
  Qo 34 (.len false (.t 33)),
  Qi 35 0])
 (.block 0
  (.loop
   zu6)))
 zr5)))))))
def kz:Lay:=⟨190,[],false⟩
def zt9:List LRes:=[.t 4]
def y38:LFn:=⟨2,kz,zt3,zt9⟩
theorem zy8:wb Tryz.prog [] 3=some y38:=by kernel_rfl
theorem zxy:uk Tryz.prog 3:=⟨_,Tryz.func3,rfl,rfl⟩
def y1i(a0:List GM)(a1:List G_Step)(o:Bool):Exit→Env→AHeap→Nat→Prop:=Zz zt9 (jo (.bool o))
def Z7(a0:List GM)(a1:List G_Step)(s:(Int×(List Int)×(List Int)×Int×Int×(List (Int×Int)))):Env:=[(0,.isl 9 (a0.map zw) false),(5,.ptr (0,0) 0 0),(6,i6 s.1),(7,.osl (1,0) 1 (s.2.1.map y4)),(8,.osl (2,0) 1 (s.2.2.1.map y4)),(33,.isl 3 ((a1.take (if 30<((a1.map z7).length:Int) then 30 else((a1.map z7).length:Int)).toNat).map z7) false),(34,i6 (((a1.take (if 30<((a1.map z7).length:Int) then 30 else((a1.map z7).length:Int)).toNat).map z7).length:Int)),(35,i6 s.2.2.2.1)]
def Y8(a0:List GM)(a1:List G_Step)(s:(Int×(List Int)×(List Int)×Int×Int×(List (Int×Int)))):AHeap:=[((0,0),.one [i6 s.2.2.2.2.1,.map (3,0)]),((1,0),.tok),((2,0),.tok),((3,0),.amap (s.2.2.2.2.2.map (em z8 z8)))]
def Xv(a0:List GM)(a1:List G_Step)(o:Bool):Exit→Env→AHeap→Nat→Prop:=(xa 0 (Ya Tryz.prog kz 0 zr5 (y1i a0 a1 o)))
noncomputable def zx(m:Option Nat)(a0:List GM)(a1:List G_Step)(v51:Int)(v139:Int)(v140:List Int)(v141:List Int)(v142:Int)(v143:List (Int×Int)):Option ((Int×(List Int)×(List Int)×Int×Int×(List (Int×Int))) ⊕ Bool):=
 (je m v142 v143).bind fun v144=>
 (xw m v144 v140).bind fun v145=>
 if(!v145)=true then
  Option.map Sum.inr (
   some false)
 else
  some (.inl (v139,v140,v141,(W (v51+1)),v142,v143))
noncomputable def yt(m:Option Nat)(a0:List GM)(a1:List G_Step)(v50:List Int)(v51:Int)(v112:Int)(v113:GM×Int×Int×(List (Int×Int)))(v114:Int)(v115:List Int)(v116:Int)(v117:Int)(v118:List UInt8)(v119:Int)(v120:Int)(v121:List UInt8)(v122:List (List UInt8))(v123:List (List AVal)):Option ((Int×(List Int)×(List Int)×Int×Int×(List (Int×Int))) ⊕ Bool):=
 (if((v113.2.1 != v112)==false)=true then zk m (GM.mk v113.1.fK v113.1.fI v113.1.fC v113.1.fM (GJ.mk v113.1.fB.fK v113.1.fB.fN v113.1.fB.fT v113.1.fB.fA v113.1.fB.fE)) (GM.mk v116 v117 0 v118 (GJ.mk v119 v120 v121 v122 v123)) else some default).bind fun v124=>
 if((v113.2.1 != v112) || (!v124))=true then
  Option.map Sum.inr (
   some false)
 else
  zx m a0 a1 v51 v114 v115 v50 v113.2.2.1 v113.2.2.2
theorem Vp{a0:List GM}{a1:List G_Step}{v51:Int}{v139:Int}{v140:List Int}{v141:List Int}{v142:Int}{v143:List (Int×Int)}{m:Option Nat}{o:((Int×(List Int)×(List Int)×Int×Int×(List (Int×Int))) ⊕ Bool)}(h:zx m a0 a1 v51 v139 v140 v141 v142 v143=some o) :
 LWp Tryz.prog kz 0 zb6 (xa 1 (Ya Tryz.prog kz 0 za4 (Z2 0 4 (Z7 a0 a1) (Y8 a0 a1) (Xv a0 a1) o))) [(0,.isl 9 (a0.map zw) false),(5,.ptr (0,0) 0 0),(6,i6 v139),(7,.osl (1,0) 1 (v140.map y4)),(8,.osl (2,0) 1 (v141.map y4)),(33,.isl 3 ((a1.take (if 30<((a1.map z7).length:Int) then 30 else((a1.map z7).length:Int)).toNat).map z7) false),(34,i6 (((a1.take (if 30<((a1.map z7).length:Int) then 30 else((a1.map z7).length:Int)).toNat).map z7).length:Int)),(35,i6 v51)] [((0,0),.one [i6 v142,.map (3,0)]),((1,0),.tok),((2,0),.tok),((3,0),.amap (v143.map (em z8 z8)))] 4:=by
 unfold zx at h
 refine zc (zh ?_)
 obtain⟨v144,h113,h⟩:=bind_some h
 refine Q1 (k:=3) (m:=0) (L':=[((0,0),.one [i6 v142,.map (3,0)]),((3,0),.amap (v143.map (em z8 z8)))]) (rest:=[((1,0),.tok),((2,0),.tok)]) (R':=.isl 1 (v144.map y4) false) [((0,0),(0,0)),((0,1),(3,0))] (zrr h113) rfl rfl rfl (SP rfl TT) (AI (h0I (0,0) rfl rfl (BVw.oneL (AI (VS rfl) (AI (Vw.map _ _ rfl) TT)))) (AI (h0I (3,0) rfl rfl (BVw.ofMap z8 z8 zb v143)) TT)) (wv _ rfl) (AI rfl (AI rfl (AI rfl (AI (Va z8 z8 zb zb _) TT)))) rfl ?_
 obtain⟨v145,h114,h⟩:=bind_some h
 refine PFn.call (y0o h114) (AI (VS rfl) (AI (Vw.oslI _ _ _) TT)) ?_
 refine yp (v:=(!v145)) rfl TT (fun h115=>?_) (fun h115=>?_)
 ·have h:=zj h115 h
  refine zc (zh ?_)
  refine wo ?_
  obtain⟨o,hq,rfl⟩:=Option.map_eq_some_iff.1 h
  replace h:=hq;clear hq
  refine AI nofun ?_
  cases h
  exact AI TT (AI rfl (VS rfl))
 ·have h:=zo h115 h
  refine xr ?_
  refine zh ?_
  cases h
  exact AI rfl (qq (M:=[((0,0),(0,0)),((1,0),(1,0)),((2,0),(2,0)),((3,0),(3,0))]) rfl (AI (VS rfl) (SP rfl (AI (VS rfl) (AI (Vw.osl _ _ _ _ rfl) (AI (Vw.osl _ _ _ _ rfl) (S2 rfl rfl (AI (VS rfl) TT))))))) (AI (AI rfl (BVw.oneL (AI (VS rfl) (AI (Vw.map _ _ rfl) TT)))) (AI (AI rfl BVw.tok) (AI (AI rfl BVw.tok) (AI (AI rfl (BVw.ofMap z8 z8 zb v143)) TT)))))
theorem z72{a0:List GM}{a1:List G_Step}{v50:List Int}{v51:Int}{v112:Int}{v113:GM×Int×Int×(List (Int×Int))}{v114:Int}{v115:List Int}{v116:Int}{v117:Int}{v118:List UInt8}{v119:Int}{v120:Int}{v121:List UInt8}{v122:List (List UInt8)}{v123:List (List AVal)}{m:Option Nat}{o:((Int×(List Int)×(List Int)×Int×Int×(List (Int×Int))) ⊕ Bool)}(h:yt m a0 a1 v50 v51 v112 v113 v114 v115 v116 v117 v118 v119 v120 v121 v122 v123=some o) :
 LWp Tryz.prog kz 0 y0i (xa 2 (Ya Tryz.prog kz 0 zb6 (xa 1 (Ya Tryz.prog kz 0 za4 (Z2 0 4 (Z7 a0 a1) (Y8 a0 a1) (Xv a0 a1) o))))) [(0,.isl 9 (a0.map zw) false),(5,.ptr (0,0) 0 0),(6,i6 v114),(7,.osl (1,0) 1 (v115.map y4)),(8,.osl (2,0) 1 (v50.map y4)),(12,.ptr (3,0) 0 0),(14,i6 v112),(15,.ptr (4,0) 0 0),(16,i6 v113.2.1),(33,.isl 3 ((a1.take (if 30<((a1.map z7).length:Int) then 30 else((a1.map z7).length:Int)).toNat).map z7) false),(34,i6 (((a1.take (if 30<((a1.map z7).length:Int) then 30 else((a1.map z7).length:Int)).toNat).map z7).length:Int)),(35,i6 v51)] [((0,0),.one [i6 v113.2.2.1,.map (5,0)]),((1,0),.tok),((2,0),.tok),((3,0),.one [i6 v116,i6 v117,i6 0,.str v118,i6 v119,i6 v120,.str v121,.isl 1 (v122.map za) false,.isl 5 (v123.map ze) false]),((4,0),.one [i6 v113.1.fK,i6 v113.1.fI,i6 v113.1.fC,.str v113.1.fM,i6 v113.1.fB.fK,i6 v113.1.fB.fN,.str v113.1.fB.fT,.isl 1 (v113.1.fB.fA.map za) false,.isl 5 (v113.1.fB.fE.map ze) false]),((5,0),.amap (v113.2.2.2.map (em z8 z8)))] 6:=by
 unfold yt at h
 refine zc (zh ?_)
 obtain⟨v124,h91,h⟩:=bind_some h
 refine Or.inl (EX (.bool v124) (AI (fun hp=>AI (AI hp hp) (PFn.call (zzs (zj hp h91)) (S2 rfl rfl TT) (AI rfl (AI rfl rfl)))) ?_))
 refine AI (fun hp=>hp) ?_
 refine AI (fun hc=>(bqf hc)) ?_
 refine LWp.sim (e:=[(0,.isl 9 (a0.map zw) false),(5,.ptr (0,0) 0 0),(6,i6 v114),(7,.osl (1,0) 1 (v115.map y4)),(8,.osl (2,0) 1 (v50.map y4)),(33,.isl 3 ((a1.take (if 30<((a1.map z7).length:Int) then 30 else((a1.map z7).length:Int)).toNat).map z7) false),(34,i6 (((a1.take (if 30<((a1.map z7).length:Int) then 30 else((a1.map z7).length:Int)).toNat).map z7).length:Int)),(35,i6 v51),(143,.bool ((v113.2.1 != v112) || (!v124)))]) (L:=[((0,0),.one [i6 v113.2.2.1,.map (3,0)]),((1,0),.tok),((2,0),.tok),((3,0),.amap (v113.2.2.2.map (em z8 z8)))]) (n:=4) ?_ ?_
 ·exact qq (M:=[((0,0),(0,0)),((1,0),(1,0)),((2,0),(2,0)),((3,0),(5,0))]) rfl (AI (VS rfl) (SP rfl (AI (VS rfl) (AI (Vw.osl _ _ _ _ rfl) (AI (Vw.osl _ _ _ _ rfl) (S4 rfl rfl rfl rfl TT)))))) (AI (AI rfl (BVw.oneL (AI (VS rfl) (AI (Vw.map _ _ rfl) TT)))) (AI (AI rfl BVw.tok) (AI (AI rfl BVw.tok) (AI (AI rfl (BVw.ofMap z8 z8 zb v113.2.2.2)) TT))))
 refine yp (v:=((v113.2.1 != v112) || (!v124))) rfl TT (fun h92=>?_) (fun h92=>?_)
 ·have h:=zj h92 h
  refine zc (zh ?_)
  refine wo ?_
  obtain⟨o,hq,rfl⟩:=Option.map_eq_some_iff.1 h
  replace h:=hq;clear hq
  refine AI nofun ?_
  cases h
  exact AI TT (AI rfl (VS rfl))
 ·have h:=zo h92 h
  refine xr ?_
  refine LWp.sim ?_ (Vp h)
  exact qq (M:=[((0,0),(0,0)),((1,0),(1,0)),((2,0),(2,0)),((3,0),(3,0))]) rfl (AI (VS rfl) (SP rfl (AI (VS rfl) (AI (Vw.osl _ _ _ _ rfl) (AI (Vw.osl _ _ _ _ rfl) (S2 rfl rfl (AI (VS rfl) TT))))))) (AI (AI rfl (BVw.oneL (AI (VS rfl) (AI (Vw.map _ _ rfl) TT)))) (AI (AI rfl BVw.tok) (AI (AI rfl BVw.tok) (AI (AI rfl (BVw.ofMap z8 z8 zb v113.2.2.2)) TT))))
noncomputable def yr(m:Option Nat)(a0:List GM)(a1:List G_Step)(v48:Int)(v49:List Int)(v50:List Int)(v51:Int)(v52:Int)(v53:List (Int×Int))(v101:Int)(v102:Int)(v103:Int)(v104:List UInt8)(v105:Int)(v106:Int)(v107:List UInt8)(v108:List (List UInt8))(v109:List (List AVal))(v112:Int):Option ((Int×(List Int)×(List Int)×Int×Int×(List (Int×Int))) ⊕ Bool):=
 (w6 m v104 (GJ.mk v105 v106 v107 v108 v109) v52 v53).bind fun v113=>
 if(v112 != 0)=true then
  yt m a0 a1 v50 v51 v112 v113 v48 v49 0 0 ([]:List UInt8) 0 0 ([]:List UInt8) ([]:List (List UInt8)) ([]:List (List AVal))
 else
  if((v49++([v48]:List Int)).map y4).length*8≤140737488355328 then
  yt m a0 a1 v50 v51 v112 v113 (W (v48+1)) (v49++([v48]:List Int)) 1 v48 v104 v105 v106 v107 v108 v109
  else none
theorem z83{a0:List GM}{a1:List G_Step}{v48:Int}{v49:List Int}{v50:List Int}{v51:Int}{v52:Int}{v53:List (Int×Int)}{v101:Int}{v102:Int}{v103:Int}{v104:List UInt8}{v105:Int}{v106:Int}{v107:List UInt8}{v108:List (List UInt8)}{v109:List (List AVal)}{v112:Int}{m:Option Nat}{o:((Int×(List Int)×(List Int)×Int×Int×(List (Int×Int))) ⊕ Bool)}(h:yr m a0 a1 v48 v49 v50 v51 v52 v53 v101 v102 v103 v104 v105 v106 v107 v108 v109 v112=some o) :
 LWp Tryz.prog kz 0 zzg (xa 2 (Ya Tryz.prog kz 0 zb6 (xa 1 (Ya Tryz.prog kz 0 za4 (Z2 0 4 (Z7 a0 a1) (Y8 a0 a1) (Xv a0 a1) o))))) [(0,.isl 9 (a0.map zw) false),(5,.ptr (0,0) 0 0),(6,i6 v48),(7,.osl (1,0) 1 (v49.map y4)),(8,.osl (2,0) 1 (v50.map y4)),(11,.ptr (3,0) 0 0),(12,.ptr (4,0) 0 0),(14,i6 v112),(33,.isl 3 ((a1.take (if 30<((a1.map z7).length:Int) then 30 else((a1.map z7).length:Int)).toNat).map z7) false),(34,i6 (((a1.take (if 30<((a1.map z7).length:Int) then 30 else((a1.map z7).length:Int)).toNat).map z7).length:Int)),(35,i6 v51)] [((0,0),.one [i6 v52,.map (5,0)]),((1,0),.tok),((2,0),.tok),((3,0),.one [i6 v101,i6 v102,i6 v103,.str v104,i6 v105,i6 v106,.str v107,.isl 1 (v108.map za) false,.isl 5 (v109.map ze) false]),((4,0),.one [i6 1,i6 v48,i6 0,.str v104,i6 v105,i6 v106,.str v107,.isl 1 (v108.map za) false,.isl 5 (v109.map ze) false]),((5,0),.amap (v53.map (em z8 z8)))] 6:=by
 unfold yr at h
 refine zc (zh ?_)
 obtain⟨v113,h88,h⟩:=bind_some h
 refine Q1 (k:=3) (m:=0) (L':=[((0,0),.one [i6 v113.2.2.1,.map (5,0)]),((5,0),.amap (v113.2.2.2.map (em z8 z8)))]) (rest:=[((1,0),.tok),((2,0),.tok),((3,0),.one [i6 v101,i6 v102,i6 v103,.str v104,i6 v105,i6 v106,.str v107,.isl 1 (v108.map za) false,.isl 5 (v109.map ze) false]),((4,0),.one [i6 1,i6 v48,i6 0,.str v104,i6 v105,i6 v106,.str v107,.isl 1 (v108.map za) false,.isl 5 (v109.map ze) false])]) (R':=.tup [.agg [i6 v113.1.fK,i6 v113.1.fI,i6 v113.1.fC,.str v113.1.fM,i6 v113.1.fB.fK,i6 v113.1.fB.fN,.str v113.1.fB.fT,.isl 1 (v113.1.fB.fA.map za) false,.isl 5 (v113.1.fB.fE.map ze) false],i6 v113.2.1]) [((0,0),(0,0)),((0,1),(5,0))] (zv7 h88) rfl rfl rfl (SP rfl (S2 rfl rfl TT)) (AI (h0I (0,0) rfl rfl (BVw.oneL (AI (VS rfl) (AI (Vw.map _ _ rfl) TT)))) (AI (h0I (5,0) rfl rfl (BVw.ofMap z8 z8 zb v53)) TT)) (wv _ rfl) (AI rfl (AI rfl (AI rfl (AI (Va z8 z8 zb zb _) TT)))) rfl ?_
 refine LWp.sim (e:=[(0,.isl 9 (a0.map zw) false),(5,.ptr (0,0) 0 0),(6,i6 v48),(7,.osl (1,0) 1 (v49.map y4)),(8,.osl (2,0) 1 (v50.map y4)),(12,.ptr (3,0) 0 0),(14,i6 v112),(15,.ptr (4,0) 0 0),(16,i6 v113.2.1),(33,.isl 3 ((a1.take (if 30<((a1.map z7).length:Int) then 30 else((a1.map z7).length:Int)).toNat).map z7) false),(34,i6 (((a1.take (if 30<((a1.map z7).length:Int) then 30 else((a1.map z7).length:Int)).toNat).map z7).length:Int)),(35,i6 v51)]) (L:=[((0,0),.one [i6 v113.2.2.1,.map (5,0)]),((1,0),.tok),((2,0),.tok),((3,0),.one [i6 1,i6 v48,i6 0,.str v104,i6 v105,i6 v106,.str v107,.isl 1 (v108.map za) false,.isl 5 (v109.map ze) false]),((4,0),.one [i6 v113.1.fK,i6 v113.1.fI,i6 v113.1.fC,.str v113.1.fM,i6 v113.1.fB.fK,i6 v113.1.fB.fN,.str v113.1.fB.fT,.isl 1 (v113.1.fB.fA.map za) false,.isl 5 (v113.1.fB.fE.map ze) false]),((5,0),.amap (v113.2.2.2.map (em z8 z8)))]) (n:=6) ?_ ?_
 ·exact qq (M:=[((0,0),(0,0)),((1,0),(1,0)),((2,0),(2,0)),((3,0),(4,0)),((4,0),(7,0)),((5,0),(5,0))]) rfl (AI (VS rfl) (SP rfl (AI (VS rfl) (AI (Vw.osl _ _ _ _ rfl) (AI (Vw.osl _ _ _ _ rfl) (SP rfl (AI (VS rfl) (SP rfl (S4 rfl rfl rfl rfl TT))))))))) (AI (AI rfl (BVw.oneL (AI (VS rfl) (AI (Vw.map _ _ rfl) TT)))) (AI (AI rfl BVw.tok) (AI (AI rfl BVw.tok) (AI (AI rfl (OL rfl)) (AI (AI rfl (OL rfl)) (AI (AI rfl (BVw.ofMap z8 z8 zb v113.2.2.2)) TT))))))
 refine zc ?_
 refine zc (zh ?_)
 refine yp (v:=(v112 != 0)) rfl TT (fun h89=>?_) (fun h89=>?_)
 ·have h:=zj h89 h
  refine zh ?_
  refine LWp.sim ?_ (z72 h)
  exact qq (M:=[((0,0),(0,0)),((1,0),(1,0)),((2,0),(2,0)),((3,0),(3,0)),((4,0),(4,0)),((5,0),(5,0))]) rfl (AI (VS rfl) (SP rfl (AI (VS rfl) (AI (Vw.osl _ _ _ _ rfl) (AI (Vw.osl _ _ _ _ rfl) (SP rfl (AI (VS rfl) (SP rfl (S4 rfl rfl rfl rfl TT))))))))) (AI (AI rfl (BVw.oneL (AI (VS rfl) (AI (Vw.map _ _ rfl) TT)))) (AI (AI rfl BVw.tok) (AI (AI rfl BVw.tok) (AI (AI rfl (BVw.oneL (S4 rfl rfl rfl rfl (S2 rfl rfl (AI (VS rfl) (AI (Vw.islF _ _ _) (AI (Vw.islF _ _ _) TT))))))) (AI (AI rfl (OL rfl)) (AI (AI rfl (BVw.ofMap z8 z8 zb v113.2.2.2)) TT))))))
 ·have h:=zo h89 h
  refine zc (zh ?_)
  obtain⟨h90,h⟩:=qv h
  refine EX ((v49++([v48]:List Int)).map y4) (AI (Ww y4 v49 ([v48]:List Int)) (AI h90 ?_))
  refine zh ?_
  refine LWp.sim ?_ (z72 h)
  exact qq (M:=[((0,0),(0,0)),((1,0),(6,0)),((2,0),(2,0)),((3,0),(3,0)),((4,0),(4,0)),((5,0),(5,0))]) rfl (AI (VS rfl) (SP rfl (AI (VS rfl) (AI (Vw.osl _ _ _ _ rfl) (AI (Vw.osl _ _ _ _ rfl) (SP rfl (AI (VS rfl) (SP rfl (S4 rfl rfl rfl rfl TT))))))))) (AI (AI rfl (BVw.oneL (AI (VS rfl) (AI (Vw.map _ _ rfl) TT)))) (AI (AI rfl BVw.tok) (AI (AI rfl BVw.tok) (AI (AI rfl (OL rfl)) (AI (AI rfl (OL rfl)) (AI (AI rfl (BVw.ofMap z8 z8 zb v113.2.2.2)) TT))))))
noncomputable def zl(m:Option Nat)(a0:List GM)(a1:List G_Step)(v48:Int)(v49:List Int)(v51:Int)(v52:Int)(v53:List (Int×Int))(v127:Int)(v128:List Int)(v129:Int)(v130:Int):Option ((Int×(List Int)×(List Int)×Int×Int×(List (Int×Int))) ⊕ Bool):=
 (xn m (((a1.take (if 30<((a1.map z7).length:Int) then 30 else((a1.map z7).length:Int)).toNat).getD v51.toNat default).f_A) v52 v53).bind fun v131=>
 (if((v131.2.1 != v127)==false)=true then zk m (GM.mk v131.1.fK v131.1.fI v131.1.fC v131.1.fM (GJ.mk v131.1.fB.fK v131.1.fB.fN v131.1.fB.fT v131.1.fB.fA v131.1.fB.fE)) (GM.mk v129 v130 0 ([]:List UInt8) (GJ.mk 0 0 [] [] [])) else some default).bind fun v132=>
 if((v131.2.1 != v127) || (!v132))=true then
  Option.map Sum.inr (
   some false)
 else
  zx m a0 a1 v51 v48 v49 v128 v52 v131.2.2
theorem z1c{a0:List GM}{a1:List G_Step}{v48:Int}{v49:List Int}{v51:Int}{v52:Int}{v53:List (Int×Int)}{v127:Int}{v128:List Int}{v129:Int}{v130:Int}{m:Option Nat}{o:((Int×(List Int)×(List Int)×Int×Int×(List (Int×Int))) ⊕ Bool)}(h:zl m a0 a1 v48 v49 v51 v52 v53 v127 v128 v129 v130=some o) :
 LWp Tryz.prog kz 0 y17 (xa 2 (Ya Tryz.prog kz 0 zb6 (xa 1 (Ya Tryz.prog kz 0 za4 (Z2 0 4 (Z7 a0 a1) (Y8 a0 a1) (Xv a0 a1) o))))) [(0,.isl 9 (a0.map zw) false),(5,.ptr (0,0) 0 0),(6,i6 v48),(7,.osl (1,0) 1 (v49.map y4)),(8,.osl (2,0) 1 (v128.map y4)),(10,.ptr (3,0) 0 0),(17,.ptr (4,0) 0 0),(18,i6 v127),(33,.isl 3 ((a1.take (if 30<((a1.map z7).length:Int) then 30 else((a1.map z7).length:Int)).toNat).map z7) false),(34,i6 (((a1.take (if 30<((a1.map z7).length:Int) then 30 else((a1.map z7).length:Int)).toNat).map z7).length:Int)),(35,i6 v51)] [((0,0),.one [i6 v52,.map (5,0)]),((1,0),.tok),((2,0),.tok),((3,0),.one [i6 (((a1.take (if 30<((a1.map z7).length:Int) then 30 else((a1.map z7).length:Int)).toNat).getD v51.toNat default).f_Do),i6 (((a1.take (if 30<((a1.map z7).length:Int) then 30 else((a1.map z7).length:Int)).toNat).getD v51.toNat default).f_A),i6 (((a1.take (if 30<((a1.map z7).length:Int) then 30 else((a1.map z7).length:Int)).toNat).getD v51.toNat default).f_B)]),((4,0),.one [i6 v129,i6 v130,i6 0,.str [],i6 0,i6 0,.str [],.isl 1 (([]:List (List UInt8)).map za) true,.isl 5 (([]:List (List AVal)).map ze) true]),((5,0),.amap (v53.map (em z8 z8)))] 6:=by
 unfold zl at h
 refine zc (zh ?_)
 obtain⟨v131,h99,h⟩:=bind_some h
 refine Q1 (k:=3) (m:=0) (L':=[((0,0),.one [i6 v52,.map (5,0)]),((5,0),.amap (v131.2.2.map (em z8 z8)))]) (rest:=[((1,0),.tok),((2,0),.tok),((3,0),.one [i6 (((a1.take (if 30<((a1.map z7).length:Int) then 30 else((a1.map z7).length:Int)).toNat).getD v51.toNat default).f_Do),i6 (((a1.take (if 30<((a1.map z7).length:Int) then 30 else((a1.map z7).length:Int)).toNat).getD v51.toNat default).f_A),i6 (((a1.take (if 30<((a1.map z7).length:Int) then 30 else((a1.map z7).length:Int)).toNat).getD v51.toNat default).f_B)]),((4,0),.one [i6 v129,i6 v130,i6 0,.str [],i6 0,i6 0,.str [],.isl 1 (([]:List (List UInt8)).map za) true,.isl 5 (([]:List (List AVal)).map ze) true])]) (R':=.tup [.agg [i6 v131.1.fK,i6 v131.1.fI,i6 v131.1.fC,.str v131.1.fM,i6 v131.1.fB.fK,i6 v131.1.fB.fN,.str v131.1.fB.fT,.isl 1 (v131.1.fB.fA.map za) false,.isl 5 (v131.1.fB.fE.map ze) false],i6 v131.2.1]) [((0,0),(0,0)),((0,1),(5,0))] (zr3 h99) rfl rfl rfl (SP rfl (AI (VS rfl) TT)) (AI (h0I (0,0) rfl rfl (BVw.oneL (AI (VS rfl) (AI (Vw.map _ _ rfl) TT)))) (AI (h0I (5,0) rfl rfl (BVw.ofMap z8 z8 zb v53)) TT)) (wv _ rfl) (AI rfl (AI rfl (AI rfl (AI (Va z8 z8 zb zb _) TT)))) rfl ?_
 refine LWp.sim (e:=[(0,.isl 9 (a0.map zw) false),(5,.ptr (0,0) 0 0),(6,i6 v48),(7,.osl (1,0) 1 (v49.map y4)),(8,.osl (2,0) 1 (v128.map y4)),(17,.ptr (3,0) 0 0),(18,i6 v127),(19,.ptr (4,0) 0 0),(20,i6 v131.2.1),(33,.isl 3 ((a1.take (if 30<((a1.map z7).length:Int) then 30 else((a1.map z7).length:Int)).toNat).map z7) false),(34,i6 (((a1.take (if 30<((a1.map z7).length:Int) then 30 else((a1.map z7).length:Int)).toNat).map z7).length:Int)),(35,i6 v51)]) (L:=[((0,0),.one [i6 v52,.map (5,0)]),((1,0),.tok),((2,0),.tok),((3,0),.one [i6 v129,i6 v130,i6 0,.str [],i6 0,i6 0,.str [],.isl 1 (([]:List (List UInt8)).map za) true,.isl 5 (([]:List (List AVal)).map ze) true]),((4,0),.one [i6 v131.1.fK,i6 v131.1.fI,i6 v131.1.fC,.str v131.1.fM,i6 v131.1.fB.fK,i6 v131.1.fB.fN,.str v131.1.fB.fT,.isl 1 (v131.1.fB.fA.map za) false,.isl 5 (v131.1.fB.fE.map ze) false]),((5,0),.amap (v131.2.2.map (em z8 z8)))]) (n:=6) ?_ ?_
 ·exact qq (M:=[((0,0),(0,0)),((1,0),(1,0)),((2,0),(2,0)),((3,0),(4,0)),((4,0),(7,0)),((5,0),(5,0))]) rfl (AI (VS rfl) (SP rfl (AI (VS rfl) (AI (Vw.osl _ _ _ _ rfl) (AI (Vw.osl _ _ _ _ rfl) (SP rfl (AI (VS rfl) (SP rfl (S4 rfl rfl rfl rfl TT))))))))) (AI (AI rfl (BVw.oneL (AI (VS rfl) (AI (Vw.map _ _ rfl) TT)))) (AI (AI rfl BVw.tok) (AI (AI rfl BVw.tok) (AI (AI rfl (OL rfl)) (AI (AI rfl (OL rfl)) (AI (AI rfl (BVw.ofMap z8 z8 zb v131.2.2)) TT))))))
 refine zc (zh ?_)
 obtain⟨v132,h100,h⟩:=bind_some h
 refine Or.inl (EX (.bool v132) (AI (fun hp=>AI (AI hp hp) (PFn.call (zzs (zj hp h100)) (AI (VS rfl) (AI (Vw.aggL (S4 rfl rfl rfl rfl (S2 rfl rfl (AI (VS rfl) (AI (Vw.islF _ _ _) (AI (Vw.islF _ _ _) TT)))))) TT)) (AI rfl (AI rfl rfl)))) ?_))
 refine AI (fun hp=>hp) ?_
 refine AI (fun hc=>(bqf hc)) ?_
 refine LWp.sim (e:=[(0,.isl 9 (a0.map zw) false),(5,.ptr (0,0) 0 0),(6,i6 v48),(7,.osl (1,0) 1 (v49.map y4)),(8,.osl (2,0) 1 (v128.map y4)),(33,.isl 3 ((a1.take (if 30<((a1.map z7).length:Int) then 30 else((a1.map z7).length:Int)).toNat).map z7) false),(34,i6 (((a1.take (if 30<((a1.map z7).length:Int) then 30 else((a1.map z7).length:Int)).toNat).map z7).length:Int)),(35,i6 v51),(182,.bool ((v131.2.1 != v127) || (!v132)))]) (L:=[((0,0),.one [i6 v52,.map (3,0)]),((1,0),.tok),((2,0),.tok),((3,0),.amap (v131.2.2.map (em z8 z8)))]) (n:=4) ?_ ?_
 ·exact qq (M:=[((0,0),(0,0)),((1,0),(1,0)),((2,0),(2,0)),((3,0),(5,0))]) rfl (AI (VS rfl) (SP rfl (AI (VS rfl) (AI (Vw.osl _ _ _ _ rfl) (AI (Vw.osl _ _ _ _ rfl) (S4 rfl rfl rfl rfl TT)))))) (AI (AI rfl (BVw.oneL (AI (VS rfl) (AI (Vw.map _ _ rfl) TT)))) (AI (AI rfl BVw.tok) (AI (AI rfl BVw.tok) (AI (AI rfl (BVw.ofMap z8 z8 zb v131.2.2)) TT))))
 refine yp (v:=((v131.2.1 != v127) || (!v132))) rfl TT (fun h101=>?_) (fun h101=>?_)
 ·have h:=zj h101 h
  refine zc (zh ?_)
  refine wo ?_
  obtain⟨o,hq,rfl⟩:=Option.map_eq_some_iff.1 h
  replace h:=hq;clear hq
  refine AI nofun ?_
  cases h
  exact AI TT (AI rfl (VS rfl))
 ·have h:=zo h101 h
  refine xr ?_
  refine LWp.sim ?_ (Vp h)
  exact qq (M:=[((0,0),(0,0)),((1,0),(1,0)),((2,0),(2,0)),((3,0),(3,0))]) rfl (AI (VS rfl) (SP rfl (AI (VS rfl) (AI (Vw.osl _ _ _ _ rfl) (AI (Vw.osl _ _ _ _ rfl) (S2 rfl rfl (AI (VS rfl) TT))))))) (AI (AI rfl (BVw.oneL (AI (VS rfl) (AI (Vw.map _ _ rfl) TT)))) (AI (AI rfl BVw.tok) (AI (AI rfl BVw.tok) (AI (AI rfl (BVw.ofMap z8 z8 zb v131.2.2)) TT))))
noncomputable def yb(m:Option Nat)(a0:List GM)(a1:List G_Step)(v48:Int)(v49:List Int)(v50:List Int)(v51:Int)(v52:Int)(v53:List (Int×Int))(v101:Int)(v102:Int)(v103:Int)(v104:List UInt8)(v105:Int)(v106:Int)(v107:List UInt8)(v108:List (List UInt8))(v109:List (List AVal))(v135:Int)(v136:Int):Option ((Int×(List Int)×(List Int)×Int×Int×(List (Int×Int))) ⊕ Bool):=
 (xg m (GM.mk v101 v102 v103 v104 (GJ.mk v105 v106 v107 v108 v109)) v52 v53).bind fun v137=>
 if(v137.1 != v136)=true then
  Option.map Sum.inr (
   some false)
 else
  if(v136==0)=true then
   if(0:Int)≤v135∧v135≤((v49.map y4).length:Int) then
   if(0:Int)≤(W (v135+1))∧(W (v135+1))≤((v49.map y4).length:Int) then
   (jy m (v49.take v135.toNat)).bind fun v138=>
   if(((v49.take v135.toNat)++(v49.drop (W (v135+1)).toNat)).map y4).length*8≤140737488355328 then
   zx m a0 a1 v51 v48 ((v49.take v135.toNat)++(v49.drop (W (v135+1)).toNat)) v50 v52 v137.2
   else none
   else none
   else none
  else
   zx m a0 a1 v51 v48 v49 v50 v52 v137.2
theorem z8s{a0:List GM}{a1:List G_Step}{v48:Int}{v49:List Int}{v50:List Int}{v51:Int}{v52:Int}{v53:List (Int×Int)}{v101:Int}{v102:Int}{v103:Int}{v104:List UInt8}{v105:Int}{v106:Int}{v107:List UInt8}{v108:List (List UInt8)}{v109:List (List AVal)}{v135:Int}{v136:Int}{m:Option Nat}{o:((Int×(List Int)×(List Int)×Int×Int×(List (Int×Int))) ⊕ Bool)}(h:yb m a0 a1 v48 v49 v50 v51 v52 v53 v101 v102 v103 v104 v105 v106 v107 v108 v109 v135 v136=some o) :
 LWp Tryz.prog kz 0 zy5 (xa 2 (Ya Tryz.prog kz 0 zb6 (xa 1 (Ya Tryz.prog kz 0 za4 (Z2 0 4 (Z7 a0 a1) (Y8 a0 a1) (Xv a0 a1) o))))) [(0,.isl 9 (a0.map zw) false),(5,.ptr (0,0) 0 0),(6,i6 v48),(7,.osl (1,0) 1 (v49.map y4)),(8,.osl (2,0) 1 (v50.map y4)),(11,.ptr (3,0) 0 0),(22,i6 v136),(23,i6 v135),(33,.isl 3 ((a1.take (if 30<((a1.map z7).length:Int) then 30 else((a1.map z7).length:Int)).toNat).map z7) false),(34,i6 (((a1.take (if 30<((a1.map z7).length:Int) then 30 else((a1.map z7).length:Int)).toNat).map z7).length:Int)),(35,i6 v51)] [((0,0),.one [i6 v52,.map (4,0)]),((1,0),.tok),((2,0),.tok),((3,0),.one [i6 v101,i6 v102,i6 v103,.str v104,i6 v105,i6 v106,.str v107,.isl 1 (v108.map za) false,.isl 5 (v109.map ze) false]),((4,0),.amap (v53.map (em z8 z8)))] 5:=by
 unfold yb at h
 refine zc ?_
 refine zc (zh ?_)
 obtain⟨v137,h106,h⟩:=bind_some h
 refine Q1 (k:=3) (m:=0) (L':=[((0,0),.one [i6 v52,.map (4,0)]),((4,0),.amap (v137.2.map (em z8 z8)))]) (rest:=[((1,0),.tok),((2,0),.tok),((3,0),.one [i6 v101,i6 v102,i6 v103,.str v104,i6 v105,i6 v106,.str v107,.isl 1 (v108.map za) false,.isl 5 (v109.map ze) false])]) (R':=i6 v137.1) [((0,0),(0,0)),((0,1),(4,0))] (zpl h106) rfl rfl rfl (SP rfl (AI (VS rfl) TT)) (AI (h0I (0,0) rfl rfl (BVw.oneL (AI (VS rfl) (AI (Vw.map _ _ rfl) TT)))) (AI (h0I (4,0) rfl rfl (BVw.ofMap z8 z8 zb v53)) TT)) (wv _ rfl) (AI rfl (AI rfl (AI rfl (AI (Va z8 z8 zb zb _) TT)))) rfl ?_
 refine yp (v:=(v137.1 != v136)) rfl TT (fun h107=>?_) (fun h107=>?_)
 ·have h:=zj h107 h
  refine zc (zh ?_)
  refine wo ?_
  obtain⟨o,hq,rfl⟩:=Option.map_eq_some_iff.1 h
  replace h:=hq;clear hq
  refine AI nofun ?_
  cases h
  exact AI TT (AI rfl (VS rfl))
 ·have h:=zo h107 h
  refine xr ?_
  refine zc (zh ?_)
  refine yp (v:=(v136==0)) rfl TT (fun h108=>?_) (fun h108=>?_)
  ·have h:=zj h108 h
   refine zrw rfl ?_
   obtain⟨h109,h⟩:=qv h
   refine EX (.isl 1 ((v49.take v135.toNat).map y4) false) (AI (zwx y4 (slB y4 v49 _) rfl) (AI (AI rfl (AI (Int.le_refl _) h109)) ?_))
   obtain⟨h110,h⟩:=qv h
   refine EX (.osl (1,0) 1 ((v49.drop (W (v135+1)).toNat).map y4)) (AI (zvt y4 _ _ _ _) (AI (AI rfl h110) ?_))
   obtain⟨v138,h111,h⟩:=bind_some h
   refine Q1 (k:=3) (m:=1) (L':=[((6,0),.tok)]) (rest:=[((0,0),.one [i6 v52,.map (4,0)]),((4,0),.amap (v137.2.map (em z8 z8))),((1,0),.tok),((2,0),.tok),((3,0),.one [i6 v101,i6 v102,i6 v103,.str v104,i6 v105,i6 v106,.str v107,.isl 1 (v108.map za) false,.isl 5 (v109.map ze) false])]) (R':=.osl (6,0) 1 ((v49.take v135.toNat).map y4)) [] (zqm h111) rfl rfl rfl (AI (VS rfl) TT) TT rfl (AI rfl (AI rfl TT)) rfl ?_
   obtain⟨h112,h⟩:=qv h
   refine EX (((v49.take v135.toNat)++(v49.drop (W (v135+1)).toNat)).map y4) (AI (Ww y4 (v49.take v135.toNat) (v49.drop (W (v135+1)).toNat)) (AI h112 ?_))
   refine LWp.sim ?_ (Vp h)
   exact qq (M:=[((0,0),(0,0)),((1,0),(8,0)),((2,0),(2,0)),((3,0),(4,0))]) rfl (AI (VS rfl) (SP rfl (AI (VS rfl) (AI (Vw.osl _ _ _ _ rfl) (AI (Vw.osl _ _ _ _ rfl) (S2 rfl rfl (AI (VS rfl) TT))))))) (AI (AI rfl (BVw.oneL (AI (VS rfl) (AI (Vw.map _ _ rfl) TT)))) (AI (AI rfl BVw.tok) (AI (AI rfl BVw.tok) (AI (AI rfl (BVw.ofMap z8 z8 zb v137.2)) TT))))
  ·have h:=zo h108 h
   refine xr ?_
   refine LWp.sim ?_ (Vp h)
   exact qq (M:=[((0,0),(0,0)),((1,0),(1,0)),((2,0),(2,0)),((3,0),(4,0))]) rfl (AI (VS rfl) (SP rfl (AI (VS rfl) (AI (Vw.osl _ _ _ _ rfl) (AI (Vw.osl _ _ _ _ rfl) (S2 rfl rfl (AI (VS rfl) TT))))))) (AI (AI rfl (BVw.oneL (AI (VS rfl) (AI (Vw.map _ _ rfl) TT)))) (AI (AI rfl BVw.tok) (AI (AI rfl BVw.tok) (AI (AI rfl (BVw.ofMap z8 z8 zb v137.2)) TT))))
noncomputable def zy(m:Option Nat)(a0:List GM)(a1:List G_Step)(v48:Int)(v49:List Int)(v50:List Int)(v51:Int)(v52:Int)(v53:List (Int×Int))(v101:Int)(v102:Int)(v103:Int)(v104:List UInt8)(v105:Int)(v106:Int)(v107:List UInt8)(v108:List (List UInt8))(v109:List (List AVal))(v134:Int):Option ((Int×(List Int)×(List Int)×Int×Int×(List (Int×Int))) ⊕ Bool):=
 (x3 m v49 v102).bind fun v135=>
 if((v134==0)&&(decide (v135<0)))=true then
  yb m a0 a1 v48 v49 v50 v51 v52 v53 v101 v102 v103 v104 v105 v106 v107 v108 v109 v135 5
 else
  yb m a0 a1 v48 v49 v50 v51 v52 v53 v101 v102 v103 v104 v105 v106 v107 v108 v109 v135 v134
theorem zaf{a0:List GM}{a1:List G_Step}{v48:Int}{v49:List Int}{v50:List Int}{v51:Int}{v52:Int}{v53:List (Int×Int)}{v101:Int}{v102:Int}{v103:Int}{v104:List UInt8}{v105:Int}{v106:Int}{v107:List UInt8}{v108:List (List UInt8)}{v109:List (List AVal)}{v134:Int}{m:Option Nat}{o:((Int×(List Int)×(List Int)×Int×Int×(List (Int×Int))) ⊕ Bool)}(h:zy m a0 a1 v48 v49 v50 v51 v52 v53 v101 v102 v103 v104 v105 v106 v107 v108 v109 v134=some o) :
 LWp Tryz.prog kz 0 zyp (xa 2 (Ya Tryz.prog kz 0 zb6 (xa 1 (Ya Tryz.prog kz 0 za4 (Z2 0 4 (Z7 a0 a1) (Y8 a0 a1) (Xv a0 a1) o))))) [(0,.isl 9 (a0.map zw) false),(5,.ptr (0,0) 0 0),(6,i6 v48),(7,.osl (1,0) 1 (v49.map y4)),(8,.osl (2,0) 1 (v50.map y4)),(11,.ptr (3,0) 0 0),(22,i6 v134),(33,.isl 3 ((a1.take (if 30<((a1.map z7).length:Int) then 30 else((a1.map z7).length:Int)).toNat).map z7) false),(34,i6 (((a1.take (if 30<((a1.map z7).length:Int) then 30 else((a1.map z7).length:Int)).toNat).map z7).length:Int)),(35,i6 v51)] [((0,0),.one [i6 v52,.map (4,0)]),((1,0),.tok),((2,0),.tok),((3,0),.one [i6 v101,i6 v102,i6 v103,.str v104,i6 v105,i6 v106,.str v107,.isl 1 (v108.map za) false,.isl 5 (v109.map ze) false]),((4,0),.amap (v53.map (em z8 z8)))] 5:=by
 unfold zy at h
 refine zc (zh ?_)
 obtain⟨v135,h104,h⟩:=bind_some h
 refine PFn.call (zty h104) (AI (Vw.oslI _ _ _) (AI (VS rfl) TT)) ?_
 refine zc ?_
 refine zc (zh ?_)
 refine AI (fun hp=>hp) ?_
 refine AI (fun hc=>(bqt hc)) ?_
 refine LWp.sim (e:=[(0,.isl 9 (a0.map zw) false),(5,.ptr (0,0) 0 0),(6,i6 v48),(7,.osl (1,0) 1 (v49.map y4)),(8,.osl (2,0) 1 (v50.map y4)),(11,.ptr (3,0) 0 0),(22,i6 v134),(23,i6 v135),(33,.isl 3 ((a1.take (if 30<((a1.map z7).length:Int) then 30 else((a1.map z7).length:Int)).toNat).map z7) false),(34,i6 (((a1.take (if 30<((a1.map z7).length:Int) then 30 else((a1.map z7).length:Int)).toNat).map z7).length:Int)),(35,i6 v51),(80,.bool ((v134==0)&&(decide (v135<0))))]) (L:=[((0,0),.one [i6 v52,.map (4,0)]),((1,0),.tok),((2,0),.tok),((3,0),.one [i6 v101,i6 v102,i6 v103,.str v104,i6 v105,i6 v106,.str v107,.isl 1 (v108.map za) false,.isl 5 (v109.map ze) false]),((4,0),.amap (v53.map (em z8 z8)))]) (n:=5) ?_ ?_
 ·exact qq (M:=[((0,0),(0,0)),((1,0),(1,0)),((2,0),(2,0)),((3,0),(3,0)),((4,0),(4,0))]) rfl (AI (VS rfl) (SP rfl (AI (VS rfl) (AI (Vw.osl _ _ _ _ rfl) (AI (Vw.osl _ _ _ _ rfl) (SP rfl (S4 rfl rfl rfl rfl (S2 rfl rfl TT)))))))) (AI (AI rfl (BVw.oneL (AI (VS rfl) (AI (Vw.map _ _ rfl) TT)))) (AI (AI rfl BVw.tok) (AI (AI rfl BVw.tok) (AI (AI rfl (OL rfl)) (AI (AI rfl (BVw.ofMap z8 z8 zb v53)) TT)))))
 refine yp (v:=((v134==0)&&(decide (v135<0)))) rfl TT (fun h105=>?_) (fun h105=>?_)
 ·have h:=zj h105 h
  refine zh ?_
  refine LWp.sim ?_ (z8s h)
  exact qq (M:=[((0,0),(0,0)),((1,0),(1,0)),((2,0),(2,0)),((3,0),(3,0)),((4,0),(4,0))]) rfl (AI (VS rfl) (SP rfl (AI (VS rfl) (AI (Vw.osl _ _ _ _ rfl) (AI (Vw.osl _ _ _ _ rfl) (SP rfl (S4 rfl rfl rfl rfl (AI (VS rfl) TT)))))))) (AI (AI rfl (BVw.oneL (AI (VS rfl) (AI (Vw.map _ _ rfl) TT)))) (AI (AI rfl BVw.tok) (AI (AI rfl BVw.tok) (AI (AI rfl (OL rfl)) (AI (AI rfl (BVw.ofMap z8 z8 zb v53)) TT)))))
 ·have h:=zo h105 h
  refine xr ?_
  refine LWp.sim ?_ (z8s h)
  exact qq (M:=[((0,0),(0,0)),((1,0),(1,0)),((2,0),(2,0)),((3,0),(3,0)),((4,0),(4,0))]) rfl (AI (VS rfl) (SP rfl (AI (VS rfl) (AI (Vw.osl _ _ _ _ rfl) (AI (Vw.osl _ _ _ _ rfl) (SP rfl (S4 rfl rfl rfl rfl (AI (VS rfl) TT)))))))) (AI (AI rfl (BVw.oneL (AI (VS rfl) (AI (Vw.map _ _ rfl) TT)))) (AI (AI rfl BVw.tok) (AI (AI rfl BVw.tok) (AI (AI rfl (OL rfl)) (AI (AI rfl (BVw.ofMap z8 z8 zb v53)) TT)))))
noncomputable def yu(m:Option Nat)(a0:List GM)(a1:List G_Step)(v48:Int)(v49:List Int)(v50:List Int)(v51:Int)(v52:Int)(v53:List (Int×Int))(v101:Int)(v102:Int)(v103:Int)(v104:List UInt8)(v105:Int)(v106:Int)(v107:List UInt8)(v108:List (List UInt8))(v109:List (List AVal)):Option ((Int×(List Int)×(List Int)×Int×Int×(List (Int×Int))) ⊕ Bool):=
 (xm m (((a1.take (if 30<((a1.map z7).length:Int) then 30 else((a1.map z7).length:Int)).toNat).getD v51.toNat default).f_Do) 3).bind fun v110=>
 if(v110==0)=true then
  (yv m (GM.mk 1 v48 0 v104 (GJ.mk v105 v106 v107 v108 v109))).bind fun v111=>
  if((v111.2==0)&&(decide (((v49.map y4).length:Int)≥40)))=true then
   yr m a0 a1 v48 v49 v50 v51 v52 v53 v101 v102 v103 v104 v105 v106 v107 v108 v109 2
  else
   yr m a0 a1 v48 v49 v50 v51 v52 v53 v101 v102 v103 v104 v105 v106 v107 v108 v109 v111.2
 else
  if(v110==1)=true then
   (y6 m v49 (((a1.take (if 30<((a1.map z7).length:Int) then 30 else((a1.map z7).length:Int)).toNat).getD v51.toNat default).f_A)).bind fun v125=>
   if(!v125)=true then
    zl m a0 a1 v48 v49 v51 v52 v53 5 v50 0 0
   else
    (y6 m v50 (((a1.take (if 30<((a1.map z7).length:Int) then 30 else((a1.map z7).length:Int)).toNat).getD v51.toNat default).f_A)).bind fun v126=>
    if v126=true then
     zl m a0 a1 v48 v49 v51 v52 v53 6 v50 0 0
    else
     if((v50++([((a1.take (if 30<((a1.map z7).length:Int) then 30 else((a1.map z7).length:Int)).toNat).getD v51.toNat default).f_A]:List Int)).map y4).length*8≤140737488355328 then
     zl m a0 a1 v48 v49 v51 v52 v53 0 (v50++([((a1.take (if 30<((a1.map z7).length:Int) then 30 else((a1.map z7).length:Int)).toNat).getD v51.toNat default).f_A]:List Int)) 5 (((a1.take (if 30<((a1.map z7).length:Int) then 30 else((a1.map z7).length:Int)).toNat).getD v51.toNat default).f_A)
     else none
  else
   (yv m (GM.mk v101 v102 v103 v104 (GJ.mk v105 v106 v107 v108 v109))).bind fun v133=>
   if(((v133.2==0)&&(v101 != 3))&&(v101 != 4))=true then
    zy m a0 a1 v48 v49 v50 v51 v52 v53 v101 v102 v103 v104 v105 v106 v107 v108 v109 7
   else
    zy m a0 a1 v48 v49 v50 v51 v52 v53 v101 v102 v103 v104 v105 v106 v107 v108 v109 v133.2
set_option maxHeartbeats 4000000 in
theorem z9f{a0:List GM}{a1:List G_Step}{v48:Int}{v49:List Int}{v50:List Int}{v51:Int}{v52:Int}{v53:List (Int×Int)}{v101:Int}{v102:Int}{v103:Int}{v104:List UInt8}{v105:Int}{v106:Int}{v107:List UInt8}{v108:List (List UInt8)}{v109:List (List AVal)}{m:Option Nat}{o:((Int×(List Int)×(List Int)×Int×Int×(List (Int×Int))) ⊕ Bool)}(h:yu m a0 a1 v48 v49 v50 v51 v52 v53 v101 v102 v103 v104 v105 v106 v107 v108 v109=some o) :
 LWp Tryz.prog kz 0 y15 (xa 1 (Ya Tryz.prog kz 0 za4 (Z2 0 4 (Z7 a0 a1) (Y8 a0 a1) (Xv a0 a1) o))) [(0,.isl 9 (a0.map zw) false),(5,.ptr (0,0) 0 0),(6,i6 v48),(7,.osl (1,0) 1 (v49.map y4)),(8,.osl (2,0) 1 (v50.map y4)),(10,.ptr (3,0) 0 0),(11,.ptr (4,0) 0 0),(33,.isl 3 ((a1.take (if 30<((a1.map z7).length:Int) then 30 else((a1.map z7).length:Int)).toNat).map z7) false),(34,i6 (((a1.take (if 30<((a1.map z7).length:Int) then 30 else((a1.map z7).length:Int)).toNat).map z7).length:Int)),(35,i6 v51)] [((0,0),.one [i6 v52,.map (5,0)]),((1,0),.tok),((2,0),.tok),((3,0),.one [i6 (((a1.take (if 30<((a1.map z7).length:Int) then 30 else((a1.map z7).length:Int)).toNat).getD v51.toNat default).f_Do),i6 (((a1.take (if 30<((a1.map z7).length:Int) then 30 else((a1.map z7).length:Int)).toNat).getD v51.toNat default).f_A),i6 (((a1.take (if 30<((a1.map z7).length:Int) then 30 else((a1.map z7).length:Int)).toNat).getD v51.toNat default).f_B)]),((4,0),.one [i6 v101,i6 v102,i6 v103,.str v104,i6 v105,i6 v106,.str v107,.isl 1 (v108.map za) false,.isl 5 (v109.map ze) false]),((5,0),.amap (v53.map (em z8 z8)))] 6:=by
 unfold yu at h
 refine zc ?_
 refine zc (zh ?_)
 obtain⟨v110,h84,h⟩:=bind_some h
 refine PFn.call (zy3 h84) (S2 rfl rfl TT) ?_
 refine jj ?_
 refine zc (zh ?_)
 refine yp (v:=(v110==0)) rfl TT (fun h85=>?_) (fun h85=>?_)
 ·have h:=zj h85 h
  refine zc (zh ?_)
  refine LWp.sim (e:=[(0,.isl 9 (a0.map zw) false),(5,.ptr (0,0) 0 0),(6,i6 v48),(7,.osl (1,0) 1 (v49.map y4)),(8,.osl (2,0) 1 (v50.map y4)),(11,.ptr (3,0) 0 0),(12,.ptr (4,0) 0 0),(33,.isl 3 ((a1.take (if 30<((a1.map z7).length:Int) then 30 else((a1.map z7).length:Int)).toNat).map z7) false),(34,i6 (((a1.take (if 30<((a1.map z7).length:Int) then 30 else((a1.map z7).length:Int)).toNat).map z7).length:Int)),(35,i6 v51)]) (L:=[((0,0),.one [i6 v52,.map (5,0)]),((1,0),.tok),((2,0),.tok),((3,0),.one [i6 v101,i6 v102,i6 v103,.str v104,i6 v105,i6 v106,.str v107,.isl 1 (v108.map za) false,.isl 5 (v109.map ze) false]),((4,0),.one [i6 1,i6 v48,i6 0,.str v104,i6 v105,i6 v106,.str v107,.isl 1 (v108.map za) false,.isl 5 (v109.map ze) false]),((5,0),.amap (v53.map (em z8 z8)))]) (n:=6) ?_ ?_
  ·exact qq (M:=[((0,0),(0,0)),((1,0),(1,0)),((2,0),(2,0)),((3,0),(4,0)),((4,0),(6,0)),((5,0),(5,0))]) rfl (AI (VS rfl) (SP rfl (AI (VS rfl) (AI (Vw.osl _ _ _ _ rfl) (AI (Vw.osl _ _ _ _ rfl) (SP rfl (SP rfl (S2 rfl rfl (AI (VS rfl) TT))))))))) (AI (AI rfl (BVw.oneL (AI (VS rfl) (AI (Vw.map _ _ rfl) TT)))) (AI (AI rfl BVw.tok) (AI (AI rfl BVw.tok) (AI (AI rfl (OL rfl)) (AI (AI rfl (OL rfl)) (AI (AI rfl (BVw.ofMap z8 z8 zb v53)) TT))))))
  refine zc (zh ?_)
  obtain⟨v111,h86,h⟩:=bind_some h
  refine PFn.call (zz5 h86) (AI (VS rfl) TT) ?_
  refine LWp.sim (e:=[(0,.isl 9 (a0.map zw) false),(5,.ptr (0,0) 0 0),(6,i6 v48),(7,.osl (1,0) 1 (v49.map y4)),(8,.osl (2,0) 1 (v50.map y4)),(11,.ptr (3,0) 0 0),(12,.ptr (4,0) 0 0),(14,i6 v111.2),(33,.isl 3 ((a1.take (if 30<((a1.map z7).length:Int) then 30 else((a1.map z7).length:Int)).toNat).map z7) false),(34,i6 (((a1.take (if 30<((a1.map z7).length:Int) then 30 else((a1.map z7).length:Int)).toNat).map z7).length:Int)),(35,i6 v51)]) (L:=[((0,0),.one [i6 v52,.map (5,0)]),((1,0),.tok),((2,0),.tok),((3,0),.one [i6 v101,i6 v102,i6 v103,.str v104,i6 v105,i6 v106,.str v107,.isl 1 (v108.map za) false,.isl 5 (v109.map ze) false]),((4,0),.one [i6 1,i6 v48,i6 0,.str v104,i6 v105,i6 v106,.str v107,.isl 1 (v108.map za) false,.isl 5 (v109.map ze) false]),((5,0),.amap (v53.map (em z8 z8)))]) (n:=6) ?_ ?_
  ·exact qq (M:=[((0,0),(0,0)),((1,0),(1,0)),((2,0),(2,0)),((3,0),(3,0)),((4,0),(4,0)),((5,0),(5,0))]) rfl (AI (VS rfl) (SP rfl (AI (VS rfl) (AI (Vw.osl _ _ _ _ rfl) (AI (Vw.osl _ _ _ _ rfl) (SP rfl (SP rfl (S4 rfl rfl rfl rfl TT)))))))) (AI (AI rfl (BVw.oneL (AI (VS rfl) (AI (Vw.map _ _ rfl) TT)))) (AI (AI rfl BVw.tok) (AI (AI rfl BVw.tok) (AI (AI rfl (OL rfl)) (AI (AI rfl (OL rfl)) (AI (AI rfl (BVw.ofMap z8 z8 zb v53)) TT))))))
  refine zc ?_
  refine zc (zh ?_)
  refine AI (fun hp=>hp) ?_
  refine AI (fun hp=>hp) ?_
  refine AI (fun hc=>(bqt hc)) ?_
  refine yp (v:=((v111.2==0)&&(decide (((v49.map y4).length:Int)≥40)))) rfl TT (fun h87=>?_) (fun h87=>?_)
  ·have h:=zj h87 h
   refine zh ?_
   refine LWp.sim ?_ (z83 h)
   exact qq (M:=[((0,0),(0,0)),((1,0),(1,0)),((2,0),(2,0)),((3,0),(3,0)),((4,0),(4,0)),((5,0),(5,0))]) rfl (AI (VS rfl) (SP rfl (AI (VS rfl) (AI (Vw.osl _ _ _ _ rfl) (AI (Vw.osl _ _ _ _ rfl) (SP rfl (SP rfl (S4 rfl rfl rfl rfl TT)))))))) (AI (AI rfl (BVw.oneL (AI (VS rfl) (AI (Vw.map _ _ rfl) TT)))) (AI (AI rfl BVw.tok) (AI (AI rfl BVw.tok) (AI (AI rfl (OL rfl)) (AI (AI rfl (OL rfl)) (AI (AI rfl (BVw.ofMap z8 z8 zb v53)) TT))))))
  ·have h:=zo h87 h
   refine xr ?_
   refine LWp.sim ?_ (z83 h)
   exact qq (M:=[((0,0),(0,0)),((1,0),(1,0)),((2,0),(2,0)),((3,0),(3,0)),((4,0),(4,0)),((5,0),(5,0))]) rfl (AI (VS rfl) (SP rfl (AI (VS rfl) (AI (Vw.osl _ _ _ _ rfl) (AI (Vw.osl _ _ _ _ rfl) (SP rfl (SP rfl (S4 rfl rfl rfl rfl TT)))))))) (AI (AI rfl (BVw.oneL (AI (VS rfl) (AI (Vw.map _ _ rfl) TT)))) (AI (AI rfl BVw.tok) (AI (AI rfl BVw.tok) (AI (AI rfl (OL rfl)) (AI (AI rfl (OL rfl)) (AI (AI rfl (BVw.ofMap z8 z8 zb v53)) TT))))))
 ·have h:=zo h85 h
  refine zc (zh ?_)
  refine yp (v:=(v110==1)) rfl TT (fun h93=>?_) (fun h93=>?_)
  ·have h:=zj h93 h
   refine zc (zh ?_)
   refine LWp.sim (e:=[(0,.isl 9 (a0.map zw) false),(5,.ptr (0,0) 0 0),(6,i6 v48),(7,.osl (1,0) 1 (v49.map y4)),(8,.osl (2,0) 1 (v50.map y4)),(10,.ptr (3,0) 0 0),(17,.ptr (4,0) 0 0),(18,i6 0),(33,.isl 3 ((a1.take (if 30<((a1.map z7).length:Int) then 30 else((a1.map z7).length:Int)).toNat).map z7) false),(34,i6 (((a1.take (if 30<((a1.map z7).length:Int) then 30 else((a1.map z7).length:Int)).toNat).map z7).length:Int)),(35,i6 v51)]) (L:=[((0,0),.one [i6 v52,.map (5,0)]),((1,0),.tok),((2,0),.tok),((3,0),.one [i6 (((a1.take (if 30<((a1.map z7).length:Int) then 30 else((a1.map z7).length:Int)).toNat).getD v51.toNat default).f_Do),i6 (((a1.take (if 30<((a1.map z7).length:Int) then 30 else((a1.map z7).length:Int)).toNat).getD v51.toNat default).f_A),i6 (((a1.take (if 30<((a1.map z7).length:Int) then 30 else((a1.map z7).length:Int)).toNat).getD v51.toNat default).f_B)]),((4,0),.one [i6 5,i6 (((a1.take (if 30<((a1.map z7).length:Int) then 30 else((a1.map z7).length:Int)).toNat).getD v51.toNat default).f_A),i6 0,.str [],i6 0,i6 0,.str [],.isl 1 (([]:List (List UInt8)).map za) true,.isl 5 (([]:List (List AVal)).map ze) true]),((5,0),.amap (v53.map (em z8 z8)))]) (n:=6) ?_ ?_
   ·exact qq (M:=[((0,0),(0,0)),((1,0),(1,0)),((2,0),(2,0)),((3,0),(3,0)),((4,0),(6,0)),((5,0),(5,0))]) rfl (AI (VS rfl) (SP rfl (AI (VS rfl) (AI (Vw.osl _ _ _ _ rfl) (AI (Vw.osl _ _ _ _ rfl) (SP rfl (SP rfl (S4 rfl rfl rfl rfl TT)))))))) (AI (AI rfl (BVw.oneL (AI (VS rfl) (AI (Vw.map _ _ rfl) TT)))) (AI (AI rfl BVw.tok) (AI (AI rfl BVw.tok) (AI (AI rfl (OL rfl)) (AI (AI rfl (OL rfl)) (AI (AI rfl (BVw.ofMap z8 z8 zb v53)) TT))))))
   refine zc ?_
   refine jj ?_
   refine zc (zh ?_)
   obtain⟨v125,h94,h⟩:=bind_some h
   refine PFn.call (zs9 h94) (AI (Vw.oslI _ _ _) (AI (VS rfl) TT)) ?_
   refine yp (v:=(!v125)) rfl TT (fun h95=>?_) (fun h95=>?_)
   ·have h:=zj h95 h
    refine zh ?_
    refine LWp.sim ?_ (z1c h)
    exact qq (M:=[((0,0),(0,0)),((1,0),(1,0)),((2,0),(2,0)),((3,0),(3,0)),((4,0),(4,0)),((5,0),(5,0))]) rfl (AI (VS rfl) (SP rfl (AI (VS rfl) (AI (Vw.osl _ _ _ _ rfl) (AI (Vw.osl _ _ _ _ rfl) (SP rfl (SP rfl (S4 rfl rfl rfl rfl TT)))))))) (AI (AI rfl (BVw.oneL (AI (VS rfl) (AI (Vw.map _ _ rfl) TT)))) (AI (AI rfl BVw.tok) (AI (AI rfl BVw.tok) (AI (AI rfl (OL rfl)) (AI (AI rfl (OL rfl)) (AI (AI rfl (BVw.ofMap z8 z8 zb v53)) TT))))))
   ·have h:=zo h95 h
    refine zc (zh ?_)
    obtain⟨v126,h96,h⟩:=bind_some h
    refine PFn.call (zs9 h96) (AI (Vw.oslI _ _ _) (AI (VS rfl) TT)) ?_
    refine LWp.sim (e:=[(0,.isl 9 (a0.map zw) false),(5,.ptr (0,0) 0 0),(6,i6 v48),(7,.osl (1,0) 1 (v49.map y4)),(8,.osl (2,0) 1 (v50.map y4)),(10,.ptr (3,0) 0 0),(17,.ptr (4,0) 0 0),(18,i6 0),(33,.isl 3 ((a1.take (if 30<((a1.map z7).length:Int) then 30 else((a1.map z7).length:Int)).toNat).map z7) false),(34,i6 (((a1.take (if 30<((a1.map z7).length:Int) then 30 else((a1.map z7).length:Int)).toNat).map z7).length:Int)),(35,i6 v51),(161,.bool v126)]) (L:=[((0,0),.one [i6 v52,.map (5,0)]),((1,0),.tok),((2,0),.tok),((3,0),.one [i6 (((a1.take (if 30<((a1.map z7).length:Int) then 30 else((a1.map z7).length:Int)).toNat).getD v51.toNat default).f_Do),i6 (((a1.take (if 30<((a1.map z7).length:Int) then 30 else((a1.map z7).length:Int)).toNat).getD v51.toNat default).f_A),i6 (((a1.take (if 30<((a1.map z7).length:Int) then 30 else((a1.map z7).length:Int)).toNat).getD v51.toNat default).f_B)]),((4,0),.one [i6 5,i6 (((a1.take (if 30<((a1.map z7).length:Int) then 30 else((a1.map z7).length:Int)).toNat).getD v51.toNat default).f_A),i6 0,.str [],i6 0,i6 0,.str [],.isl 1 (([]:List (List UInt8)).map za) true,.isl 5 (([]:List (List AVal)).map ze) true]),((5,0),.amap (v53.map (em z8 z8)))]) (n:=6) ?_ ?_
    ·exact qq (M:=[((0,0),(0,0)),((1,0),(1,0)),((2,0),(2,0)),((3,0),(3,0)),((4,0),(4,0)),((5,0),(5,0))]) rfl (AI (VS rfl) (SP rfl (AI (VS rfl) (AI (Vw.osl _ _ _ _ rfl) (AI (Vw.osl _ _ _ _ rfl) (SP rfl (SP rfl (S4 rfl rfl rfl rfl (AI (VS rfl) TT))))))))) (AI (AI rfl (BVw.oneL (AI (VS rfl) (AI (Vw.map _ _ rfl) TT)))) (AI (AI rfl BVw.tok) (AI (AI rfl BVw.tok) (AI (AI rfl (OL rfl)) (AI (AI rfl (OL rfl)) (AI (AI rfl (BVw.ofMap z8 z8 zb v53)) TT))))))
    refine yp (v:=v126) rfl TT (fun h97=>?_) (fun h97=>?_)
    ·have h:=zj h97 h
     refine zh ?_
     refine LWp.sim ?_ (z1c h)
     exact qq (M:=[((0,0),(0,0)),((1,0),(1,0)),((2,0),(2,0)),((3,0),(3,0)),((4,0),(4,0)),((5,0),(5,0))]) rfl (AI (VS rfl) (SP rfl (AI (VS rfl) (AI (Vw.osl _ _ _ _ rfl) (AI (Vw.osl _ _ _ _ rfl) (SP rfl (SP rfl (S4 rfl rfl rfl rfl TT)))))))) (AI (AI rfl (BVw.oneL (AI (VS rfl) (AI (Vw.map _ _ rfl) TT)))) (AI (AI rfl BVw.tok) (AI (AI rfl BVw.tok) (AI (AI rfl (OL rfl)) (AI (AI rfl (OL rfl)) (AI (AI rfl (BVw.ofMap z8 z8 zb v53)) TT))))))
    ·have h:=zo h97 h
     refine zh ?_
     obtain⟨h98,h⟩:=qv h
     refine EX ((v50++([((a1.take (if 30<((a1.map z7).length:Int) then 30 else((a1.map z7).length:Int)).toNat).getD v51.toNat default).f_A]:List Int)).map y4) (AI (Ww y4 v50 ([((a1.take (if 30<((a1.map z7).length:Int) then 30 else((a1.map z7).length:Int)).toNat).getD v51.toNat default).f_A]:List Int)) (AI h98 ?_))
     refine LWp.sim ?_ (z1c h)
     exact qq (M:=[((0,0),(0,0)),((1,0),(1,0)),((2,0),(6,0)),((3,0),(3,0)),((4,0),(4,0)),((5,0),(5,0))]) rfl (AI (VS rfl) (SP rfl (AI (VS rfl) (AI (Vw.osl _ _ _ _ rfl) (AI (Vw.osl _ _ _ _ rfl) (SP rfl (SP rfl (S4 rfl rfl rfl rfl TT)))))))) (AI (AI rfl (BVw.oneL (AI (VS rfl) (AI (Vw.map _ _ rfl) TT)))) (AI (AI rfl BVw.tok) (AI (AI rfl BVw.tok) (AI (AI rfl (OL rfl)) (AI (AI rfl (OL rfl)) (AI (AI rfl (BVw.ofMap z8 z8 zb v53)) TT))))))
  ·have h:=zo h93 h
   refine zc (zh ?_)
   obtain⟨v133,h102,h⟩:=bind_some h
   refine PFn.call (zz5 h102) (AI (VS rfl) TT) ?_
   refine LWp.sim (e:=[(0,.isl 9 (a0.map zw) false),(5,.ptr (0,0) 0 0),(6,i6 v48),(7,.osl (1,0) 1 (v49.map y4)),(8,.osl (2,0) 1 (v50.map y4)),(11,.ptr (3,0) 0 0),(22,i6 v133.2),(33,.isl 3 ((a1.take (if 30<((a1.map z7).length:Int) then 30 else((a1.map z7).length:Int)).toNat).map z7) false),(34,i6 (((a1.take (if 30<((a1.map z7).length:Int) then 30 else((a1.map z7).length:Int)).toNat).map z7).length:Int)),(35,i6 v51)]) (L:=[((0,0),.one [i6 v52,.map (4,0)]),((1,0),.tok),((2,0),.tok),((3,0),.one [i6 v101,i6 v102,i6 v103,.str v104,i6 v105,i6 v106,.str v107,.isl 1 (v108.map za) false,.isl 5 (v109.map ze) false]),((4,0),.amap (v53.map (em z8 z8)))]) (n:=5) ?_ ?_
   ·exact qq (M:=[((0,0),(0,0)),((1,0),(1,0)),((2,0),(2,0)),((3,0),(4,0)),((4,0),(5,0))]) rfl (AI (VS rfl) (SP rfl (AI (VS rfl) (AI (Vw.osl _ _ _ _ rfl) (AI (Vw.osl _ _ _ _ rfl) (SP rfl (S4 rfl rfl rfl rfl TT))))))) (AI (AI rfl (BVw.oneL (AI (VS rfl) (AI (Vw.map _ _ rfl) TT)))) (AI (AI rfl BVw.tok) (AI (AI rfl BVw.tok) (AI (AI rfl (OL rfl)) (AI (AI rfl (BVw.ofMap z8 z8 zb v53)) TT)))))
   refine zc ?_
   refine zc (zh ?_)
   refine AI (fun hp=>hp) ?_
   refine AI (fun hp=>hp) ?_
   refine AI (fun hc=>(bqt hc)) ?_
   refine AI (fun hp=>hp) ?_
   refine AI (fun hp=>hp) ?_
   refine AI (fun hc=>(bqt hc)) ?_
   refine LWp.sim (e:=[(0,.isl 9 (a0.map zw) false),(5,.ptr (0,0) 0 0),(6,i6 v48),(7,.osl (1,0) 1 (v49.map y4)),(8,.osl (2,0) 1 (v50.map y4)),(11,.ptr (3,0) 0 0),(22,i6 v133.2),(33,.isl 3 ((a1.take (if 30<((a1.map z7).length:Int) then 30 else((a1.map z7).length:Int)).toNat).map z7) false),(34,i6 (((a1.take (if 30<((a1.map z7).length:Int) then 30 else((a1.map z7).length:Int)).toNat).map z7).length:Int)),(35,i6 v51),(70,.bool (((v133.2==0)&&(v101 != 3))&&(v101 != 4)))]) (L:=[((0,0),.one [i6 v52,.map (4,0)]),((1,0),.tok),((2,0),.tok),((3,0),.one [i6 v101,i6 v102,i6 v103,.str v104,i6 v105,i6 v106,.str v107,.isl 1 (v108.map za) false,.isl 5 (v109.map ze) false]),((4,0),.amap (v53.map (em z8 z8)))]) (n:=5) ?_ ?_
   ·exact qq (M:=[((0,0),(0,0)),((1,0),(1,0)),((2,0),(2,0)),((3,0),(3,0)),((4,0),(4,0))]) rfl (AI (VS rfl) (SP rfl (AI (VS rfl) (AI (Vw.osl _ _ _ _ rfl) (AI (Vw.osl _ _ _ _ rfl) (SP rfl (S4 rfl rfl rfl rfl (AI (VS rfl) TT)))))))) (AI (AI rfl (BVw.oneL (AI (VS rfl) (AI (Vw.map _ _ rfl) TT)))) (AI (AI rfl BVw.tok) (AI (AI rfl BVw.tok) (AI (AI rfl (OL rfl)) (AI (AI rfl (BVw.ofMap z8 z8 zb v53)) TT)))))
   refine yp (v:=(((v133.2==0)&&(v101 != 3))&&(v101 != 4))) rfl TT (fun h103=>?_) (fun h103=>?_)
   ·have h:=zj h103 h
    refine zh ?_
    refine LWp.sim ?_ (zaf h)
    exact qq (M:=[((0,0),(0,0)),((1,0),(1,0)),((2,0),(2,0)),((3,0),(3,0)),((4,0),(4,0))]) rfl (AI (VS rfl) (SP rfl (AI (VS rfl) (AI (Vw.osl _ _ _ _ rfl) (AI (Vw.osl _ _ _ _ rfl) (SP rfl (S4 rfl rfl rfl rfl TT))))))) (AI (AI rfl (BVw.oneL (AI (VS rfl) (AI (Vw.map _ _ rfl) TT)))) (AI (AI rfl BVw.tok) (AI (AI rfl BVw.tok) (AI (AI rfl (OL rfl)) (AI (AI rfl (BVw.ofMap z8 z8 zb v53)) TT)))))
   ·have h:=zo h103 h
    refine xr ?_
    refine LWp.sim ?_ (zaf h)
    exact qq (M:=[((0,0),(0,0)),((1,0),(1,0)),((2,0),(2,0)),((3,0),(3,0)),((4,0),(4,0))]) rfl (AI (VS rfl) (SP rfl (AI (VS rfl) (AI (Vw.osl _ _ _ _ rfl) (AI (Vw.osl _ _ _ _ rfl) (SP rfl (S4 rfl rfl rfl rfl TT))))))) (AI (AI rfl (BVw.oneL (AI (VS rfl) (AI (Vw.map _ _ rfl) TT)))) (AI (AI rfl BVw.tok) (AI (AI rfl BVw.tok) (AI (AI rfl (OL rfl)) (AI (AI rfl (BVw.ofMap z8 z8 zb v53)) TT)))))
noncomputable def j6(m:Option Nat):Option Bool:=
 (xi (some 4096)).bind fun v146=>
 some v146
noncomputable def yg(m:Option Nat)(a0:List GM)(a1:List G_Step)(v48:Int)(v49:List Int)(v50:List Int)(v51:Int)(v52:Int)(v53:List (Int×Int)):Option ((Int×(List Int)×(List Int)×Int×Int×(List (Int×Int))) ⊕ Bool):=
 if(decide (v51<(((a1.take (if 30<((a1.map z7).length:Int) then 30 else((a1.map z7).length:Int)).toNat).map z7).length:Int)))=true then
  if(0:Int)≤v51∧v51<(((a1.take (if 30<((a1.map z7).length:Int) then 30 else((a1.map z7).length:Int)).toNat).map z7).length:Int) then
  if(decide (((a0.map zw).length:Int) > 0))=true then
   (xm m (((a1.take (if 30<((a1.map z7).length:Int) then 30 else((a1.map z7).length:Int)).toNat).getD v51.toNat default).f_A) ((a0.map zw).length:Int)).bind fun v100=>
   if(0:Int)≤v100∧v100<((a0.map zw).length:Int) then
   yu m a0 a1 v48 v49 v50 v51 v52 v53 ((a0.getD v100.toNat default).fK) ((a0.getD v100.toNat default).fI) ((a0.getD v100.toNat default).fC) ((a0.getD v100.toNat default).fM) (((a0.getD v100.toNat default).fB).fK) (((a0.getD v100.toNat default).fB).fN) (((a0.getD v100.toNat default).fB).fT) (((a0.getD v100.toNat default).fB).fA) (((a0.getD v100.toNat default).fB).fE)
   else none
  else
   yu m a0 a1 v48 v49 v50 v51 v52 v53 0 0 0 ([]:List UInt8) 0 0 ([]:List UInt8) ([]:List (List UInt8)) ([]:List (List AVal))
  else none
 else
  Option.map Sum.inr (
   j6 m)
noncomputable def xb(m:Option Nat)(a0:List GM)(a1:List G_Step)(v48:Int)(v49:List Int)(v50:List Int)(v51:Int)(v52:Int)(v53:List (Int×Int)):Option Bool:=Y1 m (fun(s:(Int×(List Int)×(List Int)×Int×Int×(List (Int×Int))))=>yg m a0 a1 s.1 s.2.1 s.2.2.1 s.2.2.2.1 s.2.2.2.2.1 s.2.2.2.2.2) (v48,v49,v50,v51,v52,v53)
theorem zka{a0:List GM}{a1:List G_Step}{m:Option Nat}{o:Bool}(h:j6 m=some o) :
 LWp Tryz.prog kz 0 zr5 (y1i a0 a1 o) [] [] 0:=by
 unfold j6 at h
 refine zc (zh ?_)
 obtain⟨v146,h116,h⟩:=bind_some h
 refine PFn.call (zya h116) TT ?_
 refine wo ?_
 cases h
 exact AI TT (AI rfl (VS rfl))
theorem znj{a0:List GM}{a1:List G_Step}{v48:Int}{v49:List Int}{v50:List Int}{v51:Int}{v52:Int}{v53:List (Int×Int)}{m:Option Nat}{o:(Int×(List Int)×(List Int)×Int×Int×(List (Int×Int))) ⊕ Bool}(h:yg m a0 a1 v48 v49 v50 v51 v52 v53=some o) :
 LWp Tryz.prog kz 0 zu6 (Z2 0 4 (Z7 a0 a1) (Y8 a0 a1) (Xv a0 a1) o) [(0,.isl 9 (a0.map zw) false),(5,.ptr (0,0) 0 0),(6,i6 v48),(7,.osl (1,0) 1 (v49.map y4)),(8,.osl (2,0) 1 (v50.map y4)),(33,.isl 3 ((a1.take (if 30<((a1.map z7).length:Int) then 30 else((a1.map z7).length:Int)).toNat).map z7) false),(34,i6 (((a1.take (if 30<((a1.map z7).length:Int) then 30 else((a1.map z7).length:Int)).toNat).map z7).length:Int)),(35,i6 v51)] [((0,0),.one [i6 v52,.map (3,0)]),((1,0),.tok),((2,0),.tok),((3,0),.amap (v53.map (em z8 z8)))] 4:=by
 unfold yg at h
 refine zc (zh ?_)
 refine zc ?_
 refine yp (v:=(decide (v51<(((a1.take (if 30<((a1.map z7).length:Int) then 30 else((a1.map z7).length:Int)).toNat).map z7).length:Int)))) rfl TT (fun h79=>?_) (fun h79=>?_)
 ·have h:=zj h79 h
  refine xr ?_
  refine zc ?_
  refine jj ?_
  refine zc (zh ?_)
  obtain⟨h80,h⟩:=qv h
  refine AI h80 ?_
  refine EX (z7 ((a1.take (if 30<((a1.map z7).length:Int) then 30 else((a1.map z7).length:Int)).toNat).getD v51.toNat default)) (AI (um z7 _ _ (u5 z7 h80)) (AI (AI (Ze h80) (NB rfl)) ?_))
  refine zc (zh ?_)
  refine LWp.sim (e:=[(0,.isl 9 (a0.map zw) false),(5,.ptr (0,0) 0 0),(6,i6 v48),(7,.osl (1,0) 1 (v49.map y4)),(8,.osl (2,0) 1 (v50.map y4)),(10,.ptr (3,0) 0 0),(11,.ptr (4,0) 0 0),(33,.isl 3 ((a1.take (if 30<((a1.map z7).length:Int) then 30 else((a1.map z7).length:Int)).toNat).map z7) false),(34,i6 (((a1.take (if 30<((a1.map z7).length:Int) then 30 else((a1.map z7).length:Int)).toNat).map z7).length:Int)),(35,i6 v51)]) (L:=[((0,0),.one [i6 v52,.map (5,0)]),((1,0),.tok),((2,0),.tok),((3,0),.one [i6 (((a1.take (if 30<((a1.map z7).length:Int) then 30 else((a1.map z7).length:Int)).toNat).getD v51.toNat default).f_Do),i6 (((a1.take (if 30<((a1.map z7).length:Int) then 30 else((a1.map z7).length:Int)).toNat).getD v51.toNat default).f_A),i6 (((a1.take (if 30<((a1.map z7).length:Int) then 30 else((a1.map z7).length:Int)).toNat).getD v51.toNat default).f_B)]),((4,0),.one [i6 0,i6 0,i6 0,.str [],i6 0,i6 0,.str [],.isl 1 (([]:List (List UInt8)).map za) true,.isl 5 (([]:List (List AVal)).map ze) true]),((5,0),.amap (v53.map (em z8 z8)))]) (n:=6) ?_ ?_
  ·exact qq (M:=[((0,0),(0,0)),((1,0),(1,0)),((2,0),(2,0)),((3,0),(4,0)),((4,0),(5,0)),((5,0),(3,0))]) rfl (AI (VS rfl) (SP rfl (AI (VS rfl) (AI (Vw.osl _ _ _ _ rfl) (AI (Vw.osl _ _ _ _ rfl) (SP rfl (SP rfl (S2 rfl rfl (AI (VS rfl) TT))))))))) (AI (AI rfl (BVw.oneL (AI (VS rfl) (AI (Vw.map _ _ rfl) TT)))) (AI (AI rfl BVw.tok) (AI (AI rfl BVw.tok) (AI (AI rfl (OL rfl)) (AI (AI rfl (OL rfl)) (AI (AI rfl (BVw.ofMap z8 z8 zb v53)) TT))))))
  refine zc ?_
  refine zc (zh ?_)
  refine yp (v:=(decide (((a0.map zw).length:Int) > 0))) rfl TT (fun h81=>?_) (fun h81=>?_)
  ·have h:=zj h81 h
   refine zh ?_
   obtain⟨v100,h82,h⟩:=bind_some h
   refine PFn.call (zy3 h82) (S2 rfl rfl TT) ?_
   obtain⟨h83,h⟩:=qv h
   refine AI h83 ?_
   refine EX (zw (a0.getD v100.toNat default)) (AI (um zw _ _ (u5 zw h83)) (AI (AI (Ze h83) (NB rfl)) ?_))
   refine LWp.sim ?_ (z9f h)
   exact qq (M:=[((0,0),(0,0)),((1,0),(1,0)),((2,0),(2,0)),((3,0),(3,0)),((4,0),(4,0)),((5,0),(5,0))]) rfl (AI (VS rfl) (SP rfl (AI (VS rfl) (AI (Vw.osl _ _ _ _ rfl) (AI (Vw.osl _ _ _ _ rfl) (SP rfl (SP rfl (S2 rfl rfl (AI (VS rfl) TT))))))))) (AI (AI rfl (BVw.oneL (AI (VS rfl) (AI (Vw.map _ _ rfl) TT)))) (AI (AI rfl BVw.tok) (AI (AI rfl BVw.tok) (AI (AI rfl (OL rfl)) (AI (AI rfl (OL rfl)) (AI (AI rfl (BVw.ofMap z8 z8 zb v53)) TT))))))
  ·have h:=zo h81 h
   refine xr ?_
   refine LWp.sim ?_ (z9f h)
   exact qq (M:=[((0,0),(0,0)),((1,0),(1,0)),((2,0),(2,0)),((3,0),(3,0)),((4,0),(4,0)),((5,0),(5,0))]) rfl (AI (VS rfl) (SP rfl (AI (VS rfl) (AI (Vw.osl _ _ _ _ rfl) (AI (Vw.osl _ _ _ _ rfl) (SP rfl (SP rfl (S2 rfl rfl (AI (VS rfl) TT))))))))) (AI (AI rfl (BVw.oneL (AI (VS rfl) (AI (Vw.map _ _ rfl) TT)))) (AI (AI rfl BVw.tok) (AI (AI rfl BVw.tok) (AI (AI rfl (OL rfl)) (AI (AI rfl (BVw.oneL (S4 rfl rfl rfl rfl (S2 rfl rfl (AI (VS rfl) (AI (Vw.islF _ _ _) (AI (Vw.islF _ _ _) TT))))))) (AI (AI rfl (BVw.ofMap z8 z8 zb v53)) TT))))))
 ·have h:=zo h79 h
  refine Jr ?_
  obtain⟨o,hq,rfl⟩:=Option.map_eq_some_iff.1 h
  replace h:=hq;clear hq
  refine AI nofun ?_
  refine LWp.sim ?_ (zka h)
  exact qq (M:=[]) rfl TT TT
theorem zr0{a0:List GM}{a1:List G_Step}{v48:Int}{v49:List Int}{v50:List Int}{v51:Int}{v52:Int}{v53:List (Int×Int)}{m:Option Nat}{o:Bool}(h:xb m a0 a1 v48 v49 v50 v51 v52 v53=some o) :
 LWp Tryz.prog kz 0 (.loop zu6) (xa 0 (Ya Tryz.prog kz 0 zr5 (y1i a0 a1 o))) [(0,.isl 9 (a0.map zw) false),(5,.ptr (0,0) 0 0),(6,i6 v48),(7,.osl (1,0) 1 (v49.map y4)),(8,.osl (2,0) 1 (v50.map y4)),(33,.isl 3 ((a1.take (if 30<((a1.map z7).length:Int) then 30 else((a1.map z7).length:Int)).toNat).map z7) false),(34,i6 (((a1.take (if 30<((a1.map z7).length:Int) then 30 else((a1.map z7).length:Int)).toNat).map z7).length:Int)),(35,i6 v51)] [((0,0),.one [i6 v52,.map (3,0)]),((1,0),.tok),((2,0),.tok),((3,0),.amap (v53.map (em z8 z8)))] 4:=
 ww (m:=m) (s:=((v48,v49,v50,v51,v52,v53):(Int×(List Int)×(List Int)×Int×Int×(List (Int×Int))))) (r:=o) (fun(s:(Int×(List Int)×(List Int)×Int×Int×(List (Int×Int))))=>yg m a0 a1 s.1 s.2.1 s.2.2.1 s.2.2.2.1 s.2.2.2.2.1 s.2.2.2.2.2) (Z7 a0 a1) (Y8 a0 a1) (Xv a0 a1) (fun s o h=>znj h) h
noncomputable def xu(m:Option Nat)(a0:List GM)(a1:List G_Step):Option Bool:=
 (xi (some 4096)).bind fun v1=>
 if(!v1)=true then
  some false
 else
  (kc m).bind fun v2=>
  if(0:Int)≤(if 30<((a1.map z7).length:Int) then 30 else((a1.map z7).length:Int))∧(if 30<((a1.map z7).length:Int) then 30 else((a1.map z7).length:Int))≤((a1.map z7).length:Int) then
  xb m a0 a1 0 [] [] 0 0 ([]:List (Int×Int))
  else none
theorem zq7{a0:List GM}{a1:List G_Step}{m:Option Nat}{o:Bool}(h:xu m a0 a1=some o):LWp Tryz.prog kz 0 zt3 (y1i a0 a1 o) (ye 0 [.isl 9 (a0.map zw) false,.isl 3 (a1.map z7) false]) [] 0:=by
 unfold xu at h
 refine zc (zh ?_)
 refine zc ?_
 refine zc (zh ?_)
 obtain⟨v1,h1,h⟩:=bind_some h
 refine PFn.call (zya h1) TT ?_
 refine yp (v:=(!v1)) rfl TT (fun h2=>?_) (fun h2=>?_)
 ·have h:=zj h2 h
  refine zc (zh ?_)
  refine wo ?_
  cases h
  exact AI TT (AI rfl (VS rfl))
 ·have h:=zo h2 h
  refine xr ?_
  refine zc (zh ?_)
  obtain⟨v2,h3,h⟩:=bind_some h
  refine Q1 (k:=3) (m:=2) (L':=[((0,0),.one [i6 0,.map (1,0)]),((1,0),.amap (([]:List (Int×Int)).map (em z8 z8)))]) (rest:=[]) (R':=.ptr (0,0) 0 0) [] (zwp h3) rfl rfl rfl TT TT rfl (AI rfl (AI rfl (AI rfl (AI (Va z8 z8 zb zb _) TT)))) rfl ?_
  refine zc ?_
  refine zc (zh ?_)
  refine yp (v:=false) rfl TT (fun hc=>Bool.noConfusion hc) (fun hc=>?_)
  refine xr ?_
  refine zc (zh ?_)
  refine LWp.sim (e:=[(0,.isl 9 (a0.map zw) false),(1,.isl 3 (a1.map z7) false),(5,.ptr (0,0) 0 0),(6,i6 0)]) (L:=[((0,0),.one [i6 0,.map (1,0)]),((1,0),.amap (([]:List (Int×Int)).map (em z8 z8)))]) (n:=2) ?_ ?_
  ·exact qq (M:=[((0,0),(0,0)),((1,0),(1,0))]) rfl (S2 rfl rfl (SP rfl (AI (VS rfl) TT))) (AI (AI rfl (BVw.oneL (AI (VS rfl) (AI (Vw.map _ _ rfl) TT)))) (AI (AI rfl (BVw.ofMap z8 z8 zb ([]:List (Int×Int)))) TT))
  refine zc (zh ?_)
  refine zc ?_
  refine zc (zh ?_)
  obtain⟨h4,h⟩:=qv h
  refine EX (.isl 3 ((a1.take (if 30<((a1.map z7).length:Int) then 30 else((a1.map z7).length:Int)).toNat).map z7) false) (AI (zwx z7 (slB z7 a1 _) rfl) (AI (AI rfl (AI (Int.le_refl _) h4)) ?_))
  refine LWp.sim (e:=[(0,.isl 9 (a0.map zw) false),(5,.ptr (0,0) 0 0),(6,i6 0),(7,.val (.slice none 0 0)),(8,.val (.slice none 0 0)),(33,.isl 3 ((a1.take (if 30<((a1.map z7).length:Int) then 30 else((a1.map z7).length:Int)).toNat).map z7) false),(34,i6 (((a1.take (if 30<((a1.map z7).length:Int) then 30 else((a1.map z7).length:Int)).toNat).map z7).length:Int)),(35,i6 0)]) (L:=[((0,0),.one [i6 0,.map (1,0)]),((1,0),.amap (([]:List (Int×Int)).map (em z8 z8)))]) (n:=2) ?_ ?_
  ·exact qq (M:=[((0,0),(0,0)),((1,0),(1,0))]) rfl (AI (VS rfl) (SP rfl (S4 rfl rfl rfl rfl (S2 rfl rfl TT)))) (AI (AI rfl (BVw.oneL (AI (VS rfl) (AI (Vw.map _ _ rfl) TT)))) (AI (AI rfl (BVw.ofMap z8 z8 zb ([]:List (Int×Int)))) TT))
  refine jj ?_
  refine LWp.sim ?_ (zr0 h)
  exact qq (M:=[((0,0),(0,0)),((3,0),(1,0))]) rfl (AI (VS rfl) (SP rfl (AI (VS rfl) (AI (Vw.nilO _ _ (by decide)) (AI (Vw.nilO _ _ (by decide)) (S2 rfl rfl (AI (VS rfl) TT))))))) (AI (AI rfl (BVw.oneL (AI (VS rfl) (AI (Vw.map _ _ rfl) TT)))) (AI (AI rfl (AI (by decide) (by decide))) (AI (AI rfl (AI (by decide) (by decide))) (AI (AI rfl (BVw.ofMap z8 z8 zb ([]:List (Int×Int)))) TT))))
theorem y2i{a0:List GM}{a1:List G_Step}{m:Option Nat}{o:Bool}(h:xu m a0 a1=some o):PFn Tryz.prog 3 [.isl 9 (a0.map zw) false,.isl 3 (a1.map z7) false] (.bool o):=PFn.ofFnW (L:=y38) zy8 zxy (NB rfl) rfl (zq7 h)
end Go.Proofs.YtlilpmnmedmjaaaGreatDoor
