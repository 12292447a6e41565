/-
  Own text GenA of this claim: what functions of the given program compute, in plain Lean, and the proof; no condition.
-/
import Derived.Test.YtjkfnbjgpilokaaGreatDoorChecked
import Derived.Test.YtjkfnbjgpilokaaGreatDoorFc
import Derived.Test.YtjkfnbjgpilokaaGreatDoorFd
import Derived.Test.YtjkfnbjgpilokaaGreatDoorTx
import Derived.KernelRfl
open Go.Fx.LWp renaming sim→p1
open Option renaming map_eq_some_iff→p2
open Go.Fx.PFn renaming call→p3
namespace Go.Proofs.YtjkfnbjgpilokaaGreatDoor
noncomputable section
open Go.Fx
set_option linter.unusedVariables false
set_option maxHeartbeats 4000000
set_option maxHeartbeats 1600000
structure G_Node where
 f_Kind:Int
 f_Value:Int
 f_Text:List UInt8
 f_Start:Int
 f_End:Int
 f_NameStart:Int
 f_Children:List (List AVal)
instance:Inhabited G_Node:=⟨(G_Node.mk 0 0 [] 0 0 0 [])⟩
def ze(r:List AVal):List AVal:=r
def xh(x:Int):List AVal:=[i6 x]
def qd(x:G_Node):List AVal:=[i6 x.f_Kind,i6 x.f_Value,.str x.f_Text,i6 x.f_Start,i6 x.f_End,i6 x.f_NameStart,.isl 7 (x.f_Children.map ze) false]
theorem zfi(x:G_Node):AVal.nid.nidL (qd x)=true∧∀y∈qd x,y.imm=some y:=⟨rfl,by simp[qd,AVal.imm]⟩
def xb(r:List AVal):Option G_Node:=by classical exact if h:∃x,r=qd x then some (Classical.choose h) else none
theorem z6x{r:List AVal}{x:G_Node}(h:xb r=some x):r=qd x:=by
 unfold xb at h
 split at h
 ·rename_i hx
  simp only[Option.some.injEq] at h
  rw[←h]
  exact Classical.choose_spec hx
 ·cases h
theorem yg{l:List (List AVal)}{i:Nat}{x:G_Node}(h:i<l.length)(hx:xb (l.getD i default)=some x):(l.map ze).getD i []=qd x:=(Kt ze _ _ h).trans (z6x hx)
theorem zhp(x:Int):AVal.nid.nidL (xh x)=true∧∀y∈xh x,y.imm=some y:=⟨rfl,by simp[xh,AVal.imm]⟩
def yw(m:Option Nat):Option (Bool):=some true
theorem zgt{m:Option Nat}{o:Bool}(h:yw m=some o):PFn Tryz.prog 16 [] (.bool o):=by
 cases h
 exact zfk
def z1n:LCode:=(.seq (.region [Qo 9 (.bin .lss (.t 8) (.t 7))])
 (.seq (.cond (.t 9)
  .skip
  (.exit 0))
 (.seq (.block 1
  (.seq (.region [Qm 10 8,
   Qm 5 10])
  (.seq (.region [Qm 11 1,
   Qm 12 0,
   Qm 13 5,
   Qo 14 (.iaddr 1 (.t 12) (.t 13)),
   Ql 15 1 14,
   Qo 16 (.bin .eql (.t 11) (.t 15))])
  (.cond (.t 16)
   (.seq (.region [Qm 17 5,
    Qm 4 17])
   .ret)
   .skip))))
 (.region [Qo 18 (.bin .add (.t 8) (.c (i6 1))),
  Qm 8 18]))))
def U4:LCode:=(.seq (.region [Qo 4 (.mv (.c (i6 (-1))))])
 .ret)
def z6b:LCode:=(.seq (.region [Qi 4 0])
 (.seq (.seq (.region [Qm 6 0,
  Qo 7 (.len false (.t 6)),
  Qi 8 0])
 (.block 0
  (.loop
   z1n)))
 U4))
def u4:Lay:=⟨19,[],false⟩
def z42:List LRes:=[.t 4]
def zbx:LFn:=⟨2,u4,z6b,z42⟩
theorem zbj:wu Tryz.prog [] 109=some zbx:=by kernel_rfl
theorem zad:Xv Tryz.prog 109:=⟨_,Tryz.func109,rfl,rfl⟩
def z3d(a0:List Int)(a1:Int)(o:Int):Exit→Env→AHeap→Nat→Prop:=z36 z42 (vj (i6 o))
def J4(a0:List Int)(a1:Int)(s:Int):Env:=[(0,.isl 1 (a0.map xh) false),(1,i6 a1),(7,i6 ((a0.map xh).length:Int)),(8,i6 s)]
def Vo(a0:List Int)(a1:Int)(s:Int):AHeap:=[]
def z0x(a0:List Int)(a1:Int)(o:Int):Exit→Env→AHeap→Nat→Prop:=(uj 0 (z9o Tryz.prog u4 0 U4 (z3d a0 a1 o)))
def qo(m:Option Nat):Option Int:=
 some (-1)
def yh(m:Option Nat)(a0:List Int)(a1:Int)(v1:Int):Option (Int ⊕ Int):=
 if(decide (v1<((a0.map xh).length:Int)))=true then
  if(0:Int)≤v1∧v1<((a0.map xh).length:Int) then
  if(a1==(a0.getD v1.toNat default))=true then
   Option.map Sum.inr (
    some v1)
  else
   some (.inl (W (v1+1)))
  else none
 else
  Option.map Sum.inr (
   qo m)
def yp(m:Option Nat)(a0:List Int)(a1:Int)(v1:Int):Option Int:=Wy m (fun(s:Int)=>yh m a0 a1 s) v1
theorem z5s{a0:List Int}{a1:Int}{m:Option Nat}{o:Int}(h:qo m=some o) :
 LWp Tryz.prog u4 0 U4 (z3d a0 a1 o) [] [] 0:=by
 unfold qo at h
 refine yu (yz ?_)
 refine Xm ?_
 cases h
 exact AI TT (AI rfl (VS rfl))
theorem z19{a0:List Int}{a1:Int}{v1:Int}{m:Option Nat}{o:Int ⊕ Int}(h:yh m a0 a1 v1=some o) :
 LWp Tryz.prog u4 0 z1n (z6d 0 0 (J4 a0 a1) (Vo a0 a1) (z0x a0 a1) o) [(0,.isl 1 (a0.map xh) false),(1,i6 a1),(7,i6 ((a0.map xh).length:Int)),(8,i6 v1)] [] 0:=by
 unfold yh at h
 refine yu (yz ?_)
 refine yu ?_
 refine qb (v:=(decide (v1<((a0.map xh).length:Int)))) rfl TT (fun h7=>?_) (fun h7=>?_)
 ·have h:=zu h7 h
  refine qx ?_
  refine yu ?_
  refine Yg ?_
  refine yu (yz ?_)
  refine yu (yz ?_)
  obtain⟨h8,h⟩:=qp h
  refine AI h8 ?_
  refine EX (xh (a0.getD v1.toNat default)) (AI (Kt xh _ _ (xj xh h8)) (AI (AI (js h8) (NB rfl)) ?_))
  refine p1 (e:=[(0,.isl 1 (a0.map xh) false),(1,i6 a1),(5,i6 v1),(7,i6 ((a0.map xh).length:Int)),(8,i6 v1),(16,.bool (a1==(a0.getD v1.toNat default)))]) (L:=[]) (n:=0) ?_ ?_
  ·exact x8 (M:=[]) rfl (S4 rfl rfl rfl rfl (S2 rfl rfl TT)) TT
  refine qb (v:=(a1==(a0.getD v1.toNat default))) rfl TT (fun h9=>?_) (fun h9=>?_)
  ·have h:=zu h9 h
   refine yu (yz ?_)
   refine Xm ?_
   obtain⟨o,hq,rfl⟩:=p2.1 h
   replace h:=hq;clear hq
   refine AI nofun ?_
   cases h
   exact AI TT (AI rfl (VS rfl))
  ·have h:=y8 h9 h
   refine qx ?_
   refine yz ?_
   cases h
   exact AI rfl (x8 (M:=[]) rfl (S4 rfl rfl rfl rfl TT) TT)
 ·have h:=y8 h7 h
  refine zed ?_
  obtain⟨o,hq,rfl⟩:=p2.1 h
  replace h:=hq;clear hq
  refine AI nofun ?_
  refine p1 ?_ (z5s h)
  exact x8 (M:=[]) rfl TT TT
theorem z4o{a0:List Int}{a1:Int}{v1:Int}{m:Option Nat}{o:Int}(h:yp m a0 a1 v1=some o) :
 LWp Tryz.prog u4 0 (.loop z1n) (uj 0 (z9o Tryz.prog u4 0 U4 (z3d a0 a1 o))) [(0,.isl 1 (a0.map xh) false),(1,i6 a1),(7,i6 ((a0.map xh).length:Int)),(8,i6 v1)] [] 0:=
 W3 (m:=m) (s:=(v1:Int)) (r:=o) (fun(s:Int)=>yh m a0 a1 s) (J4 a0 a1) (Vo a0 a1) (z0x a0 a1) (fun s o h=>z19 h) h
def qq(m:Option Nat)(a0:List Int)(a1:Int):Option Int:=
 yp m a0 a1 0
theorem z5r{a0:List Int}{a1:Int}{m:Option Nat}{o:Int}(h:qq m a0 a1=some o):LWp Tryz.prog u4 0 z6b (z3d a0 a1 o) (qz 0 [.isl 1 (a0.map xh) false,i6 a1]) [] 0:=by
 unfold qq at h
 refine yu (yz ?_)
 refine yu ?_
 refine yu (yz ?_)
 refine Yg ?_
 refine p1 ?_ (z4o h)
 exact x8 (M:=[]) rfl (S4 rfl rfl rfl rfl TT) TT
theorem zck{a0:List Int}{a1:Int}{m:Option Nat}{o:Int}(h:qq m a0 a1=some o):PFn Tryz.prog 109 [.isl 1 (a0.map xh) false,i6 a1] (i6 o):=PFn.ofFnW (L:=zbx) zbj zad (NB rfl) rfl (z5r h)
def zc5:LCode:=(.seq (.region [Qb 4])
 (.seq (.region [Qm 5 0,
  Qm 6 1,
  Qo 7 (.call 109 [(.t 5),(.t 6)]),
  Qo 8 (.bin .geq (.t 7) (.c (i6 0))),
  Qm 4 8])
 .ret))
def z6j:Lay:=⟨9,[],false⟩
def z8j:List LRes:=[.t 4]
def zg4:LFn:=⟨2,z6j,zc5,z8j⟩
theorem zej:wu Tryz.prog [] 70=some zg4:=by kernel_rfl
theorem ze8:Xv Tryz.prog 70:=⟨_,Tryz.func70,rfl,rfl⟩
def qa(m:Option Nat)(a0:List Int)(a1:Int):Option Bool:=
 (qq m a0 a1).bind fun v1=>
 some (decide (v1≥0))
def zix(a0:List Int)(a1:Int)(o:Bool):Exit→Env→AHeap→Nat→Prop:=z36 z8j (vj (.bool o))
theorem z9c{a0:List Int}{a1:Int}{m:Option Nat}{o:Bool}(h:qa m a0 a1=some o):LWp Tryz.prog z6j 0 zc5 (zix a0 a1 o) (qz 0 [.isl 1 (a0.map xh) false,i6 a1]) [] 0:=by
 unfold qa at h
 refine yu (yz ?_)
 refine yu (yz ?_)
 obtain⟨v1,h1,h⟩:=bind_some h
 refine p3 (zck h1) (S2 rfl rfl TT) ?_
 refine Xm ?_
 cases h
 exact AI TT (AI rfl (VS rfl))
theorem zh7{a0:List Int}{a1:Int}{m:Option Nat}{o:Bool}(h:qa m a0 a1=some o):PFn Tryz.prog 70 [.isl 1 (a0.map xh) false,i6 a1] (.bool o):=PFn.ofFnW (L:=zg4) zej ze8 (NB rfl) rfl (z9c h)
def zc2:LCode:=(.seq (.region [Qb 2])
 (.seq (.region [Qo 3 (.mkSl true 1 [(i6 0)] 10 [(0,(.c (i6 17))),(1,(.c (i6 27))),(2,(.c (i6 28))),(3,(.c (i6 29))),(4,(.c (i6 30))),(5,(.c (i6 31))),(6,(.c (i6 32))),(7,(.c (i6 33))),(8,(.c (i6 39))),(9,(.c (i6 40)))]),
  Qm 4 0,
  Qo 5 (.call 70 [(.t 3),(.t 4)]),
  Qm 2 5])
 .ret))
def z72:Lay:=⟨6,[],false⟩
def z6o:List LRes:=[.t 2]
def zfv:LFn:=⟨1,z72,zc2,z6o⟩
theorem zdd:wu Tryz.prog [] 41=some zfv:=by kernel_rfl
theorem zdg:Xv Tryz.prog 41:=⟨_,Tryz.func41,rfl,rfl⟩
def yn(m:Option Nat)(a0:Int):Option Bool:=
 (qa m ([17,27,28,29,30,31,32,33,39,40]:List Int) a0).bind fun v1=>
 some v1
def zj0(a0:Int)(o:Bool):Exit→Env→AHeap→Nat→Prop:=z36 z6o (vj (.bool o))
theorem z8a{a0:Int}{m:Option Nat}{o:Bool}(h:yn m a0=some o):LWp Tryz.prog z72 0 zc2 (zj0 a0 o) (qz 0 [i6 a0]) [] 0:=by
 unfold yn at h
 refine yu (yz ?_)
 refine yu (yz ?_)
 obtain⟨v1,h1,h⟩:=bind_some h
 refine p3 (zh7 h1) (AI (Vw.islF _ _ _) (AI (VS rfl) TT)) ?_
 refine Xm ?_
 cases h
 exact AI TT (AI rfl (VS rfl))
theorem zfp{a0:Int}{m:Option Nat}{o:Bool}(h:yn m a0=some o):PFn Tryz.prog 41 [i6 a0] (.bool o):=PFn.ofFnW (L:=zfv) zdd zdg (NB rfl) rfl (z8a h)
def zcd:LCode:=(.seq (.region [Qo 2 (.box (.t 0)),
 Qo 4 (.alloc [(i6 0),(i6 0),(.str []),(i6 0),(i6 0),(i6 0),(.isl 7 [] true)]),
 Qb 5])
 (.seq (.seq (.region [Qm 6 1,
  Qf 7 6 2,
  Ql 8 1 7,
  Qo 9 (.len false (.t 8)),
  Qo 10 (.bin .geq (.t 6) (.t 9))])
 (.cond (.t 10)
  (.seq (.region [Qo 11 (.build [(i6 0),(i6 0),(.str []),(i6 0),(i6 0),(i6 0),(.isl 7 [] true)] []),
   ⟨none,.store 7 (.t 4) (.t 11),none⟩,
   Qb 5])
  .ret)
  .skip))
 (.seq (.region [Qf 12 6 2,
  Ql 13 1 12,
  Qm 14 1,
  Qo 15 (.iaddr 7 (.t 13) (.t 14)),
  Qt 16 7 15,
  ⟨none,.store 7 (.t 4) (.t 16),none⟩,
  Qo 5 (.mv (.c (.bool true)))])
 .ret)))
def z96:Lay:=⟨17,[],false⟩
def z8r:List LRes:=[.cell 4 true 7,.t 5]
def zhk:LFn:=⟨2,z96,zcd,z8r⟩
theorem ze5:wu Tryz.prog [] 71=some zhk:=by kernel_rfl
theorem zdr:Xv Tryz.prog 71:=⟨_,Tryz.func71,rfl,rfl⟩
def zw(m:Option Nat)(a0:G_Node)(a1:Int):Option (G_Node×Bool):=
 if(decide (a1≥((a0.f_Children.map ze).length:Int)))=true then
  some ((G_Node.mk 0 0 ([]:List UInt8) 0 0 0 ([]:List (List AVal))),false)
 else
  if(0:Int)≤a1∧a1<((a0.f_Children.map ze).length:Int) then
  ((xb (a0.f_Children.getD a1.toNat default))).bind fun v1=>
  some (v1,true)
  else none
def zhz(a0:G_Node)(a1:Int)(o:G_Node×Bool):Exit→Env→AHeap→Nat→Prop:=z36 z8r (vj (.tup [.agg [i6 o.1.f_Kind,i6 o.1.f_Value,.str o.1.f_Text,i6 o.1.f_Start,i6 o.1.f_End,i6 o.1.f_NameStart,.isl 7 (o.1.f_Children.map ze) false],.bool o.2]))
theorem z87{a0:G_Node}{a1:Int}{m:Option Nat}{o:G_Node×Bool}(h:zw m a0 a1=some o):LWp Tryz.prog z96 0 zcd (zhz a0 a1 o) (qz 0 [.agg [i6 a0.f_Kind,i6 a0.f_Value,.str a0.f_Text,i6 a0.f_Start,i6 a0.f_End,i6 a0.f_NameStart,.isl 7 (a0.f_Children.map ze) false],i6 a1]) [] 0:=by
 unfold zw at h
 refine yu (yz ?_)
 refine yu ?_
 refine yu (yz ?_)
 refine p1 (e:=[(1,i6 a1),(2,.ptr (0,0) 0 0),(4,.ptr (1,0) 0 0),(10,.bool (decide (a1≥((a0.f_Children.map ze).length:Int))))]) (L:=[((0,0),.one [i6 a0.f_Kind,i6 a0.f_Value,.str a0.f_Text,i6 a0.f_Start,i6 a0.f_End,i6 a0.f_NameStart,.isl 7 (a0.f_Children.map ze) false]),((1,0),.one [i6 0,i6 0,.str [],i6 0,i6 0,i6 0,.isl 7 (([]:List (List AVal)).map ze) true])]) (n:=2) ?_ ?_
 ·exact x8 (M:=[((0,0),(0,0)),((1,0),(1,0))]) rfl (AI (VS rfl) (SP rfl (SP rfl (AI (VS rfl) TT)))) (AI (AI rfl (OL rfl)) (AI (AI rfl (OL rfl)) TT))
 refine qb (v:=(decide (a1≥((a0.f_Children.map ze).length:Int)))) rfl TT (fun h1=>?_) (fun h1=>?_)
 ·have h:=zu h1 h
  refine yu (yz ?_)
  refine Xm ?_
  cases h
  exact AI (AI TT (AI rfl (NB rfl))) (AI TT (AI rfl (Vw.tupL (AI (Vw.aggL (S4 rfl rfl rfl rfl (S2 rfl rfl (AI (Vw.islF _ _ _) TT)))) (AI (VS rfl) TT)))))
 ·have h:=y8 h1 h
  refine qx ?_
  refine yu (yz ?_)
  obtain⟨h2,h⟩:=qp h
  refine AI h2 ?_
  obtain⟨v1,h3,h⟩:=bind_some h
  refine EX (qd v1) (AI (yg (xj ze h2) h3) (AI (AI (js h2) (NB rfl)) ?_))
  refine Xm ?_
  cases h
  exact AI (AI TT (AI rfl (NB rfl))) (AI TT (AI rfl (VS rfl)))
theorem Wo{a0:G_Node}{a1:Int}{m:Option Nat}{o:G_Node×Bool}(h:zw m a0 a1=some o):PFn Tryz.prog 71 [.agg [i6 a0.f_Kind,i6 a0.f_Value,.str a0.f_Text,i6 a0.f_Start,i6 a0.f_End,i6 a0.f_NameStart,.isl 7 (a0.f_Children.map ze) false],i6 a1] (.tup [.agg [i6 o.1.f_Kind,i6 o.1.f_Value,.str o.1.f_Text,i6 o.1.f_Start,i6 o.1.f_End,i6 o.1.f_NameStart,.isl 7 (o.1.f_Children.map ze) false],.bool o.2]):=PFn.ofFnW (L:=zhk) ze5 zdr (NB rfl) rfl (z87 h)
def zc8:LCode:=(.cond (.t 20)
 (.seq (.region [Qt 28 7 3,
  Qo 29 (.call 71 [(.t 28),(.c (i6 0))]),
  Qo 30 (.ext 0 (.t 29)),
  Qo 31 (.ext 1 (.t 29)),
  ⟨none,.store 7 (.t 6) (.t 30),none⟩,
  Qm 7 31])
 .ret)
 (.seq (.region [Qo 33 (.bin .eql (.t 13) (.c (i6 40))),
  Qm 32 33])
 (.cond (.t 32)
  (.seq (.region [Qf 34 2 3,
   Ql 35 1 34,
   Qo 36 (.bin .neq (.t 35) (.c (.str [42])))])
  (.cond (.t 36)
   (.seq (.region [Qt 37 7 3,
    Qo 38 (.call 71 [(.t 37),(.c (i6 0))]),
    Qo 39 (.ext 0 (.t 38)),
    Qo 40 (.ext 1 (.t 38)),
    ⟨none,.store 7 (.t 6) (.t 39),none⟩,
    Qm 7 40])
   .ret)
   .skip))
  (.seq (.region [Qo 42 (.bin .eql (.t 13) (.c (i6 30))),
   Qm 41 42])
  (.cond (.t 41)
   (.seq (.region [Qt 44 7 3,
    Qo 45 (.call 71 [(.t 44),(.c (i6 0))]),
    Qm 43 45,
    Qo 46 (.ext 0 (.t 43)),
    Qo 47 (.ext 1 (.t 43)),
    Qo 8 (.alloc [(i6 0),(i6 0),(.str []),(i6 0),(i6 0),(i6 0),(.isl 7 [] true)]),
    ⟨none,.store 7 (.t 8) (.t 46),none⟩,
    Qm 9 47])
   (.seq (.seq (.region [Qm 48 9,
    Qm 49 48,
    Qe 50 0 8 (49,true),
    Qk 51 1 50 (49,true),
    Qg 52 (.bin .eql (.t 51) (.c (i6 17))) (49,true),
    Qp 53 49 52,
    Qm 54 53,
    Qe 55 3 8 (54,true),
    Qk 56 1 55 (54,true),
    Qn 57 1 (54,true),
    Qg 58 (.bin .neq (.t 56) (.t 57)) (54,true),
    Qn 59 58 (54,true),
    Qe 60 4 8 (59,false),
    Qk 61 1 60 (59,false),
    Qn 62 2 (59,false),
    Qg 63 (.bin .neq (.t 61) (.t 62)) (59,false),
    Qg 64 (.pick (.t 59) (.c (.bool true)) (.t 63)) (54,true),
    Qp 65 54 64])
   (.cond (.t 65)
    (.seq (.region [Qt 66 7 3,
     Qo 67 (.call 71 [(.t 66),(.c (i6 1))]),
     Qo 68 (.ext 0 (.t 67)),
     Qo 69 (.ext 1 (.t 67)),
     ⟨none,.store 7 (.t 6) (.t 68),none⟩,
     Qm 7 69])
    .ret)
    .skip))
   (.seq (.region [Qt 70 7 8,
    Qm 71 9,
    ⟨none,.store 7 (.t 6) (.t 70),none⟩,
    Qm 7 71])
   .ret)))
   (.seq (.region [Qo 73 (.bin .eql (.t 13) (.c (i6 33))),
    Qm 72 73])
   (.cond (.t 72)
    (.seq (.region [Qt 75 7 3,
     Qo 76 (.call 71 [(.t 75),(.c (i6 1))]),
     Qm 74 76,
     Qo 77 (.ext 0 (.t 74)),
     Qo 78 (.ext 1 (.t 74)),
     Qo 10 (.alloc [(i6 0),(i6 0),(.str []),(i6 0),(i6 0),(i6 0),(.isl 7 [] true)]),
     ⟨none,.store 7 (.t 10) (.t 77),none⟩,
     Qm 11 78])
    (.seq (.region [Qm 79 11])
    (.cond (.t 79)
     (.seq (.region [Qt 80 7 10,
      Qo 81 (.call 71 [(.t 80),(.c (i6 0))]),
      Qo 82 (.ext 0 (.t 81)),
      Qo 83 (.ext 1 (.t 81)),
      ⟨none,.store 7 (.t 6) (.t 82),none⟩,
      Qm 7 83])
     .ret)
     .skip)))
    .skip)))))))
def z6u:LCode:=(.seq (.region [Qo 84 (.build [(i6 0),(i6 0),(.str []),(i6 0),(i6 0),(i6 0),(.isl 7 [] true)] []),
 ⟨none,.store 7 (.t 6) (.t 84),none⟩,
 Qb 7])
 .ret)
def zc3:LCode:=(.seq (.region [Qo 3 (.box (.t 0)),
 Qo 6 (.alloc [(i6 0),(i6 0),(.str []),(i6 0),(i6 0),(i6 0),(.isl 7 [] true)]),
 Qb 7])
 (.seq (.seq (.region [Qf 12 0 3,
  Ql 13 1 12])
 (.block 0
  (.seq (.region [Qo 15 (.bin .eql (.t 13) (.c (i6 22))),
   Qm 14 15])
  (.cond (.t 14)
   (.seq (.region [Qt 16 7 3,
    Qo 17 (.call 71 [(.t 16),(.c (i6 2))]),
    Qo 18 (.ext 0 (.t 17)),
    Qo 19 (.ext 1 (.t 17)),
    ⟨none,.store 7 (.t 6) (.t 18),none⟩,
    Qm 7 19])
   .ret)
   (.seq (.seq (.region [Qo 21 (.bin .eql (.t 13) (.c (i6 26))),
    Qm 20 21])
   (.cond (.t 20)
    .skip
    (.seq (.region [Qo 22 (.bin .eql (.t 13) (.c (i6 25))),
     Qm 20 22])
    (.cond (.t 20)
     .skip
     (.seq (.region [Qo 23 (.bin .eql (.t 13) (.c (i6 39))),
      Qm 20 23])
     (.cond (.t 20)
      .skip
      (.seq (.region [Qo 24 (.bin .eql (.t 13) (.c (i6 31))),
       Qm 20 24])
      (.cond (.t 20)
       .skip
       (.seq (.region [Qo 25 (.bin .eql (.t 13) (.c (i6 32))),
        Qm 20 25])
       (.cond (.t 20)
        .skip
        (.seq (.region [Qo 26 (.bin .eql (.t 13) (.c (i6 37))),
         Qm 20 26])
        (.cond (.t 20)
         .skip
         (.region [Qo 27 (.bin .eql (.t 13) (.c (i6 35))),
          Qm 20 27])))))))))))))
   zc8)))))
 z6u))
def Js:Lay:=⟨85,[],false⟩
def z66:List LRes:=[.cell 6 true 7,.t 7]
def zgi:LFn:=⟨3,Js,zc3,z66⟩
theorem zcp:wu Tryz.prog [] 42=some zgi:=by kernel_rfl
theorem zdm:Xv Tryz.prog 42:=⟨_,Tryz.func42,rfl,rfl⟩
def yi(m:Option Nat):Option (G_Node×Bool):=
 some ((G_Node.mk 0 0 ([]:List UInt8) 0 0 0 ([]:List (List AVal))),false)
def zds(a0:G_Node)(a1:Int)(a2:Int)(o:G_Node×Bool):Exit→Env→AHeap→Nat→Prop:=z36 z66 (vj (.tup [.agg [i6 o.1.f_Kind,i6 o.1.f_Value,.str o.1.f_Text,i6 o.1.f_Start,i6 o.1.f_End,i6 o.1.f_NameStart,.isl 7 (o.1.f_Children.map ze) false],.bool o.2]))
theorem Jb{a0:G_Node}{a1:Int}{a2:Int}{m:Option Nat}{o:(G_Node×Bool)}(h:yi m=some o) :
 LWp Tryz.prog Js 0 z6u (zds a0 a1 a2 o) [(6,.ptr (0,0) 0 0)] [((0,0),.one [i6 0,i6 0,.str [],i6 0,i6 0,i6 0,.isl 7 (([]:List (List AVal)).map ze) true])] 1:=by
 unfold yi at h
 refine yu (yz ?_)
 refine Xm ?_
 cases h
 exact AI (AI TT (AI rfl (NB rfl))) (AI TT (AI rfl (Vw.tupL (AI (Vw.aggL (S4 rfl rfl rfl rfl (S2 rfl rfl (AI (Vw.islF _ _ _) TT)))) (AI (VS rfl) TT)))))
def zn(m:Option Nat)(a0:G_Node)(a1:Int)(a2:Int)(v2:Bool):Option (G_Node×Bool):=
 if v2=true then
  (zw m a0 0).bind fun v3=>
  some ((G_Node.mk v3.1.f_Kind v3.1.f_Value v3.1.f_Text v3.1.f_Start v3.1.f_End v3.1.f_NameStart v3.1.f_Children),v3.2)
 else
  if(a0.f_Kind==40)=true then
   if(!(a0.f_Text==([42]:List UInt8)))=true then
    (zw m a0 0).bind fun v4=>
    some ((G_Node.mk v4.1.f_Kind v4.1.f_Value v4.1.f_Text v4.1.f_Start v4.1.f_End v4.1.f_NameStart v4.1.f_Children),v4.2)
   else
    yi m
  else
   if(a0.f_Kind==30)=true then
    (zw m a0 0).bind fun v5=>
    if((v5.2&&(v5.1.f_Kind==17))&&((v5.1.f_Start != a1) || (v5.1.f_End != a2)))=true then
     (zw m a0 1).bind fun v6=>
     some ((G_Node.mk v6.1.f_Kind v6.1.f_Value v6.1.f_Text v6.1.f_Start v6.1.f_End v6.1.f_NameStart v6.1.f_Children),v6.2)
    else
     some ((G_Node.mk v5.1.f_Kind v5.1.f_Value v5.1.f_Text v5.1.f_Start v5.1.f_End v5.1.f_NameStart v5.1.f_Children),v5.2)
   else
    if(a0.f_Kind==33)=true then
     (zw m a0 1).bind fun v7=>
     if v7.2=true then
      (zw m (G_Node.mk v7.1.f_Kind v7.1.f_Value v7.1.f_Text v7.1.f_Start v7.1.f_End v7.1.f_NameStart v7.1.f_Children) 0).bind fun v8=>
      some ((G_Node.mk v8.1.f_Kind v8.1.f_Value v8.1.f_Text v8.1.f_Start v8.1.f_End v8.1.f_NameStart v8.1.f_Children),v8.2)
     else
      yi m
    else
     yi m
set_option maxHeartbeats 4000000 in
theorem wi{a0:G_Node}{a1:Int}{a2:Int}{v2:Bool}{m:Option Nat}{o:(G_Node×Bool)}(h:zn m a0 a1 a2 v2=some o) :
 LWp Tryz.prog Js 0 zc8 (uj 0 (z9o Tryz.prog Js 0 z6u (zds a0 a1 a2 o))) [(1,i6 a1),(2,i6 a2),(3,.ptr (0,0) 0 0),(6,.ptr (1,0) 0 0),(13,i6 a0.f_Kind),(20,.bool v2)] [((0,0),.one [i6 a0.f_Kind,i6 a0.f_Value,.str a0.f_Text,i6 a0.f_Start,i6 a0.f_End,i6 a0.f_NameStart,.isl 7 (a0.f_Children.map ze) false]),((1,0),.one [i6 0,i6 0,.str [],i6 0,i6 0,i6 0,.isl 7 (([]:List (List AVal)).map ze) true])] 2:=by
 unfold zn at h
 refine qb (v:=v2) rfl TT (fun h9=>?_) (fun h9=>?_)
 ·have h:=zu h9 h
  refine yu (yz ?_)
  obtain⟨v3,h10,h⟩:=bind_some h
  refine p3 (Wo h10) (S2 rfl rfl TT) ?_
  refine Xm ?_
  cases h
  exact AI (AI TT (AI rfl (NB rfl))) (AI TT (AI rfl (VS rfl)))
 ·have h:=y8 h9 h
  refine yu (yz ?_)
  refine qb (v:=(a0.f_Kind==40)) rfl TT (fun h11=>?_) (fun h11=>?_)
  ·have h:=zu h11 h
   refine yu (yz ?_)
   refine qb (v:=(!(a0.f_Text==([42]:List UInt8)))) rfl TT (fun h12=>?_) (fun h12=>?_)
   ·have h:=zu h12 h
    refine yu (yz ?_)
    obtain⟨v4,h13,h⟩:=bind_some h
    refine p3 (Wo h13) (S2 rfl rfl TT) ?_
    refine p1 (e:=[(6,.ptr (0,0) 0 0),(7,.bool v4.2)]) (L:=[((0,0),.one [i6 v4.1.f_Kind,i6 v4.1.f_Value,.str v4.1.f_Text,i6 v4.1.f_Start,i6 v4.1.f_End,i6 v4.1.f_NameStart,.isl 7 (v4.1.f_Children.map ze) false])]) (n:=1) ?_ ?_
    ·exact x8 (M:=[((0,0),(1,0))]) rfl (SP rfl (AI (VS rfl) TT)) (AI (AI rfl (OL rfl)) TT)
    refine Xm ?_
    cases h
    exact AI (AI TT (AI rfl (NB rfl))) (AI TT (AI rfl (VS rfl)))
   ·have h:=y8 h12 h
    refine qx ?_
    refine p1 ?_ (Jb h)
    exact x8 (M:=[((0,0),(1,0))]) rfl (SP rfl TT) (AI (AI rfl (OL rfl)) TT)
  ·have h:=y8 h11 h
   refine yu (yz ?_)
   refine qb (v:=(a0.f_Kind==30)) rfl TT (fun h14=>?_) (fun h14=>?_)
   ·have h:=zu h14 h
    refine yu (yz ?_)
    obtain⟨v5,h15,h⟩:=bind_some h
    refine p3 (Wo h15) (S2 rfl rfl TT) ?_
    refine p1 (e:=[(1,i6 a1),(2,i6 a2),(3,.ptr (0,0) 0 0),(6,.ptr (1,0) 0 0),(8,.ptr (2,0) 0 0),(9,.bool v5.2)]) (L:=[((0,0),.one [i6 a0.f_Kind,i6 a0.f_Value,.str a0.f_Text,i6 a0.f_Start,i6 a0.f_End,i6 a0.f_NameStart,.isl 7 (a0.f_Children.map ze) false]),((1,0),.one [i6 0,i6 0,.str [],i6 0,i6 0,i6 0,.isl 7 (([]:List (List AVal)).map ze) true]),((2,0),.one [i6 v5.1.f_Kind,i6 v5.1.f_Value,.str v5.1.f_Text,i6 v5.1.f_Start,i6 v5.1.f_End,i6 v5.1.f_NameStart,.isl 7 (v5.1.f_Children.map ze) false])]) (n:=3) ?_ ?_
    ·exact x8 (M:=[((0,0),(0,0)),((1,0),(1,0)),((2,0),(2,0))]) rfl (S2 rfl rfl (SP rfl (SP rfl (SP rfl (AI (VS rfl) TT))))) (AI (AI rfl (OL rfl)) (AI (AI rfl (OL rfl)) (AI (AI rfl (OL rfl)) TT)))
    refine yu ?_
    refine yu (yz ?_)
    refine AI (fun hp=>hp) ?_
    refine AI (fun hp=>hp) ?_
    refine AI (fun hc=>(bqt hc)) ?_
    refine AI (fun hp=>hp) ?_
    refine AI (fun hp=>(AI hp hp)) ?_
    refine AI (fun hp=>hp) ?_
    refine AI (fun hp=>hp) ?_
    refine AI (fun hp=>(AI hp hp)) ?_
    refine AI (fun hp=>(AI hp (fun hc=>(zdu hp (bqf hc))))) ?_
    refine AI (fun hc=>(bqt hc)) ?_
    refine p1 (e:=[(3,.ptr (0,0) 0 0),(6,.ptr (1,0) 0 0),(8,.ptr (2,0) 0 0),(9,.bool v5.2),(65,.bool ((v5.2&&(v5.1.f_Kind==17))&&((v5.1.f_Start != a1) || (v5.1.f_End != a2))))]) (L:=[((0,0),.one [i6 a0.f_Kind,i6 a0.f_Value,.str a0.f_Text,i6 a0.f_Start,i6 a0.f_End,i6 a0.f_NameStart,.isl 7 (a0.f_Children.map ze) false]),((1,0),.one [i6 0,i6 0,.str [],i6 0,i6 0,i6 0,.isl 7 (([]:List (List AVal)).map ze) true]),((2,0),.one [i6 v5.1.f_Kind,i6 v5.1.f_Value,.str v5.1.f_Text,i6 v5.1.f_Start,i6 v5.1.f_End,i6 v5.1.f_NameStart,.isl 7 (v5.1.f_Children.map ze) false])]) (n:=3) ?_ ?_
    ·exact x8 (M:=[((0,0),(0,0)),((1,0),(1,0)),((2,0),(2,0))]) rfl (SP rfl (SP rfl (SP rfl (S2 rfl rfl TT)))) (AI (AI rfl (OL rfl)) (AI (AI rfl (OL rfl)) (AI (AI rfl (OL rfl)) TT)))
    refine qb (v:=((v5.2&&(v5.1.f_Kind==17))&&((v5.1.f_Start != a1) || (v5.1.f_End != a2)))) rfl TT (fun h16=>?_) (fun h16=>?_)
    ·have h:=zu h16 h
     refine yu (yz ?_)
     obtain⟨v6,h17,h⟩:=bind_some h
     refine p3 (Wo h17) (S2 rfl rfl TT) ?_
     refine Xm ?_
     cases h
     exact AI (AI TT (AI rfl (NB rfl))) (AI TT (AI rfl (VS rfl)))
    ·have h:=y8 h16 h
     refine qx ?_
     refine yu (yz ?_)
     refine Xm ?_
     cases h
     exact AI (AI TT (AI rfl (NB rfl))) (AI TT (AI rfl (VS rfl)))
   ·have h:=y8 h14 h
    refine yu (yz ?_)
    refine qb (v:=(a0.f_Kind==33)) rfl TT (fun h18=>?_) (fun h18=>?_)
    ·have h:=zu h18 h
     refine yu (yz ?_)
     obtain⟨v7,h19,h⟩:=bind_some h
     refine p3 (Wo h19) (S2 rfl rfl TT) ?_
     refine p1 (e:=[(6,.ptr (0,0) 0 0),(10,.ptr (1,0) 0 0),(11,.bool v7.2)]) (L:=[((0,0),.one [i6 0,i6 0,.str [],i6 0,i6 0,i6 0,.isl 7 (([]:List (List AVal)).map ze) true]),((1,0),.one [i6 v7.1.f_Kind,i6 v7.1.f_Value,.str v7.1.f_Text,i6 v7.1.f_Start,i6 v7.1.f_End,i6 v7.1.f_NameStart,.isl 7 (v7.1.f_Children.map ze) false])]) (n:=2) ?_ ?_
     ·exact x8 (M:=[((0,0),(1,0)),((1,0),(2,0))]) rfl (SP rfl (SP rfl (AI (VS rfl) TT))) (AI (AI rfl (OL rfl)) (AI (AI rfl (OL rfl)) TT))
     refine yu (yz ?_)
     refine qb (v:=v7.2) rfl TT (fun h20=>?_) (fun h20=>?_)
     ·have h:=zu h20 h
      refine yu (yz ?_)
      obtain⟨v8,h21,h⟩:=bind_some h
      refine p3 (Wo h21) (S2 rfl rfl TT) ?_
      refine Xm ?_
      cases h
      exact AI (AI TT (AI rfl (NB rfl))) (AI TT (AI rfl (VS rfl)))
     ·have h:=y8 h20 h
      refine qx ?_
      refine p1 ?_ (Jb h)
      exact x8 (M:=[((0,0),(0,0))]) rfl (SP rfl TT) (AI (AI rfl (OL rfl)) TT)
    ·have h:=y8 h18 h
     refine qx ?_
     refine p1 ?_ (Jb h)
     exact x8 (M:=[((0,0),(1,0))]) rfl (SP rfl TT) (AI (AI rfl (OL rfl)) TT)
def yt(m:Option Nat)(a0:G_Node)(a1:Int)(a2:Int):Option (G_Node×Bool):=
 if(a0.f_Kind==22)=true then
  (zw m a0 2).bind fun v1=>
  some ((G_Node.mk v1.1.f_Kind v1.1.f_Value v1.1.f_Text v1.1.f_Start v1.1.f_End v1.1.f_NameStart v1.1.f_Children),v1.2)
 else
  if(a0.f_Kind==26)=true then
   zn m a0 a1 a2 (a0.f_Kind==26)
  else
   if(a0.f_Kind==25)=true then
    zn m a0 a1 a2 (a0.f_Kind==25)
   else
    if(a0.f_Kind==39)=true then
     zn m a0 a1 a2 (a0.f_Kind==39)
    else
     if(a0.f_Kind==31)=true then
      zn m a0 a1 a2 (a0.f_Kind==31)
     else
      if(a0.f_Kind==32)=true then
       zn m a0 a1 a2 (a0.f_Kind==32)
      else
       if(a0.f_Kind==37)=true then
        zn m a0 a1 a2 (a0.f_Kind==37)
       else
        zn m a0 a1 a2 (a0.f_Kind==35)
theorem z64{a0:G_Node}{a1:Int}{a2:Int}{m:Option Nat}{o:G_Node×Bool}(h:yt m a0 a1 a2=some o):LWp Tryz.prog Js 0 zc3 (zds a0 a1 a2 o) (qz 0 [.agg [i6 a0.f_Kind,i6 a0.f_Value,.str a0.f_Text,i6 a0.f_Start,i6 a0.f_End,i6 a0.f_NameStart,.isl 7 (a0.f_Children.map ze) false],i6 a1,i6 a2]) [] 0:=by
 unfold yt at h
 refine yu (yz ?_)
 refine yu ?_
 refine yu (yz ?_)
 refine Yg ?_
 refine yu (yz ?_)
 refine qb (v:=(a0.f_Kind==22)) rfl TT (fun h1=>?_) (fun h1=>?_)
 ·have h:=zu h1 h
  refine yu (yz ?_)
  obtain⟨v1,h2,h⟩:=bind_some h
  refine p3 (Wo h2) (S2 rfl rfl TT) ?_
  refine p1 (e:=[(6,.ptr (0,0) 0 0),(7,.bool v1.2)]) (L:=[((0,0),.one [i6 v1.1.f_Kind,i6 v1.1.f_Value,.str v1.1.f_Text,i6 v1.1.f_Start,i6 v1.1.f_End,i6 v1.1.f_NameStart,.isl 7 (v1.1.f_Children.map ze) false])]) (n:=1) ?_ ?_
  ·exact x8 (M:=[((0,0),(1,0))]) rfl (SP rfl (AI (VS rfl) TT)) (AI (AI rfl (OL rfl)) TT)
  refine Xm ?_
  cases h
  exact AI (AI TT (AI rfl (NB rfl))) (AI TT (AI rfl (VS rfl)))
 ·have h:=y8 h1 h
  refine yu ?_
  refine yu (yz ?_)
  refine p1 (e:=[(1,i6 a1),(2,i6 a2),(3,.ptr (0,0) 0 0),(6,.ptr (1,0) 0 0),(13,i6 a0.f_Kind),(20,.bool (a0.f_Kind==26))]) (L:=[((0,0),.one [i6 a0.f_Kind,i6 a0.f_Value,.str a0.f_Text,i6 a0.f_Start,i6 a0.f_End,i6 a0.f_NameStart,.isl 7 (a0.f_Children.map ze) false]),((1,0),.one [i6 0,i6 0,.str [],i6 0,i6 0,i6 0,.isl 7 (([]:List (List AVal)).map ze) true])]) (n:=2) ?_ ?_
  ·exact x8 (M:=[((0,0),(0,0)),((1,0),(1,0))]) rfl (S2 rfl rfl (SP rfl (SP rfl (S2 rfl rfl TT)))) (AI (AI rfl (OL rfl)) (AI (AI rfl (OL rfl)) TT))
  refine qb (v:=(a0.f_Kind==26)) rfl TT (fun h3=>?_) (fun h3=>?_)
  ·have h:=zu h3 h
   refine qx ?_
   refine p1 ?_ (wi h)
   exact x8 (M:=[((0,0),(0,0)),((1,0),(1,0))]) rfl (S2 rfl rfl (SP rfl (SP rfl (S2 rfl rfl TT)))) (AI (AI rfl (OL rfl)) (AI (AI rfl (OL rfl)) TT))
  ·have h:=y8 h3 h
   refine yu (yz ?_)
   refine qb (v:=(a0.f_Kind==25)) rfl TT (fun h4=>?_) (fun h4=>?_)
   ·have h:=zu h4 h
    refine qx ?_
    refine p1 ?_ (wi h)
    exact x8 (M:=[((0,0),(0,0)),((1,0),(1,0))]) rfl (S2 rfl rfl (SP rfl (SP rfl (S2 rfl rfl TT)))) (AI (AI rfl (OL rfl)) (AI (AI rfl (OL rfl)) TT))
   ·have h:=y8 h4 h
    refine yu (yz ?_)
    refine qb (v:=(a0.f_Kind==39)) rfl TT (fun h5=>?_) (fun h5=>?_)
    ·have h:=zu h5 h
     refine qx ?_
     refine p1 ?_ (wi h)
     exact x8 (M:=[((0,0),(0,0)),((1,0),(1,0))]) rfl (S2 rfl rfl (SP rfl (SP rfl (S2 rfl rfl TT)))) (AI (AI rfl (OL rfl)) (AI (AI rfl (OL rfl)) TT))
    ·have h:=y8 h5 h
     refine yu (yz ?_)
     refine qb (v:=(a0.f_Kind==31)) rfl TT (fun h6=>?_) (fun h6=>?_)
     ·have h:=zu h6 h
      refine qx ?_
      refine p1 ?_ (wi h)
      exact x8 (M:=[((0,0),(0,0)),((1,0),(1,0))]) rfl (S2 rfl rfl (SP rfl (SP rfl (S2 rfl rfl TT)))) (AI (AI rfl (OL rfl)) (AI (AI rfl (OL rfl)) TT))
     ·have h:=y8 h6 h
      refine yu (yz ?_)
      refine p1 (e:=[(1,i6 a1),(2,i6 a2),(3,.ptr (0,0) 0 0),(6,.ptr (1,0) 0 0),(13,i6 a0.f_Kind),(20,.bool (a0.f_Kind==32))]) (L:=[((0,0),.one [i6 a0.f_Kind,i6 a0.f_Value,.str a0.f_Text,i6 a0.f_Start,i6 a0.f_End,i6 a0.f_NameStart,.isl 7 (a0.f_Children.map ze) false]),((1,0),.one [i6 0,i6 0,.str [],i6 0,i6 0,i6 0,.isl 7 (([]:List (List AVal)).map ze) true])]) (n:=2) ?_ ?_
      ·exact x8 (M:=[((0,0),(0,0)),((1,0),(1,0))]) rfl (S2 rfl rfl (SP rfl (SP rfl (S2 rfl rfl TT)))) (AI (AI rfl (OL rfl)) (AI (AI rfl (OL rfl)) TT))
      refine qb (v:=(a0.f_Kind==32)) rfl TT (fun h7=>?_) (fun h7=>?_)
      ·have h:=zu h7 h
       refine qx ?_
       refine p1 ?_ (wi h)
       exact x8 (M:=[((0,0),(0,0)),((1,0),(1,0))]) rfl (S2 rfl rfl (SP rfl (SP rfl (S2 rfl rfl TT)))) (AI (AI rfl (OL rfl)) (AI (AI rfl (OL rfl)) TT))
      ·have h:=y8 h7 h
       refine yu (yz ?_)
       refine qb (v:=(a0.f_Kind==37)) rfl TT (fun h8=>?_) (fun h8=>?_)
       ·have h:=zu h8 h
        refine qx ?_
        refine p1 ?_ (wi h)
        exact x8 (M:=[((0,0),(0,0)),((1,0),(1,0))]) rfl (S2 rfl rfl (SP rfl (SP rfl (S2 rfl rfl TT)))) (AI (AI rfl (OL rfl)) (AI (AI rfl (OL rfl)) TT))
       ·have h:=y8 h8 h
        refine yz ?_
        refine p1 ?_ (wi h)
        exact x8 (M:=[((0,0),(0,0)),((1,0),(1,0))]) rfl (S2 rfl rfl (SP rfl (SP rfl (S2 rfl rfl TT)))) (AI (AI rfl (OL rfl)) (AI (AI rfl (OL rfl)) TT))
theorem zg6{a0:G_Node}{a1:Int}{a2:Int}{m:Option Nat}{o:G_Node×Bool}(h:yt m a0 a1 a2=some o):PFn Tryz.prog 42 [.agg [i6 a0.f_Kind,i6 a0.f_Value,.str a0.f_Text,i6 a0.f_Start,i6 a0.f_End,i6 a0.f_NameStart,.isl 7 (a0.f_Children.map ze) false],i6 a1,i6 a2] (.tup [.agg [i6 o.1.f_Kind,i6 o.1.f_Value,.str o.1.f_Text,i6 o.1.f_Start,i6 o.1.f_End,i6 o.1.f_NameStart,.isl 7 (o.1.f_Children.map ze) false],.bool o.2]):=PFn.ofFnW (L:=zgi) zcp zdm (NB rfl) rfl (z64 h)
def z8c:LCode:=(.seq (.seq (.region [Qm 10 8])
 (.cond (.t 10)
  .skip
  (.exit 0)))
 (.block 1
  (.seq (.seq (.region [Qf 11 3 7,
   Ql 12 1 11,
   Qm 13 1,
   Qo 14 (.bin .eql (.t 12) (.t 13)),
   Qm 15 14,
   Qe 16 4 7 (15,true),
   Qk 17 1 16 (15,true),
   Qn 18 2 (15,true),
   Qg 19 (.bin .eql (.t 17) (.t 18)) (15,true),
   Qp 20 15 19,
   Qm 21 20,
   Qe 22 0 7 (21,true),
   Qk 23 1 22 (21,true),
   Qg 24 (.call 41 [(.t 23)]) (21,true),
   Qp 25 21 24])
  (.cond (.t 25)
   (.seq (.region [Qo 6 (.mv (.c (.bool true)))])
   .ret)
   .skip))
  (.region [Qt 27 7 7,
   Qm 28 1,
   Qm 29 2,
   Qo 30 (.call 42 [(.t 27),(.t 28),(.t 29)]),
   Qm 26 30,
   Qo 31 (.ext 0 (.t 26)),
   Qo 32 (.ext 1 (.t 26)),
   ⟨none,.store 7 (.t 7) (.t 31),none⟩,
   Qm 8 32]))))
def z3p:LCode:=(.seq (.region [Qb 6])
 .ret)
def zbt:LCode:=(.seq (.region [Qo 3 (.box (.t 0)),
 Qb 6])
 (.seq (.region [Qt 9 7 3,
  Qo 7 (.alloc [(i6 0),(i6 0),(.str []),(i6 0),(i6 0),(i6 0),(.isl 7 [] true)]),
  ⟨none,.store 7 (.t 7) (.t 9),none⟩,
  Qo 8 (.mv (.c (.bool true)))])
 (.seq (.block 0
  (.loop
   z8c))
 z3p)))
def Y3:Lay:=⟨33,[],false⟩
def z7i:List LRes:=[.t 6]
def zgx:LFn:=⟨3,Y3,zbt,z7i⟩
theorem zco:wu Tryz.prog [] 17=some zgx:=by kernel_rfl
theorem zdt:Xv Tryz.prog 17:=⟨_,Tryz.func17,rfl,rfl⟩
def zb8(a0:G_Node)(a1:Int)(a2:Int)(o:Bool):Exit→Env→AHeap→Nat→Prop:=z36 z7i (vj (.bool o))
def Vn(a1:Int)(a2:Int)(s:(Bool×Int×Int×(List UInt8)×Int×Int×Int×(List (List AVal)))):Env:=[(1,i6 a1),(2,i6 a2),(7,.ptr (0,0) 0 0),(8,.bool s.1)]
def z05(a1:Int)(a2:Int)(s:(Bool×Int×Int×(List UInt8)×Int×Int×Int×(List (List AVal)))):AHeap:=[((0,0),.one [i6 s.2.1,i6 s.2.2.1,.str s.2.2.2.1,i6 s.2.2.2.2.1,i6 s.2.2.2.2.2.1,i6 s.2.2.2.2.2.2.1,.isl 7 (s.2.2.2.2.2.2.2.map ze) false])]
def z3b(a0:G_Node)(a1:Int)(a2:Int)(o:Bool):Exit→Env→AHeap→Nat→Prop:=(uj 0 (z9o Tryz.prog Y3 0 z3p (zb8 a0 a1 a2 o)))
def ql(m:Option Nat):Option Bool:=
 some false
def y4(m:Option Nat)(a1:Int)(a2:Int)(v3:Bool)(v4:Int)(v5:Int)(v6:List UInt8)(v7:Int)(v8:Int)(v9:Int)(v10:List (List AVal)):Option ((Bool×Int×Int×(List UInt8)×Int×Int×Int×(List (List AVal))) ⊕ Bool):=
 if v3=true then
  (if(((v7==a1)&&(v8==a2))==true)=true then yn m v4 else some default).bind fun v13=>
  if(((v7==a1)&&(v8==a2))&&v13)=true then
   Option.map Sum.inr (
    some true)
  else
   (yt m (G_Node.mk v4 v5 v6 v7 v8 v9 v10) a1 a2).bind fun v14=>
   some (.inl (v14.2,v14.1.f_Kind,v14.1.f_Value,v14.1.f_Text,v14.1.f_Start,v14.1.f_End,v14.1.f_NameStart,v14.1.f_Children))
 else
  Option.map Sum.inr (
   ql m)
def qk(m:Option Nat)(a1:Int)(a2:Int)(v3:Bool)(v4:Int)(v5:Int)(v6:List UInt8)(v7:Int)(v8:Int)(v9:Int)(v10:List (List AVal)):Option Bool:=Wy m (fun(s:(Bool×Int×Int×(List UInt8)×Int×Int×Int×(List (List AVal))))=>y4 m a1 a2 s.1 s.2.1 s.2.2.1 s.2.2.2.1 s.2.2.2.2.1 s.2.2.2.2.2.1 s.2.2.2.2.2.2.1 s.2.2.2.2.2.2.2) (v3,v4,v5,v6,v7,v8,v9,v10)
theorem z8e{a0:G_Node}{a1:Int}{a2:Int}{m:Option Nat}{o:Bool}(h:ql m=some o) :
 LWp Tryz.prog Y3 0 z3p (zb8 a0 a1 a2 o) [] [] 0:=by
 unfold ql at h
 refine yu (yz ?_)
 refine Xm ?_
 cases h
 exact AI TT (AI rfl (VS rfl))
theorem z4t{a0:G_Node}{a1:Int}{a2:Int}{v3:Bool}{v4:Int}{v5:Int}{v6:List UInt8}{v7:Int}{v8:Int}{v9:Int}{v10:List (List AVal)}{m:Option Nat}{o:(Bool×Int×Int×(List UInt8)×Int×Int×Int×(List (List AVal))) ⊕ Bool}(h:y4 m a1 a2 v3 v4 v5 v6 v7 v8 v9 v10=some o) :
 LWp Tryz.prog Y3 0 z8c (z6d 0 1 (Vn a1 a2) (z05 a1 a2) (z3b a0 a1 a2) o) [(1,i6 a1),(2,i6 a2),(7,.ptr (0,0) 0 0),(8,.bool v3)] [((0,0),.one [i6 v4,i6 v5,.str v6,i6 v7,i6 v8,i6 v9,.isl 7 (v10.map ze) false])] 1:=by
 unfold y4 at h
 refine yu ?_
 refine yu (yz ?_)
 refine qb (v:=v3) rfl TT (fun h8=>?_) (fun h8=>?_)
 ·have h:=zu h8 h
  refine qx ?_
  refine Yg ?_
  refine yu ?_
  refine yu (yz ?_)
  refine AI (fun hp=>hp) ?_
  refine AI (fun hp=>(AI hp hp)) ?_
  refine AI (fun hc=>(bqt hc)) ?_
  refine AI (fun hp=>hp) ?_
  obtain⟨v13,h9,h⟩:=bind_some h
  refine Or.inl (EX (.bool v13) (AI (fun hp=>AI hp (p3 (zfp (zu hp h9)) (AI (VS rfl) TT) (AI rfl (AI rfl rfl)))) ?_))
  refine AI (fun hc=>(bqt hc)) ?_
  refine p1 (e:=[(1,i6 a1),(2,i6 a2),(7,.ptr (0,0) 0 0),(25,.bool (((v7==a1)&&(v8==a2))&&v13))]) (L:=[((0,0),.one [i6 v4,i6 v5,.str v6,i6 v7,i6 v8,i6 v9,.isl 7 (v10.map ze) false])]) (n:=1) ?_ ?_
  ·exact x8 (M:=[((0,0),(0,0))]) rfl (S2 rfl rfl (SP rfl (AI (VS rfl) TT))) (AI (AI rfl (OL rfl)) TT)
  refine qb (v:=(((v7==a1)&&(v8==a2))&&v13)) rfl TT (fun h10=>?_) (fun h10=>?_)
  ·have h:=zu h10 h
   refine yu (yz ?_)
   refine Xm ?_
   obtain⟨o,hq,rfl⟩:=p2.1 h
   replace h:=hq;clear hq
   refine AI nofun ?_
   cases h
   exact AI TT (AI rfl (VS rfl))
  ·have h:=y8 h10 h
   refine qx ?_
   refine yz ?_
   obtain⟨v14,h11,h⟩:=bind_some h
   refine p3 (zg6 h11) (S2 rfl rfl (AI (VS rfl) TT)) ?_
   cases h
   exact AI rfl (x8 (M:=[((0,0),(0,0))]) rfl (S2 rfl rfl (SP rfl (AI (VS rfl) TT))) (AI (AI rfl (OL rfl)) TT))
 ·have h:=y8 h8 h
  refine zed ?_
  obtain⟨o,hq,rfl⟩:=p2.1 h
  replace h:=hq;clear hq
  refine AI nofun ?_
  refine p1 ?_ (z8e h)
  exact x8 (M:=[]) rfl TT TT
theorem z9h{a0:G_Node}{a1:Int}{a2:Int}{v3:Bool}{v4:Int}{v5:Int}{v6:List UInt8}{v7:Int}{v8:Int}{v9:Int}{v10:List (List AVal)}{m:Option Nat}{o:Bool}(h:qk m a1 a2 v3 v4 v5 v6 v7 v8 v9 v10=some o) :
 LWp Tryz.prog Y3 0 (.loop z8c) (uj 0 (z9o Tryz.prog Y3 0 z3p (zb8 a0 a1 a2 o))) [(1,i6 a1),(2,i6 a2),(7,.ptr (0,0) 0 0),(8,.bool v3)] [((0,0),.one [i6 v4,i6 v5,.str v6,i6 v7,i6 v8,i6 v9,.isl 7 (v10.map ze) false])] 1:=
 W3 (m:=m) (s:=((v3,v4,v5,v6,v7,v8,v9,v10):(Bool×Int×Int×(List UInt8)×Int×Int×Int×(List (List AVal))))) (r:=o) (fun(s:(Bool×Int×Int×(List UInt8)×Int×Int×Int×(List (List AVal))))=>y4 m a1 a2 s.1 s.2.1 s.2.2.1 s.2.2.2.1 s.2.2.2.2.1 s.2.2.2.2.2.1 s.2.2.2.2.2.2.1 s.2.2.2.2.2.2.2) (Vn a1 a2) (z05 a1 a2) (z3b a0 a1 a2) (fun s o h=>z4t h) h
def ye(m:Option Nat)(a0:G_Node)(a1:Int)(a2:Int):Option Bool:=
 qk m a1 a2 true a0.f_Kind a0.f_Value a0.f_Text a0.f_Start a0.f_End a0.f_NameStart a0.f_Children
theorem z70{a0:G_Node}{a1:Int}{a2:Int}{m:Option Nat}{o:Bool}(h:ye m a0 a1 a2=some o):LWp Tryz.prog Y3 0 zbt (zb8 a0 a1 a2 o) (qz 0 [.agg [i6 a0.f_Kind,i6 a0.f_Value,.str a0.f_Text,i6 a0.f_Start,i6 a0.f_End,i6 a0.f_NameStart,.isl 7 (a0.f_Children.map ze) false],i6 a1,i6 a2]) [] 0:=by
 unfold ye at h
 refine yu (yz ?_)
 refine yu (yz ?_)
 refine yu ?_
 refine Yg ?_
 refine p1 ?_ (z9h h)
 exact x8 (M:=[((0,0),(1,0))]) rfl (S2 rfl rfl (SP rfl (AI (VS rfl) TT))) (AI (AI rfl (OL rfl)) TT)
theorem zha{a0:G_Node}{a1:Int}{a2:Int}{m:Option Nat}{o:Bool}(h:ye m a0 a1 a2=some o):PFn Tryz.prog 17 [.agg [i6 a0.f_Kind,i6 a0.f_Value,.str a0.f_Text,i6 a0.f_Start,i6 a0.f_End,i6 a0.f_NameStart,.isl 7 (a0.f_Children.map ze) false],i6 a1,i6 a2] (.bool o):=PFn.ofFnW (L:=zgx) zco zdt (NB rfl) rfl (z70 h)
def z6h:LCode:=(.seq (.seq (.region [Qm 6 5,
 Qm 7 0,
 Qo 8 (.len false (.t 7)),
 Qo 9 (.bin .lss (.t 6) (.t 8))])
 (.cond (.t 9)
  .skip
  (.exit 0)))
 (.seq (.block 1
  (.seq (.region [Qm 12 0,
   Qm 13 5,
   Qo 14 (.iaddr 1 (.t 12) (.t 13)),
   Ql 15 1 14,
   Qm 16 1,
   Qo 17 (.bin .eql (.t 15) (.t 16))])
  (.cond (.t 17)
   (.seq (.region [Qo 4 (.mv (.c (.bool true)))])
   .ret)
   .skip)))
 (.region [Qm 10 5,
  Qo 11 (.bin .add (.t 10) (.c (i6 1))),
  Qm 5 11])))
def z2u:LCode:=(.seq (.region [Qb 4])
 .ret)
def zce:LCode:=(.seq (.region [Qb 4])
 (.seq (.seq (.region [Qi 5 0])
 (.block 0
  (.loop
   z6h)))
 z2u))
def Zp:Lay:=⟨18,[],false⟩
def z8y:List LRes:=[.t 4]
def zfq:LFn:=⟨2,Zp,zce,z8y⟩
theorem zeb:wu Tryz.prog [] 43=some zfq:=by kernel_rfl
theorem zdp:Xv Tryz.prog 43:=⟨_,Tryz.func43,rfl,rfl⟩
def za4(a0:List Int)(a1:Int)(o:Bool):Exit→Env→AHeap→Nat→Prop:=z36 z8y (vj (.bool o))
def Vp(a0:List Int)(a1:Int)(s:Int):Env:=[(0,.isl 1 (a0.map xh) false),(1,i6 a1),(5,i6 s)]
def Ug(a0:List Int)(a1:Int)(s:Int):AHeap:=[]
def z3c(a0:List Int)(a1:Int)(o:Bool):Exit→Env→AHeap→Nat→Prop:=(uj 0 (z9o Tryz.prog Zp 0 z2u (za4 a0 a1 o)))
def yl(m:Option Nat):Option Bool:=
 some false
def zp(m:Option Nat)(a0:List Int)(a1:Int)(v1:Int):Option (Int ⊕ Bool):=
 if(decide (v1<((a0.map xh).length:Int)))=true then
  if(0:Int)≤v1∧v1<((a0.map xh).length:Int) then
  if((a0.getD v1.toNat default)==a1)=true then
   Option.map Sum.inr (
    some true)
  else
   some (.inl (W (v1+1)))
  else none
 else
  Option.map Sum.inr (
   yl m)
def y6(m:Option Nat)(a0:List Int)(a1:Int)(v1:Int):Option Bool:=Wy m (fun(s:Int)=>zp m a0 a1 s) v1
theorem z7w{a0:List Int}{a1:Int}{m:Option Nat}{o:Bool}(h:yl m=some o) :
 LWp Tryz.prog Zp 0 z2u (za4 a0 a1 o) [] [] 0:=by
 unfold yl at h
 refine yu (yz ?_)
 refine Xm ?_
 cases h
 exact AI TT (AI rfl (VS rfl))
theorem z54{a0:List Int}{a1:Int}{v1:Int}{m:Option Nat}{o:Int ⊕ Bool}(h:zp m a0 a1 v1=some o) :
 LWp Tryz.prog Zp 0 z6h (z6d 0 0 (Vp a0 a1) (Ug a0 a1) (z3c a0 a1) o) [(0,.isl 1 (a0.map xh) false),(1,i6 a1),(5,i6 v1)] [] 0:=by
 unfold zp at h
 refine yu ?_
 refine yu (yz ?_)
 refine qb (v:=(decide (v1<((a0.map xh).length:Int)))) rfl TT (fun h7=>?_) (fun h7=>?_)
 ·have h:=zu h7 h
  refine qx ?_
  refine yu ?_
  refine Yg ?_
  refine yu (yz ?_)
  obtain⟨h8,h⟩:=qp h
  refine AI h8 ?_
  refine EX (xh (a0.getD v1.toNat default)) (AI (Kt xh _ _ (xj xh h8)) (AI (AI (js h8) (NB rfl)) ?_))
  refine p1 (e:=[(0,.isl 1 (a0.map xh) false),(1,i6 a1),(5,i6 v1),(17,.bool ((a0.getD v1.toNat default)==a1))]) (L:=[]) (n:=0) ?_ ?_
  ·exact x8 (M:=[]) rfl (S4 rfl rfl rfl rfl TT) TT
  refine qb (v:=((a0.getD v1.toNat default)==a1)) rfl TT (fun h9=>?_) (fun h9=>?_)
  ·have h:=zu h9 h
   refine yu (yz ?_)
   refine Xm ?_
   obtain⟨o,hq,rfl⟩:=p2.1 h
   replace h:=hq;clear hq
   refine AI nofun ?_
   cases h
   exact AI TT (AI rfl (VS rfl))
  ·have h:=y8 h9 h
   refine qx ?_
   refine yz ?_
   cases h
   exact AI rfl (x8 (M:=[]) rfl (S2 rfl rfl (AI (VS rfl) TT)) TT)
 ·have h:=y8 h7 h
  refine zed ?_
  obtain⟨o,hq,rfl⟩:=p2.1 h
  replace h:=hq;clear hq
  refine AI nofun ?_
  refine p1 ?_ (z7w h)
  exact x8 (M:=[]) rfl TT TT
theorem z81{a0:List Int}{a1:Int}{v1:Int}{m:Option Nat}{o:Bool}(h:y6 m a0 a1 v1=some o) :
 LWp Tryz.prog Zp 0 (.loop z6h) (uj 0 (z9o Tryz.prog Zp 0 z2u (za4 a0 a1 o))) [(0,.isl 1 (a0.map xh) false),(1,i6 a1),(5,i6 v1)] [] 0:=
 W3 (m:=m) (s:=(v1:Int)) (r:=o) (fun(s:Int)=>zp m a0 a1 s) (Vp a0 a1) (Ug a0 a1) (z3c a0 a1) (fun s o h=>z54 h) h
def zz(m:Option Nat)(a0:List Int)(a1:Int):Option Bool:=
 y6 m a0 a1 0
theorem z93{a0:List Int}{a1:Int}{m:Option Nat}{o:Bool}(h:zz m a0 a1=some o):LWp Tryz.prog Zp 0 zce (za4 a0 a1 o) (qz 0 [.isl 1 (a0.map xh) false,i6 a1]) [] 0:=by
 unfold zz at h
 refine yu (yz ?_)
 refine yu ?_
 refine yu (yz ?_)
 refine Yg ?_
 refine p1 ?_ (z81 h)
 exact x8 (M:=[]) rfl (S2 rfl rfl (AI (VS rfl) TT)) TT
theorem zca{a0:List Int}{a1:Int}{m:Option Nat}{o:Bool}(h:zz m a0 a1=some o):PFn Tryz.prog 43 [.isl 1 (a0.map xh) false,i6 a1] (.bool o):=PFn.ofFnW (L:=zfq) zeb zdp (NB rfl) rfl (z93 h)
def z2v:LCode:=(.cond (.t 28)
 (.region [Qi 7 0])
 (.seq (.region [Qo 37 (.bin .eql (.t 25) (.c (i6 40))),
  Qm 36 37])
 (.cond (.t 36)
  (.seq (.region [Qf 38 2 3,
   Ql 39 1 38,
   Qo 40 (.bin .neq (.t 39) (.c (.str [42])))])
  (.cond (.t 40)
   (.region [Qi 7 0])
   .skip))
  (.seq (.region [Qo 42 (.bin .eql (.t 25) (.c (i6 30))),
   Qm 41 42])
  (.cond (.t 41)
   (.seq (.region [Qi 7 0])
   (.seq (.region [Qf 43 6 3,
    Ql 44 1 43,
    Qo 45 (.len false (.t 44)),
    Qo 46 (.bin .gtr (.t 45) (.c (i6 0))),
    Qm 47 46,
    Qe 48 6 3 (47,true),
    Qk 49 1 48 (47,true),
    Qg 50 (.iaddr 7 (.t 49) (.c (i6 0))) (47,true),
    Qe 51 0 50 (47,true),
    Qk 52 1 51 (47,true),
    Qg 53 (.bin .eql (.t 52) (.c (i6 17))) (47,true),
    Qp 54 47 53,
    Qm 55 54,
    Qe 56 6 3 (55,true),
    Qk 57 1 56 (55,true),
    Qg 58 (.iaddr 7 (.t 57) (.c (i6 0))) (55,true),
    Qe 59 3 58 (55,true),
    Qk 60 1 59 (55,true),
    Qn 61 1 (55,true),
    Qg 62 (.bin .eql (.t 60) (.t 61)) (55,true),
    Qn 63 62 (55,true),
    Qe 64 6 3 (63,true),
    Qk 65 1 64 (63,true),
    Qg 66 (.iaddr 7 (.t 65) (.c (i6 0))) (63,true),
    Qe 67 4 66 (63,true),
    Qk 68 1 67 (63,true),
    Qn 69 2 (63,true),
    Qg 70 (.bin .eql (.t 68) (.t 69)) (63,true),
    Qg 71 (.pick (.t 63) (.t 70) (.c (.bool false))) (55,true),
    Qg 72 (.un .not (.t 71)) (55,true),
    Qp 73 55 72])
   (.cond (.t 73)
    (.region [Qi 7 1])
    .skip)))
   (.seq (.region [Qo 75 (.bin .eql (.t 25) (.c (i6 33))),
    Qm 74 75])
   (.cond (.t 74)
    (.seq (.region [Qf 76 6 3,
     Ql 77 1 76,
     Qo 78 (.len false (.t 77)),
     Qo 79 (.bin .gtr (.t 78) (.c (i6 1))),
     Qm 80 79,
     Qe 81 6 3 (80,true),
     Qk 82 1 81 (80,true),
     Qg 83 (.iaddr 7 (.t 82) (.c (i6 1))) (80,true),
     Qe 84 6 83 (80,true),
     Qk 85 1 84 (80,true),
     Qg 86 (.len false (.t 85)) (80,true),
     Qg 87 (.bin .gtr (.t 86) (.c (i6 0))) (80,true),
     Qp 88 80 87])
    (.cond (.t 88)
     (.seq (.region [Qf 89 6 3,
      Ql 90 1 89,
      Qo 91 (.iaddr 7 (.t 90) (.c (i6 1))),
      Qf 92 6 91,
      Ql 93 1 92,
      Qo 94 (.iaddr 7 (.t 93) (.c (i6 0))),
      Qt 95 7 94,
      Qm 96 1,
      Qm 97 2,
      Qo 98 (.call 18 [(.t 95),(.t 96),(.t 97)]),
      Qm 6 98])
     .ret)
     .skip))
    .skip)))))))
def K8:LCode:=(.seq (.region [Qm 99 7,
 Qo 100 (.bin .geq (.t 99) (.c (i6 0))),
 Qm 101 100,
 Qn 102 7 (101,true),
 Qe 103 6 3 (101,true),
 Qk 104 1 103 (101,true),
 Qg 105 (.len false (.t 104)) (101,true),
 Qg 106 (.bin .lss (.t 102) (.t 105)) (101,true),
 Qp 107 101 106,
 Qm 108 107,
 Qe 109 6 3 (108,true),
 Qk 110 1 109 (108,true),
 Qn 111 7 (108,true),
 Qg 112 (.iaddr 7 (.t 110) (.t 111)) (108,true),
 Qg 113 (.load true 7 (.t 112)) (108,true),
 Qn 114 1 (108,true),
 Qn 115 2 (108,true),
 Qg 116 (.call 18 [(.t 113),(.t 114),(.t 115)]) (108,true),
 Qp 117 108 116,
 Qm 6 117])
 .ret)
def z43:LCode:=(.seq (.region [Qo 3 (.box (.t 0)),
 Qb 6])
 (.seq (.seq (.region [Qf 8 3 3,
  Ql 9 1 8,
  Qm 10 1,
  Qo 11 (.bin .eql (.t 9) (.t 10)),
  Qm 12 11,
  Qe 13 4 3 (12,true),
  Qk 14 1 13 (12,true),
  Qn 15 2 (12,true),
  Qg 16 (.bin .eql (.t 14) (.t 15)) (12,true),
  Qp 17 12 16,
  Qm 18 17,
  Qg 19 (.mkSl true 1 [(i6 0)] 10 [(0,(.c (i6 17))),(1,(.c (i6 27))),(2,(.c (i6 28))),(3,(.c (i6 29))),(4,(.c (i6 30))),(5,(.c (i6 31))),(6,(.c (i6 32))),(7,(.c (i6 33))),(8,(.c (i6 39))),(9,(.c (i6 40)))]) (18,true),
  Qe 20 0 3 (18,true),
  Qk 21 1 20 (18,true),
  Qg 22 (.call 43 [(.t 19),(.t 21)]) (18,true),
  Qp 23 18 22])
 (.cond (.t 23)
  (.seq (.region [Qo 6 (.mv (.c (.bool true)))])
  .ret)
  .skip))
 (.seq (.region [Qo 7 (.mv (.c (i6 (-1))))])
 (.seq (.seq (.region [Qf 24 0 3,
  Ql 25 1 24])
 (.block 0
  (.seq (.region [Qo 27 (.bin .eql (.t 25) (.c (i6 22))),
   Qm 26 27])
  (.cond (.t 26)
   (.region [Qi 7 2])
   (.seq (.seq (.region [Qo 29 (.bin .eql (.t 25) (.c (i6 26))),
    Qm 28 29])
   (.cond (.t 28)
    .skip
    (.seq (.region [Qo 30 (.bin .eql (.t 25) (.c (i6 25))),
     Qm 28 30])
    (.cond (.t 28)
     .skip
     (.seq (.region [Qo 31 (.bin .eql (.t 25) (.c (i6 39))),
      Qm 28 31])
     (.cond (.t 28)
      .skip
      (.seq (.region [Qo 32 (.bin .eql (.t 25) (.c (i6 31))),
       Qm 28 32])
      (.cond (.t 28)
       .skip
       (.seq (.region [Qo 33 (.bin .eql (.t 25) (.c (i6 32))),
        Qm 28 33])
       (.cond (.t 28)
        .skip
        (.seq (.region [Qo 34 (.bin .eql (.t 25) (.c (i6 37))),
         Qm 28 34])
        (.cond (.t 28)
         .skip
         (.region [Qo 35 (.bin .eql (.t 25) (.c (i6 35))),
          Qm 28 35])))))))))))))
   z2v)))))
 K8))))
def uv:Lay:=⟨118,[],false⟩
def z15:List LRes:=[.t 6]
def z6c:LFn:=⟨3,uv,z43,z15⟩
theorem z67:wu Tryz.prog [] 18=some z6c:=by kernel_rfl
theorem z6e:Xv Tryz.prog 18:=⟨_,Tryz.func18,rfl,rfl⟩
def z6(rec0:G_Node→Int→Int→Option Bool)(m:Option Nat)(a0:G_Node)(a1:Int)(a2:Int)(v10:Int):Option Bool:=
 if((((decide (v10≥0))&&(decide (v10<((a0.f_Children.map ze).length:Int))))==true)=true→(0:Int)≤v10∧v10<((a0.f_Children.map ze).length:Int)) then
 ((if(((decide (v10≥0))&&(decide (v10<((a0.f_Children.map ze).length:Int))))==true)=true then(xb (a0.f_Children.getD v10.toNat default)) else some default)).bind fun v11=>
 (if(((decide (v10≥0))&&(decide (v10<((a0.f_Children.map ze).length:Int))))==true)=true then rec0 v11 a1 a2 else some default).bind fun v12=>
 some (((decide (v10≥0))&&(decide (v10<((a0.f_Children.map ze).length:Int))))&&v12)
 else none
def z7(rec0:G_Node→Int→Int→Option Bool)(m:Option Nat)(a0:G_Node)(a1:Int)(a2:Int)(v2:Bool):Option Bool:=
 if v2=true then
  z6 rec0 m a0 a1 a2 0
 else
  if(a0.f_Kind==40)=true then
   if(!(a0.f_Text==([42]:List UInt8)))=true then
    z6 rec0 m a0 a1 a2 0
   else
    z6 rec0 m a0 a1 a2 (-1)
  else
   if(a0.f_Kind==30)=true then
    if(((decide (((a0.f_Children.map ze).length:Int) > 0))==true)=true→(0:Int)≤0∧0<((a0.f_Children.map ze).length:Int)) then
    ((if((decide (((a0.f_Children.map ze).length:Int) > 0))==true)=true then(xb (a0.f_Children.getD ((0:Int).toNat) default)) else some default)).bind fun v3=>
    if((((decide (((a0.f_Children.map ze).length:Int) > 0))&&(v3.f_Kind==17))==true)=true→(0:Int)≤0∧0<((a0.f_Children.map ze).length:Int)) then
    ((if(((decide (((a0.f_Children.map ze).length:Int) > 0))&&(v3.f_Kind==17))==true)=true then(xb (a0.f_Children.getD ((0:Int).toNat) default)) else some default)).bind fun v4=>
    if(((((decide (((a0.f_Children.map ze).length:Int) > 0))&&(v3.f_Kind==17))==true)&&((v4.f_Start==a1)==true))=true→(0:Int)≤0∧0<((a0.f_Children.map ze).length:Int)) then
    ((if((((decide (((a0.f_Children.map ze).length:Int) > 0))&&(v3.f_Kind==17))==true)&&((v4.f_Start==a1)==true))=true then(xb (a0.f_Children.getD ((0:Int).toNat) default)) else some default)).bind fun v5=>
    if(((decide (((a0.f_Children.map ze).length:Int) > 0))&&(v3.f_Kind==17))&&(!((v4.f_Start==a1)&&(v5.f_End==a2))))=true then
     z6 rec0 m a0 a1 a2 1
    else
     z6 rec0 m a0 a1 a2 0
    else none
    else none
    else none
   else
    if(a0.f_Kind==33)=true then
     if(((decide (((a0.f_Children.map ze).length:Int) > 1))==true)=true→(0:Int)≤1∧1<((a0.f_Children.map ze).length:Int)) then
     ((if((decide (((a0.f_Children.map ze).length:Int) > 1))==true)=true then(xb (a0.f_Children.getD ((1:Int).toNat) default)) else some default)).bind fun v6=>
     if((decide (((a0.f_Children.map ze).length:Int) > 1))&&(decide (((v6.f_Children.map ze).length:Int) > 0)))=true then
      if(0:Int)≤1∧1<((a0.f_Children.map ze).length:Int) then
      ((xb (a0.f_Children.getD ((1:Int).toNat) default))).bind fun v7=>
      if(0:Int)≤0∧0<((v7.f_Children.map ze).length:Int) then
      ((xb (v7.f_Children.getD ((0:Int).toNat) default))).bind fun v8=>
      (rec0 v8 a1 a2).bind fun v9=>
      some v9
      else none
      else none
     else
      z6 rec0 m a0 a1 a2 (-1)
     else none
    else
     z6 rec0 m a0 a1 a2 (-1)
def z1h(a0:G_Node)(a1:Int)(a2:Int)(o:Bool):Exit→Env→AHeap→Nat→Prop:=z36 z15 (zak 3 3 (.bool o) [])
abbrev Hr0(rec0:G_Node→Int→Int→Option Bool):Prop:=∀ {a0:G_Node} {a1:Int} {a2:Int} {o:Bool},rec0 a0 a1 a2=some o→ACalls Tryz.prog 18 [.agg [i6 a0.f_Kind,i6 a0.f_Value,.str a0.f_Text,i6 a0.f_Start,i6 a0.f_End,i6 a0.f_NameStart,.isl 7 (a0.f_Children.map ze) false],i6 a1,i6 a2] [] 3 (Xp 3 (.bool o) [])
theorem xk{rec0:G_Node→Int→Int→Option Bool}(hrec0:Hr0 rec0){a0:G_Node}{a1:Int}{a2:Int}{v10:Int}{m:Option Nat}{o:Bool}(h:z6 rec0 m a0 a1 a2 v10=some o) :
 LWp Tryz.prog uv 3 K8 (z1h a0 a1 a2 o) [(1,i6 a1),(2,i6 a2),(3,.ptr (3,0) 0 0),(7,i6 v10)] [((3,0),.one [i6 a0.f_Kind,i6 a0.f_Value,.str a0.f_Text,i6 a0.f_Start,i6 a0.f_End,i6 a0.f_NameStart,.isl 7 (a0.f_Children.map ze) false])] 4:=by
 unfold z6 at h
 refine yu (yz ?_)
 refine AI (fun hp=>hp) ?_
 refine AI (fun hp=>hp) ?_
 refine AI (fun hp=>(AI hp hp)) ?_
 refine AI (fun hc=>(bqt hc)) ?_
 refine AI (fun hp=>hp) ?_
 obtain⟨h30,h⟩:=qp h
 refine AI (fun hp=>(AI (AI hp hp) (h30 hp))) ?_
 obtain⟨v11,h31,h⟩:=bind_some h
 refine EX (qd v11) (AI (fun hp=>AI (yg (xj ze (h30 hp)) (zu hp h31)) (AI hp (AI (js (h30 hp)) (NB rfl)))) ?_)
 obtain⟨v12,h32,h⟩:=bind_some h
 refine Or.inl (EX (.bool v12) (AI (fun hp=>AI (AI hp (AI hp hp)) (ACalls.same rfl (z9t (k:=3) (m:=0) (L':=[]) (rest:=[((3,0),.one [i6 a0.f_Kind,i6 a0.f_Value,.str a0.f_Text,i6 a0.f_Start,i6 a0.f_End,i6 a0.f_NameStart,.isl 7 (a0.f_Children.map ze) false])]) (R':=.bool v12) [] (hrec0 (zu hp h32)) rfl rfl rfl (S2 rfl rfl (AI (VS rfl) TT)) TT (Y2 _ rfl) TT rfl (AI rfl (HeapTo.get (AI (AI rfl (OL rfl)) TT)))))) ?_))
 refine AI (fun hc=>(bqt hc)) ?_
 refine p1 (e:=[(6,.bool (((decide (v10≥0))&&(decide (v10<((a0.f_Children.map ze).length:Int))))&&v12))]) (L:=[]) (n:=3) ?_ ?_
 ·exact x8 (M:=[]) rfl (AI (VS rfl) TT) TT
 refine Xm ?_
 cases h
 exact AI TT (zij (n':=3) [] [] rfl rfl (VS rfl) TT)
set_option maxHeartbeats 4000000 in
theorem xy{rec0:G_Node→Int→Int→Option Bool}(hrec0:Hr0 rec0){a0:G_Node}{a1:Int}{a2:Int}{v2:Bool}{m:Option Nat}{o:Bool}(h:z7 rec0 m a0 a1 a2 v2=some o) :
 LWp Tryz.prog uv 3 z2v (uj 0 (z9o Tryz.prog uv 3 K8 (z1h a0 a1 a2 o))) [(1,i6 a1),(2,i6 a2),(3,.ptr (3,0) 0 0),(7,i6 (-1)),(25,i6 a0.f_Kind),(28,.bool v2)] [((3,0),.one [i6 a0.f_Kind,i6 a0.f_Value,.str a0.f_Text,i6 a0.f_Start,i6 a0.f_End,i6 a0.f_NameStart,.isl 7 (a0.f_Children.map ze) false])] 4:=by
 unfold z7 at h
 refine qb (v:=v2) rfl TT (fun h10=>?_) (fun h10=>?_)
 ·have h:=zu h10 h
  refine yz ?_
  refine p1 ?_ (xk hrec0 h)
  exact x8 (M:=[((3,0),(3,0))]) rfl (S2 rfl rfl (SP rfl (AI (VS rfl) TT))) (AI (AI rfl (OL rfl)) TT)
 ·have h:=y8 h10 h
  refine yu (yz ?_)
  refine qb (v:=(a0.f_Kind==40)) rfl TT (fun h11=>?_) (fun h11=>?_)
  ·have h:=zu h11 h
   refine yu (yz ?_)
   refine qb (v:=(!(a0.f_Text==([42]:List UInt8)))) rfl TT (fun h12=>?_) (fun h12=>?_)
   ·have h:=zu h12 h
    refine yz ?_
    refine p1 ?_ (xk hrec0 h)
    exact x8 (M:=[((3,0),(3,0))]) rfl (S2 rfl rfl (SP rfl (AI (VS rfl) TT))) (AI (AI rfl (OL rfl)) TT)
   ·have h:=y8 h12 h
    refine qx ?_
    refine p1 ?_ (xk hrec0 h)
    exact x8 (M:=[((3,0),(3,0))]) rfl (S2 rfl rfl (SP rfl (AI (VS rfl) TT))) (AI (AI rfl (OL rfl)) TT)
  ·have h:=y8 h11 h
   refine yu (yz ?_)
   refine qb (v:=(a0.f_Kind==30)) rfl TT (fun h13=>?_) (fun h13=>?_)
   ·have h:=zu h13 h
    refine yu (yz ?_)
    refine yu (yz ?_)
    refine AI (fun hp=>hp) ?_
    obtain⟨h14,h⟩:=qp h
    refine AI (fun hp=>(AI hp (h14 hp))) ?_
    refine AI (fun hp=>hp) ?_
    obtain⟨v3,h15,h⟩:=bind_some h
    refine EX (qd v3) (AI (fun hp=>AI (yg (xj ze (h14 hp)) (zu hp h15)) (AI hp (AI (js (h14 hp)) (NB rfl)))) ?_)
    refine AI (fun hp=>hp) ?_
    refine AI (fun hc=>(bqt hc)) ?_
    refine AI (fun hp=>hp) ?_
    obtain⟨h16,h⟩:=qp h
    refine AI (fun hp=>(AI hp (h16 hp))) ?_
    refine AI (fun hp=>hp) ?_
    obtain⟨v4,h17,h⟩:=bind_some h
    refine EX (qd v4) (AI (fun hp=>AI (yg (xj ze (h16 hp)) (zu hp h17)) (AI hp (AI (js (h16 hp)) (NB rfl)))) ?_)
    refine AI (fun hp=>(AI hp hp)) ?_
    refine AI (fun hp=>hp) ?_
    refine AI (fun hp=>hp) ?_
    obtain⟨h18,h⟩:=qp h
    refine AI (fun hp=>(AI hp (h18 hp))) ?_
    refine AI (fun hp=>hp) ?_
    obtain⟨v5,h19,h⟩:=bind_some h
    refine EX (qd v5) (AI (fun hp=>AI (yg (xj ze (h18 hp)) (zu hp h19)) (AI hp (AI (js (h18 hp)) (NB rfl)))) ?_)
    refine AI (fun hp=>(AI hp hp)) ?_
    refine AI (fun hp=>(AI hp (fun hc=>(zdu hp (bqt hc))))) ?_
    refine AI (fun hp=>hp) ?_
    refine AI (fun hc=>(bqt hc)) ?_
    refine p1 (e:=[(1,i6 a1),(2,i6 a2),(3,.ptr (3,0) 0 0),(7,i6 0),(73,.bool (((decide (((a0.f_Children.map ze).length:Int) > 0))&&(v3.f_Kind==17))&&(!((v4.f_Start==a1)&&(v5.f_End==a2)))))]) (L:=[((3,0),.one [i6 a0.f_Kind,i6 a0.f_Value,.str a0.f_Text,i6 a0.f_Start,i6 a0.f_End,i6 a0.f_NameStart,.isl 7 (a0.f_Children.map ze) false])]) (n:=4) ?_ ?_
    ·exact x8 (M:=[((3,0),(3,0))]) rfl (S2 rfl rfl (SP rfl (S2 rfl rfl TT))) (AI (AI rfl (OL rfl)) TT)
    refine qb (v:=(((decide (((a0.f_Children.map ze).length:Int) > 0))&&(v3.f_Kind==17))&&(!((v4.f_Start==a1)&&(v5.f_End==a2))))) rfl TT (fun h20=>?_) (fun h20=>?_)
    ·have h:=zu h20 h
     refine yz ?_
     refine p1 ?_ (xk hrec0 h)
     exact x8 (M:=[((3,0),(3,0))]) rfl (S2 rfl rfl (SP rfl (AI (VS rfl) TT))) (AI (AI rfl (OL rfl)) TT)
    ·have h:=y8 h20 h
     refine qx ?_
     refine p1 ?_ (xk hrec0 h)
     exact x8 (M:=[((3,0),(3,0))]) rfl (S2 rfl rfl (SP rfl (AI (VS rfl) TT))) (AI (AI rfl (OL rfl)) TT)
   ·have h:=y8 h13 h
    refine yu (yz ?_)
    refine qb (v:=(a0.f_Kind==33)) rfl TT (fun h21=>?_) (fun h21=>?_)
    ·have h:=zu h21 h
     refine yu (yz ?_)
     refine AI (fun hp=>hp) ?_
     obtain⟨h22,h⟩:=qp h
     refine AI (fun hp=>(AI hp (h22 hp))) ?_
     refine AI (fun hp=>hp) ?_
     obtain⟨v6,h23,h⟩:=bind_some h
     refine EX (qd v6) (AI (fun hp=>AI (yg (xj ze (h22 hp)) (zu hp h23)) (AI hp (AI (js (h22 hp)) (NB rfl)))) ?_)
     refine AI (fun hp=>hp) ?_
     refine AI (fun hp=>hp) ?_
     refine AI (fun hc=>(bqt hc)) ?_
     refine p1 (e:=[(1,i6 a1),(2,i6 a2),(3,.ptr (3,0) 0 0),(7,i6 (-1)),(88,.bool ((decide (((a0.f_Children.map ze).length:Int) > 1))&&(decide (((v6.f_Children.map ze).length:Int) > 0))))]) (L:=[((3,0),.one [i6 a0.f_Kind,i6 a0.f_Value,.str a0.f_Text,i6 a0.f_Start,i6 a0.f_End,i6 a0.f_NameStart,.isl 7 (a0.f_Children.map ze) false])]) (n:=4) ?_ ?_
     ·exact x8 (M:=[((3,0),(3,0))]) rfl (S2 rfl rfl (SP rfl (S2 rfl rfl TT))) (AI (AI rfl (OL rfl)) TT)
     refine qb (v:=((decide (((a0.f_Children.map ze).length:Int) > 1))&&(decide (((v6.f_Children.map ze).length:Int) > 0)))) rfl TT (fun h24=>?_) (fun h24=>?_)
     ·have h:=zu h24 h
      refine yu (yz ?_)
      obtain⟨h25,h⟩:=qp h
      refine AI h25 ?_
      obtain⟨v7,h26,h⟩:=bind_some h
      refine EX (qd v7) (AI (yg (xj ze h25) h26) (AI (AI (js h25) (NB rfl)) ?_))
      obtain⟨h27,h⟩:=qp h
      refine AI h27 ?_
      obtain⟨v8,h28,h⟩:=bind_some h
      refine EX (qd v8) (AI (yg (xj ze h27) h28) (AI (AI (js h27) (NB rfl)) ?_))
      obtain⟨v9,h29,h⟩:=bind_some h
      refine z9t (k:=3) (m:=0) (L':=[]) (rest:=[((3,0),.one [i6 a0.f_Kind,i6 a0.f_Value,.str a0.f_Text,i6 a0.f_Start,i6 a0.f_End,i6 a0.f_NameStart,.isl 7 (a0.f_Children.map ze) false])]) (R':=.bool v9) [] (hrec0 h29) rfl rfl rfl (S2 rfl rfl (AI (VS rfl) TT)) TT (Y2 _ rfl) TT rfl ?_
      refine p1 (e:=[(6,.bool v9)]) (L:=[]) (n:=3) ?_ ?_
      ·exact x8 (M:=[]) rfl (AI (VS rfl) TT) TT
      refine Xm ?_
      cases h
      exact AI TT (zij (n':=3) [] [] rfl rfl (VS rfl) TT)
     ·have h:=y8 h24 h
      refine qx ?_
      refine p1 ?_ (xk hrec0 h)
      exact x8 (M:=[((3,0),(3,0))]) rfl (S2 rfl rfl (SP rfl (AI (VS rfl) TT))) (AI (AI rfl (OL rfl)) TT)
    ·have h:=y8 h21 h
     refine qx ?_
     refine p1 ?_ (xk hrec0 h)
     exact x8 (M:=[((3,0),(3,0))]) rfl (S2 rfl rfl (SP rfl (AI (VS rfl) TT))) (AI (AI rfl (OL rfl)) TT)
def zo(rec0:G_Node→Int→Int→Option Bool)(m:Option Nat)(a0:G_Node)(a1:Int)(a2:Int):Option Bool:=
 (if(((a0.f_Start==a1)&&(a0.f_End==a2))==true)=true then zz m ([17,27,28,29,30,31,32,33,39,40]:List Int) a0.f_Kind else some default).bind fun v1=>
 if(((a0.f_Start==a1)&&(a0.f_End==a2))&&v1)=true then
  some true
 else
  if(a0.f_Kind==22)=true then
   z6 rec0 m a0 a1 a2 2
  else
   if(a0.f_Kind==26)=true then
    z7 rec0 m a0 a1 a2 (a0.f_Kind==26)
   else
    if(a0.f_Kind==25)=true then
     z7 rec0 m a0 a1 a2 (a0.f_Kind==25)
    else
     if(a0.f_Kind==39)=true then
      z7 rec0 m a0 a1 a2 (a0.f_Kind==39)
     else
      if(a0.f_Kind==31)=true then
       z7 rec0 m a0 a1 a2 (a0.f_Kind==31)
      else
       if(a0.f_Kind==32)=true then
        z7 rec0 m a0 a1 a2 (a0.f_Kind==32)
       else
        if(a0.f_Kind==37)=true then
         z7 rec0 m a0 a1 a2 (a0.f_Kind==37)
        else
         z7 rec0 m a0 a1 a2 (a0.f_Kind==35)
theorem z2p{rec0:G_Node→Int→Int→Option Bool}(hrec0:Hr0 rec0){a0:G_Node}{a1:Int}{a2:Int}{m:Option Nat}{o:Bool}(h:zo rec0 m a0 a1 a2=some o):LWp Tryz.prog uv 3 z43 (z1h a0 a1 a2 o) (qz 0 [.agg [i6 a0.f_Kind,i6 a0.f_Value,.str a0.f_Text,i6 a0.f_Start,i6 a0.f_End,i6 a0.f_NameStart,.isl 7 (a0.f_Children.map ze) false],i6 a1,i6 a2]) [] 3:=by
 unfold zo at h
 refine yu (yz ?_)
 refine yu ?_
 refine yu (yz ?_)
 refine AI (fun hp=>hp) ?_
 refine AI (fun hp=>(AI hp hp)) ?_
 refine AI (fun hc=>(bqt hc)) ?_
 refine Or.inl (EX (.isl 1 (([17,27,28,29,30,31,32,33,39,40]:List Int).map xh) true) (AI (fun hp=>AI rfl (AI rfl rfl)) ?_))
 refine AI (fun hp=>hp) ?_
 obtain⟨v1,h1,h⟩:=bind_some h
 refine Or.inl (EX (.bool v1) (AI (fun hp=>AI (AI hp hp) (p3 (zca (zu hp h1)) (AI (Vw.islF _ _ _) (AI (VS rfl) TT)) (AI rfl (AI rfl rfl)))) ?_))
 refine AI (fun hc=>(bqt hc)) ?_
 refine p1 (e:=[(1,i6 a1),(2,i6 a2),(3,.ptr (3,0) 0 0),(23,.bool (((a0.f_Start==a1)&&(a0.f_End==a2))&&v1))]) (L:=[((3,0),.one [i6 a0.f_Kind,i6 a0.f_Value,.str a0.f_Text,i6 a0.f_Start,i6 a0.f_End,i6 a0.f_NameStart,.isl 7 (a0.f_Children.map ze) false])]) (n:=4) ?_ ?_
 ·exact x8 (M:=[((3,0),(3,0))]) rfl (S2 rfl rfl (SP rfl (AI (VS rfl) TT))) (AI (AI rfl (OL rfl)) TT)
 refine qb (v:=(((a0.f_Start==a1)&&(a0.f_End==a2))&&v1)) rfl TT (fun h2=>?_) (fun h2=>?_)
 ·have h:=zu h2 h
  refine yu (yz ?_)
  refine Xm ?_
  cases h
  exact AI TT (zij (n':=4) [] [] rfl rfl (VS rfl) TT)
 ·have h:=y8 h2 h
  refine qx ?_
  refine yu (yz ?_)
  refine yu ?_
  refine yu (yz ?_)
  refine Yg ?_
  refine yu (yz ?_)
  refine qb (v:=(a0.f_Kind==22)) rfl TT (fun h3=>?_) (fun h3=>?_)
  ·have h:=zu h3 h
   refine yz ?_
   refine p1 ?_ (xk hrec0 h)
   exact x8 (M:=[((3,0),(3,0))]) rfl (S2 rfl rfl (SP rfl (AI (VS rfl) TT))) (AI (AI rfl (OL rfl)) TT)
  ·have h:=y8 h3 h
   refine yu ?_
   refine yu (yz ?_)
   refine qb (v:=(a0.f_Kind==26)) rfl TT (fun h4=>?_) (fun h4=>?_)
   ·have h:=zu h4 h
    refine qx ?_
    refine p1 ?_ (xy hrec0 h)
    exact x8 (M:=[((3,0),(3,0))]) rfl (S2 rfl rfl (SP rfl (S2 rfl rfl (AI (VS rfl) TT)))) (AI (AI rfl (OL rfl)) TT)
   ·have h:=y8 h4 h
    refine yu (yz ?_)
    refine p1 (e:=[(1,i6 a1),(2,i6 a2),(3,.ptr (3,0) 0 0),(7,i6 (-1)),(25,i6 a0.f_Kind),(28,.bool (a0.f_Kind==25))]) (L:=[((3,0),.one [i6 a0.f_Kind,i6 a0.f_Value,.str a0.f_Text,i6 a0.f_Start,i6 a0.f_End,i6 a0.f_NameStart,.isl 7 (a0.f_Children.map ze) false])]) (n:=4) ?_ ?_
    ·exact x8 (M:=[((3,0),(3,0))]) rfl (S2 rfl rfl (SP rfl (S2 rfl rfl (AI (VS rfl) TT)))) (AI (AI rfl (OL rfl)) TT)
    refine qb (v:=(a0.f_Kind==25)) rfl TT (fun h5=>?_) (fun h5=>?_)
    ·have h:=zu h5 h
     refine qx ?_
     refine p1 ?_ (xy hrec0 h)
     exact x8 (M:=[((3,0),(3,0))]) rfl (S2 rfl rfl (SP rfl (S2 rfl rfl (AI (VS rfl) TT)))) (AI (AI rfl (OL rfl)) TT)
    ·have h:=y8 h5 h
     refine yu (yz ?_)
     refine qb (v:=(a0.f_Kind==39)) rfl TT (fun h6=>?_) (fun h6=>?_)
     ·have h:=zu h6 h
      refine qx ?_
      refine p1 ?_ (xy hrec0 h)
      exact x8 (M:=[((3,0),(3,0))]) rfl (S2 rfl rfl (SP rfl (S2 rfl rfl (AI (VS rfl) TT)))) (AI (AI rfl (OL rfl)) TT)
     ·have h:=y8 h6 h
      refine yu (yz ?_)
      refine qb (v:=(a0.f_Kind==31)) rfl TT (fun h7=>?_) (fun h7=>?_)
      ·have h:=zu h7 h
       refine qx ?_
       refine p1 ?_ (xy hrec0 h)
       exact x8 (M:=[((3,0),(3,0))]) rfl (S2 rfl rfl (SP rfl (S2 rfl rfl (AI (VS rfl) TT)))) (AI (AI rfl (OL rfl)) TT)
      ·have h:=y8 h7 h
       refine yu (yz ?_)
       refine qb (v:=(a0.f_Kind==32)) rfl TT (fun h8=>?_) (fun h8=>?_)
       ·have h:=zu h8 h
        refine qx ?_
        refine p1 ?_ (xy hrec0 h)
        exact x8 (M:=[((3,0),(3,0))]) rfl (S2 rfl rfl (SP rfl (S2 rfl rfl (AI (VS rfl) TT)))) (AI (AI rfl (OL rfl)) TT)
       ·have h:=y8 h8 h
        refine yu (yz ?_)
        refine p1 (e:=[(1,i6 a1),(2,i6 a2),(3,.ptr (3,0) 0 0),(7,i6 (-1)),(25,i6 a0.f_Kind),(28,.bool (a0.f_Kind==37))]) (L:=[((3,0),.one [i6 a0.f_Kind,i6 a0.f_Value,.str a0.f_Text,i6 a0.f_Start,i6 a0.f_End,i6 a0.f_NameStart,.isl 7 (a0.f_Children.map ze) false])]) (n:=4) ?_ ?_
        ·exact x8 (M:=[((3,0),(3,0))]) rfl (S2 rfl rfl (SP rfl (S2 rfl rfl (AI (VS rfl) TT)))) (AI (AI rfl (OL rfl)) TT)
        refine qb (v:=(a0.f_Kind==37)) rfl TT (fun h9=>?_) (fun h9=>?_)
        ·have h:=zu h9 h
         refine qx ?_
         refine p1 ?_ (xy hrec0 h)
         exact x8 (M:=[((3,0),(3,0))]) rfl (S2 rfl rfl (SP rfl (S2 rfl rfl (AI (VS rfl) TT)))) (AI (AI rfl (OL rfl)) TT)
        ·have h:=y8 h9 h
         refine yz ?_
         refine p1 ?_ (xy hrec0 h)
         exact x8 (M:=[((3,0),(3,0))]) rfl (S2 rfl rfl (SP rfl (S2 rfl rfl (AI (VS rfl) TT)))) (AI (AI rfl (OL rfl)) TT)
theorem zaw{rec0:G_Node→Int→Int→Option Bool}(hrec0:Hr0 rec0){a0:G_Node}{a1:Int}{a2:Int}{m:Option Nat}{o:Bool}(h:zo rec0 m a0 a1 a2=some o):ACalls Tryz.prog 18 [.agg [i6 a0.f_Kind,i6 a0.f_Value,.str a0.f_Text,i6 a0.f_Start,i6 a0.f_End,i6 a0.f_NameStart,.isl 7 (a0.f_Children.map ze) false],i6 a1,i6 a2] [] 3 (Xp 3 (.bool o) []):=zhg (L:=z6c) z67 z6e (NB rfl) (z2p hrec0 h)
def zj(m:Option Nat):Nat→G_Node→Int→Int→Option Bool
 |0=>fun _ _ _=>none
 |k+1=>zo (zj m k) m
def zq(m:Option Nat)(a0:G_Node)(a1:Int)(a2:Int):Option Bool:=zf1 m (fun k=>zj m k a0 a1 a2)
theorem Uy{m:Option Nat}:∀ (k:Nat) {a0:G_Node} {a1:Int} {a2:Int} {o:Bool},zj m k a0 a1 a2=some o→ACalls Tryz.prog 18 [.agg [i6 a0.f_Kind,i6 a0.f_Value,.str a0.f_Text,i6 a0.f_Start,i6 a0.f_End,i6 a0.f_NameStart,.isl 7 (a0.f_Children.map ze) false],i6 a1,i6 a2] [] 3 (Xp 3 (.bool o) [])
 |0,_,_,_,_,h=>nomatch h
 |k+1,_,_,_,_,h=>zaw (fun h=>Uy k h) h
theorem z0i{a0:G_Node}{a1:Int}{a2:Int}{m:Option Nat}{o:Bool}(h:zq m a0 a1 a2=some o):ACalls Tryz.prog 18 [.agg [i6 a0.f_Kind,i6 a0.f_Value,.str a0.f_Text,i6 a0.f_Start,i6 a0.f_End,i6 a0.f_NameStart,.isl 7 (a0.f_Children.map ze) false],i6 a1,i6 a2] [] 3 (Xp 3 (.bool o) []):=(z88 h).elim fun k h=>Uy k h
def zbz:LCode:=(.cond (.t 28)
 (.region [Qi 7 0])
 (.seq (.region [Qo 37 (.bin .eql (.t 25) (.c (i6 40))),
  Qm 36 37])
 (.cond (.t 36)
  (.seq (.region [Qf 38 2 3,
   Ql 39 1 38,
   Qo 40 (.bin .neq (.t 39) (.c (.str [42])))])
  (.cond (.t 40)
   (.region [Qi 7 0])
   .skip))
  (.seq (.region [Qo 42 (.bin .eql (.t 25) (.c (i6 30))),
   Qm 41 42])
  (.cond (.t 41)
   (.seq (.region [Qi 7 0])
   (.seq (.region [Qf 43 6 3,
    Ql 44 1 43,
    Qo 45 (.len false (.t 44)),
    Qo 46 (.bin .gtr (.t 45) (.c (i6 0))),
    Qm 47 46,
    Qe 48 6 3 (47,true),
    Qk 49 1 48 (47,true),
    Qg 50 (.iaddr 7 (.t 49) (.c (i6 0))) (47,true),
    Qe 51 0 50 (47,true),
    Qk 52 1 51 (47,true),
    Qg 53 (.bin .eql (.t 52) (.c (i6 17))) (47,true),
    Qp 54 47 53,
    Qm 55 54,
    Qe 56 6 3 (55,true),
    Qk 57 1 56 (55,true),
    Qg 58 (.iaddr 7 (.t 57) (.c (i6 0))) (55,true),
    Qe 59 3 58 (55,true),
    Qk 60 1 59 (55,true),
    Qn 61 1 (55,true),
    Qg 62 (.bin .eql (.t 60) (.t 61)) (55,true),
    Qn 63 62 (55,true),
    Qe 64 6 3 (63,true),
    Qk 65 1 64 (63,true),
    Qg 66 (.iaddr 7 (.t 65) (.c (i6 0))) (63,true),
    Qe 67 4 66 (63,true),
    Qk 68 1 67 (63,true),
    Qn 69 2 (63,true),
    Qg 70 (.bin .eql (.t 68) (.t 69)) (63,true),
    Qg 71 (.pick (.t 63) (.t 70) (.c (.bool false))) (55,true),
    Qg 72 (.un .not (.t 71)) (55,true),
    Qp 73 55 72])
   (.cond (.t 73)
    (.region [Qi 7 1])
    .skip)))
   (.seq (.region [Qo 75 (.bin .eql (.t 25) (.c (i6 33))),
    Qm 74 75])
   (.cond (.t 74)
    (.seq (.region [Qf 76 6 3,
     Ql 77 1 76,
     Qo 78 (.len false (.t 77)),
     Qo 79 (.bin .gtr (.t 78) (.c (i6 1))),
     Qm 80 79,
     Qe 81 6 3 (80,true),
     Qk 82 1 81 (80,true),
     Qg 83 (.iaddr 7 (.t 82) (.c (i6 1))) (80,true),
     Qe 84 6 83 (80,true),
     Qk 85 1 84 (80,true),
     Qg 86 (.len false (.t 85)) (80,true),
     Qg 87 (.bin .gtr (.t 86) (.c (i6 0))) (80,true),
     Qp 88 80 87])
    (.cond (.t 88)
     (.seq (.region [Qf 89 6 3,
      Ql 90 1 89,
      Qo 91 (.iaddr 7 (.t 90) (.c (i6 1))),
      Qf 92 6 91,
      Ql 93 1 92,
      Qo 94 (.iaddr 7 (.t 93) (.c (i6 0))),
      Qt 95 7 94,
      Qm 96 1,
      Qm 97 2,
      Qo 98 (.call 18 [(.t 95),(.t 96),(.t 97)]),
      Qm 6 98])
     .ret)
     .skip))
    .skip)))))))
def z77:LCode:=(.seq (.region [Qm 99 7,
 Qo 100 (.bin .geq (.t 99) (.c (i6 0))),
 Qm 101 100,
 Qn 102 7 (101,true),
 Qe 103 6 3 (101,true),
 Qk 104 1 103 (101,true),
 Qg 105 (.len false (.t 104)) (101,true),
 Qg 106 (.bin .lss (.t 102) (.t 105)) (101,true),
 Qp 107 101 106,
 Qm 108 107,
 Qe 109 6 3 (108,true),
 Qk 110 1 109 (108,true),
 Qn 111 7 (108,true),
 Qg 112 (.iaddr 7 (.t 110) (.t 111)) (108,true),
 Qg 113 (.load true 7 (.t 112)) (108,true),
 Qn 114 1 (108,true),
 Qn 115 2 (108,true),
 Qg 116 (.call 18 [(.t 113),(.t 114),(.t 115)]) (108,true),
 Qp 117 108 116,
 Qm 6 117])
 .ret)
def zbs:LCode:=(.seq (.region [Qo 3 (.box (.t 0)),
 Qb 6])
 (.seq (.seq (.region [Qf 8 3 3,
  Ql 9 1 8,
  Qm 10 1,
  Qo 11 (.bin .eql (.t 9) (.t 10)),
  Qm 12 11,
  Qe 13 4 3 (12,true),
  Qk 14 1 13 (12,true),
  Qn 15 2 (12,true),
  Qg 16 (.bin .eql (.t 14) (.t 15)) (12,true),
  Qp 17 12 16,
  Qm 18 17,
  Qg 19 (.mkSl true 1 [(i6 0)] 10 [(0,(.c (i6 17))),(1,(.c (i6 27))),(2,(.c (i6 28))),(3,(.c (i6 29))),(4,(.c (i6 30))),(5,(.c (i6 31))),(6,(.c (i6 32))),(7,(.c (i6 33))),(8,(.c (i6 39))),(9,(.c (i6 40)))]) (18,true),
  Qe 20 0 3 (18,true),
  Qk 21 1 20 (18,true),
  Qg 22 (.call 43 [(.t 19),(.t 21)]) (18,true),
  Qp 23 18 22])
 (.cond (.t 23)
  (.seq (.region [Qo 6 (.mv (.c (.bool true)))])
  .ret)
  .skip))
 (.seq (.region [Qo 7 (.mv (.c (i6 (-1))))])
 (.seq (.seq (.region [Qf 24 0 3,
  Ql 25 1 24])
 (.block 0
  (.seq (.region [Qo 27 (.bin .eql (.t 25) (.c (i6 22))),
   Qm 26 27])
  (.cond (.t 26)
   (.region [Qi 7 2])
   (.seq (.seq (.region [Qo 29 (.bin .eql (.t 25) (.c (i6 26))),
    Qm 28 29])
   (.cond (.t 28)
    .skip
    (.seq (.region [Qo 30 (.bin .eql (.t 25) (.c (i6 25))),
     Qm 28 30])
    (.cond (.t 28)
     .skip
     (.seq (.region [Qo 31 (.bin .eql (.t 25) (.c (i6 39))),
      Qm 28 31])
     (.cond (.t 28)
      .skip
      (.seq (.region [Qo 32 (.bin .eql (.t 25) (.c (i6 31))),
       Qm 28 32])
      (.cond (.t 28)
       .skip
       (.seq (.region [Qo 33 (.bin .eql (.t 25) (.c (i6 32))),
        Qm 28 33])
       (.cond (.t 28)
        .skip
        (.seq (.region [Qo 34 (.bin .eql (.t 25) (.c (i6 37))),
         Qm 28 34])
        (.cond (.t 28)
         .skip
         (.region [Qo 35 (.bin .eql (.t 25) (.c (i6 35))),
          Qm 28 35])))))))))))))
   zbz)))))
 z77))))
def W6:Lay:=⟨118,[],false⟩
def z7j:List LRes:=[.t 6]
def zga:LFn:=⟨3,W6,zbs,z7j⟩
theorem zeo:wu Tryz.prog [] 18=some zga:=by kernel_rfl
theorem zcu:Xv Tryz.prog 18:=⟨_,Tryz.func18,rfl,rfl⟩
def za(m:Option Nat)(a0:G_Node)(a1:Int)(a2:Int)(v10:Int):Option Bool:=
 if((((decide (v10≥0))&&(decide (v10<((a0.f_Children.map ze).length:Int))))==true)=true→(0:Int)≤v10∧v10<((a0.f_Children.map ze).length:Int)) then
 ((if(((decide (v10≥0))&&(decide (v10<((a0.f_Children.map ze).length:Int))))==true)=true then(xb (a0.f_Children.getD v10.toNat default)) else some default)).bind fun v11=>
 (if(((decide (v10≥0))&&(decide (v10<((a0.f_Children.map ze).length:Int))))==true)=true then zq m v11 a1 a2 else some default).bind fun v12=>
 some (((decide (v10≥0))&&(decide (v10<((a0.f_Children.map ze).length:Int))))&&v12)
 else none
def zc(m:Option Nat)(a0:G_Node)(a1:Int)(a2:Int)(v2:Bool):Option Bool:=
 if v2=true then
  za m a0 a1 a2 0
 else
  if(a0.f_Kind==40)=true then
   if(!(a0.f_Text==([42]:List UInt8)))=true then
    za m a0 a1 a2 0
   else
    za m a0 a1 a2 (-1)
  else
   if(a0.f_Kind==30)=true then
    if(((decide (((a0.f_Children.map ze).length:Int) > 0))==true)=true→(0:Int)≤0∧0<((a0.f_Children.map ze).length:Int)) then
    ((if((decide (((a0.f_Children.map ze).length:Int) > 0))==true)=true then(xb (a0.f_Children.getD ((0:Int).toNat) default)) else some default)).bind fun v3=>
    if((((decide (((a0.f_Children.map ze).length:Int) > 0))&&(v3.f_Kind==17))==true)=true→(0:Int)≤0∧0<((a0.f_Children.map ze).length:Int)) then
    ((if(((decide (((a0.f_Children.map ze).length:Int) > 0))&&(v3.f_Kind==17))==true)=true then(xb (a0.f_Children.getD ((0:Int).toNat) default)) else some default)).bind fun v4=>
    if(((((decide (((a0.f_Children.map ze).length:Int) > 0))&&(v3.f_Kind==17))==true)&&((v4.f_Start==a1)==true))=true→(0:Int)≤0∧0<((a0.f_Children.map ze).length:Int)) then
    ((if((((decide (((a0.f_Children.map ze).length:Int) > 0))&&(v3.f_Kind==17))==true)&&((v4.f_Start==a1)==true))=true then(xb (a0.f_Children.getD ((0:Int).toNat) default)) else some default)).bind fun v5=>
    if(((decide (((a0.f_Children.map ze).length:Int) > 0))&&(v3.f_Kind==17))&&(!((v4.f_Start==a1)&&(v5.f_End==a2))))=true then
     za m a0 a1 a2 1
    else
     za m a0 a1 a2 0
    else none
    else none
    else none
   else
    if(a0.f_Kind==33)=true then
     if(((decide (((a0.f_Children.map ze).length:Int) > 1))==true)=true→(0:Int)≤1∧1<((a0.f_Children.map ze).length:Int)) then
     ((if((decide (((a0.f_Children.map ze).length:Int) > 1))==true)=true then(xb (a0.f_Children.getD ((1:Int).toNat) default)) else some default)).bind fun v6=>
     if((decide (((a0.f_Children.map ze).length:Int) > 1))&&(decide (((v6.f_Children.map ze).length:Int) > 0)))=true then
      if(0:Int)≤1∧1<((a0.f_Children.map ze).length:Int) then
      ((xb (a0.f_Children.getD ((1:Int).toNat) default))).bind fun v7=>
      if(0:Int)≤0∧0<((v7.f_Children.map ze).length:Int) then
      ((xb (v7.f_Children.getD ((0:Int).toNat) default))).bind fun v8=>
      (zq m v8 a1 a2).bind fun v9=>
      some v9
      else none
      else none
     else
      za m a0 a1 a2 (-1)
     else none
    else
     za m a0 a1 a2 (-1)
def zdi(a0:G_Node)(a1:Int)(a2:Int)(o:Bool):Exit→Env→AHeap→Nat→Prop:=z36 z7j (vj (.bool o))
theorem jv{a0:G_Node}{a1:Int}{a2:Int}{v10:Int}{m:Option Nat}{o:Bool}(h:za m a0 a1 a2 v10=some o) :
 LWp Tryz.prog W6 0 z77 (zdi a0 a1 a2 o) [(1,i6 a1),(2,i6 a2),(3,.ptr (0,0) 0 0),(7,i6 v10)] [((0,0),.one [i6 a0.f_Kind,i6 a0.f_Value,.str a0.f_Text,i6 a0.f_Start,i6 a0.f_End,i6 a0.f_NameStart,.isl 7 (a0.f_Children.map ze) false])] 1:=by
 unfold za at h
 refine yu (yz ?_)
 refine AI (fun hp=>hp) ?_
 refine AI (fun hp=>hp) ?_
 refine AI (fun hp=>(AI hp hp)) ?_
 refine AI (fun hc=>(bqt hc)) ?_
 refine AI (fun hp=>hp) ?_
 obtain⟨h30,h⟩:=qp h
 refine AI (fun hp=>(AI (AI hp hp) (h30 hp))) ?_
 obtain⟨v11,h31,h⟩:=bind_some h
 refine EX (qd v11) (AI (fun hp=>AI (yg (xj ze (h30 hp)) (zu hp h31)) (AI hp (AI (js (h30 hp)) (NB rfl)))) ?_)
 obtain⟨v12,h32,h⟩:=bind_some h
 refine Or.inl (EX (.bool v12) (AI (fun hp=>AI (AI hp (AI hp hp)) (ACalls.same rfl (z9t (k:=3) (m:=0) (L':=[]) (rest:=[((0,0),.one [i6 a0.f_Kind,i6 a0.f_Value,.str a0.f_Text,i6 a0.f_Start,i6 a0.f_End,i6 a0.f_NameStart,.isl 7 (a0.f_Children.map ze) false])]) (R':=.bool v12) [] (z0i (zu hp h32)) rfl rfl rfl (S2 rfl rfl (AI (VS rfl) TT)) TT (Y2 _ rfl) TT rfl (AI rfl (HeapTo.get (AI (AI rfl (OL rfl)) TT)))))) ?_))
 refine AI (fun hc=>(bqt hc)) ?_
 refine p1 (e:=[(6,.bool (((decide (v10≥0))&&(decide (v10<((a0.f_Children.map ze).length:Int))))&&v12))]) (L:=[]) (n:=0) ?_ ?_
 ·exact x8 (M:=[]) rfl (AI (VS rfl) TT) TT
 refine Xm ?_
 cases h
 exact AI TT (AI rfl (VS rfl))
theorem we{a0:G_Node}{a1:Int}{a2:Int}{v2:Bool}{m:Option Nat}{o:Bool}(h:zc m a0 a1 a2 v2=some o) :
 LWp Tryz.prog W6 0 zbz (uj 0 (z9o Tryz.prog W6 0 z77 (zdi a0 a1 a2 o))) [(1,i6 a1),(2,i6 a2),(3,.ptr (0,0) 0 0),(7,i6 (-1)),(25,i6 a0.f_Kind),(28,.bool v2)] [((0,0),.one [i6 a0.f_Kind,i6 a0.f_Value,.str a0.f_Text,i6 a0.f_Start,i6 a0.f_End,i6 a0.f_NameStart,.isl 7 (a0.f_Children.map ze) false])] 1:=by
 unfold zc at h
 refine qb (v:=v2) rfl TT (fun h10=>?_) (fun h10=>?_)
 ·have h:=zu h10 h
  refine yz ?_
  refine p1 ?_ (jv h)
  exact x8 (M:=[((0,0),(0,0))]) rfl (S2 rfl rfl (SP rfl (AI (VS rfl) TT))) (AI (AI rfl (OL rfl)) TT)
 ·have h:=y8 h10 h
  refine yu (yz ?_)
  refine qb (v:=(a0.f_Kind==40)) rfl TT (fun h11=>?_) (fun h11=>?_)
  ·have h:=zu h11 h
   refine yu (yz ?_)
   refine qb (v:=(!(a0.f_Text==([42]:List UInt8)))) rfl TT (fun h12=>?_) (fun h12=>?_)
   ·have h:=zu h12 h
    refine yz ?_
    refine p1 ?_ (jv h)
    exact x8 (M:=[((0,0),(0,0))]) rfl (S2 rfl rfl (SP rfl (AI (VS rfl) TT))) (AI (AI rfl (OL rfl)) TT)
   ·have h:=y8 h12 h
    refine qx ?_
    refine p1 ?_ (jv h)
    exact x8 (M:=[((0,0),(0,0))]) rfl (S2 rfl rfl (SP rfl (AI (VS rfl) TT))) (AI (AI rfl (OL rfl)) TT)
  ·have h:=y8 h11 h
   refine yu (yz ?_)
   refine qb (v:=(a0.f_Kind==30)) rfl TT (fun h13=>?_) (fun h13=>?_)
   ·have h:=zu h13 h
    refine yu (yz ?_)
    refine yu (yz ?_)
    refine AI (fun hp=>hp) ?_
    obtain⟨h14,h⟩:=qp h
    refine AI (fun hp=>(AI hp (h14 hp))) ?_
    refine AI (fun hp=>hp) ?_
    obtain⟨v3,h15,h⟩:=bind_some h
    refine EX (qd v3) (AI (fun hp=>AI (yg (xj ze (h14 hp)) (zu hp h15)) (AI hp (AI (js (h14 hp)) (NB rfl)))) ?_)
    refine AI (fun hp=>hp) ?_
    refine AI (fun hc=>(bqt hc)) ?_
    refine AI (fun hp=>hp) ?_
    obtain⟨h16,h⟩:=qp h
    refine AI (fun hp=>(AI hp (h16 hp))) ?_
    refine AI (fun hp=>hp) ?_
    obtain⟨v4,h17,h⟩:=bind_some h
    refine EX (qd v4) (AI (fun hp=>AI (yg (xj ze (h16 hp)) (zu hp h17)) (AI hp (AI (js (h16 hp)) (NB rfl)))) ?_)
    refine AI (fun hp=>(AI hp hp)) ?_
    refine AI (fun hp=>hp) ?_
    refine AI (fun hp=>hp) ?_
    obtain⟨h18,h⟩:=qp h
    refine AI (fun hp=>(AI hp (h18 hp))) ?_
    refine AI (fun hp=>hp) ?_
    obtain⟨v5,h19,h⟩:=bind_some h
    refine EX (qd v5) (AI (fun hp=>AI (yg (xj ze (h18 hp)) (zu hp h19)) (AI hp (AI (js (h18 hp)) (NB rfl)))) ?_)
    refine AI (fun hp=>(AI hp hp)) ?_
    refine AI (fun hp=>(AI hp (fun hc=>(zdu hp (bqt hc))))) ?_
    refine AI (fun hp=>hp) ?_
    refine AI (fun hc=>(bqt hc)) ?_
    refine p1 (e:=[(1,i6 a1),(2,i6 a2),(3,.ptr (0,0) 0 0),(7,i6 0),(73,.bool (((decide (((a0.f_Children.map ze).length:Int) > 0))&&(v3.f_Kind==17))&&(!((v4.f_Start==a1)&&(v5.f_End==a2)))))]) (L:=[((0,0),.one [i6 a0.f_Kind,i6 a0.f_Value,.str a0.f_Text,i6 a0.f_Start,i6 a0.f_End,i6 a0.f_NameStart,.isl 7 (a0.f_Children.map ze) false])]) (n:=1) ?_ ?_
    ·exact x8 (M:=[((0,0),(0,0))]) rfl (S2 rfl rfl (SP rfl (S2 rfl rfl TT))) (AI (AI rfl (OL rfl)) TT)
    refine qb (v:=(((decide (((a0.f_Children.map ze).length:Int) > 0))&&(v3.f_Kind==17))&&(!((v4.f_Start==a1)&&(v5.f_End==a2))))) rfl TT (fun h20=>?_) (fun h20=>?_)
    ·have h:=zu h20 h
     refine yz ?_
     refine p1 ?_ (jv h)
     exact x8 (M:=[((0,0),(0,0))]) rfl (S2 rfl rfl (SP rfl (AI (VS rfl) TT))) (AI (AI rfl (OL rfl)) TT)
    ·have h:=y8 h20 h
     refine qx ?_
     refine p1 ?_ (jv h)
     exact x8 (M:=[((0,0),(0,0))]) rfl (S2 rfl rfl (SP rfl (AI (VS rfl) TT))) (AI (AI rfl (OL rfl)) TT)
   ·have h:=y8 h13 h
    refine yu (yz ?_)
    refine qb (v:=(a0.f_Kind==33)) rfl TT (fun h21=>?_) (fun h21=>?_)
    ·have h:=zu h21 h
     refine yu (yz ?_)
     refine AI (fun hp=>hp) ?_
     obtain⟨h22,h⟩:=qp h
     refine AI (fun hp=>(AI hp (h22 hp))) ?_
     refine AI (fun hp=>hp) ?_
     obtain⟨v6,h23,h⟩:=bind_some h
     refine EX (qd v6) (AI (fun hp=>AI (yg (xj ze (h22 hp)) (zu hp h23)) (AI hp (AI (js (h22 hp)) (NB rfl)))) ?_)
     refine AI (fun hp=>hp) ?_
     refine AI (fun hp=>hp) ?_
     refine AI (fun hc=>(bqt hc)) ?_
     refine p1 (e:=[(1,i6 a1),(2,i6 a2),(3,.ptr (0,0) 0 0),(7,i6 (-1)),(88,.bool ((decide (((a0.f_Children.map ze).length:Int) > 1))&&(decide (((v6.f_Children.map ze).length:Int) > 0))))]) (L:=[((0,0),.one [i6 a0.f_Kind,i6 a0.f_Value,.str a0.f_Text,i6 a0.f_Start,i6 a0.f_End,i6 a0.f_NameStart,.isl 7 (a0.f_Children.map ze) false])]) (n:=1) ?_ ?_
     ·exact x8 (M:=[((0,0),(0,0))]) rfl (S2 rfl rfl (SP rfl (S2 rfl rfl TT))) (AI (AI rfl (OL rfl)) TT)
     refine qb (v:=((decide (((a0.f_Children.map ze).length:Int) > 1))&&(decide (((v6.f_Children.map ze).length:Int) > 0)))) rfl TT (fun h24=>?_) (fun h24=>?_)
     ·have h:=zu h24 h
      refine yu (yz ?_)
      obtain⟨h25,h⟩:=qp h
      refine AI h25 ?_
      obtain⟨v7,h26,h⟩:=bind_some h
      refine EX (qd v7) (AI (yg (xj ze h25) h26) (AI (AI (js h25) (NB rfl)) ?_))
      obtain⟨h27,h⟩:=qp h
      refine AI h27 ?_
      obtain⟨v8,h28,h⟩:=bind_some h
      refine EX (qd v8) (AI (yg (xj ze h27) h28) (AI (AI (js h27) (NB rfl)) ?_))
      obtain⟨v9,h29,h⟩:=bind_some h
      refine z9t (k:=3) (m:=0) (L':=[]) (rest:=[((0,0),.one [i6 a0.f_Kind,i6 a0.f_Value,.str a0.f_Text,i6 a0.f_Start,i6 a0.f_End,i6 a0.f_NameStart,.isl 7 (a0.f_Children.map ze) false])]) (R':=.bool v9) [] (z0i h29) rfl rfl rfl (S2 rfl rfl (AI (VS rfl) TT)) TT (Y2 _ rfl) TT rfl ?_
      refine p1 (e:=[(6,.bool v9)]) (L:=[]) (n:=0) ?_ ?_
      ·exact x8 (M:=[]) rfl (AI (VS rfl) TT) TT
      refine Xm ?_
      cases h
      exact AI TT (AI rfl (VS rfl))
     ·have h:=y8 h24 h
      refine qx ?_
      refine p1 ?_ (jv h)
      exact x8 (M:=[((0,0),(0,0))]) rfl (S2 rfl rfl (SP rfl (AI (VS rfl) TT))) (AI (AI rfl (OL rfl)) TT)
    ·have h:=y8 h21 h
     refine qx ?_
     refine p1 ?_ (jv h)
     exact x8 (M:=[((0,0),(0,0))]) rfl (S2 rfl rfl (SP rfl (AI (VS rfl) TT))) (AI (AI rfl (OL rfl)) TT)
def y1(m:Option Nat)(a0:G_Node)(a1:Int)(a2:Int):Option Bool:=
 (if(((a0.f_Start==a1)&&(a0.f_End==a2))==true)=true then zz m ([17,27,28,29,30,31,32,33,39,40]:List Int) a0.f_Kind else some default).bind fun v1=>
 if(((a0.f_Start==a1)&&(a0.f_End==a2))&&v1)=true then
  some true
 else
  if(a0.f_Kind==22)=true then
   za m a0 a1 a2 2
  else
   if(a0.f_Kind==26)=true then
    zc m a0 a1 a2 (a0.f_Kind==26)
   else
    if(a0.f_Kind==25)=true then
     zc m a0 a1 a2 (a0.f_Kind==25)
    else
     if(a0.f_Kind==39)=true then
      zc m a0 a1 a2 (a0.f_Kind==39)
     else
      if(a0.f_Kind==31)=true then
       zc m a0 a1 a2 (a0.f_Kind==31)
      else
       if(a0.f_Kind==32)=true then
        zc m a0 a1 a2 (a0.f_Kind==32)
       else
        if(a0.f_Kind==37)=true then
         zc m a0 a1 a2 (a0.f_Kind==37)
        else
         zc m a0 a1 a2 (a0.f_Kind==35)
theorem z94{a0:G_Node}{a1:Int}{a2:Int}{m:Option Nat}{o:Bool}(h:y1 m a0 a1 a2=some o):LWp Tryz.prog W6 0 zbs (zdi a0 a1 a2 o) (qz 0 [.agg [i6 a0.f_Kind,i6 a0.f_Value,.str a0.f_Text,i6 a0.f_Start,i6 a0.f_End,i6 a0.f_NameStart,.isl 7 (a0.f_Children.map ze) false],i6 a1,i6 a2]) [] 0:=by
 unfold y1 at h
 refine yu (yz ?_)
 refine yu ?_
 refine yu (yz ?_)
 refine AI (fun hp=>hp) ?_
 refine AI (fun hp=>(AI hp hp)) ?_
 refine AI (fun hc=>(bqt hc)) ?_
 refine Or.inl (EX (.isl 1 (([17,27,28,29,30,31,32,33,39,40]:List Int).map xh) true) (AI (fun hp=>AI rfl (AI rfl rfl)) ?_))
 refine AI (fun hp=>hp) ?_
 obtain⟨v1,h1,h⟩:=bind_some h
 refine Or.inl (EX (.bool v1) (AI (fun hp=>AI (AI hp hp) (p3 (zca (zu hp h1)) (AI (Vw.islF _ _ _) (AI (VS rfl) TT)) (AI rfl (AI rfl rfl)))) ?_))
 refine AI (fun hc=>(bqt hc)) ?_
 refine p1 (e:=[(1,i6 a1),(2,i6 a2),(3,.ptr (0,0) 0 0),(23,.bool (((a0.f_Start==a1)&&(a0.f_End==a2))&&v1))]) (L:=[((0,0),.one [i6 a0.f_Kind,i6 a0.f_Value,.str a0.f_Text,i6 a0.f_Start,i6 a0.f_End,i6 a0.f_NameStart,.isl 7 (a0.f_Children.map ze) false])]) (n:=1) ?_ ?_
 ·exact x8 (M:=[((0,0),(0,0))]) rfl (S2 rfl rfl (SP rfl (AI (VS rfl) TT))) (AI (AI rfl (OL rfl)) TT)
 refine qb (v:=(((a0.f_Start==a1)&&(a0.f_End==a2))&&v1)) rfl TT (fun h2=>?_) (fun h2=>?_)
 ·have h:=zu h2 h
  refine yu (yz ?_)
  refine Xm ?_
  cases h
  exact AI TT (AI rfl (VS rfl))
 ·have h:=y8 h2 h
  refine qx ?_
  refine yu (yz ?_)
  refine yu ?_
  refine yu (yz ?_)
  refine Yg ?_
  refine yu (yz ?_)
  refine qb (v:=(a0.f_Kind==22)) rfl TT (fun h3=>?_) (fun h3=>?_)
  ·have h:=zu h3 h
   refine yz ?_
   refine p1 ?_ (jv h)
   exact x8 (M:=[((0,0),(0,0))]) rfl (S2 rfl rfl (SP rfl (AI (VS rfl) TT))) (AI (AI rfl (OL rfl)) TT)
  ·have h:=y8 h3 h
   refine yu ?_
   refine yu (yz ?_)
   refine qb (v:=(a0.f_Kind==26)) rfl TT (fun h4=>?_) (fun h4=>?_)
   ·have h:=zu h4 h
    refine qx ?_
    refine p1 ?_ (we h)
    exact x8 (M:=[((0,0),(0,0))]) rfl (S2 rfl rfl (SP rfl (S2 rfl rfl (AI (VS rfl) TT)))) (AI (AI rfl (OL rfl)) TT)
   ·have h:=y8 h4 h
    refine yu (yz ?_)
    refine p1 (e:=[(1,i6 a1),(2,i6 a2),(3,.ptr (0,0) 0 0),(7,i6 (-1)),(25,i6 a0.f_Kind),(28,.bool (a0.f_Kind==25))]) (L:=[((0,0),.one [i6 a0.f_Kind,i6 a0.f_Value,.str a0.f_Text,i6 a0.f_Start,i6 a0.f_End,i6 a0.f_NameStart,.isl 7 (a0.f_Children.map ze) false])]) (n:=1) ?_ ?_
    ·exact x8 (M:=[((0,0),(0,0))]) rfl (S2 rfl rfl (SP rfl (S2 rfl rfl (AI (VS rfl) TT)))) (AI (AI rfl (OL rfl)) TT)
    refine qb (v:=(a0.f_Kind==25)) rfl TT (fun h5=>?_) (fun h5=>?_)
    ·have h:=zu h5 h
     refine qx ?_
     refine p1 ?_ (we h)
     exact x8 (M:=[((0,0),(0,0))]) rfl (S2 rfl rfl (SP rfl (S2 rfl rfl (AI (VS rfl) TT)))) (AI (AI rfl (OL rfl)) TT)
    ·have h:=y8 h5 h
     refine yu (yz ?_)
     refine qb (v:=(a0.f_Kind==39)) rfl TT (fun h6=>?_) (fun h6=>?_)
     ·have h:=zu h6 h
      refine qx ?_
      refine p1 ?_ (we h)
      exact x8 (M:=[((0,0),(0,0))]) rfl (S2 rfl rfl (SP rfl (S2 rfl rfl (AI (VS rfl) TT)))) (AI (AI rfl (OL rfl)) TT)
     ·have h:=y8 h6 h
      refine yu (yz ?_)
      refine qb (v:=(a0.f_Kind==31)) rfl TT (fun h7=>?_) (fun h7=>?_)
      ·have h:=zu h7 h
       refine qx ?_
       refine p1 ?_ (we h)
       exact x8 (M:=[((0,0),(0,0))]) rfl (S2 rfl rfl (SP rfl (S2 rfl rfl (AI (VS rfl) TT)))) (AI (AI rfl (OL rfl)) TT)
      ·have h:=y8 h7 h
       refine yu (yz ?_)
       refine qb (v:=(a0.f_Kind==32)) rfl TT (fun h8=>?_) (fun h8=>?_)
       ·have h:=zu h8 h
        refine qx ?_
        refine p1 ?_ (we h)
        exact x8 (M:=[((0,0),(0,0))]) rfl (S2 rfl rfl (SP rfl (S2 rfl rfl (AI (VS rfl) TT)))) (AI (AI rfl (OL rfl)) TT)
       ·have h:=y8 h8 h
        refine yu (yz ?_)
        refine p1 (e:=[(1,i6 a1),(2,i6 a2),(3,.ptr (0,0) 0 0),(7,i6 (-1)),(25,i6 a0.f_Kind),(28,.bool (a0.f_Kind==37))]) (L:=[((0,0),.one [i6 a0.f_Kind,i6 a0.f_Value,.str a0.f_Text,i6 a0.f_Start,i6 a0.f_End,i6 a0.f_NameStart,.isl 7 (a0.f_Children.map ze) false])]) (n:=1) ?_ ?_
        ·exact x8 (M:=[((0,0),(0,0))]) rfl (S2 rfl rfl (SP rfl (S2 rfl rfl (AI (VS rfl) TT)))) (AI (AI rfl (OL rfl)) TT)
        refine qb (v:=(a0.f_Kind==37)) rfl TT (fun h9=>?_) (fun h9=>?_)
        ·have h:=zu h9 h
         refine qx ?_
         refine p1 ?_ (we h)
         exact x8 (M:=[((0,0),(0,0))]) rfl (S2 rfl rfl (SP rfl (S2 rfl rfl (AI (VS rfl) TT)))) (AI (AI rfl (OL rfl)) TT)
        ·have h:=y8 h9 h
         refine yz ?_
         refine p1 ?_ (we h)
         exact x8 (M:=[((0,0),(0,0))]) rfl (S2 rfl rfl (SP rfl (S2 rfl rfl (AI (VS rfl) TT)))) (AI (AI rfl (OL rfl)) TT)
theorem zhi{a0:G_Node}{a1:Int}{a2:Int}{m:Option Nat}{o:Bool}(h:y1 m a0 a1 a2=some o):PFn Tryz.prog 18 [.agg [i6 a0.f_Kind,i6 a0.f_Value,.str a0.f_Text,i6 a0.f_Start,i6 a0.f_End,i6 a0.f_NameStart,.isl 7 (a0.f_Children.map ze) false],i6 a1,i6 a2] (.bool o):=PFn.ofFnW (L:=zga) zeo zcu (NB rfl) rfl (z94 h)
def zhm:LCode:=(.seq (.region [Qo 3 (.box (.t 0)),
 Qb 6])
 (.seq (.seq (.region [Qo 7 (.call 16 []),
  Qo 8 (.un .not (.t 7))])
 (.cond (.t 8)
  (.seq (.region [Qb 6])
  .ret)
  .skip))
 (.seq (.draw [⟨Qt 9 7 3,[]⟩,
  ⟨Qm 10 1,[]⟩,
  ⟨Qm 11 2,[]⟩,
  ⟨Qt 13 7 3,[]⟩,
  ⟨Qm 14 1,[]⟩,
  ⟨Qm 15 2,[]⟩,
  ⟨Qo 12 (.call 17 [(.t 9),(.t 10),(.t 11)]),[3]⟩,
  ⟨Qo 16 (.call 18 [(.t 13),(.t 14),(.t 15)]),[]⟩,
  ⟨Qo 17 (.eq false .bool (.t 12) (.t 16)),[]⟩,
  ⟨Qm 6 17,[]⟩])
 .ret)))
def zc0:Lay:=⟨18,[],false⟩
def zbv:List LRes:=[.t 6]
def zjt:LFn:=⟨3,zc0,zhm,zbv⟩
theorem zfe:wu Tryz.prog [] 5=some zjt:=by kernel_rfl
theorem zgg:Xv Tryz.prog 5:=⟨_,Tryz.func5,rfl,rfl⟩
def zd(m:Option Nat)(a0:G_Node)(a1:Int)(a2:Int):Option Bool:=
 (yw m).bind fun v1=>
 if(!v1)=true then
  some false
 else
  (ye m a0 a1 a2).bind fun v2=>
  (y1 m a0 a1 a2).bind fun v3=>
  some (v2==v3)
def zk0(a0:G_Node)(a1:Int)(a2:Int)(o:Bool):Exit→Env→AHeap→Nat→Prop:=z36 zbv (vj (.bool o))
theorem zbf{a0:G_Node}{a1:Int}{a2:Int}{m:Option Nat}{o:Bool}(h:zd m a0 a1 a2=some o):LWp Tryz.prog zc0 0 zhm (zk0 a0 a1 a2 o) (qz 0 [.agg [i6 a0.f_Kind,i6 a0.f_Value,.str a0.f_Text,i6 a0.f_Start,i6 a0.f_End,i6 a0.f_NameStart,.isl 7 (a0.f_Children.map ze) false],i6 a1,i6 a2]) [] 0:=by
 unfold zd at h
 refine yu (yz ?_)
 refine yu ?_
 refine yu (yz ?_)
 obtain⟨v1,h1,h⟩:=bind_some h
 refine p3 (zgt h1) TT ?_
 refine qb (v:=(!v1)) rfl TT (fun h2=>?_) (fun h2=>?_)
 ·have h:=zu h2 h
  refine yu (yz ?_)
  refine Xm ?_
  cases h
  exact AI TT (AI rfl (VS rfl))
 ·have h:=y8 h2 h
  refine qx ?_
  refine yu ?_
  refine zjd ?_
  obtain⟨v2,h3,h⟩:=bind_some h
  refine p3 (zha h3) (S2 rfl rfl (AI (VS rfl) TT)) ?_
  refine AI rfl ?_
  obtain⟨v3,h4,h⟩:=bind_some h
  refine p3 (zhi h4) (S2 rfl rfl (AI (VS rfl) TT)) ?_
  refine p1 (e:=[(6,.bool (v2==v3))]) (L:=[]) (n:=0) ?_ ?_
  ·exact x8 (M:=[]) rfl (AI (VS rfl) TT) TT
  refine Xm ?_
  cases h
  exact AI TT (AI rfl (VS rfl))
theorem ziw{a0:G_Node}{a1:Int}{a2:Int}{m:Option Nat}{o:Bool}(h:zd m a0 a1 a2=some o):PFn Tryz.prog 5 [.agg [i6 a0.f_Kind,i6 a0.f_Value,.str a0.f_Text,i6 a0.f_Start,i6 a0.f_End,i6 a0.f_NameStart,.isl 7 (a0.f_Children.map ze) false],i6 a1,i6 a2] (.bool o):=PFn.ofFnW (L:=zjt) zfe zgg (NB rfl) rfl (zbf h)
end
end Go.Proofs.YtjkfnbjgpilokaaGreatDoor
