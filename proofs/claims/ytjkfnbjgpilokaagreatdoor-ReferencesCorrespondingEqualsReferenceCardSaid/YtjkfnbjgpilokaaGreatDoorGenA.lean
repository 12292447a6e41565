/-
  Own text GenA of this claim: what functions of the given program compute, in plain Lean, and the proof; no condition.
-/
import Derived.Test.YtjkfnbjgpilokaaGreatDoorChecked
import Derived.Test.YtjkfnbjgpilokaaGreatDoorFc
import Derived.Test.YtjkfnbjgpilokaaGreatDoorFd
import Derived.Test.YtjkfnbjgpilokaaGreatDoorTx
import Derived.KernelRfl
open Go.Fx.LWp renaming sim→p1
open Option renaming map_eq_some_iff→p2,map→p3
open Go.Fx.PFn renaming call→p9,ofFnW→pA
open Sum renaming inr→p4
namespace Go.Proofs.YtjkfnbjgpilokaaGreatDoor
noncomputable section
open Go.Fx
set_option linter.unusedVariables false
set_option maxHeartbeats 4000000
set_option maxHeartbeats 1600000
structure G_Symbol where
 f_Kind:Int
 f_Module:Int
 f_Start:Int
 f_Parent:Int
 f_Name:List UInt8
 f_Public:Bool
instance:Inhabited G_Symbol:=⟨(G_Symbol.mk 0 0 0 0 [] false)⟩
structure G_Reference where
 f_Module:Int
 f_Start:Int
 f_Symbol:Int
instance:Inhabited G_Reference:=⟨(G_Reference.mk 0 0 0)⟩
structure G_Diagnostic where
 f_Code:Int
 f_Module:Int
 f_Start:Int
 f_End:Int
 f_Name:List UInt8
instance:Inhabited G_Diagnostic:=⟨(G_Diagnostic.mk 0 0 0 0 [])⟩
structure G_Resolution where
 f_Symbols:List G_Symbol
 f_References:List G_Reference
 f_Diagnostics:List G_Diagnostic
instance:Inhabited G_Resolution:=⟨(G_Resolution.mk [] [] [])⟩
structure G_TextEdit where
 f_Start:Int
 f_End:Int
 f_NewText:List UInt8
instance:Inhabited G_TextEdit:=⟨(G_TextEdit.mk 0 0 [])⟩
structure G_FileEdit where
 f_Module:Int
 f_TextEdit:G_TextEdit
instance:Inhabited G_FileEdit:=⟨(G_FileEdit.mk 0 (G_TextEdit.mk 0 0 []))⟩
structure G_MovedRange where
 f_Module:Int
 f_Start:Int
 f_End:Int
 f_NewModule:Int
 f_NewStart:Int
instance:Inhabited G_MovedRange:=⟨(G_MovedRange.mk 0 0 0 0 0)⟩
def z8(x:G_Symbol):List AVal:=[i6 x.f_Kind,i6 x.f_Module,i6 x.f_Start,i6 x.f_Parent,.str x.f_Name,.bool x.f_Public]
def zd(x:G_Reference):List AVal:=[i6 x.f_Module,i6 x.f_Start,i6 x.f_Symbol]
def zc(x:G_Diagnostic):List AVal:=[i6 x.f_Code,i6 x.f_Module,i6 x.f_Start,i6 x.f_End,.str x.f_Name]
def z7(x:G_FileEdit):List AVal:=[i6 x.f_Module,i6 x.f_TextEdit.f_Start,i6 x.f_TextEdit.f_End,.str x.f_TextEdit.f_NewText]
def za(x:G_MovedRange):List AVal:=[i6 x.f_Module,i6 x.f_Start,i6 x.f_End,i6 x.f_NewModule,i6 x.f_NewStart]
def z6(x:G_TextEdit):List AVal:=[i6 x.f_Start,i6 x.f_End,.str x.f_NewText]
theorem zil(x:G_Symbol):AVal.nid.nidL (z8 x)=true∧∀y∈z8 x,y.imm=some y:=⟨rfl,by simp[z8,AVal.imm]⟩
theorem zd8(x:G_Reference):AVal.nid.nidL (zd x)=true∧∀y∈zd x,y.imm=some y:=⟨rfl,by simp[zd,AVal.imm]⟩
theorem zbr(x:G_Diagnostic):AVal.nid.nidL (zc x)=true∧∀y∈zc x,y.imm=some y:=⟨rfl,by simp[zc,AVal.imm]⟩
theorem zf8(x:G_FileEdit):AVal.nid.nidL (z7 x)=true∧∀y∈z7 x,y.imm=some y:=⟨rfl,by simp[z7,AVal.imm]⟩
theorem zbj(x:G_MovedRange):AVal.nid.nidL (za x)=true∧∀y∈za x,y.imm=some y:=⟨rfl,by simp[za,AVal.imm]⟩
theorem ze8(x:G_TextEdit):AVal.nid.nidL (z6 x)=true∧∀y∈z6 x,y.imm=some y:=⟨rfl,by simp[z6,AVal.imm]⟩
def qz(m:Option Nat):Option (Bool):=some true
theorem zmy{m:Option Nat}{o:Bool}(h:qz m=some o):PFn Tryz.prog 6 [] (.bool o):=by
 cases h
 exact zi1
def z96:LCode:=(.seq (.region [Qo 12 (.bin .lss (.t 11) (.t 10))])
 (.seq (.cond (.t 12)
  .skip
  (.exit 0))
 (.seq (.block 1
  (.seq (.region [Qo 13 (.iaddr 3 (.t 9) (.t 11)),
   Qt 14 3 13,
   Qo 5 (.alloc [(i6 0),(i6 0),(.str [])]),
   ⟨none,.store 3 (.t 5) (.t 14),none⟩])
  (.seq (.seq (.region [Qf 15 0 5,
   Ql 16 1 15,
   Qm 17 3,
   Qo 18 (.bin .leq (.t 16) (.t 17)),
   Qm 19 18,
   Qe 20 1 5 (19,false),
   Qk 21 1 20 (19,false),
   Qe 22 0 5 (19,false),
   Qk 23 1 22 (19,false),
   Qg 24 (.bin .lss (.t 21) (.t 23)) (19,false),
   Qo 25 (.pick (.t 19) (.c (.bool true)) (.t 24))])
  (.cond (.t 25)
   (.seq (.region [Qi 2 3])
   .ret)
   .skip))
  (.region [Qf 26 1 5,
   Ql 27 1 26,
   Qm 3 27]))))
 (.region [Qo 28 (.bin .add (.t 11) (.c (i6 1))),
  Qm 11 28]))))
def z6l:LCode:=(.seq (.region [Qi 2 0])
 .ret)
def zfr:LCode:=(.seq (.region [Qi 2 0])
 (.seq (.seq (.region [Qm 6 0,
  Qo 7 (.len false (.t 6)),
  Qo 8 (.bin .gtr (.t 7) (.c (i6 50)))])
 (.cond (.t 8)
  (.seq (.region [Qi 2 2])
  .ret)
  .skip))
 (.seq (.region [Qo 3 (.mv (.c (i6 (-1))))])
 (.seq (.seq (.region [Qm 9 0,
  Qo 10 (.len false (.t 9)),
  Qi 11 0])
 (.block 0
  (.loop
   z96)))
 z6l))))
def Q5:Lay:=⟨29,[],false⟩
def zb1:List LRes:=[.t 2]
def zlc:LFn:=⟨1,Q5,zfr,zb1⟩
theorem zh4:ve Tryz.prog [] 65=some zlc:=by kernel_rfl
theorem zi0:Xp Tryz.prog 65:=⟨_,Tryz.func65,rfl,rfl⟩
def zf9(a0:List G_TextEdit)(o:Int):Exit→Env→AHeap→Nat→Prop:=z1w zb1 (vd (i6 o))
def Kr(a0:List G_TextEdit)(s:(Int×Int)):Env:=[(3,i6 s.1),(9,.isl 3 (a0.map z6) false),(10,i6 ((a0.map z6).length:Int)),(11,i6 s.2)]
def z2j(a0:List G_TextEdit)(s:(Int×Int)):AHeap:=[]
def z6g(a0:List G_TextEdit)(o:Int):Exit→Env→AHeap→Nat→Prop:=(j4 0 (Wa Tryz.prog Q5 0 z6l (zf9 a0 o)))
def xx(m:Option Nat):Option Int:=
 some 0
def qr(m:Option Nat)(a0:List G_TextEdit)(v1:Int)(v2:Int):Option ((Int×Int) ⊕ Int):=
 if(decide (v2<((a0.map z6).length:Int)))=true then
  if(0:Int)≤v2∧v2<((a0.map z6).length:Int) then
  if((decide ((a0.getD v2.toNat default).f_Start≤v1)) || (decide ((a0.getD v2.toNat default).f_End<(a0.getD v2.toNat default).f_Start)))=true then
   p3 p4 (
    some 3)
  else
   some (.inl ((a0.getD v2.toNat default).f_End,(W (v2+1))))
  else none
 else
  p3 p4 (
   xx m)
def xe(m:Option Nat)(a0:List G_TextEdit)(v1:Int)(v2:Int):Option Int:=Zf m (fun(s:(Int×Int))=>qr m a0 s.1 s.2) (v1,v2)
theorem zbn{a0:List G_TextEdit}{m:Option Nat}{o:Int}(h:xx m=some o) :
 LWp Tryz.prog Q5 0 z6l (zf9 a0 o) [] [] 0:=by
 unfold xx at h
 refine yf (qe ?_)
 refine uq ?_
 cases h
 exact AI TT (AI rfl (VS rfl))
theorem z7v{a0:List G_TextEdit}{v1:Int}{v2:Int}{m:Option Nat}{o:(Int×Int) ⊕ Int}(h:qr m a0 v1 v2=some o) :
 LWp Tryz.prog Q5 0 z96 (Zz 0 0 (Kr a0) (z2j a0) (z6g a0) o) [(3,i6 v1),(9,.isl 3 (a0.map z6) false),(10,i6 ((a0.map z6).length:Int)),(11,i6 v2)] [] 0:=by
 unfold qr at h
 refine yf (qe ?_)
 refine yf ?_
 refine xp (v:=(decide (v2<((a0.map z6).length:Int)))) rfl TT (fun h8=>?_) (fun h8=>?_)
 ·have h:=qd h8 h
  refine xw ?_
  refine yf ?_
  refine jg ?_
  refine yf (qe ?_)
  obtain⟨h9,h⟩:=x8 h
  refine AI h9 ?_
  refine EX (z6 (a0.getD v2.toNat default)) (AI (xi z6 _ _ (j6 z6 h9)) (AI (AI (wj h9) (NB rfl)) ?_))
  refine yf ?_
  refine yf (qe ?_)
  refine AI (fun hp=>hp) ?_
  refine AI (fun hp=>hp) ?_
  refine AI (fun hp=>(AI hp hp)) ?_
  refine AI (fun hc=>(bqf hc)) ?_
  refine p1 (e:=[(5,.ptr (0,0) 0 0),(9,.isl 3 (a0.map z6) false),(10,i6 ((a0.map z6).length:Int)),(11,i6 v2),(25,.bool ((decide ((a0.getD v2.toNat default).f_Start≤v1)) || (decide ((a0.getD v2.toNat default).f_End<(a0.getD v2.toNat default).f_Start))))]) (L:=[((0,0),.one [i6 ((a0.getD v2.toNat default).f_Start),i6 ((a0.getD v2.toNat default).f_End),.str ((a0.getD v2.toNat default).f_NewText)])]) (n:=1) ?_ ?_
  ·exact xv (M:=[((0,0),(0,0))]) rfl (SP rfl (S4 rfl rfl rfl rfl TT)) (AI (AI rfl (OL rfl)) TT)
  refine xp (v:=((decide ((a0.getD v2.toNat default).f_Start≤v1)) || (decide ((a0.getD v2.toNat default).f_End<(a0.getD v2.toNat default).f_Start)))) rfl TT (fun h10=>?_) (fun h10=>?_)
  ·have h:=qd h10 h
   refine yf (qe ?_)
   refine uq ?_
   obtain⟨o,hq,rfl⟩:=p2.1 h
   replace h:=hq;clear hq
   refine AI nofun ?_
   cases h
   exact AI TT (AI rfl (VS rfl))
  ·have h:=qm h10 h
   refine xw ?_
   refine qe ?_
   refine qe ?_
   cases h
   exact AI rfl (xv (M:=[]) rfl (S4 rfl rfl rfl rfl TT) TT)
 ·have h:=qm h8 h
  refine Jx ?_
  obtain⟨o,hq,rfl⟩:=p2.1 h
  replace h:=hq;clear hq
  refine AI nofun ?_
  refine p1 ?_ (zbn h)
  exact xv (M:=[]) rfl TT TT
theorem z9f{a0:List G_TextEdit}{v1:Int}{v2:Int}{m:Option Nat}{o:Int}(h:xe m a0 v1 v2=some o) :
 LWp Tryz.prog Q5 0 (.loop z96) (j4 0 (Wa Tryz.prog Q5 0 z6l (zf9 a0 o))) [(3,i6 v1),(9,.isl 3 (a0.map z6) false),(10,i6 ((a0.map z6).length:Int)),(11,i6 v2)] [] 0:=
 jm (m:=m) (s:=((v1,v2):(Int×Int))) (r:=o) (fun(s:(Int×Int))=>qr m a0 s.1 s.2) (Kr a0) (z2j a0) (z6g a0) (fun s o h=>z7v h) h
def xl(m:Option Nat)(a0:List G_TextEdit):Option Int:=
 if(decide (((a0.map z6).length:Int) > 50))=true then
  some 2
 else
  xe m a0 (-1) 0
theorem zar{a0:List G_TextEdit}{m:Option Nat}{o:Int}(h:xl m a0=some o):LWp Tryz.prog Q5 0 zfr (zf9 a0 o) (xm 0 [.isl 3 (a0.map z6) false]) [] 0:=by
 unfold xl at h
 refine yf (qe ?_)
 refine yf ?_
 refine yf (qe ?_)
 refine xp (v:=(decide (((a0.map z6).length:Int) > 50))) rfl TT (fun h1=>?_) (fun h1=>?_)
 ·have h:=qd h1 h
  refine yf (qe ?_)
  refine uq ?_
  cases h
  exact AI TT (AI rfl (VS rfl))
 ·have h:=qm h1 h
  refine xw ?_
  refine yf (qe ?_)
  refine yf ?_
  refine yf (qe ?_)
  refine p1 (e:=[(3,i6 (-1)),(9,.isl 3 (a0.map z6) false),(10,i6 ((a0.map z6).length:Int)),(11,i6 0)]) (L:=[]) (n:=0) ?_ ?_
  ·exact xv (M:=[]) rfl (S4 rfl rfl rfl rfl TT) TT
  refine jg ?_
  refine p1 ?_ (z9f h)
  exact xv (M:=[]) rfl (S4 rfl rfl rfl rfl TT) TT
theorem zl2{a0:List G_TextEdit}{m:Option Nat}{o:Int}(h:xl m a0=some o):PFn Tryz.prog 65 [.isl 3 (a0.map z6) false] (i6 o):=pA (L:=zlc) zh4 zi0 (NB rfl) rfl (zar h)
def zfp:LCode:=(.cond (.t 19)
 (.region [Qm 37 7,
  Qf 38 2 9,
  Ql 39 1 38,
  Qo 40 (.len true (.t 39)),
  Qf 41 1 9,
  Ql 42 1 41,
  Qf 43 0 9,
  Ql 44 1 43,
  Qo 45 (.bin .sub (.t 42) (.t 44)),
  Qo 46 (.bin .sub (.t 40) (.t 45)),
  Qo 47 (.bin .add (.t 37) (.t 46)),
  Qm 7 47])
 (.seq (.region [Qf 49 0 9,
  Ql 50 1 49,
  Qm 51 1,
  Qo 52 (.bin .lss (.t 50) (.t 51)),
  Qm 53 52,
  Qn 54 2 (53,true),
  Qp 55 53 54,
  Qm 48 55])
 (.cond (.t 48)
  (.seq (.region [Qf 56 0 9,
   Ql 57 1 56,
   Qm 58 7,
   Qo 59 (.bin .add (.t 57) (.t 58)),
   Qf 60 2 9,
   Ql 61 1 60,
   Qo 62 (.len true (.t 61)),
   Qo 63 (.bin .add (.t 59) (.t 62)),
   Qm 6 63])
  .ret)
  (.seq (.region [Qf 65 0 9,
   Ql 66 1 65,
   Qm 67 1,
   Qo 68 (.bin .lss (.t 66) (.t 67)),
   Qm 64 68])
  (.cond (.t 64)
   (.seq (.region [Qf 69 0 9,
    Ql 70 1 69,
    Qm 71 7,
    Qo 72 (.bin .add (.t 70) (.t 71)),
    Qm 6 72])
   .ret)
   (.seq (.region [Qm 16 1,
    Qm 17 7,
    Qo 18 (.bin .add (.t 16) (.t 17)),
    Qm 6 18])
   .ret))))))
def zfq:LCode:=(.region [Qo 73 (.bin .add (.t 12) (.c (i6 1))),
 Qm 12 73])
def zcn:LCode:=(.seq (.region [Qo 13 (.bin .lss (.t 12) (.t 11))])
 (.seq (.cond (.t 13)
  .skip
  (.exit 0))
 (.seq (.block 1
  (.seq (.region [Qo 14 (.iaddr 3 (.t 10) (.t 12)),
   Qt 15 3 14,
   Qo 9 (.alloc [(i6 0),(i6 0),(.str [])]),
   ⟨none,.store 3 (.t 9) (.t 15),none⟩])
  (.block 2
   (.seq (.seq (.region [Qf 20 1 9,
    Ql 21 1 20,
    Qm 22 1,
    Qo 23 (.bin .lss (.t 21) (.t 22)),
    Qm 19 23])
   (.cond (.t 19)
    .skip
    (.region [Qf 24 1 9,
     Ql 25 1 24,
     Qm 26 1,
     Qo 27 (.bin .eql (.t 25) (.t 26)),
     Qm 28 27,
     Qe 29 0 9 (28,true),
     Qk 30 1 29 (28,true),
     Qn 31 1 (28,true),
     Qg 32 (.bin .lss (.t 30) (.t 31)) (28,true),
     Qn 33 32 (28,true),
     Qn 34 2 (33,false),
     Qg 35 (.pick (.t 33) (.c (.bool true)) (.t 34)) (28,true),
     Qp 36 28 35,
     Qm 19 36])))
   zfp))))
 zfq)))
def z6o:LCode:=(.seq (.region [Qm 74 1,
 Qm 75 7,
 Qo 76 (.bin .add (.t 74) (.t 75)),
 Qm 6 76])
 .ret)
def zg2:LCode:=(.seq (.region [Qi 6 0])
 (.seq (.region [Qi 7 0])
 (.seq (.seq (.region [Qm 10 0,
  Qo 11 (.len false (.t 10)),
  Qi 12 0])
 (.block 0
  (.loop
   zcn)))
 z6o)))
def Zb:Lay:=⟨77,[],false⟩
def zd2:List LRes:=[.t 6]
def zlg:LFn:=⟨3,Zb,zg2,zd2⟩
theorem zgo:ve Tryz.prog [] 66=some zlg:=by kernel_rfl
theorem zh7:Xp Tryz.prog 66:=⟨_,Tryz.func66,rfl,rfl⟩
def zeg(a0:List G_TextEdit)(a1:Int)(a2:Bool)(o:Int):Exit→Env→AHeap→Nat→Prop:=z1w zd2 (vd (i6 o))
def Jd(a0:List G_TextEdit)(a1:Int)(a2:Bool)(s:(Int×Int)):Env:=[(1,i6 a1),(2,.bool a2),(7,i6 s.1),(10,.isl 3 (a0.map z6) false),(11,i6 ((a0.map z6).length:Int)),(12,i6 s.2)]
def Wt(a0:List G_TextEdit)(a1:Int)(a2:Bool)(s:(Int×Int)):AHeap:=[]
def Uo(a0:List G_TextEdit)(a1:Int)(a2:Bool)(o:Int):Exit→Env→AHeap→Nat→Prop:=(j4 0 (Wa Tryz.prog Zb 0 z6o (zeg a0 a1 a2 o)))
def qw(m:Option Nat)(a0:List G_TextEdit)(a1:Int)(a2:Bool)(v2:Int)(v3:Int)(v5:Bool):Option ((Int×Int) ⊕ Int):=
 if v5=true then
  some (.inl ((W (v2+(W ((((a0.getD v3.toNat default).f_NewText).length:Int)-(W ((a0.getD v3.toNat default).f_End-(a0.getD v3.toNat default).f_Start)))))),(W (v3+1))))
 else
  if((decide ((a0.getD v3.toNat default).f_Start<a1))&&a2)=true then
   p3 p4 (
    some (W ((W ((a0.getD v3.toNat default).f_Start+v2))+(((a0.getD v3.toNat default).f_NewText).length:Int))))
  else
   if(decide ((a0.getD v3.toNat default).f_Start<a1))=true then
    p3 p4 (
     some (W ((a0.getD v3.toNat default).f_Start+v2)))
   else
    p3 p4 (
     some (W (a1+v2)))
theorem z1t{a0:List G_TextEdit}{a1:Int}{a2:Bool}{v2:Int}{v3:Int}{v5:Bool}{m:Option Nat}{o:((Int×Int) ⊕ Int)}(h:qw m a0 a1 a2 v2 v3 v5=some o) :
 LWp Tryz.prog Zb 0 zfp (j4 2 (j4 1 (Wa Tryz.prog Zb 0 zfq (Zz 0 0 (Jd a0 a1 a2) (Wt a0 a1 a2) (Uo a0 a1 a2) o)))) [(1,i6 a1),(2,.bool a2),(7,i6 v2),(9,.ptr (0,0) 0 0),(10,.isl 3 (a0.map z6) false),(11,i6 ((a0.map z6).length:Int)),(12,i6 v3),(19,.bool v5)] [((0,0),.one [i6 ((a0.getD v3.toNat default).f_Start),i6 ((a0.getD v3.toNat default).f_End),.str ((a0.getD v3.toNat default).f_NewText)])] 1:=by
 unfold qw at h
 refine xp (v:=v5) rfl TT (fun h16=>?_) (fun h16=>?_)
 ·have h:=qd h16 h
  refine qe ?_
  refine p1 (e:=[(1,i6 a1),(2,.bool a2),(7,i6 (W (v2+(W ((((a0.getD v3.toNat default).f_NewText).length:Int)-(W ((a0.getD v3.toNat default).f_End-(a0.getD v3.toNat default).f_Start))))))),(10,.isl 3 (a0.map z6) false),(11,i6 ((a0.map z6).length:Int)),(12,i6 v3)]) (L:=[]) (n:=0) ?_ ?_
  ·exact xv (M:=[]) rfl (S4 rfl rfl rfl rfl (S2 rfl rfl TT)) TT
  refine qe ?_
  cases h
  exact AI rfl (xv (M:=[]) rfl (S4 rfl rfl rfl rfl (S2 rfl rfl TT)) TT)
 ·have h:=qm h16 h
  refine yf (qe ?_)
  refine AI (fun hc=>(bqt hc)) ?_
  refine p1 (e:=[(1,i6 a1),(7,i6 v2),(9,.ptr (0,0) 0 0),(48,.bool ((decide ((a0.getD v3.toNat default).f_Start<a1))&&a2))]) (L:=[((0,0),.one [i6 ((a0.getD v3.toNat default).f_Start),i6 ((a0.getD v3.toNat default).f_End),.str ((a0.getD v3.toNat default).f_NewText)])]) (n:=1) ?_ ?_
  ·exact xv (M:=[((0,0),(0,0))]) rfl (S2 rfl rfl (SP rfl (AI (VS rfl) TT))) (AI (AI rfl (OL rfl)) TT)
  refine xp (v:=((decide ((a0.getD v3.toNat default).f_Start<a1))&&a2)) rfl TT (fun h17=>?_) (fun h17=>?_)
  ·have h:=qd h17 h
   refine yf (qe ?_)
   refine p1 (e:=[(6,i6 (W ((W ((a0.getD v3.toNat default).f_Start+v2))+(((a0.getD v3.toNat default).f_NewText).length:Int))))]) (L:=[]) (n:=0) ?_ ?_
   ·exact xv (M:=[]) rfl (AI (VS rfl) TT) TT
   refine uq ?_
   obtain⟨o,hq,rfl⟩:=p2.1 h
   replace h:=hq;clear hq
   refine AI nofun ?_
   cases h
   exact AI TT (AI rfl (VS rfl))
  ·have h:=qm h17 h
   refine yf (qe ?_)
   refine xp (v:=(decide ((a0.getD v3.toNat default).f_Start<a1))) rfl TT (fun h18=>?_) (fun h18=>?_)
   ·have h:=qd h18 h
    refine yf (qe ?_)
    refine p1 (e:=[(6,i6 (W ((a0.getD v3.toNat default).f_Start+v2)))]) (L:=[]) (n:=0) ?_ ?_
    ·exact xv (M:=[]) rfl (AI (VS rfl) TT) TT
    refine uq ?_
    obtain⟨o,hq,rfl⟩:=p2.1 h
    replace h:=hq;clear hq
    refine AI nofun ?_
    cases h
    exact AI TT (AI rfl (VS rfl))
   ·have h:=qm h18 h
    refine yf (qe ?_)
    refine p1 (e:=[(6,i6 (W (a1+v2)))]) (L:=[]) (n:=0) ?_ ?_
    ·exact xv (M:=[]) rfl (AI (VS rfl) TT) TT
    refine uq ?_
    obtain⟨o,hq,rfl⟩:=p2.1 h
    replace h:=hq;clear hq
    refine AI nofun ?_
    cases h
    exact AI TT (AI rfl (VS rfl))
def xt(m:Option Nat)(a1:Int)(v2:Int):Option Int:=
 some (W (a1+v2))
def qk(m:Option Nat)(a0:List G_TextEdit)(a1:Int)(a2:Bool)(v2:Int)(v3:Int):Option ((Int×Int) ⊕ Int):=
 if(decide (v3<((a0.map z6).length:Int)))=true then
  if(0:Int)≤v3∧v3<((a0.map z6).length:Int) then
  if(decide ((a0.getD v3.toNat default).f_End<a1))=true then
   qw m a0 a1 a2 v2 v3 (decide ((a0.getD v3.toNat default).f_End<a1))
  else
   qw m a0 a1 a2 v2 v3 (((a0.getD v3.toNat default).f_End==a1)&&((decide ((a0.getD v3.toNat default).f_Start<a1)) || a2))
  else none
 else
  p3 p4 (
   xt m a1 v2)
def x9(m:Option Nat)(a0:List G_TextEdit)(a1:Int)(a2:Bool)(v2:Int)(v3:Int):Option Int:=Zf m (fun(s:(Int×Int))=>qk m a0 a1 a2 s.1 s.2) (v2,v3)
theorem zb3{a0:List G_TextEdit}{a2:Bool}{a1:Int}{v2:Int}{m:Option Nat}{o:Int}(h:xt m a1 v2=some o) :
 LWp Tryz.prog Zb 0 z6o (zeg a0 a1 a2 o) [(1,i6 a1),(7,i6 v2)] [] 0:=by
 unfold xt at h
 refine yf (qe ?_)
 refine uq ?_
 cases h
 exact AI TT (AI rfl (VS rfl))
theorem z74{a0:List G_TextEdit}{a1:Int}{a2:Bool}{v2:Int}{v3:Int}{m:Option Nat}{o:(Int×Int) ⊕ Int}(h:qk m a0 a1 a2 v2 v3=some o) :
 LWp Tryz.prog Zb 0 zcn (Zz 0 0 (Jd a0 a1 a2) (Wt a0 a1 a2) (Uo a0 a1 a2) o) [(1,i6 a1),(2,.bool a2),(7,i6 v2),(10,.isl 3 (a0.map z6) false),(11,i6 ((a0.map z6).length:Int)),(12,i6 v3)] [] 0:=by
 unfold qk at h
 refine yf (qe ?_)
 refine yf ?_
 refine xp (v:=(decide (v3<((a0.map z6).length:Int)))) rfl TT (fun h13=>?_) (fun h13=>?_)
 ·have h:=qd h13 h
  refine xw ?_
  refine yf ?_
  refine jg ?_
  refine yf (qe ?_)
  obtain⟨h14,h⟩:=x8 h
  refine AI h14 ?_
  refine EX (z6 (a0.getD v3.toNat default)) (AI (xi z6 _ _ (j6 z6 h14)) (AI (AI (wj h14) (NB rfl)) ?_))
  refine jg ?_
  refine yf ?_
  refine yf (qe ?_)
  refine p1 (e:=[(1,i6 a1),(2,.bool a2),(7,i6 v2),(9,.ptr (0,0) 0 0),(10,.isl 3 (a0.map z6) false),(11,i6 ((a0.map z6).length:Int)),(12,i6 v3),(19,.bool (decide ((a0.getD v3.toNat default).f_End<a1)))]) (L:=[((0,0),.one [i6 ((a0.getD v3.toNat default).f_Start),i6 ((a0.getD v3.toNat default).f_End),.str ((a0.getD v3.toNat default).f_NewText)])]) (n:=1) ?_ ?_
  ·exact xv (M:=[((0,0),(0,0))]) rfl (S2 rfl rfl (AI (VS rfl) (SP rfl (S4 rfl rfl rfl rfl TT)))) (AI (AI rfl (OL rfl)) TT)
  refine xp (v:=(decide ((a0.getD v3.toNat default).f_End<a1))) rfl TT (fun h15=>?_) (fun h15=>?_)
  ·have h:=qd h15 h
   refine xw ?_
   refine p1 ?_ (z1t h)
   exact xv (M:=[((0,0),(0,0))]) rfl (S2 rfl rfl (AI (VS rfl) (SP rfl (S4 rfl rfl rfl rfl TT)))) (AI (AI rfl (OL rfl)) TT)
  ·have h:=qm h15 h
   refine qe ?_
   refine AI (fun hp=>hp) ?_
   refine AI (fun hp=>(AI hp hp)) ?_
   refine AI (fun hp=>hp) ?_
   refine AI (fun hp=>(AI hp (fun hc=>(z1o hp (bqf hc))))) ?_
   refine AI (fun hc=>(bqt hc)) ?_
   refine p1 ?_ (z1t h)
   exact xv (M:=[((0,0),(0,0))]) rfl (S2 rfl rfl (AI (VS rfl) (SP rfl (S4 rfl rfl rfl rfl TT)))) (AI (AI rfl (OL rfl)) TT)
 ·have h:=qm h13 h
  refine Jx ?_
  obtain⟨o,hq,rfl⟩:=p2.1 h
  replace h:=hq;clear hq
  refine AI nofun ?_
  refine p1 ?_ (zb3 h)
  exact xv (M:=[]) rfl (S2 rfl rfl TT) TT
theorem z91{a0:List G_TextEdit}{a1:Int}{a2:Bool}{v2:Int}{v3:Int}{m:Option Nat}{o:Int}(h:x9 m a0 a1 a2 v2 v3=some o) :
 LWp Tryz.prog Zb 0 (.loop zcn) (j4 0 (Wa Tryz.prog Zb 0 z6o (zeg a0 a1 a2 o))) [(1,i6 a1),(2,.bool a2),(7,i6 v2),(10,.isl 3 (a0.map z6) false),(11,i6 ((a0.map z6).length:Int)),(12,i6 v3)] [] 0:=
 jm (m:=m) (s:=((v2,v3):(Int×Int))) (r:=o) (fun(s:(Int×Int))=>qk m a0 a1 a2 s.1 s.2) (Jd a0 a1 a2) (Wt a0 a1 a2) (Uo a0 a1 a2) (fun s o h=>z74 h) h
def xb(m:Option Nat)(a0:List G_TextEdit)(a1:Int)(a2:Bool):Option Int:=
 x9 m a0 a1 a2 0 0
theorem zak{a0:List G_TextEdit}{a1:Int}{a2:Bool}{m:Option Nat}{o:Int}(h:xb m a0 a1 a2=some o):LWp Tryz.prog Zb 0 zg2 (zeg a0 a1 a2 o) (xm 0 [.isl 3 (a0.map z6) false,i6 a1,.bool a2]) [] 0:=by
 unfold xb at h
 refine yf (qe ?_)
 refine yf (qe ?_)
 refine yf ?_
 refine yf (qe ?_)
 refine jg ?_
 refine p1 ?_ (z91 h)
 exact xv (M:=[]) rfl (S4 rfl rfl rfl rfl (S2 rfl rfl TT)) TT
theorem zjp{a0:List G_TextEdit}{a1:Int}{a2:Bool}{m:Option Nat}{o:Int}(h:xb m a0 a1 a2=some o):PFn Tryz.prog 66 [.isl 3 (a0.map z6) false,i6 a1,.bool a2] (i6 o):=pA (L:=zlg) zgo zh7 (NB rfl) rfl (zak h)
def zg3:LCode:=(.seq (.seq (.region [Qm 17 8,
 Qo 18 (.bin .neq (.t 17) (.c (i6 0)))])
 (.cond (.t 18)
  (.seq (.region [Qm 19 8,
   Qi 6 0,
   Qm 7 19])
  .ret)
  .skip))
 (.seq (.region [Qm 20 0,
  Qm 21 1,
  Qm 22 2,
  Qo 23 (.call 66 [(.t 20),(.t 21),(.t 22)]),
  Qm 6 23,
  Qi 7 0])
 .ret))
def zfj:LCode:=(.seq (.region [Qi 6 0,
 Qi 7 0])
 (.seq (.region [Qm 9 0,
  Qc 10 65 9,
  Qm 8 10])
 (.seq (.seq (.region [Qm 11 8,
  Qo 12 (.bin .eql (.t 11) (.c (i6 0))),
  Qm 13 12,
  Qn 14 1 (13,true),
  Qg 15 (.bin .lss (.t 14) (.c (i6 0))) (13,true),
  Qp 16 13 15])
 (.cond (.t 16)
  (.region [Qi 8 1])
  .skip))
 zg3)))
def z42:Lay:=⟨24,[],false⟩
def zd5:List LRes:=[.t 6,.t 7]
def zjv:LFn:=⟨3,z42,zfj,zd5⟩
theorem zgw:ve Tryz.prog [] 35=some zjv:=by kernel_rfl
theorem zht:Xp Tryz.prog 35:=⟨_,Tryz.func35,rfl,rfl⟩
def jh(m:Option Nat)(a0:List G_TextEdit)(a1:Int)(a2:Bool)(v2:Int):Option (Int×Int):=
 if(v2 != 0)=true then
  some (0,v2)
 else
  (xb m a0 a1 a2).bind fun v3=>
  some (v3,0)
def zkm(a0:List G_TextEdit)(a1:Int)(a2:Bool)(o:Int×Int):Exit→Env→AHeap→Nat→Prop:=z1w zd5 (vd (.tup [i6 o.1,i6 o.2]))
theorem z25{a0:List G_TextEdit}{a1:Int}{a2:Bool}{v2:Int}{m:Option Nat}{o:(Int×Int)}(h:jh m a0 a1 a2 v2=some o) :
 LWp Tryz.prog z42 0 zg3 (zkm a0 a1 a2 o) [(0,.isl 3 (a0.map z6) false),(1,i6 a1),(2,.bool a2),(8,i6 v2)] [] 0:=by
 unfold jh at h
 refine yf ?_
 refine yf (qe ?_)
 refine xp (v:=(v2 != 0)) rfl TT (fun h3=>?_) (fun h3=>?_)
 ·have h:=qd h3 h
  refine yf (qe ?_)
  refine uq ?_
  cases h
  exact AI TT (AI TT (AI rfl (VS rfl)))
 ·have h:=qm h3 h
  refine xw ?_
  refine yf (qe ?_)
  obtain⟨v3,h4,h⟩:=bind_some h
  refine p9 (zjp h4) (S2 rfl rfl (AI (VS rfl) TT)) ?_
  refine p1 (e:=[(6,i6 v3),(7,i6 0)]) (L:=[]) (n:=0) ?_ ?_
  ·exact xv (M:=[]) rfl (S2 rfl rfl TT) TT
  refine uq ?_
  cases h
  exact AI TT (AI TT (AI rfl (VS rfl)))
def va(m:Option Nat)(a0:List G_TextEdit)(a1:Int)(a2:Bool):Option (Int×Int):=
 (xl m a0).bind fun v1=>
 if((v1==0)&&(decide (a1<0)))=true then
  jh m a0 a1 a2 1
 else
  jh m a0 a1 a2 v1
theorem zck{a0:List G_TextEdit}{a1:Int}{a2:Bool}{m:Option Nat}{o:Int×Int}(h:va m a0 a1 a2=some o):LWp Tryz.prog z42 0 zfj (zkm a0 a1 a2 o) (xm 0 [.isl 3 (a0.map z6) false,i6 a1,.bool a2]) [] 0:=by
 unfold va at h
 refine yf (qe ?_)
 refine yf (qe ?_)
 obtain⟨v1,h1,h⟩:=bind_some h
 refine p9 (zl2 h1) (AI (VS rfl) TT) ?_
 refine yf ?_
 refine yf (qe ?_)
 refine AI (fun hp=>hp) ?_
 refine AI (fun hc=>(bqt hc)) ?_
 refine p1 (e:=[(0,.isl 3 (a0.map z6) false),(1,i6 a1),(2,.bool a2),(8,i6 v1),(16,.bool ((v1==0)&&(decide (a1<0))))]) (L:=[]) (n:=0) ?_ ?_
 ·exact xv (M:=[]) rfl (S4 rfl rfl rfl rfl (AI (VS rfl) TT)) TT
 refine xp (v:=((v1==0)&&(decide (a1<0)))) rfl TT (fun h2=>?_) (fun h2=>?_)
 ·have h:=qd h2 h
  refine qe ?_
  refine p1 ?_ (z25 h)
  exact xv (M:=[]) rfl (S4 rfl rfl rfl rfl TT) TT
 ·have h:=qm h2 h
  refine xw ?_
  refine p1 ?_ (z25 h)
  exact xv (M:=[]) rfl (S4 rfl rfl rfl rfl TT) TT
theorem zlf{a0:List G_TextEdit}{a1:Int}{a2:Bool}{m:Option Nat}{o:Int×Int}(h:va m a0 a1 a2=some o):PFn Tryz.prog 35 [.isl 3 (a0.map z6) false,i6 a1,.bool a2] (.tup [i6 o.1,i6 o.2]):=pA (L:=zjv) zgw zht (NB rfl) rfl (zck h)
def zc3:LCode:=(.seq (.region [Qo 21 (.bin .lss (.t 20) (.t 19))])
 (.seq (.cond (.t 21)
  .skip
  (.exit 0))
 (.seq (.block 1
  (.seq (.region [Qo 22 (.iaddr 5 (.t 18) (.t 20)),
   Qt 23 5 22,
   Qo 12 (.alloc [(i6 0),(i6 0),(i6 0),(i6 0),(i6 0)]),
   ⟨none,.store 5 (.t 12) (.t 23),none⟩])
  (.seq (.region [Qf 24 0 12,
   Ql 25 1 24,
   Qm 26 2,
   Qo 27 (.bin .eql (.t 25) (.t 26)),
   Qm 28 27,
   Qe 29 1 12 (28,true),
   Qk 30 1 29 (28,true),
   Qn 31 3 (28,true),
   Qg 32 (.bin .leq (.t 30) (.t 31)) (28,true),
   Qp 33 28 32,
   Qm 34 33,
   Qn 35 3 (34,true),
   Qe 36 2 12 (34,true),
   Qk 37 1 36 (34,true),
   Qg 38 (.bin .lss (.t 35) (.t 37)) (34,true),
   Qp 39 34 38])
  (.cond (.t 39)
   (.seq (.seq (.region [Qf 40 3 12,
    Ql 41 1 40,
    Qo 42 (.bin .lss (.t 41) (.c (i6 0)))])
   (.cond (.t 42)
    (.seq (.region [Qi 8 0,
     Qi 9 0,
     Qb 10])
    .ret)
    .skip))
   (.seq (.quiet [Qf 43 3 12,
    Ql 44 1 43,
    Qf 45 4 12,
    Ql 46 1 45,
    Qm 47 3,
    Qo 48 (.bin .add (.t 46) (.t 47)),
    Qf 49 1 12,
    Ql 50 1 49,
    Qo 51 (.bin .sub (.t 48) (.t 50)),
    Qm 8 44,
    Qm 9 51,
    Qo 10 (.mv (.c (.bool true)))])
   .ret))
   .skip))))
 (.region [Qo 52 (.bin .add (.t 20) (.c (i6 1))),
  Qm 20 52]))))
def zgb:LCode:=(.region [Qo 100 (.bin .add (.t 55) (.c (i6 1))),
 Qm 55 100])
def z90:LCode:=(.seq (.region [Qo 56 (.bin .lss (.t 55) (.t 54))])
 (.seq (.cond (.t 56)
  .skip
  (.exit 2))
 (.seq (.block 3
  (.seq (.region [Qo 57 (.iaddr 4 (.t 53) (.t 55)),
   Qt 58 4 57,
   Qo 15 (.alloc [(i6 0),(i6 0),(i6 0),(.str [])]),
   ⟨none,.store 4 (.t 15) (.t 58),none⟩])
  (.seq (.seq (.region [Qf 59 0 15,
   Ql 60 1 59,
   Qm 61 2,
   Qo 62 (.bin .neq (.t 60) (.t 61))])
  (.cond (.t 62)
   (.exit 3)
   .skip))
  (.seq (.seq (.region [Qf 63 1 15,
   Qf 64 0 63,
   Ql 65 1 64,
   Qm 66 3,
   Qo 67 (.bin .lss (.t 65) (.t 66)),
   Qm 68 67,
   Qn 69 3 (68,true),
   Qe 70 1 15 (68,true),
   Qe 71 1 70 (68,true),
   Qk 72 1 71 (68,true),
   Qg 73 (.bin .lss (.t 69) (.t 72)) (68,true),
   Qp 74 68 73,
   Qm 75 74,
   Qe 76 1 15 (75,false),
   Qe 77 0 76 (75,false),
   Qk 78 1 77 (75,false),
   Qn 79 3 (75,false),
   Qg 80 (.bin .eql (.t 78) (.t 79)) (75,false),
   Qn 81 80 (75,false),
   Qn 82 3 (81,true),
   Qe 83 1 15 (81,true),
   Qe 84 1 83 (81,true),
   Qk 85 1 84 (81,true),
   Qg 86 (.bin .lss (.t 82) (.t 85)) (81,true),
   Qg 87 (.pick (.t 81) (.t 86) (.c (.bool false))) (75,false),
   Qn 88 87 (75,false),
   Qe 89 1 15 (88,true),
   Qe 90 2 89 (88,true),
   Qk 91 1 90 (88,true),
   Qg 92 (.bin .eql (.t 91) (.c (.str []))) (88,true),
   Qg 93 (.pick (.t 88) (.t 92) (.c (.bool false))) (75,false),
   Qo 94 (.pick (.t 75) (.c (.bool true)) (.t 93))])
  (.cond (.t 94)
   (.seq (.region [Qi 8 0,
    Qi 9 0,
    Qb 10])
   .ret)
   .skip))
  (.region [Qm 95 13,
   Qf 96 1 15,
   Qt 97 3 96,
   Qo 98 (.mkSl true 3 [(i6 0),(i6 0),(.str [])] 1 [(0,(.t 97))]),
   Qo 99 (.app true 3 32 (.t 95) (.t 98)),
   Qm 13 99])))))
 zgb)))
def z5l:LCode:=(.seq (.region [Qm 102 13,
 Qm 103 3,
 Qo 104 (.call 35 [(.t 102),(.t 103),(.c (.bool true))]),
 Qm 101 104,
 Qo 105 (.ext 0 (.t 101)),
 Qo 106 (.ext 1 (.t 101)),
 Qm 16 105,
 Qm 17 106])
 (.seq (.seq (.region [Qm 107 17,
  Qo 108 (.bin .neq (.t 107) (.c (i6 0)))])
 (.cond (.t 108)
  (.seq (.region [Qi 8 0,
   Qi 9 0,
   Qb 10])
  .ret)
  .skip))
 (.seq (.region [Qm 109 2,
  Qm 110 16,
  Qm 8 109,
  Qm 9 110,
  Qo 10 (.mv (.c (.bool true)))])
 .ret)))
def z60:LCode:=(.seq (.region [Qo 13 (.mv (.c (.val (.slice none 0 0))))])
 (.seq (.seq (.region [Qm 53 0,
  Qo 54 (.len false (.t 53)),
  Qi 55 0])
 (.block 2
  (.loop
   z90)))
 z5l))
def zg5:LCode:=(.seq (.region [Qi 8 0,
 Qi 9 0,
 Qb 10])
 (.seq (.seq (.region [Qm 18 1,
  Qo 19 (.len false (.t 18)),
  Qi 20 0])
 (.block 0
  (.loop
   zc3)))
 z60))
def wu:Lay:=⟨111,[],false⟩
def zcf:List LRes:=[.t 8,.t 9,.t 10]
def zkt:LFn:=⟨4,wu,zg5,zcf⟩
theorem ziv:ve Tryz.prog [] 12=some zkt:=by kernel_rfl
theorem zhq:Xp Tryz.prog 12:=⟨_,Tryz.func12,rfl,rfl⟩
def z54(a0:List G_FileEdit)(a1:List G_MovedRange)(a2:Int)(a3:Int)(o:Int×Int×Bool):Exit→Env→AHeap→Nat→Prop:=z1w zcf (vd (.tup [i6 o.1,i6 o.2.1,.bool o.2.2]))
def U5(a0:List G_FileEdit)(a1:List G_MovedRange)(a2:Int)(a3:Int)(s:Int):Env:=[(0,.isl 4 (a0.map z7) false),(2,i6 a2),(3,i6 a3),(18,.isl 5 (a1.map za) false),(19,i6 ((a1.map za).length:Int)),(20,i6 s)]
def z1l(a0:List G_FileEdit)(a1:List G_MovedRange)(a2:Int)(a3:Int)(s:Int):AHeap:=[]
def z68(a0:List G_FileEdit)(a1:List G_MovedRange)(a2:Int)(a3:Int)(o:(Int×Int×Bool)):Exit→Env→AHeap→Nat→Prop:=(j4 0 (Wa Tryz.prog wu 0 z60 (z54 a0 a1 a2 a3 o)))
def ql(m:Option Nat)(a0:List G_FileEdit)(a2:Int)(a3:Int)(v4:Int)(v6:List G_TextEdit):Option (((List G_TextEdit)×Int) ⊕ (Int×Int×Bool)):=
 some (.inl (v6,(W (v4+1))))
def yi(m:Option Nat)(a2:Int)(a3:Int)(v3:List G_TextEdit):Option (Int×Int×Bool):=
 (va m v3 a3 true).bind fun v7=>
 if(v7.2 != 0)=true then
  some (0,0,false)
 else
  some (a2,v7.1,true)
def yh(m:Option Nat)(a0:List G_FileEdit)(a2:Int)(a3:Int)(v3:List G_TextEdit)(v4:Int):Option (((List G_TextEdit)×Int) ⊕ (Int×Int×Bool)):=
 if(decide (v4<((a0.map z7).length:Int)))=true then
  if(0:Int)≤v4∧v4<((a0.map z7).length:Int) then
  if((a0.getD v4.toNat default).f_Module != a2)=true then
   ql m a0 a2 a3 v4 v3
  else
   if(((decide (((a0.getD v4.toNat default).f_TextEdit).f_Start<a3))&&(decide (a3<((a0.getD v4.toNat default).f_TextEdit).f_End))) || (((((a0.getD v4.toNat default).f_TextEdit).f_Start==a3)&&(decide (a3<((a0.getD v4.toNat default).f_TextEdit).f_End)))&&(((a0.getD v4.toNat default).f_TextEdit).f_NewText==([]:List UInt8))))=true then
    p3 p4 (
     some (0,0,false))
   else
    if((v3++([(G_TextEdit.mk (((a0.getD v4.toNat default).f_TextEdit).f_Start) (((a0.getD v4.toNat default).f_TextEdit).f_End) (((a0.getD v4.toNat default).f_TextEdit).f_NewText))]:List G_TextEdit)).map z6).length*32≤140737488355328 then
    ql m a0 a2 a3 v4 (v3++([(G_TextEdit.mk (((a0.getD v4.toNat default).f_TextEdit).f_Start) (((a0.getD v4.toNat default).f_TextEdit).f_End) (((a0.getD v4.toNat default).f_TextEdit).f_NewText))]:List G_TextEdit))
    else none
  else none
 else
  p3 p4 (
   yi m a2 a3 v3)
def yg(m:Option Nat)(a0:List G_FileEdit)(a2:Int)(a3:Int)(v3:List G_TextEdit)(v4:Int):Option (Int×Int×Bool):=Zf m (fun(s:((List G_TextEdit)×Int))=>yh m a0 a2 a3 s.1 s.2) (v3,v4)
def yv(m:Option Nat)(a0:List G_FileEdit)(a2:Int)(a3:Int):Option (Int×Int×Bool):=
 yg m a0 a2 a3 [] 0
def ye(m:Option Nat)(a0:List G_FileEdit)(a1:List G_MovedRange)(a2:Int)(a3:Int)(v1:Int):Option (Int ⊕ (Int×Int×Bool)):=
 if(decide (v1<((a1.map za).length:Int)))=true then
  if(0:Int)≤v1∧v1<((a1.map za).length:Int) then
  if((((a1.getD v1.toNat default).f_Module==a2)&&(decide ((a1.getD v1.toNat default).f_Start≤a3)))&&(decide (a3<(a1.getD v1.toNat default).f_End)))=true then
   if(decide ((a1.getD v1.toNat default).f_NewModule<0))=true then
    p3 p4 (
     some (0,0,false))
   else
    p3 p4 (
     some ((a1.getD v1.toNat default).f_NewModule,(W ((W ((a1.getD v1.toNat default).f_NewStart+a3))-(a1.getD v1.toNat default).f_Start)),true))
  else
   some (.inl (W (v1+1)))
  else none
 else
  p3 p4 (
   yv m a0 a2 a3)
def qo(m:Option Nat)(a0:List G_FileEdit)(a1:List G_MovedRange)(a2:Int)(a3:Int)(v1:Int):Option (Int×Int×Bool):=Zf m (fun(s:Int)=>ye m a0 a1 a2 a3 s) v1
def J7(a0:List G_FileEdit)(a2:Int)(a3:Int)(s:((List G_TextEdit)×Int)):Env:=[(2,i6 a2),(3,i6 a3),(13,.osl (0,0) 3 (s.1.map z6)),(53,.isl 4 (a0.map z7) false),(54,i6 ((a0.map z7).length:Int)),(55,i6 s.2)]
def Vg(a0:List G_FileEdit)(a2:Int)(a3:Int)(s:((List G_TextEdit)×Int)):AHeap:=[((0,0),.tok)]
def z0d(a0:List G_FileEdit)(a1:List G_MovedRange)(a2:Int)(a3:Int)(o:(Int×Int×Bool)):Exit→Env→AHeap→Nat→Prop:=(j4 2 (Wa Tryz.prog wu 0 z5l (z54 a0 a1 a2 a3 o)))
theorem z28{a1:List G_MovedRange}{a0:List G_FileEdit}{a2:Int}{a3:Int}{v4:Int}{v6:List G_TextEdit}{m:Option Nat}{o:(((List G_TextEdit)×Int) ⊕ (Int×Int×Bool))}(h:ql m a0 a2 a3 v4 v6=some o) :
 LWp Tryz.prog wu 0 zgb (Zz 0 1 (J7 a0 a2 a3) (Vg a0 a2 a3) (z0d a0 a1 a2 a3) o) [(2,i6 a2),(3,i6 a3),(13,.osl (0,0) 3 (v6.map z6)),(53,.isl 4 (a0.map z7) false),(54,i6 ((a0.map z7).length:Int)),(55,i6 v4)] [((0,0),.tok)] 1:=by
 unfold ql at h
 refine qe ?_
 cases h
 exact AI rfl (xv (M:=[((0,0),(0,0))]) rfl (S2 rfl rfl (AI (Vw.osl _ _ _ _ rfl) (S2 rfl rfl (AI (VS rfl) TT)))) (AI (AI rfl BVw.tok) TT))
theorem zbi{a0:List G_FileEdit}{a1:List G_MovedRange}{a2:Int}{a3:Int}{v3:List G_TextEdit}{m:Option Nat}{o:(Int×Int×Bool)}(h:yi m a2 a3 v3=some o) :
 LWp Tryz.prog wu 0 z5l (z54 a0 a1 a2 a3 o) [(2,i6 a2),(3,i6 a3),(13,.osl (0,0) 3 (v3.map z6))] [((0,0),.tok)] 1:=by
 unfold yi at h
 refine yf (qe ?_)
 obtain⟨v7,h28,h⟩:=bind_some h
 refine p9 (zlf h28) (AI (Vw.oslI _ _ _) (S2 rfl rfl TT)) ?_
 refine p1 (e:=[(2,i6 a2),(16,i6 v7.1),(17,i6 v7.2)]) (L:=[]) (n:=0) ?_ ?_
 ·exact xv (M:=[]) rfl (S2 rfl rfl (AI (VS rfl) TT)) TT
 refine yf ?_
 refine yf (qe ?_)
 refine xp (v:=(v7.2 != 0)) rfl TT (fun h29=>?_) (fun h29=>?_)
 ·have h:=qd h29 h
  refine yf (qe ?_)
  refine uq ?_
  cases h
  exact AI TT (AI TT (AI TT (AI rfl (VS rfl))))
 ·have h:=qm h29 h
  refine xw ?_
  refine yf (qe ?_)
  refine uq ?_
  cases h
  exact AI TT (AI TT (AI TT (AI rfl (VS rfl))))
theorem z8d{a1:List G_MovedRange}{a0:List G_FileEdit}{a2:Int}{a3:Int}{v3:List G_TextEdit}{v4:Int}{m:Option Nat}{o:((List G_TextEdit)×Int) ⊕ (Int×Int×Bool)}(h:yh m a0 a2 a3 v3 v4=some o) :
 LWp Tryz.prog wu 0 z90 (Zz 0 1 (J7 a0 a2 a3) (Vg a0 a2 a3) (z0d a0 a1 a2 a3) o) [(2,i6 a2),(3,i6 a3),(13,.osl (0,0) 3 (v3.map z6)),(53,.isl 4 (a0.map z7) false),(54,i6 ((a0.map z7).length:Int)),(55,i6 v4)] [((0,0),.tok)] 1:=by
 unfold yh at h
 refine yf (qe ?_)
 refine yf ?_
 refine xp (v:=(decide (v4<((a0.map z7).length:Int)))) rfl TT (fun h23=>?_) (fun h23=>?_)
 ·have h:=qd h23 h
  refine xw ?_
  refine yf ?_
  refine jg ?_
  refine yf (qe ?_)
  obtain⟨h24,h⟩:=x8 h
  refine AI h24 ?_
  refine EX (z7 (a0.getD v4.toNat default)) (AI (xi z7 _ _ (j6 z7 h24)) (AI (AI (wj h24) (NB rfl)) ?_))
  refine yf ?_
  refine yf (qe ?_)
  refine p1 (e:=[(2,i6 a2),(3,i6 a3),(13,.osl (0,0) 3 (v3.map z6)),(15,.ptr (1,0) 0 0),(53,.isl 4 (a0.map z7) false),(54,i6 ((a0.map z7).length:Int)),(55,i6 v4),(62,.bool ((a0.getD v4.toNat default).f_Module != a2))]) (L:=[((0,0),.tok),((1,0),.one [i6 ((a0.getD v4.toNat default).f_Module),i6 (((a0.getD v4.toNat default).f_TextEdit).f_Start),i6 (((a0.getD v4.toNat default).f_TextEdit).f_End),.str (((a0.getD v4.toNat default).f_TextEdit).f_NewText)])]) (n:=2) ?_ ?_
  ·exact xv (M:=[((0,0),(0,0)),((1,0),(1,0))]) rfl (S2 rfl rfl (AI (Vw.osl _ _ _ _ rfl) (SP rfl (S4 rfl rfl rfl rfl TT)))) (AI (AI rfl BVw.tok) (AI (AI rfl (OL rfl)) TT))
  refine xp (v:=((a0.getD v4.toNat default).f_Module != a2)) rfl TT (fun h25=>?_) (fun h25=>?_)
  ·have h:=qd h25 h
   refine Jx ?_
   refine p1 ?_ (z28 h)
   exact xv (M:=[((0,0),(0,0))]) rfl (S2 rfl rfl (AI (Vw.osl _ _ _ _ rfl) (S2 rfl rfl (AI (VS rfl) TT)))) (AI (AI rfl BVw.tok) TT)
  ·have h:=qm h25 h
   refine xw ?_
   refine yf ?_
   refine yf (qe ?_)
   refine AI (fun hp=>hp) ?_
   refine AI (fun hp=>hp) ?_
   refine AI (fun hp=>(AI hp hp)) ?_
   refine AI (fun hc=>(bqt hc)) ?_
   refine AI (fun hp=>hp) ?_
   refine AI (fun hp=>hp) ?_
   refine AI (fun hp=>(AI hp hp)) ?_
   refine AI (fun hp=>hp) ?_
   refine AI (fun hp=>hp) ?_
   refine AI (fun hp=>hp) ?_
   refine AI (fun hp=>(AI hp hp)) ?_
   refine AI (fun hp=>(AI hp (fun hc=>(z1o hp (bqt hc))))) ?_
   refine AI (fun hp=>hp) ?_
   refine AI (fun hp=>hp) ?_
   refine AI (fun hp=>hp) ?_
   refine AI (fun hp=>hp) ?_
   refine AI (fun hp=>(AI hp (fun hc=>(z1o hp (bqt hc))))) ?_
   refine AI (fun hc=>(bqf hc)) ?_
   refine p1 (e:=[(2,i6 a2),(3,i6 a3),(13,.osl (0,0) 3 (v3.map z6)),(15,.ptr (1,0) 0 0),(53,.isl 4 (a0.map z7) false),(54,i6 ((a0.map z7).length:Int)),(55,i6 v4),(94,.bool (((decide (((a0.getD v4.toNat default).f_TextEdit).f_Start<a3))&&(decide (a3<((a0.getD v4.toNat default).f_TextEdit).f_End))) || (((((a0.getD v4.toNat default).f_TextEdit).f_Start==a3)&&(decide (a3<((a0.getD v4.toNat default).f_TextEdit).f_End)))&&(((a0.getD v4.toNat default).f_TextEdit).f_NewText==([]:List UInt8)))))]) (L:=[((0,0),.tok),((1,0),.one [i6 ((a0.getD v4.toNat default).f_Module),i6 (((a0.getD v4.toNat default).f_TextEdit).f_Start),i6 (((a0.getD v4.toNat default).f_TextEdit).f_End),.str (((a0.getD v4.toNat default).f_TextEdit).f_NewText)])]) (n:=2) ?_ ?_
   ·exact xv (M:=[((0,0),(0,0)),((1,0),(1,0))]) rfl (S2 rfl rfl (AI (Vw.osl _ _ _ _ rfl) (SP rfl (S4 rfl rfl rfl rfl TT)))) (AI (AI rfl BVw.tok) (AI (AI rfl (OL rfl)) TT))
   refine xp (v:=(((decide (((a0.getD v4.toNat default).f_TextEdit).f_Start<a3))&&(decide (a3<((a0.getD v4.toNat default).f_TextEdit).f_End))) || (((((a0.getD v4.toNat default).f_TextEdit).f_Start==a3)&&(decide (a3<((a0.getD v4.toNat default).f_TextEdit).f_End)))&&(((a0.getD v4.toNat default).f_TextEdit).f_NewText==([]:List UInt8))))) rfl TT (fun h26=>?_) (fun h26=>?_)
   ·have h:=qd h26 h
    refine yf (qe ?_)
    refine uq ?_
    obtain⟨o,hq,rfl⟩:=p2.1 h
    replace h:=hq;clear hq
    refine AI nofun ?_
    cases h
    exact AI TT (AI TT (AI TT (AI rfl (VS rfl))))
   ·have h:=qm h26 h
    refine xw ?_
    refine qe ?_
    obtain⟨h27,h⟩:=x8 h
    refine EX ((v3++([(G_TextEdit.mk (((a0.getD v4.toNat default).f_TextEdit).f_Start) (((a0.getD v4.toNat default).f_TextEdit).f_End) (((a0.getD v4.toNat default).f_TextEdit).f_NewText))]:List G_TextEdit)).map z6) (AI (zay z6 v3 ([(G_TextEdit.mk (((a0.getD v4.toNat default).f_TextEdit).f_Start) (((a0.getD v4.toNat default).f_TextEdit).f_End) (((a0.getD v4.toNat default).f_TextEdit).f_NewText))]:List G_TextEdit)) (AI h27 ?_))
    refine p1 ?_ (z28 h)
    exact xv (M:=[((0,0),(2,0))]) rfl (S2 rfl rfl (AI (Vw.osl _ _ _ _ rfl) (S2 rfl rfl (AI (VS rfl) TT)))) (AI (AI rfl BVw.tok) TT)
 ·have h:=qm h23 h
  refine Jx ?_
  obtain⟨o,hq,rfl⟩:=p2.1 h
  replace h:=hq;clear hq
  refine AI nofun ?_
  refine p1 ?_ (zbi h)
  exact xv (M:=[((0,0),(0,0))]) rfl (S2 rfl rfl (AI (Vw.osl _ _ _ _ rfl) TT)) (AI (AI rfl BVw.tok) TT)
theorem zbv{a1:List G_MovedRange}{a0:List G_FileEdit}{a2:Int}{a3:Int}{v3:List G_TextEdit}{v4:Int}{m:Option Nat}{o:(Int×Int×Bool)}(h:yg m a0 a2 a3 v3 v4=some o) :
 LWp Tryz.prog wu 0 (.loop z90) (j4 2 (Wa Tryz.prog wu 0 z5l (z54 a0 a1 a2 a3 o))) [(2,i6 a2),(3,i6 a3),(13,.osl (0,0) 3 (v3.map z6)),(53,.isl 4 (a0.map z7) false),(54,i6 ((a0.map z7).length:Int)),(55,i6 v4)] [((0,0),.tok)] 1:=
 jm (m:=m) (s:=((v3,v4):((List G_TextEdit)×Int))) (r:=o) (fun(s:((List G_TextEdit)×Int))=>yh m a0 a2 a3 s.1 s.2) (J7 a0 a2 a3) (Vg a0 a2 a3) (z0d a0 a1 a2 a3) (fun s o h=>z8d h) h
theorem zco{a1:List G_MovedRange}{a0:List G_FileEdit}{a2:Int}{a3:Int}{m:Option Nat}{o:(Int×Int×Bool)}(h:yv m a0 a2 a3=some o) :
 LWp Tryz.prog wu 0 z60 (z54 a0 a1 a2 a3 o) [(0,.isl 4 (a0.map z7) false),(2,i6 a2),(3,i6 a3)] [] 0:=by
 unfold yv at h
 refine yf (qe ?_)
 refine yf ?_
 refine yf (qe ?_)
 refine jg ?_
 refine p1 ?_ (zbv h)
 exact xv (M:=[]) rfl (S2 rfl rfl (AI (Vw.nilO _ _ (by decide)) (S2 rfl rfl (AI (VS rfl) TT)))) (AI (AI rfl (AI (by decide) (by decide))) TT)
theorem z7h{a0:List G_FileEdit}{a1:List G_MovedRange}{a2:Int}{a3:Int}{v1:Int}{m:Option Nat}{o:Int ⊕ (Int×Int×Bool)}(h:ye m a0 a1 a2 a3 v1=some o) :
 LWp Tryz.prog wu 0 zc3 (Zz 0 0 (U5 a0 a1 a2 a3) (z1l a0 a1 a2 a3) (z68 a0 a1 a2 a3) o) [(0,.isl 4 (a0.map z7) false),(2,i6 a2),(3,i6 a3),(18,.isl 5 (a1.map za) false),(19,i6 ((a1.map za).length:Int)),(20,i6 v1)] [] 0:=by
 unfold ye at h
 refine yf (qe ?_)
 refine yf ?_
 refine xp (v:=(decide (v1<((a1.map za).length:Int)))) rfl TT (fun h9=>?_) (fun h9=>?_)
 ·have h:=qd h9 h
  refine xw ?_
  refine yf ?_
  refine jg ?_
  refine yf (qe ?_)
  obtain⟨h10,h⟩:=x8 h
  refine AI h10 ?_
  refine EX (za (a1.getD v1.toNat default)) (AI (xi za _ _ (j6 za h10)) (AI (AI (wj h10) (NB rfl)) ?_))
  refine yf (qe ?_)
  refine AI (fun hp=>hp) ?_
  refine AI (fun hp=>(AI hp hp)) ?_
  refine AI (fun hc=>(bqt hc)) ?_
  refine AI (fun hp=>hp) ?_
  refine AI (fun hp=>(AI hp hp)) ?_
  refine AI (fun hc=>(bqt hc)) ?_
  refine p1 (e:=[(0,.isl 4 (a0.map z7) false),(2,i6 a2),(3,i6 a3),(12,.ptr (0,0) 0 0),(18,.isl 5 (a1.map za) false),(19,i6 ((a1.map za).length:Int)),(20,i6 v1),(39,.bool ((((a1.getD v1.toNat default).f_Module==a2)&&(decide ((a1.getD v1.toNat default).f_Start≤a3)))&&(decide (a3<(a1.getD v1.toNat default).f_End))))]) (L:=[((0,0),.one [i6 ((a1.getD v1.toNat default).f_Module),i6 ((a1.getD v1.toNat default).f_Start),i6 ((a1.getD v1.toNat default).f_End),i6 ((a1.getD v1.toNat default).f_NewModule),i6 ((a1.getD v1.toNat default).f_NewStart)])]) (n:=1) ?_ ?_
  ·exact xv (M:=[((0,0),(0,0))]) rfl (S2 rfl rfl (AI (VS rfl) (SP rfl (S4 rfl rfl rfl rfl TT)))) (AI (AI rfl (OL rfl)) TT)
  refine xp (v:=((((a1.getD v1.toNat default).f_Module==a2)&&(decide ((a1.getD v1.toNat default).f_Start≤a3)))&&(decide (a3<(a1.getD v1.toNat default).f_End)))) rfl TT (fun h11=>?_) (fun h11=>?_)
  ·have h:=qd h11 h
   refine yf ?_
   refine yf (qe ?_)
   refine xp (v:=(decide ((a1.getD v1.toNat default).f_NewModule<0))) rfl TT (fun h12=>?_) (fun h12=>?_)
   ·have h:=qd h12 h
    refine yf (qe ?_)
    refine uq ?_
    obtain⟨o,hq,rfl⟩:=p2.1 h
    replace h:=hq;clear hq
    refine AI nofun ?_
    cases h
    exact AI TT (AI TT (AI TT (AI rfl (VS rfl))))
   ·have h:=qm h12 h
    refine xw ?_
    refine yf ?_
    refine z61 ?_
    refine p1 (e:=[(8,i6 ((a1.getD v1.toNat default).f_NewModule)),(9,i6 (W ((W ((a1.getD v1.toNat default).f_NewStart+a3))-(a1.getD v1.toNat default).f_Start))),(10,.bool true)]) (L:=[]) (n:=0) ?_ ?_
    ·exact xv (M:=[]) rfl (S2 rfl rfl (AI (VS rfl) TT)) TT
    refine uq ?_
    obtain⟨o,hq,rfl⟩:=p2.1 h
    replace h:=hq;clear hq
    refine AI nofun ?_
    cases h
    exact AI TT (AI TT (AI TT (AI rfl (VS rfl))))
  ·have h:=qm h11 h
   refine xw ?_
   refine qe ?_
   cases h
   exact AI rfl (xv (M:=[]) rfl (S4 rfl rfl rfl rfl (S2 rfl rfl TT)) TT)
 ·have h:=qm h9 h
  refine Jx ?_
  obtain⟨o,hq,rfl⟩:=p2.1 h
  replace h:=hq;clear hq
  refine AI nofun ?_
  refine p1 ?_ (zco h)
  exact xv (M:=[]) rfl (S2 rfl rfl (AI (VS rfl) TT)) TT
theorem z94{a0:List G_FileEdit}{a1:List G_MovedRange}{a2:Int}{a3:Int}{v1:Int}{m:Option Nat}{o:(Int×Int×Bool)}(h:qo m a0 a1 a2 a3 v1=some o) :
 LWp Tryz.prog wu 0 (.loop zc3) (j4 0 (Wa Tryz.prog wu 0 z60 (z54 a0 a1 a2 a3 o))) [(0,.isl 4 (a0.map z7) false),(2,i6 a2),(3,i6 a3),(18,.isl 5 (a1.map za) false),(19,i6 ((a1.map za).length:Int)),(20,i6 v1)] [] 0:=
 jm (m:=m) (s:=(v1:Int)) (r:=o) (fun(s:Int)=>ye m a0 a1 a2 a3 s) (U5 a0 a1 a2 a3) (z1l a0 a1 a2 a3) (z68 a0 a1 a2 a3) (fun s o h=>z7h h) h
def yu(m:Option Nat)(a0:List G_FileEdit)(a1:List G_MovedRange)(a2:Int)(a3:Int):Option (Int×Int×Bool):=
 qo m a0 a1 a2 a3 0
theorem zai{a0:List G_FileEdit}{a1:List G_MovedRange}{a2:Int}{a3:Int}{m:Option Nat}{o:Int×Int×Bool}(h:yu m a0 a1 a2 a3=some o):LWp Tryz.prog wu 0 zg5 (z54 a0 a1 a2 a3 o) (xm 0 [.isl 4 (a0.map z7) false,.isl 5 (a1.map za) false,i6 a2,i6 a3]) [] 0:=by
 unfold yu at h
 refine yf (qe ?_)
 refine yf ?_
 refine yf (qe ?_)
 refine jg ?_
 refine p1 ?_ (z94 h)
 exact xv (M:=[]) rfl (S4 rfl rfl rfl rfl (S2 rfl rfl TT)) TT
theorem zfv{a0:List G_FileEdit}{a1:List G_MovedRange}{a2:Int}{a3:Int}{m:Option Nat}{o:Int×Int×Bool}(h:yu m a0 a1 a2 a3=some o):PFn Tryz.prog 12 [.isl 4 (a0.map z7) false,.isl 5 (a1.map za) false,i6 a2,i6 a3] (.tup [i6 o.1,i6 o.2.1,.bool o.2.2]):=pA (L:=zkt) ziv zhq (NB rfl) rfl (zai h)
def zfs:LCode:=(.region [Qm 11 6,
 Qo 12 (.bin .add (.t 11) (.c (i6 1))),
 Qm 6 12])
def z9v:LCode:=(.seq (.seq (.region [Qm 7 6,
 Qm 8 0,
 Qo 9 (.len false (.t 8)),
 Qo 10 (.bin .lss (.t 7) (.t 9))])
 (.cond (.t 10)
  .skip
  (.exit 0)))
 (.seq (.block 1
  (.seq (.region [Qm 13 0,
   Qm 14 6,
   Qo 15 (.iaddr 4 (.t 13) (.t 14)),
   Qf 16 0 15,
   Ql 17 1 16,
   Qm 18 1,
   Qo 19 (.bin .eql (.t 17) (.t 18))])
  (.cond (.t 19)
   (.region [Qm 20 5,
    Qm 21 0,
    Qm 22 6,
    Qo 23 (.iaddr 4 (.t 21) (.t 22)),
    Qf 24 1 23,
    Qt 25 3 24,
    Qo 26 (.mkSl true 3 [(i6 0),(i6 0),(.str [])] 1 [(0,(.t 25))]),
    Qo 27 (.app true 3 32 (.t 20) (.t 26)),
    Qm 5 27])
   .skip)))
 zfs))
def z5o:LCode:=(.seq (.region [Qm 28 5,
 Qm 4 28])
 .ret)
def zg0:LCode:=(.seq (.region [Qo 4 (.mv (.c (.val (.slice none 0 0))))])
 (.seq (.region [Qo 5 (.mv (.c (.val (.slice none 0 0))))])
 (.seq (.seq (.region [Qi 6 0])
 (.block 0
  (.loop
   z9v)))
 z5o)))
def Zr:Lay:=⟨29,[],false⟩
def z8y:List LRes:=[.t 4]
def zjf:LFn:=⟨2,Zr,zg0,z8y⟩
theorem zhj:ve Tryz.prog [] 33=some zjf:=by kernel_rfl
theorem zhm:Xp Tryz.prog 33:=⟨_,Tryz.func33,rfl,rfl⟩
def ze7(a0:List G_FileEdit)(a1:Int)(o:(List G_TextEdit)):Exit→Env→AHeap→Nat→Prop:=z1w z8y (vd (.isl 3 (o.map z6) false))
def Xt(a0:List G_FileEdit)(a1:Int)(s:((List G_TextEdit)×Int)):Env:=[(0,.isl 4 (a0.map z7) false),(1,i6 a1),(5,.osl (0,0) 3 (s.1.map z6)),(6,i6 s.2)]
def Ve(a0:List G_FileEdit)(a1:Int)(s:((List G_TextEdit)×Int)):AHeap:=[((0,0),.tok)]
def Uy(a0:List G_FileEdit)(a1:Int)(o:(List G_TextEdit)):Exit→Env→AHeap→Nat→Prop:=(j4 0 (Wa Tryz.prog Zr 0 z5o (ze7 a0 a1 o)))
def yr(m:Option Nat)(a0:List G_FileEdit)(a1:Int)(v3:Int)(v5:List G_TextEdit):Option (((List G_TextEdit)×Int) ⊕ (List G_TextEdit)):=
 some (.inl (v5,(W (v3+1))))
theorem z13{a0:List G_FileEdit}{a1:Int}{v3:Int}{v5:List G_TextEdit}{m:Option Nat}{o:(((List G_TextEdit)×Int) ⊕ (List G_TextEdit))}(h:yr m a0 a1 v3 v5=some o) :
 LWp Tryz.prog Zr 0 zfs (Zz 0 1 (Xt a0 a1) (Ve a0 a1) (Uy a0 a1) o) [(0,.isl 4 (a0.map z7) false),(1,i6 a1),(5,.osl (0,0) 3 (v5.map z6)),(6,i6 v3)] [((0,0),.tok)] 1:=by
 unfold yr at h
 refine qe ?_
 cases h
 exact AI rfl (xv (M:=[((0,0),(0,0))]) rfl (S2 rfl rfl (AI (Vw.osl _ _ _ _ rfl) (AI (VS rfl) TT))) (AI (AI rfl BVw.tok) TT))
def qg(m:Option Nat)(v2:List G_TextEdit):Option (List G_TextEdit):=
 some v2
def zw(m:Option Nat)(a0:List G_FileEdit)(a1:Int)(v2:List G_TextEdit)(v3:Int):Option (((List G_TextEdit)×Int) ⊕ (List G_TextEdit)):=
 if(decide (v3<((a0.map z7).length:Int)))=true then
  if(0:Int)≤v3∧v3<((a0.map z7).length:Int) then
  if((a0.getD v3.toNat default).f_Module==a1)=true then
   if(0:Int)≤v3∧v3<((a0.map z7).length:Int) then
   if((v2++([(G_TextEdit.mk (((a0.getD v3.toNat default).f_TextEdit).f_Start) (((a0.getD v3.toNat default).f_TextEdit).f_End) (((a0.getD v3.toNat default).f_TextEdit).f_NewText))]:List G_TextEdit)).map z6).length*32≤140737488355328 then
   yr m a0 a1 v3 (v2++([(G_TextEdit.mk (((a0.getD v3.toNat default).f_TextEdit).f_Start) (((a0.getD v3.toNat default).f_TextEdit).f_End) (((a0.getD v3.toNat default).f_TextEdit).f_NewText))]:List G_TextEdit))
   else none
   else none
  else
   yr m a0 a1 v3 v2
  else none
 else
  p3 p4 (
   qg m v2)
def zz(m:Option Nat)(a0:List G_FileEdit)(a1:Int)(v2:List G_TextEdit)(v3:Int):Option (List G_TextEdit):=Zf m (fun(s:((List G_TextEdit)×Int))=>zw m a0 a1 s.1 s.2) (v2,v3)
theorem zcz{a0:List G_FileEdit}{a1:Int}{v2:List G_TextEdit}{m:Option Nat}{o:(List G_TextEdit)}(h:qg m v2=some o) :
 LWp Tryz.prog Zr 0 z5o (ze7 a0 a1 o) [(5,.osl (0,0) 3 (v2.map z6))] [((0,0),.tok)] 1:=by
 unfold qg at h
 refine yf (qe ?_)
 refine uq ?_
 cases h
 exact AI TT (AI rfl (Vw.oslI _ _ _))
theorem z7x{a0:List G_FileEdit}{a1:Int}{v2:List G_TextEdit}{v3:Int}{m:Option Nat}{o:((List G_TextEdit)×Int) ⊕ (List G_TextEdit)}(h:zw m a0 a1 v2 v3=some o) :
 LWp Tryz.prog Zr 0 z9v (Zz 0 1 (Xt a0 a1) (Ve a0 a1) (Uy a0 a1) o) [(0,.isl 4 (a0.map z7) false),(1,i6 a1),(5,.osl (0,0) 3 (v2.map z6)),(6,i6 v3)] [((0,0),.tok)] 1:=by
 unfold zw at h
 refine yf ?_
 refine yf (qe ?_)
 refine xp (v:=(decide (v3<((a0.map z7).length:Int)))) rfl TT (fun h11=>?_) (fun h11=>?_)
 ·have h:=qd h11 h
  refine xw ?_
  refine yf ?_
  refine jg ?_
  refine yf (qe ?_)
  obtain⟨h12,h⟩:=x8 h
  refine AI h12 ?_
  refine EX (z7 (a0.getD v3.toNat default)) (AI (xi z7 _ _ (j6 z7 h12)) (AI (AI (wj h12) (NB rfl)) ?_))
  refine p1 (e:=[(0,.isl 4 (a0.map z7) false),(1,i6 a1),(5,.osl (0,0) 3 (v2.map z6)),(6,i6 v3),(19,.bool ((a0.getD v3.toNat default).f_Module==a1))]) (L:=[((0,0),.tok)]) (n:=1) ?_ ?_
  ·exact xv (M:=[((0,0),(0,0))]) rfl (S2 rfl rfl (AI (Vw.osl _ _ _ _ rfl) (S2 rfl rfl TT))) (AI (AI rfl BVw.tok) TT)
  refine xp (v:=((a0.getD v3.toNat default).f_Module==a1)) rfl TT (fun h13=>?_) (fun h13=>?_)
  ·have h:=qd h13 h
   refine qe ?_
   obtain⟨h14,h⟩:=x8 h
   refine AI h14 ?_
   refine EX (z7 (a0.getD v3.toNat default)) (AI (xi z7 _ _ (j6 z7 h14)) (AI (AI (wj h14) (NB rfl)) ?_))
   obtain⟨h15,h⟩:=x8 h
   refine EX ((v2++([(G_TextEdit.mk (((a0.getD v3.toNat default).f_TextEdit).f_Start) (((a0.getD v3.toNat default).f_TextEdit).f_End) (((a0.getD v3.toNat default).f_TextEdit).f_NewText))]:List G_TextEdit)).map z6) (AI (zay z6 v2 ([(G_TextEdit.mk (((a0.getD v3.toNat default).f_TextEdit).f_Start) (((a0.getD v3.toNat default).f_TextEdit).f_End) (((a0.getD v3.toNat default).f_TextEdit).f_NewText))]:List G_TextEdit)) (AI h15 ?_))
   refine p1 ?_ (z13 h)
   exact xv (M:=[((0,0),(1,0))]) rfl (S2 rfl rfl (AI (Vw.osl _ _ _ _ rfl) (AI (VS rfl) TT))) (AI (AI rfl BVw.tok) TT)
  ·have h:=qm h13 h
   refine xw ?_
   refine p1 ?_ (z13 h)
   exact xv (M:=[((0,0),(0,0))]) rfl (S2 rfl rfl (AI (Vw.osl _ _ _ _ rfl) (AI (VS rfl) TT))) (AI (AI rfl BVw.tok) TT)
 ·have h:=qm h11 h
  refine Jx ?_
  obtain⟨o,hq,rfl⟩:=p2.1 h
  replace h:=hq;clear hq
  refine AI nofun ?_
  refine p1 ?_ (zcz h)
  exact xv (M:=[((0,0),(0,0))]) rfl (AI (Vw.osl _ _ _ _ rfl) TT) (AI (AI rfl BVw.tok) TT)
theorem z9g{a0:List G_FileEdit}{a1:Int}{v2:List G_TextEdit}{v3:Int}{m:Option Nat}{o:(List G_TextEdit)}(h:zz m a0 a1 v2 v3=some o) :
 LWp Tryz.prog Zr 0 (.loop z9v) (j4 0 (Wa Tryz.prog Zr 0 z5o (ze7 a0 a1 o))) [(0,.isl 4 (a0.map z7) false),(1,i6 a1),(5,.osl (0,0) 3 (v2.map z6)),(6,i6 v3)] [((0,0),.tok)] 1:=
 jm (m:=m) (s:=((v2,v3):((List G_TextEdit)×Int))) (r:=o) (fun(s:((List G_TextEdit)×Int))=>zw m a0 a1 s.1 s.2) (Xt a0 a1) (Ve a0 a1) (Uy a0 a1) (fun s o h=>z7x h) h
def ym(m:Option Nat)(a0:List G_FileEdit)(a1:Int):Option (List G_TextEdit):=
 zz m a0 a1 [] 0
theorem zcb{a0:List G_FileEdit}{a1:Int}{m:Option Nat}{o:(List G_TextEdit)}(h:ym m a0 a1=some o):LWp Tryz.prog Zr 0 zg0 (ze7 a0 a1 o) (xm 0 [.isl 4 (a0.map z7) false,i6 a1]) [] 0:=by
 unfold ym at h
 refine yf (qe ?_)
 refine yf (qe ?_)
 refine yf ?_
 refine yf (qe ?_)
 refine jg ?_
 refine p1 ?_ (z9g h)
 exact xv (M:=[]) rfl (S2 rfl rfl (AI (Vw.nilO _ _ (by decide)) (AI (VS rfl) TT))) (AI (AI rfl (AI (by decide) (by decide))) TT)
theorem zlk{a0:List G_FileEdit}{a1:Int}{m:Option Nat}{o:(List G_TextEdit)}(h:ym m a0 a1=some o):PFn Tryz.prog 33 [.isl 4 (a0.map z7) false,i6 a1] (.isl 3 (o.map z6) false):=pA (L:=zjf) zhj zhm (NB rfl) rfl (zcb h)
def zc8:LCode:=(.seq (.seq (.region [Qm 7 3,
 Qm 8 0,
 Qo 9 (.len false (.t 8)),
 Qo 10 (.bin .lss (.t 7) (.t 9))])
 (.cond (.t 10)
  .skip
  (.exit 0)))
 (.seq (.block 1
  (.seq (.quiet [Qm 13 0,
   Qm 14 3,
   Qo 15 (.iaddr 3 (.t 13) (.t 14)),
   Qf 16 0 15,
   Ql 17 1 16,
   Qo 18 (.bin .lss (.t 17) (.c (i6 0))),
   Qm 19 18,
   Qn 20 0 (19,false),
   Qn 21 3 (19,false),
   Qg 22 (.iaddr 3 (.t 20) (.t 21)) (19,false),
   Qe 23 1 22 (19,false),
   Qk 24 1 23 (19,false),
   Qn 25 0 (19,false),
   Qn 26 3 (19,false),
   Qg 27 (.iaddr 3 (.t 25) (.t 26)) (19,false),
   Qe 28 0 27 (19,false),
   Qk 29 1 28 (19,false),
   Qg 30 (.bin .lss (.t 24) (.t 29)) (19,false),
   Qo 31 (.pick (.t 19) (.c (.bool true)) (.t 30)),
   Qm 32 31,
   Qn 33 3 (32,false),
   Qg 34 (.bin .gtr (.t 33) (.c (i6 0))) (32,false),
   Qn 35 34 (32,false),
   Qn 36 0 (35,true),
   Qn 37 3 (35,true),
   Qg 38 (.iaddr 3 (.t 36) (.t 37)) (35,true),
   Qe 39 0 38 (35,true),
   Qk 40 1 39 (35,true),
   Qn 41 0 (35,true),
   Qn 42 3 (35,true),
   Qg 43 (.bin .sub (.t 42) (.c (i6 1))) (35,true),
   Qg 44 (.iaddr 3 (.t 41) (.t 43)) (35,true),
   Qe 45 1 44 (35,true),
   Qk 46 1 45 (35,true),
   Qg 47 (.bin .leq (.t 40) (.t 46)) (35,true),
   Qg 48 (.pick (.t 35) (.t 47) (.c (.bool false))) (32,false),
   Qo 49 (.pick (.t 32) (.c (.bool true)) (.t 48))])
  (.cond (.t 49)
   (.seq (.region [Qi 2 3])
   .ret)
   .skip)))
 (.region [Qm 11 3,
  Qo 12 (.bin .add (.t 11) (.c (i6 1))),
  Qm 3 12])))
def z5d:LCode:=(.seq (.region [Qi 2 0])
 .ret)
def zfo:LCode:=(.seq (.region [Qi 2 0])
 (.seq (.seq (.region [Qm 4 0,
  Qo 5 (.len false (.t 4)),
  Qo 6 (.bin .gtr (.t 5) (.c (i6 50)))])
 (.cond (.t 6)
  (.seq (.region [Qi 2 2])
  .ret)
  .skip))
 (.seq (.seq (.region [Qi 3 0])
 (.block 0
  (.loop
   zc8)))
 z5d)))
def Qj:Lay:=⟨50,[],false⟩
def zas:List LRes:=[.t 2]
def zle:LFn:=⟨1,Qj,zfo,zas⟩
theorem zit:ve Tryz.prog [] 36=some zle:=by kernel_rfl
theorem zhk:Xp Tryz.prog 36:=⟨_,Tryz.func36,rfl,rfl⟩
def zea(a0:List G_TextEdit)(o:Int):Exit→Env→AHeap→Nat→Prop:=z1w zas (vd (i6 o))
def Un(a0:List G_TextEdit)(s:Int):Env:=[(0,.isl 3 (a0.map z6) false),(3,i6 s)]
def z2d(a0:List G_TextEdit)(s:Int):AHeap:=[]
def z5m(a0:List G_TextEdit)(o:Int):Exit→Env→AHeap→Nat→Prop:=(j4 0 (Wa Tryz.prog Qj 0 z5d (zea a0 o)))
def qj(m:Option Nat):Option Int:=
 some 0
def zy(m:Option Nat)(a0:List G_TextEdit)(v1:Int):Option (Int ⊕ Int):=
 if(decide (v1<((a0.map z6).length:Int)))=true then
  if(0:Int)≤v1∧v1<((a0.map z6).length:Int) then
  if(((decide ((a0.getD v1.toNat default).f_Start<0))==false)=true→(0:Int)≤v1∧v1<((a0.map z6).length:Int)) then
  if(((decide ((a0.getD v1.toNat default).f_Start<0))==false)=true→(0:Int)≤v1∧v1<((a0.map z6).length:Int)) then
  if(((((decide ((a0.getD v1.toNat default).f_Start<0)) || (decide ((a0.getD v1.toNat default).f_End<(a0.getD v1.toNat default).f_Start)))==false)&&((decide (v1 > 0))==true))=true→(0:Int)≤v1∧v1<((a0.map z6).length:Int)) then
  if(((((decide ((a0.getD v1.toNat default).f_Start<0)) || (decide ((a0.getD v1.toNat default).f_End<(a0.getD v1.toNat default).f_Start)))==false)&&((decide (v1 > 0))==true))=true→(0:Int)≤(W (v1-1))∧(W (v1-1))<((a0.map z6).length:Int)) then
  if(((decide ((a0.getD v1.toNat default).f_Start<0)) || (decide ((a0.getD v1.toNat default).f_End<(a0.getD v1.toNat default).f_Start))) || ((decide (v1 > 0))&&(decide ((a0.getD v1.toNat default).f_Start≤(a0.getD ((W (v1-1)).toNat) default).f_End))))=true then
   p3 p4 (
    some 3)
  else
   some (.inl (W (v1+1)))
  else none
  else none
  else none
  else none
  else none
 else
  p3 p4 (
   qj m)
def y7(m:Option Nat)(a0:List G_TextEdit)(v1:Int):Option Int:=Zf m (fun(s:Int)=>zy m a0 s) v1
theorem zb8{a0:List G_TextEdit}{m:Option Nat}{o:Int}(h:qj m=some o) :
 LWp Tryz.prog Qj 0 z5d (zea a0 o) [] [] 0:=by
 unfold qj at h
 refine yf (qe ?_)
 refine uq ?_
 cases h
 exact AI TT (AI rfl (VS rfl))
theorem z7k{a0:List G_TextEdit}{v1:Int}{m:Option Nat}{o:Int ⊕ Int}(h:zy m a0 v1=some o) :
 LWp Tryz.prog Qj 0 zc8 (Zz 0 0 (Un a0) (z2d a0) (z5m a0) o) [(0,.isl 3 (a0.map z6) false),(3,i6 v1)] [] 0:=by
 unfold zy at h
 refine yf ?_
 refine yf (qe ?_)
 refine xp (v:=(decide (v1<((a0.map z6).length:Int)))) rfl TT (fun h16=>?_) (fun h16=>?_)
 ·have h:=qd h16 h
  refine xw ?_
  refine yf ?_
  refine jg ?_
  refine yf ?_
  refine z61 ?_
  obtain⟨h17,h⟩:=x8 h
  refine AI h17 ?_
  refine EX (z6 (a0.getD v1.toNat default)) (AI (xi z6 _ _ (j6 z6 h17)) (AI (AI (wj h17) (NB rfl)) ?_))
  obtain⟨h18,h⟩:=x8 h
  refine AI (fun hp=>(AI (AI hp hp) (h18 hp))) ?_
  refine AI (fun hp=>hp) ?_
  refine EX (z6 (a0.getD v1.toNat default)) (AI (fun hp=>AI (xi z6 _ _ (j6 z6 (h18 hp))) (AI hp (AI (wj (h18 hp)) (NB rfl)))) ?_)
  obtain⟨h19,h⟩:=x8 h
  refine AI (fun hp=>(AI (AI hp hp) (h19 hp))) ?_
  refine AI (fun hp=>hp) ?_
  refine EX (z6 (a0.getD v1.toNat default)) (AI (fun hp=>AI (xi z6 _ _ (j6 z6 (h19 hp))) (AI hp (AI (wj (h19 hp)) (NB rfl)))) ?_)
  refine AI (fun hp=>(AI hp hp)) ?_
  refine AI (fun hc=>(bqf hc)) ?_
  refine AI (fun hp=>hp) ?_
  refine AI (fun hp=>hp) ?_
  obtain⟨h20,h⟩:=x8 h
  refine AI (fun hp=>(AI (AI hp hp) (h20 hp))) ?_
  refine AI (fun hp=>hp) ?_
  refine EX (z6 (a0.getD v1.toNat default)) (AI (fun hp=>AI (xi z6 _ _ (j6 z6 (h20 hp))) (AI hp (AI (wj (h20 hp)) (NB rfl)))) ?_)
  refine AI (fun hp=>hp) ?_
  obtain⟨h21,h⟩:=x8 h
  refine AI (fun hp=>(AI (AI hp hp) (h21 hp))) ?_
  refine AI (fun hp=>hp) ?_
  refine EX (z6 (a0.getD ((W (v1-1)).toNat) default)) (AI (fun hp=>AI (xi z6 _ _ (j6 z6 (h21 hp))) (AI hp (AI (wj (h21 hp)) (NB rfl)))) ?_)
  refine AI (fun hp=>(AI hp hp)) ?_
  refine AI (fun hp=>(AI hp (fun hc=>(z1o hp (bqt hc))))) ?_
  refine AI (fun hc=>(bqf hc)) ?_
  refine p1 (e:=[(0,.isl 3 (a0.map z6) false),(3,i6 v1),(49,.bool (((decide ((a0.getD v1.toNat default).f_Start<0)) || (decide ((a0.getD v1.toNat default).f_End<(a0.getD v1.toNat default).f_Start))) || ((decide (v1 > 0))&&(decide ((a0.getD v1.toNat default).f_Start≤(a0.getD ((W (v1-1)).toNat) default).f_End)))))]) (L:=[]) (n:=0) ?_ ?_
  ·exact xv (M:=[]) rfl (S2 rfl rfl (AI (VS rfl) TT)) TT
  refine xp (v:=(((decide ((a0.getD v1.toNat default).f_Start<0)) || (decide ((a0.getD v1.toNat default).f_End<(a0.getD v1.toNat default).f_Start))) || ((decide (v1 > 0))&&(decide ((a0.getD v1.toNat default).f_Start≤(a0.getD ((W (v1-1)).toNat) default).f_End))))) rfl TT (fun h22=>?_) (fun h22=>?_)
  ·have h:=qd h22 h
   refine yf (qe ?_)
   refine uq ?_
   obtain⟨o,hq,rfl⟩:=p2.1 h
   replace h:=hq;clear hq
   refine AI nofun ?_
   cases h
   exact AI TT (AI rfl (VS rfl))
  ·have h:=qm h22 h
   refine xw ?_
   refine qe ?_
   cases h
   exact AI rfl (xv (M:=[]) rfl (S2 rfl rfl TT) TT)
 ·have h:=qm h16 h
  refine Jx ?_
  obtain⟨o,hq,rfl⟩:=p2.1 h
  replace h:=hq;clear hq
  refine AI nofun ?_
  refine p1 ?_ (zb8 h)
  exact xv (M:=[]) rfl TT TT
theorem zb5{a0:List G_TextEdit}{v1:Int}{m:Option Nat}{o:Int}(h:y7 m a0 v1=some o) :
 LWp Tryz.prog Qj 0 (.loop zc8) (j4 0 (Wa Tryz.prog Qj 0 z5d (zea a0 o))) [(0,.isl 3 (a0.map z6) false),(3,i6 v1)] [] 0:=
 jm (m:=m) (s:=(v1:Int)) (r:=o) (fun(s:Int)=>zy m a0 s) (Un a0) (z2d a0) (z5m a0) (fun s o h=>z7k h) h
def yn(m:Option Nat)(a0:List G_TextEdit):Option Int:=
 if(decide (((a0.map z6).length:Int) > 50))=true then
  some 2
 else
  y7 m a0 0
theorem z9q{a0:List G_TextEdit}{m:Option Nat}{o:Int}(h:yn m a0=some o):LWp Tryz.prog Qj 0 zfo (zea a0 o) (xm 0 [.isl 3 (a0.map z6) false]) [] 0:=by
 unfold yn at h
 refine yf (qe ?_)
 refine yf ?_
 refine yf (qe ?_)
 refine xp (v:=(decide (((a0.map z6).length:Int) > 50))) rfl TT (fun h1=>?_) (fun h1=>?_)
 ·have h:=qd h1 h
  refine yf (qe ?_)
  refine uq ?_
  cases h
  exact AI TT (AI rfl (VS rfl))
 ·have h:=qm h1 h
  refine xw ?_
  refine yf ?_
  refine yf (qe ?_)
  refine jg ?_
  refine p1 ?_ (zb5 h)
  exact xv (M:=[]) rfl (S2 rfl rfl TT) TT
theorem zjg{a0:List G_TextEdit}{m:Option Nat}{o:Int}(h:yn m a0=some o):PFn Tryz.prog 36 [.isl 3 (a0.map z6) false] (i6 o):=pA (L:=zle) zit zhk (NB rfl) rfl (z9q h)
def zg8:LCode:=(.region [Qm 16 8,
 Qo 17 (.bin .sub (.t 16) (.c (i6 1))),
 Qm 8 17])
def z8u:LCode:=(.seq (.seq (.region [Qm 14 8,
 Qo 15 (.bin .geq (.t 14) (.c (i6 0)))])
 (.cond (.t 15)
  .skip
  (.exit 0)))
 (.seq (.block 1
  (.seq (.region [Qm 18 0,
   Qm 19 8,
   Qo 20 (.iaddr 3 (.t 18) (.t 19)),
   Qt 21 3 20,
   Qo 9 (.alloc [(i6 0),(i6 0),(.str [])]),
   ⟨none,.store 3 (.t 9) (.t 21),none⟩])
  (.seq (.region [Qm 22 1,
   Qf 23 0 9,
   Ql 24 1 23,
   Qo 25 (.bin .gtr (.t 22) (.t 24)),
   Qm 26 25,
   Qn 27 1 (26,true),
   Qe 28 1 9 (26,true),
   Qk 29 1 28 (26,true),
   Qg 30 (.bin .lss (.t 27) (.t 29)) (26,true),
   Qp 31 26 30])
  (.cond (.t 31)
   (.seq (.region [Qf 32 0 9,
    Ql 33 1 32,
    Qm 7 33])
   (.seq (.region [Qm 34 2])
   (.cond (.t 34)
    (.region [Qf 35 0 9,
     Ql 36 1 35,
     Qf 37 2 9,
     Ql 38 1 37,
     Qo 39 (.len true (.t 38)),
     Qo 40 (.bin .add (.t 36) (.t 39)),
     Qm 7 40])
    .skip)))
   (.seq (.region [Qm 41 1,
    Qf 42 1 9,
    Ql 43 1 42,
    Qo 44 (.bin .gtr (.t 41) (.t 43)),
    Qm 45 44,
    Qn 46 1 (45,false),
    Qe 47 1 9 (45,false),
    Qk 48 1 47 (45,false),
    Qg 49 (.bin .eql (.t 46) (.t 48)) (45,false),
    Qn 50 49 (45,false),
    Qn 51 1 (50,true),
    Qe 52 0 9 (50,true),
    Qk 53 1 52 (50,true),
    Qg 54 (.bin .gtr (.t 51) (.t 53)) (50,true),
    Qn 55 54 (50,true),
    Qn 56 2 (55,false),
    Qg 57 (.pick (.t 55) (.c (.bool true)) (.t 56)) (50,true),
    Qg 58 (.pick (.t 50) (.t 57) (.c (.bool false))) (45,false),
    Qo 59 (.pick (.t 45) (.c (.bool true)) (.t 58))])
   (.cond (.t 59)
    (.region [Qm 60 7,
     Qf 61 2 9,
     Ql 62 1 61,
     Qo 63 (.len true (.t 62)),
     Qo 64 (.bin .add (.t 60) (.t 63)),
     Qf 65 0 9,
     Ql 66 1 65,
     Qo 67 (.bin .add (.t 64) (.t 66)),
     Qf 68 1 9,
     Ql 69 1 68,
     Qo 70 (.bin .sub (.t 67) (.t 69)),
     Qm 7 70])
    .skip))))))
 zg8))
def z5x:LCode:=(.seq (.region [Qm 71 7,
 Qm 6 71])
 .ret)
def zgh:LCode:=(.seq (.region [Qi 6 0])
 (.seq (.region [Qm 10 1,
  Qm 7 10])
 (.seq (.seq (.region [Qm 11 0,
  Qo 12 (.len false (.t 11)),
  Qo 13 (.bin .sub (.t 12) (.c (i6 1))),
  Qm 8 13])
 (.block 0
  (.loop
   z8u)))
 z5x)))
def Zg:Lay:=⟨72,[],false⟩
def zcm:List LRes:=[.t 6]
def zlq:LFn:=⟨3,Zg,zgh,zcm⟩
theorem zih:ve Tryz.prog [] 37=some zlq:=by kernel_rfl
theorem zic:Xp Tryz.prog 37:=⟨_,Tryz.func37,rfl,rfl⟩
def zdg(a0:List G_TextEdit)(a1:Int)(a2:Bool)(o:Int):Exit→Env→AHeap→Nat→Prop:=z1w zcm (vd (i6 o))
def Je(a0:List G_TextEdit)(a1:Int)(a2:Bool)(s:(Int×Int)):Env:=[(0,.isl 3 (a0.map z6) false),(1,i6 a1),(2,.bool a2),(7,i6 s.1),(8,i6 s.2)]
def Ww(a0:List G_TextEdit)(a1:Int)(a2:Bool)(s:(Int×Int)):AHeap:=[]
def z0f(a0:List G_TextEdit)(a1:Int)(a2:Bool)(o:Int):Exit→Env→AHeap→Nat→Prop:=(j4 0 (Wa Tryz.prog Zg 0 z5x (zdg a0 a1 a2 o)))
def y9(m:Option Nat)(a0:List G_TextEdit)(a1:Int)(a2:Bool)(v3:Int)(v5:Int):Option ((Int×Int) ⊕ Int):=
 some (.inl (v5,(W (v3-1))))
theorem Xf{a0:List G_TextEdit}{a1:Int}{a2:Bool}{v3:Int}{v5:Int}{m:Option Nat}{o:((Int×Int) ⊕ Int)}(h:y9 m a0 a1 a2 v3 v5=some o) :
 LWp Tryz.prog Zg 0 zg8 (Zz 0 0 (Je a0 a1 a2) (Ww a0 a1 a2) (z0f a0 a1 a2) o) [(0,.isl 3 (a0.map z6) false),(1,i6 a1),(2,.bool a2),(7,i6 v5),(8,i6 v3)] [] 0:=by
 unfold y9 at h
 refine qe ?_
 cases h
 exact AI rfl (xv (M:=[]) rfl (S4 rfl rfl rfl rfl (AI (VS rfl) TT)) TT)
def qy(m:Option Nat)(v2:Int):Option Int:=
 some v2
def yb(m:Option Nat)(a0:List G_TextEdit)(a1:Int)(a2:Bool)(v2:Int)(v3:Int):Option ((Int×Int) ⊕ Int):=
 if(decide (v3≥0))=true then
  if(0:Int)≤v3∧v3<((a0.map z6).length:Int) then
  if((decide (a1 > (a0.getD v3.toNat default).f_Start))&&(decide (a1<(a0.getD v3.toNat default).f_End)))=true then
   if a2=true then
    y9 m a0 a1 a2 v3 (W ((a0.getD v3.toNat default).f_Start+(((a0.getD v3.toNat default).f_NewText).length:Int)))
   else
    y9 m a0 a1 a2 v3 ((a0.getD v3.toNat default).f_Start)
  else
   if((decide (a1 > (a0.getD v3.toNat default).f_End)) || ((a1==(a0.getD v3.toNat default).f_End)&&((decide (a1 > (a0.getD v3.toNat default).f_Start)) || a2)))=true then
    y9 m a0 a1 a2 v3 (W ((W ((W (v2+(((a0.getD v3.toNat default).f_NewText).length:Int)))+(a0.getD v3.toNat default).f_Start))-(a0.getD v3.toNat default).f_End))
   else
    y9 m a0 a1 a2 v3 v2
  else none
 else
  p3 p4 (
   qy m v2)
def qf(m:Option Nat)(a0:List G_TextEdit)(a1:Int)(a2:Bool)(v2:Int)(v3:Int):Option Int:=Zf m (fun(s:(Int×Int))=>yb m a0 a1 a2 s.1 s.2) (v2,v3)
theorem zad{a0:List G_TextEdit}{a1:Int}{a2:Bool}{v2:Int}{m:Option Nat}{o:Int}(h:qy m v2=some o) :
 LWp Tryz.prog Zg 0 z5x (zdg a0 a1 a2 o) [(7,i6 v2)] [] 0:=by
 unfold qy at h
 refine yf (qe ?_)
 refine uq ?_
 cases h
 exact AI TT (AI rfl (VS rfl))
theorem z8m{a0:List G_TextEdit}{a1:Int}{a2:Bool}{v2:Int}{v3:Int}{m:Option Nat}{o:(Int×Int) ⊕ Int}(h:yb m a0 a1 a2 v2 v3=some o) :
 LWp Tryz.prog Zg 0 z8u (Zz 0 0 (Je a0 a1 a2) (Ww a0 a1 a2) (z0f a0 a1 a2) o) [(0,.isl 3 (a0.map z6) false),(1,i6 a1),(2,.bool a2),(7,i6 v2),(8,i6 v3)] [] 0:=by
 unfold yb at h
 refine yf ?_
 refine yf (qe ?_)
 refine xp (v:=(decide (v3≥0))) rfl TT (fun h11=>?_) (fun h11=>?_)
 ·have h:=qd h11 h
  refine xw ?_
  refine yf ?_
  refine jg ?_
  refine yf (qe ?_)
  obtain⟨h12,h⟩:=x8 h
  refine AI h12 ?_
  refine EX (z6 (a0.getD v3.toNat default)) (AI (xi z6 _ _ (j6 z6 h12)) (AI (AI (wj h12) (NB rfl)) ?_))
  refine p1 (e:=[(0,.isl 3 (a0.map z6) false),(1,i6 a1),(2,.bool a2),(7,i6 v2),(8,i6 v3),(9,.ptr (0,0) 0 0)]) (L:=[((0,0),.one [i6 ((a0.getD v3.toNat default).f_Start),i6 ((a0.getD v3.toNat default).f_End),.str ((a0.getD v3.toNat default).f_NewText)])]) (n:=1) ?_ ?_
  ·exact xv (M:=[((0,0),(0,0))]) rfl (S4 rfl rfl rfl rfl (AI (VS rfl) (SP rfl TT))) (AI (AI rfl (OL rfl)) TT)
  refine yf (qe ?_)
  refine AI (fun hp=>hp) ?_
  refine AI (fun hp=>(AI hp hp)) ?_
  refine AI (fun hc=>(bqt hc)) ?_
  refine p1 (e:=[(0,.isl 3 (a0.map z6) false),(1,i6 a1),(2,.bool a2),(7,i6 v2),(8,i6 v3),(9,.ptr (0,0) 0 0),(31,.bool ((decide (a1 > (a0.getD v3.toNat default).f_Start))&&(decide (a1<(a0.getD v3.toNat default).f_End))))]) (L:=[((0,0),.one [i6 ((a0.getD v3.toNat default).f_Start),i6 ((a0.getD v3.toNat default).f_End),.str ((a0.getD v3.toNat default).f_NewText)])]) (n:=1) ?_ ?_
  ·exact xv (M:=[((0,0),(0,0))]) rfl (S4 rfl rfl rfl rfl (AI (VS rfl) (SP rfl (AI (VS rfl) TT)))) (AI (AI rfl (OL rfl)) TT)
  refine xp (v:=((decide (a1 > (a0.getD v3.toNat default).f_Start))&&(decide (a1<(a0.getD v3.toNat default).f_End)))) rfl TT (fun h13=>?_) (fun h13=>?_)
  ·have h:=qd h13 h
   refine yf (qe ?_)
   refine yf (qe ?_)
   refine xp (v:=a2) rfl TT (fun h14=>?_) (fun h14=>?_)
   ·have h:=qd h14 h
    refine qe ?_
    refine p1 ?_ (Xf h)
    exact xv (M:=[]) rfl (S4 rfl rfl rfl rfl (AI (VS rfl) TT)) TT
   ·have h:=qm h14 h
    refine xw ?_
    refine p1 ?_ (Xf h)
    exact xv (M:=[]) rfl (S4 rfl rfl rfl rfl (AI (VS rfl) TT)) TT
  ·have h:=qm h13 h
   refine yf (qe ?_)
   refine AI (fun hp=>hp) ?_
   refine AI (fun hp=>(AI hp hp)) ?_
   refine AI (fun hp=>hp) ?_
   refine AI (fun hp=>hp) ?_
   refine AI (fun hp=>(AI hp hp)) ?_
   refine AI (fun hp=>hp) ?_
   refine AI (fun hp=>(AI hp (fun hc=>(z1o hp (bqf hc))))) ?_
   refine AI (fun hp=>(AI hp (fun hc=>(z1o hp (bqt hc))))) ?_
   refine AI (fun hc=>(bqf hc)) ?_
   refine p1 (e:=[(0,.isl 3 (a0.map z6) false),(1,i6 a1),(2,.bool a2),(7,i6 v2),(8,i6 v3),(9,.ptr (0,0) 0 0),(59,.bool ((decide (a1 > (a0.getD v3.toNat default).f_End)) || ((a1==(a0.getD v3.toNat default).f_End)&&((decide (a1 > (a0.getD v3.toNat default).f_Start)) || a2))))]) (L:=[((0,0),.one [i6 ((a0.getD v3.toNat default).f_Start),i6 ((a0.getD v3.toNat default).f_End),.str ((a0.getD v3.toNat default).f_NewText)])]) (n:=1) ?_ ?_
   ·exact xv (M:=[((0,0),(0,0))]) rfl (S4 rfl rfl rfl rfl (AI (VS rfl) (SP rfl (AI (VS rfl) TT)))) (AI (AI rfl (OL rfl)) TT)
   refine xp (v:=((decide (a1 > (a0.getD v3.toNat default).f_End)) || ((a1==(a0.getD v3.toNat default).f_End)&&((decide (a1 > (a0.getD v3.toNat default).f_Start)) || a2)))) rfl TT (fun h15=>?_) (fun h15=>?_)
   ·have h:=qd h15 h
    refine qe ?_
    refine p1 ?_ (Xf h)
    exact xv (M:=[]) rfl (S4 rfl rfl rfl rfl (AI (VS rfl) TT)) TT
   ·have h:=qm h15 h
    refine xw ?_
    refine p1 ?_ (Xf h)
    exact xv (M:=[]) rfl (S4 rfl rfl rfl rfl (AI (VS rfl) TT)) TT
 ·have h:=qm h11 h
  refine Jx ?_
  obtain⟨o,hq,rfl⟩:=p2.1 h
  replace h:=hq;clear hq
  refine AI nofun ?_
  refine p1 ?_ (zad h)
  exact xv (M:=[]) rfl (AI (VS rfl) TT) TT
theorem zcr{a0:List G_TextEdit}{a1:Int}{a2:Bool}{v2:Int}{v3:Int}{m:Option Nat}{o:Int}(h:qf m a0 a1 a2 v2 v3=some o) :
 LWp Tryz.prog Zg 0 (.loop z8u) (j4 0 (Wa Tryz.prog Zg 0 z5x (zdg a0 a1 a2 o))) [(0,.isl 3 (a0.map z6) false),(1,i6 a1),(2,.bool a2),(7,i6 v2),(8,i6 v3)] [] 0:=
 jm (m:=m) (s:=((v2,v3):(Int×Int))) (r:=o) (fun(s:(Int×Int))=>yb m a0 a1 a2 s.1 s.2) (Je a0 a1 a2) (Ww a0 a1 a2) (z0f a0 a1 a2) (fun s o h=>z8m h) h
def qc(m:Option Nat)(a0:List G_TextEdit)(a1:Int)(a2:Bool):Option Int:=
 qf m a0 a1 a2 a1 (W (((a0.map z6).length:Int)-1))
theorem zd1{a0:List G_TextEdit}{a1:Int}{a2:Bool}{m:Option Nat}{o:Int}(h:qc m a0 a1 a2=some o):LWp Tryz.prog Zg 0 zgh (zdg a0 a1 a2 o) (xm 0 [.isl 3 (a0.map z6) false,i6 a1,.bool a2]) [] 0:=by
 unfold qc at h
 refine yf (qe ?_)
 refine yf (qe ?_)
 refine yf ?_
 refine yf (qe ?_)
 refine jg ?_
 refine p1 ?_ (zcr h)
 exact xv (M:=[]) rfl (S4 rfl rfl rfl rfl (AI (VS rfl) TT)) TT
theorem zkj{a0:List G_TextEdit}{a1:Int}{a2:Bool}{m:Option Nat}{o:Int}(h:qc m a0 a1 a2=some o):PFn Tryz.prog 37 [.isl 3 (a0.map z6) false,i6 a1,.bool a2] (i6 o):=pA (L:=zlq) zih zic (NB rfl) rfl (zd1 h)
def zbq:LCode:=(.seq (.seq (.region [Qm 16 11,
 Qm 17 1,
 Qo 18 (.len false (.t 17)),
 Qo 19 (.bin .lss (.t 16) (.t 18))])
 (.cond (.t 19)
  .skip
  (.exit 0)))
 (.seq (.block 1
  (.seq (.region [Qm 22 1,
   Qm 23 11,
   Qo 24 (.iaddr 5 (.t 22) (.t 23)),
   Qt 25 5 24,
   Qo 12 (.alloc [(i6 0),(i6 0),(i6 0),(i6 0),(i6 0)]),
   ⟨none,.store 5 (.t 12) (.t 25),none⟩])
  (.seq (.region [Qf 26 0 12,
   Ql 27 1 26,
   Qm 28 2,
   Qo 29 (.bin .eql (.t 27) (.t 28)),
   Qm 30 29,
   Qn 31 3 (30,true),
   Qe 32 1 12 (30,true),
   Qk 33 1 32 (30,true),
   Qg 34 (.bin .geq (.t 31) (.t 33)) (30,true),
   Qp 35 30 34,
   Qm 36 35,
   Qn 37 3 (36,true),
   Qe 38 2 12 (36,true),
   Qk 39 1 38 (36,true),
   Qg 40 (.bin .lss (.t 37) (.t 39)) (36,true),
   Qp 41 36 40])
  (.cond (.t 41)
   (.seq (.seq (.region [Qf 42 3 12,
    Ql 43 1 42,
    Qo 44 (.bin .lss (.t 43) (.c (i6 0)))])
   (.cond (.t 44)
    (.seq (.region [Qi 8 0,
     Qi 9 0,
     Qb 10])
    .ret)
    .skip))
   (.seq (.quiet [Qf 45 3 12,
    Ql 46 1 45,
    Qf 47 4 12,
    Ql 48 1 47,
    Qm 49 3,
    Qf 50 1 12,
    Ql 51 1 50,
    Qo 52 (.bin .sub (.t 49) (.t 51)),
    Qo 53 (.bin .add (.t 48) (.t 52)),
    Qm 8 46,
    Qm 9 53,
    Qo 10 (.mv (.c (.bool true)))])
   .ret))
   .skip))))
 (.region [Qm 20 11,
  Qo 21 (.bin .add (.t 20) (.c (i6 1))),
  Qm 11 21])))
def zcc:LCode:=(.seq (.seq (.region [Qm 57 14,
 Qm 58 13,
 Qo 59 (.len false (.t 58)),
 Qo 60 (.bin .lss (.t 57) (.t 59))])
 (.cond (.t 60)
  .skip
  (.exit 2)))
 (.seq (.block 3
  (.seq (.region [Qm 63 13,
   Qm 64 14,
   Qo 65 (.iaddr 3 (.t 63) (.t 64)),
   Qt 66 3 65,
   Qo 15 (.alloc [(i6 0),(i6 0),(.str [])]),
   ⟨none,.store 3 (.t 15) (.t 66),none⟩])
  (.seq (.region [Qf 67 0 15,
   Ql 68 1 67,
   Qm 69 3,
   Qo 70 (.bin .lss (.t 68) (.t 69)),
   Qm 71 70,
   Qn 72 3 (71,true),
   Qe 73 1 15 (71,true),
   Qk 74 1 73 (71,true),
   Qg 75 (.bin .lss (.t 72) (.t 74)) (71,true),
   Qp 76 71 75,
   Qm 77 76,
   Qe 78 0 15 (77,false),
   Qk 79 1 78 (77,false),
   Qn 80 3 (77,false),
   Qg 81 (.bin .eql (.t 79) (.t 80)) (77,false),
   Qn 82 81 (77,false),
   Qn 83 3 (82,true),
   Qe 84 1 15 (82,true),
   Qk 85 1 84 (82,true),
   Qg 86 (.bin .lss (.t 83) (.t 85)) (82,true),
   Qg 87 (.pick (.t 82) (.t 86) (.c (.bool false))) (77,false),
   Qn 88 87 (77,false),
   Qe 89 2 15 (88,true),
   Qk 90 1 89 (88,true),
   Qg 91 (.bin .eql (.t 90) (.c (.str []))) (88,true),
   Qg 92 (.pick (.t 88) (.t 91) (.c (.bool false))) (77,false),
   Qo 93 (.pick (.t 77) (.c (.bool true)) (.t 92))])
  (.cond (.t 93)
   (.seq (.region [Qi 8 0,
    Qi 9 0,
    Qb 10])
   .ret)
   .skip))))
 (.region [Qm 61 14,
  Qo 62 (.bin .add (.t 61) (.c (i6 1))),
  Qm 14 62])))
def z6i:LCode:=(.seq (.seq (.region [Qm 94 3,
 Qo 95 (.bin .lss (.t 94) (.c (i6 0))),
 Qm 96 95,
 Qn 97 13 (96,false),
 Qg 98 (.call 36 [(.t 97)]) (96,false),
 Qg 99 (.bin .neq (.t 98) (.c (i6 0))) (96,false),
 Qo 100 (.pick (.t 96) (.c (.bool true)) (.t 99))])
 (.cond (.t 100)
  (.seq (.region [Qi 8 0,
   Qi 9 0,
   Qb 10])
  .ret)
  .skip))
 (.seq (.region [Qm 101 2,
  Qm 102 13,
  Qm 103 3,
  Qo 104 (.call 37 [(.t 102),(.t 103),(.c (.bool true))]),
  Qm 8 101,
  Qm 9 104,
  Qo 10 (.mv (.c (.bool true)))])
 .ret))
def z6u:LCode:=(.seq (.region [Qm 54 0,
 Qm 55 2,
 Qo 56 (.call 33 [(.t 54),(.t 55)]),
 Qm 13 56])
 (.seq (.seq (.region [Qi 14 0])
 (.block 2
  (.loop
   zcc)))
 z6i))
def zg4:LCode:=(.seq (.region [Qi 8 0,
 Qi 9 0,
 Qb 10])
 (.seq (.seq (.region [Qi 11 0])
 (.block 0
  (.loop
   zbq)))
 z6u))
def vi:Lay:=⟨105,[],false⟩
def zav:List LRes:=[.t 8,.t 9,.t 10]
def zly:LFn:=⟨4,vi,zg4,zav⟩
theorem zii:ve Tryz.prog [] 13=some zly:=by kernel_rfl
theorem zhc:Xp Tryz.prog 13:=⟨_,Tryz.func13,rfl,rfl⟩
def z3x(a0:List G_FileEdit)(a1:List G_MovedRange)(a2:Int)(a3:Int)(o:Int×Int×Bool):Exit→Env→AHeap→Nat→Prop:=z1w zav (vd (.tup [i6 o.1,i6 o.2.1,.bool o.2.2]))
def Uh(a0:List G_FileEdit)(a1:List G_MovedRange)(a2:Int)(a3:Int)(s:Int):Env:=[(0,.isl 4 (a0.map z7) false),(1,.isl 5 (a1.map za) false),(2,i6 a2),(3,i6 a3),(11,i6 s)]
def z16(a0:List G_FileEdit)(a1:List G_MovedRange)(a2:Int)(a3:Int)(s:Int):AHeap:=[]
def z5p(a0:List G_FileEdit)(a1:List G_MovedRange)(a2:Int)(a3:Int)(o:(Int×Int×Bool)):Exit→Env→AHeap→Nat→Prop:=(j4 0 (Wa Tryz.prog vi 0 z6u (z3x a0 a1 a2 a3 o)))
def zn(m:Option Nat)(a2:Int)(a3:Int)(v2:(List G_TextEdit)):Option (Int×Int×Bool):=
 (if((decide (a3<0))==false)=true then yn m v2 else some default).bind fun v4=>
 if((decide (a3<0)) || (v4 != 0))=true then
  some (0,0,false)
 else
  (qc m v2 a3 true).bind fun v5=>
  some (a2,v5,true)
def zp(m:Option Nat)(a2:Int)(a3:Int)(v2:(List G_TextEdit))(v3:Int):Option (Int ⊕ (Int×Int×Bool)):=
 if(decide (v3<((v2.map z6).length:Int)))=true then
  if(0:Int)≤v3∧v3<((v2.map z6).length:Int) then
  if(((decide ((v2.getD v3.toNat default).f_Start<a3))&&(decide (a3<(v2.getD v3.toNat default).f_End))) || ((((v2.getD v3.toNat default).f_Start==a3)&&(decide (a3<(v2.getD v3.toNat default).f_End)))&&((v2.getD v3.toNat default).f_NewText==([]:List UInt8))))=true then
   p3 p4 (
    some (0,0,false))
  else
   some (.inl (W (v3+1)))
  else none
 else
  p3 p4 (
   zn m a2 a3 v2)
def yj(m:Option Nat)(a2:Int)(a3:Int)(v2:(List G_TextEdit))(v3:Int):Option (Int×Int×Bool):=Zf m (fun(s:Int)=>zp m a2 a3 v2 s) v3
def y4(m:Option Nat)(a0:List G_FileEdit)(a2:Int)(a3:Int):Option (Int×Int×Bool):=
 (ym m a0 a2).bind fun v2=>
 yj m a2 a3 v2 0
def zo(m:Option Nat)(a0:List G_FileEdit)(a1:List G_MovedRange)(a2:Int)(a3:Int)(v1:Int):Option (Int ⊕ (Int×Int×Bool)):=
 if(decide (v1<((a1.map za).length:Int)))=true then
  if(0:Int)≤v1∧v1<((a1.map za).length:Int) then
  if((((a1.getD v1.toNat default).f_Module==a2)&&(decide (a3≥(a1.getD v1.toNat default).f_Start)))&&(decide (a3<(a1.getD v1.toNat default).f_End)))=true then
   if(decide ((a1.getD v1.toNat default).f_NewModule<0))=true then
    p3 p4 (
     some (0,0,false))
   else
    p3 p4 (
     some ((a1.getD v1.toNat default).f_NewModule,(W ((a1.getD v1.toNat default).f_NewStart+(W (a3-(a1.getD v1.toNat default).f_Start)))),true))
  else
   some (.inl (W (v1+1)))
  else none
 else
  p3 p4 (
   y4 m a0 a2 a3)
def yk(m:Option Nat)(a0:List G_FileEdit)(a1:List G_MovedRange)(a2:Int)(a3:Int)(v1:Int):Option (Int×Int×Bool):=Zf m (fun(s:Int)=>zo m a0 a1 a2 a3 s) v1
def Ua(a2:Int)(a3:Int)(v2:(List G_TextEdit))(s:Int):Env:=[(2,i6 a2),(3,i6 a3),(13,.isl 3 (v2.map z6) false),(14,i6 s)]
def z34(a2:Int)(a3:Int)(v2:(List G_TextEdit))(s:Int):AHeap:=[]
def z6f(a0:List G_FileEdit)(a1:List G_MovedRange)(a2:Int)(a3:Int)(o:(Int×Int×Bool)):Exit→Env→AHeap→Nat→Prop:=(j4 2 (Wa Tryz.prog vi 0 z6i (z3x a0 a1 a2 a3 o)))
theorem zag{a0:List G_FileEdit}{a1:List G_MovedRange}{a2:Int}{a3:Int}{v2:(List G_TextEdit)}{m:Option Nat}{o:(Int×Int×Bool)}(h:zn m a2 a3 v2=some o) :
 LWp Tryz.prog vi 0 z6i (z3x a0 a1 a2 a3 o) [(2,i6 a2),(3,i6 a3),(13,.isl 3 (v2.map z6) false)] [] 0:=by
 unfold zn at h
 refine yf ?_
 refine yf (qe ?_)
 obtain⟨v4,h23,h⟩:=bind_some h
 refine Or.inl (EX (i6 v4) (AI (fun hp=>AI hp (p9 (zjg (qd hp h23)) (AI (VS rfl) TT) (AI rfl (AI rfl rfl)))) ?_))
 refine AI (fun hp=>hp) ?_
 refine AI (fun hc=>(bqf hc)) ?_
 refine xp (v:=((decide (a3<0)) || (v4 != 0))) rfl TT (fun h24=>?_) (fun h24=>?_)
 ·have h:=qd h24 h
  refine yf (qe ?_)
  refine p1 (e:=[(8,i6 0),(9,i6 0),(10,.bool false)]) (L:=[]) (n:=0) ?_ ?_
  ·exact xv (M:=[]) rfl (S2 rfl rfl (AI (VS rfl) TT)) TT
  refine uq ?_
  cases h
  exact AI TT (AI TT (AI TT (AI rfl (VS rfl))))
 ·have h:=qm h24 h
  refine xw ?_
  refine yf (qe ?_)
  obtain⟨v5,h25,h⟩:=bind_some h
  refine p9 (zkj h25) (S2 rfl rfl (AI (VS rfl) TT)) ?_
  refine p1 (e:=[(8,i6 a2),(9,i6 v5),(10,.bool true)]) (L:=[]) (n:=0) ?_ ?_
  ·exact xv (M:=[]) rfl (S2 rfl rfl (AI (VS rfl) TT)) TT
  refine uq ?_
  cases h
  exact AI TT (AI TT (AI TT (AI rfl (VS rfl))))
theorem z8l{a0:List G_FileEdit}{a1:List G_MovedRange}{a2:Int}{a3:Int}{v2:(List G_TextEdit)}{v3:Int}{m:Option Nat}{o:Int ⊕ (Int×Int×Bool)}(h:zp m a2 a3 v2 v3=some o) :
 LWp Tryz.prog vi 0 zcc (Zz 0 0 (Ua a2 a3 v2) (z34 a2 a3 v2) (z6f a0 a1 a2 a3) o) [(2,i6 a2),(3,i6 a3),(13,.isl 3 (v2.map z6) false),(14,i6 v3)] [] 0:=by
 unfold zp at h
 refine yf ?_
 refine yf (qe ?_)
 refine xp (v:=(decide (v3<((v2.map z6).length:Int)))) rfl TT (fun h20=>?_) (fun h20=>?_)
 ·have h:=qd h20 h
  refine xw ?_
  refine yf ?_
  refine jg ?_
  refine yf (qe ?_)
  obtain⟨h21,h⟩:=x8 h
  refine AI h21 ?_
  refine EX (z6 (v2.getD v3.toNat default)) (AI (xi z6 _ _ (j6 z6 h21)) (AI (AI (wj h21) (NB rfl)) ?_))
  refine p1 (e:=[(2,i6 a2),(3,i6 a3),(13,.isl 3 (v2.map z6) false),(14,i6 v3),(15,.ptr (0,0) 0 0)]) (L:=[((0,0),.one [i6 ((v2.getD v3.toNat default).f_Start),i6 ((v2.getD v3.toNat default).f_End),.str ((v2.getD v3.toNat default).f_NewText)])]) (n:=1) ?_ ?_
  ·exact xv (M:=[((0,0),(0,0))]) rfl (S4 rfl rfl rfl rfl (SP rfl TT)) (AI (AI rfl (OL rfl)) TT)
  refine yf (qe ?_)
  refine AI (fun hp=>hp) ?_
  refine AI (fun hp=>(AI hp hp)) ?_
  refine AI (fun hc=>(bqt hc)) ?_
  refine AI (fun hp=>hp) ?_
  refine AI (fun hp=>(AI hp hp)) ?_
  refine AI (fun hp=>hp) ?_
  refine AI (fun hp=>hp) ?_
  refine AI (fun hp=>(AI hp hp)) ?_
  refine AI (fun hp=>(AI hp (fun hc=>(z1o hp (bqt hc))))) ?_
  refine AI (fun hp=>hp) ?_
  refine AI (fun hp=>hp) ?_
  refine AI (fun hp=>hp) ?_
  refine AI (fun hp=>(AI hp (fun hc=>(z1o hp (bqt hc))))) ?_
  refine AI (fun hc=>(bqf hc)) ?_
  refine p1 (e:=[(2,i6 a2),(3,i6 a3),(13,.isl 3 (v2.map z6) false),(14,i6 v3),(93,.bool (((decide ((v2.getD v3.toNat default).f_Start<a3))&&(decide (a3<(v2.getD v3.toNat default).f_End))) || ((((v2.getD v3.toNat default).f_Start==a3)&&(decide (a3<(v2.getD v3.toNat default).f_End)))&&((v2.getD v3.toNat default).f_NewText==([]:List UInt8)))))]) (L:=[]) (n:=0) ?_ ?_
  ·exact xv (M:=[]) rfl (S4 rfl rfl rfl rfl (AI (VS rfl) TT)) TT
  refine xp (v:=(((decide ((v2.getD v3.toNat default).f_Start<a3))&&(decide (a3<(v2.getD v3.toNat default).f_End))) || ((((v2.getD v3.toNat default).f_Start==a3)&&(decide (a3<(v2.getD v3.toNat default).f_End)))&&((v2.getD v3.toNat default).f_NewText==([]:List UInt8))))) rfl TT (fun h22=>?_) (fun h22=>?_)
  ·have h:=qd h22 h
   refine yf (qe ?_)
   refine uq ?_
   obtain⟨o,hq,rfl⟩:=p2.1 h
   replace h:=hq;clear hq
   refine AI nofun ?_
   cases h
   exact AI TT (AI TT (AI TT (AI rfl (VS rfl))))
  ·have h:=qm h22 h
   refine xw ?_
   refine qe ?_
   cases h
   exact AI rfl (xv (M:=[]) rfl (S4 rfl rfl rfl rfl TT) TT)
 ·have h:=qm h20 h
  refine Jx ?_
  obtain⟨o,hq,rfl⟩:=p2.1 h
  replace h:=hq;clear hq
  refine AI nofun ?_
  refine p1 ?_ (zag h)
  exact xv (M:=[]) rfl (S2 rfl rfl (AI (VS rfl) TT)) TT
theorem zcq{a0:List G_FileEdit}{a1:List G_MovedRange}{a2:Int}{a3:Int}{v2:(List G_TextEdit)}{v3:Int}{m:Option Nat}{o:(Int×Int×Bool)}(h:yj m a2 a3 v2 v3=some o) :
 LWp Tryz.prog vi 0 (.loop zcc) (j4 2 (Wa Tryz.prog vi 0 z6i (z3x a0 a1 a2 a3 o))) [(2,i6 a2),(3,i6 a3),(13,.isl 3 (v2.map z6) false),(14,i6 v3)] [] 0:=
 jm (m:=m) (s:=(v3:Int)) (r:=o) (fun(s:Int)=>zp m a2 a3 v2 s) (Ua a2 a3 v2) (z34 a2 a3 v2) (z6f a0 a1 a2 a3) (fun s o h=>z8l h) h
theorem zcs{a1:List G_MovedRange}{a0:List G_FileEdit}{a2:Int}{a3:Int}{m:Option Nat}{o:(Int×Int×Bool)}(h:y4 m a0 a2 a3=some o) :
 LWp Tryz.prog vi 0 z6u (z3x a0 a1 a2 a3 o) [(0,.isl 4 (a0.map z7) false),(2,i6 a2),(3,i6 a3)] [] 0:=by
 unfold y4 at h
 refine yf (qe ?_)
 obtain⟨v2,h13,h⟩:=bind_some h
 refine p9 (zlk h13) (S2 rfl rfl TT) ?_
 refine yf ?_
 refine yf (qe ?_)
 refine jg ?_
 refine p1 ?_ (zcq h)
 exact xv (M:=[]) rfl (S4 rfl rfl rfl rfl TT) TT
theorem z7t{a0:List G_FileEdit}{a1:List G_MovedRange}{a2:Int}{a3:Int}{v1:Int}{m:Option Nat}{o:Int ⊕ (Int×Int×Bool)}(h:zo m a0 a1 a2 a3 v1=some o) :
 LWp Tryz.prog vi 0 zbq (Zz 0 0 (Uh a0 a1 a2 a3) (z16 a0 a1 a2 a3) (z5p a0 a1 a2 a3) o) [(0,.isl 4 (a0.map z7) false),(1,.isl 5 (a1.map za) false),(2,i6 a2),(3,i6 a3),(11,i6 v1)] [] 0:=by
 unfold zo at h
 refine yf ?_
 refine yf (qe ?_)
 refine xp (v:=(decide (v1<((a1.map za).length:Int)))) rfl TT (fun h9=>?_) (fun h9=>?_)
 ·have h:=qd h9 h
  refine xw ?_
  refine yf ?_
  refine jg ?_
  refine yf (qe ?_)
  obtain⟨h10,h⟩:=x8 h
  refine AI h10 ?_
  refine EX (za (a1.getD v1.toNat default)) (AI (xi za _ _ (j6 za h10)) (AI (AI (wj h10) (NB rfl)) ?_))
  refine p1 (e:=[(0,.isl 4 (a0.map z7) false),(1,.isl 5 (a1.map za) false),(2,i6 a2),(3,i6 a3),(11,i6 v1),(12,.ptr (0,0) 0 0)]) (L:=[((0,0),.one [i6 ((a1.getD v1.toNat default).f_Module),i6 ((a1.getD v1.toNat default).f_Start),i6 ((a1.getD v1.toNat default).f_End),i6 ((a1.getD v1.toNat default).f_NewModule),i6 ((a1.getD v1.toNat default).f_NewStart)])]) (n:=1) ?_ ?_
  ·exact xv (M:=[((0,0),(0,0))]) rfl (S4 rfl rfl rfl rfl (AI (VS rfl) (SP rfl TT))) (AI (AI rfl (OL rfl)) TT)
  refine yf (qe ?_)
  refine AI (fun hp=>hp) ?_
  refine AI (fun hp=>(AI hp hp)) ?_
  refine AI (fun hc=>(bqt hc)) ?_
  refine AI (fun hp=>hp) ?_
  refine AI (fun hp=>(AI hp hp)) ?_
  refine AI (fun hc=>(bqt hc)) ?_
  refine p1 (e:=[(0,.isl 4 (a0.map z7) false),(1,.isl 5 (a1.map za) false),(2,i6 a2),(3,i6 a3),(11,i6 v1),(12,.ptr (0,0) 0 0),(41,.bool ((((a1.getD v1.toNat default).f_Module==a2)&&(decide (a3≥(a1.getD v1.toNat default).f_Start)))&&(decide (a3<(a1.getD v1.toNat default).f_End))))]) (L:=[((0,0),.one [i6 ((a1.getD v1.toNat default).f_Module),i6 ((a1.getD v1.toNat default).f_Start),i6 ((a1.getD v1.toNat default).f_End),i6 ((a1.getD v1.toNat default).f_NewModule),i6 ((a1.getD v1.toNat default).f_NewStart)])]) (n:=1) ?_ ?_
  ·exact xv (M:=[((0,0),(0,0))]) rfl (S4 rfl rfl rfl rfl (AI (VS rfl) (SP rfl (AI (VS rfl) TT)))) (AI (AI rfl (OL rfl)) TT)
  refine xp (v:=((((a1.getD v1.toNat default).f_Module==a2)&&(decide (a3≥(a1.getD v1.toNat default).f_Start)))&&(decide (a3<(a1.getD v1.toNat default).f_End)))) rfl TT (fun h11=>?_) (fun h11=>?_)
  ·have h:=qd h11 h
   refine yf ?_
   refine yf (qe ?_)
   refine xp (v:=(decide ((a1.getD v1.toNat default).f_NewModule<0))) rfl TT (fun h12=>?_) (fun h12=>?_)
   ·have h:=qd h12 h
    refine yf (qe ?_)
    refine uq ?_
    obtain⟨o,hq,rfl⟩:=p2.1 h
    replace h:=hq;clear hq
    refine AI nofun ?_
    cases h
    exact AI TT (AI TT (AI TT (AI rfl (VS rfl))))
   ·have h:=qm h12 h
    refine xw ?_
    refine yf ?_
    refine z61 ?_
    refine p1 (e:=[(8,i6 ((a1.getD v1.toNat default).f_NewModule)),(9,i6 (W ((a1.getD v1.toNat default).f_NewStart+(W (a3-(a1.getD v1.toNat default).f_Start))))),(10,.bool true)]) (L:=[]) (n:=0) ?_ ?_
    ·exact xv (M:=[]) rfl (S2 rfl rfl (AI (VS rfl) TT)) TT
    refine uq ?_
    obtain⟨o,hq,rfl⟩:=p2.1 h
    replace h:=hq;clear hq
    refine AI nofun ?_
    cases h
    exact AI TT (AI TT (AI TT (AI rfl (VS rfl))))
  ·have h:=qm h11 h
   refine xw ?_
   refine qe ?_
   cases h
   exact AI rfl (xv (M:=[]) rfl (S4 rfl rfl rfl rfl (AI (VS rfl) TT)) TT)
 ·have h:=qm h9 h
  refine Jx ?_
  obtain⟨o,hq,rfl⟩:=p2.1 h
  replace h:=hq;clear hq
  refine AI nofun ?_
  refine p1 ?_ (zcs h)
  exact xv (M:=[]) rfl (S2 rfl rfl (AI (VS rfl) TT)) TT
theorem zch{a0:List G_FileEdit}{a1:List G_MovedRange}{a2:Int}{a3:Int}{v1:Int}{m:Option Nat}{o:(Int×Int×Bool)}(h:yk m a0 a1 a2 a3 v1=some o) :
 LWp Tryz.prog vi 0 (.loop zbq) (j4 0 (Wa Tryz.prog vi 0 z6u (z3x a0 a1 a2 a3 o))) [(0,.isl 4 (a0.map z7) false),(1,.isl 5 (a1.map za) false),(2,i6 a2),(3,i6 a3),(11,i6 v1)] [] 0:=
 jm (m:=m) (s:=(v1:Int)) (r:=o) (fun(s:Int)=>zo m a0 a1 a2 a3 s) (Uh a0 a1 a2 a3) (z16 a0 a1 a2 a3) (z5p a0 a1 a2 a3) (fun s o h=>z7t h) h
def y3(m:Option Nat)(a0:List G_FileEdit)(a1:List G_MovedRange)(a2:Int)(a3:Int):Option (Int×Int×Bool):=
 yk m a0 a1 a2 a3 0
theorem z9n{a0:List G_FileEdit}{a1:List G_MovedRange}{a2:Int}{a3:Int}{m:Option Nat}{o:Int×Int×Bool}(h:y3 m a0 a1 a2 a3=some o):LWp Tryz.prog vi 0 zg4 (z3x a0 a1 a2 a3 o) (xm 0 [.isl 4 (a0.map z7) false,.isl 5 (a1.map za) false,i6 a2,i6 a3]) [] 0:=by
 unfold y3 at h
 refine yf (qe ?_)
 refine yf ?_
 refine yf (qe ?_)
 refine jg ?_
 refine p1 ?_ (zch h)
 exact xv (M:=[]) rfl (S4 rfl rfl rfl rfl (AI (VS rfl) TT)) TT
theorem zfu{a0:List G_FileEdit}{a1:List G_MovedRange}{a2:Int}{a3:Int}{m:Option Nat}{o:Int×Int×Bool}(h:y3 m a0 a1 a2 a3=some o):PFn Tryz.prog 13 [.isl 4 (a0.map z7) false,.isl 5 (a1.map za) false,i6 a2,i6 a3] (.tup [i6 o.1,i6 o.2.1,.bool o.2.2]):=pA (L:=zly) zii zhc (NB rfl) rfl (z9n h)
def z6w:LCode:=(.seq (.region [Qo 3 (.box (.t 0)),
 Qb 4])
 (.seq (.region [Qf 5 1 3,
  Ql 6 1 5,
  Ql 7 1 1,
  Qo 8 (.bin .eql (.t 6) (.t 7)),
  Qm 9 8,
  Qe 10 2 3 (9,true),
  Qk 11 1 10 (9,true),
  Qk 12 1 2 (9,true),
  Qg 13 (.bin .eql (.t 11) (.t 12)) (9,true),
  Qp 14 9 13,
  Qm 4 14])
 .ret))
def z2t:Lay:=⟨15,[],false⟩
def z1n:List LRes:=[.t 4]
def zb9:LFn:=⟨3,z2t,z6w,z1n⟩
theorem zam:ve Tryz.prog [] 39=some zb9:=by kernel_rfl
theorem zc5:Xp Tryz.prog 39:=⟨_,Tryz.func39,rfl,rfl⟩
def zu(m:Option Nat)(a0:Int)(a1:Int)(a2:G_Symbol):Option Bool:=
 some ((a2.f_Module==a0)&&(a2.f_Start==a1))
def zh2(a0:Int)(a1:Int)(a2:G_Symbol)(o:Bool):Exit→Env→AHeap→Nat→Prop:=z1w z1n (z7q 3 4 (.bool o) [((1,0),.one [i6 a0]),((1,1),.one [i6 a1])])
theorem z4c{a0:Int}{a1:Int}{a2:G_Symbol}{m:Option Nat}{o:Bool}(h:zu m a0 a1 a2=some o):LWp Tryz.prog z2t 3 z6w (zh2 a0 a1 a2 o) (xm 0 [.agg [i6 a2.f_Kind,i6 a2.f_Module,i6 a2.f_Start,i6 a2.f_Parent,.str a2.f_Name,.bool a2.f_Public],.ptr (1,0) 0 0,.ptr (1,1) 0 0]) [((1,0),.one [i6 a0]),((1,1),.one [i6 a1])] 3:=by
 unfold zu at h
 refine yf (qe ?_)
 refine yf (qe ?_)
 refine AI (fun hp=>hp) ?_
 refine AI (fun hp=>(AI hp hp)) ?_
 refine AI (fun hc=>(bqt hc)) ?_
 refine p1 (e:=[(4,.bool ((a2.f_Module==a0)&&(a2.f_Start==a1)))]) (L:=[((1,0),.one [i6 a0]),((1,1),.one [i6 a1])]) (n:=3) ?_ ?_
 ·exact xv (M:=[]) rfl (AI (VS rfl) TT) (AI (AI rfl (OL rfl)) (AI (AI rfl (OL rfl)) TT))
 refine uq ?_
 cases h
 exact AI TT (zog (n':=3) [] [] rfl rfl (VS rfl) (AI (AI rfl (OL rfl)) (AI (AI rfl (OL rfl)) TT)))
theorem zdz{a0:Int}{a1:Int}{a2:G_Symbol}{m:Option Nat}{o:Bool}(h:zu m a0 a1 a2=some o):ACalls Tryz.prog 39 [.agg [i6 a2.f_Kind,i6 a2.f_Module,i6 a2.f_Start,i6 a2.f_Parent,.str a2.f_Name,.bool a2.f_Public],.ptr (1,0) 0 0,.ptr (1,1) 0 0] [((1,0),.one [i6 a0]),((1,1),.one [i6 a1])] 3 (V2 4 (.bool o) [((1,0),.one [i6 a0]),((1,1),.one [i6 a1])]):=zg1 (L:=zb9) zam zc5 (NB rfl) (z4c h)
def Ut:LCode:=(.seq (.region [Qo 9 (.bin .lss (.t 8) (.t 7))])
 (.seq (.cond (.t 9)
  .skip
  (.exit 0))
 (.seq (.block 1
  (.seq (.region [Qm 10 8,
   Qm 5 10])
  (.seq (.region [Qm 11 1,
   Qm 12 0,
   Qm 13 5,
   Qo 14 (.iaddr 6 (.t 12) (.t 13)),
   Qt 15 6 14,
   Qo 16 (.callv (.t 11) [(.t 15)])])
  (.cond (.t 16)
   (.seq (.region [Qm 17 5,
    Qm 4 17])
   .ret)
   .skip))))
 (.region [Qo 18 (.bin .add (.t 8) (.c (i6 1))),
  Qm 8 18]))))
def Wb:LCode:=(.seq (.region [Qo 4 (.mv (.c (i6 (-1))))])
 .ret)
def z63:LCode:=(.seq (.region [Qi 4 0])
 (.seq (.seq (.region [Qm 6 0,
  Qo 7 (.len false (.t 6)),
  Qi 8 0])
 (.block 0
  (.loop
   Ut)))
 Wb))
def kq:Lay:=⟨19,[],false⟩
def z1e:List LRes:=[.t 4]
def zcw:LFn:=⟨2,kq,z63,z1e⟩
theorem zbp:ve Tryz.prog [] 38=some zcw:=by kernel_rfl
theorem zbb:Xp Tryz.prog 38:=⟨_,Tryz.func38,rfl,rfl⟩
def z01{σ:Type}(Hc:σ→AHeap)(fi0:Fn)(ff0 fc0:List AVal)(a0:List G_Symbol)(z0:σ)(o:Int×σ):Exit→Env→AHeap→Nat→Prop:=z1w z1e (z7q 3 4 (i6 o.1) ([]++up 3 (Hc o.2)))
def Jm{σ:Type}(Hc:σ→AHeap)(fi0:Fn)(ff0 fc0:List AVal)(a0:List G_Symbol)(s:(Int×σ)):Env:=[(0,.isl 6 (a0.map z8) false),(1,.fn fi0 ff0 fc0),(7,i6 ((a0.map z8).length:Int)),(8,i6 s.1)]
def Vn{σ:Type}(Hc:σ→AHeap)(fi0:Fn)(ff0 fc0:List AVal)(a0:List G_Symbol)(s:(Int×σ)):AHeap:=([]++up 3 (Hc s.2))
def Ko{σ:Type}(Hc:σ→AHeap)(fi0:Fn)(ff0 fc0:List AVal)(a0:List G_Symbol)(z0:σ)(o:(Int×σ)):Exit→Env→AHeap→Nat→Prop:=(j4 0 (Wa Tryz.prog kq 3 Wb (z01 Hc fi0 ff0 fc0 a0 z0 o)))
def qh{σ:Type}(g0:σ→G_Symbol→Option (Bool×σ))(m:Option Nat)(v3:σ):Option (Int×σ):=
 some ((-1),v3)
def zx{σ:Type}(g0:σ→G_Symbol→Option (Bool×σ))(m:Option Nat)(a0:List G_Symbol)(v2:Int)(v3:σ):Option ((Int×σ) ⊕ (Int×σ)):=
 if(decide (v2<((a0.map z8).length:Int)))=true then
  if(0:Int)≤v2∧v2<((a0.map z8).length:Int) then
  (g0 v3 (G_Symbol.mk ((a0.getD v2.toNat default).f_Kind) ((a0.getD v2.toNat default).f_Module) ((a0.getD v2.toNat default).f_Start) ((a0.getD v2.toNat default).f_Parent) ((a0.getD v2.toNat default).f_Name) ((a0.getD v2.toNat default).f_Public))).bind fun v5=>
  if v5.1=true then
   p3 p4 (
    some (v2,v5.2))
  else
   some (.inl ((W (v2+1)),v5.2))
  else none
 else
  p3 p4 (
   qh g0 m v3)
def yt{σ:Type}(g0:σ→G_Symbol→Option (Bool×σ))(m:Option Nat)(a0:List G_Symbol)(v2:Int)(v3:σ):Option (Int×σ):=Zf m (fun(s:(Int×σ))=>zx g0 m a0 s.1 s.2) (v2,v3)
theorem z4h{σ:Type}{Hc:σ→AHeap}{fi0:Fn}{ff0 fc0:List AVal}{g0:σ→G_Symbol→Option (Bool×σ)}(hg0:Clo Tryz.prog fi0 ff0 fc0 Hc (fun(x:G_Symbol)=>[.agg [i6 x.f_Kind,i6 x.f_Module,i6 x.f_Start,i6 x.f_Parent,.str x.f_Name,.bool x.f_Public]]) (fun(b:Bool)=>.bool b) g0){a0:List G_Symbol}{z0:σ}{v3:σ}{m:Option Nat}{o:(Int×σ)}(h:qh g0 m v3=some o) :
 LWp Tryz.prog kq 3 Wb (z01 Hc fi0 ff0 fc0 a0 z0 o) [] ([]++up 3 (Hc v3)) 4:=by
 unfold qh at h
 refine yf (qe ?_)
 refine uq ?_
 cases h
 exact AI TT (zo6 (n':=4) (q:=3) (lit':=[]) (hg0.tl _) [] [] rfl rfl (VS rfl) TT)
theorem z2w{σ:Type}{Hc:σ→AHeap}{fi0:Fn}{ff0 fc0:List AVal}{g0:σ→G_Symbol→Option (Bool×σ)}(hg0:Clo Tryz.prog fi0 ff0 fc0 Hc (fun(x:G_Symbol)=>[.agg [i6 x.f_Kind,i6 x.f_Module,i6 x.f_Start,i6 x.f_Parent,.str x.f_Name,.bool x.f_Public]]) (fun(b:Bool)=>.bool b) g0){z0:σ}{a0:List G_Symbol}{v2:Int}{v3:σ}{m:Option Nat}{o:(Int×σ) ⊕ (Int×σ)}(h:zx g0 m a0 v2 v3=some o) :
 LWp Tryz.prog kq 3 Ut (Zz 3 4 (Jm Hc fi0 ff0 fc0 a0) (Vn Hc fi0 ff0 fc0 a0) (Ko Hc fi0 ff0 fc0 a0 z0) o) [(0,.isl 6 (a0.map z8) false),(1,.fn fi0 ff0 fc0),(7,i6 ((a0.map z8).length:Int)),(8,i6 v2)] ([]++up 3 (Hc v3)) 4:=by
 unfold zx at h
 refine yf (qe ?_)
 refine yf ?_
 refine xp (v:=(decide (v2<((a0.map z8).length:Int)))) rfl TT (fun h9=>?_) (fun h9=>?_)
 ·have h:=qd h9 h
  refine xw ?_
  refine yf ?_
  refine jg ?_
  refine yf (qe ?_)
  refine yf (qe ?_)
  obtain⟨h10,h⟩:=x8 h
  refine AI h10 ?_
  refine EX (z8 (a0.getD v2.toNat default)) (AI (xi z8 _ _ (j6 z8 h10)) (AI (AI (wj h10) (NB rfl)) ?_))
  obtain⟨v5,h11,h⟩:=bind_some h
  refine Clo.use (q:=3) (lit:=[]) hg0 h11 rfl rfl (AI (VS rfl) TT) ?_
  refine p1 (e:=[(0,.isl 6 (a0.map z8) false),(1,.fn fi0 ff0 fc0),(5,i6 v2),(7,i6 ((a0.map z8).length:Int)),(8,i6 v2),(16,.bool v5.1)]) (L:=([]++up 3 (Hc v5.2))) (n:=4) ?_ ?_
  ·exact zmh (M:=[]) (lit':=[]) (hg0.tl _) rfl (AI (VS rfl) (AI (Vw.clo hg0.hf hg0.hc (by decide) (z2i (Q0 (n:=4) (q:=4) (lit':=[]) rfl))) (S4 rfl rfl rfl rfl TT))) TT
  refine xp (v:=v5.1) rfl TT (fun h12=>?_) (fun h12=>?_)
  ·have h:=qd h12 h
   refine yf (qe ?_)
   refine uq ?_
   obtain⟨o,hq,rfl⟩:=p2.1 h
   replace h:=hq;clear hq
   refine AI nofun ?_
   cases h
   exact AI TT (zo6 (n':=4) (q:=3) (lit':=[]) (hg0.tl _) [] [] rfl rfl (VS rfl) TT)
  ·have h:=qm h12 h
   refine xw ?_
   refine qe ?_
   cases h
   exact AI rfl (zmh (M:=[]) (lit':=[]) (hg0.tl _) rfl (AI (VS rfl) (AI (Vw.clo hg0.hf hg0.hc (by decide) (z2i (Q0 (n:=4) (q:=3) (lit':=[]) rfl))) (S2 rfl rfl TT))) TT)
 ·have h:=qm h9 h
  refine Jx ?_
  obtain⟨o,hq,rfl⟩:=p2.1 h
  replace h:=hq;clear hq
  refine AI nofun ?_
  refine p1 ?_ (z4h hg0 h)
  exact zmh (M:=[]) (lit':=[]) (hg0.tl _) rfl TT TT
theorem z48{σ:Type}{Hc:σ→AHeap}{fi0:Fn}{ff0 fc0:List AVal}{g0:σ→G_Symbol→Option (Bool×σ)}(hg0:Clo Tryz.prog fi0 ff0 fc0 Hc (fun(x:G_Symbol)=>[.agg [i6 x.f_Kind,i6 x.f_Module,i6 x.f_Start,i6 x.f_Parent,.str x.f_Name,.bool x.f_Public]]) (fun(b:Bool)=>.bool b) g0){z0:σ}{a0:List G_Symbol}{v2:Int}{v3:σ}{m:Option Nat}{o:(Int×σ)}(h:yt g0 m a0 v2 v3=some o) :
 LWp Tryz.prog kq 3 (.loop Ut) (j4 0 (Wa Tryz.prog kq 3 Wb (z01 Hc fi0 ff0 fc0 a0 z0 o))) [(0,.isl 6 (a0.map z8) false),(1,.fn fi0 ff0 fc0),(7,i6 ((a0.map z8).length:Int)),(8,i6 v2)] ([]++up 3 (Hc v3)) 4:=
 jm (m:=m) (s:=((v2,v3):(Int×σ))) (r:=o) (fun(s:(Int×σ))=>zx g0 m a0 s.1 s.2) (Jm Hc fi0 ff0 fc0 a0) (Vn Hc fi0 ff0 fc0 a0) (Ko Hc fi0 ff0 fc0 a0 z0) (fun s o h=>z2w hg0 h) h
def yz{σ:Type}(g0:σ→G_Symbol→Option (Bool×σ))(m:Option Nat)(a0:List G_Symbol)(z0:σ):Option (Int×σ):=
 yt g0 m a0 0 z0
theorem z3k{σ:Type}{Hc:σ→AHeap}{fi0:Fn}{ff0 fc0:List AVal}{g0:σ→G_Symbol→Option (Bool×σ)}(hg0:Clo Tryz.prog fi0 ff0 fc0 Hc (fun(x:G_Symbol)=>[.agg [i6 x.f_Kind,i6 x.f_Module,i6 x.f_Start,i6 x.f_Parent,.str x.f_Name,.bool x.f_Public]]) (fun(b:Bool)=>.bool b) g0){a0:List G_Symbol}{z0:σ}{m:Option Nat}{o:Int×σ}(h:yz g0 m a0 z0=some o):LWp Tryz.prog kq 3 z63 (z01 Hc fi0 ff0 fc0 a0 z0 o) (xm 0 [.isl 6 (a0.map z8) false,.fn fi0 ff0 fc0]) ([]++Hc z0) 3:=by
 unfold yz at h
 refine p1 (e:=[(0,.isl 6 (a0.map z8) false),(1,.fn fi0 ff0 fc0)]) (L:=([]++up 3 (Hc z0))) (n:=4) (zks (T:=Hc z0) (e':=xm 0 [.isl 6 (a0.map z8) false,.fn fi0 ff0 fc0]) (e:=[(0,.isl 6 (a0.map z8) false),(1,.fn fi0 ff0 fc0)]) (lit':=[]) (lit:=[]) (hg0.tl z0) rfl rfl (AI (VS rfl) (AI (Vw.clo hg0.hf hg0.hc (by decide) (zlo _)) TT)) TT) ?_
 refine yf (qe ?_)
 refine yf ?_
 refine yf (qe ?_)
 refine jg ?_
 refine p1 ?_ (z48 hg0 h)
 exact zmh (M:=[]) (lit':=[]) (hg0.tl _) rfl (AI (VS rfl) (AI (Vw.clo hg0.hf hg0.hc (by decide) (z2i (Q0 (n:=4) (q:=3) (lit':=[]) rfl))) (S2 rfl rfl TT))) TT
theorem zed{σ:Type}{Hc:σ→AHeap}{fi0:Fn}{ff0 fc0:List AVal}{g0:σ→G_Symbol→Option (Bool×σ)}(hg0:Clo Tryz.prog fi0 ff0 fc0 Hc (fun(x:G_Symbol)=>[.agg [i6 x.f_Kind,i6 x.f_Module,i6 x.f_Start,i6 x.f_Parent,.str x.f_Name,.bool x.f_Public]]) (fun(b:Bool)=>.bool b) g0){a0:List G_Symbol}{z0:σ}{m:Option Nat}{o:Int×σ}(h:yz g0 m a0 z0=some o):ACalls Tryz.prog 38 [.isl 6 (a0.map z8) false,.fn fi0 ff0 fc0] ([]++Hc z0) 3 (V2 4 (i6 o.1) ([]++up 3 (Hc o.2))):=zg1 (L:=zcw) zbp zbb (NB rfl) (z3k hg0 h)
def zfx:LCode:=(.seq (.region [Qf 58 0 6,
 Ql 59 1 58,
 Qo 60 (.mkfn (.func 39) [] [(.t 12),(.t 13)]),
 Qo 61 (.call 38 [(.t 59),(.t 60)]),
 Qm 10 61])
 .ret)
def zgf:LCode:=(.seq (.region [Qo 5 (.box (.t 0)),
 Qo 6 (.box (.t 1)),
 Qi 10 0])
 (.seq (.seq (.region [Qm 15 4,
  Qo 16 (.bin .lss (.t 15) (.c (i6 0))),
  Qm 17 16,
  Qn 18 4 (17,false),
  Qe 19 0 5 (17,false),
  Qk 20 1 19 (17,false),
  Qg 21 (.len false (.t 20)) (17,false),
  Qg 22 (.bin .geq (.t 18) (.t 21)) (17,false),
  Qo 23 (.pick (.t 17) (.c (.bool true)) (.t 22))])
 (.cond (.t 23)
  (.seq (.region [Qo 10 (.mv (.c (i6 (-1))))])
  .ret)
  .skip))
 (.seq (.region [Qf 24 0 5,
  Ql 25 1 24,
  Qm 26 4,
  Qo 27 (.iaddr 6 (.t 25) (.t 26)),
  Qt 28 6 27,
  Qo 11 (.alloc [(i6 0),(i6 0),(i6 0),(i6 0),(.str []),(.bool false)]),
  ⟨none,.store 6 (.t 11) (.t 28),none⟩])
 (.seq (.draw [⟨Qf 29 1 11,[]⟩,
  ⟨Ql 30 1 29,[]⟩,
  ⟨Qf 31 2 11,[]⟩,
  ⟨Ql 32 1 31,[]⟩,
  ⟨Qo 12 (.alloc [(i6 0)]),[1,3]⟩,
  ⟨Qo 13 (.alloc [(i6 0)]),[1,3]⟩,
  ⟨⟨none,.store 1 (.t 12) (.t 30),none⟩,[3]⟩,
  ⟨⟨none,.store 1 (.t 13) (.t 32),none⟩,[]⟩])
 (.seq (.seq (.region [Qf 33 0 11,
  Ql 34 1 33])
 (.block 0
  (.seq (.region [Qo 49 (.bin .eql (.t 34) (.c (i6 15))),
   Qm 48 49])
  (.cond (.t 48)
   (.seq (.seq (.region [Qm 50 4,
    Qf 51 0 6,
    Ql 52 1 51,
    Qo 53 (.len false (.t 52)),
    Qo 54 (.bin .geq (.t 50) (.t 53))])
   (.cond (.t 54)
    (.seq (.region [Qo 10 (.mv (.c (i6 (-1))))])
    .ret)
    .skip))
   (.seq (.region [Qm 55 4,
    Qm 10 55])
   .ret))
   (.seq (.region [Qo 57 (.bin .eql (.t 34) (.c (i6 1))),
    Qm 56 57])
   (.cond (.t 56)
    .skip
    (.seq (.region [Qb 14])
    (.seq (.region [Qm 36 2,
     Qm 37 3,
     Qf 38 1 11,
     Ql 39 1 38,
     Qf 40 2 11,
     Ql 41 1 40,
     Qo 42 (.call 12 [(.t 36),(.t 37),(.t 39),(.t 41)]),
     Qm 35 42,
     Qo 43 (.ext 0 (.t 35)),
     Qo 44 (.ext 1 (.t 35)),
     Qo 45 (.ext 2 (.t 35)),
     ⟨none,.store 1 (.t 12) (.t 43),none⟩,
     ⟨none,.store 1 (.t 13) (.t 44),none⟩,
     Qm 14 45])
    (.seq (.region [Qm 46 14,
     Qo 47 (.un .not (.t 46))])
    (.cond (.t 47)
     (.seq (.region [Qo 10 (.mv (.c (i6 (-1))))])
     .ret)
     .skip))))))))))
 zfx)))))
def z4d:Lay:=⟨62,[],false⟩
def z97:List LRes:=[.t 10]
def zm1:LFn:=⟨5,z4d,zgf,z97⟩
theorem zj0:ve Tryz.prog [] 14=some zm1:=by kernel_rfl
theorem zhb:Xp Tryz.prog 14:=⟨_,Tryz.func14,rfl,rfl⟩
def yl(m:Option Nat)(a1:G_Resolution)(v2:Int)(v3:Int):Option Int:=
 (yz (fun(s:Unit) (x:G_Symbol)=>(zu m v2 v3 x).map fun o=>(o,())) m a1.f_Symbols ()).bind fun v4=>
 some v4.1
def zm7(a0:G_Resolution)(a1:G_Resolution)(a2:List G_FileEdit)(a3:List G_MovedRange)(a4:Int)(o:Int):Exit→Env→AHeap→Nat→Prop:=z1w z97 (vd (i6 o))
theorem z14{a0:G_Resolution}{a2:List G_FileEdit}{a3:List G_MovedRange}{a4:Int}{a1:G_Resolution}{v2:Int}{v3:Int}{m:Option Nat}{o:Int}(h:yl m a1 v2 v3=some o) :
 LWp Tryz.prog z4d 0 zfx (zm7 a0 a1 a2 a3 a4 o) [(6,.ptr (0,0) 0 0),(12,.ptr (1,0) 0 0),(13,.ptr (2,0) 0 0)] [((0,0),.one [.isl 6 (a1.f_Symbols.map z8) false,.isl 3 (a1.f_References.map zd) false,.isl 5 (a1.f_Diagnostics.map zc) false]),((1,0),.one [i6 v2]),((2,0),.one [i6 v3])] 3:=by
 unfold yl at h
 refine yf (qe ?_)
 obtain⟨v4,h8,h⟩:=bind_some h
 refine znp (k:=3) (m:=1) (L':=[((1,0),.one [i6 v2]),((2,0),.one [i6 v3])]) (rest:=[((0,0),.one [.isl 6 (a1.f_Symbols.map z8) false,.isl 3 (a1.f_References.map zd) false,.isl 5 (a1.f_Diagnostics.map zc) false])]) (R':=i6 v4.1) [((1,0),(1,0)),((1,1),(2,0))] (zed (show Clo Tryz.prog (.func 39) [] [.ptr (1,0) 0 0,.ptr (1,1) 0 0] (fun(s:Unit)=>[((1,0),.one [i6 v2]),((1,1),.one [i6 v3])]) (fun(x:G_Symbol)=>[.agg [i6 x.f_Kind,i6 x.f_Module,i6 x.f_Start,i6 x.f_Parent,.str x.f_Name,.bool x.f_Public]]) (fun(b:Bool)=>.bool b) (fun(s:Unit) (x:G_Symbol)=>(zu m v2 v3 x).map fun o=>(o,())) from Clo.mk' (fun s=>Tl.lit rfl (AI (rfl) (AI (rfl) TT)) rfl) rfl rfl (fun _=>rfl) (fun s x o h=>by obtain⟨o1,h1,rfl⟩:=p2.1 h;exact EX _ (AI (zdz h1) (AI rfl (AI rfl (AI rfl (AI rfl TT))))))) h8) rfl rfl rfl (AI (VS rfl) (AI (Vw.fnL TT (SP rfl (SP rfl TT))) TT)) (AI (h0I (1,0) rfl rfl (OL rfl)) (AI (h0I (2,0) rfl rfl (OL rfl)) TT)) (z0v _ rfl) (AI rfl (AI rfl (AI rfl (AI rfl TT)))) rfl ?_
 refine uq ?_
 cases h
 exact AI TT (AI rfl (VS rfl))
def yx(m:Option Nat)(a0:G_Resolution)(a1:G_Resolution)(a2:List G_FileEdit)(a3:List G_MovedRange)(a4:Int):Option Int:=
 if((decide (a4<0)) || (decide (a4≥((a0.f_Symbols.map z8).length:Int))))=true then
  some (-1)
 else
  if(0:Int)≤a4∧a4<((a0.f_Symbols.map z8).length:Int) then
  if((a0.f_Symbols.getD a4.toNat default).f_Kind==15)=true then
   if(decide (a4≥((a1.f_Symbols.map z8).length:Int)))=true then
    some (-1)
   else
    some a4
  else
   if((a0.f_Symbols.getD a4.toNat default).f_Kind==1)=true then
    yl m a1 ((a0.f_Symbols.getD a4.toNat default).f_Module) ((a0.f_Symbols.getD a4.toNat default).f_Start)
   else
    (yu m a2 a3 ((a0.f_Symbols.getD a4.toNat default).f_Module) ((a0.f_Symbols.getD a4.toNat default).f_Start)).bind fun v1=>
    if(!v1.2.2)=true then
     some (-1)
    else
     yl m a1 v1.1 v1.2.1
  else none
theorem zcd{a0:G_Resolution}{a1:G_Resolution}{a2:List G_FileEdit}{a3:List G_MovedRange}{a4:Int}{m:Option Nat}{o:Int}(h:yx m a0 a1 a2 a3 a4=some o):LWp Tryz.prog z4d 0 zgf (zm7 a0 a1 a2 a3 a4 o) (xm 0 [.agg [.isl 6 (a0.f_Symbols.map z8) false,.isl 3 (a0.f_References.map zd) false,.isl 5 (a0.f_Diagnostics.map zc) false],.agg [.isl 6 (a1.f_Symbols.map z8) false,.isl 3 (a1.f_References.map zd) false,.isl 5 (a1.f_Diagnostics.map zc) false],.isl 4 (a2.map z7) false,.isl 5 (a3.map za) false,i6 a4]) [] 0:=by
 unfold yx at h
 refine yf (qe ?_)
 refine yf ?_
 refine yf (qe ?_)
 refine AI (fun hp=>hp) ?_
 refine AI (fun hp=>hp) ?_
 refine AI (fun hp=>(AI hp hp)) ?_
 refine AI (fun hc=>(bqf hc)) ?_
 refine p1 (e:=[(2,.isl 4 (a2.map z7) false),(3,.isl 5 (a3.map za) false),(4,i6 a4),(5,.ptr (0,0) 0 0),(6,.ptr (1,0) 0 0),(23,.bool ((decide (a4<0)) || (decide (a4≥((a0.f_Symbols.map z8).length:Int)))))]) (L:=[((0,0),.one [.isl 6 (a0.f_Symbols.map z8) false,.isl 3 (a0.f_References.map zd) false,.isl 5 (a0.f_Diagnostics.map zc) false]),((1,0),.one [.isl 6 (a1.f_Symbols.map z8) false,.isl 3 (a1.f_References.map zd) false,.isl 5 (a1.f_Diagnostics.map zc) false])]) (n:=2) ?_ ?_
 ·exact xv (M:=[((0,0),(0,0)),((1,0),(1,0))]) rfl (S2 rfl rfl (AI (VS rfl) (SP rfl (SP rfl (AI (VS rfl) TT))))) (AI (AI rfl (OL rfl)) (AI (AI rfl (OL rfl)) TT))
 refine xp (v:=((decide (a4<0)) || (decide (a4≥((a0.f_Symbols.map z8).length:Int))))) rfl TT (fun h1=>?_) (fun h1=>?_)
 ·have h:=qd h1 h
  refine yf (qe ?_)
  refine uq ?_
  cases h
  exact AI TT (AI rfl (VS rfl))
 ·have h:=qm h1 h
  refine xw ?_
  refine yf (qe ?_)
  obtain⟨h2,h⟩:=x8 h
  refine AI h2 ?_
  refine EX (z8 (a0.f_Symbols.getD a4.toNat default)) (AI (xi z8 _ _ (j6 z8 h2)) (AI (AI (wj h2) (NB rfl)) ?_))
  refine yf ?_
  refine zjt ?_
  refine AI rfl ?_
  refine AI rfl ?_
  refine AI rfl ?_
  refine AI rfl ?_
  refine AI rfl ?_
  refine p1 (e:=[(2,.isl 4 (a2.map z7) false),(3,.isl 5 (a3.map za) false),(4,i6 a4),(6,.ptr (0,0) 0 0),(11,.ptr (1,0) 0 0),(12,.ptr (2,0) 0 0),(13,.ptr (3,0) 0 0)]) (L:=[((0,0),.one [.isl 6 (a1.f_Symbols.map z8) false,.isl 3 (a1.f_References.map zd) false,.isl 5 (a1.f_Diagnostics.map zc) false]),((1,0),.one [i6 ((a0.f_Symbols.getD a4.toNat default).f_Kind),i6 ((a0.f_Symbols.getD a4.toNat default).f_Module),i6 ((a0.f_Symbols.getD a4.toNat default).f_Start),i6 ((a0.f_Symbols.getD a4.toNat default).f_Parent),.str ((a0.f_Symbols.getD a4.toNat default).f_Name),.bool ((a0.f_Symbols.getD a4.toNat default).f_Public)]),((2,0),.one [i6 ((a0.f_Symbols.getD a4.toNat default).f_Module)]),((3,0),.one [i6 ((a0.f_Symbols.getD a4.toNat default).f_Start)])]) (n:=4) ?_ ?_
  ·exact xv (M:=[((0,0),(1,0)),((1,0),(2,0)),((2,0),(3,0)),((3,0),(4,0))]) rfl (S2 rfl rfl (AI (VS rfl) (SP rfl (SP rfl (SP rfl (SP rfl TT)))))) (AI (AI rfl (OL rfl)) (AI (AI rfl (OL rfl)) (AI (AI rfl (OL rfl)) (AI (AI rfl (OL rfl)) TT))))
  refine yf ?_
  refine yf (qe ?_)
  refine jg ?_
  refine yf (qe ?_)
  refine xp (v:=((a0.f_Symbols.getD a4.toNat default).f_Kind==15)) rfl TT (fun h3=>?_) (fun h3=>?_)
  ·have h:=qd h3 h
   refine yf ?_
   refine yf (qe ?_)
   refine p1 (e:=[(4,i6 a4),(54,.bool (decide (a4≥((a1.f_Symbols.map z8).length:Int))))]) (L:=[]) (n:=0) ?_ ?_
   ·exact xv (M:=[]) rfl (S2 rfl rfl TT) TT
   refine xp (v:=(decide (a4≥((a1.f_Symbols.map z8).length:Int)))) rfl TT (fun h4=>?_) (fun h4=>?_)
   ·have h:=qd h4 h
    refine yf (qe ?_)
    refine uq ?_
    cases h
    exact AI TT (AI rfl (VS rfl))
   ·have h:=qm h4 h
    refine xw ?_
    refine yf (qe ?_)
    refine uq ?_
    cases h
    exact AI TT (AI rfl (VS rfl))
  ·have h:=qm h3 h
   refine yf (qe ?_)
   refine xp (v:=((a0.f_Symbols.getD a4.toNat default).f_Kind==1)) rfl TT (fun h5=>?_) (fun h5=>?_)
   ·have h:=qd h5 h
    refine xw ?_
    refine p1 ?_ (z14 h)
    exact xv (M:=[((0,0),(0,0)),((1,0),(2,0)),((2,0),(3,0))]) rfl (SP rfl (SP rfl (SP rfl TT))) (AI (AI rfl (OL rfl)) (AI (AI rfl (OL rfl)) (AI (AI rfl (OL rfl)) TT)))
   ·have h:=qm h5 h
    refine yf (qe ?_)
    refine yf (qe ?_)
    obtain⟨v1,h6,h⟩:=bind_some h
    refine p9 (zfv h6) (S4 rfl rfl rfl rfl TT) ?_
    refine p1 (e:=[(6,.ptr (0,0) 0 0),(12,.ptr (1,0) 0 0),(13,.ptr (2,0) 0 0),(14,.bool v1.2.2)]) (L:=[((0,0),.one [.isl 6 (a1.f_Symbols.map z8) false,.isl 3 (a1.f_References.map zd) false,.isl 5 (a1.f_Diagnostics.map zc) false]),((1,0),.one [i6 v1.1]),((2,0),.one [i6 v1.2.1])]) (n:=3) ?_ ?_
    ·exact xv (M:=[((0,0),(0,0)),((1,0),(2,0)),((2,0),(3,0))]) rfl (SP rfl (SP rfl (SP rfl (AI (VS rfl) TT)))) (AI (AI rfl (OL rfl)) (AI (AI rfl (OL rfl)) (AI (AI rfl (OL rfl)) TT)))
    refine yf (qe ?_)
    refine xp (v:=(!v1.2.2)) rfl TT (fun h7=>?_) (fun h7=>?_)
    ·have h:=qd h7 h
     refine yf (qe ?_)
     refine uq ?_
     cases h
     exact AI TT (AI rfl (VS rfl))
    ·have h:=qm h7 h
     refine xw ?_
     refine p1 ?_ (z14 h)
     exact xv (M:=[((0,0),(0,0)),((1,0),(1,0)),((2,0),(2,0))]) rfl (SP rfl (SP rfl (SP rfl TT))) (AI (AI rfl (OL rfl)) (AI (AI rfl (OL rfl)) (AI (AI rfl (OL rfl)) TT)))
theorem zjm{a0:G_Resolution}{a1:G_Resolution}{a2:List G_FileEdit}{a3:List G_MovedRange}{a4:Int}{m:Option Nat}{o:Int}(h:yx m a0 a1 a2 a3 a4=some o):PFn Tryz.prog 14 [.agg [.isl 6 (a0.f_Symbols.map z8) false,.isl 3 (a0.f_References.map zd) false,.isl 5 (a0.f_Diagnostics.map zc) false],.agg [.isl 6 (a1.f_Symbols.map z8) false,.isl 3 (a1.f_References.map zd) false,.isl 5 (a1.f_Diagnostics.map zc) false],.isl 4 (a2.map z7) false,.isl 5 (a3.map za) false,i6 a4] (i6 o):=pA (L:=zm1) zj0 zhb (NB rfl) rfl (zcd h)
def z9h:LCode:=(.seq (.seq (.region [Qm 63 17,
 Qf 64 0 6,
 Ql 65 1 64,
 Qo 66 (.len false (.t 65)),
 Qo 67 (.bin .lss (.t 63) (.t 66))])
 (.cond (.t 67)
  .skip
  (.exit 0)))
 (.seq (.block 1
  (.seq (.region [Qf 70 0 6,
   Ql 71 1 70,
   Qm 72 17,
   Qo 73 (.iaddr 6 (.t 71) (.t 72)),
   Qf 74 1 73,
   Ql 75 1 74,
   Qm 76 12,
   Qo 77 (.bin .eql (.t 75) (.t 76)),
   Qm 78 77,
   Qe 79 0 6 (78,true),
   Qk 80 1 79 (78,true),
   Qn 81 17 (78,true),
   Qg 82 (.iaddr 6 (.t 80) (.t 81)) (78,true),
   Qe 83 2 82 (78,true),
   Qk 84 1 83 (78,true),
   Qn 85 13 (78,true),
   Qg 86 (.bin .eql (.t 84) (.t 85)) (78,true),
   Qp 87 78 86])
  (.cond (.t 87)
   (.seq (.region [Qm 88 17,
    Qm 10 88])
   .ret)
   .skip)))
 (.region [Qm 68 17,
  Qo 69 (.bin .add (.t 68) (.c (i6 1))),
  Qm 17 69])))
def z6b:LCode:=(.seq (.region [Qo 10 (.mv (.c (i6 (-1))))])
 .ret)
def zg9:LCode:=(.seq (.seq (.region [Qi 17 0])
 (.block 0
  (.loop
   z9h)))
 z6b)
def zft:LCode:=(.seq (.region [Qo 5 (.box (.t 0)),
 Qo 6 (.box (.t 1)),
 Qi 10 0])
 (.seq (.seq (.region [Qm 18 4,
  Qo 19 (.bin .lss (.t 18) (.c (i6 0))),
  Qm 20 19,
  Qn 21 4 (20,false),
  Qe 22 0 5 (20,false),
  Qk 23 1 22 (20,false),
  Qg 24 (.len false (.t 23)) (20,false),
  Qg 25 (.bin .geq (.t 21) (.t 24)) (20,false),
  Qo 26 (.pick (.t 20) (.c (.bool true)) (.t 25))])
 (.cond (.t 26)
  (.seq (.region [Qo 10 (.mv (.c (i6 (-1))))])
  .ret)
  .skip))
 (.seq (.region [Qf 27 0 5,
  Ql 28 1 27,
  Qm 29 4,
  Qo 30 (.iaddr 6 (.t 28) (.t 29)),
  Qt 31 6 30,
  Qo 11 (.alloc [(i6 0),(i6 0),(i6 0),(i6 0),(.str []),(.bool false)]),
  ⟨none,.store 6 (.t 11) (.t 31),none⟩])
 (.seq (.seq (.region [Qf 32 0 11,
  Ql 33 1 32,
  Qo 34 (.bin .eql (.t 33) (.c (i6 15)))])
 (.cond (.t 34)
  (.seq (.seq (.region [Qm 35 4,
   Qf 36 0 6,
   Ql 37 1 36,
   Qo 38 (.len false (.t 37)),
   Qo 39 (.bin .lss (.t 35) (.t 38))])
  (.cond (.t 39)
   (.seq (.region [Qm 40 4,
    Qm 10 40])
   .ret)
   .skip))
  (.seq (.region [Qo 10 (.mv (.c (i6 (-1))))])
  .ret))
  .skip))
 (.seq (.quiet [Qf 41 1 11,
  Ql 42 1 41,
  Qf 43 2 11,
  Ql 44 1 43,
  Qm 12 42,
  Qm 13 44])
 (.seq (.seq (.region [Qf 45 0 11,
  Ql 46 1 45,
  Qo 47 (.bin .neq (.t 46) (.c (i6 1)))])
 (.cond (.t 47)
  (.seq (.region [Qm 49 2,
   Qm 50 3,
   Qf 51 1 11,
   Ql 52 1 51,
   Qf 53 2 11,
   Ql 54 1 53,
   Qo 55 (.call 13 [(.t 49),(.t 50),(.t 52),(.t 54)]),
   Qm 48 55,
   Qo 56 (.ext 0 (.t 48)),
   Qo 57 (.ext 1 (.t 48)),
   Qo 58 (.ext 2 (.t 48)),
   Qm 14 56,
   Qm 15 57,
   Qm 16 58])
  (.seq (.seq (.region [Qm 59 16,
   Qo 60 (.un .not (.t 59))])
  (.cond (.t 60)
   (.seq (.region [Qo 10 (.mv (.c (i6 (-1))))])
   .ret)
   .skip))
  (.region [Qm 61 14,
   Qm 62 15,
   Qm 12 61,
   Qm 13 62])))
  .skip))
 zg9))))))
def Zx:Lay:=⟨89,[],false⟩
def z92:List LRes:=[.t 10]
def zm5:LFn:=⟨5,Zx,zft,z92⟩
theorem zgs:ve Tryz.prog [] 15=some zm5:=by kernel_rfl
theorem zgv:Xp Tryz.prog 15:=⟨_,Tryz.func15,rfl,rfl⟩
def zal(a0:G_Resolution)(a1:G_Resolution)(a2:List G_FileEdit)(a3:List G_MovedRange)(a4:Int)(o:Int):Exit→Env→AHeap→Nat→Prop:=z1w z92 (vd (i6 o))
def Kv(a1:G_Resolution)(v2:Int)(v3:Int)(s:Int):Env:=[(6,.ptr (0,0) 0 0),(12,i6 v2),(13,i6 v3),(17,i6 s)]
def z26(a1:G_Resolution)(v2:Int)(v3:Int)(s:Int):AHeap:=[((0,0),.one [.isl 6 (a1.f_Symbols.map z8) false,.isl 3 (a1.f_References.map zd) false,.isl 5 (a1.f_Diagnostics.map zc) false])]
def z6v(a0:G_Resolution)(a1:G_Resolution)(a2:List G_FileEdit)(a3:List G_MovedRange)(a4:Int)(o:Int):Exit→Env→AHeap→Nat→Prop:=(j4 0 (Wa Tryz.prog Zx 0 z6b (zal a0 a1 a2 a3 a4 o)))
def yp(m:Option Nat):Option Int:=
 some (-1)
def zk(m:Option Nat)(a1:G_Resolution)(v2:Int)(v3:Int)(v4:Int):Option (Int ⊕ Int):=
 if(decide (v4<((a1.f_Symbols.map z8).length:Int)))=true then
  if(0:Int)≤v4∧v4<((a1.f_Symbols.map z8).length:Int) then
  if((((a1.f_Symbols.getD v4.toNat default).f_Module==v2)==true)=true→(0:Int)≤v4∧v4<((a1.f_Symbols.map z8).length:Int)) then
  if(((a1.f_Symbols.getD v4.toNat default).f_Module==v2)&&((a1.f_Symbols.getD v4.toNat default).f_Start==v3))=true then
   p3 p4 (
    some v4)
  else
   some (.inl (W (v4+1)))
  else none
  else none
 else
  p3 p4 (
   yp m)
def y5(m:Option Nat)(a1:G_Resolution)(v2:Int)(v3:Int)(v4:Int):Option Int:=Zf m (fun(s:Int)=>zk m a1 v2 v3 s) v4
theorem zct{a0:G_Resolution}{a1:G_Resolution}{a2:List G_FileEdit}{a3:List G_MovedRange}{a4:Int}{m:Option Nat}{o:Int}(h:yp m=some o) :
 LWp Tryz.prog Zx 0 z6b (zal a0 a1 a2 a3 a4 o) [] [] 0:=by
 unfold yp at h
 refine yf (qe ?_)
 refine uq ?_
 cases h
 exact AI TT (AI rfl (VS rfl))
theorem z8k{a0:G_Resolution}{a2:List G_FileEdit}{a3:List G_MovedRange}{a4:Int}{a1:G_Resolution}{v2:Int}{v3:Int}{v4:Int}{m:Option Nat}{o:Int ⊕ Int}(h:zk m a1 v2 v3 v4=some o) :
 LWp Tryz.prog Zx 0 z9h (Zz 0 1 (Kv a1 v2 v3) (z26 a1 v2 v3) (z6v a0 a1 a2 a3 a4) o) [(6,.ptr (0,0) 0 0),(12,i6 v2),(13,i6 v3),(17,i6 v4)] [((0,0),.one [.isl 6 (a1.f_Symbols.map z8) false,.isl 3 (a1.f_References.map zd) false,.isl 5 (a1.f_Diagnostics.map zc) false])] 1:=by
 unfold zk at h
 refine yf ?_
 refine yf (qe ?_)
 refine xp (v:=(decide (v4<((a1.f_Symbols.map z8).length:Int)))) rfl TT (fun h16=>?_) (fun h16=>?_)
 ·have h:=qd h16 h
  refine xw ?_
  refine yf ?_
  refine jg ?_
  refine yf (qe ?_)
  obtain⟨h17,h⟩:=x8 h
  refine AI h17 ?_
  refine EX (z8 (a1.f_Symbols.getD v4.toNat default)) (AI (xi z8 _ _ (j6 z8 h17)) (AI (AI (wj h17) (NB rfl)) ?_))
  refine AI (fun hp=>hp) ?_
  obtain⟨h18,h⟩:=x8 h
  refine AI (fun hp=>(AI (AI hp hp) (h18 hp))) ?_
  refine AI (fun hp=>hp) ?_
  refine EX (z8 (a1.f_Symbols.getD v4.toNat default)) (AI (fun hp=>AI (xi z8 _ _ (j6 z8 (h18 hp))) (AI hp (AI (wj (h18 hp)) (NB rfl)))) ?_)
  refine AI (fun hp=>(AI hp hp)) ?_
  refine AI (fun hc=>(bqt hc)) ?_
  refine p1 (e:=[(6,.ptr (0,0) 0 0),(12,i6 v2),(13,i6 v3),(17,i6 v4),(87,.bool (((a1.f_Symbols.getD v4.toNat default).f_Module==v2)&&((a1.f_Symbols.getD v4.toNat default).f_Start==v3)))]) (L:=[((0,0),.one [.isl 6 (a1.f_Symbols.map z8) false,.isl 3 (a1.f_References.map zd) false,.isl 5 (a1.f_Diagnostics.map zc) false])]) (n:=1) ?_ ?_
  ·exact xv (M:=[((0,0),(0,0))]) rfl (SP rfl (S4 rfl rfl rfl rfl TT)) (AI (AI rfl (OL rfl)) TT)
  refine xp (v:=(((a1.f_Symbols.getD v4.toNat default).f_Module==v2)&&((a1.f_Symbols.getD v4.toNat default).f_Start==v3))) rfl TT (fun h19=>?_) (fun h19=>?_)
  ·have h:=qd h19 h
   refine yf (qe ?_)
   refine uq ?_
   obtain⟨o,hq,rfl⟩:=p2.1 h
   replace h:=hq;clear hq
   refine AI nofun ?_
   cases h
   exact AI TT (AI rfl (VS rfl))
  ·have h:=qm h19 h
   refine xw ?_
   refine qe ?_
   cases h
   exact AI rfl (xv (M:=[((0,0),(0,0))]) rfl (SP rfl (S2 rfl rfl (AI (VS rfl) TT))) (AI (AI rfl (OL rfl)) TT))
 ·have h:=qm h16 h
  refine Jx ?_
  obtain⟨o,hq,rfl⟩:=p2.1 h
  replace h:=hq;clear hq
  refine AI nofun ?_
  refine p1 ?_ (zct h)
  exact xv (M:=[]) rfl TT TT
theorem za6{a0:G_Resolution}{a2:List G_FileEdit}{a3:List G_MovedRange}{a4:Int}{a1:G_Resolution}{v2:Int}{v3:Int}{v4:Int}{m:Option Nat}{o:Int}(h:y5 m a1 v2 v3 v4=some o) :
 LWp Tryz.prog Zx 0 (.loop z9h) (j4 0 (Wa Tryz.prog Zx 0 z6b (zal a0 a1 a2 a3 a4 o))) [(6,.ptr (0,0) 0 0),(12,i6 v2),(13,i6 v3),(17,i6 v4)] [((0,0),.one [.isl 6 (a1.f_Symbols.map z8) false,.isl 3 (a1.f_References.map zd) false,.isl 5 (a1.f_Diagnostics.map zc) false])] 1:=
 jm (m:=m) (s:=(v4:Int)) (r:=o) (fun(s:Int)=>zk m a1 v2 v3 s) (Kv a1 v2 v3) (z26 a1 v2 v3) (z6v a0 a1 a2 a3 a4) (fun s o h=>z8k h) h
def zq(m:Option Nat)(a1:G_Resolution)(v2:Int)(v3:Int):Option Int:=
 y5 m a1 v2 v3 0
theorem z35{a0:G_Resolution}{a2:List G_FileEdit}{a3:List G_MovedRange}{a4:Int}{a1:G_Resolution}{v2:Int}{v3:Int}{m:Option Nat}{o:Int}(h:zq m a1 v2 v3=some o) :
 LWp Tryz.prog Zx 0 zg9 (zal a0 a1 a2 a3 a4 o) [(6,.ptr (0,0) 0 0),(12,i6 v2),(13,i6 v3)] [((0,0),.one [.isl 6 (a1.f_Symbols.map z8) false,.isl 3 (a1.f_References.map zd) false,.isl 5 (a1.f_Diagnostics.map zc) false])] 1:=by
 unfold zq at h
 refine yf ?_
 refine yf (qe ?_)
 refine jg ?_
 refine p1 ?_ (za6 h)
 exact xv (M:=[((0,0),(0,0))]) rfl (SP rfl (S2 rfl rfl (AI (VS rfl) TT))) (AI (AI rfl (OL rfl)) TT)
def y1(m:Option Nat)(a0:G_Resolution)(a1:G_Resolution)(a2:List G_FileEdit)(a3:List G_MovedRange)(a4:Int):Option Int:=
 if((decide (a4<0)) || (decide (a4≥((a0.f_Symbols.map z8).length:Int))))=true then
  some (-1)
 else
  if(0:Int)≤a4∧a4<((a0.f_Symbols.map z8).length:Int) then
  if((a0.f_Symbols.getD a4.toNat default).f_Kind==15)=true then
   if(decide (a4<((a1.f_Symbols.map z8).length:Int)))=true then
    some a4
   else
    some (-1)
  else
   if((a0.f_Symbols.getD a4.toNat default).f_Kind != 1)=true then
    (y3 m a2 a3 ((a0.f_Symbols.getD a4.toNat default).f_Module) ((a0.f_Symbols.getD a4.toNat default).f_Start)).bind fun v1=>
    if(!v1.2.2)=true then
     some (-1)
    else
     zq m a1 v1.1 v1.2.1
   else
    zq m a1 ((a0.f_Symbols.getD a4.toNat default).f_Module) ((a0.f_Symbols.getD a4.toNat default).f_Start)
  else none
theorem z9i{a0:G_Resolution}{a1:G_Resolution}{a2:List G_FileEdit}{a3:List G_MovedRange}{a4:Int}{m:Option Nat}{o:Int}(h:y1 m a0 a1 a2 a3 a4=some o):LWp Tryz.prog Zx 0 zft (zal a0 a1 a2 a3 a4 o) (xm 0 [.agg [.isl 6 (a0.f_Symbols.map z8) false,.isl 3 (a0.f_References.map zd) false,.isl 5 (a0.f_Diagnostics.map zc) false],.agg [.isl 6 (a1.f_Symbols.map z8) false,.isl 3 (a1.f_References.map zd) false,.isl 5 (a1.f_Diagnostics.map zc) false],.isl 4 (a2.map z7) false,.isl 5 (a3.map za) false,i6 a4]) [] 0:=by
 unfold y1 at h
 refine yf (qe ?_)
 refine yf ?_
 refine yf (qe ?_)
 refine AI (fun hp=>hp) ?_
 refine AI (fun hp=>hp) ?_
 refine AI (fun hp=>(AI hp hp)) ?_
 refine AI (fun hc=>(bqf hc)) ?_
 refine p1 (e:=[(2,.isl 4 (a2.map z7) false),(3,.isl 5 (a3.map za) false),(4,i6 a4),(5,.ptr (0,0) 0 0),(6,.ptr (1,0) 0 0),(26,.bool ((decide (a4<0)) || (decide (a4≥((a0.f_Symbols.map z8).length:Int)))))]) (L:=[((0,0),.one [.isl 6 (a0.f_Symbols.map z8) false,.isl 3 (a0.f_References.map zd) false,.isl 5 (a0.f_Diagnostics.map zc) false]),((1,0),.one [.isl 6 (a1.f_Symbols.map z8) false,.isl 3 (a1.f_References.map zd) false,.isl 5 (a1.f_Diagnostics.map zc) false])]) (n:=2) ?_ ?_
 ·exact xv (M:=[((0,0),(0,0)),((1,0),(1,0))]) rfl (S2 rfl rfl (AI (VS rfl) (SP rfl (SP rfl (AI (VS rfl) TT))))) (AI (AI rfl (OL rfl)) (AI (AI rfl (OL rfl)) TT))
 refine xp (v:=((decide (a4<0)) || (decide (a4≥((a0.f_Symbols.map z8).length:Int))))) rfl TT (fun h1=>?_) (fun h1=>?_)
 ·have h:=qd h1 h
  refine yf (qe ?_)
  refine uq ?_
  cases h
  exact AI TT (AI rfl (VS rfl))
 ·have h:=qm h1 h
  refine xw ?_
  refine yf (qe ?_)
  obtain⟨h2,h⟩:=x8 h
  refine AI h2 ?_
  refine EX (z8 (a0.f_Symbols.getD a4.toNat default)) (AI (xi z8 _ _ (j6 z8 h2)) (AI (AI (wj h2) (NB rfl)) ?_))
  refine yf ?_
  refine yf (qe ?_)
  refine p1 (e:=[(2,.isl 4 (a2.map z7) false),(3,.isl 5 (a3.map za) false),(4,i6 a4),(6,.ptr (0,0) 0 0),(11,.ptr (1,0) 0 0),(34,.bool ((a0.f_Symbols.getD a4.toNat default).f_Kind==15))]) (L:=[((0,0),.one [.isl 6 (a1.f_Symbols.map z8) false,.isl 3 (a1.f_References.map zd) false,.isl 5 (a1.f_Diagnostics.map zc) false]),((1,0),.one [i6 ((a0.f_Symbols.getD a4.toNat default).f_Kind),i6 ((a0.f_Symbols.getD a4.toNat default).f_Module),i6 ((a0.f_Symbols.getD a4.toNat default).f_Start),i6 ((a0.f_Symbols.getD a4.toNat default).f_Parent),.str ((a0.f_Symbols.getD a4.toNat default).f_Name),.bool ((a0.f_Symbols.getD a4.toNat default).f_Public)])]) (n:=2) ?_ ?_
  ·exact xv (M:=[((0,0),(1,0)),((1,0),(2,0))]) rfl (S2 rfl rfl (AI (VS rfl) (SP rfl (SP rfl (AI (VS rfl) TT))))) (AI (AI rfl (OL rfl)) (AI (AI rfl (OL rfl)) TT))
  refine xp (v:=((a0.f_Symbols.getD a4.toNat default).f_Kind==15)) rfl TT (fun h3=>?_) (fun h3=>?_)
  ·have h:=qd h3 h
   refine yf ?_
   refine yf (qe ?_)
   refine xp (v:=(decide (a4<((a1.f_Symbols.map z8).length:Int)))) rfl TT (fun h4=>?_) (fun h4=>?_)
   ·have h:=qd h4 h
    refine yf (qe ?_)
    refine uq ?_
    cases h
    exact AI TT (AI rfl (VS rfl))
   ·have h:=qm h4 h
    refine xw ?_
    refine yf (qe ?_)
    refine uq ?_
    cases h
    exact AI TT (AI rfl (VS rfl))
  ·have h:=qm h3 h
   refine xw ?_
   refine yf ?_
   refine z61 ?_
   refine yf ?_
   refine yf (qe ?_)
   refine p1 (e:=[(2,.isl 4 (a2.map z7) false),(3,.isl 5 (a3.map za) false),(6,.ptr (0,0) 0 0),(11,.ptr (1,0) 0 0),(12,i6 ((a0.f_Symbols.getD a4.toNat default).f_Module)),(13,i6 ((a0.f_Symbols.getD a4.toNat default).f_Start)),(47,.bool ((a0.f_Symbols.getD a4.toNat default).f_Kind != 1))]) (L:=[((0,0),.one [.isl 6 (a1.f_Symbols.map z8) false,.isl 3 (a1.f_References.map zd) false,.isl 5 (a1.f_Diagnostics.map zc) false]),((1,0),.one [i6 ((a0.f_Symbols.getD a4.toNat default).f_Kind),i6 ((a0.f_Symbols.getD a4.toNat default).f_Module),i6 ((a0.f_Symbols.getD a4.toNat default).f_Start),i6 ((a0.f_Symbols.getD a4.toNat default).f_Parent),.str ((a0.f_Symbols.getD a4.toNat default).f_Name),.bool ((a0.f_Symbols.getD a4.toNat default).f_Public)])]) (n:=2) ?_ ?_
   ·exact xv (M:=[((0,0),(0,0)),((1,0),(1,0))]) rfl (S2 rfl rfl (SP rfl (SP rfl (S2 rfl rfl (AI (VS rfl) TT))))) (AI (AI rfl (OL rfl)) (AI (AI rfl (OL rfl)) TT))
   refine xp (v:=((a0.f_Symbols.getD a4.toNat default).f_Kind != 1)) rfl TT (fun h5=>?_) (fun h5=>?_)
   ·have h:=qd h5 h
    refine yf (qe ?_)
    obtain⟨v1,h6,h⟩:=bind_some h
    refine p9 (zfu h6) (S4 rfl rfl rfl rfl TT) ?_
    refine p1 (e:=[(6,.ptr (0,0) 0 0),(14,i6 v1.1),(15,i6 v1.2.1),(16,.bool v1.2.2)]) (L:=[((0,0),.one [.isl 6 (a1.f_Symbols.map z8) false,.isl 3 (a1.f_References.map zd) false,.isl 5 (a1.f_Diagnostics.map zc) false])]) (n:=1) ?_ ?_
    ·exact xv (M:=[((0,0),(0,0))]) rfl (SP rfl (S2 rfl rfl (AI (VS rfl) TT))) (AI (AI rfl (OL rfl)) TT)
    refine yf ?_
    refine yf (qe ?_)
    refine xp (v:=(!v1.2.2)) rfl TT (fun h7=>?_) (fun h7=>?_)
    ·have h:=qd h7 h
     refine yf (qe ?_)
     refine uq ?_
     cases h
     exact AI TT (AI rfl (VS rfl))
    ·have h:=qm h7 h
     refine xw ?_
     refine qe ?_
     refine p1 ?_ (z35 h)
     exact xv (M:=[((0,0),(0,0))]) rfl (SP rfl (S2 rfl rfl TT)) (AI (AI rfl (OL rfl)) TT)
   ·have h:=qm h5 h
    refine xw ?_
    refine p1 ?_ (z35 h)
    exact xv (M:=[((0,0),(0,0))]) rfl (SP rfl (S2 rfl rfl TT)) (AI (AI rfl (OL rfl)) TT)
theorem zl7{a0:G_Resolution}{a1:G_Resolution}{a2:List G_FileEdit}{a3:List G_MovedRange}{a4:Int}{m:Option Nat}{o:Int}(h:y1 m a0 a1 a2 a3 a4=some o):PFn Tryz.prog 15 [.agg [.isl 6 (a0.f_Symbols.map z8) false,.isl 3 (a0.f_References.map zd) false,.isl 5 (a0.f_Diagnostics.map zc) false],.agg [.isl 6 (a1.f_Symbols.map z8) false,.isl 3 (a1.f_References.map zd) false,.isl 5 (a1.f_Diagnostics.map zc) false],.isl 4 (a2.map z7) false,.isl 5 (a3.map za) false,i6 a4] (i6 o):=pA (L:=zm5) zgs zgv (NB rfl) rfl (z9i h)
def zkw:LCode:=(.seq (.region [Qo 7 (.box (.t 0)),
 Qo 8 (.box (.t 1)),
 Qb 14])
 (.seq (.seq (.region [Qo 21 (.call 6 []),
  Qo 22 (.un .not (.t 21))])
 (.cond (.t 22)
  (.seq (.region [Qb 14])
  .ret)
  .skip))
 (.seq (.region [Qm 24 2,
  Qm 25 3,
  Qm 26 4,
  Qm 27 5,
  Qo 28 (.call 12 [(.t 24),(.t 25),(.t 26),(.t 27)]),
  Qm 23 28,
  Qo 29 (.ext 0 (.t 23)),
  Qo 30 (.ext 1 (.t 23)),
  Qo 31 (.ext 2 (.t 23)),
  Qm 15 29,
  Qm 16 30,
  Qm 17 31])
 (.seq (.region [Qm 33 2,
  Qm 34 3,
  Qm 35 4,
  Qm 36 5,
  Qo 37 (.call 13 [(.t 33),(.t 34),(.t 35),(.t 36)]),
  Qm 32 37,
  Qo 38 (.ext 0 (.t 32)),
  Qo 39 (.ext 1 (.t 32)),
  Qo 40 (.ext 2 (.t 32)),
  Qm 18 38,
  Qm 19 39,
  Qm 20 40])
 (.seq (.draw [⟨Qm 41 15,[]⟩,
  ⟨Qm 42 18,[]⟩,
  ⟨Qo 43 (.bin .eql (.t 41) (.t 42)),[]⟩,
  ⟨Qm 44 43,[]⟩,
  ⟨Qn 45 16 (44,true),[]⟩,
  ⟨Qn 46 19 (44,true),[]⟩,
  ⟨Qg 47 (.bin .eql (.t 45) (.t 46)) (44,true),[]⟩,
  ⟨Qp 48 44 47,[]⟩,
  ⟨Qm 49 48,[]⟩,
  ⟨Qn 50 17 (49,true),[]⟩,
  ⟨Qn 51 20 (49,true),[]⟩,
  ⟨Qg 52 (.eq false .bool (.t 50) (.t 51)) (49,true),[]⟩,
  ⟨Qp 53 49 52,[]⟩,
  ⟨Qm 54 53,[]⟩,
  ⟨Qg 55 (.load true 3 (.t 7)) (54,true),[]⟩,
  ⟨Qg 56 (.load true 3 (.t 8)) (54,true),[]⟩,
  ⟨Qn 57 2 (54,true),[]⟩,
  ⟨Qn 58 3 (54,true),[]⟩,
  ⟨Qn 59 6 (54,true),[]⟩,
  ⟨Qg 61 (.load true 3 (.t 7)) (54,true),[]⟩,
  ⟨Qg 62 (.load true 3 (.t 8)) (54,true),[]⟩,
  ⟨Qn 63 2 (54,true),[]⟩,
  ⟨Qn 64 3 (54,true),[]⟩,
  ⟨Qn 65 6 (54,true),[]⟩,
  ⟨Qg 60 (.call 14 [(.t 55),(.t 56),(.t 57),(.t 58),(.t 59)]) (54,true),[19,20]⟩,
  ⟨Qg 66 (.call 15 [(.t 61),(.t 62),(.t 63),(.t 64),(.t 65)]) (54,true),[]⟩,
  ⟨Qg 67 (.bin .eql (.t 60) (.t 66)) (54,true),[]⟩,
  ⟨Qp 68 54 67,[]⟩,
  ⟨Qm 14 68,[]⟩])
 .ret)))))
def zfk:Lay:=⟨69,[],false⟩
def zfi:List LRes:=[.t 14]
def zo0:LFn:=⟨7,zfk,zkw,zfi⟩
theorem zlp:ve Tryz.prog [] 4=some zo0:=by kernel_rfl
theorem zlm:Xp Tryz.prog 4:=⟨_,Tryz.func4,rfl,rfl⟩
def zf(m:Option Nat)(a0:G_Resolution)(a1:G_Resolution)(a2:List G_FileEdit)(a3:List G_MovedRange)(a4:Int)(a5:Int)(a6:Int):Option Bool:=
 (qz m).bind fun v1=>
 if(!v1)=true then
  some false
 else
  (yu m a2 a3 a4 a5).bind fun v2=>
  (y3 m a2 a3 a4 a5).bind fun v3=>
  (if((((v2.1==v3.1)&&(v2.2.1==v3.2.1))&&(v2.2.2==v3.2.2))==true)=true then yx m a0 a1 a2 a3 a6 else some default).bind fun v4=>
  (if((((v2.1==v3.1)&&(v2.2.1==v3.2.1))&&(v2.2.2==v3.2.2))==true)=true then y1 m a0 a1 a2 a3 a6 else some default).bind fun v5=>
  some ((((v2.1==v3.1)&&(v2.2.1==v3.2.1))&&(v2.2.2==v3.2.2))&&(v4==v5))
def zoa(a0:G_Resolution)(a1:G_Resolution)(a2:List G_FileEdit)(a3:List G_MovedRange)(a4:Int)(a5:Int)(a6:Int)(o:Bool):Exit→Env→AHeap→Nat→Prop:=z1w zfi (vd (.bool o))
theorem zfh{a0:G_Resolution}{a1:G_Resolution}{a2:List G_FileEdit}{a3:List G_MovedRange}{a4:Int}{a5:Int}{a6:Int}{m:Option Nat}{o:Bool}(h:zf m a0 a1 a2 a3 a4 a5 a6=some o):LWp Tryz.prog zfk 0 zkw (zoa a0 a1 a2 a3 a4 a5 a6 o) (xm 0 [.agg [.isl 6 (a0.f_Symbols.map z8) false,.isl 3 (a0.f_References.map zd) false,.isl 5 (a0.f_Diagnostics.map zc) false],.agg [.isl 6 (a1.f_Symbols.map z8) false,.isl 3 (a1.f_References.map zd) false,.isl 5 (a1.f_Diagnostics.map zc) false],.isl 4 (a2.map z7) false,.isl 5 (a3.map za) false,i6 a4,i6 a5,i6 a6]) [] 0:=by
 unfold zf at h
 refine yf (qe ?_)
 refine yf ?_
 refine yf (qe ?_)
 obtain⟨v1,h1,h⟩:=bind_some h
 refine p9 (zmy h1) TT ?_
 refine xp (v:=(!v1)) rfl TT (fun h2=>?_) (fun h2=>?_)
 ·have h:=qd h2 h
  refine yf (qe ?_)
  refine uq ?_
  cases h
  exact AI TT (AI rfl (VS rfl))
 ·have h:=qm h2 h
  refine xw ?_
  refine yf (qe ?_)
  obtain⟨v2,h3,h⟩:=bind_some h
  refine p9 (zfv h3) (S4 rfl rfl rfl rfl TT) ?_
  refine p1 (e:=[(2,.isl 4 (a2.map z7) false),(3,.isl 5 (a3.map za) false),(4,i6 a4),(5,i6 a5),(6,i6 a6),(7,.ptr (0,0) 0 0),(8,.ptr (1,0) 0 0),(15,i6 v2.1),(16,i6 v2.2.1),(17,.bool v2.2.2)]) (L:=[((0,0),.one [.isl 6 (a0.f_Symbols.map z8) false,.isl 3 (a0.f_References.map zd) false,.isl 5 (a0.f_Diagnostics.map zc) false]),((1,0),.one [.isl 6 (a1.f_Symbols.map z8) false,.isl 3 (a1.f_References.map zd) false,.isl 5 (a1.f_Diagnostics.map zc) false])]) (n:=2) ?_ ?_
  ·exact xv (M:=[((0,0),(0,0)),((1,0),(1,0))]) rfl (S4 rfl rfl rfl rfl (AI (VS rfl) (SP rfl (SP rfl (S2 rfl rfl (AI (VS rfl) TT)))))) (AI (AI rfl (OL rfl)) (AI (AI rfl (OL rfl)) TT))
  refine yf (qe ?_)
  obtain⟨v3,h4,h⟩:=bind_some h
  refine p9 (zfu h4) (S4 rfl rfl rfl rfl TT) ?_
  refine p1 (e:=[(2,.isl 4 (a2.map z7) false),(3,.isl 5 (a3.map za) false),(6,i6 a6),(7,.ptr (0,0) 0 0),(8,.ptr (1,0) 0 0),(15,i6 v2.1),(16,i6 v2.2.1),(17,.bool v2.2.2),(18,i6 v3.1),(19,i6 v3.2.1),(20,.bool v3.2.2)]) (L:=[((0,0),.one [.isl 6 (a0.f_Symbols.map z8) false,.isl 3 (a0.f_References.map zd) false,.isl 5 (a0.f_Diagnostics.map zc) false]),((1,0),.one [.isl 6 (a1.f_Symbols.map z8) false,.isl 3 (a1.f_References.map zd) false,.isl 5 (a1.f_Diagnostics.map zc) false])]) (n:=2) ?_ ?_
  ·exact xv (M:=[((0,0),(0,0)),((1,0),(1,0))]) rfl (S2 rfl rfl (AI (VS rfl) (SP rfl (SP rfl (S4 rfl rfl rfl rfl (S2 rfl rfl TT)))))) (AI (AI rfl (OL rfl)) (AI (AI rfl (OL rfl)) TT))
  refine yf ?_
  refine zjt ?_
  refine AI (fun hp=>(AI hp hp)) ?_
  refine AI (fun hc=>(bqt hc)) ?_
  refine AI (fun hp=>(AI hp hp)) ?_
  refine AI (fun hc=>(bqt hc)) ?_
  obtain⟨v4,h5,h⟩:=bind_some h
  refine Or.inl (EX (i6 v4) (AI (fun hp=>AI (AI hp (AI hp (AI hp (AI hp hp)))) (p9 (zjm (qd hp h5)) (S4 rfl rfl rfl rfl (AI (VS rfl) TT)) (AI rfl (AI rfl rfl)))) ?_))
  refine AI (AI rfl (fun hp=>rfl)) ?_
  refine AI (AI rfl (fun hp=>rfl)) ?_
  obtain⟨v5,h6,h⟩:=bind_some h
  refine Or.inl (EX (i6 v5) (AI (fun hp=>AI (AI hp (AI hp (AI hp (AI hp hp)))) (p9 (zl7 (qd hp h6)) (S4 rfl rfl rfl rfl (AI (VS rfl) TT)) (AI rfl (AI rfl rfl)))) ?_))
  refine AI (fun hp=>(AI hp hp)) ?_
  refine AI (fun hc=>(bqt hc)) ?_
  refine p1 (e:=[(14,.bool ((((v2.1==v3.1)&&(v2.2.1==v3.2.1))&&(v2.2.2==v3.2.2))&&(v4==v5)))]) (L:=[]) (n:=0) ?_ ?_
  ·exact xv (M:=[]) rfl (AI (VS rfl) TT) TT
  refine uq ?_
  cases h
  exact AI TT (AI rfl (VS rfl))
theorem zn0{a0:G_Resolution}{a1:G_Resolution}{a2:List G_FileEdit}{a3:List G_MovedRange}{a4:Int}{a5:Int}{a6:Int}{m:Option Nat}{o:Bool}(h:zf m a0 a1 a2 a3 a4 a5 a6=some o):PFn Tryz.prog 4 [.agg [.isl 6 (a0.f_Symbols.map z8) false,.isl 3 (a0.f_References.map zd) false,.isl 5 (a0.f_Diagnostics.map zc) false],.agg [.isl 6 (a1.f_Symbols.map z8) false,.isl 3 (a1.f_References.map zd) false,.isl 5 (a1.f_Diagnostics.map zc) false],.isl 4 (a2.map z7) false,.isl 5 (a3.map za) false,i6 a4,i6 a5,i6 a6] (.bool o):=pA (L:=zo0) zlp zlm (NB rfl) rfl (zfh h)
end
end Go.Proofs.YtjkfnbjgpilokaaGreatDoor
