/-
  Own text GenC of this claim: what functions of the given program compute, in plain Lean, and the proof; no condition.
-/
import Derived.Test.YtbohjnffcnhgeaaGenB
open Go.Fx.BVw renaming enc→p1,oneL→p3
open Go.Fx.LWp renaming sim→p2
open Go.Fx.PFn renaming call→p4
open Go.Fx.Vw renaming mslE→p0
namespace Go.Proofs.Ytbohjnffcnhgeaa
noncomputable section
open Go.Fx
set_option linter.unusedVariables false
def zgh:LCode:=(.seq (.region [Qo 2 (.mv (.c (.val (.slice none 0 0))))])
 (.seq (.region [Qm 3 0,
  Qo 4 (.nilck (.t 3)),
  Qf 5 1 4,
  Ql 6 1 5,
  Qc 7 20 6,
  Qm 2 7])
 .ret))
def zc9:Lay:=⟨8,[],false⟩
def zch:List LRes:=[.t 2]
def zqg:LFn:=⟨1,zc9,zgh,zch⟩
theorem zlg:Zb Try.prog [] 16=some zqg:=by kernel_rfl
theorem zmh:Xk Try.prog 16:=⟨_,Try.func16,rfl,rfl⟩
def wg(m:Option Nat)(a0:List (List GR))(a1:List Int):Option (List Int):=
 (Y0 m a1).bind fun v1=>
 some v1
def zwz(a0:List (List GR))(a1:List Int)(o:(List Int)):Exit→Env→AHeap→Nat→Prop:=W4 zch (Yy 3 5 (.isl 1 (o.map z7) false) [((0,0),.one [.msl (3,0) 1 0 a0.length true,.msl (4,0) 1 0 a1.length false]),((3,0),.rows 1 (a0.map z6)),((4,0),.rows 1 (a1.map z7))])
theorem zf9{a0:List (List GR)}{a1:List Int}{m:Option Nat}{o:(List Int)}(h:wg m a0 a1=some o):LWp Try.prog zc9 3 zgh (zwz a0 a1 o) (qe 0 [.ptr (0,0) 0 0]) [((0,0),.one [.msl (0,1) 1 0 a0.length true,.msl (0,2) 1 0 a1.length false]),((0,1),.rows 1 (a0.map z6)),((0,2),.rows 1 (a1.map z7))] 3:=by
 unfold wg at h
 refine SR ?_
 refine SR ?_
 obtain⟨v1,h1,h⟩:=bind_some h
 refine Q4 (k:=3) (m:=0) (L':=[((0,2),.rows 1 (a1.map z7))]) (rest:=[((0,0),.one [.msl (0,1) 1 0 a0.length true,.msl (0,2) 1 0 a1.length false]),((0,1),.rows 1 (a0.map z6))]) (R':=.isl 1 (v1.map z7) false) [((0,0),(0,2))] (zmg h1) rfl rfl rfl (AI (p0 rfl (by first|rfl|omega|(simp;done)|(simp at *;omega)) rfl) TT) (AI (h0I (0,2) rfl rfl (p1 z7 (fun _=>rfl) _ a1)) TT) (Zd _ rfl) (AI rfl (AI (qj z7 (fun _=>rfl) _ _) TT)) rfl ?_
 refine Ya ?_
 cases h
 exact AI TT (z1f (n':=4) [((3,0),(0,1)),((4,0),(0,2))] [] rfl rfl (VS rfl) (AI (AI rfl (p3 (AI (p0 rfl (by first|rfl|omega|(simp;done)|(simp at *;omega)) rfl) (AI (p0 rfl (by first|rfl|omega|(simp;done)|(simp at *;omega)) rfl) TT)))) (AI (AI rfl (p1 z6 (fun _=>rfl) _ a0)) (AI (AI rfl (p1 z7 (fun _=>rfl) _ a1)) TT))))
theorem zia{a0:List (List GR)}{a1:List Int}{m:Option Nat}{o:(List Int)}(h:wg m a0 a1=some o):ACalls Try.prog 16 [.ptr (0,0) 0 0] [((0,0),.one [.msl (0,1) 1 0 a0.length true,.msl (0,2) 1 0 a1.length false]),((0,1),.rows 1 (a0.map z6)),((0,2),.rows 1 (a1.map z7))] 3 (Ze 5 (.isl 1 (o.map z7) false) [((0,0),.one [.msl (3,0) 1 0 a0.length true,.msl (4,0) 1 0 a1.length false]),((3,0),.rows 1 (a0.map z6)),((4,0),.rows 1 (a1.map z7))]):=Zr (L:=zqg) zlg zmh (NB rfl) (zf9 h)
def zz9:LCode:=(.seq (.region [Qm 130 12,
 Qo 131 (.bin .eql (.t 130) (.c (i6 0)))])
 (.cond (.t 131)
  (.draw [⟨Qm 132 13,[]⟩,
   ⟨Qf 133 1 11,[]⟩,
   ⟨Ql 134 1 133,[]⟩,
   ⟨Qm 135 0,[]⟩,
   ⟨Qf 136 1 11,[]⟩,
   ⟨Ql 137 1 136,[]⟩,
   ⟨Qo 138 (.iaddr 1 (.t 135) (.t 137)),[]⟩,
   ⟨Ql 139 1 138,[]⟩,
   ⟨Qf 140 2 11,[]⟩,
   ⟨Ql 141 1 140,[]⟩,
   ⟨Qo 142 (.slSl 2 (.t 139) none (some (.t 141)) none),[]⟩,
   ⟨Qm 144 0,[]⟩,
   ⟨Qf 145 1 11,[]⟩,
   ⟨Ql 146 1 145,[]⟩,
   ⟨Qo 147 (.iaddr 1 (.t 144) (.t 146)),[]⟩,
   ⟨Ql 148 1 147,[]⟩,
   ⟨Qf 149 2 11,[]⟩,
   ⟨Ql 150 1 149,[]⟩,
   ⟨Qo 151 (.bin .add (.t 150) (.c (i6 1))),[]⟩,
   ⟨Qo 152 (.slSl 2 (.t 148) (some (.t 151)) none none),[]⟩,
   ⟨Qc 143 10 142,[2,13,15,17]⟩,
   ⟨Qo 153 (.app false 2 32 (.t 143) (.t 152)),[2]⟩,
   ⟨Qo 154 (.iaddr 1 (.t 132) (.t 134)),[]⟩,
   ⟨⟨none,.store 1 (.t 154) (.t 153),none⟩,[]⟩])
  .skip))
def y0b:LCode:=(.cond (.t 179)
 (.seq (.region [Qb 6])
 .ret)
 .skip)
def zzy:LCode:=(.seq (.region [Qm 159 0,
 Qc 160 12 159,
 Qm 158 160,
 Qo 161 (.ext 0 (.t 158)),
 Qo 162 (.ext 1 (.t 158)),
 Qm 16 161,
 Qm 17 162])
 (.seq (.region [Qm 163 14,
  Qm 164 12,
  Qo 165 (.bin .neq (.t 163) (.t 164)),
  Qm 166 165,
  Qn 167 7 (166,false),
  Qg 168 (.call 14 [(.t 167)]) (166,false),
  Qn 169 0 (166,false),
  Qg 170 (.call 13 [(.t 168),(.t 169)]) (166,false),
  Qg 171 (.un .not (.t 170)) (166,false),
  Qo 172 (.pick (.t 166) (.c (.bool true)) (.t 171)),
  Qm 173 172,
  Qn 174 7 (173,false),
  Qg 175 (.call 16 [(.t 174)]) (173,false),
  Qn 176 16 (173,false),
  Qg 177 (.call 15 [(.t 175),(.t 176)]) (173,false),
  Qg 178 (.un .not (.t 177)) (173,false),
  Qo 179 (.pick (.t 173) (.c (.bool true)) (.t 178))])
 y0b))
def zwd:LCode:=(.seq (.seq (.region [Qm 155 12,
 Qo 156 (.bin .eql (.t 155) (.c (i6 0)))])
 (.cond (.t 156)
  (.region [Qm 157 13,
   Qm 0 157])
  .skip))
 zzy)
def zw2:LCode:=(.seq (.region [Qi 14 0])
 (.seq (.seq (.region [Qf 67 0 11,
  Ql 68 1 67,
  Qo 69 (.call 8 [(.t 68),(.c (i6 2))]),
  Qo 70 (.bin .eql (.t 69) (.c (i6 0))),
  Qm 71 70,
  Qn 72 2 (71,true),
  Qg 73 (.len false (.t 72)) (71,true),
  Qg 74 (.bin .gtr (.t 73) (.c (i6 0))) (71,true),
  Qp 75 71 74])
 (.cond (.t 75)
  (.seq (.region [Qm 76 2,
   Qf 77 2 11,
   Ql 78 1 77,
   Qm 79 2,
   Qo 80 (.len false (.t 79)),
   Qo 81 (.call 8 [(.t 78),(.t 80)]),
   Qo 82 (.iaddr 2 (.t 76) (.t 81)),
   Qt 83 2 82,
   Qo 15 (.alloc [(i6 0),(.isl 1 [] true)]),
   ⟨none,.store 2 (.t 15) (.t 83),none⟩])
  (.seq (.region [Qm 84 7,
   Qf 85 1 11,
   Ql 86 1 85,
   Qt 87 2 15,
   Qo 88 (.call 9 [(.t 84),(.t 86),(.t 87)]),
   Qm 14 88])
  (.seq (.region [Qm 89 12,
   Qo 90 (.bin .eql (.t 89) (.c (i6 0)))])
  (.cond (.t 90)
   (.seq (.draw [⟨Qm 91 13,[]⟩,
    ⟨Qf 92 1 11,[]⟩,
    ⟨Ql 93 1 92,[]⟩,
    ⟨Qm 94 13,[]⟩,
    ⟨Qf 95 1 11,[]⟩,
    ⟨Ql 96 1 95,[]⟩,
    ⟨Qo 97 (.iaddr 1 (.t 94) (.t 96)),[]⟩,
    ⟨Ql 98 1 97,[]⟩,
    ⟨Qt 100 2 15,[]⟩,
    ⟨Qo 101 (.mkSl true 2 [(i6 0),(.isl 1 [] true)] 1 [(0,(.t 100))]),[]⟩,
    ⟨Qc 99 10 98,[2,8]⟩,
    ⟨Qo 102 (.app false 2 32 (.t 99) (.t 101)),[2]⟩,
    ⟨Qo 103 (.iaddr 1 (.t 91) (.t 93)),[]⟩,
    ⟨⟨none,.store 1 (.t 103) (.t 102),none⟩,[]⟩])
   (.region [Qm 104 13,
    Qc 105 6 104,
    Qm 12 105]))
   .skip))))
  (.seq (.region [Qm 106 7,
   Qf 107 1 11,
   Ql 108 1 107,
   Qf 109 2 11,
   Ql 110 1 109,
   Qo 111 (.call 11 [(.t 106),(.t 108),(.t 110)]),
   Qm 14 111])
  (.seq (.seq (.quiet [Qm 112 12,
   Qo 113 (.bin .eql (.t 112) (.c (i6 0))),
   Qm 114 113,
   Qe 115 2 11 (114,true),
   Qk 116 1 115 (114,true),
   Qg 117 (.bin .lss (.t 116) (.c (i6 0))) (114,true),
   Qn 118 117 (114,true),
   Qe 119 2 11 (118,false),
   Qk 120 1 119 (118,false),
   Qn 121 0 (118,false),
   Qe 122 1 11 (118,false),
   Qk 123 1 122 (118,false),
   Qg 124 (.iaddr 1 (.t 121) (.t 123)) (118,false),
   Qk 125 1 124 (118,false),
   Qg 126 (.len false (.t 125)) (118,false),
   Qg 127 (.bin .geq (.t 120) (.t 126)) (118,false),
   Qg 128 (.pick (.t 118) (.c (.bool true)) (.t 127)) (114,true),
   Qp 129 114 128])
  (.cond (.t 129)
   (.region [Qi 12 5])
   .skip))
  zz9))))
 zwd))
def zg0:LCode:=(.region [Qo 180 (.bin .add (.t 51) (.c (i6 1))),
 Qm 51 180])
def zpp:LCode:=(.seq (.region [Qo 52 (.bin .lss (.t 51) (.t 50))])
 (.seq (.cond (.t 52)
  .skip
  (.exit 0))
 (.seq (.block 1
  (.seq (.region [Qo 53 (.iaddr 3 (.t 49) (.t 51)),
   Qt 54 3 53,
   Qo 11 (.alloc [(i6 0),(i6 0),(i6 0)]),
   ⟨none,.store 3 (.t 11) (.t 54),none⟩])
  (.seq (.region [Qi 12 0])
  (.seq (.region [Qm 55 0,
   Qc 56 7 55,
   Qm 13 56])
  (.seq (.seq (.region [Qf 57 1 11,
   Ql 58 1 57,
   Qo 59 (.bin .lss (.t 58) (.c (i6 0))),
   Qm 60 59,
   Qe 61 1 11 (60,false),
   Qk 62 1 61 (60,false),
   Qn 63 0 (60,false),
   Qg 64 (.len false (.t 63)) (60,false),
   Qg 65 (.bin .geq (.t 62) (.t 64)) (60,false),
   Qo 66 (.pick (.t 60) (.c (.bool true)) (.t 65))])
  (.cond (.t 66)
   (.region [Qi 12 1])
   .skip))
  zw2)))))
 zg0)))
def zfj:LCode:=(.seq (.region [Qo 181 (.call 4 []),
 Qm 6 181])
 .ret)
def zzr:LCode:=(.seq (.region [Qb 6])
 (.seq (.seq (.region [Qo 18 (.call 4 []),
  Qo 19 (.un .not (.t 18))])
 (.cond (.t 19)
  (.seq (.region [Qb 6])
  .ret)
  .skip))
 (.seq (.region [Qm 21 0,
  Qc 22 5 21,
  Qm 20 22,
  Qo 23 (.ext 0 (.t 20)),
  Qo 24 (.ext 1 (.t 20)),
  Qm 7 23,
  Qm 8 24])
 (.seq (.seq (.region [Qm 25 0,
  Qc 26 6 25,
  Qm 9 26])
 (.seq (.region [Qm 27 9,
  Qo 28 (.bin .neq (.t 27) (.c (i6 0)))])
 (.cond (.t 28)
  (.seq (.region [Qo 29 (.call 4 []),
   Qm 30 29,
   Qn 31 8 (30,true),
   Qn 32 9 (30,true),
   Qg 33 (.bin .eql (.t 31) (.t 32)) (30,true),
   Qp 34 30 33,
   Qm 35 34,
   Qn 36 7 (35,true),
   Qg 37 (.eq false .ptr (.t 36) (.c (.val (.pointer none)))) (35,true),
   Qp 38 35 37,
   Qm 6 38])
  .ret)
  .skip)))
 (.seq (.seq (.region [Qm 39 8,
  Qo 40 (.bin .neq (.t 39) (.c (i6 0))),
  Qm 41 40,
  Qn 42 7 (41,false),
  Qg 43 (.eq false .ptr (.t 42) (.c (.val (.pointer none)))) (41,false),
  Qo 44 (.pick (.t 41) (.c (.bool true)) (.t 43))])
 (.cond (.t 44)
  (.seq (.region [Qb 6])
  .ret)
  .skip))
 (.seq (.seq (.region [Qm 45 1,
  Qm 46 1,
  Qo 47 (.len false (.t 46)),
  Qo 48 (.mnx false [(.t 47),(.c (i6 15))]),
  Qo 49 (.slSl 3 (.t 45) none (some (.t 48)) none),
  Qo 50 (.len false (.t 49)),
  Qi 51 0])
 (.block 0
  (.loop
   zpp)))
 zfj))))))
def Zv:Lay:=⟨182,[102,153],false⟩
def zuq:List LRes:=[.t 6]
def y1q:LFn:=⟨3,Zv,zzr,zuq⟩
theorem y0f:Zb Try.prog [102,153] 3=some y1q:=by kernel_rfl
theorem zyu:Xk Try.prog 3:=⟨_,Try.func3,rfl,rfl⟩
def zw7(a0:List (List GR))(a1:List GS)(a2:List GR)(o:Bool):Exit→Env→AHeap→Nat→Prop:=W4 zuq (Yd (.bool o))
def z4n(a0:List (List GR))(a1:List GS)(a2:List GR)(s:Unit):Env:=[(0,.isl 1 (a0.map z6) false),(2,.isl 2 (a2.map z8) false),(7,.val (.pointer none)),(49,.isl 3 ((cT a1).map zr) false),(50,i6 (((cT a1).map zr).length:Int)),(51,i6 0)]
def z9j(a0:List (List GR))(a1:List GS)(a2:List GR)(s:Unit):AHeap:=[]
def zfo(a0:List (List GR))(a1:List GS)(a2:List GR)(o:Bool):Exit→Env→AHeap→Nat→Prop:=(zb 0 (uw Try.prog Zv 0 zfj (zw7 a0 a1 a2 o)))
def jq(m:Option Nat)(a0:List (List GR))(a1:List GS)(a2:List GR)(v11:List (List GR))(v12:Int):Option (Unit ⊕ Bool):=
 (j4 m (((cT a1).getD ((0:Int).toNat) default).fD) 2).bind fun v13=>
 if((v13==0)&&(decide (((a2.map z8).length:Int) > 0)))=true then
  (j4 m (((cT a1).getD ((0:Int).toNat) default).fb) ((a2.map z8).length:Int)).bind fun v14=>
  if(0:Int)≤v14∧v14<((a2.map z8).length:Int) then
  none
  else none
 else
  none
theorem zil{a0:List (List GR)}{a1:List GS}{a2:List GR}{v11:List (List GR)}{v12:Int}{m:Option Nat}{o:(Unit ⊕ Bool)}(h:jq m a0 a1 a2 v11 v12=some o) :
 LWp Try.prog Zv 0 zw2 (zb 1 (uw Try.prog Zv 0 zg0 (yi 0 0 (z4n a0 a1 a2) (z9j a0 a1 a2) (zfo a0 a1 a2) o))) [(0,.isl 1 (a0.map z6) false),(2,.isl 2 (a2.map z8) false),(7,.val (.pointer none)),(11,.ptr (0,0) 0 0),(12,i6 v12),(13,.msl (1,0) 1 0 v11.length false),(49,.isl 3 ((cT a1).map zr) false),(50,i6 (((cT a1).map zr).length:Int)),(51,i6 0)] [((0,0),.one [i6 (((cT a1).getD ((0:Int).toNat) default).fD),i6 (((cT a1).getD ((0:Int).toNat) default).fa),i6 (((cT a1).getD ((0:Int).toNat) default).fb)]),((1,0),.rows 1 (v11.map z6))] 2:=by
 unfold jq at h
 refine SR ?_
 refine xn ?_
 refine SR ?_
 obtain⟨v13,h21,h⟩:=bind_some h
 refine p4 (zsf h21) (S2 rfl rfl TT) ?_
 refine HP ?_
 refine HP ?_
 refine HB ?_
 refine p2 (e:=[(0,.isl 1 (a0.map z6) false),(2,.isl 2 (a2.map z8) false),(7,.val (.pointer none)),(11,.ptr (0,0) 0 0),(12,i6 v12),(13,.msl (1,0) 1 0 v11.length false),(49,.isl 3 ((cT a1).map zr) false),(50,i6 (((cT a1).map zr).length:Int)),(51,i6 0),(75,.bool ((v13==0)&&(decide (((a2.map z8).length:Int) > 0))))]) (L:=[((0,0),.one [i6 (((cT a1).getD ((0:Int).toNat) default).fD),i6 (((cT a1).getD ((0:Int).toNat) default).fa),i6 (((cT a1).getD ((0:Int).toNat) default).fb)]),((1,0),.rows 1 (v11.map z6))]) (n:=2) ?_ ?_
 ·exact qy (M:=[((0,0),(0,0)),((1,0),(1,0))]) rfl (S2 rfl rfl (AI (VS rfl) (SP rfl (AI (VS rfl) (AI (p0 rfl (by first|rfl|omega|(simp;done)|(simp at *;omega)) rfl) (S4 rfl rfl rfl rfl TT)))))) (AI (AI rfl (OL rfl)) (AI (AI rfl (p1 z6 (fun _=>rfl) _ v11)) TT))
 refine qh (v:=((v13==0)&&(decide (((a2.map z8).length:Int) > 0)))) rfl TT (fun h22=>?_) (fun h22=>?_)
 ·have h:=zj h22 h
  refine SR ?_
  obtain⟨v14,h23,h⟩:=bind_some h
  refine p4 (zsf h23) (S2 rfl rfl TT) ?_
  obtain⟨h24,h⟩:=za h
  refine AI h24 ?_
  refine EX (z8 (a2.getD v14.toNat default)) (AI (zc z8 _ _ (yj z8 h24)) (AI (AI (xv h24) (NB rfl)) ?_))
  refine p2 (e:=[(0,.isl 1 (a0.map z6) false),(2,.isl 2 (a2.map z8) false),(7,.val (.pointer none)),(11,.ptr (0,0) 0 0),(12,i6 v12),(13,.msl (1,0) 1 0 v11.length false),(15,.ptr (2,0) 0 0),(49,.isl 3 ((cT a1).map zr) false),(50,i6 (((cT a1).map zr).length:Int)),(51,i6 0)]) (L:=[((0,0),.one [i6 (((cT a1).getD ((0:Int).toNat) default).fD),i6 (((cT a1).getD ((0:Int).toNat) default).fa),i6 (((cT a1).getD ((0:Int).toNat) default).fb)]),((1,0),.rows 1 (v11.map z6)),((2,0),.one [i6 ((a2.getD v14.toNat default).fM),.isl 1 (((a2.getD v14.toNat default).fA).map z7) false])]) (n:=3) ?_ ?_
  ·exact qy (M:=[((0,0),(0,0)),((1,0),(1,0)),((2,0),(2,0))]) rfl (S2 rfl rfl (AI (VS rfl) (SP rfl (AI (VS rfl) (AI (p0 rfl (by first|rfl|omega|(simp;done)|(simp at *;omega)) rfl) (SP rfl (S2 rfl rfl (AI (VS rfl) TT)))))))) (AI (AI rfl (OL rfl)) (AI (AI rfl (p1 z6 (fun _=>rfl) _ v11)) (AI (AI rfl (OL rfl)) TT)))
  refine SR ?_
  cases h
 ·have h:=zm h22 h
  refine SR ?_
  cases h
def vt(m:Option Nat):Option Bool:=
 (y5 (some 4096)).bind fun v15=>
 some v15
def jn(m:Option Nat)(a0:List (List GR))(a1:List GS)(a2:List GR):Option (Unit ⊕ Bool):=
 if(decide ((0:Int)<(((cT a1).map zr).length:Int)))=true then
  if(0:Int)≤0∧0<(((cT a1).map zr).length:Int) then
  (xl m a0).bind fun v11=>
  if((decide (((cT a1).getD ((0:Int).toNat) default).fa<0)) || (decide (((cT a1).getD ((0:Int).toNat) default).fa≥((a0.map z6).length:Int))))=true then
   jq m a0 a1 a2 v11 1
  else
   jq m a0 a1 a2 v11 0
  else none
 else
  Option.map Sum.inr (
   vt m)
def Z4(m:Option Nat)(a0:List (List GR))(a1:List GS)(a2:List GR):Option Bool:=kw m (fun(s:Unit)=>jn m a0 a1 a2) ()
theorem zti{a0:List (List GR)}{a1:List GS}{a2:List GR}{m:Option Nat}{o:Bool}(h:vt m=some o) :
 LWp Try.prog Zv 0 zfj (zw7 a0 a1 a2 o) [] [] 0:=by
 unfold vt at h
 refine SR ?_
 obtain⟨v15,h25,h⟩:=bind_some h
 refine p4 (znl h25) TT ?_
 refine Ya ?_
 cases h
 exact AI TT (AI rfl (VS rfl))
theorem zrk{a0:List (List GR)}{a1:List GS}{a2:List GR}{m:Option Nat}{o:Unit ⊕ Bool}(h:jn m a0 a1 a2=some o) :
 LWp Try.prog Zv 0 zpp (yi 0 0 (z4n a0 a1 a2) (z9j a0 a1 a2) (zfo a0 a1 a2) o) [(0,.isl 1 (a0.map z6) false),(2,.isl 2 (a2.map z8) false),(7,.val (.pointer none)),(49,.isl 3 ((cT a1).map zr) false),(50,i6 (((cT a1).map zr).length:Int)),(51,i6 0)] [] 0:=by
 unfold jn at h
 refine SR ?_
 refine xn ?_
 refine qh (v:=(decide ((0:Int)<(((cT a1).map zr).length:Int)))) rfl TT (fun h17=>?_) (fun h17=>?_)
 ·have h:=zj h17 h
  refine qp ?_
  refine xn ?_
  refine zo ?_
  refine SR ?_
  obtain⟨h18,h⟩:=za h
  refine AI h18 ?_
  refine EX (zr ((cT a1).getD ((0:Int).toNat) default)) (AI (zc zr _ _ (yj zr h18)) (AI (AI (xv h18) (NB rfl)) ?_))
  refine SR ?_
  refine SR ?_
  obtain⟨v11,h19,h⟩:=bind_some h
  refine Q4 (k:=3) (m:=1) (L':=[((1,0),.rows 1 (v11.map z6))]) (rest:=[((0,0),.one [i6 (((cT a1).getD ((0:Int).toNat) default).fD),i6 (((cT a1).getD ((0:Int).toNat) default).fa),i6 (((cT a1).getD ((0:Int).toNat) default).fb)])]) (R':=.msl (1,0) 1 0 v11.length false) [] (zoh h19) rfl rfl rfl (AI (VS rfl) TT) TT rfl (AI rfl (AI (qj z6 (fun _=>rfl) _ _) TT)) rfl ?_
  refine p2 (e:=[(0,.isl 1 (a0.map z6) false),(2,.isl 2 (a2.map z8) false),(7,.val (.pointer none)),(11,.ptr (0,0) 0 0),(12,i6 0),(13,.msl (1,0) 1 0 v11.length false),(49,.isl 3 ((cT a1).map zr) false),(50,i6 (((cT a1).map zr).length:Int)),(51,i6 0)]) (L:=[((0,0),.one [i6 (((cT a1).getD ((0:Int).toNat) default).fD),i6 (((cT a1).getD ((0:Int).toNat) default).fa),i6 (((cT a1).getD ((0:Int).toNat) default).fb)]),((1,0),.rows 1 (v11.map z6))]) (n:=2) ?_ ?_
  ·exact qy (M:=[((0,0),(0,0)),((1,0),(1,0))]) rfl (S2 rfl rfl (AI (VS rfl) (SP rfl (AI (VS rfl) (AI (p0 rfl (by first|rfl|omega|(simp;done)|(simp at *;omega)) rfl) (S2 rfl rfl (AI (VS rfl) TT))))))) (AI (AI rfl (OL rfl)) (AI (AI rfl (p1 z6 (fun _=>rfl) _ v11)) TT))
  refine xn ?_
  refine SR ?_
  refine HP ?_
  refine HP ?_
  refine AI (fun hp=>(AI hp hp)) ?_
  refine AI (fun hc=>(bqf hc)) ?_
  refine p2 (e:=[(0,.isl 1 (a0.map z6) false),(2,.isl 2 (a2.map z8) false),(7,.val (.pointer none)),(11,.ptr (0,0) 0 0),(12,i6 0),(13,.msl (1,0) 1 0 v11.length false),(49,.isl 3 ((cT a1).map zr) false),(50,i6 (((cT a1).map zr).length:Int)),(51,i6 0),(66,.bool ((decide (((cT a1).getD ((0:Int).toNat) default).fa<0)) || (decide (((cT a1).getD ((0:Int).toNat) default).fa≥((a0.map z6).length:Int)))))]) (L:=[((0,0),.one [i6 (((cT a1).getD ((0:Int).toNat) default).fD),i6 (((cT a1).getD ((0:Int).toNat) default).fa),i6 (((cT a1).getD ((0:Int).toNat) default).fb)]),((1,0),.rows 1 (v11.map z6))]) (n:=2) ?_ ?_
  ·exact qy (M:=[((0,0),(0,0)),((1,0),(1,0))]) rfl (S2 rfl rfl (AI (VS rfl) (SP rfl (AI (VS rfl) (AI (p0 rfl (by first|rfl|omega|(simp;done)|(simp at *;omega)) rfl) (S4 rfl rfl rfl rfl TT)))))) (AI (AI rfl (OL rfl)) (AI (AI rfl (p1 z6 (fun _=>rfl) _ v11)) TT))
  refine qh (v:=((decide (((cT a1).getD ((0:Int).toNat) default).fa<0)) || (decide (((cT a1).getD ((0:Int).toNat) default).fa≥((a0.map z6).length:Int))))) rfl TT (fun h20=>?_) (fun h20=>?_)
  ·have h:=zj h20 h
   refine Y6 ?_
   refine p2 ?_ (zil h)
   exact qy (M:=[((0,0),(0,0)),((1,0),(1,0))]) rfl (S2 rfl rfl (AI (VS rfl) (SP rfl (AI (VS rfl) (AI (p0 rfl (by first|rfl|omega|(simp;done)|(simp at *;omega)) rfl) (S2 rfl rfl (AI (VS rfl) TT))))))) (AI (AI rfl (OL rfl)) (AI (AI rfl (p1 z6 (fun _=>rfl) _ v11)) TT))
  ·have h:=zm h20 h
   refine qp ?_
   refine p2 ?_ (zil h)
   exact qy (M:=[((0,0),(0,0)),((1,0),(1,0))]) rfl (S2 rfl rfl (AI (VS rfl) (SP rfl (AI (VS rfl) (AI (p0 rfl (by first|rfl|omega|(simp;done)|(simp at *;omega)) rfl) (S2 rfl rfl (AI (VS rfl) TT))))))) (AI (AI rfl (OL rfl)) (AI (AI rfl (p1 z6 (fun _=>rfl) _ v11)) TT))
 ·have h:=zm h17 h
  refine ur ?_
  obtain⟨o,hq,rfl⟩:=Option.map_eq_some_iff.1 h
  replace h:=hq;clear hq
  refine AI nofun ?_
  refine p2 ?_ (zti h)
  exact qy (M:=[]) rfl TT TT
theorem zu7{a0:List (List GR)}{a1:List GS}{a2:List GR}{m:Option Nat}{o:Bool}(h:Z4 m a0 a1 a2=some o) :
 LWp Try.prog Zv 0 (.loop zpp) (zb 0 (uw Try.prog Zv 0 zfj (zw7 a0 a1 a2 o))) [(0,.isl 1 (a0.map z6) false),(2,.isl 2 (a2.map z8) false),(7,.val (.pointer none)),(49,.isl 3 ((cT a1).map zr) false),(50,i6 (((cT a1).map zr).length:Int)),(51,i6 0)] [] 0:=
 zn (m:=m) (s:=(():Unit)) (r:=o) (fun(s:Unit)=>jn m a0 a1 a2) (z4n a0 a1 a2) (z9j a0 a1 a2) (zfo a0 a1 a2) (fun s o h=>zrk h) h
def Xs(a1:List GS)(a2:List GR)(s:((List (List GR))×Int×(List (List GR))×(List Int))):Env:=[(0,.isl 1 (s.1.map z6) false),(2,.isl 2 (a2.map z8) false),(7,.ptr (0,0) 0 0),(49,.isl 3 ((cT a1).map zr) false),(50,i6 (((cT a1).map zr).length:Int)),(51,i6 s.2.1)]
def V0(a1:List GS)(a2:List GR)(s:((List (List GR))×Int×(List (List GR))×(List Int))):AHeap:=[((0,0),.one [.msl (1,0) 1 0 s.2.2.1.length true,.msl (2,0) 1 0 s.2.2.2.length false]),((1,0),.rows 1 (s.2.2.1.map z6)),((2,0),.rows 1 (s.2.2.2.map z7))]
def Uu(a0:List (List GR))(a1:List GS)(a2:List GR)(o:Bool):Exit→Env→AHeap→Nat→Prop:=(zb 0 (uw Try.prog Zv 0 zfj (zw7 a0 a1 a2 o)))
def zy(m:Option Nat)(a1:List GS)(a2:List GR)(v49:Int)(v95:List (List GR))(v96:List Int)(v97:List (List GR))(v111:Bool):Option (((List (List GR))×Int×(List (List GR))×(List Int)) ⊕ Bool):=
 if v111=true then
  Option.map Sum.inr (
   some false)
 else
  some (.inl (v97,(W (v49+1)),v95,v96))
def zz(m:Option Nat)(a1:List GS)(a2:List GR)(v49:Int)(v92:Int)(v94:Int)(v95:List (List GR))(v96:List Int)(v97:List (List GR)):Option (((List (List GR))×Int×(List (List GR))×(List Int)) ⊕ Bool):=
 (jm m v97).bind fun v98=>
 if((v94 != v92)==false)=true then
  (kc m v95 v96).bind fun v100=>
  (if((v94 != v92)==false)=true then qz m v100 v97 else some default).bind fun v101=>
  if(((v94 != v92) || (!v101))==false)=true then
   (wg m v95 v96).bind fun v103=>
   (if(((v94 != v92) || (!v101))==false)=true then zq m v103 v98.1 else some default).bind fun v104=>
   zy m a1 a2 v49 v95 v96 v97 (((v94 != v92) || (!v101)) || (!v104))
  else
   (if(((v94 != v92) || (!v101))==false)=true then zq m [] v98.1 else some default).bind fun v105=>
   zy m a1 a2 v49 v95 v96 v97 (((v94 != v92) || (!v101)) || (!v105))
 else
  (if((v94 != v92)==false)=true then qz m [] v97 else some default).bind fun v106=>
  if(((v94 != v92) || (!v106))==false)=true then
   (wg m v95 v96).bind fun v108=>
   (if(((v94 != v92) || (!v106))==false)=true then zq m v108 v98.1 else some default).bind fun v109=>
   zy m a1 a2 v49 v95 v96 v97 (((v94 != v92) || (!v106)) || (!v109))
  else
   (if(((v94 != v92) || (!v106))==false)=true then zq m [] v98.1 else some default).bind fun v110=>
   zy m a1 a2 v49 v95 v96 v97 (((v94 != v92) || (!v106)) || (!v110))
def ze(m:Option Nat)(a1:List GS)(a2:List GR)(v48:List (List GR))(v49:Int)(v92:Int)(v93:List (List GR))(v94:Int)(v95:List (List GR))(v96:List Int):Option (((List (List GR))×Int×(List (List GR))×(List Int)) ⊕ Bool):=
 if(v92==0)=true then
  zz m a1 a2 v49 v92 v94 v95 v96 v93
 else
  zz m a1 a2 v49 v92 v94 v95 v96 v48
def y1(m:Option Nat)(a1:List GS)(a2:List GR)(v48:List (List GR))(v49:Int)(v82:List (List GR))(v89:Int×(List (List GR))×(List Int))(v90:Int):Option (((List (List GR))×Int×(List (List GR))×(List Int)) ⊕ Bool):=
 if(v90==0)=true then
  if(0:Int)≤((cT a1).getD v49.toNat default).fa∧((cT a1).getD v49.toNat default).fa<((v48.map z6).length:Int) then
  if(0:Int)≤((cT a1).getD v49.toNat default).fb∧((cT a1).getD v49.toNat default).fb≤(((v48.getD ((((cT a1).getD v49.toNat default).fa).toNat) default).map z8).length:Int) then
  if(0:Int)≤((cT a1).getD v49.toNat default).fa∧((cT a1).getD v49.toNat default).fa<((v48.map z6).length:Int) then
  if(0:Int)≤(W (((cT a1).getD v49.toNat default).fb+1))∧(W (((cT a1).getD v49.toNat default).fb+1))≤(((v48.getD ((((cT a1).getD v49.toNat default).fa).toNat) default).map z8).length:Int) then
  (qo m ((v48.getD ((((cT a1).getD v49.toNat default).fa).toNat) default).take (((cT a1).getD v49.toNat default).fb).toNat)).bind fun v91=>
  if((v91++((v48.getD ((((cT a1).getD v49.toNat default).fa).toNat) default).drop (W (((cT a1).getD v49.toNat default).fb+1)).toNat)).map z8).length*32≤140737488355328 then
  if(0:Int)≤((cT a1).getD v49.toNat default).fa∧((cT a1).getD v49.toNat default).fa<((v82.length:Nat):Int) then
  if(0+(((cT a1).getD v49.toNat default).fa).toNat)<v82.length then
  ze m a1 a2 v48 v49 v90 (v82.set (0+(((cT a1).getD v49.toNat default).fa).toNat) (v91++((v48.getD ((((cT a1).getD v49.toNat default).fa).toNat) default).drop (W (((cT a1).getD v49.toNat default).fb+1)).toNat))) v89.1 v89.2.1 v89.2.2
  else none
  else none
  else none
  else none
  else none
  else none
  else none
 else
  ze m a1 a2 v48 v49 v90 v82 v89.1 v89.2.1 v89.2.2
theorem z08{a0:List (List GR)}{a1:List GS}{a2:List GR}{v49:Int}{v95:List (List GR)}{v96:List Int}{v97:List (List GR)}{v111:Bool}{m:Option Nat}{o:(((List (List GR))×Int×(List (List GR))×(List Int)) ⊕ Bool)}(h:zy m a1 a2 v49 v95 v96 v97 v111=some o) :
 LWp Try.prog Zv 0 y0b (zb 1 (uw Try.prog Zv 0 zg0 (yi 0 3 (Xs a1 a2) (V0 a1 a2) (Uu a0 a1 a2) o))) [(0,.isl 1 (v97.map z6) false),(2,.isl 2 (a2.map z8) false),(7,.ptr (0,0) 0 0),(49,.isl 3 ((cT a1).map zr) false),(50,i6 (((cT a1).map zr).length:Int)),(51,i6 v49),(179,.bool v111)] [((0,0),.one [.msl (1,0) 1 0 v95.length true,.msl (2,0) 1 0 v96.length false]),((1,0),.rows 1 (v95.map z6)),((2,0),.rows 1 (v96.map z7))] 3:=by
 unfold zy at h
 refine qh (v:=v111) rfl TT (fun h180=>?_) (fun h180=>?_)
 ·have h:=zj h180 h
  refine SR ?_
  refine Ya ?_
  obtain⟨o,hq,rfl⟩:=Option.map_eq_some_iff.1 h
  replace h:=hq;clear hq
  refine AI nofun ?_
  cases h
  exact AI TT (AI rfl (VS rfl))
 ·have h:=zm h180 h
  refine qp ?_
  refine Y6 ?_
  cases h
  exact AI rfl (qy (M:=[((0,0),(0,0)),((1,0),(1,0)),((2,0),(2,0))]) rfl (S2 rfl rfl (SP rfl (S2 rfl rfl (AI (VS rfl) TT)))) (AI (AI rfl (p3 (AI (p0 rfl (by first|rfl|omega|(simp;done)|(simp at *;omega)) rfl) (AI (p0 rfl (by first|rfl|omega|(simp;done)|(simp at *;omega)) rfl) TT)))) (AI (AI rfl (p1 z6 (fun _=>rfl) _ v95)) (AI (AI rfl (p1 z7 (fun _=>rfl) _ v96)) TT))))
theorem zc7{a0:List (List GR)}{a1:List GS}{a2:List GR}{v49:Int}{v92:Int}{v94:Int}{v95:List (List GR)}{v96:List Int}{v97:List (List GR)}{m:Option Nat}{o:(((List (List GR))×Int×(List (List GR))×(List Int)) ⊕ Bool)}(h:zz m a1 a2 v49 v92 v94 v95 v96 v97=some o) :
 LWp Try.prog Zv 0 zzy (zb 1 (uw Try.prog Zv 0 zg0 (yi 0 3 (Xs a1 a2) (V0 a1 a2) (Uu a0 a1 a2) o))) [(0,.isl 1 (v97.map z6) false),(2,.isl 2 (a2.map z8) false),(7,.ptr (0,0) 0 0),(12,i6 v92),(14,i6 v94),(49,.isl 3 ((cT a1).map zr) false),(50,i6 (((cT a1).map zr).length:Int)),(51,i6 v49)] [((0,0),.one [.msl (1,0) 1 0 v95.length true,.msl (2,0) 1 0 v96.length false]),((1,0),.rows 1 (v95.map z6)),((2,0),.rows 1 (v96.map z7))] 3:=by
 unfold zz at h
 refine SR ?_
 obtain⟨v98,h161,h⟩:=bind_some h
 refine p4 (y0e h161) (AI (VS rfl) TT) ?_
 refine SR ?_
 refine Or.inr (AI (fun h163=>?_) (fun h164=>?_))
 ·have h:=zj h163 h
  obtain⟨v100,h165,h⟩:=bind_some h
  refine AI h163 ?_
  refine Q4 (k:=3) (m:=2) (L':=[((0,0),.one [.msl (3,0) 1 0 v95.length true,.msl (4,0) 1 0 v96.length false]),((3,0),.rows 1 (v95.map z6)),((4,0),.rows 1 (v96.map z7))]) (rest:=[]) (R':=.isl 1 (v100.map z6) false) [((0,0),(0,0)),((0,1),(1,0)),((0,2),(2,0))] (zsv h165) rfl rfl rfl (SP rfl TT) (AI (h0I (0,0) rfl rfl (p3 (AI (p0 rfl (by first|rfl|omega|(simp;done)|(simp at *;omega)) rfl) (AI (p0 rfl (by first|rfl|omega|(simp;done)|(simp at *;omega)) rfl) TT)))) (AI (h0I (1,0) rfl rfl (p1 z6 (fun _=>rfl) _ v95)) (AI (h0I (2,0) rfl rfl (p1 z7 (fun _=>rfl) _ v96)) TT))) (Zd _ rfl) (AI rfl (AI rfl (AI rfl (AI (qj z6 (fun _=>rfl) _ _) (AI rfl (AI (qj z7 (fun _=>rfl) _ _) TT)))))) rfl ?_
  obtain⟨v101,h166,h⟩:=bind_some h
  refine Or.inl (EX (.bool v101) (AI (fun hp=>AI h163 (p4 (zv3 (zj hp h166)) (S2 rfl rfl TT) (AI rfl (AI rfl rfl)))) ?_))
  refine AI (fun hp=>h163) ?_
  refine AI (fun hc=>h163) ?_
  refine Or.inr (AI (fun h168=>?_) (fun h169=>?_))
  ·have h:=zj h168 h
   obtain⟨v103,h170,h⟩:=bind_some h
   refine AI h168 ?_
   refine Q4 (k:=3) (m:=2) (L':=[((0,0),.one [.msl (6,0) 1 0 v95.length true,.msl (7,0) 1 0 v96.length false]),((6,0),.rows 1 (v95.map z6)),((7,0),.rows 1 (v96.map z7))]) (rest:=[]) (R':=.isl 1 (v103.map z7) false) [((0,0),(0,0)),((0,1),(3,0)),((0,2),(4,0))] (zia h170) rfl rfl rfl (SP rfl TT) (AI (h0I (0,0) rfl rfl (p3 (AI (p0 rfl (by first|rfl|omega|(simp;done)|(simp at *;omega)) rfl) (AI (p0 rfl (by first|rfl|omega|(simp;done)|(simp at *;omega)) rfl) TT)))) (AI (h0I (3,0) rfl rfl (p1 z6 (fun _=>rfl) _ v95)) (AI (h0I (4,0) rfl rfl (p1 z7 (fun _=>rfl) _ v96)) TT))) (Zd _ rfl) (AI rfl (AI rfl (AI rfl (AI (qj z6 (fun _=>rfl) _ _) (AI rfl (AI (qj z7 (fun _=>rfl) _ _) TT)))))) rfl ?_
   obtain⟨v104,h171,h⟩:=bind_some h
   refine Or.inl (EX (.bool v104) (AI (fun hp=>AI h168 (p4 (z4b (zj hp h171)) (S2 rfl rfl TT) (AI rfl (AI rfl rfl)))) ?_))
   refine AI (fun hp=>h168) ?_
   refine AI (fun hc=>h168) ?_
   refine p2 ?_ (z08 h)
   exact qy (M:=[((0,0),(0,0)),((1,0),(6,0)),((2,0),(7,0))]) rfl (S2 rfl rfl (SP rfl (S4 rfl rfl rfl rfl TT))) (AI (AI rfl (p3 (AI (p0 rfl (by first|rfl|omega|(simp;done)|(simp at *;omega)) rfl) (AI (p0 rfl (by first|rfl|omega|(simp;done)|(simp at *;omega)) rfl) TT)))) (AI (AI rfl (p1 z6 (fun _=>rfl) _ v95)) (AI (AI rfl (p1 z7 (fun _=>rfl) _ v96)) TT)))
  ·have h:=zm h169 h
   refine EX (.cnd (((v94 != v92) || (!v101))==false) (.isl 1 ([].map z7) false)) (AI (Or.inr (EX _ (congrArg (fun q=>AVal.cnd q _) h169))) ?_)
   obtain⟨v105,h172,h⟩:=bind_some h
   refine Or.inl (EX (.bool v105) (AI (fun hp=>AI (AI hp hp) (p4 (z4b (zj hp h172)) (S2 rfl rfl TT) (AI rfl (AI rfl rfl)))) ?_))
   refine HP ?_
   refine AI (fun hc=>(bqf hc)) ?_
   refine p2 ?_ (z08 h)
   exact qy (M:=[((0,0),(0,0)),((1,0),(3,0)),((2,0),(4,0))]) rfl (S2 rfl rfl (SP rfl (S4 rfl rfl rfl rfl TT))) (AI (AI rfl (p3 (AI (p0 rfl (by first|rfl|omega|(simp;done)|(simp at *;omega)) rfl) (AI (p0 rfl (by first|rfl|omega|(simp;done)|(simp at *;omega)) rfl) TT)))) (AI (AI rfl (p1 z6 (fun _=>rfl) _ v95)) (AI (AI rfl (p1 z7 (fun _=>rfl) _ v96)) TT)))
 ·have h:=zm h164 h
  refine EX (.cnd ((v94 != v92)==false) (.isl 1 ([].map z6) false)) (AI (Or.inr (EX _ (congrArg (fun q=>AVal.cnd q _) h164))) ?_)
  obtain⟨v106,h173,h⟩:=bind_some h
  refine Or.inl (EX (.bool v106) (AI (fun hp=>AI (AI hp hp) (p4 (zv3 (zj hp h173)) (S2 rfl rfl TT) (AI rfl (AI rfl rfl)))) ?_))
  refine HP ?_
  refine AI (fun hc=>(bqf hc)) ?_
  refine Or.inr (AI (fun h175=>?_) (fun h176=>?_))
  ·have h:=zj h175 h
   obtain⟨v108,h177,h⟩:=bind_some h
   refine AI h175 ?_
   refine Q4 (k:=3) (m:=2) (L':=[((0,0),.one [.msl (3,0) 1 0 v95.length true,.msl (4,0) 1 0 v96.length false]),((3,0),.rows 1 (v95.map z6)),((4,0),.rows 1 (v96.map z7))]) (rest:=[]) (R':=.isl 1 (v108.map z7) false) [((0,0),(0,0)),((0,1),(1,0)),((0,2),(2,0))] (zia h177) rfl rfl rfl (SP rfl TT) (AI (h0I (0,0) rfl rfl (p3 (AI (p0 rfl (by first|rfl|omega|(simp;done)|(simp at *;omega)) rfl) (AI (p0 rfl (by first|rfl|omega|(simp;done)|(simp at *;omega)) rfl) TT)))) (AI (h0I (1,0) rfl rfl (p1 z6 (fun _=>rfl) _ v95)) (AI (h0I (2,0) rfl rfl (p1 z7 (fun _=>rfl) _ v96)) TT))) (Zd _ rfl) (AI rfl (AI rfl (AI rfl (AI (qj z6 (fun _=>rfl) _ _) (AI rfl (AI (qj z7 (fun _=>rfl) _ _) TT)))))) rfl ?_
   obtain⟨v109,h178,h⟩:=bind_some h
   refine Or.inl (EX (.bool v109) (AI (fun hp=>AI h175 (p4 (z4b (zj hp h178)) (S2 rfl rfl TT) (AI rfl (AI rfl rfl)))) ?_))
   refine AI (fun hp=>h175) ?_
   refine AI (fun hc=>h175) ?_
   refine p2 ?_ (z08 h)
   exact qy (M:=[((0,0),(0,0)),((1,0),(3,0)),((2,0),(4,0))]) rfl (S2 rfl rfl (SP rfl (S4 rfl rfl rfl rfl TT))) (AI (AI rfl (p3 (AI (p0 rfl (by first|rfl|omega|(simp;done)|(simp at *;omega)) rfl) (AI (p0 rfl (by first|rfl|omega|(simp;done)|(simp at *;omega)) rfl) TT)))) (AI (AI rfl (p1 z6 (fun _=>rfl) _ v95)) (AI (AI rfl (p1 z7 (fun _=>rfl) _ v96)) TT)))
  ·have h:=zm h176 h
   refine EX (.cnd (((v94 != v92) || (!v106))==false) (.isl 1 ([].map z7) false)) (AI (Or.inr (EX _ (congrArg (fun q=>AVal.cnd q _) h176))) ?_)
   obtain⟨v110,h179,h⟩:=bind_some h
   refine Or.inl (EX (.bool v110) (AI (fun hp=>AI (AI hp hp) (p4 (z4b (zj hp h179)) (S2 rfl rfl TT) (AI rfl (AI rfl rfl)))) ?_))
   refine HP ?_
   refine AI (fun hc=>(bqf hc)) ?_
   refine p2 ?_ (z08 h)
   exact qy (M:=[((0,0),(0,0)),((1,0),(1,0)),((2,0),(2,0))]) rfl (S2 rfl rfl (SP rfl (S4 rfl rfl rfl rfl TT))) (AI (AI rfl (p3 (AI (p0 rfl (by first|rfl|omega|(simp;done)|(simp at *;omega)) rfl) (AI (p0 rfl (by first|rfl|omega|(simp;done)|(simp at *;omega)) rfl) TT)))) (AI (AI rfl (p1 z6 (fun _=>rfl) _ v95)) (AI (AI rfl (p1 z7 (fun _=>rfl) _ v96)) TT)))
theorem z0x{a0:List (List GR)}{a1:List GS}{a2:List GR}{v48:List (List GR)}{v49:Int}{v92:Int}{v93:List (List GR)}{v94:Int}{v95:List (List GR)}{v96:List Int}{m:Option Nat}{o:(((List (List GR))×Int×(List (List GR))×(List Int)) ⊕ Bool)}(h:ze m a1 a2 v48 v49 v92 v93 v94 v95 v96=some o) :
 LWp Try.prog Zv 0 zwd (zb 1 (uw Try.prog Zv 0 zg0 (yi 0 3 (Xs a1 a2) (V0 a1 a2) (Uu a0 a1 a2) o))) [(0,.isl 1 (v48.map z6) false),(2,.isl 2 (a2.map z8) false),(7,.ptr (0,0) 0 0),(12,i6 v92),(13,.msl (1,0) 1 0 v93.length false),(14,i6 v94),(49,.isl 3 ((cT a1).map zr) false),(50,i6 (((cT a1).map zr).length:Int)),(51,i6 v49)] [((0,0),.one [.msl (2,0) 1 0 v95.length true,.msl (3,0) 1 0 v96.length false]),((1,0),.rows 1 (v93.map z6)),((2,0),.rows 1 (v95.map z6)),((3,0),.rows 1 (v96.map z7))] 4:=by
 unfold ze at h
 refine xn ?_
 refine SR ?_
 refine qh (v:=(v92==0)) rfl TT (fun h160=>?_) (fun h160=>?_)
 ·have h:=zj h160 h
  refine Y6 ?_
  refine p2 ?_ (zc7 h)
  exact zy5 (n':=4) [((0,0),(0,0)),((1,0),(2,0)),((2,0),(3,0))] [(1,0)] rfl rfl (AI (Vw.frzB z6 Xd (fun h=>h) rfl rfl (by first|rfl|omega|(simp;done)|(simp at *;omega))) (AI (VS rfl) (SP rfl (S4 rfl rfl rfl rfl (AI (VS rfl) TT))))) (AI (AI rfl (p3 (AI (p0 rfl (by first|rfl|omega|(simp;done)|(simp at *;omega)) rfl) (AI (p0 rfl (by first|rfl|omega|(simp;done)|(simp at *;omega)) rfl) TT)))) (AI (AI rfl (p1 z6 (fun _=>rfl) _ v95)) (AI (AI rfl (p1 z7 (fun _=>rfl) _ v96)) TT)))
 ·have h:=zm h160 h
  refine qp ?_
  refine p2 ?_ (zc7 h)
  exact qy (M:=[((0,0),(0,0)),((1,0),(2,0)),((2,0),(3,0))]) rfl (S2 rfl rfl (SP rfl (S4 rfl rfl rfl rfl (AI (VS rfl) TT)))) (AI (AI rfl (p3 (AI (p0 rfl (by first|rfl|omega|(simp;done)|(simp at *;omega)) rfl) (AI (p0 rfl (by first|rfl|omega|(simp;done)|(simp at *;omega)) rfl) TT)))) (AI (AI rfl (p1 z6 (fun _=>rfl) _ v95)) (AI (AI rfl (p1 z7 (fun _=>rfl) _ v96)) TT)))
theorem zbf{a0:List (List GR)}{a1:List GS}{a2:List GR}{v48:List (List GR)}{v49:Int}{v82:List (List GR)}{v89:Int×(List (List GR))×(List Int)}{v90:Int}{m:Option Nat}{o:(((List (List GR))×Int×(List (List GR))×(List Int)) ⊕ Bool)}(h:y1 m a1 a2 v48 v49 v82 v89 v90=some o) :
 LWp Try.prog Zv 0 zz9 (uw Try.prog Zv 0 zwd (zb 1 (uw Try.prog Zv 0 zg0 (yi 0 3 (Xs a1 a2) (V0 a1 a2) (Uu a0 a1 a2) o)))) [(0,.isl 1 (v48.map z6) false),(2,.isl 2 (a2.map z8) false),(7,.ptr (0,0) 0 0),(11,.ptr (1,0) 0 0),(12,i6 v90),(13,.msl (2,0) 1 0 v82.length false),(14,i6 v89.1),(49,.isl 3 ((cT a1).map zr) false),(50,i6 (((cT a1).map zr).length:Int)),(51,i6 v49)] [((0,0),.one [.msl (3,0) 1 0 v89.2.1.length true,.msl (4,0) 1 0 v89.2.2.length false]),((1,0),.one [i6 (((cT a1).getD v49.toNat default).fD),i6 (((cT a1).getD v49.toNat default).fa),i6 (((cT a1).getD v49.toNat default).fb)]),((2,0),.rows 1 (v82.map z6)),((3,0),.rows 1 (v89.2.1.map z6)),((4,0),.rows 1 (v89.2.2.map z7))] 5:=by
 unfold y1 at h
 refine SR ?_
 refine qh (v:=(v90==0)) rfl TT (fun h151=>?_) (fun h151=>?_)
 ·have h:=zj h151 h
  refine z59 ?_
  obtain⟨h152,h⟩:=za h
  refine AI h152 ?_
  refine EX (z6 (v48.getD ((((cT a1).getD v49.toNat default).fa).toNat) default)) (AI (zc z6 _ _ (yj z6 h152)) (AI (AI (xv h152) (NB rfl)) ?_))
  obtain⟨h153,h⟩:=za h
  refine EX (.isl 2 (((v48.getD ((((cT a1).getD v49.toNat default).fa).toNat) default).take (((cT a1).getD v49.toNat default).fb).toNat).map z8) false) (AI (zt1 z8 (slB z8 (v48.getD ((((cT a1).getD v49.toNat default).fa).toNat) default) _) rfl) (AI (AI rfl (AI (Int.le_refl _) h153)) ?_))
  obtain⟨h154,h⟩:=za h
  refine AI h154 ?_
  refine EX (z6 (v48.getD ((((cT a1).getD v49.toNat default).fa).toNat) default)) (AI (zc z6 _ _ (yj z6 h154)) (AI (AI (xv h154) (NB rfl)) ?_))
  obtain⟨h155,h⟩:=za h
  refine EX (.isl 2 (((v48.getD ((((cT a1).getD v49.toNat default).fa).toNat) default).drop (W (((cT a1).getD v49.toNat default).fb+1)).toNat).map z8) false) (AI (zt1 z8 (slA z8 (v48.getD ((((cT a1).getD v49.toNat default).fa).toNat) default) _) rfl) (AI (AI rfl (AI (And.left h155) (AI (And.right h155) (Int.le_refl _)))) ?_))
  obtain⟨v91,h156,h⟩:=bind_some h
  refine Q4 (k:=3) (m:=1) (L':=[((5,0),.rows 2 (v91.map z8))]) (rest:=[((0,0),.one [.msl (3,0) 1 0 v89.2.1.length true,.msl (4,0) 1 0 v89.2.2.length false]),((1,0),.one [i6 (((cT a1).getD v49.toNat default).fD),i6 (((cT a1).getD v49.toNat default).fa),i6 (((cT a1).getD v49.toNat default).fb)]),((2,0),.rows 1 (v82.map z6)),((3,0),.rows 1 (v89.2.1.map z6)),((4,0),.rows 1 (v89.2.2.map z7))]) (R':=.msl (5,0) 2 0 v91.length false) [] (zik h156) rfl rfl rfl (AI (VS rfl) TT) TT rfl (AI rfl (AI (qj z8 (fun _=>rfl) _ _) TT)) rfl ?_
  refine AI rfl ?_
  refine AI (AI (AI (xv h154) (NB rfl)) (congrArg (xj false 1 0) (zc z6 _ _ (yj z6 h154)))) ?_
  refine AI rfl ?_
  refine AI rfl ?_
  obtain⟨h157,h⟩:=za h
  refine AI (fun h=>Bool.noConfusion h) (AI (zyd z8 (by first|rfl|omega|(simp;done)|(simp at *;omega))) (EX ((v91++((v48.getD ((((cT a1).getD v49.toNat default).fa).toNat) default).drop (W (((cT a1).getD v49.toNat default).fb+1)).toNat)).map z8) (AI (zzp z8 v91 ((v48.getD ((((cT a1).getD v49.toNat default).fa).toNat) default).drop (W (((cT a1).getD v49.toNat default).fb+1)).toNat) (by first|rfl|omega|(simp;done)|(simp at *;omega))) (AI h157 ?_))))
  refine AI rfl ?_
  obtain⟨h158,h⟩:=za h
  refine AI h158 ?_
  obtain⟨h159,h⟩:=za h
  refine EX (z3t z6 v82 (0+(((cT a1).getD v49.toNat default).fa).toNat) (.msl (7,0) 2 0 (((v91++((v48.getD ((((cT a1).getD v49.toNat default).fa).toNat) default).drop (W (((cT a1).getD v49.toNat default).fb+1)).toNat)).map z8).length) false)) (AI (zgt (fun _=>rfl) h159) (AI (AI rfl (AI (kv z6 h159) (NB rfl))) ?_))
  refine p2 (e:=[(0,.isl 1 (v48.map z6) false),(2,.isl 2 (a2.map z8) false),(7,.ptr (0,0) 0 0),(12,i6 v90),(13,.msl (1,0) 1 0 ((v82.set (0+(((cT a1).getD v49.toNat default).fa).toNat) (v91++((v48.getD ((((cT a1).getD v49.toNat default).fa).toNat) default).drop (W (((cT a1).getD v49.toNat default).fb+1)).toNat))).length) false),(14,i6 v89.1),(49,.isl 3 ((cT a1).map zr) false),(50,i6 (((cT a1).map zr).length:Int)),(51,i6 v49)]) (L:=[((0,0),.one [.msl (2,0) 1 0 v89.2.1.length true,.msl (3,0) 1 0 v89.2.2.length false]),((1,0),.rows 1 ((v82.set (0+(((cT a1).getD v49.toNat default).fa).toNat) (v91++((v48.getD ((((cT a1).getD v49.toNat default).fa).toNat) default).drop (W (((cT a1).getD v49.toNat default).fb+1)).toNat))).map z6)),((2,0),.rows 1 (v89.2.1.map z6)),((3,0),.rows 1 (v89.2.2.map z7))]) (n:=5) ?_ ?_
  ·exact zy5 (n':=8) [((0,0),(0,0)),((1,0),(2,0)),((2,0),(3,0)),((3,0),(4,0))] [(7,0)] rfl rfl (S2 rfl rfl (SP rfl (AI (VS rfl) (AI (p0 rfl (by first|rfl|omega|(simp;done)|(simp at *;omega)) rfl) (S4 rfl rfl rfl rfl TT))))) (AI (AI rfl (p3 (AI (p0 rfl (by first|rfl|omega|(simp;done)|(simp at *;omega)) rfl) (AI (p0 rfl (by first|rfl|omega|(simp;done)|(simp at *;omega)) rfl) TT)))) (AI (AI rfl (BVw.holeFrz Kz rfl (Vw.frzB z8 Xp (fun h=>Bool.noConfusion h) rfl rfl (by first|rfl|omega|(simp;done)|(simp at *;omega))))) (AI (AI rfl (p1 z6 (fun _=>rfl) _ v89.2.1)) (AI (AI rfl (p1 z7 (fun _=>rfl) _ v89.2.2)) TT))))
  refine p2 ?_ (z0x h)
  exact qy (M:=[((0,0),(0,0)),((1,0),(1,0)),((2,0),(2,0)),((3,0),(3,0))]) rfl (S2 rfl rfl (SP rfl (AI (VS rfl) (AI (p0 rfl (by first|rfl|omega|(simp;done)|(simp at *;omega)) rfl) (S4 rfl rfl rfl rfl TT))))) (AI (AI rfl (p3 (AI (p0 rfl (by first|rfl|omega|(simp;done)|(simp at *;omega)) rfl) (AI (p0 rfl (by first|rfl|omega|(simp;done)|(simp at *;omega)) rfl) TT)))) (AI (AI rfl (p1 z6 (fun _=>rfl) _ (v82.set (0+(((cT a1).getD v49.toNat default).fa).toNat) (v91++((v48.getD ((((cT a1).getD v49.toNat default).fa).toNat) default).drop (W (((cT a1).getD v49.toNat default).fb+1)).toNat))))) (AI (AI rfl (p1 z6 (fun _=>rfl) _ v89.2.1)) (AI (AI rfl (p1 z7 (fun _=>rfl) _ v89.2.2)) TT))))
 ·have h:=zm h151 h
  refine qp ?_
  refine p2 ?_ (z0x h)
  exact qy (M:=[((0,0),(0,0)),((1,0),(2,0)),((2,0),(3,0)),((3,0),(4,0))]) rfl (S2 rfl rfl (SP rfl (AI (VS rfl) (AI (p0 rfl (by first|rfl|omega|(simp;done)|(simp at *;omega)) rfl) (S4 rfl rfl rfl rfl TT))))) (AI (AI rfl (p3 (AI (p0 rfl (by first|rfl|omega|(simp;done)|(simp at *;omega)) rfl) (AI (p0 rfl (by first|rfl|omega|(simp;done)|(simp at *;omega)) rfl) TT)))) (AI (AI rfl (p1 z6 (fun _=>rfl) _ v82)) (AI (AI rfl (p1 z6 (fun _=>rfl) _ v89.2.1)) (AI (AI rfl (p1 z7 (fun _=>rfl) _ v89.2.2)) TT))))
def yn(m:Option Nat)(a1:List GS)(a2:List GR)(v48:List (List GR))(v49:Int)(v50:List (List GR))(v51:List Int)(v82:List (List GR))(v83:Int):Option (((List (List GR))×Int×(List (List GR))×(List Int)) ⊕ Bool):=
 (j4 m (((cT a1).getD v49.toNat default).fD) 2).bind fun v84=>
 if((v84==0)&&(decide (((a2.map z8).length:Int) > 0)))=true then
  (j4 m (((cT a1).getD v49.toNat default).fb) ((a2.map z8).length:Int)).bind fun v85=>
  if(0:Int)≤v85∧v85<((a2.map z8).length:Int) then
  (ym m (((cT a1).getD v49.toNat default).fa) (GR.mk ((a2.getD v85.toNat default).fM) ((a2.getD v85.toNat default).fA)) v50 v51).bind fun v86=>
  if(v83==0)=true then
   if(0:Int)≤((cT a1).getD v49.toNat default).fa∧((cT a1).getD v49.toNat default).fa<((v82.length:Nat):Int) then
   if(0+(((cT a1).getD v49.toNat default).fa).toNat)<v82.length then
   (qo m (v82.getD (0+(((cT a1).getD v49.toNat default).fa).toNat) default)).bind fun v87=>
   if((v87++([(GR.mk ((a2.getD v85.toNat default).fM) ((a2.getD v85.toNat default).fA))]:List GR)).map z8).length*32≤140737488355328 then
   if(0:Int)≤((cT a1).getD v49.toNat default).fa∧((cT a1).getD v49.toNat default).fa<((v82.length:Nat):Int) then
   if(0+(((cT a1).getD v49.toNat default).fa).toNat)<v82.length then
   (qc m (v82.set (0+(((cT a1).getD v49.toNat default).fa).toNat) (v87++([(GR.mk ((a2.getD v85.toNat default).fM) ((a2.getD v85.toNat default).fA))]:List GR)))).bind fun v88=>
   ze m a1 a2 v48 v49 v88 (v82.set (0+(((cT a1).getD v49.toNat default).fa).toNat) (v87++([(GR.mk ((a2.getD v85.toNat default).fM) ((a2.getD v85.toNat default).fA))]:List GR))) v86.1 v86.2.1 v86.2.2
   else none
   else none
   else none
   else none
   else none
  else
   ze m a1 a2 v48 v49 v83 v82 v86.1 v86.2.1 v86.2.2
  else none
 else
  (zp m (((cT a1).getD v49.toNat default).fa) (((cT a1).getD v49.toNat default).fb) v50 v51).bind fun v89=>
  if((((v83==0)==true)&&((decide (((cT a1).getD v49.toNat default).fb<0))==false))=true→(0:Int)≤((cT a1).getD v49.toNat default).fa∧((cT a1).getD v49.toNat default).fa<((v48.map z6).length:Int)) then
  if((v83==0)&&((decide (((cT a1).getD v49.toNat default).fb<0)) || (decide (((cT a1).getD v49.toNat default).fb≥(((v48.getD ((((cT a1).getD v49.toNat default).fa).toNat) default).map z8).length:Int)))))=true then
   y1 m a1 a2 v48 v49 v82 v89 5
  else
   y1 m a1 a2 v48 v49 v82 v89 v83
  else none
set_option maxHeartbeats 4000000 in
theorem zdj{a0:List (List GR)}{a1:List GS}{a2:List GR}{v48:List (List GR)}{v49:Int}{v50:List (List GR)}{v51:List Int}{v82:List (List GR)}{v83:Int}{m:Option Nat}{o:(((List (List GR))×Int×(List (List GR))×(List Int)) ⊕ Bool)}(h:yn m a1 a2 v48 v49 v50 v51 v82 v83=some o) :
 LWp Try.prog Zv 0 zw2 (zb 1 (uw Try.prog Zv 0 zg0 (yi 0 3 (Xs a1 a2) (V0 a1 a2) (Uu a0 a1 a2) o))) [(0,.isl 1 (v48.map z6) false),(2,.isl 2 (a2.map z8) false),(7,.ptr (0,0) 0 0),(11,.ptr (1,0) 0 0),(12,i6 v83),(13,.msl (2,0) 1 0 v82.length false),(49,.isl 3 ((cT a1).map zr) false),(50,i6 (((cT a1).map zr).length:Int)),(51,i6 v49)] [((0,0),.one [.msl (3,0) 1 0 v50.length true,.msl (4,0) 1 0 v51.length false]),((1,0),.one [i6 (((cT a1).getD v49.toNat default).fD),i6 (((cT a1).getD v49.toNat default).fa),i6 (((cT a1).getD v49.toNat default).fb)]),((2,0),.rows 1 (v82.map z6)),((3,0),.rows 1 (v50.map z6)),((4,0),.rows 1 (v51.map z7))] 5:=by
 unfold yn at h
 refine SR ?_
 refine xn ?_
 refine SR ?_
 obtain⟨v84,h135,h⟩:=bind_some h
 refine p4 (zsf h135) (S2 rfl rfl TT) ?_
 refine HP ?_
 refine HP ?_
 refine HB ?_
 refine p2 (e:=[(0,.isl 1 (v48.map z6) false),(2,.isl 2 (a2.map z8) false),(7,.ptr (0,0) 0 0),(11,.ptr (1,0) 0 0),(12,i6 v83),(13,.msl (2,0) 1 0 v82.length false),(49,.isl 3 ((cT a1).map zr) false),(50,i6 (((cT a1).map zr).length:Int)),(51,i6 v49),(75,.bool ((v84==0)&&(decide (((a2.map z8).length:Int) > 0))))]) (L:=[((0,0),.one [.msl (3,0) 1 0 v50.length true,.msl (4,0) 1 0 v51.length false]),((1,0),.one [i6 (((cT a1).getD v49.toNat default).fD),i6 (((cT a1).getD v49.toNat default).fa),i6 (((cT a1).getD v49.toNat default).fb)]),((2,0),.rows 1 (v82.map z6)),((3,0),.rows 1 (v50.map z6)),((4,0),.rows 1 (v51.map z7))]) (n:=5) ?_ ?_
 ·exact qy (M:=[((0,0),(0,0)),((1,0),(1,0)),((2,0),(2,0)),((3,0),(3,0)),((4,0),(4,0))]) rfl (S2 rfl rfl (SP rfl (SP rfl (AI (VS rfl) (AI (p0 rfl (by first|rfl|omega|(simp;done)|(simp at *;omega)) rfl) (S4 rfl rfl rfl rfl TT)))))) (AI (AI rfl (p3 (AI (p0 rfl (by first|rfl|omega|(simp;done)|(simp at *;omega)) rfl) (AI (p0 rfl (by first|rfl|omega|(simp;done)|(simp at *;omega)) rfl) TT)))) (AI (AI rfl (OL rfl)) (AI (AI rfl (p1 z6 (fun _=>rfl) _ v82)) (AI (AI rfl (p1 z6 (fun _=>rfl) _ v50)) (AI (AI rfl (p1 z7 (fun _=>rfl) _ v51)) TT)))))
 refine qh (v:=((v84==0)&&(decide (((a2.map z8).length:Int) > 0)))) rfl TT (fun h136=>?_) (fun h136=>?_)
 ·have h:=zj h136 h
  refine SR ?_
  obtain⟨v85,h137,h⟩:=bind_some h
  refine p4 (zsf h137) (S2 rfl rfl TT) ?_
  obtain⟨h138,h⟩:=za h
  refine AI h138 ?_
  refine EX (z8 (a2.getD v85.toNat default)) (AI (zc z8 _ _ (yj z8 h138)) (AI (AI (xv h138) (NB rfl)) ?_))
  refine p2 (e:=[(0,.isl 1 (v48.map z6) false),(2,.isl 2 (a2.map z8) false),(7,.ptr (0,0) 0 0),(11,.ptr (1,0) 0 0),(12,i6 v83),(13,.msl (2,0) 1 0 v82.length false),(15,.ptr (3,0) 0 0),(49,.isl 3 ((cT a1).map zr) false),(50,i6 (((cT a1).map zr).length:Int)),(51,i6 v49)]) (L:=[((0,0),.one [.msl (4,0) 1 0 v50.length true,.msl (5,0) 1 0 v51.length false]),((1,0),.one [i6 (((cT a1).getD v49.toNat default).fD),i6 (((cT a1).getD v49.toNat default).fa),i6 (((cT a1).getD v49.toNat default).fb)]),((2,0),.rows 1 (v82.map z6)),((3,0),.one [i6 ((a2.getD v85.toNat default).fM),.isl 1 (((a2.getD v85.toNat default).fA).map z7) false]),((4,0),.rows 1 (v50.map z6)),((5,0),.rows 1 (v51.map z7))]) (n:=6) ?_ ?_
  ·exact qy (M:=[((0,0),(0,0)),((1,0),(1,0)),((2,0),(2,0)),((3,0),(5,0)),((4,0),(3,0)),((5,0),(4,0))]) rfl (S2 rfl rfl (SP rfl (SP rfl (AI (VS rfl) (AI (p0 rfl (by first|rfl|omega|(simp;done)|(simp at *;omega)) rfl) (SP rfl (S2 rfl rfl (AI (VS rfl) TT)))))))) (AI (AI rfl (p3 (AI (p0 rfl (by first|rfl|omega|(simp;done)|(simp at *;omega)) rfl) (AI (p0 rfl (by first|rfl|omega|(simp;done)|(simp at *;omega)) rfl) TT)))) (AI (AI rfl (OL rfl)) (AI (AI rfl (p1 z6 (fun _=>rfl) _ v82)) (AI (AI rfl (OL rfl)) (AI (AI rfl (p1 z6 (fun _=>rfl) _ v50)) (AI (AI rfl (p1 z7 (fun _=>rfl) _ v51)) TT))))))
  refine SR ?_
  obtain⟨v86,h139,h⟩:=bind_some h
  refine Q4 (k:=3) (m:=2) (L':=[((0,0),.one [.msl (6,0) 1 0 v86.2.1.length true,.msl (7,0) 1 0 v86.2.2.length false]),((6,0),.rows 1 (v86.2.1.map z6)),((7,0),.rows 1 (v86.2.2.map z7))]) (rest:=[((1,0),.one [i6 (((cT a1).getD v49.toNat default).fD),i6 (((cT a1).getD v49.toNat default).fa),i6 (((cT a1).getD v49.toNat default).fb)]),((2,0),.rows 1 (v82.map z6)),((3,0),.one [i6 ((a2.getD v85.toNat default).fM),.isl 1 (((a2.getD v85.toNat default).fA).map z7) false])]) (R':=i6 v86.1) [((0,0),(0,0)),((0,1),(4,0)),((0,2),(5,0))] (zxd h139) rfl rfl rfl (SP rfl (S2 rfl rfl TT)) (AI (h0I (0,0) rfl rfl (p3 (AI (p0 rfl (by first|rfl|omega|(simp;done)|(simp at *;omega)) rfl) (AI (p0 rfl (by first|rfl|omega|(simp;done)|(simp at *;omega)) rfl) TT)))) (AI (h0I (4,0) rfl rfl (p1 z6 (fun _=>rfl) _ v50)) (AI (h0I (5,0) rfl rfl (p1 z7 (fun _=>rfl) _ v51)) TT))) (Zd _ rfl) (AI rfl (AI rfl (AI rfl (AI (qj z6 (fun _=>rfl) _ _) (AI rfl (AI (qj z7 (fun _=>rfl) _ _) TT)))))) rfl ?_
  refine SR ?_
  refine p2 (e:=[(0,.isl 1 (v48.map z6) false),(2,.isl 2 (a2.map z8) false),(7,.ptr (0,0) 0 0),(11,.ptr (1,0) 0 0),(12,i6 v83),(13,.msl (2,0) 1 0 v82.length false),(14,i6 v86.1),(15,.ptr (3,0) 0 0),(49,.isl 3 ((cT a1).map zr) false),(50,i6 (((cT a1).map zr).length:Int)),(51,i6 v49),(90,.bool (v83==0))]) (L:=[((0,0),.one [.msl (4,0) 1 0 v86.2.1.length true,.msl (5,0) 1 0 v86.2.2.length false]),((1,0),.one [i6 (((cT a1).getD v49.toNat default).fD),i6 (((cT a1).getD v49.toNat default).fa),i6 (((cT a1).getD v49.toNat default).fb)]),((2,0),.rows 1 (v82.map z6)),((3,0),.one [i6 ((a2.getD v85.toNat default).fM),.isl 1 (((a2.getD v85.toNat default).fA).map z7) false]),((4,0),.rows 1 (v86.2.1.map z6)),((5,0),.rows 1 (v86.2.2.map z7))]) (n:=6) ?_ ?_
  ·exact qy (M:=[((0,0),(0,0)),((1,0),(1,0)),((2,0),(2,0)),((3,0),(3,0)),((4,0),(6,0)),((5,0),(7,0))]) rfl (S2 rfl rfl (SP rfl (SP rfl (AI (VS rfl) (AI (p0 rfl (by first|rfl|omega|(simp;done)|(simp at *;omega)) rfl) (AI (VS rfl) (SP rfl (S4 rfl rfl rfl rfl TT)))))))) (AI (AI rfl (p3 (AI (p0 rfl (by first|rfl|omega|(simp;done)|(simp at *;omega)) rfl) (AI (p0 rfl (by first|rfl|omega|(simp;done)|(simp at *;omega)) rfl) TT)))) (AI (AI rfl (OL rfl)) (AI (AI rfl (p1 z6 (fun _=>rfl) _ v82)) (AI (AI rfl (OL rfl)) (AI (AI rfl (p1 z6 (fun _=>rfl) _ v86.2.1)) (AI (AI rfl (p1 z7 (fun _=>rfl) _ v86.2.2)) TT))))))
  refine qh (v:=(v83==0)) rfl TT (fun h140=>?_) (fun h140=>?_)
  ·have h:=zj h140 h
   refine xn ?_
   refine z59 ?_
   obtain⟨h141,h⟩:=za h
   refine AI h141 ?_
   obtain⟨h142,h⟩:=za h
   refine EX (z6 (v82.getD (0+(((cT a1).getD v49.toNat default).fa).toNat) default)) (AI (zc z6 _ _ h142) (AI (AI (kv z6 h142) (NB rfl)) ?_))
   obtain⟨v87,h143,h⟩:=bind_some h
   refine Q4 (k:=3) (m:=1) (L':=[((6,0),.rows 2 (v87.map z8))]) (rest:=[((0,0),.one [.msl (4,0) 1 0 v86.2.1.length true,.msl (5,0) 1 0 v86.2.2.length false]),((1,0),.one [i6 (((cT a1).getD v49.toNat default).fD),i6 (((cT a1).getD v49.toNat default).fa),i6 (((cT a1).getD v49.toNat default).fb)]),((2,0),.rows 1 (v82.map z6)),((3,0),.one [i6 ((a2.getD v85.toNat default).fM),.isl 1 (((a2.getD v85.toNat default).fA).map z7) false]),((4,0),.rows 1 (v86.2.1.map z6)),((5,0),.rows 1 (v86.2.2.map z7))]) (R':=.msl (6,0) 2 0 v87.length false) [] (zik h143) rfl rfl rfl (AI (VS rfl) TT) TT rfl (AI rfl (AI (qj z8 (fun _=>rfl) _ _) TT)) rfl ?_
   refine AI rfl ?_
   refine AI rfl ?_
   obtain⟨h144,h⟩:=za h
   refine AI (fun h=>Bool.noConfusion h) (AI (zyd z8 (by first|rfl|omega|(simp;done)|(simp at *;omega))) (EX ((v87++([(GR.mk ((a2.getD v85.toNat default).fM) ((a2.getD v85.toNat default).fA))]:List GR)).map z8) (AI (zzp z8 v87 ([(GR.mk ((a2.getD v85.toNat default).fM) ((a2.getD v85.toNat default).fA))]:List GR) (by first|rfl|omega|(simp;done)|(simp at *;omega))) (AI h144 ?_))))
   refine AI rfl ?_
   obtain⟨h145,h⟩:=za h
   refine AI h145 ?_
   obtain⟨h146,h⟩:=za h
   refine EX (z3t z6 v82 (0+(((cT a1).getD v49.toNat default).fa).toNat) (.msl (8,0) 2 0 (((v87++([(GR.mk ((a2.getD v85.toNat default).fM) ((a2.getD v85.toNat default).fA))]:List GR)).map z8).length) false)) (AI (zgt (fun _=>rfl) h146) (AI (AI rfl (AI (kv z6 h146) (NB rfl))) ?_))
   refine p2 (e:=[(0,.isl 1 (v48.map z6) false),(2,.isl 2 (a2.map z8) false),(7,.ptr (0,0) 0 0),(13,.msl (1,0) 1 0 ((v82.set (0+(((cT a1).getD v49.toNat default).fa).toNat) (v87++([(GR.mk ((a2.getD v85.toNat default).fM) ((a2.getD v85.toNat default).fA))]:List GR))).length) false),(14,i6 v86.1),(49,.isl 3 ((cT a1).map zr) false),(50,i6 (((cT a1).map zr).length:Int)),(51,i6 v49)]) (L:=[((0,0),.one [.msl (2,0) 1 0 v86.2.1.length true,.msl (3,0) 1 0 v86.2.2.length false]),((1,0),.rows 1 ((v82.set (0+(((cT a1).getD v49.toNat default).fa).toNat) (v87++([(GR.mk ((a2.getD v85.toNat default).fM) ((a2.getD v85.toNat default).fA))]:List GR))).map z6)),((2,0),.rows 1 (v86.2.1.map z6)),((3,0),.rows 1 (v86.2.2.map z7))]) (n:=5) ?_ ?_
   ·exact zy5 (n':=9) [((0,0),(0,0)),((1,0),(2,0)),((2,0),(4,0)),((3,0),(5,0))] [(8,0)] rfl rfl (S2 rfl rfl (SP rfl (AI (p0 rfl (by first|rfl|omega|(simp;done)|(simp at *;omega)) rfl) (S4 rfl rfl rfl rfl TT)))) (AI (AI rfl (p3 (AI (p0 rfl (by first|rfl|omega|(simp;done)|(simp at *;omega)) rfl) (AI (p0 rfl (by first|rfl|omega|(simp;done)|(simp at *;omega)) rfl) TT)))) (AI (AI rfl (BVw.holeFrz Kz rfl (Vw.frzB z8 Xp (fun h=>Bool.noConfusion h) rfl rfl (by first|rfl|omega|(simp;done)|(simp at *;omega))))) (AI (AI rfl (p1 z6 (fun _=>rfl) _ v86.2.1)) (AI (AI rfl (p1 z7 (fun _=>rfl) _ v86.2.2)) TT))))
   refine Y6 ?_
   obtain⟨v88,h147,h⟩:=bind_some h
   refine PFn.readB [(1,0)] (zwm h147) rfl (AI (Vw.frzB z6 Xd (fun h=>h) rfl rfl (by first|rfl|omega|(simp;done)|(simp at *;omega))) TT) ?_
   refine p2 ?_ (z0x h)
   exact qy (M:=[((0,0),(0,0)),((1,0),(1,0)),((2,0),(2,0)),((3,0),(3,0))]) rfl (S2 rfl rfl (SP rfl (AI (VS rfl) (AI (p0 rfl (by first|rfl|omega|(simp;done)|(simp at *;omega)) rfl) (S4 rfl rfl rfl rfl TT))))) (AI (AI rfl (p3 (AI (p0 rfl (by first|rfl|omega|(simp;done)|(simp at *;omega)) rfl) (AI (p0 rfl (by first|rfl|omega|(simp;done)|(simp at *;omega)) rfl) TT)))) (AI (AI rfl (p1 z6 (fun _=>rfl) _ (v82.set (0+(((cT a1).getD v49.toNat default).fa).toNat) (v87++([(GR.mk ((a2.getD v85.toNat default).fM) ((a2.getD v85.toNat default).fA))]:List GR))))) (AI (AI rfl (p1 z6 (fun _=>rfl) _ v86.2.1)) (AI (AI rfl (p1 z7 (fun _=>rfl) _ v86.2.2)) TT))))
  ·have h:=zm h140 h
   refine qp ?_
   refine p2 ?_ (z0x h)
   exact qy (M:=[((0,0),(0,0)),((1,0),(2,0)),((2,0),(4,0)),((3,0),(5,0))]) rfl (S2 rfl rfl (SP rfl (AI (VS rfl) (AI (p0 rfl (by first|rfl|omega|(simp;done)|(simp at *;omega)) rfl) (S4 rfl rfl rfl rfl TT))))) (AI (AI rfl (p3 (AI (p0 rfl (by first|rfl|omega|(simp;done)|(simp at *;omega)) rfl) (AI (p0 rfl (by first|rfl|omega|(simp;done)|(simp at *;omega)) rfl) TT)))) (AI (AI rfl (p1 z6 (fun _=>rfl) _ v82)) (AI (AI rfl (p1 z6 (fun _=>rfl) _ v86.2.1)) (AI (AI rfl (p1 z7 (fun _=>rfl) _ v86.2.2)) TT))))
 ·have h:=zm h136 h
  refine SR ?_
  obtain⟨v89,h148,h⟩:=bind_some h
  refine Q4 (k:=3) (m:=2) (L':=[((0,0),.one [.msl (5,0) 1 0 v89.2.1.length true,.msl (6,0) 1 0 v89.2.2.length false]),((5,0),.rows 1 (v89.2.1.map z6)),((6,0),.rows 1 (v89.2.2.map z7))]) (rest:=[((1,0),.one [i6 (((cT a1).getD v49.toNat default).fD),i6 (((cT a1).getD v49.toNat default).fa),i6 (((cT a1).getD v49.toNat default).fb)]),((2,0),.rows 1 (v82.map z6))]) (R':=i6 v89.1) [((0,0),(0,0)),((0,1),(3,0)),((0,2),(4,0))] (zs6 h148) rfl rfl rfl (SP rfl (S2 rfl rfl TT)) (AI (h0I (0,0) rfl rfl (p3 (AI (p0 rfl (by first|rfl|omega|(simp;done)|(simp at *;omega)) rfl) (AI (p0 rfl (by first|rfl|omega|(simp;done)|(simp at *;omega)) rfl) TT)))) (AI (h0I (3,0) rfl rfl (p1 z6 (fun _=>rfl) _ v50)) (AI (h0I (4,0) rfl rfl (p1 z7 (fun _=>rfl) _ v51)) TT))) (Zd _ rfl) (AI rfl (AI rfl (AI rfl (AI (qj z6 (fun _=>rfl) _ _) (AI rfl (AI (qj z7 (fun _=>rfl) _ _) TT)))))) rfl ?_
  refine xn ?_
  refine xn ?_
  refine zrs ?_
  refine HP ?_
  refine HP ?_
  refine HP ?_
  refine HP ?_
  refine HP ?_
  obtain⟨h149,h⟩:=za h
  refine AI (fun hp=>(AI (AI hp hp) (h149 hp))) ?_
  refine EX (z6 (v48.getD ((((cT a1).getD v49.toNat default).fa).toNat) default)) (AI (fun hp=>AI (zc z6 _ _ (yj z6 (h149 hp))) (AI hp (AI (xv (h149 hp)) (NB rfl)))) ?_)
  refine HP ?_
  refine AI (fun hp=>(AI hp hp)) ?_
  refine AI (fun hp=>(AI hp (fun hc=>(y1a hp (bqf hc))))) ?_
  refine HB ?_
  refine p2 (e:=[(0,.isl 1 (v48.map z6) false),(2,.isl 2 (a2.map z8) false),(7,.ptr (0,0) 0 0),(11,.ptr (1,0) 0 0),(12,i6 v83),(13,.msl (2,0) 1 0 v82.length false),(14,i6 v89.1),(49,.isl 3 ((cT a1).map zr) false),(50,i6 (((cT a1).map zr).length:Int)),(51,i6 v49),(129,.bool ((v83==0)&&((decide (((cT a1).getD v49.toNat default).fb<0)) || (decide (((cT a1).getD v49.toNat default).fb≥(((v48.getD ((((cT a1).getD v49.toNat default).fa).toNat) default).map z8).length:Int))))))]) (L:=[((0,0),.one [.msl (3,0) 1 0 v89.2.1.length true,.msl (4,0) 1 0 v89.2.2.length false]),((1,0),.one [i6 (((cT a1).getD v49.toNat default).fD),i6 (((cT a1).getD v49.toNat default).fa),i6 (((cT a1).getD v49.toNat default).fb)]),((2,0),.rows 1 (v82.map z6)),((3,0),.rows 1 (v89.2.1.map z6)),((4,0),.rows 1 (v89.2.2.map z7))]) (n:=5) ?_ ?_
  ·exact qy (M:=[((0,0),(0,0)),((1,0),(1,0)),((2,0),(2,0)),((3,0),(5,0)),((4,0),(6,0))]) rfl (S2 rfl rfl (SP rfl (SP rfl (AI (VS rfl) (AI (p0 rfl (by first|rfl|omega|(simp;done)|(simp at *;omega)) rfl) (S4 rfl rfl rfl rfl (AI (VS rfl) TT))))))) (AI (AI rfl (p3 (AI (p0 rfl (by first|rfl|omega|(simp;done)|(simp at *;omega)) rfl) (AI (p0 rfl (by first|rfl|omega|(simp;done)|(simp at *;omega)) rfl) TT)))) (AI (AI rfl (OL rfl)) (AI (AI rfl (p1 z6 (fun _=>rfl) _ v82)) (AI (AI rfl (p1 z6 (fun _=>rfl) _ v89.2.1)) (AI (AI rfl (p1 z7 (fun _=>rfl) _ v89.2.2)) TT)))))
  refine qh (v:=((v83==0)&&((decide (((cT a1).getD v49.toNat default).fb<0)) || (decide (((cT a1).getD v49.toNat default).fb≥(((v48.getD ((((cT a1).getD v49.toNat default).fa).toNat) default).map z8).length:Int)))))) rfl TT (fun h150=>?_) (fun h150=>?_)
  ·have h:=zj h150 h
   refine Y6 ?_
   refine p2 ?_ (zbf h)
   exact qy (M:=[((0,0),(0,0)),((1,0),(1,0)),((2,0),(2,0)),((3,0),(3,0)),((4,0),(4,0))]) rfl (S2 rfl rfl (SP rfl (SP rfl (AI (VS rfl) (AI (p0 rfl (by first|rfl|omega|(simp;done)|(simp at *;omega)) rfl) (S4 rfl rfl rfl rfl TT)))))) (AI (AI rfl (p3 (AI (p0 rfl (by first|rfl|omega|(simp;done)|(simp at *;omega)) rfl) (AI (p0 rfl (by first|rfl|omega|(simp;done)|(simp at *;omega)) rfl) TT)))) (AI (AI rfl (OL rfl)) (AI (AI rfl (p1 z6 (fun _=>rfl) _ v82)) (AI (AI rfl (p1 z6 (fun _=>rfl) _ v89.2.1)) (AI (AI rfl (p1 z7 (fun _=>rfl) _ v89.2.2)) TT)))))
  ·have h:=zm h150 h
   refine qp ?_
   refine p2 ?_ (zbf h)
   exact qy (M:=[((0,0),(0,0)),((1,0),(1,0)),((2,0),(2,0)),((3,0),(3,0)),((4,0),(4,0))]) rfl (S2 rfl rfl (SP rfl (SP rfl (AI (VS rfl) (AI (p0 rfl (by first|rfl|omega|(simp;done)|(simp at *;omega)) rfl) (S4 rfl rfl rfl rfl TT)))))) (AI (AI rfl (p3 (AI (p0 rfl (by first|rfl|omega|(simp;done)|(simp at *;omega)) rfl) (AI (p0 rfl (by first|rfl|omega|(simp;done)|(simp at *;omega)) rfl) TT)))) (AI (AI rfl (OL rfl)) (AI (AI rfl (p1 z6 (fun _=>rfl) _ v82)) (AI (AI rfl (p1 z6 (fun _=>rfl) _ v89.2.1)) (AI (AI rfl (p1 z7 (fun _=>rfl) _ v89.2.2)) TT)))))
def jf(m:Option Nat):Option Bool:=
 (y5 (some 4096)).bind fun v112=>
 some v112
def y9(m:Option Nat)(a1:List GS)(a2:List GR)(v48:List (List GR))(v49:Int)(v50:List (List GR))(v51:List Int):Option (((List (List GR))×Int×(List (List GR))×(List Int)) ⊕ Bool):=
 if(decide (v49<(((cT a1).map zr).length:Int)))=true then
  if(0:Int)≤v49∧v49<(((cT a1).map zr).length:Int) then
  (xl m v48).bind fun v82=>
  if((decide (((cT a1).getD v49.toNat default).fa<0)) || (decide (((cT a1).getD v49.toNat default).fa≥((v48.map z6).length:Int))))=true then
   yn m a1 a2 v48 v49 v50 v51 v82 1
  else
   yn m a1 a2 v48 v49 v50 v51 v82 0
  else none
 else
  Option.map Sum.inr (
   jf m)
def xe(m:Option Nat)(a1:List GS)(a2:List GR)(v48:List (List GR))(v49:Int)(v50:List (List GR))(v51:List Int):Option Bool:=kw m (fun(s:((List (List GR))×Int×(List (List GR))×(List Int)))=>y9 m a1 a2 s.1 s.2.1 s.2.2.1 s.2.2.2) (v48,v49,v50,v51)
theorem zou{a0:List (List GR)}{a1:List GS}{a2:List GR}{m:Option Nat}{o:Bool}(h:jf m=some o) :
 LWp Try.prog Zv 0 zfj (zw7 a0 a1 a2 o) [] [] 0:=by
 unfold jf at h
 refine SR ?_
 obtain⟨v112,h181,h⟩:=bind_some h
 refine p4 (znl h181) TT ?_
 refine Ya ?_
 cases h
 exact AI TT (AI rfl (VS rfl))
theorem zkv{a0:List (List GR)}{a1:List GS}{a2:List GR}{v48:List (List GR)}{v49:Int}{v50:List (List GR)}{v51:List Int}{m:Option Nat}{o:((List (List GR))×Int×(List (List GR))×(List Int)) ⊕ Bool}(h:y9 m a1 a2 v48 v49 v50 v51=some o) :
 LWp Try.prog Zv 0 zpp (yi 0 3 (Xs a1 a2) (V0 a1 a2) (Uu a0 a1 a2) o) [(0,.isl 1 (v48.map z6) false),(2,.isl 2 (a2.map z8) false),(7,.ptr (0,0) 0 0),(49,.isl 3 ((cT a1).map zr) false),(50,i6 (((cT a1).map zr).length:Int)),(51,i6 v49)] [((0,0),.one [.msl (1,0) 1 0 v50.length true,.msl (2,0) 1 0 v51.length false]),((1,0),.rows 1 (v50.map z6)),((2,0),.rows 1 (v51.map z7))] 3:=by
 unfold y9 at h
 refine SR ?_
 refine xn ?_
 refine qh (v:=(decide (v49<(((cT a1).map zr).length:Int)))) rfl TT (fun h131=>?_) (fun h131=>?_)
 ·have h:=zj h131 h
  refine qp ?_
  refine xn ?_
  refine zo ?_
  refine SR ?_
  obtain⟨h132,h⟩:=za h
  refine AI h132 ?_
  refine EX (zr ((cT a1).getD v49.toNat default)) (AI (zc zr _ _ (yj zr h132)) (AI (AI (xv h132) (NB rfl)) ?_))
  refine SR ?_
  refine SR ?_
  obtain⟨v82,h133,h⟩:=bind_some h
  refine Q4 (k:=3) (m:=1) (L':=[((4,0),.rows 1 (v82.map z6))]) (rest:=[((3,0),.one [i6 (((cT a1).getD v49.toNat default).fD),i6 (((cT a1).getD v49.toNat default).fa),i6 (((cT a1).getD v49.toNat default).fb)]),((0,0),.one [.msl (1,0) 1 0 v50.length true,.msl (2,0) 1 0 v51.length false]),((1,0),.rows 1 (v50.map z6)),((2,0),.rows 1 (v51.map z7))]) (R':=.msl (4,0) 1 0 v82.length false) [] (zoh h133) rfl rfl rfl (AI (VS rfl) TT) TT rfl (AI rfl (AI (qj z6 (fun _=>rfl) _ _) TT)) rfl ?_
  refine p2 (e:=[(0,.isl 1 (v48.map z6) false),(2,.isl 2 (a2.map z8) false),(7,.ptr (0,0) 0 0),(11,.ptr (1,0) 0 0),(12,i6 0),(13,.msl (2,0) 1 0 v82.length false),(49,.isl 3 ((cT a1).map zr) false),(50,i6 (((cT a1).map zr).length:Int)),(51,i6 v49)]) (L:=[((0,0),.one [.msl (3,0) 1 0 v50.length true,.msl (4,0) 1 0 v51.length false]),((1,0),.one [i6 (((cT a1).getD v49.toNat default).fD),i6 (((cT a1).getD v49.toNat default).fa),i6 (((cT a1).getD v49.toNat default).fb)]),((2,0),.rows 1 (v82.map z6)),((3,0),.rows 1 (v50.map z6)),((4,0),.rows 1 (v51.map z7))]) (n:=5) ?_ ?_
  ·exact qy (M:=[((0,0),(0,0)),((1,0),(3,0)),((2,0),(4,0)),((3,0),(1,0)),((4,0),(2,0))]) rfl (S2 rfl rfl (SP rfl (SP rfl (AI (VS rfl) (AI (p0 rfl (by first|rfl|omega|(simp;done)|(simp at *;omega)) rfl) (S2 rfl rfl (AI (VS rfl) TT))))))) (AI (AI rfl (p3 (AI (p0 rfl (by first|rfl|omega|(simp;done)|(simp at *;omega)) rfl) (AI (p0 rfl (by first|rfl|omega|(simp;done)|(simp at *;omega)) rfl) TT)))) (AI (AI rfl (OL rfl)) (AI (AI rfl (p1 z6 (fun _=>rfl) _ v82)) (AI (AI rfl (p1 z6 (fun _=>rfl) _ v50)) (AI (AI rfl (p1 z7 (fun _=>rfl) _ v51)) TT)))))
  refine xn ?_
  refine SR ?_
  refine HP ?_
  refine HP ?_
  refine AI (fun hp=>(AI hp hp)) ?_
  refine AI (fun hc=>(bqf hc)) ?_
  refine p2 (e:=[(0,.isl 1 (v48.map z6) false),(2,.isl 2 (a2.map z8) false),(7,.ptr (0,0) 0 0),(11,.ptr (1,0) 0 0),(12,i6 0),(13,.msl (2,0) 1 0 v82.length false),(49,.isl 3 ((cT a1).map zr) false),(50,i6 (((cT a1).map zr).length:Int)),(51,i6 v49),(66,.bool ((decide (((cT a1).getD v49.toNat default).fa<0)) || (decide (((cT a1).getD v49.toNat default).fa≥((v48.map z6).length:Int)))))]) (L:=[((0,0),.one [.msl (3,0) 1 0 v50.length true,.msl (4,0) 1 0 v51.length false]),((1,0),.one [i6 (((cT a1).getD v49.toNat default).fD),i6 (((cT a1).getD v49.toNat default).fa),i6 (((cT a1).getD v49.toNat default).fb)]),((2,0),.rows 1 (v82.map z6)),((3,0),.rows 1 (v50.map z6)),((4,0),.rows 1 (v51.map z7))]) (n:=5) ?_ ?_
  ·exact qy (M:=[((0,0),(0,0)),((1,0),(1,0)),((2,0),(2,0)),((3,0),(3,0)),((4,0),(4,0))]) rfl (S2 rfl rfl (SP rfl (SP rfl (AI (VS rfl) (AI (p0 rfl (by first|rfl|omega|(simp;done)|(simp at *;omega)) rfl) (S4 rfl rfl rfl rfl TT)))))) (AI (AI rfl (p3 (AI (p0 rfl (by first|rfl|omega|(simp;done)|(simp at *;omega)) rfl) (AI (p0 rfl (by first|rfl|omega|(simp;done)|(simp at *;omega)) rfl) TT)))) (AI (AI rfl (OL rfl)) (AI (AI rfl (p1 z6 (fun _=>rfl) _ v82)) (AI (AI rfl (p1 z6 (fun _=>rfl) _ v50)) (AI (AI rfl (p1 z7 (fun _=>rfl) _ v51)) TT)))))
  refine qh (v:=((decide (((cT a1).getD v49.toNat default).fa<0)) || (decide (((cT a1).getD v49.toNat default).fa≥((v48.map z6).length:Int))))) rfl TT (fun h134=>?_) (fun h134=>?_)
  ·have h:=zj h134 h
   refine Y6 ?_
   refine p2 ?_ (zdj h)
   exact qy (M:=[((0,0),(0,0)),((1,0),(1,0)),((2,0),(2,0)),((3,0),(3,0)),((4,0),(4,0))]) rfl (S2 rfl rfl (SP rfl (SP rfl (AI (VS rfl) (AI (p0 rfl (by first|rfl|omega|(simp;done)|(simp at *;omega)) rfl) (S2 rfl rfl (AI (VS rfl) TT))))))) (AI (AI rfl (p3 (AI (p0 rfl (by first|rfl|omega|(simp;done)|(simp at *;omega)) rfl) (AI (p0 rfl (by first|rfl|omega|(simp;done)|(simp at *;omega)) rfl) TT)))) (AI (AI rfl (OL rfl)) (AI (AI rfl (p1 z6 (fun _=>rfl) _ v82)) (AI (AI rfl (p1 z6 (fun _=>rfl) _ v50)) (AI (AI rfl (p1 z7 (fun _=>rfl) _ v51)) TT)))))
  ·have h:=zm h134 h
   refine qp ?_
   refine p2 ?_ (zdj h)
   exact qy (M:=[((0,0),(0,0)),((1,0),(1,0)),((2,0),(2,0)),((3,0),(3,0)),((4,0),(4,0))]) rfl (S2 rfl rfl (SP rfl (SP rfl (AI (VS rfl) (AI (p0 rfl (by first|rfl|omega|(simp;done)|(simp at *;omega)) rfl) (S2 rfl rfl (AI (VS rfl) TT))))))) (AI (AI rfl (p3 (AI (p0 rfl (by first|rfl|omega|(simp;done)|(simp at *;omega)) rfl) (AI (p0 rfl (by first|rfl|omega|(simp;done)|(simp at *;omega)) rfl) TT)))) (AI (AI rfl (OL rfl)) (AI (AI rfl (p1 z6 (fun _=>rfl) _ v82)) (AI (AI rfl (p1 z6 (fun _=>rfl) _ v50)) (AI (AI rfl (p1 z7 (fun _=>rfl) _ v51)) TT)))))
 ·have h:=zm h131 h
  refine ur ?_
  obtain⟨o,hq,rfl⟩:=Option.map_eq_some_iff.1 h
  replace h:=hq;clear hq
  refine AI nofun ?_
  refine p2 ?_ (zou h)
  exact qy (M:=[]) rfl TT TT
theorem zte{a0:List (List GR)}{a1:List GS}{a2:List GR}{v48:List (List GR)}{v49:Int}{v50:List (List GR)}{v51:List Int}{m:Option Nat}{o:Bool}(h:xe m a1 a2 v48 v49 v50 v51=some o) :
 LWp Try.prog Zv 0 (.loop zpp) (zb 0 (uw Try.prog Zv 0 zfj (zw7 a0 a1 a2 o))) [(0,.isl 1 (v48.map z6) false),(2,.isl 2 (a2.map z8) false),(7,.ptr (0,0) 0 0),(49,.isl 3 ((cT a1).map zr) false),(50,i6 (((cT a1).map zr).length:Int)),(51,i6 v49)] [((0,0),.one [.msl (1,0) 1 0 v50.length true,.msl (2,0) 1 0 v51.length false]),((1,0),.rows 1 (v50.map z6)),((2,0),.rows 1 (v51.map z7))] 3:=
 zn (m:=m) (s:=((v48,v49,v50,v51):((List (List GR))×Int×(List (List GR))×(List Int)))) (r:=o) (fun(s:((List (List GR))×Int×(List (List GR))×(List Int)))=>y9 m a1 a2 s.1 s.2.1 s.2.2.1 s.2.2.2) (Xs a1 a2) (V0 a1 a2) (Uu a0 a1 a2) (fun s o h=>zkv h) h
def xy(m:Option Nat)(a0:List (List GR))(a1:List GS)(a2:List GR):Option Bool:=
 (y5 (some 4096)).bind fun v1=>
 if(!v1)=true then
  some false
 else
  (kh m a0).bind fun v2=>match v2 with
  |(.inl v3)=>
   (qc m a0).bind fun v5=>
   if(v5 != 0)=true then
    (y5 (some 4096)).bind fun v6=>
    some ((v6&&(v3==v5))&&true)
   else
    if((v3 != 0) || true)=true then
     some false
    else
     if(0:Int)≤(if 15<((a1.map zr).length:Int) then 15 else((a1.map zr).length:Int))∧(if 15<((a1.map zr).length:Int) then 15 else((a1.map zr).length:Int))≤((a1.map zr).length:Int) then
     Z4 m a0 a1 a2
     else none
  |(.inr v4)=>
   (qc m a0).bind fun v16=>
   if(v16 != 0)=true then
    (y5 (some 4096)).bind fun v17=>
    some ((v17&&(v4.1==v16))&&false)
   else
    if((v4.1 != 0) || false)=true then
     some false
    else
     if(0:Int)≤(if 15<((a1.map zr).length:Int) then 15 else((a1.map zr).length:Int))∧(if 15<((a1.map zr).length:Int) then 15 else((a1.map zr).length:Int))≤((a1.map zr).length:Int) then
     xe m a1 a2 a0 0 v4.2.1 v4.2.2
     else none
theorem zuo{a0:List (List GR)}{a1:List GS}{a2:List GR}{m:Option Nat}{o:Bool}(h:xy m a0 a1 a2=some o):LWp Try.prog Zv 0 zzr (zw7 a0 a1 a2 o) (qe 0 [.isl 1 (a0.map z6) false,.isl 3 (a1.map zr) false,.isl 2 (a2.map z8) false]) [] 0:=by
 unfold xy at h
 refine SR ?_
 refine xn ?_
 refine SR ?_
 obtain⟨v1,h1,h⟩:=bind_some h
 refine p4 (znl h1) TT ?_
 refine qh (v:=(!v1)) rfl TT (fun h2=>?_) (fun h2=>?_)
 ·have h:=zj h2 h
  refine SR ?_
  refine Ya ?_
  cases h
  exact AI TT (AI rfl (VS rfl))
 ·have h:=zm h2 h
  refine qp ?_
  refine SR ?_
  obtain⟨v2,h3,h⟩:=bind_some h
  rcases v2 with v3|v4
  ·dsimp only at h
   refine Q4 (k:=3) (m:=0) (L':=[]) (rest:=[]) (R':=.tup [.val (.pointer none),i6 v3]) [] (zst h3) rfl rfl rfl (AI (VS rfl) TT) TT (Zd _ rfl) TT rfl ?_
   refine p2 (e:=[(0,.isl 1 (a0.map z6) false),(1,.isl 3 (a1.map zr) false),(2,.isl 2 (a2.map z8) false),(7,.val (.pointer none)),(8,i6 v3)]) (L:=[]) (n:=0) ?_ ?_
   ·exact qy (M:=[]) rfl (S4 rfl rfl rfl rfl (AI (VS rfl) TT)) TT
   refine xn ?_
   refine SR ?_
   obtain⟨v5,h4,h⟩:=bind_some h
   refine p4 (zwm h4) (AI (VS rfl) TT) ?_
   refine SR ?_
   refine qh (v:=(v5 != 0)) rfl TT (fun h5=>?_) (fun h5=>?_)
   ·have h:=zj h5 h
    refine SR ?_
    obtain⟨v6,h6,h⟩:=bind_some h
    refine p4 (znl h6) TT ?_
    refine AI (fun hp=>(AI hp hp)) ?_
    refine HB ?_
    refine HP ?_
    refine HB ?_
    refine p2 (e:=[(6,.bool ((v6&&(v3==v5))&&true))]) (L:=[]) (n:=0) ?_ ?_
    ·exact qy (M:=[]) rfl (AI (VS rfl) TT) TT
    refine Ya ?_
    cases h
    exact AI TT (AI rfl (VS rfl))
   ·have h:=zm h5 h
    refine qp ?_
    refine xn ?_
    refine SR ?_
    refine HP ?_
    refine AI (fun hc=>(bqf hc)) ?_
    refine p2 (e:=[(0,.isl 1 (a0.map z6) false),(1,.isl 3 (a1.map zr) false),(2,.isl 2 (a2.map z8) false),(7,.val (.pointer none)),(44,.bool ((v3 != 0) || true))]) (L:=[]) (n:=0) ?_ ?_
    ·exact qy (M:=[]) rfl (S4 rfl rfl rfl rfl (AI (VS rfl) TT)) TT
    refine qh (v:=((v3 != 0) || true)) rfl TT (fun h7=>?_) (fun h7=>?_)
    ·have h:=zj h7 h
     refine SR ?_
     refine Ya ?_
     cases h
     exact AI TT (AI rfl (VS rfl))
    ·have h:=zm h7 h
     refine qp ?_
     refine xn ?_
     refine SR ?_
     obtain⟨h8,h⟩:=za h
     refine EX (.isl 3 ((cT a1).map zr) false) (AI (zt1 zr (slB zr a1 _) rfl) (AI (AI rfl (AI (Int.le_refl _) h8)) ?_))
     refine zo ?_
     refine p2 ?_ (zu7 h)
     exact qy (M:=[]) rfl (S4 rfl rfl rfl rfl (S2 rfl rfl TT)) TT
  ·dsimp only at h
   refine Q4 (k:=3) (m:=3) (L':=[((0,0),.one [.msl (1,0) 1 0 v4.2.1.length true,.msl (2,0) 1 0 v4.2.2.length false]),((1,0),.rows 1 (v4.2.1.map z6)),((2,0),.rows 1 (v4.2.2.map z7))]) (rest:=[]) (R':=.tup [.ptr (0,0) 0 0,i6 v4.1]) [] (zs4 h3) rfl rfl rfl (AI (VS rfl) TT) TT rfl (AI rfl (AI rfl (AI rfl (AI (qj z6 (fun _=>rfl) _ _) (AI rfl (AI (qj z7 (fun _=>rfl) _ _) TT)))))) rfl ?_
   refine p2 (e:=[(0,.isl 1 (a0.map z6) false),(1,.isl 3 (a1.map zr) false),(2,.isl 2 (a2.map z8) false),(7,.ptr (0,0) 0 0),(8,i6 v4.1)]) (L:=[((0,0),.one [.msl (1,0) 1 0 v4.2.1.length true,.msl (2,0) 1 0 v4.2.2.length false]),((1,0),.rows 1 (v4.2.1.map z6)),((2,0),.rows 1 (v4.2.2.map z7))]) (n:=3) ?_ ?_
   ·exact qy (M:=[((0,0),(0,0)),((1,0),(1,0)),((2,0),(2,0))]) rfl (S2 rfl rfl (AI (VS rfl) (SP rfl (AI (VS rfl) TT)))) (AI (AI rfl (p3 (AI (p0 rfl (by first|rfl|omega|(simp;done)|(simp at *;omega)) rfl) (AI (p0 rfl (by first|rfl|omega|(simp;done)|(simp at *;omega)) rfl) TT)))) (AI (AI rfl (p1 z6 (fun _=>rfl) _ v4.2.1)) (AI (AI rfl (p1 z7 (fun _=>rfl) _ v4.2.2)) TT)))
   refine xn ?_
   refine SR ?_
   obtain⟨v16,h26,h⟩:=bind_some h
   refine p4 (zwm h26) (AI (VS rfl) TT) ?_
   refine SR ?_
   refine qh (v:=(v16 != 0)) rfl TT (fun h27=>?_) (fun h27=>?_)
   ·have h:=zj h27 h
    refine SR ?_
    obtain⟨v17,h28,h⟩:=bind_some h
    refine p4 (znl h28) TT ?_
    refine AI (fun hp=>(AI hp hp)) ?_
    refine HB ?_
    refine HP ?_
    refine HB ?_
    refine p2 (e:=[(6,.bool ((v17&&(v4.1==v16))&&false))]) (L:=[]) (n:=0) ?_ ?_
    ·exact qy (M:=[]) rfl (AI (VS rfl) TT) TT
    refine Ya ?_
    cases h
    exact AI TT (AI rfl (VS rfl))
   ·have h:=zm h27 h
    refine qp ?_
    refine xn ?_
    refine SR ?_
    refine HP ?_
    refine AI (fun hc=>(bqf hc)) ?_
    refine p2 (e:=[(0,.isl 1 (a0.map z6) false),(1,.isl 3 (a1.map zr) false),(2,.isl 2 (a2.map z8) false),(7,.ptr (0,0) 0 0),(44,.bool ((v4.1 != 0) || false))]) (L:=[((0,0),.one [.msl (1,0) 1 0 v4.2.1.length true,.msl (2,0) 1 0 v4.2.2.length false]),((1,0),.rows 1 (v4.2.1.map z6)),((2,0),.rows 1 (v4.2.2.map z7))]) (n:=3) ?_ ?_
    ·exact qy (M:=[((0,0),(0,0)),((1,0),(1,0)),((2,0),(2,0))]) rfl (S2 rfl rfl (AI (VS rfl) (SP rfl (AI (VS rfl) TT)))) (AI (AI rfl (p3 (AI (p0 rfl (by first|rfl|omega|(simp;done)|(simp at *;omega)) rfl) (AI (p0 rfl (by first|rfl|omega|(simp;done)|(simp at *;omega)) rfl) TT)))) (AI (AI rfl (p1 z6 (fun _=>rfl) _ v4.2.1)) (AI (AI rfl (p1 z7 (fun _=>rfl) _ v4.2.2)) TT)))
    refine qh (v:=((v4.1 != 0) || false)) rfl TT (fun h29=>?_) (fun h29=>?_)
    ·have h:=zj h29 h
     refine SR ?_
     refine Ya ?_
     cases h
     exact AI TT (AI rfl (VS rfl))
    ·have h:=zm h29 h
     refine qp ?_
     refine xn ?_
     refine SR ?_
     obtain⟨h30,h⟩:=za h
     refine EX (.isl 3 ((cT a1).map zr) false) (AI (zt1 zr (slB zr a1 _) rfl) (AI (AI rfl (AI (Int.le_refl _) h30)) ?_))
     refine zo ?_
     refine p2 ?_ (zte h)
     exact qy (M:=[((0,0),(0,0)),((1,0),(1,0)),((2,0),(2,0))]) rfl (S2 rfl rfl (SP rfl (S2 rfl rfl (AI (VS rfl) TT)))) (AI (AI rfl (p3 (AI (p0 rfl (by first|rfl|omega|(simp;done)|(simp at *;omega)) rfl) (AI (p0 rfl (by first|rfl|omega|(simp;done)|(simp at *;omega)) rfl) TT)))) (AI (AI rfl (p1 z6 (fun _=>rfl) _ v4.2.1)) (AI (AI rfl (p1 z7 (fun _=>rfl) _ v4.2.2)) TT)))
theorem y1l{a0:List (List GR)}{a1:List GS}{a2:List GR}{m:Option Nat}{o:Bool}(h:xy m a0 a1 a2=some o):PFn Try.prog 3 [.isl 1 (a0.map z6) false,.isl 3 (a1.map zr) false,.isl 2 (a2.map z8) false] (.bool o):=PFn.ofFnW (L:=y1q) y0f zyu (NB rfl) rfl (zuo h)
end
end Go.Proofs.Ytbohjnffcnhgeaa
