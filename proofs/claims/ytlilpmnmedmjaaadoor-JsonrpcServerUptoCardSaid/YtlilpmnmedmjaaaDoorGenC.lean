/-
  Own text GenC of this claim: what functions of the given program compute, in plain Lean, and the proof; no condition.
-/
import Derived.Test.YtlilpmnmedmjaaaDoorGenB
open Go.Fx.BVw renaming enc→p0,oneL→p2
open Go.Fx.LWp renaming sim→p4
open Option renaming map_eq_some_iff→p3,map→p5
open Go.Fx.Vw renaming mslE→p1
namespace Go.Proofs.YtlilpmnmedmjaaaDoor
noncomputable section
open Go.Fx
set_option linter.unusedVariables false
def y0t:LCode:=(.seq (.region [Qo 52 (.bin .lss (.t 51) (.t 50))])
 (.seq (.cond (.t 52)
  .skip
  (.exit 3))
 (.seq (.block 4
  (.seq (.region [Qm 53 51,
   Qm 17 53])
  (.seq (.draw [⟨Qm 54 16,[]⟩,
   ⟨Qm 55 17,[]⟩,
   ⟨Qo 56 (.iaddr 9 (.t 54) (.t 55)),[]⟩,
   ⟨Qt 57 9 56,[]⟩,
   ⟨Qm 58 6,[]⟩,
   ⟨Qo 59 (.nilck (.t 58)),[]⟩,
   ⟨Qf 60 1 59,[]⟩,
   ⟨Ql 61 1 60,[]⟩,
   ⟨Qm 62 17,[]⟩,
   ⟨Qo 63 (.iaddr 9 (.t 61) (.t 62)),[]⟩,
   ⟨Qt 64 9 63,[]⟩,
   ⟨Qo 65 (.call 13 [(.t 57),(.t 64)]),[]⟩,
   ⟨Qo 66 (.un .not (.t 65)),[]⟩])
  (.cond (.t 66)
   (.seq (.region [Qb 4])
   .ret)
   .skip))))
 (.region [Qo 67 (.bin .add (.t 51) (.c (i6 1))),
  Qm 51 67]))))
def zvt:LCode:=(.region [Qm 68 6,
 Qo 69 (.nilck (.t 68)),
 Qf 70 1 69,
 ⟨none,.store 1 (.t 70) (.c (.val (.slice none 0 0))),none⟩])
def y3n:LCode:=(.cond (.t 190)
 (.seq (.region [Qb 4])
 .ret)
 .skip)
def zrc:LCode:=(.seq (.quiet [Qf 153 1 8,
 Ql 154 1 153,
 Qo 155 (.bin .geq (.t 154) (.c (i6 0))),
 Qm 156 155,
 Qe 157 1 8 (156,true),
 Qk 158 1 157 (156,true),
 Qn 159 6 (156,true),
 Qg 160 (.nilck (.t 159)) (156,true),
 Qe 161 0 160 (156,true),
 Qk 162 1 161 (156,true),
 Qg 163 (.len false (.t 162)) (156,true),
 Qg 164 (.bin .lss (.t 158) (.t 163)) (156,true),
 Qp 165 156 164,
 Qm 166 165,
 Qn 167 6 (166,true),
 Qg 168 (.nilck (.t 167)) (166,true),
 Qe 169 0 168 (166,true),
 Qk 170 1 169 (166,true),
 Qe 171 1 8 (166,true),
 Qk 172 1 171 (166,true),
 Qg 173 (.iaddr 3 (.t 170) (.t 172)) (166,true),
 Qe 174 2 173 (166,true),
 Qk 175 1 174 (166,true),
 Qp 176 166 175,
 Qm 18 176])
 (.seq (.region [Qm 177 5,
  Qc 178 15 177,
  Qm 179 6,
  Qc 180 16 179,
  Qo 181 (.call 14 [(.t 178),(.t 180)]),
  Qo 182 (.un .not (.t 181)),
  Qm 183 182,
  Qn 184 5 (183,false),
  Qe 185 1 8 (183,false),
  Qk 186 1 185 (183,false),
  Qg 187 (.call 17 [(.t 184),(.t 186)]) (183,false),
  Qn 188 18 (183,false),
  Qg 189 (.eq true .bool (.t 187) (.t 188)) (183,false),
  Qo 190 (.pick (.t 183) (.c (.bool true)) (.t 189))])
 y3n))
def zca:LCode:=(.region [Qo 191 (.bin .add (.t 32) (.c (i6 1))),
 Qm 32 191])
def zzn:LCode:=(.seq (.region [Qo 33 (.bin .lss (.t 32) (.t 31))])
 (.seq (.cond (.t 33)
  .skip
  (.exit 0))
 (.seq (.block 1
  (.seq (.region [Qo 34 (.iaddr 3 (.t 30) (.t 32)),
   Qt 35 3 34,
   Qo 8 (.alloc [(i6 0),(i6 0),(i6 0)]),
   ⟨none,.store 3 (.t 8) (.t 35),none⟩])
  (.seq (.seq (.region [Qf 36 0 8,
   Ql 37 1 36,
   Qo 38 (.call 6 [(.t 37),(.c (i6 5))]),
   Qm 9 38])
  (.block 2
   (.seq (.region [Qm 72 9,
    Qo 73 (.bin .leq (.t 72) (.c (i6 1))),
    Qm 74 73,
    Qn 75 0 (74,true),
    Qg 76 (.len false (.t 75)) (74,true),
    Qg 77 (.bin .gtr (.t 76) (.c (i6 0))) (74,true),
    Qp 78 74 77,
    Qm 71 78])
   (.cond (.t 71)
    (.seq (.region [Qm 79 0,
     Qf 80 1 8,
     Ql 81 1 80,
     Qm 82 0,
     Qo 83 (.len false (.t 82)),
     Qo 84 (.call 6 [(.t 81),(.t 83)]),
     Qo 85 (.iaddr 9 (.t 79) (.t 84)),
     Qt 86 9 85,
     Qo 10 (.alloc [(i6 0),(i6 0),(i6 0),(.str []),(i6 0),(i6 0),(.str []),(.isl 1 [] true),(.isl 5 [] true)]),
     ⟨none,.store 9 (.t 10) (.t 86),none⟩])
    (.seq (.region [Qm 88 5,
     Qt 89 9 10,
     Qo 90 (.call 7 [(.t 88),(.t 89)]),
     Qm 87 90,
     Qo 91 (.ext 0 (.t 87)),
     Qo 92 (.ext 1 (.t 87)),
     Qo 11 (.alloc [(i6 0),(i6 0)]),
     ⟨none,.store 2 (.t 11) (.t 91),none⟩,
     Qm 12 92])
    (.seq (.region [Qm 94 6,
     Qt 95 9 10,
     Qo 96 (.call 8 [(.t 94),(.t 95)]),
     Qm 93 96,
     Qo 97 (.ext 0 (.t 93)),
     Qo 98 (.ext 1 (.t 93)),
     Qo 13 (.alloc [(i6 0),(i6 0)]),
     ⟨none,.store 2 (.t 13) (.t 97),none⟩,
     Qm 14 98])
    (.seq (.region [Qt 99 2 11,
     Qt 100 2 13,
     Qo 101 (.eq true (.agg [.int,.int]) (.t 99) (.t 100)),
     Qm 102 101,
     Qn 103 12 (102,false),
     Qn 104 14 (102,false),
     Qg 105 (.bin .neq (.t 103) (.t 104)) (102,false),
     Qo 106 (.pick (.t 102) (.c (.bool true)) (.t 105))])
    (.cond (.t 106)
     (.seq (.region [Qb 4])
     .ret)
     .skip)))))
    (.seq (.region [Qm 108 9,
     Qo 109 (.bin .eql (.t 108) (.c (i6 2))),
     Qm 110 109,
     Qn 111 0 (110,true),
     Qg 112 (.len false (.t 111)) (110,true),
     Qg 113 (.bin .gtr (.t 112) (.c (i6 0))) (110,true),
     Qp 114 110 113,
     Qm 107 114])
    (.cond (.t 107)
     (.seq (.region [Qm 115 0,
      Qf 116 2 8,
      Ql 117 1 116,
      Qm 118 0,
      Qo 119 (.len false (.t 118)),
      Qo 120 (.call 6 [(.t 117),(.t 119)]),
      Qo 121 (.iaddr 9 (.t 115) (.t 120)),
      Qf 122 4 121,
      Qt 123 5 122,
      Qo 15 (.alloc [(i6 0),(i6 0),(.str []),(.isl 1 [] true),(.isl 5 [] true)]),
      ⟨none,.store 5 (.t 15) (.t 123),none⟩])
     (.seq (.draw [⟨Qm 124 5,[]⟩,
      ⟨Qf 125 1 8,[]⟩,
      ⟨Ql 126 1 125,[]⟩,
      ⟨Qt 127 5 15,[]⟩,
      ⟨Qm 129 6,[]⟩,
      ⟨Qf 130 1 8,[]⟩,
      ⟨Ql 131 1 130,[]⟩,
      ⟨Qt 132 5 15,[]⟩,
      ⟨Qo 133 (.build [(i6 0),(i6 0),(i6 0),(.str []),(i6 0),(i6 0),(.str []),(.isl 1 [] true),(.isl 5 [] true)] [(0,1,(.c (i6 3))),(4,5,(.t 132))]),[]⟩,
      ⟨Qo 128 (.call 9 [(.t 124),(.t 126),(.t 127)]),[6,7]⟩,
      ⟨Qo 134 (.call 10 [(.t 129),(.t 131),(.t 133)]),[]⟩,
      ⟨Qo 135 (.bin .neq (.t 128) (.t 134)),[]⟩])
     (.cond (.t 135)
      (.seq (.region [Qb 4])
      .ret)
      .skip)))
     (.seq (.region [Qm 137 9,
      Qo 138 (.bin .eql (.t 137) (.c (i6 3))),
      Qm 136 138])
     (.cond (.t 136)
      (.seq (.draw [⟨Qm 139 5,[]⟩,
       ⟨Qf 140 1 8,[]⟩,
       ⟨Ql 141 1 140,[]⟩,
       ⟨Qf 142 2 8,[]⟩,
       ⟨Ql 143 1 142,[]⟩,
       ⟨Qm 145 6,[]⟩,
       ⟨Qf 146 1 8,[]⟩,
       ⟨Ql 147 1 146,[]⟩,
       ⟨Qf 148 2 8,[]⟩,
       ⟨Ql 149 1 148,[]⟩,
       ⟨Qo 150 (.build [(i6 0),(i6 0),(i6 0),(.str []),(i6 0),(i6 0),(.str []),(.isl 1 [] true),(.isl 5 [] true)] [(0,1,(.c (i6 4))),(2,1,(.t 149)),(3,1,(.c (.str [102,97,105,108,101,100])))]),[]⟩,
       ⟨Qo 144 (.call 11 [(.t 139),(.t 141),(.t 143),(.c (.str [102,97,105,108,101,100]))]),[7,9]⟩,
       ⟨Qo 151 (.call 10 [(.t 145),(.t 147),(.t 150)]),[]⟩,
       ⟨Qo 152 (.bin .neq (.t 144) (.t 151)),[]⟩])
      (.cond (.t 152)
       (.seq (.region [Qb 4])
       .ret)
       .skip))
      (.seq (.region [Qm 39 5,
       Qc 40 12 39,
       Qm 16 40])
      (.seq (.seq (.region [Qm 41 16,
       Qo 42 (.len false (.t 41)),
       Qm 43 6,
       Qo 44 (.nilck (.t 43)),
       Qf 45 1 44,
       Ql 46 1 45,
       Qo 47 (.len false (.t 46)),
       Qo 48 (.bin .neq (.t 42) (.t 47))])
      (.cond (.t 48)
       (.seq (.region [Qb 4])
       .ret)
       .skip))
      (.seq (.seq (.region [Qm 49 16,
       Qo 50 (.len false (.t 49)),
       Qi 51 0])
      (.block 3
       (.loop
        y0t)))
      zvt)))))))))))
  zrc)))
 zca)))
def zwd:LCode:=(.seq (.region [Qo 192 (.call 4 []),
 Qm 4 192])
 .ret)
def y4i:LCode:=(.seq (.region [Qb 4])
 (.seq (.seq (.region [Qo 19 (.call 4 []),
  Qo 20 (.un .not (.t 19))])
 (.cond (.t 20)
  (.seq (.region [Qb 4])
  .ret)
  .skip))
 (.seq (.region [Qo 21 (.call 5 []),
  Qo 22 (.build [(.isl 3 [] true),(.isl 9 [] true)] []),
  Qo 23 (.box (.t 22)),
  Qm 5 21,
  Qm 6 23])
 (.seq (.seq (.region [Qm 24 5,
  Qo 25 (.eq false .ptr (.t 24) (.c (.val (.pointer none))))])
 (.cond (.t 25)
  (.seq (.region [Qb 4])
  .ret)
  .skip))
 (.seq (.seq (.region [Qm 26 1,
  Qm 27 1,
  Qo 28 (.len false (.t 27)),
  Qo 29 (.mnx false [(.t 28),(.c (i6 30))]),
  Qo 30 (.slSl 3 (.t 26) none (some (.t 29)) none),
  Qo 31 (.len false (.t 30)),
  Qi 32 0])
 (.block 0
  (.loop
   zzn)))
 zwd)))))
def Zi:Lay:=⟨193,[23],false⟩
def zwz:List LRes:=[.t 4]
def y7u:LFn:=⟨2,Zi,y4i,zwz⟩
theorem y3u:wm Tryd.prog [23] 3=some y7u:=by kernel_rfl
theorem y3s:Zc Tryd.prog 3:=⟨_,Tryd.func3,rfl,rfl⟩
def y67(a0:List GM)(a1:List G_Step)(o:Bool):Exit→Env→AHeap→Nat→Prop:=Y2 zwz (vi (.bool o))
def Yx(a0:List GM)(a1:List G_Step)(s:(Int×(List G_job)×(List GM)×(List G_Job)×(List GM))):Env:=[(0,.isl 9 (a0.map z6) false),(5,.ptr (0,0) 0 0),(6,.ptr (1,0) 0 0),(30,.isl 3 ((cT a1).map y3) false),(31,i6 (((cT a1).map y3).length:Int)),(32,i6 s.1)]
def Xp(a0:List GM)(a1:List G_Step)(s:(Int×(List G_job)×(List GM)×(List G_Job)×(List GM))):AHeap:=[((0,0),.one [.msl (2,0) 3 0 s.2.1.length false,.msl (3,0) 9 0 s.2.2.1.length false]),((1,0),.one [.msl (4,0) 3 0 s.2.2.2.1.length false,.msl (5,0) 9 0 s.2.2.2.2.length false]),((2,0),.rows 3 (s.2.1.map z8)),((3,0),.rows 9 (s.2.2.1.map z6)),((4,0),.rows 3 (s.2.2.2.1.map zh)),((5,0),.rows 9 (s.2.2.2.2.map z6))]
def Wp(a0:List GM)(a1:List G_Step)(o:Bool):Exit→Env→AHeap→Nat→Prop:=(x4 0 (Yk Tryd.prog Zi 0 zwd (y67 a0 a1 o)))
def zb7(a0:List GM)(a1:List G_Step)(v27:Int)(v28:List G_job)(v30:List G_Job)(v31:List GM)(v65:(List GM))(s:Int):Env:=[(0,.isl 9 (a0.map z6) false),(5,.ptr (0,0) 0 0),(6,.ptr (1,0) 0 0),(8,.ptr (2,0) 0 0),(16,.isl 9 (v65.map z6) false),(30,.isl 3 ((cT a1).map y3) false),(31,i6 (((cT a1).map y3).length:Int)),(32,i6 v27),(50,i6 ((v65.map z6).length:Int)),(51,i6 s)]
def zgf(a0:List GM)(a1:List G_Step)(v27:Int)(v28:List G_job)(v30:List G_Job)(v31:List GM)(v65:(List GM))(s:Int):AHeap:=[((0,0),.one [.msl (3,0) 3 0 v28.length false,.msl (4,0) 9 0 (([]:List GM).length) false]),((1,0),.one [.msl (5,0) 3 0 v30.length false,.msl (6,0) 9 0 v31.length false]),((2,0),.one [i6 (((cT a1).getD v27.toNat default).f_Do),i6 (((cT a1).getD v27.toNat default).f_A),i6 (((cT a1).getD v27.toNat default).f_B)]),((3,0),.rows 3 (v28.map z8)),((4,0),.rows 9 (([]:List GM).map z6)),((5,0),.rows 3 (v30.map zh)),((6,0),.rows 9 (v31.map z6))]
def zqk(a0:List GM)(a1:List G_Step)(o:((Int×(List G_job)×(List GM)×(List G_Job)×(List GM)) ⊕ Bool)):Exit→Env→AHeap→Nat→Prop:=(x4 3 (Yk Tryd.prog Zi 0 zvt (x4 2 (Yk Tryd.prog Zi 0 zrc (x4 1 (Yk Tryd.prog Zi 0 zca (Z7 0 6 (Yx a0 a1) (Xp a0 a1) (Wp a0 a1) o)))))))
def ju(m:Option Nat)(a0:List GM)(a1:List G_Step)(v27:Int)(v70:List G_job)(v71:List GM)(v72:List G_Job)(v73:List GM):Option ((Int×(List G_job)×(List GM)×(List G_Job)×(List GM)) ⊕ Bool):=
 some (.inl ((W (v27+1)),v70,v71,v72,v73))
def yv(m:Option Nat)(a0:List GM)(a1:List G_Step)(v27:Int)(v70:List G_job)(v71:List GM)(v72:List G_Job)(v73:List GM)(v79:Bool):Option ((Int×(List G_job)×(List GM)×(List G_Job)×(List GM)) ⊕ Bool):=
 if v79=true then
  p5 Sum.inr (
   some false)
 else
  ju m a0 a1 v27 v70 v71 v72 v73
def zy(m:Option Nat)(a0:List GM)(a1:List G_Step)(v27:Int)(v70:List G_job)(v71:List GM)(v72:List G_Job)(v73:List GM):Option ((Int×(List G_job)×(List GM)×(List G_Job)×(List GM)) ⊕ Bool):=
 if((((decide (((cT a1).getD v27.toNat default).f_A≥0))&&(decide (((cT a1).getD v27.toNat default).f_A<((v72.length:Nat):Int))))==true)=true→(0:Int)≤((cT a1).getD v27.toNat default).f_A∧((cT a1).getD v27.toNat default).f_A<((v72.length:Nat):Int)) then
 if((((decide (((cT a1).getD v27.toNat default).f_A≥0))&&(decide (((cT a1).getD v27.toNat default).f_A<((v72.length:Nat):Int))))==true)=true→(0+(((cT a1).getD v27.toNat default).f_A).toNat)<v72.length) then
 (wa m v70 v71).bind fun v74=>
 (x7 m v72 v73).bind fun v75=>
 (jn m v74 v75).bind fun v76=>
 if((!v76)==false)=true then
  (xm m (((cT a1).getD v27.toNat default).f_A) v70 v71).bind fun v78=>
  yv m a0 a1 v27 v70 v71 v72 v73 ((!v76) || (!(v78==(((decide (((cT a1).getD v27.toNat default).f_A≥0))&&(decide (((cT a1).getD v27.toNat default).f_A<((v72.length:Nat):Int))))&&(v72.getD (0+(((cT a1).getD v27.toNat default).f_A).toNat) default).f_Canceled))))
 else
  yv m a0 a1 v27 v70 v71 v72 v73 ((!v76) || (!(false==(((decide (((cT a1).getD v27.toNat default).f_A≥0))&&(decide (((cT a1).getD v27.toNat default).f_A<((v72.length:Nat):Int))))&&(v72.getD (0+(((cT a1).getD v27.toNat default).f_A).toNat) default).f_Canceled))))
 else none
 else none
def wb(m:Option Nat)(a0:List GM)(a1:List G_Step)(v27:Int)(v28:List G_job)(v30:List G_Job)(v31:List GM):Option ((Int×(List G_job)×(List GM)×(List G_Job)×(List GM)) ⊕ Bool):=
 zy m a0 a1 v27 v28 ([]:List GM) v30 ([]:List GM)
def qf(m:Option Nat)(a0:List GM)(a1:List G_Step)(v27:Int)(v28:List G_job)(v30:List G_Job)(v31:List GM)(v65:(List GM))(v67:Int):Option (Int ⊕ ((Int×(List G_job)×(List GM)×(List G_Job)×(List GM)) ⊕ Bool)):=
 if(decide (v67<((v65.map z6).length:Int)))=true then
  if(0:Int)≤v67∧v67<((v65.map z6).length:Int) then
  if(0:Int)≤v67∧v67<((v31.length:Nat):Int) then
  if(0+v67.toNat)<v31.length then
  (yx m (GM.mk ((v65.getD v67.toNat default).fK) ((v65.getD v67.toNat default).fI) ((v65.getD v67.toNat default).fC) ((v65.getD v67.toNat default).fM) (GJ.mk (((v65.getD v67.toNat default).fB).fK) (((v65.getD v67.toNat default).fB).fN) (((v65.getD v67.toNat default).fB).fT) (((v65.getD v67.toNat default).fB).fA) (((v65.getD v67.toNat default).fB).fE))) (GM.mk ((v31.getD (0+v67.toNat) default).fK) ((v31.getD (0+v67.toNat) default).fI) ((v31.getD (0+v67.toNat) default).fC) ((v31.getD (0+v67.toNat) default).fM) (GJ.mk (((v31.getD (0+v67.toNat) default).fB).fK) (((v31.getD (0+v67.toNat) default).fB).fN) (((v31.getD (0+v67.toNat) default).fB).fT) (((v31.getD (0+v67.toNat) default).fB).fA) (((v31.getD (0+v67.toNat) default).fB).fE)))).bind fun v69=>
  if(!v69)=true then
   p5 Sum.inr (
    p5 Sum.inr (
     some false))
  else
   some (.inl (W (v67+1)))
  else none
  else none
  else none
 else
  p5 Sum.inr (
   wb m a0 a1 v27 v28 v30 v31)
def qe(m:Option Nat)(a0:List GM)(a1:List G_Step)(v27:Int)(v28:List G_job)(v30:List G_Job)(v31:List GM)(v65:(List GM))(v67:Int):Option ((Int×(List G_job)×(List GM)×(List G_Job)×(List GM)) ⊕ Bool):=Y5 m (fun(s:Int)=>qf m a0 a1 v27 v28 v30 v31 v65 s) v67
theorem zsc{a0:List GM}{a1:List G_Step}{v27:Int}{v70:List G_job}{v71:List GM}{v72:List G_Job}{v73:List GM}{m:Option Nat}{o:((Int×(List G_job)×(List GM)×(List G_Job)×(List GM)) ⊕ Bool)}(h:ju m a0 a1 v27 v70 v71 v72 v73=some o) :
 LWp Tryd.prog Zi 0 zca (Z7 0 6 (Yx a0 a1) (Xp a0 a1) (Wp a0 a1) o) [(0,.isl 9 (a0.map z6) false),(5,.ptr (0,0) 0 0),(6,.ptr (1,0) 0 0),(30,.isl 3 ((cT a1).map y3) false),(31,i6 (((cT a1).map y3).length:Int)),(32,i6 v27)] [((0,0),.one [.msl (2,0) 3 0 v70.length false,.msl (3,0) 9 0 v71.length false]),((1,0),.one [.msl (4,0) 3 0 v72.length false,.msl (5,0) 9 0 v73.length false]),((2,0),.rows 3 (v70.map z8)),((3,0),.rows 9 (v71.map z6)),((4,0),.rows 3 (v72.map zh)),((5,0),.rows 9 (v73.map z6))] 6:=by
 unfold ju at h
 refine J1 ?_
 cases h
 exact AI rfl (y7 (M:=[((0,0),(0,0)),((1,0),(1,0)),((2,0),(2,0)),((3,0),(3,0)),((4,0),(4,0)),((5,0),(5,0))]) rfl (AI (VS rfl) (SP rfl (SP rfl (S2 rfl rfl (AI (VS rfl) TT))))) (AI (AI rfl (p2 (AI (p1 rfl (by first|rfl|omega|(simp;done)|(simp at *;omega)) rfl) (AI (p1 rfl (by first|rfl|omega|(simp;done)|(simp at *;omega)) rfl) TT)))) (AI (AI rfl (p2 (AI (p1 rfl (by first|rfl|omega|(simp;done)|(simp at *;omega)) rfl) (AI (p1 rfl (by first|rfl|omega|(simp;done)|(simp at *;omega)) rfl) TT)))) (AI (AI rfl (p0 z8 (fun _=>rfl) _ v70)) (AI (AI rfl (p0 z6 (fun _=>rfl) _ v71)) (AI (AI rfl (p0 zh (fun _=>rfl) _ v72)) (AI (AI rfl (p0 z6 (fun _=>rfl) _ v73)) TT)))))))
theorem zbr{a0:List GM}{a1:List G_Step}{v27:Int}{v70:List G_job}{v71:List GM}{v72:List G_Job}{v73:List GM}{v79:Bool}{m:Option Nat}{o:((Int×(List G_job)×(List GM)×(List G_Job)×(List GM)) ⊕ Bool)}(h:yv m a0 a1 v27 v70 v71 v72 v73 v79=some o) :
 LWp Tryd.prog Zi 0 y3n (x4 1 (Yk Tryd.prog Zi 0 zca (Z7 0 6 (Yx a0 a1) (Xp a0 a1) (Wp a0 a1) o))) [(0,.isl 9 (a0.map z6) false),(5,.ptr (0,0) 0 0),(6,.ptr (1,0) 0 0),(30,.isl 3 ((cT a1).map y3) false),(31,i6 (((cT a1).map y3).length:Int)),(32,i6 v27),(190,.bool v79)] [((0,0),.one [.msl (2,0) 3 0 v70.length false,.msl (3,0) 9 0 v71.length false]),((1,0),.one [.msl (4,0) 3 0 v72.length false,.msl (5,0) 9 0 v73.length false]),((2,0),.rows 3 (v70.map z8)),((3,0),.rows 9 (v71.map z6)),((4,0),.rows 3 (v72.map zh)),((5,0),.rows 9 (v73.map z6))] 6:=by
 unfold yv at h
 refine y4 (v:=v79) rfl TT (fun h151=>?_) (fun h151=>?_)
 ·have h:=zd h151 h
  refine SR ?_
  refine wl ?_
  obtain⟨o,hq,rfl⟩:=p3.1 h
  replace h:=hq;clear hq
  refine AI nofun ?_
  cases h
  exact AI TT (AI rfl (VS rfl))
 ·have h:=zk h151 h
  refine x6 ?_
  refine p4 ?_ (zsc h)
  exact y7 (M:=[((0,0),(0,0)),((1,0),(1,0)),((2,0),(2,0)),((3,0),(3,0)),((4,0),(4,0)),((5,0),(5,0))]) rfl (AI (VS rfl) (SP rfl (SP rfl (S2 rfl rfl (AI (VS rfl) TT))))) (AI (AI rfl (p2 (AI (p1 rfl (by first|rfl|omega|(simp;done)|(simp at *;omega)) rfl) (AI (p1 rfl (by first|rfl|omega|(simp;done)|(simp at *;omega)) rfl) TT)))) (AI (AI rfl (p2 (AI (p1 rfl (by first|rfl|omega|(simp;done)|(simp at *;omega)) rfl) (AI (p1 rfl (by first|rfl|omega|(simp;done)|(simp at *;omega)) rfl) TT)))) (AI (AI rfl (p0 z8 (fun _=>rfl) _ v70)) (AI (AI rfl (p0 z6 (fun _=>rfl) _ v71)) (AI (AI rfl (p0 zh (fun _=>rfl) _ v72)) (AI (AI rfl (p0 z6 (fun _=>rfl) _ v73)) TT))))))
set_option maxHeartbeats 4000000 in
theorem Uk{a0:List GM}{a1:List G_Step}{v27:Int}{v70:List G_job}{v71:List GM}{v72:List G_Job}{v73:List GM}{m:Option Nat}{o:((Int×(List G_job)×(List GM)×(List G_Job)×(List GM)) ⊕ Bool)}(h:zy m a0 a1 v27 v70 v71 v72 v73=some o) :
 LWp Tryd.prog Zi 0 zrc (x4 1 (Yk Tryd.prog Zi 0 zca (Z7 0 6 (Yx a0 a1) (Xp a0 a1) (Wp a0 a1) o))) [(0,.isl 9 (a0.map z6) false),(5,.ptr (0,0) 0 0),(6,.ptr (1,0) 0 0),(8,.ptr (2,0) 0 0),(30,.isl 3 ((cT a1).map y3) false),(31,i6 (((cT a1).map y3).length:Int)),(32,i6 v27)] [((0,0),.one [.msl (3,0) 3 0 v70.length false,.msl (4,0) 9 0 v71.length false]),((1,0),.one [.msl (5,0) 3 0 v72.length false,.msl (6,0) 9 0 v73.length false]),((2,0),.one [i6 (((cT a1).getD v27.toNat default).f_Do),i6 (((cT a1).getD v27.toNat default).f_A),i6 (((cT a1).getD v27.toNat default).f_B)]),((3,0),.rows 3 (v70.map z8)),((4,0),.rows 9 (v71.map z6)),((5,0),.rows 3 (v72.map zh)),((6,0),.rows 9 (v73.map z6))] 7:=by
 unfold zy at h
 refine wn ?_
 refine y5p ?_
 refine HP ?_
 refine HP ?_
 refine HP ?_
 refine HP ?_
 refine HP ?_
 refine AI (fun hp=>(AI hp hp)) ?_
 refine HB ?_
 refine HP ?_
 refine HP ?_
 refine HP ?_
 refine HP ?_
 obtain⟨h142,h⟩:=zj h
 refine AI (fun hp=>(AI (AI hp hp) (h142 hp))) ?_
 refine HP ?_
 obtain⟨h143,h⟩:=zj h
 refine EX (zh (v72.getD (0+(((cT a1).getD v27.toNat default).f_A).toNat) default)) (AI (fun hp=>AI (jx zh _ _ (h143 hp)) (AI hp (AI (Yc zh (h143 hp)) (NB rfl)))) ?_)
 refine HB ?_
 refine p4 (e:=[(0,.isl 9 (a0.map z6) false),(5,.ptr (0,0) 0 0),(6,.ptr (1,0) 0 0),(8,.ptr (2,0) 0 0),(18,.bool (((decide (((cT a1).getD v27.toNat default).f_A≥0))&&(decide (((cT a1).getD v27.toNat default).f_A<((v72.length:Nat):Int))))&&(v72.getD (0+(((cT a1).getD v27.toNat default).f_A).toNat) default).f_Canceled)),(30,.isl 3 ((cT a1).map y3) false),(31,i6 (((cT a1).map y3).length:Int)),(32,i6 v27)]) (L:=[((0,0),.one [.msl (3,0) 3 0 v70.length false,.msl (4,0) 9 0 v71.length false]),((1,0),.one [.msl (5,0) 3 0 v72.length false,.msl (6,0) 9 0 v73.length false]),((2,0),.one [i6 (((cT a1).getD v27.toNat default).f_Do),i6 (((cT a1).getD v27.toNat default).f_A),i6 (((cT a1).getD v27.toNat default).f_B)]),((3,0),.rows 3 (v70.map z8)),((4,0),.rows 9 (v71.map z6)),((5,0),.rows 3 (v72.map zh)),((6,0),.rows 9 (v73.map z6))]) (n:=7) ?_ ?_
 ·exact y7 (M:=[((0,0),(0,0)),((1,0),(1,0)),((2,0),(2,0)),((3,0),(3,0)),((4,0),(4,0)),((5,0),(5,0)),((6,0),(6,0))]) rfl (AI (VS rfl) (SP rfl (SP rfl (SP rfl (S4 rfl rfl rfl rfl TT))))) (AI (AI rfl (p2 (AI (p1 rfl (by first|rfl|omega|(simp;done)|(simp at *;omega)) rfl) (AI (p1 rfl (by first|rfl|omega|(simp;done)|(simp at *;omega)) rfl) TT)))) (AI (AI rfl (p2 (AI (p1 rfl (by first|rfl|omega|(simp;done)|(simp at *;omega)) rfl) (AI (p1 rfl (by first|rfl|omega|(simp;done)|(simp at *;omega)) rfl) TT)))) (AI (AI rfl (OL rfl)) (AI (AI rfl (p0 z8 (fun _=>rfl) _ v70)) (AI (AI rfl (p0 z6 (fun _=>rfl) _ v71)) (AI (AI rfl (p0 zh (fun _=>rfl) _ v72)) (AI (AI rfl (p0 z6 (fun _=>rfl) _ v73)) TT)))))))
 refine SR ?_
 obtain⟨v74,h144,h⟩:=bind_some h
 refine Z2 (k:=3) (m:=2) (L':=[((0,0),.one [.msl (7,0) 3 0 v70.length false,.msl (8,0) 9 0 v71.length false]),((7,0),.rows 3 (v70.map z8)),((8,0),.rows 9 (v71.map z6))]) (rest:=[((1,0),.one [.msl (5,0) 3 0 v72.length false,.msl (6,0) 9 0 v73.length false]),((2,0),.one [i6 (((cT a1).getD v27.toNat default).f_Do),i6 (((cT a1).getD v27.toNat default).f_A),i6 (((cT a1).getD v27.toNat default).f_B)]),((5,0),.rows 3 (v72.map zh)),((6,0),.rows 9 (v73.map z6))]) (R':=.isl 1 (v74.map ww) false) [((0,0),(0,0)),((0,1),(3,0)),((0,2),(4,0))] (zht h144) rfl rfl rfl (SP rfl TT) (AI (h0I (0,0) rfl rfl (p2 (AI (p1 rfl (by first|rfl|omega|(simp;done)|(simp at *;omega)) rfl) (AI (p1 rfl (by first|rfl|omega|(simp;done)|(simp at *;omega)) rfl) TT)))) (AI (h0I (3,0) rfl rfl (p0 z8 (fun _=>rfl) _ v70)) (AI (h0I (4,0) rfl rfl (p0 z6 (fun _=>rfl) _ v71)) TT))) (xl _ rfl) (AI rfl (AI rfl (AI rfl (AI (yf z8 (fun _=>rfl) _ _) (AI rfl (AI (yf z6 (fun _=>rfl) _ _) TT)))))) rfl ?_
 obtain⟨v75,h145,h⟩:=bind_some h
 refine Z2 (k:=3) (m:=2) (L':=[((1,0),.one [.msl (10,0) 3 0 v72.length false,.msl (11,0) 9 0 v73.length false]),((10,0),.rows 3 (v72.map zh)),((11,0),.rows 9 (v73.map z6))]) (rest:=[((0,0),.one [.msl (7,0) 3 0 v70.length false,.msl (8,0) 9 0 v71.length false]),((7,0),.rows 3 (v70.map z8)),((8,0),.rows 9 (v71.map z6)),((2,0),.one [i6 (((cT a1).getD v27.toNat default).f_Do),i6 (((cT a1).getD v27.toNat default).f_A),i6 (((cT a1).getD v27.toNat default).f_B)])]) (R':=.isl 1 (v75.map ww) false) [((0,0),(1,0)),((0,1),(5,0)),((0,2),(6,0))] (zhs h145) rfl rfl rfl (SP rfl TT) (AI (h0I (1,0) rfl rfl (p2 (AI (p1 rfl (by first|rfl|omega|(simp;done)|(simp at *;omega)) rfl) (AI (p1 rfl (by first|rfl|omega|(simp;done)|(simp at *;omega)) rfl) TT)))) (AI (h0I (5,0) rfl rfl (p0 zh (fun _=>rfl) _ v72)) (AI (h0I (6,0) rfl rfl (p0 z6 (fun _=>rfl) _ v73)) TT))) (xl _ rfl) (AI rfl (AI rfl (AI rfl (AI (yf zh (fun _=>rfl) _ _) (AI rfl (AI (yf z6 (fun _=>rfl) _ _) TT)))))) rfl ?_
 obtain⟨v76,h146,h⟩:=bind_some h
 refine PFn.call (y4q h146) (S2 rfl rfl TT) ?_
 refine HP ?_
 refine Or.inr (AI (fun h148=>?_) (fun h149=>?_))
 ·have h:=zd h148 h
  obtain⟨v78,h150,h⟩:=bind_some h
  refine AI (AI h148 h148) ?_
  refine Z2 (k:=3) (m:=2) (L':=[((0,0),.one [.msl (13,0) 3 0 v70.length false,.msl (14,0) 9 0 v71.length false]),((13,0),.rows 3 (v70.map z8)),((14,0),.rows 9 (v71.map z6))]) (rest:=[((1,0),.one [.msl (10,0) 3 0 v72.length false,.msl (11,0) 9 0 v73.length false]),((10,0),.rows 3 (v72.map zh)),((11,0),.rows 9 (v73.map z6)),((2,0),.one [i6 (((cT a1).getD v27.toNat default).f_Do),i6 (((cT a1).getD v27.toNat default).f_A),i6 (((cT a1).getD v27.toNat default).f_B)])]) (R':=.bool v78) [((0,0),(0,0)),((0,1),(7,0)),((0,2),(8,0))] (zuf h150) rfl rfl rfl (SP rfl (AI (VS rfl) TT)) (AI (h0I (0,0) rfl rfl (p2 (AI (p1 rfl (by first|rfl|omega|(simp;done)|(simp at *;omega)) rfl) (AI (p1 rfl (by first|rfl|omega|(simp;done)|(simp at *;omega)) rfl) TT)))) (AI (h0I (7,0) rfl rfl (p0 z8 (fun _=>rfl) _ v70)) (AI (h0I (8,0) rfl rfl (p0 z6 (fun _=>rfl) _ v71)) TT))) (xl _ rfl) (AI rfl (AI rfl (AI rfl (AI (yf z8 (fun _=>rfl) _ _) (AI rfl (AI (yf z6 (fun _=>rfl) _ _) TT)))))) rfl ?_
  refine AI (fun hp=>h148) ?_
  refine AI (fun hc=>h148) ?_
  refine p4 ?_ (zbr h)
  exact y7 (M:=[((0,0),(0,0)),((1,0),(1,0)),((2,0),(13,0)),((3,0),(14,0)),((4,0),(10,0)),((5,0),(11,0))]) rfl (AI (VS rfl) (SP rfl (SP rfl (S4 rfl rfl rfl rfl TT)))) (AI (AI rfl (p2 (AI (p1 rfl (by first|rfl|omega|(simp;done)|(simp at *;omega)) rfl) (AI (p1 rfl (by first|rfl|omega|(simp;done)|(simp at *;omega)) rfl) TT)))) (AI (AI rfl (p2 (AI (p1 rfl (by first|rfl|omega|(simp;done)|(simp at *;omega)) rfl) (AI (p1 rfl (by first|rfl|omega|(simp;done)|(simp at *;omega)) rfl) TT)))) (AI (AI rfl (p0 z8 (fun _=>rfl) _ v70)) (AI (AI rfl (p0 z6 (fun _=>rfl) _ v71)) (AI (AI rfl (p0 zh (fun _=>rfl) _ v72)) (AI (AI rfl (p0 z6 (fun _=>rfl) _ v73)) TT))))))
 ·have h:=zk h149 h
  refine EX (.cnd ((!v76)==false) (.bool false)) (AI (Or.inr (EX _ (congrArg (fun q=>AVal.cnd q _) h149))) ?_)
  refine AI (fun hp=>(AI hp hp)) ?_
  refine AI (fun hc=>(bqf hc)) ?_
  refine p4 ?_ (zbr h)
  exact y7 (M:=[((0,0),(0,0)),((1,0),(1,0)),((2,0),(7,0)),((3,0),(8,0)),((4,0),(10,0)),((5,0),(11,0))]) rfl (AI (VS rfl) (SP rfl (SP rfl (S4 rfl rfl rfl rfl TT)))) (AI (AI rfl (p2 (AI (p1 rfl (by first|rfl|omega|(simp;done)|(simp at *;omega)) rfl) (AI (p1 rfl (by first|rfl|omega|(simp;done)|(simp at *;omega)) rfl) TT)))) (AI (AI rfl (p2 (AI (p1 rfl (by first|rfl|omega|(simp;done)|(simp at *;omega)) rfl) (AI (p1 rfl (by first|rfl|omega|(simp;done)|(simp at *;omega)) rfl) TT)))) (AI (AI rfl (p0 z8 (fun _=>rfl) _ v70)) (AI (AI rfl (p0 z6 (fun _=>rfl) _ v71)) (AI (AI rfl (p0 zh (fun _=>rfl) _ v72)) (AI (AI rfl (p0 z6 (fun _=>rfl) _ v73)) TT))))))
theorem zvn{a0:List GM}{a1:List G_Step}{v27:Int}{v28:List G_job}{v30:List G_Job}{v31:List GM}{m:Option Nat}{o:((Int×(List G_job)×(List GM)×(List G_Job)×(List GM)) ⊕ Bool)}(h:wb m a0 a1 v27 v28 v30 v31=some o) :
 LWp Tryd.prog Zi 0 zvt (x4 2 (Yk Tryd.prog Zi 0 zrc (x4 1 (Yk Tryd.prog Zi 0 zca (Z7 0 6 (Yx a0 a1) (Xp a0 a1) (Wp a0 a1) o))))) [(0,.isl 9 (a0.map z6) false),(5,.ptr (0,0) 0 0),(6,.ptr (1,0) 0 0),(8,.ptr (2,0) 0 0),(30,.isl 3 ((cT a1).map y3) false),(31,i6 (((cT a1).map y3).length:Int)),(32,i6 v27)] [((0,0),.one [.msl (3,0) 3 0 v28.length false,.msl (4,0) 9 0 (([]:List GM).length) false]),((1,0),.one [.msl (5,0) 3 0 v30.length false,.msl (6,0) 9 0 v31.length false]),((2,0),.one [i6 (((cT a1).getD v27.toNat default).f_Do),i6 (((cT a1).getD v27.toNat default).f_A),i6 (((cT a1).getD v27.toNat default).f_B)]),((3,0),.rows 3 (v28.map z8)),((4,0),.rows 9 (([]:List GM).map z6)),((5,0),.rows 3 (v30.map zh)),((6,0),.rows 9 (v31.map z6))] 7:=by
 unfold wb at h
 refine J1 ?_
 refine LWp.ghost 9 ?_
 refine p4 (e:=[(0,.isl 9 (a0.map z6) false),(5,.ptr (0,0) 0 0),(6,.ptr (1,0) 0 0),(8,.ptr (2,0) 0 0),(30,.isl 3 ((cT a1).map y3) false),(31,i6 (((cT a1).map y3).length:Int)),(32,i6 v27)]) (L:=[((0,0),.one [.msl (3,0) 3 0 v28.length false,.msl (4,0) 9 0 (([]:List GM).length) false]),((1,0),.one [.msl (5,0) 3 0 v30.length false,.msl (6,0) 9 0 (([]:List GM).length) false]),((2,0),.one [i6 (((cT a1).getD v27.toNat default).f_Do),i6 (((cT a1).getD v27.toNat default).f_A),i6 (((cT a1).getD v27.toNat default).f_B)]),((3,0),.rows 3 (v28.map z8)),((4,0),.rows 9 (([]:List GM).map z6)),((5,0),.rows 3 (v30.map zh)),((6,0),.rows 9 (([]:List GM).map z6))]) (n:=7) ?_ ?_
 ·exact y7 (M:=[((0,0),(0,0)),((1,0),(1,0)),((2,0),(2,0)),((3,0),(3,0)),((4,0),(4,0)),((5,0),(5,0)),((6,0),(7,0))]) rfl (AI (VS rfl) (SP rfl (SP rfl (SP rfl (S2 rfl rfl (AI (VS rfl) TT)))))) (AI (AI rfl (p2 (AI (p1 rfl (by first|rfl|omega|(simp;done)|(simp at *;omega)) rfl) (AI (p1 rfl (by first|rfl|omega|(simp;done)|(simp at *;omega)) rfl) TT)))) (AI (AI rfl (p2 (AI (p1 rfl (by first|rfl|omega|(simp;done)|(simp at *;omega)) rfl) (AI (Vw.nilM _ _ _ _ _ _ rfl rfl) TT)))) (AI (AI rfl (OL rfl)) (AI (AI rfl (p0 z8 (fun _=>rfl) _ v28)) (AI (AI rfl (p0 z6 (fun _=>rfl) _ ([]:List GM))) (AI (AI rfl (p0 zh (fun _=>rfl) _ v30)) (AI (AI rfl (p0 z6 (fun _=>rfl) _ ([]:List GM))) TT)))))))
 refine p4 ?_ (Uk h)
 exact y7 (M:=[((0,0),(0,0)),((1,0),(1,0)),((2,0),(2,0)),((3,0),(3,0)),((4,0),(4,0)),((5,0),(5,0)),((6,0),(6,0))]) rfl (AI (VS rfl) (SP rfl (SP rfl (SP rfl (S2 rfl rfl (AI (VS rfl) TT)))))) (AI (AI rfl (p2 (AI (p1 rfl (by first|rfl|omega|(simp;done)|(simp at *;omega)) rfl) (AI (p1 rfl (by first|rfl|omega|(simp;done)|(simp at *;omega)) rfl) TT)))) (AI (AI rfl (p2 (AI (p1 rfl (by first|rfl|omega|(simp;done)|(simp at *;omega)) rfl) (AI (p1 rfl (by first|rfl|omega|(simp;done)|(simp at *;omega)) rfl) TT)))) (AI (AI rfl (OL rfl)) (AI (AI rfl (p0 z8 (fun _=>rfl) _ v28)) (AI (AI rfl (p0 z6 (fun _=>rfl) _ ([]:List GM))) (AI (AI rfl (p0 zh (fun _=>rfl) _ v30)) (AI (AI rfl (p0 z6 (fun _=>rfl) _ ([]:List GM))) TT)))))))
theorem zqp{a0:List GM}{a1:List G_Step}{v27:Int}{v28:List G_job}{v30:List G_Job}{v31:List GM}{v65:(List GM)}{v67:Int}{m:Option Nat}{o:Int ⊕ ((Int×(List G_job)×(List GM)×(List G_Job)×(List GM)) ⊕ Bool)}(h:qf m a0 a1 v27 v28 v30 v31 v65 v67=some o) :
 LWp Tryd.prog Zi 0 y0t (Z7 0 7 (zb7 a0 a1 v27 v28 v30 v31 v65) (zgf a0 a1 v27 v28 v30 v31 v65) (zqk a0 a1) o) [(0,.isl 9 (a0.map z6) false),(5,.ptr (0,0) 0 0),(6,.ptr (1,0) 0 0),(8,.ptr (2,0) 0 0),(16,.isl 9 (v65.map z6) false),(30,.isl 3 ((cT a1).map y3) false),(31,i6 (((cT a1).map y3).length:Int)),(32,i6 v27),(50,i6 ((v65.map z6).length:Int)),(51,i6 v67)] [((0,0),.one [.msl (3,0) 3 0 v28.length false,.msl (4,0) 9 0 (([]:List GM).length) false]),((1,0),.one [.msl (5,0) 3 0 v30.length false,.msl (6,0) 9 0 v31.length false]),((2,0),.one [i6 (((cT a1).getD v27.toNat default).f_Do),i6 (((cT a1).getD v27.toNat default).f_A),i6 (((cT a1).getD v27.toNat default).f_B)]),((3,0),.rows 3 (v28.map z8)),((4,0),.rows 9 (([]:List GM).map z6)),((5,0),.rows 3 (v30.map zh)),((6,0),.rows 9 (v31.map z6))] 7:=by
 unfold qf at h
 refine SR ?_
 refine wn ?_
 refine y4 (v:=(decide (v67<((v65.map z6).length:Int)))) rfl TT (fun h136=>?_) (fun h136=>?_)
 ·have h:=zd h136 h
  refine x6 ?_
  refine wn ?_
  refine xk ?_
  refine SR ?_
  refine wn ?_
  refine zdz rfl ?_
  obtain⟨h137,h⟩:=zj h
  refine AI h137 ?_
  refine EX (z6 (v65.getD v67.toNat default)) (AI (jx z6 _ _ (uz z6 h137)) (AI (AI (Y1 h137) (NB rfl)) ?_))
  obtain⟨h138,h⟩:=zj h
  refine AI h138 ?_
  obtain⟨h139,h⟩:=zj h
  refine EX (z6 (v31.getD (0+v67.toNat) default)) (AI (jx z6 _ _ h139) (AI (AI (Yc z6 h139) (NB rfl)) ?_))
  obtain⟨v69,h140,h⟩:=bind_some h
  refine PFn.call (y3q h140) (S2 rfl rfl TT) ?_
  refine p4 (e:=[(0,.isl 9 (a0.map z6) false),(5,.ptr (0,0) 0 0),(6,.ptr (1,0) 0 0),(8,.ptr (2,0) 0 0),(16,.isl 9 (v65.map z6) false),(30,.isl 3 ((cT a1).map y3) false),(31,i6 (((cT a1).map y3).length:Int)),(32,i6 v27),(50,i6 ((v65.map z6).length:Int)),(51,i6 v67),(66,.bool (!v69))]) (L:=[((0,0),.one [.msl (3,0) 3 0 v28.length false,.msl (4,0) 9 0 (([]:List GM).length) false]),((1,0),.one [.msl (5,0) 3 0 v30.length false,.msl (6,0) 9 0 v31.length false]),((2,0),.one [i6 (((cT a1).getD v27.toNat default).f_Do),i6 (((cT a1).getD v27.toNat default).f_A),i6 (((cT a1).getD v27.toNat default).f_B)]),((3,0),.rows 3 (v28.map z8)),((4,0),.rows 9 (([]:List GM).map z6)),((5,0),.rows 3 (v30.map zh)),((6,0),.rows 9 (v31.map z6))]) (n:=7) ?_ ?_
  ·exact y7 (M:=[((0,0),(0,0)),((1,0),(1,0)),((2,0),(2,0)),((3,0),(3,0)),((4,0),(4,0)),((5,0),(5,0)),((6,0),(6,0))]) rfl (AI (VS rfl) (SP rfl (SP rfl (SP rfl (S4 rfl rfl rfl rfl (S2 rfl rfl (AI (VS rfl) TT))))))) (AI (AI rfl (p2 (AI (p1 rfl (by first|rfl|omega|(simp;done)|(simp at *;omega)) rfl) (AI (p1 rfl (by first|rfl|omega|(simp;done)|(simp at *;omega)) rfl) TT)))) (AI (AI rfl (p2 (AI (p1 rfl (by first|rfl|omega|(simp;done)|(simp at *;omega)) rfl) (AI (p1 rfl (by first|rfl|omega|(simp;done)|(simp at *;omega)) rfl) TT)))) (AI (AI rfl (OL rfl)) (AI (AI rfl (p0 z8 (fun _=>rfl) _ v28)) (AI (AI rfl (p0 z6 (fun _=>rfl) _ ([]:List GM))) (AI (AI rfl (p0 zh (fun _=>rfl) _ v30)) (AI (AI rfl (p0 z6 (fun _=>rfl) _ v31)) TT)))))))
  refine y4 (v:=(!v69)) rfl TT (fun h141=>?_) (fun h141=>?_)
  ·have h:=zd h141 h
   refine SR ?_
   refine wl ?_
   obtain⟨o,hq,rfl⟩:=p3.1 h
   replace h:=hq;clear hq
   refine AI nofun ?_
   obtain⟨o,hq,rfl⟩:=p3.1 h
   replace h:=hq;clear hq
   refine AI nofun ?_
   cases h
   exact AI TT (AI rfl (VS rfl))
  ·have h:=zk h141 h
   refine x6 ?_
   refine J1 ?_
   cases h
   exact AI rfl (y7 (M:=[((0,0),(0,0)),((1,0),(1,0)),((2,0),(2,0)),((3,0),(3,0)),((4,0),(4,0)),((5,0),(5,0)),((6,0),(6,0))]) rfl (AI (VS rfl) (SP rfl (SP rfl (SP rfl (S4 rfl rfl rfl rfl (S2 rfl rfl TT)))))) (AI (AI rfl (p2 (AI (p1 rfl (by first|rfl|omega|(simp;done)|(simp at *;omega)) rfl) (AI (p1 rfl (by first|rfl|omega|(simp;done)|(simp at *;omega)) rfl) TT)))) (AI (AI rfl (p2 (AI (p1 rfl (by first|rfl|omega|(simp;done)|(simp at *;omega)) rfl) (AI (p1 rfl (by first|rfl|omega|(simp;done)|(simp at *;omega)) rfl) TT)))) (AI (AI rfl (OL rfl)) (AI (AI rfl (p0 z8 (fun _=>rfl) _ v28)) (AI (AI rfl (p0 z6 (fun _=>rfl) _ ([]:List GM))) (AI (AI rfl (p0 zh (fun _=>rfl) _ v30)) (AI (AI rfl (p0 z6 (fun _=>rfl) _ v31)) TT))))))))
 ·have h:=zk h136 h
  refine Xh ?_
  obtain⟨o,hq,rfl⟩:=p3.1 h
  replace h:=hq;clear hq
  refine AI nofun ?_
  refine p4 ?_ (zvn h)
  exact y7 (M:=[((0,0),(0,0)),((1,0),(1,0)),((2,0),(2,0)),((3,0),(3,0)),((4,0),(4,0)),((5,0),(5,0)),((6,0),(6,0))]) rfl (AI (VS rfl) (SP rfl (SP rfl (SP rfl (S2 rfl rfl (AI (VS rfl) TT)))))) (AI (AI rfl (p2 (AI (p1 rfl (by first|rfl|omega|(simp;done)|(simp at *;omega)) rfl) (AI (p1 rfl (by first|rfl|omega|(simp;done)|(simp at *;omega)) rfl) TT)))) (AI (AI rfl (p2 (AI (p1 rfl (by first|rfl|omega|(simp;done)|(simp at *;omega)) rfl) (AI (p1 rfl (by first|rfl|omega|(simp;done)|(simp at *;omega)) rfl) TT)))) (AI (AI rfl (OL rfl)) (AI (AI rfl (p0 z8 (fun _=>rfl) _ v28)) (AI (AI rfl (p0 z6 (fun _=>rfl) _ ([]:List GM))) (AI (AI rfl (p0 zh (fun _=>rfl) _ v30)) (AI (AI rfl (p0 z6 (fun _=>rfl) _ v31)) TT)))))))
theorem zvw{a0:List GM}{a1:List G_Step}{v27:Int}{v28:List G_job}{v30:List G_Job}{v31:List GM}{v65:(List GM)}{v67:Int}{m:Option Nat}{o:((Int×(List G_job)×(List GM)×(List G_Job)×(List GM)) ⊕ Bool)}(h:qe m a0 a1 v27 v28 v30 v31 v65 v67=some o) :
 LWp Tryd.prog Zi 0 (.loop y0t) (x4 3 (Yk Tryd.prog Zi 0 zvt (x4 2 (Yk Tryd.prog Zi 0 zrc (x4 1 (Yk Tryd.prog Zi 0 zca (Z7 0 6 (Yx a0 a1) (Xp a0 a1) (Wp a0 a1) o))))))) [(0,.isl 9 (a0.map z6) false),(5,.ptr (0,0) 0 0),(6,.ptr (1,0) 0 0),(8,.ptr (2,0) 0 0),(16,.isl 9 (v65.map z6) false),(30,.isl 3 ((cT a1).map y3) false),(31,i6 (((cT a1).map y3).length:Int)),(32,i6 v27),(50,i6 ((v65.map z6).length:Int)),(51,i6 v67)] [((0,0),.one [.msl (3,0) 3 0 v28.length false,.msl (4,0) 9 0 (([]:List GM).length) false]),((1,0),.one [.msl (5,0) 3 0 v30.length false,.msl (6,0) 9 0 v31.length false]),((2,0),.one [i6 (((cT a1).getD v27.toNat default).f_Do),i6 (((cT a1).getD v27.toNat default).f_A),i6 (((cT a1).getD v27.toNat default).f_B)]),((3,0),.rows 3 (v28.map z8)),((4,0),.rows 9 (([]:List GM).map z6)),((5,0),.rows 3 (v30.map zh)),((6,0),.rows 9 (v31.map z6))] 7:=
 wy (m:=m) (s:=(v67:Int)) (r:=o) (fun(s:Int)=>qf m a0 a1 v27 v28 v30 v31 v65 s) (zb7 a0 a1 v27 v28 v30 v31 v65) (zgf a0 a1 v27 v28 v30 v31 v65) (zqk a0 a1) (fun s o h=>zqp h) h
def w6(m:Option Nat):Option Bool:=
 (j6 (some 4096)).bind fun v80=>
 some v80
def yi(m:Option Nat)(a0:List GM)(a1:List G_Step)(v27:Int)(v28:List G_job)(v29:List GM)(v30:List G_Job)(v31:List GM):Option ((Int×(List G_job)×(List GM)×(List G_Job)×(List GM)) ⊕ Bool):=
 if(decide (v27<(((cT a1).map y3).length:Int)))=true then
  if(0:Int)≤v27∧v27<(((cT a1).map y3).length:Int) then
  (qb m (((cT a1).getD v27.toNat default).f_Do) 5).bind fun v56=>
  if((decide (v56≤1))&&(decide (((a0.map z6).length:Int) > 0)))=true then
   (qb m (((cT a1).getD v27.toNat default).f_A) ((a0.map z6).length:Int)).bind fun v57=>
   if(0:Int)≤v57∧v57<((a0.map z6).length:Int) then
   (x8 m (GM.mk ((a0.getD v57.toNat default).fK) ((a0.getD v57.toNat default).fI) ((a0.getD v57.toNat default).fC) ((a0.getD v57.toNat default).fM) (GJ.mk (((a0.getD v57.toNat default).fB).fK) (((a0.getD v57.toNat default).fB).fN) (((a0.getD v57.toNat default).fB).fT) (((a0.getD v57.toNat default).fB).fA) (((a0.getD v57.toNat default).fB).fE))) v28 v29).bind fun v58=>
   (y5 m (GM.mk ((a0.getD v57.toNat default).fK) ((a0.getD v57.toNat default).fI) ((a0.getD v57.toNat default).fC) ((a0.getD v57.toNat default).fM) (GJ.mk (((a0.getD v57.toNat default).fB).fK) (((a0.getD v57.toNat default).fB).fN) (((a0.getD v57.toNat default).fB).fT) (((a0.getD v57.toNat default).fB).fA) (((a0.getD v57.toNat default).fB).fE))) v30 v31).bind fun v59=>
   if((!((v58.1.f_Do==v59.1.f_Do)&&((v58.1.f_Job==v59.1.f_Job)&&true))) || (v58.2.1 != v59.2.1))=true then
    p5 Sum.inr (
     some false)
   else
    zy m a0 a1 v27 v58.2.2.1 v58.2.2.2 v59.2.2.1 v59.2.2.2
   else none
  else
   if((v56==2)&&(decide (((a0.map z6).length:Int) > 0)))=true then
    (qb m (((cT a1).getD v27.toNat default).f_B) ((a0.map z6).length:Int)).bind fun v60=>
    if(0:Int)≤v60∧v60<((a0.map z6).length:Int) then
    (xz m (((cT a1).getD v27.toNat default).f_A) (GJ.mk (((a0.getD v60.toNat default).fB).fK) (((a0.getD v60.toNat default).fB).fN) (((a0.getD v60.toNat default).fB).fT) (((a0.getD v60.toNat default).fB).fA) (((a0.getD v60.toNat default).fB).fE)) v28 v29).bind fun v61=>
    (zc m (((cT a1).getD v27.toNat default).f_A) (GM.mk 3 0 0 ([]:List UInt8) (GJ.mk (((a0.getD v60.toNat default).fB).fK) (((a0.getD v60.toNat default).fB).fN) (((a0.getD v60.toNat default).fB).fT) (((a0.getD v60.toNat default).fB).fA) (((a0.getD v60.toNat default).fB).fE))) v30 v31).bind fun v62=>
    if(v61.1 != v62.1)=true then
     p5 Sum.inr (
      some false)
    else
     zy m a0 a1 v27 v61.2.1 v61.2.2 v62.2.1 v62.2.2
    else none
   else
    if(v56==3)=true then
     (wj m (((cT a1).getD v27.toNat default).f_A) (((cT a1).getD v27.toNat default).f_B) ([102,97,105,108,101,100]:List UInt8) v28 v29).bind fun v63=>
     (zc m (((cT a1).getD v27.toNat default).f_A) (GM.mk 4 0 (((cT a1).getD v27.toNat default).f_B) ([102,97,105,108,101,100]:List UInt8) (GJ.mk 0 0 [] [] [])) v30 v31).bind fun v64=>
     if(v63.1 != v64.1)=true then
      p5 Sum.inr (
       some false)
     else
      zy m a0 a1 v27 v63.2.1 v63.2.2 v64.2.1 v64.2.2
    else
     (ko m v28 v29).bind fun v65=>
     if(((v65.map z6).length:Int) != ((v31.length:Nat):Int))=true then
      p5 Sum.inr (
       some false)
     else
      qe m a0 a1 v27 v28 v30 v31 v65 0
  else none
 else
  p5 Sum.inr (
   w6 m)
def xv(m:Option Nat)(a0:List GM)(a1:List G_Step)(v27:Int)(v28:List G_job)(v29:List GM)(v30:List G_Job)(v31:List GM):Option Bool:=Y5 m (fun(s:(Int×(List G_job)×(List GM)×(List G_Job)×(List GM)))=>yi m a0 a1 s.1 s.2.1 s.2.2.1 s.2.2.2.1 s.2.2.2.2) (v27,v28,v29,v30,v31)
theorem znz{a0:List GM}{a1:List G_Step}{m:Option Nat}{o:Bool}(h:w6 m=some o) :
 LWp Tryd.prog Zi 0 zwd (y67 a0 a1 o) [] [] 0:=by
 unfold w6 at h
 refine SR ?_
 obtain⟨v80,h152,h⟩:=bind_some h
 refine PFn.call (y3o h152) TT ?_
 refine wl ?_
 cases h
 exact AI TT (AI rfl (VS rfl))
set_option maxHeartbeats 4000000 in
theorem zrq{a0:List GM}{a1:List G_Step}{v27:Int}{v28:List G_job}{v29:List GM}{v30:List G_Job}{v31:List GM}{m:Option Nat}{o:(Int×(List G_job)×(List GM)×(List G_Job)×(List GM)) ⊕ Bool}(h:yi m a0 a1 v27 v28 v29 v30 v31=some o) :
 LWp Tryd.prog Zi 0 zzn (Z7 0 6 (Yx a0 a1) (Xp a0 a1) (Wp a0 a1) o) [(0,.isl 9 (a0.map z6) false),(5,.ptr (0,0) 0 0),(6,.ptr (1,0) 0 0),(30,.isl 3 ((cT a1).map y3) false),(31,i6 (((cT a1).map y3).length:Int)),(32,i6 v27)] [((0,0),.one [.msl (2,0) 3 0 v28.length false,.msl (3,0) 9 0 v29.length false]),((1,0),.one [.msl (4,0) 3 0 v30.length false,.msl (5,0) 9 0 v31.length false]),((2,0),.rows 3 (v28.map z8)),((3,0),.rows 9 (v29.map z6)),((4,0),.rows 3 (v30.map zh)),((5,0),.rows 9 (v31.map z6))] 6:=by
 unfold yi at h
 refine SR ?_
 refine wn ?_
 refine y4 (v:=(decide (v27<(((cT a1).map y3).length:Int)))) rfl TT (fun h103=>?_) (fun h103=>?_)
 ·have h:=zd h103 h
  refine x6 ?_
  refine wn ?_
  refine xk ?_
  refine SR ?_
  obtain⟨h104,h⟩:=zj h
  refine AI h104 ?_
  refine EX (y3 ((cT a1).getD v27.toNat default)) (AI (jx y3 _ _ (uz y3 h104)) (AI (AI (Y1 h104) (NB rfl)) ?_))
  refine wn ?_
  refine SR ?_
  obtain⟨v56,h105,h⟩:=bind_some h
  refine PFn.call (zzu h105) (S2 rfl rfl TT) ?_
  refine p4 (e:=[(0,.isl 9 (a0.map z6) false),(5,.ptr (0,0) 0 0),(6,.ptr (1,0) 0 0),(8,.ptr (2,0) 0 0),(9,i6 v56),(30,.isl 3 ((cT a1).map y3) false),(31,i6 (((cT a1).map y3).length:Int)),(32,i6 v27)]) (L:=[((0,0),.one [.msl (3,0) 3 0 v28.length false,.msl (4,0) 9 0 v29.length false]),((1,0),.one [.msl (5,0) 3 0 v30.length false,.msl (6,0) 9 0 v31.length false]),((2,0),.one [i6 (((cT a1).getD v27.toNat default).f_Do),i6 (((cT a1).getD v27.toNat default).f_A),i6 (((cT a1).getD v27.toNat default).f_B)]),((3,0),.rows 3 (v28.map z8)),((4,0),.rows 9 (v29.map z6)),((5,0),.rows 3 (v30.map zh)),((6,0),.rows 9 (v31.map z6))]) (n:=7) ?_ ?_
  ·exact y7 (M:=[((0,0),(0,0)),((1,0),(1,0)),((2,0),(6,0)),((3,0),(2,0)),((4,0),(3,0)),((5,0),(4,0)),((6,0),(5,0))]) rfl (AI (VS rfl) (SP rfl (SP rfl (SP rfl (S4 rfl rfl rfl rfl TT))))) (AI (AI rfl (p2 (AI (p1 rfl (by first|rfl|omega|(simp;done)|(simp at *;omega)) rfl) (AI (p1 rfl (by first|rfl|omega|(simp;done)|(simp at *;omega)) rfl) TT)))) (AI (AI rfl (p2 (AI (p1 rfl (by first|rfl|omega|(simp;done)|(simp at *;omega)) rfl) (AI (p1 rfl (by first|rfl|omega|(simp;done)|(simp at *;omega)) rfl) TT)))) (AI (AI rfl (OL rfl)) (AI (AI rfl (p0 z8 (fun _=>rfl) _ v28)) (AI (AI rfl (p0 z6 (fun _=>rfl) _ v29)) (AI (AI rfl (p0 zh (fun _=>rfl) _ v30)) (AI (AI rfl (p0 z6 (fun _=>rfl) _ v31)) TT)))))))
  refine xk ?_
  refine SR ?_
  refine HP ?_
  refine HP ?_
  refine HB ?_
  refine p4 (e:=[(0,.isl 9 (a0.map z6) false),(5,.ptr (0,0) 0 0),(6,.ptr (1,0) 0 0),(8,.ptr (2,0) 0 0),(9,i6 v56),(30,.isl 3 ((cT a1).map y3) false),(31,i6 (((cT a1).map y3).length:Int)),(32,i6 v27),(71,.bool ((decide (v56≤1))&&(decide (((a0.map z6).length:Int) > 0))))]) (L:=[((0,0),.one [.msl (3,0) 3 0 v28.length false,.msl (4,0) 9 0 v29.length false]),((1,0),.one [.msl (5,0) 3 0 v30.length false,.msl (6,0) 9 0 v31.length false]),((2,0),.one [i6 (((cT a1).getD v27.toNat default).f_Do),i6 (((cT a1).getD v27.toNat default).f_A),i6 (((cT a1).getD v27.toNat default).f_B)]),((3,0),.rows 3 (v28.map z8)),((4,0),.rows 9 (v29.map z6)),((5,0),.rows 3 (v30.map zh)),((6,0),.rows 9 (v31.map z6))]) (n:=7) ?_ ?_
  ·exact y7 (M:=[((0,0),(0,0)),((1,0),(1,0)),((2,0),(2,0)),((3,0),(3,0)),((4,0),(4,0)),((5,0),(5,0)),((6,0),(6,0))]) rfl (AI (VS rfl) (SP rfl (SP rfl (SP rfl (S4 rfl rfl rfl rfl (AI (VS rfl) TT)))))) (AI (AI rfl (p2 (AI (p1 rfl (by first|rfl|omega|(simp;done)|(simp at *;omega)) rfl) (AI (p1 rfl (by first|rfl|omega|(simp;done)|(simp at *;omega)) rfl) TT)))) (AI (AI rfl (p2 (AI (p1 rfl (by first|rfl|omega|(simp;done)|(simp at *;omega)) rfl) (AI (p1 rfl (by first|rfl|omega|(simp;done)|(simp at *;omega)) rfl) TT)))) (AI (AI rfl (OL rfl)) (AI (AI rfl (p0 z8 (fun _=>rfl) _ v28)) (AI (AI rfl (p0 z6 (fun _=>rfl) _ v29)) (AI (AI rfl (p0 zh (fun _=>rfl) _ v30)) (AI (AI rfl (p0 z6 (fun _=>rfl) _ v31)) TT)))))))
  refine y4 (v:=((decide (v56≤1))&&(decide (((a0.map z6).length:Int) > 0)))) rfl TT (fun h106=>?_) (fun h106=>?_)
  ·have h:=zd h106 h
   refine SR ?_
   obtain⟨v57,h107,h⟩:=bind_some h
   refine PFn.call (zzu h107) (S2 rfl rfl TT) ?_
   obtain⟨h108,h⟩:=zj h
   refine AI h108 ?_
   refine EX (z6 (a0.getD v57.toNat default)) (AI (jx z6 _ _ (uz z6 h108)) (AI (AI (Y1 h108) (NB rfl)) ?_))
   refine p4 (e:=[(0,.isl 9 (a0.map z6) false),(5,.ptr (0,0) 0 0),(6,.ptr (1,0) 0 0),(8,.ptr (2,0) 0 0),(10,.ptr (3,0) 0 0),(30,.isl 3 ((cT a1).map y3) false),(31,i6 (((cT a1).map y3).length:Int)),(32,i6 v27)]) (L:=[((0,0),.one [.msl (4,0) 3 0 v28.length false,.msl (5,0) 9 0 v29.length false]),((1,0),.one [.msl (6,0) 3 0 v30.length false,.msl (7,0) 9 0 v31.length false]),((2,0),.one [i6 (((cT a1).getD v27.toNat default).f_Do),i6 (((cT a1).getD v27.toNat default).f_A),i6 (((cT a1).getD v27.toNat default).f_B)]),((3,0),.one [i6 ((a0.getD v57.toNat default).fK),i6 ((a0.getD v57.toNat default).fI),i6 ((a0.getD v57.toNat default).fC),.str ((a0.getD v57.toNat default).fM),i6 (((a0.getD v57.toNat default).fB).fK),i6 (((a0.getD v57.toNat default).fB).fN),.str (((a0.getD v57.toNat default).fB).fT),.isl 1 ((((a0.getD v57.toNat default).fB).fA).map za) false,.isl 5 ((((a0.getD v57.toNat default).fB).fE).map ze) false]),((4,0),.rows 3 (v28.map z8)),((5,0),.rows 9 (v29.map z6)),((6,0),.rows 3 (v30.map zh)),((7,0),.rows 9 (v31.map z6))]) (n:=8) ?_ ?_
   ·exact y7 (M:=[((0,0),(0,0)),((1,0),(1,0)),((2,0),(2,0)),((3,0),(7,0)),((4,0),(3,0)),((5,0),(4,0)),((6,0),(5,0)),((7,0),(6,0))]) rfl (AI (VS rfl) (SP rfl (SP rfl (SP rfl (SP rfl (S2 rfl rfl (AI (VS rfl) TT))))))) (AI (AI rfl (p2 (AI (p1 rfl (by first|rfl|omega|(simp;done)|(simp at *;omega)) rfl) (AI (p1 rfl (by first|rfl|omega|(simp;done)|(simp at *;omega)) rfl) TT)))) (AI (AI rfl (p2 (AI (p1 rfl (by first|rfl|omega|(simp;done)|(simp at *;omega)) rfl) (AI (p1 rfl (by first|rfl|omega|(simp;done)|(simp at *;omega)) rfl) TT)))) (AI (AI rfl (OL rfl)) (AI (AI rfl (OL rfl)) (AI (AI rfl (p0 z8 (fun _=>rfl) _ v28)) (AI (AI rfl (p0 z6 (fun _=>rfl) _ v29)) (AI (AI rfl (p0 zh (fun _=>rfl) _ v30)) (AI (AI rfl (p0 z6 (fun _=>rfl) _ v31)) TT))))))))
   refine SR ?_
   obtain⟨v58,h109,h⟩:=bind_some h
   refine Z2 (k:=3) (m:=2) (L':=[((0,0),.one [.msl (8,0) 3 0 v58.2.2.1.length false,.msl (9,0) 9 0 v58.2.2.2.length false]),((8,0),.rows 3 (v58.2.2.1.map z8)),((9,0),.rows 9 (v58.2.2.2.map z6))]) (rest:=[((1,0),.one [.msl (6,0) 3 0 v30.length false,.msl (7,0) 9 0 v31.length false]),((2,0),.one [i6 (((cT a1).getD v27.toNat default).f_Do),i6 (((cT a1).getD v27.toNat default).f_A),i6 (((cT a1).getD v27.toNat default).f_B)]),((3,0),.one [i6 ((a0.getD v57.toNat default).fK),i6 ((a0.getD v57.toNat default).fI),i6 ((a0.getD v57.toNat default).fC),.str ((a0.getD v57.toNat default).fM),i6 (((a0.getD v57.toNat default).fB).fK),i6 (((a0.getD v57.toNat default).fB).fN),.str (((a0.getD v57.toNat default).fB).fT),.isl 1 ((((a0.getD v57.toNat default).fB).fA).map za) false,.isl 5 ((((a0.getD v57.toNat default).fB).fE).map ze) false]),((6,0),.rows 3 (v30.map zh)),((7,0),.rows 9 (v31.map z6))]) (R':=.tup [.agg [i6 v58.1.f_Do,i6 v58.1.f_Job],i6 v58.2.1]) [((0,0),(0,0)),((0,1),(4,0)),((0,2),(5,0))] (zzb h109) rfl rfl rfl (SP rfl (AI (VS rfl) TT)) (AI (h0I (0,0) rfl rfl (p2 (AI (p1 rfl (by first|rfl|omega|(simp;done)|(simp at *;omega)) rfl) (AI (p1 rfl (by first|rfl|omega|(simp;done)|(simp at *;omega)) rfl) TT)))) (AI (h0I (4,0) rfl rfl (p0 z8 (fun _=>rfl) _ v28)) (AI (h0I (5,0) rfl rfl (p0 z6 (fun _=>rfl) _ v29)) TT))) (xl _ rfl) (AI rfl (AI rfl (AI rfl (AI (yf z8 (fun _=>rfl) _ _) (AI rfl (AI (yf z6 (fun _=>rfl) _ _) TT)))))) rfl ?_
   refine p4 (e:=[(0,.isl 9 (a0.map z6) false),(5,.ptr (0,0) 0 0),(6,.ptr (1,0) 0 0),(8,.ptr (2,0) 0 0),(10,.ptr (3,0) 0 0),(11,.ptr (4,0) 0 0),(12,i6 v58.2.1),(30,.isl 3 ((cT a1).map y3) false),(31,i6 (((cT a1).map y3).length:Int)),(32,i6 v27)]) (L:=[((0,0),.one [.msl (5,0) 3 0 v58.2.2.1.length false,.msl (6,0) 9 0 v58.2.2.2.length false]),((1,0),.one [.msl (7,0) 3 0 v30.length false,.msl (8,0) 9 0 v31.length false]),((2,0),.one [i6 (((cT a1).getD v27.toNat default).f_Do),i6 (((cT a1).getD v27.toNat default).f_A),i6 (((cT a1).getD v27.toNat default).f_B)]),((3,0),.one [i6 ((a0.getD v57.toNat default).fK),i6 ((a0.getD v57.toNat default).fI),i6 ((a0.getD v57.toNat default).fC),.str ((a0.getD v57.toNat default).fM),i6 (((a0.getD v57.toNat default).fB).fK),i6 (((a0.getD v57.toNat default).fB).fN),.str (((a0.getD v57.toNat default).fB).fT),.isl 1 ((((a0.getD v57.toNat default).fB).fA).map za) false,.isl 5 ((((a0.getD v57.toNat default).fB).fE).map ze) false]),((4,0),.one [i6 v58.1.f_Do,i6 v58.1.f_Job]),((5,0),.rows 3 (v58.2.2.1.map z8)),((6,0),.rows 9 (v58.2.2.2.map z6)),((7,0),.rows 3 (v30.map zh)),((8,0),.rows 9 (v31.map z6))]) (n:=9) ?_ ?_
   ·exact y7 (M:=[((0,0),(0,0)),((1,0),(1,0)),((2,0),(2,0)),((3,0),(3,0)),((4,0),(11,0)),((5,0),(8,0)),((6,0),(9,0)),((7,0),(6,0)),((8,0),(7,0))]) rfl (AI (VS rfl) (SP rfl (SP rfl (SP rfl (SP rfl (SP rfl (S4 rfl rfl rfl rfl TT))))))) (AI (AI rfl (p2 (AI (p1 rfl (by first|rfl|omega|(simp;done)|(simp at *;omega)) rfl) (AI (p1 rfl (by first|rfl|omega|(simp;done)|(simp at *;omega)) rfl) TT)))) (AI (AI rfl (p2 (AI (p1 rfl (by first|rfl|omega|(simp;done)|(simp at *;omega)) rfl) (AI (p1 rfl (by first|rfl|omega|(simp;done)|(simp at *;omega)) rfl) TT)))) (AI (AI rfl (OL rfl)) (AI (AI rfl (OL rfl)) (AI (AI rfl (OL rfl)) (AI (AI rfl (p0 z8 (fun _=>rfl) _ v58.2.2.1)) (AI (AI rfl (p0 z6 (fun _=>rfl) _ v58.2.2.2)) (AI (AI rfl (p0 zh (fun _=>rfl) _ v30)) (AI (AI rfl (p0 z6 (fun _=>rfl) _ v31)) TT)))))))))
   refine SR ?_
   obtain⟨v59,h110,h⟩:=bind_some h
   refine Z2 (k:=3) (m:=2) (L':=[((1,0),.one [.msl (9,0) 3 0 v59.2.2.1.length false,.msl (10,0) 9 0 v59.2.2.2.length false]),((9,0),.rows 3 (v59.2.2.1.map zh)),((10,0),.rows 9 (v59.2.2.2.map z6))]) (rest:=[((0,0),.one [.msl (5,0) 3 0 v58.2.2.1.length false,.msl (6,0) 9 0 v58.2.2.2.length false]),((2,0),.one [i6 (((cT a1).getD v27.toNat default).f_Do),i6 (((cT a1).getD v27.toNat default).f_A),i6 (((cT a1).getD v27.toNat default).f_B)]),((3,0),.one [i6 ((a0.getD v57.toNat default).fK),i6 ((a0.getD v57.toNat default).fI),i6 ((a0.getD v57.toNat default).fC),.str ((a0.getD v57.toNat default).fM),i6 (((a0.getD v57.toNat default).fB).fK),i6 (((a0.getD v57.toNat default).fB).fN),.str (((a0.getD v57.toNat default).fB).fT),.isl 1 ((((a0.getD v57.toNat default).fB).fA).map za) false,.isl 5 ((((a0.getD v57.toNat default).fB).fE).map ze) false]),((4,0),.one [i6 v58.1.f_Do,i6 v58.1.f_Job]),((5,0),.rows 3 (v58.2.2.1.map z8)),((6,0),.rows 9 (v58.2.2.2.map z6))]) (R':=.tup [.agg [i6 v59.1.f_Do,i6 v59.1.f_Job],i6 v59.2.1]) [((0,0),(1,0)),((0,1),(7,0)),((0,2),(8,0))] (y23 h110) rfl rfl rfl (SP rfl (AI (VS rfl) TT)) (AI (h0I (1,0) rfl rfl (p2 (AI (p1 rfl (by first|rfl|omega|(simp;done)|(simp at *;omega)) rfl) (AI (p1 rfl (by first|rfl|omega|(simp;done)|(simp at *;omega)) rfl) TT)))) (AI (h0I (7,0) rfl rfl (p0 zh (fun _=>rfl) _ v30)) (AI (h0I (8,0) rfl rfl (p0 z6 (fun _=>rfl) _ v31)) TT))) (xl _ rfl) (AI rfl (AI rfl (AI rfl (AI (yf zh (fun _=>rfl) _ _) (AI rfl (AI (yf z6 (fun _=>rfl) _ _) TT)))))) rfl ?_
   refine p4 (e:=[(0,.isl 9 (a0.map z6) false),(5,.ptr (0,0) 0 0),(6,.ptr (1,0) 0 0),(8,.ptr (2,0) 0 0),(11,.ptr (3,0) 0 0),(12,i6 v58.2.1),(13,.ptr (4,0) 0 0),(14,i6 v59.2.1),(30,.isl 3 ((cT a1).map y3) false),(31,i6 (((cT a1).map y3).length:Int)),(32,i6 v27)]) (L:=[((0,0),.one [.msl (5,0) 3 0 v58.2.2.1.length false,.msl (6,0) 9 0 v58.2.2.2.length false]),((1,0),.one [.msl (7,0) 3 0 v59.2.2.1.length false,.msl (8,0) 9 0 v59.2.2.2.length false]),((2,0),.one [i6 (((cT a1).getD v27.toNat default).f_Do),i6 (((cT a1).getD v27.toNat default).f_A),i6 (((cT a1).getD v27.toNat default).f_B)]),((3,0),.one [i6 v58.1.f_Do,i6 v58.1.f_Job]),((4,0),.one [i6 v59.1.f_Do,i6 v59.1.f_Job]),((5,0),.rows 3 (v58.2.2.1.map z8)),((6,0),.rows 9 (v58.2.2.2.map z6)),((7,0),.rows 3 (v59.2.2.1.map zh)),((8,0),.rows 9 (v59.2.2.2.map z6))]) (n:=9) ?_ ?_
   ·exact y7 (M:=[((0,0),(0,0)),((1,0),(1,0)),((2,0),(2,0)),((3,0),(4,0)),((4,0),(12,0)),((5,0),(5,0)),((6,0),(6,0)),((7,0),(9,0)),((8,0),(10,0))]) rfl (AI (VS rfl) (SP rfl (SP rfl (SP rfl (SP rfl (AI (VS rfl) (SP rfl (S4 rfl rfl rfl rfl TT)))))))) (AI (AI rfl (p2 (AI (p1 rfl (by first|rfl|omega|(simp;done)|(simp at *;omega)) rfl) (AI (p1 rfl (by first|rfl|omega|(simp;done)|(simp at *;omega)) rfl) TT)))) (AI (AI rfl (p2 (AI (p1 rfl (by first|rfl|omega|(simp;done)|(simp at *;omega)) rfl) (AI (p1 rfl (by first|rfl|omega|(simp;done)|(simp at *;omega)) rfl) TT)))) (AI (AI rfl (OL rfl)) (AI (AI rfl (OL rfl)) (AI (AI rfl (OL rfl)) (AI (AI rfl (p0 z8 (fun _=>rfl) _ v58.2.2.1)) (AI (AI rfl (p0 z6 (fun _=>rfl) _ v58.2.2.2)) (AI (AI rfl (p0 zh (fun _=>rfl) _ v59.2.2.1)) (AI (AI rfl (p0 z6 (fun _=>rfl) _ v59.2.2.2)) TT)))))))))
   refine SR ?_
   refine AI (fun hp=>(AI hp hp)) ?_
   refine AI (fun hc=>(bqf hc)) ?_
   refine p4 (e:=[(0,.isl 9 (a0.map z6) false),(5,.ptr (0,0) 0 0),(6,.ptr (1,0) 0 0),(8,.ptr (2,0) 0 0),(30,.isl 3 ((cT a1).map y3) false),(31,i6 (((cT a1).map y3).length:Int)),(32,i6 v27),(106,.bool ((!((v58.1.f_Do==v59.1.f_Do)&&((v58.1.f_Job==v59.1.f_Job)&&true))) || (v58.2.1 != v59.2.1)))]) (L:=[((0,0),.one [.msl (3,0) 3 0 v58.2.2.1.length false,.msl (4,0) 9 0 v58.2.2.2.length false]),((1,0),.one [.msl (5,0) 3 0 v59.2.2.1.length false,.msl (6,0) 9 0 v59.2.2.2.length false]),((2,0),.one [i6 (((cT a1).getD v27.toNat default).f_Do),i6 (((cT a1).getD v27.toNat default).f_A),i6 (((cT a1).getD v27.toNat default).f_B)]),((3,0),.rows 3 (v58.2.2.1.map z8)),((4,0),.rows 9 (v58.2.2.2.map z6)),((5,0),.rows 3 (v59.2.2.1.map zh)),((6,0),.rows 9 (v59.2.2.2.map z6))]) (n:=7) ?_ ?_
   ·exact y7 (M:=[((0,0),(0,0)),((1,0),(1,0)),((2,0),(2,0)),((3,0),(5,0)),((4,0),(6,0)),((5,0),(7,0)),((6,0),(8,0))]) rfl (AI (VS rfl) (SP rfl (SP rfl (SP rfl (S4 rfl rfl rfl rfl TT))))) (AI (AI rfl (p2 (AI (p1 rfl (by first|rfl|omega|(simp;done)|(simp at *;omega)) rfl) (AI (p1 rfl (by first|rfl|omega|(simp;done)|(simp at *;omega)) rfl) TT)))) (AI (AI rfl (p2 (AI (p1 rfl (by first|rfl|omega|(simp;done)|(simp at *;omega)) rfl) (AI (p1 rfl (by first|rfl|omega|(simp;done)|(simp at *;omega)) rfl) TT)))) (AI (AI rfl (OL rfl)) (AI (AI rfl (p0 z8 (fun _=>rfl) _ v58.2.2.1)) (AI (AI rfl (p0 z6 (fun _=>rfl) _ v58.2.2.2)) (AI (AI rfl (p0 zh (fun _=>rfl) _ v59.2.2.1)) (AI (AI rfl (p0 z6 (fun _=>rfl) _ v59.2.2.2)) TT)))))))
   refine y4 (v:=((!((v58.1.f_Do==v59.1.f_Do)&&((v58.1.f_Job==v59.1.f_Job)&&true))) || (v58.2.1 != v59.2.1))) rfl TT (fun h111=>?_) (fun h111=>?_)
   ·have h:=zd h111 h
    refine SR ?_
    refine wl ?_
    obtain⟨o,hq,rfl⟩:=p3.1 h
    replace h:=hq;clear hq
    refine AI nofun ?_
    cases h
    exact AI TT (AI rfl (VS rfl))
   ·have h:=zk h111 h
    refine x6 ?_
    refine p4 ?_ (Uk h)
    exact y7 (M:=[((0,0),(0,0)),((1,0),(1,0)),((2,0),(2,0)),((3,0),(3,0)),((4,0),(4,0)),((5,0),(5,0)),((6,0),(6,0))]) rfl (AI (VS rfl) (SP rfl (SP rfl (SP rfl (S2 rfl rfl (AI (VS rfl) TT)))))) (AI (AI rfl (p2 (AI (p1 rfl (by first|rfl|omega|(simp;done)|(simp at *;omega)) rfl) (AI (p1 rfl (by first|rfl|omega|(simp;done)|(simp at *;omega)) rfl) TT)))) (AI (AI rfl (p2 (AI (p1 rfl (by first|rfl|omega|(simp;done)|(simp at *;omega)) rfl) (AI (p1 rfl (by first|rfl|omega|(simp;done)|(simp at *;omega)) rfl) TT)))) (AI (AI rfl (OL rfl)) (AI (AI rfl (p0 z8 (fun _=>rfl) _ v58.2.2.1)) (AI (AI rfl (p0 z6 (fun _=>rfl) _ v58.2.2.2)) (AI (AI rfl (p0 zh (fun _=>rfl) _ v59.2.2.1)) (AI (AI rfl (p0 z6 (fun _=>rfl) _ v59.2.2.2)) TT)))))))
  ·have h:=zk h106 h
   refine SR ?_
   refine HP ?_
   refine HP ?_
   refine HB ?_
   refine p4 (e:=[(0,.isl 9 (a0.map z6) false),(5,.ptr (0,0) 0 0),(6,.ptr (1,0) 0 0),(8,.ptr (2,0) 0 0),(9,i6 v56),(30,.isl 3 ((cT a1).map y3) false),(31,i6 (((cT a1).map y3).length:Int)),(32,i6 v27),(107,.bool ((v56==2)&&(decide (((a0.map z6).length:Int) > 0))))]) (L:=[((0,0),.one [.msl (3,0) 3 0 v28.length false,.msl (4,0) 9 0 v29.length false]),((1,0),.one [.msl (5,0) 3 0 v30.length false,.msl (6,0) 9 0 v31.length false]),((2,0),.one [i6 (((cT a1).getD v27.toNat default).f_Do),i6 (((cT a1).getD v27.toNat default).f_A),i6 (((cT a1).getD v27.toNat default).f_B)]),((3,0),.rows 3 (v28.map z8)),((4,0),.rows 9 (v29.map z6)),((5,0),.rows 3 (v30.map zh)),((6,0),.rows 9 (v31.map z6))]) (n:=7) ?_ ?_
   ·exact y7 (M:=[((0,0),(0,0)),((1,0),(1,0)),((2,0),(2,0)),((3,0),(3,0)),((4,0),(4,0)),((5,0),(5,0)),((6,0),(6,0))]) rfl (AI (VS rfl) (SP rfl (SP rfl (SP rfl (S4 rfl rfl rfl rfl (AI (VS rfl) TT)))))) (AI (AI rfl (p2 (AI (p1 rfl (by first|rfl|omega|(simp;done)|(simp at *;omega)) rfl) (AI (p1 rfl (by first|rfl|omega|(simp;done)|(simp at *;omega)) rfl) TT)))) (AI (AI rfl (p2 (AI (p1 rfl (by first|rfl|omega|(simp;done)|(simp at *;omega)) rfl) (AI (p1 rfl (by first|rfl|omega|(simp;done)|(simp at *;omega)) rfl) TT)))) (AI (AI rfl (OL rfl)) (AI (AI rfl (p0 z8 (fun _=>rfl) _ v28)) (AI (AI rfl (p0 z6 (fun _=>rfl) _ v29)) (AI (AI rfl (p0 zh (fun _=>rfl) _ v30)) (AI (AI rfl (p0 z6 (fun _=>rfl) _ v31)) TT)))))))
   refine y4 (v:=((v56==2)&&(decide (((a0.map z6).length:Int) > 0)))) rfl TT (fun h112=>?_) (fun h112=>?_)
   ·have h:=zd h112 h
    refine SR ?_
    obtain⟨v60,h113,h⟩:=bind_some h
    refine PFn.call (zzu h113) (S2 rfl rfl TT) ?_
    obtain⟨h114,h⟩:=zj h
    refine AI h114 ?_
    refine EX (z6 (a0.getD v60.toNat default)) (AI (jx z6 _ _ (uz z6 h114)) (AI (AI (Y1 h114) (NB rfl)) ?_))
    refine p4 (e:=[(0,.isl 9 (a0.map z6) false),(5,.ptr (0,0) 0 0),(6,.ptr (1,0) 0 0),(8,.ptr (2,0) 0 0),(15,.ptr (3,0) 0 0),(30,.isl 3 ((cT a1).map y3) false),(31,i6 (((cT a1).map y3).length:Int)),(32,i6 v27)]) (L:=[((0,0),.one [.msl (4,0) 3 0 v28.length false,.msl (5,0) 9 0 v29.length false]),((1,0),.one [.msl (6,0) 3 0 v30.length false,.msl (7,0) 9 0 v31.length false]),((2,0),.one [i6 (((cT a1).getD v27.toNat default).f_Do),i6 (((cT a1).getD v27.toNat default).f_A),i6 (((cT a1).getD v27.toNat default).f_B)]),((3,0),.one [i6 (((a0.getD v60.toNat default).fB).fK),i6 (((a0.getD v60.toNat default).fB).fN),.str (((a0.getD v60.toNat default).fB).fT),.isl 1 ((((a0.getD v60.toNat default).fB).fA).map za) false,.isl 5 ((((a0.getD v60.toNat default).fB).fE).map ze) false]),((4,0),.rows 3 (v28.map z8)),((5,0),.rows 9 (v29.map z6)),((6,0),.rows 3 (v30.map zh)),((7,0),.rows 9 (v31.map z6))]) (n:=8) ?_ ?_
    ·exact y7 (M:=[((0,0),(0,0)),((1,0),(1,0)),((2,0),(2,0)),((3,0),(7,0)),((4,0),(3,0)),((5,0),(4,0)),((6,0),(5,0)),((7,0),(6,0))]) rfl (AI (VS rfl) (SP rfl (SP rfl (SP rfl (SP rfl (S2 rfl rfl (AI (VS rfl) TT))))))) (AI (AI rfl (p2 (AI (p1 rfl (by first|rfl|omega|(simp;done)|(simp at *;omega)) rfl) (AI (p1 rfl (by first|rfl|omega|(simp;done)|(simp at *;omega)) rfl) TT)))) (AI (AI rfl (p2 (AI (p1 rfl (by first|rfl|omega|(simp;done)|(simp at *;omega)) rfl) (AI (p1 rfl (by first|rfl|omega|(simp;done)|(simp at *;omega)) rfl) TT)))) (AI (AI rfl (OL rfl)) (AI (AI rfl (OL rfl)) (AI (AI rfl (p0 z8 (fun _=>rfl) _ v28)) (AI (AI rfl (p0 z6 (fun _=>rfl) _ v29)) (AI (AI rfl (p0 zh (fun _=>rfl) _ v30)) (AI (AI rfl (p0 z6 (fun _=>rfl) _ v31)) TT))))))))
    refine wn ?_
    refine Kr ?_
    obtain⟨v61,h115,h⟩:=bind_some h
    refine Z2 (k:=3) (m:=2) (L':=[((0,0),.one [.msl (8,0) 3 0 v61.2.1.length false,.msl (9,0) 9 0 v61.2.2.length false]),((8,0),.rows 3 (v61.2.1.map z8)),((9,0),.rows 9 (v61.2.2.map z6))]) (rest:=[((1,0),.one [.msl (6,0) 3 0 v30.length false,.msl (7,0) 9 0 v31.length false]),((2,0),.one [i6 (((cT a1).getD v27.toNat default).f_Do),i6 (((cT a1).getD v27.toNat default).f_A),i6 (((cT a1).getD v27.toNat default).f_B)]),((3,0),.one [i6 (((a0.getD v60.toNat default).fB).fK),i6 (((a0.getD v60.toNat default).fB).fN),.str (((a0.getD v60.toNat default).fB).fT),.isl 1 ((((a0.getD v60.toNat default).fB).fA).map za) false,.isl 5 ((((a0.getD v60.toNat default).fB).fE).map ze) false]),((6,0),.rows 3 (v30.map zh)),((7,0),.rows 9 (v31.map z6))]) (R':=i6 v61.1) [((0,0),(0,0)),((0,1),(4,0)),((0,2),(5,0))] (zyt h115) rfl rfl rfl (SP rfl (S2 rfl rfl TT)) (AI (h0I (0,0) rfl rfl (p2 (AI (p1 rfl (by first|rfl|omega|(simp;done)|(simp at *;omega)) rfl) (AI (p1 rfl (by first|rfl|omega|(simp;done)|(simp at *;omega)) rfl) TT)))) (AI (h0I (4,0) rfl rfl (p0 z8 (fun _=>rfl) _ v28)) (AI (h0I (5,0) rfl rfl (p0 z6 (fun _=>rfl) _ v29)) TT))) (xl _ rfl) (AI rfl (AI rfl (AI rfl (AI (yf z8 (fun _=>rfl) _ _) (AI rfl (AI (yf z6 (fun _=>rfl) _ _) TT)))))) rfl ?_
    refine AI rfl ?_
    refine AI rfl ?_
    obtain⟨v62,h116,h⟩:=bind_some h
    refine Z2 (k:=3) (m:=2) (L':=[((1,0),.one [.msl (11,0) 3 0 v62.2.1.length false,.msl (12,0) 9 0 v62.2.2.length false]),((11,0),.rows 3 (v62.2.1.map zh)),((12,0),.rows 9 (v62.2.2.map z6))]) (rest:=[((0,0),.one [.msl (8,0) 3 0 v61.2.1.length false,.msl (9,0) 9 0 v61.2.2.length false]),((8,0),.rows 3 (v61.2.1.map z8)),((9,0),.rows 9 (v61.2.2.map z6)),((2,0),.one [i6 (((cT a1).getD v27.toNat default).f_Do),i6 (((cT a1).getD v27.toNat default).f_A),i6 (((cT a1).getD v27.toNat default).f_B)]),((3,0),.one [i6 (((a0.getD v60.toNat default).fB).fK),i6 (((a0.getD v60.toNat default).fB).fN),.str (((a0.getD v60.toNat default).fB).fT),.isl 1 ((((a0.getD v60.toNat default).fB).fA).map za) false,.isl 5 ((((a0.getD v60.toNat default).fB).fE).map ze) false])]) (R':=i6 v62.1) [((0,0),(1,0)),((0,1),(6,0)),((0,2),(7,0))] (zff h116) rfl rfl rfl (SP rfl (S2 rfl rfl TT)) (AI (h0I (1,0) rfl rfl (p2 (AI (p1 rfl (by first|rfl|omega|(simp;done)|(simp at *;omega)) rfl) (AI (p1 rfl (by first|rfl|omega|(simp;done)|(simp at *;omega)) rfl) TT)))) (AI (h0I (6,0) rfl rfl (p0 zh (fun _=>rfl) _ v30)) (AI (h0I (7,0) rfl rfl (p0 z6 (fun _=>rfl) _ v31)) TT))) (xl _ rfl) (AI rfl (AI rfl (AI rfl (AI (yf zh (fun _=>rfl) _ _) (AI rfl (AI (yf z6 (fun _=>rfl) _ _) TT)))))) rfl ?_
    refine p4 (e:=[(0,.isl 9 (a0.map z6) false),(5,.ptr (0,0) 0 0),(6,.ptr (1,0) 0 0),(8,.ptr (2,0) 0 0),(30,.isl 3 ((cT a1).map y3) false),(31,i6 (((cT a1).map y3).length:Int)),(32,i6 v27),(135,.bool (v61.1 != v62.1))]) (L:=[((0,0),.one [.msl (3,0) 3 0 v61.2.1.length false,.msl (4,0) 9 0 v61.2.2.length false]),((1,0),.one [.msl (5,0) 3 0 v62.2.1.length false,.msl (6,0) 9 0 v62.2.2.length false]),((2,0),.one [i6 (((cT a1).getD v27.toNat default).f_Do),i6 (((cT a1).getD v27.toNat default).f_A),i6 (((cT a1).getD v27.toNat default).f_B)]),((3,0),.rows 3 (v61.2.1.map z8)),((4,0),.rows 9 (v61.2.2.map z6)),((5,0),.rows 3 (v62.2.1.map zh)),((6,0),.rows 9 (v62.2.2.map z6))]) (n:=7) ?_ ?_
    ·exact y7 (M:=[((0,0),(0,0)),((1,0),(1,0)),((2,0),(2,0)),((3,0),(8,0)),((4,0),(9,0)),((5,0),(11,0)),((6,0),(12,0))]) rfl (AI (VS rfl) (SP rfl (SP rfl (SP rfl (S4 rfl rfl rfl rfl TT))))) (AI (AI rfl (p2 (AI (p1 rfl (by first|rfl|omega|(simp;done)|(simp at *;omega)) rfl) (AI (p1 rfl (by first|rfl|omega|(simp;done)|(simp at *;omega)) rfl) TT)))) (AI (AI rfl (p2 (AI (p1 rfl (by first|rfl|omega|(simp;done)|(simp at *;omega)) rfl) (AI (p1 rfl (by first|rfl|omega|(simp;done)|(simp at *;omega)) rfl) TT)))) (AI (AI rfl (OL rfl)) (AI (AI rfl (p0 z8 (fun _=>rfl) _ v61.2.1)) (AI (AI rfl (p0 z6 (fun _=>rfl) _ v61.2.2)) (AI (AI rfl (p0 zh (fun _=>rfl) _ v62.2.1)) (AI (AI rfl (p0 z6 (fun _=>rfl) _ v62.2.2)) TT)))))))
    refine y4 (v:=(v61.1 != v62.1)) rfl TT (fun h117=>?_) (fun h117=>?_)
    ·have h:=zd h117 h
     refine SR ?_
     refine wl ?_
     obtain⟨o,hq,rfl⟩:=p3.1 h
     replace h:=hq;clear hq
     refine AI nofun ?_
     cases h
     exact AI TT (AI rfl (VS rfl))
    ·have h:=zk h117 h
     refine x6 ?_
     refine p4 ?_ (Uk h)
     exact y7 (M:=[((0,0),(0,0)),((1,0),(1,0)),((2,0),(2,0)),((3,0),(3,0)),((4,0),(4,0)),((5,0),(5,0)),((6,0),(6,0))]) rfl (AI (VS rfl) (SP rfl (SP rfl (SP rfl (S2 rfl rfl (AI (VS rfl) TT)))))) (AI (AI rfl (p2 (AI (p1 rfl (by first|rfl|omega|(simp;done)|(simp at *;omega)) rfl) (AI (p1 rfl (by first|rfl|omega|(simp;done)|(simp at *;omega)) rfl) TT)))) (AI (AI rfl (p2 (AI (p1 rfl (by first|rfl|omega|(simp;done)|(simp at *;omega)) rfl) (AI (p1 rfl (by first|rfl|omega|(simp;done)|(simp at *;omega)) rfl) TT)))) (AI (AI rfl (OL rfl)) (AI (AI rfl (p0 z8 (fun _=>rfl) _ v61.2.1)) (AI (AI rfl (p0 z6 (fun _=>rfl) _ v61.2.2)) (AI (AI rfl (p0 zh (fun _=>rfl) _ v62.2.1)) (AI (AI rfl (p0 z6 (fun _=>rfl) _ v62.2.2)) TT)))))))
   ·have h:=zk h112 h
    refine SR ?_
    refine y4 (v:=(v56==3)) rfl TT (fun h118=>?_) (fun h118=>?_)
    ·have h:=zd h118 h
     refine wn ?_
     refine Kr ?_
     obtain⟨v63,h119,h⟩:=bind_some h
     refine Z2 (k:=3) (m:=2) (L':=[((0,0),.one [.msl (7,0) 3 0 v63.2.1.length false,.msl (8,0) 9 0 v63.2.2.length false]),((7,0),.rows 3 (v63.2.1.map z8)),((8,0),.rows 9 (v63.2.2.map z6))]) (rest:=[((1,0),.one [.msl (5,0) 3 0 v30.length false,.msl (6,0) 9 0 v31.length false]),((2,0),.one [i6 (((cT a1).getD v27.toNat default).f_Do),i6 (((cT a1).getD v27.toNat default).f_A),i6 (((cT a1).getD v27.toNat default).f_B)]),((5,0),.rows 3 (v30.map zh)),((6,0),.rows 9 (v31.map z6))]) (R':=i6 v63.1) [((0,0),(0,0)),((0,1),(3,0)),((0,2),(4,0))] (zw9 h119) rfl rfl rfl (SP rfl (S2 rfl rfl (AI (VS rfl) TT))) (AI (h0I (0,0) rfl rfl (p2 (AI (p1 rfl (by first|rfl|omega|(simp;done)|(simp at *;omega)) rfl) (AI (p1 rfl (by first|rfl|omega|(simp;done)|(simp at *;omega)) rfl) TT)))) (AI (h0I (3,0) rfl rfl (p0 z8 (fun _=>rfl) _ v28)) (AI (h0I (4,0) rfl rfl (p0 z6 (fun _=>rfl) _ v29)) TT))) (xl _ rfl) (AI rfl (AI rfl (AI rfl (AI (yf z8 (fun _=>rfl) _ _) (AI rfl (AI (yf z6 (fun _=>rfl) _ _) TT)))))) rfl ?_
     refine AI rfl ?_
     refine AI rfl ?_
     obtain⟨v64,h120,h⟩:=bind_some h
     refine Z2 (k:=3) (m:=2) (L':=[((1,0),.one [.msl (10,0) 3 0 v64.2.1.length false,.msl (11,0) 9 0 v64.2.2.length false]),((10,0),.rows 3 (v64.2.1.map zh)),((11,0),.rows 9 (v64.2.2.map z6))]) (rest:=[((0,0),.one [.msl (7,0) 3 0 v63.2.1.length false,.msl (8,0) 9 0 v63.2.2.length false]),((7,0),.rows 3 (v63.2.1.map z8)),((8,0),.rows 9 (v63.2.2.map z6)),((2,0),.one [i6 (((cT a1).getD v27.toNat default).f_Do),i6 (((cT a1).getD v27.toNat default).f_A),i6 (((cT a1).getD v27.toNat default).f_B)])]) (R':=i6 v64.1) [((0,0),(1,0)),((0,1),(5,0)),((0,2),(6,0))] (zff h120) rfl rfl rfl (SP rfl (AI (VS rfl) (AI (Vw.aggL (S4 rfl rfl rfl rfl (S2 rfl rfl (AI (VS rfl) (AI (Vw.islF _ _ _) (AI (Vw.islF _ _ _) TT)))))) TT))) (AI (h0I (1,0) rfl rfl (p2 (AI (p1 rfl (by first|rfl|omega|(simp;done)|(simp at *;omega)) rfl) (AI (p1 rfl (by first|rfl|omega|(simp;done)|(simp at *;omega)) rfl) TT)))) (AI (h0I (5,0) rfl rfl (p0 zh (fun _=>rfl) _ v30)) (AI (h0I (6,0) rfl rfl (p0 z6 (fun _=>rfl) _ v31)) TT))) (xl _ rfl) (AI rfl (AI rfl (AI rfl (AI (yf zh (fun _=>rfl) _ _) (AI rfl (AI (yf z6 (fun _=>rfl) _ _) TT)))))) rfl ?_
     refine p4 (e:=[(0,.isl 9 (a0.map z6) false),(5,.ptr (0,0) 0 0),(6,.ptr (1,0) 0 0),(8,.ptr (2,0) 0 0),(30,.isl 3 ((cT a1).map y3) false),(31,i6 (((cT a1).map y3).length:Int)),(32,i6 v27),(152,.bool (v63.1 != v64.1))]) (L:=[((0,0),.one [.msl (3,0) 3 0 v63.2.1.length false,.msl (4,0) 9 0 v63.2.2.length false]),((1,0),.one [.msl (5,0) 3 0 v64.2.1.length false,.msl (6,0) 9 0 v64.2.2.length false]),((2,0),.one [i6 (((cT a1).getD v27.toNat default).f_Do),i6 (((cT a1).getD v27.toNat default).f_A),i6 (((cT a1).getD v27.toNat default).f_B)]),((3,0),.rows 3 (v63.2.1.map z8)),((4,0),.rows 9 (v63.2.2.map z6)),((5,0),.rows 3 (v64.2.1.map zh)),((6,0),.rows 9 (v64.2.2.map z6))]) (n:=7) ?_ ?_
     ·exact y7 (M:=[((0,0),(0,0)),((1,0),(1,0)),((2,0),(2,0)),((3,0),(7,0)),((4,0),(8,0)),((5,0),(10,0)),((6,0),(11,0))]) rfl (AI (VS rfl) (SP rfl (SP rfl (SP rfl (S4 rfl rfl rfl rfl TT))))) (AI (AI rfl (p2 (AI (p1 rfl (by first|rfl|omega|(simp;done)|(simp at *;omega)) rfl) (AI (p1 rfl (by first|rfl|omega|(simp;done)|(simp at *;omega)) rfl) TT)))) (AI (AI rfl (p2 (AI (p1 rfl (by first|rfl|omega|(simp;done)|(simp at *;omega)) rfl) (AI (p1 rfl (by first|rfl|omega|(simp;done)|(simp at *;omega)) rfl) TT)))) (AI (AI rfl (OL rfl)) (AI (AI rfl (p0 z8 (fun _=>rfl) _ v63.2.1)) (AI (AI rfl (p0 z6 (fun _=>rfl) _ v63.2.2)) (AI (AI rfl (p0 zh (fun _=>rfl) _ v64.2.1)) (AI (AI rfl (p0 z6 (fun _=>rfl) _ v64.2.2)) TT)))))))
     refine y4 (v:=(v63.1 != v64.1)) rfl TT (fun h121=>?_) (fun h121=>?_)
     ·have h:=zd h121 h
      refine SR ?_
      refine wl ?_
      obtain⟨o,hq,rfl⟩:=p3.1 h
      replace h:=hq;clear hq
      refine AI nofun ?_
      cases h
      exact AI TT (AI rfl (VS rfl))
     ·have h:=zk h121 h
      refine x6 ?_
      refine p4 ?_ (Uk h)
      exact y7 (M:=[((0,0),(0,0)),((1,0),(1,0)),((2,0),(2,0)),((3,0),(3,0)),((4,0),(4,0)),((5,0),(5,0)),((6,0),(6,0))]) rfl (AI (VS rfl) (SP rfl (SP rfl (SP rfl (S2 rfl rfl (AI (VS rfl) TT)))))) (AI (AI rfl (p2 (AI (p1 rfl (by first|rfl|omega|(simp;done)|(simp at *;omega)) rfl) (AI (p1 rfl (by first|rfl|omega|(simp;done)|(simp at *;omega)) rfl) TT)))) (AI (AI rfl (p2 (AI (p1 rfl (by first|rfl|omega|(simp;done)|(simp at *;omega)) rfl) (AI (p1 rfl (by first|rfl|omega|(simp;done)|(simp at *;omega)) rfl) TT)))) (AI (AI rfl (OL rfl)) (AI (AI rfl (p0 z8 (fun _=>rfl) _ v63.2.1)) (AI (AI rfl (p0 z6 (fun _=>rfl) _ v63.2.2)) (AI (AI rfl (p0 zh (fun _=>rfl) _ v64.2.1)) (AI (AI rfl (p0 z6 (fun _=>rfl) _ v64.2.2)) TT)))))))
    ·have h:=zk h118 h
     refine SR ?_
     obtain⟨v65,h122,h⟩:=bind_some h
     refine Z2 (k:=3) (m:=2) (L':=[((0,0),.one [.msl (7,0) 3 0 v28.length false,.msl (8,0) 9 0 (([]:List GM).length) false]),((7,0),.rows 3 (v28.map z8)),((8,0),.rows 9 (([]:List GM).map z6))]) (rest:=[((1,0),.one [.msl (5,0) 3 0 v30.length false,.msl (6,0) 9 0 v31.length false]),((2,0),.one [i6 (((cT a1).getD v27.toNat default).f_Do),i6 (((cT a1).getD v27.toNat default).f_A),i6 (((cT a1).getD v27.toNat default).f_B)]),((5,0),.rows 3 (v30.map zh)),((6,0),.rows 9 (v31.map z6))]) (R':=.isl 9 (v65.map z6) false) [((0,0),(0,0)),((0,1),(3,0)),((0,2),(4,0))] (zvk h122) rfl rfl rfl (SP rfl TT) (AI (h0I (0,0) rfl rfl (p2 (AI (p1 rfl (by first|rfl|omega|(simp;done)|(simp at *;omega)) rfl) (AI (p1 rfl (by first|rfl|omega|(simp;done)|(simp at *;omega)) rfl) TT)))) (AI (h0I (3,0) rfl rfl (p0 z8 (fun _=>rfl) _ v28)) (AI (h0I (4,0) rfl rfl (p0 z6 (fun _=>rfl) _ v29)) TT))) (xl _ rfl) (AI rfl (AI rfl (AI rfl (AI (yf z8 (fun _=>rfl) _ _) (AI rfl (AI (yf z6 (fun _=>rfl) _ _) TT)))))) rfl ?_
     refine wn ?_
     refine SR ?_
     refine p4 (e:=[(0,.isl 9 (a0.map z6) false),(5,.ptr (0,0) 0 0),(6,.ptr (1,0) 0 0),(8,.ptr (2,0) 0 0),(16,.isl 9 (v65.map z6) false),(30,.isl 3 ((cT a1).map y3) false),(31,i6 (((cT a1).map y3).length:Int)),(32,i6 v27),(48,.bool (((v65.map z6).length:Int) != ((v31.length:Nat):Int)))]) (L:=[((0,0),.one [.msl (3,0) 3 0 v28.length false,.msl (4,0) 9 0 (([]:List GM).length) false]),((1,0),.one [.msl (5,0) 3 0 v30.length false,.msl (6,0) 9 0 v31.length false]),((2,0),.one [i6 (((cT a1).getD v27.toNat default).f_Do),i6 (((cT a1).getD v27.toNat default).f_A),i6 (((cT a1).getD v27.toNat default).f_B)]),((3,0),.rows 3 (v28.map z8)),((4,0),.rows 9 (([]:List GM).map z6)),((5,0),.rows 3 (v30.map zh)),((6,0),.rows 9 (v31.map z6))]) (n:=7) ?_ ?_
     ·exact y7 (M:=[((0,0),(0,0)),((1,0),(1,0)),((2,0),(2,0)),((3,0),(7,0)),((4,0),(8,0)),((5,0),(5,0)),((6,0),(6,0))]) rfl (AI (VS rfl) (SP rfl (SP rfl (SP rfl (S4 rfl rfl rfl rfl (AI (VS rfl) TT)))))) (AI (AI rfl (p2 (AI (p1 rfl (by first|rfl|omega|(simp;done)|(simp at *;omega)) rfl) (AI (p1 rfl (by first|rfl|omega|(simp;done)|(simp at *;omega)) rfl) TT)))) (AI (AI rfl (p2 (AI (p1 rfl (by first|rfl|omega|(simp;done)|(simp at *;omega)) rfl) (AI (p1 rfl (by first|rfl|omega|(simp;done)|(simp at *;omega)) rfl) TT)))) (AI (AI rfl (OL rfl)) (AI (AI rfl (p0 z8 (fun _=>rfl) _ v28)) (AI (AI rfl (p0 z6 (fun _=>rfl) _ ([]:List GM))) (AI (AI rfl (p0 zh (fun _=>rfl) _ v30)) (AI (AI rfl (p0 z6 (fun _=>rfl) _ v31)) TT)))))))
     refine y4 (v:=(((v65.map z6).length:Int) != ((v31.length:Nat):Int))) rfl TT (fun h123=>?_) (fun h123=>?_)
     ·have h:=zd h123 h
      refine SR ?_
      refine wl ?_
      obtain⟨o,hq,rfl⟩:=p3.1 h
      replace h:=hq;clear hq
      refine AI nofun ?_
      cases h
      exact AI TT (AI rfl (VS rfl))
     ·have h:=zk h123 h
      refine x6 ?_
      refine wn ?_
      refine SR ?_
      refine xk ?_
      refine p4 ?_ (zvw h)
      exact y7 (M:=[((0,0),(0,0)),((1,0),(1,0)),((2,0),(2,0)),((3,0),(3,0)),((4,0),(4,0)),((5,0),(5,0)),((6,0),(6,0))]) rfl (AI (VS rfl) (SP rfl (SP rfl (SP rfl (S4 rfl rfl rfl rfl (S2 rfl rfl TT)))))) (AI (AI rfl (p2 (AI (p1 rfl (by first|rfl|omega|(simp;done)|(simp at *;omega)) rfl) (AI (p1 rfl (by first|rfl|omega|(simp;done)|(simp at *;omega)) rfl) TT)))) (AI (AI rfl (p2 (AI (p1 rfl (by first|rfl|omega|(simp;done)|(simp at *;omega)) rfl) (AI (p1 rfl (by first|rfl|omega|(simp;done)|(simp at *;omega)) rfl) TT)))) (AI (AI rfl (OL rfl)) (AI (AI rfl (p0 z8 (fun _=>rfl) _ v28)) (AI (AI rfl (p0 z6 (fun _=>rfl) _ ([]:List GM))) (AI (AI rfl (p0 zh (fun _=>rfl) _ v30)) (AI (AI rfl (p0 z6 (fun _=>rfl) _ v31)) TT)))))))
 ·have h:=zk h103 h
  refine Xh ?_
  obtain⟨o,hq,rfl⟩:=p3.1 h
  replace h:=hq;clear hq
  refine AI nofun ?_
  refine p4 ?_ (znz h)
  exact y7 (M:=[]) rfl TT TT
theorem zw1{a0:List GM}{a1:List G_Step}{v27:Int}{v28:List G_job}{v29:List GM}{v30:List G_Job}{v31:List GM}{m:Option Nat}{o:Bool}(h:xv m a0 a1 v27 v28 v29 v30 v31=some o) :
 LWp Tryd.prog Zi 0 (.loop zzn) (x4 0 (Yk Tryd.prog Zi 0 zwd (y67 a0 a1 o))) [(0,.isl 9 (a0.map z6) false),(5,.ptr (0,0) 0 0),(6,.ptr (1,0) 0 0),(30,.isl 3 ((cT a1).map y3) false),(31,i6 (((cT a1).map y3).length:Int)),(32,i6 v27)] [((0,0),.one [.msl (2,0) 3 0 v28.length false,.msl (3,0) 9 0 v29.length false]),((1,0),.one [.msl (4,0) 3 0 v30.length false,.msl (5,0) 9 0 v31.length false]),((2,0),.rows 3 (v28.map z8)),((3,0),.rows 9 (v29.map z6)),((4,0),.rows 3 (v30.map zh)),((5,0),.rows 9 (v31.map z6))] 6:=
 wy (m:=m) (s:=((v27,v28,v29,v30,v31):(Int×(List G_job)×(List GM)×(List G_Job)×(List GM)))) (r:=o) (fun(s:(Int×(List G_job)×(List GM)×(List G_Job)×(List GM)))=>yi m a0 a1 s.1 s.2.1 s.2.2.1 s.2.2.2.1 s.2.2.2.2) (Yx a0 a1) (Xp a0 a1) (Wp a0 a1) (fun s o h=>zrq h) h
def ji(m:Option Nat)(a0:List GM)(a1:List G_Step):Option Bool:=
 (j6 (some 4096)).bind fun v1=>
 if(!v1)=true then
  some false
 else
  (ui m).bind fun v2=>
  if(0:Int)≤(if 30<((a1.map y3).length:Int) then 30 else((a1.map y3).length:Int))∧(if 30<((a1.map y3).length:Int) then 30 else((a1.map y3).length:Int))≤((a1.map y3).length:Int) then
  xv m a0 a1 0 ([]:List G_job) ([]:List GM) ([]:List G_Job) ([]:List GM)
  else none
theorem zvg{a0:List GM}{a1:List G_Step}{m:Option Nat}{o:Bool}(h:ji m a0 a1=some o):LWp Tryd.prog Zi 0 y4i (y67 a0 a1 o) (zu 0 [.isl 9 (a0.map z6) false,.isl 3 (a1.map y3) false]) [] 0:=by
 unfold ji at h
 refine SR ?_
 refine wn ?_
 refine SR ?_
 obtain⟨v1,h1,h⟩:=bind_some h
 refine PFn.call (y3o h1) TT ?_
 refine y4 (v:=(!v1)) rfl TT (fun h2=>?_) (fun h2=>?_)
 ·have h:=zd h2 h
  refine SR ?_
  refine wl ?_
  cases h
  exact AI TT (AI rfl (VS rfl))
 ·have h:=zk h2 h
  refine x6 ?_
  refine SR ?_
  obtain⟨v2,h3,h⟩:=bind_some h
  refine Z2 (k:=3) (m:=3) (L':=[((0,0),.one [.msl (1,0) 3 0 (([]:List G_job).length) false,.msl (2,0) 9 0 (([]:List GM).length) false]),((1,0),.rows 3 (([]:List G_job).map z8)),((2,0),.rows 9 (([]:List GM).map z6))]) (rest:=[]) (R':=.ptr (0,0) 0 0) [] (zyx h3) rfl rfl rfl TT TT rfl (AI rfl (AI rfl (AI rfl (AI (yf z8 (fun _=>rfl) _ _) (AI rfl (AI (yf z6 (fun _=>rfl) _ _) TT)))))) rfl ?_
  refine LWp.ghost 3 ?_
  refine LWp.ghost 9 ?_
  refine p4 (e:=[(0,.isl 9 (a0.map z6) false),(1,.isl 3 (a1.map y3) false),(5,.ptr (0,0) 0 0),(6,.ptr (1,0) 0 0)]) (L:=[((0,0),.one [.msl (2,0) 3 0 (([]:List G_job).length) false,.msl (3,0) 9 0 (([]:List GM).length) false]),((1,0),.one [.msl (4,0) 3 0 (([]:List G_Job).length) false,.msl (5,0) 9 0 (([]:List GM).length) false]),((2,0),.rows 3 (([]:List G_job).map z8)),((3,0),.rows 9 (([]:List GM).map z6)),((4,0),.rows 3 (([]:List G_Job).map zh)),((5,0),.rows 9 (([]:List GM).map z6))]) (n:=6) ?_ ?_
  ·exact y7 (M:=[((0,0),(0,0)),((1,0),(4,0)),((2,0),(1,0)),((3,0),(2,0)),((4,0),(5,0)),((5,0),(6,0))]) rfl (S2 rfl rfl (SP rfl (SP rfl TT))) (AI (AI rfl (p2 (AI (p1 rfl (by first|rfl|omega|(simp;done)|(simp at *;omega)) rfl) (AI (p1 rfl (by first|rfl|omega|(simp;done)|(simp at *;omega)) rfl) TT)))) (AI (AI rfl (p2 (AI (Vw.islM _ _ _ _ _ _ rfl rfl) (AI (Vw.islM _ _ _ _ _ _ rfl rfl) TT)))) (AI (AI rfl (p0 z8 (fun _=>rfl) _ ([]:List G_job))) (AI (AI rfl (p0 z6 (fun _=>rfl) _ ([]:List GM))) (AI (AI rfl (p0 zh (fun _=>rfl) _ ([]:List G_Job))) (AI (AI rfl (p0 z6 (fun _=>rfl) _ ([]:List GM))) TT))))))
  refine wn ?_
  refine SR ?_
  refine y4 (v:=false) rfl TT (fun hc=>Bool.noConfusion hc) (fun hc=>?_)
  refine x6 ?_
  refine wn ?_
  refine SR ?_
  obtain⟨h4,h⟩:=zj h
  refine EX (.isl 3 ((cT a1).map y3) false) (AI (y5k y3 (slB y3 a1 _) rfl) (AI (AI rfl (AI (Int.le_refl _) h4)) ?_))
  refine p4 (e:=[(0,.isl 9 (a0.map z6) false),(5,.ptr (0,0) 0 0),(6,.ptr (1,0) 0 0),(30,.isl 3 ((cT a1).map y3) false),(31,i6 (((cT a1).map y3).length:Int)),(32,i6 0)]) (L:=[((0,0),.one [.msl (2,0) 3 0 (([]:List G_job).length) false,.msl (3,0) 9 0 (([]:List GM).length) false]),((1,0),.one [.msl (4,0) 3 0 (([]:List G_Job).length) false,.msl (5,0) 9 0 (([]:List GM).length) false]),((2,0),.rows 3 (([]:List G_job).map z8)),((3,0),.rows 9 (([]:List GM).map z6)),((4,0),.rows 3 (([]:List G_Job).map zh)),((5,0),.rows 9 (([]:List GM).map z6))]) (n:=6) ?_ ?_
  ·exact y7 (M:=[((0,0),(0,0)),((1,0),(1,0)),((2,0),(2,0)),((3,0),(3,0)),((4,0),(4,0)),((5,0),(5,0))]) rfl (AI (VS rfl) (SP rfl (SP rfl (S2 rfl rfl (AI (VS rfl) TT))))) (AI (AI rfl (p2 (AI (p1 rfl (by first|rfl|omega|(simp;done)|(simp at *;omega)) rfl) (AI (p1 rfl (by first|rfl|omega|(simp;done)|(simp at *;omega)) rfl) TT)))) (AI (AI rfl (p2 (AI (p1 rfl (by first|rfl|omega|(simp;done)|(simp at *;omega)) rfl) (AI (p1 rfl (by first|rfl|omega|(simp;done)|(simp at *;omega)) rfl) TT)))) (AI (AI rfl (p0 z8 (fun _=>rfl) _ ([]:List G_job))) (AI (AI rfl (p0 z6 (fun _=>rfl) _ ([]:List GM))) (AI (AI rfl (p0 zh (fun _=>rfl) _ ([]:List G_Job))) (AI (AI rfl (p0 z6 (fun _=>rfl) _ ([]:List GM))) TT))))))
  refine xk ?_
  refine p4 ?_ (zw1 h)
  exact y7 (M:=[((0,0),(0,0)),((1,0),(1,0)),((2,0),(2,0)),((3,0),(3,0)),((4,0),(4,0)),((5,0),(5,0))]) rfl (AI (VS rfl) (SP rfl (SP rfl (S2 rfl rfl (AI (VS rfl) TT))))) (AI (AI rfl (p2 (AI (p1 rfl (by first|rfl|omega|(simp;done)|(simp at *;omega)) rfl) (AI (p1 rfl (by first|rfl|omega|(simp;done)|(simp at *;omega)) rfl) TT)))) (AI (AI rfl (p2 (AI (p1 rfl (by first|rfl|omega|(simp;done)|(simp at *;omega)) rfl) (AI (p1 rfl (by first|rfl|omega|(simp;done)|(simp at *;omega)) rfl) TT)))) (AI (AI rfl (p0 z8 (fun _=>rfl) _ ([]:List G_job))) (AI (AI rfl (p0 z6 (fun _=>rfl) _ ([]:List GM))) (AI (AI rfl (p0 zh (fun _=>rfl) _ ([]:List G_Job))) (AI (AI rfl (p0 z6 (fun _=>rfl) _ ([]:List GM))) TT))))))
theorem y6o{a0:List GM}{a1:List G_Step}{m:Option Nat}{o:Bool}(h:ji m a0 a1=some o):PFn Tryd.prog 3 [.isl 9 (a0.map z6) false,.isl 3 (a1.map y3) false] (.bool o):=PFn.ofFnW (L:=y7u) y3u y3s (NB rfl) rfl (zvg h)
end
end Go.Proofs.YtlilpmnmedmjaaaDoor
