/-
  Own framework.
-/
import Derived.Test.YtbohjnffcnhgeaaFb
import Derived.RangeFuncRecord
import Derived.RangeFuncIn
import Derived.Laws.Externs
import Derived.Tactics
import Derived.WalkKit
import Derived.ProofKit
import Derived.OpenShut
import Derived.SizedLaws
import Derived.Below
import Derived.Carry
import Derived.ChangeSame
import Derived.Shelf.Spec.SlicesInsertGrow
import Derived.Shelf.Small.Strs
import Derived.Sort.Grow
set_option linter.unusedVariables false
set_option linter.unusedSimpArgs false
open Array renaming length_toList→qC
open Bool renaming and_eq_true→pA,false_eq_true→qD
open Classical renaming choose_spec→pU,choose→pZ
open Go.DataW renaming weightsEach→pX,trod→q5
open Go renaming sizeOf→qE
open List renaming getElem?_eq_getElem→pC,all_eq_true→pD,mem_map→pE,getD_eq_getElem?_getD→pI,map_congr_left→pJ,getElem?_map→pM,replicate→pN,length_map→pO,contains_eq_any_beq→pP,mem_cons→pQ,map_cons→pR,getElem?_cons_zero→pT,mem_cons_of_mem→pV,mem_append→pW,mem_cons_self→q6,map_map→q7,map→q8,getElem?_append→q9,take_of_length_le→qF
open Nat renaming le_of_ble_eq_true→p9,eq_of_beq_eq_true→pB,beq→pF,ble→pK,mul_le_mul_right→qA
open Option renaming map_eq_some_iff→pH,map_some→pL,none_or→pS,some_or→qG
open Option.some renaming injEq→p0
open Prod.mk renaming injEq→pG
open Go.Result renaming andThen_ok→pY
open Go.Sem renaming run_bind→qB
namespace Go.Fx
def z0t:Option Prop→Prop→Prop
 |none,q=>q
 |some p,q=>p∧q
def Wf:Option Prop→Option Prop→Option Prop
 |none,y=>y
 |some a,none=>some a
 |some a,some b=>some (a∧b)
def Zk:Option Prop→Prop
 |none=>True
 |some p=>p
theorem w8(s:Option Prop)(q:Prop):z0t s q↔Zk s∧q:=by cases s<;>simp[z0t,Zk]
theorem w7(a b:Option Prop):Zk (Wf a b)↔Zk a∧Zk b:=by cases a<;>cases b<;>simp[Wf,Zk]
def AVal.needY:AVal→Option Prop
 |.cnd p _=>some (p=true)
 |_=>none
theorem zpo(x:AVal):Zk x.needY↔x.need:=by cases x<;>simp[AVal.needY,AVal.need,Zk]
def LOpd.needY(e:Env):LOpd→Option Prop
 |.t i=>(e.get i).needY
 |.c _=>none
theorem zk(e:Env)(x:LOpd):Zk (x.needY e)↔x.need e:=by
 cases x with
 |t i=>exact zpo _
 |c v=>simp[LOpd.needY,LOpd.need,Zk]
def z0u(e:Env):List LOpd→Option Prop
 |[]=>none
 |x::r=>Wf (x.needY e) (z0u e r)
theorem Xm(e:Env):∀l,Zk (z0u e l)↔Uc e l
 |[]=>by simp[z0u,Uc,Zk]
 |x::r=>by simp[z0u,Uc,w7,zk,Xm e r]
def z4e(e:Env):Option LOpd→Option Prop
 |none=>none
 |some x=>x.needY e
theorem Wd(e:Env)(x:Option LOpd):Zk (z4e e x)↔V5 e x:=by
 cases x with
 |none=>simp[z4e,V5,Zk]
 |some x=>exact zk e x
def zbl(e:Env):List (Nat×Nat×LOpd)→Option Prop
 |[]=>none
 |(_,_,x)::r=>Wf (x.needY e) (zbl e r)
theorem z5o(e:Env):∀l,Zk (zbl e l)↔Z7 e l
 |[]=>by simp[zbl,Z7,Zk]
 |(_,_,x)::r=>by simp[zbl,Z7,w7,zk,z5o e r]
def z5u(e:Env):List (Nat×LOpd)→Option Prop
 |[]=>none
 |(_,x)::r=>Wf (x.needY e) (z5u e r)
theorem z16(e:Env):∀l,Zk (z5u e l)↔z2d e l
 |[]=>by simp[z5u,z2d,Zk]
 |(_,x)::r=>by simp[z5u,z2d,w7,zk,z16 e r]
def zo2:IntKind→IntKind→Bool
 |.i8,.i8|.i16,.i16|.i32,.i32|.i64,.i64|.u8,.u8|.u16,.u16|.u32,.u32|.u64,.u64=>true
 |_,_=>false
theorem z83{a b:IntKind}(h:zo2 a b=true):a=b:=by cases a<;>cases b<;>first|rfl|cases h
inductive YR where
 |ok (side:Option Prop) (v:AVal)
 |row (es:List (List AVal)) (i:Nat) (side:Prop) (f:List AVal→AVal)
 |pick (v:AVal) (side:Prop)
 |fork (j:Int) (len:Nat) (side:Option Prop) (f:Nat→AVal)
 |bad
def zwl(j:Int)(f:Nat→AVal)(K:AVal→Prop):Nat→Nat→Prop
 |0,_=>True
 |k+1,c=>(j=(c:Int)→K (f c))∧zwl j f K k (c+1)
def YR.run(r:YR)(K:AVal→Prop):Prop:=match r with
 |.ok s v=>z0t s (K v)
 |.row es i s f=>∃r,es.getD i []=r∧s∧K (f r)
 |.pick v0 s=>∃v,v0=v∧s∧K v
 |.fork j len s f=>z0t s ((0≤j∧j<(len:Int))∧zwl j f K len 0)
 |.bad=>False
def YR.runG(p:Bool)(r:YR)(K:AVal→Prop):Prop:=match r with
 |.ok none v=>K (.cnd p v)
 |.ok (some s) v=>(p=true→s)∧K (.cnd p v)
 |.row es i s f=>∃r,(p=true→es.getD i []=r∧s)∧K (.cnd p (f r))
 |.pick v0 s=>∃v,(p=true→v0=v∧s)∧K (.cnd p v)
 |_=>p=false∧K (.tup [])
def YR.and(s:Option Prop):YR→YR
 |.ok t v=>.ok (Wf s t) v
 |.row es i t f=>match s with
  |none=>.row es i t f
  |some p=>.row es i (p∧t) f
 |.pick v t=>match s with
  |none=>.pick v t
  |some p=>.pick v (p∧t)
 |.fork j len t f=>.fork j len (Wf s t) f
 |.bad=>.bad
def YR.Of(r:YR)(x:XR):Prop:=match r with
 |.ok s v=>∃side,x=.ok side v∧(Zk s→side)
 |.row es i s f=>∃side,x=.ok side (f (es.getD i []))∧(s→side)
 |.pick v s=>∃side,x=.ok side v∧(s→side)
 |.fork j len s f=>∃side v,x=.ok side v∧∀c:Nat,c<len→j=(c:Int)→Zk s→side∧v=f c
 |.bad=>True
theorem YR.Of.and{r:YR}{x:XR}{s:Option Prop}{p:Prop}(h:r.Of x)(hs:Zk s→p):(r.and s).Of (x.and p):=by
 cases r with
 |bad=>trivial
 |ok t v=>
  obtain⟨side,rfl,h1⟩:=h
  exact⟨_,rfl,fun h=>by rw[w7] at h;exact⟨hs h.1,h1 h.2⟩⟩
 |row es i t f=>
  obtain⟨side,rfl,h1⟩:=h
  cases s with
  |none=>exact⟨_,rfl,fun h=>⟨hs trivial,h1 h⟩⟩
  |some q=>exact⟨_,rfl,fun h=>⟨hs h.1,h1 h.2⟩⟩
 |pick v t=>
  obtain⟨side,rfl,h1⟩:=h
  cases s with
  |none=>exact⟨_,rfl,fun h=>⟨hs trivial,h1 h⟩⟩
  |some q=>exact⟨_,rfl,fun h=>⟨hs h.1,h1 h.2⟩⟩
 |fork j len t f=>
  obtain⟨side,v,rfl,h1⟩:=h
  exact⟨_,v,rfl,fun c hc hj h=>by
   rw[w7] at h
   obtain⟨h2,h3⟩:=h1 c hc hj h.2
   exact⟨⟨hs h.1,h2⟩,h3⟩⟩
theorem z9x{j:Int}{f:Nat→AVal}{K:AVal→Prop}:∀ {k c0:Nat},zwl j f K k c0→∀c,c0≤c→c<c0+k→j=(c:Int)→K (f c)
 |0,c0,_,c,h1,h2,_=>by omega
 |k+1,c0,h,c,h1,h2,h3=>by
  by_cases hc:c=c0
  ·subst hc;exact h.1 h3
  ·exact z9x h.2 c (by omega) (by omega) h3
theorem YR.Of.run{r:YR}{x:XR}(h:r.Of x){K:AVal→Prop}(hk:r.run K):∃side v,x=.ok side v∧side∧K v:=by
 cases r with
 |bad=>exact hk.elim
 |ok t v=>
  obtain⟨side,rfl,h1⟩:=h
  rw[YR.run,w8] at hk
  exact⟨_,_,rfl,h1 hk.1,hk.2⟩
 |row es i t f=>
  obtain⟨side,rfl,h1⟩:=h
  obtain⟨r,rfl,ht,hk⟩:=hk
  exact⟨_,_,rfl,h1 ht,hk⟩
 |pick v t=>
  obtain⟨side,rfl,h1⟩:=h
  obtain⟨r,rfl,ht,hk⟩:=hk
  exact⟨_,_,rfl,h1 ht,hk⟩
 |fork j len t f=>
  obtain⟨side,v,rfl,h1⟩:=h
  rw[YR.run,w8] at hk
  obtain⟨hs,⟨h2,h3⟩,h4⟩:=hk
  obtain⟨c,rfl⟩:=Int.eq_ofNat_of_zero_le h2
  obtain⟨g1,rfl⟩:=h1 c (by omega) rfl hs
  exact⟨_,_,rfl,g1,z9x h4 c (Nat.zero_le _) (by omega) rfl⟩
def y15(op:BinOp):AVal→AVal→YR
 |.int k a,.int k' b=>match op with
  |.shl=>.ok (some (0≤b)) (.int k (k.wrap (a*2 ^ (min b.toNat k.bits))))
  |.shr=>.ok (some (0≤b)) (.int k (a.fdiv (2 ^ (min b.toNat k.bits))))
  |op=>match zo2 k k' with
   |false=>.bad
   |true=>match op with
    |.add=>.ok none (.int k (k.wrap (a+b)))
    |.sub=>.ok none (.int k (k.wrap (a-b)))
    |.mul=>.ok none (.int k (k.wrap (a*b)))
    |.quo=>.ok (some (b≠0)) (.int k (k.wrap (a.tdiv b)))
    |.rem=>.ok (some (b≠0)) (.int k (a.tmod b))
    |.and=>.ok none (.int k (y6 .and k a b))
    |.or=>.ok none (.int k (y6 .or k a b))
    |.xor=>.ok none (.int k (y6 .xor k a b))
    |.andNot=>.ok none (.int k (y6 .andNot k a b))
    |.eql=>.ok none (.bool (a==b))
    |.neq=>.ok none (.bool (a != b))
    |.lss=>.ok none (.bool (decide (a<b)))
    |.leq=>.ok none (.bool (decide (a≤b)))
    |.gtr=>.ok none (.bool (decide (a > b)))
    |.geq=>.ok none (.bool (decide (a≥b)))
    |_=>.bad
 |.str a,.str b=>match op with
  |.add=>.ok (some (((a.length+b.length:Nat):Int)≤9223372036854775807)) (.str (a++b))
  |.eql=>.ok none (.bool (a==b))
  |.neq=>.ok none (.bool (!(a==b)))
  |.lss=>.ok none (.bool (Op.bytesLess a b))
  |.leq=>.ok none (.bool (Op.bytesLess a b || a==b))
  |.gtr=>.ok none (.bool (!(Op.bytesLess a b || a==b)))
  |.geq=>.ok none (.bool (!(Op.bytesLess a b)))
  |_=>.bad
 |_,_=>.bad
theorem zx9(op:BinOp)(x y:AVal):(y15 op x y).Of (zz1 op x y):=by
 cases x<;>cases y<;>simp only[y15,zz1]<;>try trivial
 case int.int k a k' b=>
  cases op<;>simp only<;>(try exact⟨_,rfl,fun h=>h⟩)<;>(cases hk:zo2 k k'<;>simp only<;>(try trivial)<;>(have hk:=z83 hk;subst hk)) <;>
   first|exact⟨_,rfl,fun _=>rfl⟩|exact⟨_,rfl,fun h=>⟨rfl,h⟩⟩
 case str.str a b=>
  cases op<;>simp only<;>first|trivial|exact⟨_,rfl,fun _=>trivial⟩|exact⟨_,rfl,fun h=>h⟩
def XR.toY:XR→YR
 |.ok s v=>.ok (some s) v
 |.bad=>.bad
theorem XR.toY_of(x:XR):x.toY.Of x:=by
 cases x with
 |ok s v=>exact⟨s,rfl,fun h=>h⟩
 |bad=>trivial
def XR.toY0:XR→YR
 |.ok _ v=>.ok none v
 |.bad=>.bad
theorem XR.toY0_of{x:XR}(h:∀s v,x=.ok s v→s):x.toY0.Of x:=by
 cases x with
 |ok s v=>exact⟨s,rfl,fun _=>h s v rfl⟩
 |bad=>trivial
def zzd:AVal→AVal→YR:=fun a b=>(zu0 a b).toY0
def z8z:AVal→AVal→YR
 |.val (.slice none 0 0),.isl _ es _=>.ok (some (es≠[])) (.bool false)
 |.isl _ es _,.val (.slice none 0 0)=>.ok (some (es≠[])) (.bool false)
 |.val (.slice none 0 0),.msl _ _ _ len _=>.ok (some (len≠0)) (.bool false)
 |.msl _ _ _ len _,.val (.slice none 0 0)=>.ok (some (len≠0)) (.bool false)
 |a,b=>(z3p a b).toY0
theorem zdy(a b:AVal):(z8z a b).Of (z3p a b):=by
 unfold z8z
 split
 ·exact⟨_,rfl,fun h=>h⟩
 ·exact⟨_,rfl,fun h=>h⟩
 ·exact⟨_,rfl,fun h=>h⟩
 ·exact⟨_,rfl,fun h=>h⟩
 ·rename_i h1 h2 h3 h4
  refine XR.toY0_of fun s v h=>?_
  unfold z3p at h
  split at h<;>simp only[XR.ok.injEq,reduceCtorEq] at h<;>(try (obtain⟨rfl,_⟩:=h;trivial))
  ·exact absurd rfl (h3 _ _ _ _ _ rfl)
  ·exact absurd rfl (h4 _ _ _ _ _ · rfl)
  ·exact absurd rfl (h1 _ _ _ rfl)
  ·exact absurd rfl (h2 _ _ _ · rfl)
def y0d(k:EqK)(x y:AVal):YR:=
 match k with
 |.bool=>match x,y with
  |.bool a,.bool b=>.ok none (.bool (a==b))
  |_,_=>.bad
 |.ptr=>zzd x y
 |.slice=>z8z x.rd y.rd
 |.map=>(z2f x y).toY0
 |.agg ks=>(zsz ks x y).toY0
 |.ifc=>(zag x y).toY0
 |.fnc=>(zd2 x y).toY0
 |_=>.bad
def YR.neg:YR→YR
 |.ok s (.bool b)=>.ok s (.bool (!b))
 |_=>.bad
def yeq(neg:Bool)(k:EqK)(x y:AVal):YR:=match neg with
 |true=>(y0d k x y).neg
 |false=>y0d k x y
theorem zvz(k:EqK)(x y:AVal):(y0d k x y).Of (zu2 k x y):=by
 cases k<;>simp only[y0d,zu2]<;>try trivial
 case bool=>cases x<;>cases y<;>first|trivial|exact⟨_,rfl,fun _=>trivial⟩
 case ptr=>
  refine XR.toY0_of fun s v h=>?_
  unfold zu0 at h
  split at h<;>simp only[XR.ok.injEq,reduceCtorEq] at h<;>(obtain⟨rfl,_⟩:=h;trivial)
 case slice=>exact zdy _ _
 case map=>
  refine XR.toY0_of fun s v h=>?_
  unfold z2f at h
  split at h<;>simp only[XR.ok.injEq,reduceCtorEq] at h<;>(obtain⟨rfl,_⟩:=h;trivial)
 case agg ks=>
  refine XR.toY0_of fun s v h=>?_
  unfold zsz at h
  split at h<;>(try split at h)<;>simp only[XR.ok.injEq,reduceCtorEq] at h<;>(obtain⟨rfl,_⟩:=h;trivial)
 case ifc=>
  refine XR.toY0_of fun s v h=>?_
  unfold zag at h
  split at h<;>simp only[XR.ok.injEq,reduceCtorEq] at h<;>(obtain⟨rfl,_⟩:=h;trivial)
 case fnc=>
  refine XR.toY0_of fun s v h=>?_
  unfold zd2 at h
  split at h<;>simp only[XR.ok.injEq,reduceCtorEq] at h<;>(obtain⟨rfl,_⟩:=h;trivial)
theorem zzi(neg:Bool)(k:EqK)(x y:AVal):(yeq neg k x y).Of (xeq neg k x y):=by
 have h:=zvz k x y
 cases neg with
 |false=>simpa[yeq,xeq] using h
 |true=>
  simp only[yeq,xeq,if_true]
  cases hr:y0d k x y with
  |ok s v=>
   rw[hr] at h
   obtain⟨side,hx,hs⟩:=h
   cases v<;>simp only[YR.neg]<;>try trivial
   rw[hx]
   exact⟨side,rfl,hs⟩
  |_=>simp only[YR.neg];trivial
def zx7(agg:Bool)(n:Nat)(H:AHeap):AVal→YR
 |.iptr s es i off=>.row es i (i<es.length∧off+n≤s) (xj agg n off)
 |.ptr b i off=>match H.get b with
  |some (.rows s es)=>.row es i (i<es.length∧off+n≤s) (xj agg n off)
  |some (.one cs)=>match i,pK (off+n) cs.length with
   |0,true=>.ok none (xj agg n off cs)
   |_,_=>.bad
  |_=>.bad
 |_=>.bad
theorem zs7(g:Bool)(n:Nat)(H:AHeap)(x:AVal):(zx7 g n H x).Of (zey g n H x):=by
 cases x<;>simp only[zx7,zey]<;>try trivial
 case iptr s es i off=>exact⟨_,rfl,fun h=>h⟩
 case ptr b i off=>
  split
  ·rename_i hb
   rw[hb]
   exact⟨_,rfl,fun h=>h⟩
  ·rename_i hb
   rw[hb]
   split
   ·rename_i h
    exact⟨_,rfl,fun _=>⟨rfl,p9 h⟩⟩
   ·trivial
  ·trivial
def zqx(agg:Bool)(n off:Nat):AVal→YR
 |.agg cs=>match pK (off+n) cs.length with
  |true=>.ok none (xj agg n off cs)
  |false=>.bad
 |_=>.bad
theorem zrl(g:Bool)(n off:Nat)(x:AVal):(zqx g n off x).Of (zbh g n off x):=by
 cases x<;>simp only[zqx,zbh]<;>try trivial
 split
 ·rename_i h;exact⟨_,rfl,fun _=>p9 h⟩
 ·trivial
def zo9(s:Nat):AVal→AVal→YR
 |.isl s' es _,.int _ j=>match pF s s' with
  |true=>.ok (some (0≤j∧j<(es.length:Int))) (.iptr s' es j.toNat 0)
  |false=>.bad
 |.msl b s' off len _,.int _ j=>match pF s s' with
  |true=>.ok (some (0≤j∧j<(len:Int))) (.ptr b (off+j.toNat) 0)
  |false=>.bad
 |_,_=>.bad
theorem zly(s:Nat)(x y:AVal):(zo9 s x y).Of (za6 s x y):=by
 cases x<;>cases y<;>simp only[zo9,za6]<;>try trivial
 all_goals
  split
  ·rename_i h;exact⟨_,rfl,fun hh=>⟨pB h,hh⟩⟩
  ·trivial
def ze2(len s:Nat)(H:AHeap):AVal→AVal→YR
 |.ptr b i 0,.int _ j=>match H.get b with
  |some (.rows s' _)=>match pF s s' with
   |true=>.ok (some (0≤j∧j<(len:Int))) (.ptr b (i+j.toNat) 0)
   |false=>.bad
  |_=>.bad
 |_,_=>.bad
theorem zk8(len s:Nat)(H:AHeap)(x y:AVal):(ze2 len s H x y).Of (z53 len s H x y):=by
 unfold ze2 z53
 split
 ·split
  ·rename_i hg
   split
   ·rename_i h
    simp only[hg]
    exact⟨_,rfl,fun hh=>⟨pB h,hh⟩⟩
   ·trivial
  ·trivial
 ·trivial
def zdq(len s:Nat)(x:AVal):LOpd→AVal→YR
 |.c (.int _ (.ofNat c)),_=>match pK (c+1) len,x with
  |true,.iptr s' es i o=>.ok none (.iptr s' es i (o+c*s))
  |true,.ptr b i o=>.ok none (.ptr b i (o+c*s))
  |_,_=>.bad
 |_,.int _ j=>match x with
  |.iptr s' es i o=>.fork j len none (fun c=>.iptr s' es i (o+c*s))
  |.ptr b i o=>.fork j len none (fun c=>.ptr b i (o+c*s))
  |_=>.bad
 |_,_=>.bad
theorem zkn(len s:Nat)(x:AVal)(e:Env)(i:LOpd):(zdq len s x i (i.ev e)).Of (z8g len s x (i.ev e)):=by
 unfold zdq
 split
 ·rename_i k c
  split
  ·rename_i h
   exact⟨_,rfl,fun _=>⟨Int.natCast_nonneg c,by have:=p9 h;simp;omega⟩⟩
  ·rename_i h
   exact⟨_,rfl,fun _=>⟨Int.natCast_nonneg c,by have:=p9 h;simp;omega⟩⟩
  ·trivial
 ·rename_i j _ heq
  rw[heq]
  split
  ·exact⟨_,_,rfl,fun c hc hj _=>⟨by omega,by subst hj;simp⟩⟩
  ·exact⟨_,_,rfl,fun c hc hj _=>⟨by omega,by subst hj;simp⟩⟩
  ·trivial
 ·trivial
def zy9(len s:Nat)(agg:Bool)(x:AVal):LOpd→AVal→YR
 |.c (.int _ (.ofNat c)),_=>match x with
  |.agg cs=>match pK (c+1) len&&pK (c*s+s) cs.length with
   |true=>.ok none (xj agg s (c*s) cs)
   |false=>.bad
  |_=>.bad
 |_,.int _ j=>match x with
  |.agg cs=>.pick (xj agg s (j.toNat * s) cs) (0≤j∧j<(len:Int)∧(j.toNat * s)+s≤cs.length)
  |_=>.bad
 |_,_=>.bad
theorem zss(len s:Nat)(g:Bool)(x:AVal)(e:Env)(i:LOpd):(zy9 len s g x i (i.ev e)).Of (zu5 len s g x (i.ev e)):=by
 unfold zy9
 split
 ·split
  ·split
   ·rename_i h
    simp only[pA] at h
    have h1:=p9 h.1
    have h2:=p9 h.2
    rename_i c _ _ _ _
    exact⟨_,rfl,fun _=>⟨Int.natCast_nonneg _,by simp;omega,by simpa using h2⟩⟩
   ·trivial
  ·trivial
 ·rename_i j _ heq
  rw[heq]
  split
  ·exact⟨_,rfl,fun h=>h⟩
  ·trivial
 ·trivial
def y1n(k:Nat):AVal→YR
 |.tup cs=>match pK (k+1) cs.length with
  |true=>.ok none (cs.getD k .any)
  |false=>.bad
 |_=>.bad
theorem zxk(k:Nat)(x:AVal):(y1n k x).Of (y0o k x):=by
 cases x<;>simp only[y1n,y0o]<;>try trivial
 split
 ·rename_i h;exact⟨_,rfl,fun _=>p9 h⟩
 ·trivial
def zyc(c:Bool):AVal→AVal→Option AVal
 |.bool a,.bool b=>some (.bool (bif c then a else b))
 |.int k a,.int k' b=>match zo2 k k' with
  |true=>some (.int k (bif c then a else b))
  |false=>none
 |.str a,.str b=>some (.str (bif c then a else b))
 |_,_=>none
theorem zsx{c:Bool}{a b v:AVal}(h:zyc c a b=some v):zxo c a b=v:=by
 cases a<;>cases b<;>simp only[zyc] at h<;>try (cases h;done)
 ·simp only[p0] at h;subst h;cases c<;>rfl
 ·split at h<;>try (cases h;done)
  rename_i hk
  have hk:=z83 hk
  subst hk
  simp only[p0] at h
  subst h;cases c<;>rfl
 ·simp only[p0] at h;subst h;cases c<;>rfl
def zt2(c want:Bool):Option Prop→Option Prop
 |none=>none
 |some p=>some (c=want→p)
theorem z9s(c want:Bool)(p:Option Prop):Zk (zt2 c want p)↔(c=want→Zk p):=by cases p<;>simp[zt2,Zk]
def zqe(c:Bool)(e:Env):LOpd→LOpd→Option AVal
 |.c (.bool true),b=>match b.ev e with
  |.bool y=>some (.bool (c || y))
  |_=>none
 |a,.c (.bool false)=>match a.ev e with
  |.bool x=>some (.bool (c&&x))
  |_=>none
 |a,b=>zyc c (a.ev e) (b.ev e)
theorem zoy{c:Bool}{e:Env}{a b:LOpd}{v:AVal}(h:zqe c e a b=some v):zxo c (a.ev e) (b.ev e)=v:=by
 unfold zqe at h
 split at h
 ·split at h<;>try (cases h;done)
  rename_i y hy
  simp only[p0] at h
  subst h
  rw[hy]
  cases c<;>rfl
 ·split at h<;>try (cases h;done)
  rename_i x hx
  simp only[p0] at h
  subst h
  rw[hx]
  cases c<;>rfl
 ·exact zsx h
def zvj(e:Env)(na nb:Option Prop)(c:AVal)(a b:LOpd):YR:=match c with
 |.bool c=>match zqe c e a b with
  |some v=>.ok (Wf (zt2 c true na) (zt2 c false nb)) v
  |none=>.bad
 |_=>.bad
def zdc(cells:List AVal):List (Nat×Nat×AVal)→YR
 |[]=>.ok none (.agg cells)
 |(off,n,x)::r=>match x.cells? with
  |some cs=>match pF cs.length n&&pK (off+n) cells.length with
   |true=>zdc (uy cells off cs) r
   |false=>.bad
  |none=>.bad
theorem zas:∀ (parts:List (Nat×Nat×AVal)) (cells:List AVal),(zdc cells parts).Of (Vg cells parts)
 |[],cells=>⟨_,rfl,fun _=>trivial⟩
 |(off,n,x)::r,cells=>by
  simp only[zdc,Vg]
  split
  ·rename_i cs hc
   simp only[hc]
   split
   ·rename_i h
    simp only[pA] at h
    have h1:=pB h.1
    have h2:=p9 h.2
    have ih:=zas r (uy cells off cs)
    cases hy:zdc (uy cells off cs) r with
    |ok s v=>
     rw[hy] at ih
     obtain⟨side,hx,hs⟩:=ih
     rw[hx]
     exact⟨_,rfl,fun h=>⟨h1,h2,hs h⟩⟩
    |bad=>trivial
    |row es i s f=>
     rw[hy] at ih
     obtain⟨side,hx,hs⟩:=ih
     rw[hx]
     exact⟨_,rfl,fun h=>⟨h1,h2,hs h⟩⟩
    |pick v s=>
     rw[hy] at ih
     obtain⟨side,hx,hs⟩:=ih
     rw[hx]
     exact⟨_,rfl,fun h=>⟨h1,h2,hs h⟩⟩
    |fork j len s f=>
     rw[hy] at ih
     obtain⟨side,v,hx,hs⟩:=ih
     rw[hx]
     exact⟨_,_,rfl,fun c hc hj h=>⟨⟨h1,h2,(hs c hc hj h).1⟩,(hs c hc hj h).2⟩⟩
   ·trivial
  ·trivial
def zzt(lo hi:Nat→Option Int):AVal→YR:=fun x=>(zhv lo hi x).toY
def XR.toP:XR→YR
 |.ok s v=>.pick v s
 |.bad=>.bad
theorem XR.toP_of(x:XR):x.toP.Of x:=by
 cases x with
 |ok s v=>exact⟨s,rfl,fun h=>h⟩
 |bad=>trivial
def y2n(s:Nat)(lo hi:Nat→Option Int)(mx:Option (Option Int))(keep:Bool):AVal→YR:=fun x=>(zzn s lo hi mx keep x).toP
def zyh(isMax:Bool):AVal→List AVal→YR
 |v,[]=>.ok none v
 |.int k a,.int k' b::r=>match zo2 k k' with
  |true=>zyh isMax (.int k (if isMax then(if b > a then b else a) else(if b<a then b else a))) r
  |false=>.bad
 |_,_=>.bad
theorem zlz(m:Bool):∀ (l:List AVal) (v:AVal),(zyh m v l).Of (zsr m v l)
 |[],v=>by simp only[zyh,zsr];exact⟨_,rfl,fun _=>trivial⟩
 |y::r,v=>by
  cases v<;>cases y<;>try trivial
  rename_i k a k' b
  simp only[zyh,zsr]
  split
  ·rename_i hk
   have hk:=z83 hk
   subst hk
   have ih:=zlz m r (.int k (if m then(if b > a then b else a) else(if b<a then b else a)))
   cases hy:zyh m (.int k (if m then(if b > a then b else a) else(if b<a then b else a))) r with
   |ok s v=>
    rw[hy] at ih
    obtain⟨side,hx,hs⟩:=ih
    rw[hx]
    exact⟨_,rfl,fun h=>⟨rfl,hs h⟩⟩
   |bad=>trivial
   |row es i s f=>
    rw[hy] at ih
    obtain⟨side,hx,hs⟩:=ih
    rw[hx]
    exact⟨_,rfl,fun h=>⟨rfl,hs h⟩⟩
   |pick v s=>
    rw[hy] at ih
    obtain⟨side,hx,hs⟩:=ih
    rw[hx]
    exact⟨_,rfl,fun h=>⟨rfl,hs h⟩⟩
   |fork j len s f=>
    rw[hy] at ih
    obtain⟨side,v,hx,hs⟩:=ih
    rw[hx]
    exact⟨_,_,rfl,fun c hc hj h=>⟨⟨rfl,(hs c hc hj h).1⟩,(hs c hc hj h).2⟩⟩
  ·trivial
def zzo(isMax:Bool):List AVal→YR
 |.int k a::r=>zyh isMax (.int k a) r
 |_=>.bad
def zp8(ks:List CK)(ka g ok:Bool)(zs:List AVal)(H:AHeap)(k:AVal):AVal→YR
 |.val (.map none)=>match Ud ks ka k with
  |true=>.ok none (zyi g ok zs none)
  |false=>.bad
 |.map b=>match H.get b with
  |some (.amap es)=>match Ud ks ka k with
   |true=>.pick (zyi g ok zs ((zal ks k es).getD none)) ((zal ks k es).isSome=true)
   |false=>.bad
  |_=>.bad
 |_=>.bad
theorem zra(ks:List CK)(ka g ok:Bool)(zs:List AVal)(H:AHeap)(k x:AVal):(zp8 ks ka g ok zs H k x).Of (zbz ks ka g ok zs H k x):=by
 unfold zp8 zbz
 split
 ·split
  ·rename_i h;rw[if_pos h];exact⟨_,rfl,fun _=>trivial⟩
  ·trivial
 ·split
  ·rename_i hg
   split
   ·rename_i h;simp only[hg];rw[if_pos h];exact⟨_,rfl,fun h=>h⟩
   ·trivial
  ·trivial
 ·trivial
def z5d(e:Env)(H:AHeap):LOp→YR
 |.mv x=>.ok (x.needY e) (x.ev e)
 |.pick c a b=>(zvj e (a.needY e) (b.needY e) (c.ev e) a b).and (c.needY e)
 |.build zs parts=>(zdc zs (Zz e parts)).and (zbl e parts)
 |.load g n a=>(zx7 g n H (a.ev e)).and (a.needY e)
 |.nilck x=>(zcl (x.ev e)).toY0.and (x.needY e)
 |.bin op x y=>(y15 op (x.ev e) (y.ev e)).and (Wf (x.needY e) (y.needY e))
 |.eq neg k x y=>(yeq neg k (x.ev e) (y.ev e)).and (Wf (x.needY e) (y.needY e))
 |.un op x=>(xun op (x.ev e)).toY0.and (x.needY e)
 |.conv (.int k) x=>match x.ev e with
  |.int _ n=>.ok (x.needY e) (.int k (k.wrap n))
  |_=>.bad
 |.conv .same x=>match x.ev e with
  |.str l=>.ok (x.needY e) (.str l)
  |_=>.bad
 |.mkfn f a c=>.ok (Wf (z0u e a) (z0u e c)) (.fn f (evs e a) (evs e c))
 |.slStr x lo hi=>(zzt (fun d=>kn e d lo) (fun d=>kn e d hi) (x.ev e)).and (Wf (x.needY e) (Wf (z4e e lo) (z4e e hi)))
 |.slSl s x lo hi mx=>(y2n s (fun d=>kn e d lo) (fun d=>kn e d hi) (zes e mx) (hi.isNone&&mx.isNone) (x.ev e)).and (Wf (x.needY e) (Wf (z4e e lo) (Wf (z4e e hi) (z4e e mx))))
 |.slAr n s x=>(ztk n s H (x.ev e)).toP.and (x.needY e)
 |.faddr off x=>(zb3 off (x.ev e)).toY0.and (x.needY e)
 |.field g n off x=>(zqx g n off (x.ev e)).and (x.needY e)
 |.iaddr s x i=>(zo9 s (x.ev e).rd (i.ev e)).and (Wf (x.needY e) (i.needY e))
 |.iaddrA n s x i=>(zdq n s (x.ev e) i (i.ev e)).and (Wf (x.needY e) (i.needY e))
 |.iaddrR n s x i=>(ze2 n s H (x.ev e) (i.ev e)).and (Wf (x.needY e) (i.needY e))
 |.idxS x i=>(ztw (x.ev e) (i.ev e)).toY.and (Wf (x.needY e) (i.needY e))
 |.idxA n s g x i=>(zy9 n s g (x.ev e) i (i.ev e)).and (Wf (x.needY e) (i.needY e))
 |.ext k x=>(y1n k (x.ev e)).and (x.needY e)
 |.len true x=>(znq (x.ev e)).toY0.and (x.needY e)
 |.len false x=>(zn1 (x.ev e).rd).toY0.and (x.needY e)
 |.mnx m args=>(zzo m (evs e args)).and (z0u e args)
 |.mlook ks ka g ok zs x k=>(zp8 ks ka g ok zs H (k.ev e) (x.ev e)).and (Wf (x.needY e) (k.needY e))
 |.mlen x=>(zlm H (x.ev e)).toY0.and (x.needY e)
 |_=>.bad
theorem Js(e:Env)(H:AHeap)(op:LOp):(z5d e H op).Of (ua e H op):=by
 have h2:∀ {x y:LOpd},Zk (Wf (x.needY e) (y.needY e))→x.need e∧y.need e:=fun h=>by rw[w7,zk,zk] at h;exact h
 cases op<;>simp only[z5d,ua]<;>try trivial
 case mv x=>exact⟨_,rfl,(zk e x).1⟩
 case pick c a b=>
  refine YR.Of.and ?_ (zk e c).1
  unfold zvj zso
  split
  ·rename_i cc hcc
   simp only[hcc]
   split
   ·rename_i v hv
    rw[zoy hv]
    refine⟨_,rfl,fun h=>?_⟩
    rw[w7,z9s,z9s,zk,zk] at h
    exact h
   ·trivial
  ·trivial
 case build zs parts=>exact(zas _ _).and (z5o e parts).1
 case load g n a=>exact(zs7 _ _ _ _).and (zk e a).1
 case nilck x=>
  refine YR.Of.and (XR.toY0_of fun s v h=>?_) (zk e x).1
  unfold zcl at h
  split at h<;>simp only[XR.ok.injEq,reduceCtorEq] at h<;>(obtain⟨rfl,_⟩:=h;trivial)
 case bin op x y=>exact(zx9 _ _ _).and h2
 case eq neg k x y=>exact(zzi _ _ _ _).and h2
 case mlook ks ka g ok zs x k=>exact(zra _ _ _ _ _ _ _ _).and h2
 case mlen x=>
  refine YR.Of.and (XR.toY0_of fun s v h=>?_) (zk e x).1
  unfold zlm at h
  split at h<;>(try split at h)<;>simp only[XR.ok.injEq,reduceCtorEq] at h<;>(obtain⟨rfl,_⟩:=h;trivial)
 case un op x=>
  refine YR.Of.and (XR.toY0_of fun s v h=>?_) (zk e x).1
  unfold xun at h
  split at h<;>(try split at h)<;>simp only[XR.ok.injEq,reduceCtorEq] at h<;>(obtain⟨rfl,_⟩:=h;trivial)
 case conv k x=>
  cases k<;>simp only<;>try trivial
  ·split
   ·rename_i h;simp only[h];exact⟨_,rfl,(zk e x).1⟩
   ·trivial
  ·split
   ·rename_i h;simp only[h];exact⟨_,rfl,(zk e x).1⟩
   ·trivial
 case mkfn f a c=>exact⟨_,rfl,fun h=>by rw[w7,Xm,Xm] at h;exact h⟩
 case slStr x lo hi=>exact(XR.toY_of _).and (fun h=>by rw[w7,w7,zk,Wd,Wd] at h;exact h)
 case slSl s x lo hi mx=>exact(XR.toP_of _).and (fun h=>by rw[w7,w7,w7,zk,Wd,Wd,Wd] at h;exact h)
 case slAr k s x=>exact(XR.toP_of _).and (zk e x).1
 case faddr off x=>
  refine YR.Of.and (XR.toY0_of fun s v h=>?_) (zk e x).1
  unfold zb3 at h
  split at h<;>simp only[XR.ok.injEq,reduceCtorEq] at h<;>(obtain⟨rfl,_⟩:=h;trivial)
 case field g n off x=>exact(zrl _ _ _ _).and (zk e x).1
 case iaddr s x i=>exact(zly _ _ _).and h2
 case iaddrA n s x i=>exact(zkn _ _ _ _ _).and h2
 case iaddrR n s x i=>exact(zk8 _ _ _ _ _).and h2
 case idxS x i=>exact(XR.toY_of _).and h2
 case idxA n s g x i=>exact(zss _ _ _ _ _ _).and h2
 case ext k x=>exact(zxk _ _).and (zk e x).1
 case len st x=>
  cases st with
  |true=>
   refine YR.Of.and (XR.toY0_of fun s v h=>?_) (zk e x).1
   unfold znq at h
   split at h<;>simp only[XR.ok.injEq,reduceCtorEq] at h<;>(obtain⟨rfl,_⟩:=h;trivial)
  |false=>
   refine YR.Of.and (XR.toY0_of fun s v h=>?_) (zk e x).1
   unfold zn1 at h
   split at h<;>simp only[XR.ok.injEq,reduceCtorEq] at h<;>(obtain⟨rfl,_⟩:=h;trivial)
 case mnx m args=>
  refine YR.Of.and ?_ (Xm e args).1
  unfold zzo ztt
  split
  ·rename_i h;simp only[h];exact zlz _ _ _
  ·trivial
end Go.Fx
namespace Go.Fx
variable {P:Program}
def zm8(H:AHeap)(s:Nat):AVal→Option (Option Prop×List (List AVal))
 |.isl s' es _=>match pF s' s with
  |true=>some (none,es)
  |false=>none
 |.osl _ s' es=>match pF s' s with
  |true=>some (none,es)
  |false=>none
 |.msl b s' off len _=>match H.get b with
  |some (.rows s'' es)=>match pF s' s&&pF s'' s with
   |true=>some (some (off+len≤es.length),(es.drop off).take len)
   |false=>none
  |_=>none
 |.val (.slice none 0 0)=>some (none,[])
 |.str l=>match pF s 1 with
  |true=>some (none,l.map fun c=>[.int .u8 (c.toNat:Int)])
  |false=>none
 |_=>none
theorem z91{H:AHeap}{s:Nat}{x:AVal}{so:Option Prop}{rows:List (List AVal)}(h:zm8 H s x=some (so,rows)):∃p,Jn H s x=some (p,rows)∧(Zk so→p):=by
 unfold zm8 at h
 unfold Jn
 split at h
 ·split at h<;>simp only[p0,pG,reduceCtorEq] at h
  rename_i hb
  obtain⟨rfl,rfl⟩:=h
  exact⟨_,rfl,fun _=>pB hb⟩
 ·split at h<;>simp only[p0,pG,reduceCtorEq] at h
  rename_i hb
  obtain⟨rfl,rfl⟩:=h
  exact⟨_,rfl,fun _=>pB hb⟩
 ·split at h<;>try (cases h;done)
  rename_i hg
  split at h<;>simp only[p0,pG,reduceCtorEq] at h
  rename_i hb
  obtain⟨rfl,rfl⟩:=h
  simp only[pA] at hb
  simp only[hg]
  exact⟨_,rfl,fun hh=>⟨pB hb.1,pB hb.2,hh⟩⟩
 ·simp only[p0,pG] at h
  obtain⟨rfl,rfl⟩:=h
  exact⟨_,rfl,fun _=>trivial⟩
 ·split at h<;>simp only[p0,pG,reduceCtorEq] at h
  rename_i hb
  obtain⟨rfl,rfl⟩:=h
  exact⟨_,rfl,fun _=>pB hb⟩
 ·cases h
def z3j:List (List AVal)→List (Nat×AVal)→Option (List (List AVal))
 |rows,[]=>some rows
 |rows,(i,x)::r=>match x.cells? with
  |some cs=>match pF cs.length ((rows.getD i []).length)&&pK (i+1) rows.length with
   |true=>z3j (rows.set i cs) r
   |false=>none
  |none=>none
theorem z5w:∀ {parts:List (Nat×AVal)} {rows rs:List (List AVal)},z3j rows parts=some rs→∃p,z0k rows parts=some (p,rs)∧p
 |[],rows,rs,h=>by simp only[z3j,p0] at h;subst h;exact⟨True,rfl,trivial⟩
 |(i,x)::r,rows,rs,h=>by
  simp only[z3j] at h
  split at h<;>try (cases h;done)
  rename_i cs hc
  split at h<;>try (cases h;done)
  rename_i hb
  simp only[pA] at hb
  obtain⟨p,h1,h2⟩:=z5w h
  simp only[z0k,hc,h1]
  exact⟨_,rfl,pB hb.1,p9 hb.2,h2⟩
def zug(s bytes:Nat)(H:AHeap)(n:Nat)(K:AVal→AHeap→Nat→Prop)(x:AVal)(rows2:List (List AVal)):Prop:=
 match x with
 |.val (.slice none 0 0)=>∃es',rows2=es'∧es'.length*bytes≤140737488355328∧K (.osl (n,0) s es') (((n,0),.tok)::H) (n+1)
 |.isl s' es f=>match pF s' s with
  |true=>∃es',es++rows2=es'∧(f=true∧es'.length*bytes≤140737488355328)∧K (.osl (n,0) s es') (((n,0),.tok)::H) (n+1)
  |false=>False
 |.osl tok s' es=>match pF s' s,H.get tok with
  |true,some .tok=>∃es',es++rows2=es'∧es'.length*bytes≤140737488355328∧K (.osl (n,0) s es') (((n,0),.tok)::H.del tok) (n+1)
  |_,_=>False
 |_=>False
theorem zho{s bytes:Nat}{H:AHeap}{n:Nat}{K K':AVal→AHeap→Nat→Prop}{x:AVal}{rows2:List (List AVal)}(h:zug s bytes H n K x rows2)(hk:∀r H n,K r H n→K' r H n):zcu s bytes H n K' x rows2:=by
 unfold zug at h
 unfold zcu
 split at h
 ·obtain⟨es',rfl,h1,h2⟩:=h
  exact⟨h1,hk _ _ _ h2⟩
 ·split at h<;>try (exact h.elim)
  rename_i hb
  obtain⟨es',rfl,⟨h0,h1⟩,h2⟩:=h
  exact⟨pB hb,h0,by simpa using h1,hk _ _ _ h2⟩
 ·split at h<;>try (exact h.elim)
  rename_i hb hg
  obtain⟨es',rfl,h1,h2⟩:=h
  exact⟨pB hb,hg,by simpa using h1,hk _ _ _ h2⟩
 ·exact h.elim
def y1m(s bytes:Nat)(H:AHeap)(n:Nat)(K:AVal→AHeap→Nat→Prop)(x:AVal)(rows2:List (List AVal)):Prop:=
 match x with
 |.val (.slice none 0 0)=>rows2≠[]∧∃es',rows2=es'∧es'.length*bytes≤140737488355328∧K (.msl (n,0) s 0 es'.length false) (((n,0),.rows s es')::H) (n+1)
 |.isl s' es f=>match pF s' s with
  |true=>rows2≠[]∧∃es',es++rows2=es'∧(f=true∧es'.length*bytes≤140737488355328)∧K (.msl (n,0) s 0 es'.length false) (((n,0),.rows s es')::H) (n+1)
  |false=>False
 |.msl b s' off len f=>match H.get b with
  |some (.rows s'' es)=>match pF s' s&&pF s'' s with
   |true=>(f=true→rows2≠[])∧off+len≤es.length∧∃es',(es.drop off).take len++rows2=es'∧es'.length*bytes≤140737488355328 ∧
    K (.msl (n,0) s 0 es'.length false) (((n,0),.rows s es')::(match f with|true=>H|false=>H.del b)) (n+1)
   |false=>False
  |_=>False
 |_=>False
theorem zwc{s bytes:Nat}{H:AHeap}{n:Nat}{K K':AVal→AHeap→Nat→Prop}{x:AVal}{rows2:List (List AVal)}(h:y1m s bytes H n K x rows2)(hk:∀r H n,K r H n→K' r H n):zvv s bytes H n K' x rows2:=by
 unfold y1m at h
 unfold zvv
 split at h
 ·obtain⟨h0,es',rfl,h1,h2⟩:=h
  exact⟨fun h=>absurd h h0,fun _=>⟨h1,hk _ _ _ h2⟩⟩
 ·split at h<;>try (exact h.elim)
  rename_i hb
  obtain⟨hne,es',rfl,⟨h0,h1⟩,h2⟩:=h
  exact⟨pB hb,fun h=>absurd h hne,fun _=>⟨h0,by simpa using h1,by simpa using hk _ _ _ h2⟩⟩
 ·split at h<;>try (exact h.elim)
  rename_i hg
  split at h<;>try (exact h.elim)
  rename_i hb
  simp only[pA] at hb
  obtain⟨hne,hl,es',rfl,h1,h2⟩:=h
  simp only[hg]
  rename_i off len f _ _ es _
  have e:((es.drop off).take len).length=len:=List.length_take_of_le (by simp only[List.length_drop];omega)
  refine⟨pB hb.1,pB hb.2,hl,fun hf h=>absurd h (hne hf),fun _=>?_⟩
  rw[List.length_append,e] at h1 h2
  refine⟨h1,hk _ _ _ ?_⟩
  cases f<;>simpa using h2
 ·exact h.elim
def zyg(P:Program)(e:Env)(H:AHeap)(n:Nat)(K:AVal→AHeap→Nat→Prop):LOp→Prop
 |.alloc zs=>K (.ptr (n,0) 0 0) (((n,0),.one zs)::H) (n+1)
 |.allocB T el=>K (.ptr (n,0) 0 0) (((n,0),.bld T (n,1))::((n,1),.buf el [])::H) (n+1)
 |.allocR s zs=>∃es',Ky s (zs.length / s) zs=es'∧K (.ptr (n,0) 0 0) (((n,0),.rows s es')::H) (n+1)
 |.box x=>match (x.ev e).cells? with
  |some cs=>z0t (x.needY e) (K (.ptr (n,0) 0 0) (((n,0),.one cs)::H) (n+1))
  |none=>False
 |.mkSl vm s zs len parts=>match z3j (pN len zs) (evI e parts),pF zs.length s with
  |some rows,true=>match vm with
   |true=>match Zn rows with
    |some rows'=>z0t (z5u e parts) (K (.isl s (rows'.map (u6 zs)) true) H n)
    |none=>False
   |false=>z0t (z5u e parts) (K (.msl (n,0) s 0 len true) (((n,0),.rows s (rows.map (u6 zs)))::H) (n+1))
  |_,_=>False
 |.store m a x=>match a.ev e,(x.ev e).cells? with
  |.ptr b i off,some cs=>match H.get b with
   |some (.rows s es)=>z0t (Wf (a.needY e) (x.needY e)) (∃es',es.set i (uy (es.getD i []) off cs)=es'∧(cs.length=m∧i<es.length∧off+m≤s)∧K .any (H.set b (.rows s es')) n)
   |some (.one rs)=>match i,pF cs.length m&&pK (off+m) rs.length with
    |0,true=>z0t (Wf (a.needY e) (x.needY e)) (K .any (H.set b (.one (uy rs off cs))) n)
    |_,_=>False
   |_=>False
  |_,_=>False
 |.conv (.s2b vm) x=>match x.ev e with
  |.str l=>match vm with
   |true=>z0t (x.needY e) (∃es',(l.map fun c=>[AVal.int .u8 (c.toNat:Int)])=es'∧K (.isl 1 es' false) H n)
   |false=>z0t (x.needY e) (K (.msl (n,0) 1 0 l.length false) (((n,0),.rows 1 (l.map fun c=>[.int .u8 (c.toNat:Int)]))::H) (n+1))
  |_=>False
 |.conv .b2s x=>match x.ev e,zm8 H 1 (x.ev e) with
  |.str _,_=>False
  |_,some (so,rows)=>z0t (Wf (x.needY e) so) (∃l:List UInt8,rows.map z48=l∧(∀r∈rows,∃m,r=[.int .u8 m])∧K (.str l) H n)
  |_,none=>False
 |.mkslice vm s bytes zs l c=>match l.ev e,c.ev e with
  |.int .i64 l',.int .i64 c'=>match vm with
   |true=>z0t (Wf (l.needY e) (c.needY e)) ((l'=0∧l'≤c'∧c'*bytes≤140737488355328)∧K (.osl (n,0) s []) (((n,0),.tok)::H) (n+1))
   |false=>z0t (Wf (l.needY e) (c.needY e)) (∃es' fl,(pN l'.toNat (u6 zs zs)=es'∨pN l'.toNat zs=es')∧decide (c'=l')=fl∧(0≤l'∧l'≤c'∧c'*bytes≤140737488355328)∧K (.msl (n,0) s 0 es'.length fl) (((n,0),.rows s es')::H) (n+1))
  |_,_=>False
 |.call f args=>z0t (z0u e args) (ACalls P f (evs e args) H n K)
 |.callv x args=>match x.ev e with
  |.fn f first caps=>z0t (Wf (x.needY e) (z0u e args)) (ACallsC P f first (evs e args) caps H n K)
  |_=>False
 |.app vm s bytes x y=>match zm8 H s (y.ev e) with
  |some (so,rows2)=>match vm with
   |true=>match y.ev e with
    |.msl _ _ _ _ _=>z0t (Wf (x.needY e) (Wf (y.needY e) so)) (∃rows2',Zn rows2=some rows2'∧zug s bytes H n K (x.ev e) rows2')
    |_=>z0t (Wf (x.needY e) (Wf (y.needY e) so)) (zug s bytes H n K (x.ev e) rows2)
   |false=>z0t (Wf (x.needY e) (Wf (y.needY e) so)) (y1m s bytes H n K (x.ev e) rows2)
  |none=>False
 |.copy s x y=>match x.ev e,zm8 H s (y.ev e) with
  |.msl b s' off len _,some (so,rows2)=>match H.get b with
   |some (.rows s'' es)=>match pF s' s&&pF s'' s with
    |true=>z0t (Wf (x.needY e) (Wf (y.needY e) so)) (∃es',es.take off++rows2.take len++es.drop (off+min rows2.length len)=es'∧off+len≤es.length ∧
     K (.int .i64 ((min rows2.length len:Nat):Int)) (H.set b (.rows s es')) n)
    |false=>False
   |_=>False
  |_,_=>False
 |.mkmap none=>K (.map (n,0)) (((n,0),.amap [])::H) (n+1)
 |.mset ks ka g zs m k x=>match m.ev e,zzg g zs (x.ev e) with
  |.map b,some y=>match H.get b,Ud ks ka (k.ev e) with
   |some (.amap es),true=>z0t (Wf (m.needY e) (Wf (k.needY e) (x.needY e))) (∃es',zxf ks (k.ev e) y es=some es'∧K .any (H.set b (.amap es')) n)
   |_,_=>False
  |_,_=>False
 |.mdel ks ka m k=>match m.ev e with
  |.map b=>match H.get b,Ud ks ka (k.ev e) with
   |some (.amap es),true=>z0t (Wf (m.needY e) (k.needY e)) (∃es',zej ks (k.ev e) es=some es'∧K .any (H.set b (.amap es')) n)
   |_,_=>False
  |_=>False
 |.range x=>match x.ev e with
  |.map b=>match H.get b with
   |some (.amap es)=>z0t (x.needY e) (∀ (arr:Array MapEntry) (ck:Nat),K (.ptr (n,0) 0 0) (((n,0),.itr (some b) arr ck [])::H.set b (.rmap es arr ck)) (n+1))
   |_=>False
  |.val (.map none)=>z0t (x.needY e) (K (.ptr (n,0) 0 0) (((n,0),.itr none #[] 0 [])::H) (n+1))
  |_=>False
 |.next x=>match x.ev e with
  |.ptr i 0 0=>match H.get i with
   |some (.itr none _ _ _)=>z0t (x.needY e) (K (.tup [.bool false]) H n)
   |some (.itr (some b) arr ck seen)=>match H.get b with
    |some (.rmap es arr' ck')=>z0t (x.needY e) ((arr'=arr∧ck'=ck)∧((∀j,j<es.length→j∈seen)→K (.tup [.bool false]) H n) ∧
     (∀j,j<es.length→j∉seen→K (.tup [.bool true,.any,.any]) (H.set i (.itr (some b) arr ck (j::seen))) n))
    |_=>False
   |_=>False
  |_=>False
 |.entry x=>match x.ev e with
  |.ptr i 0 0=>match H.get i with
   |some (.itr (some b) arr ck (j::seen))=>match H.get b with
    |some (.rmap es arr' ck')=>z0t (x.needY e) ((arr'=arr∧ck'=ck)∧∃p,es[j]?=some p∧K (.tup [p.1,p.2]) H n)
    |_=>False
   |_=>False
  |_=>False
 |_=>False
theorem z8x{e:Env}{H:AHeap}{n:Nat}{K K':AVal→AHeap→Nat→Prop}{op:LOp}(h:zyg P e H n K op)(hk:∀r H n,K r H n→K' r H n):Yf P e H n K' op:=by
 have h2:∀ {x y:LOpd},Zk (Wf (x.needY e) (y.needY e))→x.need e∧y.need e:=fun h=>by rw[w7,zk,zk] at h;exact h
 cases op<;>simp only[zyg] at h<;>try (exact h.elim)
 case alloc zs=>exact hk _ _ _ h
 case allocR s zs=>obtain⟨es',rfl,h⟩:=h;exact hk _ _ _ h
 case allocB T el=>exact hk _ _ _ h
 case box x=>
  simp only[Yf]
  split at h<;>try (exact h.elim)
  rename_i cs hc
  rw[w8,zk] at h
  simp only[hc]
  exact⟨h.1,hk _ _ _ h.2⟩
 case mkSl vm s zs len parts=>
  simp only[Yf]
  split at h<;>try (exact h.elim)
  rename_i rows hr hb
  obtain⟨p,h1,h1'⟩:=z5w hr
  have hb:=pB hb
  simp only[h1]
  cases vm with
  |true=>
   simp only at h ⊢
   split at h<;>try (exact h.elim)
   rename_i rows' hi
   rw[w8,z16] at h
   simp only[hi]
   exact⟨hb,h.1,h1',hk _ _ _ h.2⟩
  |false=>
   simp only at h ⊢
   rw[w8,z16] at h
   exact⟨hb,h.1,h1',_,.inl rfl,hk _ _ _ h.2⟩
 case store m a x=>
  simp only[Yf]
  split at h<;>try (exact h.elim)
  rename_i b i off cs ha hc
  simp only[ha,hc]
  split at h
  ·rename_i s es hg
   simp only[hg]
   rw[w8] at h
   obtain⟨hn,es',rfl,⟨k1,k2,k3⟩,k4⟩:=h
   exact⟨(h2 hn).1,(h2 hn).2,k1,k2,k3,hk _ _ _ k4⟩
  ·rename_i rs hg
   simp only[hg]
   split at h<;>try (exact h.elim)
   rename_i hb
   simp only[pA] at hb
   rw[w8] at h
   exact⟨(h2 h.1).1,(h2 h.1).2,pB hb.1,rfl,p9 hb.2,hk _ _ _ h.2⟩
  ·exact h.elim
 case conv k x=>
  cases k<;>simp only at h<;>try (exact h.elim)
  case s2b vm=>
   simp only[Yf]
   split at h<;>try (exact h.elim)
   rename_i l hl
   simp only[hl]
   cases vm with
   |false=>simp only at h ⊢;rw[w8,zk] at h;exact⟨h.1,hk _ _ _ h.2⟩
   |true=>
    simp only at h ⊢
    rw[w8,zk] at h
    obtain⟨h1,es',rfl,h2⟩:=h
    exact⟨h1,hk _ _ _ h2⟩
  case b2s=>
   simp only[Yf]
   split at h<;>try (exact h.elim)
   rename_i so rows hr hns
   obtain⟨p,h1,h1'⟩:=z91 hr
   simp only[h1]
   rw[w8,w7,zk] at h
   obtain⟨⟨k1,k2⟩,l,rfl,k4,k3⟩:=h
   exact⟨k1,fun l' hl'=>hns l' hl',h1' k2,k4,hk _ _ _ k3⟩
 case mkslice vm s bytes zs l c=>
  simp only[Yf]
  split at h<;>try (exact h.elim)
  rename_i l' c' hl hc
  simp only[hl,hc]
  cases vm with
  |true=>
   simp only at h ⊢
   rw[w8] at h
   obtain⟨hn,⟨k1,k2,k3⟩,k4⟩:=h
   exact⟨(h2 hn).1,(h2 hn).2,k1,k2,k3,hk _ _ _ k4⟩
  |false=>
   simp only at h ⊢
   rw[w8] at h
   obtain⟨hn,es',fl,hes,rfl,⟨k1,k2,k3⟩,k4⟩:=h
   have hlen:es'.length=l'.toNat:=by rcases hes with rfl|rfl<;>simp
   rw[hlen] at k4
   exact⟨(h2 hn).1,(h2 hn).2,k1,k2,k3,es',hes.imp Eq.symm Eq.symm,hk _ _ _ k4⟩
 case mkmap r=>
  cases r with
  |none=>exact hk _ _ _ h
  |some x=>exact h.elim
 case range x=>
  simp only[Yf]
  split at h
  ·rename_i b hx
   simp only[hx]
   split at h<;>try (exact h.elim)
   rename_i es hg
   simp only[hg]
   rw[w8,zk] at h
   exact⟨h.1,fun arr ck=>hk _ _ _ (h.2 arr ck)⟩
  ·rename_i hx
   simp only[hx]
   rw[w8,zk] at h
   exact⟨h.1,hk _ _ _ h.2⟩
  ·exact h.elim
 case next x=>
  simp only[Yf]
  split at h<;>try (exact h.elim)
  rename_i i hx
  simp only[hx]
  split at h
  ·rename_i hg
   simp only[hg]
   rw[w8,zk] at h
   exact⟨h.1,hk _ _ _ h.2⟩
  ·rename_i hg
   simp only[hg]
   split at h<;>try (exact h.elim)
   rename_i hb
   simp only[hb]
   rw[w8,zk] at h
   obtain⟨h1,⟨h2,h3⟩,h4,h5⟩:=h
   exact⟨h1,h2,h3,fun q=>hk _ _ _ (h4 q),fun j q1 q2=>hk _ _ _ (h5 j q1 q2)⟩
  ·exact h.elim
 case entry x=>
  simp only[Yf]
  split at h<;>try (exact h.elim)
  rename_i i hx
  simp only[hx]
  split at h<;>try (exact h.elim)
  rename_i hg
  simp only[hg]
  split at h<;>try (exact h.elim)
  rename_i hb
  simp only[hb]
  rw[w8,zk] at h
  obtain⟨h1,⟨h2,h3⟩,p,h4,h5⟩:=h
  exact⟨h1,h2,h3,p,h4,hk _ _ _ h5⟩
 case mset ks ka g zs m k x=>
  simp only[Yf]
  split at h<;>try (exact h.elim)
  rename_i b y hm hy
  simp only[hm,hy]
  split at h<;>try (exact h.elim)
  rename_i es hg hok
  simp only[hg]
  rw[w8,w7,w7,zk,zk,zk] at h
  obtain⟨⟨h1,h2',h3⟩,es',h4,h5⟩:=h
  simp only[h4]
  exact⟨h1,h2',h3,hok,hk _ _ _ h5⟩
 case mdel ks ka m k=>
  simp only[Yf]
  split at h<;>try (exact h.elim)
  rename_i b hm
  simp only[hm]
  split at h<;>try (exact h.elim)
  rename_i es hg hok
  simp only[hg]
  rw[w8,w7,zk,zk] at h
  obtain⟨⟨h1,h2'⟩,es',h4,h5⟩:=h
  simp only[h4]
  exact⟨h1,h2',hok,hk _ _ _ h5⟩
 case call f args=>
  rw[w8,Xm] at h
  exact⟨h.1,h.2.mono hk⟩
 case callv x args=>
  simp only[Yf]
  split at h<;>try (exact h.elim)
  rename_i f first caps hx
  rw[w8,w7,zk,Xm] at h
  simp only[hx]
  exact⟨h.1.1,h.1.2,h.2.mono hk⟩
 case app vm s bytes x y=>
  simp only[Yf]
  split at h<;>try (exact h.elim)
  rename_i so rows2 hr
  obtain⟨p,h1,h1'⟩:=z91 hr
  simp only[h1]
  cases vm with
  |true=>
   simp only at h ⊢
   split at h
   ·rename_i hy
    rw[w8,w7,w7,zk,zk] at h
    obtain⟨⟨k1,k2,k3⟩,rows2',k4,k5⟩:=h
    have:z2e (y.ev e) rows2=some rows2':=by rw[hy];exact k4
    simp only[this]
    exact⟨k1,k2,h1' k3,zho k5 hk⟩
   ·rename_i hy
    rw[w8,w7,w7,zk,zk] at h
    obtain⟨⟨k1,k2,k3⟩,k5⟩:=h
    have:z2e (y.ev e) rows2=some rows2:=by
     unfold z2e
     split
     ·rename_i h;exact absurd h (hy _ _ _ _ _)
     ·rfl
    simp only[this]
    exact⟨k1,k2,h1' k3,zho k5 hk⟩
  |false=>
   simp only at h ⊢
   rw[w8,w7,w7,zk,zk] at h
   obtain⟨⟨k1,k2,k3⟩,k5⟩:=h
   exact⟨k1,k2,h1' k3,zwc k5 hk⟩
 case copy s x y=>
  simp only[Yf]
  split at h<;>try (exact h.elim)
  rename_i b s' off len f so rows2 hx hr
  obtain⟨p,h1,h1'⟩:=z91 hr
  simp only[hx,h1]
  split at h<;>try (exact h.elim)
  rename_i s'' es hg
  simp only[hg]
  split at h<;>try (exact h.elim)
  rename_i hb
  simp only[pA] at hb
  rw[w8,w7,w7,zk,zk] at h
  obtain⟨⟨k1,k2,k3⟩,es',rfl,k4,k5⟩:=h
  exact⟨k1,k2,h1' k3,pB hb.1,pB hb.2,k4,hk _ _ _ k5⟩
def zqk(P:Program):List LOper→(Env→AHeap→Nat→Prop)→Env→AHeap→Nat→Prop
 |[],R,e,H,n=>R e H n
 |⟨d,op,none⟩::os,R,e,H,n=>match Zl op with
  |true=>(z5d e H op).run (fun v=>zqk P os R (e.put d v) H n)
  |false=>zyg P e H n (fun r H' n'=>zqk P os R (e.put d r) H' n') op
 |⟨d,op,some (g,want)⟩::os,R,e,H,n=>match Xw (e.get g) want with
  |some p=>match Zl op with
   |true=>(z5d e H op).runG p (fun v=>zqk P os R (e.put d v) H n)
   |false=>z6l p H n (fun K=>zyg P e H n K op) (fun r H' n'=>zqk P os R (e.put d r) H' n')
  |none=>False
theorem z3e{p:Bool}{H:AHeap}{n:Nat}{E E':(AVal→AHeap→Nat→Prop)→Prop}{K K':AVal→AHeap→Nat→Prop}(h:z6l p H n E K)(hE:∀ {K K':AVal→AHeap→Nat→Prop},E K→(∀r H n,K r H n→K' r H n)→E' K')(hk:∀r H n,K r H n→K' r H n):z6l p H n E' K':=by
 rcases h with⟨R,h1,h2⟩|⟨h1,h2⟩
 ·exact .inl ⟨R,fun hp=>hE (h1 hp) (fun _ _ _ h=>h),hk _ _ _ h2⟩
 ·exact .inr ⟨fun hp=>hE (h1 hp) hk,fun hp=>by obtain⟨u,h3,h4⟩:=h2 hp;exact⟨u,h3,hk _ _ _ h4⟩⟩
def y1r(x:XR)(p:Bool)(K:AVal→Prop):Prop:=match x with
 |.ok side v=>(∃u,(p=true→side∧v=u)∧K (.cnd p u))∨(p=false∧K (.tup []))
 |.bad=>p=false∧K (.tup [])
theorem z14{r:YR}{x:XR}(h:r.Of x){p:Bool}{K:AVal→Prop}(hk:r.runG p K):y1r x p K:=by
 have other:(p=false∧K (.tup []))→y1r x p K:=fun h'=>by
  cases x with
  |ok s v=>exact .inr h'
  |bad=>exact h'
 cases r with
 |ok s v=>
  obtain⟨side,rfl,hs⟩:=h
  cases s with
  |none=>exact .inl ⟨v,fun _=>⟨hs trivial,rfl⟩,hk⟩
  |some q=>exact .inl ⟨v,fun hp=>⟨hs (hk.1 hp),rfl⟩,hk.2⟩
 |row es i s f=>
  obtain⟨side,rfl,hs⟩:=h
  obtain⟨r,h1,h2⟩:=hk
  refine .inl ⟨f r,fun hp=>?_,h2⟩
  obtain⟨rfl,h3⟩:=h1 hp
  exact⟨hs h3,rfl⟩
 |pick v0 s=>
  obtain⟨side,rfl,hs⟩:=h
  obtain⟨v,h1,h2⟩:=hk
  refine .inl ⟨v,fun hp=>?_,h2⟩
  obtain⟨rfl,h3⟩:=h1 hp
  exact⟨hs h3,rfl⟩
 |fork j len s f=>exact other hk
 |bad=>exact other hk
theorem Kh{R:Env→AHeap→Nat→Prop}:∀ (os:List LOper) {e:Env} {H:AHeap} {n:Nat},zqk P os R e H n→z6o P os R e H n
 |[],e,H,n,h=>h
 |⟨d,op,none⟩::os,e,H,n,h=>by
  simp only[zqk] at h
  simp only[z6o]
  split at h
  ·rename_i hp
   obtain⟨side,v,h1,h2,h3⟩:=(Js e H op).run h
   simp only[hp,h1]
   exact⟨h2,Kh os h3⟩
  ·rename_i hp
   simp only[hp]
   exact z8x h (fun r H' n' h=>Kh os h)
 |⟨d,op,some (g,want)⟩::os,e,H,n,h=>by
  simp only[zqk] at h
  simp only[z6o]
  split at h<;>try (exact h.elim)
  rename_i p hg
  simp only[hg]
  split at h
  ·rename_i hp
   simp only[hp]
   have:=z14 (Js e H op) h
   cases hx:ua e H op with
   |ok side v=>
    rw[hx] at this
    rcases this with⟨u,h1,h2⟩|⟨h1,h2⟩
    ·exact .inl ⟨u,h1,Kh os h2⟩
    ·exact .inr ⟨h1,Kh os h2⟩
   |bad=>
    rw[hx] at this
    exact⟨this.1,Kh os this.2⟩
  ·rename_i hp
   simp only[hp]
   exact z3e h (fun h hk=>z8x h hk) (fun r H' n' h=>Kh os h)
def yqs:List LOper→(Env→AHeap→Nat→Prop)→Env→AHeap→Nat→Prop
 |[],R,e,H,n=>R e H n
 |⟨d,op,none⟩::os,R,e,H,n=>(z5d e H op).run (fun v=>yqs os R (e.put d v) H n)
 |⟨d,op,some (g,want)⟩::os,R,e,H,n=>match Xw (e.get g) want with
  |some p=>(z5d e H op).runG p (fun v=>yqs os R (e.put d v) H n)
  |none=>False
theorem zb2{R:Env→AHeap→Nat→Prop}:∀ (os:List LOper) {e:Env} {H:AHeap} {n:Nat},yqs os R e H n→xqs os R e H n
 |[],e,H,n,h=>h
 |⟨d,op,none⟩::os,e,H,n,h=>by
  simp only[yqs] at h
  simp only[xqs]
  obtain⟨side,v,h1,h2,h3⟩:=(Js e H op).run h
  simp only[h1]
  exact⟨h2,zb2 os h3⟩
 |⟨d,op,some (g,want)⟩::os,e,H,n,h=>by
  simp only[yqs] at h
  simp only[xqs]
  split at h<;>try (exact h.elim)
  rename_i p hg
  simp only[hg]
  have:=z14 (Js e H op) h
  cases hx:ua e H op with
  |ok side v=>
   rw[hx] at this
   rcases this with⟨u,h1,h2⟩|⟨h1,h2⟩
   ·exact .inl ⟨u,h1,zb2 os h2⟩
   ·exact .inr ⟨h1,zb2 os h2⟩
  |bad=>
   rw[hx] at this
   exact⟨this.1,zb2 os this.2⟩
def zy4(e:Env)(H:AHeap)(lo:LOper)(K:AVal→Prop):Prop:=
 match lo.guard with
 |none=>(z5d e H lo.op).run K
 |some (g,want)=>match Xw (e.get g) want with
  |some p=>(z5d e H lo.op).runG p K
  |none=>False
theorem zun{e:Env}{H:AHeap}{lo:LOper}{K:AVal→Prop}(h:zy4 e H lo K):∃v,(Kx e H lo).gives v∧K v:=by
 unfold zy4 at h
 unfold Kx
 split at h
 ·rename_i hg
  simp only[hg]
  obtain⟨side,v,h1,h2,h3⟩:=(Js _ _ _).run h
  rw[h1]
  exact⟨v,⟨h2,.inl rfl⟩,h3⟩
 ·rename_i g want hgu
  simp only[hgu]
  split at h<;>try (exact h.elim)
  rename_i p hg
  simp only[hg]
  have:=z14 (Js e H lo.op) h
  cases hx:ua e H lo.op with
  |ok side v=>
   rw[hx] at this
   rcases this with⟨u,h1,h2⟩|⟨h1,h2⟩
   ·exact⟨.cnd p u,⟨fun hp=>(h1 hp).1,.inr (.inr ⟨p,v,u,rfl,rfl,fun hp=>(h1 hp).2⟩)⟩,h2⟩
   ·subst h1
    exact⟨.tup [],⟨(fun hp=>by cases hp),.inr (.inl ⟨.inr ⟨v,rfl⟩,.inl rfl⟩)⟩,h2⟩
  |bad=>
   rw[hx] at this
   exact⟨.tup [],⟨this.1,.inl rfl⟩,this.2⟩
def YR.gives(r:YR)(v:AVal):Prop:=match r with
 |.ok s u=>z0t s (u=v)
 |.row es i s f=>s∧f (es.getD i [])=v
 |.pick u s=>s∧u=v
 |_=>False
theorem YR.Of.gives{r:YR}{x:XR}(h:r.Of x){v:AVal}(hg:r.gives v):∃side,x=.ok side v∧side:=by
 cases r with
 |ok s u=>
  obtain⟨side,rfl,hs⟩:=h
  rw[YR.gives,w8] at hg
  obtain⟨h1,rfl⟩:=hg
  exact⟨side,rfl,hs h1⟩
 |row es i s f=>
  obtain⟨side,rfl,hs⟩:=h
  obtain⟨h1,rfl⟩:=hg
  exact⟨side,rfl,hs h1⟩
 |pick u s=>
  obtain⟨side,rfl,hs⟩:=h
  obtain⟨h1,rfl⟩:=hg
  exact⟨side,rfl,hs h1⟩
 |fork j len s f=>exact hg.elim
 |bad=>exact hg.elim
def zg3(e:Env)(H:AHeap)(lo:LOper)(v:AVal):Prop:=
 match lo.guard with
 |none=>(z5d e H lo.op).gives v
 |some (g,want)=>match Xw (e.get g) want,v with
  |some p,.cnd q u=>q=p∧(p=true→(z5d e H lo.op).gives u)
  |_,_=>False
theorem zke{e:Env}{H:AHeap}{lo:LOper}{v:AVal}(h:zg3 e H lo v):(Kx e H lo).gives v:=by
 unfold zg3 at h
 unfold Kx
 split at h
 ·rename_i hg
  simp only[hg]
  obtain⟨side,h1,h2⟩:=(Js _ _ _).gives h
  rw[h1]
  exact⟨h2,.inl rfl⟩
 ·rename_i g want hgu
  simp only[hgu]
  split at h<;>try (exact h.elim)
  rename_i p q u hg
  simp only[hg]
  obtain⟨rfl,h⟩:=h
  cases q with
  |true=>
   obtain⟨side,h1,h2⟩:=(Js _ _ _).gives (h rfl)
   rw[h1]
   exact⟨fun _=>h2,.inl rfl⟩
  |false=>
   cases ua e H lo.op with
   |ok side x=>exact⟨(fun hp=>by cases hp),.inr (.inl ⟨.inr ⟨x,rfl⟩,.inr ⟨u,rfl⟩⟩)⟩
   |bad=>exact⟨rfl,.inr (.inl ⟨.inl rfl,.inr ⟨u,rfl⟩⟩)⟩
def zcp(loose:List Nat)(H:AHeap)(q:Prop):List (Nat×LOper×Env×AVal)→Prop
 |[]=>q
 |x::r=>match loose.contains x.1 with
  |true=>zg3 x.2.2.1 H x.2.1 x.2.2.2∧zcp loose H q r
  |false=>zcp loose H q r
theorem z4h{loose:List Nat}{H:AHeap}{q:Prop}:∀ {done:List (Nat×LOper×Env×AVal)},zcp loose H q done→(∀x∈done,x.1∈loose→(Kx x.2.2.1 H x.2.1).gives x.2.2.2)∧q
 |[],h=>⟨fun x hx=>absurd hx (List.not_mem_nil),h⟩
 |y::r,h=>by
  unfold zcp at h
  split at h
  ·obtain⟨h1,h2⟩:=h
   obtain⟨h3,h4⟩:=z4h h2
   refine⟨fun x hx hl=>?_,h4⟩
   rcases pQ.1 hx with rfl|hx
   ·exact zke h1
   ·exact h3 x hx hl
  ·rename_i hc
   obtain⟨h3,h4⟩:=z4h h
   refine⟨fun x hx hl=>?_,h4⟩
   rcases pQ.1 hx with rfl|hx
   ·rw[List.contains_iff_mem.2 hl] at hc;cases hc
   ·exact h3 x hx hl
def zwg(P:Program)(e:Env)(H:AHeap)(n:Nat)(K:AVal→AHeap→Nat→Prop)(lo:LOper):Prop:=
 match lo.guard with
 |none=>zyg P e H n K lo.op
 |some (g,want)=>match Xw (e.get g) want with
  |some p=>z6l p H n (fun K=>zyg P e H n K lo.op) K
  |none=>False
theorem ztp{e:Env}{H:AHeap}{n:Nat}{K K':AVal→AHeap→Nat→Prop}{lo:LOper}(h:zwg P e H n K lo)(hk:∀r H n,K r H n→K' r H n):z8w P e H n K' lo:=by
 unfold zwg at h
 unfold z8w
 split at h
 ·rename_i hg;simp only[hg];exact z8x h hk
 ·rename_i g want hg
  simp only[hg]
  split at h
  ·rename_i p hp;simp only[hp];exact z3e h (fun h hk=>z8x h hk) hk
  ·exact h.elim
def zyy(b:Bool)(x:Nat×LOper×Env×AVal)(done:List (Nat×LOper×Env×AVal)):List (Nat×LOper×Env×AVal):=match b with
 |true=>x::done
 |false=>done
def yd(P:Program):List DItem→Nat→List (Nat×LOper×Env×AVal)→(Env→AHeap→Nat→Prop)→Env→AHeap→Nat→Prop
 |[],_,_,R,e,H,n=>R e H n
 |it::rest,p,done,R,e,H,n=>
  match Zl it.lo.op with
  |true=>zy4 (it.lo.sees e) H it.lo (fun v=>yd P rest (p+1) (zyy (Q6 it.lo.op) (p,it.lo,it.lo.sees e,v) done) R (e.put it.lo.dst v) H n)
  |false=>zwg P (it.lo.sees e) H n (fun v H' n'=>zcp it.loose H' (yd P rest (p+1) done R (e.put it.lo.dst v) H' n') done) it.lo
theorem ztv{R:Env→AHeap→Nat→Prop}:∀ (items:List DItem) {p:Nat} {done:List (Nat×LOper×Env×AVal)} {e:Env} {H:AHeap} {n:Nat},yd P items p done R e H n→xd P items p done R e H n
 |[],p,done,e,H,n,h=>h
 |it::rest,p,done,e,H,n,h=>by
  unfold yd at h
  unfold xd
  split at h
  ·rename_i hp
   obtain⟨v,h2,h3⟩:=zun h
   simp only[hp]
   refine⟨v,h2,ztv rest ?_⟩
   cases hl:Q6 it.lo.op<;>rw[hl] at h3<;>simpa[zyy] using h3
  ·rename_i hp
   simp only[hp]
   exact ztp h (fun r H' n' hh=>by
    obtain⟨h1,h2⟩:=z4h hh
    exact⟨h1,ztv rest h2⟩)
def zew(P:Program)(N:Lay)(n0:Nat):LCode→(Exit→Env→AHeap→Nat→Prop)→Env→AHeap→Nat→Prop
 |.skip,Q,e,H,n=>Q .normal e H n
 |.region ops,Q,e,H,n=>zqk P ops (Q .normal) e H n
 |.quiet ops,Q,e,H,n=>yqs ops (Q .normal) e H n
 |.draw items,Q,e,H,n=>yd P items 0 [] (Q .normal) e H n
 |.draw2 a b items,Q,e,H,n=>yd P items 0 [] (fun e H n=>zep (a.ev e) (b.ev e)∧Q .normal e H n) e H n
 |.seq a b,Q,e,H,n=>zew P N n0 a (fun ex e H n=>match ex with|.normal=>zew P N n0 b Q e H n|ex=>Q ex e H n) e H n
 |.cond c a b,Q,e,H,n=>match c.ev e with
  |.bool v=>z0t (c.needY e) ((v=true→zew P N n0 a Q e H n)∧(v=false→zew P N n0 b Q e H n))
  |_=>False
 |.block id c,Q,e,H,n=>zew P N n0 c (fun ex e H n=>match ex with|.exit i=>(match pF i id with|true=>Q .normal e H n|false=>Q (.exit i) e H n)|ex=>Q ex e H n) e H n
 |.loop c,Q,e,H,n=>LWp P N n0 (.loop c) Q e H n
 |.rng g ps a b,Q,e,H,n=>LWp P N n0 (.rng g ps a b) Q e H n
 |.dfr f t,Q,e,H,n=>zy3 P f∧Q .normal (e.put (some t) .any) H n
 |.exit id,Q,e,H,n=>Q (.exit id) e H n
 |.ret,Q,e,H,n=>Q .ret e H n
theorem znb{N:Lay}{n0:Nat}{a b:LCode}{Q:Exit→Env→AHeap→Nat→Prop}{e:Env}{H:AHeap}{n:Nat}(h:LWp P N n0 a (fun ex e H n=>match ex with|.normal=>LWp P N n0 b Q e H n|ex=>Q ex e H n) e H n):LWp P N n0 (.seq a b) Q e H n:=by
 intro c hc ro hro I0 β0 H0 w0 I β w aa hX hI hE hN hD QQ hQ
 cases c with
 |seq x y=>
  simp only[yk] at hc
  split at hc<;>try (cases hc;done)
  rename_i x' y' hx hy
  simp only[p0,LCode.seq.injEq] at hc
  obtain⟨rfl,rfl⟩:=hc
  refine wpIn_seq (h x hx ro hro I0 β0 H0 w0 I β w aa hX hI hE hN hD _ ?_)
  intro ex e' H' n' I' β' w' a' g1 g2 g3 g4 g5 g6
  cases ex with
  |normal=>exact g1 y hy ro hro I0 β0 H0 w0 I' β' w' a' g6 g2 g3 g4 g5 QQ hQ
  |_=>exact hQ _ _ _ _ _ _ _ _ g1 g2 g3 g4 g5 g6
 |skip=>simp[yk] at hc
 |region id ops draw=>simp only[yk] at hc;split at hc<;>(try split at hc)<;>(try split at hc)<;>(try split at hc)<;>(try split at hc)<;>(first|(simp at hc;done)|(rcases Qv hc with⟨_,h⟩|⟨_,_,_,h⟩<;>cases h))
 |cond c a b=>simp only[yk] at hc;split at hc<;>simp at hc
 |block id c=>simp[yk] at hc
 |loop c=>simp[yk] at hc
 |exit id=>simp[yk] at hc
 |ret=>simp[yk] at hc
 |rangeFunc g ps x y=>simp only[yk] at hc;split at hc<;>simp at hc
 |_=>cases hc
theorem zaq{N:Lay}{n0 id:Nat}{a:LCode}{Q:Exit→Env→AHeap→Nat→Prop}{e:Env}{H:AHeap}{n:Nat}(h:LWp P N n0 a (fun ex e H n=>match ex with|.exit i=>if i=id then Q .normal e H n else Q (.exit i) e H n|ex=>Q ex e H n) e H n):LWp P N n0 (.block id a) Q e H n:=by
 intro c hc ro hro I0 β0 H0 w0 I β w aa hX hI hE hN hD QQ hQ
 cases c with
 |block id' x=>
  simp only[yk,pH] at hc
  obtain⟨x',hx,hc⟩:=hc
  simp only[LCode.block.injEq] at hc
  obtain⟨rfl,rfl⟩:=hc
  refine wpIn_block (h x hx ro hro I0 β0 H0 w0 I β w aa hX hI hE hN hD _ ?_)
  intro ex e' H' n' I' β' w' a' g1 g2 g3 g4 g5 g6
  cases ex with
  |exit i=>
   simp only at g1
   simp only[Exit.inBlock]
   split at g1
   ·rename_i hi;rw[if_pos hi];exact hQ _ _ _ _ _ _ _ _ g1 g2 g3 g4 g5 g6
   ·rename_i hi;rw[if_neg hi];exact hQ _ _ _ _ _ _ _ _ g1 g2 g3 g4 g5 g6
  |_=>exact hQ _ _ _ _ _ _ _ _ g1 g2 g3 g4 g5 g6
 |skip=>simp[yk] at hc
 |region id ops draw=>simp only[yk] at hc;split at hc<;>(try split at hc)<;>(try split at hc)<;>(try split at hc)<;>(try split at hc)<;>(first|(simp at hc;done)|(rcases Qv hc with⟨_,h⟩|⟨_,_,_,h⟩<;>cases h))
 |seq a b=>simp only[yk] at hc;split at hc<;>simp at hc
 |cond c a b=>simp only[yk] at hc;split at hc<;>simp at hc
 |loop c=>simp[yk] at hc
 |exit id=>simp[yk] at hc
 |ret=>simp[yk] at hc
 |rangeFunc g ps x y=>simp only[yk] at hc;split at hc<;>simp at hc
 |_=>cases hc
theorem zio{N:Lay}{n0:Nat}{c:LOpd}{a b:LCode}{v:Bool}{Q:Exit→Env→AHeap→Nat→Prop}{e:Env}{H:AHeap}{n:Nat}(hv:c.ev e=.bool v)(hn:c.need e)(h1:v=true→LWp P N n0 a Q e H n)(h2:v=false→LWp P N n0 b Q e H n):LWp P N n0 (.cond c a b) Q e H n:=by
 intro cc hc ro hro I0 β0 H0 w0 I β w aa hX hI hE hN hD QQ hQ
 cases cc with
 |cond cx x y=>
  simp only[yk] at hc
  split at hc<;>try (cases hc;done)
  rename_i c' x' y' hcx hx hy
  simp only[p0,LCode.cond.injEq] at hc
  obtain⟨rfl,rfl,rfl⟩:=hc
  have hr:=yh hE hcx hn
  rw[hv] at hr
  exact wpIn_cond_split hr.bool_inv (fun hv=>h1 hv x hx ro hro I0 β0 H0 w0 I β w aa hX hI hE hN hD QQ hQ) (fun hv=>h2 hv y hy ro hro I0 β0 H0 w0 I β w aa hX hI hE hN hD QQ hQ)
 |skip=>simp[yk] at hc
 |region id ops draw=>simp only[yk] at hc;split at hc<;>(try split at hc)<;>(try split at hc)<;>(try split at hc)<;>(try split at hc)<;>(first|(simp at hc;done)|(rcases Qv hc with⟨_,h⟩|⟨_,_,_,h⟩<;>cases h))
 |seq a b=>simp only[yk] at hc;split at hc<;>simp at hc
 |block id c=>simp[yk] at hc
 |loop c=>simp[yk] at hc
 |exit id=>simp[yk] at hc
 |ret=>simp[yk] at hc
 |rangeFunc g ps x y=>simp only[yk] at hc;split at hc<;>simp at hc
 |_=>cases hc
theorem Q0{N:Lay}{n0:Nat}:∀ (lc:LCode) {Q:Exit→Env→AHeap→Nat→Prop} {e:Env} {H:AHeap} {n:Nat},zew P N n0 lc Q e H n→LWp P N n0 lc Q e H n
 |.skip,Q,e,H,n,h=>uq .skip Q e H n h
 |.region ops,Q,e,H,n,h=>uq (.region ops) Q e H n (Kh ops h)
 |.quiet ops,Q,e,H,n,h=>uq (.quiet ops) Q e H n (zb2 ops h)
 |.draw items,Q,e,H,n,h=>uq (.draw items) Q e H n (ztv items h)
 |.draw2 a b items,Q,e,H,n,h=>uq (.draw2 a b items) Q e H n (ztv items h)
 |.seq a b,Q,e,H,n,h=>by
  refine znb ((Q0 a h).mono fun ex e H n hx=>?_)
  cases ex with
  |normal=>exact Q0 b hx
  |_=>exact hx
 |.cond c a b,Q,e,H,n,h=>by
  unfold zew at h
  split at h<;>try (exact h.elim)
  rename_i v hv
  rw[w8,zk] at h
  exact zio hv h.1 (fun hh=>Q0 a (h.2.1 hh)) (fun hh=>Q0 b (h.2.2 hh))
 |.block id c,Q,e,H,n,h=>by
  refine zaq ((Q0 c h).mono fun ex e H n hx=>?_)
  cases ex with
  |exit i=>
   simp only at hx ⊢
   split at hx
   ·rename_i hi;rw[if_pos (pB hi)];exact hx
   ·rename_i hi;rw[if_neg (Nat.ne_of_beq_eq_false hi)];exact hx
  |_=>exact hx
 |.loop c,Q,e,H,n,h=>h
 |.rng g ps a b,Q,e,H,n,h=>h
 |.dfr f t,Q,e,H,n,h=>uq (.dfr f t) Q e H n h
 |.exit id,Q,e,H,n,h=>uq (.exit id) Q e H n h
 |.ret,Q,e,H,n,h=>uq .ret Q e H n h
end Go.Fx
namespace Go.Fx
variable {P:Program} {N:Lay} {n0:Nat}
def Sim(n0:Nat)(e':Env)(H':AHeap)(n':Nat)(e:Env)(L:AHeap)(n:Nat):Prop:=
 ∀ (I0:Nat→Nat→Prop) (β0:Id→Option CLoc) (H0:AHeap) (w0:World) (I:Nat→Nat→Prop) (β:Id→Option CLoc) (w:World) (a:Act),Ext I0 β0 n0 H0 w0 I β n' H' w→Inv I β n' H' w→RepEnv I β n' w e' a →
  ∃I2 β2,Ext I0 β0 n0 H0 w0 I2 β2 n L w∧Inv I2 β2 n L w∧RepEnv I2 β2 n w e a
theorem Sim.of{n n':Nat}{e e':Env}{H' L:AHeap}(h:y20 n0 n e' H' e L):Sim n0 e' H' n' e L n:=by
 intro I0 β0 H0 w0 I β w a hX hI hE
 obtain⟨F,ρ,hρ,hEnv,hHeap⟩:=h
 obtain⟨k1,k2⟩:=zhn hX hI hρ hHeap
 exact⟨_,_,k1,k2,fun t=>z2b hI hρ (hEnv.get t) (hE t)⟩
theorem Sim.trans{n n' n'':Nat}{e e' e'':Env}{H H' H'':AHeap}(a:Sim n0 e'' H'' n'' e' H' n')(b:Sim n0 e' H' n' e H n):Sim n0 e'' H'' n'' e H n:=by
 intro I0 β0 H0 w0 I β w ac hX hI hE
 obtain⟨I2,β2,h1,h2,h3⟩:=a I0 β0 H0 w0 I β w ac hX hI hE
 exact b I0 β0 H0 w0 I2 β2 w ac h1 h2 h3
theorem LWp.sim{n n':Nat}{lc:LCode}{Q:Exit→Env→AHeap→Nat→Prop}{H' L:AHeap}{e e':Env}(hs:Sim n0 e' H' n' e L n)(h:LWp P N n0 lc Q e L n):LWp P N n0 lc Q e' H' n':=by
 intro c hc ro hro J0 γ0 G0 w0 I β w a hX hI hE hN hD QQ hQ
 obtain⟨I2,β2,k1,k2,k3⟩:=hs J0 γ0 G0 w0 I β w a hX hI hE
 exact h c hc ro hro J0 γ0 G0 w0 I2 β2 w a k1 k2 k3 hN hD QQ hQ
def uw(P:Program)(N:Lay)(n0:Nat)(b:LCode)(Q:Exit→Env→AHeap→Nat→Prop):Exit→Env→AHeap→Nat→Prop:=fun ex e H n=>match ex with
 |.normal=>LWp P N n0 b Q e H n
 |ex=>Q ex e H n
def zb(id:Nat)(Q:Exit→Env→AHeap→Nat→Prop):Exit→Env→AHeap→Nat→Prop:=fun ex e H n=>match ex with
 |.exit i=>(match pF i id with|true=>Q .normal e H n|false=>Q (.exit i) e H n)
 |ex=>Q ex e H n
theorem xn{a b:LCode}{Q:Exit→Env→AHeap→Nat→Prop}{e:Env}{H:AHeap}{n:Nat}(h:LWp P N n0 a (uw P N n0 b Q) e H n):LWp P N n0 (.seq a b) Q e H n:=
 znb (h.mono fun ex e H n hx=>by cases ex<;>exact hx)
theorem zo{id:Nat}{a:LCode}{Q:Exit→Env→AHeap→Nat→Prop}{e:Env}{H:AHeap}{n:Nat}(h:LWp P N n0 a (zb id Q) e H n):LWp P N n0 (.block id a) Q e H n:=
 zaq (h.mono fun ex e H n hx=>by
  cases ex with
  |exit i=>
   simp only[zb] at hx
   simp only
   split at hx
   ·rename_i hi;rw[if_pos (pB hi)];exact hx
   ·rename_i hi;rw[if_neg (Nat.ne_of_beq_eq_false hi)];exact hx
  |_=>exact hx)
theorem qh{c:LOpd}{a b:LCode}{v:Bool}{Q:Exit→Env→AHeap→Nat→Prop}{e:Env}{H:AHeap}{n:Nat}(hv:c.ev e=.bool v)(hn:c.need e)(h1:v=true→LWp P N n0 a Q e H n)(h2:v=false→LWp P N n0 b Q e H n):LWp P N n0 (.cond c a b) Q e H n:=zio hv hn h1 h2
theorem qp{Q:Exit→Env→AHeap→Nat→Prop}{e:Env}{H:AHeap}{n:Nat}(h:Q .normal e H n):LWp P N n0 .skip Q e H n:=Q0 .skip h
theorem Ya{Q:Exit→Env→AHeap→Nat→Prop}{e:Env}{H:AHeap}{n:Nat}(h:Q .ret e H n):LWp P N n0 .ret Q e H n:=Q0 .ret h
theorem ur{i:Nat}{Q:Exit→Env→AHeap→Nat→Prop}{e:Env}{H:AHeap}{n:Nat}(h:Q (.exit i) e H n):LWp P N n0 (.exit i) Q e H n:=Q0 (.exit i) h
theorem Y6{ops:List LOper}{Q:Exit→Env→AHeap→Nat→Prop}{e:Env}{H:AHeap}{n:Nat}(h:zqk P ops (Q .normal) e H n):LWp P N n0 (.region ops) Q e H n:=Q0 (.region ops) h
theorem zrs{ops:List LOper}{Q:Exit→Env→AHeap→Nat→Prop}{e:Env}{H:AHeap}{n:Nat}(h:yqs ops (Q .normal) e H n):LWp P N n0 (.quiet ops) Q e H n:=Q0 (.quiet ops) h
theorem z59{items:List DItem}{Q:Exit→Env→AHeap→Nat→Prop}{e:Env}{H:AHeap}{n:Nat}(h:yd P items 0 [] (Q .normal) e H n):LWp P N n0 (.draw items) Q e H n:=Q0 (.draw items) h
def Uj{σ ρ:Type}(b:σ→Option (σ ⊕ ρ)):Nat→σ→Option ρ
 |0,_=>none
 |m+1,s=>match b s with
  |none=>none
  |some (.inl s')=>Uj b m s'
  |some (.inr r)=>some r
theorem z1b{σ ρ:Type}{b:σ→Option (σ ⊕ ρ)}:∀ {m k:Nat} {s:σ} {r:ρ},m≤k→Uj b m s=some r→Uj b k s=some r
 |0,_,_,_,_,h=>by cases h
 |m+1,0,_,_,hk,_=>by omega
 |m+1,k+1,s,r,hk,h=>by
  unfold Uj at h ⊢
  split at h
  ·cases h
  ·exact z1b (by omega) h
  ·exact h
noncomputable def zdo{σ ρ:Type}(b:σ→Option (σ ⊕ ρ))(s:σ):Option ρ:=by
 classical
 exact if h:∃m r,Uj b m s=some r then some (pZ (pU h)) else none
theorem Jy{σ ρ:Type}{b:σ→Option (σ ⊕ ρ)}{s:σ}{r:ρ}:zdo b s=some r↔∃m,Uj b m s=some r:=by
 unfold zdo
 constructor
 ·intro h
  split at h
  ·rename_i hex
   simp only[p0] at h
   exact⟨_,by rw[←h];exact pU (pU hex)⟩
  ·cases h
 ·rintro⟨m,hm⟩
  have hex:∃m r,Uj b m s=some r:=⟨m,r,hm⟩
  rw[dif_pos hex]
  have h2:=pU (pU hex)
  have h3:=z1b (Nat.le_max_left m (pZ hex)) hm
  have h4:=z1b (Nat.le_max_right m (pZ hex)) h2
  rw[h3] at h4
  rw[h4]
theorem zsw{σ ρ:Type}(b:σ→Option (σ ⊕ ρ))(s:σ):zdo b s=match b s with
 |none=>none
 |some (.inl s')=>zdo b s'
 |some (.inr r)=>some r:=by
 apply Option.ext
 intro r
 cases hb:b s with
 |none=>
  simp only[reduceCtorEq,iff_false]
  rw[Jy]
  rintro⟨m,hm⟩
  cases m with
  |zero=>cases hm
  |succ m=>simp[Uj,hb] at hm
 |some x=>
  cases x with
  |inl s'=>
   simp only
   rw[Jy,Jy]
   constructor
   ·rintro⟨m,hm⟩
    cases m with
    |zero=>cases hm
    |succ m=>exact⟨m,by simpa[Uj,hb] using hm⟩
   ·rintro⟨m,hm⟩
    exact⟨m+1,by simpa[Uj,hb] using hm⟩
  |inr r'=>
   simp only[p0]
   rw[Jy]
   constructor
   ·rintro⟨m,hm⟩
    cases m with
    |zero=>cases hm
    |succ m=>simpa[Uj,hb] using hm
   ·intro h
    exact⟨1,by simp[Uj,hb,h]⟩
def yi{σ ρ:Type}(n0 nL:Nat)(env:σ→Env)(hp:σ→AHeap)(QX:ρ→Exit→Env→AHeap→Nat→Prop):σ ⊕ ρ→Exit→Env→AHeap→Nat→Prop
 |.inl s,ex,e,H,n=>ex=.normal∧Sim n0 e H n (env s) (hp s) nL
 |.inr r,ex,e,H,n=>ex≠.normal∧QX r ex e H n
theorem zow{σ ρ:Type}{c:LCode}{nL:Nat}(body:σ→Option (σ ⊕ ρ))(env:σ→Env)(hp:σ→AHeap)(QX:ρ→Exit→Env→AHeap→Nat→Prop)
 (h:∀s o,body s=some o→LWp P N n0 c (yi n0 nL env hp QX o) (env s) (hp s) nL) {s:σ} {r:ρ} (hr:zdo body s=some r):LWp P N n0 (.loop c) (QX r) (env s) (hp s) nL:=by
 obtain⟨m0,hm0⟩:=Jy.1 hr
 intro cc hc ro hro J0 γ0 G0 w0 I β w a hX hI hE hN hD QQ hQ
 cases cc with
 |loop c'=>
  simp only[yk,pH] at hc
  obtain⟨b',hb,hc⟩:=hc
  simp only[LCode.loop.injEq] at hc
  subst hc
  let Inside:Nat→Act→World→Prop:=fun m a w=>∃s I β,Uj body m s=some r∧Ext J0 γ0 n0 G0 w0 I β nL (hp s) w∧Inv I β nL (hp s) w∧RepEnv I β nL w (env s) a∧a.tmps.size=N.n∧Dfr P w0.heap.size w a.defers
  let mu:Act→World→Nat:=fun a w=>by
   classical
   exact if h:∃m,Inside m a w then pZ (Vi _ h) else 0
  have mu_spec:∀a w,(∃m,Inside m a w)→Inside (mu a w) a w∧∀k,k<mu a w→¬Inside k a w:=by
   intro a w h
   have:mu a w=pZ (Vi _ h):=by simp only[mu];rw[dif_pos h]
   rw[this]
   exact pU (Vi _ h)
  refine wpIn_loop (fun a w=>∃m,Inside m a w) mu ⟨m0,s,I,β,hm0,hX,hI,hE,hN,hD⟩ ?_
  intro a w hin
  obtain⟨⟨s,I,β,hm,k1,k2,k3,k4,k5⟩,_⟩:=mu_spec a w hin
  cases hmu:mu a w with
  |zero=>rw[hmu] at hm;cases hm
  |succ m=>
   rw[hmu] at hm
   unfold Uj at hm
   cases hbs:body s with
   |none=>rw[hbs] at hm;cases hm
   |some o=>
    rw[hbs] at hm
    refine h s o hbs c' hb ro hro J0 γ0 G0 w0 I β w a k1 k2 k3 k4 k5 _ ?_
    intro ex e' H' n' I' β' w' a' g1 g2 g3 g4 g5 g6
    cases o with
    |inl s'=>
     obtain⟨rfl,hsim⟩:=g1
     obtain⟨I2,β2,q1,q2,q3⟩:=hsim J0 γ0 G0 w0 I' β' w' a' g6 g2 g3
     have hin':Inside m a' w':=⟨s',I2,β2,hm,q1,q2,q3,g4,g5⟩
     refine⟨⟨_,hin'⟩,?_⟩
     obtain⟨_,hleast⟩:=mu_spec a' w' ⟨_,hin'⟩
     have:¬m<mu a' w':=fun h=>hleast _ h hin'
     omega
    |inr r'=>
     obtain⟨hne,hq⟩:=g1
     simp only[p0] at hm
     subst hm
     cases ex with
     |normal=>exact absurd rfl hne
     |_=>exact hQ _ _ _ _ _ _ _ _ hq g2 g3 g4 g5 g6
 |skip=>cases hc
 |region id ops draw=>simp only[yk] at hc;split at hc<;>(try split at hc)<;>(try split at hc)<;>(try split at hc)<;>(try split at hc)<;>(first|(simp at hc;done)|(rcases Qv hc with⟨_,h⟩|⟨_,_,_,h⟩<;>cases h))
 |seq a b=>simp only[yk] at hc;split at hc<;>simp at hc
 |cond c a b=>simp only[yk] at hc;split at hc<;>simp at hc
 |block id c=>simp[yk] at hc
 |exit id=>cases hc
 |ret=>cases hc
 |rangeFunc g ps x y=>simp only[yk] at hc;split at hc<;>simp at hc
 |_=>cases hc
noncomputable def kw{σ ρ:Type}(m:Option Nat)(b:σ→Option (σ ⊕ ρ))(s:σ):Option ρ:=match m with
 |none=>zdo b s
 |some k=>Uj b k s
theorem zxn{σ ρ:Type}{m:Option Nat}{b:σ→Option (σ ⊕ ρ)}{s:σ}{r:ρ}(h:kw m b s=some r):zdo b s=some r:=by
 cases m with
 |none=>exact h
 |some k=>exact Jy.2 ⟨k,h⟩
theorem zn{σ ρ:Type}{c:LCode}{nL:Nat}{m:Option Nat}(body:σ→Option (σ ⊕ ρ))(env:σ→Env)(hp:σ→AHeap)(QX:ρ→Exit→Env→AHeap→Nat→Prop)
 (h:∀s o,body s=some o→LWp P N n0 c (yi n0 nL env hp QX o) (env s) (hp s) nL) {s:σ} {r:ρ} (hr:kw m body s=some r):LWp P N n0 (.loop c) (QX r) (env s) (hp s) nL:=zow body env hp QX h (zxn hr)
def z57:List (Id×Id)→Id→Option Id
 |[],_=>none
 |(a,b)::r,i=>if a=i then some b else z57 r i
theorem Yi:∀ {M:List (Id×Id)} {i k:Id},z57 M i=some k→(i,k)∈M
 |[],i,k,h=>by cases h
 |(a,b)::r,i,k,h=>by
  unfold z57 at h
  split at h
  ·rename_i hab
   simp only[p0] at h
   subst hab;subst h
   exact q6 ..
  ·exact pV _ (Yi h)
def rho(n0:Nat)(M:List (Id×Id))(id:Id):Option Id:=match z57 M id with
 |some k=>some k
 |none=>if id.1<n0∧¬(M.map (·.2)).contains id=true then some id else none
def Vr(n0 n:Nat)(H:AHeap)(M:List (Id×Id)):Bool:=
 pK n0 n&&M.all (fun x=>pK n0 x.1.1&&pK (x.1.1+1) n&&(pK n0 x.2.1 || (H.get x.2).isSome))&&(M.map (·.2)).Nodup
theorem Vo{M:List (Id×Id)}{i j k:Id}(h:(M.map (·.2)).Nodup)(h1:(i,k)∈M)(h2:(j,k)∈M):i=j:=by
 induction M with
 |nil=>cases h1
 |cons x r ih=>
  simp only[pR,List.nodup_cons] at h
  rcases pQ.1 h1 with e1|h1<;>rcases pQ.1 h2 with e2|h2
  ·rw[←e1] at e2;simp only[pG] at e2;exact e2.1.symm
  ·exact absurd (pE.2 ⟨_,h2,by rw[←e1]⟩) h.1
  ·exact absurd (pE.2 ⟨_,h1,by rw[←e2]⟩) h.1
  ·exact ih h.2 h1 h2
theorem Yw{n0:Nat}{M:List (Id×Id)}{i k:Id}(h:rho n0 M i=some k):(i,k)∈M∨(i.1<n0∧k=i∧k∉M.map (·.2)):=by
 unfold rho at h
 split at h
 ·rename_i k' hk;simp only[p0] at h;subst h;exact .inl (Yi hk)
 ·split at h
  ·rename_i hc
   simp only[p0] at h
   subst h
   exact .inr ⟨hc.1,rfl,by simpa using hc.2⟩
  ·cases h
structure RhoChk(n0 n:Nat)(H:AHeap)(M:List (Id×Id)):Prop where
 le:n0≤n
 all:∀x∈M,n0≤x.1.1∧x.1.1<n∧(n0≤x.2.1∨H.get x.2≠none)
 nd:(M.map (·.2)).Nodup
theorem z0c{n0 n:Nat}{H:AHeap}{M:List (Id×Id)}(h:Vr n0 n H M=true):RhoChk n0 n H M:=by
 unfold Vr at h
 simp only[pA,pD,decide_eq_true_eq,Bool.or_eq_true] at h
 obtain⟨⟨h0,h1⟩,h2⟩:=h
 refine⟨p9 h0,fun x hx=>?_,h2⟩
 obtain⟨⟨a,b⟩,c⟩:=h1 x hx
 refine⟨p9 a,p9 b,?_⟩
 rcases c with c|c
 ·exact .inl (p9 c)
 ·right;intro hn;rw[hn] at c;cases c
theorem ze0{n0 n:Nat}{H:AHeap}{M:List (Id×Id)}(h:RhoChk n0 n H M){i:Id}(hi:i.1<n0):rho n0 M i=some i∨(rho n0 M i=none∧H.get i≠none):=by
 have hl:z57 M i=none:=by
  cases hk:z57 M i with
  |none=>rfl
  |some k=>have:=(h.all _ (Yi hk)).1;simp only at this;omega
 unfold rho
 rw[hl]
 by_cases hc:(M.map (·.2)).contains i=true
 ·right
  refine⟨by simp only;rw[if_neg (fun hh=>hh.2 hc)],?_⟩
  simp only[pP,List.any_eq_true,beq_iff_eq] at hc
  obtain⟨k,hk,rfl⟩:=hc
  obtain⟨x,hx,rfl⟩:=pE.1 hk
  rcases(h.all x hx).2.2 with h3|h3
  ·omega
  ·exact h3
 ·left
  simp only
  rw[if_pos ⟨hi,hc⟩]
theorem zvi{n0 n:Nat}{H:AHeap}{M:List (Id×Id)}{F:Id→Bool}(h:RhoChk n0 n H M)(hF:∀i:Id,i.1<n0→F i=false):RhoOk n0 n F H (rho n0 M):=by
 refine⟨fun i j k hi hj=>?_,fun i k hi=>?_,fun i hi=>?_,fun i k hi hk=>?_,h.le⟩
 ·rcases Yw hi with g1|⟨g1,g1',g1''⟩<;>rcases Yw hj with g2|⟨g2,g2',g2''⟩
  ·exact Vo h.nd g1 g2
  ·exact absurd (pE.2 ⟨_,g1,rfl⟩) g2''
  ·exact absurd (pE.2 ⟨_,g2,rfl⟩) g1''
  ·rw[←g1',←g2']
 ·rcases Yw hi with g|⟨g,g',_⟩
  ·exact(h.all _ g).2.1
  ·have:=h.le;omega
 ·rcases ze0 h hi with g|g
  ·exact .inl ⟨g,hF i hi⟩
  ·exact .inr g
 ·rcases Yw hk with g|⟨g,g',_⟩
  ·exact(h.all _ g).2.2
  ·omega
theorem zme{n0 n:Nat}{H:AHeap}{M:List (Id×Id)}{F:Id→Bool}(h:Vr n0 n H M=true)(hF:∀i:Id,i.1<n0→F i=false):RhoOk n0 n F H (rho n0 M):=zvi (z0c h) hF
theorem zc{α:Type}[Inhabited α](f:α→List AVal)(l:List α)(i:Nat)(h:i<l.length):(l.map f).getD i []=f (l.getD i default):=by
 simp[pI,h]
theorem xv{α:Type}{l:List α}{j:Int}(h:0≤j∧j<(l.length:Int)):j.toNat<l.length:=by omega
theorem za{c:Prop}[Decidable c]{α:Type}{x:Option α}{o:α}(h:(if c then x else none)=some o):c∧x=some o:=by
 split at h
 ·exact⟨by assumption,h⟩
 ·cases h
theorem zj{c:Bool}{α:Type}{x y:Option α}{o:α}(hc:c=true)(h:(if c=true then x else y)=some o):x=some o:=by rw[if_pos hc] at h;exact h
theorem zm{c:Bool}{α:Type}{x y:Option α}{o:α}(hc:c=false)(h:(if c=true then x else y)=some o):y=some o:=by subst hc;exact h
theorem bind_some{α γ:Type}{x:Option α}{f:α→Option γ}{o:γ}(h:x.bind f=some o):∃r,x=some r∧f r=some o:=Option.bind_eq_some_iff.1 h
theorem bqt{c:Bool}(h:c=true):(c==true)=true:=by rw[h];rfl
theorem bqf{c:Bool}(h:c=false):(c==false)=true:=by rw[h];rfl
theorem y1a{a b:Bool}(h1:a=true)(h2:b=true):(a&&b)=true:=by rw[h1,h2];rfl
theorem z90{α:Type}(f:α→List AVal)(l m:List α):l.map f++m.map f=(l++m).map f:=List.map_append.symm
theorem Kg{α:Type}[Inhabited α](f:α→List AVal)(l:List α)(i off:Nat)(cs:List AVal)(y:α)(h:i<l.length)(hy:uy (f (l.getD i default)) off cs=f y):(l.map f).set i (uy ((l.map f).getD i []) off cs)=(l.set i y).map f:=by
 rw[zc f l i h,hy,List.map_set]
theorem V7{α:Type}(f:α→List AVal)(m:Nat)(y:α):pN m (f y)=(pN m y).map f:=by rw[List.map_replicate]
abbrev W(n:Int):Int:=IntKind.wrap .i64 n
def y2y(c:UInt8):Int:=(c.toNat:Int)
def y2x(n:Int):UInt8:=UInt8.ofNat n.toNat
def y31(x:Int):List AVal:=[.int .u8 x]
def VwL(F:Id→Bool)(H:AHeap)(ρ:Id→Option Id)(n:Nat):List AVal→List AVal→Prop
 |[],[]=>True
 |x::xs,y::ys=>Vw F H ρ n x y∧VwL F H ρ n xs ys
 |_,_=>False
theorem Ws{F:Id→Bool}{H:AHeap}{ρ:Id→Option Id}{n:Nat}:∀ {xs ys:List AVal},VwL F H ρ n xs ys→xs.length=ys.length∧∀ (i:Nat) (x y:AVal),xs[i]?=some x→ys[i]?=some y→Vw F H ρ n x y
 |[],[],_=>⟨rfl,fun i x y h _=>by simp at h⟩
 |[],_::_,h=>h.elim
 |_::_,[],h=>h.elim
 |x::xs,y::ys,h=>by
  obtain⟨h1,h2⟩:=Ws h.2
  refine⟨by simp[h1],fun i a b ha hb=>?_⟩
  cases i with
  |zero=>simp only[pT,p0] at ha hb;subst ha;subst hb;exact h.1
  |succ i=>exact h2 i a b (by simpa using ha) (by simpa using hb)
theorem Vw.tupL{F:Id→Bool}{H:AHeap}{ρ:Id→Option Id}{n:Nat}{xs ys:List AVal}(h:VwL F H ρ n xs ys):Vw F H ρ n (.tup xs) (.tup ys):=.tup _ _ (Ws h).1 (Ws h).2
theorem BVw.oneL{F:Id→Bool}{H:AHeap}{ρ:Id→Option Id}{n:Nat}{xs ys:List AVal}(h:VwL F H ρ n xs ys):BVw F H ρ n (.one xs) (.one ys):=.one _ _ (Ws h).1 (Ws h).2
theorem Kk{F:Id→Bool}{H:AHeap}{ρ:Id→Option Id}{n:Nat}:∀ {xs:List AVal},AVal.nid.nidL xs=true→∀ (i:Nat) (x y:AVal),xs[i]?=some x→xs[i]?=some y→Vw F H ρ n x y
 |[],_,i,x,y,h,_=>by simp at h
 |z::r,hn,i,x,y,h,h'=>by
  simp only[AVal.nid.nidL,pA] at hn
  cases i with
  |zero=>simp only[pT,p0] at h h';subst h;subst h';exact .same _ hn.1
  |succ i=>exact Kk hn.2 i x y (by simpa using h) (by simpa using h')
theorem BVw.enc{F:Id→Bool}{H:AHeap}{ρ:Id→Option Id}{n:Nat}{α:Type}(f:α→List AVal)(hf:∀x,AVal.nid.nidL (f x)=true)(s:Nat)(l:List α):BVw F H ρ n (.rows s (l.map f)) (.rows s (l.map f)):=by
 refine .rows s _ _ rfl fun i r r' h h'=>?_
 rw[h] at h'
 simp only[p0] at h'
 subst h'
 rw[pM] at h
 cases hl:l[i]? with
 |none=>rw[hl] at h;cases h
 |some x=>
  rw[hl] at h
  simp only[pL,p0] at h
  subst h
  exact⟨rfl,Kk (hf x)⟩
theorem Vw.frzEnc{F:Id→Bool}{H:AHeap}{ρ:Id→Option Id}{n:Nat}{α:Type}(f:α→List AVal)(hf:∀x,AVal.nid.nidL (f x)=true∧∀y∈f x,y.imm=some y){b:Id}{s len:Nat}{fl:Bool}{fl':Bool}{l:List α}(hff:fl'=true→fl=true)(hF:F b=true)(hg:H.get b=some (.rows s (l.map f)))(hl:len=l.length):Vw F H ρ n (.msl b s 0 len fl) (.isl s (l.map f) fl'):=by
 subst hl
 refine .frz b s 0 l.length fl fl' (l.map f) (l.map f) hff hF hg (by simp) (by simp) (fun i r r' h h'=>?_) (fun i r r' j x y h h' hx hy=>?_) (fun r hr y hy=>?_)
 ·rw[Nat.zero_add,h'] at h;simp only[p0] at h;rw[h]
 ·rw[Nat.zero_add,h'] at h
  simp only[p0] at h
  subst h
  rw[pM] at h'
  cases hl:l[i]? with
  |none=>rw[hl] at h';cases h'
  |some z=>
   rw[hl] at h'
   simp only[pL,p0] at h'
   subst h'
   exact Kk (hf z).1 j x y hx hy
 ·obtain⟨z,_,rfl⟩:=pE.1 hr
  exact(hf z).2 y hy
theorem z28:∀H:AHeap,AHeap.without (fun _=>false) H=H
 |[]=>rfl
 |(k,b)::r=>by
  simp only[AHeap.without,qD,if_false]
  rw[z28 r]
theorem PFn.call{f:FuncId}{args args0:List AVal}{R:AVal}(h:PFn P f args0 R){H:AHeap}{n:Nat}{K:AVal→AHeap→Nat→Prop}(ha:ArgsTo (fun _=>false) H (fun _=>none) 0 args args0)(hk:K R H n):ACalls P f args H n K:=
 PFn.use h ha (fun x hx=>by cases hx) (by rw[z28];exact hk)
theorem PFn.readB(ids:List Id){f:FuncId}{args args0:List AVal}{R:AVal}(h:PFn P f args0 R)(hR:R.flat=true){H:AHeap}{n:Nat}{K:AVal→AHeap→Nat→Prop}(ha:ArgsTo (fun x=>ids.contains x) H (fun _=>none) 0 args args0)(hk:K R H n):ACalls P f args H n K:=PFn.read h hR _ ha hk
theorem Vw.frzB{F:Id→Bool}{H:AHeap}{ρ:Id→Option Id}{n:Nat}{α:Type}(f:α→List AVal)(hf:∀x,AVal.nid.nidL (f x)=true∧∀y∈f x,y.imm=some y){b:Id}{s len:Nat}{fl:Bool}{fl':Bool}{l:List α}(hff:fl'=true→fl=true)(hF:F b=true)(hg:H.get b=some (.rows s (l.map f)))(hl:len=l.length):Vw F H ρ n (.msl b s 0 len fl) (.isl s (l.map f) fl'):=Vw.frzEnc f hf hff hF hg hl
theorem qy{n n':Nat}{M:List (Id×Id)}{e' e:Env}{H' L:AHeap}(hρ:Vr n0 n H' M=true)(hE:EnvTo (fun _=>false) H' (rho n0 M) n e' e)(hH:HeapTo (fun _=>false) H' (rho n0 M) n0 n L):Sim n0 e' H' n' e L n:=Sim.of ⟨_,_,zme hρ (fun _ _=>rfl),hE,hH.get⟩
theorem kv{α:Type}(f:α→List AVal){l:List α}{i:Nat}(h:i<l.length):i<(l.map f).length:=by rw[pO];exact h
theorem yj{α:Type}(f:α→List AVal){l:List α}{j:Int}(h:0≤j∧j<((l.map f).length:Int)):j.toNat<l.length:=by rw[pO] at h;omega
theorem zt1{α:Type}(f:α→List AVal){s:Nat}{rows:List (List AVal)}{l:List α}{a b:Bool}(h1:rows=l.map f)(h2:a=b):AVal.isl s rows a=.isl s (l.map f) b:=by rw[h1,h2]
theorem slB{α:Type}(f:α→List AVal)(l:List α)(b:Nat):((l.map f).take b).drop 0=(l.take b).map f:=by rw[List.map_take];rfl
theorem slA{α:Type}(f:α→List AVal)(l:List α)(a:Nat):((l.map f).take (l.map f).length).drop a=(l.drop a).map f:=by rw[List.take_length,List.map_drop]
end Go.Fx
namespace Go.Fx
variable {P:Program}
theorem ACalls.sub{f:Fn}{args:List AVal}{H:AHeap}{n:Nat}{K:AVal→AHeap→Nat→Prop}
 (h:ACalls P f args H n (fun r H' n'=>∃H2,(∀id blk,H2.get id=some blk→H'.get id=some blk)∧K r H2 n')):ACalls P f args H n K:=by
 refine⟨h.1,fun I β w vs hI hl hr=>(h.2 I β w vs hI hl hr).mono ?_⟩
 rintro ee w' ⟨r,v,H',n',I',β',he,⟨H2,h1,h2⟩,hI',hr',hx⟩
 exact⟨r,v,H2,n',I',β',he,h2,Inv.sub h1 hI',hr',Ext.sub h1 hx⟩
theorem Vu{H:AHeap}{id:Id}{b:ABlock}(h:H.get id=some b):(id,b)∈H:=by
 induction H with
 |nil=>simp[AHeap.get] at h
 |cons x r ih=>
  obtain⟨k,c⟩:=x
  by_cases hk:k=id
  ·subst hk;rw[AHeap.get_cons_same] at h;simp only[p0] at h;subst h;exact q6 ..
  ·rw[AHeap.get_cons_other _ _ hk] at h;exact pV _ (ih h)
theorem z1h{H:AHeap}{id:Id}{b:ABlock}(hn:(H.map (·.1)).Nodup)(h:(id,b)∈H):H.get id=some b:=by
 induction H with
 |nil=>cases h
 |cons x r ih=>
  obtain⟨k,c⟩:=x
  simp only[pR,List.nodup_cons] at hn
  rcases pQ.1 h with h|h
  ·simp only[pG] at h;obtain⟨rfl,rfl⟩:=h;exact AHeap.get_cons_same _ _ _
  ·have:k≠id:=fun hk=>by subst hk;exact hn.1 (pE.2 ⟨_,h,rfl⟩)
   rw[AHeap.get_cons_other _ _ this];exact ih hn.2 h
def noR(r:Nat)(H:AHeap):Bool:=H.all fun x=>!(pF x.1.1 r)
theorem J2{r:Nat}{H:AHeap}(h:noR r H=true){id:Id}(hid:id.1=r):H.get id=none:=by
 cases hg:H.get id with
 |none=>rfl
 |some b=>
  have hm:=Vu hg
  unfold noR at h
  rw[pD] at h
  have:=h _ hm
  simp only[hid] at this
  simp at this
mutual
theorem Kc{g h:Id→Id}:∀ (x:AVal),(x.ren g).ren h=x.ren (fun i=>h (g i))
 |.any=>rfl
 |.bool _=>rfl
 |.int _ _=>rfl
 |.str _=>rfl
 |.val _=>rfl
 |.isl _ _ _=>rfl
 |.iptr _ _ _ _=>rfl
 |.osl _ _ _=>rfl
 |.ptr _ _ _=>rfl
 |.msl _ _ _ _ _=>rfl
 |.map _=>rfl
 |.optp _=>rfl
 |.tup cs=>by simp only[AVal.ren];rw[J1 cs]
 |.agg cs=>by simp only[AVal.ren];rw[J1 cs]
 |.fn f a c=>by simp only[AVal.ren];rw[J1 a,J1 c]
 |.ifc t x=>by simp only[AVal.ren];rw[Kc x]
 |.cnd p x=>by simp only[AVal.ren];rw[Kc x]
theorem J1{g h:Id→Id}:∀ (cs:List AVal),AVal.ren.renL h (AVal.ren.renL g cs)=AVal.ren.renL (fun i=>h (g i)) cs
 |[]=>rfl
 |x::r=>by simp only[AVal.ren.renL];rw[Kc x,J1 r]
end
mutual
theorem X4{p:Id→Bool}{g h:Id→Id}(hgh:∀id:Id,p id=true→g id=h id):∀ (x:AVal),x.inP p=true→x.ren g=x.ren h
 |.any,_=>rfl
 |.bool _,_=>rfl
 |.int _ _,_=>rfl
 |.str _,_=>rfl
 |.val _,_=>rfl
 |.isl _ _ _,_=>rfl
 |.iptr _ _ _ _,_=>rfl
 |.osl t _ _,hp=>by simp only[AVal.ren];rw[hgh t hp]
 |.ptr t _ _,hp=>by simp only[AVal.ren];rw[hgh t hp]
 |.msl t _ _ _ _,hp=>by simp only[AVal.ren];rw[hgh t hp]
 |.map t,hp=>by simp only[AVal.ren];rw[hgh t hp]
 |.optp t,hp=>by simp only[AVal.ren];rw[hgh t hp]
 |.tup cs,hp=>by simp only[AVal.ren];rw[Qh hgh cs hp]
 |.agg cs,hp=>by simp only[AVal.ren];rw[Qh hgh cs hp]
 |.fn f a c,hp=>by
  simp only[AVal.inP,pA] at hp
  simp only[AVal.ren];rw[Qh hgh a hp.1,Qh hgh c hp.2]
 |.ifc t x,hp=>by simp only[AVal.ren];rw[X4 hgh x hp]
 |.cnd q x,hp=>by simp only[AVal.ren];rw[X4 hgh x hp]
theorem Qh{p:Id→Bool}{g h:Id→Id}(hgh:∀id:Id,p id=true→g id=h id):∀ (cs:List AVal),AVal.inP.inPL p cs=true→AVal.ren.renL g cs=AVal.ren.renL h cs
 |[],_=>rfl
 |x::r,hp=>by
  simp only[AVal.inP.inPL,pA] at hp
  simp only[AVal.ren.renL];rw[X4 hgh x hp.1,Qh hgh r hp.2]
end
mutual
theorem Vn{p q:Id→Bool}{g:Id→Id}(hg:∀id:Id,p id=true→q (g id)=true):∀ (x:AVal),x.inP p=true→(x.ren g).inP q=true
 |.any,_=>rfl
 |.bool _,_=>rfl
 |.int _ _,_=>rfl
 |.str _,_=>rfl
 |.val _,_=>rfl
 |.isl _ _ _,_=>rfl
 |.iptr _ _ _ _,_=>rfl
 |.osl t _ _,hp=>hg t hp
 |.ptr t _ _,hp=>hg t hp
 |.msl t _ _ _ _,hp=>hg t hp
 |.map t,hp=>hg t hp
 |.optp t,hp=>hg t hp
 |.tup cs,hp=>V3 hg cs hp
 |.agg cs,hp=>V3 hg cs hp
 |.fn f a c,hp=>by
  simp only[AVal.inP,pA] at hp
  simp only[AVal.ren,AVal.inP,pA]
  exact⟨V3 hg a hp.1,V3 hg c hp.2⟩
 |.ifc t x,hp=>Vn hg x hp
 |.cnd r x,hp=>Vn hg x hp
theorem V3{p q:Id→Bool}{g:Id→Id}(hg:∀id:Id,p id=true→q (g id)=true):∀ (cs:List AVal),AVal.inP.inPL p cs=true→AVal.inP.inPL q (AVal.ren.renL g cs)=true
 |[],_=>rfl
 |x::r,hp=>by
  simp only[AVal.inP.inPL,pA] at hp
  simp only[AVal.ren.renL,AVal.inP.inPL,pA]
  exact⟨Vn hg x hp.1,V3 hg r hp.2⟩
end
theorem zqn{g h:Id→Id}(b:ABlock):(b.ren g).ren h=b.ren (fun i=>h (g i)):=by
 cases b with
 |rows s es=>simp only[ABlock.ren,Ye,q7];congr 1;exact pJ fun x _=>J1 x
 |one cs=>simp only[ABlock.ren];rw[J1]
 |amap es=>simp only[ABlock.ren,q7];congr 1;refine pJ fun x _=>?_;simp only[Function.comp];rw[Kc,Kc]
 |tok=>rfl
 |bld T g0=>rfl
 |buf e bs=>rfl
 |lrec l r e=>simp only[ABlock.ren,q7];congr 1;refine pJ fun x _=>?_;simp only[Function.comp];rw[Kc]
 |rmap es arr ck=>simp only[ABlock.ren,q7];congr 1;refine pJ fun x _=>?_;simp only[Function.comp];rw[Kc,Kc]
 |itr m arr ck seen=>simp only[ABlock.ren,Option.map_map];rfl
 |mbox b=>rfl
theorem z19{p:Id→Bool}{g h:Id→Id}(hgh:∀id:Id,p id=true→g id=h id)(b:ABlock)(hp:b.inP p=true):b.ren g=b.ren h:=by
 cases b with
 |rows s es=>
  simp only[ABlock.inP,pD] at hp
  simp only[ABlock.ren,Ye];congr 1;exact pJ fun x hx=>Qh hgh x (hp x hx)
 |one cs=>simp only[ABlock.ren];rw[Qh hgh cs hp]
 |amap es=>
  simp only[ABlock.inP,pD,pA] at hp
  simp only[ABlock.ren];congr 1;refine pJ fun x hx=>?_;rw[X4 hgh _ (hp x hx).1,X4 hgh _ (hp x hx).2]
 |tok=>rfl
 |bld T g0=>simp only[ABlock.ren];rw[hgh g0 hp]
 |buf e bs=>rfl
 |lrec l r e=>
  simp only[ABlock.inP,pD] at hp
  simp only[ABlock.ren];congr 1;refine pJ fun x hx=>?_;rw[X4 hgh _ (hp x hx)]
 |rmap es arr ck=>
  simp only[ABlock.inP,pD,pA] at hp
  simp only[ABlock.ren];congr 1;refine pJ fun x hx=>?_;rw[X4 hgh _ (hp x hx).1,X4 hgh _ (hp x hx).2]
 |itr m arr ck seen=>
  cases m with
  |none=>rfl
  |some b=>simp only[ABlock.ren,pL];rw[hgh b hp]
 |mbox b=>simp only[ABlock.ren];rw[hgh b hp]
theorem z2p{p q:Id→Bool}{g:Id→Id}(hg:∀id:Id,p id=true→q (g id)=true)(b:ABlock)(hp:b.inP p=true):(b.ren g).inP q=true:=by
 cases b with
 |rows s es=>
  simp only[ABlock.inP,pD] at hp
  simp only[ABlock.ren,Ye,ABlock.inP,pD,pE]
  rintro x ⟨y,hy,rfl⟩
  exact V3 hg y (hp y hy)
 |one cs=>exact V3 hg cs hp
 |amap es=>
  simp only[ABlock.inP,pD,pA] at hp
  simp only[ABlock.ren,ABlock.inP,pD,pE,pA]
  rintro x ⟨y,hy,rfl⟩
  exact⟨Vn hg _ (hp y hy).1,Vn hg _ (hp y hy).2⟩
 |tok=>rfl
 |bld T g0=>exact hg g0 hp
 |buf e bs=>rfl
 |lrec l r e=>
  simp only[ABlock.inP,pD] at hp
  simp only[ABlock.ren,ABlock.inP,pD,pE]
  rintro x ⟨y,hy,rfl⟩
  exact Vn hg _ (hp y hy)
 |rmap es arr ck=>
  simp only[ABlock.inP,pD,pA] at hp
  simp only[ABlock.ren,ABlock.inP,pD,pE,pA]
  rintro x ⟨y,hy,rfl⟩
  exact⟨Vn hg _ (hp y hy).1,Vn hg _ (hp y hy).2⟩
 |itr m arr ck seen=>
  cases m with
  |none=>rfl
  |some b=>exact hg b hp
 |mbox b=>exact hg b hp
mutual
theorem z0d:∀ (x:AVal),x.ren (fun i=>i)=x
 |.any=>rfl
 |.bool _=>rfl
 |.int _ _=>rfl
 |.str _=>rfl
 |.val _=>rfl
 |.isl _ _ _=>rfl
 |.iptr _ _ _ _=>rfl
 |.osl _ _ _=>rfl
 |.ptr _ _ _=>rfl
 |.msl _ _ _ _ _=>rfl
 |.map _=>rfl
 |.optp _=>rfl
 |.tup cs=>by simp only[AVal.ren];rw[Ui cs]
 |.agg cs=>by simp only[AVal.ren];rw[Ui cs]
 |.fn f a c=>by simp only[AVal.ren];rw[Ui a,Ui c]
 |.ifc t x=>by simp only[AVal.ren];rw[z0d x]
 |.cnd p x=>by simp only[AVal.ren];rw[z0d x]
theorem Ui:∀ (cs:List AVal),AVal.ren.renL (fun i=>i) cs=cs
 |[]=>rfl
 |x::r=>by simp only[AVal.ren.renL];rw[z0d x,Ui r]
end
mutual
theorem znv{p:Id→Bool}:∀ (x:AVal),x.nid=true→x.inP p=true
 |.bool _,_=>rfl
 |.int _ _,_=>rfl
 |.str _,_=>rfl
 |.val _,_=>rfl
 |.isl _ _ _,_=>rfl
 |.iptr _ _ _ _,_=>rfl
 |.tup cs,h=>Kw cs h
 |.agg cs,h=>Kw cs h
 |.fn f a c,h=>by
  simp only[AVal.nid,pA] at h
  simp only[AVal.inP,pA]
  exact⟨Kw a h.1,Kw c h.2⟩
 |.ifc t x,h=>znv x h
theorem Kw{p:Id→Bool}:∀ (cs:List AVal),AVal.nid.nidL cs=true→AVal.inP.inPL p cs=true
 |[],_=>rfl
 |x::r,h=>by
  simp only[AVal.nid.nidL,pA] at h
  simp only[AVal.inP.inPL,pA]
  exact⟨znv x h.1,Kw r h.2⟩
end
mutual
theorem Zd{g:Id→Id}:∀ (x:AVal),x.nid=true→x.ren g=x
 |.bool _,_=>rfl
 |.int _ _,_=>rfl
 |.str _,_=>rfl
 |.val _,_=>rfl
 |.isl _ _ _,_=>rfl
 |.iptr _ _ _ _,_=>rfl
 |.tup cs,h=>by simp only[AVal.ren];rw[Kq cs h]
 |.agg cs,h=>by simp only[AVal.ren];rw[Kq cs h]
 |.fn f a c,h=>by
  simp only[AVal.nid,pA] at h
  simp only[AVal.ren];rw[Kq a h.1,Kq c h.2]
 |.ifc t x,h=>by simp only[AVal.ren];rw[Zd x h]
theorem Kq{g:Id→Id}:∀ (cs:List AVal),AVal.nid.nidL cs=true→AVal.ren.renL g cs=cs
 |[],_=>rfl
 |x::r,h=>by
  simp only[AVal.nid.nidL,pA] at h
  simp only[AVal.ren.renL];rw[Zd x h.1,Kq r h.2]
end
theorem qj{α:Type}{g:Id→Id}(f:α→List AVal)(hf:∀x,AVal.nid.nidL (f x)=true)(s:Nat)(l:List α):(ABlock.rows s (l.map f)).ren g=.rows s (l.map f):=by
 simp only[ABlock.ren,Ye,q7]
 congr 1
 refine pJ fun x _=>?_
 exact Kq _ (hf x)
theorem zsu{α:Type}{p:Id→Bool}(f:α→List AVal)(hf:∀x,AVal.nid.nidL (f x)=true)(s:Nat)(l:List α):(ABlock.rows s (l.map f)).inP p=true:=by
 simp only[ABlock.inP,pD,pE]
 rintro x ⟨y,_,rfl⟩
 exact Kw _ (hf y)
theorem zrr(b:ABlock):b.ren (fun i=>i)=b:=by
 cases b with
 |rows s es=>
  simp only[ABlock.ren,Ye];congr 1
  conv=>rhs;rw[←List.map_id es]
  exact pJ fun x _=>Ui x
 |one cs=>simp only[ABlock.ren];rw[Ui]
 |amap es=>
  simp only[ABlock.ren];congr 1
  conv=>rhs;rw[←List.map_id es]
  refine pJ fun x _=>?_
  rw[z0d,z0d];rfl
 |tok=>rfl
 |bld T g0=>rfl
 |buf e bs=>rfl
 |lrec l r e=>
  simp only[ABlock.ren];congr 1
  conv=>rhs;rw[←List.map_id e]
  refine pJ fun x _=>?_
  rw[z0d];rfl
 |rmap es arr ck=>
  simp only[ABlock.ren];congr 1
  conv=>rhs;rw[←List.map_id es]
  refine pJ fun x _=>?_
  rw[z0d,z0d];rfl
 |itr m arr ck seen=>cases m<;>rfl
 |mbox b=>rfl
def RenL(g:Id→Id):AHeap→AHeap→Prop
 |[],[]=>True
 |(k,b)::r,(k',b')::r'=>g k=k'∧b.ren g=b'∧RenL g r r'
 |_,_=>False
theorem RenL.eq{g:Id→Id}:∀ {L L':AHeap},RenL g L L'→AHeap.renamed g L=L'
 |[],[],_=>rfl
 |[],_::_,h=>h.elim
 |_::_,[],h=>h.elim
 |(k,b)::r,(k',b')::r',h=>by
  obtain⟨h1,h2,h3⟩:=h
  have:=RenL.eq h3
  simp only[AHeap.renamed,pR] at this ⊢
  rw[h1,h2,this]
def mv(a b:Nat)(id:Id):Id:=if id.1=a then(b,id.2) else id
def p12(id:Id):Bool:=pF id.1 1 || pF id.1 2
structure Tl(T:AHeap):Prop where
 key:∀x∈T,p12 x.1=true
 val:∀x∈T,x.2.inP (fun id=>p12 id&&(T.get id).isSome)=true
 nd:(T.map (·.1)).Nodup
def up(q:Nat)(T:AHeap):AHeap:=AHeap.renamed (mv 2 q) T
theorem Ys{id:Id}(h:p12 id=true):id.1=1∨id.1=2:=by
 unfold p12 at h
 simp only[Bool.or_eq_true] at h
 rcases h with h|h
 ·exact .inl (pB h)
 ·exact .inr (pB h)
theorem zrp{q:Nat}{id:Id}(h:p12 id=true):(mv 2 q id).1=1∨(mv 2 q id).1=q:=by
 unfold mv
 rcases Ys h with h|h
 ·left;rw[if_neg (by omega)];exact h
 ·right;rw[if_pos h]
def p1q(q:Nat)(id:Id):Bool:=pF id.1 1 || pF id.1 q
theorem z68{q:Nat}{id:Id}(h:id.1=1∨id.1=q):p1q q id=true:=by
 unfold p1q
 rcases h with h|h<;>simp[h]
theorem Tl.val'{T:AHeap}(t:Tl T)(x)(hx:x∈T):x.2.inP p12=true:=by
 have:=t.val x hx
 have h2:=z2p (q:=p12) (g:=fun i=>i) (fun id hid=>by simp only[pA] at hid;exact hid.1) _ this
 rwa [zrr] at h2
theorem Ka{q:Nat}{id:Id}(h:p1q q id=true):id.1=1∨id.1=q:=by
 unfold p1q at h
 simp only[Bool.or_eq_true] at h
 rcases h with h|h
 ·exact .inl (pB h)
 ·exact .inr (pB h)
theorem zhs{q:Nat}{T:AHeap}(t:Tl T){x:Id×ABlock}(hx:x∈up q T):(x.1.1=1∨x.1.1=q)∧x.2.inP (p1q q)=true:=by
 unfold up AHeap.renamed at hx
 obtain⟨y,hy,rfl⟩:=pE.1 hx
 exact⟨zrp (t.key y hy),z2p (fun id hid=>z68 (zrp hid)) _ (t.val' y hy)⟩
theorem zur{q:Nat}{T:AHeap}(t:Tl T){id:Id}{b:ABlock}(h:(up q T).get id=some b):∃k b0,T.get k=some b0∧p12 k=true∧b0.inP p12=true∧mv 2 q k=id∧b=b0.ren (mv 2 q):=by
 obtain⟨i,b0,h1,h2,h3⟩:=AHeap.get_renamed h
 exact⟨i,b0,z1h t.nd h1,t.key _ h1,t.val' _ h1,h2,h3⟩
theorem zzb{q:Nat}(hq:q≠1){i j:Id}(hi:p12 i=true)(hj:p12 j=true)(h:mv 2 q i=mv 2 q j):i=j:=by
 unfold mv at h
 rcases Ys hi with hi|hi<;>rcases Ys hj with hj|hj
 ·rwa [if_neg (by omega),if_neg (by omega)] at h
 ·rw[if_neg (by omega),if_pos hj] at h
  have:i.1=q:=by rw[h]
  omega
 ·rw[if_pos hi,if_neg (by omega)] at h
  have:j.1=q:=by rw[←h]
  omega
 ·rw[if_pos hi,if_pos hj] at h
  simp only[pG] at h
  ext
  ·omega
  ·exact h.2
theorem y0g{q:Nat}(hq:q≠1){T:AHeap}(t:Tl T):((up q T).map (·.1)).Nodup:=by
 unfold up AHeap.renamed
 rw[q7]
 have:(T.map ((fun x=>x.1)∘fun x=>(mv 2 q x.1,x.2.ren (mv 2 q))))=(T.map (·.1)).map (mv 2 q):=by rw[q7];rfl
 rw[this]
 refine List.pairwise_map.2 (List.Pairwise.imp_of_mem (fun {a b} ha hb hab he=>hab ?_) t.nd)
 obtain⟨x,hx,rfl⟩:=pE.1 ha
 obtain⟨y,hy,rfl⟩:=pE.1 hb
 exact zzb hq (t.key x hx) (t.key y hy) he
theorem zuw{q:Nat}(hq:q≠1){T:AHeap}(t:Tl T){k:Id}{b0:ABlock}(h:T.get k=some b0):(up q T).get (mv 2 q k)=some (b0.ren (mv 2 q)):=
 z1h (y0g hq t) (pE.2 ⟨(k,b0),Vu h,rfl⟩)
theorem zyn{a q q':Nat}(hq:q≠1){id:Id}(h:p12 id=true):mv q q' (mv 2 q id)=mv 2 q' id:=by
 unfold mv
 rcases Ys h with h|h
 ·rw[if_neg (by omega:¬id.1=2),if_neg (by omega),if_neg (by omega)]
 ·rw[if_pos h,if_pos h];simp
theorem z9m{q q':Nat}(hq:q≠1){b0:ABlock}(h:b0.inP p12=true):(b0.ren (mv 2 q)).ren (mv q q')=b0.ren (mv 2 q'):=by
 rw[zqn]
 exact z19 (fun id hid=>zyn (a:=0) hq hid) b0 h
theorem y1c{q:Nat}(hq:q≠1){q':Nat}{T:AHeap}(t:Tl T):AHeap.renamed (mv q q') (up q T)=up q' T:=by
 unfold up AHeap.renamed
 rw[q7]
 refine pJ fun x hx=>?_
 simp only[Function.comp]
 rw[zyn (a:=0) hq (t.key x hx),z9m hq (t.val' x hx)]
theorem zv5{q:Nat}{T lit:AHeap}(t:Tl T)(h1:noR 1 lit=true)(hq:noR q lit=true){id:Id}{b:ABlock}(hg:(up q T).get id=some b):AHeap.get (lit++up q T) id=some b:=by
 rw[AHeap.get_append]
 have:lit.get id=none:=by
  rcases(zhs t (Vu hg)).1 with h|h
  ·exact J2 h1 h
  ·exact J2 hq h
 rw[this];simpa using hg
def z63(q:Nat)(M:List (Id×Id))(id:Id):Option Id:=if id.1=3 then some (q,id.2) else rho 3 M id
def y08(n q:Nat)(lit':AHeap)(M:List (Id×Id)):Bool:=
 pK 4 n&&pK 3 q&&Vr 3 n lit' M&&M.all (fun x=>pK 4 x.1.1&&!(pF x.2.1 q)&&!(pF x.2.1 1))&&noR 1 lit'&&noR q lit'
structure ChkT(n q:Nat)(lit':AHeap)(M:List (Id×Id)):Prop where
 n4:4≤n
 q3:3≤q
 rc:RhoChk 3 n lit' M
 all:∀x∈M,4≤x.1.1∧x.2.1≠q∧x.2.1≠1
 no1:noR 1 lit'=true
 noq:noR q lit'=true
theorem z21{a b:Nat}(h:(!(pF a b))=true):a≠b:=by
 intro e;subst e;simp at h
theorem Jv{n q:Nat}{lit':AHeap}{M:List (Id×Id)}(h:y08 n q lit' M=true):ChkT n q lit' M:=by
 unfold y08 at h
 simp only[pA,pD] at h
 obtain⟨⟨⟨⟨⟨h1,h2⟩,h3⟩,h4⟩,h5⟩,h6⟩:=h
 exact⟨p9 h1,p9 h2,z0c h3,fun x hx=>⟨p9 (h4 x hx).1.1,z21 (h4 x hx).1.2,z21 (h4 x hx).2⟩,h5,h6⟩
theorem z75{A B:AHeap}{id:Id}(h:A.get id≠none):AHeap.get (A++B) id≠none:=by
 rw[AHeap.get_append]
 cases hg:A.get id with
 |none=>exact absurd hg h
 |some b=>simp
theorem zop{n q:Nat}{lit' T:AHeap}{M:List (Id×Id)}{F:Id→Bool}(h:ChkT n q lit' M)(hF:∀i:Id,i.1<3→F i=false):RhoOk 3 n F (lit'++T) (z63 q M):=by
 have base:∀ {i k:Id},z63 q M i=some k→(i.1=3∧k=(q,i.2))∨(i.1≠3∧rho 3 M i=some k):=by
  intro i k hi
  unfold z63 at hi
  split at hi
  ·rename_i h3;simp only[p0] at hi;exact .inl ⟨h3,hi.symm⟩
  ·rename_i h3;exact .inr ⟨h3,hi⟩
 have vals:∀ {i k:Id},rho 3 M i=some k→k.1≠q:=by
  intro i k hi
  rcases Yw hi with g|⟨g1,g2,_⟩
  ·exact(h.all _ g).2.1
  ·have:=h.q3;subst g2;omega
 have lift:∀ {id:Id},lit'.get id≠none→AHeap.get (lit'++T) id≠none:=fun h=>z75 h
 have hr:RhoOk 3 n F (lit'++T) (rho 3 M):=by
  have hc:RhoChk 3 n (lit'++T) M:=⟨h.rc.le,fun x hx=>⟨(h.rc.all x hx).1,(h.rc.all x hx).2.1,(h.rc.all x hx).2.2.imp id lift⟩,h.rc.nd⟩
  refine⟨fun i j k hi hj=>?_,fun i k hi=>?_,fun i hi=>?_,fun i k hi hk=>?_,hc.le⟩
  ·rcases Yw hi with g1|⟨g1,g1',g1''⟩<;>rcases Yw hj with g2|⟨g2,g2',g2''⟩
   ·exact Vo hc.nd g1 g2
   ·exact absurd (pE.2 ⟨_,g1,rfl⟩) g2''
   ·exact absurd (pE.2 ⟨_,g2,rfl⟩) g1''
   ·rw[←g1',←g2']
  ·rcases Yw hi with g|⟨g,g',_⟩
   ·exact(hc.all _ g).2.1
   ·have:=hc.le;omega
  ·rcases ze0 hc hi with g|g
   ·exact .inl ⟨g,hF i hi⟩
   ·exact .inr g
  ·rcases Yw hk with g|⟨g,g',_⟩
   ·exact(hc.all _ g).2.2
   ·omega
 refine⟨fun i j k hi hj=>?_,fun i k hi=>?_,fun i hi=>?_,fun i k hi hk=>?_,hr.le⟩
 ·rcases base hi with⟨a1,a2⟩|⟨a1,a2⟩<;>rcases base hj with⟨b1,b2⟩|⟨b1,b2⟩
  ·rw[a2] at b2
   simp only[pG,true_and] at b2
   ext
   ·omega
   ·exact b2
  ·exact absurd (by rw[a2]) (vals b2)
  ·exact absurd (by rw[b2]) (vals a2)
  ·exact hr.inj i j k a2 b2
 ·rcases base hi with⟨a1,a2⟩|⟨a1,a2⟩
  ·have:=h.n4;omega
  ·exact hr.dom i k a2
 ·have:z63 q M i=rho 3 M i:=by unfold z63;rw[if_neg (by omega)]
  rw[this];exact hr.low i hi
 ·rcases base hk with⟨a1,a2⟩|⟨a1,a2⟩
  ·left;rw[a2];exact h.q3
  ·exact hr.high i k hi a2
theorem z25{n q:Nat}{lit':AHeap}{M:List (Id×Id)}(h:ChkT n q lit' M)(p:Nat):z63 q M (1,p)=some (1,p):=by
 unfold z63
 rw[if_neg (by simp)]
 have hl:z57 M (1,p)=none:=by
  cases hk:z57 M (1,p) with
  |none=>rfl
  |some k=>have:=(h.all _ (Yi hk)).1;simp only at this;omega
 unfold rho
 rw[hl]
 simp only
 rw[if_pos]
 refine⟨by simp,?_⟩
 simp only[pP,List.any_eq_true,beq_iff_eq,pE]
 rintro⟨_,⟨x,hx,rfl⟩,he⟩
 exact(h.all x hx).2.2 (by rw[←he])
theorem za2{F:Id→Bool}{n q:Nat}{lit lit' T:AHeap}{M:List (Id×Id)}(t:Tl T)(hc:ChkT n q lit' M)(h:HeapTo F (lit'++up q T) (z63 q M) 3 n lit)(hF:∀id:Id,id.1=1∨id.1=q→F id=false) :
 z3i F (lit'++up q T) (z63 q M) 3 n (lit++up 3 T):=by
 intro id blk hg
 rw[AHeap.get_append] at hg
 cases hl:lit.get id with
 |some b=>
  rw[hl] at hg
  simp only[qG,p0] at hg
  subst hg
  exact h.get id b hl
 |none=>
  rw[hl] at hg
  simp only[pS] at hg
  have hq1:q≠1:=by have:=hc.q3;omega
  obtain⟨k,b0,g1,g2,g3,g4,g5⟩:=zur t hg
  have hat:z63 q M id=some (mv 2 q k):=by
   subst g4
   rcases Ys g2 with h1|h1
   ·have e:∀a,mv 2 a k=k:=fun a=>by unfold mv;rw[if_neg (by omega)]
    rw[e,e,show k=(1,k.2) by rw[←h1]]
    exact z25 hc _
   ·unfold mv;rw[if_pos h1,if_pos h1];unfold z63;simp
  unfold Jz
  rw[hat]
  simp only
  rw[zv5 t hc.no1 hc.noq (zuw hq1 t g1)]
  refine⟨hF _ (zrp g2),?_⟩
  rw[g5,←z9m (q:=q) (q':=3) hq1 g3]
  refine .mov (p1q q) (mv q 3) _ (z2p (fun id hid=>z68 (zrp hid)) _ g3) (fun i hi=>?_)
  have hn:=hc.n4
  rcases Ka hi with h1|h1
  ·have e:mv q 3 i=i:=by unfold mv;rw[if_neg (by omega)]
   rw[e,show i=(1,i.2) by rw[←h1]]
   exact⟨by simp only;omega,z25 hc _⟩
  ·have e:mv q 3 i=(3,i.2):=by unfold mv;rw[if_pos h1]
   rw[e]
   refine⟨by simp only;omega,?_⟩
   unfold z63
   simp[←h1]
theorem zuz{n n':Nat}{q:Nat}{M:List (Id×Id)}{e' e:Env}{lit' lit T:AHeap}(t:Tl T)(hc:y08 n q lit' M=true)(hE:EnvTo (fun _=>false) (lit'++up q T) (z63 q M) n e' e)
 (hH:HeapTo (fun _=>false) (lit'++up q T) (z63 q M) 3 n lit):Sim 3 e' (lit'++up q T) n' e (lit++up 3 T) n:=
 Sim.of ⟨_,_,zop (Jv hc) (fun _ _=>rfl),hE,za2 t (Jv hc) hH (fun _ _=>rfl)⟩
theorem zz6{n0:Nat}{Fs:List Id}(hF:(Fs.all fun x=>pK n0 x.1)=true)(i:Id)(hi:i.1<n0):Fs.contains i=false:=by
 rw[pD] at hF
 simp only[pP,List.any_eq_false,beq_iff_eq]
 intro x hx hix
 have:=p9 (hF x hx)
 subst hix;omega
theorem z1f{n0 n n':Nat}{r R:AVal}{H' L:AHeap}(M:List (Id×Id))(Fs:List Id)(hρ:Vr n0 n H' M=true)(hF:(Fs.all fun x=>pK n0 x.1)=true)(hv:Vw (fun x=>Fs.contains x) H' (rho n0 M) n r R)
 (hH:HeapTo (fun x=>Fs.contains x) H' (rho n0 M) n0 n L):Yy n0 n R L r H' n':=
 ⟨_,_,zme hρ (zz6 hF),hv,hH.get⟩
theorem zwo{q n n':Nat}{r R:AVal}{lit' lit T:AHeap}(t:Tl T)(M:List (Id×Id))(Fs:List Id)(hc:y08 n q lit' M=true)(hF:(Fs.all fun x=>pK 3 x.1&&!(pF x.1 q))=true)
 (hv:Vw (fun x=>Fs.contains x) (lit'++up q T) (z63 q M) n r R) (hH:HeapTo (fun x=>Fs.contains x) (lit'++up q T) (z63 q M) 3 n lit):Yy 3 n R (lit++up 3 T) r (lit'++up q T) n':=by
 have hF1:(Fs.all fun x=>pK 3 x.1)=true:=by
  rw[pD] at hF ⊢
  intro x hx
  have:=hF x hx
  simp only[pA] at this
  exact this.1
 refine⟨_,_,zop (Jv hc) (zz6 hF1),hv,za2 t (Jv hc) hH (fun id hid=>?_)⟩
 rcases hid with hid|hid
 ·exact zz6 hF1 id (by omega)
 ·rw[pD] at hF
  simp only[pP,List.any_eq_false,beq_iff_eq]
  intro x hx hix
  have:=hF x hx
  simp only[pA] at this
  subst hix
  exact z21 this.2 hid
theorem Zr{f:FuncId}{bm:List Nat}{L:LFn}(hL:Zb P bm f=some L)(hok:Xk P f){args:List AVal}(hlen:args.length≤L.lay.n){H Lh:AHeap}{n0 n:Nat}{R:AVal}
 (h:LWp P L.lay n0 L.body (W4 L.res (Yy n0 n R Lh)) (qe 0 args) H n0):ACalls P f args H n0 (Ze n R Lh):=ACalls.fin (ACalls.ofFnW hL hok hlen h)
def zfv(H:AHeap)(id:Id):Option Id:=if id.1=3 then(if(H.get (2,id.2)).isSome=true then some (2,id.2) else none) else if id.1<3 then(if id.1=2∧(H.get id).isSome=true then none else some id) else none
theorem zwv{H:AHeap}:RhoOk 3 4 (fun _=>false) H (zfv H):=by
 have some_ne:∀ {id:Id},(H.get id).isSome=true→H.get id≠none:=fun h hn=>by rw[hn] at h;cases h
 refine⟨fun i j k hi hj=>?_,fun i k hi=>?_,fun i hi=>?_,fun i k hi hk=>?_,by omega⟩
 ·unfold zfv at hi hj
  split at hi
  ·rename_i i3
   split at hi<;>simp only[p0,reduceCtorEq] at hi
   rename_i hs
   split at hj
   ·rename_i j3
    split at hj<;>simp only[p0,reduceCtorEq] at hj
    rw[←hi] at hj
    simp only[pG,true_and] at hj
    ext
    ·omega
    ·exact hj.symm
   ·split at hj<;>try (cases hj;done)
    split at hj<;>simp only[p0,reduceCtorEq] at hj
    rename_i hno
    subst hj
    refine absurd ⟨?_,?_⟩ hno
    ·rw[←hi]
    ·rw[←hi];exact hs
  ·split at hi<;>try (cases hi;done)
   split at hi<;>simp only[p0,reduceCtorEq] at hi
   rename_i hno
   subst hi
   split at hj
   ·split at hj<;>simp only[p0,reduceCtorEq] at hj
    rename_i hs
    refine absurd ⟨?_,?_⟩ hno
    ·rw[←hj]
    ·rw[←hj];exact hs
   ·split at hj<;>try (cases hj;done)
    split at hj<;>simp only[p0,reduceCtorEq] at hj
    exact hj.symm
 ·unfold zfv at hi
  split at hi
  ·omega
  ·split at hi<;>try (cases hi;done)
   omega
 ·unfold zfv
  rw[if_neg (by omega),if_pos hi]
  split
  ·rename_i hc;exact .inr ⟨rfl,some_ne hc.2⟩
  ·exact .inl ⟨rfl,rfl⟩
 ·unfold zfv at hk
  split at hk
  ·split at hk<;>simp only[p0,reduceCtorEq] at hk
   rename_i hs
   right;rw[←hk];exact some_ne hs
  ·split at hk
   ·omega
   ·cases hk
theorem zgn{lit' lit T:AHeap}{e' e:Env}(t:Tl T)(h1:noR 1 lit'=true)(h2:noR 2 lit'=true)(hE:EnvTo (fun _=>false) (lit'++T) (zfv (lit'++T)) 4 e' e)(hH:HeapTo (fun _=>false) (lit'++T) (zfv (lit'++T)) 3 4 lit) :
 Sim 3 e' (lit'++T) 3 e (lit++up 3 T) 4:=by
 refine Sim.of ⟨_,_,zwv,hE,?_⟩
 have app:∀ {id:Id} {b:ABlock},p12 id=true→T.get id=some b→AHeap.get (lit'++T) id=some b:=by
  intro id b hp hg
  rw[AHeap.get_append]
  have:lit'.get id=none:=by
   rcases Ys hp with h|h
   ·exact J2 h1 h
   ·exact J2 h2 h
  rw[this];simpa using hg
 have at1:∀p,zfv (lit'++T) (1,p)=some (1,p):=fun p=>by unfold zfv;simp
 -- names under 2 that are alive
 have at2:∀ {id:Id} {b:ABlock},id.1=2→T.get id=some b→zfv (lit'++T) (3,id.2)=some id:=by
  intro id b hid hg
  have e:id=(2,id.2):=by rw[←hid]
  unfold zfv
  rw[if_pos rfl]
  have:=app (by unfold p12;rw[hid];rfl) hg
  rw[e] at this
  simp only
  rw[this,e]
  simp
 intro id blk hg
 rw[AHeap.get_append] at hg
 cases hl:lit.get id with
 |some b=>
  rw[hl] at hg
  simp only[qG,p0] at hg
  subst hg
  exact hH.get id b hl
 |none=>
  rw[hl] at hg
  simp only[pS] at hg
  obtain⟨k,b0,g1,g2,g3,g4,g5⟩:=zur t hg
  have hat:zfv (lit'++T) id=some k:=by
   subst g4
   rcases Ys g2 with h|h
   ·unfold mv;rw[if_neg (by omega),show k=(1,k.2) by rw[←h]];exact at1 _
   ·unfold mv;rw[if_pos h];exact at2 h g1
  unfold Jz
  rw[hat]
  simp only
  rw[app g2 g1]
  refine⟨by trivial,?_⟩
  rw[g5]
  refine .mov (fun id=>p12 id&&(T.get id).isSome) (mv 2 3) b0 (t.val _ (Vu g1)) (fun i hi=>?_)
  simp only[pA] at hi
  have hs:∃b,T.get i=some b:=Option.isSome_iff_exists.1 hi.2
  obtain⟨b,hb⟩:=hs
  rcases Ys hi.1 with h|h
  ·have e:mv 2 3 i=i:=by unfold mv;rw[if_neg (by omega)]
   rw[e]
   refine⟨by omega,?_⟩
   rw[show i=(1,i.2) by rw[←h]];exact at1 _
  ·have e:mv 2 3 i=(3,i.2):=by unfold mv;rw[if_pos h]
   rw[e]
   exact⟨by simp only;omega,at2 h hb⟩
def zyo(k n:Nat)(M:List (Id×Id)):Bool:=M.all (fun x=>pK (x.1.1+1) k&&pK (x.2.1+1) n)&&(M.map (·.2)).Nodup
theorem Ug:∀ {M:List (Id×Id)} {k:Id},k∈M.map (·.2)→(M.map (·.1)).Nodup→∃i,z57 M i=some k
 |[],k,h,_=>by cases h
 |(a,b)::r,k,h,hn=>by
  simp only[pR,List.nodup_cons] at hn
  simp only[pR,pQ] at h
  rcases h with rfl|h
  ·exact⟨a,by simp[z57]⟩
  ·obtain⟨i,hi⟩:=Ug h hn.2
   refine⟨i,?_⟩
   have:a≠i:=fun hai=>by subst hai;exact hn.1 (pE.2 ⟨_,Yi hi,rfl⟩)
   simp[z57,this,hi]
def H0To(H:AHeap)(ρ:Id→Option Id)(k:Nat):AHeap→Prop
 |[]=>True
 |(i,b)::r=>(∃x b',ρ i=some x∧H.get x=some b'∧BVw (fun _=>false) H ρ k b' b)∧H0To H ρ k r
theorem H0To.get{H:AHeap}{ρ:Id→Option Id}{k:Nat}:∀ {H0:AHeap},H0To H ρ k H0→∀i b,H0.get i=some b→∃x b',ρ i=some x∧H.get x=some b'∧BVw (fun _=>false) H ρ k b' b
 |[],_,i,b,h=>by simp[AHeap.get] at h
 |(j,c)::r,h,i,b,hg=>by
  by_cases hj:j=i
  ·subst hj;rw[AHeap.get_cons_same] at hg;simp only[p0] at hg;subst hg;exact h.1
  ·rw[AHeap.get_cons_other _ _ hj] at hg;exact H0To.get h.2 i b hg
theorem h0I{H:AHeap}{ρ:Id→Option Id}{k:Nat}{i:Id}{b b':ABlock}(x:Id)(h1:ρ i=some x)(h2:H.get x=some b')(h3:BVw (fun _=>false) H ρ k b' b):∃x b',ρ i=some x∧H.get x=some b'∧BVw (fun _=>false) H ρ k b' b:=⟨x,b',h1,h2,h3⟩
def zle(M:List (Id×Id)):Bool:=(M.map (·.1)).Nodup
def z1p(L:AHeap):Bool:=(L.map (·.1)).Nodup
theorem Q4{f:Fn}{args args0:List AVal}{H H0 L L' rest:AHeap}{n k m:Nat}{R R':AVal}{K:AVal→AHeap→Nat→Prop}(M:List (Id×Id))(h:ACalls P f args0 H0 k (Ze (k+m) R L))
 (hM:zyo k n M=true) (hM1:zle M=true) (hnd:z1p L=true) (ha:ArgsTo (fun _=>false) H (z57 M) k args args0) (hH:H0To H (z57 M) k H0)
 (hR:R.ren (z10 (z57 M) k n m)=R') (hL:RenL (z10 (z57 M) k n m) L L') (hrest:AHeap.without (fun x=>(M.map (·.2)).contains x) H=rest)
 (hk:K R' (L'++rest) (n+m+1)):ACalls P f args H n K:=by
 unfold zyo at hM
 simp only[pA,pD,decide_eq_true_eq] at hM
 have hM':∀x∈M,x.1.1<k∧x.2.1<n:=fun x hx=>⟨p9 (hM.1 x hx).1,p9 (hM.1 x hx).2⟩
 refine ACalls.frame (F:=fun _=>false) (ρ:=z57 M) h (fun i j x hi hj=>Vo hM.2 (Yi hi) (Yi hj)) (fun i x hi=>⟨(hM' _ (Yi hi)).1,(hM' _ (Yi hi)).2,rfl⟩) (fun x hx=>by cases hx) ha hH.get
  (fun x=>(M.map (·.2)).contains x) (fun x=>?_) (by simpa[z1p] using hnd) ?_
 ·simp only[pP,List.any_eq_true,beq_iff_eq,exists_eq_right',qD,false_or]
  constructor
  ·intro hy
   exact Ug hy (by simpa[zle] using hM1)
  ·rintro⟨i,hi⟩
   exact pE.2 ⟨_,Yi hi,rfl⟩
 ·rw[hR,hL.eq,hrest];exact hk
theorem Uo(p:Id→Bool):∀ (A B:AHeap),AHeap.without p (A++B)=AHeap.without p A++AHeap.without p B
 |[],B=>rfl
 |(k,b)::r,B=>by
  simp only[List.cons_append,AHeap.without]
  split
  ·exact Uo p r B
  ·rw[Uo p r B];rfl
theorem Wl{p:Id→Bool}:∀ {H:AHeap},(∀x∈H,p x.1=false)→AHeap.without p H=H
 |[],_=>rfl
 |(k,b)::r,h=>by
  have:=h (k,b) (q6 ..)
  simp only at this
  simp only[AHeap.without,this,qD,if_false]
  rw[Wl (fun x hx=>h x (pV _ hx))]
def Wg(q:Nat)(M:List (Id×Id))(id:Id):Option Id:=if id.1=1 then some id else if id.1=2 then some (q,id.2) else z57 M id
theorem zot{f:Fn}{args args0:List AVal}{lit0 lit L L' rest T T':AHeap}{n q m:Nat}{R R':AVal}{K:AVal→AHeap→Nat→Prop}(t:Tl T)(t':Tl T')(M:List (Id×Id))(h:ACalls P f args0 (lit0++T) 3 (Ze (3+m) R (L++up 3 T')))
 (hM:zyo 3 n M=true) (hM1:zle M=true) (hM2:(M.all fun x=>pF x.1.1 0&&!(pF x.2.1 1)&&!(pF x.2.1 q))=true) (hn:(pK 3 q&&pK (q+1) n&&pK 1 m)=true) (hnd:z1p L=true) (hnr:(noR 1 L&&noR 3 L&&noR n lit&&noR 1 lit&&noR q lit)=true)
 (ha:ArgsTo (fun _=>false) (lit++up q T) (Wg q M) 3 args args0) (hH:H0To (lit++up q T) (Wg q M) 3 lit0)
 (hR:R.ren (z10 (Wg q M) 3 n m)=R') (hL:RenL (z10 (Wg q M) 3 n m) L L') (hrest:AHeap.without (fun x=>(M.map (·.2)).contains x) lit=rest)
 (hk:K R' (L'++(rest++up n T')) (n+m+1)):ACalls P f args (lit++up q T) n K:=by
 unfold zyo at hM
 simp only[pA,pD,decide_eq_true_eq] at hM hM2 hn hnr
 have hM':∀x∈M,x.1.1<3∧x.2.1<n:=fun x hx=>⟨p9 (hM.1 x hx).1,p9 (hM.1 x hx).2⟩
 have hM3:∀x∈M,x.1.1=0∧x.2.1≠1∧x.2.1≠q:=fun x hx=>⟨pB (hM2 x hx).1.1,z21 (by simpa using(hM2 x hx).1.2),z21 (by simpa using(hM2 x hx).2)⟩
 have q3:=p9 hn.1.1
 have qn:=p9 hn.1.2
 have m1:=p9 hn.2
 have q1:q≠1:=by omega
 have cases:∀ {i k:Id},Wg q M i=some k→(i.1=1∧k=i)∨(i.1=2∧k=(q,i.2))∨((i,k)∈M∧i.1=0∧k.1≠1∧k.1≠q):=by
  intro i k h
  unfold Wg at h
  split at h
  ·rename_i h1;simp only[p0] at h;exact .inl ⟨h1,h.symm⟩
  ·split at h
   ·rename_i h1;simp only[p0] at h;exact .inr (.inl ⟨h1,h.symm⟩)
   ·have:=Yi h;exact .inr (.inr ⟨this,hM3 _ this⟩)
 have l1:∀p,Wg q M (1,p)=some (1,p):=fun p=>by simp[Wg]
 have l2:∀p,Wg q M (2,p)=some (q,p):=fun p=>by simp[Wg]
 refine ACalls.sub ?_
 refine ACalls.frame (F:=fun _=>false) (ρ:=Wg q M) h (fun i j x hi hj=>?_) (fun i x hi=>?_) (fun x hx=>by cases hx) ha (fun i b hb=>?_)
  (fun x=>p1q q x || (M.map (·.2)).contains x) (fun x=>?_) ?_ ?_
 ·rcases cases hi with⟨a1,a2⟩|⟨a1,a2⟩|⟨a1,a2,a3,a4⟩<;>rcases cases hj with⟨b1,b2⟩|⟨b1,b2⟩|⟨b1,b2,b3,b4⟩
  ·rw[←a2,←b2]
  ·rw[b2] at a2;have:i.1=q:=by rw[←a2]
   omega
  ·subst a2;omega
  ·rw[a2] at b2;have:j.1=q:=by rw[←b2]
   omega
  ·rw[a2] at b2;simp only[pG,true_and] at b2;ext
   ·omega
   ·exact b2
  ·rw[a2] at b4;exact absurd rfl b4
  ·subst b2;omega
  ·rw[b2] at a4;exact absurd rfl a4
  ·exact Vo hM.2 a1 b1
 ·rcases cases hi with⟨a1,a2⟩|⟨a1,a2⟩|⟨a1,a2,a3,a4⟩
  ·subst a2;exact⟨by omega,by omega,rfl⟩
  ·subst a2;exact⟨by omega,by simp only;omega,rfl⟩
  ·exact⟨by omega,(hM' _ a1).2,rfl⟩
 ·rw[AHeap.get_append] at hb
  cases hl:lit0.get i with
  |some b0=>
   rw[hl] at hb
   simp only[qG,p0] at hb
   subst hb
   exact hH.get i b0 hl
  |none=>
   rw[hl] at hb
   simp only[pS] at hb
   have hm:=Vu hb
   have hat:Wg q M i=some (mv 2 q i):=by
    have hk:p12 i=true:=t.key _ hm
    rcases Ys hk with h1|h1
    ·unfold mv;rw[if_neg (by omega),show i=(1,i.2) by rw[←h1]];exact l1 _
    ·unfold mv;rw[if_pos h1,show i=(2,i.2) by rw[←h1]];exact l2 _
   refine⟨_,_,hat,zv5 t hnr.1.2 hnr.2 (zuw q1 t hb),?_⟩
   have e:(b.ren (mv 2 q)).ren (mv q 2)=b:=by
    rw[z9m q1 (t.val' _ hm)]
    have:=z19 (g:=mv 2 2) (h:=fun i=>i) (p:=p12) (fun id hid=>by
     unfold mv
     split
     ·rename_i h;rw[←h]
     ·rfl) b (t.val' _ hm)
    rw[this,zrr]
   have:=BVw.mov (F:=fun _=>false) (H:=lit++up q T) (ρ:=Wg q M) (n:=3) (p1q q) (mv q 2) (b.ren (mv 2 q)) (z2p (fun id hid=>z68 (zrp hid)) _ (t.val' _ hm)) (fun id hid=>by
    rcases Ka hid with h1|h1
    ·have e:mv q 2 id=id:=by unfold mv;rw[if_neg (by omega)]
     rw[e,show id=(1,id.2) by rw[←h1]]
     exact⟨by simp only;omega,l1 _⟩
    ·have e:mv q 2 id=(2,id.2):=by unfold mv;rw[if_pos h1]
     rw[e]
     refine⟨by simp only;omega,?_⟩
     rw[l2,←h1])
   rwa [e] at this
 ·simp only[qD,false_or,Bool.or_eq_true]
  constructor
  ·rintro(h1|h1)
   ·rcases Ka h1 with h1|h1
    ·exact⟨x,by rw[show x=(1,x.2) by rw[←h1]];exact l1 _⟩
    ·exact⟨(2,x.2),by rw[l2,←h1]⟩
   ·simp only[pP,List.any_eq_true,beq_iff_eq,exists_eq_right'] at h1
    obtain⟨i,hi⟩:=Ug (M:=M) h1 (by simpa[zle] using hM1)
    have:=(hM3 _ (Yi hi)).1
    exact⟨i,by unfold Wg;rw[if_neg (by simp only at this;omega),if_neg (by simp only at this;omega)];exact hi⟩
  ·rintro⟨i,hi⟩
   rcases cases hi with⟨a1,a2⟩|⟨a1,a2⟩|⟨a1,a2,a3,a4⟩
   ·left;subst a2;exact z68 (.inl a1)
   ·left;subst a2;exact z68 (.inr rfl)
   ·right
    simp only[pP,List.any_eq_true,beq_iff_eq,exists_eq_right']
    exact pE.2 ⟨_,a1,rfl⟩
 ·rw[List.map_append,List.nodup_append]
  refine⟨by simpa[z1p] using hnd,y0g (by omega) t',fun a ha b hb hab=>?_⟩
  obtain⟨x,hx,rfl⟩:=pE.1 ha
  obtain⟨y,hy,rfl⟩:=pE.1 hb
  have h1:=hnr.1.1.1.1
  have h3:=hnr.1.1.1.2
  unfold noR at h1 h3
  rw[pD] at h1 h3
  rcases(zhs t' hy).1 with g|g
  ·exact z21 (h1 x hx) (by rw[hab];exact g)
  ·exact z21 (h3 x hx) (by rw[hab];exact g)
 ·have hu:∀id:Id,p1q 3 id=true→z10 (Wg q M) 3 n m id=mv 3 n id:=by
   intro id hid
   rcases Ka hid with h1|h1
   ·unfold z10 mv;rw[if_pos (by omega),if_neg (by omega),show id=(1,id.2) by rw[←h1],l1];rfl
   ·unfold z10 mv;rw[if_neg (by omega),if_pos h1,h1];simp
  have eT:AHeap.renamed (z10 (Wg q M) 3 n m) (up 3 T')=up n T':=by
   rw[←y1c (q:=3) (q':=n) (by omega) t']
   unfold AHeap.renamed
   refine pJ fun x hx=>?_
   obtain⟨g1,g2⟩:=zhs t' hx
   rw[hu _ (z68 g1),z19 hu _ g2]
  have eL:AHeap.renamed (z10 (Wg q M) 3 n m) (L++up 3 T')=L'++up n T':=by
   have:=hL.eq
   unfold AHeap.renamed at this eT ⊢
   rw[List.map_append,this,eT]
  rw[hR,eL]
  refine⟨_,fun id blk hb=>?_,hk⟩
  rw[AHeap.get_append] at hb ⊢
  rw[AHeap.get_append]
  cases g1:L'.get id with
  |some b=>rw[g1] at hb;simpa using hb
  |none=>
   rw[g1] at hb
   simp only[pS] at hb ⊢
   rw[AHeap.get_append] at hb
   cases g2:rest.get id with
   |none=>
    rw[g2] at hb
    simp only[pS] at hb
    rw[hb];rfl
   |some b=>
    rw[g2] at hb
    simp only[qG,p0] at hb
    subst hb
    -- an old block: not under 1, nor under n
    have hg:lit.get id=some b∧(M.map (·.2)).contains id=false:=by
     rw[←hrest,AHeap.get_without] at g2
     split at g2
     ·cases g2
     ·rename_i hc;exact⟨g2,by simpa using hc⟩
    have hlt:id.1≠1∧id.1≠q:=⟨fun h=>by rw[J2 hnr.1.2 h] at hg;exact absurd hg.1 (by simp),fun h=>by rw[J2 hnr.2 h] at hg;exact absurd hg.1 (by simp)⟩
    have hu0:(up n T').get id=none:=by
     cases hh:(up n T').get id with
     |none=>rfl
     |some b'=>
      rcases(zhs t' (Vu hh)).1 with h1|h1
      ·exact absurd h1 hlt.1
      ·rw[J2 hnr.1.1.2 h1] at hg;exact absurd hg.1 (by simp)
    have hp:(p1q q id || (M.map (·.2)).contains id)=false:=by
     rw[hg.2,Bool.or_false]
     cases hh:p1q q id with
     |false=>rfl
     |true=>
      rcases Ka hh with h1|h1
      ·exact absurd h1 hlt.1
      ·exact absurd h1 hlt.2
    rw[hu0,AHeap.get_without,hp,AHeap.get_append,hg.1]
    simp
structure Clo(P:Program)(fid:Fn)(first caps:List AVal){σ α τ:Type}(Hc:σ→AHeap)(ea:α→List AVal)(rb:τ→AVal)(g:σ→α→Option (τ×σ)):Prop where
 tl:∀s,Tl (Hc s)
 hf:AVal.inP.inPL (fun id=>pF id.1 1) first=true
 hc:AVal.inP.inPL (fun id=>pF id.1 1) caps=true
 hb:∀b,(rb b).nid=true
 yc:(∃f,fid=.func f)∨caps=[]
 call:∀s x o,g s x=some o→ACalls P fid (first++ea x++caps) (Hc s) 3 (Ze 4 (rb o.1) (up 3 (Hc o.2)))
theorem z13{F:Id→Bool}{H:AHeap}{ρ:Id→Option Id}{n:Nat}:∀ {a b c d:List AVal},ArgsTo F H ρ n a b→ArgsTo F H ρ n c d→ArgsTo F H ρ n (a++c) (b++d)
 |[],[],_,_,_,h=>h
 |[],_::_,_,_,h,_=>h.elim
 |_::_,[],_,_,h,_=>h.elim
 |x::xs,y::ys,_,_,h,h'=>⟨h.1,z13 h.2 h'⟩
theorem Vw.fix1{F:Id→Bool}{H:AHeap}{ρ:Id→Option Id}{n:Nat}{x:AVal}(hx:x.inP (fun id=>pF id.1 1)=true)(hn:1<n)(hρ:∀p,ρ (1,p)=some (1,p)):Vw F H ρ n x x:=by
 have:=Vw.mov (F:=F) (H:=H) (ρ:=ρ) (n:=n) (fun id=>pF id.1 1) (fun i=>i) x hx (fun id hid=>by
  have h1:=pB hid
  refine⟨by omega,?_⟩
  rw[show id=(1,id.2) by rw[←h1]];exact hρ _)
 rwa [z0d] at this
theorem z1c{F:Id→Bool}{H:AHeap}{ρ:Id→Option Id}{n:Nat}(hn:1<n)(hρ:∀p,ρ (1,p)=some (1,p)):∀ {a:List AVal},AVal.inP.inPL (fun id=>pF id.1 1) a=true→ArgsTo F H ρ n a a
 |[],_=>trivial
 |x::r,h=>by
  simp only[AVal.inP.inPL,pA] at h
  exact⟨.fix1 h.1 hn hρ,z1c hn hρ h.2⟩
theorem Vw.clo{F:Id→Bool}{H:AHeap}{ρ:Id→Option Id}{n:Nat}{f:Fn}{a c:List AVal}(ha:AVal.inP.inPL (fun id=>pF id.1 1) a=true)(hc:AVal.inP.inPL (fun id=>pF id.1 1) c=true)(hn:1<n)(hρ:∀p,ρ (1,p)=some (1,p)):Vw F H ρ n (.fn f a c) (.fn f a c):=
 .fix1 (by simp only[AVal.inP,ha,hc,Bool.and_self]) hn hρ
theorem z8u(q:Nat)(M:List (Id×Id))(p:Nat):Wg q M (1,p)=some (1,p):=by simp[Wg]
theorem zgx(H:AHeap)(p:Nat):zfv H (1,p)=some (1,p):=by simp[zfv]
theorem Clo.use{fid:Fn}{first caps:List AVal}{σ α τ:Type}{Hc:σ→AHeap}{ea:α→List AVal}{rb:τ→AVal}{g:σ→α→Option (τ×σ)}(c:Clo P fid first caps Hc ea rb g){s:σ}{x:α}{o:τ×σ}(h:g s x=some o)
 {args:List AVal} {lit:AHeap} {n q:Nat} {K:AVal→AHeap→Nat→Prop} (hn:(pK 3 q&&pK (q+1) n)=true) (hnr:(noR n lit&&noR 1 lit&&noR q lit)=true) (ha:ArgsTo (fun _=>false) (lit++up q (Hc s)) (Wg q []) 3 args (ea x))
 (hk:K (rb o.1) (lit++up n (Hc o.2)) (n+2)):ACallsC P fid first args caps (lit++up q (Hc s)) n K:=by
 have key:∀ {f:Fn},(∃f',f=.func f')∨caps=[]→ACalls P f (first++args++caps) (lit++up q (Hc s)) n K→ACallsC P f first args caps (lit++up q (Hc s)) n K:=by
  intro f h1 h2
  cases f with
  |func g=>exact h2
  |_=>
   rcases h1 with⟨f',h1⟩|h1
   ·cases h1
   ·exact⟨h1,h2⟩
 refine key c.yc ?_
 refine zot (m:=1) (L:=[]) (L':=[]) (lit0:=[]) (rest:=lit) (R':=rb o.1) (c.tl s) (c.tl o.2) [] (c.call s x o h) rfl rfl rfl ?_ rfl ?_ (z13 (z13 (z1c (by omega) (z8u q []) c.hf) ha) (z1c (by omega) (z8u q []) c.hc)) trivial
  (Zd _ (c.hb _)) trivial (Wl (fun _ _=>rfl)) hk
 ·simp only[pA] at hn ⊢
  exact⟨hn,rfl⟩
 ·simp only[pA] at hnr ⊢
  exact⟨⟨⟨⟨rfl,rfl⟩,hnr.1.1⟩,hnr.1.2⟩,hnr.2⟩
theorem Vw.mslE{F:Id→Bool}{H:AHeap}{ρ:Id→Option Id}{n:Nat}{b b':Id}{s off len len':Nat}{f f':Bool}(h:ρ b'=some b)(hl:len=len')(hf:f=f'):Vw F H ρ n (.msl b s off len f) (.msl b' s off len' f'):=by
 subst hl;subst hf;exact .msl _ _ _ _ _ _ h
theorem Vw.mslW{F:Id→Bool}{H:AHeap}{ρ:Id→Option Id}{n:Nat}{b b':Id}{s off len len':Nat}{f:Bool}(h:ρ b'=some b)(hl:len=len'):Vw F H ρ n (.msl b s off len f) (.msl b' s off len' false):=by
 subst hl;exact .mslF _ _ _ _ _ _ h
theorem y1t{α:Type}(f:α→List AVal)(l m:List α)(off len:Nat):((l.map f).drop off).take len++m.map f=((l.drop off).take len++m).map f:=by
 rw[List.map_append,List.map_take,List.map_drop]
theorem zzp{α:Type}(f:α→List AVal)(l m:List α){len:Nat}(h:len=l.length):((l.map f).drop 0).take len++m.map f=(l++m).map f:=by
 subst h;rw[List.map_append,List.drop_zero,qF (by simp)]
theorem zyd{α:Type}(f:α→List AVal){l:List α}{len:Nat}(h:len=l.length):0+len≤(l.map f).length:=by rw[pO];omega
theorem ACalls.same{f:Fn}{args:List AVal}{H:AHeap}{n:Nat}{R:AVal}(hR:R.nid=true)(h:ACalls P f args H n (fun r H' n'=>r=R∧z3i (fun _=>false) H' (rho n []) n n H)):ACalls P f args H n (fun r H' n'=>r=R∧H'=H∧n'=n):=by
 refine⟨h.1,fun I β w vs hI hl hr=>(h.2 I β w vs hI hl hr).mono ?_⟩
 rintro ee w' ⟨r,v,H',n',I',β',he,⟨rfl,hH⟩,hI',hr',hx⟩
 have hρ:RhoOk n n (fun _=>false) H' (rho n []):=zme (by simp[Vr]) (fun _ _=>rfl)
 obtain⟨k1,k2⟩:=zhn hx hI' hρ hH
 exact⟨_,v,H,n,_,_,he,⟨rfl,rfl,rfl⟩,k2,Vv (fun _ _ h=>.inl h) _ hR hr',k1⟩
theorem ACalls.sim{f:Fn}{args args':List AVal}{H L:AHeap}{n n2:Nat}{K:AVal→AHeap→Nat→Prop}(hc:pK n n2=true)(ha:ArgsTo (fun _=>false) H (rho n []) n2 args args')(hH:HeapTo (fun _=>false) H (rho n []) n n2 L)
 (h:ACalls P f args' L n2 K):ACalls P f args H n K:=by
 refine⟨h.1,fun I β w vs hI hl hr=>?_⟩
 have hρ:RhoOk n n2 (fun _=>false) H (rho n []):=zme (by simp[Vr,hc]) (fun _ _=>rfl)
 obtain⟨k1,k2⟩:=zhn (Ext.refl I β n H w hI.fresh) hI hρ hH.get
 obtain⟨ha1,ha2⟩:=ha.get
 refine(h.2 _ _ w vs k2 (by rw[hl,ha1]) (fun i y v hy hv=>?_)).mono ?_
 ·have hlt:i<args.length:=by rw[ha1];exact Wj hy
  exact z2b hI hρ (ha2 i args[i] y (pC hlt) hy) (hr i _ v (pC hlt) hv)
 ·rintro ee w' ⟨r,v,H',n',I',β',he,hk,hI',hr',hx⟩
  exact⟨r,v,H',n',I',β',he,hk,hI',hr',k1.trans hx⟩
def zxs(p:Id→Bool):AHeap→Prop
 |[]=>True
 |(_,b)::r=>b.inP p=true∧zxs p r
theorem zcv{p:Id→Bool}:∀ {T:AHeap},zxs p T→∀x∈T,x.2.inP p=true
 |[],_,x,hx=>by cases hx
 |(_,b)::r,h,x,hx=>by
  rcases pQ.1 hx with e|hx
  ·rw[e];exact h.1
  ·exact zcv h.2 x hx
theorem Tl.lit{T:AHeap}(hk:(T.all fun x=>p12 x.1)=true)(hv:zxs (fun id=>p12 id&&(T.get id).isSome) T)(hn:z1p T=true):Tl T:=
 ⟨by rw[pD] at hk;exact hk,zcv hv,by simpa[z1p] using hn⟩
theorem Vw.fnL{F:Id→Bool}{H:AHeap}{ρ:Id→Option Id}{n:Nat}{f:Fn}{a c a' c':List AVal}(h1:VwL F H ρ n a a')(h2:VwL F H ρ n c c'):Vw F H ρ n (.fn f a c) (.fn f a' c'):=.fn _ _ _ _ _ (Ws h1).1 (Ws h2).1 (Ws h1).2 (Ws h2).2
theorem zom{α:Type}(e:α→List AVal)(he:∀x,AVal.nid.nidL (e x)=true∧∀y∈e x,y.imm=some y){l:List α}{len:Nat}(h:len=l.length):Zn (((l.map e).drop 0).take len)=some (l.map e):=by
 subst h
 rw[List.drop_zero,qF (by simp)]
 have hL:∀cs:List AVal,(∀y∈cs,y.imm=some y)→AVal.imm.immL cs=some cs:=by
  intro cs
  induction cs with
  |nil=>intro _;rfl
  |cons x r ih=>intro hx;simp only[AVal.imm.immL,hx x (q6 ..),ih (fun y hy=>hx y (pV _ hy))]
 induction l with
 |nil=>rfl
 |cons x r ih=>simp only[pR,Zn,hL _ (he x).2,ih]
theorem Clo.mk'{fid:FuncId}{first caps:List AVal}{σ α τ:Type}{Hc:σ→AHeap}{ea:α→List AVal}{rb:τ→AVal}{g:σ→α→Option (τ×σ)}(tl:∀s,Tl (Hc s))(hf:AVal.inP.inPL (fun id=>pF id.1 1) first=true)(hc:AVal.inP.inPL (fun id=>pF id.1 1) caps=true)
 (hb:∀b,(rb b).nid=true) (call:∀s x o,g s x=some o→∃L,ACalls P fid (first++ea x++caps) (Hc s) 3 (Ze 4 (rb o.1) L)∧RenL (mv 2 3) (Hc o.2) L):Clo P fid first caps Hc ea rb g:=
 ⟨tl,hf,hc,hb,.inl ⟨_,rfl⟩,fun s x o h=>by
  obtain⟨L,h1,h2⟩:=call s x o h
  have:=h2.eq
  unfold up
  rw[this];exact h1⟩
theorem zh{e e':Env}{x:LOpd}(h:∀t∈x.tmps,e.get t=e'.get t):x.ev e=x.ev e'∧x.need e=x.need e':=by
 cases x with
 |t i=>have:=h i (by simp[LOpd.tmps]);simp[LOpd.ev,LOpd.need,this]
 |c v=>exact⟨rfl,rfl⟩
theorem Xq{e e':Env}:∀ {l:List LOpd},(∀t∈l.flatMap LOpd.tmps,e.get t=e'.get t)→evs e l=evs e' l∧Uc e l=Uc e' l
 |[],_=>⟨rfl,rfl⟩
 |x::r,h=>by
  obtain⟨h1,h2⟩:=zh (e:=e) (e':=e') (x:=x) (fun t ht=>h t (by simp[ht]))
  obtain⟨h3,h4⟩:=Xq (e:=e) (e':=e') (l:=r) (fun t ht=>h t (by simp only[List.flatMap_cons,pW];exact .inr ht))
  simp only[evs,Uc,h1,h2,h3,h4,and_self]
theorem W3{e e':Env}{x:Option LOpd}(h:∀t∈zfw x,e.get t=e'.get t):(∀d,kn e d x=kn e' d x)∧V5 e x=V5 e' x∧zes e x=zes e' x:=by
 cases x with
 |none=>exact⟨fun _=>rfl,rfl,rfl⟩
 |some x=>
  obtain⟨h1,h2⟩:=zh (e:=e) (e':=e') (x:=x) h
  refine⟨fun d=>?_,?_,?_⟩<;>simp only[kn,V5,zes,h1,h2]
theorem z3s{e e':Env}:∀ {l:List (Nat×Nat×LOpd)},(∀t∈l.flatMap (fun p=>p.2.2.tmps),e.get t=e'.get t)→Zz e l=Zz e' l∧Z7 e l=Z7 e' l
 |[],_=>⟨rfl,rfl⟩
 |(o,n,x)::r,h=>by
  obtain⟨h1,h2⟩:=zh (e:=e) (e':=e') (x:=x) (fun t ht=>h t (by simp[ht]))
  obtain⟨h3,h4⟩:=z3s (e:=e) (e':=e') (l:=r) (fun t ht=>h t (by simp only[List.flatMap_cons,pW];exact .inr ht))
  simp only[Zz,Z7,h1,h2,h3,h4,and_self]
theorem z1w{e e':Env}:∀ {l:List (Nat×LOpd)},(∀t∈l.flatMap (fun p=>p.2.tmps),e.get t=e'.get t)→evI e l=evI e' l∧z2d e l=z2d e' l
 |[],_=>⟨rfl,rfl⟩
 |(n,x)::r,h=>by
  obtain⟨h1,h2⟩:=zh (e:=e) (e':=e') (x:=x) (fun t ht=>h t (by simp[ht]))
  obtain⟨h3,h4⟩:=z1w (e:=e) (e':=e') (l:=r) (fun t ht=>h t (by simp only[List.flatMap_cons,pW];exact .inr ht))
  simp only[evI,z2d,h1,h2,h3,h4,and_self]
theorem z3q{e e':Env}{H:AHeap}{op:LOp}(h:∀t∈op.tmps,e.get t=e'.get t):ua e H op=ua e' H op:=by
 have hl:∀ {a b:List Nat},(∀t∈a++b,e.get t=e'.get t)→(∀t∈a,e.get t=e'.get t)∧(∀t∈b,e.get t=e'.get t):=fun h=>⟨fun t ht=>h t (List.mem_append_left _ ht),fun t ht=>h t (List.mem_append_right _ ht)⟩
 cases op with
 |mv x=>obtain⟨h1,h2⟩:=zh h;simp only[ua,h1,h2]
 |pick c a b=>
  obtain⟨h12,h3⟩:=hl h
  obtain⟨h1,h2⟩:=hl h12
  obtain⟨a1,a2⟩:=zh h1
  obtain⟨b1,b2⟩:=zh h2
  obtain⟨c1,c2⟩:=zh h3
  simp only[ua,a1,a2,b1,b2,c1,c2]
 |build zs parts=>obtain⟨h1,h2⟩:=z3s h;simp only[ua,h1,h2]
 |load g n a=>obtain⟨h1,h2⟩:=zh h;simp only[ua,h1,h2]
 |nilck x=>obtain⟨h1,h2⟩:=zh h;simp only[ua,h1,h2]
 |bin op x y=>
  obtain⟨h1,h2⟩:=hl h
  obtain⟨a1,a2⟩:=zh h1
  obtain⟨b1,b2⟩:=zh h2
  simp only[ua,a1,a2,b1,b2]
 |eq neg k x y=>
  obtain⟨h1,h2⟩:=hl h
  obtain⟨a1,a2⟩:=zh h1
  obtain⟨b1,b2⟩:=zh h2
  simp only[ua,a1,a2,b1,b2]
 |un op x=>obtain⟨h1,h2⟩:=zh h;simp only[ua,h1,h2]
 |conv k x=>
  obtain⟨h1,h2⟩:=zh h
  cases k<;>simp only[ua,h1,h2]
 |mkfn f a c=>
  obtain⟨h1,h2⟩:=hl h
  obtain⟨a1,a2⟩:=Xq h1
  obtain⟨b1,b2⟩:=Xq h2
  simp only[ua,a1,a2,b1,b2]
 |slStr x lo hi=>
  obtain⟨h12,h3⟩:=hl h
  obtain⟨h1,h2⟩:=hl h12
  obtain⟨a1,a2⟩:=zh h1
  obtain⟨b1,b2,_⟩:=W3 h2
  obtain⟨c1,c2,_⟩:=W3 h3
  simp only[ua,a1,a2,b1,b2,c1,c2]
 |slSl s x lo hi mx=>
  obtain⟨h123,h4⟩:=hl h
  obtain⟨h12,h3⟩:=hl h123
  obtain⟨h1,h2⟩:=hl h12
  obtain⟨a1,a2⟩:=zh h1
  obtain⟨b1,b2,_⟩:=W3 h2
  obtain⟨c1,c2,_⟩:=W3 h3
  obtain⟨_,d2,d3⟩:=W3 h4
  simp only[ua,a1,a2,b1,b2,c1,c2,d2,d3]
 |slAr k s x=>obtain⟨h1,h2⟩:=zh h;simp only[ua,h1,h2]
 |faddr off x=>obtain⟨h1,h2⟩:=zh h;simp only[ua,h1,h2]
 |field g n off x=>obtain⟨h1,h2⟩:=zh h;simp only[ua,h1,h2]
 |iaddr s x i=>
  obtain⟨h1,h2⟩:=hl h
  obtain⟨a1,a2⟩:=zh h1
  obtain⟨b1,b2⟩:=zh h2
  simp only[ua,a1,a2,b1,b2]
 |iaddrA n s x i=>
  obtain⟨h1,h2⟩:=hl h
  obtain⟨a1,a2⟩:=zh h1
  obtain⟨b1,b2⟩:=zh h2
  simp only[ua,a1,a2,b1,b2]
 |iaddrR n s x i=>
  obtain⟨h1,h2⟩:=hl h
  obtain⟨a1,a2⟩:=zh h1
  obtain⟨b1,b2⟩:=zh h2
  simp only[ua,a1,a2,b1,b2]
 |idxS x i=>
  obtain⟨h1,h2⟩:=hl h
  obtain⟨a1,a2⟩:=zh h1
  obtain⟨b1,b2⟩:=zh h2
  simp only[ua,a1,a2,b1,b2]
 |idxA n s g x i=>
  obtain⟨h1,h2⟩:=hl h
  obtain⟨a1,a2⟩:=zh h1
  obtain⟨b1,b2⟩:=zh h2
  simp only[ua,a1,a2,b1,b2]
 |mlook ks ka g ok zs x k=>
  obtain⟨h1,h2⟩:=hl h
  obtain⟨a1,a2⟩:=zh h1
  obtain⟨b1,b2⟩:=zh h2
  simp only[ua,a1,a2,b1,b2]
 |mlen x=>obtain⟨h1,h2⟩:=zh h;simp only[ua,h1,h2]
 |ext k x=>obtain⟨h1,h2⟩:=zh h;simp only[ua,h1,h2]
 |len b x=>obtain⟨h1,h2⟩:=zh h;cases b<;>simp only[ua,h1,h2]
 |mnx m args=>obtain⟨h1,h2⟩:=Xq h;simp only[ua,h1,h2]
 |_=>rfl
theorem z62{e e':Env}{H:AHeap}{n:Nat}{K:AVal→AHeap→Nat→Prop}{op:LOp}(h:∀t∈op.tmps,e.get t=e'.get t):Yf P e H n K op=Yf P e' H n K op:=by
 have hl:∀ {a b:List Nat},(∀t∈a++b,e.get t=e'.get t)→(∀t∈a,e.get t=e'.get t)∧(∀t∈b,e.get t=e'.get t):=fun h=>⟨fun t ht=>h t (List.mem_append_left _ ht),fun t ht=>h t (List.mem_append_right _ ht)⟩
 cases op with
 |box x=>obtain⟨h1,h2⟩:=zh h;simp only[Yf,h1,h2]
 |mkSl vm s zs len parts=>obtain⟨h1,h2⟩:=z1w h;simp only[Yf,h1,h2]
 |store m a x=>
  obtain⟨h1,h2⟩:=hl h
  obtain⟨a1,a2⟩:=zh h1
  obtain⟨b1,b2⟩:=zh h2
  simp only[Yf,a1,a2,b1,b2]
 |conv k x=>
  obtain⟨h1,h2⟩:=zh h
  cases k<;>simp only[Yf,h1,h2]
 |mkslice vm s b zs l c=>
  obtain⟨h1,h2⟩:=hl h
  obtain⟨a1,a2⟩:=zh h1
  obtain⟨b1,b2⟩:=zh h2
  simp only[Yf,a1,a2,b1,b2]
 |call f args=>obtain⟨h1,h2⟩:=Xq h;simp only[Yf,h1,h2]
 |callv x args=>
  obtain⟨h1,h2⟩:=hl h
  obtain⟨a1,a2⟩:=zh h1
  obtain⟨b1,b2⟩:=Xq h2
  simp only[Yf,a1,a2,b1,b2]
 |app vm s b x y=>
  obtain⟨h1,h2⟩:=hl h
  obtain⟨a1,a2⟩:=zh h1
  obtain⟨b1,b2⟩:=zh h2
  simp only[Yf,a1,a2,b1,b2]
 |mkmap r=>cases r<;>rfl
 |range x=>obtain⟨h1,h2⟩:=zh h;simp only[Yf,h1,h2]
 |next x=>obtain⟨h1,h2⟩:=zh h;simp only[Yf,h1,h2]
 |entry x=>obtain⟨h1,h2⟩:=zh h;simp only[Yf,h1,h2]
 |mset ks ka g zs m k x=>
  obtain⟨h12,h3⟩:=hl h
  obtain⟨h1,h2⟩:=hl h12
  obtain⟨a1,a2⟩:=zh h1
  obtain⟨b1,b2⟩:=zh h2
  obtain⟨c1,c2⟩:=zh h3
  simp only[Yf,a1,a2,b1,b2,c1,c2]
 |mdel ks ka m k=>
  obtain⟨h1,h2⟩:=hl h
  obtain⟨a1,a2⟩:=zh h1
  obtain⟨b1,b2⟩:=zh h2
  simp only[Yf,a1,a2,b1,b2]
 |copy s x y=>
  obtain⟨h1,h2⟩:=hl h
  obtain⟨a1,a2⟩:=zh h1
  obtain⟨b1,b2⟩:=zh h2
  simp only[Yf,a1,a2,b1,b2]
 |_=>rfl
theorem zkf{s bytes:Nat}{H:AHeap}{n:Nat}{K K':AVal→AHeap→Nat→Prop}{x:AVal}{rows2:List (List AVal)}(hk:∀r H n,K r H n→K' r H n)(h:zcu s bytes H n K x rows2):zcu s bytes H n K' x rows2:=by
 unfold zcu at h ⊢
 split at h
 ·exact⟨h.1,hk _ _ _ h.2⟩
 ·exact⟨h.1,h.2.1,h.2.2.1,hk _ _ _ h.2.2.2⟩
 ·exact⟨h.1,h.2.1,h.2.2.1,hk _ _ _ h.2.2.2⟩
 ·exact h.elim
theorem zrq{s bytes:Nat}{H:AHeap}{n:Nat}{K K':AVal→AHeap→Nat→Prop}{x:AVal}{rows2:List (List AVal)}(hk:∀r H n,K r H n→K' r H n)(h:zvv s bytes H n K x rows2):zvv s bytes H n K' x rows2:=by
 unfold zvv at h ⊢
 split at h
 ·exact⟨fun hr=>hk _ _ _ (h.1 hr),fun hr=>⟨(h.2 hr).1,hk _ _ _ (h.2 hr).2⟩⟩
 ·exact⟨h.1,fun hr=>hk _ _ _ (h.2.1 hr),fun hr=>⟨(h.2.2 hr).1,(h.2.2 hr).2.1,hk _ _ _ (h.2.2 hr).2.2⟩⟩
 ·split at h
  ·rename_i hg
   try simp only[hg]
   exact⟨h.1,h.2.1,h.2.2.1,fun hf hr=>hk _ _ _ (h.2.2.2.1 hf hr),fun hr=>⟨(h.2.2.2.2 hr).1,hk _ _ _ (h.2.2.2.2 hr).2⟩⟩
  ·exact h.elim
 ·exact h.elim
theorem zci{e:Env}{H:AHeap}{n:Nat}{K K':AVal→AHeap→Nat→Prop}{op:LOp}(hk:∀r H n,K r H n→K' r H n)(h:Yf P e H n K op):Yf P e H n K' op:=by
 cases op<;>simp only[Yf] at h ⊢<;>try (exact h.elim)
 case alloc zs=>exact hk _ _ _ h
 case allocR s zs=>exact hk _ _ _ h
 case allocB T el=>exact hk _ _ _ h
 case box x=>
  split at h<;>try (exact h.elim)
  rename_i hc
  try simp only[hc]
  exact⟨h.1,hk _ _ _ h.2⟩
 case mkSl vm s zs len parts=>
  split at h<;>try (exact h.elim)
  rename_i hr
  try simp only[hr]
  cases vm with
  |true=>
   simp only at h ⊢
   split at h<;>try (exact h.elim)
   rename_i hi
   try simp only[hi]
   exact⟨h.1,h.2.1,h.2.2.1,hk _ _ _ h.2.2.2⟩
  |false=>
   obtain⟨h1,h2,h3,rs,h4,h5⟩:=h
   exact⟨h1,h2,h3,rs,h4,hk _ _ _ h5⟩
 case store m a x=>
  split at h<;>try (exact h.elim)
  rename_i ha hc
  try simp only[ha,hc]
  split at h
  ·rename_i hg
   try simp only[hg]
   exact⟨h.1,h.2.1,h.2.2.1,h.2.2.2.1,h.2.2.2.2.1,hk _ _ _ h.2.2.2.2.2⟩
  ·rename_i hg
   try simp only[hg]
   exact⟨h.1,h.2.1,h.2.2.1,h.2.2.2.1,h.2.2.2.2.1,hk _ _ _ h.2.2.2.2.2⟩
  ·exact h.elim
 case conv k x=>
  cases k<;>(try simp only at h ⊢)<;>try (exact h.elim)
  case s2b vm=>
   split at h<;>try (exact h.elim)
   rename_i hl
   try simp only[hl]
   cases vm<;>exact⟨h.1,hk _ _ _ h.2⟩
  case b2s=>
   split at h<;>try (exact h.elim)
   rename_i hl
   try simp only[hl]
   exact⟨h.1,h.2.1,h.2.2.1,h.2.2.2.1,hk _ _ _ h.2.2.2.2⟩
 case mkslice vm s bytes zs l c=>
  split at h<;>try (exact h.elim)
  rename_i hl hc
  try simp only[hl,hc]
  cases vm with
  |true=>exact⟨h.1,h.2.1,h.2.2.1,h.2.2.2.1,h.2.2.2.2.1,hk _ _ _ h.2.2.2.2.2⟩
  |false=>
   obtain⟨h1,h2,h3,h4,h5,rows,h7,h6⟩:=h
   exact⟨h1,h2,h3,h4,h5,rows,h7,hk _ _ _ h6⟩
 case call f args=>exact⟨h.1,h.2.mono hk⟩
 case mkmap r=>
  cases r with
  |none=>exact hk _ _ _ h
  |some x=>exact h.elim
 case range x=>
  split at h
  ·rename_i hx
   try simp only[hx]
   split at h<;>try (exact h.elim)
   rename_i hg
   try simp only[hg]
   exact⟨h.1,fun arr ck=>hk _ _ _ (h.2 arr ck)⟩
  ·rename_i hx
   try simp only[hx]
   exact⟨h.1,hk _ _ _ h.2⟩
  ·exact h.elim
 case next x=>
  split at h<;>try (exact h.elim)
  rename_i hx
  try simp only[hx]
  split at h
  ·rename_i hg
   try simp only[hg]
   exact⟨h.1,hk _ _ _ h.2⟩
  ·rename_i hg
   try simp only[hg]
   split at h<;>try (exact h.elim)
   rename_i hb
   try simp only[hb]
   exact⟨h.1,h.2.1,h.2.2.1,fun q=>hk _ _ _ (h.2.2.2.1 q),fun j h1 h2=>hk _ _ _ (h.2.2.2.2 j h1 h2)⟩
  ·exact h.elim
 case entry x=>
  split at h<;>try (exact h.elim)
  rename_i hx
  try simp only[hx]
  split at h<;>try (exact h.elim)
  rename_i hg
  try simp only[hg]
  split at h<;>try (exact h.elim)
  rename_i hb
  try simp only[hb]
  obtain⟨h1,h2,h3,p,h4,h5⟩:=h
  exact⟨h1,h2,h3,p,h4,hk _ _ _ h5⟩
 case mset ks ka g zs m k x=>
  split at h<;>try (exact h.elim)
  rename_i hm hy
  try simp only[hm,hy]
  split at h<;>try (exact h.elim)
  rename_i hg
  try simp only[hg]
  split at h<;>try (exact h.elim)
  rename_i hp
  try simp only[hp]
  exact⟨h.1,h.2.1,h.2.2.1,h.2.2.2.1,hk _ _ _ h.2.2.2.2⟩
 case mdel ks ka m k=>
  split at h<;>try (exact h.elim)
  rename_i hm
  try simp only[hm]
  split at h<;>try (exact h.elim)
  rename_i hg
  try simp only[hg]
  split at h<;>try (exact h.elim)
  rename_i hp
  try simp only[hp]
  exact⟨h.1,h.2.1,h.2.2.1,hk _ _ _ h.2.2.2⟩
 case callv x args=>
  split at h<;>try (exact h.elim)
  rename_i hx
  try simp only[hx]
  exact⟨h.1,h.2.1,h.2.2.mono hk⟩
 case app vm s bytes x y=>
  split at h<;>try (exact h.elim)
  rename_i hr
  try simp only[hr]
  cases vm with
  |true=>
   simp only at h ⊢
   split at h<;>try (exact h.elim)
   rename_i hi
   try simp only[hi]
   exact⟨h.1,h.2.1,h.2.2.1,zkf hk h.2.2.2⟩
  |false=>exact⟨h.1,h.2.1,h.2.2.1,zrq hk h.2.2.2⟩
 case copy s x y=>
  split at h<;>try (exact h.elim)
  rename_i hx hr
  try simp only[hx,hr]
  split at h<;>try (exact h.elim)
  rename_i hg
  try simp only[hg]
  exact⟨h.1,h.2.1,h.2.2.1,h.2.2.2.1,h.2.2.2.2.1,h.2.2.2.2.2.1,hk _ _ _ h.2.2.2.2.2.2⟩
theorem zga{lo:LOper}{e:Env}{t:Nat}(h:t∈lo.looks):(lo.sees e).get t=e.get t:=by
 unfold LOper.sees
 generalize lo.looks=l at h
 induction l with
 |nil=>cases h
 |cons a r ih=>
  simp only[pR,Env.get]
  split
  ·rename_i h1;rw[h1]
  ·rename_i h1
   rcases pQ.1 h with e'|h
   ·exact absurd e'.symm h1
   ·exact ih h
theorem z0j{lo:LOper}{e:Env}:∀t∈lo.op.tmps,(lo.sees e).get t=e.get t:=fun t ht=>zga (by unfold LOper.looks;exact List.mem_append_left _ ht)
theorem zko{d:Option Nat}{op:LOp}{g:Nat}{w:Bool}{e:Env}:((⟨d,op,some (g,w)⟩:LOper).sees e).get g=e.get g:=zga (by simp[LOper.looks])
theorem Yc{R:Env→AHeap→Nat→Prop}:∀ (items:List DItem) {p:Nat} {done:List (Nat×LOper×Env×AVal)} {e:Env} {H:AHeap} {n:Nat},(items.all fun it=>it.loose.isEmpty)=true→z6o P (items.map (·.lo)) R e H n→xd P items p done R e H n
 |[],p,done,e,H,n,_,h=>h
 |⟨⟨d,op,none⟩,loose⟩::rest,p,done,e,H,n,hl,h=>by
  simp only[List.all_cons,pA] at hl
  have hlo:loose=[]:=by simpa using hl.1
  simp only[pR,z6o] at h
  unfold xd
  try simp only
  split at h
  ·rename_i hp
   try simp only[hp]
   split at h
   ·rename_i side v hx
    refine⟨v,?_,Yc rest hl.2 h.2⟩
    unfold Kx
    try simp only
    rw[z3q (e':=e) (fun t ht=>z0j (lo:=⟨d,op,none⟩) t ht),hx]
    exact⟨h.1,.inl rfl⟩
   ·exact h.elim
  ·rename_i hp
   try simp only[hp]
   unfold z8w
   try simp only
   rw[z62 (e':=e) (fun t ht=>z0j (lo:=⟨d,op,none⟩) t ht)]
   refine zci (fun r H' n' hk=>⟨(fun x _ hx=>by rw[hlo] at hx;cases hx),Yc rest hl.2 hk⟩) h
 |⟨⟨d,op,some (g,want)⟩,loose⟩::rest,p,done,e,H,n,hl,h=>by
  simp only[List.all_cons,pA] at hl
  have hlo:loose=[]:=by simpa using hl.1
  simp only[pR,z6o] at h
  unfold xd
  try simp only
  split at h<;>try (exact h.elim)
  rename_i q hq
  have hg:Xw (((⟨d,op,some (g,want)⟩:LOper).sees e).get g) want=some q:=by rw[zko];exact hq
  split at h
  ·rename_i hp
   try simp only[hp]
   unfold Kx
   try simp only
   try simp only[hg]
   rw[z3q (e':=e) (fun t ht=>z0j (lo:=⟨d,op,some (g,want)⟩) t ht)]
   split at h
   ·rename_i side v hx
    try simp only[hx]
    rcases h with⟨u,h1,h2⟩|⟨h1,h2⟩
    ·exact⟨.cnd q u,⟨fun hq=>(h1 hq).1,.inr (.inr ⟨q,v,u,rfl,rfl,fun hq=>(h1 hq).2⟩)⟩,Yc rest hl.2 h2⟩
    ·refine⟨.tup [],⟨(fun hq=>by rw[h1] at hq;cases hq),.inr (.inl ⟨.inr ⟨v,by rw[h1]⟩,.inl rfl⟩)⟩,Yc rest hl.2 h2⟩
   ·rename_i hx
    try simp only[hx]
    exact⟨.tup [],⟨h.1,.inl rfl⟩,Yc rest hl.2 h.2⟩
  ·rename_i hp
   try simp only[hp]
   unfold z8w
   try simp only
   try simp only[hg]
   have hk:∀ (K:AVal→AHeap→Nat→Prop) (hh:q=true→Yf P e H n K op),q=true→Yf P ((⟨d,op,some (g,want)⟩:LOper).sees e) H n K op:=fun K hh hq=>by
    rw[z62 (e':=e) (fun t ht=>z0j (lo:=⟨d,op,some (g,want)⟩) t ht)];exact hh hq
   rcases h with⟨R',h1,h2⟩|⟨h1,h2⟩
   ·exact Or.inl ⟨R',(hk _ h1),(fun x _ hx=>by rw[hlo] at hx;cases hx),Yc rest hl.2 h2⟩
   ·refine Or.inr ⟨hk _ (fun hq=>zci (fun r H' n' hk=>⟨(fun x _ hx=>by rw[hlo] at hx;cases hx),Yc rest hl.2 hk⟩) (h1 hq)),fun hq=>(h2 hq).elim fun u hu=>⟨u,hu.1,(fun x _ hx=>by rw[hlo] at hx;cases hx),Yc rest hl.2 hu.2⟩⟩
theorem zwr{N:Lay}{n0:Nat}{items:List DItem}{Q:Exit→Env→AHeap→Nat→Prop}{e:Env}{H:AHeap}{n:Nat}(hl:(items.all fun it=>it.loose.isEmpty)=true)(h:zqk P (items.map (·.lo)) (Q .normal) e H n):LWp P N n0 (.draw items) Q e H n:=
 uq (.draw items) Q e H n (Yc items hl (Kh _ h))
def lk{κ α:Type}(q:κ→κ→Bool):List (κ×α)→κ→Option α
 |[],_=>none
 |(k',v)::r,k=>if q k k'=true then some v else lk q r k
def mp{κ α:Type}(q:κ→κ→Bool):List (κ×α)→κ→α→List (κ×α)
 |[],k,v=>[(k,v)]
 |(k',v')::r,k,v=>if q k k'=true then(k,v)::r else(k',v')::mp q r k v
def md{κ α:Type}(q:κ→κ→Bool):List (κ×α)→κ→List (κ×α)
 |[],_=>[]
 |(k',v')::r,k=>if q k k'=true then r else(k',v')::md q r k
def em{κ α:Type}(ek:κ→AVal)(ev:α→AVal)(p:κ×α):AVal×AVal:=(ek p.1,ev p.2)
end Go.Fx
namespace Go.Fx
section
variable {P:Program} {I:Nat→Nat→Prop} {β:Id→Option CLoc} {n:Nat} {H:AHeap} {w:World}
structure RecOf(P:Program)(N:Lay)(ps:List Nat)(a b:LCode)(r:Loop):Prop where
 st:r.state=.ready
 pe:r.pending=none
 pa:r.params.toList=ps
 la:yk P (zyk N) r.assign=some a
 lb:yk P (zyk N) r.body=some b
 sz:r.tmps.size=N.n
def busy(r:Loop):Loop:={ r with state:=.busy }
def y2v(k:Id)(l:Nat)(r:Loop)(P:Program)(N:Lay)(n0:Nat)(b:LCode)(Q2:Exit→Env→AHeap→Nat→Prop):Exit→Env→AHeap→Nat→Prop:=
 fun ex e1 H1 n1=>ex=.normal∧∃e1',H1.get k=some (.lrec l r e1')∧LWp P (zyk N) n0 b Q2 e1 (H1.set k (.lrec l (busy r) e1')) n1
def y34(k:Id)(l:Nat)(r:Loop)(K:AVal→AHeap→Nat→Prop):Exit→Env→AHeap→Nat→Prop:=
 fun ex e2 H2 n2=>ex=.normal∧∃e2',H2.get k=some (.lrec l (busy r) e2')∧K (.bool true) (H2.set k (.lrec l r e2')) n2
def y1e:Env→List Nat→List AVal→Env
 |e,p::ps,x::xs=>y1e (e.put (some p) x) ps xs
 |e,_,_=>e
def SubE:Env→Env→Prop
 |[],_=>True
 |(k,x)::r,e=>e.get k=x∧SubE r e
theorem SubE.get:∀ {e1 e:Env},SubE e1 e→∀t,e1.get t=.any∨e1.get t=e.get t
 |[],_,_,t=>.inl rfl
 |(k,x)::r,e,h,t=>by
  simp only[Env.get]
  split
  ·rename_i hk;subst hk;exact .inr h.1.symm
  ·exact SubE.get h.2 t
end
def EnvVw(F:Id→Bool)(H:AHeap)(ρ:Id→Option Id)(n:Nat):Env→Env→Prop
 |[],[]=>True
 |(k,x)::r,(k',y)::r'=>(k=k'∧Vw F H ρ n x y)∧EnvVw F H ρ n r r'
 |_,_=>False
theorem EnvVw.get{F:Id→Bool}{H:AHeap}{ρ:Id→Option Id}{n:Nat}:∀ {e e':Env},EnvVw F H ρ n e e'→∀t,Vw F H ρ n (e.get t) (e'.get t)
 |[],[],_,t=>.any _
 |(k,x)::r,(k',y)::r',h,t=>by
  obtain⟨⟨rfl,h1⟩,h2⟩:=h
  simp only[Env.get]
  split
  ·exact h1
  ·exact EnvVw.get h2 t
 |[],_::_,h,_=>h.elim
 |_::_,[],h,_=>h.elim
end Go.Fx
namespace Go.Fx
def wm(q s:Nat)(es:List (List (List AVal))):List (List AVal):=es.mapIdx fun j r=>[.osl (q,j) s r]
def z4w(q s:Nat)(es:List (List (List AVal)))(i:Nat)(t:Id)(r:List (List AVal)):List (List AVal):=(wm q s es).set i [.osl t s r]
def fam(q N:Nat)(h:Option Nat):AHeap:=((List.range N).filter fun j=>!(h==some j)).map fun j=>((q,j),.tok)
theorem Jm(q s:Nat)(es:List (List (List AVal))):(wm q s es).length=es.length:=by simp[wm]
theorem Ku(q s:Nat)(es:List (List (List AVal)))(j:Nat):(wm q s es)[j]?=es[j]?.map fun r=>[.osl (q,j) s r]:=by simp[wm]
theorem z8q(q s:Nat)(es:List (List (List AVal)))(i:Nat)(t:Id)(r:List (List AVal)):(z4w q s es i t r).length=es.length:=by simp[z4w,Jm]
theorem z7r(q s:Nat)(es:List (List (List AVal)))(i:Nat)(t:Id)(r:List (List AVal))(j:Nat):(z4w q s es i t r)[j]?=es[j]?.map fun r'=>if j=i then [.osl t s r] else [.osl (q,j) s r']:=by
 unfold z4w
 rw[List.getElem?_set]
 by_cases h:i=j
 ·subst h
  rw[if_pos rfl,Jm]
  by_cases hl:i<es.length
  ·rw[if_pos hl,pC hl];simp
  ·rw[if_neg hl,List.getElem?_eq_none (by omega)];rfl
 ·rw[if_neg h,Ku]
  have:¬j=i:=fun e=>h e.symm
  simp[this]
theorem zsn{q s:Nat}{es:List (List (List AVal))}{j:Nat}(h:j<es.length):(wm q s es).getD j []=[.osl (q,j) s (es.getD j [])]:=by
 rw[pI,Ku,pI,pC h];rfl
theorem ztq{q s:Nat}{es:List (List (List AVal))}{i:Nat}{t:Id}{r:List (List AVal)}(h:i<es.length):(z4w q s es i t r).getD i []=[.osl t s r]:=by
 rw[pI,z7r,pC h];simp
theorem zuf{q s:Nat}{es:List (List (List AVal))}{i:Nat}{t t':Id}{r r':List (List AVal)}:(z4w q s es i t r).set i [.osl t' s r']=z4w q s es i t' r':=by
 unfold z4w;rw[List.set_set]
theorem zmi:∀ {L:AHeap} {k:Id},(∀x∈L,x.2=.tok)→k∈L.map (·.1)→L.get k=some .tok
 |[],k,_,h=>by cases h
 |(a,b)::r,k,h,hk=>by
  by_cases e:a=k
  ·subst e
   have:b=.tok:=h (a,b) (q6 ..)
   rw[this,AHeap.get_cons_same]
  ·rw[AHeap.get_cons_other _ _ e]
   refine zmi (fun x hx=>h x (pV _ hx)) ?_
   simp only[pR,pQ] at hk
   rcases hk with rfl|hk
   ·exact absurd rfl e
   ·exact hk
theorem zwj{q N j:Nat}{h:Option Nat}(hj:j<N)(hh:h≠some j):(fam q N h).get (q,j)=some .tok:=by
 refine zmi (fun x hx=>?_) ?_
 ·unfold fam at hx
  obtain⟨j,_,rfl⟩:=pE.1 hx
  rfl
 ·unfold fam
  rw[q7]
  refine pE.2 ⟨j,List.mem_filter.2 ⟨List.mem_range.2 hj,by simpa using hh⟩,rfl⟩
theorem zzm{q N:Nat}{h:Option Nat}{id:Id}{b:ABlock}(hg:(fam q N h).get id=some b):b=.tok∧id.1=q∧id.2<N∧h≠some id.2:=by
 have:=Vu hg
 unfold fam at this
 obtain⟨j,hj,he⟩:=pE.1 this
 simp only[pG] at he
 obtain⟨rfl,rfl⟩:=he
 obtain⟨h1,h2⟩:=List.mem_filter.1 hj
 exact⟨rfl,rfl,List.mem_range.1 h1,by simpa using h2⟩
def IsFam(q N:Nat)(h:Option Nat)(T:AHeap):Prop:=∀j,j<N→h≠some j→T.get (q,j)=some .tok
theorem IsFam.base{q N:Nat}{h:Option Nat}:IsFam q N h (fam q N h):=fun j=>zwj
theorem IsFam.del{q N:Nat}{h:Option Nat}{T:AHeap}{x:Id}(hx:x.1≠q)(a:IsFam q N h T):IsFam q N h (T.del x):=fun j h1 h2=>by
 rw[AHeap.get_del,if_neg (fun e=>hx (by rw[e]))];exact a j h1 h2
theorem IsFam.without{q N:Nat}{h:Option Nat}{T:AHeap}{p:Id→Bool}(hp:∀j,p (q,j)=false)(a:IsFam q N h T):IsFam q N h (AHeap.without p T):=fun j h1 h2=>by
 rw[AHeap.get_without,hp j];exact a j h1 h2
theorem IsFam.app{q N:Nat}{h:Option Nat}{lit T:AHeap}(hl:noR q lit=true)(a:IsFam q N h T){j:Nat}(h1:j<N)(h2:h≠some j):AHeap.get (lit++T) (q,j)=some .tok:=by
 rw[AHeap.get_append,J2 hl rfl,pS];exact a j h1 h2
theorem Vl{α:Type}{l:List α}{i:Nat}{a:α}(h:l[i]?=some a):i<l.length:=by
 rcases Nat.lt_or_ge i l.length with h'|h'
 ·exact h'
 ·rw[List.getElem?_eq_none h'] at h;cases h
def V6(n0 q':Nat)(f:Nat→Option Id)(m:Id)(g:Option Id)(M:List (Id×Id))(id:Id):Option Id:=if id.1=q' then f id.2 else if id=m then g else rho n0 M id
def zq5(n0 n q q':Nat)(m t:Id)(lit':AHeap)(M:List (Id×Id)):Bool:=
 pK n0 q&&pK n0 q'&&pK (q'+1) n&&pK n0 m.1&&pK (m.1+1) n&&pK n0 t.1&&Vr n0 n lit' M&&M.all (fun x=>!(pF x.2.1 q)&&!(decide (x.2=t)))&&noR q lit'
structure ChkG(n0 n q q':Nat)(m t:Id)(lit':AHeap)(M:List (Id×Id)):Prop where
 q0:n0≤q
 q1:n0≤q'
 q2:q'<n
 m1:n0≤m.1
 m2:m.1<n
 t1:n0≤t.1
 rc:RhoChk n0 n lit' M
 all:∀x∈M,x.2.1≠q∧x.2≠t
 no:noR q lit'=true
theorem Jx{n0 n q q':Nat}{m t:Id}{lit':AHeap}{M:List (Id×Id)}(h:zq5 n0 n q q' m t lit' M=true):ChkG n0 n q q' m t lit' M:=by
 unfold zq5 at h
 simp only[pA,pD] at h
 obtain⟨⟨⟨⟨⟨⟨⟨⟨h1,h2⟩,h3⟩,h4⟩,h5⟩,h6⟩,h7⟩,h8⟩,h9⟩:=h
 exact⟨p9 h1,p9 h2,p9 h3,p9 h4,p9 h5,p9 h6,z0c h7,fun x hx=>⟨z21 (h8 x hx).1,by simpa using(h8 x hx).2⟩,h9⟩
section
variable {n0 n n' q q' N:Nat} {h:Option Nat} {f:Nat→Option Id} {m t:Id} {g:Option Id} {M:List (Id×Id)} {e' e:Env} {lit' T lit:AHeap}
theorem zpr{F:Id→Bool}(hc:ChkG n0 n q q' m t lit' M)(hF:∀i:Id,i.1<n0→F i=false)(hf1:∀j k,f j=some k→k.1=q∨k=t)(hf2:∀i j k,f i=some k→f j=some k→i=j)(hg1:∀k,g=some k→k.1=q)(hfg:∀j k,f j=some k→g≠some k) :
 RhoOk n0 n F (lit'++T) (V6 n0 q' f m g M):=by
 have base:∀ {i k:Id},V6 n0 q' f m g M i=some k→(i.1=q'∧f i.2=some k)∨(i.1≠q'∧i=m∧g=some k)∨(i.1≠q'∧i≠m∧rho n0 M i=some k):=by
  intro i k hi
  unfold V6 at hi
  split at hi
  ·rename_i h3;exact .inl ⟨h3,hi⟩
  ·rename_i h3
   split at hi
   ·rename_i h4;exact .inr (.inl ⟨h3,h4,hi⟩)
   ·rename_i h4;exact .inr (.inr ⟨h3,h4,hi⟩)
 have vals:∀ {i k:Id},rho n0 M i=some k→k.1≠q∧k≠t:=by
  intro i k hi
  rcases Yw hi with g|⟨g1,g2,_⟩
  ·exact hc.all _ g
  ·subst g2
   exact⟨fun e=>by have:=hc.q0;omega,fun e=>by have:=hc.t1;subst e;omega⟩
 have hr:RhoOk n0 n F (lit'++T) (rho n0 M):=by
  have hc':RhoChk n0 n (lit'++T) M:=⟨hc.rc.le,fun x hx=>⟨(hc.rc.all x hx).1,(hc.rc.all x hx).2.1,(hc.rc.all x hx).2.2.imp id z75⟩,hc.rc.nd⟩
  refine⟨fun i j k hi hj=>?_,fun i k hi=>?_,fun i hi=>?_,fun i k hi hk=>?_,hc'.le⟩
  ·rcases Yw hi with g1|⟨g1,g1',g1''⟩<;>rcases Yw hj with g2|⟨g2,g2',g2''⟩
   ·exact Vo hc'.nd g1 g2
   ·exact absurd (pE.2 ⟨_,g1,rfl⟩) g2''
   ·exact absurd (pE.2 ⟨_,g2,rfl⟩) g1''
   ·rw[←g1',←g2']
  ·rcases Yw hi with g|⟨g,g',_⟩
   ·exact(hc'.all _ g).2.1
   ·have:=hc'.le;omega
  ·rcases ze0 hc' hi with g|g
   ·exact .inl ⟨g,hF i hi⟩
   ·exact .inr g
  ·rcases Yw hk with g|⟨g,g',_⟩
   ·exact(hc'.all _ g).2.2
   ·omega
 have nf:∀ {j:Nat} {k i:Id},f j=some k→rho n0 M i=some k→False:=fun h1 h2=>by
  rcases hf1 _ _ h1 with h|h
  ·exact(vals h2).1 h
  ·exact(vals h2).2 h
 refine⟨fun i j k hi hj=>?_,fun i k hi=>?_,fun i hi=>?_,fun i k hi hk=>?_,hr.le⟩
 ·rcases base hi with⟨a1,a2⟩|⟨a1,a2,a3⟩|⟨a1,a2,a3⟩<;>rcases base hj with⟨b1,b2⟩|⟨b1,b2,b3⟩|⟨b1,b2,b3⟩
  ·ext
   ·omega
   ·exact hf2 _ _ _ a2 b2
  ·exact absurd b3 (hfg _ _ a2)
  ·exact(nf a2 b3).elim
  ·exact absurd a3 (hfg _ _ b2)
  ·rw[a2,b2]
  ·exact absurd (hg1 _ a3) (vals b3).1
  ·exact(nf b2 a3).elim
  ·exact absurd (hg1 _ b3) (vals a3).1
  ·exact hr.inj i j k a3 b3
 ·rcases base hi with⟨a1,a2⟩|⟨a1,a2,a3⟩|⟨a1,a2,a3⟩
  ·have:=hc.q2;omega
  ·subst a2;exact hc.m2
  ·exact hr.dom i k a3
 ·have:V6 n0 q' f m g M i=rho n0 M i:=by
   unfold V6
   rw[if_neg (by have:=hc.q1;omega),if_neg (fun e=>by have:=hc.m1;subst e;omega)]
  rw[this];exact hr.low i hi
 ·rcases base hk with⟨a1,a2⟩|⟨a1,a2,a3⟩|⟨a1,a2,a3⟩
  ·left
   rcases hf1 _ _ a2 with h|h
   ·have:=hc.q0;omega
   ·subst h;exact hc.t1
  ·left;have:=hg1 _ a3;have:=hc.q0;omega
  ·exact hr.high i k hi a3
theorem y0r(hc:zq5 n0 n q q' m t lit' M=true)(hf1:∀j k,f j=some k→k.1=q∨k=t)(hf2:∀i j k,f i=some k→f j=some k→i=j)(hg1:∀k,g=some k→k.1=q)(hfg:∀j k,f j=some k→g≠some k)
 (hfam:∀j,j<N→h≠some j→f j=none∨∃k,f j=some k∧AHeap.get (lit'++T) k=some .tok)
 (hE:EnvTo (fun _=>false) (lit'++T) (V6 n0 q' f m g M) n e' e) (hH:HeapTo (fun _=>false) (lit'++T) (V6 n0 q' f m g M) n0 n lit):Sim n0 e' (lit'++T) n' e (lit++fam q' N h) n:=by
 have hk:=Jx hc
 refine Sim.of ⟨_,_,zpr hk (fun _ _=>rfl) hf1 hf2 hg1 hfg,hE,fun id blk hg=>?_⟩
 rw[AHeap.get_append] at hg
 cases hl:lit.get id with
 |some b=>
  rw[hl] at hg
  simp only[qG,p0] at hg
  subst hg
  exact hH.get id b hl
 |none=>
  rw[hl] at hg
  simp only[pS] at hg
  obtain⟨rfl,g2,g3,g4⟩:=zzm hg
  have hat:V6 n0 q' f m g M id=f id.2:=by unfold V6;rw[if_pos g2]
  unfold Jz
  rw[hat]
  rcases hfam id.2 g3 g4 with h1|⟨k,h1,h2⟩
  ·rw[h1];exact⟨rfl,by have:=hk.q1;omega,by have:=hk.q2;omega⟩
  ·rw[h1]
   simp only
   rw[h2]
   exact⟨trivial,.tok⟩
theorem Xa(hc:zq5 n0 n q q' (q',0) (q,0) lit' M=true)(hT:IsFam q N none T)
 (hE:EnvTo (fun _=>false) (lit'++T) (V6 n0 q' (fun j=>some (q,j)) (q',0) none M) n e' e) (hH:HeapTo (fun _=>false) (lit'++T) (V6 n0 q' (fun j=>some (q,j)) (q',0) none M) n0 n lit):Sim n0 e' (lit'++T) n' e (lit++fam q' N none) n:=
 y0r hc (fun j k h=>by simp only[p0] at h;subst h;exact .inl rfl) (fun i j k h1 h2=>by simp only[p0] at h1 h2;subst h1;simp only[pG,true_and] at h2;exact h2.symm) (fun k h=>by cases h) (fun j k _ h=>by cases h)
  (fun j h1 h2=>.inr ⟨_,rfl,hT.app (Jx hc).no h1 h2⟩) hE hH
theorem zvp(hc:zq5 n0 n q q' (q',0) (q,0) lit' M=true)
 (hE:EnvTo (fun _=>false) (lit'++T) (V6 n0 q' (fun _=>none) (q',0) none M) n e' e) (hH:HeapTo (fun _=>false) (lit'++T) (V6 n0 q' (fun _=>none) (q',0) none M) n0 n lit):Sim n0 e' (lit'++T) n' e (lit++fam q' N none) n:=
 y0r hc (fun j k h=>by cases h) (fun i j k h1 h2=>by cases h1) (fun k h=>by cases h) (fun j k h=>by cases h) (fun j h1 h2=>.inl rfl) hE hH
def zrc(n0 q q' N i:Nat)(m:Id)(M:List (Id×Id)):Id→Option Id:=V6 n0 q' (fun j=>if j=i then none else some (q,j)) m (if i<N then some (q,i) else none) M
theorem y1y{i:Nat}(hc:zq5 n0 n q q' m (q,0) lit' M=true)(hm:m.1≠q')(hT:IsFam q N none T)
 (hE:EnvTo (fun _=>false) (lit'++T) (zrc n0 q q' N i m M) n e' e) (hH:HeapTo (fun _=>false) (lit'++T) (zrc n0 q q' N i m M) n0 n lit):Sim n0 e' (lit'++T) n' e ((m,.tok)::lit++fam q' N (some i)) n:=by
 refine y0r (lit:=(m,.tok)::lit) hc (fun j k h=>?_) (fun a b k h1 h2=>?_) (fun k h=>?_) (fun j k h h2=>?_) (fun j h1 h2=>?_) hE ⟨?_,hH⟩
 ·skip
  split at h
  ·cases h
  ·simp only[p0] at h;subst h;exact .inl rfl
 ·skip
  split at h1<;>split at h2<;>try (first|(cases h1;done)|(cases h2;done))
  simp only[p0] at h1 h2
  subst h1
  simp only[pG,true_and] at h2
  exact h2.symm
 ·split at h
  ·simp only[p0] at h;subst h;rfl
  ·cases h
 ·skip
  split at h
  ·cases h
  ·rename_i hne
   split at h2
   ·simp only[p0] at h h2
    subst h
    simp only[pG,true_and] at h2
    exact hne h2.symm
   ·cases h2
 ·have:j≠i:=fun e=>h2 (by rw[e])
  rw[if_neg this]
  exact .inr ⟨_,rfl,hT.app (Jx hc).no h1 (by simp)⟩
 ·have hk:=Jx hc
  have:V6 n0 q' (fun j=>if j=i then none else some (q,j)) m (if i<N then some (q,i) else none) M m=if i<N then some (q,i) else none:=by
   unfold V6;rw[if_neg hm,if_pos rfl]
  unfold Jz
  rw[this]
  by_cases hi:i<N
  ·rw[if_pos hi]
   simp only
   rw[hT.app hk.no hi (by simp)]
   exact⟨trivial,.tok⟩
  ·rw[if_neg hi]
   exact⟨rfl,hk.m1,hk.m2⟩
def zn5(n0 q q' i:Nat)(t:Id)(M:List (Id×Id)):Id→Option Id:=V6 n0 q' (fun j=>if j=i then some t else some (q,j)) (q',0) none M
theorem y1x{i:Nat}(hc:zq5 n0 n q q' (q',0) t lit' M=true)(ht:t.1≠q)(hg:AHeap.get (lit'++T) t=some .tok)(hT:IsFam q N (some i) T)
 (hE:EnvTo (fun _=>false) (lit'++T) (zn5 n0 q q' i t M) n e' e) (hH:HeapTo (fun _=>false) (lit'++T) (zn5 n0 q q' i t M) n0 n lit):Sim n0 e' (lit'++T) n' e (lit++fam q' N none) n:=by
 refine y0r hc (fun j k h=>?_) (fun a b k h1 h2=>?_) (fun k h=>by cases h) (fun j k _ h=>by cases h) (fun j h1 h2=>?_) hE hH
 ·skip
  split at h<;>(simp only[p0] at h;subst h)
  ·exact .inr rfl
  ·exact .inl rfl
 ·skip
  split at h1<;>split at h2<;>simp only[p0] at h1 h2
  ·omega
  ·subst h1;exact absurd (by rw[←h2]) ht
  ·subst h2;exact absurd (by rw[←h1]) ht
  ·subst h1
   simp only[pG,true_and] at h2
   exact h2.symm
 ·skip
  by_cases hj:j=i
  ·rw[if_pos hj];exact .inr ⟨_,rfl,hg⟩
  ·rw[if_neg hj];exact .inr ⟨_,rfl,hT.app (Jx hc).no h1 (fun e=>hj (by simpa using e.symm))⟩
theorem zj3{x y:AVal}{F:Id→Bool}{H:AHeap}{ρ:Id→Option Id}(h:Vw F H ρ n x y):([x]:List AVal).length=[y].length∧∀ (j:Nat) (a b:AVal),[x][j]?=some a→[y][j]?=some b→Vw F H ρ n a b:=by
 refine⟨rfl,fun j a b ha hb=>?_⟩
 cases j with
 |zero=>simp only[pT,p0] at ha hb;subst ha;subst hb;exact h
 |succ j=>simp at ha
section
variable {F:Id→Bool} {H:AHeap} {s:Nat} {es:List (List (List AVal))}
theorem BVw.grJ:BVw F H (V6 n0 q' (fun j=>some (q,j)) m none M) n (.rows 1 (wm q s es)) (.rows 1 (wm q' s es)):=by
 refine .rows 1 _ _ (by rw[Jm,Jm]) fun i r r' h1 h2=>?_
 rw[Ku] at h1 h2
 cases he:es[i]? with
 |none=>rw[he] at h1;cases h1
 |some a=>
  rw[he] at h1 h2
  simp only[pL,p0] at h1 h2
  subst h1;subst h2
  exact zj3 (.osl _ _ _ _ (by unfold V6;rw[if_pos rfl]))
theorem BVw.grNew{ρ':Id→Option Id}{k:Nat}(hq:q'<n):BVw F H ρ' n (.rows 1 (pN k [.isl s [] true])) (.rows 1 (wm q' s (pN k []))):=by
 refine .rows 1 _ _ (by rw[Jm];simp) fun i r r' h1 h2=>?_
 rw[Ku] at h2
 rw[List.getElem?_replicate] at h1 h2
 split at h1
 ·rename_i hi
  rw[if_pos hi] at h2
  simp only[pL,p0] at h1 h2
  subst h1;subst h2
  exact zj3 (.islO _ _ _ hq)
 ·cases h1
theorem BVw.grF{i:Nat}(hm:m.1≠q')(hi:N=es.length):BVw F H (zrc n0 q q' N i m M) n (.rows 1 (wm q s es)) (.rows 1 (z4w q' s es i m (es.getD i []))):=by
 refine .rows 1 _ _ (by rw[Jm,z8q]) fun j r r' h1 h2=>?_
 rw[Ku] at h1
 rw[z7r] at h2
 cases he:es[j]? with
 |none=>rw[he] at h1;cases h1
 |some a=>
  rw[he] at h1 h2
  simp only[pL,p0] at h1 h2
  subst h1;subst h2
  have hlt:j<es.length:=Vl he
  by_cases hj:j=i
  ·subst hj
   rw[if_pos rfl]
   have:es.getD j []=a:=by rw[pI,he];rfl
   rw[this]
   refine zj3 (.osl _ _ _ _ ?_)
   unfold zrc V6
   rw[if_neg hm,if_pos rfl,if_pos (by omega)]
  ·rw[if_neg hj]
   refine zj3 (.osl _ _ _ _ ?_)
   unfold zrc V6
   rw[if_pos rfl]
   simp only
   rw[if_neg hj]
theorem BVw.grU{i:Nat}{r0:List (List AVal)}:BVw F H (zn5 n0 q q' i t M) n (.rows 1 (z4w q s es i t r0)) (.rows 1 (wm q' s (es.set i r0))):=by
 refine .rows 1 _ _ (by rw[Jm,z8q,List.length_set]) fun j r r' h1 h2=>?_
 rw[z7r] at h1
 rw[Ku,List.getElem?_set] at h2
 cases he:es[j]? with
 |none=>rw[he] at h1;cases h1
 |some a=>
  have hlt:j<es.length:=Vl he
  rw[he] at h1 h2
  by_cases hj:j=i
  ·subst hj
   simp only[if_pos,hlt,pL,p0] at h1 h2
   subst h1;subst h2
   refine zj3 (.osl _ _ _ _ ?_)
   unfold zn5 V6
   rw[if_pos rfl]
   simp
  ·have hj':¬i=j:=fun e=>hj e.symm
   simp only[if_neg hj,if_neg hj',pL,p0] at h1 h2
   subst h1;subst h2
   refine zj3 (.osl _ _ _ _ ?_)
   unfold zn5 V6
   rw[if_pos rfl]
   simp only
   rw[if_neg hj]
theorem BVw.grNewE{α:Type}(f:α→List AVal){ρ':Id→Option Id}{k:Nat}(hq:q'<n):BVw F H ρ' n (.rows 1 (pN k [.isl s [] true])) (.rows 1 (wm q' s ((pN k ([]:List α)).map (q8 f)))):=by
 rw[List.map_replicate];exact BVw.grNew hq
theorem zqi{α:Type}(f:α→List AVal)(l:List (List α))(i:Nat):(l.map (q8 f)).getD i []=(l.getD i default).map f:=by
 rw[pI,pI,pM]
 cases l[i]?<;>rfl
theorem BVw.grFE{α:Type}(f:α→List AVal){l:List (List α)}{i:Nat}(hm:m.1≠q')(hi:N=l.length):BVw F H (zrc n0 q q' N i m M) n (.rows 1 (wm q s (l.map (q8 f)))) (.rows 1 (z4w q' s (l.map (q8 f)) i m ((l.getD i default).map f))):=by
 rw[←zqi];exact BVw.grF hm (by rw[pO];exact hi)
theorem BVw.grUE{α:Type}(f:α→List AVal){l:List (List α)}{i:Nat}{r:List α}:BVw F H (zn5 n0 q q' i t M) n (.rows 1 (z4w q s (l.map (q8 f)) i t (r.map f))) (.rows 1 (wm q' s ((l.set i r).map (q8 f)))):=by
 rw[List.map_set];exact BVw.grU
end
end
section
variable {α:Type} (f:α→List AVal) {q s:Nat} {l:List (List α)} {i:Nat} {t t':Id}
theorem z0m(h:i<l.length):(wm q s (l.map (q8 f))).getD i []=[.osl (q,i) s ((l.getD i default).map f)]:=by
 rw[zsn (by rw[pO];exact h),zqi]
theorem z2s(h:i<l.length):i<(wm q s (l.map (q8 f))).length:=by rw[Jm,pO];exact h
theorem z4x{r:List (List AVal)}(h:i<l.length):(z4w q s (l.map (q8 f)) i t r).getD i []=[.osl t s r]:=ztq (by rw[pO];exact h)
theorem z2r{r:List (List AVal)}(h:i<l.length):i<(z4w q s (l.map (q8 f)) i t r).length:=by rw[z8q,pO];exact h
theorem zbn{r r':List (List AVal)}(h:i<l.length):(z4w q s (l.map (q8 f)) i t r).set i (uy ((z4w q s (l.map (q8 f)) i t r).getD i []) 0 [.osl t' s r'])=z4w q s (l.map (q8 f)) i t' r':=by
 rw[z4x f h]
 exact zuf
end
theorem IsFam.cast{q N N':Nat}{h:Option Nat}{T:AHeap}(e:N'=N)(a:IsFam q N h T):IsFam q N' h T:=by subst e;exact a
theorem IsFam.hole{q N:Nat}{h:Option Nat}{T:AHeap}(a:IsFam q N none T):IsFam q N h T:=fun j h1 _=>a j h1 (by simp)
def InQ(q:Nat)(T:AHeap):Prop:=∀x∈T,x.1.1=q
theorem InQ.base{q N:Nat}{h:Option Nat}:InQ q (fam q N h):=fun x hx=>by
 unfold fam at hx
 obtain⟨j,_,rfl⟩:=pE.1 hx
 rfl
theorem InQ.del{q:Nat}{y:Id}:∀ {T:AHeap},InQ q T→InQ q (T.del y)
 |[],_=>fun x hx=>by cases hx
 |(k,b)::r,h=>by
  have hr:InQ q r:=fun x hx=>h x (pV _ hx)
  unfold AHeap.del
  split
  ·exact InQ.del hr
  ·intro x hx
   rcases pQ.1 hx with rfl|hx
   ·exact h _ (q6 ..)
   ·exact InQ.del hr x hx
theorem Un{q:Nat}{p:Id→Bool}{lit rest T:AHeap}(hT:InQ q T)(hp:∀j,p (q,j)=false)(hl:AHeap.without p lit=rest):AHeap.without p (lit++T)=rest++T:=by
 rw[Uo,hl,Wl (fun x hx=>?_)]
 have:=hT x hx
 rw[show x.1=(q,x.1.2) by rw[←this]]
 exact hp _
variable {P:Program}
end Go.Fx
namespace Go.Fx
open Go
section
variable {P:Program} {I:Nat→Nat→Prop} {β:Id→Option CLoc} {n:Nat} {H:AHeap} {w:World}
theorem zq9(hI:Inv I β n H w)(s:Nat) :
 ∃β',Inv I β' (n+1) (((n,0),.rows s [])::H) w∧Ext I β n H w I β' (n+1) (((n,0),.rows s [])::H) w∧(∀ {x:AVal} {v:Value},Rep I β n w x v→Rep I β' (n+1) w x v):=by
 have hup:∀id d,id.1<n→upd β (n,0) (some ⟨0,0,0,0,s⟩) id=some d→β id=some d:=fun id d hid hd=>by
  rwa [yf _ _ (fun h=>by subst h;exact absurd hid (Nat.lt_irrefl n))] at hd
 have hno:∀ (d:CLoc) (x k:Nat),d=⟨0,0,0,0,s⟩→¬d.has x k:=fun d x k h hk=>by subst h;exact absurd hk.2.2 (Nat.not_lt_zero k)
 obtain⟨g1,g2⟩:=Yl (I':=I) (β':=upd β (n,0) (some ⟨0,0,0,0,s⟩)) (n':=n+1) (H':=((n,0),.rows s [])::H) hI (Chg.refl w (fun _ _=>False)) (Nat.le_succ n) (fun _ _ h=>h.elim) (fun _ _ h=>h) (fun _ _ h h'=>absurd h h') (fun id hid=>.inl (yf _ _ (X7 hid)))
  (fun id d x k hid hd hk=>by
   rcases uo hd hI.fresh with⟨_,rfl⟩|⟨h,_⟩
   ·exact absurd hk (hno _ _ _ rfl)
   ·omega)
  (fun id hid=>by
   rw[yf _ _ (fun h=>by subst h;exact absurd hid (Nat.not_succ_le_self n))]
   exact hI.fresh id (by omega))
  (fun i j d d' x k hi hj hk hk' hn=>by
   rcases uo hj hI.fresh with⟨rfl,rfl⟩|⟨h,_⟩
   ·exact absurd hk' (hno _ _ _ rfl)
   ·omega)
  (fun i d x k _ _ h=>h)
  (fun id hid hg=>by rwa [AHeap.get_cons_other _ _ (X7 hid).symm] at hg)
  (fun id blk' hid=>by
   by_cases h:(n,0)=id
   ·subst h
    rw[AHeap.get_cons_same] at hid
    simp only[p0] at hid
    subst hid
    exact .inr ⟨_,we _ _ _,rfl,.inr ⟨rfl,rfl,rfl⟩,fun k _ hk=>absurd hk (Nat.not_lt_zero k),Nat.le_refl _,by simp,fun i r hi=>by simp at hi,fun i r j x hi=>by simp at hi⟩
   ·rw[AHeap.get_cons_other _ _ h] at hid
    exact .inl ⟨hid,yf _ _ (fun h'=>h h'.symm),fun _ _ _ _ _ h=>h⟩)
 exact⟨_,g1,g2,fun hr=>hr.mono' (fun _ _ h=>h) (fun _ _ _=>rfl) (Nat.le_succ n) hup⟩
theorem LWp.ghost{N:Lay}{n0:Nat}{lc:LCode}{Q:Exit→Env→AHeap→Nat→Prop}{e:Env}(s:Nat)
 (h:LWp P N n0 lc Q e (((n,0),.rows s [])::H) (n+1)):LWp P N n0 lc Q e H n:=by
 intro c hc ro hro J0 γ0 G0 w0 I β w a hX hI hE hN hD QQ hQ
 obtain⟨β',g1,g2,g3⟩:=zq9 hI s
 exact h c hc ro hro J0 γ0 G0 w0 I β' w a (hX.trans g2) g1 (fun t=>g3 (hE t)) hN hD QQ hQ
end
end Go.Fx
namespace Go.Fx
open Go
section
variable {P:Program} {I:Nat→Nat→Prop} {β:Id→Option CLoc} {n:Nat} {H:AHeap} {w:World}
def y22(P:Program)(f:FuncId):Prop:=∀ (b:Nat) (es:Array MapEntry) (ck:Nat) (w:World),w.heap[b]?=some (.map es ck) →
 Calls P f #[.map (some b)] w fun e w'=>e=.returned (.map (some w.heap.size))∧w'=w.alloc (.map es ck)
theorem zgu{o:Oper}{a:Act}{w w':World}{next:Act→World→Prop}{Q:Exit→Act→World→Prop}{s:Sem Value}{v:Value}(he:execOp a.eval o=(do pure (.value (←s)):Sem Next))(hs:s.run P w=.ok v w')(h:next (a.put o.dst v) w'):o.wp P a w next Q:=by
 unfold Oper.wp
 rw[he,qB,hs]
 exact h
end
end Go.Fx
namespace Go.Fx
def zkp(I:Nat→Nat→Prop)(w:World)(aq:List AVal)(cs:List Value):Prop:=
 cs.length=aq.length∧(∀v∈cs,j7 v=true)∧∀ (i:Nat) (a:AVal) (v:Value),aq[i]?=some a→cs[i]?=some v→RepI I w a v
def old(w:World):Nat→Nat→Prop:=fun b k=>∃v,w.cell? ⟨b,k,none⟩=some v
structure RA(P:Program)(t:TypeId)(α:Type)(e:α→List AVal)(ok:α→Prop):Prop where
 size:∀x,(e x).length=P.cellsOf t
 reads:∀ {H:Type} {enc:TypeId×Value→H} {w:World} {fuel:Nat} {cs:List Value} {d:DataW H} {ps:List MemPlace},q5 enc P w 0 (fun _=>true) true fuel t cs=some (d,ps)→(∀n∈d.weights P t,n≤reachBytes)→∃x,ok x∧zkp (old w) w (e x) cs
variable {P:Program}
theorem RA.map{t:TypeId}{α γ:Type}{e:α→List AVal}{ok:α→Prop}(h:RA P t α e ok)(g:α→γ){e':γ→List AVal}{ok':γ→Prop}(he:∀x,e' (g x)=e x)(hg:∀y,∃x,y=g x)(hok:∀x,ok x→ok' (g x)):RA P t γ e' ok':=
 ⟨fun y=>by obtain⟨x,rfl⟩:=hg y;rw[he];exact h.size x,fun h1 h2=>by
  obtain⟨x,h3,h4⟩:=h.reads h1 h2
  exact⟨g x,hok x h3,by rw[he];exact h4⟩⟩
theorem Vj{I:Nat→Nat→Prop}{w:World}{a:AVal}{v:Value}(h:RepI I w a v)(hc:j7 v=true):zkp I w [a] [v]:=by
 refine⟨rfl,by simpa using hc,fun i x u hx hu=>?_⟩
 cases i with
 |zero=>simp at hx hu;subst hx;subst hu;exact h
 |succ i=>simp at hx
theorem RA.bool{t:TypeId}(ht:P.underlying t=some .bool)(hs:P.cellsOf t=1):RA P t Bool (fun b=>[.bool b]) (fun _=>True):=by
 refine⟨fun _=>hs.symm,fun {H enc w fuel cs d ps} h _=>?_⟩
 cases fuel with
 |zero=>cases h
 |succ fuel=>
  unfold q5 at h
  simp only[ht] at h
  split at h<;>try (simp at *;done)
  rename_i b _
  exact⟨b,trivial,Vj (.bool b) rfl⟩
theorem RA.int{t:TypeId}{k:IntKind}(ht:P.underlying t=some (.int k))(hs:P.cellsOf t=1):RA P t Int (fun n=>[.int k n]) (fun n=>k.min≤n∧n≤k.max):=by
 refine⟨fun _=>hs.symm,fun {H enc w fuel cs d ps} h _=>?_⟩
 cases fuel with
 |zero=>cases h
 |succ fuel=>
  unfold q5 at h
  rcases cs with _|⟨v,_|⟨v2,r⟩⟩
  ·simp[ht] at h
  ·cases v<;>simp only[ht] at h<;>try (cases h;done)
   rename_i k2 m
   split at h<;>try (cases h;done)
   rename_i hk
   obtain⟨rfl,hwf⟩:=hk
   simp only[Lit.wf,pA,decide_eq_true_eq] at hwf
   exact⟨m,hwf,Vj (.int _ m) rfl⟩
  ·simp[ht] at h
theorem RA.string{t:TypeId}(ht:P.underlying t=some .string)(hs:P.cellsOf t=1):RA P t (List UInt8) (fun l=>[.str l]) (fun l=>l.length≤reachBytes):=by
 refine⟨fun _=>hs.symm,fun {H enc w fuel cs d ps} h hw=>?_⟩
 cases fuel with
 |zero=>cases h
 |succ fuel=>
  unfold q5 at h
  simp only[ht] at h
  split at h<;>try (simp at *;done)
  rename_i s _
  split at h<;>try (cases h;done)
  simp only[p0,pG] at h
  obtain⟨rfl,_⟩:=h
  refine⟨s.data.toList,?_,Vj ?_ rfl⟩
  ·exact hw _ (by simp[DataW.weights])
  ·exact .str s.data.toList
theorem z0p{α γ:Type}{f:α→Option γ}:∀ {l:List α} {r:List γ},l.mapM f=some r→r.length=l.length∧∀ (i:Nat) (a:α) (b:γ),l[i]?=some a→r[i]?=some b→f a=some b
 |[],r,h=>by simp at h;subst h;simp
 |a::l,r,h=>by
  rw[List.mapM_cons] at h
  cases hf:f a with
  |none=>rw[hf] at h;cases h
  |some b=>
   cases hr:l.mapM f with
   |none=>rw[hf,hr] at h;cases h
   |some r'=>
    rw[hf,hr] at h
    simp at h
    subst h
    obtain⟨h1,h2⟩:=z0p hr
    refine⟨by simp[h1],fun i x y hx hy=>?_⟩
    cases i with
    |zero=>simp at hx hy;subst hx;subst hy;exact hf
    |succ i=>exact h2 i x y (by simpa using hx) (by simpa using hy)
theorem cells?_get {w:World} {a:Addr} {n:Nat} {cs:List Value} (h:w.cells? 0 a n=some cs):cs.length=n∧∀j v,cs[j]?=some v→w.cell? (a.add j)=some v:=by
 unfold World.cells? at h
 rw[if_pos (Nat.zero_le _)] at h
 obtain⟨h1,h2⟩:=z0p h
 refine⟨by simpa using h1,fun j v hj=>?_⟩
 have hlt:j<n:=by
  rcases Nat.lt_or_ge j n with h|h
  ·exact h
  ·rw[List.getElem?_eq_none (by rw[h1];simpa using h)] at hj;cases hj
 exact h2 j j v (List.getElem?_range hlt) hj
theorem U5{H:Type}{P:Program}{e:TypeId}:∀ {l:List (DataW H)} {d:DataW H},d∈l→∀n∈d.weights P e,n∈DataW.weightsAll P e l
 |x::l,d,hd,n,hn=>by
  simp only[DataW.weightsAll,pW]
  rcases pQ.1 hd with rfl|h
  ·exact .inl hn
  ·exact .inr (U5 h n hn)
theorem z4d{α:Type}(p:Nat→α→Prop):∀ (n:Nat),(∀i,i<n→∃x,p i x)→∃l:List α,l.length=n∧∀i x,l[i]?=some x→p i x
 |0,_=>⟨[],rfl,fun i x h=>by simp at h⟩
 |n+1,h=>by
  obtain⟨l,h1,h2⟩:=z4d p n (fun i hi=>h i (by omega))
  obtain⟨x,hx⟩:=h n (by omega)
  refine⟨l++[x],by simp[h1],fun i y hy=>?_⟩
  rw[q9] at hy
  split at hy
  ·exact h2 i y hy
  ·rename_i hge
   rw[h1] at hge hy
   cases hi:i-n with
   |zero=>rw[hi] at hy;simp at hy;subst hy;have:i=n:=by omega
          subst this;exact hx
   |succ k=>rw[hi] at hy;simp at hy
theorem RA.slice{t c:TypeId}{α:Type}{e:α→List AVal}{ok:α→Prop}(ht:P.underlying t=some (.slice c))(hs:P.cellsOf t=1)(hc:0<P.cellsOf c)(h:RA P c α e ok) :
 RA P t (List α) (fun l=>[.isl (P.cellsOf c) (l.map e) false]) (fun l=>l.length≤maxLen∧l.length*P.bytesOf c≤reachBytes∧∀x∈l,ok x):=by
 refine⟨fun _=>hs.symm,fun {H enc w fuel cs d ps} hd hw=>?_⟩
 cases fuel with
 |zero=>cases hd
 |succ fuel=>
  unfold q5 at hd
  rcases cs with _|⟨v,_|⟨v2,r⟩⟩
  ·simp[ht] at hd
  ·cases v<;>simp only[ht] at hd<;>try (cases hd;done)
   rename_i ad len cap
   cases ad with
   |none=>
    rcases len with _|len<;>rcases cap with _|cap<;>simp only at hd<;>try (cases hd;done)
    exact⟨[],⟨Nat.zero_le _,by simp,by simp⟩,Vj (.islNil _ _) rfl⟩
   |some ad=>
    simp only at hd
    split at hd<;>try (cases hd;done)
    rename_i hcond
    obtain⟨_,hlc,hcm⟩:=hcond
    cases hel:(List.range len).mapM (fun i=>(w.cells? 0 (ad.add (i*P.cellsOf c)) (P.cellsOf c)).bind (q5 enc P w 0 (fun _=>true) true fuel c)) with
    |none=>rw[hel] at hd;cases hd
    |some elems=>
     rw[hel] at hd
     simp only[Option.bind_some,if_true,pH,pG] at hd
     obtain⟨rest,hrest,hd1,_⟩:=hd
     obtain⟨k1,k2⟩:=z0p hel
     obtain⟨k3,_⟩:=z0p hrest
     subst hd1
     have hw1:(elems.length+rest.length)*P.bytesOf c≤reachBytes:=by
      have:=hw ((elems.length+rest.length)*P.bytesOf c) (by simp[DataW.weights,ht])
      exact this
     have hle:len*P.bytesOf c≤reachBytes:=by
      have:len*P.bytesOf c≤(elems.length+rest.length)*P.bytesOf c:=qA _ (by rw[k1];simp)
      omega
     -- every element reads
     have each:∀i,i<len→∃x,ok x∧∃cs',w.cells? 0 (ad.add (i*P.cellsOf c)) (P.cellsOf c)=some cs'∧zkp (old w) w (e x) cs':=by
      intro i hi
      have hli:i<elems.length:=by rw[k1];simpa using hi
      have hget:=k2 i i elems[i] (List.getElem?_range hi) (pC hli)
      cases hcs:w.cells? 0 (ad.add (i*P.cellsOf c)) (P.cellsOf c) with
      |none=>rw[hcs] at hget;cases hget
      |some cs'=>
       rw[hcs] at hget
       simp only[Option.bind_some] at hget
       obtain⟨x,hx1,hx2⟩:=h.reads (d:=elems[i].1) (ps:=elems[i].2) hget (fun m hm=>hw m (by
        simp only[DataW.weights,ht,pQ,pW]
        exact .inr (.inl (U5 (List.mem_map_of_mem (List.getElem_mem hli)) m hm))))
       exact⟨x,hx1,cs',rfl,hx2⟩
     obtain⟨l,hl1,hl2⟩:=z4d (fun i x=>ok x∧∃cs',w.cells? 0 (ad.add (i*P.cellsOf c)) (P.cellsOf c)=some cs'∧zkp (old w) w (e x) cs') len each
     subst hl1
     refine⟨l,⟨by omega,hle,fun x hx=>?_⟩,Vj ?_ rfl⟩
     ·obtain⟨i,hi⟩:=List.getElem?_of_mem hx
      exact(hl2 i x hi).1
     ·by_cases h0:l=[]
      ·subst h0
       exact .islEmpty _ _ _ _ (fun h=>by cases h)
      ·have hpos:0<l.length:=List.length_pos_iff.2 h0
       -- the block
       obtain⟨_,cs0,hcs0,hcell0⟩:=hl2 0 l[0] (pC hpos)
       obtain⟨hn0,hg0⟩:=cells?_get hcs0
       have hc0:=hg0 0 cs0[0] (pC (by omega))
       have hsp:=World.cell?_spot hc0
       obtain⟨b,o,sp⟩:=ad
       have hsp:sp=none:=by simpa[Addr.add] using hsp
       subst hsp
       have hb:b<w.heap.size:=by
        have:=World.block_lt_of_cell? _ _ hc0
        rwa [k9,k9] at this
       let vf:Nat→Nat→Value:=fun i j=>((w.cells? 0 ((⟨b,o,none⟩:Addr).add (i*P.cellsOf c)) (P.cellsOf c)).getD []).getD j default
       have key:∀i r j x,(l.map e)[i]?=some r→r[j]?=some x→w.cell? ⟨b,o+i*P.cellsOf c+j,none⟩=some (vf i j)∧j7 (vf i j)=true∧RepI (old w) w x (vf i j):=by
        intro i r j x hr hx
        rw[pM] at hr
        cases hli:l[i]? with
        |none=>rw[hli] at hr;cases hr
        |some y=>
         rw[hli] at hr
         simp only[pL,p0] at hr
         subst hr
         obtain⟨_,cs',hcs',hl3,hl4,hl5⟩:=hl2 i y hli
         obtain⟨hn,hg⟩:=cells?_get hcs'
         have hj:j<cs'.length:=by
          rw[hl3]
          rcases Nat.lt_or_ge j (e y).length with h|h
          ·exact h
          ·rw[List.getElem?_eq_none h] at hx;cases hx
         have hv:vf i j=cs'[j]:=by simp only[vf,hcs',Option.getD_some,pI,pC hj]
         have:=hg j cs'[j] (pC hj)
         rw[k9,k9] at this
         rw[hv]
         exact⟨this,hl4 _ (List.getElem_mem hj),hl5 j x _ hx (pC hj)⟩
       have:=RepI.isl (I:=old w) (w:=w) (P.cellsOf c) (l.map e) false b o cap vf (fun i r j x h1 h2=>⟨_,(key i r j x h1 h2).1⟩) (by simpa using hlc) (fun h=>by cases h)
        (fun i r hr=>by
         rw[pM] at hr
         cases hli:l[i]? with
         |none=>rw[hli] at hr;cases hr
         |some y=>rw[hli] at hr;simp at hr;rw[←hr];exact h.size y)
        (fun i r j x h1 h2=>(key i r j x h1 h2).1) (fun i r j x h1 h2=>(key i r j x h1 h2).2.1) (fun i r j x h1 h2=>(key i r j x h1 h2).2.2)
       simpa using this
  ·simp[ht] at hd
structure RF(P:Program)(fs:List Field)(off tot:Nat)(α:Type)(e:α→List AVal)(ok:α→Prop):Prop where
 size:∀x,(e x).length=tot
 reads:∀ {H:Type} {enc:TypeId×Value→H} {w:World} {fuel:Nat} {cs:List Value} {xs:List (DataW H×List MemPlace)},fs.mapM (fun f=>q5 enc P w 0 (fun _=>true) true fuel f.type ((cs.drop f.offset).take (P.cellsOf f.type)))=some xs →
  (∀n∈pX P (fs.map (·.type)) (xs.map (·.1)),n≤reachBytes)→∃x,ok x∧zkp (old w) w (e x) ((cs.drop off).take tot)
theorem RF.nil(off:Nat):RF P [] off 0 Unit (fun _=>[]) (fun _=>True):=
 ⟨fun _=>rfl,fun _ _=>⟨(),trivial,by simp[zkp]⟩⟩
theorem RF.cons{f:Field}{fs:List Field}{off tot m:Nat}{α γ:Type}{e:α→List AVal}{ok:α→Prop}{e':γ→List AVal}{ok':γ→Prop}(ho:f.offset=off)(hm:P.cellsOf f.type=m)(h:RA P f.type α e ok)(h':RF P fs (off+m) tot γ e' ok') :
 RF P (f::fs) off (m+tot) (α×γ) (fun x=>e x.1++e' x.2) (fun x=>ok x.1∧ok' x.2):=by
 refine⟨fun x=>by rw[List.length_append,h.size,h'.size,hm],fun {H enc w fuel cs xs} hd hw=>?_⟩
 rw[List.mapM_cons] at hd
 cases h1:q5 enc P w 0 (fun _=>true) true fuel f.type ((cs.drop f.offset).take (P.cellsOf f.type)) with
 |none=>rw[h1] at hd;cases hd
 |some y=>
  rw[h1] at hd
  cases h2:fs.mapM (fun f=>q5 enc P w 0 (fun _=>true) true fuel f.type ((cs.drop f.offset).take (P.cellsOf f.type))) with
  |none=>rw[h2] at hd;cases hd
  |some ys=>
   rw[h2] at hd
   simp at hd
   subst hd
   simp only[pR,pX,pW] at hw
   obtain⟨x,hx1,hx2,hx3,hx4⟩:=h.reads (d:=y.1) (ps:=y.2) h1 (fun n hn=>hw n (.inl hn))
   obtain⟨z,hz1,hz2,hz3,hz4⟩:=h'.reads h2 (fun n hn=>hw n (.inr hn))
   refine⟨(x,z),⟨hx1,hz1⟩,?_⟩
   subst ho
   have e1:(cs.drop f.offset).take (m+tot)=(cs.drop f.offset).take m++(cs.drop (f.offset+m)).take tot:=by
    rw[List.take_add,List.drop_drop]
   rw[e1]
   rw[hm] at hx2 hx3 hx4
   refine⟨by simp only[List.length_append,hx2,hz2],fun v hv=>?_,fun i a v ha hv=>?_⟩
   ·rcases pW.1 hv with h|h
    ·exact hx3 v h
    ·exact hz3 v h
   ·rw[q9] at ha hv
    rw[hx2] at hv
    split at ha
    ·rename_i hlt
     rw[if_pos hlt] at hv
     exact hx4 i a v ha hv
    ·rename_i hlt
     rw[if_neg hlt] at hv
     exact hz4 _ a v ha hv
theorem RA.struct{t:TypeId}{fs:Array Field}{α:Type}{e:α→List AVal}{ok:α→Prop}(ht:P.underlying t=some (.struct fs))(h:RF P fs.toList 0 (P.cellsOf t) α e ok):RA P t α e ok:=by
 refine⟨h.size,fun {H enc w fuel cs d ps} hd hw=>?_⟩
 cases fuel with
 |zero=>cases hd
 |succ fuel=>
  unfold q5 at hd
  have hd:(if cs.length=P.cellsOf t then(fs.toList.mapM fun f=>q5 enc P w 0 (fun _=>true) true fuel f.type ((cs.drop f.offset).take (P.cellsOf f.type))).map (fun xs=>(DataW.agg (xs.map (·.1)),xs.flatMap (·.2))) else none)=some (d,ps):=by
   rw[ht] at hd
   rcases cs with _|⟨v,_|⟨v2,r⟩⟩<;>simpa using hd
  split at hd<;>try (cases hd;done)
  rename_i hlen
  simp only[pH,pG] at hd
  obtain⟨xs,hxs,rfl,_⟩:=hd
  obtain⟨x,hx1,hx2⟩:=h.reads hxs (fun n hn=>hw n (by simp only[DataW.weights,ht];exact hn))
  refine⟨x,hx1,?_⟩
  rw[List.drop_zero,←hlen,List.take_length] at hx2
  exact hx2
theorem RA.structN{t:TypeId}{fs:Array Field}{m:Nat}{α:Type}{e:α→List AVal}{ok:α→Prop}(ht:P.underlying t=some (.struct fs))(hm:P.cellsOf t=m)(h:RF P fs.toList 0 m α e ok):RA P t α e ok:=by
 subst hm
 exact RA.struct ht h
theorem RA.arg{t:TypeId}{α:Type}{e:α→List AVal}{ok:α→Prop}(h:RA P t α e ok){H:Type}{enc:TypeId×Value→H}{w:World}{v:Value}{d:DataW H}{ps:List MemPlace}(hv:j7 v=true)
 (hd:DataW.Trod enc P w 0 (fun _=>true) true t v d ps) (hw:∀n∈d.weights P t,n≤reachBytes):∃x a,ok x∧e x=[a]∧RepI (old w) w a v:=by
 obtain⟨fuel,hd⟩:=hd
 obtain⟨x,h1,h2,h3,h4⟩:=h.reads hd hw
 rw[z05 hv] at h2 h4
 have:(e x).length=1:=by rw[←h2];rfl
 obtain⟨a,ha⟩:=List.length_eq_one_iff.1 this
 exact⟨x,a,h1,ha,h4 0 a v (by rw[ha];rfl) rfl⟩
end Go.Fx
namespace Go.Fx
open Go.ChangeShapes Go.WideShapes Go.ChangeAt Go.RowKit
variable {P:Program}
def RV(P:Program)(t:TypeId)(α:Type)(e:α→AVal)(ok:α→Prop):Prop:=
 ∀ {H:Type} {enc:TypeId×Value→H} {w:World} {v:Value} {d:DataW H} {ps:List MemPlace} {base:Nat},Value.okWide P w .any base t v→DataW.Trod enc P w 0 (fun _=>true) true t v d ps→(∀n∈d.weights P t,n≤reachBytes)→∃x,ok x∧RepI (old w) w (e x) v
theorem RV.cell{t:TypeId}{α:Type}{e:α→AVal}{ok:α→Prop}(h:RA P t α (fun x=>[e x]) ok)(hc:∀ (w:World) (base:Nat) (v:Value),Value.okWide P w .any base t v→j7 v=true):RV P t α e ok:=by
 intro H enc w v d ps base hv hd hw
 obtain⟨x,a,h1,h2,h3⟩:=h.arg (hc w base v hv) hd hw
 simp only[List.cons.injEq,and_true] at h2
 exact⟨x,h1,by rw[h2];exact h3⟩
theorem RV.bool{t:TypeId}(ht:P.underlying t=some .bool)(hs:P.cellsOf t=1):RV P t Bool (fun b=>.bool b) (fun _=>True):=
 RV.cell (RA.bool ht hs) (fun w base v h=>by obtain⟨b,rfl⟩:=okWide_bool ht h;rfl)
theorem RV.int{t:TypeId}{k:IntKind}(ht:P.underlying t=some (.int k))(hs:P.cellsOf t=1):RV P t Int (fun n=>.int k n) (fun n=>k.min≤n∧n≤k.max):=
 RV.cell (RA.int ht hs) (fun w base v h=>by obtain⟨b,rfl⟩:=okWide_int ht h;rfl)
theorem RV.string{t:TypeId}(ht:P.underlying t=some .string)(hs:P.cellsOf t=1):RV P t (List UInt8) (fun l=>.str l) (fun l=>l.length≤reachBytes):=
 RV.cell (RA.string ht hs) (fun w base v h=>by obtain⟨b,rfl⟩:=okWide_string ht h;rfl)
theorem RV.slice{t c:TypeId}{α:Type}{e:α→List AVal}{ok:α→Prop}(ht:P.underlying t=some (.slice c))(hs:P.cellsOf t=1)(hc:0<P.cellsOf c)(h:RA P c α e ok) :
 RV P t (List α) (fun l=>.isl (P.cellsOf c) (l.map e) false) (fun l=>l.length≤maxLen∧l.length*P.bytesOf c≤reachBytes∧∀x∈l,ok x):=
 RV.cell (RA.slice ht hs hc h) (fun w base v h=>by obtain⟨a,l,c,rfl⟩:=okWide_slice ht h;rfl)
theorem RV.struct{t:TypeId}{fs:Array Field}{α:Type}{e:α→List AVal}{ok:α→Prop}(ht:P.underlying t=some (.struct fs))(h:RA P t α e ok):RV P t α (fun x=>.agg (e x)) ok:=by
 intro H enc w v d ps base hv hd hw
 obtain⟨cs,rfl,hsz⟩:=okWide_struct ht hv
 obtain⟨fuel,hd⟩:=hd
 obtain⟨x,h1,h2,h3,h4⟩:=h.reads hd hw
 have e1:(Value.agg cs).cells.toList=cs.toList:=rfl
 rw[e1] at h2 h3 h4
 refine⟨x,h1,.agg _ cs (by rw[←qC];exact h2) h3 (fun i y u hy hu=>h4 i y u hy (by rw[Array.getElem?_toList];exact hu))⟩
def RVs(P:Program)(ts:List TypeId)(α:Type)(e:α→List AVal)(ok:α→Prop):Prop:=
 ∀ {H:Type} {enc:TypeId×Value→H} {w:World} {vs:List Value} {ds:List (DataW H)} {ps:List MemPlace} {base:Nat},(∀ (j:Nat) t v,ts[j]?=some t→vs[j]?=some v→Value.okWide P w .any base t v) →
  DataW.TrodAll enc P w 0 (fun _=>true) true ts vs ds ps→(∀n∈pX P ts ds,n≤reachBytes)→∃x,ok x∧vs.length=(e x).length∧∀ (i:Nat) (a:AVal) (v:Value),(e x)[i]?=some a→vs[i]?=some v→RepI (old w) w a v
theorem RVs.nil:RVs P [] Unit (fun _=>[]) (fun _=>True):=by
 intro H enc w vs ds ps base _ h _
 obtain⟨rfl,rfl,rfl⟩:=trodAll_nil h
 exact⟨(),trivial,rfl,by simp⟩
theorem RVs.cons{t:TypeId}{ts:List TypeId}{α γ:Type}{e:α→AVal}{e':γ→List AVal}{ok:α→Prop}{ok':γ→Prop}(h:RV P t α e ok)(h':RVs P ts γ e' ok'):RVs P (t::ts) (α×γ) (fun x=>e x.1::e' x.2) (fun x=>ok x.1∧ok' x.2):=by
 intro H enc w vs ds ps base hv hd hw
 obtain⟨v,vs',d,ds',p,q,rfl,rfl,rfl,h1,h2⟩:=trodAll_cons hd
 simp only[pX,pW] at hw
 obtain⟨x,hx1,hx2⟩:=h (hv 0 t v rfl rfl) h1 (fun n hn=>hw n (.inl hn))
 obtain⟨y,hy1,hy2,hy3⟩:=h' (fun j t' v' ht hv'=>hv (j+1) t' v' (by simpa using ht) (by simpa using hv')) h2 (fun n hn=>hw n (.inr hn))
 refine⟨(x,y),⟨hx1,hy1⟩,by simp[hy2],fun i a u ha hu=>?_⟩
 cases i with
 |zero=>simp at ha hu;subst ha;subst hu;exact hx2
 |succ i=>exact hy3 i a u (by simpa using ha) (by simpa using hu)
theorem Inv.empty(w:World)(hg:GlobOk (old w) w):Inv (old w) (fun _=>none) 0 [] w:=
 { blocks:=fun id blk h=>by simp[AHeap.get] at h
   inj:=fun i j c d b k h=>by simp at h
   own:=fun i c b k h=>by simp at h
   imm:=fun b k h=>h
   fresh:=fun id _=>rfl
   glob:=hg }
theorem z4t{H:Type}{enc:TypeId×Value→H}{w:World}{base:Nat}{spare:Nat→Bool}{held:Bool}:∀ {ts:List TypeId} {vs:List Value} {ds:List (DataW H)} {p:List MemPlace},DataW.TrodAll enc P w base spare held ts vs ds p→ds.length=ts.length
 |[],_,_,_,h=>by obtain⟨rfl,rfl,rfl⟩:=trodAll_nil h;rfl
 |t::ts,_,_,_,h=>by
  obtain⟨v,vs',d,ds',p1,q1,rfl,rfl,rfl,k1,k2⟩:=trodAll_cons h
  simp[z4t k2]
theorem z7p{f:FuncId}{fn:Func}{s:ChangeSpec}{tb:TypeId}(hl:laidOutB P=true)(ts:List TypeId)(hts:fn.params.toList=ts)(hvars:s.vars=[])(hres:fn.resultTypes=#[tb])(hb:P.underlying tb=some .bool)
 (hrd:ts.all (fun t=>P.readableRec t&&decide (t<P.types.size))=true)
 {H:Type} {enc:TypeId×Value→H} {W:World} {base:Nat} {args:Array Value} {ds gs:List (DataW H)} {before:List MemPlace}
 (hfn:∀ds:List (DataW H),ds.length=ts.length→(s.fn H (ds++[])).results=[.lit (.bool true)]∧(s.fn H (ds++[])).args=ds∧(s.fn H (ds++[])).vars=[])
 (hval:∀ (j:Nat) t v,fn.params[j]?=some t→args[j]?=some v→Value.okWide P W .any base t v)
 (hW:DataW.Whole enc P fn.params.toList s.vars false W args.toList ds gs before)
 (hsz:(pX P (fn.params.toList++s.plain.varTypes P) (ds++gs)).all (·≤reachBytes)=true) (hg:GlobOk (old W) W)
 (hr:∀ {ps:List MemPlace},(∀ (j:Nat) t v,ts[j]?=some t→args.toList[j]?=some v→Value.okWide P W .any base t v)→DataW.TrodAll enc P W 0 (fun _=>true) true ts args.toList ds ps→(∀n∈pX P ts ds,n≤reachBytes) →
  ∃xs:List AVal,PFn P f xs (.bool true)∧args.toList.length=xs.length∧∀ (i:Nat) (a:AVal) (v:Value),xs[i]?=some a→args.toList[i]?=some v→RepI (old W) W a v) :
 Calls P f args W fun e W'=>∃v,e=.returned v∧s.post enc P fn false true false false W args v W':=by
 subst hts
 have hW':=hW
 obtain⟨p,q,hA0,hV,rfl,_,_⟩:=hW
 have hfn:=hfn ds (z4t hA0)
 rw[hvars] at hV
 obtain⟨rfl,rfl⟩:=trodVars_none hV
 have hvt:s.plain.varTypes P=[]:=by
  show s.vars.filterMap _=[]
  rw[hvars];rfl
 rw[hvt] at hsz
 simp only[List.append_nil] at hsz hW' hfn
 obtain⟨xs,hA,hlen,hrep⟩:=hr (fun j t v ht hv=>hval j t v (by rw[←Array.getElem?_toList];exact ht) (by rw[←Array.getElem?_toList];exact hv)) hA0 (fun n hn=>of_decide_eq_true (pD.1 hsz n hn))
 obtain⟨_,m,hA⟩:=hA
 have hc:=hA.2 (old W) (fun _=>none) W args.toList (Inv.empty W hg) hlen (fun i a v h1 h2=>.imm a v (hrep i a v h1 h2))
 rw[show args.toList.toArray=args from by simp] at hc
 refine hc.mono fun e W' ⟨r,v,H',n',I',β',h1,h2,h3,h4,h5⟩=>?_
 subst h1
 obtain⟨rfl,_,_⟩:=h2
 have hv:v=.bool true:=by
  cases h4 with
  |imm _ _ h=>cases h;rfl
 subst hv
 have hbel:Below W.heap.size W W':=⟨h5.os,h5.tape.eq,h5.output,h5.size,fun k hk=>h5.frame k hk (fun id c q hc=>by cases hc)⟩
 have hlt:∀x∈p,x.block<W.heap.size:=fun x hx=>by simpa using hW'.lt x hx
 have hargs:∀ (ts:List TypeId) (vs:List Value) (ds:List (DataW H)) (p:List MemPlace),DataW.TrodAll enc P W 0 (fun _=>true) true ts vs ds p→(ts.all (fun t=>P.readableRec t&&decide (t<P.types.size))=true)→(∀x∈p,x.block<W.heap.size)→DataW.TrodAll enc P W' 0 (fun b=>decide (b<W.heap.size)) true ts vs ds p:=by
  intro ts
  induction ts with
  |nil=>
   intro vs ds p h _ _
   obtain⟨rfl,rfl,rfl⟩:=trodAll_nil h
   exact trodAll_mk0
  |cons t ts ih=>
   intro vs ds p h hall hp
   obtain⟨v,vs',d,ds',p1,q1,rfl,rfl,rfl,k1,k2⟩:=trodAll_cons h
   simp only[List.all_cons,pA,decide_eq_true_eq] at hall
   exact trodAll_cons_mk (Below.trod hl hall.1.1 hall.1.2 k1 hbel (fun x hx=>hp x (List.mem_append_left _ hx))) (ih _ _ _ k2 hall.2 (fun x hx=>hp x (List.mem_append_right _ hx)))
 refine⟨_,rfl,ds,[],p,[],p,[],by simpa using hW',?_,?_,?_,hbel.frame _,fun h=>by cases h⟩
 ·rw[List.append_nil,hfn.1,hres]
  exact trodAll_mk1 (shut_bool hb true)
 ·rw[List.append_nil,hfn.2.1]
  exact hargs _ _ _ _ hA0 hrd hlt
 ·rw[List.append_nil,hfn.2.2,hvars]
  rfl
theorem zbt{f:FuncId}{fn:Func}{s:ChangeSpec}{tb:TypeId}{α:Type}{e:α→List AVal}{ok:α→Prop}(hl:laidOutB P=true)(ts:List TypeId)(hts:fn.params.toList=ts)(hvars:s.vars=[])(hres:fn.resultTypes=#[tb])(hb:P.underlying tb=some .bool)
 (hrd:ts.all (fun t=>P.readableRec t&&decide (t<P.types.size))=true)
 (hr:RVs P ts α e ok) (hA:∀x,ok x→PFn P f (e x) (.bool true))
 {H:Type} {enc:TypeId×Value→H} {W:World} {base:Nat} {args:Array Value} {ds gs:List (DataW H)} {before:List MemPlace}
 (hfn:∀ds:List (DataW H),ds.length=ts.length→(s.fn H (ds++[])).results=[.lit (.bool true)]∧(s.fn H (ds++[])).args=ds∧(s.fn H (ds++[])).vars=[])
 (hval:∀ (j:Nat) t v,fn.params[j]?=some t→args[j]?=some v→Value.okWide P W .any base t v)
 (hW:DataW.Whole enc P fn.params.toList s.vars false W args.toList ds gs before)
 (hsz:(pX P (fn.params.toList++s.plain.varTypes P) (ds++gs)).all (·≤reachBytes)=true) (hg:GlobOk (old W) W:=by exact⟨(fun _ hx=>nomatch hx),(fun _ hx=>nomatch hx)⟩) :
 Calls P f args W fun e W'=>∃v,e=.returned v∧s.post enc P fn false true false false W args v W':=
 z7p hl ts hts hvars hres hb hrd hfn hval hW hsz hg fun h1 h2 h3=>by
  obtain⟨x,hx,hlen,hrep⟩:=hr h1 h2 h3
  exact⟨e x,hA x hx,hlen,hrep⟩
end Go.Fx
namespace Go.Fx
open Go
section
variable {P:Program} {I:Nat→Nat→Prop} {β:Id→Option CLoc} {n:Nat} {H:AHeap} {w:World}
theorem zk6{t c:TypeId}(h:P.underlying t=some (.slice c))(a:Addr)(k q:Nat)(xo yo:Operand)(w:World) :
 (do eqGuard .eql t xo yo (.slice (some a) k q) (.slice none 0 0);binOp .eql t (.slice (some a) k q) (.slice none 0 0):Sem Value).run P w=.ok (.bool false) w:=by
 have h1:(eqGuard .eql t xo yo (.slice (some a) k q) (.slice none 0 0)).run P w=.ok () w:=rfl
 have h2:binOp .eql t (.slice (some a) k q) (.slice none 0 0)=(do pure (.bool (←Op.equal t (.slice (some a) k q) (.slice none 0 0))):Sem Value):=rfl
 have h3:(Op.equal t (.slice (some a) k q) (.slice none 0 0)).run P w=.ok false w:=Vd h 9999 _ _ _ _ _
 rw[qB,h1,pY,h2,qB,h3,pY]
 rfl
theorem ze8{t c:TypeId}(h:P.underlying t=some (.slice c))(xo yo:Operand)(w:World) :
 (do eqGuard .eql t xo yo (.slice none 0 0) (.slice none 0 0);binOp .eql t (.slice none 0 0) (.slice none 0 0):Sem Value).run P w=.ok (.bool true) w:=by
 have h1:(eqGuard .eql t xo yo (.slice none 0 0) (.slice none 0 0)).run P w=.ok () w:=rfl
 have h2:binOp .eql t (.slice none 0 0) (.slice none 0 0)=(do pure (.bool (←Op.equal t (.slice none 0 0) (.slice none 0 0))):Sem Value):=rfl
 have h3:(Op.equal t (.slice none 0 0) (.slice none 0 0)).run P w=.ok true w:=Xf h 9999 _ _ _ _ _
 rw[qB,h1,pY,h2,qB,h3,pY]
 rfl
def y0i(fn:Func)(t:TypeId):Prop:=∃ (tB t0 t1 t2 t3 t4 t5 t6:TypeId) (p1 p2 p3 p4 p5 p6 p7 p8:String) (a1 a2 a3 a4 a5 a6 a7 a8:Array Edge) (i0 i1 i2 i3:Nat),
 fn.ntmps=8∧fn.results=#[.tmp 2] ∧
  fn.body=some (.seq (.region i0 #[⟨some 2,.assign (.const (.slice none 0 0)),t0,p1,a1,none⟩] false)
   (.seq (.seq (.region i1 #[⟨some 3,.move (.tmp 0),t1,p2,a2,none⟩,⟨some 4,.binOp .eql t (.tmp 3) (.const (.slice none 0 0)) t,tB,p3,a3,none⟩] false)
    (.cond (.tmp 4) (.seq (.region i2 #[⟨some 2,.assign (.const (.slice none 0 0)),t2,p4,a4,none⟩] false) .ret) .skip))
   (.seq (.region i3 #[⟨some 5,.buildSlice t 0 #[],t3,p5,a5,none⟩,⟨some 6,.move (.tmp 0),t4,p6,a6,none⟩,⟨some 7,.call { callee:=.builtin .append,args:=#[.tmp 5,.tmp 6],argTypes:=#[t,t] },t5,p7,a7,none⟩,⟨some 2,.assign (.tmp 7),t6,p8,a8,none⟩] false) .ret)))
set_option maxHeartbeats 2000000 in
theorem z5x{f:FuncId}{fn:Func}{t c:TypeId}{s b:Nat}{zs:List AVal}(hok:Xk P f)(hfn:P.funcs[f]?=some fn)(hS:y0i fn t)(ht:P.underlying t=some (.slice c))(hz:vr P c=some zs)(hsz:vw P c=some s)(hby:U0 P c=some b)(hs:0<s)(hb:0<b)(hzs:zs.length=s) :
 PFn P f [.isl s [] false] (.isl s [] false):=by
 refine⟨rfl,0,hok,fun I β w vs hI hl hr=>?_⟩
 obtain⟨tB,t0,t1,t2,t3,t4,t5,t6,p1,p2,p3,p4,p5,p6,p7,p8,a1,a2,a3,a4,a5,a6,a7,a8,i0,i1,i2,i3,hnt,hres,hbody⟩:=hS
 match vs,hl with
 |[v],_=>
  have h1:=hr 0 _ _ rfl rfl
  obtain⟨ad,cap,rfl,_⟩:=h1.isl_inv
  have ht8:∀u:Value,(#[u]++Array.replicate (8-(#[u]:Array Value).size) undef)=#[u,undef,undef,undef,undef,undef,undef,undef]:=fun u=>by simp[Array.replicate,pN]
  cases ad with
  |none=>
   have hv:Value.slice none ([]:List (List AVal)).length cap=.slice none 0 0:=by
    cases h1 with
    |imm _ _ h=>cases h;rfl
   rw[hv]
   refine calls_of_wp hfn hbody (wp_seq (wp_region_list (wpList_plain rfl fun K0 hK0=>?_)))
   rw[hnt]
   change Oper.wp P _ ⟨#[.slice none 0 0]++Array.replicate (8-(#[Value.slice none 0 0]:Array Value).size) undef,[]⟩ _ _ _
   rw[ht8]
   refine hK0 _ _ (wpList_nil ?_)
   refine wp_seq (wp_seq (wp_region_list (wpList_plain rfl fun K1 hK1=>hK1 _ _ (wpList_plain rfl fun K2 hK2=>?_))))
   refine zgu (s:=do eqGuard .eql t (.tmp 3) (.const (.slice none 0 0)) (.slice none 0 0) (.slice none 0 0);binOp .eql t (.slice none 0 0) (.slice none 0 0)) rfl (ze8 ht _ _ w) (hK2 _ _ (wpList_nil ?_))
   refine wp_cond_true rfl (wp_seq (wp_region_list (wpList_plain rfl fun K3 hK3=>hK3 _ _ (wpList_nil (wp_ret ⟨rfl,.slice none 0 0,?_,?_⟩)))))
   ·refine U9 (vs:=[.slice none 0 0]) ?_
    rw[hres]
    rfl
   ·exact⟨_,_,_,_,_,_,rfl,⟨rfl,rfl,rfl⟩,hI,.imm _ _ (.islNil _ _),Ext.refl _ _ _ _ _ hI.fresh⟩
  |some ad=>
   change Calls P f #[.slice (some ad) 0 cap] w _
   refine calls_of_wp hfn hbody (wp_seq (wp_region_list (wpList_plain rfl fun K0 hK0=>?_)))
   rw[hnt,ht8]
   refine hK0 _ _ (wpList_nil ?_)
   refine wp_seq (wp_seq (wp_region_list (wpList_plain rfl fun K1 hK1=>hK1 _ _ (wpList_plain rfl fun K2 hK2=>?_))))
   refine zgu (s:=do eqGuard .eql t (.tmp 3) (.const (.slice none 0 0)) (.slice (some ad) 0 cap) (.slice none 0 0);binOp .eql t (.slice (some ad) 0 cap) (.slice none 0 0)) rfl (zk6 ht _ _ _ _ _ w) (hK2 _ _ (wpList_nil ?_))
   refine wp_cond_false rfl (wp_skip ?_)
   obtain⟨arr',k1,k2,k3,k4⟩:=z8d (P:=P) (e:=[]) (a:=⟨#[],[]⟩) (parts:=#[]) (len:=0) hI (fun t=>.any _) ht hz hsz rfl hs (by omega) hzs trivial rfl trivial
   obtain⟨r1,H1,n1,I1,β1,⟨e1,e2,e3⟩,g1,g2,g3⟩:=zgy (K:=fun r H' n'=>r=.isl s [] true∧H'=[]∧n'=0) (rows':=[]) (zs:=zs) hI k4 k3 (by rw[List.length_eq_zero_iff.1 k3];rfl) ⟨rfl,rfl,rfl⟩
   subst e1 e2 e3
   obtain⟨v2,w2,q1,r2,H2,n2,I2,β2,⟨e1,e2,e3⟩,q2,q3,q4⟩:=zoo (K:=fun r H' n'=>r=.isl s [] true∧H'=[]∧n'=0) (rt:=t5) g1 ht (.inl ⟨_,ht⟩) hz hsz hby hs hb g2 (h1.mono g3 hI) rfl rfl ⟨rfl,fun _=>⟨rfl,rfl,rfl⟩,fun h=>absurd rfl h⟩
   subst e1 e2 e3
   refine wp_seq (wp_region_list (wpList_plain rfl fun K3 hK3=>?_))
   have k1':(Instr.buildSlice t 0 #[]).run P w=.ok (.slice (some ⟨w.heap.size,0,none⟩) 0 0) (w.alloc (.cells arr' c)):=by simpa using k1
   refine zgu (s:=Instr.buildSlice t 0 #[]) (by simp only[execOp,List.map_toArray,List.map_nil]) k1' (hK3 _ _ (wpList_plain rfl fun K4 hK4=>hK4 _ _ (wpList_plain rfl fun K5 hK5=>?_)))
   have e1:∀ρ:Operand→Value,(#[.tmp 5,.tmp 6]:Array Operand).map ρ=#[ρ (.tmp 5),ρ (.tmp 6)]:=fun ρ=>by simp
   refine zgu (s:=Builtin.append_ #[t,t] t5 ((#[.tmp 5,.tmp 6]:Array Operand).map (Act.eval _))) rfl (by rw[e1];exact q1) (hK5 _ _ (wpList_plain rfl fun K6 hK6=>hK6 _ _ (wpList_nil ?_)))
   refine wp_ret ⟨rfl,v2,?_,?_⟩
   ·refine U9 (vs:=[v2]) ?_
    rw[hres]
    rfl
   ·refine⟨_,_,_,_,_,_,rfl,⟨rfl,rfl,rfl⟩,q2,?_,g3.trans q4⟩
    cases q3 with
    |imm _ _ h=>cases h with
     |islEmpty _ _ a cap _=>exact .imm _ _ (.islEmpty _ _ a cap nofun)
     |islNil=>exact .imm _ _ (.islNil _ _)
     |isl _ _ _ b o cap vf hb hcap hf hlen hcell hic hrep=>exact .imm _ _ (.isl _ _ _ b o cap vf hb hcap nofun hlen hcell hic hrep)
end
noncomputable def y32{α:Type}(m:Option Nat)(f:Nat→Option α):Option α:=match m with
 |some k=>f k
 |none=>open Classical in if h:∃k,(f k).isSome=true then f (pZ h) else none
end Go.Fx
namespace Go.Fx
noncomputable def y2c{ρ:Type}(l:List Nat)(F:Nat→Option ρ):Option ρ:=match l with
 |[]=>none
 |[j]=>F j
 |l=>by classical exact if h:∃r,∀j∈l,F j=some r then some (pZ h) else none
section
variable {σ ρ:Type} (N:Nat) (b:Nat→σ→Option (σ ⊕ ρ)) (d:σ→Option (σ ⊕ ρ))
def y1g(seen:List Nat):List Nat:=(List.range N).filter fun j=>!seen.contains j
noncomputable def zz8:Nat→List Nat→σ→Option ρ
 |0,_,_=>none
 |k+1,seen,s=>match y1g N seen with
  |[]=>(d s).bind fun o=>match o with
   |.inl _=>none
   |.inr r=>some r
  |l=>y2c l fun j=>(b j s).bind fun o=>match o with
   |.inl s'=>zz8 k (j::seen) s'
   |.inr r=>some r
def y0j:List Nat→σ→Option ρ
 |[],s=>(d s).bind fun o=>match o with
  |.inl _=>none
  |.inr r=>some r
 |j::l,s=>(b j s).bind fun o=>match o with
  |.inl s'=>y0j l s'
  |.inr r=>some r
variable {N b d}
end
variable {P:Program} {N:Lay} {n0:Nat}
def y27{σ ρ:Type}(n0 nL:Nat)(F:Nat→List Nat→σ→Option ρ)(env:List Nat→σ→Env)(hp:List Nat→σ→AHeap)(QX:ρ→Exit→Env→AHeap→Nat→Prop)(k:Nat)(r:ρ):Exit→Env→AHeap→Nat→Prop:=fun ex e H n=>
 (ex=.normal∧∃seen s,F k seen s=some r∧Sim n0 e H n (env seen s) (hp seen s) nL)∨(ex≠.normal∧QX r ex e H n)
end Go.Fx
namespace Go.Fx
def z3t{α:Type}(e:α→List AVal)(l:List α)(i:Nat)(c:AVal):List (List AVal):=(l.map e).set i [c]
section
variable {α:Type} {e:α→List AVal} {l:List α} {i j:Nat} {c c':AVal}
theorem zgd:(z3t e l i c).length=l.length:=by simp[z3t]
theorem zgt(he:∀x,(e x).length=1)(h:i<l.length):(l.map e).set i (uy ((l.map e).getD i []) 0 [c])=z3t e l i c:=by
 have:(l.map e).getD i []=e l[i]:=by simp[pI,h]
 rw[this]
 have h1:=he l[i]
 match hx:e l[i],h1 with
 |[y],_=>rfl
section
variable {F:Id→Bool} {H:AHeap} {ρ:Id→Option Id} {n:Nat}
theorem BVw.hole(he:∀x,AVal.nid.nidL (e x)=true)(hc:Vw F H ρ n c c'):BVw F H ρ n (.rows 1 (z3t e l i c)) (.rows 1 (z3t e l i c')):=by
 refine .rows 1 _ _ (by rw[zgd,zgd]) fun k r r' h1 h2=>?_
 unfold z3t at h1 h2
 rw[List.getElem?_set] at h1 h2
 by_cases hk:i=k
 ·subst hk
  rw[if_pos rfl] at h1 h2
  split at h1
  ·rename_i hl
   rw[if_pos hl] at h2
   simp only[p0] at h1 h2
   subst h1;subst h2
   exact⟨rfl,fun j x y hx hy=>by
    cases j with
    |zero=>simp only[pT,p0] at hx hy;subst hx;subst hy;exact hc
    |succ j=>simp at hx⟩
  ·cases h1
 ·rw[if_neg hk] at h1 h2
  rw[h1] at h2
  simp only[p0] at h2
  subst h2
  rw[pM] at h1
  obtain⟨z,_,hz⟩:=pH.1 h1
  subst hz
  exact⟨rfl,fun j x y hx hy=>Kk (he z) j x y hx hy⟩
theorem BVw.holeFrz(he:∀x,AVal.nid.nidL (e x)=true){r0:α}{d:AVal}(hr:e r0=[d])(hc:Vw F H ρ n c d):BVw F H ρ n (.rows 1 (z3t e l i c)) (.rows 1 ((l.set i r0).map e)):=by
 have:=BVw.hole (F:=F) (H:=H) (ρ:=ρ) (n:=n) (l:=l) (i:=i) he hc
 have e1:z3t e l i d=(l.set i r0).map e:=by unfold z3t;rw[List.map_set,hr]
 rwa [e1] at this
end
end
end Go.Fx
namespace Go.Fx
inductive Ref where
 |nil
 |foc
 |oth (j:Nat)
instance:DecidableEq Ref:=fun a b=>match a,b with
 |.nil,.nil=>isTrue rfl
 |.foc,.foc=>isTrue rfl
 |.oth i,.oth j=>if h:i=j then isTrue (by rw[h]) else isFalse (fun e=>h (Ref.oth.inj e))
 |.nil,.foc=>isFalse (fun e=>Ref.noConfusion e)
 |.nil,.oth _=>isFalse (fun e=>Ref.noConfusion e)
 |.foc,.nil=>isFalse (fun e=>Ref.noConfusion e)
 |.foc,.oth _=>isFalse (fun e=>Ref.noConfusion e)
 |.oth _,.nil=>isFalse (fun e=>Ref.noConfusion e)
 |.oth _,.foc=>isFalse (fun e=>Ref.noConfusion e)
instance:Inhabited Ref:=⟨.nil⟩
def eR(f:Option Id):Ref→AVal
 |.nil=>.val (.map none)
 |.foc=>match f with
  |some i=>.map i
  |none=>.val (.map none)
 |.oth j=>.map (1,j)
def y2h{κ:Type}(l:List (κ×Ref)):Bool:=l.all fun p=>decide (p.2≠.foc)
section
variable {F:Id→Bool} {H:AHeap} {ρ:Id→Option Id} {n:Nat} {κ:Type} {ek:κ→AVal}
end
section
variable {κ:Type} {ks:List CK} {ek:κ→AVal} {q:κ→κ→Bool} {k:κ} {l:List (κ×Ref)}
end
end Go.Fx
namespace Go.Fx
section
variable {P:Program} {κ ι:Type} {ek:κ→AVal} {B:ι→ABlock}
def z9o(r:Nat)(B:ι→ABlock)(s:List (κ×ι)):AHeap:=s.mapIdx fun j p=>((r,j),B p.2)
def y28(ek:κ→AVal)(r:Nat)(s:List (κ×ι)):ABlock:=.amap (s.mapIdx fun j p=>(ek p.1,.map (r,j)))
def y2t(ek:κ→AVal)(B:ι→ABlock)(s:List (κ×ι)):AHeap:=((1,0),.one [.map (1,1)])::((1,1),y28 ek 2 s)::z9o 2 B s
def y2g(i:Nat)(s:List (κ×ι)):List (κ×Ref):=s.mapIdx fun j p=>(p.1,if j=i then Ref.foc else .oth j)
theorem ze7{r:Nat}{s:List (κ×ι)}:((z9o r B s).map (·.1)).Nodup:=by
 unfold z9o
 rw[List.Nodup,List.pairwise_iff_getElem]
 intro i j hi hj hij
 simp only[List.getElem_map,List.getElem_mapIdx,ne_eq,pG,true_and]
 omega
theorem z0w{r:Nat}{s:List (κ×ι)}{x:Id×ABlock}(h:x∈z9o r B s):∃j p,s[j]?=some p∧x=((r,j),B p.2):=by
 unfold z9o at h
 obtain⟨q,hq,he⟩:=List.mem_mapIdx.1 h
 exact⟨q,s[q],pC hq,he.symm⟩
theorem zph{r:Nat}{s:List (κ×ι)}{j:Nat}{p:κ×ι}(h:s[j]?=some p):(z9o r B s).get (r,j)=some (B p.2):=by
 refine z1h ze7 ?_
 unfold z9o
 refine List.mem_mapIdx.2 ⟨j,z4m h,?_⟩
 have:=pC (z4m h)
 rw[h] at this
 rw[←Option.some.inj this]
theorem zj8{r:Nat}{s:List (κ×ι)}{id:Id}{b:ABlock}(h:(z9o r B s).get id=some b):id.1=r∧∃p,s[id.2]?=some p∧b=B p.2:=by
 obtain⟨j,p,h1,h2⟩:=z0w (Vu h)
 simp only[pG] at h2
 obtain⟨rfl,rfl⟩:=h2
 exact⟨rfl,p,h1,rfl⟩
section
variable (hk:∀x,(ek x).nid=true) (hB:∀x g,(B x).ren g=B x) (hP:∀x p,(B x).inP p=true)
include hk hB hP
omit hk in
def y2u(i:Nat)(id:Id):Option Id:=if id.1=0 then(if id.2=0 then some (1,0) else if id.2=1 then some (1,1) else if id.2=2 then some (2,i) else none) else if id.1=1 then(if id.2=i then none else some (2,id.2)) else none
omit hk hB hP in
def y33(x:Id):Bool:=decide (x=(1,0)) || decide (x=(1,1)) || pF x.1 2
omit hk hB hP in
def y2s(ek:κ→AVal)(B:ι→ABlock)(i:Nat)(s:List (κ×ι))(x:ι):AHeap:=[((0,0),.one [.map (0,1)]),((0,1),.amap ((y2g i s).map (em ek (eR (some (0,2)))))),((0,2),B x)]
def oth(B:ι→ABlock)(i:Nat)(s:List (κ×ι)):AHeap:=(z9o 1 B s).del (1,i)
omit hk hB in
def y0v(s:List (κ×ι)):List (κ×Ref):=s.mapIdx fun j p=>(p.1,.oth j)
def y2z(ek:κ→AVal)(s:List (κ×ι)):AHeap:=[((0,0),.one [.map (0,1)]),((0,1),.amap ((y0v s).map (em ek (eR none))))]
omit hB hP in
def y30(ek:κ→AVal)(B:ι→ABlock)(s:List (κ×ι))(k:κ)(x:ι):AHeap:=
 ((1,0),.one [.map (1,1)])::((1,1),.amap ((s.mapIdx fun j p=>(ek p.1,.map (2,j)))++[(ek k,.map (4,0))]))::((4,0),B x)::z9o 2 B s
omit hk hB hP in
def y36(N:Nat)(H:AHeap)(id:Id):Option Id:=if id=(3,N) then some (4,0) else zfv H id
omit hk hB hP in
end
end
end Go.Fx
namespace Go.Fx
section
variable {κ α:Type} {ek:κ→AVal} {e:α→List AVal} {s q q':Nat} {qf:κ→κ→Bool}
def zg2(s:Nat)(e:α→List AVal)(r:List α):ABlock:=.rows s (r.map e)
def y2q(qf:κ→κ→Bool):List (κ×α)→κ→Nat
 |[],_=>0
 |(k',_)::r,k=>if qf k k'=true then 0 else y2q qf r k+1
def y1w(ek:κ→AVal)(q s:Nat)(l:List (κ×List α)):List (AVal×AVal):=l.mapIdx fun j p=>(ek p.1,.msl (q,j) s 0 p.2.length false)
def y35(ek:κ→AVal)(q s:Nat)(l:List (κ×List α))(i:Nat)(k:κ)(c:AVal):List (AVal×AVal):=if i<l.length then(y1w ek q s l).set i (ek k,c) else y1w ek q s l++[(ek k,c)]
def uz(q s:Nat)(e:α→List AVal)(l:List (κ×List α))(h:Option Nat):AHeap:=match h with
 |none=>z9o q (zg2 s e) l
 |some i=>(z9o q (zg2 s e) l).del (q,i)
section
variable {ks:List CK} (hq:∀a b,z3g ks (ek a) (ek b)=some (qf a b)) {l:List (κ×List α)} {k:κ} {c c':AVal} {g:Bool} {zs:List AVal}
include hq
end
theorem z9z(he:∀x,AVal.nid.nidL (e x)=true){F:Id→Bool}{H:AHeap}{ρ:Id→Option Id}{n:Nat}(r:List α):BVw F H ρ n (zg2 s e r) (zg2 s e r):=by
 refine .rows s _ _ rfl fun i a b h1 h2=>?_
 rw[h1] at h2
 simp only[p0] at h2
 subst h2
 rw[pM] at h1
 obtain⟨z,_,rfl⟩:=pH.1 h1
 exact⟨rfl,fun j x y hx hy=>Kk (he z) j x y hx hy⟩
theorem ziq{l:List (κ×List α)}{h:Option Nat}{id:Id}{b:ABlock}(hg:(uz q s e l h).get id=some b):id.1=q∧h≠some id.2∧∃p,l[id.2]?=some p∧b=zg2 s e p.2:=by
 cases h with
 |none=>
  obtain⟨h1,p,h2,h3⟩:=zj8 hg
  exact⟨h1,by simp,p,h2,h3⟩
 |some i=>
  unfold uz at hg
  simp only at hg
  rw[AHeap.get_del] at hg
  split at hg
  ·cases hg
  ·rename_i hne
   obtain⟨h1,p,h2,h3⟩:=zj8 hg
   exact⟨h1,fun e=>hne (by simp only[p0] at e;rw[e,←h1]),p,h2,h3⟩
def IsFamM(q s:Nat)(e:α→List AVal)(l:List (κ×List α))(h:Option Nat)(T:AHeap):Prop:=∀ (j:Nat) (p:κ×List α),l[j]?=some p→h≠some j→T.get (q,j)=some (zg2 s e p.2)
theorem IsFamM.base{l:List (κ×List α)}{h:Option Nat}:IsFamM q s e l h (uz q s e l h):=fun j p hj hh=>by
 cases h with
 |none=>exact zph hj
 |some i=>
  unfold uz
  simp only
  rw[AHeap.get_del,if_neg (fun e=>hh (by simp only[pG,true_and] at e;rw[e]))]
  exact zph hj
theorem IsFamM.del{l:List (κ×List α)}{h:Option Nat}{T:AHeap}{x:Id}(hx:x.1≠q)(a:IsFamM q s e l h T):IsFamM q s e l h (T.del x):=fun j p h1 h2=>by
 rw[AHeap.get_del,if_neg (fun e=>hx (by rw[e]))];exact a j p h1 h2
theorem IsFamM.without{l:List (κ×List α)}{h:Option Nat}{T:AHeap}{p:Id→Bool}(hp:∀j,p (q,j)=false)(a:IsFamM q s e l h T):IsFamM q s e l h (AHeap.without p T):=fun j x h1 h2=>by
 rw[AHeap.get_without,hp j];exact a j x h1 h2
theorem IsFamM.app{l:List (κ×List α)}{h:Option Nat}{lit T:AHeap}(hl:noR q lit=true)(a:IsFamM q s e l h T){j:Nat}{p:κ×List α}(h1:l[j]?=some p)(h2:h≠some j):AHeap.get (lit++T) (q,j)=some (zg2 s e p.2):=by
 rw[AHeap.get_append,J2 hl rfl,pS];exact a j p h1 h2
theorem IsFamM.hole{l:List (κ×List α)}{h:Option Nat}{T:AHeap}(a:IsFamM q s e l none T):IsFamM q s e l h T:=fun j p h1 _=>a j p h1 (by simp)
theorem InQ.baseM{l:List (κ×List α)}{h:Option Nat}:InQ q (uz q s e l h):=by
 have h0:InQ q (z9o q (zg2 s e) l):=fun x hx=>by
  obtain⟨j,p,_,rfl⟩:=z0w hx;rfl
 cases h with
 |none=>exact h0
 |some i=>exact h0.del
section
variable {n0 n n':Nat} {f:Nat→Option Id} {m t:Id} {g:Option Id} {M:List (Id×Id)} {e' e1:Env} {lit' T lit:AHeap} {l l':List (κ×List α)} {h h':Option Nat}
theorem y12(hn:∀x,AVal.nid.nidL (e x)=true)(hc:zq5 n0 n q q' m t lit' M=true)(hf1:∀j k,f j=some k→k.1=q∨k=t)(hf2:∀i j k,f i=some k→f j=some k→i=j)(hg1:∀k,g=some k→k.1=q)(hfg:∀j k,f j=some k→g≠some k)
 (hfam:∀ (j:Nat) (p:κ×List α),l'[j]?=some p→h'≠some j→∃k,f j=some k∧AHeap.get (lit'++T) k=some (zg2 s e p.2))
 (hE:EnvTo (fun _=>false) (lit'++T) (V6 n0 q' f m g M) n e' e1) (hH:HeapTo (fun _=>false) (lit'++T) (V6 n0 q' f m g M) n0 n lit):Sim n0 e' (lit'++T) n' e1 (lit++uz q' s e l' h') n:=by
 have hk:=Jx hc
 refine Sim.of ⟨_,_,zpr hk (fun _ _=>rfl) hf1 hf2 hg1 hfg,hE,fun id blk hg=>?_⟩
 rw[AHeap.get_append] at hg
 cases hl:lit.get id with
 |some b=>
  rw[hl] at hg
  simp only[qG,p0] at hg
  subst hg
  exact hH.get id b hl
 |none=>
  rw[hl] at hg
  simp only[pS] at hg
  obtain⟨g2,g3,p,g4,rfl⟩:=ziq hg
  have hat:V6 n0 q' f m g M id=f id.2:=by unfold V6;rw[if_pos g2]
  unfold Jz
  rw[hat]
  obtain⟨k,h1,h2⟩:=hfam id.2 p g4 g3
  rw[h1]
  simp only
  rw[h2]
  exact⟨trivial,z9z hn _⟩
theorem Vm(hn:∀x,AVal.nid.nidL (e x)=true)(hc:zq5 n0 n q q' (q',0) (q,0) lit' M=true)(hT:IsFamM q s e l none T)
 (hE:EnvTo (fun _=>false) (lit'++T) (V6 n0 q' (fun j=>some (q,j)) (q',0) none M) n e' e1) (hH:HeapTo (fun _=>false) (lit'++T) (V6 n0 q' (fun j=>some (q,j)) (q',0) none M) n0 n lit):Sim n0 e' (lit'++T) n' e1 (lit++uz q' s e l none) n:=
 y12 hn hc (fun j k h=>by simp only[p0] at h;subst h;exact .inl rfl) (fun i j k h1 h2=>by simp only[p0] at h1 h2;subst h1;simp only[pG,true_and] at h2;exact h2.symm) (fun k h=>by cases h) (fun j k _ h=>by cases h)
  (fun j p h1 h2=>⟨_,rfl,hT.app (Jx hc).no h1 h2⟩) hE hH
theorem zui(hn:∀x,AVal.nid.nidL (e x)=true){i:Nat}{v:List α}(hi:(l[i]?).map (·.2)=some v)(hc:zq5 n0 n q q' m (q,0) lit' M=true)(hm:m.1≠q')(hT:IsFamM q s e l none T)
 (hE:EnvTo (fun _=>false) (lit'++T) (zrc n0 q q' l.length i m M) n e' e1) (hH:HeapTo (fun _=>false) (lit'++T) (zrc n0 q q' l.length i m M) n0 n lit):Sim n0 e' (lit'++T) n' e1 ((m,.rows s (v.map e))::lit++uz q' s e l (some i)) n:=by
 obtain⟨p,hp,hpv⟩:=pH.1 hi
 have hil:i<l.length:=Vl hp
 refine y12 (lit:=(m,.rows s (v.map e))::lit) hn hc (fun j k h=>?_) (fun a b k h1 h2=>?_) (fun k h=>?_) (fun j k h h2=>?_) (fun j p h1 h2=>?_) hE ⟨?_,hH⟩
 ·skip
  split at h
  ·cases h
  ·simp only[p0] at h;subst h;exact .inl rfl
 ·skip
  split at h1<;>split at h2<;>try (first|(cases h1;done)|(cases h2;done))
  simp only[p0] at h1 h2
  subst h1
  simp only[pG,true_and] at h2
  exact h2.symm
 ·rw[if_pos hil] at h
  simp only[p0] at h;subst h;rfl
 ·skip
  split at h
  ·cases h
  ·rename_i hne
   rw[if_pos hil] at h2
   simp only[p0] at h h2
   subst h
   simp only[pG,true_and] at h2
   exact hne h2.symm
 ·have:j≠i:=fun e=>h2 (by rw[e])
  rw[if_neg this]
  exact⟨_,rfl,hT.app (Jx hc).no h1 (by simp)⟩
 ·have hk:=Jx hc
  have:V6 n0 q' (fun j=>if j=i then none else some (q,j)) m (if i<l.length then some (q,i) else none) M m=some (q,i):=by
   unfold V6;rw[if_neg hm,if_pos rfl,if_pos hil]
  unfold Jz
  rw[this]
  simp only
  rw[hT.app hk.no hp (by simp),hpv]
  exact⟨trivial,z9z hn _⟩
end
section
variable {F:Id→Bool} {H:AHeap} {n0 n:Nat} {m t:Id} {M:List (Id×Id)} {l:List (κ×List α)} {N:Nat}
end
end
end Go.Fx
namespace Go.Fx
open Go
def gh(n s k:Nat):AHeap:=(List.range k).map fun j=>((n,j),.rows s [])
theorem zhk(n s:Nat)(id:Id):∀k:Nat,(gh n s k).get id=if id.1=n∧id.2<k then some (.rows s []) else none
 |0=>by rw[if_neg (fun h=>Nat.not_lt_zero _ h.2)];rfl
 |k+1=>by
  have e:gh n s (k+1)=gh n s k++[((n,k),.rows s [])]:=by unfold gh;rw[List.range_succ,List.map_append];rfl
  rw[e,AHeap.get_append,zhk n s id k]
  by_cases h:id.1=n∧id.2<k
  ·rw[if_pos h,if_pos ⟨h.1,by omega⟩];rfl
  ·rw[if_neg h,pS]
   by_cases h':(n,k)=id
   ·subst h'
    rw[AHeap.get_cons_same,if_pos ⟨rfl,Nat.lt_succ_self k⟩]
   ·rw[AHeap.get_cons_other _ _ h',if_neg (fun hx=>h' (by
     have h1:=hx.1
     have:id.2=k:=by
      have:=hx.2
      by_cases hk:id.2<k
      ·exact absurd ⟨h1,hk⟩ h
      ·omega
     rw[←h1,←this]))]
    rfl
section
variable {P:Program} {I:Nat→Nat→Prop} {β:Id→Option CLoc} {n:Nat} {H:AHeap} {w:World}
def ghB(β:Id→Option CLoc)(n s k:Nat)(id:Id):Option CLoc:=if id.1=n then(if id.2<k then some ⟨0,0,0,0,s⟩ else none) else β id
theorem zjy{HH:AHeap}(hI:Inv I β n H w)(s k:Nat)(hG:∀id:Id,HH.get id=if id.1=n∧id.2<k then some (.rows s []) else H.get id) :
 ∃β',Inv I β' (n+1) HH w∧Ext I β n H w I β' (n+1) HH w∧(∀ {x:AVal} {v:Value},Rep I β n w x v→Rep I β' (n+1) w x v):=by
 have hold:∀id:Id,id.1≠n→ghB β n s k id=β id:=fun id h=>by unfold ghB;rw[if_neg h]
 have hup:∀id d,id.1<n→ghB β n s k id=some d→β id=some d:=fun id d hid hd=>by
  rwa [hold id (by omega)] at hd
 have hnew:∀ (id:Id) (d:CLoc),ghB β n s k id=some d→id.1≠n∨d=⟨0,0,0,0,s⟩:=fun id d hd=>by
  by_cases h:id.1=n
  ·unfold ghB at hd
   rw[if_pos h] at hd
   split at hd
   ·exact .inr (Option.some.inj hd).symm
   ·cases hd
  ·exact .inl h
 have hno:∀ (d:CLoc) (x k:Nat),d=⟨0,0,0,0,s⟩→¬d.has x k:=fun d x k h hk=>by subst h;exact absurd hk.2.2 (Nat.not_lt_zero k)
 have hget:∀id:Id,id.1≠n→HH.get id=H.get id:=fun id h=>by
  rw[hG,if_neg (fun hx=>h hx.1)]
 obtain⟨g1,g2⟩:=Yl (I':=I) (β':=ghB β n s k) (n':=n+1) (H':=HH) hI (Chg.refl w (fun _ _=>False)) (Nat.le_succ n) (fun _ _ h=>h.elim) (fun _ _ h=>h) (fun _ _ h h'=>absurd h h') (fun id hid=>.inl (hold id (by omega)))
  (fun id d x j hid hd hk=>by
   rcases hnew id d hd with h|h
   ·rw[hold id h] at hd
    rw[hI.fresh id (by omega)] at hd;cases hd
   ·exact absurd hk (hno _ _ _ h))
  (fun id hid=>by
   rw[hold id (by omega)]
   exact hI.fresh id (by omega))
  (fun i j d d' x y hi hj hk hk' hn=>by
   rcases hnew j d' hj with h|h
   ·rw[hold j h] at hj
    rw[hI.fresh j (by omega)] at hj;cases hj
   ·exact absurd hk' (hno _ _ _ h))
  (fun i d x y _ _ h=>h)
  (fun id hid hg=>by rwa [hget id (by omega)] at hg)
  (fun id blk' hid=>by
   by_cases h:id.1=n
   ·rw[hG] at hid
    by_cases hk:id.2<k
    ·rw[if_pos ⟨h,hk⟩] at hid
     simp only[p0] at hid
     subst hid
     exact .inr ⟨⟨0,0,0,0,s⟩,by unfold ghB;rw[if_pos h,if_pos hk],rfl,.inr ⟨rfl,rfl,rfl⟩,fun k _ hk=>absurd hk (Nat.not_lt_zero k),Nat.le_refl _,by simp,fun i r hi=>by simp at hi,fun i r j x hi=>by simp at hi⟩
    ·rw[if_neg (fun hx=>hk hx.2)] at hid
     obtain⟨c,hc,_⟩:=hI.blocks id _ hid
     rw[hI.fresh id (by omega)] at hc;cases hc
   ·rw[hget id h] at hid
    exact .inl ⟨hid,hold id h,fun _ _ _ _ _ h=>h⟩)
 exact⟨_,g1,g2,fun hr=>hr.mono' (fun _ _ h=>h) (fun _ _ _=>rfl) (Nat.le_succ n) hup⟩
theorem LWp.ghosts{N:Lay}{n0:Nat}{lc:LCode}{Q:Exit→Env→AHeap→Nat→Prop}{e:Env}(s k:Nat)
 (h:LWp P N n0 lc Q e (H++gh n s k) (n+1)):LWp P N n0 lc Q e H n:=by
 intro c hc ro hro J0 γ0 G0 w0 I β w a hX hI hE hN hD QQ hQ
 obtain⟨β',g1,g2,g3⟩:=zjy (HH:=H++gh n s k) hI s k (fun id=>by
  rw[AHeap.get_append,zhk]
  by_cases hx:id.1=n∧id.2<k
  ·rw[if_pos hx,if_pos hx]
   cases hg:H.get id with
   |none=>rfl
   |some b=>
    obtain⟨c,hc,_⟩:=hI.blocks id _ hg
    rw[hI.fresh id (by omega)] at hc;cases hc
  ·rw[if_neg hx,if_neg hx,Option.or_none])
 exact h c hc ro hro J0 γ0 G0 w0 I β' w a (hX.trans g2) g1 (fun t=>g3 (hE t)) hN hD QQ hQ
end
section
variable {α:Type} {e:α→List AVal} {q q' s:Nat}
def tl(l:List (List α)):List (Unit×List α):=l.map fun r=>((),r)
theorem zhg(l:List (List α)):(tl l).length=l.length:=by simp[tl]
theorem zdk(l:List (List α))(j:Nat):(tl l)[j]?=l[j]?.map fun r=>((),r):=by simp[tl]
def Y1(q s:Nat)(l:List (List α)):List (List AVal):=l.mapIdx fun j r=>[.msl (q,j) s 0 r.length false]
def z11(q s:Nat)(l:List (List α))(i:Nat)(c:AVal):List (List AVal):=(Y1 q s l).set i [c]
theorem Q3(l:List (List α)):(Y1 q s l).length=l.length:=by simp[Y1]
theorem Xe(l:List (List α))(j:Nat):(Y1 q s l)[j]?=l[j]?.map fun r=>[.msl (q,j) s 0 r.length false]:=by simp[Y1]
theorem z8k{l:List (List α)}{i:Nat}{c:AVal}:(z11 q s l i c).length=l.length:=by simp[z11,Q3]
theorem z8c{l:List (List α)}{i:Nat}{c:AVal}(j:Nat):(z11 q s l i c)[j]?=l[j]?.map fun r=>if j=i then [c] else [.msl (q,j) s 0 r.length false]:=by
 unfold z11
 rw[List.getElem?_set,Xe]
 cases hl:l[j]? with
 |none=>
  have:=List.getElem?_eq_none_iff.1 hl
  split
  ·rename_i h;subst h;rw[if_neg (by rw[Q3];omega)];rfl
  ·rfl
 |some r=>
  have:=Vl hl
  split
  ·rename_i h;subst h;rw[if_pos (by rw[Q3];exact this)];simp
  ·rename_i h;simp[show ¬j=i from fun e=>h e.symm]
theorem Jl{l:List (List α)}{i:Nat}{c:AVal}(h:i<l.length):(z11 q s l i c).getD i []=[c]:=by
 rw[pI,z8c,pC h];simp
theorem zts{l:List (List α)}{i:Nat}{c c':AVal}:(z11 q s l i c).set i [c']=z11 q s l i c':=by unfold z11;rw[List.set_set]
section
variable {F:Id→Bool} {H:AHeap} {n0 n n':Nat} {m t:Id} {M:List (Id×Id)} {l:List (List α)} {N:Nat} {e' e1:Env} {lit' T lit:AHeap}
theorem zu8(hn:∀x,AVal.nid.nidL (e x)=true){i:Nat}{r:List α}(hc:zq5 n0 n q q' (q',0) t lit' M=true)(ht:t.1≠q)(hg:AHeap.get (lit'++T) t=some (.rows s (r.map e)))(hT:IsFamM q s e (tl l) (some i) T)
 (hE:EnvTo (fun _=>false) (lit'++T) (zn5 n0 q q' i t M) n e' e1) (hH:HeapTo (fun _=>false) (lit'++T) (zn5 n0 q q' i t M) n0 n lit):Sim n0 e' (lit'++T) n' e1 (lit++uz q' s e (tl (l.set i r)) none) n:=by
 refine y12 hn hc (fun j k h=>?_) (fun a b k h1 h2=>?_) (fun k h=>by cases h) (fun j k _ h=>by cases h) (fun j p h1 h2=>?_) hE hH
 ·skip
  split at h<;>(simp only[p0] at h;subst h)
  ·exact .inr rfl
  ·exact .inl rfl
 ·skip
  split at h1<;>split at h2<;>simp only[p0] at h1 h2
  ·omega
  ·subst h1;exact absurd (by rw[←h2]) ht
  ·subst h2;exact absurd (by rw[←h1]) ht
  ·subst h1
   simp only[pG,true_and] at h2
   exact h2.symm
 ·skip
  rw[zdk] at h1
  obtain⟨r',hr',rfl⟩:=pH.1 h1
  have hlt:=Vl hr'
  rw[List.length_set] at hlt
  by_cases hj:j=i
  ·subst hj
   rw[if_pos rfl]
   rw[List.getElem?_set_self hlt] at hr'
   cases hr'
   exact⟨_,rfl,hg⟩
  ·rw[if_neg hj]
   rw[List.getElem?_set_ne (fun e=>hj e.symm)] at hr'
   exact⟨_,rfl,hT.app (Jx hc).no (p:=((),r')) (by rw[zdk,hr'];rfl) (fun e=>hj (by simpa using e.symm))⟩
theorem IsFamM.gh{q k:Nat}:IsFamM q s e (tl (pN k ([]:List α))) none (Go.Fx.gh q s k):=fun j p hj _=>by
 rw[zdk,List.getElem?_replicate] at hj
 by_cases hk:j<k
 ·rw[if_pos hk] at hj
  simp only[pL,p0] at hj
  subst hj
  rw[zhk,if_pos ⟨rfl,hk⟩];rfl
 ·rw[if_neg hk] at hj;cases hj
theorem BVw.tabNew{k:Nat}{g:Option Id}(hH:∀j,j<k→H.get (q,j)=some (.rows s [])):BVw F H (V6 n0 q' (fun j=>some (q,j)) m g M) n (.rows 1 (pN k [.isl s [] true])) (.rows 1 (Y1 q' s (pN k ([]:List α)))):=by
 refine .rows 1 _ _ (by rw[Q3];simp) fun i r r' h1 h2=>?_
 rw[Xe] at h2
 rw[List.getElem?_replicate] at h1 h2
 split at h1
 ·rename_i hi
  rw[if_pos hi] at h2
  simp only[pL,p0] at h1 h2
  subst h1;subst h2
  exact zj3 (.islM (q,i) (q',i) s 0 false [] (by unfold V6;rw[if_pos rfl]) (hH i hi))
 ·cases h1
theorem BVw.tabJ{g:Option Id}:BVw F H (V6 n0 q' (fun j=>some (q,j)) m g M) n (.rows 1 (Y1 q s l)) (.rows 1 (Y1 q' s l)):=by
 refine .rows 1 _ _ (by rw[Q3,Q3]) fun i r r' h1 h2=>?_
 rw[Xe] at h1 h2
 obtain⟨p,hp,rfl⟩:=pH.1 h1
 rw[hp] at h2
 simp only[pL,p0] at h2
 subst h2
 exact zj3 (.mslF _ _ _ _ _ _ (by unfold V6;rw[if_pos rfl]))
theorem BVw.tabF{i:Nat}{v:List α}(hi:l[i]?=some v)(hm:m.1≠q')(hN:N=l.length):BVw F H (zrc n0 q q' N i m M) n (.rows 1 (Y1 q s l)) (.rows 1 (z11 q' s l i (.msl m s 0 v.length false))):=by
 subst hN
 have hlt:=Vl hi
 refine .rows 1 _ _ (by rw[Q3,z8k]) fun j r r' h1 h2=>?_
 rw[Xe] at h1
 rw[z8c] at h2
 obtain⟨p,hp,rfl⟩:=pH.1 h1
 rw[hp] at h2
 simp only[pL,p0] at h2
 subst h2
 by_cases hj:j=i
 ·subst hj
  rw[if_pos rfl]
  rw[hi] at hp
  cases hp
  refine zj3 (.mslF _ _ _ _ _ _ ?_)
  unfold zrc V6
  rw[if_neg hm,if_pos rfl,if_pos hlt]
 ·rw[if_neg hj]
  refine zj3 (.mslF _ _ _ _ _ _ ?_)
  unfold zrc V6
  rw[if_pos rfl]
  simp only
  rw[if_neg hj]
theorem BVw.tabU{i:Nat}{r:List α}{len:Nat}{fl:Bool}(hl:len=r.length):BVw F H (zn5 n0 q q' i t M) n (.rows 1 (z11 q s l i (.msl t s 0 len fl))) (.rows 1 (Y1 q' s (l.set i r))):=by
 subst hl
 refine .rows 1 _ _ (by rw[Q3,z8k,List.length_set]) fun j a b h1 h2=>?_
 rw[z8c] at h1
 rw[Xe] at h2
 obtain⟨p,hp,rfl⟩:=pH.1 h1
 obtain⟨p',hp',rfl⟩:=pH.1 h2
 have hlt:=Vl hp
 by_cases hj:j=i
 ·subst hj
  rw[List.getElem?_set_self hlt] at hp'
  cases hp'
  rw[if_pos rfl]
  refine zj3 (.mslF _ _ _ _ _ _ ?_)
  unfold zn5 V6
  rw[if_pos rfl]
  simp
 ·rw[List.getElem?_set_ne (fun e=>hj e.symm),hp] at hp'
  cases hp'
  rw[if_neg hj]
  refine zj3 (.mslF _ _ _ _ _ _ ?_)
  unfold zn5 V6
  rw[if_pos rfl]
  simp only
  rw[if_neg hj]
theorem BVw.tabZ(he:∀x,AVal.nid.nidL (e x)=true∧∀y∈e x,y.imm=some y){ρ:Id→Option Id}(hF:∀j,F (q,j)=true)(hT:∀ (j:Nat) (r:List α),l[j]?=some r→H.get (q,j)=some (zg2 s e r)) :
 BVw F H ρ n (.rows 1 (Y1 q s l)) (.rows 1 (l.map fun r=>[.isl s (r.map e) false])):=by
 refine .rows 1 _ _ (by rw[Q3,pO]) fun i a b h1 h2=>?_
 rw[Xe] at h1
 rw[pM] at h2
 obtain⟨p,hp,rfl⟩:=pH.1 h1
 rw[hp] at h2
 simp only[pL,p0] at h2
 subst h2
 refine zj3 (.frz _ _ _ _ _ _ (p.map e) _ (fun h=>h) (hF i) (hT i p hp) (by simp) (by simp) (fun j a b h1 h2=>?_) (fun j a b c x y h1 h2 hx hy=>?_) (fun a ha y hy=>?_))
 ·rw[Nat.zero_add] at h1;rw[h1] at h2;cases h2;rfl
 ·rw[Nat.zero_add] at h1
  rw[h1] at h2
  cases h2
  rw[pM] at h1
  obtain⟨z,_,rfl⟩:=pH.1 h1
  exact Kk (he z).1 c x y hx hy
 ·obtain⟨z,_,rfl⟩:=pE.1 ha
  exact(he z).2 y hy
end
theorem zgj{κ:Type}(hn:∀x,AVal.nid.nidL (e x)=true)(l:List (κ×List α)):up q (uz 2 s e l none)=uz q s e l none:=by
 unfold up AHeap.renamed uz z9o
 simp only
 refine List.ext_getElem? fun j=>?_
 rw[pM,List.getElem?_mapIdx,List.getElem?_mapIdx]
 cases l[j]? with
 |none=>rfl
 |some p=>simp only[pL,zg2,qj e hn,mv,if_true]
theorem y03{κ:Type}(hn:∀x,AVal.nid.nidL (e x)=true)(l:List (κ×List α)):Tl (uz 2 s e l none):=by
 refine⟨fun x hx=>?_,fun x hx=>?_,ze7⟩
 ·obtain⟨j,p,_,rfl⟩:=z0w (show x∈z9o 2 (zg2 s e) l from hx);rfl
 ·obtain⟨j,p,_,rfl⟩:=z0w (show x∈z9o 2 (zg2 s e) l from hx)
  exact zsu e hn s p.2
theorem z7x{g:Id→Id}{l:List (List α)}(hg:∀j,j<l.length→g (q,j)=(q',j)):(ABlock.rows 1 (Y1 q s l)).ren g=.rows 1 (Y1 q' s l):=by
 show ABlock.rows 1 (Ye g (Y1 q s l))=_
 congr 1
 refine List.ext_getElem? fun j=>?_
 unfold Ye
 rw[pM,Xe,Xe]
 cases hl:l[j]? with
 |none=>rfl
 |some r=>simp only[pL,AVal.ren.renL,AVal.ren,hg j (Vl hl)]
theorem y1v{κ:Type}{n n':Nat}{r R:AVal}{lit' lit:AHeap}{l:List (κ×List α)}(hn:∀x,AVal.nid.nidL (e x)=true)(M:List (Id×Id))(Fs:List Id)(hc:y08 n q lit' M=true)(hF:(Fs.all fun x=>pK 3 x.1&&!(pF x.1 q))=true)
 (hv:Vw (fun x=>Fs.contains x) (lit'++uz q s e l none) (z63 q M) n r R) (hH:HeapTo (fun x=>Fs.contains x) (lit'++uz q s e l none) (z63 q M) 3 n lit):Yy 3 n R (lit++uz 3 s e l none) r (lit'++uz q s e l none) n':=by
 have:=zwo (n':=n') (q:=q) (lit:=lit) (T:=uz 2 s e l none) (y03 hn l) M Fs hc hF (by rw[zgj hn];exact hv) (by rw[zgj hn];exact hH)
 rwa [zgj hn,zgj hn] at this
theorem BVw.tabT{F:Id→Bool}{H:AHeap}{n:Nat}{M:List (Id×Id)}{l:List (List α)}:BVw F H (z63 q M) n (.rows 1 (Y1 q s l)) (.rows 1 (Y1 3 s l)):=by
 refine .rows 1 _ _ (by rw[Q3,Q3]) fun i r r' h1 h2=>?_
 rw[Xe] at h1 h2
 obtain⟨p,hp,rfl⟩:=pH.1 h1
 rw[hp] at h2
 simp only[pL,p0] at h2
 subst h2
 exact zj3 (.mslF _ _ _ _ _ _ (by unfold z63;simp))
theorem RenL.self{g:Id→Id}:∀L:AHeap,RenL g L (AHeap.renamed g L)
 |[]=>trivial
 |(k,b)::r=>⟨rfl,rfl,RenL.self r⟩
theorem RenL.app{g:Id→Id}:∀ {A A' B B':AHeap},RenL g A A'→RenL g B B'→RenL g (A++B) (A'++B')
 |[],[],_,_,_,h=>h
 |[],_::_,_,_,h,_=>h.elim
 |_::_,[],_,_,h,_=>h.elim
 |(k,b)::r,(k',b')::r',_,_,h,h'=>⟨h.1,h.2.1,RenL.app h.2.2 h'⟩
theorem zx2{κ:Type}{q q':Nat}{g:Id→Id}(hn:∀x,AVal.nid.nidL (e x)=true)(l:List (κ×List α))(hg:∀j,g (q,j)=(q',j)):AHeap.renamed g (uz q s e l none)=uz q' s e l none:=by
 unfold AHeap.renamed uz z9o
 simp only
 refine List.ext_getElem? fun j=>?_
 rw[pM,List.getElem?_mapIdx,List.getElem?_mapIdx]
 cases l[j]? with
 |none=>rfl
 |some p=>simp only[pL,zg2,qj e hn,hg]
theorem ACalls.get{P:Program}{f:Fn}{args:List AVal}{H:AHeap}{n:Nat}{K:AVal→AHeap→Nat→Prop}(h:ACalls P f args H n (fun R H' n'=>∃H2:AHeap,(∀id,H2.get id=H'.get id)∧K R H2 n')):ACalls P f args H n K:=
 ⟨h.1,fun I β w vs hI hl hr=>(h.2 I β w vs hI hl hr).mono fun _ _ ⟨r,v,H',n',I',β',h1,⟨H2,hg,hk⟩,hi,hr,hx⟩=>
  ⟨r,v,H2,n',I',β',h1,hk,⟨fun id b hb=>hi.blocks id b (by rw[←hg];exact hb),hi.inj,hi.own,hi.imm,hi.fresh,hi.glob⟩,hr,
   { hx with dom:=fun id h1 h2=>hx.dom id h1 (by rw[←hg];exact h2) }⟩⟩
theorem zum{κ:Type}{q:Nat}{A B:AHeap}{l:List (κ×List α)}(hB:noR q B=true)(id:Id):AHeap.get (A++B++uz q s e l none) id=AHeap.get (A++uz q s e l none++B) id:=by
 rw[AHeap.get_append,AHeap.get_append,AHeap.get_append,AHeap.get_append]
 by_cases h:id.1=q
 ·rw[J2 hB h,Option.or_none,Option.or_none]
 ·have:AHeap.get (uz q s e l none) id=none:=by
   cases hg:AHeap.get (uz q s e l none) id with
   |none=>rfl
   |some b=>exact absurd (ziq hg).1 h
  rw[this,Option.or_none,Option.or_none]
theorem zgf{P:Program}{κ:Type}{f:Fn}{args args0:List AVal}{H H0 L L' rest:AHeap}{n k m:Nat}{R R':AVal}{K:AVal→AHeap→Nat→Prop}{l:List (κ×List α)}{qq:Nat}(hn:∀x,AVal.nid.nidL (e x)=true)(c:Nat)(hq:n+c=qq)(M:List (Id×Id))(h:ACalls P f args0 H0 k (Ze (k+m) R (L++uz (k+c) s e l none)))
 (hM:zyo k n M=true) (hM1:zle M=true) (hnd:z1p L=true) (hno:noR (k+c) L=true) (ha:ArgsTo (fun _=>false) H (z57 M) k args args0) (hH:H0To H (z57 M) k H0)
 (hR:R.ren (z10 (z57 M) k n m)=R') (hL:RenL (z10 (z57 M) k n m) L L') (hrest:AHeap.without (fun x=>(M.map (·.2)).contains x) H=rest) (hno2:noR qq rest=true)
 (hk:K R' (L'++rest++uz qq s e l none) (n+m+1)):ACalls P f args H n K:=by
 subst hq
 refine ACalls.get (Q4 M h hM hM1 ?_ ha hH hR (RenL.app hL (?_:RenL _ _ (uz (n+c) s e l none))) hrest ⟨_,zum hno2,hk⟩)
 ·unfold z1p at hnd ⊢
  rw[decide_eq_true_eq] at hnd ⊢
  rw[List.map_append,List.nodup_append]
  refine⟨hnd,ze7,fun a ha b hb hab=>?_⟩
  subst hab
  obtain⟨x,hx,rfl⟩:=pE.1 ha
  obtain⟨y,hy,he⟩:=pE.1 hb
  obtain⟨j,p,_,rfl⟩:=z0w (show y∈z9o (k+c) (zg2 s e) l from hy)
  unfold noR at hno
  rw[pD] at hno
  have:=hno x hx
  rw[←he] at this
  simp at this
 ·have:=RenL.self (g:=z10 (z57 M) k n m) (uz (k+c) s e l none)
  rwa [zx2 hn l (q':=n+c) (fun j=>by unfold z10;rw[if_neg (by simp)];simp)] at this
theorem ziy[Inhabited α]{l:List (List α)}{i:Nat}(h:i<l.length):((tl l)[i]?).map (·.2)=some (l.getD i default):=by
 rw[zdk,pC h,pI,pC h];rfl
theorem z2h{l:List (List α)}{i:Nat}(h:i<l.length):l[i]?=some (l.getD i default):=by
 rw[pC h,pI,pC h];rfl
theorem Jd{l:List (List α)}{i k:Nat}{c:AVal}(h:k<l.length):k<(z11 q s l i c).length:=by rw[z8k];exact h
theorem z0b{l:List (List α)}{i:Nat}{c c':AVal}(h:i<l.length):(z11 q s l i c).set i (uy ((z11 q s l i c).getD i []) 0 [c'])=z11 q s l i c':=by
 rw[Jl h];exact zts
theorem zvu{k:Nat}{lit:AHeap}(hl:noR q lit=true)(j:Nat)(h:j<k):AHeap.get (lit++gh q s k) (q,j)=some (.rows s []):=by
 rw[AHeap.get_append,J2 hl rfl,pS,zhk,if_pos ⟨rfl,h⟩]
theorem y0t{n0 n n':Nat}{e' e1:Env}{lit' T L:AHeap}(M:List (Id×Id))(Fs:List Id)(hρ:Vr n0 n lit' M=true)(hq:pK n0 q=true)(hF:(Fs.all fun x=>pK n0 x.1)=true)
 (hE:EnvTo (fun x=>pF x.1 q || Fs.contains x) (lit'++T) (rho n0 M) n e' e1)
 (hH:HeapTo (fun x=>pF x.1 q || Fs.contains x) (lit'++T) (rho n0 M) n0 n L):Sim n0 e' (lit'++T) n' e1 L n:=by
 have h:=z0c hρ
 have hc':RhoChk n0 n (lit'++T) M:=⟨h.le,fun x hx=>⟨(h.all x hx).1,(h.all x hx).2.1,(h.all x hx).2.2.imp id z75⟩,h.nd⟩
 have hF':∀i:Id,i.1<n0→(pF i.1 q || Fs.contains i)=false:=fun i hi=>by
  rw[zz6 hF i hi,Bool.or_false]
  have:=p9 hq
  cases hb:pF i.1 q with
  |false=>rfl
  |true=>have:=pB hb;omega
 exact Sim.of ⟨_,_,zvi hc' hF',hE,hH.get⟩
theorem zy5{n0 n n':Nat}{e' e1:Env}{H' L:AHeap}(M:List (Id×Id))(Fs:List Id)(hρ:Vr n0 n H' M=true)(hF:(Fs.all fun x=>pK n0 x.1)=true)
 (hE:EnvTo (fun x=>Fs.contains x) H' (rho n0 M) n e' e1) (hH:HeapTo (fun x=>Fs.contains x) H' (rho n0 M) n0 n L):Sim n0 e' H' n' e1 L n:=
 Sim.of ⟨_,_,zme hρ (zz6 hF),hE,hH.get⟩
theorem BVw.tabZE{F:Id→Bool}{n:Nat}{l:List (List α)}{lit T:AHeap}(he:∀x,AVal.nid.nidL (e x)=true∧∀y∈e x,y.imm=some y){ρ:Id→Option Id}(hF:∀j,F (q,j)=true)(hl:noR q lit=true)(hT:IsFamM q s e (tl l) none T) :
 BVw F (lit++T) ρ n (.rows 1 (Y1 q s l)) (.rows 1 (l.map fun r=>[.isl s (r.map e) false])):=
 BVw.tabZ he hF fun j r h=>hT.app hl (p:=((),r)) (by rw[zdk,h];rfl) nofun
end
end Go.Fx
namespace Go.Fx
open Go.Shelf Go.RowKit Go.Lib Go.Proofs
set_option linter.unusedSimpArgs false
variable {P:Program}
structure InsL(P:Program)(ρ:Ren):Prop where
 mixed:P.follows .mixedOrders=true
 f22:∃nm,P.funcs[ρ.f 22]?=some { Body2.n22 ρ with name:=nm }
 f29:∃nm,P.funcs[ρ.f 29]?=some { Body2.n29 ρ with name:=nm }∧(nm=="runtime.NumGoroutine")=false∧Extern.findNext { Body2.n29 ρ with name:=nm }=none∧Extern.find { Body2.n29 ρ with name:=nm }=some (Extern.SlicesOverlaps.overlaps #[(ρ.t 24),(ρ.t 24)] #[(ρ.t 4)])
 t0:P.underlying (ρ.t 0)=some (TypeDesc.tuple #[])
 a0:∀w,(isAgg (ρ.t 0)).run P w=.ok false w
 z0:∀w,(qE (ρ.t 0)).run P w=.ok 1 w
 v0:∀w,(zeroValue (ρ.t 0)).run P w=.ok (Value.tuple #[]) w
 t3:P.underlying (ρ.t 3)=some (TypeDesc.int IntKind.i64)
 a3:∀w,(isAgg (ρ.t 3)).run P w=.ok false w
 z3:∀w,(qE (ρ.t 3)).run P w=.ok 1 w
 v3:∀w,(zeroValue (ρ.t 3)).run P w=.ok (Value.int IntKind.i64 0) w
 t4:P.underlying (ρ.t 4)=some (TypeDesc.bool)
 a4:∀w,(isAgg (ρ.t 4)).run P w=.ok false w
 z4:∀w,(qE (ρ.t 4)).run P w=.ok 1 w
 v4:∀w,(zeroValue (ρ.t 4)).run P w=.ok (Value.bool false) w
 t24:P.underlying (ρ.t 24)=some (TypeDesc.slice (ρ.t 9))
 a24:∀w,(isAgg (ρ.t 24)).run P w=.ok false w
 z24:∀w,(qE (ρ.t 24)).run P w=.ok 1 w
 v24:∀w,(zeroValue (ρ.t 24)).run P w=.ok (Value.slice none 0 0) w
section
variable {ρ:Ren} {s:Nat}
end
end Go.Fx
namespace Go.Fx
open Go.Shelf Go.RowKit Go.Lib Go.Proofs
variable {P:Program} {ρ:Ren}
section
variable {I:Nat→Nat→Prop} {β:Id→Option CLoc} {n:Nat} {H:AHeap} {w:World}
theorem zw1(hI:Inv I β n H w):Inv I β n H w.drew∧Ext I β n H w I β n H w.drew:=by
 have refl:Ext I β n H w I β n H w:=Ext.refl _ _ _ _ _ hI.fresh
 exact⟨hI.of_heap (show w.drew.heap=w.heap from rfl),⟨rfl,⟨rfl,fun _=>Nat.le_succ _⟩,rfl,Nat.le_refl _,fun _ _ _=>rfl,fun _ _ _ h _=>h,fun _ arr _ fr h=>⟨arr,fr,h,rfl,.inl rfl⟩,fun _ _ _ h _=>h,refl.imm,refl.immNew,refl.old,refl.new,refl.dom,refl.le⟩⟩
theorem Goes.mono{H:AHeap}{n:Nat}{K K':AVal→AHeap→Nat→Prop}{v:Value}{w':World}(h:Goes I β n H w K v w')(hk:∀r H' n',K r H' n'→K' r H' n'):Goes I β n H w K' v w':=by
 obtain⟨r,H',n',I',β',h1,h2,h3,h4⟩:=h
 exact⟨r,H',n',I',β',hk _ _ _ h1,h2,h3,h4⟩
end
section
variable {s b:Nat} {zs:List AVal}
end
end Go.Fx
namespace Go.Fx
open Go.Shelf Go.RowKit Go.Lib Go.Proofs
set_option linter.unusedSimpArgs false
variable {P:Program} {ρ:Ren}
end Go.Fx
namespace Go.Fx
open Go.Shelf Go.RowKit Go.Lib Go.Proofs
set_option linter.unusedSimpArgs false
variable {P:Program} {ρ:Ren}
structure DelL(P:Program)(ρ:Ren):Prop where
 mixed:P.follows .mixedOrders=true
 f24:∃nm,P.funcs[ρ.f 24]?=some { Body2.n24 ρ with name:=nm }
 t0:P.underlying (ρ.t 0)=some (TypeDesc.tuple #[])
 a0:∀w,(isAgg (ρ.t 0)).run P w=.ok false w
 z0:∀w,(qE (ρ.t 0)).run P w=.ok 1 w
 v0:∀w,(zeroValue (ρ.t 0)).run P w=.ok (Value.tuple #[]) w
 t3:P.underlying (ρ.t 3)=some (TypeDesc.int IntKind.i64)
 a3:∀w,(isAgg (ρ.t 3)).run P w=.ok false w
 z3:∀w,(qE (ρ.t 3)).run P w=.ok 1 w
 v3:∀w,(zeroValue (ρ.t 3)).run P w=.ok (Value.int IntKind.i64 0) w
 t4:P.underlying (ρ.t 4)=some (TypeDesc.bool)
 a4:∀w,(isAgg (ρ.t 4)).run P w=.ok false w
 z4:∀w,(qE (ρ.t 4)).run P w=.ok 1 w
 v4:∀w,(zeroValue (ρ.t 4)).run P w=.ok (Value.bool false) w
 t24:P.underlying (ρ.t 24)=some (TypeDesc.slice (ρ.t 9))
 a24:∀w,(isAgg (ρ.t 24)).run P w=.ok false w
 z24:∀w,(qE (ρ.t 24)).run P w=.ok 1 w
 v24:∀w,(zeroValue (ρ.t 24)).run P w=.ok (Value.slice none 0 0) w
theorem Vf{ops:Array Oper}{o:Oper}{a:Act}{w:World}{K:Act→World→Prop}{Q:Exit→Act→World→Prop}{E:Prop}
 (hg:o.guard=none) (d x:Operand) (dT sT:TypeId) (hop:o.op=Op.call { callee:=Callee.builtin Builtin.append,args:=#[d,x],argTypes:=#[dT,sT] })
 (v u:Value) (hd:a.eval d=v) (hx:a.eval x=u) {v':Value} {w':World} (hr:(Builtin.append_ #[dT,sT] o.type #[v,u]).run P w=.ok v' w') (hK:K (a.put o.dst v') w') :
 if Region.wanted o (yielded ops a.tmps)=true then Oper.wp P o a w K Q else E:=by
 have hw:Region.wanted o (yielded ops a.tmps)=true:=by simp[Region.wanted,hg]
 rw[if_pos hw]
 unfold Oper.wp
 simp[execOp,hop,resolve,invoke,builtin,hd,hx,hr,Result.andThen]
 exact hK
section
variable {s:Nat}
set_option maxHeartbeats 4000000 in
set_option maxRecDepth 100000 in
theorem zub(L:DelL P ρ)(hsz:vw P (ρ.t 9)=some s)(b off n c i:Nat)(w w1 w2:World)(hi:i<n)(hnc:n≤c)(hn63:n<4611686018427387904)(hci:¬(c=i+1))(r:Value)
 (hap:∀ty yc,(Builtin.append_ #[(ρ.t 24),(ρ.t 24)] ty #[.slice (some ⟨b,off,none⟩) i c,.slice (some ⟨b,off+(i+1)*s,none⟩) (n-(i+1)) yc]).run P w.drew=.ok (.slice (some ⟨b,off,none⟩) (n-1) c) w1)
 (hcl:∀ty yc,(Builtin.clear_ #[(ρ.t 24)] ty #[.slice (some ⟨b,off+(n-1)*s,none⟩) (n-(n-1)) yc]).run P w1=.ok r w2) :
 Calls P (ρ.f 24) #[.slice (some ⟨b,off,none⟩) n c,.int .i64 i,.int .i64 ((i:Int)+1)] w fun e w'=>e=.returned (.slice (some ⟨b,off,none⟩) (n-1) c)∧w'=w2:=by
 have t0:=L.t0;have a0:=L.a0;have z0:=L.z0;have v0:=L.v0;have t3:=L.t3;have a3:=L.a3;have z3:=L.z3;have v3:=L.v3;have t4:=L.t4;have a4:=L.a4;have z4:=L.z4;have v4:=L.v4;have t24:=L.t24;have a24:=L.a24;have z24:=L.z24;have v24:=L.v24
 have u0:=run_underlying L.t0;have u3:=run_underlying L.t3;have u4:=run_underlying L.t4;have u24:=run_underlying L.t24
 have z9:∀w,(qE (ρ.t 9)).run P w=.ok s w:=xm hsz
 have mixed:=L.mixed
 have hz2:¬((i:Int)=(i:Int)+1):=by omega
 have hb1:(0:Int)≤(i:Int)+1:=by omega
 have hin:i≤n:=by omega
 have htn:((i:Int)+1).toNat=i+1:=by omega
 have hb3:(i:Int)+1≤(n:Int):=by omega
 have hb5:(i:Int)+1≤(c:Int):=by omega
 have hcn1:¬(c=n-1):=by omega
 have hic:i≤c:=by omega
 have hn1:n-1≤n:=by omega
 obtain⟨nm,hf24⟩:=L.f24
 go_enter hf24,Body2.n24_ntmps ρ
 go_wp2
 go_region_law_o (refine Vf rfl _ _ (ρ.t 24) (ρ.t 24) rfl _ _ (by simp[Act.eval,Act.put]) (by simp[Act.eval,Act.put]) (hap _ (c-(i+1))) ?_)
 go_wp2
 go_ret
 exact⟨rfl,rfl⟩
set_option maxHeartbeats 4000000 in
set_option maxRecDepth 100000 in
theorem z86(L:DelL P ρ)(hsz:vw P (ρ.t 9)=some s)(b off i:Nat)(w w2:World)(hn63:i<4611686018427387904)(r:Value)
 (hap:∀ty,(Builtin.append_ #[(ρ.t 24),(ρ.t 24)] ty #[.slice (some ⟨b,off,none⟩) i (i+1),.slice (some ⟨b,off,none⟩) 0 0]).run P w.drew=.ok (.slice (some ⟨b,off,none⟩) i (i+1)) w.drew)
 (hcl:∀ty yc,(Builtin.clear_ #[(ρ.t 24)] ty #[.slice (some ⟨b,off+i*s,none⟩) 1 yc]).run P w.drew=.ok r w2) :
 Calls P (ρ.f 24) #[.slice (some ⟨b,off,none⟩) (i+1) (i+1),.int .i64 i,.int .i64 ((i:Int)+1)] w fun e w'=>e=.returned (.slice (some ⟨b,off,none⟩) i (i+1))∧w'=w2:=by
 have t0:=L.t0;have a0:=L.a0;have z0:=L.z0;have v0:=L.v0;have t3:=L.t3;have a3:=L.a3;have z3:=L.z3;have v3:=L.v3;have t4:=L.t4;have a4:=L.a4;have z4:=L.z4;have v4:=L.v4;have t24:=L.t24;have a24:=L.a24;have z24:=L.z24;have v24:=L.v24
 have u0:=run_underlying L.t0;have u3:=run_underlying L.t3;have u4:=run_underlying L.t4;have u24:=run_underlying L.t24
 have z9:∀w,(qE (ρ.t 9)).run P w=.ok s w:=xm hsz
 have mixed:=L.mixed
 have hz2:¬((i:Int)=(i:Int)+1):=by omega
 have hb1:(0:Int)≤(i:Int)+1:=by omega
 have hin:i≤i+1:=by omega
 have htn:((i:Int)+1).toNat=i+1:=by omega
 have hle:(i:Int)≤(i:Int)+1:=by omega
 obtain⟨nm,hf24⟩:=L.f24
 go_enter hf24,Body2.n24_ntmps ρ
 go_wp2
 go_region_law_o (refine Vf rfl _ _ (ρ.t 24) (ρ.t 24) rfl _ _ (by simp[Act.eval,Act.put]) (by simp[Act.eval,Act.put]) (hap _) ?_)
 go_wp2
 go_ret
 exact⟨rfl,rfl⟩
theorem znu{t u c rt:TypeId}{z:Nat}(ht:P.underlying t=some (.slice c))(hu:P.underlying u=some (.slice c))(hsz:vw P c=some z)(w w':World)(b o len cap m:Nat)(h:len+m≤cap){vy:Value}{a2:Array Value}
 (hly:(Builtin.lenOf vy).run P w=.ok m w) (f2:(Builtin.firstCells z m vy).run P w=.ok a2 w) (hst:(storeCells ⟨b,o+len*z,none⟩ a2.toList 0).run P w=.ok () w') :
 (Builtin.append_ #[t,u] rt #[.slice (some ⟨b,o,none⟩) len cap,vy]).run P w=.ok (.slice (some ⟨b,o,none⟩) (len+m) cap) w':=by
 unfold Builtin.append_
 simp only[List.getElem?_toArray,pT,List.getElem?_cons_succ,qB,zd ht,zd hu,pY,xm hsz,Sem.run_pure,hly,qD,if_false,Bool.not_false,if_true]
 rw[if_pos h]
 simp only[qB,f2,pY,k9,hst,Sem.run_pure]
theorem zi6{t u c rt:TypeId}{z:Nat}(ht:P.underlying t=some (.slice c))(hu:P.underlying u=some (.slice c))(hsz:vw P c=some z)(w w':World)(b o len cap m:Nat)(h:len+m≤cap)(yb:Option Addr)(yc:Nat){a2:Array Value}
 (hf:(Builtin.firstCells z m (.slice yb m yc)).run P w=.ok a2 w) (hst:(storeCells ⟨b,o+len*z,none⟩ a2.toList 0).run P w=.ok () w') :
 (Builtin.append_ #[t,u] rt #[.slice (some ⟨b,o,none⟩) len cap,.slice yb m yc]).run P w=.ok (.slice (some ⟨b,o,none⟩) (len+m) cap) w':=
 znu ht hu hsz w w' b o len cap m h rfl hf hst
theorem zpq{t c:TypeId}{zs:List AVal}(ht:P.underlying t=some (.slice c))(hz:vr P c=some zs)(hzs:zs.length=s){w:World}{b o:Nat}(h1:∀j,j<s→∃u,w.cell? ⟨b,o+j,none⟩=some u)(h2:∀j,j<s→w.frozen? ⟨b,o+j,none⟩=false) :
 ∃w',(∀ty yc,(Builtin.clear_ #[t] ty #[.slice (some ⟨b,o,none⟩) 1 yc]).run P w=.ok (.tuple #[]) w')∧Chg w w' (fun b' k=>b'=b∧o≤k∧k<o+s):=by
 obtain⟨zv,zi,hzi,_,hzl,hzv,hzr⟩:=Zu (I:=fun _ _=>False) (β:=fun _=>none) (n:=0) (w:=w) hz
 have hzc:zv.cells.size=s:=by have:=hzr.1;omega
 have hl:(Builtin.zeroCells zv.cells 1).toList.length=s:=by simp[Builtin.zeroCells,hzc]
 obtain⟨w',g1,g2,_,_⟩:=Zw (P:=P) (vs:=(Builtin.zeroCells zv.cells 1).toList) (w:=w) (b:=b) (o:=o) (by rw[hl];exact h1) (by rw[hl];exact h2) (fun v hv=>by
  simp only[Builtin.zeroCells,Array.toList_map,pE] at hv
  obtain⟨k,hk,rfl⟩:=hv
  have hk':k<1*zv.cells.size:=by simpa using hk
  have hm:k % zv.cells.size<zv.cells.size:=Nat.mod_lt _ (by omega)
  rw[getElem!_pos zv.cells (k % zv.cells.size) hm]
  exact hzr.2.1 _ (by simp))
 rw[hl] at g2
 refine⟨w',fun ty yc=>?_,g2⟩
 have g1':(storeCells ⟨b,o,none⟩ (Builtin.zeroCells zv.cells 1).toList).run P w=.ok () w':=g1
 unfold Builtin.clear_
 simp only[List.getElem?_toArray,pT,qB,zd ht,pY,hzv,g1',Sem.run_pure]
end
section
variable {s b:Nat} {zs:List AVal}
theorem zju(L:DelL P ρ)(hz:vr P (ρ.t 9)=some zs)(hsz:vw P (ρ.t 9)=some s)(hs:0<s)(hzs:zs.length=s)(hok:Xk P (ρ.f 24)){f:FuncId}(hf:ρ.f 24=f){es:List (List AVal)}{i:Nat}(hi:i<es.length)(hbig:es.length<4611686018427387904)(fl:Bool) :
 ACalls P f [.msl (0,0) s 0 es.length fl,.int .i64 i,.int .i64 ((i:Int)+1)] [((0,0),.rows s es)] 3 (Ze 4 (.msl (3,0) s 0 (es.length-1) false) [((3,0),.rows s (es.take i++es.drop (i+1)))]):=by
 subst hf
 refine⟨hok,fun I β w vs hI hlen hr=>?_⟩
 match vs,hlen with
 |[v0,v1,v2],_=>
 have hr0:=hr 0 _ _ rfl rfl
 have hr1:=hr 1 _ _ rfl rfl
 have hr2:=hr 2 _ _ rfl rfl
 have hv1:v1=.int .i64 i:=by cases hr1 with|imm _ _ h=>cases h;rfl
 have hv2:v2=.int .i64 ((i:Int)+1):=by cases hr2 with|imm _ _ h=>cases h;rfl
 subst hv1
 subst hv2
 obtain⟨c,hc,hcs,hA,h3,h4,h5,h6,h7⟩:=hI.blocks (0,0) _ rfl
 obtain⟨a,cap,rfl,q1,q2,q3⟩:∃a cap,v0=.slice a es.length cap∧(es.length≤cap∧(a=none→cap=0))∧(fl=true→cap=es.length)∧(∀c,β (0,0)=some c→c.s=s∧(cap≠0→a=some ⟨c.blk,c.base+0*s,none⟩∧c.base+(0+cap)*s≤c.size)):=by
  cases hr0 with
  |imm _ _ h=>cases h
  |msl _ _ _ _ _ a cap _ g1 g2 g3=>exact⟨a,cap,rfl,g1,g2,g3⟩
 show Calls P (ρ.f 24) #[.slice a es.length cap,.int .i64 i,.int .i64 ((i:Int)+1)] w _
 obtain⟨q31,q32⟩:=q3 c hc
 obtain⟨rfl,hcsz⟩:=q32 (by omega)
 rw[Nat.zero_add] at hcsz
 rw[Nat.zero_mul,Nat.add_zero] at hr0 ⊢
 obtain⟨hId,hXd⟩:=zw1 hI
 have hcap:es.length*s≤cap*s:=qA _ q1.1
 have hrest:(es.length-(i+1))*s+(i+1)*s=es.length*s:=by rw[←Nat.add_mul];congr 1;omega
 have hstep:(i+1)*s=i*s+s:=Nat.succ_mul i s
 have hlast:(es.length-1)*s+s=es.length*s:=by rw[←Nat.succ_mul];congr 1;omega
 have hmid:i*s+(es.length-(i+1))*s=(es.length-1)*s:=by rw[←Nat.add_mul];congr 1;omega
 obtain⟨arr,el,fr,p1,p2,p3⟩:∃arr el fr,w.heap[c.blk]?=some (.cells arr el fr)∧c.size≤arr.size∧(c.lo<c.size→c.lo=0∧c.size=arr.size∧EndOk c.s arr fr):=by
  rcases hA with hA|⟨_,z2,z3⟩
  ·exact hA
  ·rw[z3] at hi;simp at hi
 have hcellw:∀k,k<c.size→∃u,w.drew.cell? ⟨c.blk,k,none⟩=some u:=fun k hk=>by
  have hlt:k<arr.size:=by omega
  exact⟨arr[k],by show w.cell? _=_;unfold World.cell?;simp[p1,hlt]⟩
 have hfrw:∀k,c.lo≤k→k<c.size→w.drew.frozen? ⟨c.blk,k,none⟩=false:=h3
 -- the rows behind the element, read at w.drew
 have hx2:Rep I β 3 w.drew (.msl (0,0) s (i+1) (es.length-(i+1)) false) (.slice (if cap=i+1 then some ⟨c.blk,c.base,none⟩ else some ⟨c.blk,c.base+(i+1)*s,none⟩) (es.length-(i+1)) (cap-(i+1))):=by
  refine .msl _ _ _ _ _ _ _ (by decide) ⟨by omega,fun h=>by split at h<;>cases h⟩ nofun fun d hd=>?_
  rw[hc] at hd
  simp only[p0] at hd
  subst hd
  exact⟨q31,fun hne=>⟨by rw[if_neg (by omega)],by rw[show i+1+(cap-(i+1))=cap by omega];exact hcsz⟩⟩
 obtain⟨_,hread⟩:=Y4 (P:=P) hId hs hx2 (p:=s=s∧s=s∧i+1+(es.length-(i+1))≤es.length) (rows:=(es.drop (i+1)).take (es.length-(i+1))) rfl ⟨rfl,rfl,by omega⟩
 have hdt:(es.drop (i+1)).take (es.length-(i+1))=es.drop (i+1):=qF (by simp)
 rw[hdt] at hread
 obtain⟨a2,f2,f2s,f2c,f2r,_⟩:=hread (es.length-(i+1)) (by simp)
 rw[qF (by simp)] at f2r
 obtain⟨w1,t1,t2,_,t4⟩:=Zw (P:=P) (vs:=a2.toList) (w:=w.drew) (b:=c.blk) (o:=c.base+i*s)
  (fun j hj=>by simp only[qC,f2s] at hj;exact hcellw _ (by omega))
  (fun j hj=>by simp only[qC,f2s] at hj;exact hfrw _ (by omega) (by omega)) f2c
 simp only[qC,f2s] at t2 t4
 have hblk:c.blk<w.drew.heap.size:=by
  rcases Nat.lt_or_ge c.blk w.heap.size with h|h
  ·exact h
  ·rw[Array.getElem?_eq_none h] at p1;cases p1
 have hcell1:∀k,k<c.size→∃u,w1.cell? ⟨c.blk,k,none⟩=some u:=fun k hk=>by
  by_cases hin:c.base+i*s≤k∧k<c.base+i*s+(es.length-(i+1))*s
  ·have:=t4 (k-(c.base+i*s)) (by omega)
   rw[show c.base+i*s+(k-(c.base+i*s))=k by omega] at this
   rw[this]
   exact⟨a2.toList[k-(c.base+i*s)]'(by simp only[qC,f2s];omega),pC _⟩
  ·obtain⟨u,hu⟩:=hcellw k hk
   exact⟨u,(t2.cell c.blk k hblk (fun h=>hin ⟨h.2.1,h.2.2⟩)).trans hu⟩
 have hfr1:∀k,c.lo≤k→k<c.size→w1.frozen? ⟨c.blk,k,none⟩=false:=fun k hk1 hk2=>by
  obtain⟨u,hu⟩:=hcellw k hk2
  rw[t2.frozen hu]
  exact hfrw k hk1 hk2
 obtain⟨w2,u1,u2⟩:=zpq (P:=P) (s:=s) (w:=w1) (b:=c.blk) (o:=c.base+(es.length-1)*s) L.t24 hz hzs (fun j hj=>hcell1 _ (by omega)) (fun j hj=>hfr1 _ (by omega) (by omega))
 have hch:Chg w.drew w2 c.has:=(t2.mono (fun b k h=>by obtain⟨rfl,g1,g2⟩:=h;exact⟨rfl,by omega,by omega⟩)).trans (u2.mono (fun b k h=>by obtain⟨rfl,g1,g2⟩:=h;exact⟨rfl,by omega,by omega⟩))
 have hblk1:c.blk<w1.heap.size:=Nat.lt_of_lt_of_le hblk t2.size
 have hlen':(es.take i++es.drop (i+1)).length=es.length-1:=by simp;omega
 obtain⟨I',z1,z2⟩:=z80 hId (off:=0) (es':=es.take i++es.drop (i+1)) rfl hc hch (fun he=>by rw[he] at hi;simp at hi) (by rw[hlen'];omega)
  (fun q r hq=>by
   rw[q9] at hq
   split at hq
   ·rw[List.getElem?_take] at hq;split at hq
    ·exact h6 _ r hq
    ·cases hq
   ·rw[List.getElem?_drop] at hq;exact h6 _ r hq)
  (fun q r j x hq hj=>by
   rw[Nat.zero_mul,Nat.add_zero]
   have hqr:r.length=s∧q<es.length-1:=by
    refine⟨?_,by rw[←hlen'];exact(List.getElem?_eq_some_iff.1 hq).1⟩
    rw[q9] at hq
    split at hq
    ·rw[List.getElem?_take] at hq;split at hq
     ·exact h6 _ r hq
     ·cases hq
    ·rw[List.getElem?_drop] at hq;exact h6 _ r hq
   have hjs:j<s:=by have:=(List.getElem?_eq_some_iff.1 hj).1;omega
   have hqs:q*s+s≤(es.length-1)*s:=by rw[←Nat.succ_mul];exact qA _ hqr.2
   have hout2:w2.cell? ⟨c.blk,c.base+q*s+j,none⟩=w1.cell? ⟨c.blk,c.base+q*s+j,none⟩:=u2.cell _ _ hblk1 (fun h=>by omega)
   rw[q9] at hq
   split at hq
   ·rename_i hlt
    rw[List.length_take] at hlt
    rw[List.getElem?_take] at hq
    split at hq
    ·rename_i hq1
     obtain⟨v,g1,g2,g3⟩:=h7 q r j x hq hj
     have hqi:q*s+s≤i*s:=by rw[←Nat.succ_mul];exact qA _ hq1
     exact⟨v,by rw[hout2,t2.cell _ _ hblk (fun h=>by omega)];exact g1,g2,g3.mono hXd hI⟩
    ·cases hq
   ·rename_i hge
    rw[List.length_take] at hge
    have hq':q-min i es.length=q-i:=by omega
    rw[List.length_take,hq'] at hq
    obtain⟨v,g1,g2,g3⟩:=f2r.2.2 _ r j x hq hj
    rw[Nat.zero_add] at g1
    have hlt2:q-i<es.length-(i+1):=by omega
    have hpos:(q-i)*s+j<(es.length-(i+1))*s:=by
     have:(q-i)*s+s≤(es.length-(i+1))*s:=by rw[←Nat.succ_mul];exact qA _ hlt2
     omega
    have:=t4 ((q-i)*s+j) hpos
    rw[Array.getElem?_toList,g1] at this
    refine⟨v,?_,g2,g3⟩
    rw[hout2,←this]
    have e:q*s=i*s+(q-i)*s:=by rw[←Nat.add_mul];congr 1;omega
    congr 2
    omega)
 rw[Nat.zero_mul,Nat.add_zero] at z1 z2
 have hfin:∀ (e:Ending) w',(e=.returned (.slice (some ⟨c.blk,c.base,none⟩) (es.length-1) cap)∧w'=w2)→∃r v' H' n' I' β',e=.returned v'∧Ze 4 (.msl (3,0) s 0 (es.length-1) false) [((3,0),.rows s (es.take i++es.drop (i+1)))] r H' n'∧Inv I' β' n' H' w'∧Rep I' β' n' w' r v'∧Ext I β 3 [((0,0),.rows s es)] w I' β' n' H' w':=by
  rintro e w' ⟨rfl,rfl⟩
  refine⟨_,_,_,_,I',_,rfl,⟨rfl,rfl,rfl⟩,z1,?_,hXd.trans z2⟩
  refine .msl _ _ _ _ _ _ _ (by decide) ⟨by omega,nofun⟩ nofun fun d hd=>?_
  rw[we] at hd
  simp only[p0] at hd
  subst hd
  exact⟨rfl,fun _=>⟨by simp,by simpa using hcsz⟩⟩
 have hsub:es.length-(es.length-1)=1:=by omega
 by_cases hci:cap=i+1
 ·have hle:es.length=i+1:=by omega
  have hm0:es.length-(i+1)=0:=by omega
  rw[if_pos hci,hm0] at f2
  rw[hm0,Nat.zero_mul] at f2s
  have ha2:a2=#[]:=Array.size_eq_zero_iff.1 f2s
  subst ha2
  have hw1:w1=w.drew:=by
   have:(Result.ok () w.drew:Result Unit)=.ok () w1:=t1
   cases this;rfl
  subst hw1
  have hl1:es.length-1=i:=by omega
  have hap:∀ty,(Builtin.append_ #[(ρ.t 24),(ρ.t 24)] ty #[.slice (some ⟨c.blk,c.base,none⟩) i (i+1),.slice (some ⟨c.blk,c.base,none⟩) 0 0]).run P w.drew=.ok (.slice (some ⟨c.blk,c.base,none⟩) i (i+1)) w.drew:=fun ty=>
   zi6 (rt:=ty) L.t24 L.t24 hsz w.drew w.drew c.blk c.base i (i+1) 0 (by omega) _ 0 (a2:=#[]) (by
    have e:cap-(i+1)=0:=by omega
    rw[e] at f2
    exact f2) rfl
  have hC:=z86 L hsz c.blk c.base i w w2 (by omega) (.tuple #[]) hap (fun ty yc=>by rw[hl1] at u1;exact u1 ty yc)
  rw[hle,hci]
  refine hC.mono fun e w' h=>?_
  have:=hfin e w' (by rw[hl1,hci];exact h)
  rw[hle] at this
  exact this
 ·rw[if_neg hci] at f2
  have hC:=zub L hsz c.blk c.base es.length cap i w w1 w2 hi q1.1 hbig hci (.tuple #[]) (fun ty yc=>by
   have h:=zi6 (rt:=ty) L.t24 L.t24 hsz w.drew w1 c.blk c.base i cap (es.length-(i+1)) (by omega) (some ⟨c.blk,c.base+(i+1)*s,none⟩) yc (a2:=a2) f2 t1
   rw[show i+(es.length-(i+1))=es.length-1 by omega] at h
   exact h) (fun ty yc=>by rw[hsub];exact u1 ty yc)
  exact hC.mono hfin
end
end Go.Fx
namespace Go.Fx
open Go.Shelf Go.Proofs
variable {P:Program} {ρ:Ren} {α:Type}
def y2w(b:Nat)(l:List α)(i:Int)(vs:List α):Option (List α):=match vs with
 |[x]=>if 0≤i∧i.toNat≤l.length∧(l.length+1)*b≤140737488355328 then some (l.take i.toNat++x::l.drop i.toNat) else none
 |_=>none
def y0s(l:List α)(i j:Int):Option (List α):=if 0≤i∧j=i+1∧i.toNat<l.length∧l.length<4611686018427387904 then some (l.take i.toNat++l.drop (i.toNat+1)) else none
theorem zf7{s:Nat}{zs:List AVal}(e:α→List AVal)(L:DelL P ρ)(hz:vr P (ρ.t 9)=some zs)(hsz:vw P (ρ.t 9)=some s)(hs:0<s)(hzs:zs.length=s)(hok:Xk P (ρ.f 24)){f:FuncId}(hf:ρ.f 24=f)
 {l o:List α} {i j:Int} (h:y0s l i j=some o) (fl:Bool) :
 ACalls P f [.msl (0,0) s 0 l.length fl,.int .i64 i,.int .i64 j] [((0,0),.rows s (l.map e))] 3 (Ze 4 (.msl (3,0) s 0 o.length false) [((3,0),.rows s (o.map e))]):=by
 unfold y0s at h
 split at h
 ·rename_i hc
  obtain⟨h1,rfl,h2,h3⟩:=hc
  simp only[p0] at h
  subst h
  obtain⟨k,rfl⟩:=Int.eq_ofNat_of_zero_le h1
  have:=zju L hz hsz hs hzs hok hf (es:=l.map e) (i:=k) (by simpa using h2) (by simpa using h3) fl
  have e1:(l.take k++l.drop (k+1)).length=l.length-1:=by
   have:k<l.length:=by simpa using h2
   simp;omega
  simp only[Int.toNat_natCast,e1]
  simpa only[List.map_append,pR,List.map_take,List.map_drop,pO,List.map_nil] using this
 ·cases h
def zye(b:Nat)(l:List α):Option (List α):=if l.length*b≤140737488355328 then some l else none
end Go.Fx
namespace Go.Fx
open Go
def rcA:LCode:=.region [⟨some 2,.mv (.c (.val (.slice none 0 0))),none⟩]
def rcB(s b:Nat):LCode:=.region [⟨some 3,.mv (.t 0),none⟩,⟨some 4,.app false s b (.c (.val (.slice none 0 0))) (.t 3),none⟩,⟨some 2,.mv (.t 4),none⟩]
def rcL(s b:Nat):LFn:=⟨1,⟨5,[4],false⟩,.seq rcA (.seq (rcB s b) .ret),[.t 2]⟩
theorem z6r{P:Program}{α:Type}{f:FuncId}{s b:Nat}(e:α→List AVal)(he:∀x,AVal.nid.nidL (e x)=true)(hL:Zb P [4] f=some (rcL s b))(hok:Xk P f){l o:List α}(h:zye b l=some o)(fv:Bool) :
 ACalls P f [.isl s (l.map e) fv] [] 3 (Ze 4 (.msl (3,0) s 0 o.length false) [((3,0),.rows s (o.map e))]):=by
 unfold zye at h
 split at h
 case isFalse=>cases h
 rename_i hc
 simp only[p0] at h
 subst h
 refine Zr (L:=rcL s b) hL hok (p9 rfl) ?_
 by_cases h0:l=[]
 ·subst h0
  refine LWp.ghost s ?_
  exact uq _ _ _ _ _ ⟨trivial,trivial,trivial,trivial,rfl,fun _=>⟨trivial,trivial,z1f (n':=4) [((3,0),(3,0))] [] rfl rfl (Vw.nilM _ _ _ _ _ _ rfl rfl) (And.intro (And.intro rfl (BVw.enc e he _ [])) trivial)⟩,fun h=>absurd rfl h⟩
 ·refine uq _ _ _ _ _ ⟨trivial,trivial,trivial,trivial,rfl,fun hx=>absurd (List.map_eq_nil_iff.1 hx) h0,fun h=>⟨by rw[pO];exact hc,trivial,trivial,z1f (n':=4) [((3,0),(3,0))] [] rfl rfl (Vw.mslE rfl (by rw[pO]) rfl) (And.intro (And.intro rfl (BVw.enc e he _ l)) trivial)⟩⟩
theorem PFn.readR{P:Program}{f:FuncId}{args args0:List AVal}{R:AVal}(h:PFn P f args0 R)(hR:∀ {I I2:Nat→Nat→Prop} {β β2:Id→Option CLoc} {n n2:Nat} {w w2:World} {v:Value},Rep I β n w R v→Rep I2 β2 n2 w2 R v)(B:Id→Bool){H:AHeap}{n:Nat}{K:AVal→AHeap→Nat→Prop}(ha:ArgsTo B H (fun _=>none) 0 args args0)(hk:K R H n):ACalls P f args H n K:=by
 obtain⟨_,m,h⟩:=h
 refine⟨h.1,fun I β w vs hI hl hr=>?_⟩
 obtain⟨ha1,ha2⟩:=ha.get
 refine(h.2 _ _ w vs (hI.give (F:=B)) (by rw[hl,ha1]) (fun i y v hy hv=>?_)).mono ?_
 ·have hlt:i<args.length:=by rw[ha1];exact Wj hy
  exact zf2 hI (ha2 i args[i] y (pC hlt) hy) (hr i _ v (pC hlt) hv)
 ·rintro ee w' ⟨r,v,H1,n1,I',β',he,⟨rfl,rfl,rfl⟩,hI',hr',hx⟩
  have hcell:∀b q u,w.cell? ⟨b,q,none⟩=some u→w'.cell? ⟨b,q,none⟩=some u:=fun b q u hu=>hx.cells b q u hu (fun i c hi=>by cases hi)
  have hcI:∀b q,I b q→w'.cell? ⟨b,q,none⟩=w.cell? ⟨b,q,none⟩:=fun b q hb=>by
   obtain⟨u,hu⟩:=hI.imm b q hb
   rw[hu];exact hcell b q u hu
  refine⟨r,v,H,n,I,β,he,hk,?_,hR hr',?_⟩
  ·refine⟨fun id blk hb=>?_,hI.inj,fun i c b q hi hc=>⟨(hI.own i c b q hi hc).1,Nat.lt_of_lt_of_le (hI.own i c b q hi hc).2 hx.size⟩,fun b q hb=>by rw[hcI b q hb];exact hI.imm b q hb,hI.fresh,hI.glob.mono (fun _ _ h=>h) hcI (fun b arr el fr h=>by obtain⟨arr',fr',k1,k2,_⟩:=hx.shape b arr el fr h;exact⟨arr',fr',k1,k2⟩)⟩
   obtain⟨c,hc,hB⟩:=hI.blocks id blk hb
   exact⟨c,hc,hB.mono' (fun _ _ h=>h) hcI (Nat.le_refl n) (fun _ _ _ h=>h) (fun arr el fr hh=>by
    obtain⟨arr',fr',k1,k2,k3⟩:=hx.shape _ arr el fr hh
    refine⟨arr',fr',k1,k2,k3.imp (fun h=>h) fun g k hk=>?_⟩
    obtain⟨i,d,e1,_⟩:=g k hk
    cases e1) (fun b q u _ hu=>hcell b q u hu) (fun es ck _ hm=>hx.maps _ es ck hm (fun i c hi=>by cases hi))⟩
  ·exact⟨hx.os,hx.tape,hx.output,hx.size,fun b hb _=>hx.frame b hb (fun i c q hi=>by cases hi),fun b q u hu _=>hcell b q u hu,fun b arr el fr hb=>(by
    obtain⟨arr',fr',k1,k2,k3⟩:=hx.shape b arr el fr hb
    refine⟨arr',fr',k1,k2,k3.imp (fun h=>h) fun g k hk=>?_⟩
    obtain⟨i,d,e1,_⟩:=g k hk
    cases e1),fun b es ck hm _=>hx.maps b es ck hm (fun i c hi=>by cases hi),fun _ _ h=>h,fun b q h h'=>absurd h h',fun j _=>.inl rfl,fun j c b q hj hc=>(by rw[hI.fresh j hj] at hc;cases hc),fun j _ h=>h,Nat.le_refl n⟩
theorem z9h{s:Nat}{I I2:Nat→Nat→Prop}{β β2:Id→Option CLoc}{n n2:Nat}{w w2:World}{v:Value}(h:Rep I β n w (.isl s [] false) v):Rep I2 β2 n2 w2 (.isl s [] false) v:=by
 cases h with
 |imm _ _ h=>
  cases h with
  |islNil=>exact .imm _ _ (.islNil _ _)
  |islEmpty _ _ a cap _=>exact .imm _ _ (.islEmpty _ _ _ _ nofun)
  |isl _ _ _ b o cap=>exact .imm _ _ (.islEmpty _ _ _ _ nofun)
theorem z78{P:Program}{f:FuncId}{s:Nat}(hn:PFn P f [.isl s [] false] (.isl s [] false)):ACalls P f [.msl (0,0) s 0 0 false] [((0,0),.rows s [])] 3 (Ze 3 (.isl s [] false) [((0,0),.rows s [])]):=
 PFn.readR hn z9h (fun _=>true) ⟨Vw.frzB (l:=([]:List Unit)) (fun _=>[]) (fun _=>⟨rfl,fun y h=>by cases h⟩) (fun h=>h) rfl rfl rfl,trivial⟩ ⟨rfl,rfl,rfl⟩
end Go.Fx
namespace Go.Fx
open Go.Shelf Go.RowKit Go.Lib Go.Sort Go.Proofs
def y2r:AVal→Value
 |.bool b=>.bool b
 |.int k n=>.int k n
 |.str l=>.string ⟨⟨l⟩⟩
 |_=>.nilFunc
def y1z:AVal→Bool
 |.bool _=>true
 |.int _ _=>true
 |.str _=>true
 |_=>false
section
variable {I:Nat→Nat→Prop} {β:Id→Option CLoc} {n:Nat} {H:AHeap} {w w':World}
end
end Go.Fx
namespace Go.Fx
universe u
theorem TT:True:=True.intro
theorem AI{a b:Prop}(x:a)(y:b):a∧b:=⟨x,y⟩
theorem VS{F:Id→Bool}{H:AHeap}{ρ:Id→Option Id}{n:Nat}{x:AVal}(h:x.nid=true):Vw F H ρ n x x:=.same x h
theorem NB{a b:Nat}(h:pK a b=true):a≤b:=p9 h
theorem SR{P:Program}{N:Lay}{n0:Nat}{ops:List LOper}{b:LCode}{Q:Exit→Env→AHeap→Nat→Prop}{e:Env}{H:AHeap}{n:Nat}(h:zqk P ops (uw P N n0 b Q .normal) e H n):LWp P N n0 (.seq (.region ops) b) Q e H n:=xn (Y6 h)
theorem HP{p q:Prop}(h:q):(p→p)∧q:=⟨fun x=>x,h⟩
theorem HB{c:Bool}{q:Prop}(h:q):(c=true→(c==true)=true)∧q:=⟨bqt,h⟩
theorem EX{α:Sort u}{p:α→Prop}(w:α)(h:p w):Exists p:=⟨w,h⟩
theorem S2{F:Id→Bool}{H:AHeap}{ρ:Id→Option Id}{n:Nat}{a b:AVal}{R:Prop}(h1:a.nid=true)(h2:b.nid=true)(r:R):Vw F H ρ n a a∧Vw F H ρ n b b∧R:=⟨VS h1,VS h2,r⟩
theorem S4{F:Id→Bool}{H:AHeap}{ρ:Id→Option Id}{n:Nat}{a b c d:AVal}{R:Prop}(h1:a.nid=true)(h2:b.nid=true)(h3:c.nid=true)(h4:d.nid=true)(r:R):Vw F H ρ n a a∧Vw F H ρ n b b∧Vw F H ρ n c c∧Vw F H ρ n d d∧R:=⟨VS h1,VS h2,VS h3,VS h4,r⟩
theorem SP{F:Id→Bool}{H:AHeap}{ρ:Id→Option Id}{n:Nat}{b b':Id}{i o:Nat}{R:Prop}(h:ρ b'=some b)(r:R):Vw F H ρ n (.ptr b i o) (.ptr b' i o)∧R:=⟨.ptr _ _ _ _ h,r⟩
theorem VL{F:Id→Bool}{H:AHeap}{ρ:Id→Option Id}{n:Nat}:∀ {l:List AVal},AVal.nid.nidL l=true→VwL F H ρ n l l
 |[],_=>trivial
 |x::l,h=>by
  simp only[AVal.nid.nidL,pA] at h
  exact⟨VS h.1,VL h.2⟩
theorem OL{F:Id→Bool}{H:AHeap}{ρ:Id→Option Id}{n:Nat}{l:List AVal}(h:AVal.nid.nidL l=true):BVw F H ρ n (.one l) (.one l):=BVw.oneL (VL h)
abbrev Qo(d:Nat)(o:LOp):LOper:=⟨some d,o,none⟩
abbrev Qg(d:Nat)(o:LOp)(g:Nat×Bool):LOper:=⟨some d,o,some g⟩
abbrev Qm(d s:Nat):LOper:=⟨some d,.mv (.t s),none⟩
abbrev Qn(d s:Nat)(g:Nat×Bool):LOper:=⟨some d,.mv (.t s),some g⟩
abbrev Qf(d k s:Nat):LOper:=⟨some d,.faddr k (.t s),none⟩
abbrev Qe(d k s:Nat)(g:Nat×Bool):LOper:=⟨some d,.faddr k (.t s),some g⟩
abbrev Ql(d n s:Nat):LOper:=⟨some d,.load false n (.t s),none⟩
abbrev Qk(d n s:Nat)(g:Nat×Bool):LOper:=⟨some d,.load false n (.t s),some g⟩
abbrev Qt(d n s:Nat):LOper:=⟨some d,.load true n (.t s),none⟩
abbrev Qp(d a b:Nat):LOper:=⟨some d,.pick (.t a) (.t b) (.c (.bool false)),none⟩
abbrev Qi(d:Nat)(n:Int):LOper:=⟨some d,.mv (.c (.int .i64 n)),none⟩
abbrev Qb(d:Nat):LOper:=⟨some d,.mv (.c (.bool false)),none⟩
abbrev Qc(d f s:Nat):LOper:=⟨some d,.call f [(.t s)],none⟩
abbrev i6(n:Int):AVal:=.int .i64 n
end Go.Fx
namespace Go.Fx
def inR(x:Int):Prop:=-9223372036854775808≤x∧x≤9223372036854775807
theorem zyv{x:Int}(h:inR x):W x=x:=z70 h.1 h.2
theorem zhl{σ ρ:Type}(b:σ→Option (σ ⊕ ρ))(s:σ):kw none b s=match b s with
 |none=>none
 |some (.inl s')=>kw none b s'
 |some (.inr r)=>some r:=zsw b s
theorem zw{σ ρ:Type}{b:σ→Option (σ ⊕ ρ)}{s s':σ}(h:b s=some (.inl s')):kw none b s=kw none b s':=by rw[zhl,h]
theorem zl{σ ρ:Type}{b:σ→Option (σ ⊕ ρ)}{s:σ}{x:Option ρ}(h:b s=x.map .inr):kw none b s=x:=by rw[zhl,h];cases x<;>rfl
end Go.Fx
