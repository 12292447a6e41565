/-
  Own framework.
-/
import Derived.Test.YtlilpmnmedmjaaaDoorFb
import Derived.Laws.Externs
import Derived.Tactics
import Derived.WalkKit
import Derived.ProofKit
import Derived.OpenShut
import Derived.SizedLaws
import Derived.Below
import Derived.Carry
import Derived.ChangeSame
import Derived.RangeFuncRecord
import Derived.RangeFuncIn
set_option linter.unusedVariables false
set_option linter.unusedSimpArgs false
open Array renaming getElem?_eq_none→pJ,getElem?_push→pS,getElem?_toList→qA
open Bool renaming and_eq_true→p9,false_eq_true→pM
open Classical renaming choose_spec→pN,choose→pT
open Go.DataW renaming trod→q9,weightsEach→qE
open List renaming all_eq_true→pD,mem_map→pF,map_congr_left→pG,getElem?_eq_getElem→pH,length_append→pL,contains_eq_any_beq→pO,getElem?_cons_zero→pR,mem_cons→pU,map_cons→pV,getElem?_eq_none→pY,mem_append→q6,getElem?_cons_succ→q7,getElem?_toArray→qB,getD_eq_getElem?_getD→qC,getElem?_map→qD,replicate→qF,map_map→qG,length_eq_zero_iff→qI
open Nat renaming beq→pA,eq_of_beq_eq_true→pB,le_of_ble_eq_true→pC,ble→pE,le_refl→pQ,ne_of_beq_eq_false→pW,lt_or_ge→pX
open Option renaming map_some→pZ,map_eq_some_iff→q8
open Option.some renaming injEq→p0
open Prod.mk renaming injEq→pK
open Go.Result renaming andThen_ok→pI
open Go.Sem renaming run_bind→pP,run_pure→qH
open Go.World renaming cell?→qJ
namespace Go.Fx
def Kv:Option Prop→Prop→Prop
 |none,q=>q
 |some p,q=>p∧q
def Jj:Option Prop→Option Prop→Option Prop
 |none,y=>y
 |some a,none=>some a
 |some a,some b=>some (a∧b)
def uy:Option Prop→Prop
 |none=>True
 |some p=>p
theorem wo(s:Option Prop)(q:Prop):Kv s q↔uy s∧q:=by cases s<;>simp[Kv,uy]
theorem wq(a b:Option Prop):uy (Jj a b)↔uy a∧uy b:=by cases a<;>cases b<;>simp[Jj,uy]
def AVal.needY:AVal→Option Prop
 |.cnd p _=>some (p=true)
 |_=>none
theorem zra(x:AVal):uy x.needY↔x.need:=by cases x<;>simp[AVal.needY,AVal.need,uy]
def LOpd.needY(e:Env):LOpd→Option Prop
 |.t i=>(e.get i).needY
 |.c _=>none
theorem zo(e:Env)(x:LOpd):uy (x.needY e)↔x.need e:=by
 cases x with
 |t i=>exact zra _
 |c v=>simp[LOpd.needY,LOpd.need,uy]
def Kw(e:Env):List LOpd→Option Prop
 |[]=>none
 |x::r=>Jj (x.needY e) (Kw e r)
theorem Qv(e:Env):∀l,uy (Kw e l)↔Wq e l
 |[]=>by simp[Kw,Wq,uy]
 |x::r=>by simp[Kw,Wq,wq,zo,Qv e r]
def z2l(e:Env):Option LOpd→Option Prop
 |none=>none
 |some x=>x.needY e
theorem J3(e:Env)(x:Option LOpd):uy (z2l e x)↔Q3 e x:=by
 cases x with
 |none=>simp[z2l,Q3,uy]
 |some x=>exact zo e x
def z8f(e:Env):List (Nat×Nat×LOpd)→Option Prop
 |[]=>none
 |(_,_,x)::r=>Jj (x.needY e) (z8f e r)
theorem z64(e:Env):∀l,uy (z8f e l)↔uj e l
 |[]=>by simp[z8f,uj,uy]
 |(_,_,x)::r=>by simp[z8f,uj,wq,zo,z64 e r]
def z50(e:Env):List (Nat×LOpd)→Option Prop
 |[]=>none
 |(_,x)::r=>Jj (x.needY e) (z50 e r)
theorem z09(e:Env):∀l,uy (z50 e l)↔Uo e l
 |[]=>by simp[z50,Uo,uy]
 |(_,x)::r=>by simp[z50,Uo,wq,zo,z09 e r]
def zqv:IntKind→IntKind→Bool
 |.i8,.i8|.i16,.i16|.i32,.i32|.i64,.i64|.u8,.u8|.u16,.u16|.u32,.u32|.u64,.u64=>true
 |_,_=>false
theorem z6q{a b:IntKind}(h:zqv a b=true):a=b:=by cases a<;>cases b<;>first|rfl|cases h
inductive YR where
 |ok (side:Option Prop) (v:AVal)
 |row (es:List (List AVal)) (i:Nat) (side:Prop) (f:List AVal→AVal)
 |pick (v:AVal) (side:Prop)
 |fork (j:Int) (len:Nat) (side:Option Prop) (f:Nat→AVal)
 |bad
def y0z(j:Int)(f:Nat→AVal)(K:AVal→Prop):Nat→Nat→Prop
 |0,_=>True
 |k+1,c=>(j=(c:Int)→K (f c))∧y0z j f K k (c+1)
def YR.run(r:YR)(K:AVal→Prop):Prop:=match r with
 |.ok s v=>Kv s (K v)
 |.row es i s f=>∃r,es.getD i []=r∧s∧K (f r)
 |.pick v0 s=>∃v,v0=v∧s∧K v
 |.fork j len s f=>Kv s ((0≤j∧j<(len:Int))∧y0z j f K len 0)
 |.bad=>False
def YR.runG(p:Bool)(r:YR)(K:AVal→Prop):Prop:=match r with
 |.ok none v=>K (.cnd p v)
 |.ok (some s) v=>(p=true→s)∧K (.cnd p v)
 |.row es i s f=>∃r,(p=true→es.getD i []=r∧s)∧K (.cnd p (f r))
 |.pick v0 s=>∃v,(p=true→v0=v∧s)∧K (.cnd p v)
 |_=>p=false∧K (.tup [])
def YR.and(s:Option Prop):YR→YR
 |.ok t v=>.ok (Jj s t) v
 |.row es i t f=>match s with
  |none=>.row es i t f
  |some p=>.row es i (p∧t) f
 |.pick v t=>match s with
  |none=>.pick v t
  |some p=>.pick v (p∧t)
 |.fork j len t f=>.fork j len (Jj s t) f
 |.bad=>.bad
def YR.Of(r:YR)(x:XR):Prop:=match r with
 |.ok s v=>∃side,x=.ok side v∧(uy s→side)
 |.row es i s f=>∃side,x=.ok side (f (es.getD i []))∧(s→side)
 |.pick v s=>∃side,x=.ok side v∧(s→side)
 |.fork j len s f=>∃side v,x=.ok side v∧∀c:Nat,c<len→j=(c:Int)→uy s→side∧v=f c
 |.bad=>True
theorem YR.Of.and{r:YR}{x:XR}{s:Option Prop}{p:Prop}(h:r.Of x)(hs:uy s→p):(r.and s).Of (x.and p):=by
 cases r with
 |bad=>trivial
 |ok t v=>
  obtain⟨side,rfl,h1⟩:=h
  exact⟨_,rfl,fun h=>by rw[wq] at h;exact⟨hs h.1,h1 h.2⟩⟩
 |row es i t f=>
  obtain⟨side,rfl,h1⟩:=h
  cases s with
  |none=>exact⟨_,rfl,fun h=>⟨hs trivial,h1 h⟩⟩
  |some q=>exact⟨_,rfl,fun h=>⟨hs h.1,h1 h.2⟩⟩
 |pick v t=>
  obtain⟨side,rfl,h1⟩:=h
  cases s with
  |none=>exact⟨_,rfl,fun h=>⟨hs trivial,h1 h⟩⟩
  |some q=>exact⟨_,rfl,fun h=>⟨hs h.1,h1 h.2⟩⟩
 |fork j len t f=>
  obtain⟨side,v,rfl,h1⟩:=h
  exact⟨_,v,rfl,fun c hc hj h=>by
   rw[wq] at h
   obtain⟨h2,h3⟩:=h1 c hc hj h.2
   exact⟨⟨hs h.1,h2⟩,h3⟩⟩
theorem za5{j:Int}{f:Nat→AVal}{K:AVal→Prop}:∀ {k c0:Nat},y0z j f K k c0→∀c,c0≤c→c<c0+k→j=(c:Int)→K (f c)
 |0,c0,_,c,h1,h2,_=>by omega
 |k+1,c0,h,c,h1,h2,h3=>by
  by_cases hc:c=c0
  ·subst hc;exact h.1 h3
  ·exact za5 h.2 c (by omega) (by omega) h3
theorem YR.Of.run{r:YR}{x:XR}(h:r.Of x){K:AVal→Prop}(hk:r.run K):∃side v,x=.ok side v∧side∧K v:=by
 cases r with
 |bad=>exact hk.elim
 |ok t v=>
  obtain⟨side,rfl,h1⟩:=h
  rw[YR.run,wo] at hk
  exact⟨_,_,rfl,h1 hk.1,hk.2⟩
 |row es i t f=>
  obtain⟨side,rfl,h1⟩:=h
  obtain⟨r,rfl,ht,hk⟩:=hk
  exact⟨_,_,rfl,h1 ht,hk⟩
 |pick v t=>
  obtain⟨side,rfl,h1⟩:=h
  obtain⟨r,rfl,ht,hk⟩:=hk
  exact⟨_,_,rfl,h1 ht,hk⟩
 |fork j len t f=>
  obtain⟨side,v,rfl,h1⟩:=h
  rw[YR.run,wo] at hk
  obtain⟨hs,⟨h2,h3⟩,h4⟩:=hk
  obtain⟨c,rfl⟩:=Int.eq_ofNat_of_zero_le h2
  obtain⟨g1,rfl⟩:=h1 c (by omega) rfl hs
  exact⟨_,_,rfl,g1,za5 h4 c (Nat.zero_le _) (by omega) rfl⟩
def y6h(op:BinOp):AVal→AVal→YR
 |.int k a,.int k' b=>match op with
  |.shl=>.ok (some (0≤b)) (.int k (k.wrap (a*2 ^ (min b.toNat k.bits))))
  |.shr=>.ok (some (0≤b)) (.int k (a.fdiv (2 ^ (min b.toNat k.bits))))
  |op=>match zqv k k' with
   |false=>.bad
   |true=>match op with
    |.add=>.ok none (.int k (k.wrap (a+b)))
    |.sub=>.ok none (.int k (k.wrap (a-b)))
    |.mul=>.ok none (.int k (k.wrap (a*b)))
    |.quo=>.ok (some (b≠0)) (.int k (k.wrap (a.tdiv b)))
    |.rem=>.ok (some (b≠0)) (.int k (a.tmod b))
    |.and=>.ok none (.int k (Kk .and k a b))
    |.or=>.ok none (.int k (Kk .or k a b))
    |.xor=>.ok none (.int k (Kk .xor k a b))
    |.andNot=>.ok none (.int k (Kk .andNot k a b))
    |.eql=>.ok none (.bool (a==b))
    |.neq=>.ok none (.bool (a != b))
    |.lss=>.ok none (.bool (decide (a<b)))
    |.leq=>.ok none (.bool (decide (a≤b)))
    |.gtr=>.ok none (.bool (decide (a > b)))
    |.geq=>.ok none (.bool (decide (a≥b)))
    |_=>.bad
 |.str a,.str b=>match op with
  |.add=>.ok (some (((a.length+b.length:Nat):Int)≤9223372036854775807)) (.str (a++b))
  |.eql=>.ok none (.bool (a==b))
  |.neq=>.ok none (.bool (!(a==b)))
  |.lss=>.ok none (.bool (Op.bytesLess a b))
  |.leq=>.ok none (.bool (Op.bytesLess a b || a==b))
  |.gtr=>.ok none (.bool (!(Op.bytesLess a b || a==b)))
  |.geq=>.ok none (.bool (!(Op.bytesLess a b)))
  |_=>.bad
 |_,_=>.bad
theorem y1y(op:BinOp)(x y:AVal):(y6h op x y).Of (zne op x y):=by
 cases x<;>cases y<;>simp only[y6h,zne]<;>try trivial
 case int.int k a k' b=>
  cases op<;>simp only<;>(try exact⟨_,rfl,fun h=>h⟩)<;>(cases hk:zqv k k'<;>simp only<;>(try trivial)<;>(have hk:=z6q hk;subst hk)) <;>
   first|exact⟨_,rfl,fun _=>rfl⟩|exact⟨_,rfl,fun h=>⟨rfl,h⟩⟩
 case str.str a b=>
  cases op<;>simp only<;>first|trivial|exact⟨_,rfl,fun _=>trivial⟩|exact⟨_,rfl,fun h=>h⟩
def XR.toY:XR→YR
 |.ok s v=>.ok (some s) v
 |.bad=>.bad
theorem XR.toY_of(x:XR):x.toY.Of x:=by
 cases x with
 |ok s v=>exact⟨s,rfl,fun h=>h⟩
 |bad=>trivial
def XR.toY0:XR→YR
 |.ok _ v=>.ok none v
 |.bad=>.bad
theorem XR.toY0_of{x:XR}(h:∀s v,x=.ok s v→s):x.toY0.Of x:=by
 cases x with
 |ok s v=>exact⟨s,rfl,fun _=>h s v rfl⟩
 |bad=>trivial
def y50:AVal→AVal→YR:=fun a b=>(zv0 a b).toY0
def z79:AVal→AVal→YR
 |.val (.slice none 0 0),.isl _ es _=>.ok (some (es≠[])) (.bool false)
 |.isl _ es _,.val (.slice none 0 0)=>.ok (some (es≠[])) (.bool false)
 |.val (.slice none 0 0),.msl _ _ _ len _=>.ok (some (len≠0)) (.bool false)
 |.msl _ _ _ len _,.val (.slice none 0 0)=>.ok (some (len≠0)) (.bool false)
 |a,b=>(z0a a b).toY0
theorem ze4(a b:AVal):(z79 a b).Of (z0a a b):=by
 unfold z79
 split
 ·exact⟨_,rfl,fun h=>h⟩
 ·exact⟨_,rfl,fun h=>h⟩
 ·exact⟨_,rfl,fun h=>h⟩
 ·exact⟨_,rfl,fun h=>h⟩
 ·rename_i h1 h2 h3 h4
  refine XR.toY0_of fun s v h=>?_
  unfold z0a at h
  split at h<;>simp only[XR.ok.injEq,reduceCtorEq] at h<;>(try (obtain⟨rfl,_⟩:=h;trivial))
  ·exact absurd rfl (h3 _ _ _ _ _ rfl)
  ·exact absurd rfl (h4 _ _ _ _ _ · rfl)
  ·exact absurd rfl (h1 _ _ _ rfl)
  ·exact absurd rfl (h2 _ _ _ · rfl)
def y5h(k:EqK)(x y:AVal):YR:=
 match k with
 |.bool=>match x,y with
  |.bool a,.bool b=>.ok none (.bool (a==b))
  |_,_=>.bad
 |.ptr=>y50 x y
 |.slice=>z79 x.rd y.rd
 |.map=>(z1l x y).toY0
 |.agg ks=>(zs2 ks x y).toY0
 |.ifc=>(zap x y).toY0
 |.fnc=>(zbe x y).toY0
 |_=>.bad
def YR.neg:YR→YR
 |.ok s (.bool b)=>.ok s (.bool (!b))
 |_=>.bad
def yeq(neg:Bool)(k:EqK)(x y:AVal):YR:=match neg with
 |true=>(y5h k x y).neg
 |false=>y5h k x y
theorem y08(k:EqK)(x y:AVal):(y5h k x y).Of (zr6 k x y):=by
 cases k<;>simp only[y5h,zr6]<;>try trivial
 case bool=>cases x<;>cases y<;>first|trivial|exact⟨_,rfl,fun _=>trivial⟩
 case ptr=>
  refine XR.toY0_of fun s v h=>?_
  unfold zv0 at h
  split at h<;>simp only[XR.ok.injEq,reduceCtorEq] at h<;>(obtain⟨rfl,_⟩:=h;trivial)
 case slice=>exact ze4 _ _
 case map=>
  refine XR.toY0_of fun s v h=>?_
  unfold z1l at h
  split at h<;>simp only[XR.ok.injEq,reduceCtorEq] at h<;>(obtain⟨rfl,_⟩:=h;trivial)
 case agg ks=>
  refine XR.toY0_of fun s v h=>?_
  unfold zs2 at h
  split at h<;>(try split at h)<;>simp only[XR.ok.injEq,reduceCtorEq] at h<;>(obtain⟨rfl,_⟩:=h;trivial)
 case ifc=>
  refine XR.toY0_of fun s v h=>?_
  unfold zap at h
  split at h<;>simp only[XR.ok.injEq,reduceCtorEq] at h<;>(obtain⟨rfl,_⟩:=h;trivial)
 case fnc=>
  refine XR.toY0_of fun s v h=>?_
  unfold zbe at h
  split at h<;>simp only[XR.ok.injEq,reduceCtorEq] at h<;>(obtain⟨rfl,_⟩:=h;trivial)
theorem y2z(neg:Bool)(k:EqK)(x y:AVal):(yeq neg k x y).Of (xeq neg k x y):=by
 have h:=y08 k x y
 cases neg with
 |false=>simpa[yeq,xeq] using h
 |true=>
  simp only[yeq,xeq,if_true]
  cases hr:y5h k x y with
  |ok s v=>
   rw[hr] at h
   obtain⟨side,hx,hs⟩:=h
   cases v<;>simp only[YR.neg]<;>try trivial
   rw[hx]
   exact⟨side,rfl,hs⟩
  |_=>simp only[YR.neg];trivial
def y12(agg:Bool)(n:Nat)(H:AHeap):AVal→YR
 |.iptr s es i off=>.row es i (i<es.length∧off+n≤s) (j4 agg n off)
 |.ptr b i off=>match H.get b with
  |some (.rows s es)=>.row es i (i<es.length∧off+n≤s) (j4 agg n off)
  |some (.one cs)=>match i,pE (off+n) cs.length with
   |0,true=>.ok none (j4 agg n off cs)
   |_,_=>.bad
  |_=>.bad
 |_=>.bad
theorem zue(g:Bool)(n:Nat)(H:AHeap)(x:AVal):(y12 g n H x).Of (z1d g n H x):=by
 cases x<;>simp only[y12,z1d]<;>try trivial
 case iptr s es i off=>exact⟨_,rfl,fun h=>h⟩
 case ptr b i off=>
  split
  ·rename_i hb
   rw[hb]
   exact⟨_,rfl,fun h=>h⟩
  ·rename_i hb
   rw[hb]
   split
   ·rename_i h
    exact⟨_,rfl,fun _=>⟨rfl,pC h⟩⟩
   ·trivial
  ·trivial
def zl1(agg:Bool)(n off:Nat):AVal→YR
 |.agg cs=>match pE (off+n) cs.length with
  |true=>.ok none (j4 agg n off cs)
  |false=>.bad
 |_=>.bad
theorem zpr(g:Bool)(n off:Nat)(x:AVal):(zl1 g n off x).Of (z5q g n off x):=by
 cases x<;>simp only[zl1,z5q]<;>try trivial
 split
 ·rename_i h;exact⟨_,rfl,fun _=>pC h⟩
 ·trivial
def zou(s:Nat):AVal→AVal→YR
 |.isl s' es _,.int _ j=>match pA s s' with
  |true=>.ok (some (0≤j∧j<(es.length:Int))) (.iptr s' es j.toNat 0)
  |false=>.bad
 |.msl b s' off len _,.int _ j=>match pA s s' with
  |true=>.ok (some (0≤j∧j<(len:Int))) (.ptr b (off+j.toNat) 0)
  |false=>.bad
 |_,_=>.bad
theorem zoj(s:Nat)(x y:AVal):(zou s x y).Of (z3y s x y):=by
 cases x<;>cases y<;>simp only[zou,z3y]<;>try trivial
 all_goals
  split
  ·rename_i h;exact⟨_,rfl,fun hh=>⟨pB h,hh⟩⟩
  ·trivial
def zdk(len s:Nat)(H:AHeap):AVal→AVal→YR
 |.ptr b i 0,.int _ j=>match H.get b with
  |some (.rows s' _)=>match pA s s' with
   |true=>.ok (some (0≤j∧j<(len:Int))) (.ptr b (i+j.toNat) 0)
   |false=>.bad
  |_=>.bad
 |_,_=>.bad
theorem zis(len s:Nat)(H:AHeap)(x y:AVal):(zdk len s H x y).Of (Kf len s H x y):=by
 unfold zdk Kf
 split
 ·split
  ·rename_i hg
   split
   ·rename_i h
    simp only[hg]
    exact⟨_,rfl,fun hh=>⟨pB h,hh⟩⟩
   ·trivial
  ·trivial
 ·trivial
def zd2(len s:Nat)(x:AVal):LOpd→AVal→YR
 |.c (.int _ (.ofNat c)),_=>match pE (c+1) len,x with
  |true,.iptr s' es i o=>.ok none (.iptr s' es i (o+c*s))
  |true,.ptr b i o=>.ok none (.ptr b i (o+c*s))
  |_,_=>.bad
 |_,.int _ j=>match x with
  |.iptr s' es i o=>.fork j len none (fun c=>.iptr s' es i (o+c*s))
  |.ptr b i o=>.fork j len none (fun c=>.ptr b i (o+c*s))
  |_=>.bad
 |_,_=>.bad
theorem zk3(len s:Nat)(x:AVal)(e:Env)(i:LOpd):(zd2 len s x i (i.ev e)).Of (z45 len s x (i.ev e)):=by
 unfold zd2
 split
 ·rename_i k c
  split
  ·rename_i h
   exact⟨_,rfl,fun _=>⟨Int.natCast_nonneg c,by have:=pC h;simp;omega⟩⟩
  ·rename_i h
   exact⟨_,rfl,fun _=>⟨Int.natCast_nonneg c,by have:=pC h;simp;omega⟩⟩
  ·trivial
 ·rename_i j _ heq
  rw[heq]
  split
  ·exact⟨_,_,rfl,fun c hc hj _=>⟨by omega,by subst hj;simp⟩⟩
  ·exact⟨_,_,rfl,fun c hc hj _=>⟨by omega,by subst hj;simp⟩⟩
  ·trivial
 ·trivial
def y0e(len s:Nat)(agg:Bool)(x:AVal):LOpd→AVal→YR
 |.c (.int _ (.ofNat c)),_=>match x with
  |.agg cs=>match pE (c+1) len&&pE (c*s+s) cs.length with
   |true=>.ok none (j4 agg s (c*s) cs)
   |false=>.bad
  |_=>.bad
 |_,.int _ j=>match x with
  |.agg cs=>.pick (j4 agg s (j.toNat * s) cs) (0≤j∧j<(len:Int)∧(j.toNat * s)+s≤cs.length)
  |_=>.bad
 |_,_=>.bad
theorem zuk(len s:Nat)(g:Bool)(x:AVal)(e:Env)(i:LOpd):(y0e len s g x i (i.ev e)).Of (zno len s g x (i.ev e)):=by
 unfold y0e
 split
 ·split
  ·split
   ·rename_i h
    simp only[p9] at h
    have h1:=pC h.1
    have h2:=pC h.2
    rename_i c _ _ _ _
    exact⟨_,rfl,fun _=>⟨Int.natCast_nonneg _,by simp;omega,by simpa using h2⟩⟩
   ·trivial
  ·trivial
 ·rename_i j _ heq
  rw[heq]
  split
  ·exact⟨_,rfl,fun h=>h⟩
  ·trivial
 ·trivial
def y69(k:Nat):AVal→YR
 |.tup cs=>match pE (k+1) cs.length with
  |true=>.ok none (cs.getD k .any)
  |false=>.bad
 |_=>.bad
theorem zzo(k:Nat)(x:AVal):(y69 k x).Of (y2i k x):=by
 cases x<;>simp only[y69,y2i]<;>try trivial
 split
 ·rename_i h;exact⟨_,rfl,fun _=>pC h⟩
 ·trivial
def y26(c:Bool):AVal→AVal→Option AVal
 |.bool a,.bool b=>some (.bool (bif c then a else b))
 |.int k a,.int k' b=>match zqv k k' with
  |true=>some (.int k (bif c then a else b))
  |false=>none
 |.str a,.str b=>some (.str (bif c then a else b))
 |_,_=>none
theorem zvm{c:Bool}{a b v:AVal}(h:y26 c a b=some v):y0b c a b=v:=by
 cases a<;>cases b<;>simp only[y26] at h<;>try (cases h;done)
 ·simp only[p0] at h;subst h;cases c<;>rfl
 ·split at h<;>try (cases h;done)
  rename_i hk
  have hk:=z6q hk
  subst hk
  simp only[p0] at h
  subst h;cases c<;>rfl
 ·simp only[p0] at h;subst h;cases c<;>rfl
def zuc(c want:Bool):Option Prop→Option Prop
 |none=>none
 |some p=>some (c=want→p)
theorem zbt(c want:Bool)(p:Option Prop):uy (zuc c want p)↔(c=want→uy p):=by cases p<;>simp[zuc,uy]
def zr7(c:Bool)(e:Env):LOpd→LOpd→Option AVal
 |.c (.bool true),b=>match b.ev e with
  |.bool y=>some (.bool (c || y))
  |_=>none
 |a,.c (.bool false)=>match a.ev e with
  |.bool x=>some (.bool (c&&x))
  |_=>none
 |a,b=>y26 c (a.ev e) (b.ev e)
theorem zt6{c:Bool}{e:Env}{a b:LOpd}{v:AVal}(h:zr7 c e a b=some v):y0b c (a.ev e) (b.ev e)=v:=by
 unfold zr7 at h
 split at h
 ·split at h<;>try (cases h;done)
  rename_i y hy
  simp only[p0] at h
  subst h
  rw[hy]
  cases c<;>rfl
 ·split at h<;>try (cases h;done)
  rename_i x hx
  simp only[p0] at h
  subst h
  rw[hx]
  cases c<;>rfl
 ·exact zvm h
def zxg(e:Env)(na nb:Option Prop)(c:AVal)(a b:LOpd):YR:=match c with
 |.bool c=>match zr7 c e a b with
  |some v=>.ok (Jj (zuc c true na) (zuc c false nb)) v
  |none=>.bad
 |_=>.bad
def zar(cells:List AVal):List (Nat×Nat×AVal)→YR
 |[]=>.ok none (.agg cells)
 |(off,n,x)::r=>match x.cells? with
  |some cs=>match pA cs.length n&&pE (off+n) cells.length with
   |true=>zar (uh cells off cs) r
   |false=>.bad
  |none=>.bad
theorem zbh:∀ (parts:List (Nat×Nat×AVal)) (cells:List AVal),(zar cells parts).Of (Xl cells parts)
 |[],cells=>⟨_,rfl,fun _=>trivial⟩
 |(off,n,x)::r,cells=>by
  simp only[zar,Xl]
  split
  ·rename_i cs hc
   simp only[hc]
   split
   ·rename_i h
    simp only[p9] at h
    have h1:=pB h.1
    have h2:=pC h.2
    have ih:=zbh r (uh cells off cs)
    cases hy:zar (uh cells off cs) r with
    |ok s v=>
     rw[hy] at ih
     obtain⟨side,hx,hs⟩:=ih
     rw[hx]
     exact⟨_,rfl,fun h=>⟨h1,h2,hs h⟩⟩
    |bad=>trivial
    |row es i s f=>
     rw[hy] at ih
     obtain⟨side,hx,hs⟩:=ih
     rw[hx]
     exact⟨_,rfl,fun h=>⟨h1,h2,hs h⟩⟩
    |pick v s=>
     rw[hy] at ih
     obtain⟨side,hx,hs⟩:=ih
     rw[hx]
     exact⟨_,rfl,fun h=>⟨h1,h2,hs h⟩⟩
    |fork j len s f=>
     rw[hy] at ih
     obtain⟨side,v,hx,hs⟩:=ih
     rw[hx]
     exact⟨_,_,rfl,fun c hc hj h=>⟨⟨h1,h2,(hs c hc hj h).1⟩,(hs c hc hj h).2⟩⟩
   ·trivial
  ·trivial
def y3r(lo hi:Nat→Option Int):AVal→YR:=fun x=>(z4s lo hi x).toY
def XR.toP:XR→YR
 |.ok s v=>.pick v s
 |.bad=>.bad
theorem XR.toP_of(x:XR):x.toP.Of x:=by
 cases x with
 |ok s v=>exact⟨s,rfl,fun h=>h⟩
 |bad=>trivial
def y8b(s:Nat)(lo hi:Nat→Option Int)(mx:Option (Option Int))(keep:Bool):AVal→YR:=fun x=>(zkr s lo hi mx keep x).toP
def y2d(isMax:Bool):AVal→List AVal→YR
 |v,[]=>.ok none v
 |.int k a,.int k' b::r=>match zqv k k' with
  |true=>y2d isMax (.int k (if isMax then(if b > a then b else a) else(if b<a then b else a))) r
  |false=>.bad
 |_,_=>.bad
theorem zq0(m:Bool):∀ (l:List AVal) (v:AVal),(y2d m v l).Of (ztd m v l)
 |[],v=>by simp only[y2d,ztd];exact⟨_,rfl,fun _=>trivial⟩
 |y::r,v=>by
  cases v<;>cases y<;>try trivial
  rename_i k a k' b
  simp only[y2d,ztd]
  split
  ·rename_i hk
   have hk:=z6q hk
   subst hk
   have ih:=zq0 m r (.int k (if m then(if b > a then b else a) else(if b<a then b else a)))
   cases hy:y2d m (.int k (if m then(if b > a then b else a) else(if b<a then b else a))) r with
   |ok s v=>
    rw[hy] at ih
    obtain⟨side,hx,hs⟩:=ih
    rw[hx]
    exact⟨_,rfl,fun h=>⟨rfl,hs h⟩⟩
   |bad=>trivial
   |row es i s f=>
    rw[hy] at ih
    obtain⟨side,hx,hs⟩:=ih
    rw[hx]
    exact⟨_,rfl,fun h=>⟨rfl,hs h⟩⟩
   |pick v s=>
    rw[hy] at ih
    obtain⟨side,hx,hs⟩:=ih
    rw[hx]
    exact⟨_,rfl,fun h=>⟨rfl,hs h⟩⟩
   |fork j len s f=>
    rw[hy] at ih
    obtain⟨side,v,hx,hs⟩:=ih
    rw[hx]
    exact⟨_,_,rfl,fun c hc hj h=>⟨⟨rfl,(hs c hc hj h).1⟩,(hs c hc hj h).2⟩⟩
  ·trivial
def y35(isMax:Bool):List AVal→YR
 |.int k a::r=>y2d isMax (.int k a) r
 |_=>.bad
def ztf(ks:List CK)(ka g ok:Bool)(zs:List AVal)(H:AHeap)(k:AVal):AVal→YR
 |.val (.map none)=>match Wj ks ka k with
  |true=>.ok none (ztg g ok zs none)
  |false=>.bad
 |.map b=>match H.get b with
  |some (.amap es)=>match Wj ks ka k with
   |true=>.pick (ztg g ok zs ((Ub ks k es).getD none)) ((Ub ks k es).isSome=true)
   |false=>.bad
  |_=>.bad
 |_=>.bad
theorem zm4(ks:List CK)(ka g ok:Bool)(zs:List AVal)(H:AHeap)(k x:AVal):(ztf ks ka g ok zs H k x).Of (z0k ks ka g ok zs H k x):=by
 unfold ztf z0k
 split
 ·split
  ·rename_i h;rw[if_pos h];exact⟨_,rfl,fun _=>trivial⟩
  ·trivial
 ·split
  ·rename_i hg
   split
   ·rename_i h;simp only[hg];rw[if_pos h];exact⟨_,rfl,fun h=>h⟩
   ·trivial
  ·trivial
 ·trivial
def z4g(e:Env)(H:AHeap):LOp→YR
 |.mv x=>.ok (x.needY e) (x.ev e)
 |.pick c a b=>(zxg e (a.needY e) (b.needY e) (c.ev e) a b).and (c.needY e)
 |.build zs parts=>(zar zs (uw e parts)).and (z8f e parts)
 |.load g n a=>(y12 g n H (a.ev e)).and (a.needY e)
 |.nilck x=>(z4m (x.ev e)).toY0.and (x.needY e)
 |.bin op x y=>(y6h op (x.ev e) (y.ev e)).and (Jj (x.needY e) (y.needY e))
 |.eq neg k x y=>(yeq neg k (x.ev e) (y.ev e)).and (Jj (x.needY e) (y.needY e))
 |.un op x=>(xun op (x.ev e)).toY0.and (x.needY e)
 |.conv (.int k) x=>match x.ev e with
  |.int _ n=>.ok (x.needY e) (.int k (k.wrap n))
  |_=>.bad
 |.conv .same x=>match x.ev e with
  |.str l=>.ok (x.needY e) (.str l)
  |_=>.bad
 |.mkfn f a c=>.ok (Jj (Kw e a) (Kw e c)) (.fn f (evs e a) (evs e c))
 |.slStr x lo hi=>(y3r (fun d=>va e d lo) (fun d=>va e d hi) (x.ev e)).and (Jj (x.needY e) (Jj (z2l e lo) (z2l e hi)))
 |.slSl s x lo hi mx=>(y8b s (fun d=>va e d lo) (fun d=>va e d hi) (z4e e mx) (hi.isNone&&mx.isNone) (x.ev e)).and (Jj (x.needY e) (Jj (z2l e lo) (Jj (z2l e hi) (z2l e mx))))
 |.slAr n s x=>(zjt n s H (x.ev e)).toP.and (x.needY e)
 |.faddr off x=>(z5p off (x.ev e)).toY0.and (x.needY e)
 |.field g n off x=>(zl1 g n off (x.ev e)).and (x.needY e)
 |.iaddr s x i=>(zou s (x.ev e).rd (i.ev e)).and (Jj (x.needY e) (i.needY e))
 |.iaddrA n s x i=>(zd2 n s (x.ev e) i (i.ev e)).and (Jj (x.needY e) (i.needY e))
 |.iaddrR n s x i=>(zdk n s H (x.ev e) (i.ev e)).and (Jj (x.needY e) (i.needY e))
 |.idxS x i=>(zl3 (x.ev e) (i.ev e)).toY.and (Jj (x.needY e) (i.needY e))
 |.idxA n s g x i=>(y0e n s g (x.ev e) i (i.ev e)).and (Jj (x.needY e) (i.needY e))
 |.ext k x=>(y69 k (x.ev e)).and (x.needY e)
 |.len true x=>(zjy (x.ev e)).toY0.and (x.needY e)
 |.len false x=>(zd9 (x.ev e).rd).toY0.and (x.needY e)
 |.mnx m args=>(y35 m (evs e args)).and (Kw e args)
 |.mlook ks ka g ok zs x k=>(ztf ks ka g ok zs H (k.ev e) (x.ev e)).and (Jj (x.needY e) (k.needY e))
 |.mlen x=>(zes H (x.ev e)).toY0.and (x.needY e)
 |_=>.bad
theorem Xs(e:Env)(H:AHeap)(op:LOp):(z4g e H op).Of (vu e H op):=by
 have h2:∀ {x y:LOpd},uy (Jj (x.needY e) (y.needY e))→x.need e∧y.need e:=fun h=>by rw[wq,zo,zo] at h;exact h
 cases op<;>simp only[z4g,vu]<;>try trivial
 case mv x=>exact⟨_,rfl,(zo e x).1⟩
 case pick c a b=>
  refine YR.Of.and ?_ (zo e c).1
  unfold zxg zvd
  split
  ·rename_i cc hcc
   simp only[hcc]
   split
   ·rename_i v hv
    rw[zt6 hv]
    refine⟨_,rfl,fun h=>?_⟩
    rw[wq,zbt,zbt,zo,zo] at h
    exact h
   ·trivial
  ·trivial
 case build zs parts=>exact(zbh _ _).and (z64 e parts).1
 case load g n a=>exact(zue _ _ _ _).and (zo e a).1
 case nilck x=>
  refine YR.Of.and (XR.toY0_of fun s v h=>?_) (zo e x).1
  unfold z4m at h
  split at h<;>simp only[XR.ok.injEq,reduceCtorEq] at h<;>(obtain⟨rfl,_⟩:=h;trivial)
 case bin op x y=>exact(y1y _ _ _).and h2
 case eq neg k x y=>exact(y2z _ _ _ _).and h2
 case mlook ks ka g ok zs x k=>exact(zm4 _ _ _ _ _ _ _ _).and h2
 case mlen x=>
  refine YR.Of.and (XR.toY0_of fun s v h=>?_) (zo e x).1
  unfold zes at h
  split at h<;>(try split at h)<;>simp only[XR.ok.injEq,reduceCtorEq] at h<;>(obtain⟨rfl,_⟩:=h;trivial)
 case un op x=>
  refine YR.Of.and (XR.toY0_of fun s v h=>?_) (zo e x).1
  unfold xun at h
  split at h<;>(try split at h)<;>simp only[XR.ok.injEq,reduceCtorEq] at h<;>(obtain⟨rfl,_⟩:=h;trivial)
 case conv k x=>
  cases k<;>simp only<;>try trivial
  ·split
   ·rename_i h;simp only[h];exact⟨_,rfl,(zo e x).1⟩
   ·trivial
  ·split
   ·rename_i h;simp only[h];exact⟨_,rfl,(zo e x).1⟩
   ·trivial
 case mkfn f a c=>exact⟨_,rfl,fun h=>by rw[wq,Qv,Qv] at h;exact h⟩
 case slStr x lo hi=>exact(XR.toY_of _).and (fun h=>by rw[wq,wq,zo,J3,J3] at h;exact h)
 case slSl s x lo hi mx=>exact(XR.toP_of _).and (fun h=>by rw[wq,wq,wq,zo,J3,J3,J3] at h;exact h)
 case slAr k s x=>exact(XR.toP_of _).and (zo e x).1
 case faddr off x=>
  refine YR.Of.and (XR.toY0_of fun s v h=>?_) (zo e x).1
  unfold z5p at h
  split at h<;>simp only[XR.ok.injEq,reduceCtorEq] at h<;>(obtain⟨rfl,_⟩:=h;trivial)
 case field g n off x=>exact(zpr _ _ _ _).and (zo e x).1
 case iaddr s x i=>exact(zoj _ _ _).and h2
 case iaddrA n s x i=>exact(zk3 _ _ _ _ _).and h2
 case iaddrR n s x i=>exact(zis _ _ _ _ _).and h2
 case idxS x i=>exact(XR.toY_of _).and h2
 case idxA n s g x i=>exact(zuk _ _ _ _ _ _).and h2
 case ext k x=>exact(zzo _ _).and (zo e x).1
 case len st x=>
  cases st with
  |true=>
   refine YR.Of.and (XR.toY0_of fun s v h=>?_) (zo e x).1
   unfold zjy at h
   split at h<;>simp only[XR.ok.injEq,reduceCtorEq] at h<;>(obtain⟨rfl,_⟩:=h;trivial)
  |false=>
   refine YR.Of.and (XR.toY0_of fun s v h=>?_) (zo e x).1
   unfold zd9 at h
   split at h<;>simp only[XR.ok.injEq,reduceCtorEq] at h<;>(obtain⟨rfl,_⟩:=h;trivial)
 case mnx m args=>
  refine YR.Of.and ?_ (Qv e args).1
  unfold y35 zkz
  split
  ·rename_i h;simp only[h];exact zq0 _ _ _
  ·trivial
end Go.Fx
namespace Go.Fx
variable {P:Program}
def zpo(H:AHeap)(s:Nat):AVal→Option (Option Prop×List (List AVal))
 |.isl s' es _=>match pA s' s with
  |true=>some (none,es)
  |false=>none
 |.osl _ s' es=>match pA s' s with
  |true=>some (none,es)
  |false=>none
 |.msl b s' off len _=>match H.get b with
  |some (.rows s'' es)=>match pA s' s&&pA s'' s with
   |true=>some (some (off+len≤es.length),(es.drop off).take len)
   |false=>none
  |_=>none
 |.val (.slice none 0 0)=>some (none,[])
 |.str l=>match pA s 1 with
  |true=>some (none,l.map fun c=>[.int .u8 (c.toNat:Int)])
  |false=>none
 |_=>none
theorem z7c{H:AHeap}{s:Nat}{x:AVal}{so:Option Prop}{rows:List (List AVal)}(h:zpo H s x=some (so,rows)):∃p,Q4 H s x=some (p,rows)∧(uy so→p):=by
 unfold zpo at h
 unfold Q4
 split at h
 ·split at h<;>simp only[p0,pK,reduceCtorEq] at h
  rename_i hb
  obtain⟨rfl,rfl⟩:=h
  exact⟨_,rfl,fun _=>pB hb⟩
 ·split at h<;>simp only[p0,pK,reduceCtorEq] at h
  rename_i hb
  obtain⟨rfl,rfl⟩:=h
  exact⟨_,rfl,fun _=>pB hb⟩
 ·split at h<;>try (cases h;done)
  rename_i hg
  split at h<;>simp only[p0,pK,reduceCtorEq] at h
  rename_i hb
  obtain⟨rfl,rfl⟩:=h
  simp only[p9] at hb
  simp only[hg]
  exact⟨_,rfl,fun hh=>⟨pB hb.1,pB hb.2,hh⟩⟩
 ·simp only[p0,pK] at h
  obtain⟨rfl,rfl⟩:=h
  exact⟨_,rfl,fun _=>trivial⟩
 ·split at h<;>simp only[p0,pK,reduceCtorEq] at h
  rename_i hb
  obtain⟨rfl,rfl⟩:=h
  exact⟨_,rfl,fun _=>pB hb⟩
 ·cases h
def z30:List (List AVal)→List (Nat×AVal)→Option (List (List AVal))
 |rows,[]=>some rows
 |rows,(i,x)::r=>match x.cells? with
  |some cs=>match pA cs.length ((rows.getD i []).length)&&pE (i+1) rows.length with
   |true=>z30 (rows.set i cs) r
   |false=>none
  |none=>none
theorem z65:∀ {parts:List (Nat×AVal)} {rows rs:List (List AVal)},z30 rows parts=some rs→∃p,Wf rows parts=some (p,rs)∧p
 |[],rows,rs,h=>by simp only[z30,p0] at h;subst h;exact⟨True,rfl,trivial⟩
 |(i,x)::r,rows,rs,h=>by
  simp only[z30] at h
  split at h<;>try (cases h;done)
  rename_i cs hc
  split at h<;>try (cases h;done)
  rename_i hb
  simp only[p9] at hb
  obtain⟨p,h1,h2⟩:=z65 h
  simp only[Wf,hc,h1]
  exact⟨_,rfl,pB hb.1,pC hb.2,h2⟩
def zum(s bytes:Nat)(H:AHeap)(n:Nat)(K:AVal→AHeap→Nat→Prop)(x:AVal)(rows2:List (List AVal)):Prop:=
 match x with
 |.val (.slice none 0 0)=>∃es',rows2=es'∧es'.length*bytes≤140737488355328∧K (.osl (n,0) s es') (((n,0),.tok)::H) (n+1)
 |.isl s' es f=>match pA s' s with
  |true=>∃es',es++rows2=es'∧(f=true∧es'.length*bytes≤140737488355328)∧K (.osl (n,0) s es') (((n,0),.tok)::H) (n+1)
  |false=>False
 |.osl tok s' es=>match pA s' s,H.get tok with
  |true,some .tok=>∃es',es++rows2=es'∧es'.length*bytes≤140737488355328∧K (.osl (n,0) s es') (((n,0),.tok)::H.del tok) (n+1)
  |_,_=>False
 |_=>False
theorem zh1{s bytes:Nat}{H:AHeap}{n:Nat}{K K':AVal→AHeap→Nat→Prop}{x:AVal}{rows2:List (List AVal)}(h:zum s bytes H n K x rows2)(hk:∀r H n,K r H n→K' r H n):z9w s bytes H n K' x rows2:=by
 unfold zum at h
 unfold z9w
 split at h
 ·obtain⟨es',rfl,h1,h2⟩:=h
  exact⟨h1,hk _ _ _ h2⟩
 ·split at h<;>try (exact h.elim)
  rename_i hb
  obtain⟨es',rfl,⟨h0,h1⟩,h2⟩:=h
  exact⟨pB hb,h0,by simpa using h1,hk _ _ _ h2⟩
 ·split at h<;>try (exact h.elim)
  rename_i hb hg
  obtain⟨es',rfl,h1,h2⟩:=h
  exact⟨pB hb,hg,by simpa using h1,hk _ _ _ h2⟩
 ·exact h.elim
def y6j(s bytes:Nat)(H:AHeap)(n:Nat)(K:AVal→AHeap→Nat→Prop)(x:AVal)(rows2:List (List AVal)):Prop:=
 match x with
 |.val (.slice none 0 0)=>rows2≠[]∧∃es',rows2=es'∧es'.length*bytes≤140737488355328∧K (.msl (n,0) s 0 es'.length false) (((n,0),.rows s es')::H) (n+1)
 |.isl s' es f=>match pA s' s with
  |true=>rows2≠[]∧∃es',es++rows2=es'∧(f=true∧es'.length*bytes≤140737488355328)∧K (.msl (n,0) s 0 es'.length false) (((n,0),.rows s es')::H) (n+1)
  |false=>False
 |.msl b s' off len f=>match H.get b with
  |some (.rows s'' es)=>match pA s' s&&pA s'' s with
   |true=>(f=true→rows2≠[])∧off+len≤es.length∧∃es',(es.drop off).take len++rows2=es'∧es'.length*bytes≤140737488355328 ∧
    K (.msl (n,0) s 0 es'.length false) (((n,0),.rows s es')::(match f with|true=>H|false=>H.del b)) (n+1)
   |false=>False
  |_=>False
 |_=>False
theorem zyf{s bytes:Nat}{H:AHeap}{n:Nat}{K K':AVal→AHeap→Nat→Prop}{x:AVal}{rows2:List (List AVal)}(h:y6j s bytes H n K x rows2)(hk:∀r H n,K r H n→K' r H n):zth s bytes H n K' x rows2:=by
 unfold y6j at h
 unfold zth
 split at h
 ·obtain⟨h0,es',rfl,h1,h2⟩:=h
  exact⟨fun h=>absurd h h0,fun _=>⟨h1,hk _ _ _ h2⟩⟩
 ·split at h<;>try (exact h.elim)
  rename_i hb
  obtain⟨hne,es',rfl,⟨h0,h1⟩,h2⟩:=h
  exact⟨pB hb,fun h=>absurd h hne,fun _=>⟨h0,by simpa using h1,by simpa using hk _ _ _ h2⟩⟩
 ·split at h<;>try (exact h.elim)
  rename_i hg
  split at h<;>try (exact h.elim)
  rename_i hb
  simp only[p9] at hb
  obtain⟨hne,hl,es',rfl,h1,h2⟩:=h
  simp only[hg]
  rename_i off len f _ _ es _
  have e:((es.drop off).take len).length=len:=List.length_take_of_le (by simp only[List.length_drop];omega)
  refine⟨pB hb.1,pB hb.2,hl,fun hf h=>absurd h (hne hf),fun _=>?_⟩
  rw[pL,e] at h1 h2
  refine⟨h1,hk _ _ _ ?_⟩
  cases f<;>simpa using h2
 ·exact h.elim
def y2f(P:Program)(e:Env)(H:AHeap)(n:Nat)(K:AVal→AHeap→Nat→Prop):LOp→Prop
 |.alloc zs=>K (.ptr (n,0) 0 0) (((n,0),.one zs)::H) (n+1)
 |.allocB T el=>K (.ptr (n,0) 0 0) (((n,0),.bld T (n,1))::((n,1),.buf el [])::H) (n+1)
 |.allocR s zs=>∃es',V1 s (zs.length / s) zs=es'∧K (.ptr (n,0) 0 0) (((n,0),.rows s es')::H) (n+1)
 |.box x=>match (x.ev e).cells? with
  |some cs=>Kv (x.needY e) (K (.ptr (n,0) 0 0) (((n,0),.one cs)::H) (n+1))
  |none=>False
 |.mkSl vm s zs len parts=>match z30 (qF len zs) (evI e parts),pA zs.length s with
  |some rows,true=>match vm with
   |true=>match Zd rows with
    |some rows'=>Kv (z50 e parts) (K (.isl s (rows'.map (kn zs)) true) H n)
    |none=>False
   |false=>Kv (z50 e parts) (K (.msl (n,0) s 0 len true) (((n,0),.rows s (rows.map (kn zs)))::H) (n+1))
  |_,_=>False
 |.store m a x=>match a.ev e,(x.ev e).cells? with
  |.ptr b i off,some cs=>match H.get b with
   |some (.rows s es)=>Kv (Jj (a.needY e) (x.needY e)) (∃es',es.set i (uh (es.getD i []) off cs)=es'∧(cs.length=m∧i<es.length∧off+m≤s)∧K .any (H.set b (.rows s es')) n)
   |some (.one rs)=>match i,pA cs.length m&&pE (off+m) rs.length with
    |0,true=>Kv (Jj (a.needY e) (x.needY e)) (K .any (H.set b (.one (uh rs off cs))) n)
    |_,_=>False
   |_=>False
  |_,_=>False
 |.conv (.s2b vm) x=>match x.ev e with
  |.str l=>match vm with
   |true=>Kv (x.needY e) (∃es',(l.map fun c=>[AVal.int .u8 (c.toNat:Int)])=es'∧K (.isl 1 es' false) H n)
   |false=>Kv (x.needY e) (K (.msl (n,0) 1 0 l.length false) (((n,0),.rows 1 (l.map fun c=>[.int .u8 (c.toNat:Int)]))::H) (n+1))
  |_=>False
 |.conv .b2s x=>match x.ev e,zpo H 1 (x.ev e) with
  |.str _,_=>False
  |_,some (so,rows)=>Kv (Jj (x.needY e) so) (∃l:List UInt8,rows.map z06=l∧(∀r∈rows,∃m,r=[.int .u8 m])∧K (.str l) H n)
  |_,none=>False
 |.mkslice vm s bytes zs l c=>match l.ev e,c.ev e with
  |.int .i64 l',.int .i64 c'=>match vm with
   |true=>Kv (Jj (l.needY e) (c.needY e)) ((l'=0∧l'≤c'∧c'*bytes≤140737488355328)∧K (.osl (n,0) s []) (((n,0),.tok)::H) (n+1))
   |false=>Kv (Jj (l.needY e) (c.needY e)) (∃es' fl,(qF l'.toNat (kn zs zs)=es'∨qF l'.toNat zs=es')∧decide (c'=l')=fl∧(0≤l'∧l'≤c'∧c'*bytes≤140737488355328)∧K (.msl (n,0) s 0 es'.length fl) (((n,0),.rows s es')::H) (n+1))
  |_,_=>False
 |.call f args=>Kv (Kw e args) (ACalls P f (evs e args) H n K)
 |.callv x args=>match x.ev e with
  |.fn f first caps=>Kv (Jj (x.needY e) (Kw e args)) (ACallsC P f first (evs e args) caps H n K)
  |_=>False
 |.app vm s bytes x y=>match zpo H s (y.ev e) with
  |some (so,rows2)=>match vm with
   |true=>match y.ev e with
    |.msl _ _ _ _ _=>Kv (Jj (x.needY e) (Jj (y.needY e) so)) (∃rows2',Zd rows2=some rows2'∧zum s bytes H n K (x.ev e) rows2')
    |_=>Kv (Jj (x.needY e) (Jj (y.needY e) so)) (zum s bytes H n K (x.ev e) rows2)
   |false=>Kv (Jj (x.needY e) (Jj (y.needY e) so)) (y6j s bytes H n K (x.ev e) rows2)
  |none=>False
 |.copy s x y=>match x.ev e,zpo H s (y.ev e) with
  |.msl b s' off len _,some (so,rows2)=>match H.get b with
   |some (.rows s'' es)=>match pA s' s&&pA s'' s with
    |true=>Kv (Jj (x.needY e) (Jj (y.needY e) so)) (∃es',es.take off++rows2.take len++es.drop (off+min rows2.length len)=es'∧off+len≤es.length ∧
     K (.int .i64 ((min rows2.length len:Nat):Int)) (H.set b (.rows s es')) n)
    |false=>False
   |_=>False
  |_,_=>False
 |.mkmap none=>K (.map (n,0)) (((n,0),.amap [])::H) (n+1)
 |.mset ks ka g zs m k x=>match m.ev e,y2j g zs (x.ev e) with
  |.map b,some y=>match H.get b,Wj ks ka (k.ev e) with
   |some (.amap es),true=>Kv (Jj (m.needY e) (Jj (k.needY e) (x.needY e))) (∃es',zmr ks (k.ev e) y es=some es'∧K .any (H.set b (.amap es')) n)
   |_,_=>False
  |_,_=>False
 |.mdel ks ka m k=>match m.ev e with
  |.map b=>match H.get b,Wj ks ka (k.ev e) with
   |some (.amap es),true=>Kv (Jj (m.needY e) (k.needY e)) (∃es',z73 ks (k.ev e) es=some es'∧K .any (H.set b (.amap es')) n)
   |_,_=>False
  |_=>False
 |.range x=>match x.ev e with
  |.map b=>match H.get b with
   |some (.amap es)=>Kv (x.needY e) (∀ (arr:Array MapEntry) (ck:Nat),K (.ptr (n,0) 0 0) (((n,0),.itr (some b) arr ck [])::H.set b (.rmap es arr ck)) (n+1))
   |_=>False
  |.val (.map none)=>Kv (x.needY e) (K (.ptr (n,0) 0 0) (((n,0),.itr none #[] 0 [])::H) (n+1))
  |_=>False
 |.next x=>match x.ev e with
  |.ptr i 0 0=>match H.get i with
   |some (.itr none _ _ _)=>Kv (x.needY e) (K (.tup [.bool false]) H n)
   |some (.itr (some b) arr ck seen)=>match H.get b with
    |some (.rmap es arr' ck')=>Kv (x.needY e) ((arr'=arr∧ck'=ck)∧((∀j,j<es.length→j∈seen)→K (.tup [.bool false]) H n) ∧
     (∀j,j<es.length→j∉seen→K (.tup [.bool true,.any,.any]) (H.set i (.itr (some b) arr ck (j::seen))) n))
    |_=>False
   |_=>False
  |_=>False
 |.entry x=>match x.ev e with
  |.ptr i 0 0=>match H.get i with
   |some (.itr (some b) arr ck (j::seen))=>match H.get b with
    |some (.rmap es arr' ck')=>Kv (x.needY e) ((arr'=arr∧ck'=ck)∧∃p,es[j]?=some p∧K (.tup [p.1,p.2]) H n)
    |_=>False
   |_=>False
  |_=>False
 |_=>False
theorem z6h{e:Env}{H:AHeap}{n:Nat}{K K':AVal→AHeap→Nat→Prop}{op:LOp}(h:y2f P e H n K op)(hk:∀r H n,K r H n→K' r H n):Z1 P e H n K' op:=by
 have h2:∀ {x y:LOpd},uy (Jj (x.needY e) (y.needY e))→x.need e∧y.need e:=fun h=>by rw[wq,zo,zo] at h;exact h
 cases op<;>simp only[y2f] at h<;>try (exact h.elim)
 case alloc zs=>exact hk _ _ _ h
 case allocR s zs=>obtain⟨es',rfl,h⟩:=h;exact hk _ _ _ h
 case allocB T el=>exact hk _ _ _ h
 case box x=>
  simp only[Z1]
  split at h<;>try (exact h.elim)
  rename_i cs hc
  rw[wo,zo] at h
  simp only[hc]
  exact⟨h.1,hk _ _ _ h.2⟩
 case mkSl vm s zs len parts=>
  simp only[Z1]
  split at h<;>try (exact h.elim)
  rename_i rows hr hb
  obtain⟨p,h1,h1'⟩:=z65 hr
  have hb:=pB hb
  simp only[h1]
  cases vm with
  |true=>
   simp only at h ⊢
   split at h<;>try (exact h.elim)
   rename_i rows' hi
   rw[wo,z09] at h
   simp only[hi]
   exact⟨hb,h.1,h1',hk _ _ _ h.2⟩
  |false=>
   simp only at h ⊢
   rw[wo,z09] at h
   exact⟨hb,h.1,h1',_,.inl rfl,hk _ _ _ h.2⟩
 case store m a x=>
  simp only[Z1]
  split at h<;>try (exact h.elim)
  rename_i b i off cs ha hc
  simp only[ha,hc]
  split at h
  ·rename_i s es hg
   simp only[hg]
   rw[wo] at h
   obtain⟨hn,es',rfl,⟨k1,k2,k3⟩,k4⟩:=h
   exact⟨(h2 hn).1,(h2 hn).2,k1,k2,k3,hk _ _ _ k4⟩
  ·rename_i rs hg
   simp only[hg]
   split at h<;>try (exact h.elim)
   rename_i hb
   simp only[p9] at hb
   rw[wo] at h
   exact⟨(h2 h.1).1,(h2 h.1).2,pB hb.1,rfl,pC hb.2,hk _ _ _ h.2⟩
  ·exact h.elim
 case conv k x=>
  cases k<;>simp only at h<;>try (exact h.elim)
  case s2b vm=>
   simp only[Z1]
   split at h<;>try (exact h.elim)
   rename_i l hl
   simp only[hl]
   cases vm with
   |false=>simp only at h ⊢;rw[wo,zo] at h;exact⟨h.1,hk _ _ _ h.2⟩
   |true=>
    simp only at h ⊢
    rw[wo,zo] at h
    obtain⟨h1,es',rfl,h2⟩:=h
    exact⟨h1,hk _ _ _ h2⟩
  case b2s=>
   simp only[Z1]
   split at h<;>try (exact h.elim)
   rename_i so rows hr hns
   obtain⟨p,h1,h1'⟩:=z7c hr
   simp only[h1]
   rw[wo,wq,zo] at h
   obtain⟨⟨k1,k2⟩,l,rfl,k4,k3⟩:=h
   exact⟨k1,fun l' hl'=>hns l' hl',h1' k2,k4,hk _ _ _ k3⟩
 case mkslice vm s bytes zs l c=>
  simp only[Z1]
  split at h<;>try (exact h.elim)
  rename_i l' c' hl hc
  simp only[hl,hc]
  cases vm with
  |true=>
   simp only at h ⊢
   rw[wo] at h
   obtain⟨hn,⟨k1,k2,k3⟩,k4⟩:=h
   exact⟨(h2 hn).1,(h2 hn).2,k1,k2,k3,hk _ _ _ k4⟩
  |false=>
   simp only at h ⊢
   rw[wo] at h
   obtain⟨hn,es',fl,hes,rfl,⟨k1,k2,k3⟩,k4⟩:=h
   have hlen:es'.length=l'.toNat:=by rcases hes with rfl|rfl<;>simp
   rw[hlen] at k4
   exact⟨(h2 hn).1,(h2 hn).2,k1,k2,k3,es',hes.imp Eq.symm Eq.symm,hk _ _ _ k4⟩
 case mkmap r=>
  cases r with
  |none=>exact hk _ _ _ h
  |some x=>exact h.elim
 case range x=>
  simp only[Z1]
  split at h
  ·rename_i b hx
   simp only[hx]
   split at h<;>try (exact h.elim)
   rename_i es hg
   simp only[hg]
   rw[wo,zo] at h
   exact⟨h.1,fun arr ck=>hk _ _ _ (h.2 arr ck)⟩
  ·rename_i hx
   simp only[hx]
   rw[wo,zo] at h
   exact⟨h.1,hk _ _ _ h.2⟩
  ·exact h.elim
 case next x=>
  simp only[Z1]
  split at h<;>try (exact h.elim)
  rename_i i hx
  simp only[hx]
  split at h
  ·rename_i hg
   simp only[hg]
   rw[wo,zo] at h
   exact⟨h.1,hk _ _ _ h.2⟩
  ·rename_i hg
   simp only[hg]
   split at h<;>try (exact h.elim)
   rename_i hb
   simp only[hb]
   rw[wo,zo] at h
   obtain⟨h1,⟨h2,h3⟩,h4,h5⟩:=h
   exact⟨h1,h2,h3,fun q=>hk _ _ _ (h4 q),fun j q1 q2=>hk _ _ _ (h5 j q1 q2)⟩
  ·exact h.elim
 case entry x=>
  simp only[Z1]
  split at h<;>try (exact h.elim)
  rename_i i hx
  simp only[hx]
  split at h<;>try (exact h.elim)
  rename_i hg
  simp only[hg]
  split at h<;>try (exact h.elim)
  rename_i hb
  simp only[hb]
  rw[wo,zo] at h
  obtain⟨h1,⟨h2,h3⟩,p,h4,h5⟩:=h
  exact⟨h1,h2,h3,p,h4,hk _ _ _ h5⟩
 case mset ks ka g zs m k x=>
  simp only[Z1]
  split at h<;>try (exact h.elim)
  rename_i b y hm hy
  simp only[hm,hy]
  split at h<;>try (exact h.elim)
  rename_i es hg hok
  simp only[hg]
  rw[wo,wq,wq,zo,zo,zo] at h
  obtain⟨⟨h1,h2',h3⟩,es',h4,h5⟩:=h
  simp only[h4]
  exact⟨h1,h2',h3,hok,hk _ _ _ h5⟩
 case mdel ks ka m k=>
  simp only[Z1]
  split at h<;>try (exact h.elim)
  rename_i b hm
  simp only[hm]
  split at h<;>try (exact h.elim)
  rename_i es hg hok
  simp only[hg]
  rw[wo,wq,zo,zo] at h
  obtain⟨⟨h1,h2'⟩,es',h4,h5⟩:=h
  simp only[h4]
  exact⟨h1,h2',hok,hk _ _ _ h5⟩
 case call f args=>
  rw[wo,Qv] at h
  exact⟨h.1,h.2.mono hk⟩
 case callv x args=>
  simp only[Z1]
  split at h<;>try (exact h.elim)
  rename_i f first caps hx
  rw[wo,wq,zo,Qv] at h
  simp only[hx]
  exact⟨h.1.1,h.1.2,h.2.mono hk⟩
 case app vm s bytes x y=>
  simp only[Z1]
  split at h<;>try (exact h.elim)
  rename_i so rows2 hr
  obtain⟨p,h1,h1'⟩:=z7c hr
  simp only[h1]
  cases vm with
  |true=>
   simp only at h ⊢
   split at h
   ·rename_i hy
    rw[wo,wq,wq,zo,zo] at h
    obtain⟨⟨k1,k2,k3⟩,rows2',k4,k5⟩:=h
    have:z1c (y.ev e) rows2=some rows2':=by rw[hy];exact k4
    simp only[this]
    exact⟨k1,k2,h1' k3,zh1 k5 hk⟩
   ·rename_i hy
    rw[wo,wq,wq,zo,zo] at h
    obtain⟨⟨k1,k2,k3⟩,k5⟩:=h
    have:z1c (y.ev e) rows2=some rows2:=by
     unfold z1c
     split
     ·rename_i h;exact absurd h (hy _ _ _ _ _)
     ·rfl
    simp only[this]
    exact⟨k1,k2,h1' k3,zh1 k5 hk⟩
  |false=>
   simp only at h ⊢
   rw[wo,wq,wq,zo,zo] at h
   obtain⟨⟨k1,k2,k3⟩,k5⟩:=h
   exact⟨k1,k2,h1' k3,zyf k5 hk⟩
 case copy s x y=>
  simp only[Z1]
  split at h<;>try (exact h.elim)
  rename_i b s' off len f so rows2 hx hr
  obtain⟨p,h1,h1'⟩:=z7c hr
  simp only[hx,h1]
  split at h<;>try (exact h.elim)
  rename_i s'' es hg
  simp only[hg]
  split at h<;>try (exact h.elim)
  rename_i hb
  simp only[p9] at hb
  rw[wo,wq,wq,zo,zo] at h
  obtain⟨⟨k1,k2,k3⟩,es',rfl,k4,k5⟩:=h
  exact⟨k1,k2,h1' k3,pB hb.1,pB hb.2,k4,hk _ _ _ k5⟩
def zpm(P:Program):List LOper→(Env→AHeap→Nat→Prop)→Env→AHeap→Nat→Prop
 |[],R,e,H,n=>R e H n
 |⟨d,op,none⟩::os,R,e,H,n=>match kv op with
  |true=>(z4g e H op).run (fun v=>zpm P os R (e.put d v) H n)
  |false=>y2f P e H n (fun r H' n'=>zpm P os R (e.put d r) H' n') op
 |⟨d,op,some (g,want)⟩::os,R,e,H,n=>match Y4 (e.get g) want with
  |some p=>match kv op with
   |true=>(z4g e H op).runG p (fun v=>zpm P os R (e.put d v) H n)
   |false=>z10 p H n (fun K=>y2f P e H n K op) (fun r H' n'=>zpm P os R (e.put d r) H' n')
  |none=>False
theorem z3a{p:Bool}{H:AHeap}{n:Nat}{E E':(AVal→AHeap→Nat→Prop)→Prop}{K K':AVal→AHeap→Nat→Prop}(h:z10 p H n E K)(hE:∀ {K K':AVal→AHeap→Nat→Prop},E K→(∀r H n,K r H n→K' r H n)→E' K')(hk:∀r H n,K r H n→K' r H n):z10 p H n E' K':=by
 rcases h with⟨R,h1,h2⟩|⟨h1,h2⟩
 ·exact .inl ⟨R,fun hp=>hE (h1 hp) (fun _ _ _ h=>h),hk _ _ _ h2⟩
 ·exact .inr ⟨fun hp=>hE (h1 hp) hk,fun hp=>by obtain⟨u,h3,h4⟩:=h2 hp;exact⟨u,h3,hk _ _ _ h4⟩⟩
def y7m(x:XR)(p:Bool)(K:AVal→Prop):Prop:=match x with
 |.ok side v=>(∃u,(p=true→side∧v=u)∧K (.cnd p u))∨(p=false∧K (.tup []))
 |.bad=>p=false∧K (.tup [])
theorem Uv{r:YR}{x:XR}(h:r.Of x){p:Bool}{K:AVal→Prop}(hk:r.runG p K):y7m x p K:=by
 have other:(p=false∧K (.tup []))→y7m x p K:=fun h'=>by
  cases x with
  |ok s v=>exact .inr h'
  |bad=>exact h'
 cases r with
 |ok s v=>
  obtain⟨side,rfl,hs⟩:=h
  cases s with
  |none=>exact .inl ⟨v,fun _=>⟨hs trivial,rfl⟩,hk⟩
  |some q=>exact .inl ⟨v,fun hp=>⟨hs (hk.1 hp),rfl⟩,hk.2⟩
 |row es i s f=>
  obtain⟨side,rfl,hs⟩:=h
  obtain⟨r,h1,h2⟩:=hk
  refine .inl ⟨f r,fun hp=>?_,h2⟩
  obtain⟨rfl,h3⟩:=h1 hp
  exact⟨hs h3,rfl⟩
 |pick v0 s=>
  obtain⟨side,rfl,hs⟩:=h
  obtain⟨v,h1,h2⟩:=hk
  refine .inl ⟨v,fun hp=>?_,h2⟩
  obtain⟨rfl,h3⟩:=h1 hp
  exact⟨hs h3,rfl⟩
 |fork j len s f=>exact other hk
 |bad=>exact other hk
theorem Wz{R:Env→AHeap→Nat→Prop}:∀ (os:List LOper) {e:Env} {H:AHeap} {n:Nat},zpm P os R e H n→Wo P os R e H n
 |[],e,H,n,h=>h
 |⟨d,op,none⟩::os,e,H,n,h=>by
  simp only[zpm] at h
  simp only[Wo]
  split at h
  ·rename_i hp
   obtain⟨side,v,h1,h2,h3⟩:=(Xs e H op).run h
   simp only[hp,h1]
   exact⟨h2,Wz os h3⟩
  ·rename_i hp
   simp only[hp]
   exact z6h h (fun r H' n' h=>Wz os h)
 |⟨d,op,some (g,want)⟩::os,e,H,n,h=>by
  simp only[zpm] at h
  simp only[Wo]
  split at h<;>try (exact h.elim)
  rename_i p hg
  simp only[hg]
  split at h
  ·rename_i hp
   simp only[hp]
   have:=Uv (Xs e H op) h
   cases hx:vu e H op with
   |ok side v=>
    rw[hx] at this
    rcases this with⟨u,h1,h2⟩|⟨h1,h2⟩
    ·exact .inl ⟨u,h1,Wz os h2⟩
    ·exact .inr ⟨h1,Wz os h2⟩
   |bad=>
    rw[hx] at this
    exact⟨this.1,Wz os this.2⟩
  ·rename_i hp
   simp only[hp]
   exact z3a h (fun h hk=>z6h h hk) (fun r H' n' h=>Wz os h)
def yqs:List LOper→(Env→AHeap→Nat→Prop)→Env→AHeap→Nat→Prop
 |[],R,e,H,n=>R e H n
 |⟨d,op,none⟩::os,R,e,H,n=>(z4g e H op).run (fun v=>yqs os R (e.put d v) H n)
 |⟨d,op,some (g,want)⟩::os,R,e,H,n=>match Y4 (e.get g) want with
  |some p=>(z4g e H op).runG p (fun v=>yqs os R (e.put d v) H n)
  |none=>False
theorem z9m{R:Env→AHeap→Nat→Prop}:∀ (os:List LOper) {e:Env} {H:AHeap} {n:Nat},yqs os R e H n→xqs os R e H n
 |[],e,H,n,h=>h
 |⟨d,op,none⟩::os,e,H,n,h=>by
  simp only[yqs] at h
  simp only[xqs]
  obtain⟨side,v,h1,h2,h3⟩:=(Xs e H op).run h
  simp only[h1]
  exact⟨h2,z9m os h3⟩
 |⟨d,op,some (g,want)⟩::os,e,H,n,h=>by
  simp only[yqs] at h
  simp only[xqs]
  split at h<;>try (exact h.elim)
  rename_i p hg
  simp only[hg]
  have:=Uv (Xs e H op) h
  cases hx:vu e H op with
  |ok side v=>
   rw[hx] at this
   rcases this with⟨u,h1,h2⟩|⟨h1,h2⟩
   ·exact .inl ⟨u,h1,z9m os h2⟩
   ·exact .inr ⟨h1,z9m os h2⟩
  |bad=>
   rw[hx] at this
   exact⟨this.1,z9m os this.2⟩
def zyv(e:Env)(H:AHeap)(lo:LOper)(K:AVal→Prop):Prop:=
 match lo.guard with
 |none=>(z4g e H lo.op).run K
 |some (g,want)=>match Y4 (e.get g) want with
  |some p=>(z4g e H lo.op).runG p K
  |none=>False
theorem zv1{e:Env}{H:AHeap}{lo:LOper}{K:AVal→Prop}(h:zyv e H lo K):∃v,(Jq e H lo).gives v∧K v:=by
 unfold zyv at h
 unfold Jq
 split at h
 ·rename_i hg
  simp only[hg]
  obtain⟨side,v,h1,h2,h3⟩:=(Xs _ _ _).run h
  rw[h1]
  exact⟨v,⟨h2,.inl rfl⟩,h3⟩
 ·rename_i g want hgu
  simp only[hgu]
  split at h<;>try (exact h.elim)
  rename_i p hg
  simp only[hg]
  have:=Uv (Xs e H lo.op) h
  cases hx:vu e H lo.op with
  |ok side v=>
   rw[hx] at this
   rcases this with⟨u,h1,h2⟩|⟨h1,h2⟩
   ·exact⟨.cnd p u,⟨fun hp=>(h1 hp).1,.inr (.inr ⟨p,v,u,rfl,rfl,fun hp=>(h1 hp).2⟩)⟩,h2⟩
   ·subst h1
    exact⟨.tup [],⟨(fun hp=>by cases hp),.inr (.inl ⟨.inr ⟨v,rfl⟩,.inl rfl⟩)⟩,h2⟩
  |bad=>
   rw[hx] at this
   exact⟨.tup [],⟨this.1,.inl rfl⟩,this.2⟩
def YR.gives(r:YR)(v:AVal):Prop:=match r with
 |.ok s u=>Kv s (u=v)
 |.row es i s f=>s∧f (es.getD i [])=v
 |.pick u s=>s∧u=v
 |_=>False
theorem YR.Of.gives{r:YR}{x:XR}(h:r.Of x){v:AVal}(hg:r.gives v):∃side,x=.ok side v∧side:=by
 cases r with
 |ok s u=>
  obtain⟨side,rfl,hs⟩:=h
  rw[YR.gives,wo] at hg
  obtain⟨h1,rfl⟩:=hg
  exact⟨side,rfl,hs h1⟩
 |row es i s f=>
  obtain⟨side,rfl,hs⟩:=h
  obtain⟨h1,rfl⟩:=hg
  exact⟨side,rfl,hs h1⟩
 |pick u s=>
  obtain⟨side,rfl,hs⟩:=h
  obtain⟨h1,rfl⟩:=hg
  exact⟨side,rfl,hs h1⟩
 |fork j len s f=>exact hg.elim
 |bad=>exact hg.elim
def zdu(e:Env)(H:AHeap)(lo:LOper)(v:AVal):Prop:=
 match lo.guard with
 |none=>(z4g e H lo.op).gives v
 |some (g,want)=>match Y4 (e.get g) want,v with
  |some p,.cnd q u=>q=p∧(p=true→(z4g e H lo.op).gives u)
  |_,_=>False
theorem zjh{e:Env}{H:AHeap}{lo:LOper}{v:AVal}(h:zdu e H lo v):(Jq e H lo).gives v:=by
 unfold zdu at h
 unfold Jq
 split at h
 ·rename_i hg
  simp only[hg]
  obtain⟨side,h1,h2⟩:=(Xs _ _ _).gives h
  rw[h1]
  exact⟨h2,.inl rfl⟩
 ·rename_i g want hgu
  simp only[hgu]
  split at h<;>try (exact h.elim)
  rename_i p q u hg
  simp only[hg]
  obtain⟨rfl,h⟩:=h
  cases q with
  |true=>
   obtain⟨side,h1,h2⟩:=(Xs _ _ _).gives (h rfl)
   rw[h1]
   exact⟨fun _=>h2,.inl rfl⟩
  |false=>
   cases vu e H lo.op with
   |ok side x=>exact⟨(fun hp=>by cases hp),.inr (.inl ⟨.inr ⟨x,rfl⟩,.inr ⟨u,rfl⟩⟩)⟩
   |bad=>exact⟨rfl,.inr (.inl ⟨.inl rfl,.inr ⟨u,rfl⟩⟩)⟩
def za4(loose:List Nat)(H:AHeap)(q:Prop):List (Nat×LOper×Env×AVal)→Prop
 |[]=>q
 |x::r=>match loose.contains x.1 with
  |true=>zdu x.2.2.1 H x.2.1 x.2.2.2∧za4 loose H q r
  |false=>za4 loose H q r
theorem z3b{loose:List Nat}{H:AHeap}{q:Prop}:∀ {done:List (Nat×LOper×Env×AVal)},za4 loose H q done→(∀x∈done,x.1∈loose→(Jq x.2.2.1 H x.2.1).gives x.2.2.2)∧q
 |[],h=>⟨fun x hx=>absurd hx (List.not_mem_nil),h⟩
 |y::r,h=>by
  unfold za4 at h
  split at h
  ·obtain⟨h1,h2⟩:=h
   obtain⟨h3,h4⟩:=z3b h2
   refine⟨fun x hx hl=>?_,h4⟩
   rcases pU.1 hx with rfl|hx
   ·exact zjh h1
   ·exact h3 x hx hl
  ·rename_i hc
   obtain⟨h3,h4⟩:=z3b h
   refine⟨fun x hx hl=>?_,h4⟩
   rcases pU.1 hx with rfl|hx
   ·rw[List.contains_iff_mem.2 hl] at hc;cases hc
   ·exact h3 x hx hl
def y27(P:Program)(e:Env)(H:AHeap)(n:Nat)(K:AVal→AHeap→Nat→Prop)(lo:LOper):Prop:=
 match lo.guard with
 |none=>y2f P e H n K lo.op
 |some (g,want)=>match Y4 (e.get g) want with
  |some p=>z10 p H n (fun K=>y2f P e H n K lo.op) K
  |none=>False
theorem zvj{e:Env}{H:AHeap}{n:Nat}{K K':AVal→AHeap→Nat→Prop}{lo:LOper}(h:y27 P e H n K lo)(hk:∀r H n,K r H n→K' r H n):z1g P e H n K' lo:=by
 unfold y27 at h
 unfold z1g
 split at h
 ·rename_i hg;simp only[hg];exact z6h h hk
 ·rename_i g want hg
  simp only[hg]
  split at h
  ·rename_i p hp;simp only[hp];exact z3a h (fun h hk=>z6h h hk) hk
  ·exact h.elim
def y2l(b:Bool)(x:Nat×LOper×Env×AVal)(done:List (Nat×LOper×Env×AVal)):List (Nat×LOper×Env×AVal):=match b with
 |true=>x::done
 |false=>done
def yd(P:Program):List DItem→Nat→List (Nat×LOper×Env×AVal)→(Env→AHeap→Nat→Prop)→Env→AHeap→Nat→Prop
 |[],_,_,R,e,H,n=>R e H n
 |it::rest,p,done,R,e,H,n=>
  match kv it.lo.op with
  |true=>zyv (it.lo.sees e) H it.lo (fun v=>yd P rest (p+1) (y2l (Yj it.lo.op) (p,it.lo,it.lo.sees e,v) done) R (e.put it.lo.dst v) H n)
  |false=>y27 P (it.lo.sees e) H n (fun v H' n'=>za4 it.loose H' (yd P rest (p+1) done R (e.put it.lo.dst v) H' n') done) it.lo
theorem zub{R:Env→AHeap→Nat→Prop}:∀ (items:List DItem) {p:Nat} {done:List (Nat×LOper×Env×AVal)} {e:Env} {H:AHeap} {n:Nat},yd P items p done R e H n→xd P items p done R e H n
 |[],p,done,e,H,n,h=>h
 |it::rest,p,done,e,H,n,h=>by
  unfold yd at h
  unfold xd
  split at h
  ·rename_i hp
   obtain⟨v,h2,h3⟩:=zv1 h
   simp only[hp]
   refine⟨v,h2,zub rest ?_⟩
   cases hl:Yj it.lo.op<;>rw[hl] at h3<;>simpa[y2l] using h3
  ·rename_i hp
   simp only[hp]
   exact zvj h (fun r H' n' hh=>by
    obtain⟨h1,h2⟩:=z3b hh
    exact⟨h1,zub rest h2⟩)
def zda(P:Program)(N:Lay)(n0:Nat):LCode→(Exit→Env→AHeap→Nat→Prop)→Env→AHeap→Nat→Prop
 |.skip,Q,e,H,n=>Q .normal e H n
 |.region ops,Q,e,H,n=>zpm P ops (Q .normal) e H n
 |.quiet ops,Q,e,H,n=>yqs ops (Q .normal) e H n
 |.draw items,Q,e,H,n=>yd P items 0 [] (Q .normal) e H n
 |.draw2 a b items,Q,e,H,n=>yd P items 0 [] (fun e H n=>z8v (a.ev e) (b.ev e)∧Q .normal e H n) e H n
 |.seq a b,Q,e,H,n=>zda P N n0 a (fun ex e H n=>match ex with|.normal=>zda P N n0 b Q e H n|ex=>Q ex e H n) e H n
 |.cond c a b,Q,e,H,n=>match c.ev e with
  |.bool v=>Kv (c.needY e) ((v=true→zda P N n0 a Q e H n)∧(v=false→zda P N n0 b Q e H n))
  |_=>False
 |.block id c,Q,e,H,n=>zda P N n0 c (fun ex e H n=>match ex with|.exit i=>(match pA i id with|true=>Q .normal e H n|false=>Q (.exit i) e H n)|ex=>Q ex e H n) e H n
 |.loop c,Q,e,H,n=>LWp P N n0 (.loop c) Q e H n
 |.rng g ps a b,Q,e,H,n=>LWp P N n0 (.rng g ps a b) Q e H n
 |.dfr f t,Q,e,H,n=>zjn P f∧Q .normal (e.put (some t) .any) H n
 |.exit id,Q,e,H,n=>Q (.exit id) e H n
 |.ret,Q,e,H,n=>Q .ret e H n
theorem W5{N:Lay}{n0:Nat}{a b:LCode}{Q:Exit→Env→AHeap→Nat→Prop}{e:Env}{H:AHeap}{n:Nat}(h:LWp P N n0 a (fun ex e H n=>match ex with|.normal=>LWp P N n0 b Q e H n|ex=>Q ex e H n) e H n):LWp P N n0 (.seq a b) Q e H n:=by
 intro c hc ro hro I0 β0 H0 w0 I β w aa hX hI hE hN hD QQ hQ
 cases c with
 |seq x y=>
  simp only[zw] at hc
  split at hc<;>try (cases hc;done)
  rename_i x' y' hx hy
  simp only[p0,LCode.seq.injEq] at hc
  obtain⟨rfl,rfl⟩:=hc
  refine wpIn_seq (h x hx ro hro I0 β0 H0 w0 I β w aa hX hI hE hN hD _ ?_)
  intro ex e' H' n' I' β' w' a' g1 g2 g3 g4 g5 g6
  cases ex with
  |normal=>exact g1 y hy ro hro I0 β0 H0 w0 I' β' w' a' g6 g2 g3 g4 g5 QQ hQ
  |_=>exact hQ _ _ _ _ _ _ _ _ g1 g2 g3 g4 g5 g6
 |skip=>simp[zw] at hc
 |region id ops draw=>simp only[zw] at hc;split at hc<;>(try split at hc)<;>(try split at hc)<;>(try split at hc)<;>(try split at hc)<;>(first|(simp at hc;done)|(rcases Zb hc with⟨_,h⟩|⟨_,_,_,h⟩<;>cases h))
 |cond c a b=>simp only[zw] at hc;split at hc<;>simp at hc
 |block id c=>simp[zw] at hc
 |loop c=>simp[zw] at hc
 |exit id=>simp[zw] at hc
 |ret=>simp[zw] at hc
 |rangeFunc g ps x y=>simp only[zw] at hc;split at hc<;>simp at hc
 |_=>cases hc
theorem Jf{N:Lay}{n0 id:Nat}{a:LCode}{Q:Exit→Env→AHeap→Nat→Prop}{e:Env}{H:AHeap}{n:Nat}(h:LWp P N n0 a (fun ex e H n=>match ex with|.exit i=>if i=id then Q .normal e H n else Q (.exit i) e H n|ex=>Q ex e H n) e H n):LWp P N n0 (.block id a) Q e H n:=by
 intro c hc ro hro I0 β0 H0 w0 I β w aa hX hI hE hN hD QQ hQ
 cases c with
 |block id' x=>
  simp only[zw,q8] at hc
  obtain⟨x',hx,hc⟩:=hc
  simp only[LCode.block.injEq] at hc
  obtain⟨rfl,rfl⟩:=hc
  refine wpIn_block (h x hx ro hro I0 β0 H0 w0 I β w aa hX hI hE hN hD _ ?_)
  intro ex e' H' n' I' β' w' a' g1 g2 g3 g4 g5 g6
  cases ex with
  |exit i=>
   simp only at g1
   simp only[Exit.inBlock]
   split at g1
   ·rename_i hi;rw[if_pos hi];exact hQ _ _ _ _ _ _ _ _ g1 g2 g3 g4 g5 g6
   ·rename_i hi;rw[if_neg hi];exact hQ _ _ _ _ _ _ _ _ g1 g2 g3 g4 g5 g6
  |_=>exact hQ _ _ _ _ _ _ _ _ g1 g2 g3 g4 g5 g6
 |skip=>simp[zw] at hc
 |region id ops draw=>simp only[zw] at hc;split at hc<;>(try split at hc)<;>(try split at hc)<;>(try split at hc)<;>(try split at hc)<;>(first|(simp at hc;done)|(rcases Zb hc with⟨_,h⟩|⟨_,_,_,h⟩<;>cases h))
 |seq a b=>simp only[zw] at hc;split at hc<;>simp at hc
 |cond c a b=>simp only[zw] at hc;split at hc<;>simp at hc
 |loop c=>simp[zw] at hc
 |exit id=>simp[zw] at hc
 |ret=>simp[zw] at hc
 |rangeFunc g ps x y=>simp only[zw] at hc;split at hc<;>simp at hc
 |_=>cases hc
theorem Xj{N:Lay}{n0:Nat}{c:LOpd}{a b:LCode}{v:Bool}{Q:Exit→Env→AHeap→Nat→Prop}{e:Env}{H:AHeap}{n:Nat}(hv:c.ev e=.bool v)(hn:c.need e)(h1:v=true→LWp P N n0 a Q e H n)(h2:v=false→LWp P N n0 b Q e H n):LWp P N n0 (.cond c a b) Q e H n:=by
 intro cc hc ro hro I0 β0 H0 w0 I β w aa hX hI hE hN hD QQ hQ
 cases cc with
 |cond cx x y=>
  simp only[zw] at hc
  split at hc<;>try (cases hc;done)
  rename_i c' x' y' hcx hx hy
  simp only[p0,LCode.cond.injEq] at hc
  obtain⟨rfl,rfl,rfl⟩:=hc
  have hr:=yg hE hcx hn
  rw[hv] at hr
  exact wpIn_cond_split hr.bool_inv (fun hv=>h1 hv x hx ro hro I0 β0 H0 w0 I β w aa hX hI hE hN hD QQ hQ) (fun hv=>h2 hv y hy ro hro I0 β0 H0 w0 I β w aa hX hI hE hN hD QQ hQ)
 |skip=>simp[zw] at hc
 |region id ops draw=>simp only[zw] at hc;split at hc<;>(try split at hc)<;>(try split at hc)<;>(try split at hc)<;>(try split at hc)<;>(first|(simp at hc;done)|(rcases Zb hc with⟨_,h⟩|⟨_,_,_,h⟩<;>cases h))
 |seq a b=>simp only[zw] at hc;split at hc<;>simp at hc
 |block id c=>simp[zw] at hc
 |loop c=>simp[zw] at hc
 |exit id=>simp[zw] at hc
 |ret=>simp[zw] at hc
 |rangeFunc g ps x y=>simp only[zw] at hc;split at hc<;>simp at hc
 |_=>cases hc
theorem Y7{N:Lay}{n0:Nat}:∀ (lc:LCode) {Q:Exit→Env→AHeap→Nat→Prop} {e:Env} {H:AHeap} {n:Nat},zda P N n0 lc Q e H n→LWp P N n0 lc Q e H n
 |.skip,Q,e,H,n,h=>yz .skip Q e H n h
 |.region ops,Q,e,H,n,h=>yz (.region ops) Q e H n (Wz ops h)
 |.quiet ops,Q,e,H,n,h=>yz (.quiet ops) Q e H n (z9m ops h)
 |.draw items,Q,e,H,n,h=>yz (.draw items) Q e H n (zub items h)
 |.draw2 a b items,Q,e,H,n,h=>yz (.draw2 a b items) Q e H n (zub items h)
 |.seq a b,Q,e,H,n,h=>by
  refine W5 ((Y7 a h).mono fun ex e H n hx=>?_)
  cases ex with
  |normal=>exact Y7 b hx
  |_=>exact hx
 |.cond c a b,Q,e,H,n,h=>by
  unfold zda at h
  split at h<;>try (exact h.elim)
  rename_i v hv
  rw[wo,zo] at h
  exact Xj hv h.1 (fun hh=>Y7 a (h.2.1 hh)) (fun hh=>Y7 b (h.2.2 hh))
 |.block id c,Q,e,H,n,h=>by
  refine Jf ((Y7 c h).mono fun ex e H n hx=>?_)
  cases ex with
  |exit i=>
   simp only at hx ⊢
   split at hx
   ·rename_i hi;rw[if_pos (pB hi)];exact hx
   ·rename_i hi;rw[if_neg (pW hi)];exact hx
  |_=>exact hx
 |.loop c,Q,e,H,n,h=>h
 |.rng g ps a b,Q,e,H,n,h=>h
 |.dfr f t,Q,e,H,n,h=>yz (.dfr f t) Q e H n h
 |.exit id,Q,e,H,n,h=>yz (.exit id) Q e H n h
 |.ret,Q,e,H,n,h=>yz .ret Q e H n h
end Go.Fx
namespace Go.Fx
variable {P:Program} {N:Lay} {n0:Nat}
def Sim(n0:Nat)(e':Env)(H':AHeap)(n':Nat)(e:Env)(L:AHeap)(n:Nat):Prop:=
 ∀ (I0:Nat→Nat→Prop) (β0:Id→Option CLoc) (H0:AHeap) (w0:World) (I:Nat→Nat→Prop) (β:Id→Option CLoc) (w:World) (a:Act),Ext I0 β0 n0 H0 w0 I β n' H' w→Inv I β n' H' w→RepEnv I β n' w e' a →
  ∃I2 β2,Ext I0 β0 n0 H0 w0 I2 β2 n L w∧Inv I2 β2 n L w∧RepEnv I2 β2 n w e a
theorem Sim.of{n n':Nat}{e e':Env}{H' L:AHeap}(h:y7t n0 n e' H' e L):Sim n0 e' H' n' e L n:=by
 intro I0 β0 H0 w0 I β w a hX hI hE
 obtain⟨F,ρ,hρ,hEnv,hHeap⟩:=h
 obtain⟨k1,k2⟩:=zg2 hX hI hρ hHeap
 exact⟨_,_,k1,k2,fun t=>z0w hI hρ (hEnv.get t) (hE t)⟩
theorem Sim.trans{n n' n'':Nat}{e e' e'':Env}{H H' H'':AHeap}(a:Sim n0 e'' H'' n'' e' H' n')(b:Sim n0 e' H' n' e H n):Sim n0 e'' H'' n'' e H n:=by
 intro I0 β0 H0 w0 I β w ac hX hI hE
 obtain⟨I2,β2,h1,h2,h3⟩:=a I0 β0 H0 w0 I β w ac hX hI hE
 exact b I0 β0 H0 w0 I2 β2 w ac h1 h2 h3
theorem LWp.sim{n n':Nat}{lc:LCode}{Q:Exit→Env→AHeap→Nat→Prop}{H' L:AHeap}{e e':Env}(hs:Sim n0 e' H' n' e L n)(h:LWp P N n0 lc Q e L n):LWp P N n0 lc Q e' H' n':=by
 intro c hc ro hro J0 γ0 G0 w0 I β w a hX hI hE hN hD QQ hQ
 obtain⟨I2,β2,k1,k2,k3⟩:=hs J0 γ0 G0 w0 I β w a hX hI hE
 exact h c hc ro hro J0 γ0 G0 w0 I2 β2 w a k1 k2 k3 hN hD QQ hQ
def Yk(P:Program)(N:Lay)(n0:Nat)(b:LCode)(Q:Exit→Env→AHeap→Nat→Prop):Exit→Env→AHeap→Nat→Prop:=fun ex e H n=>match ex with
 |.normal=>LWp P N n0 b Q e H n
 |ex=>Q ex e H n
def x4(id:Nat)(Q:Exit→Env→AHeap→Nat→Prop):Exit→Env→AHeap→Nat→Prop:=fun ex e H n=>match ex with
 |.exit i=>(match pA i id with|true=>Q .normal e H n|false=>Q (.exit i) e H n)
 |ex=>Q ex e H n
theorem wn{a b:LCode}{Q:Exit→Env→AHeap→Nat→Prop}{e:Env}{H:AHeap}{n:Nat}(h:LWp P N n0 a (Yk P N n0 b Q) e H n):LWp P N n0 (.seq a b) Q e H n:=
 W5 (h.mono fun ex e H n hx=>by cases ex<;>exact hx)
theorem xk{id:Nat}{a:LCode}{Q:Exit→Env→AHeap→Nat→Prop}{e:Env}{H:AHeap}{n:Nat}(h:LWp P N n0 a (x4 id Q) e H n):LWp P N n0 (.block id a) Q e H n:=
 Jf (h.mono fun ex e H n hx=>by
  cases ex with
  |exit i=>
   simp only[x4] at hx
   simp only
   split at hx
   ·rename_i hi;rw[if_pos (pB hi)];exact hx
   ·rename_i hi;rw[if_neg (pW hi)];exact hx
  |_=>exact hx)
theorem y4{c:LOpd}{a b:LCode}{v:Bool}{Q:Exit→Env→AHeap→Nat→Prop}{e:Env}{H:AHeap}{n:Nat}(hv:c.ev e=.bool v)(hn:c.need e)(h1:v=true→LWp P N n0 a Q e H n)(h2:v=false→LWp P N n0 b Q e H n):LWp P N n0 (.cond c a b) Q e H n:=Xj hv hn h1 h2
theorem x6{Q:Exit→Env→AHeap→Nat→Prop}{e:Env}{H:AHeap}{n:Nat}(h:Q .normal e H n):LWp P N n0 .skip Q e H n:=Y7 .skip h
theorem wl{Q:Exit→Env→AHeap→Nat→Prop}{e:Env}{H:AHeap}{n:Nat}(h:Q .ret e H n):LWp P N n0 .ret Q e H n:=Y7 .ret h
theorem Xh{i:Nat}{Q:Exit→Env→AHeap→Nat→Prop}{e:Env}{H:AHeap}{n:Nat}(h:Q (.exit i) e H n):LWp P N n0 (.exit i) Q e H n:=Y7 (.exit i) h
theorem J1{ops:List LOper}{Q:Exit→Env→AHeap→Nat→Prop}{e:Env}{H:AHeap}{n:Nat}(h:zpm P ops (Q .normal) e H n):LWp P N n0 (.region ops) Q e H n:=Y7 (.region ops) h
theorem y5p{ops:List LOper}{Q:Exit→Env→AHeap→Nat→Prop}{e:Env}{H:AHeap}{n:Nat}(h:yqs ops (Q .normal) e H n):LWp P N n0 (.quiet ops) Q e H n:=Y7 (.quiet ops) h
theorem Kr{items:List DItem}{Q:Exit→Env→AHeap→Nat→Prop}{e:Env}{H:AHeap}{n:Nat}(h:yd P items 0 [] (Q .normal) e H n):LWp P N n0 (.draw items) Q e H n:=Y7 (.draw items) h
def Kb{σ ρ:Type}(b:σ→Option (σ ⊕ ρ)):Nat→σ→Option ρ
 |0,_=>none
 |m+1,s=>match b s with
  |none=>none
  |some (.inl s')=>Kb b m s'
  |some (.inr r)=>some r
theorem z0d{σ ρ:Type}{b:σ→Option (σ ⊕ ρ)}:∀ {m k:Nat} {s:σ} {r:ρ},m≤k→Kb b m s=some r→Kb b k s=some r
 |0,_,_,_,_,h=>by cases h
 |m+1,0,_,_,hk,_=>by omega
 |m+1,k+1,s,r,hk,h=>by
  unfold Kb at h ⊢
  split at h
  ·cases h
  ·exact z0d (by omega) h
  ·exact h
noncomputable def zcb{σ ρ:Type}(b:σ→Option (σ ⊕ ρ))(s:σ):Option ρ:=by
 classical
 exact if h:∃m r,Kb b m s=some r then some (pT (pN h)) else none
theorem Jl{σ ρ:Type}{b:σ→Option (σ ⊕ ρ)}{s:σ}{r:ρ}:zcb b s=some r↔∃m,Kb b m s=some r:=by
 unfold zcb
 constructor
 ·intro h
  split at h
  ·rename_i hex
   simp only[p0] at h
   exact⟨_,by rw[←h];exact pN (pN hex)⟩
  ·cases h
 ·rintro⟨m,hm⟩
  have hex:∃m r,Kb b m s=some r:=⟨m,r,hm⟩
  rw[dif_pos hex]
  have h2:=pN (pN hex)
  have h3:=z0d (Nat.le_max_left m (pT hex)) hm
  have h4:=z0d (Nat.le_max_right m (pT hex)) h2
  rw[h3] at h4
  rw[h4]
theorem zvz{σ ρ:Type}(b:σ→Option (σ ⊕ ρ))(s:σ):zcb b s=match b s with
 |none=>none
 |some (.inl s')=>zcb b s'
 |some (.inr r)=>some r:=by
 apply Option.ext
 intro r
 cases hb:b s with
 |none=>
  simp only[reduceCtorEq,iff_false]
  rw[Jl]
  rintro⟨m,hm⟩
  cases m with
  |zero=>cases hm
  |succ m=>simp[Kb,hb] at hm
 |some x=>
  cases x with
  |inl s'=>
   simp only
   rw[Jl,Jl]
   constructor
   ·rintro⟨m,hm⟩
    cases m with
    |zero=>cases hm
    |succ m=>exact⟨m,by simpa[Kb,hb] using hm⟩
   ·rintro⟨m,hm⟩
    exact⟨m+1,by simpa[Kb,hb] using hm⟩
  |inr r'=>
   simp only[p0]
   rw[Jl]
   constructor
   ·rintro⟨m,hm⟩
    cases m with
    |zero=>cases hm
    |succ m=>simpa[Kb,hb] using hm
   ·intro h
    exact⟨1,by simp[Kb,hb,h]⟩
def Z7{σ ρ:Type}(n0 nL:Nat)(env:σ→Env)(hp:σ→AHeap)(QX:ρ→Exit→Env→AHeap→Nat→Prop):σ ⊕ ρ→Exit→Env→AHeap→Nat→Prop
 |.inl s,ex,e,H,n=>ex=.normal∧Sim n0 e H n (env s) (hp s) nL
 |.inr r,ex,e,H,n=>ex≠.normal∧QX r ex e H n
theorem zkp{σ ρ:Type}{c:LCode}{nL:Nat}(body:σ→Option (σ ⊕ ρ))(env:σ→Env)(hp:σ→AHeap)(QX:ρ→Exit→Env→AHeap→Nat→Prop)
 (h:∀s o,body s=some o→LWp P N n0 c (Z7 n0 nL env hp QX o) (env s) (hp s) nL) {s:σ} {r:ρ} (hr:zcb body s=some r):LWp P N n0 (.loop c) (QX r) (env s) (hp s) nL:=by
 obtain⟨m0,hm0⟩:=Jl.1 hr
 intro cc hc ro hro J0 γ0 G0 w0 I β w a hX hI hE hN hD QQ hQ
 cases cc with
 |loop c'=>
  simp only[zw,q8] at hc
  obtain⟨b',hb,hc⟩:=hc
  simp only[LCode.loop.injEq] at hc
  subst hc
  let Inside:Nat→Act→World→Prop:=fun m a w=>∃s I β,Kb body m s=some r∧Ext J0 γ0 n0 G0 w0 I β nL (hp s) w∧Inv I β nL (hp s) w∧RepEnv I β nL w (env s) a∧a.tmps.size=N.n∧Dfr P w0.heap.size w a.defers
  let mu:Act→World→Nat:=fun a w=>by
   classical
   exact if h:∃m,Inside m a w then pT (Y3 _ h) else 0
  have mu_spec:∀a w,(∃m,Inside m a w)→Inside (mu a w) a w∧∀k,k<mu a w→¬Inside k a w:=by
   intro a w h
   have:mu a w=pT (Y3 _ h):=by simp only[mu];rw[dif_pos h]
   rw[this]
   exact pN (Y3 _ h)
  refine wpIn_loop (fun a w=>∃m,Inside m a w) mu ⟨m0,s,I,β,hm0,hX,hI,hE,hN,hD⟩ ?_
  intro a w hin
  obtain⟨⟨s,I,β,hm,k1,k2,k3,k4,k5⟩,_⟩:=mu_spec a w hin
  cases hmu:mu a w with
  |zero=>rw[hmu] at hm;cases hm
  |succ m=>
   rw[hmu] at hm
   unfold Kb at hm
   cases hbs:body s with
   |none=>rw[hbs] at hm;cases hm
   |some o=>
    rw[hbs] at hm
    refine h s o hbs c' hb ro hro J0 γ0 G0 w0 I β w a k1 k2 k3 k4 k5 _ ?_
    intro ex e' H' n' I' β' w' a' g1 g2 g3 g4 g5 g6
    cases o with
    |inl s'=>
     obtain⟨rfl,hsim⟩:=g1
     obtain⟨I2,β2,q1,q2,q3⟩:=hsim J0 γ0 G0 w0 I' β' w' a' g6 g2 g3
     have hin':Inside m a' w':=⟨s',I2,β2,hm,q1,q2,q3,g4,g5⟩
     refine⟨⟨_,hin'⟩,?_⟩
     obtain⟨_,hleast⟩:=mu_spec a' w' ⟨_,hin'⟩
     have:¬m<mu a' w':=fun h=>hleast _ h hin'
     omega
    |inr r'=>
     obtain⟨hne,hq⟩:=g1
     simp only[p0] at hm
     subst hm
     cases ex with
     |normal=>exact absurd rfl hne
     |_=>exact hQ _ _ _ _ _ _ _ _ hq g2 g3 g4 g5 g6
 |skip=>cases hc
 |region id ops draw=>simp only[zw] at hc;split at hc<;>(try split at hc)<;>(try split at hc)<;>(try split at hc)<;>(try split at hc)<;>(first|(simp at hc;done)|(rcases Zb hc with⟨_,h⟩|⟨_,_,_,h⟩<;>cases h))
 |seq a b=>simp only[zw] at hc;split at hc<;>simp at hc
 |cond c a b=>simp only[zw] at hc;split at hc<;>simp at hc
 |block id c=>simp[zw] at hc
 |exit id=>cases hc
 |ret=>cases hc
 |rangeFunc g ps x y=>simp only[zw] at hc;split at hc<;>simp at hc
 |_=>cases hc
noncomputable def Y5{σ ρ:Type}(m:Option Nat)(b:σ→Option (σ ⊕ ρ))(s:σ):Option ρ:=match m with
 |none=>zcb b s
 |some k=>Kb b k s
theorem y0u{σ ρ:Type}{m:Option Nat}{b:σ→Option (σ ⊕ ρ)}{s:σ}{r:ρ}(h:Y5 m b s=some r):zcb b s=some r:=by
 cases m with
 |none=>exact h
 |some k=>exact Jl.2 ⟨k,h⟩
theorem wy{σ ρ:Type}{c:LCode}{nL:Nat}{m:Option Nat}(body:σ→Option (σ ⊕ ρ))(env:σ→Env)(hp:σ→AHeap)(QX:ρ→Exit→Env→AHeap→Nat→Prop)
 (h:∀s o,body s=some o→LWp P N n0 c (Z7 n0 nL env hp QX o) (env s) (hp s) nL) {s:σ} {r:ρ} (hr:Y5 m body s=some r):LWp P N n0 (.loop c) (QX r) (env s) (hp s) nL:=zkp body env hp QX h (y0u hr)
def z9h:List (Id×Id)→Id→Option Id
 |[],_=>none
 |(a,b)::r,i=>if a=i then some b else z9h r i
theorem Zv:∀ {M:List (Id×Id)} {i k:Id},z9h M i=some k→(i,k)∈M
 |[],i,k,h=>by cases h
 |(a,b)::r,i,k,h=>by
  unfold z9h at h
  split at h
  ·rename_i hab
   simp only[p0] at h
   subst hab;subst h
   exact List.mem_cons_self ..
  ·exact List.mem_cons_of_mem _ (Zv h)
def rho(n0:Nat)(M:List (Id×Id))(id:Id):Option Id:=match z9h M id with
 |some k=>some k
 |none=>if id.1<n0∧¬(M.map (·.2)).contains id=true then some id else none
def z14(n0 n:Nat)(H:AHeap)(M:List (Id×Id)):Bool:=
 pE n0 n&&M.all (fun x=>pE n0 x.1.1&&pE (x.1.1+1) n&&(pE n0 x.2.1 || (H.get x.2).isSome))&&(M.map (·.2)).Nodup
theorem U3{M:List (Id×Id)}{i j k:Id}(h:(M.map (·.2)).Nodup)(h1:(i,k)∈M)(h2:(j,k)∈M):i=j:=by
 induction M with
 |nil=>cases h1
 |cons x r ih=>
  simp only[pV,List.nodup_cons] at h
  rcases pU.1 h1 with e1|h1<;>rcases pU.1 h2 with e2|h2
  ·rw[←e1] at e2;simp only[pK] at e2;exact e2.1.symm
  ·exact absurd (pF.2 ⟨_,h2,by rw[←e1]⟩) h.1
  ·exact absurd (pF.2 ⟨_,h1,by rw[←e2]⟩) h.1
  ·exact ih h.2 h1 h2
theorem Jy{n0:Nat}{M:List (Id×Id)}{i k:Id}(h:rho n0 M i=some k):(i,k)∈M∨(i.1<n0∧k=i∧k∉M.map (·.2)):=by
 unfold rho at h
 split at h
 ·rename_i k' hk;simp only[p0] at h;subst h;exact .inl (Zv hk)
 ·split at h
  ·rename_i hc
   simp only[p0] at h
   subst h
   exact .inr ⟨hc.1,rfl,by simpa using hc.2⟩
  ·cases h
structure RhoChk(n0 n:Nat)(H:AHeap)(M:List (Id×Id)):Prop where
 le:n0≤n
 all:∀x∈M,n0≤x.1.1∧x.1.1<n∧(n0≤x.2.1∨H.get x.2≠none)
 nd:(M.map (·.2)).Nodup
theorem z9d{n0 n:Nat}{H:AHeap}{M:List (Id×Id)}(h:z14 n0 n H M=true):RhoChk n0 n H M:=by
 unfold z14 at h
 simp only[p9,pD,decide_eq_true_eq,Bool.or_eq_true] at h
 obtain⟨⟨h0,h1⟩,h2⟩:=h
 refine⟨pC h0,fun x hx=>?_,h2⟩
 obtain⟨⟨a,b⟩,c⟩:=h1 x hx
 refine⟨pC a,pC b,?_⟩
 rcases c with c|c
 ·exact .inl (pC c)
 ·right;intro hn;rw[hn] at c;cases c
theorem zkq{n0 n:Nat}{H:AHeap}{M:List (Id×Id)}(h:RhoChk n0 n H M){i:Id}(hi:i.1<n0):rho n0 M i=some i∨(rho n0 M i=none∧H.get i≠none):=by
 have hl:z9h M i=none:=by
  cases hk:z9h M i with
  |none=>rfl
  |some k=>have:=(h.all _ (Zv hk)).1;simp only at this;omega
 unfold rho
 rw[hl]
 by_cases hc:(M.map (·.2)).contains i=true
 ·right
  refine⟨by simp only;rw[if_neg (fun hh=>hh.2 hc)],?_⟩
  simp only[pO,List.any_eq_true,beq_iff_eq] at hc
  obtain⟨k,hk,rfl⟩:=hc
  obtain⟨x,hx,rfl⟩:=pF.1 hk
  rcases(h.all x hx).2.2 with h3|h3
  ·omega
  ·exact h3
 ·left
  simp only
  rw[if_pos ⟨hi,hc⟩]
theorem y46{n0 n:Nat}{H:AHeap}{M:List (Id×Id)}{F:Id→Bool}(h:RhoChk n0 n H M)(hF:∀i:Id,i.1<n0→F i=false):RhoOk n0 n F H (rho n0 M):=by
 refine⟨fun i j k hi hj=>?_,fun i k hi=>?_,fun i hi=>?_,fun i k hi hk=>?_,h.le⟩
 ·rcases Jy hi with g1|⟨g1,g1',g1''⟩<;>rcases Jy hj with g2|⟨g2,g2',g2''⟩
  ·exact U3 h.nd g1 g2
  ·exact absurd (pF.2 ⟨_,g1,rfl⟩) g2''
  ·exact absurd (pF.2 ⟨_,g2,rfl⟩) g1''
  ·rw[←g1',←g2']
 ·rcases Jy hi with g|⟨g,g',_⟩
  ·exact(h.all _ g).2.1
  ·have:=h.le;omega
 ·rcases zkq h hi with g|g
  ·exact .inl ⟨g,hF i hi⟩
  ·exact .inr g
 ·rcases Jy hk with g|⟨g,g',_⟩
  ·exact(h.all _ g).2.2
  ·omega
theorem zuj{n0 n:Nat}{H:AHeap}{M:List (Id×Id)}{F:Id→Bool}(h:z14 n0 n H M=true)(hF:∀i:Id,i.1<n0→F i=false):RhoOk n0 n F H (rho n0 M):=y46 (z9d h) hF
theorem jx{α:Type}[Inhabited α](f:α→List AVal)(l:List α)(i:Nat)(h:i<l.length):(l.map f).getD i []=f (l.getD i default):=by
 simp[qC,h]
theorem Y1{α:Type}{l:List α}{j:Int}(h:0≤j∧j<(l.length:Int)):j.toNat<l.length:=by omega
theorem zj{c:Prop}[Decidable c]{α:Type}{x:Option α}{o:α}(h:(if c then x else none)=some o):c∧x=some o:=by
 split at h
 ·exact⟨by assumption,h⟩
 ·cases h
theorem zd{c:Bool}{α:Type}{x y:Option α}{o:α}(hc:c=true)(h:(if c=true then x else y)=some o):x=some o:=by rw[if_pos hc] at h;exact h
theorem zk{c:Bool}{α:Type}{x y:Option α}{o:α}(hc:c=false)(h:(if c=true then x else y)=some o):y=some o:=by subst hc;exact h
theorem bind_some{α γ:Type}{x:Option α}{f:α→Option γ}{o:γ}(h:x.bind f=some o):∃r,x=some r∧f r=some o:=Option.bind_eq_some_iff.1 h
theorem bqt{c:Bool}(h:c=true):(c==true)=true:=by rw[h];rfl
theorem bqf{c:Bool}(h:c=false):(c==false)=true:=by rw[h];rfl
theorem z3u{a b:Bool}(h1:a=true)(h2:b=true):(a&&b)=true:=by rw[h1,h2];rfl
theorem Ux{α:Type}(f:α→List AVal)(l m:List α):l.map f++m.map f=(l++m).map f:=List.map_append.symm
theorem z3z{α:Type}[Inhabited α](f:α→List AVal)(l:List α)(i off:Nat)(cs:List AVal)(y:α)(h:i<l.length)(hy:uh (f (l.getD i default)) off cs=f y):(l.map f).set i (uh ((l.map f).getD i []) off cs)=(l.set i y).map f:=by
 rw[jx f l i h,hy,List.map_set]
abbrev W(n:Int):Int:=IntKind.wrap .i64 n
def y8f(c:UInt8):Int:=(c.toNat:Int)
def y8e(n:Int):UInt8:=UInt8.ofNat n.toNat
def y8j(x:Int):List AVal:=[.int .u8 x]
def VwL(F:Id→Bool)(H:AHeap)(ρ:Id→Option Id)(n:Nat):List AVal→List AVal→Prop
 |[],[]=>True
 |x::xs,y::ys=>Vw F H ρ n x y∧VwL F H ρ n xs ys
 |_,_=>False
theorem Xe{F:Id→Bool}{H:AHeap}{ρ:Id→Option Id}{n:Nat}:∀ {xs ys:List AVal},VwL F H ρ n xs ys→xs.length=ys.length∧∀ (i:Nat) (x y:AVal),xs[i]?=some x→ys[i]?=some y→Vw F H ρ n x y
 |[],[],_=>⟨rfl,fun i x y h _=>by simp at h⟩
 |[],_::_,h=>h.elim
 |_::_,[],h=>h.elim
 |x::xs,y::ys,h=>by
  obtain⟨h1,h2⟩:=Xe h.2
  refine⟨by simp[h1],fun i a b ha hb=>?_⟩
  cases i with
  |zero=>simp only[pR,p0] at ha hb;subst ha;subst hb;exact h.1
  |succ i=>exact h2 i a b (by simpa using ha) (by simpa using hb)
theorem Vw.tupL{F:Id→Bool}{H:AHeap}{ρ:Id→Option Id}{n:Nat}{xs ys:List AVal}(h:VwL F H ρ n xs ys):Vw F H ρ n (.tup xs) (.tup ys):=.tup _ _ (Xe h).1 (Xe h).2
theorem Vw.aggL{F:Id→Bool}{H:AHeap}{ρ:Id→Option Id}{n:Nat}{xs ys:List AVal}(h:VwL F H ρ n xs ys):Vw F H ρ n (.agg xs) (.agg ys):=.agg _ _ (Xe h).1 (Xe h).2
theorem BVw.oneL{F:Id→Bool}{H:AHeap}{ρ:Id→Option Id}{n:Nat}{xs ys:List AVal}(h:VwL F H ρ n xs ys):BVw F H ρ n (.one xs) (.one ys):=.one _ _ (Xe h).1 (Xe h).2
theorem z7s{F:Id→Bool}{H:AHeap}{ρ:Id→Option Id}{n:Nat}:∀ {xs:List AVal},AVal.nid.nidL xs=true→∀ (i:Nat) (x y:AVal),xs[i]?=some x→xs[i]?=some y→Vw F H ρ n x y
 |[],_,i,x,y,h,_=>by simp at h
 |z::r,hn,i,x,y,h,h'=>by
  simp only[AVal.nid.nidL,p9] at hn
  cases i with
  |zero=>simp only[pR,p0] at h h';subst h;subst h';exact .same _ hn.1
  |succ i=>exact z7s hn.2 i x y (by simpa using h) (by simpa using h')
theorem BVw.enc{F:Id→Bool}{H:AHeap}{ρ:Id→Option Id}{n:Nat}{α:Type}(f:α→List AVal)(hf:∀x,AVal.nid.nidL (f x)=true)(s:Nat)(l:List α):BVw F H ρ n (.rows s (l.map f)) (.rows s (l.map f)):=by
 refine .rows s _ _ rfl fun i r r' h h'=>?_
 rw[h] at h'
 simp only[p0] at h'
 subst h'
 rw[qD] at h
 cases hl:l[i]? with
 |none=>rw[hl] at h;cases h
 |some x=>
  rw[hl] at h
  simp only[pZ,p0] at h
  subst h
  exact⟨rfl,z7s (hf x)⟩
theorem Vw.frzEnc{F:Id→Bool}{H:AHeap}{ρ:Id→Option Id}{n:Nat}{α:Type}(f:α→List AVal)(hf:∀x,AVal.nid.nidL (f x)=true∧∀y∈f x,y.imm=some y){b:Id}{s len:Nat}{fl:Bool}{fl':Bool}{l:List α}(hff:fl'=true→fl=true)(hF:F b=true)(hg:H.get b=some (.rows s (l.map f)))(hl:len=l.length):Vw F H ρ n (.msl b s 0 len fl) (.isl s (l.map f) fl'):=by
 subst hl
 refine .frz b s 0 l.length fl fl' (l.map f) (l.map f) hff hF hg (by simp) (by simp) (fun i r r' h h'=>?_) (fun i r r' j x y h h' hx hy=>?_) (fun r hr y hy=>?_)
 ·rw[Nat.zero_add,h'] at h;simp only[p0] at h;rw[h]
 ·rw[Nat.zero_add,h'] at h
  simp only[p0] at h
  subst h
  rw[qD] at h'
  cases hl:l[i]? with
  |none=>rw[hl] at h';cases h'
  |some z=>
   rw[hl] at h'
   simp only[pZ,p0] at h'
   subst h'
   exact z7s (hf z).1 j x y hx hy
 ·obtain⟨z,_,rfl⟩:=pF.1 hr
  exact(hf z).2 y hy
theorem z0v:∀H:AHeap,AHeap.without (fun _=>false) H=H
 |[]=>rfl
 |(k,b)::r=>by
  simp only[AHeap.without,pM,if_false]
  rw[z0v r]
theorem PFn.call{f:FuncId}{args args0:List AVal}{R:AVal}(h:PFn P f args0 R){H:AHeap}{n:Nat}{K:AVal→AHeap→Nat→Prop}(ha:ArgsTo (fun _=>false) H (fun _=>none) 0 args args0)(hk:K R H n):ACalls P f args H n K:=
 PFn.use h ha (fun x hx=>by cases hx) (by rw[z0v];exact hk)
theorem Vw.frzB{F:Id→Bool}{H:AHeap}{ρ:Id→Option Id}{n:Nat}{α:Type}(f:α→List AVal)(hf:∀x,AVal.nid.nidL (f x)=true∧∀y∈f x,y.imm=some y){b:Id}{s len:Nat}{fl:Bool}{fl':Bool}{l:List α}(hff:fl'=true→fl=true)(hF:F b=true)(hg:H.get b=some (.rows s (l.map f)))(hl:len=l.length):Vw F H ρ n (.msl b s 0 len fl) (.isl s (l.map f) fl'):=Vw.frzEnc f hf hff hF hg hl
theorem y7{n n':Nat}{M:List (Id×Id)}{e' e:Env}{H' L:AHeap}(hρ:z14 n0 n H' M=true)(hE:EnvTo (fun _=>false) H' (rho n0 M) n e' e)(hH:HeapTo (fun _=>false) H' (rho n0 M) n0 n L):Sim n0 e' H' n' e L n:=Sim.of ⟨_,_,zuj hρ (fun _ _=>rfl),hE,hH.get⟩
theorem Yc{α:Type}(f:α→List AVal){l:List α}{i:Nat}(h:i<l.length):i<(l.map f).length:=by rw[List.length_map];exact h
theorem uz{α:Type}(f:α→List AVal){l:List α}{j:Int}(h:0≤j∧j<((l.map f).length:Int)):j.toNat<l.length:=by rw[List.length_map] at h;omega
theorem y5k{α:Type}(f:α→List AVal){s:Nat}{rows:List (List AVal)}{l:List α}{a b:Bool}(h1:rows=l.map f)(h2:a=b):AVal.isl s rows a=.isl s (l.map f) b:=by rw[h1,h2]
theorem slB{α:Type}(f:α→List AVal)(l:List α)(b:Nat):((l.map f).take b).drop 0=(l.take b).map f:=by rw[List.map_take];rfl
end Go.Fx
namespace Go.Fx
variable {P:Program}
theorem ACalls.sub{f:Fn}{args:List AVal}{H:AHeap}{n:Nat}{K:AVal→AHeap→Nat→Prop}
 (h:ACalls P f args H n (fun r H' n'=>∃H2,(∀id blk,H2.get id=some blk→H'.get id=some blk)∧K r H2 n')):ACalls P f args H n K:=by
 refine⟨h.1,fun I β w vs hI hl hr=>(h.2 I β w vs hI hl hr).mono ?_⟩
 rintro ee w' ⟨r,v,H',n',I',β',he,⟨H2,h1,h2⟩,hI',hr',hx⟩
 exact⟨r,v,H2,n',I',β',he,h2,Inv.sub h1 hI',hr',Ext.sub h1 hx⟩
theorem Ut{H:AHeap}{id:Id}{b:ABlock}(h:H.get id=some b):(id,b)∈H:=by
 induction H with
 |nil=>simp[AHeap.get] at h
 |cons x r ih=>
  obtain⟨k,c⟩:=x
  by_cases hk:k=id
  ·subst hk;rw[AHeap.get_cons_same] at h;simp only[p0] at h;subst h;exact List.mem_cons_self ..
  ·rw[AHeap.get_cons_other _ _ hk] at h;exact List.mem_cons_of_mem _ (ih h)
theorem z57{H:AHeap}{id:Id}{b:ABlock}(hn:(H.map (·.1)).Nodup)(h:(id,b)∈H):H.get id=some b:=by
 induction H with
 |nil=>cases h
 |cons x r ih=>
  obtain⟨k,c⟩:=x
  simp only[pV,List.nodup_cons] at hn
  rcases pU.1 h with h|h
  ·simp only[pK] at h;obtain⟨rfl,rfl⟩:=h;exact AHeap.get_cons_same _ _ _
  ·have:k≠id:=fun hk=>by subst hk;exact hn.1 (pF.2 ⟨_,h,rfl⟩)
   rw[AHeap.get_cons_other _ _ this];exact ih hn.2 h
def noR(r:Nat)(H:AHeap):Bool:=H.all fun x=>!(pA x.1.1 r)
theorem Vt{r:Nat}{H:AHeap}(h:noR r H=true){id:Id}(hid:id.1=r):H.get id=none:=by
 cases hg:H.get id with
 |none=>rfl
 |some b=>
  have hm:=Ut hg
  unfold noR at h
  rw[pD] at h
  have:=h _ hm
  simp only[hid] at this
  simp at this
mutual
theorem Wn{g h:Id→Id}:∀ (x:AVal),(x.ren g).ren h=x.ren (fun i=>h (g i))
 |.any=>rfl
 |.bool _=>rfl
 |.int _ _=>rfl
 |.str _=>rfl
 |.val _=>rfl
 |.isl _ _ _=>rfl
 |.iptr _ _ _ _=>rfl
 |.osl _ _ _=>rfl
 |.ptr _ _ _=>rfl
 |.msl _ _ _ _ _=>rfl
 |.map _=>rfl
 |.optp _=>rfl
 |.tup cs=>by simp only[AVal.ren];rw[Qw cs]
 |.agg cs=>by simp only[AVal.ren];rw[Qw cs]
 |.fn f a c=>by simp only[AVal.ren];rw[Qw a,Qw c]
 |.ifc t x=>by simp only[AVal.ren];rw[Wn x]
 |.cnd p x=>by simp only[AVal.ren];rw[Wn x]
theorem Qw{g h:Id→Id}:∀ (cs:List AVal),AVal.ren.renL h (AVal.ren.renL g cs)=AVal.ren.renL (fun i=>h (g i)) cs
 |[]=>rfl
 |x::r=>by simp only[AVal.ren.renL];rw[Wn x,Qw r]
end
mutual
theorem Yy{p:Id→Bool}{g h:Id→Id}(hgh:∀id:Id,p id=true→g id=h id):∀ (x:AVal),x.inP p=true→x.ren g=x.ren h
 |.any,_=>rfl
 |.bool _,_=>rfl
 |.int _ _,_=>rfl
 |.str _,_=>rfl
 |.val _,_=>rfl
 |.isl _ _ _,_=>rfl
 |.iptr _ _ _ _,_=>rfl
 |.osl t _ _,hp=>by simp only[AVal.ren];rw[hgh t hp]
 |.ptr t _ _,hp=>by simp only[AVal.ren];rw[hgh t hp]
 |.msl t _ _ _ _,hp=>by simp only[AVal.ren];rw[hgh t hp]
 |.map t,hp=>by simp only[AVal.ren];rw[hgh t hp]
 |.optp t,hp=>by simp only[AVal.ren];rw[hgh t hp]
 |.tup cs,hp=>by simp only[AVal.ren];rw[Yq hgh cs hp]
 |.agg cs,hp=>by simp only[AVal.ren];rw[Yq hgh cs hp]
 |.fn f a c,hp=>by
  simp only[AVal.inP,p9] at hp
  simp only[AVal.ren];rw[Yq hgh a hp.1,Yq hgh c hp.2]
 |.ifc t x,hp=>by simp only[AVal.ren];rw[Yy hgh x hp]
 |.cnd q x,hp=>by simp only[AVal.ren];rw[Yy hgh x hp]
theorem Yq{p:Id→Bool}{g h:Id→Id}(hgh:∀id:Id,p id=true→g id=h id):∀ (cs:List AVal),AVal.inP.inPL p cs=true→AVal.ren.renL g cs=AVal.ren.renL h cs
 |[],_=>rfl
 |x::r,hp=>by
  simp only[AVal.inP.inPL,p9] at hp
  simp only[AVal.ren.renL];rw[Yy hgh x hp.1,Yq hgh r hp.2]
end
mutual
theorem Wa{p q:Id→Bool}{g:Id→Id}(hg:∀id:Id,p id=true→q (g id)=true):∀ (x:AVal),x.inP p=true→(x.ren g).inP q=true
 |.any,_=>rfl
 |.bool _,_=>rfl
 |.int _ _,_=>rfl
 |.str _,_=>rfl
 |.val _,_=>rfl
 |.isl _ _ _,_=>rfl
 |.iptr _ _ _ _,_=>rfl
 |.osl t _ _,hp=>hg t hp
 |.ptr t _ _,hp=>hg t hp
 |.msl t _ _ _ _,hp=>hg t hp
 |.map t,hp=>hg t hp
 |.optp t,hp=>hg t hp
 |.tup cs,hp=>W4 hg cs hp
 |.agg cs,hp=>W4 hg cs hp
 |.fn f a c,hp=>by
  simp only[AVal.inP,p9] at hp
  simp only[AVal.ren,AVal.inP,p9]
  exact⟨W4 hg a hp.1,W4 hg c hp.2⟩
 |.ifc t x,hp=>Wa hg x hp
 |.cnd r x,hp=>Wa hg x hp
theorem W4{p q:Id→Bool}{g:Id→Id}(hg:∀id:Id,p id=true→q (g id)=true):∀ (cs:List AVal),AVal.inP.inPL p cs=true→AVal.inP.inPL q (AVal.ren.renL g cs)=true
 |[],_=>rfl
 |x::r,hp=>by
  simp only[AVal.inP.inPL,p9] at hp
  simp only[AVal.ren.renL,AVal.inP.inPL,p9]
  exact⟨Wa hg x hp.1,W4 hg r hp.2⟩
end
theorem zqq{g h:Id→Id}(b:ABlock):(b.ren g).ren h=b.ren (fun i=>h (g i)):=by
 cases b with
 |rows s es=>simp only[ABlock.ren,Yi,qG];congr 1;exact pG fun x _=>Qw x
 |one cs=>simp only[ABlock.ren];rw[Qw]
 |amap es=>simp only[ABlock.ren,qG];congr 1;refine pG fun x _=>?_;simp only[Function.comp];rw[Wn,Wn]
 |tok=>rfl
 |bld T g0=>rfl
 |buf e bs=>rfl
 |lrec l r e=>simp only[ABlock.ren,qG];congr 1;refine pG fun x _=>?_;simp only[Function.comp];rw[Wn]
 |rmap es arr ck=>simp only[ABlock.ren,qG];congr 1;refine pG fun x _=>?_;simp only[Function.comp];rw[Wn,Wn]
 |itr m arr ck seen=>simp only[ABlock.ren,Option.map_map];rfl
 |mbox b=>rfl
theorem z05{p:Id→Bool}{g h:Id→Id}(hgh:∀id:Id,p id=true→g id=h id)(b:ABlock)(hp:b.inP p=true):b.ren g=b.ren h:=by
 cases b with
 |rows s es=>
  simp only[ABlock.inP,pD] at hp
  simp only[ABlock.ren,Yi];congr 1;exact pG fun x hx=>Yq hgh x (hp x hx)
 |one cs=>simp only[ABlock.ren];rw[Yq hgh cs hp]
 |amap es=>
  simp only[ABlock.inP,pD,p9] at hp
  simp only[ABlock.ren];congr 1;refine pG fun x hx=>?_;rw[Yy hgh _ (hp x hx).1,Yy hgh _ (hp x hx).2]
 |tok=>rfl
 |bld T g0=>simp only[ABlock.ren];rw[hgh g0 hp]
 |buf e bs=>rfl
 |lrec l r e=>
  simp only[ABlock.inP,pD] at hp
  simp only[ABlock.ren];congr 1;refine pG fun x hx=>?_;rw[Yy hgh _ (hp x hx)]
 |rmap es arr ck=>
  simp only[ABlock.inP,pD,p9] at hp
  simp only[ABlock.ren];congr 1;refine pG fun x hx=>?_;rw[Yy hgh _ (hp x hx).1,Yy hgh _ (hp x hx).2]
 |itr m arr ck seen=>
  cases m with
  |none=>rfl
  |some b=>simp only[ABlock.ren,pZ];rw[hgh b hp]
 |mbox b=>simp only[ABlock.ren];rw[hgh b hp]
theorem z1u{p q:Id→Bool}{g:Id→Id}(hg:∀id:Id,p id=true→q (g id)=true)(b:ABlock)(hp:b.inP p=true):(b.ren g).inP q=true:=by
 cases b with
 |rows s es=>
  simp only[ABlock.inP,pD] at hp
  simp only[ABlock.ren,Yi,ABlock.inP,pD,pF]
  rintro x ⟨y,hy,rfl⟩
  exact W4 hg y (hp y hy)
 |one cs=>exact W4 hg cs hp
 |amap es=>
  simp only[ABlock.inP,pD,p9] at hp
  simp only[ABlock.ren,ABlock.inP,pD,pF,p9]
  rintro x ⟨y,hy,rfl⟩
  exact⟨Wa hg _ (hp y hy).1,Wa hg _ (hp y hy).2⟩
 |tok=>rfl
 |bld T g0=>exact hg g0 hp
 |buf e bs=>rfl
 |lrec l r e=>
  simp only[ABlock.inP,pD] at hp
  simp only[ABlock.ren,ABlock.inP,pD,pF]
  rintro x ⟨y,hy,rfl⟩
  exact Wa hg _ (hp y hy)
 |rmap es arr ck=>
  simp only[ABlock.inP,pD,p9] at hp
  simp only[ABlock.ren,ABlock.inP,pD,pF,p9]
  rintro x ⟨y,hy,rfl⟩
  exact⟨Wa hg _ (hp y hy).1,Wa hg _ (hp y hy).2⟩
 |itr m arr ck seen=>
  cases m with
  |none=>rfl
  |some b=>exact hg b hp
 |mbox b=>exact hg b hp
mutual
theorem Ui:∀ (x:AVal),x.ren (fun i=>i)=x
 |.any=>rfl
 |.bool _=>rfl
 |.int _ _=>rfl
 |.str _=>rfl
 |.val _=>rfl
 |.isl _ _ _=>rfl
 |.iptr _ _ _ _=>rfl
 |.osl _ _ _=>rfl
 |.ptr _ _ _=>rfl
 |.msl _ _ _ _ _=>rfl
 |.map _=>rfl
 |.optp _=>rfl
 |.tup cs=>by simp only[AVal.ren];rw[Km cs]
 |.agg cs=>by simp only[AVal.ren];rw[Km cs]
 |.fn f a c=>by simp only[AVal.ren];rw[Km a,Km c]
 |.ifc t x=>by simp only[AVal.ren];rw[Ui x]
 |.cnd p x=>by simp only[AVal.ren];rw[Ui x]
theorem Km:∀ (cs:List AVal),AVal.ren.renL (fun i=>i) cs=cs
 |[]=>rfl
 |x::r=>by simp only[AVal.ren.renL];rw[Ui x,Km r]
end
mutual
theorem zlo{p:Id→Bool}:∀ (x:AVal),x.nid=true→x.inP p=true
 |.bool _,_=>rfl
 |.int _ _,_=>rfl
 |.str _,_=>rfl
 |.val _,_=>rfl
 |.isl _ _ _,_=>rfl
 |.iptr _ _ _ _,_=>rfl
 |.tup cs,h=>Ue cs h
 |.agg cs,h=>Ue cs h
 |.fn f a c,h=>by
  simp only[AVal.nid,p9] at h
  simp only[AVal.inP,p9]
  exact⟨Ue a h.1,Ue c h.2⟩
 |.ifc t x,h=>zlo x h
theorem Ue{p:Id→Bool}:∀ (cs:List AVal),AVal.nid.nidL cs=true→AVal.inP.inPL p cs=true
 |[],_=>rfl
 |x::r,h=>by
  simp only[AVal.nid.nidL,p9] at h
  simp only[AVal.inP.inPL,p9]
  exact⟨zlo x h.1,Ue r h.2⟩
end
mutual
theorem xl{g:Id→Id}:∀ (x:AVal),x.nid=true→x.ren g=x
 |.bool _,_=>rfl
 |.int _ _,_=>rfl
 |.str _,_=>rfl
 |.val _,_=>rfl
 |.isl _ _ _,_=>rfl
 |.iptr _ _ _ _,_=>rfl
 |.tup cs,h=>by simp only[AVal.ren];rw[Vf cs h]
 |.agg cs,h=>by simp only[AVal.ren];rw[Vf cs h]
 |.fn f a c,h=>by
  simp only[AVal.nid,p9] at h
  simp only[AVal.ren];rw[Vf a h.1,Vf c h.2]
 |.ifc t x,h=>by simp only[AVal.ren];rw[xl x h]
theorem Vf{g:Id→Id}:∀ (cs:List AVal),AVal.nid.nidL cs=true→AVal.ren.renL g cs=cs
 |[],_=>rfl
 |x::r,h=>by
  simp only[AVal.nid.nidL,p9] at h
  simp only[AVal.ren.renL];rw[xl x h.1,Vf r h.2]
end
theorem yf{α:Type}{g:Id→Id}(f:α→List AVal)(hf:∀x,AVal.nid.nidL (f x)=true)(s:Nat)(l:List α):(ABlock.rows s (l.map f)).ren g=.rows s (l.map f):=by
 simp only[ABlock.ren,Yi,qG]
 congr 1
 refine pG fun x _=>?_
 exact Vf _ (hf x)
theorem zow(b:ABlock):b.ren (fun i=>i)=b:=by
 cases b with
 |rows s es=>
  simp only[ABlock.ren,Yi];congr 1
  conv=>rhs;rw[←List.map_id es]
  exact pG fun x _=>Km x
 |one cs=>simp only[ABlock.ren];rw[Km]
 |amap es=>
  simp only[ABlock.ren];congr 1
  conv=>rhs;rw[←List.map_id es]
  refine pG fun x _=>?_
  rw[Ui,Ui];rfl
 |tok=>rfl
 |bld T g0=>rfl
 |buf e bs=>rfl
 |lrec l r e=>
  simp only[ABlock.ren];congr 1
  conv=>rhs;rw[←List.map_id e]
  refine pG fun x _=>?_
  rw[Ui];rfl
 |rmap es arr ck=>
  simp only[ABlock.ren];congr 1
  conv=>rhs;rw[←List.map_id es]
  refine pG fun x _=>?_
  rw[Ui,Ui];rfl
 |itr m arr ck seen=>cases m<;>rfl
 |mbox b=>rfl
def RenL(g:Id→Id):AHeap→AHeap→Prop
 |[],[]=>True
 |(k,b)::r,(k',b')::r'=>g k=k'∧b.ren g=b'∧RenL g r r'
 |_,_=>False
theorem RenL.eq{g:Id→Id}:∀ {L L':AHeap},RenL g L L'→AHeap.renamed g L=L'
 |[],[],_=>rfl
 |[],_::_,h=>h.elim
 |_::_,[],h=>h.elim
 |(k,b)::r,(k',b')::r',h=>by
  obtain⟨h1,h2,h3⟩:=h
  have:=RenL.eq h3
  simp only[AHeap.renamed,pV] at this ⊢
  rw[h1,h2,this]
def mv(a b:Nat)(id:Id):Id:=if id.1=a then(b,id.2) else id
def p12(id:Id):Bool:=pA id.1 1 || pA id.1 2
structure Tl(T:AHeap):Prop where
 key:∀x∈T,p12 x.1=true
 val:∀x∈T,x.2.inP (fun id=>p12 id&&(T.get id).isSome)=true
 nd:(T.map (·.1)).Nodup
def up(q:Nat)(T:AHeap):AHeap:=AHeap.renamed (mv 2 q) T
theorem Y9{id:Id}(h:p12 id=true):id.1=1∨id.1=2:=by
 unfold p12 at h
 simp only[Bool.or_eq_true] at h
 rcases h with h|h
 ·exact .inl (pB h)
 ·exact .inr (pB h)
theorem zr0{q:Nat}{id:Id}(h:p12 id=true):(mv 2 q id).1=1∨(mv 2 q id).1=q:=by
 unfold mv
 rcases Y9 h with h|h
 ·left;rw[if_neg (by omega)];exact h
 ·right;rw[if_pos h]
def p1q(q:Nat)(id:Id):Bool:=pA id.1 1 || pA id.1 q
theorem z5v{q:Nat}{id:Id}(h:id.1=1∨id.1=q):p1q q id=true:=by
 unfold p1q
 rcases h with h|h<;>simp[h]
theorem Tl.val'{T:AHeap}(t:Tl T)(x)(hx:x∈T):x.2.inP p12=true:=by
 have:=t.val x hx
 have h2:=z1u (q:=p12) (g:=fun i=>i) (fun id hid=>by simp only[p9] at hid;exact hid.1) _ this
 rwa [zow] at h2
theorem Wd{q:Nat}{id:Id}(h:p1q q id=true):id.1=1∨id.1=q:=by
 unfold p1q at h
 simp only[Bool.or_eq_true] at h
 rcases h with h|h
 ·exact .inl (pB h)
 ·exact .inr (pB h)
theorem zfk{q:Nat}{T:AHeap}(t:Tl T){x:Id×ABlock}(hx:x∈up q T):(x.1.1=1∨x.1.1=q)∧x.2.inP (p1q q)=true:=by
 unfold up AHeap.renamed at hx
 obtain⟨y,hy,rfl⟩:=pF.1 hx
 exact⟨zr0 (t.key y hy),z1u (fun id hid=>z5v (zr0 hid)) _ (t.val' y hy)⟩
theorem zwm{q:Nat}{T:AHeap}(t:Tl T){id:Id}{b:ABlock}(h:(up q T).get id=some b):∃k b0,T.get k=some b0∧p12 k=true∧b0.inP p12=true∧mv 2 q k=id∧b=b0.ren (mv 2 q):=by
 obtain⟨i,b0,h1,h2,h3⟩:=AHeap.get_renamed h
 exact⟨i,b0,z57 t.nd h1,t.key _ h1,t.val' _ h1,h2,h3⟩
theorem y54{q:Nat}(hq:q≠1){i j:Id}(hi:p12 i=true)(hj:p12 j=true)(h:mv 2 q i=mv 2 q j):i=j:=by
 unfold mv at h
 rcases Y9 hi with hi|hi<;>rcases Y9 hj with hj|hj
 ·rwa [if_neg (by omega),if_neg (by omega)] at h
 ·rw[if_neg (by omega),if_pos hj] at h
  have:i.1=q:=by rw[h]
  omega
 ·rw[if_pos hi,if_neg (by omega)] at h
  have:j.1=q:=by rw[←h]
  omega
 ·rw[if_pos hi,if_pos hj] at h
  simp only[pK] at h
  ext
  ·omega
  ·exact h.2
theorem y39{q:Nat}(hq:q≠1){T:AHeap}(t:Tl T):((up q T).map (·.1)).Nodup:=by
 unfold up AHeap.renamed
 rw[qG]
 have:(T.map ((fun x=>x.1)∘fun x=>(mv 2 q x.1,x.2.ren (mv 2 q))))=(T.map (·.1)).map (mv 2 q):=by rw[qG];rfl
 rw[this]
 refine List.pairwise_map.2 (List.Pairwise.imp_of_mem (fun {a b} ha hb hab he=>hab ?_) t.nd)
 obtain⟨x,hx,rfl⟩:=pF.1 ha
 obtain⟨y,hy,rfl⟩:=pF.1 hb
 exact y54 hq (t.key x hx) (t.key y hy) he
theorem zx5{q:Nat}(hq:q≠1){T:AHeap}(t:Tl T){k:Id}{b0:ABlock}(h:T.get k=some b0):(up q T).get (mv 2 q k)=some (b0.ren (mv 2 q)):=
 z57 (y39 hq t) (pF.2 ⟨(k,b0),Ut h,rfl⟩)
theorem y5t{a q q':Nat}(hq:q≠1){id:Id}(h:p12 id=true):mv q q' (mv 2 q id)=mv 2 q' id:=by
 unfold mv
 rcases Y9 h with h|h
 ·rw[if_neg (by omega:¬id.1=2),if_neg (by omega),if_neg (by omega)]
 ·rw[if_pos h,if_pos h];simp
theorem z77{q q':Nat}(hq:q≠1){b0:ABlock}(h:b0.inP p12=true):(b0.ren (mv 2 q)).ren (mv q q')=b0.ren (mv 2 q'):=by
 rw[zqq]
 exact z05 (fun id hid=>y5t (a:=0) hq hid) b0 h
theorem y77{q:Nat}(hq:q≠1){q':Nat}{T:AHeap}(t:Tl T):AHeap.renamed (mv q q') (up q T)=up q' T:=by
 unfold up AHeap.renamed
 rw[qG]
 refine pG fun x hx=>?_
 simp only[Function.comp]
 rw[y5t (a:=0) hq (t.key x hx),z77 hq (t.val' x hx)]
theorem zx2{q:Nat}{T lit:AHeap}(t:Tl T)(h1:noR 1 lit=true)(hq:noR q lit=true){id:Id}{b:ABlock}(hg:(up q T).get id=some b):AHeap.get (lit++up q T) id=some b:=by
 rw[AHeap.get_append]
 have:lit.get id=none:=by
  rcases(zfk t (Ut hg)).1 with h|h
  ·exact Vt h1 h
  ·exact Vt hq h
 rw[this];simpa using hg
def zc8(q:Nat)(M:List (Id×Id))(id:Id):Option Id:=if id.1=3 then some (q,id.2) else rho 3 M id
def y63(n q:Nat)(lit':AHeap)(M:List (Id×Id)):Bool:=
 pE 4 n&&pE 3 q&&z14 3 n lit' M&&M.all (fun x=>pE 4 x.1.1&&!(pA x.2.1 q)&&!(pA x.2.1 1))&&noR 1 lit'&&noR q lit'
structure ChkT(n q:Nat)(lit':AHeap)(M:List (Id×Id)):Prop where
 n4:4≤n
 q3:3≤q
 rc:RhoChk 3 n lit' M
 all:∀x∈M,4≤x.1.1∧x.2.1≠q∧x.2.1≠1
 no1:noR 1 lit'=true
 noq:noR q lit'=true
theorem z40{a b:Nat}(h:(!(pA a b))=true):a≠b:=by
 intro e;subst e;simp at h
theorem Xv{n q:Nat}{lit':AHeap}{M:List (Id×Id)}(h:y63 n q lit' M=true):ChkT n q lit' M:=by
 unfold y63 at h
 simp only[p9,pD] at h
 obtain⟨⟨⟨⟨⟨h1,h2⟩,h3⟩,h4⟩,h5⟩,h6⟩:=h
 exact⟨pC h1,pC h2,z9d h3,fun x hx=>⟨pC (h4 x hx).1.1,z40 (h4 x hx).1.2,z40 (h4 x hx).2⟩,h5,h6⟩
theorem zuo{A B:AHeap}{id:Id}(h:A.get id≠none):AHeap.get (A++B) id≠none:=by
 rw[AHeap.get_append]
 cases hg:A.get id with
 |none=>exact absurd hg h
 |some b=>simp
theorem zqx{n q:Nat}{lit' T:AHeap}{M:List (Id×Id)}{F:Id→Bool}(h:ChkT n q lit' M)(hF:∀i:Id,i.1<3→F i=false):RhoOk 3 n F (lit'++T) (zc8 q M):=by
 have base:∀ {i k:Id},zc8 q M i=some k→(i.1=3∧k=(q,i.2))∨(i.1≠3∧rho 3 M i=some k):=by
  intro i k hi
  unfold zc8 at hi
  split at hi
  ·rename_i h3;simp only[p0] at hi;exact .inl ⟨h3,hi.symm⟩
  ·rename_i h3;exact .inr ⟨h3,hi⟩
 have vals:∀ {i k:Id},rho 3 M i=some k→k.1≠q:=by
  intro i k hi
  rcases Jy hi with g|⟨g1,g2,_⟩
  ·exact(h.all _ g).2.1
  ·have:=h.q3;subst g2;omega
 have lift:∀ {id:Id},lit'.get id≠none→AHeap.get (lit'++T) id≠none:=fun h=>zuo h
 have hr:RhoOk 3 n F (lit'++T) (rho 3 M):=by
  have hc:RhoChk 3 n (lit'++T) M:=⟨h.rc.le,fun x hx=>⟨(h.rc.all x hx).1,(h.rc.all x hx).2.1,(h.rc.all x hx).2.2.imp id lift⟩,h.rc.nd⟩
  refine⟨fun i j k hi hj=>?_,fun i k hi=>?_,fun i hi=>?_,fun i k hi hk=>?_,hc.le⟩
  ·rcases Jy hi with g1|⟨g1,g1',g1''⟩<;>rcases Jy hj with g2|⟨g2,g2',g2''⟩
   ·exact U3 hc.nd g1 g2
   ·exact absurd (pF.2 ⟨_,g1,rfl⟩) g2''
   ·exact absurd (pF.2 ⟨_,g2,rfl⟩) g1''
   ·rw[←g1',←g2']
  ·rcases Jy hi with g|⟨g,g',_⟩
   ·exact(hc.all _ g).2.1
   ·have:=hc.le;omega
  ·rcases zkq hc hi with g|g
   ·exact .inl ⟨g,hF i hi⟩
   ·exact .inr g
  ·rcases Jy hk with g|⟨g,g',_⟩
   ·exact(hc.all _ g).2.2
   ·omega
 refine⟨fun i j k hi hj=>?_,fun i k hi=>?_,fun i hi=>?_,fun i k hi hk=>?_,hr.le⟩
 ·rcases base hi with⟨a1,a2⟩|⟨a1,a2⟩<;>rcases base hj with⟨b1,b2⟩|⟨b1,b2⟩
  ·rw[a2] at b2
   simp only[pK,true_and] at b2
   ext
   ·omega
   ·exact b2
  ·exact absurd (by rw[a2]) (vals b2)
  ·exact absurd (by rw[b2]) (vals a2)
  ·exact hr.inj i j k a2 b2
 ·rcases base hi with⟨a1,a2⟩|⟨a1,a2⟩
  ·have:=h.n4;omega
  ·exact hr.dom i k a2
 ·have:zc8 q M i=rho 3 M i:=by unfold zc8;rw[if_neg (by omega)]
  rw[this];exact hr.low i hi
 ·rcases base hk with⟨a1,a2⟩|⟨a1,a2⟩
  ·left;rw[a2];exact h.q3
  ·exact hr.high i k hi a2
theorem z0o{n q:Nat}{lit':AHeap}{M:List (Id×Id)}(h:ChkT n q lit' M)(p:Nat):zc8 q M (1,p)=some (1,p):=by
 unfold zc8
 rw[if_neg (by simp)]
 have hl:z9h M (1,p)=none:=by
  cases hk:z9h M (1,p) with
  |none=>rfl
  |some k=>have:=(h.all _ (Zv hk)).1;simp only at this;omega
 unfold rho
 rw[hl]
 simp only
 rw[if_pos]
 refine⟨by simp,?_⟩
 simp only[pO,List.any_eq_true,beq_iff_eq,pF]
 rintro⟨_,⟨x,hx,rfl⟩,he⟩
 exact(h.all x hx).2.2 (by rw[←he])
theorem za3{F:Id→Bool}{n q:Nat}{lit lit' T:AHeap}{M:List (Id×Id)}(t:Tl T)(hc:ChkT n q lit' M)(h:HeapTo F (lit'++up q T) (zc8 q M) 3 n lit)(hF:∀id:Id,id.1=1∨id.1=q→F id=false) :
 z3w F (lit'++up q T) (zc8 q M) 3 n (lit++up 3 T):=by
 intro id blk hg
 rw[AHeap.get_append] at hg
 cases hl:lit.get id with
 |some b=>
  rw[hl] at hg
  simp only[Option.some_or,p0] at hg
  subst hg
  exact h.get id b hl
 |none=>
  rw[hl] at hg
  simp only[Option.none_or] at hg
  have hq1:q≠1:=by have:=hc.q3;omega
  obtain⟨k,b0,g1,g2,g3,g4,g5⟩:=zwm t hg
  have hat:zc8 q M id=some (mv 2 q k):=by
   subst g4
   rcases Y9 g2 with h1|h1
   ·have e:∀a,mv 2 a k=k:=fun a=>by unfold mv;rw[if_neg (by omega)]
    rw[e,e,show k=(1,k.2) by rw[←h1]]
    exact z0o hc _
   ·unfold mv;rw[if_pos h1,if_pos h1];unfold zc8;simp
  unfold Ug
  rw[hat]
  simp only
  rw[zx2 t hc.no1 hc.noq (zx5 hq1 t g1)]
  refine⟨hF _ (zr0 g2),?_⟩
  rw[g5,←z77 (q:=q) (q':=3) hq1 g3]
  refine .mov (p1q q) (mv q 3) _ (z1u (fun id hid=>z5v (zr0 hid)) _ g3) (fun i hi=>?_)
  have hn:=hc.n4
  rcases Wd hi with h1|h1
  ·have e:mv q 3 i=i:=by unfold mv;rw[if_neg (by omega)]
   rw[e,show i=(1,i.2) by rw[←h1]]
   exact⟨by simp only;omega,z0o hc _⟩
  ·have e:mv q 3 i=(3,i.2):=by unfold mv;rw[if_pos h1]
   rw[e]
   refine⟨by simp only;omega,?_⟩
   unfold zc8
   simp[←h1]
theorem zy3{n n':Nat}{q:Nat}{M:List (Id×Id)}{e' e:Env}{lit' lit T:AHeap}(t:Tl T)(hc:y63 n q lit' M=true)(hE:EnvTo (fun _=>false) (lit'++up q T) (zc8 q M) n e' e)
 (hH:HeapTo (fun _=>false) (lit'++up q T) (zc8 q M) 3 n lit):Sim 3 e' (lit'++up q T) n' e (lit++up 3 T) n:=
 Sim.of ⟨_,_,zqx (Xv hc) (fun _ _=>rfl),hE,za3 t (Xv hc) hH (fun _ _=>rfl)⟩
theorem y7i{n0:Nat}{Fs:List Id}(hF:(Fs.all fun x=>pE n0 x.1)=true)(i:Id)(hi:i.1<n0):Fs.contains i=false:=by
 rw[pD] at hF
 simp only[pO,List.any_eq_false,beq_iff_eq]
 intro x hx hix
 have:=pC (hF x hx)
 subst hix;omega
theorem Yl{n0 n n':Nat}{r R:AVal}{H' L:AHeap}(M:List (Id×Id))(Fs:List Id)(hρ:z14 n0 n H' M=true)(hF:(Fs.all fun x=>pE n0 x.1)=true)(hv:Vw (fun x=>Fs.contains x) H' (rho n0 M) n r R)
 (hH:HeapTo (fun x=>Fs.contains x) H' (rho n0 M) n0 n L):Zz n0 n R L r H' n':=
 ⟨_,_,zuj hρ (y7i hF),hv,hH.get⟩
theorem y5c{q n n':Nat}{r R:AVal}{lit' lit T:AHeap}(t:Tl T)(M:List (Id×Id))(Fs:List Id)(hc:y63 n q lit' M=true)(hF:(Fs.all fun x=>pE 3 x.1&&!(pA x.1 q))=true)
 (hv:Vw (fun x=>Fs.contains x) (lit'++up q T) (zc8 q M) n r R) (hH:HeapTo (fun x=>Fs.contains x) (lit'++up q T) (zc8 q M) 3 n lit):Zz 3 n R (lit++up 3 T) r (lit'++up q T) n':=by
 have hF1:(Fs.all fun x=>pE 3 x.1)=true:=by
  rw[pD] at hF ⊢
  intro x hx
  have:=hF x hx
  simp only[p9] at this
  exact this.1
 refine⟨_,_,zqx (Xv hc) (y7i hF1),hv,za3 t (Xv hc) hH (fun id hid=>?_)⟩
 rcases hid with hid|hid
 ·exact y7i hF1 id (by omega)
 ·rw[pD] at hF
  simp only[pO,List.any_eq_false,beq_iff_eq]
  intro x hx hix
  have:=hF x hx
  simp only[p9] at this
  subst hix
  exact z40 this.2 hid
theorem Z0{f:FuncId}{bm:List Nat}{L:LFn}(hL:wm P bm f=some L)(hok:Zc P f){args:List AVal}(hlen:args.length≤L.lay.n){H Lh:AHeap}{n0 n:Nat}{R:AVal}
 (h:LWp P L.lay n0 L.body (Y2 L.res (Zz n0 n R Lh)) (zu 0 args) H n0):ACalls P f args H n0 (u0 n R Lh):=ACalls.fin (ACalls.ofFnW hL hok hlen h)
def zia(H:AHeap)(id:Id):Option Id:=if id.1=3 then(if(H.get (2,id.2)).isSome=true then some (2,id.2) else none) else if id.1<3 then(if id.1=2∧(H.get id).isSome=true then none else some id) else none
theorem y10{H:AHeap}:RhoOk 3 4 (fun _=>false) H (zia H):=by
 have some_ne:∀ {id:Id},(H.get id).isSome=true→H.get id≠none:=fun h hn=>by rw[hn] at h;cases h
 refine⟨fun i j k hi hj=>?_,fun i k hi=>?_,fun i hi=>?_,fun i k hi hk=>?_,by omega⟩
 ·unfold zia at hi hj
  split at hi
  ·rename_i i3
   split at hi<;>simp only[p0,reduceCtorEq] at hi
   rename_i hs
   split at hj
   ·rename_i j3
    split at hj<;>simp only[p0,reduceCtorEq] at hj
    rw[←hi] at hj
    simp only[pK,true_and] at hj
    ext
    ·omega
    ·exact hj.symm
   ·split at hj<;>try (cases hj;done)
    split at hj<;>simp only[p0,reduceCtorEq] at hj
    rename_i hno
    subst hj
    refine absurd ⟨?_,?_⟩ hno
    ·rw[←hi]
    ·rw[←hi];exact hs
  ·split at hi<;>try (cases hi;done)
   split at hi<;>simp only[p0,reduceCtorEq] at hi
   rename_i hno
   subst hi
   split at hj
   ·split at hj<;>simp only[p0,reduceCtorEq] at hj
    rename_i hs
    refine absurd ⟨?_,?_⟩ hno
    ·rw[←hj]
    ·rw[←hj];exact hs
   ·split at hj<;>try (cases hj;done)
    split at hj<;>simp only[p0,reduceCtorEq] at hj
    exact hj.symm
 ·unfold zia at hi
  split at hi
  ·omega
  ·split at hi<;>try (cases hi;done)
   omega
 ·unfold zia
  rw[if_neg (by omega),if_pos hi]
  split
  ·rename_i hc;exact .inr ⟨rfl,some_ne hc.2⟩
  ·exact .inl ⟨rfl,rfl⟩
 ·unfold zia at hk
  split at hk
  ·split at hk<;>simp only[p0,reduceCtorEq] at hk
   rename_i hs
   right;rw[←hk];exact some_ne hs
  ·split at hk
   ·omega
   ·cases hk
theorem zr9{lit' lit T:AHeap}{e' e:Env}(t:Tl T)(h1:noR 1 lit'=true)(h2:noR 2 lit'=true)(hE:EnvTo (fun _=>false) (lit'++T) (zia (lit'++T)) 4 e' e)(hH:HeapTo (fun _=>false) (lit'++T) (zia (lit'++T)) 3 4 lit) :
 Sim 3 e' (lit'++T) 3 e (lit++up 3 T) 4:=by
 refine Sim.of ⟨_,_,y10,hE,?_⟩
 have app:∀ {id:Id} {b:ABlock},p12 id=true→T.get id=some b→AHeap.get (lit'++T) id=some b:=by
  intro id b hp hg
  rw[AHeap.get_append]
  have:lit'.get id=none:=by
   rcases Y9 hp with h|h
   ·exact Vt h1 h
   ·exact Vt h2 h
  rw[this];simpa using hg
 have at1:∀p,zia (lit'++T) (1,p)=some (1,p):=fun p=>by unfold zia;simp
 -- names under 2 that are alive
 have at2:∀ {id:Id} {b:ABlock},id.1=2→T.get id=some b→zia (lit'++T) (3,id.2)=some id:=by
  intro id b hid hg
  have e:id=(2,id.2):=by rw[←hid]
  unfold zia
  rw[if_pos rfl]
  have:=app (by unfold p12;rw[hid];rfl) hg
  rw[e] at this
  simp only
  rw[this,e]
  simp
 intro id blk hg
 rw[AHeap.get_append] at hg
 cases hl:lit.get id with
 |some b=>
  rw[hl] at hg
  simp only[Option.some_or,p0] at hg
  subst hg
  exact hH.get id b hl
 |none=>
  rw[hl] at hg
  simp only[Option.none_or] at hg
  obtain⟨k,b0,g1,g2,g3,g4,g5⟩:=zwm t hg
  have hat:zia (lit'++T) id=some k:=by
   subst g4
   rcases Y9 g2 with h|h
   ·unfold mv;rw[if_neg (by omega),show k=(1,k.2) by rw[←h]];exact at1 _
   ·unfold mv;rw[if_pos h];exact at2 h g1
  unfold Ug
  rw[hat]
  simp only
  rw[app g2 g1]
  refine⟨by trivial,?_⟩
  rw[g5]
  refine .mov (fun id=>p12 id&&(T.get id).isSome) (mv 2 3) b0 (t.val _ (Ut g1)) (fun i hi=>?_)
  simp only[p9] at hi
  have hs:∃b,T.get i=some b:=Option.isSome_iff_exists.1 hi.2
  obtain⟨b,hb⟩:=hs
  rcases Y9 hi.1 with h|h
  ·have e:mv 2 3 i=i:=by unfold mv;rw[if_neg (by omega)]
   rw[e]
   refine⟨by omega,?_⟩
   rw[show i=(1,i.2) by rw[←h]];exact at1 _
  ·have e:mv 2 3 i=(3,i.2):=by unfold mv;rw[if_pos h]
   rw[e]
   exact⟨by simp only;omega,at2 h hb⟩
def y5y(k n:Nat)(M:List (Id×Id)):Bool:=M.all (fun x=>pE (x.1.1+1) k&&pE (x.2.1+1) n)&&(M.map (·.2)).Nodup
theorem Kh:∀ {M:List (Id×Id)} {k:Id},k∈M.map (·.2)→(M.map (·.1)).Nodup→∃i,z9h M i=some k
 |[],k,h,_=>by cases h
 |(a,b)::r,k,h,hn=>by
  simp only[pV,List.nodup_cons] at hn
  simp only[pV,pU] at h
  rcases h with rfl|h
  ·exact⟨a,by simp[z9h]⟩
  ·obtain⟨i,hi⟩:=Kh h hn.2
   refine⟨i,?_⟩
   have:a≠i:=fun hai=>by subst hai;exact hn.1 (pF.2 ⟨_,Zv hi,rfl⟩)
   simp[z9h,this,hi]
def H0To(H:AHeap)(ρ:Id→Option Id)(k:Nat):AHeap→Prop
 |[]=>True
 |(i,b)::r=>(∃x b',ρ i=some x∧H.get x=some b'∧BVw (fun _=>false) H ρ k b' b)∧H0To H ρ k r
theorem H0To.get{H:AHeap}{ρ:Id→Option Id}{k:Nat}:∀ {H0:AHeap},H0To H ρ k H0→∀i b,H0.get i=some b→∃x b',ρ i=some x∧H.get x=some b'∧BVw (fun _=>false) H ρ k b' b
 |[],_,i,b,h=>by simp[AHeap.get] at h
 |(j,c)::r,h,i,b,hg=>by
  by_cases hj:j=i
  ·subst hj;rw[AHeap.get_cons_same] at hg;simp only[p0] at hg;subst hg;exact h.1
  ·rw[AHeap.get_cons_other _ _ hj] at hg;exact H0To.get h.2 i b hg
theorem h0I{H:AHeap}{ρ:Id→Option Id}{k:Nat}{i:Id}{b b':ABlock}(x:Id)(h1:ρ i=some x)(h2:H.get x=some b')(h3:BVw (fun _=>false) H ρ k b' b):∃x b',ρ i=some x∧H.get x=some b'∧BVw (fun _=>false) H ρ k b' b:=⟨x,b',h1,h2,h3⟩
def zu4(M:List (Id×Id)):Bool:=(M.map (·.1)).Nodup
def z5e(L:AHeap):Bool:=(L.map (·.1)).Nodup
theorem Z2{f:Fn}{args args0:List AVal}{H H0 L L' rest:AHeap}{n k m:Nat}{R R':AVal}{K:AVal→AHeap→Nat→Prop}(M:List (Id×Id))(h:ACalls P f args0 H0 k (u0 (k+m) R L))
 (hM:y5y k n M=true) (hM1:zu4 M=true) (hnd:z5e L=true) (ha:ArgsTo (fun _=>false) H (z9h M) k args args0) (hH:H0To H (z9h M) k H0)
 (hR:R.ren (z1x (z9h M) k n m)=R') (hL:RenL (z1x (z9h M) k n m) L L') (hrest:AHeap.without (fun x=>(M.map (·.2)).contains x) H=rest)
 (hk:K R' (L'++rest) (n+m+1)):ACalls P f args H n K:=by
 unfold y5y at hM
 simp only[p9,pD,decide_eq_true_eq] at hM
 have hM':∀x∈M,x.1.1<k∧x.2.1<n:=fun x hx=>⟨pC (hM.1 x hx).1,pC (hM.1 x hx).2⟩
 refine ACalls.frame (F:=fun _=>false) (ρ:=z9h M) h (fun i j x hi hj=>U3 hM.2 (Zv hi) (Zv hj)) (fun i x hi=>⟨(hM' _ (Zv hi)).1,(hM' _ (Zv hi)).2,rfl⟩) (fun x hx=>by cases hx) ha hH.get
  (fun x=>(M.map (·.2)).contains x) (fun x=>?_) (by simpa[z5e] using hnd) ?_
 ·simp only[pO,List.any_eq_true,beq_iff_eq,exists_eq_right',pM,false_or]
  constructor
  ·intro hy
   exact Kh hy (by simpa[zu4] using hM1)
  ·rintro⟨i,hi⟩
   exact pF.2 ⟨_,Zv hi,rfl⟩
 ·rw[hR,hL.eq,hrest];exact hk
theorem Kt{p:Id→Bool}:∀ {H:AHeap},(∀x∈H,p x.1=false)→AHeap.without p H=H
 |[],_=>rfl
 |(k,b)::r,h=>by
  have:=h (k,b) (List.mem_cons_self ..)
  simp only at this
  simp only[AHeap.without,this,pM,if_false]
  rw[Kt (fun x hx=>h x (List.mem_cons_of_mem _ hx))]
def J2(q:Nat)(M:List (Id×Id))(id:Id):Option Id:=if id.1=1 then some id else if id.1=2 then some (q,id.2) else z9h M id
theorem zws{f:Fn}{args args0:List AVal}{lit0 lit L L' rest T T':AHeap}{n q m:Nat}{R R':AVal}{K:AVal→AHeap→Nat→Prop}(t:Tl T)(t':Tl T')(M:List (Id×Id))(h:ACalls P f args0 (lit0++T) 3 (u0 (3+m) R (L++up 3 T')))
 (hM:y5y 3 n M=true) (hM1:zu4 M=true) (hM2:(M.all fun x=>pA x.1.1 0&&!(pA x.2.1 1)&&!(pA x.2.1 q))=true) (hn:(pE 3 q&&pE (q+1) n&&pE 1 m)=true) (hnd:z5e L=true) (hnr:(noR 1 L&&noR 3 L&&noR n lit&&noR 1 lit&&noR q lit)=true)
 (ha:ArgsTo (fun _=>false) (lit++up q T) (J2 q M) 3 args args0) (hH:H0To (lit++up q T) (J2 q M) 3 lit0)
 (hR:R.ren (z1x (J2 q M) 3 n m)=R') (hL:RenL (z1x (J2 q M) 3 n m) L L') (hrest:AHeap.without (fun x=>(M.map (·.2)).contains x) lit=rest)
 (hk:K R' (L'++(rest++up n T')) (n+m+1)):ACalls P f args (lit++up q T) n K:=by
 unfold y5y at hM
 simp only[p9,pD,decide_eq_true_eq] at hM hM2 hn hnr
 have hM':∀x∈M,x.1.1<3∧x.2.1<n:=fun x hx=>⟨pC (hM.1 x hx).1,pC (hM.1 x hx).2⟩
 have hM3:∀x∈M,x.1.1=0∧x.2.1≠1∧x.2.1≠q:=fun x hx=>⟨pB (hM2 x hx).1.1,z40 (by simpa using(hM2 x hx).1.2),z40 (by simpa using(hM2 x hx).2)⟩
 have q3:=pC hn.1.1
 have qn:=pC hn.1.2
 have m1:=pC hn.2
 have q1:q≠1:=by omega
 have cases:∀ {i k:Id},J2 q M i=some k→(i.1=1∧k=i)∨(i.1=2∧k=(q,i.2))∨((i,k)∈M∧i.1=0∧k.1≠1∧k.1≠q):=by
  intro i k h
  unfold J2 at h
  split at h
  ·rename_i h1;simp only[p0] at h;exact .inl ⟨h1,h.symm⟩
  ·split at h
   ·rename_i h1;simp only[p0] at h;exact .inr (.inl ⟨h1,h.symm⟩)
   ·have:=Zv h;exact .inr (.inr ⟨this,hM3 _ this⟩)
 have l1:∀p,J2 q M (1,p)=some (1,p):=fun p=>by simp[J2]
 have l2:∀p,J2 q M (2,p)=some (q,p):=fun p=>by simp[J2]
 refine ACalls.sub ?_
 refine ACalls.frame (F:=fun _=>false) (ρ:=J2 q M) h (fun i j x hi hj=>?_) (fun i x hi=>?_) (fun x hx=>by cases hx) ha (fun i b hb=>?_)
  (fun x=>p1q q x || (M.map (·.2)).contains x) (fun x=>?_) ?_ ?_
 ·rcases cases hi with⟨a1,a2⟩|⟨a1,a2⟩|⟨a1,a2,a3,a4⟩<;>rcases cases hj with⟨b1,b2⟩|⟨b1,b2⟩|⟨b1,b2,b3,b4⟩
  ·rw[←a2,←b2]
  ·rw[b2] at a2;have:i.1=q:=by rw[←a2]
   omega
  ·subst a2;omega
  ·rw[a2] at b2;have:j.1=q:=by rw[←b2]
   omega
  ·rw[a2] at b2;simp only[pK,true_and] at b2;ext
   ·omega
   ·exact b2
  ·rw[a2] at b4;exact absurd rfl b4
  ·subst b2;omega
  ·rw[b2] at a4;exact absurd rfl a4
  ·exact U3 hM.2 a1 b1
 ·rcases cases hi with⟨a1,a2⟩|⟨a1,a2⟩|⟨a1,a2,a3,a4⟩
  ·subst a2;exact⟨by omega,by omega,rfl⟩
  ·subst a2;exact⟨by omega,by simp only;omega,rfl⟩
  ·exact⟨by omega,(hM' _ a1).2,rfl⟩
 ·rw[AHeap.get_append] at hb
  cases hl:lit0.get i with
  |some b0=>
   rw[hl] at hb
   simp only[Option.some_or,p0] at hb
   subst hb
   exact hH.get i b0 hl
  |none=>
   rw[hl] at hb
   simp only[Option.none_or] at hb
   have hm:=Ut hb
   have hat:J2 q M i=some (mv 2 q i):=by
    have hk:p12 i=true:=t.key _ hm
    rcases Y9 hk with h1|h1
    ·unfold mv;rw[if_neg (by omega),show i=(1,i.2) by rw[←h1]];exact l1 _
    ·unfold mv;rw[if_pos h1,show i=(2,i.2) by rw[←h1]];exact l2 _
   refine⟨_,_,hat,zx2 t hnr.1.2 hnr.2 (zx5 q1 t hb),?_⟩
   have e:(b.ren (mv 2 q)).ren (mv q 2)=b:=by
    rw[z77 q1 (t.val' _ hm)]
    have:=z05 (g:=mv 2 2) (h:=fun i=>i) (p:=p12) (fun id hid=>by
     unfold mv
     split
     ·rename_i h;rw[←h]
     ·rfl) b (t.val' _ hm)
    rw[this,zow]
   have:=BVw.mov (F:=fun _=>false) (H:=lit++up q T) (ρ:=J2 q M) (n:=3) (p1q q) (mv q 2) (b.ren (mv 2 q)) (z1u (fun id hid=>z5v (zr0 hid)) _ (t.val' _ hm)) (fun id hid=>by
    rcases Wd hid with h1|h1
    ·have e:mv q 2 id=id:=by unfold mv;rw[if_neg (by omega)]
     rw[e,show id=(1,id.2) by rw[←h1]]
     exact⟨by simp only;omega,l1 _⟩
    ·have e:mv q 2 id=(2,id.2):=by unfold mv;rw[if_pos h1]
     rw[e]
     refine⟨by simp only;omega,?_⟩
     rw[l2,←h1])
   rwa [e] at this
 ·simp only[pM,false_or,Bool.or_eq_true]
  constructor
  ·rintro(h1|h1)
   ·rcases Wd h1 with h1|h1
    ·exact⟨x,by rw[show x=(1,x.2) by rw[←h1]];exact l1 _⟩
    ·exact⟨(2,x.2),by rw[l2,←h1]⟩
   ·simp only[pO,List.any_eq_true,beq_iff_eq,exists_eq_right'] at h1
    obtain⟨i,hi⟩:=Kh (M:=M) h1 (by simpa[zu4] using hM1)
    have:=(hM3 _ (Zv hi)).1
    exact⟨i,by unfold J2;rw[if_neg (by simp only at this;omega),if_neg (by simp only at this;omega)];exact hi⟩
  ·rintro⟨i,hi⟩
   rcases cases hi with⟨a1,a2⟩|⟨a1,a2⟩|⟨a1,a2,a3,a4⟩
   ·left;subst a2;exact z5v (.inl a1)
   ·left;subst a2;exact z5v (.inr rfl)
   ·right
    simp only[pO,List.any_eq_true,beq_iff_eq,exists_eq_right']
    exact pF.2 ⟨_,a1,rfl⟩
 ·rw[List.map_append,List.nodup_append]
  refine⟨by simpa[z5e] using hnd,y39 (by omega) t',fun a ha b hb hab=>?_⟩
  obtain⟨x,hx,rfl⟩:=pF.1 ha
  obtain⟨y,hy,rfl⟩:=pF.1 hb
  have h1:=hnr.1.1.1.1
  have h3:=hnr.1.1.1.2
  unfold noR at h1 h3
  rw[pD] at h1 h3
  rcases(zfk t' hy).1 with g|g
  ·exact z40 (h1 x hx) (by rw[hab];exact g)
  ·exact z40 (h3 x hx) (by rw[hab];exact g)
 ·have hu:∀id:Id,p1q 3 id=true→z1x (J2 q M) 3 n m id=mv 3 n id:=by
   intro id hid
   rcases Wd hid with h1|h1
   ·unfold z1x mv;rw[if_pos (by omega),if_neg (by omega),show id=(1,id.2) by rw[←h1],l1];rfl
   ·unfold z1x mv;rw[if_neg (by omega),if_pos h1,h1];simp
  have eT:AHeap.renamed (z1x (J2 q M) 3 n m) (up 3 T')=up n T':=by
   rw[←y77 (q:=3) (q':=n) (by omega) t']
   unfold AHeap.renamed
   refine pG fun x hx=>?_
   obtain⟨g1,g2⟩:=zfk t' hx
   rw[hu _ (z5v g1),z05 hu _ g2]
  have eL:AHeap.renamed (z1x (J2 q M) 3 n m) (L++up 3 T')=L'++up n T':=by
   have:=hL.eq
   unfold AHeap.renamed at this eT ⊢
   rw[List.map_append,this,eT]
  rw[hR,eL]
  refine⟨_,fun id blk hb=>?_,hk⟩
  rw[AHeap.get_append] at hb ⊢
  rw[AHeap.get_append]
  cases g1:L'.get id with
  |some b=>rw[g1] at hb;simpa using hb
  |none=>
   rw[g1] at hb
   simp only[Option.none_or] at hb ⊢
   rw[AHeap.get_append] at hb
   cases g2:rest.get id with
   |none=>
    rw[g2] at hb
    simp only[Option.none_or] at hb
    rw[hb];rfl
   |some b=>
    rw[g2] at hb
    simp only[Option.some_or,p0] at hb
    subst hb
    -- an old block: not under 1, nor under n
    have hg:lit.get id=some b∧(M.map (·.2)).contains id=false:=by
     rw[←hrest,AHeap.get_without] at g2
     split at g2
     ·cases g2
     ·rename_i hc;exact⟨g2,by simpa using hc⟩
    have hlt:id.1≠1∧id.1≠q:=⟨fun h=>by rw[Vt hnr.1.2 h] at hg;exact absurd hg.1 (by simp),fun h=>by rw[Vt hnr.2 h] at hg;exact absurd hg.1 (by simp)⟩
    have hu0:(up n T').get id=none:=by
     cases hh:(up n T').get id with
     |none=>rfl
     |some b'=>
      rcases(zfk t' (Ut hh)).1 with h1|h1
      ·exact absurd h1 hlt.1
      ·rw[Vt hnr.1.1.2 h1] at hg;exact absurd hg.1 (by simp)
    have hp:(p1q q id || (M.map (·.2)).contains id)=false:=by
     rw[hg.2,Bool.or_false]
     cases hh:p1q q id with
     |false=>rfl
     |true=>
      rcases Wd hh with h1|h1
      ·exact absurd h1 hlt.1
      ·exact absurd h1 hlt.2
    rw[hu0,AHeap.get_without,hp,AHeap.get_append,hg.1]
    simp
structure Clo(P:Program)(fid:Fn)(first caps:List AVal){σ α τ:Type}(Hc:σ→AHeap)(ea:α→List AVal)(rb:τ→AVal)(g:σ→α→Option (τ×σ)):Prop where
 tl:∀s,Tl (Hc s)
 hf:AVal.inP.inPL (fun id=>pA id.1 1) first=true
 hc:AVal.inP.inPL (fun id=>pA id.1 1) caps=true
 hb:∀b,(rb b).nid=true
 yc:(∃f,fid=.func f)∨caps=[]
 call:∀s x o,g s x=some o→ACalls P fid (first++ea x++caps) (Hc s) 3 (u0 4 (rb o.1) (up 3 (Hc o.2)))
theorem Ur{F:Id→Bool}{H:AHeap}{ρ:Id→Option Id}{n:Nat}:∀ {a b c d:List AVal},ArgsTo F H ρ n a b→ArgsTo F H ρ n c d→ArgsTo F H ρ n (a++c) (b++d)
 |[],[],_,_,_,h=>h
 |[],_::_,_,_,h,_=>h.elim
 |_::_,[],_,_,h,_=>h.elim
 |x::xs,y::ys,_,_,h,h'=>⟨h.1,Ur h.2 h'⟩
theorem Vw.fix1{F:Id→Bool}{H:AHeap}{ρ:Id→Option Id}{n:Nat}{x:AVal}(hx:x.inP (fun id=>pA id.1 1)=true)(hn:1<n)(hρ:∀p,ρ (1,p)=some (1,p)):Vw F H ρ n x x:=by
 have:=Vw.mov (F:=F) (H:=H) (ρ:=ρ) (n:=n) (fun id=>pA id.1 1) (fun i=>i) x hx (fun id hid=>by
  have h1:=pB hid
  refine⟨by omega,?_⟩
  rw[show id=(1,id.2) by rw[←h1]];exact hρ _)
 rwa [Ui] at this
theorem Us{F:Id→Bool}{H:AHeap}{ρ:Id→Option Id}{n:Nat}(hn:1<n)(hρ:∀p,ρ (1,p)=some (1,p)):∀ {a:List AVal},AVal.inP.inPL (fun id=>pA id.1 1) a=true→ArgsTo F H ρ n a a
 |[],_=>trivial
 |x::r,h=>by
  simp only[AVal.inP.inPL,p9] at h
  exact⟨.fix1 h.1 hn hρ,Us hn hρ h.2⟩
theorem Vw.clo{F:Id→Bool}{H:AHeap}{ρ:Id→Option Id}{n:Nat}{f:Fn}{a c:List AVal}(ha:AVal.inP.inPL (fun id=>pA id.1 1) a=true)(hc:AVal.inP.inPL (fun id=>pA id.1 1) c=true)(hn:1<n)(hρ:∀p,ρ (1,p)=some (1,p)):Vw F H ρ n (.fn f a c) (.fn f a c):=
 .fix1 (by simp only[AVal.inP,ha,hc,Bool.and_self]) hn hρ
theorem zd3(q:Nat)(M:List (Id×Id))(p:Nat):J2 q M (1,p)=some (1,p):=by simp[J2]
theorem znx(H:AHeap)(p:Nat):zia H (1,p)=some (1,p):=by simp[zia]
theorem Clo.use{fid:Fn}{first caps:List AVal}{σ α τ:Type}{Hc:σ→AHeap}{ea:α→List AVal}{rb:τ→AVal}{g:σ→α→Option (τ×σ)}(c:Clo P fid first caps Hc ea rb g){s:σ}{x:α}{o:τ×σ}(h:g s x=some o)
 {args:List AVal} {lit:AHeap} {n q:Nat} {K:AVal→AHeap→Nat→Prop} (hn:(pE 3 q&&pE (q+1) n)=true) (hnr:(noR n lit&&noR 1 lit&&noR q lit)=true) (ha:ArgsTo (fun _=>false) (lit++up q (Hc s)) (J2 q []) 3 args (ea x))
 (hk:K (rb o.1) (lit++up n (Hc o.2)) (n+2)):ACallsC P fid first args caps (lit++up q (Hc s)) n K:=by
 have key:∀ {f:Fn},(∃f',f=.func f')∨caps=[]→ACalls P f (first++args++caps) (lit++up q (Hc s)) n K→ACallsC P f first args caps (lit++up q (Hc s)) n K:=by
  intro f h1 h2
  cases f with
  |func g=>exact h2
  |_=>
   rcases h1 with⟨f',h1⟩|h1
   ·cases h1
   ·exact⟨h1,h2⟩
 refine key c.yc ?_
 refine zws (m:=1) (L:=[]) (L':=[]) (lit0:=[]) (rest:=lit) (R':=rb o.1) (c.tl s) (c.tl o.2) [] (c.call s x o h) rfl rfl rfl ?_ rfl ?_ (Ur (Ur (Us (by omega) (zd3 q []) c.hf) ha) (Us (by omega) (zd3 q []) c.hc)) trivial
  (xl _ (c.hb _)) trivial (Kt (fun _ _=>rfl)) hk
 ·simp only[p9] at hn ⊢
  exact⟨hn,rfl⟩
 ·simp only[p9] at hnr ⊢
  exact⟨⟨⟨⟨rfl,rfl⟩,hnr.1.1⟩,hnr.1.2⟩,hnr.2⟩
theorem Vw.mslE{F:Id→Bool}{H:AHeap}{ρ:Id→Option Id}{n:Nat}{b b':Id}{s off len len':Nat}{f f':Bool}(h:ρ b'=some b)(hl:len=len')(hf:f=f'):Vw F H ρ n (.msl b s off len f) (.msl b' s off len' f'):=by
 subst hl;subst hf;exact .msl _ _ _ _ _ _ h
theorem y20{α:Type}(f:α→List AVal)(l m:List α){len:Nat}(h:len=l.length):((l.map f).drop 0).take len++m.map f=(l++m).map f:=by
 subst h;rw[List.map_append,List.drop_zero,List.take_of_length_le (by simp)]
theorem y0c{α:Type}(f:α→List AVal){l:List α}{len:Nat}(h:len=l.length):0+len≤(l.map f).length:=by rw[List.length_map];omega
theorem ACalls.same{f:Fn}{args:List AVal}{H:AHeap}{n:Nat}{R:AVal}(hR:R.nid=true)(h:ACalls P f args H n (fun r H' n'=>r=R∧z3w (fun _=>false) H' (rho n []) n n H)):ACalls P f args H n (fun r H' n'=>r=R∧H'=H∧n'=n):=by
 refine⟨h.1,fun I β w vs hI hl hr=>(h.2 I β w vs hI hl hr).mono ?_⟩
 rintro ee w' ⟨r,v,H',n',I',β',he,⟨rfl,hH⟩,hI',hr',hx⟩
 have hρ:RhoOk n n (fun _=>false) H' (rho n []):=zuj (by simp[z14]) (fun _ _=>rfl)
 obtain⟨k1,k2⟩:=zg2 hx hI' hρ hH
 exact⟨_,v,H,n,_,_,he,⟨rfl,rfl,rfl⟩,k2,Wk (fun _ _ h=>.inl h) _ hR hr',k1⟩
theorem ACalls.sim{f:Fn}{args args':List AVal}{H L:AHeap}{n n2:Nat}{K:AVal→AHeap→Nat→Prop}(hc:pE n n2=true)(ha:ArgsTo (fun _=>false) H (rho n []) n2 args args')(hH:HeapTo (fun _=>false) H (rho n []) n n2 L)
 (h:ACalls P f args' L n2 K):ACalls P f args H n K:=by
 refine⟨h.1,fun I β w vs hI hl hr=>?_⟩
 have hρ:RhoOk n n2 (fun _=>false) H (rho n []):=zuj (by simp[z14,hc]) (fun _ _=>rfl)
 obtain⟨k1,k2⟩:=zg2 (Ext.refl I β n H w hI.fresh) hI hρ hH.get
 obtain⟨ha1,ha2⟩:=ha.get
 refine(h.2 _ _ w vs k2 (by rw[hl,ha1]) (fun i y v hy hv=>?_)).mono ?_
 ·have hlt:i<args.length:=by rw[ha1];exact W7 hy
  exact z0w hI hρ (ha2 i args[i] y (pH hlt) hy) (hr i _ v (pH hlt) hv)
 ·rintro ee w' ⟨r,v,H',n',I',β',he,hk,hI',hr',hx⟩
  exact⟨r,v,H',n',I',β',he,hk,hI',hr',k1.trans hx⟩
def y0f(p:Id→Bool):AHeap→Prop
 |[]=>True
 |(_,b)::r=>b.inP p=true∧y0f p r
theorem z87{p:Id→Bool}:∀ {T:AHeap},y0f p T→∀x∈T,x.2.inP p=true
 |[],_,x,hx=>by cases hx
 |(_,b)::r,h,x,hx=>by
  rcases pU.1 hx with e|hx
  ·rw[e];exact h.1
  ·exact z87 h.2 x hx
theorem Tl.lit{T:AHeap}(hk:(T.all fun x=>p12 x.1)=true)(hv:y0f (fun id=>p12 id&&(T.get id).isSome) T)(hn:z5e T=true):Tl T:=
 ⟨by rw[pD] at hk;exact hk,z87 hv,by simpa[z5e] using hn⟩
theorem Vw.fnL{F:Id→Bool}{H:AHeap}{ρ:Id→Option Id}{n:Nat}{f:Fn}{a c a' c':List AVal}(h1:VwL F H ρ n a a')(h2:VwL F H ρ n c c'):Vw F H ρ n (.fn f a c) (.fn f a' c'):=.fn _ _ _ _ _ (Xe h1).1 (Xe h2).1 (Xe h1).2 (Xe h2).2
theorem Clo.mk'{fid:FuncId}{first caps:List AVal}{σ α τ:Type}{Hc:σ→AHeap}{ea:α→List AVal}{rb:τ→AVal}{g:σ→α→Option (τ×σ)}(tl:∀s,Tl (Hc s))(hf:AVal.inP.inPL (fun id=>pA id.1 1) first=true)(hc:AVal.inP.inPL (fun id=>pA id.1 1) caps=true)
 (hb:∀b,(rb b).nid=true) (call:∀s x o,g s x=some o→∃L,ACalls P fid (first++ea x++caps) (Hc s) 3 (u0 4 (rb o.1) L)∧RenL (mv 2 3) (Hc o.2) L):Clo P fid first caps Hc ea rb g:=
 ⟨tl,hf,hc,hb,.inl ⟨_,rfl⟩,fun s x o h=>by
  obtain⟨L,h1,h2⟩:=call s x o h
  have:=h2.eq
  unfold up
  rw[this];exact h1⟩
theorem zl{e e':Env}{x:LOpd}(h:∀t∈x.tmps,e.get t=e'.get t):x.ev e=x.ev e'∧x.need e=x.need e':=by
 cases x with
 |t i=>have:=h i (by simp[LOpd.tmps]);simp[LOpd.ev,LOpd.need,this]
 |c v=>exact⟨rfl,rfl⟩
theorem Qs{e e':Env}:∀ {l:List LOpd},(∀t∈l.flatMap LOpd.tmps,e.get t=e'.get t)→evs e l=evs e' l∧Wq e l=Wq e' l
 |[],_=>⟨rfl,rfl⟩
 |x::r,h=>by
  obtain⟨h1,h2⟩:=zl (e:=e) (e':=e') (x:=x) (fun t ht=>h t (by simp[ht]))
  obtain⟨h3,h4⟩:=Qs (e:=e) (e':=e') (l:=r) (fun t ht=>h t (by simp only[List.flatMap_cons,q6];exact .inr ht))
  simp only[evs,Wq,h1,h2,h3,h4,and_self]
theorem Jm{e e':Env}{x:Option LOpd}(h:∀t∈zel x,e.get t=e'.get t):(∀d,va e d x=va e' d x)∧Q3 e x=Q3 e' x∧z4e e x=z4e e' x:=by
 cases x with
 |none=>exact⟨fun _=>rfl,rfl,rfl⟩
 |some x=>
  obtain⟨h1,h2⟩:=zl (e:=e) (e':=e') (x:=x) h
  refine⟨fun d=>?_,?_,?_⟩<;>simp only[va,Q3,z4e,h1,h2]
theorem z2i{e e':Env}:∀ {l:List (Nat×Nat×LOpd)},(∀t∈l.flatMap (fun p=>p.2.2.tmps),e.get t=e'.get t)→uw e l=uw e' l∧uj e l=uj e' l
 |[],_=>⟨rfl,rfl⟩
 |(o,n,x)::r,h=>by
  obtain⟨h1,h2⟩:=zl (e:=e) (e':=e') (x:=x) (fun t ht=>h t (by simp[ht]))
  obtain⟨h3,h4⟩:=z2i (e:=e) (e':=e') (l:=r) (fun t ht=>h t (by simp only[List.flatMap_cons,q6];exact .inr ht))
  simp only[uw,uj,h1,h2,h3,h4,and_self]
theorem z11{e e':Env}:∀ {l:List (Nat×LOpd)},(∀t∈l.flatMap (fun p=>p.2.tmps),e.get t=e'.get t)→evI e l=evI e' l∧Uo e l=Uo e' l
 |[],_=>⟨rfl,rfl⟩
 |(n,x)::r,h=>by
  obtain⟨h1,h2⟩:=zl (e:=e) (e':=e') (x:=x) (fun t ht=>h t (by simp[ht]))
  obtain⟨h3,h4⟩:=z11 (e:=e) (e':=e') (l:=r) (fun t ht=>h t (by simp only[List.flatMap_cons,q6];exact .inr ht))
  simp only[evI,Uo,h1,h2,h3,h4,and_self]
theorem z34{e e':Env}{H:AHeap}{op:LOp}(h:∀t∈op.tmps,e.get t=e'.get t):vu e H op=vu e' H op:=by
 have hl:∀ {a b:List Nat},(∀t∈a++b,e.get t=e'.get t)→(∀t∈a,e.get t=e'.get t)∧(∀t∈b,e.get t=e'.get t):=fun h=>⟨fun t ht=>h t (List.mem_append_left _ ht),fun t ht=>h t (List.mem_append_right _ ht)⟩
 cases op with
 |mv x=>obtain⟨h1,h2⟩:=zl h;simp only[vu,h1,h2]
 |pick c a b=>
  obtain⟨h12,h3⟩:=hl h
  obtain⟨h1,h2⟩:=hl h12
  obtain⟨a1,a2⟩:=zl h1
  obtain⟨b1,b2⟩:=zl h2
  obtain⟨c1,c2⟩:=zl h3
  simp only[vu,a1,a2,b1,b2,c1,c2]
 |build zs parts=>obtain⟨h1,h2⟩:=z2i h;simp only[vu,h1,h2]
 |load g n a=>obtain⟨h1,h2⟩:=zl h;simp only[vu,h1,h2]
 |nilck x=>obtain⟨h1,h2⟩:=zl h;simp only[vu,h1,h2]
 |bin op x y=>
  obtain⟨h1,h2⟩:=hl h
  obtain⟨a1,a2⟩:=zl h1
  obtain⟨b1,b2⟩:=zl h2
  simp only[vu,a1,a2,b1,b2]
 |eq neg k x y=>
  obtain⟨h1,h2⟩:=hl h
  obtain⟨a1,a2⟩:=zl h1
  obtain⟨b1,b2⟩:=zl h2
  simp only[vu,a1,a2,b1,b2]
 |un op x=>obtain⟨h1,h2⟩:=zl h;simp only[vu,h1,h2]
 |conv k x=>
  obtain⟨h1,h2⟩:=zl h
  cases k<;>simp only[vu,h1,h2]
 |mkfn f a c=>
  obtain⟨h1,h2⟩:=hl h
  obtain⟨a1,a2⟩:=Qs h1
  obtain⟨b1,b2⟩:=Qs h2
  simp only[vu,a1,a2,b1,b2]
 |slStr x lo hi=>
  obtain⟨h12,h3⟩:=hl h
  obtain⟨h1,h2⟩:=hl h12
  obtain⟨a1,a2⟩:=zl h1
  obtain⟨b1,b2,_⟩:=Jm h2
  obtain⟨c1,c2,_⟩:=Jm h3
  simp only[vu,a1,a2,b1,b2,c1,c2]
 |slSl s x lo hi mx=>
  obtain⟨h123,h4⟩:=hl h
  obtain⟨h12,h3⟩:=hl h123
  obtain⟨h1,h2⟩:=hl h12
  obtain⟨a1,a2⟩:=zl h1
  obtain⟨b1,b2,_⟩:=Jm h2
  obtain⟨c1,c2,_⟩:=Jm h3
  obtain⟨_,d2,d3⟩:=Jm h4
  simp only[vu,a1,a2,b1,b2,c1,c2,d2,d3]
 |slAr k s x=>obtain⟨h1,h2⟩:=zl h;simp only[vu,h1,h2]
 |faddr off x=>obtain⟨h1,h2⟩:=zl h;simp only[vu,h1,h2]
 |field g n off x=>obtain⟨h1,h2⟩:=zl h;simp only[vu,h1,h2]
 |iaddr s x i=>
  obtain⟨h1,h2⟩:=hl h
  obtain⟨a1,a2⟩:=zl h1
  obtain⟨b1,b2⟩:=zl h2
  simp only[vu,a1,a2,b1,b2]
 |iaddrA n s x i=>
  obtain⟨h1,h2⟩:=hl h
  obtain⟨a1,a2⟩:=zl h1
  obtain⟨b1,b2⟩:=zl h2
  simp only[vu,a1,a2,b1,b2]
 |iaddrR n s x i=>
  obtain⟨h1,h2⟩:=hl h
  obtain⟨a1,a2⟩:=zl h1
  obtain⟨b1,b2⟩:=zl h2
  simp only[vu,a1,a2,b1,b2]
 |idxS x i=>
  obtain⟨h1,h2⟩:=hl h
  obtain⟨a1,a2⟩:=zl h1
  obtain⟨b1,b2⟩:=zl h2
  simp only[vu,a1,a2,b1,b2]
 |idxA n s g x i=>
  obtain⟨h1,h2⟩:=hl h
  obtain⟨a1,a2⟩:=zl h1
  obtain⟨b1,b2⟩:=zl h2
  simp only[vu,a1,a2,b1,b2]
 |mlook ks ka g ok zs x k=>
  obtain⟨h1,h2⟩:=hl h
  obtain⟨a1,a2⟩:=zl h1
  obtain⟨b1,b2⟩:=zl h2
  simp only[vu,a1,a2,b1,b2]
 |mlen x=>obtain⟨h1,h2⟩:=zl h;simp only[vu,h1,h2]
 |ext k x=>obtain⟨h1,h2⟩:=zl h;simp only[vu,h1,h2]
 |len b x=>obtain⟨h1,h2⟩:=zl h;cases b<;>simp only[vu,h1,h2]
 |mnx m args=>obtain⟨h1,h2⟩:=Qs h;simp only[vu,h1,h2]
 |_=>rfl
theorem z60{e e':Env}{H:AHeap}{n:Nat}{K:AVal→AHeap→Nat→Prop}{op:LOp}(h:∀t∈op.tmps,e.get t=e'.get t):Z1 P e H n K op=Z1 P e' H n K op:=by
 have hl:∀ {a b:List Nat},(∀t∈a++b,e.get t=e'.get t)→(∀t∈a,e.get t=e'.get t)∧(∀t∈b,e.get t=e'.get t):=fun h=>⟨fun t ht=>h t (List.mem_append_left _ ht),fun t ht=>h t (List.mem_append_right _ ht)⟩
 cases op with
 |box x=>obtain⟨h1,h2⟩:=zl h;simp only[Z1,h1,h2]
 |mkSl vm s zs len parts=>obtain⟨h1,h2⟩:=z11 h;simp only[Z1,h1,h2]
 |store m a x=>
  obtain⟨h1,h2⟩:=hl h
  obtain⟨a1,a2⟩:=zl h1
  obtain⟨b1,b2⟩:=zl h2
  simp only[Z1,a1,a2,b1,b2]
 |conv k x=>
  obtain⟨h1,h2⟩:=zl h
  cases k<;>simp only[Z1,h1,h2]
 |mkslice vm s b zs l c=>
  obtain⟨h1,h2⟩:=hl h
  obtain⟨a1,a2⟩:=zl h1
  obtain⟨b1,b2⟩:=zl h2
  simp only[Z1,a1,a2,b1,b2]
 |call f args=>obtain⟨h1,h2⟩:=Qs h;simp only[Z1,h1,h2]
 |callv x args=>
  obtain⟨h1,h2⟩:=hl h
  obtain⟨a1,a2⟩:=zl h1
  obtain⟨b1,b2⟩:=Qs h2
  simp only[Z1,a1,a2,b1,b2]
 |app vm s b x y=>
  obtain⟨h1,h2⟩:=hl h
  obtain⟨a1,a2⟩:=zl h1
  obtain⟨b1,b2⟩:=zl h2
  simp only[Z1,a1,a2,b1,b2]
 |mkmap r=>cases r<;>rfl
 |range x=>obtain⟨h1,h2⟩:=zl h;simp only[Z1,h1,h2]
 |next x=>obtain⟨h1,h2⟩:=zl h;simp only[Z1,h1,h2]
 |entry x=>obtain⟨h1,h2⟩:=zl h;simp only[Z1,h1,h2]
 |mset ks ka g zs m k x=>
  obtain⟨h12,h3⟩:=hl h
  obtain⟨h1,h2⟩:=hl h12
  obtain⟨a1,a2⟩:=zl h1
  obtain⟨b1,b2⟩:=zl h2
  obtain⟨c1,c2⟩:=zl h3
  simp only[Z1,a1,a2,b1,b2,c1,c2]
 |mdel ks ka m k=>
  obtain⟨h1,h2⟩:=hl h
  obtain⟨a1,a2⟩:=zl h1
  obtain⟨b1,b2⟩:=zl h2
  simp only[Z1,a1,a2,b1,b2]
 |copy s x y=>
  obtain⟨h1,h2⟩:=hl h
  obtain⟨a1,a2⟩:=zl h1
  obtain⟨b1,b2⟩:=zl h2
  simp only[Z1,a1,a2,b1,b2]
 |_=>rfl
theorem zkh{s bytes:Nat}{H:AHeap}{n:Nat}{K K':AVal→AHeap→Nat→Prop}{x:AVal}{rows2:List (List AVal)}(hk:∀r H n,K r H n→K' r H n)(h:z9w s bytes H n K x rows2):z9w s bytes H n K' x rows2:=by
 unfold z9w at h ⊢
 split at h
 ·exact⟨h.1,hk _ _ _ h.2⟩
 ·exact⟨h.1,h.2.1,h.2.2.1,hk _ _ _ h.2.2.2⟩
 ·exact⟨h.1,h.2.1,h.2.2.1,hk _ _ _ h.2.2.2⟩
 ·exact h.elim
theorem zq6{s bytes:Nat}{H:AHeap}{n:Nat}{K K':AVal→AHeap→Nat→Prop}{x:AVal}{rows2:List (List AVal)}(hk:∀r H n,K r H n→K' r H n)(h:zth s bytes H n K x rows2):zth s bytes H n K' x rows2:=by
 unfold zth at h ⊢
 split at h
 ·exact⟨fun hr=>hk _ _ _ (h.1 hr),fun hr=>⟨(h.2 hr).1,hk _ _ _ (h.2 hr).2⟩⟩
 ·exact⟨h.1,fun hr=>hk _ _ _ (h.2.1 hr),fun hr=>⟨(h.2.2 hr).1,(h.2.2 hr).2.1,hk _ _ _ (h.2.2 hr).2.2⟩⟩
 ·split at h
  ·rename_i hg
   try simp only[hg]
   exact⟨h.1,h.2.1,h.2.2.1,fun hf hr=>hk _ _ _ (h.2.2.2.1 hf hr),fun hr=>⟨(h.2.2.2.2 hr).1,hk _ _ _ (h.2.2.2.2 hr).2⟩⟩
  ·exact h.elim
 ·exact h.elim
theorem J9{e:Env}{H:AHeap}{n:Nat}{K K':AVal→AHeap→Nat→Prop}{op:LOp}(hk:∀r H n,K r H n→K' r H n)(h:Z1 P e H n K op):Z1 P e H n K' op:=by
 cases op<;>simp only[Z1] at h ⊢<;>try (exact h.elim)
 case alloc zs=>exact hk _ _ _ h
 case allocR s zs=>exact hk _ _ _ h
 case allocB T el=>exact hk _ _ _ h
 case box x=>
  split at h<;>try (exact h.elim)
  rename_i hc
  try simp only[hc]
  exact⟨h.1,hk _ _ _ h.2⟩
 case mkSl vm s zs len parts=>
  split at h<;>try (exact h.elim)
  rename_i hr
  try simp only[hr]
  cases vm with
  |true=>
   simp only at h ⊢
   split at h<;>try (exact h.elim)
   rename_i hi
   try simp only[hi]
   exact⟨h.1,h.2.1,h.2.2.1,hk _ _ _ h.2.2.2⟩
  |false=>
   obtain⟨h1,h2,h3,rs,h4,h5⟩:=h
   exact⟨h1,h2,h3,rs,h4,hk _ _ _ h5⟩
 case store m a x=>
  split at h<;>try (exact h.elim)
  rename_i ha hc
  try simp only[ha,hc]
  split at h
  ·rename_i hg
   try simp only[hg]
   exact⟨h.1,h.2.1,h.2.2.1,h.2.2.2.1,h.2.2.2.2.1,hk _ _ _ h.2.2.2.2.2⟩
  ·rename_i hg
   try simp only[hg]
   exact⟨h.1,h.2.1,h.2.2.1,h.2.2.2.1,h.2.2.2.2.1,hk _ _ _ h.2.2.2.2.2⟩
  ·exact h.elim
 case conv k x=>
  cases k<;>(try simp only at h ⊢)<;>try (exact h.elim)
  case s2b vm=>
   split at h<;>try (exact h.elim)
   rename_i hl
   try simp only[hl]
   cases vm<;>exact⟨h.1,hk _ _ _ h.2⟩
  case b2s=>
   split at h<;>try (exact h.elim)
   rename_i hl
   try simp only[hl]
   exact⟨h.1,h.2.1,h.2.2.1,h.2.2.2.1,hk _ _ _ h.2.2.2.2⟩
 case mkslice vm s bytes zs l c=>
  split at h<;>try (exact h.elim)
  rename_i hl hc
  try simp only[hl,hc]
  cases vm with
  |true=>exact⟨h.1,h.2.1,h.2.2.1,h.2.2.2.1,h.2.2.2.2.1,hk _ _ _ h.2.2.2.2.2⟩
  |false=>
   obtain⟨h1,h2,h3,h4,h5,rows,h7,h6⟩:=h
   exact⟨h1,h2,h3,h4,h5,rows,h7,hk _ _ _ h6⟩
 case call f args=>exact⟨h.1,h.2.mono hk⟩
 case mkmap r=>
  cases r with
  |none=>exact hk _ _ _ h
  |some x=>exact h.elim
 case range x=>
  split at h
  ·rename_i hx
   try simp only[hx]
   split at h<;>try (exact h.elim)
   rename_i hg
   try simp only[hg]
   exact⟨h.1,fun arr ck=>hk _ _ _ (h.2 arr ck)⟩
  ·rename_i hx
   try simp only[hx]
   exact⟨h.1,hk _ _ _ h.2⟩
  ·exact h.elim
 case next x=>
  split at h<;>try (exact h.elim)
  rename_i hx
  try simp only[hx]
  split at h
  ·rename_i hg
   try simp only[hg]
   exact⟨h.1,hk _ _ _ h.2⟩
  ·rename_i hg
   try simp only[hg]
   split at h<;>try (exact h.elim)
   rename_i hb
   try simp only[hb]
   exact⟨h.1,h.2.1,h.2.2.1,fun q=>hk _ _ _ (h.2.2.2.1 q),fun j h1 h2=>hk _ _ _ (h.2.2.2.2 j h1 h2)⟩
  ·exact h.elim
 case entry x=>
  split at h<;>try (exact h.elim)
  rename_i hx
  try simp only[hx]
  split at h<;>try (exact h.elim)
  rename_i hg
  try simp only[hg]
  split at h<;>try (exact h.elim)
  rename_i hb
  try simp only[hb]
  obtain⟨h1,h2,h3,p,h4,h5⟩:=h
  exact⟨h1,h2,h3,p,h4,hk _ _ _ h5⟩
 case mset ks ka g zs m k x=>
  split at h<;>try (exact h.elim)
  rename_i hm hy
  try simp only[hm,hy]
  split at h<;>try (exact h.elim)
  rename_i hg
  try simp only[hg]
  split at h<;>try (exact h.elim)
  rename_i hp
  try simp only[hp]
  exact⟨h.1,h.2.1,h.2.2.1,h.2.2.2.1,hk _ _ _ h.2.2.2.2⟩
 case mdel ks ka m k=>
  split at h<;>try (exact h.elim)
  rename_i hm
  try simp only[hm]
  split at h<;>try (exact h.elim)
  rename_i hg
  try simp only[hg]
  split at h<;>try (exact h.elim)
  rename_i hp
  try simp only[hp]
  exact⟨h.1,h.2.1,h.2.2.1,hk _ _ _ h.2.2.2⟩
 case callv x args=>
  split at h<;>try (exact h.elim)
  rename_i hx
  try simp only[hx]
  exact⟨h.1,h.2.1,h.2.2.mono hk⟩
 case app vm s bytes x y=>
  split at h<;>try (exact h.elim)
  rename_i hr
  try simp only[hr]
  cases vm with
  |true=>
   simp only at h ⊢
   split at h<;>try (exact h.elim)
   rename_i hi
   try simp only[hi]
   exact⟨h.1,h.2.1,h.2.2.1,zkh hk h.2.2.2⟩
  |false=>exact⟨h.1,h.2.1,h.2.2.1,zq6 hk h.2.2.2⟩
 case copy s x y=>
  split at h<;>try (exact h.elim)
  rename_i hx hr
  try simp only[hx,hr]
  split at h<;>try (exact h.elim)
  rename_i hg
  try simp only[hg]
  exact⟨h.1,h.2.1,h.2.2.1,h.2.2.2.1,h.2.2.2.2.1,h.2.2.2.2.2.1,hk _ _ _ h.2.2.2.2.2.2⟩
theorem zh3{lo:LOper}{e:Env}{t:Nat}(h:t∈lo.looks):(lo.sees e).get t=e.get t:=by
 unfold LOper.sees
 generalize lo.looks=l at h
 induction l with
 |nil=>cases h
 |cons a r ih=>
  simp only[pV,Env.get]
  split
  ·rename_i h1;rw[h1]
  ·rename_i h1
   rcases pU.1 h with e'|h
   ·exact absurd e'.symm h1
   ·exact ih h
theorem Ky{lo:LOper}{e:Env}:∀t∈lo.op.tmps,(lo.sees e).get t=e.get t:=fun t ht=>zh3 (by unfold LOper.looks;exact List.mem_append_left _ ht)
theorem zkk{d:Option Nat}{op:LOp}{g:Nat}{w:Bool}{e:Env}:((⟨d,op,some (g,w)⟩:LOper).sees e).get g=e.get g:=zh3 (by simp[LOper.looks])
theorem Zk{R:Env→AHeap→Nat→Prop}:∀ (items:List DItem) {p:Nat} {done:List (Nat×LOper×Env×AVal)} {e:Env} {H:AHeap} {n:Nat},(items.all fun it=>it.loose.isEmpty)=true→Wo P (items.map (·.lo)) R e H n→xd P items p done R e H n
 |[],p,done,e,H,n,_,h=>h
 |⟨⟨d,op,none⟩,loose⟩::rest,p,done,e,H,n,hl,h=>by
  simp only[List.all_cons,p9] at hl
  have hlo:loose=[]:=by simpa using hl.1
  simp only[pV,Wo] at h
  unfold xd
  try simp only
  split at h
  ·rename_i hp
   try simp only[hp]
   split at h
   ·rename_i side v hx
    refine⟨v,?_,Zk rest hl.2 h.2⟩
    unfold Jq
    try simp only
    rw[z34 (e':=e) (fun t ht=>Ky (lo:=⟨d,op,none⟩) t ht),hx]
    exact⟨h.1,.inl rfl⟩
   ·exact h.elim
  ·rename_i hp
   try simp only[hp]
   unfold z1g
   try simp only
   rw[z60 (e':=e) (fun t ht=>Ky (lo:=⟨d,op,none⟩) t ht)]
   refine J9 (fun r H' n' hk=>⟨(fun x _ hx=>by rw[hlo] at hx;cases hx),Zk rest hl.2 hk⟩) h
 |⟨⟨d,op,some (g,want)⟩,loose⟩::rest,p,done,e,H,n,hl,h=>by
  simp only[List.all_cons,p9] at hl
  have hlo:loose=[]:=by simpa using hl.1
  simp only[pV,Wo] at h
  unfold xd
  try simp only
  split at h<;>try (exact h.elim)
  rename_i q hq
  have hg:Y4 (((⟨d,op,some (g,want)⟩:LOper).sees e).get g) want=some q:=by rw[zkk];exact hq
  split at h
  ·rename_i hp
   try simp only[hp]
   unfold Jq
   try simp only
   try simp only[hg]
   rw[z34 (e':=e) (fun t ht=>Ky (lo:=⟨d,op,some (g,want)⟩) t ht)]
   split at h
   ·rename_i side v hx
    try simp only[hx]
    rcases h with⟨u,h1,h2⟩|⟨h1,h2⟩
    ·exact⟨.cnd q u,⟨fun hq=>(h1 hq).1,.inr (.inr ⟨q,v,u,rfl,rfl,fun hq=>(h1 hq).2⟩)⟩,Zk rest hl.2 h2⟩
    ·refine⟨.tup [],⟨(fun hq=>by rw[h1] at hq;cases hq),.inr (.inl ⟨.inr ⟨v,by rw[h1]⟩,.inl rfl⟩)⟩,Zk rest hl.2 h2⟩
   ·rename_i hx
    try simp only[hx]
    exact⟨.tup [],⟨h.1,.inl rfl⟩,Zk rest hl.2 h.2⟩
  ·rename_i hp
   try simp only[hp]
   unfold z1g
   try simp only
   try simp only[hg]
   have hk:∀ (K:AVal→AHeap→Nat→Prop) (hh:q=true→Z1 P e H n K op),q=true→Z1 P ((⟨d,op,some (g,want)⟩:LOper).sees e) H n K op:=fun K hh hq=>by
    rw[z60 (e':=e) (fun t ht=>Ky (lo:=⟨d,op,some (g,want)⟩) t ht)];exact hh hq
   rcases h with⟨R',h1,h2⟩|⟨h1,h2⟩
   ·exact Or.inl ⟨R',(hk _ h1),(fun x _ hx=>by rw[hlo] at hx;cases hx),Zk rest hl.2 h2⟩
   ·refine Or.inr ⟨hk _ (fun hq=>J9 (fun r H' n' hk=>⟨(fun x _ hx=>by rw[hlo] at hx;cases hx),Zk rest hl.2 hk⟩) (h1 hq)),fun hq=>(h2 hq).elim fun u hu=>⟨u,hu.1,(fun x _ hx=>by rw[hlo] at hx;cases hx),Zk rest hl.2 hu.2⟩⟩
theorem zdz{N:Lay}{n0:Nat}{items:List DItem}{Q:Exit→Env→AHeap→Nat→Prop}{e:Env}{H:AHeap}{n:Nat}(hl:(items.all fun it=>it.loose.isEmpty)=true)(h:zpm P (items.map (·.lo)) (Q .normal) e H n):LWp P N n0 (.draw items) Q e H n:=
 yz (.draw items) Q e H n (Zk items hl (Wz _ h))
def lk{κ α:Type}(q:κ→κ→Bool):List (κ×α)→κ→Option α
 |[],_=>none
 |(k',v)::r,k=>if q k k'=true then some v else lk q r k
def mp{κ α:Type}(q:κ→κ→Bool):List (κ×α)→κ→α→List (κ×α)
 |[],k,v=>[(k,v)]
 |(k',v')::r,k,v=>if q k k'=true then(k,v)::r else(k',v')::mp q r k v
def md{κ α:Type}(q:κ→κ→Bool):List (κ×α)→κ→List (κ×α)
 |[],_=>[]
 |(k',v')::r,k=>if q k k'=true then r else(k',v')::md q r k
def em{κ α:Type}(ek:κ→AVal)(ev:α→AVal)(p:κ×α):AVal×AVal:=(ek p.1,ev p.2)
theorem z2w{κ α:Type}{ks:List CK}{ek:κ→AVal}{ev:α→AVal}{q:κ→κ→Bool}(hq:∀a b,Wh ks (ek a) (ek b)=some (q a b))(k:κ):∀ (l:List (κ×α)),Ub ks (ek k) (l.map (em ek ev))=some ((lk q l k).map ev)
 |[]=>rfl
 |(k',v)::r=>by
  simp only[pV,em,Ub,hq,lk]
  cases h:q k k' with
  |true=>simp
  |false=>simpa using z2w hq k r
theorem zgo{κ α:Type}{ks:List CK}{ek:κ→AVal}{ev:α→AVal}{q:κ→κ→Bool}(hq:∀a b,Wh ks (ek a) (ek b)=some (q a b))(k:κ)(v:α):∀ (l:List (κ×α)),zmr ks (ek k) (ev v) (l.map (em ek ev))=some ((mp q l k v).map (em ek ev))
 |[]=>rfl
 |(k',v')::r=>by
  simp only[pV,em,zmr,hq,mp]
  cases h:q k k' with
  |true=>simp[em]
  |false=>
   have:=zgo (ev:=ev) hq k v r
   simp only at this ⊢
   simp[this,em]
theorem y4a{κ α:Type}{ks:List CK}{ek:κ→AVal}{ev:α→AVal}{q:κ→κ→Bool}(hq:∀a b,Wh ks (ek a) (ek b)=some (q a b)){g:Bool}{zs:List AVal}{z:α}(hz:z95 g zs=ev z)(k:κ)(l:List (κ×α)) :
 ztg g false zs ((Ub ks (ek k) (l.map (em ek ev))).getD none)=ev ((lk q l k).getD z):=by
 rw[z2w hq]
 cases h:lk q l k<;>simp[ztg,hz]
theorem zje{κ α:Type}{ks:List CK}{ek:κ→AVal}{ev:α→AVal}{q:κ→κ→Bool}(hq:∀a b,Wh ks (ek a) (ek b)=some (q a b))(k:κ)(l:List (κ×α)):(Ub ks (ek k) (l.map (em ek ev))).isSome=true:=by rw[z2w hq];rfl
theorem BVw.ofMap{F:Id→Bool}{H:AHeap}{ρ:Id→Option Id}{n:Nat}{κ α:Type}(ek:κ→AVal)(ev:α→AVal)(hv:∀x,(ev x).nid=true)(l:List (κ×α)):BVw F H ρ n (.amap (l.map (em ek ev))) (.amap (l.map (em ek ev))):=
 .amap _ (fun x hx=>by obtain⟨y,_,rfl⟩:=pF.1 hx;exact hv _)
end Go.Fx
namespace Go.Fx
open Go
section
variable {P:Program} {I:Nat→Nat→Prop} {β:Id→Option CLoc} {n:Nat} {H:AHeap} {w:World}
theorem zkw(hI:Inv I β n H w)(s:Nat) :
 ∃β',Inv I β' (n+1) (((n,0),.rows s [])::H) w∧Ext I β n H w I β' (n+1) (((n,0),.rows s [])::H) w∧(∀ {x:AVal} {v:Value},Rep I β n w x v→Rep I β' (n+1) w x v):=by
 have hup:∀id d,id.1<n→upd β (n,0) (some ⟨0,0,0,0,s⟩) id=some d→β id=some d:=fun id d hid hd=>by
  rwa [zp _ _ (fun h=>by subst h;exact absurd hid (Nat.lt_irrefl n))] at hd
 have hno:∀ (d:CLoc) (x k:Nat),d=⟨0,0,0,0,s⟩→¬d.has x k:=fun d x k h hk=>by subst h;exact absurd hk.2.2 (Nat.not_lt_zero k)
 obtain⟨g1,g2⟩:=Z4 (I':=I) (β':=upd β (n,0) (some ⟨0,0,0,0,s⟩)) (n':=n+1) (H':=((n,0),.rows s [])::H) hI (Chg.refl w (fun _ _=>False)) (Nat.le_succ n) (fun _ _ h=>h.elim) (fun _ _ h=>h) (fun _ _ h h'=>absurd h h') (fun id hid=>.inl (zp _ _ (Zp hid)))
  (fun id d x k hid hd hk=>by
   rcases ky hd hI.fresh with⟨_,rfl⟩|⟨h,_⟩
   ·exact absurd hk (hno _ _ _ rfl)
   ·omega)
  (fun id hid=>by
   rw[zp _ _ (fun h=>by subst h;exact absurd hid (Nat.not_succ_le_self n))]
   exact hI.fresh id (by omega))
  (fun i j d d' x k hi hj hk hk' hn=>by
   rcases ky hj hI.fresh with⟨rfl,rfl⟩|⟨h,_⟩
   ·exact absurd hk' (hno _ _ _ rfl)
   ·omega)
  (fun i d x k _ _ h=>h)
  (fun id hid hg=>by rwa [AHeap.get_cons_other _ _ (Zp hid).symm] at hg)
  (fun id blk' hid=>by
   by_cases h:(n,0)=id
   ·subst h
    rw[AHeap.get_cons_same] at hid
    simp only[p0] at hid
    subst hid
    exact .inr ⟨_,jv _ _ _,rfl,.inr ⟨rfl,rfl,rfl⟩,fun k _ hk=>absurd hk (Nat.not_lt_zero k),pQ _,by simp,fun i r hi=>by simp at hi,fun i r j x hi=>by simp at hi⟩
   ·rw[AHeap.get_cons_other _ _ h] at hid
    exact .inl ⟨hid,zp _ _ (fun h'=>h h'.symm),fun _ _ _ _ _ h=>h⟩)
 exact⟨_,g1,g2,fun hr=>hr.mono' (fun _ _ h=>h) (fun _ _ _=>rfl) (Nat.le_succ n) hup⟩
theorem LWp.ghost{N:Lay}{n0:Nat}{lc:LCode}{Q:Exit→Env→AHeap→Nat→Prop}{e:Env}(s:Nat)
 (h:LWp P N n0 lc Q e (((n,0),.rows s [])::H) (n+1)):LWp P N n0 lc Q e H n:=by
 intro c hc ro hro J0 γ0 G0 w0 I β w a hX hI hE hN hD QQ hQ
 obtain⟨β',g1,g2,g3⟩:=zkw hI s
 exact h c hc ro hro J0 γ0 G0 w0 I β' w a (hX.trans g2) g1 (fun t=>g3 (hE t)) hN hD QQ hQ
end
end Go.Fx
namespace Go.Fx
open Go
section
variable {P:Program} {I:Nat→Nat→Prop} {β:Id→Option CLoc} {n:Nat} {H:AHeap} {w:World}
def y7w(P:Program)(f:FuncId):Prop:=∀ (b:Nat) (es:Array MapEntry) (ck:Nat) (w:World),w.heap[b]?=some (.map es ck) →
 Calls P f #[.map (some b)] w fun e w'=>e=.returned (.map (some w.heap.size))∧w'=w.alloc (.map es ck)
theorem zg1{o:Oper}{a:Act}{w w':World}{next:Act→World→Prop}{Q:Exit→Act→World→Prop}{s:Sem Value}{v:Value}(he:execOp a.eval o=(do pure (.value (←s)):Sem Next))(hs:s.run P w=.ok v w')(h:next (a.put o.dst v) w'):o.wp P a w next Q:=by
 unfold Oper.wp
 rw[he,pP,hs]
 exact h
end
end Go.Fx
namespace Go.Fx
def z28(I:Nat→Nat→Prop)(w:World)(aq:List AVal)(cs:List Value):Prop:=
 cs.length=aq.length∧(∀v∈cs,jf v=true)∧∀ (i:Nat) (a:AVal) (v:Value),aq[i]?=some a→cs[i]?=some v→RepI I w a v
def old(w:World):Nat→Nat→Prop:=fun b k=>∃v,w.cell? ⟨b,k,none⟩=some v
structure RA(P:Program)(t:TypeId)(α:Type)(e:α→List AVal)(ok:α→Prop):Prop where
 size:∀x,(e x).length=P.cellsOf t
 reads:∀ {H:Type} {enc:TypeId×Value→H} {w:World} {fuel:Nat} {cs:List Value} {d:DataW H} {ps:List MemPlace},q9 enc P w 0 (fun _=>true) true fuel t cs=some (d,ps)→(∀n∈d.weights P t,n≤reachBytes)→∃x,ok x∧z28 (old w) w (e x) cs
variable {P:Program}
theorem RA.map{t:TypeId}{α γ:Type}{e:α→List AVal}{ok:α→Prop}(h:RA P t α e ok)(g:α→γ){e':γ→List AVal}{ok':γ→Prop}(he:∀x,e' (g x)=e x)(hg:∀y,∃x,y=g x)(hok:∀x,ok x→ok' (g x)):RA P t γ e' ok':=
 ⟨fun y=>by obtain⟨x,rfl⟩:=hg y;rw[he];exact h.size x,fun h1 h2=>by
  obtain⟨x,h3,h4⟩:=h.reads h1 h2
  exact⟨g x,hok x h3,by rw[he];exact h4⟩⟩
theorem Q1{I:Nat→Nat→Prop}{w:World}{a:AVal}{v:Value}(h:RepI I w a v)(hc:jf v=true):z28 I w [a] [v]:=by
 refine⟨rfl,by simpa using hc,fun i x u hx hu=>?_⟩
 cases i with
 |zero=>simp at hx hu;subst hx;subst hu;exact h
 |succ i=>simp at hx
theorem RA.bool{t:TypeId}(ht:P.underlying t=some .bool)(hs:P.cellsOf t=1):RA P t Bool (fun b=>[.bool b]) (fun _=>True):=by
 refine⟨fun _=>hs.symm,fun {H enc w fuel cs d ps} h _=>?_⟩
 cases fuel with
 |zero=>cases h
 |succ fuel=>
  unfold q9 at h
  simp only[ht] at h
  split at h<;>try (simp at *;done)
  rename_i b _
  exact⟨b,trivial,Q1 (.bool b) rfl⟩
theorem RA.int{t:TypeId}{k:IntKind}(ht:P.underlying t=some (.int k))(hs:P.cellsOf t=1):RA P t Int (fun n=>[.int k n]) (fun n=>k.min≤n∧n≤k.max):=by
 refine⟨fun _=>hs.symm,fun {H enc w fuel cs d ps} h _=>?_⟩
 cases fuel with
 |zero=>cases h
 |succ fuel=>
  unfold q9 at h
  rcases cs with _|⟨v,_|⟨v2,r⟩⟩
  ·simp[ht] at h
  ·cases v<;>simp only[ht] at h<;>try (cases h;done)
   rename_i k2 m
   split at h<;>try (cases h;done)
   rename_i hk
   obtain⟨rfl,hwf⟩:=hk
   simp only[Lit.wf,p9,decide_eq_true_eq] at hwf
   exact⟨m,hwf,Q1 (.int _ m) rfl⟩
  ·simp[ht] at h
theorem RA.string{t:TypeId}(ht:P.underlying t=some .string)(hs:P.cellsOf t=1):RA P t (List UInt8) (fun l=>[.str l]) (fun l=>l.length≤reachBytes):=by
 refine⟨fun _=>hs.symm,fun {H enc w fuel cs d ps} h hw=>?_⟩
 cases fuel with
 |zero=>cases h
 |succ fuel=>
  unfold q9 at h
  simp only[ht] at h
  split at h<;>try (simp at *;done)
  rename_i s _
  split at h<;>try (cases h;done)
  simp only[p0,pK] at h
  obtain⟨rfl,_⟩:=h
  refine⟨s.data.toList,?_,Q1 ?_ rfl⟩
  ·exact hw _ (by simp[DataW.weights])
  ·exact .str s.data.toList
theorem Ja{α γ:Type}{f:α→Option γ}:∀ {l:List α} {r:List γ},l.mapM f=some r→r.length=l.length∧∀ (i:Nat) (a:α) (b:γ),l[i]?=some a→r[i]?=some b→f a=some b
 |[],r,h=>by simp at h;subst h;simp
 |a::l,r,h=>by
  rw[List.mapM_cons] at h
  cases hf:f a with
  |none=>rw[hf] at h;cases h
  |some b=>
   cases hr:l.mapM f with
   |none=>rw[hf,hr] at h;cases h
   |some r'=>
    rw[hf,hr] at h
    simp at h
    subst h
    obtain⟨h1,h2⟩:=Ja hr
    refine⟨by simp[h1],fun i x y hx hy=>?_⟩
    cases i with
    |zero=>simp at hx hy;subst hx;subst hy;exact hf
    |succ i=>exact h2 i x y (by simpa using hx) (by simpa using hy)
theorem cells?_get {w:World} {a:Addr} {n:Nat} {cs:List Value} (h:w.cells? 0 a n=some cs):cs.length=n∧∀j v,cs[j]?=some v→w.cell? (a.add j)=some v:=by
 unfold World.cells? at h
 rw[if_pos (Nat.zero_le _)] at h
 obtain⟨h1,h2⟩:=Ja h
 refine⟨by simpa using h1,fun j v hj=>?_⟩
 have hlt:j<n:=by
  rcases pX j n with h|h
  ·exact h
  ·rw[pY (by rw[h1];simpa using h)] at hj;cases hj
 exact h2 j j v (List.getElem?_range hlt) hj
theorem Xy{H:Type}{P:Program}{e:TypeId}:∀ {l:List (DataW H)} {d:DataW H},d∈l→∀n∈d.weights P e,n∈DataW.weightsAll P e l
 |x::l,d,hd,n,hn=>by
  simp only[DataW.weightsAll,q6]
  rcases pU.1 hd with rfl|h
  ·exact .inl hn
  ·exact .inr (Xy h n hn)
theorem Kd{α:Type}(p:Nat→α→Prop):∀ (n:Nat),(∀i,i<n→∃x,p i x)→∃l:List α,l.length=n∧∀i x,l[i]?=some x→p i x
 |0,_=>⟨[],rfl,fun i x h=>by simp at h⟩
 |n+1,h=>by
  obtain⟨l,h1,h2⟩:=Kd p n (fun i hi=>h i (by omega))
  obtain⟨x,hx⟩:=h n (by omega)
  refine⟨l++[x],by simp[h1],fun i y hy=>?_⟩
  rw[List.getElem?_append] at hy
  split at hy
  ·exact h2 i y hy
  ·rename_i hge
   rw[h1] at hge hy
   cases hi:i-n with
   |zero=>rw[hi] at hy;simp at hy;subst hy;have:i=n:=by omega
          subst this;exact hx
   |succ k=>rw[hi] at hy;simp at hy
theorem RA.slice{t c:TypeId}{α:Type}{e:α→List AVal}{ok:α→Prop}(ht:P.underlying t=some (.slice c))(hs:P.cellsOf t=1)(hc:0<P.cellsOf c)(h:RA P c α e ok) :
 RA P t (List α) (fun l=>[.isl (P.cellsOf c) (l.map e) false]) (fun l=>l.length≤maxLen∧l.length*P.bytesOf c≤reachBytes∧∀x∈l,ok x):=by
 refine⟨fun _=>hs.symm,fun {H enc w fuel cs d ps} hd hw=>?_⟩
 cases fuel with
 |zero=>cases hd
 |succ fuel=>
  unfold q9 at hd
  rcases cs with _|⟨v,_|⟨v2,r⟩⟩
  ·simp[ht] at hd
  ·cases v<;>simp only[ht] at hd<;>try (cases hd;done)
   rename_i ad len cap
   cases ad with
   |none=>
    rcases len with _|len<;>rcases cap with _|cap<;>simp only at hd<;>try (cases hd;done)
    exact⟨[],⟨Nat.zero_le _,by simp,by simp⟩,Q1 (.islNil _ _) rfl⟩
   |some ad=>
    simp only at hd
    split at hd<;>try (cases hd;done)
    rename_i hcond
    obtain⟨_,hlc,hcm⟩:=hcond
    cases hel:(List.range len).mapM (fun i=>(w.cells? 0 (ad.add (i*P.cellsOf c)) (P.cellsOf c)).bind (q9 enc P w 0 (fun _=>true) true fuel c)) with
    |none=>rw[hel] at hd;cases hd
    |some elems=>
     rw[hel] at hd
     simp only[Option.bind_some,if_true,q8,pK] at hd
     obtain⟨rest,hrest,hd1,_⟩:=hd
     obtain⟨k1,k2⟩:=Ja hel
     obtain⟨k3,_⟩:=Ja hrest
     subst hd1
     have hw1:(elems.length+rest.length)*P.bytesOf c≤reachBytes:=by
      have:=hw ((elems.length+rest.length)*P.bytesOf c) (by simp[DataW.weights,ht])
      exact this
     have hle:len*P.bytesOf c≤reachBytes:=by
      have:len*P.bytesOf c≤(elems.length+rest.length)*P.bytesOf c:=Nat.mul_le_mul_right _ (by rw[k1];simp)
      omega
     -- every element reads
     have each:∀i,i<len→∃x,ok x∧∃cs',w.cells? 0 (ad.add (i*P.cellsOf c)) (P.cellsOf c)=some cs'∧z28 (old w) w (e x) cs':=by
      intro i hi
      have hli:i<elems.length:=by rw[k1];simpa using hi
      have hget:=k2 i i elems[i] (List.getElem?_range hi) (pH hli)
      cases hcs:w.cells? 0 (ad.add (i*P.cellsOf c)) (P.cellsOf c) with
      |none=>rw[hcs] at hget;cases hget
      |some cs'=>
       rw[hcs] at hget
       simp only[Option.bind_some] at hget
       obtain⟨x,hx1,hx2⟩:=h.reads (d:=elems[i].1) (ps:=elems[i].2) hget (fun m hm=>hw m (by
        simp only[DataW.weights,ht,pU,q6]
        exact .inr (.inl (Xy (List.mem_map_of_mem (List.getElem_mem hli)) m hm))))
       exact⟨x,hx1,cs',rfl,hx2⟩
     obtain⟨l,hl1,hl2⟩:=Kd (fun i x=>ok x∧∃cs',w.cells? 0 (ad.add (i*P.cellsOf c)) (P.cellsOf c)=some cs'∧z28 (old w) w (e x) cs') len each
     subst hl1
     refine⟨l,⟨by omega,hle,fun x hx=>?_⟩,Q1 ?_ rfl⟩
     ·obtain⟨i,hi⟩:=List.getElem?_of_mem hx
      exact(hl2 i x hi).1
     ·by_cases h0:l=[]
      ·subst h0
       exact .islEmpty _ _ _ _ (fun h=>by cases h)
      ·have hpos:0<l.length:=List.length_pos_iff.2 h0
       -- the block
       obtain⟨_,cs0,hcs0,hcell0⟩:=hl2 0 l[0] (pH hpos)
       obtain⟨hn0,hg0⟩:=cells?_get hcs0
       have hc0:=hg0 0 cs0[0] (pH (by omega))
       have hsp:=World.cell?_spot hc0
       obtain⟨b,o,sp⟩:=ad
       have hsp:sp=none:=by simpa[Addr.add] using hsp
       subst hsp
       have hb:b<w.heap.size:=by
        have:=World.block_lt_of_cell? _ _ hc0
        rwa [w5,w5] at this
       let vf:Nat→Nat→Value:=fun i j=>((w.cells? 0 ((⟨b,o,none⟩:Addr).add (i*P.cellsOf c)) (P.cellsOf c)).getD []).getD j default
       have key:∀i r j x,(l.map e)[i]?=some r→r[j]?=some x→w.cell? ⟨b,o+i*P.cellsOf c+j,none⟩=some (vf i j)∧jf (vf i j)=true∧RepI (old w) w x (vf i j):=by
        intro i r j x hr hx
        rw[qD] at hr
        cases hli:l[i]? with
        |none=>rw[hli] at hr;cases hr
        |some y=>
         rw[hli] at hr
         simp only[pZ,p0] at hr
         subst hr
         obtain⟨_,cs',hcs',hl3,hl4,hl5⟩:=hl2 i y hli
         obtain⟨hn,hg⟩:=cells?_get hcs'
         have hj:j<cs'.length:=by
          rw[hl3]
          rcases pX j (e y).length with h|h
          ·exact h
          ·rw[pY h] at hx;cases hx
         have hv:vf i j=cs'[j]:=by simp only[vf,hcs',Option.getD_some,qC,pH hj]
         have:=hg j cs'[j] (pH hj)
         rw[w5,w5] at this
         rw[hv]
         exact⟨this,hl4 _ (List.getElem_mem hj),hl5 j x _ hx (pH hj)⟩
       have:=RepI.isl (I:=old w) (w:=w) (P.cellsOf c) (l.map e) false b o cap vf (fun i r j x h1 h2=>⟨_,(key i r j x h1 h2).1⟩) (by simpa using hlc) (fun h=>by cases h)
        (fun i r hr=>by
         rw[qD] at hr
         cases hli:l[i]? with
         |none=>rw[hli] at hr;cases hr
         |some y=>rw[hli] at hr;simp at hr;rw[←hr];exact h.size y)
        (fun i r j x h1 h2=>(key i r j x h1 h2).1) (fun i r j x h1 h2=>(key i r j x h1 h2).2.1) (fun i r j x h1 h2=>(key i r j x h1 h2).2.2)
       simpa using this
  ·simp[ht] at hd
structure RF(P:Program)(fs:List Field)(off tot:Nat)(α:Type)(e:α→List AVal)(ok:α→Prop):Prop where
 size:∀x,(e x).length=tot
 reads:∀ {H:Type} {enc:TypeId×Value→H} {w:World} {fuel:Nat} {cs:List Value} {xs:List (DataW H×List MemPlace)},fs.mapM (fun f=>q9 enc P w 0 (fun _=>true) true fuel f.type ((cs.drop f.offset).take (P.cellsOf f.type)))=some xs →
  (∀n∈qE P (fs.map (·.type)) (xs.map (·.1)),n≤reachBytes)→∃x,ok x∧z28 (old w) w (e x) ((cs.drop off).take tot)
theorem RF.nil(off:Nat):RF P [] off 0 Unit (fun _=>[]) (fun _=>True):=
 ⟨fun _=>rfl,fun _ _=>⟨(),trivial,by simp[z28]⟩⟩
theorem RF.cons{f:Field}{fs:List Field}{off tot m:Nat}{α γ:Type}{e:α→List AVal}{ok:α→Prop}{e':γ→List AVal}{ok':γ→Prop}(ho:f.offset=off)(hm:P.cellsOf f.type=m)(h:RA P f.type α e ok)(h':RF P fs (off+m) tot γ e' ok') :
 RF P (f::fs) off (m+tot) (α×γ) (fun x=>e x.1++e' x.2) (fun x=>ok x.1∧ok' x.2):=by
 refine⟨fun x=>by rw[pL,h.size,h'.size,hm],fun {H enc w fuel cs xs} hd hw=>?_⟩
 rw[List.mapM_cons] at hd
 cases h1:q9 enc P w 0 (fun _=>true) true fuel f.type ((cs.drop f.offset).take (P.cellsOf f.type)) with
 |none=>rw[h1] at hd;cases hd
 |some y=>
  rw[h1] at hd
  cases h2:fs.mapM (fun f=>q9 enc P w 0 (fun _=>true) true fuel f.type ((cs.drop f.offset).take (P.cellsOf f.type))) with
  |none=>rw[h2] at hd;cases hd
  |some ys=>
   rw[h2] at hd
   simp at hd
   subst hd
   simp only[pV,qE,q6] at hw
   obtain⟨x,hx1,hx2,hx3,hx4⟩:=h.reads (d:=y.1) (ps:=y.2) h1 (fun n hn=>hw n (.inl hn))
   obtain⟨z,hz1,hz2,hz3,hz4⟩:=h'.reads h2 (fun n hn=>hw n (.inr hn))
   refine⟨(x,z),⟨hx1,hz1⟩,?_⟩
   subst ho
   have e1:(cs.drop f.offset).take (m+tot)=(cs.drop f.offset).take m++(cs.drop (f.offset+m)).take tot:=by
    rw[List.take_add,List.drop_drop]
   rw[e1]
   rw[hm] at hx2 hx3 hx4
   refine⟨by simp only[pL,hx2,hz2],fun v hv=>?_,fun i a v ha hv=>?_⟩
   ·rcases q6.1 hv with h|h
    ·exact hx3 v h
    ·exact hz3 v h
   ·rw[List.getElem?_append] at ha hv
    rw[hx2] at hv
    split at ha
    ·rename_i hlt
     rw[if_pos hlt] at hv
     exact hx4 i a v ha hv
    ·rename_i hlt
     rw[if_neg hlt] at hv
     exact hz4 _ a v ha hv
theorem RA.struct{t:TypeId}{fs:Array Field}{α:Type}{e:α→List AVal}{ok:α→Prop}(ht:P.underlying t=some (.struct fs))(h:RF P fs.toList 0 (P.cellsOf t) α e ok):RA P t α e ok:=by
 refine⟨h.size,fun {H enc w fuel cs d ps} hd hw=>?_⟩
 cases fuel with
 |zero=>cases hd
 |succ fuel=>
  unfold q9 at hd
  have hd:(if cs.length=P.cellsOf t then(fs.toList.mapM fun f=>q9 enc P w 0 (fun _=>true) true fuel f.type ((cs.drop f.offset).take (P.cellsOf f.type))).map (fun xs=>(DataW.agg (xs.map (·.1)),xs.flatMap (·.2))) else none)=some (d,ps):=by
   rw[ht] at hd
   rcases cs with _|⟨v,_|⟨v2,r⟩⟩<;>simpa using hd
  split at hd<;>try (cases hd;done)
  rename_i hlen
  simp only[q8,pK] at hd
  obtain⟨xs,hxs,rfl,_⟩:=hd
  obtain⟨x,hx1,hx2⟩:=h.reads hxs (fun n hn=>hw n (by simp only[DataW.weights,ht];exact hn))
  refine⟨x,hx1,?_⟩
  rw[List.drop_zero,←hlen,List.take_length] at hx2
  exact hx2
theorem RA.structN{t:TypeId}{fs:Array Field}{m:Nat}{α:Type}{e:α→List AVal}{ok:α→Prop}(ht:P.underlying t=some (.struct fs))(hm:P.cellsOf t=m)(h:RF P fs.toList 0 m α e ok):RA P t α e ok:=by
 subst hm
 exact RA.struct ht h
theorem RA.arg{t:TypeId}{α:Type}{e:α→List AVal}{ok:α→Prop}(h:RA P t α e ok){H:Type}{enc:TypeId×Value→H}{w:World}{v:Value}{d:DataW H}{ps:List MemPlace}(hv:jf v=true)
 (hd:DataW.Trod enc P w 0 (fun _=>true) true t v d ps) (hw:∀n∈d.weights P t,n≤reachBytes):∃x a,ok x∧e x=[a]∧RepI (old w) w a v:=by
 obtain⟨fuel,hd⟩:=hd
 obtain⟨x,h1,h2,h3,h4⟩:=h.reads hd hw
 rw[U7 hv] at h2 h4
 have:(e x).length=1:=by rw[←h2];rfl
 obtain⟨a,ha⟩:=List.length_eq_one_iff.1 this
 exact⟨x,a,h1,ha,h4 0 a v (by rw[ha];rfl) rfl⟩
end Go.Fx
namespace Go.Fx
open Go.ChangeShapes Go.WideShapes Go.ChangeAt Go.RowKit
variable {P:Program}
def RV(P:Program)(t:TypeId)(α:Type)(e:α→AVal)(ok:α→Prop):Prop:=
 ∀ {H:Type} {enc:TypeId×Value→H} {w:World} {v:Value} {d:DataW H} {ps:List MemPlace} {base:Nat},Value.okWide P w .any base t v→DataW.Trod enc P w 0 (fun _=>true) true t v d ps→(∀n∈d.weights P t,n≤reachBytes)→∃x,ok x∧RepI (old w) w (e x) v
theorem RV.cell{t:TypeId}{α:Type}{e:α→AVal}{ok:α→Prop}(h:RA P t α (fun x=>[e x]) ok)(hc:∀ (w:World) (base:Nat) (v:Value),Value.okWide P w .any base t v→jf v=true):RV P t α e ok:=by
 intro H enc w v d ps base hv hd hw
 obtain⟨x,a,h1,h2,h3⟩:=h.arg (hc w base v hv) hd hw
 simp only[List.cons.injEq,and_true] at h2
 exact⟨x,h1,by rw[h2];exact h3⟩
theorem RV.bool{t:TypeId}(ht:P.underlying t=some .bool)(hs:P.cellsOf t=1):RV P t Bool (fun b=>.bool b) (fun _=>True):=
 RV.cell (RA.bool ht hs) (fun w base v h=>by obtain⟨b,rfl⟩:=okWide_bool ht h;rfl)
theorem RV.int{t:TypeId}{k:IntKind}(ht:P.underlying t=some (.int k))(hs:P.cellsOf t=1):RV P t Int (fun n=>.int k n) (fun n=>k.min≤n∧n≤k.max):=
 RV.cell (RA.int ht hs) (fun w base v h=>by obtain⟨b,rfl⟩:=okWide_int ht h;rfl)
theorem RV.string{t:TypeId}(ht:P.underlying t=some .string)(hs:P.cellsOf t=1):RV P t (List UInt8) (fun l=>.str l) (fun l=>l.length≤reachBytes):=
 RV.cell (RA.string ht hs) (fun w base v h=>by obtain⟨b,rfl⟩:=okWide_string ht h;rfl)
theorem RV.slice{t c:TypeId}{α:Type}{e:α→List AVal}{ok:α→Prop}(ht:P.underlying t=some (.slice c))(hs:P.cellsOf t=1)(hc:0<P.cellsOf c)(h:RA P c α e ok) :
 RV P t (List α) (fun l=>.isl (P.cellsOf c) (l.map e) false) (fun l=>l.length≤maxLen∧l.length*P.bytesOf c≤reachBytes∧∀x∈l,ok x):=
 RV.cell (RA.slice ht hs hc h) (fun w base v h=>by obtain⟨a,l,c,rfl⟩:=okWide_slice ht h;rfl)
theorem RV.struct{t:TypeId}{fs:Array Field}{α:Type}{e:α→List AVal}{ok:α→Prop}(ht:P.underlying t=some (.struct fs))(h:RA P t α e ok):RV P t α (fun x=>.agg (e x)) ok:=by
 intro H enc w v d ps base hv hd hw
 obtain⟨cs,rfl,hsz⟩:=okWide_struct ht hv
 obtain⟨fuel,hd⟩:=hd
 obtain⟨x,h1,h2,h3,h4⟩:=h.reads hd hw
 have e1:(Value.agg cs).cells.toList=cs.toList:=rfl
 rw[e1] at h2 h3 h4
 refine⟨x,h1,.agg _ cs (by rw[←Array.length_toList];exact h2) h3 (fun i y u hy hu=>h4 i y u hy (by rw[qA];exact hu))⟩
def RVs(P:Program)(ts:List TypeId)(α:Type)(e:α→List AVal)(ok:α→Prop):Prop:=
 ∀ {H:Type} {enc:TypeId×Value→H} {w:World} {vs:List Value} {ds:List (DataW H)} {ps:List MemPlace} {base:Nat},(∀ (j:Nat) t v,ts[j]?=some t→vs[j]?=some v→Value.okWide P w .any base t v) →
  DataW.TrodAll enc P w 0 (fun _=>true) true ts vs ds ps→(∀n∈qE P ts ds,n≤reachBytes)→∃x,ok x∧vs.length=(e x).length∧∀ (i:Nat) (a:AVal) (v:Value),(e x)[i]?=some a→vs[i]?=some v→RepI (old w) w a v
theorem RVs.nil:RVs P [] Unit (fun _=>[]) (fun _=>True):=by
 intro H enc w vs ds ps base _ h _
 obtain⟨rfl,rfl,rfl⟩:=trodAll_nil h
 exact⟨(),trivial,rfl,by simp⟩
theorem RVs.cons{t:TypeId}{ts:List TypeId}{α γ:Type}{e:α→AVal}{e':γ→List AVal}{ok:α→Prop}{ok':γ→Prop}(h:RV P t α e ok)(h':RVs P ts γ e' ok'):RVs P (t::ts) (α×γ) (fun x=>e x.1::e' x.2) (fun x=>ok x.1∧ok' x.2):=by
 intro H enc w vs ds ps base hv hd hw
 obtain⟨v,vs',d,ds',p,q,rfl,rfl,rfl,h1,h2⟩:=trodAll_cons hd
 simp only[qE,q6] at hw
 obtain⟨x,hx1,hx2⟩:=h (hv 0 t v rfl rfl) h1 (fun n hn=>hw n (.inl hn))
 obtain⟨y,hy1,hy2,hy3⟩:=h' (fun j t' v' ht hv'=>hv (j+1) t' v' (by simpa using ht) (by simpa using hv')) h2 (fun n hn=>hw n (.inr hn))
 refine⟨(x,y),⟨hx1,hy1⟩,by simp[hy2],fun i a u ha hu=>?_⟩
 cases i with
 |zero=>simp at ha hu;subst ha;subst hu;exact hx2
 |succ i=>exact hy3 i a u (by simpa using ha) (by simpa using hu)
theorem Inv.empty(w:World)(hg:GlobOk (old w) w):Inv (old w) (fun _=>none) 0 [] w:=
 { blocks:=fun id blk h=>by simp[AHeap.get] at h
   inj:=fun i j c d b k h=>by simp at h
   own:=fun i c b k h=>by simp at h
   imm:=fun b k h=>h
   fresh:=fun id _=>rfl
   glob:=hg }
theorem z2p{H:Type}{enc:TypeId×Value→H}{w:World}{base:Nat}{spare:Nat→Bool}{held:Bool}:∀ {ts:List TypeId} {vs:List Value} {ds:List (DataW H)} {p:List MemPlace},DataW.TrodAll enc P w base spare held ts vs ds p→ds.length=ts.length
 |[],_,_,_,h=>by obtain⟨rfl,rfl,rfl⟩:=trodAll_nil h;rfl
 |t::ts,_,_,_,h=>by
  obtain⟨v,vs',d,ds',p1,q1,rfl,rfl,rfl,k1,k2⟩:=trodAll_cons h
  simp[z2p k2]
theorem z6d{f:FuncId}{fn:Func}{s:ChangeSpec}{tb:TypeId}(hl:laidOutB P=true)(ts:List TypeId)(hts:fn.params.toList=ts)(hvars:s.vars=[])(hres:fn.resultTypes=#[tb])(hb:P.underlying tb=some .bool)
 (hrd:ts.all (fun t=>P.readableRec t&&decide (t<P.types.size))=true)
 {H:Type} {enc:TypeId×Value→H} {W:World} {base:Nat} {args:Array Value} {ds gs:List (DataW H)} {before:List MemPlace}
 (hfn:∀ds:List (DataW H),ds.length=ts.length→(s.fn H (ds++[])).results=[.lit (.bool true)]∧(s.fn H (ds++[])).args=ds∧(s.fn H (ds++[])).vars=[])
 (hval:∀ (j:Nat) t v,fn.params[j]?=some t→args[j]?=some v→Value.okWide P W .any base t v)
 (hW:DataW.Whole enc P fn.params.toList s.vars false W args.toList ds gs before)
 (hsz:(qE P (fn.params.toList++s.plain.varTypes P) (ds++gs)).all (·≤reachBytes)=true) (hg:GlobOk (old W) W)
 (hr:∀ {ps:List MemPlace},(∀ (j:Nat) t v,ts[j]?=some t→args.toList[j]?=some v→Value.okWide P W .any base t v)→DataW.TrodAll enc P W 0 (fun _=>true) true ts args.toList ds ps→(∀n∈qE P ts ds,n≤reachBytes) →
  ∃xs:List AVal,PFn P f xs (.bool true)∧args.toList.length=xs.length∧∀ (i:Nat) (a:AVal) (v:Value),xs[i]?=some a→args.toList[i]?=some v→RepI (old W) W a v) :
 Calls P f args W fun e W'=>∃v,e=.returned v∧s.post enc P fn false true false false W args v W':=by
 subst hts
 have hW':=hW
 obtain⟨p,q,hA0,hV,rfl,_,_⟩:=hW
 have hfn:=hfn ds (z2p hA0)
 rw[hvars] at hV
 obtain⟨rfl,rfl⟩:=trodVars_none hV
 have hvt:s.plain.varTypes P=[]:=by
  show s.vars.filterMap _=[]
  rw[hvars];rfl
 rw[hvt] at hsz
 simp only[List.append_nil] at hsz hW' hfn
 obtain⟨xs,hA,hlen,hrep⟩:=hr (fun j t v ht hv=>hval j t v (by rw[←qA];exact ht) (by rw[←qA];exact hv)) hA0 (fun n hn=>of_decide_eq_true (pD.1 hsz n hn))
 obtain⟨_,m,hA⟩:=hA
 have hc:=hA.2 (old W) (fun _=>none) W args.toList (Inv.empty W hg) hlen (fun i a v h1 h2=>.imm a v (hrep i a v h1 h2))
 rw[show args.toList.toArray=args from by simp] at hc
 refine hc.mono fun e W' ⟨r,v,H',n',I',β',h1,h2,h3,h4,h5⟩=>?_
 subst h1
 obtain⟨rfl,_,_⟩:=h2
 have hv:v=.bool true:=by
  cases h4 with
  |imm _ _ h=>cases h;rfl
 subst hv
 have hbel:Below W.heap.size W W':=⟨h5.os,h5.tape.eq,h5.output,h5.size,fun k hk=>h5.frame k hk (fun id c q hc=>by cases hc)⟩
 have hlt:∀x∈p,x.block<W.heap.size:=fun x hx=>by simpa using hW'.lt x hx
 have hargs:∀ (ts:List TypeId) (vs:List Value) (ds:List (DataW H)) (p:List MemPlace),DataW.TrodAll enc P W 0 (fun _=>true) true ts vs ds p→(ts.all (fun t=>P.readableRec t&&decide (t<P.types.size))=true)→(∀x∈p,x.block<W.heap.size)→DataW.TrodAll enc P W' 0 (fun b=>decide (b<W.heap.size)) true ts vs ds p:=by
  intro ts
  induction ts with
  |nil=>
   intro vs ds p h _ _
   obtain⟨rfl,rfl,rfl⟩:=trodAll_nil h
   exact trodAll_mk0
  |cons t ts ih=>
   intro vs ds p h hall hp
   obtain⟨v,vs',d,ds',p1,q1,rfl,rfl,rfl,k1,k2⟩:=trodAll_cons h
   simp only[List.all_cons,p9,decide_eq_true_eq] at hall
   exact trodAll_cons_mk (Below.trod hl hall.1.1 hall.1.2 k1 hbel (fun x hx=>hp x (List.mem_append_left _ hx))) (ih _ _ _ k2 hall.2 (fun x hx=>hp x (List.mem_append_right _ hx)))
 refine⟨_,rfl,ds,[],p,[],p,[],by simpa using hW',?_,?_,?_,hbel.frame _,fun h=>by cases h⟩
 ·rw[List.append_nil,hfn.1,hres]
  exact trodAll_mk1 (shut_bool hb true)
 ·rw[List.append_nil,hfn.2.1]
  exact hargs _ _ _ _ hA0 hrd hlt
 ·rw[List.append_nil,hfn.2.2,hvars]
  rfl
end Go.Fx
namespace Go.Fx
open Go
section
variable {P:Program} {I:Nat→Nat→Prop} {β:Id→Option CLoc} {n:Nat} {H:AHeap} {w:World}
theorem zjl{t c:TypeId}(h:P.underlying t=some (.slice c))(a:Addr)(k q:Nat)(xo yo:Operand)(w:World) :
 (do eqGuard .eql t xo yo (.slice (some a) k q) (.slice none 0 0);binOp .eql t (.slice (some a) k q) (.slice none 0 0):Sem Value).run P w=.ok (.bool false) w:=by
 have h1:(eqGuard .eql t xo yo (.slice (some a) k q) (.slice none 0 0)).run P w=.ok () w:=rfl
 have h2:binOp .eql t (.slice (some a) k q) (.slice none 0 0)=(do pure (.bool (←Op.equal t (.slice (some a) k q) (.slice none 0 0))):Sem Value):=rfl
 have h3:(Op.equal t (.slice (some a) k q) (.slice none 0 0)).run P w=.ok false w:=Jv h 9999 _ _ _ _ _
 rw[pP,h1,pI,h2,pP,h3,pI]
 rfl
theorem zdy{t c:TypeId}(h:P.underlying t=some (.slice c))(xo yo:Operand)(w:World) :
 (do eqGuard .eql t xo yo (.slice none 0 0) (.slice none 0 0);binOp .eql t (.slice none 0 0) (.slice none 0 0):Sem Value).run P w=.ok (.bool true) w:=by
 have h1:(eqGuard .eql t xo yo (.slice none 0 0) (.slice none 0 0)).run P w=.ok () w:=rfl
 have h2:binOp .eql t (.slice none 0 0) (.slice none 0 0)=(do pure (.bool (←Op.equal t (.slice none 0 0) (.slice none 0 0))):Sem Value):=rfl
 have h3:(Op.equal t (.slice none 0 0) (.slice none 0 0)).run P w=.ok true w:=Q9 h 9999 _ _ _ _ _
 rw[pP,h1,pI,h2,pP,h3,pI]
 rfl
def y47(fn:Func)(t:TypeId):Prop:=∃ (tB t0 t1 t2 t3 t4 t5 t6:TypeId) (p1 p2 p3 p4 p5 p6 p7 p8:String) (a1 a2 a3 a4 a5 a6 a7 a8:Array Edge) (i0 i1 i2 i3:Nat),
 fn.ntmps=8∧fn.results=#[.tmp 2] ∧
  fn.body=some (.seq (.region i0 #[⟨some 2,.assign (.const (.slice none 0 0)),t0,p1,a1,none⟩] false)
   (.seq (.seq (.region i1 #[⟨some 3,.move (.tmp 0),t1,p2,a2,none⟩,⟨some 4,.binOp .eql t (.tmp 3) (.const (.slice none 0 0)) t,tB,p3,a3,none⟩] false)
    (.cond (.tmp 4) (.seq (.region i2 #[⟨some 2,.assign (.const (.slice none 0 0)),t2,p4,a4,none⟩] false) .ret) .skip))
   (.seq (.region i3 #[⟨some 5,.buildSlice t 0 #[],t3,p5,a5,none⟩,⟨some 6,.move (.tmp 0),t4,p6,a6,none⟩,⟨some 7,.call { callee:=.builtin .append,args:=#[.tmp 5,.tmp 6],argTypes:=#[t,t] },t5,p7,a7,none⟩,⟨some 2,.assign (.tmp 7),t6,p8,a8,none⟩] false) .ret)))
set_option maxHeartbeats 2000000 in
theorem z5b{f:FuncId}{fn:Func}{t c:TypeId}{s b:Nat}{zs:List AVal}(hok:Zc P f)(hfn:P.funcs[f]?=some fn)(hS:y47 fn t)(ht:P.underlying t=some (.slice c))(hz:kb P c=some zs)(hsz:kj P c=some s)(hby:Jk P c=some b)(hs:0<s)(hb:0<b)(hzs:zs.length=s) :
 PFn P f [.isl s [] false] (.isl s [] false):=by
 refine⟨rfl,0,hok,fun I β w vs hI hl hr=>?_⟩
 obtain⟨tB,t0,t1,t2,t3,t4,t5,t6,p1,p2,p3,p4,p5,p6,p7,p8,a1,a2,a3,a4,a5,a6,a7,a8,i0,i1,i2,i3,hnt,hres,hbody⟩:=hS
 match vs,hl with
 |[v],_=>
  have h1:=hr 0 _ _ rfl rfl
  obtain⟨ad,cap,rfl,_⟩:=h1.isl_inv
  have ht8:∀u:Value,(#[u]++Array.replicate (8-(#[u]:Array Value).size) undef)=#[u,undef,undef,undef,undef,undef,undef,undef]:=fun u=>by simp[Array.replicate,qF]
  cases ad with
  |none=>
   have hv:Value.slice none ([]:List (List AVal)).length cap=.slice none 0 0:=by
    cases h1 with
    |imm _ _ h=>cases h;rfl
   rw[hv]
   refine calls_of_wp hfn hbody (wp_seq (wp_region_list (wpList_plain rfl fun K0 hK0=>?_)))
   rw[hnt]
   change Oper.wp P _ ⟨#[.slice none 0 0]++Array.replicate (8-(#[Value.slice none 0 0]:Array Value).size) undef,[]⟩ _ _ _
   rw[ht8]
   refine hK0 _ _ (wpList_nil ?_)
   refine wp_seq (wp_seq (wp_region_list (wpList_plain rfl fun K1 hK1=>hK1 _ _ (wpList_plain rfl fun K2 hK2=>?_))))
   refine zg1 (s:=do eqGuard .eql t (.tmp 3) (.const (.slice none 0 0)) (.slice none 0 0) (.slice none 0 0);binOp .eql t (.slice none 0 0) (.slice none 0 0)) rfl (zdy ht _ _ w) (hK2 _ _ (wpList_nil ?_))
   refine wp_cond_true rfl (wp_seq (wp_region_list (wpList_plain rfl fun K3 hK3=>hK3 _ _ (wpList_nil (wp_ret ⟨rfl,.slice none 0 0,?_,?_⟩)))))
   ·refine K9 (vs:=[.slice none 0 0]) ?_
    rw[hres]
    rfl
   ·exact⟨_,_,_,_,_,_,rfl,⟨rfl,rfl,rfl⟩,hI,.imm _ _ (.islNil _ _),Ext.refl _ _ _ _ _ hI.fresh⟩
  |some ad=>
   change Calls P f #[.slice (some ad) 0 cap] w _
   refine calls_of_wp hfn hbody (wp_seq (wp_region_list (wpList_plain rfl fun K0 hK0=>?_)))
   rw[hnt,ht8]
   refine hK0 _ _ (wpList_nil ?_)
   refine wp_seq (wp_seq (wp_region_list (wpList_plain rfl fun K1 hK1=>hK1 _ _ (wpList_plain rfl fun K2 hK2=>?_))))
   refine zg1 (s:=do eqGuard .eql t (.tmp 3) (.const (.slice none 0 0)) (.slice (some ad) 0 cap) (.slice none 0 0);binOp .eql t (.slice (some ad) 0 cap) (.slice none 0 0)) rfl (zjl ht _ _ _ _ _ w) (hK2 _ _ (wpList_nil ?_))
   refine wp_cond_false rfl (wp_skip ?_)
   obtain⟨arr',k1,k2,k3,k4⟩:=z6l (P:=P) (e:=[]) (a:=⟨#[],[]⟩) (parts:=#[]) (len:=0) hI (fun t=>.any _) ht hz hsz rfl hs (by omega) hzs trivial rfl trivial
   obtain⟨r1,H1,n1,I1,β1,⟨e1,e2,e3⟩,g1,g2,g3⟩:=zii (K:=fun r H' n'=>r=.isl s [] true∧H'=[]∧n'=0) (rows':=[]) (zs:=zs) hI k4 k3 (by rw[qI.1 k3];rfl) ⟨rfl,rfl,rfl⟩
   subst e1 e2 e3
   obtain⟨v2,w2,q1,r2,H2,n2,I2,β2,⟨e1,e2,e3⟩,q2,q3,q4⟩:=zl6 (K:=fun r H' n'=>r=.isl s [] true∧H'=[]∧n'=0) (rt:=t5) g1 ht (.inl ⟨_,ht⟩) hz hsz hby hs hb g2 (h1.mono g3 hI) rfl rfl ⟨rfl,fun _=>⟨rfl,rfl,rfl⟩,fun h=>absurd rfl h⟩
   subst e1 e2 e3
   refine wp_seq (wp_region_list (wpList_plain rfl fun K3 hK3=>?_))
   have k1':(Instr.buildSlice t 0 #[]).run P w=.ok (.slice (some ⟨w.heap.size,0,none⟩) 0 0) (w.alloc (.cells arr' c)):=by simpa using k1
   refine zg1 (s:=Instr.buildSlice t 0 #[]) (by simp only[execOp,List.map_toArray,List.map_nil]) k1' (hK3 _ _ (wpList_plain rfl fun K4 hK4=>hK4 _ _ (wpList_plain rfl fun K5 hK5=>?_)))
   have e1:∀ρ:Operand→Value,(#[.tmp 5,.tmp 6]:Array Operand).map ρ=#[ρ (.tmp 5),ρ (.tmp 6)]:=fun ρ=>by simp
   refine zg1 (s:=Builtin.append_ #[t,t] t5 ((#[.tmp 5,.tmp 6]:Array Operand).map (Act.eval _))) rfl (by rw[e1];exact q1) (hK5 _ _ (wpList_plain rfl fun K6 hK6=>hK6 _ _ (wpList_nil ?_)))
   refine wp_ret ⟨rfl,v2,?_,?_⟩
   ·refine K9 (vs:=[v2]) ?_
    rw[hres]
    rfl
   ·refine⟨_,_,_,_,_,_,rfl,⟨rfl,rfl,rfl⟩,q2,?_,g3.trans q4⟩
    cases q3 with
    |imm _ _ h=>cases h with
     |islEmpty _ _ a cap _=>exact .imm _ _ (.islEmpty _ _ a cap nofun)
     |islNil=>exact .imm _ _ (.islNil _ _)
     |isl _ _ _ b o cap vf hb hcap hf hlen hcell hic hrep=>exact .imm _ _ (.isl _ _ _ b o cap vf hb hcap nofun hlen hcell hic hrep)
end
noncomputable def zl5{α:Type}(m:Option Nat)(f:Nat→Option α):Option α:=match m with
 |some k=>f k
 |none=>open Classical in if h:∃k,(f k).isSome=true then f (pT h) else none
theorem Jg{α:Type}{m:Option Nat}{f:Nat→Option α}{o:α}(h:zl5 m f=some o):∃k,f k=some o:=by
 unfold zl5 at h
 split at h
 ·exact⟨_,h⟩
 ·split at h
  ·exact⟨_,h⟩
  ·cases h
theorem y1l{α:Type}{f:Nat→Option α}{v:α}(h1:∀k o,f k=some o→o=v)(h2:∃k,f k=some v):zl5 none f=some v:=by
 obtain⟨k,hk⟩:=h2
 have h:∃k,(f k).isSome=true:=⟨k,by rw[hk];rfl⟩
 unfold zl5
 simp only
 rw[dif_pos h]
 have:=pN h
 cases hc:f (pT h) with
 |none=>rw[hc] at this;cases this
 |some o=>rw[h1 _ _ hc]
end Go.Fx
namespace Go.Fx
open Go
section
variable {P:Program} {I:Nat→Nat→Prop} {β:Id→Option CLoc} {n:Nat} {H:AHeap} {w:World}
structure BWrite(P:Program)(f:FuncId)(T e tb ts:TypeId):Prop where
 ok:Zc P f
 ht:P.underlying tb=some (.slice e)
 hu:P.underlying ts=some .string
 hz:∃zs,kb P e=some zs
 hsz:kj P e=some 1
 hby:Jk P e=some 1
 used:∀ (b:Nat) (s:ByteArray) (v v2:Value) (w w2:World),w.heap[b]?=some (.cells #[.pointer (some ⟨b,0,none⟩),v] T (0,0)) →
  (Builtin.append_ #[tb,ts] tb #[v,.string s]).run P w=.ok v2 w2→(∃a l c,v2=.slice a l c)→w2.heap[b]?=some (.cells #[.pointer (some ⟨b,0,none⟩),v] T (0,0)) →
  Calls P f #[.pointer (some ⟨b,0,none⟩),.string s] w fun e w'=>e=.returned (.tuple #[.int .i64 s.size,.nilIface])∧w'=w2.setCell ⟨b,1,none⟩ v2
 fresh:∀ (b:Nat) (s:ByteArray) (v v2:Value) (w w2:World),w.heap[b]?=some (.cells #[.pointer none,v] T (0,0)) →
  (Builtin.append_ #[tb,ts] tb #[v,.string s]).run P (w.setCell ⟨b,0,none⟩ (.pointer (some ⟨b,0,none⟩)))=.ok v2 w2→(∃a l c,v2=.slice a l c)→w2.heap[b]?=some (.cells #[.pointer (some ⟨b,0,none⟩),v] T (0,0)) →
  Calls P f #[.pointer (some ⟨b,0,none⟩),.string s] w fun e w'=>e=.returned (.tuple #[.int .i64 s.size,.nilIface])∧w'=w2.setCell ⟨b,1,none⟩ v2
structure BStr(P:Program)(f:FuncId)(T e:TypeId):Prop where
 ok:Zc P f
 nil:∀ (b:Nat) (p:Value) (w:World),w.heap[b]?=some (.cells #[p,.slice none 0 0] T (0,0)) →
  Calls P f #[.pointer (some ⟨b,0,none⟩)] w fun e w'=>e=.returned (.string ⟨#[]⟩)∧w'=w.drew
 zero:∀ (b g cap:Nat) (p:Value) (w:World),w.heap[b]?=some (.cells #[p,.slice (some ⟨g,0,none⟩) 0 cap] T (0,0))→cap≠0 →
  Calls P f #[.pointer (some ⟨b,0,none⟩)] w fun e w'=>e=.returned (.string ⟨#[]⟩)∧w'=w.drew
 full:∀ (b g cap:Nat) (l:List UInt8) (p:Value) (w:World) (cur:Array Value) (fr:Nat×Nat),w.heap[b]?=some (.cells #[p,.slice (some ⟨g,0,none⟩) l.length cap] T (0,0))→l≠[]→cap≠0→l.length≤cur.size→l.length≤9223372036854775807 →
  w.heap[g]?=some (.cells cur e fr)→(∀ (j:Nat) (x:UInt8),l[j]?=some x→cur[j]?=some (Value.int .u8 (x.toNat:Int))) →
  Calls P f #[.pointer (some ⟨b,0,none⟩)] w fun e w'=>e=.returned (.string ⟨l.toArray⟩)∧w'=w.drew.freeze ⟨g,0,none⟩ l.length
theorem Ym{b k:Nat}{arr:Array Value}{el:TypeId}{fr:Nat×Nat}(h:w.heap[b]?=some (.cells arr el fr))(v:Value):(w.setCell ⟨b,k,none⟩ v).heap[b]?=some (.cells (arr.setIfInBounds k v) el fr):=by
 simp[World.setCell,Array.getElem?_modify,h]
theorem U6{b k x:Nat}(hx:x≠b)(v:Value):(w.setCell ⟨b,k,none⟩ v).heap[x]?=w.heap[x]?:=by
 simp only[World.setCell,Array.getElem?_modify]
 rw[if_neg (fun h=>hx h.symm)]
theorem zd8(hI:Inv I β n H w){w':World}{b g:Id}{T e:TypeId}{bs bs2:List UInt8}{c d d2:CLoc}(hb:H.get b=some (.bld T g))(hg:H.get g=some (.buf e bs))(hc:β b=some c)(hd:β g=some d)
 (hC:Chg w w' (fun x k=>c.has x k∨d.has x k)) (hd2:∀x k,d2.has x k→x<w'.heap.size∧(d.has x k∨w.heap.size≤x))
 (hB1:RepB I (upd (upd β g none) (n,0) (some d2)) (n+1) w' c (.bld T (n,0))) (hB2:RepB I (upd (upd β g none) (n,0) (some d2)) (n+1) w' d2 (.buf e bs2)) :
 Inv I (upd (upd β g none) (n,0) (some d2)) (n+1) (((n,0),.buf e bs2)::(H.set b (.bld T (n,0))).del g) w' ∧
 Ext I β n H w I (upd (upd β g none) (n,0) (some d2)) (n+1) (((n,0),.buf e bs2)::(H.set b (.bld T (n,0))).del g) w':=by
 have hbg:b≠g:=by rintro rfl;rw[hb] at hg;cases hg
 have hbn:=Qh hI hc
 have hgn:=Qh hI hd
 refine Z4 hI hC (Nat.le_succ n) ?_ (fun _ _ h=>h) (fun _ _ h h'=>absurd h h') ?_ ?_ ?_ ?_ ?_ ?_ ?_
 ·rintro x k (h|h)
  ·exact⟨b,c,hc,by rw[hb];simp,h⟩
  ·exact⟨g,d,hd,by rw[hg];simp,h⟩
 ·intro id hid
  by_cases h:id=g
  ·subst h;exact .inr ⟨by rw[zp _ _ (Zp hid),jv],by rw[hg];simp⟩
  ·exact .inl (by rw[zp _ _ (Zp hid),zp _ _ h])
 ·intro id q x k hid hq hk
  rcases Xr hq hI.fresh with⟨_,rfl⟩|⟨h,_⟩
  ·obtain⟨h1,h2⟩:=hd2 x k hk
   refine⟨h1,?_⟩
   rcases h2 with h2|h2
   ·exact .inr ⟨g,d,hd,by rw[hg];simp,h2⟩
   ·exact .inl h2
  ·omega
 ·intro id hid
  rw[zp _ _ (fun h=>by subst h;exact absurd hid (Nat.not_succ_le_self n)),zp _ _ (fun h=>by subst h;omega)]
  exact hI.fresh id (by omega)
 ·intro i j q q' x k hi hj hq hq' hj'
  rcases Xr hj hI.fresh with⟨rfl,rfl⟩|⟨h,_⟩
  ·rcases Xr hi hI.fresh with⟨rfl,_⟩|⟨_,h1,h2⟩
   ·rfl
   ·rcases(hd2 x k hq').2 with h|h
    ·exact absurd (hI.inj i g q d x k h2 hd hq h) h1
    ·exact(Vl hI h2 hq h).elim
  ·omega
 ·intro i q x k hi hq h;exact h
 ·intro id hid h
  rw[AHeap.get_cons_other _ _ (Zp hid).symm,AHeap.get_del] at h
  split at h
  ·exact absurd rfl h
  ·exact(Vb id).1 h
 ·intro id blk hid
  by_cases h:(n,0)=id
  ·subst h
   rw[AHeap.get_cons_same] at hid
   simp only[p0] at hid
   subst hid
   exact .inr ⟨d2,jv _ _ _,hB2⟩
  ·rw[AHeap.get_cons_other _ _ h,AHeap.get_del] at hid
   split at hid
   ·cases hid
   ·rename_i hne
    have hβ:upd (upd β g none) (n,0) (some d2) id=β id:=by rw[zp _ _ (fun h'=>h h'.symm),zp _ _ (fun h'=>hne h'.symm)]
    rw[AHeap.get_set] at hid
    by_cases hbi:b=id
    ·subst hbi
     rw[if_pos rfl,hb] at hid
     simp only[pZ,p0] at hid
     subst hid
     exact .inr ⟨c,hβ.trans hc,hB1⟩
    ·rw[if_neg hbi] at hid
     refine .inl ⟨hid,hβ,fun q x k hq hk hw=>?_⟩
     rcases hw with hw|hw
     ·exact hbi (hI.inj b id c q x k hc hq hw hk)
     ·exact hne (hI.inj g id d q x k hd hq hw hk)
def Zn(l:List UInt8):Array Value:=(l.map fun x=>Value.int .u8 (x.toNat:Int)).toArray
theorem uo(l:List UInt8):(Zn l).size=l.length:=by simp[Zn]
theorem Ww(l:List UInt8)(i:Nat)(x:UInt8)(h:l[i]?=some x):(Zn l)[i]?=some (Value.int .u8 (x.toNat:Int)):=by
 simp only[Zn,qB,qD,h];rfl
theorem zsv(s:List UInt8)(w:World):(Builtin.firstCells 1 s.length (.string ⟨⟨s⟩⟩)).run P w=.ok (Zn s) w:=by
 have h:(Builtin.firstCells 1 s.length (.string ⟨⟨s⟩⟩))=(pure ((ByteArray.extract ⟨⟨s⟩⟩ 0 s.length).data.map fun b=>Value.int .u8 b.toNat):Sem (Array Value)):=rfl
 rw[h,qH]
 congr 1
 apply Array.toList_inj.1
 have h2:(ByteArray.extract ⟨⟨s⟩⟩ 0 s.length).data=⟨s⟩:=by
  rw[ByteArray.data_extract]
  apply Array.toList_inj.1
  simp
 rw[h2]
 simp[Zn]
theorem zoa{t u c rt:TypeId}{z:Nat}(ht:P.underlying t=some (.slice c))(hu:(∃c',P.underlying u=some (.slice c'))∨P.underlying u=some .string)(hsz:kj P c=some z)(w:World)(base:Option Addr)(len cap:Nat)(h:len≤cap){vy:Value}
 (hly:(Builtin.lenOf vy).run P w=.ok 0 w) (f2:(Builtin.firstCells z 0 vy).run P w=.ok #[] w) :
 (Builtin.append_ #[t,u] rt #[.slice base len cap,vy]).run P w=.ok (.slice base len cap) w:=by
 rcases hu with⟨c2,hu⟩|hu
 ·unfold Builtin.append_
  simp only[qB,pR,q7,pP,zf ht,zf hu,pI,xu hsz,qH,hly,pM,if_false,Bool.not_false,if_true,Nat.add_zero]
  rw[if_pos h]
  simp only[pP,f2,pI]
  cases base<;>simp[storeCells]
 ·unfold Builtin.append_
  simp only[qB,pR,q7,pP,zf ht,zf hu,pI,xu hsz,qH,hly,pM,if_false,Bool.not_false,if_true,Nat.add_zero]
  rw[if_pos h]
  simp only[pP,f2,pI]
  cases base<;>simp[storeCells]
theorem zqo{t u c rt:TypeId}{z:Nat}(ht:P.underlying t=some (.slice c))(hu:(∃c',P.underlying u=some (.slice c'))∨P.underlying u=some .string)(hsz:kj P c=some z)(w w':World)(b len cap m:Nat)(h:len+m≤cap){vy:Value}{a2:Array Value}
 (hly:(Builtin.lenOf vy).run P w=.ok m w) (f2:(Builtin.firstCells z m vy).run P w=.ok a2 w)
 (hst:(storeCells ⟨b,0+len*z,none⟩ a2.toList 0).run P w=.ok () w') :
 (Builtin.append_ #[t,u] rt #[.slice (some ⟨b,0,none⟩) len cap,vy]).run P w=.ok (.slice (some ⟨b,0,none⟩) (len+m) cap) w':=by
 rcases hu with⟨c2,hu⟩|hu
 ·unfold Builtin.append_
  simp only[qB,pR,q7,pP,zf ht,zf hu,pI,xu hsz,qH,hly,pM,if_false,Bool.not_false,if_true]
  rw[if_pos h]
  simp only[pP,f2,pI,w5,hst,qH]
 ·unfold Builtin.append_
  simp only[qB,pR,q7,pP,zf ht,zf hu,pI,xu hsz,qH,hly,pM,if_false,Bool.not_false,if_true]
  rw[if_pos h]
  simp only[pP,f2,pI,w5,hst,qH]
theorem zfp(w:World)(b:Nat)(l:List UInt8)(h:∀ (j:Nat) (x:UInt8),l[j]?=some x→w.cell? ⟨b,j,none⟩=some (Value.int .u8 (x.toNat:Int))):(loadCells ⟨b,0,none⟩ (l.length*1)).run P w=.ok (Zn l) w:=by
 rw[Nat.mul_one,Jx (fun j=>Value.int .u8 ((l.getD j 0).toNat:Int)) l.length (fun j hj=>by
  rw[Nat.zero_add];exact h j _ (by rw[qC,pH hj];rfl))]
 congr 1
 apply Array.toList_inj.1
 simp only[Zn]
 apply List.ext_getElem?
 intro j
 simp only[qD]
 by_cases hj:j<l.length
 ·rw[List.getElem?_range hj,pH hj];simp[qC,pH hj]
 ·rw[pY (by simpa using hj),pY (by omega)];rfl
theorem zr3{w w':World}{c:CLoc}{arr:Array Value}{el:TypeId}{fr:Nat×Nat}(h:Wrote w w' c.blk)(hheap:w.heap[c.blk]?=some (.cells arr el fr))(hlo:c.lo=0)(hpos:0<c.size)(hsz:arr.size≤c.size):Chg w w' c.has:=by
 refine⟨h.os,h.tape,h.output,by rw[h.size];exact pQ _,fun b _ hb=>?_,fun b k _ hb=>?_,fun b a e f hb=>?_,fun b es ck hb _=>?_⟩
 ·refine h.other b fun hx=>?_
  subst hx
  exact hb 0 ⟨rfl,by omega,hpos⟩
 ·by_cases hx:b=c.blk
  ·subst hx
   obtain⟨arr',h1,h2⟩:=h.shape _ _ _ hheap
   have hk:c.size≤k:=by
    rcases pX k c.size with h|h
    ·exact absurd ⟨rfl,by omega,h⟩ hb
    ·exact h
   unfold qJ
   simp only[hheap,h1]
   rw[pJ (by omega),pJ (by omega)]
  ·exact cell?_of_heap (h.other b hx)
 ·by_cases hx:b=c.blk
  ·subst hx;exact h.shape _ _ _ hb
  ·exact⟨a,by rw[h.other b hx];exact hb,rfl⟩
 ·by_cases hx:b=c.blk
  ·subst hx;exact h.mapsAt _ ck hb
  ·rw[h.other b hx];exact hb
theorem zi9{T e tb ts:TypeId}{vy:Value}(ht:P.underlying tb=some (.slice e))(hu:(∃c',P.underlying ts=some (.slice c'))∨P.underlying ts=some .string)(hz0:∃zs,kb P e=some zs)(hsz:kj P e=some 1)(hby:Jk P e=some 1)
 {b g:Id} {bs s:List UInt8} (hb:H.get b=some (.bld T g)) (hg:H.get g=some (.buf e bs)) (hlen:bs.length+s.length≤140737488355328) (hI:Inv I β n H w) {c:CLoc} (hc:β b=some c) {p v:Value}
 (hheap:w.heap[c.blk]?=some (.cells #[p,v] T (0,0))) {w1:World} (hw1:Wrote w w1 c.blk) (hw1b:w1.heap[c.blk]?=some (.cells #[.pointer (some ⟨c.blk,0,none⟩),v] T (0,0)))
 (hsl:∀wx:World,wx.heap=w1.heap→(Builtin.lenOf vy).run P wx=.ok s.length wx) (hfc:∀wx:World,wx.heap=w1.heap→(Builtin.firstCells 1 s.length vy).run P wx=.ok (Zn s) wx) :
 ∃ (v2:Value) (w2:World) (β':Id→Option CLoc),(Builtin.append_ #[tb,ts] tb #[v,vy]).run P w1=.ok v2 w2∧(∃a l c,v2=.slice a l c)∧w2.heap[c.blk]?=some (.cells #[.pointer (some ⟨c.blk,0,none⟩),v] T (0,0)) ∧
  Inv I β' (n+1) (((n,0),.buf e (bs++s))::(H.set b (.bld T (n,0))).del g) (w2.setCell ⟨c.blk,1,none⟩ v2)∧Ext I β n H w I β' (n+1) (((n,0),.buf e (bs++s))::(H.set b (.bld T (n,0))).del g) (w2.setCell ⟨c.blk,1,none⟩ v2):=by
 obtain⟨c',hc',hB⟩:=hI.blocks b _ hb
 rw[hc] at hc'
 simp only[p0] at hc'
 subst hc'
 obtain⟨d,hd,hD⟩:=hI.blocks g _ hg
 obtain⟨hlo,hbase,hsize,hgn,p',v',hheap',hp,hv⟩:=hB
 rw[hheap] at hheap'
 simp only[p0,Obj.cells.injEq,and_true] at hheap'
 obtain⟨rfl,rfl⟩:p=p'∧v=v':=by simpa using hheap'
 have hds:d.s=bs.length:=hD.2.1
 have hvd:=hv d hd
 rw[hds] at hvd
 have hbg:b≠g:=by rintro rfl;rw[hb] at hg;cases hg
 have hblt:c.blk<w.heap.size:=by
  rcases pX c.blk w.heap.size with h|h
  ·exact h
  ·rw[pJ h] at hheap;cases hheap
 have other:∀x,x≠c.blk→w1.heap[x]?=w.heap[x]?:=hw1.other
 have hdc:0<d.size→d.blk≠c.blk:=by
  intro hp0 h
  have hdlo:d.lo=0:=hD.1
  exact hbg (hI.inj b g c d c.blk 0 hc hd ⟨rfl,by omega,by omega⟩ ⟨h,by omega,hp0⟩)
 -- what is appended
 obtain⟨zs,hz⟩:=hz0
 have hwsz:w1.heap.size=w.heap.size:=hw1.size
 have grow:∀ (base:Option Addr) (cap:Nat) (a1:Array Value),v=.slice base bs.length cap→(Builtin.firstCells 1 bs.length (.slice base bs.length cap)).run P { w1 with drawn:=w1.drawn+1 }=.ok a1 { w1 with drawn:=w1.drawn+1 }→a1=Zn bs→cap<bs.length+s.length →
  ∃ (v2:Value) (w2:World) (d2:CLoc),(Builtin.append_ #[tb,ts] tb #[v,vy]).run P w1=.ok v2 w2∧(∃a l c,v2=.slice a l c)∧Chg w1 w2 d.has∧(∀x k,d2.has x k→x<w2.heap.size∧(d.has x k∨w.heap.size≤x))∧d2.lo=0∧d2.s=(bs++s).length ∧
   ((d2.size=0∧bs++s=[]∧v2=.slice none 0 0)∨(0<d2.size∧d2.blk≠c.blk∧v2=.slice (some ⟨d2.blk,0,none⟩) (bs++s).length d2.size∧∃arr fr,w2.heap[d2.blk]?=some (.cells arr e fr)∧d2.size=arr.size∧(bs++s).length≤arr.size∧(fr.1=fr.2∨fr.2≤(bs++s).length) ∧
    ∀ (i:Nat) (x:UInt8),(bs++s)[i]?=some x→arr[i]?=some (.int .u8 (x.toNat:Int)))):=by
  intro base cap a1 hv1 hf1 ha1 hcap
  subst hv1
  subst ha1
  obtain⟨m,w',a3,k1,k2,k3,k4⟩:=z7f (P:=P) (rt:=tb) (w:=w1) ht hu hz hsz hby Nat.one_pos (wd:={ w1 with drawn:=w1.drawn+1 }) rfl (hsl w1 rfl) hf1 (hfc _ rfl) hcap (by omega) (by simp[uo]) (by simp[uo])
  have hsz':w'.heap.size=w1.heap.size+1:=by rw[k3.heap];simp
  refine⟨_,w',⟨w1.heap.size,0,m,0,(bs++s).length⟩,k1,⟨_,_,_,rfl⟩,k3.chg.mono (fun _ _ h=>h.elim),fun x k h=>?_,rfl,rfl,.inr ⟨by simp only;omega,by simp only;omega,by rw[pL],_,_,k3.new,by rw[k4];simp,by rw[k4,pL];omega,.inl rfl,fun i x hi=>?_⟩⟩
  ·have hx:w1.heap.size=x:=h.1
   exact⟨by omega,.inr (by omega)⟩
  ·have hlt:i<bs.length+s.length:=by
    rcases pX i (bs++s).length with h|h
    ·rwa [pL] at h
    ·rw[pY h] at hi;cases hi
   rw[Array.getElem?_append_left (by simp only[Array.size_append,uo];exact hlt)]
   by_cases hib:i<bs.length
   ·rw[Array.getElem?_append_left (by rw[uo];exact hib)]
    rw[List.getElem?_append_left hib] at hi
    exact Ww _ _ _ hi
   ·rw[Array.getElem?_append_right (by rw[uo];omega),uo]
    rw[List.getElem?_append_right (by omega)] at hi
    exact Ww _ _ _ hi
 obtain⟨v2,w2,d2,hrun,hv2,hC2,hd2,hlo2,hs2,hfin⟩:∃ (v2:Value) (w2:World) (d2:CLoc),(Builtin.append_ #[tb,ts] tb #[v,vy]).run P w1=.ok v2 w2∧(∃a l c,v2=.slice a l c)∧Chg w1 w2 d.has∧(∀x k,d2.has x k→x<w2.heap.size∧(d.has x k∨w.heap.size≤x))∧d2.lo=0∧d2.s=(bs++s).length ∧
  ((d2.size=0∧bs++s=[]∧v2=.slice none 0 0)∨(0<d2.size∧d2.blk≠c.blk∧v2=.slice (some ⟨d2.blk,0,none⟩) (bs++s).length d2.size∧∃arr fr,w2.heap[d2.blk]?=some (.cells arr e fr)∧d2.size=arr.size∧(bs++s).length≤arr.size∧(fr.1=fr.2∨fr.2≤(bs++s).length) ∧
   ∀ (i:Nat) (x:UInt8),(bs++s)[i]?=some x→arr[i]?=some (.int .u8 (x.toNat:Int)))):=by
  have hz2:d.size=0→bs.length=0:=fun hz=>by
   obtain⟨_,_,⟨_,h⟩|⟨h,_⟩⟩:=hD
   ·rw[h];rfl
   ·omega
  rcases hvd with⟨z1,rfl⟩|⟨z1,rfl⟩
  ·have hbs:bs=[]:=qI.1 (hz2 z1)
   subst hbs
   by_cases hs0:s=[]
   ·subst hs0
    exact⟨_,w1,{ d with s:=(([]:List UInt8)++[]).length },zoa ht hu hsz w1 none 0 0 (pQ _) (hsl w1 rfl) (hfc w1 rfl),⟨_,_,_,rfl⟩,Chg.refl _ _,fun x k h=>absurd (show k<d.size from h.2.2) (by omega),hD.1,rfl,.inl ⟨z1,rfl,rfl⟩⟩
   ·exact grow none 0 #[] rfl rfl rfl (by have:=List.length_pos_iff.2 hs0;simpa using this)
  ·obtain⟨_,_,⟨h,_⟩|⟨_,arr,fr,q1,q2,q3,q4,q5⟩⟩:=hD
   ·omega
   have q1':w1.heap[d.blk]?=some (.cells arr e fr):=by rw[other _ (hdc z1)];exact q1
   by_cases hin:bs.length+s.length≤d.size
   ·have hun:∀k,bs.length≤k→w1.frozen? ⟨d.blk,k,none⟩=false:=by
     intro k hk
     unfold World.frozen?
     simp only[q1']
     rcases q4 with h|h
     ·simp only[Bool.and_eq_false_iff,decide_eq_false_iff_not];omega
     ·simp only[Bool.and_eq_false_iff,decide_eq_false_iff_not];omega
    obtain⟨w',t1,t2,t3,t4⟩:=Zs (P:=P) (vs:=(Zn s).toList) (w:=w1) (b:=d.blk) (o:=0+bs.length*1)
     (fun j hj=>by
      simp only[Array.length_toList,uo] at hj
      have hlt:0+bs.length*1+j<arr.size:=by omega
      exact⟨arr[0+bs.length*1+j],by unfold qJ;simp[q1']⟩)
     (fun j hj=>hun _ (by omega)) (fun u hu=>by
      simp only[Zn,pF] at hu
      obtain⟨y,_,rfl⟩:=hu;rfl)
    simp only[Array.length_toList,uo] at t2 t4
    obtain⟨arr',g1,g2⟩:=t2.shape _ _ _ _ q1'
    have hdlt:d.blk<w1.heap.size:=by
     rcases pX d.blk w1.heap.size with h|h
     ·exact h
     ·rw[pJ h] at q1';cases q1'
    have cellA:∀k,w'.cell? ⟨d.blk,k,none⟩=arr'[k]?:=fun k=>by unfold qJ;simp[g1]
    refine⟨_,w',{ d with s:=(bs++s).length },zqo ht hu hsz w1 w' d.blk bs.length d.size s.length hin (hsl w1 rfl) (hfc w1 rfl) t1,⟨_,_,_,rfl⟩,t2.mono (fun b' k h=>⟨h.1.symm,by omega,by omega⟩),fun x k h=>?_,by assumption,rfl,.inr ⟨z1,hdc z1,by rw[pL],arr',fr,g1,(by show d.size=arr'.size;omega),by rw[pL];omega,?_,fun i x hi=>?_⟩⟩
    ·have hx:d.blk=x:=h.1
     exact⟨by rw[t3];omega,.inl h⟩
    ·rcases q4 with h|h
     ·exact .inl h
     ·exact .inr (by rw[pL];omega)
    ·have hlt:i<bs.length+s.length:=by
      rcases pX i (bs++s).length with h|h
      ·rwa [pL] at h
      ·rw[pY h] at hi;cases hi
     rw[←cellA]
     by_cases hib:i<bs.length
     ·rw[List.getElem?_append_left hib] at hi
      rw[t2.cell d.blk i hdlt (fun h=>by omega)]
      unfold qJ
      simp only[q1']
      simpa using q5 i x hi
     ·rw[List.getElem?_append_right (by omega)] at hi
      have:=t4 (i-bs.length) (by omega)
      rw[show 0+bs.length*1+(i-bs.length)=i by omega] at this
      rw[this,qA]
      exact Ww _ _ _ hi
   ·refine grow (some ⟨d.blk,0,none⟩) d.size (Zn bs) rfl ?_ rfl (by omega)
    have:(Builtin.firstCells 1 bs.length (.slice (some ⟨d.blk,0,none⟩) bs.length d.size))=loadCells ⟨d.blk,0,none⟩ (bs.length*1):=rfl
    rw[this]
    refine zfp _ _ _ fun j x hx=>?_
    unfold qJ
    simp only[q1']
    simpa using q5 j x hx
 have hnd:∀k,¬d.has c.blk k:=fun k h=>hdc (by have:=h.2;have:=hD.1;omega) h.1
 have hw2b:w2.heap[c.blk]?=some (.cells #[.pointer (some ⟨c.blk,0,none⟩),v] T (0,0)):=by
  rw[hC2.block c.blk (by omega) hnd];exact hw1b
 have hw3b:(w2.setCell ⟨c.blk,1,none⟩ v2).heap[c.blk]?=some (.cells #[.pointer (some ⟨c.blk,0,none⟩),v2] T (0,0)):=by rw[Ym hw2b];rfl
 have hsz3:(w2.setCell ⟨c.blk,1,none⟩ v2).heap.size=w2.heap.size:=by simp
 have hCh:Chg w (w2.setCell ⟨c.blk,1,none⟩ v2) (fun x k=>c.has x k∨d.has x k):=
  ((zr3 hw1 hheap hlo (by omega) (by simp;omega)).mono (fun _ _ h=>.inl h)).trans
   ((hC2.mono (fun _ _ h=>.inr h)).trans ((zr3 (Wrote.setCell w2 ⟨c.blk,1,none⟩ v2) hw2b hlo (by omega) (by simp;omega)).mono (fun _ _ h=>.inl h)))
 obtain⟨r3,r4⟩:=zd8 (bs2:=bs++s) (w':=w2.setCell ⟨c.blk,1,none⟩ v2) (d2:=d2) hI hb hg hc hd hCh (fun x k h=>by rw[hsz3];exact hd2 x k h)
  ⟨hlo,hbase,hsize,Nat.lt_succ_self n,_,v2,hw3b,.inr rfl,fun d' hd'=>by
   rw[jv] at hd'
   simp only[p0] at hd'
   subst hd'
   rcases hfin with⟨g1,g2,g3⟩|⟨g1,_,g2,_⟩
   ·exact .inl ⟨g1,g3⟩
   ·exact .inr ⟨g1,by rw[hs2];exact g2⟩⟩
  ⟨hlo2,hs2,by
   rcases hfin with⟨g1,g2,g3⟩|⟨g1,g2,_,arr,fr,g3,g4,g5,g6,g7⟩
   ·exact .inl ⟨g1,g2⟩
   ·exact .inr ⟨g1,arr,fr,by rw[U6 g2];exact g3,g4,g5,g6,g7⟩⟩
 exact⟨v2,w2,_,hrun,hv2,hw2b,r3,r4⟩
theorem ze8{b:Id}{T:TypeId}{g:Id}{vp:Value}{c:CLoc}(hc:β b=some c)(hB:RepB I β n w c (.bld T g))(r1:Rep I β n w (.ptr b 0 0) vp):vp=.pointer (some ⟨c.blk,0,none⟩):=by
 obtain⟨hlo,hbase,_⟩:=hB
 cases r1 with
 |imm _ _ h=>cases h
 |ptr _ _ _ a h1 h2=>rw[h2 c hc,hbase];simp
set_option maxHeartbeats 1000000 in
theorem zqg{f:FuncId}{T e tb ts:TypeId}(hW:BWrite P f T e tb ts){b g:Id}{bs s:List UInt8}{K:AVal→AHeap→Nat→Prop}(hb:H.get b=some (.bld T g))(hg:H.get g=some (.buf e bs))
 (hlen:bs.length+s.length≤140737488355328) (hk:K (.tup [.int .i64 (s.length:Int),.val .nilIface]) (((n,0),.buf e (bs++s))::(H.set b (.bld T (n,0))).del g) (n+1)) :
 ACalls P f [.ptr b 0 0,.str s] H n K:=by
 refine⟨hW.ok,fun I β w vs hI hl hr=>?_⟩
 match vs,hl with
 |[vp,vs'],_=>
 have r1:=hr 0 _ _ rfl rfl
 have r2:=hr 1 _ _ rfl rfl
 rw[r2.str_inv]
 obtain⟨c,hc,hB⟩:=hI.blocks b _ hb
 rw[ze8 hc hB r1]
 obtain⟨hlo,hbase,hsize,hgn,p,v,hheap,hp,hv⟩:=hB
 obtain⟨w1,hw1,hw1b,hcalls⟩:∃w1:World,Wrote w w1 c.blk∧w1.heap[c.blk]?=some (.cells #[.pointer (some ⟨c.blk,0,none⟩),v] T (0,0))∧∀v2 w2,(Builtin.append_ #[tb,ts] tb #[v,.string ⟨⟨s⟩⟩]).run P w1=.ok v2 w2→(∃a l c,v2=.slice a l c) →
  w2.heap[c.blk]?=some (.cells #[.pointer (some ⟨c.blk,0,none⟩),v] T (0,0)) →
  Calls P f #[.pointer (some ⟨c.blk,0,none⟩),.string ⟨⟨s⟩⟩] w fun e w'=>e=.returned (.tuple #[.int .i64 (⟨⟨s⟩⟩:ByteArray).size,.nilIface])∧w'=w2.setCell ⟨c.blk,1,none⟩ v2:=by
  rcases hp with rfl|rfl
  ·exact⟨w.setCell ⟨c.blk,0,none⟩ (.pointer (some ⟨c.blk,0,none⟩)),Wrote.setCell w ⟨c.blk,0,none⟩ _,by rw[Ym hheap];rfl,fun v2 w2 h1 h2 h3=>hW.fresh _ _ _ _ _ _ hheap h1 h2 h3⟩
  ·exact⟨w,Wrote.refl w _,hheap,fun v2 w2 h1 h2 h3=>hW.used _ _ _ _ _ _ hheap h1 h2 h3⟩
 obtain⟨v2,w2,β',hrun,hv2,hw2b,r3,r4⟩:=zi9 hW.ht (.inr hW.hu) hW.hz hW.hsz hW.hby hb hg hlen hI hc hheap hw1 hw1b (vy:=.string ⟨⟨s⟩⟩) (fun _ _=>rfl) (fun _ _=>zsv s _)
 refine(hcalls v2 w2 hrun hv2 hw2b).mono ?_
 rintro ee w' ⟨rfl,rfl⟩
 refine⟨_,_,_,_,I,_,rfl,hk,r3,?_,r4⟩
 refine .tup _ _ rfl fun i x u hx hu=>?_
 match i,hx,hu with
 |0,hx,hu=>simp at hx hu;subst hx;subst hu;exact .imm _ _ (.int _ _)
 |1,hx,hu=>simp at hx hu;subst hx;subst hu;exact .imm _ _ (.val _ rfl)
 |i+2,hx,hu=>simp at hx
theorem z1f{b m:Nat}{arr:Array Value}{el:TypeId}{fr:Nat×Nat}(h:w.heap[b]?=some (.cells arr el fr))(hm:m≠0) :
 (w.freeze ⟨b,0,none⟩ m).heap[b]?=some (.cells arr el (if fr.1==fr.2 then(0,0+m) else(min fr.1 0,max fr.2 (0+m)))):=by
 unfold World.freeze
 rw[if_neg hm]
 simp[Array.getElem?_modify,h]
theorem Zl{b m x:Nat}(hx:x≠b):(w.freeze ⟨b,0,none⟩ m).heap[x]?=w.heap[x]?:=by
 unfold World.freeze
 split
 ·rfl
 ·simp only[Array.getElem?_modify]
  rw[if_neg (fun h=>hx h.symm)]
theorem z2e{b m:Nat}:(w.freeze ⟨b,0,none⟩ m).heap.size=w.heap.size:=by
 unfold World.freeze
 split<;>simp
theorem zk8(hI:Inv I β n H w){g:Id}{e:TypeId}{bs:List UInt8}{d:CLoc}(hg:H.get g=some (.buf e bs))(hd:β g=some d)(hpos:0<d.size)(hbs:bs≠[]) :
 Inv I β n H (w.freeze ⟨d.blk,0,none⟩ bs.length)∧Ext I β n H w I β n H (w.freeze ⟨d.blk,0,none⟩ bs.length):=by
 have hm:bs.length≠0:=fun h=>hbs (qI.1 h)
 have hgne:H.get g≠none:=by rw[hg];simp
 obtain⟨d',hd',hD⟩:=hI.blocks g _ hg
 rw[hd] at hd'
 simp only[p0] at hd'
 subst hd'
 obtain⟨hlo,hds,⟨h,_⟩|⟨_,arr,fr,q1,q2,q3,q4,q5⟩⟩:=hD
 ·omega
 have self:=z1f q1 hm
 have hcell:∀b k,(w.freeze ⟨d.blk,0,none⟩ bs.length).cell? ⟨b,k,none⟩=w.cell? ⟨b,k,none⟩:=by
  intro b k
  by_cases hb:b=d.blk
  ·subst hb
   unfold qJ
   simp only[self,q1]
  ·exact cell?_of_heap (Zl hb)
 have hhas:∀k,k<arr.size→d.has d.blk k:=fun k hk=>⟨rfl,by omega,by omega⟩
 have hmap:∀ (b:Nat) (o:Obj),w.heap[b]?=some o→(∀a e f,o≠.cells a e f)→(w.freeze ⟨d.blk,0,none⟩ bs.length).heap[b]?=some o:=by
  intro b o hb hne
  have:b≠d.blk:=by rintro rfl;rw[q1] at hb;simp only[p0] at hb;exact hne _ _ _ hb.symm
  rw[Zl this];exact hb
 have hshape:∀ (b:Nat) (a:Array Value) (el:TypeId) (f:Nat×Nat),w.heap[b]?=some (.cells a el f)→∃a' f',(w.freeze ⟨d.blk,0,none⟩ bs.length).heap[b]?=some (.cells a' el f')∧a'.size=a.size∧(f'=f∨(b=d.blk∧a.size=arr.size)):=by
  intro b a el f hb
  by_cases hx:b=d.blk
  ·subst hx
   rw[q1] at hb
   simp only[p0,Obj.cells.injEq] at hb
   obtain⟨rfl,rfl,rfl⟩:=hb
   exact⟨_,_,self,rfl,.inr ⟨rfl,rfl⟩⟩
  ·exact⟨a,f,by rw[Zl hx];exact hb,rfl,.inl rfl⟩
 constructor
 ·refine⟨fun id blk hid=>?_,hI.inj,fun i c b k hi hc=>by rw[z2e];exact hI.own i c b k hi hc,fun b k hb=>by rw[hcell];exact hI.imm b k hb,hI.fresh,hI.glob.mono (fun _ _ h=>h) (fun b k _=>by rw[hcell]) (fun b a el f hb=>by obtain⟨a',f',h1,h2,_⟩:=hshape b a el f hb;exact⟨a',f',h1,h2⟩)⟩
  obtain⟨c,hc,hB⟩:=hI.blocks id blk hid
  refine⟨c,hc,?_⟩
  by_cases hgi:id=g
  ·subst hgi
   rw[hd] at hc
   simp only[p0] at hc
   subst hc
   rw[hg] at hid
   simp only[p0] at hid
   subst hid
   refine⟨hlo,hds,.inr ⟨hpos,arr,_,self,q2,q3,?_,q5⟩⟩
   split
   ·exact .inr (by simp)
   ·rename_i hne
    rcases q4 with h|h
    ·exact absurd (by simpa using h) hne
    ·exact .inr (by simp only[Nat.zero_add];omega)
  ·refine hB.mono' (fun _ _ h=>h) (fun b k _=>hcell b k) (pQ n) (fun _ _ _ h=>h) (fun a el f h=>?_) (fun b k v _ hv=>by rw[hcell];exact hv) (fun es ck _ h=>hmap _ _ h (fun a e f hx=>by subst hx;cases ck))
   obtain⟨a',f',k1,k2,k3⟩:=hshape _ _ _ _ h
   refine⟨a',f',k1,k2,k3.imp (fun h=>h) fun hx k hk hck=>?_⟩
   refine hgi (hI.inj id g c d c.blk k hc hd hck ?_)
   rw[hx.1]
   exact hhas k (by omega)
 ·have refl:Ext I β n H w I β n H w:=Ext.refl _ _ _ _ _ hI.fresh
  refine⟨?_,?_,?_,by rw[z2e];exact pQ _,fun b hb hn=>?_,fun b k v hv _=>by rw[hcell];exact hv,fun b a el f h=>?_,fun b es ck h _=>hmap _ _ h (fun a e f hx=>by subst hx;cases ck),refl.imm,refl.immNew,refl.old,refl.new,refl.dom,refl.le⟩
  ·unfold World.freeze;split<;>rfl
  ·unfold World.freeze;split<;>exact⟨rfl,fun _=>pQ _⟩
  ·unfold World.freeze;split<;>rfl
  ·exact Zl fun hx=>hn g d 0 hd hgne ⟨hx.symm,by omega,hpos⟩
  ·obtain⟨a',f',k1,k2,k3⟩:=hshape _ _ _ _ h
   refine⟨a',f',k1,k2,k3.imp (fun h=>h) fun hx k hk=>⟨g,d,hd,hgne,?_⟩⟩
   rw[hx.1]
   exact hhas k (by omega)
theorem zwb(hI:Inv I β n H w):Inv I β n H w.drew∧Ext I β n H w I β n H w.drew:=by
 have refl:Ext I β n H w I β n H w:=Ext.refl _ _ _ _ _ hI.fresh
 exact⟨hI.of_heap (show w.drew.heap=w.heap from rfl),⟨rfl,⟨rfl,fun _=>Nat.le_succ _⟩,rfl,pQ _,fun _ _ _=>rfl,fun _ _ _ h _=>h,fun _ arr _ fr h=>⟨arr,fr,h,rfl,.inl rfl⟩,fun _ _ _ h _=>h,refl.imm,refl.immNew,refl.old,refl.new,refl.dom,refl.le⟩⟩
theorem zio{f:FuncId}{T e:TypeId}(hS:BStr P f T e){b g:Id}{bs:List UInt8}{K:AVal→AHeap→Nat→Prop}(hb:H.get b=some (.bld T g))(hg:H.get g=some (.buf e bs))
 (hlen:bs.length≤9223372036854775807) (hk:K (.str bs) H n):ACalls P f [.ptr b 0 0] H n K:=by
 refine⟨hS.ok,fun I β w vs hI hl hr=>?_⟩
 match vs,hl with
 |[vp],_=>
 have r1:=hr 0 _ _ rfl rfl
 obtain⟨c,hc,hB⟩:=hI.blocks b _ hb
 obtain⟨d,hd,hD⟩:=hI.blocks g _ hg
 obtain⟨hlo,hbase,hsize,hgn,p,v,hheap,hp,hv⟩:=hB
 have hds:d.s=bs.length:=hD.2.1
 have hvd:=hv d hd
 rw[hds] at hvd
 obtain⟨a,rfl,ha⟩:∃a,vp=.pointer (some a)∧a=⟨c.blk,0,none⟩:=by
  cases r1 with
  |imm _ _ h=>cases h
  |ptr _ _ _ a h1 h2=>exact⟨a,rfl,by rw[h2 c hc,hbase];simp⟩
 subst ha
 obtain⟨g1,g2⟩:=zwb hI
 have hre:∀ (l:List UInt8) (w':World),Rep I β n w' (.str l) (.string ⟨l.toArray⟩):=fun l w'=>.imm _ _ (.str l)
 have hz2:d.size=0→bs.length=0:=fun hz=>by
  obtain⟨_,_,⟨_,h⟩|⟨h,_⟩⟩:=hD
  ·rw[h];rfl
  ·omega
 rcases hvd with⟨z1,rfl⟩|⟨z1,rfl⟩
 ·have hbs:bs=[]:=qI.1 (hz2 z1)
  subst hbs
  refine(hS.nil _ _ _ hheap).mono ?_
  rintro ee w' ⟨rfl,rfl⟩
  exact⟨_,_,_,_,I,β,rfl,hk,g1,hre [] _,g2⟩
 ·by_cases hbs:bs=[]
  ·subst hbs
   refine(hS.zero _ _ _ _ _ hheap (by omega)).mono ?_
   rintro ee w' ⟨rfl,rfl⟩
   exact⟨_,_,_,_,I,β,rfl,hk,g1,hre [] _,g2⟩
  ·obtain⟨_,_,⟨h,_⟩|⟨_,arr,fr,q1,q2,q3,q4,q5⟩⟩:=hD
   ·omega
   refine(hS.full _ _ _ bs _ _ arr fr hheap hbs (by omega) q3 hlen q1 q5).mono ?_
   rintro ee w' ⟨rfl,rfl⟩
   obtain⟨k1,k2⟩:=zk8 g1 hg hd z1 hbs
   exact⟨_,_,_,_,I,β,rfl,hk,k1,hre bs _,g2.trans k2⟩
end
end Go.Fx
namespace Go.Fx
variable {P:Program} {I:Nat→Nat→Prop} {β:Id→Option CLoc} {n:Nat} {H:AHeap} {w:World}
structure BByte(P:Program)(f:FuncId)(T e tb:TypeId):Prop where
 ok:Zc P f
 ht:P.underlying tb=some (.slice e)
 hz:∃zs,kb P e=some zs
 hsz:kj P e=some 1
 hby:Jk P e=some 1
 used:∀ (b:Nat) (c:Int) (v v2:Value) (w w2:World),w.heap[b]?=some (.cells #[.pointer (some ⟨b,0,none⟩),v] T (0,0)) →
  (Builtin.append_ #[tb,tb] tb #[v,.slice (some ⟨w.heap.size,0,none⟩) 1 1]).run P (w.alloc (.cells #[.int .u8 c] e))=.ok v2 w2→(∃a l c,v2=.slice a l c)→w2.heap[b]?=some (.cells #[.pointer (some ⟨b,0,none⟩),v] T (0,0)) →
  Calls P f #[.pointer (some ⟨b,0,none⟩),.int .u8 c] w fun e w'=>e=.returned .nilIface∧w'=w2.setCell ⟨b,1,none⟩ v2
 fresh:∀ (b:Nat) (c:Int) (v v2:Value) (w w2:World),w.heap[b]?=some (.cells #[.pointer none,v] T (0,0)) →
  (Builtin.append_ #[tb,tb] tb #[v,.slice (some ⟨w.heap.size,0,none⟩) 1 1]).run P ((w.setCell ⟨b,0,none⟩ (.pointer (some ⟨b,0,none⟩))).alloc (.cells #[.int .u8 c] e))=.ok v2 w2→(∃a l c,v2=.slice a l c)→w2.heap[b]?=some (.cells #[.pointer (some ⟨b,0,none⟩),v] T (0,0)) →
  Calls P f #[.pointer (some ⟨b,0,none⟩),.int .u8 c] w fun e w'=>e=.returned .nilIface∧w'=w2.setCell ⟨b,1,none⟩ v2
structure BLen(P:Program)(f:FuncId)(T:TypeId):Prop where
 ok:Zc P f
 run:∀ (b l cp:Nat) (p:Value) (a:Option Addr) (w:World),w.heap[b]?=some (.cells #[p,.slice a l cp] T (0,0))→Calls P f #[.pointer (some ⟨b,0,none⟩)] w fun e w'=>e=.returned (.int .i64 (l:Int))∧w'=w
theorem Z8(w:World)(o:Obj):(w.alloc o).heap=w.heap.push o:=rfl
theorem z89{b:Nat}{o ob:Obj}(h:w.heap[b]?=some ob):(w.alloc o).heap[b]?=some ob:=by
 have hlt:b<w.heap.size:=by
  rcases pX b w.heap.size with h'|h'
  ·exact h'
  ·rw[pJ h'] at h;cases h
 rw[Z8,pS,if_neg (by omega)];exact h
theorem zf3{b:Nat}{arr:Array Value}{el:TypeId}{fr:Nat×Nat}(h:w.heap[b]?=some (.cells arr el fr))(o:Obj)(v:Value):Wrote (w.alloc o) ((w.setCell ⟨b,0,none⟩ v).alloc o) b:=by
 have hw:=Wrote.setCell w ⟨b,0,none⟩ v
 have hlt:b<w.heap.size:=by
  rcases pX b w.heap.size with h'|h'
  ·exact h'
  ·rw[pJ h'] at h;cases h
 refine⟨hw.os,⟨hw.tape.eq,hw.tape.le⟩,hw.output,?_,fun k hk=>?_,fun arr' el' fr' hh=>?_,fun ob ho hh=>?_⟩
 rotate_right
 ·rw[Z8,pS,if_neg (by omega)] at hh
  rw[h] at hh
  simp only[p0] at hh
  subst hh
  cases ho
 ·rw[Z8,Z8,Array.size_push,Array.size_push,hw.size]
 ·rw[Z8,Z8,pS,pS,hw.size,hw.other k hk]
 ·rw[Z8,pS,if_neg (by omega)] at hh
  obtain⟨arr2,h1,h2⟩:=hw.shape _ _ _ hh
  exact⟨arr2,by rw[Z8,pS,if_neg (by rw[hw.size];omega)];exact h1,h2⟩
set_option maxHeartbeats 1000000 in
theorem ziw{f:FuncId}{T e tb:TypeId}(hW:BByte P f T e tb){b g:Id}{bs:List UInt8}{x:UInt8}{K:AVal→AHeap→Nat→Prop}(hb:H.get b=some (.bld T g))(hg:H.get g=some (.buf e bs))
 (hlen:bs.length+1≤140737488355328) (hk:K (.val .nilIface) (((n,0),.buf e (bs++[x]))::(H.set b (.bld T (n,0))).del g) (n+1)) :
 ACalls P f [.ptr b 0 0,.int .u8 (x.toNat:Int)] H n K:=by
 refine⟨hW.ok,fun I β w vs hI hl hr=>?_⟩
 match vs,hl with
 |[vp,vx],_=>
 have r1:=hr 0 _ _ rfl rfl
 have r2:=hr 1 _ _ rfl rfl
 rw[r2.int_inv]
 obtain⟨c,hc,hB⟩:=hI.blocks b _ hb
 rw[ze8 hc hB r1]
 obtain⟨hlo,hbase,hsize,hgn,p,v,hheap,hp,hv⟩:=hB
 obtain⟨hIA,hXA⟩:=zc1 hI (.cells #[.int .u8 (x.toNat:Int)] e)
 have hheapA:=z89 (o:=.cells #[.int .u8 (x.toNat:Int)] e) hheap
 have hblt:c.blk<w.heap.size:=by
  rcases pX c.blk w.heap.size with h|h
  ·exact h
  ·rw[pJ h] at hheap;cases hheap
 obtain⟨w1,hw1,hw1b,hnew,hcalls⟩:∃w1:World,Wrote (w.alloc (.cells #[.int .u8 (x.toNat:Int)] e)) w1 c.blk∧w1.heap[c.blk]?=some (.cells #[.pointer (some ⟨c.blk,0,none⟩),v] T (0,0))∧w1.heap[w.heap.size]?=some (.cells #[.int .u8 (x.toNat:Int)] e (0,0)) ∧
  ∀v2 w2,(Builtin.append_ #[tb,tb] tb #[v,.slice (some ⟨w.heap.size,0,none⟩) 1 1]).run P w1=.ok v2 w2→(∃a l c,v2=.slice a l c) →
  w2.heap[c.blk]?=some (.cells #[.pointer (some ⟨c.blk,0,none⟩),v] T (0,0)) →
  Calls P f #[.pointer (some ⟨c.blk,0,none⟩),.int .u8 (x.toNat:Int)] w fun e w'=>e=.returned .nilIface∧w'=w2.setCell ⟨c.blk,1,none⟩ v2:=by
  rcases hp with rfl|rfl
  ·refine⟨(w.setCell ⟨c.blk,0,none⟩ (.pointer (some ⟨c.blk,0,none⟩))).alloc (.cells #[.int .u8 (x.toNat:Int)] e),zf3 hheap _ _,z89 (by rw[Ym hheap];rfl),?_,fun v2 w2 h1 h2 h3=>hW.fresh _ _ _ _ _ _ hheap h1 h2 h3⟩
   rw[Z8,pS,if_pos (Wrote.setCell w ⟨c.blk,0,none⟩ _).size.symm]
  ·refine⟨w.alloc (.cells #[.int .u8 (x.toNat:Int)] e),Wrote.refl _ _,hheapA,?_,fun v2 w2 h1 h2 h3=>hW.used _ _ _ _ _ _ hheap h1 h2 h3⟩
   rw[Z8,pS,if_pos rfl]
 obtain⟨v2,w2,β',hrun,hv2,hw2b,r3,r4⟩:=zi9 (s:=[x]) hW.ht (.inl ⟨_,hW.ht⟩) hW.hz hW.hsz hW.hby hb hg hlen hIA hc hheapA hw1 hw1b (vy:=.slice (some ⟨w.heap.size,0,none⟩) 1 1) (fun _ _=>rfl) (fun wx hx=>by
  have:(Builtin.firstCells 1 [x].length (.slice (some ⟨w.heap.size,0,none⟩) 1 1))=loadCells ⟨w.heap.size,0,none⟩ ([x].length*1):=rfl
  rw[this]
  refine zfp _ _ _ fun j y hy=>?_
  unfold qJ
  rw[hx]
  simp only[hnew]
  match j,hy with
  |0,hy=>simp at hy;subst hy;rfl
  |j+1,hy=>simp at hy)
 refine(hcalls v2 w2 hrun hv2 hw2b).mono ?_
 rintro ee w' ⟨rfl,rfl⟩
 exact⟨_,_,_,_,I,_,rfl,hk,r3,.imm _ _ (.val _ rfl),hXA.trans r4⟩
theorem y22{f:FuncId}{T e:TypeId}(hS:BLen P f T){b g:Id}{bs:List UInt8}{K:AVal→AHeap→Nat→Prop}(hb:H.get b=some (.bld T g))(hg:H.get g=some (.buf e bs))
 (hk:K (.int .i64 (bs.length:Int)) H n):ACalls P f [.ptr b 0 0] H n K:=by
 refine⟨hS.ok,fun I β w vs hI hl hr=>?_⟩
 match vs,hl with
 |[vp],_=>
 have r1:=hr 0 _ _ rfl rfl
 obtain⟨c,hc,hB⟩:=hI.blocks b _ hb
 obtain⟨d,hd,hD⟩:=hI.blocks g _ hg
 rw[ze8 hc hB r1]
 obtain⟨hlo,hbase,hsize,hgn,p,v,hheap,hp,hv⟩:=hB
 have hds:d.s=bs.length:=hD.2.1
 have hz2:d.size=0→bs.length=0:=fun hz=>by
  obtain⟨_,_,⟨_,h⟩|⟨h,_⟩⟩:=hD
  ·rw[h];rfl
  ·omega
 obtain⟨a,cp,rfl⟩:∃a cp,v=.slice a bs.length cp:=by
  rcases hv d hd with⟨h1,h2⟩|⟨_,h2⟩
  ·exact⟨none,0,by rw[h2,hz2 h1]⟩
  ·exact⟨_,_,by rw[h2,hds]⟩
 refine(hS.run _ _ _ _ _ _ hheap).mono ?_
 rintro ee w' ⟨rfl,rfl⟩
 exact⟨_,_,_,_,I,β,rfl,hk,hI,.imm _ _ (.int _ _),Ext.refl _ _ _ _ _ hI.fresh⟩
end Go.Fx
namespace Go.Fx
section
variable {P:Program} {I:Nat→Nat→Prop} {β:Id→Option CLoc} {n:Nat} {H:AHeap} {w:World}
theorem zjr(hI:Inv I β n H w){r:Loop}{e:Env}(hE:∀t,Rep I β n w (Env.get e t) (r.tmps.getD t undef)) :
 Inv I (upd β (n,0) (some ⟨w.heap.size,0,1,0,0⟩)) (n+1) (((n,0),.lrec w.heap.size r e)::H) (w.alloc (.loop r))∧Ext I β n H w I (upd β (n,0) (some ⟨w.heap.size,0,1,0,0⟩)) (n+1) (((n,0),.lrec w.heap.size r e)::H) (w.alloc (.loop r)):=by
 have hp:Pushed w (w.alloc (.loop r)) (.loop r):=⟨rfl,⟨rfl,fun _=>pQ _⟩,rfl,rfl⟩
 have hsz:(w.alloc (.loop r)).heap.size=w.heap.size+1:=by rw[hp.heap];simp
 have hfr:∀id:Id,n≤id.1→β id=none:=hI.fresh
 have hcI:∀b k,I b k→(w.alloc (.loop r)).cell? ⟨b,k,none⟩=w.cell? ⟨b,k,none⟩:=fun b k hb=>by
  obtain⟨v,hv⟩:=hI.imm b k hb
  exact hp.chg.cell b k (Zm hv) (fun h=>h.elim)
 refine Z4 hI hp.chg (Nat.le_succ n) (fun _ _ h=>h.elim) (fun _ _ h=>h) (fun _ _ h h'=>absurd h h') (fun id hid=>.inl (zp _ _ (Zp hid))) ?_ ?_ ?_ (fun _ _ _ _ _ _ h=>h) ?_ ?_
 ·intro id c b k hid hc hk
  rcases ky hc hI.fresh with⟨_,rfl⟩|⟨h,_⟩
  ·have hb:w.heap.size=b:=hk.1
   exact⟨by omega,.inl (by omega)⟩
  ·omega
 ·intro id hid
  rw[zp _ _ (fun h=>by subst h;exact absurd hid (Nat.not_succ_le_self n))]
  exact hI.fresh id (by omega)
 ·intro i j c d b k hi hj hc hd hj'
  rcases ky hj hI.fresh with⟨rfl,rfl⟩|⟨h,_⟩
  ·rcases ky hi hI.fresh with⟨rfl,_⟩|⟨_,h⟩
   ·rfl
   ·exact(Vl hI h hc (by rw[←hd.1];exact pQ _)).elim
  ·omega
 ·intro id hid hg
  rwa [AHeap.get_cons_other _ _ (Zp hid).symm] at hg
 ·intro id blk hid
  by_cases h:(n,0)=id
  ·subst h
   rw[AHeap.get_cons_same] at hid
   simp only[p0] at hid
   subst hid
   refine .inr ⟨⟨w.heap.size,0,1,0,0⟩,jv _ _ _,rfl,Nat.one_pos,rfl,hp.new,fun t=>(hE t).mono' (fun _ _ h=>h) hcI (Nat.le_succ n) (fun id c hid h=>?_)⟩
   rwa [zp _ _ (Zp hid)] at h
  ·rw[AHeap.get_cons_other _ _ h] at hid
   exact .inl ⟨hid,zp _ _ (fun h'=>h h'.symm),fun _ _ _ _ _ h=>h⟩
theorem z38(hI:Inv I β n H w){k:Id}{l:Nat}{r r':Loop}{e:Env}(hk:H.get k=some (.lrec l r e))(ht:r'.tmps=r.tmps) :
 Inv I β n (H.set k (.lrec l r' e)) (w.putObj l (.loop r'))∧Ext I β n H w I β n (H.set k (.lrec l r' e)) (w.putObj l (.loop r'))∧w.heap[l]?=some (.loop r):=by
 obtain⟨c,hc,h0,h1,h2,h3,h4⟩:=hI.blocks k _ hk
 subst h2
 have hlt:c.blk<w.heap.size:=by
  rcases pX c.blk w.heap.size with h|h
  ·exact h
  ·rw[pJ h] at h3;cases h3
 have hne:H.get k≠none:=by rw[hk];simp
 have hother:∀b,b≠c.blk→(w.putObj c.blk (.loop r')).heap[b]?=w.heap[b]?:=fun b hb=>World.putObj_heap_other hb
 have hcell:∀b j,(w.putObj c.blk (.loop r')).cell? ⟨b,j,none⟩=w.cell? ⟨b,j,none⟩:=by
  intro b j
  by_cases hb:b=c.blk
  ·subst hb
   unfold qJ
   simp only[World.putObj_heap_same hlt,h3]
  ·exact cell?_of_heap (hother b hb)
 have hchg:Chg w (w.putObj c.blk (.loop r')) (fun b j=>b=c.blk∧j=0):=by
  refine⟨rfl,⟨rfl,fun _=>pQ _⟩,rfl,by simp,fun b _ hb=>hother b (fun h=>hb 0 ⟨h,rfl⟩),fun b j _ _=>hcell b j,fun b arr2 el fr hb=>?_,fun b o ho hb hn=>?_⟩
  ·have:b≠c.blk:=fun h=>by subst h;rw[h3] at hb;cases hb
   exact⟨arr2,by rw[hother b this];exact hb,rfl⟩
  ·rw[hother b (fun h=>hn ⟨h,rfl⟩)];exact hb
 have hhas:c.has c.blk 0:=⟨rfl,by omega,h1⟩
 have:=Z4 (β':=β) (n':=n) (I':=I) (H':=H.set k (.lrec c.blk r' e)) hI hchg (pQ n) (fun b' j h=>⟨k,c,hc,hne,by obtain⟨rfl,rfl⟩:=h;exact hhas⟩) (fun _ _ h=>h) (fun _ _ h h'=>absurd h h') (fun id hid=>.inl rfl)
  (fun id d b' j hid hd _=>by rw[hI.fresh id hid] at hd;cases hd) hI.fresh (fun i j d d' b' q hi hj h h' _=>hI.inj i j d d' b' q hi hj h h') (fun _ _ _ _ _ _ h=>h) (fun t _ ht=>by
   rw[AHeap.get_set] at ht
   split at ht
   ·intro h;rw[h] at ht;simp at ht
   ·exact ht) (fun id blk hid=>by
   rw[AHeap.get_set] at hid
   split at hid
   ·rename_i hkk
    subst hkk
    rw[hk] at hid
    simp only[pZ,p0] at hid
    subst hid
    exact .inr ⟨c,hc,h0,h1,rfl,World.putObj_heap_same hlt,fun t=>by
     rw[ht];exact(h4 t).mono' (fun _ _ h=>h) (fun b j _=>hcell b j) (pQ n) (fun _ _ _ h=>h)⟩
   ·rename_i hkk
    refine .inl ⟨hid,rfl,fun d b j hd hh hw=>?_⟩
    obtain⟨rfl,rfl⟩:=hw
    exact hkk (hI.inj k id c d _ _ hc hd hhas hh))
 exact⟨this.1,this.2,h3⟩
theorem zov(hI:Inv I β n H w)(o:Obj):Inv I β n H (w.alloc o)∧Ext I β n H w I β n H (w.alloc o):=by
 have hp:Pushed w (w.alloc o) o:=⟨rfl,⟨rfl,fun _=>pQ _⟩,rfl,rfl⟩
 exact Z4 hI hp.chg (pQ n) (fun _ _ h=>h.elim) (fun _ _ h=>h) (fun _ _ h h'=>absurd h h') (fun id hid=>.inl rfl) (fun id c b k hid hc _=>by rw[hI.fresh id hid] at hc;cases hc) hI.fresh
  (fun i j c d b k hi hj h h' _=>hI.inj i j c d b k hi hj h h') (fun _ _ _ _ _ _ h=>h) (fun _ _ h=>h) (fun id blk hid=>.inl ⟨hid,rfl,fun _ _ _ _ _ h=>h⟩)
structure RecOf(P:Program)(N:Lay)(ps:List Nat)(a b:LCode)(r:Loop):Prop where
 st:r.state=.ready
 pe:r.pending=none
 pa:r.params.toList=ps
 la:zw P (ztk N) r.assign=some a
 lb:zw P (ztk N) r.body=some b
 sz:r.tmps.size=N.n
def busy(r:Loop):Loop:={ r with state:=.busy }
def y82(k:Id)(l:Nat)(r:Loop)(P:Program)(N:Lay)(n0:Nat)(b:LCode)(Q2:Exit→Env→AHeap→Nat→Prop):Exit→Env→AHeap→Nat→Prop:=
 fun ex e1 H1 n1=>ex=.normal∧∃e1',H1.get k=some (.lrec l r e1')∧LWp P (ztk N) n0 b Q2 e1 (H1.set k (.lrec l (busy r) e1')) n1
def y8i(k:Id)(l:Nat)(r:Loop)(K:AVal→AHeap→Nat→Prop):Exit→Env→AHeap→Nat→Prop:=
 fun ex e2 H2 n2=>ex=.normal∧∃e2',H2.get k=some (.lrec l (busy r) e2')∧K (.bool true) (H2.set k (.lrec l r e2')) n2
def zq1:Env→List Nat→List AVal→Env
 |e,p::ps,x::xs=>zq1 (e.put (some p) x) ps xs
 |e,_,_=>e
theorem zbd:∀ {ps:List Nat} {xs:List AVal} {vs:List Value} {e:Env} {tm:Array Value},(∀p∈ps,p<tm.size)→xs.length=ps.length→vs.length=ps.length→(∀t,Rep I β n w (e.get t) (tm.getD t undef)) →
 (∀ (i:Nat) (x:AVal) (v:Value),xs[i]?=some x→vs[i]?=some v→Rep I β n w x v)→∀t,Rep I β n w ((zq1 e ps xs).get t) (((ps.zip vs).foldl (fun t p=>t.setIfInBounds p.1 p.2) tm).getD t undef)
 |[],[],[],e,tm,_,_,_,he,_=>he
 |p::ps,x::xs,v::vs,e,tm,hp,h1,h2,he,hr=>by
  simp only[zq1,List.zip_cons_cons,List.foldl_cons]
  have hE:RepEnv I β n w e { tmps:=tm,defers:=[] }:=he
  have hx:=hr 0 x v rfl rfl
  have:=hE.put (d:=some p) (fun t ht=>by cases ht;exact hp p (List.mem_cons_self ..)) hx
  exact zbd (fun q hq=>by rw[Array.size_setIfInBounds];exact hp q (List.mem_cons_of_mem _ hq)) (by simpa using h1) (by simpa using h2) this (fun i x v hx hv=>hr (i+1) x v (by simpa using hx) (by simpa using hv))
 |[],x::xs,_,_,_,_,h1,_,_,_=>by simp at h1
 |[],[],v::vs,_,_,_,_,h2,_,_=>by simp at h2
 |p::ps,[],_,_,_,_,h1,_,_,_=>by simp at h1
 |p::ps,x::xs,[],_,_,_,_,h2,_,_=>by simp at h2
theorem U9(ps:Array Tmp)(vs:Array Value)(tm:Array Value):(ps.zip vs).foldl (fun tmps (x:Tmp×Value)=>tmps.setIfInBounds x.1 x.2) tm=(ps.toList.zip vs.toList).foldl (fun t p=>t.setIfInBounds p.1 p.2) tm:=by
 rw[←Array.foldl_toList,Array.toList_zip]
theorem Vp:∀ (l:List (Nat×Value)) (tm:Array Value),(l.foldl (fun t p=>t.setIfInBounds p.1 p.2) tm).size=tm.size
 |[],_=>rfl
 |p::r,tm=>by rw[List.foldl_cons,Vp r,Array.size_setIfInBounds]
def SubE:Env→Env→Prop
 |[],_=>True
 |(k,x)::r,e=>e.get k=x∧SubE r e
theorem SubE.get:∀ {e1 e:Env},SubE e1 e→∀t,e1.get t=.any∨e1.get t=e.get t
 |[],_,_,t=>.inl rfl
 |(k,x)::r,e,h,t=>by
  simp only[Env.get]
  split
  ·rename_i hk;subst hk;exact .inr h.1.symm
  ·exact SubE.get h.2 t
end
def EnvVw(F:Id→Bool)(H:AHeap)(ρ:Id→Option Id)(n:Nat):Env→Env→Prop
 |[],[]=>True
 |(k,x)::r,(k',y)::r'=>(k=k'∧Vw F H ρ n x y)∧EnvVw F H ρ n r r'
 |_,_=>False
theorem EnvVw.get{F:Id→Bool}{H:AHeap}{ρ:Id→Option Id}{n:Nat}:∀ {e e':Env},EnvVw F H ρ n e e'→∀t,Vw F H ρ n (e.get t) (e'.get t)
 |[],[],_,t=>.any _
 |(k,x)::r,(k',y)::r',h,t=>by
  obtain⟨⟨rfl,h1⟩,h2⟩:=h
  simp only[Env.get]
  split
  ·exact h1
  ·exact EnvVw.get h2 t
 |[],_::_,h,_=>h.elim
 |_::_,[],h,_=>h.elim
end Go.Fx
namespace Go.Fx
section
variable {P:Program} {I:Nat→Nat→Prop} {β:Id→Option CLoc} {n:Nat} {H:AHeap} {w:World}
def zn9:Exit→Option Code
 |.ret=>some .ret
 |.exit id=>some (.exit id)
 |_=>none
def ztj(r:Loop)(code:Code):Loop:={ r with state:=.done,pending:=some code }
def y7j(k:Id)(l:Nat)(r:Loop)(K:AVal→AHeap→Nat→Prop):Exit→Env→AHeap→Nat→Prop:=
 fun ex e2 H2 n2=>(∃code,zn9 ex=some code∧∃e2',H2.get k=some (.lrec l (busy r) e2')∧K (.bool false) (H2.set k (.lrec l (ztj r code) e2')) n2)∨(ex=.normal∧∃e2',H2.get k=some (.lrec l (busy r) e2')∧K (.bool true) (H2.set k (.lrec l r e2')) n2)
theorem ziu{N:Lay}{ps:List Nat}{a b:LCode}{r:Loop}{e:Env}{l:Nat}{k:Id}{args:List AVal}{K:AVal→AHeap→Nat→Prop}(hr:RecOf P N ps a b r)(hk:H.get k=some (.lrec l r e))(hps:(ps.all fun p=>Nat.blt p N.n)=true)(hlen:args.length=ps.length)
 (h:LWp P (ztk N) n a (y82 k l r P N n b (y7j k l r K)) (zq1 e ps args) H n) :
 ACalls P (.yield l) args H n K:=by
 refine⟨trivial,fun I β w vs hI hl hrep=>?_⟩
 obtain⟨c,hc,h0,h1,h2,h3,h4⟩:=hI.blocks k _ hk
 rw[h2] at h3
 have hpl:r.params.size=ps.length:=by rw[←hr.pa,Array.length_toList]
 have hlt:∀p∈ps,p<r.tmps.size:=fun p hp=>by
  rw[hr.sz]
  rw[pD] at hps
  have:=hps p hp
  rwa [Nat.blt_eq] at this
 refine⟨r.fn,_,r.assign,r.body,run_yield h3 (by simp only[List.size_toArray];omega),roundIn_of_wpIn trivial ?_⟩
 refine h r.assign hr.la (some l) (fun h=>by cases h) I β H w I β w _ (Ext.refl I β n H w hI.fresh) hI ?_ ?_ (Dfr.nil _ _ _) _ ?_
 ·have:=zbd (n:=n) (w:=w) (I:=I) (β:=β) hlt hlen (by rw[hl,hlen]) h4 hrep
  intro t
  have h5:=U9 r.params vs.toArray r.tmps
  rw[hr.pa] at h5
  show Rep I β n w _ (((r.params.zip vs.toArray).foldl (fun tmps (x:Tmp×Value)=>tmps.setIfInBounds x.1 x.2) r.tmps).getD t undef)
  rw[h5]
  exact this t
 ·show((r.params.zip vs.toArray).foldl (fun tmps (x:Tmp×Value)=>tmps.setIfInBounds x.1 x.2) r.tmps).size=N.n
  rw[U9,Vp]
  exact hr.sz
 intro ex e1 H1 n1 I1 β1 w1 a1 hq hI1 hE1 hN1 hD1 hX1
 obtain⟨rfl,e1',hk1,hb⟩:=hq
 obtain⟨q1,q2,q3⟩:=z38 (r':=busy r) hI1 hk1 rfl
 refine⟨_,run_beginRound q3 hr.st,?_⟩
 refine hb r.body hr.lb (some l) (fun h=>by cases h) I β H w I1 β1 _ a1 (hX1.trans q2) q1 (fun t=>(hE1 t).mono q2 hI1) hN1 (hD1.mono hI1 q2) _ ?_
 intro ex e2 H2 n2 I2 β2 w2 a2 hq hI2 hE2 hN2 hD2 hX2
 rcases hq with⟨code,hj,e2',hk2,hK⟩|⟨rfl,e2',hk2,hK⟩
 ·obtain⟨p1,p2,p3⟩:=z38 (r':=ztj r code) hI2 hk2 rfl
  have hrr:({ busy r with state:=if(some code).isNone then LoopState.ready else .done,pending:=some code }:Loop)=ztj r code:=by
   cases r
   simp[busy,ztj]
  have hrun:=run_endRound (P:=P) (some code) p3
  rw[hrr] at hrun
  cases ex with
  |ret=>cases hj;exact⟨_,_,hrun,.bool false,.bool false,_,n2,I2,β2,rfl,hK,p1,.imm _ _ (.bool false),hX2.trans p2⟩
  |exit id=>cases hj;exact⟨_,_,hrun,.bool false,.bool false,_,n2,I2,β2,rfl,hK,p1,.imm _ _ (.bool false),hX2.trans p2⟩
  |_=>cases hj
 obtain⟨p1,p2,p3⟩:=z38 (r':=r) hI2 hk2 rfl
 have hrr:({ busy r with state:=if(none:Option Code).isNone then LoopState.ready else .done,pending:=none }:Loop)=r:=by
  have:=hr.st
  have:=hr.pe
  cases r
  simp_all [busy]
 have hrun:=run_endRound (P:=P) none p3
 rw[hrr] at hrun
 exact⟨_,_,hrun,.bool true,.bool true,_,n2,I2,β2,rfl,hK,p1,.imm _ _ (.bool true),hX2.trans p2⟩
theorem zvx{N:Lay}{n0:Nat}{g:LOpd}{ps:List Nat}{a b:LCode}{e:Env}(e1:Env){Q:Exit→Env→AHeap→Nat→Prop}{gf:FuncId}{lb:List AVal}(hg:g.ev e=.fn (.func gf) [] lb)(hn:g.need e)(hs:SubE e1 e)
 (hcall:∀ (l:Nat) (r:Loop),RecOf P N ps a b r→ACalls P (.func gf) (.fn (.yield l) [] []::lb) (((n,0),.lrec l r e1)::H) (n+1) (fun _ H' n'=>∃k e',(H'.get k=some (.lrec l r e')∧Q .normal e' (H'.del k) n')∨∃ex code,zn9 ex=some code∧H'.get k=some (.lrec l (ztj r code) e')∧Q ex e' (H'.del k) n')) :
 LWp P N n0 (.rng g ps a b) Q e H n:=by
 intro c hc ro hro I0 β0 H0 w0 I β w aa hX hI hE hN hD QQ hQ
 cases c with
 |rangeFunc g' ps' x y=>
  simp only[zw] at hc
  split at hc<;>try (cases hc;done)
  rename_i g2 a2 b2 hrd hgl hal hbl
  simp only[p0,LCode.rng.injEq] at hc
  obtain⟨rfl,hps,rfl,rfl⟩:=hc
  obtain rfl:=hro hrd
  have hrg:=yg hE hgl hn
  rw[hg] at hrg
  obtain⟨cs,hf,k2,k4⟩:∃cs:Array Value,aa.eval g'=.func (.func gf) #[] cs∧cs.size=lb.length∧(∀ (i:Nat) (x:AVal) (v:Value),lb[i]?=some x→cs[i]?=some v→Rep I β n w x v):=by
   revert hrg
   generalize aa.eval g'=fv
   intro hr
   cases hr with
   |fn _ _ _ fs cs h1 h2 h3 h4=>
    have:fs=#[]:=Array.size_eq_zero_iff.1 (by simpa using h1)
    subst this
    exact⟨cs,rfl,h2,h4⟩
   |imm _ _ hr=>
    cases hr with
    |fn _ _ _ fs cs h1 h2 h3 h4=>
     have:fs=#[]:=Array.size_eq_zero_iff.1 (by simpa using h1)
     subst this
     exact⟨cs,rfl,h2,fun i x v p q=>.imm _ _ (h4 i x v p q)⟩
  refine wpIn_rangeFunc (fun fn _=>?_)
  obtain⟨r,hrec⟩:∃r:Loop,r={ state:=.ready,pending:=none,fn,tmps:=aa.tmps,params:=ps',assign:=x,body:=y,defers:=w.heap.size }:=⟨_,rfl⟩
  have hR:RecOf P N ps a2 b2 r:=by subst hrec;exact⟨rfl,rfl,hps,hal,hbl,hN⟩
  have htm:r.tmps=aa.tmps:=by subst hrec;rfl
  obtain⟨i0,x0⟩:=zov hI (.deferred (some []))
  have hE0:∀t,Rep I β n (w.alloc (.deferred (some []))) (Env.get e1 t) (r.tmps.getD t undef):=fun t=>by
   rw[htm]
   rcases hs.get t with h|h
   ·rw[h];exact .any _
   ·rw[h];exact(hE t).mono x0 hI
  obtain⟨i1,x1⟩:=zjr i0 (r:=r) hE0
  have hsz:(w.alloc (.deferred (some []))).heap.size=w.heap.size+1:=by simp
  rw[hsz] at i1 x1
  have hc:=hcall (w.heap.size+1) r hR
  obtain⟨f0,g1,g2,g3⟩:=hc.1
  have hD1:Dfr P w0.heap.size (w.alloc (.deferred (some []))) ({ target:=.collected w.heap.size,args:=#[] }::aa.defers):=by
   refine⟨List.pairwise_cons.2 ⟨fun d' hm=>.inl fun he=>?_,hD.1⟩,fun d hd=>?_⟩
   ·subst he
    rcases hD.2 _ hm with hid|⟨q,h1,h2,h3⟩
    ·obtain⟨_,_,_,_,h,_⟩:=hid w;cases h
    simp only[Deferred.mk.injEq,Target.collected.injEq,and_true] at h1
    subst h1
    rw[pJ (pQ _)] at h3
    cases h3
   ·rcases pU.1 hd with rfl|hd
    ·exact .inr ⟨w.heap.size,rfl,hX.size,World.alloc_heap_new w _⟩
    ·exact(hD.mono hI x0).2 d hd
  refine⟨w.heap.size+1,[{ target:=.collected w.heap.size,args:=#[] }],(w.alloc (.deferred (some []))).alloc (.loop r),{ target:=.fn (.func gf) cs,args:=#[.func (.yield (w.heap.size+1)) #[] #[]] },(w.alloc (.deferred (some []))).alloc (.loop r),gf,
   #[.func (.yield (w.heap.size+1)) #[] #[]]++cs,(w.alloc (.deferred (some []))).alloc (.loop r),?_,?_,fun _ _=>trivial,?_,fun h=>(by cases h),?_⟩
  ·rw[hrec];exact run_enterLoop_outer _ _ _ _ _
  ·simp only[resolve,hf]
   simp[go_sem]
  ·have g4:f0.body.isNone=false:=by cases hb:f0.body<;>simp[hb] at g2 ⊢
   simp only[invoke]
   unfold callFunc
   simp only[pP,run_program,pI,g1,g3,g4,pM,if_false,qH]
  ·refine(zed (ro:=none)).2 ?_
   have hq:=hc.2 I _ _ (#[Value.func (.yield (w.heap.size+1)) #[] #[]]++cs).toList i1 (by simp;omega) (fun(i:Nat) (u:AVal) (v:Value) hu hv=>by
    cases i with
    |zero=>
     simp only[Array.toList_append,List.cons_append,List.nil_append,pR,p0] at hu hv
     subst hu;subst hv
     exact Rep.fn (.yield (w.heap.size+1)) [] [] #[] #[] rfl rfl (fun i x v h=>by cases i<;>cases h) (fun i x v h=>by cases i<;>cases h)
    |succ i=>
     simp only[Array.toList_append,List.cons_append,List.nil_append,q7] at hu hv
     exact((k4 i u v hu (by rw[←qA];exact hv)).mono x0 hI).mono x1 i0)
   rw[Array.toArray_toList] at hq
   refine Calls.mono hq ?_
   rintro ee w3 ⟨rv,v,H',n',I',β',rfl,⟨k,e',hk⟩,hI',hr',hx'⟩
   rcases hk with⟨hk,hK⟩|⟨ex,code,hj,hk,hK⟩
   ·obtain⟨cl,hcl,h0,h1,h2,h3,h4⟩:=hI'.blocks k _ hk
    rw[h2] at h3
    have hend:=run_endLoop (P:=P) h3 (by rw[hR.st];simp)
    obtain⟨rx,hrx⟩:∃rx:Loop,rx={ r with state:=.exhausted }:=⟨_,rfl⟩
    rw[←hrx,hR.pe] at hend
    obtain⟨q1,q2,_⟩:=z38 (r':=rx) hI' hk (by rw[hrx])
    refine⟨none,_,hend,?_⟩
    have hsub:∀id blk,(H'.del k).get id=some blk→(H'.set k (.lrec (w.heap.size+1) rx e')).get id=some blk:=by
     intro id blk hid
     rw[AHeap.get_del] at hid
     rw[AHeap.get_set]
     split at hid
     ·cases hid
     ·rename_i hne;rw[if_neg hne];exact hid
    refine hQ .normal e' (H'.del k) n' I' β' _ _ hK (q1.sub hsub) (fun t=>?_) hN ?_ ((((((hX.trans x0).trans x1).trans hx').trans q2).sub hsub))
    ·have:=(h4 t).mono q2 hI'
     rw[htm] at this
     exact this
    ·exact(((hD1.mono i0 x1).mono i1 hx').mono hI' q2)
   ·obtain⟨cl,hcl,h0,h1,h2,h3,h4⟩:=hI'.blocks k _ hk
    rw[h2] at h3
    have hend:=run_endLoop (P:=P) h3 (by simp[ztj])
    obtain⟨rx,hrx⟩:∃rx:Loop,rx={ ztj r code with state:=.exhausted }:=⟨_,rfl⟩
    rw[←hrx,show(ztj r code).pending=some code from rfl] at hend
    obtain⟨q1,q2,_⟩:=z38 (r':=rx) hI' hk (by rw[hrx])
    refine⟨some code,_,hend,?_⟩
    have hsub:∀id blk,(H'.del k).get id=some blk→(H'.set k (.lrec (w.heap.size+1) rx e')).get id=some blk:=by
     intro id blk hid
     rw[AHeap.get_del] at hid
     rw[AHeap.get_set]
     split at hid
     ·cases hid
     ·rename_i hne;rw[if_neg hne];exact hid
    have fin:QQ ex { aa with defers:={ target:=.collected w.heap.size,args:=#[] }::aa.defers } _:=hQ ex e' (H'.del k) n' I' β' _ _ hK (q1.sub hsub) (fun t=>by
     have:=(h4 t).mono q2 hI'
     rw[show(ztj r code).tmps=aa.tmps from htm] at this
     exact this) hN (((hD1.mono i0 x1).mono i1 hx').mono hI' q2) ((((((hX.trans x0).trans x1).trans hx').trans q2).sub hsub))
    cases ex with
    |ret=>cases hj;exact wpIn_ret fin
    |exit id=>cases hj;exact wpIn_exit fin
    |_=>cases hj
 |skip=>simp[zw] at hc
 |region id ops draw=>simp only[zw] at hc;split at hc<;>(try split at hc)<;>(try split at hc)<;>(try split at hc)<;>(try split at hc)<;>(first|(simp at hc;done)|(rcases Zb hc with⟨_,h⟩|⟨_,_,_,h⟩<;>cases h))
 |seq a b=>simp only[zw] at hc;split at hc<;>simp at hc
 |cond c a b=>simp only[zw] at hc;split at hc<;>simp at hc
 |block id c=>simp[zw] at hc
 |loop c=>simp[zw] at hc
 |exit id=>simp[zw] at hc
 |ret=>simp[zw] at hc
 |_=>cases hc
end
end Go.Fx
namespace Go.Fx
inductive Tr(α:Type) where
 |nil
 |nd (v:Option α) (l r:Tr α)
namespace Tr
variable {α:Type}
def get:Tr α→Nat→Option α
 |.nil,_=>none
 |.nd v l r,k=>match pA k 0 with
  |true=>v
  |false=>match pA (k % 2) 1 with
   |true=>get l (k / 2)
   |false=>get r (k / 2-1)
def put:Nat→Tr α→Nat→Option α→Option (Tr α)
 |0,_,_,_=>none
 |d+1,.nil,k,x=>match pA k 0 with
  |true=>some (.nd x .nil .nil)
  |false=>match pA (k % 2) 1 with
   |true=>match put d .nil (k / 2) x with|some l=>some (.nd none l .nil)|none=>none
   |false=>match put d .nil (k / 2-1) x with|some r=>some (.nd none .nil r)|none=>none
 |d+1,.nd v l r,k,x=>match pA k 0 with
  |true=>some (.nd x l r)
  |false=>match pA (k % 2) 1 with
   |true=>match put d l (k / 2) x with|some l=>some (.nd v l r)|none=>none
   |false=>match put d r (k / 2-1) x with|some r=>some (.nd v l r)|none=>none
end Tr
def ikn:IntKind→Nat
 |.i8=>0|.i16=>1|.i32=>2|.i64=>3|.u8=>4|.u16=>5|.u32=>6|.u64=>7
def z61(a b:IntKind):Bool:=pA (ikn a) (ikn b)
def ck(p:Bool)(v:AVal):Option AVal:=match p with|true=>some v|false=>none
def ile(a b:Int):Bool:=decide (a≤b)
def ilt(a b:Int):Bool:=decide (a<b)
def y73(op:BinOp):AVal→AVal→Option AVal
 |.int k a,.int k' b=>match op with
  |.add=>ck (z61 k k') (.int k (k.wrap (a+b)))
  |.sub=>ck (z61 k k') (.int k (k.wrap (a-b)))
  |.mul=>ck (z61 k k') (.int k (k.wrap (a*b)))
  |.quo=>ck (z61 k k'&&!(decide (b=0))) (.int k (k.wrap (a.tdiv b)))
  |.rem=>ck (z61 k k'&&!(decide (b=0))) (.int k (a.tmod b))
  |.and=>ck (z61 k k') (.int k (Kk .and k a b))
  |.or=>ck (z61 k k') (.int k (Kk .or k a b))
  |.xor=>ck (z61 k k') (.int k (Kk .xor k a b))
  |.andNot=>ck (z61 k k') (.int k (Kk .andNot k a b))
  |.shl=>ck (ile 0 b) (.int k (k.wrap (a*2 ^ (min b.toNat k.bits))))
  |.shr=>ck (ile 0 b) (.int k (a.fdiv (2 ^ (min b.toNat k.bits))))
  |.eql=>ck (z61 k k') (.bool (a==b))
  |.neq=>ck (z61 k k') (.bool (a != b))
  |.lss=>ck (z61 k k') (.bool (decide (a<b)))
  |.leq=>ck (z61 k k') (.bool (decide (a≤b)))
  |.gtr=>ck (z61 k k') (.bool (decide (a > b)))
  |.geq=>ck (z61 k k') (.bool (decide (a≥b)))
 |.str a,.str b=>match op with
  |.add=>ck (ile ((a.length+b.length:Nat):Int) 9223372036854775807) (.str (a++b))
  |.eql=>some (.bool (a==b))
  |.neq=>some (.bool (!(a==b)))
  |.lss=>some (.bool (Op.bytesLess a b))
  |.leq=>some (.bool (Op.bytesLess a b || a==b))
  |.gtr=>some (.bool (!(Op.bytesLess a b || a==b)))
  |.geq=>some (.bool (!(Op.bytesLess a b)))
  |_=>none
 |_,_=>none
def bun(op:UnOp):AVal→Option AVal
 |.bool b=>match op with
  |.not=>some (.bool (!b))
  |_=>none
 |.int k n=>match op with
  |.neg=>some (.int k (k.wrap (0-n)))
  |.xor=>some (.int k (Kk .xor k (if k.signed then -1 else k.max) n))
  |_=>none
 |_=>none
def zxt:AVal→AVal→Option Bool
 |.val (.pointer none),.val (.pointer none)=>some true
 |.val (.pointer none),.ptr _ _ _=>some false
 |.ptr _ _ _,.val (.pointer none)=>some false
 |.val (.pointer none),.iptr _ _ _ _=>some false
 |.iptr _ _ _ _,.val (.pointer none)=>some false
 |_,_=>none
def y28:AVal→AVal→Option Bool
 |.val (.slice none 0 0),.val (.slice none 0 0)=>some true
 |.val (.slice none 0 0),.msl _ _ _ len _=>match pA len 0 with|true=>none|false=>some false
 |.msl _ _ _ len _,.val (.slice none 0 0)=>match pA len 0 with|true=>none|false=>some false
 |.val (.slice none 0 0),.isl _ es _=>match es with|[]=>none|_::_=>some false
 |.isl _ es _,.val (.slice none 0 0)=>match es with|[]=>none|_::_=>some false
 |_,_=>none
def zxl:AVal→AVal→Option Bool
 |.val (.map none),.val (.map none)=>some true
 |.val (.map none),.map _=>some false
 |.map _,.val (.map none)=>some false
 |_,_=>none
def ze6:CK→AVal→AVal→Option Bool
 |.int,.int k a,.int k' b=>match z61 k k' with|true=>some (a==b)|false=>none
 |.str,.str a,.str b=>some (a==b)
 |.bool,.bool a,.bool b=>some (a==b)
 |_,_,_=>none
def Q7:List CK→List AVal→List AVal→Option Bool
 |[],[],[]=>some true
 |k::ks,x::xs,y::ys=>match ze6 k x y with
  |some a=>match Q7 ks xs ys with
   |some b=>some (a&&b)
   |none=>none
  |none=>none
 |_,_,_=>none
def zt1:AVal→AVal→Option Bool
 |.val .nilIface,.val .nilIface=>some true
 |.ifc _ _,.val .nilIface=>some false
 |_,_=>none
def zo9:AVal→AVal→Option Bool
 |.val .nilFunc,.val .nilFunc=>some true
 |.fn _ _ _,.val .nilFunc=>some false
 |_,_=>none
def y6a(k:EqK)(x y:AVal):Option Bool:=
 match k with
 |.bool=>match x,y with
  |.bool a,.bool b=>some (a==b)
  |_,_=>none
 |.ptr=>zxt x y
 |.slice=>y28 x.rd y.rd
 |.map=>zxl x y
 |.agg ks=>match x,y with
  |.agg cs,.agg ds=>Q7 ks cs ds
  |_,_=>none
 |.ifc=>zt1 x y
 |.fnc=>zo9 x y
 |_=>none
def y6n(neg:Bool)(k:EqK)(x y:AVal):Option AVal:=match y6a k x y with
 |some b=>some (.bool (if neg then !b else b))
 |none=>none
abbrev Hp:=Id→Option ABlock
def z4k(agg:Bool)(n:Nat)(h:Hp):AVal→Option AVal
 |.iptr s es i off=>ck (pE (i+1) es.length&&pE (off+n) s) (j4 agg n off (es.getD i []))
 |.ptr b i off=>match h b with
  |some (.rows s es)=>ck (pE (i+1) es.length&&pE (off+n) s) (j4 agg n off (es.getD i []))
  |some (.one cs)=>ck (pA i 0&&pE (off+n) cs.length) (j4 agg n off cs)
  |_=>none
 |_=>none
def zok(off:Nat):AVal→Option AVal
 |.iptr s es i o=>some (.iptr s es i (o+off))
 |.ptr b i o=>some (.ptr b i (o+off))
 |_=>none
def zp4(agg:Bool)(n off:Nat):AVal→Option AVal
 |.agg cs=>ck (pE (off+n) cs.length) (j4 agg n off cs)
 |_=>none
def zgl(s:Nat):AVal→AVal→Option AVal
 |.isl s' es _,.int _ j=>ck (pA s s'&&ile 0 j&&ilt j (es.length:Int)) (.iptr s' es j.toNat 0)
 |.msl b s' off len _,.int _ j=>ck (pA s s'&&ile 0 j&&ilt j (len:Int)) (.ptr b (off+j.toNat) 0)
 |_,_=>none
def zcs(len s:Nat):AVal→AVal→Option AVal
 |.iptr s' es i o,.int _ j=>ck (ile 0 j&&ilt j (len:Int)) (.iptr s' es i (o+j.toNat * s))
 |.ptr b i o,.int _ j=>ck (ile 0 j&&ilt j (len:Int)) (.ptr b i (o+j.toNat * s))
 |_,_=>none
def z0b(len s:Nat)(h:Hp):AVal→AVal→Option AVal
 |.ptr b i 0,.int _ j=>match h b with
  |some (.rows s' _)=>ck (pA s s'&&ile 0 j&&ilt j (len:Int)) (.ptr b (i+j.toNat) 0)
  |_=>none
 |_,_=>none
def zke(len s:Nat)(h:Hp):AVal→Option AVal
 |.ptr b i 0=>match h b with
  |some (.rows s' es)=>ck (pA s s'&&pE (i+len) es.length) (.msl b s i len true)
  |_=>none
 |_=>none
def y1g:AVal→AVal→Option AVal
 |.str l,.int _ j=>ck (ile 0 j&&ilt j (l.length:Int)) (.int .u8 ((l.getD j.toNat 0).toNat:Int))
 |_,_=>none
def y2c(len s:Nat)(agg:Bool):AVal→AVal→Option AVal
 |.agg cs,.int _ j=>ck (ile 0 j&&ilt j (len:Int)&&pE ((j.toNat * s)+s) cs.length) (j4 agg s (j.toNat * s) cs)
 |_,_=>none
def y6v(k:Nat):AVal→Option AVal
 |.tup cs=>ck (pE (k+1) cs.length) (cs.getD k .any)
 |_=>none
def y0a:AVal→Option AVal
 |.str l=>some (.int .i64 (l.length:Int))
 |_=>none
def zty:AVal→Option AVal
 |.isl _ es _=>some (.int .i64 (es.length:Int))
 |.msl _ _ _ len _=>some (.int .i64 (len:Int))
 |.val (.slice none 0 0)=>some (.int .i64 0)
 |_=>none
def zlw:AVal→Option AVal
 |.iptr s es i o=>some (.iptr s es i o)
 |.ptr b i o=>some (.ptr b i o)
 |.fn (.func f) a c=>some (.fn (.func f) a c)
 |_=>none
def Zu(g:Nat→AVal):LOpd→Option AVal
 |.t i=>match g i with
  |.cnd true v=>some v
  |.cnd false _=>none
  |v=>some v
 |.c v=>some v
def z6k(g:Nat→AVal):List LOpd→Option (List AVal)
 |[]=>some []
 |x::r=>match Zu g x with
  |some a=>match z6k g r with
   |some l=>some (a::l)
   |none=>none
  |none=>none
def Je(g:Nat→AVal)(d:Nat):Option LOpd→Option Int
 |none=>some d
 |some x=>match Zu g x with
  |some (.int _ j)=>some j
  |_=>none
def zox(g:Nat→AVal)(lo hi:Option LOpd):AVal→Option AVal
 |.str l=>match Je g 0 lo,Je g l.length hi with
  |some a,some b=>ck (ile 0 a&&ile a b&&ile b (l.length:Int)) (.str ((l.take b.toNat).drop a.toNat))
  |_,_=>none
 |_=>none
def zyz(g:Nat→AVal)(s:Nat)(lo hi mx:Option LOpd):AVal→Option AVal
 |.isl s' es f=>match Je g 0 lo,Je g es.length hi with
  |some a,some b=>match mx with
   |none=>ck (pA s s'&&ile 0 a&&ile a b&&ile b (es.length:Int)) (.isl s' ((es.take b.toNat).drop a.toNat) (f&&decide (b=(es.length:Int))))
   |some m=>match Je g 0 (some m) with
    |some m=>ck (pA s s'&&ile 0 a&&ile a b&&ile b m&&ile m (es.length:Int)) (.isl s' ((es.take b.toNat).drop a.toNat) (decide (m=b)))
    |none=>none
  |_,_=>none
 |.msl id s' off len f=>match Je g 0 lo,Je g len hi with
  |some a,some b=>match mx with
   |none=>ck (pA s s'&&ile 0 a&&ile a b&&ile b (len:Int)) (.msl id s' (off+a.toNat) (b.toNat-a.toNat) (f&&decide (b=(len:Int))))
   |some m=>match Je g 0 (some m) with
    |some m=>ck (pA s s'&&ile 0 a&&ile a b&&ile b m&&ile m (len:Int)) (.msl id s' (off+a.toNat) (b.toNat-a.toNat) (decide (m=b)))
    |none=>none
  |_,_=>none
 |.val (.slice none 0 0)=>match Je g 0 lo,Je g 0 hi,mx with
  |some a,some b,none=>ck (decide (a=0)&&decide (b=0)) (.val (.slice none 0 0))
  |_,_,_=>none
 |_=>none
def z9u(cells:List AVal):List (Nat×Nat×AVal)→Option AVal
 |[]=>some (.agg cells)
 |(off,n,x)::r=>match x.cells? with
  |some cs=>match pA cs.length n&&pE (off+n) cells.length with
   |true=>z9u (uh cells off cs) r
   |false=>none
  |none=>none
def zb3(g:Nat→AVal):List (Nat×Nat×LOpd)→Option (List (Nat×Nat×AVal))
 |[]=>some []
 |(o,n,x)::r=>match Zu g x with
  |some a=>match zb3 g r with
   |some l=>some ((o,n,a)::l)
   |none=>none
  |none=>none
def y17(isMax:Bool):AVal→List AVal→Option AVal
 |v,[]=>some v
 |.int k a,.int k' b::r=>match z61 k k' with
  |true=>y17 isMax (.int k (if isMax then(if b > a then b else a) else(if b<a then b else a))) r
  |false=>none
 |_,_=>none
def y1n(isMax:Bool):List AVal→Option AVal
 |.int k a::r=>y17 isMax (.int k a) r
 |_=>none
def z56(ks:List CK)(ka:Bool)(k:AVal):Bool:=(match ka,Zt k with|true,true=>true|false,false=>true|_,_=>false)&&(Q7 ks (jj k) (jj k)).isSome
def zc0(ks:List CK)(k k':AVal):Option Bool:=match Zt k,Zt k' with
 |true,true=>Q7 ks (jj k) (jj k')
 |false,false=>Q7 ks (jj k) (jj k')
 |_,_=>none
def zi0(ks:List CK)(k:AVal):List (AVal×AVal)→Option (Option AVal)
 |[]=>some none
 |(k',x)::r=>match zc0 ks k k' with
  |some true=>some (some x)
  |some false=>zi0 ks k r
  |none=>none
def zvl(ks:List CK)(k x:AVal):List (AVal×AVal)→Option (List (AVal×AVal))
 |[]=>some [(k,x)]
 |(k',y)::r=>match zc0 ks k k' with
  |some true=>some ((k,x)::r)
  |some false=>match zvl ks k x r with|some l=>some ((k',y)::l)|none=>none
  |none=>none
def zfq(ks:List CK)(k:AVal):List (AVal×AVal)→Option (List (AVal×AVal))
 |[]=>some []
 |(k',y)::r=>match zc0 ks k k' with
  |some true=>some r
  |some false=>match zfq ks k r with|some l=>some ((k',y)::l)|none=>none
  |none=>none
def z62(ks:List CK)(ka g ok:Bool)(zs:List AVal)(h:Hp)(k:AVal):AVal→Option AVal
 |.val (.map none)=>ck (z56 ks ka k) (ztg g ok zs none)
 |.map b=>match h b with
  |some (.amap es)=>match z56 ks ka k with
   |true=>match zi0 ks k es with
    |some r=>some (ztg g ok zs r)
    |none=>none
   |false=>none
  |_=>none
 |_=>none
def zji(h:Hp):AVal→Option AVal
 |.val (.map none)=>some (.int .i64 0)
 |.map b=>match h b with
  |some (.amap es)=>some (.int .i64 (es.length:Int))
  |_=>none
 |_=>none
def zdb(g:Nat→AVal)(h:Hp):LOp→Option AVal
 |.mv x=>Zu g x
 |.pick c a b=>match Zu g c with
  |some (.bool true)=>Zu g a
  |some (.bool false)=>Zu g b
  |_=>none
 |.build zs parts=>(zb3 g parts).bind (z9u zs)
 |.load ag n a=>(Zu g a).bind (z4k ag n h)
 |.nilck x=>(Zu g x).bind zlw
 |.bin op x y=>(Zu g x).bind fun a=>(Zu g y).bind fun b=>y73 op a b
 |.eq neg k x y=>(Zu g x).bind fun a=>(Zu g y).bind fun b=>y6n neg k a b
 |.un op x=>(Zu g x).bind (bun op)
 |.conv (.int k) x=>match Zu g x with
  |some (.int _ n)=>some (.int k (k.wrap n))
  |_=>none
 |.conv .same x=>match Zu g x with
  |some (.str l)=>some (.str l)
  |_=>none
 |.mkfn f a c=>(z6k g a).bind fun a=>(z6k g c).bind fun c=>some (.fn f a c)
 |.slStr x lo hi=>(Zu g x).bind (zox g lo hi)
 |.slSl s x lo hi mx=>(Zu g x).bind (zyz g s lo hi mx)
 |.slAr n s x=>(Zu g x).bind (zke n s h)
 |.faddr off x=>(Zu g x).bind (zok off)
 |.field ag n off x=>(Zu g x).bind (zp4 ag n off)
 |.iaddr s x i=>(Zu g x).bind fun a=>(Zu g i).bind fun b=>zgl s a.rd b
 |.iaddrA n s x i=>(Zu g x).bind fun a=>(Zu g i).bind fun b=>zcs n s a b
 |.iaddrR n s x i=>(Zu g x).bind fun a=>(Zu g i).bind fun b=>z0b n s h a b
 |.idxS x i=>(Zu g x).bind fun a=>(Zu g i).bind fun b=>y1g a b
 |.idxA n s ag x i=>(Zu g x).bind fun a=>(Zu g i).bind fun b=>y2c n s ag a b
 |.ext k x=>(Zu g x).bind (y6v k)
 |.len true x=>(Zu g x).bind y0a
 |.len false x=>(Zu g x).bind fun a=>zty a.rd
 |.mnx m args=>(z6k g args).bind (y1n m)
 |.mlook ks ka ag ok zs x k=>(Zu g x).bind fun a=>(Zu g k).bind fun b=>z62 ks ka ag ok zs h b a
 |.mlen x=>(Zu g x).bind (zji h)
 |_=>none
structure Sh where
 t:Tr ABlock
 n:Nat
def hix(id:Id):Option Nat:=match id.2 with
 |0=>some (2*id.1)
 |1=>some (2*id.1+1)
 |_=>none
def Tr.at(t:Tr ABlock):Hp:=fun id=>match hix id with
 |some k=>t.get k
 |none=>none
def Tr.sat(t:Tr ABlock)(id:Id)(b:Option ABlock):Option (Tr ABlock):=match hix id with
 |some k=>Tr.put 60 t k b
 |none=>none
def Sh.upd(S:Sh)(id:Id)(b:ABlock):Option Sh:=match S.t.sat id (some b) with
 |some t=>some ⟨t,S.n⟩
 |none=>none
def Sh.cut(S:Sh)(id:Id):Option Sh:=match S.t.sat id none with
 |some t=>some ⟨t,S.n⟩
 |none=>none
def Sh.new(S:Sh)(b:ABlock):Option Sh:=match S.t.sat (S.n,0) (some b) with
 |some t=>some ⟨t,S.n+1⟩
 |none=>none
def Sh.new2(S:Sh)(b c:ABlock):Option Sh:=match S.t.sat (S.n,0) (some b) with
 |some t=>match t.sat (S.n,1) (some c) with
  |some t=>some ⟨t,S.n+1⟩
  |none=>none
 |none=>none
abbrev Rs:=Option (AVal×Sh)
def Xw(v:AVal):Option Sh→Rs
 |some S=>some (v,S)
 |none=>none
def We(h:Hp)(s:Nat):AVal→Option (List (List AVal))
 |.isl s' es _=>match pA s' s with|true=>some es|false=>none
 |.osl _ s' es=>match pA s' s with|true=>some es|false=>none
 |.msl b s' off len _=>match h b with
  |some (.rows s'' es)=>match pA s' s&&pA s'' s&&pE (off+len) es.length with
   |true=>some ((es.drop off).take len)
   |false=>none
  |_=>none
 |.val (.slice none 0 0)=>some []
 |.str l=>match pA s 1 with
  |true=>some (l.map fun c=>[.int .u8 (c.toNat:Int)])
  |false=>none
 |_=>none
def z04:List (List AVal)→List (Nat×AVal)→Option (List (List AVal))
 |rows,[]=>some rows
 |rows,(i,x)::r=>match x.cells? with
  |some cs=>match pA cs.length ((rows.getD i []).length)&&pE (i+1) rows.length with
   |true=>z04 (rows.set i cs) r
   |false=>none
  |none=>none
def y2k(g:Nat→AVal):List (Nat×LOpd)→Option (List (Nat×AVal))
 |[]=>some []
 |(i,x)::r=>match Zu g x with
  |some a=>match y2k g r with
   |some l=>some ((i,a)::l)
   |none=>none
  |none=>none
def z6t:List (List AVal)→Bool
 |[]=>true
 |[.int k _]::r=>z61 k .u8&&z6t r
 |_=>false
def y6x(s bytes:Nat)(S:Sh)(x:AVal)(rows2:List (List AVal)):Rs:=
 match x with
 |.val (.slice none 0 0)=>match rows2 with
  |[]=>some (.val (.slice none 0 0),S)
  |_=>match pE (rows2.length*bytes) 140737488355328 with
   |true=>Xw (.msl (S.n,0) s 0 rows2.length false) (S.new (.rows s rows2))
   |false=>none
 |.isl s' es f=>match pA s' s with
  |true=>match rows2 with
   |[]=>some (.isl s' es f,S)
   |_=>match f&&pE ((es.length+rows2.length)*bytes) 140737488355328 with
    |true=>Xw (.msl (S.n,0) s 0 (es.length+rows2.length) false) (S.new (.rows s (es++rows2)))
    |false=>none
  |false=>none
 |.msl b s' off len f=>match S.t.at b with
  |some (.rows s'' es)=>match pA s' s&&pA s'' s&&pE (off+len) es.length&&pE ((len+rows2.length)*bytes) 140737488355328 with
   |true=>match f,rows2 with
    |true,[]=>some (.msl b s' off len f,S)
    |true,_=>Xw (.msl (S.n,0) s 0 (len+rows2.length) false) (S.new (.rows s ((es.drop off).take len++rows2)))
    |false,_=>match S.cut b with
     |some S=>Xw (.msl (S.n,0) s 0 (len+rows2.length) false) (S.new (.rows s ((es.drop off).take len++rows2)))
     |none=>none
   |false=>none
  |_=>none
 |_=>none
def y68(C:Nat→List AVal→Sh→Rs)(g:Nat→AVal)(S:Sh):LOp→Rs
 |.alloc zs=>Xw (.ptr (S.n,0) 0 0) (S.new (.one zs))
 |.allocR s zs=>Xw (.ptr (S.n,0) 0 0) (S.new (.rows s (V1 s (zs.length / s) zs)))
 |.allocB T el=>Xw (.ptr (S.n,0) 0 0) (S.new2 (.bld T (S.n,1)) (.buf el []))
 |.box x=>match Zu g x with
  |some a=>match a.cells? with
   |some cs=>Xw (.ptr (S.n,0) 0 0) (S.new (.one cs))
   |none=>none
  |none=>none
 |.mkSl false s zs len parts=>match y2k g parts with
  |some ps=>match z04 (qF len zs) ps with
   |some rows=>match pA zs.length s with
    |true=>Xw (.msl (S.n,0) s 0 len true) (S.new (.rows s rows))
    |false=>none
   |none=>none
  |none=>none
 |.mkSl true s zs len parts=>match y2k g parts with
  |some ps=>match z04 (qF len zs) ps with
   |some rows=>match Zd rows with
    |some rows'=>match pA zs.length s with
     |true=>some (.isl s (rows'.map (kn zs)) true,S)
     |false=>none
    |none=>none
   |none=>none
  |none=>none
 |.store m a x=>match Zu g a with
  |some (.ptr b i off)=>match Zu g x with
   |some y=>match y.cells? with
    |some cs=>match S.t.at b with
     |some (.rows s es)=>match pA cs.length m&&pE (i+1) es.length&&pE (off+m) s with
      |true=>Xw .any (S.upd b (.rows s (es.set i (uh (es.getD i []) off cs))))
      |false=>none
     |some (.one rs)=>match pA cs.length m&&pA i 0&&pE (off+m) rs.length with
      |true=>Xw .any (S.upd b (.one (uh rs off cs)))
      |false=>none
     |_=>none
    |none=>none
   |none=>none
  |_=>none
 |.conv (.s2b false) x=>match Zu g x with
  |some (.str l)=>Xw (.msl (S.n,0) 1 0 l.length false) (S.new (.rows 1 (l.map fun c=>[.int .u8 (c.toNat:Int)])))
  |_=>none
 |.conv .b2s x=>match Zu g x with
  |some (.str _)=>none
  |some a=>match We S.t.at 1 a with
   |some rows=>match z6t rows with
    |true=>some (.str (rows.map z06),S)
    |false=>none
   |none=>none
  |none=>none
 |.mkslice false s bytes zs l c=>match Zu g l,Zu g c with
  |some (.int .i64 l'),some (.int .i64 c')=>match ile 0 l'&&ile l' c'&&ile (c'*bytes) 140737488355328 with
   |true=>Xw (.msl (S.n,0) s 0 l'.toNat (decide (c'=l'))) (S.new (.rows s (qF l'.toNat (kn zs zs))))
   |false=>none
  |_,_=>none
 |.call f args=>match z6k g args with
  |some aq=>C f aq S
  |none=>none
 |.callv x args=>match Zu g x with
  |some (.fn (.func f) first caps)=>match z6k g args with
   |some aq=>C f (first++aq++caps) S
   |none=>none
  |_=>none
 |.app false s bytes x y=>match Zu g y with
  |some b=>match We S.t.at s b with
   |some rows2=>match Zu g x with
    |some a=>y6x s bytes S a rows2
    |none=>none
   |none=>none
  |none=>none
 |.copy s x y=>match Zu g x with
  |some (.msl b s' off len _)=>match Zu g y with
   |some y=>match We S.t.at s y with
    |some rows2=>match S.t.at b with
     |some (.rows s'' es)=>match pA s' s&&pA s'' s&&pE (off+len) es.length with
      |true=>Xw (.int .i64 ((min rows2.length len:Nat):Int)) (S.upd b (.rows s (es.take off++rows2.take len++es.drop (off+min rows2.length len))))
      |false=>none
     |_=>none
    |none=>none
   |none=>none
  |_=>none
 |.mkmap none=>Xw (.map (S.n,0)) (S.new (.amap []))
 |.mset ks ka ag zs m k x=>match Zu g m with
  |some (.map b)=>match Zu g x with
   |some x=>match y2j ag zs x with
    |some y=>match S.t.at b with
     |some (.amap es)=>match Zu g k with
      |some k=>match zvl ks k y es with
       |some es'=>match z56 ks ka k with
        |true=>Xw .any (S.upd b (.amap es'))
        |false=>none
       |none=>none
      |none=>none
     |_=>none
    |none=>none
   |none=>none
  |_=>none
 |.mdel ks ka m k=>match Zu g m with
  |some (.map b)=>match S.t.at b with
   |some (.amap es)=>match Zu g k with
    |some k=>match zfq ks k es with
     |some es'=>match z56 ks ka k with
      |true=>Xw .any (S.upd b (.amap es'))
      |false=>none
     |none=>none
    |none=>none
   |_=>none
  |_=>none
 |_=>none
-- equality of values, where it is seen at once
mutual
def y2m:AVal→AVal→Bool
 |.bool a,.bool b=>a==b
 |.int k a,.int k' b=>z61 k k'&&decide (a=b)
 |.str a,.str b=>a==b
 |.ptr b i o,.ptr b' i' o'=>pA b.1 b'.1&&pA b.2 b'.2&&pA i i'&&pA o o'
 |.msl b s o l f,.msl b' s' o' l' f'=>pA b.1 b'.1&&pA b.2 b'.2&&pA s s'&&pA o o'&&pA l l'&&(f==f')
 |.map b,.map b'=>pA b.1 b'.1&&pA b.2 b'.2
 |.agg cs,.agg ds=>zns cs ds
 |.tup cs,.tup ds=>zns cs ds
 |.val (.pointer none),.val (.pointer none)=>true
 |.val (.slice none 0 0),.val (.slice none 0 0)=>true
 |.val (.map none),.val (.map none)=>true
 |.val (.nilIface),.val (.nilIface)=>true
 |.cnd p x,.cnd p' y=>(p==p')&&y2m x y
 |.isl s [] f,.isl s' [] f'=>pA s s'&&(f==f')
 |_,_=>false
def zns:List AVal→List AVal→Bool
 |[],[]=>true
 |x::xs,y::ys=>y2m x y&&zns xs ys
 |_,_=>false
end
def z94(a:AVal)(want:Bool):Option Bool:=Y4 a want
abbrev Ev:=Tr AVal
def Ev.g(e:Ev)(t:Nat):AVal:=match Tr.get e t with|some v=>v|none=>.any
def Ev.p(e:Ev)(d:Option Nat)(v:AVal):Option Ev:=match d with
 |some d=>Tr.put 60 e d (some v)
 |none=>some e
def Vq(g:Nat→AVal)(h:Hp)(lo:LOper):Option AVal:=
 match lo.guard with
 |none=>zdb g h lo.op
 |some (q,want)=>match z94 (g q) want with
  |some true=>match zdb g h lo.op with
   |some v=>some (.cnd true v)
   |none=>none
  |some false=>some (.tup [])
  |none=>none
def ztm(C:Nat→List AVal→Sh→Rs)(g:Nat→AVal)(S:Sh)(lo:LOper):Rs:=
 match lo.guard with
 |none=>y68 C g S lo.op
 |some (q,want)=>match z94 (g q) want with
  |some true=>y68 C g S lo.op
  |some false=>some (.tup [],S)
  |none=>none
abbrev Es:=Option (Ev×Sh)
def zyg(C:Nat→List AVal→Sh→Rs):List LOper→Ev→Sh→Es
 |[],e,S=>some (e,S)
 |lo::os,e,S=>match kv lo.op with
  |true=>match Vq e.g S.t.at lo with
   |some v=>match e.p lo.dst v with
    |some e=>zyg C os e S
    |none=>none
   |none=>none
  |false=>match ztm C e.g S lo with
   |some (v,S)=>match e.p lo.dst v with
    |some e=>zyg C os e S
    |none=>none
   |none=>none
def LOper.bsees(lo:LOper)(e:Ev):Env:=lo.looks.map fun t=>(t,e.g t)
def z3h(h:Hp)(loose:List Nat):List (Nat×LOper×Env×AVal)→Bool
 |[]=>true
 |(p,lo,e,v)::r=>(match loose.contains p with
  |true=>match Vq e.get h lo with
   |some u=>y2m u v
   |none=>false
  |false=>true)&&z3h h loose r
def zez(C:Nat→List AVal→Sh→Rs):List DItem→Nat→List (Nat×LOper×Env×AVal)→Ev→Sh→Es
 |[],_,_,e,S=>some (e,S)
 |it::rest,p,done,e,S=>match kv it.lo.op with
  |true=>match Vq (it.lo.bsees e).get S.t.at it.lo with
   |some v=>match e.p it.lo.dst v with
    |some e'=>zez C rest (p+1) (if Yj it.lo.op then(p,it.lo,it.lo.bsees e,v)::done else done) e' S
    |none=>none
   |none=>none
  |false=>match ztm C (it.lo.bsees e).get S it.lo with
   |some (v,S)=>match z3h S.t.at it.loose done with
    |true=>match e.p it.lo.dst v with
     |some e=>zez C rest (p+1) done e S
     |none=>none
    |false=>none
   |none=>none
abbrev Cs:=Option (Exit×Ev×Sh)
def y4t:Es→Cs
 |some (e,S)=>some (.normal,e,S)
 |none=>none
def zwq:Option AVal→Option AVal→Bool
 |some (.ptr b _ _),some (.ptr c _ _)=>!(pA b.1 c.1&&pA b.2 c.2)
 |_,_=>false
def y3z:List Nat→List AVal→Ev→Option Ev
 |[],[],e=>some e
 |p::ps,x::xs,e=>match e.p (some p) x with
  |some e=>y3z ps xs e
  |none=>none
 |_,_,_=>none
def z8l:AVal→Bool
 |.cnd _ _=>false
 |_=>true
def y5u(A R:Ev→Sh→Cs)(ps:List Nat)(ag:Bool)(s:Nat)(bx:Id)(e:Ev):Nat→Sh→Cs
 |0,S=>some (.normal,e,S)
 |i+1,S=>match z4k false 1 S.t.at (.ptr bx 0 0) with
  |some sl=>match zgl s sl.rd (.int .i64 (i:Int)) with
   |some p=>match z4k ag s S.t.at p with
    |some el=>match z8l sl&&z8l p&&z8l el&&pE i 4611686018427387903 with
     |true=>match y3z ps [.int .i64 (i:Int),el] e with
      |some e1=>match A e1 S with
       |some (.normal,e2,S2)=>match R e2 S2 with
        |some (.normal,_,S3)=>y5u A R ps ag s bx e i S3
        |some (.ret,_,S3)=>some (.ret,e,S3)
        |some (.exit id,_,S3)=>some (.exit id,e,S3)
        |_=>none
       |_=>none
      |none=>none
     |false=>none
    |none=>none
   |none=>none
  |none=>none
def Q6(C:Nat→List AVal→Sh→Rs)(L:LCode→Ev→Sh→Cs)(B:Nat→Option (Bool×Nat)):LCode→Ev→Sh→Cs
 |.skip,e,S=>some (.normal,e,S)
 |.region ops,e,S=>y4t (zyg C ops e S)
 |.quiet ops,e,S=>match ops.all (fun lo=>kv lo.op) with
  |true=>y4t (zyg C ops e S)
  |false=>none
 |.draw items,e,S=>y4t (zez C items 0 [] e S)
 |.draw2 a b items,e,S=>match zez C items 0 [] e S with
  |some (e,S)=>match zwq (Zu e.g a) (Zu e.g b) with
   |true=>some (.normal,e,S)
   |false=>none
  |none=>none
 |.seq a b,e,S=>match Q6 C L B a e S with
  |some (.normal,e,S)=>Q6 C L B b e S
  |x=>x
 |.cond c a b,e,S=>match Zu e.g c with
  |some (.bool true)=>Q6 C L B a e S
  |some (.bool false)=>Q6 C L B b e S
  |_=>none
 |.block id c,e,S=>match Q6 C L B c e S with
  |some (.exit i,e,S)=>match pA i id with
   |true=>some (.normal,e,S)
   |false=>some (.exit i,e,S)
  |x=>x
 |.loop c,e,S=>L c e S
 |.rng g ps a b,e,S=>match Zu e.g g with
  |some (.fn (.func gf) [] [.ptr bx 0 0])=>match B gf with
   |some (ag,s)=>match z4k false 1 S.t.at (.ptr bx 0 0) with
    |some sl=>match zty sl.rd with
     |some (.int .i64 z)=>match z8l sl&&ile 0 z&&ile z 4611686018427387904,S.t.at (S.n,0) with
      |true,none=>y5u (Q6 C L B a) (Q6 C L B b) ps ag s bx e z.toNat ⟨S.t,S.n+1⟩
      |_,_=>none
     |_=>none
    |none=>none
   |none=>none
  |_=>none
 |.dfr _ t,e,S=>match e.p (some t) .any with|some e=>some (.normal,e,S)|none=>none
 |.exit id,e,S=>some (.exit id,e,S)
 |.ret,e,S=>some (.ret,e,S)
def zd5:Nat→List AVal→Ev→Option Ev
 |_,[],e=>some e
 |k,x::r,e=>match e.p (some k) x with
  |some e=>zd5 (k+1) r e
  |none=>none
def zz4(e:Ev)(h:Hp):LRes→Option AVal
 |.t i=>Zu e.g (.t i)
 |.cell i ag n=>match Zu e.g (.t i) with
  |some a=>z4k ag n h a
  |none=>none
def zkf(e:Ev)(h:Hp):List LRes→Option (List AVal)
 |[]=>some []
 |r::rs=>match zz4 e h r with
  |some v=>match zkf e h rs with
   |some l=>some (v::l)
   |none=>none
  |none=>none
def y62(res:List LRes):Cs→Rs
 |some (.normal,e,S)=>match zkf e S.t.at res with|some l=>some (zaj l,S)|none=>none
 |some (.ret,e,S)=>match zkf e S.t.at res with|some l=>some (zaj l,S)|none=>none
 |_=>none
def ev(F:Nat→Option LFn)(X:Nat→List AVal→Sh→Option Rs)(B:Nat→Option (Bool×Nat)):Nat→(Nat→List AVal→Sh→Rs)×(LCode→Ev→Sh→Cs)
 |0=>(fun _ _ _=>none,fun _ _ _=>none)
 |m+1=>(fun f args S=>match X f args S with
  |some r=>r
  |none=>match F f with
   |some fn=>match pE args.length fn.lay.n with
    |true=>match zd5 0 args .nil with
     |some e=>y62 fn.res (Q6 (ev F X B m).1 (ev F X B m).2 B fn.body e S)
     |none=>none
    |false=>none
   |none=>none,
  fun c e S=>match Q6 (ev F X B m).1 (ev F X B m).2 B c e S with
   |some (.normal,e,S)=>(ev F X B m).2 c e S
   |x=>x)
end Go.Fx
namespace Go.Fx
namespace Tr
variable {α:Type}
theorem z2a(v:Option α)(l r:Tr α)(j:Nat):(Tr.nd v l r).get j=if j=0 then v else if j % 2=1 then l.get (j / 2) else r.get (j / 2-1):=by
 show(match pA j 0 with
  |true=>v
  |false=>match pA (j % 2) 1 with
   |true=>get l (j / 2)
   |false=>get r (j / 2-1))=_
 by_cases h:j=0
 ·subst h;rfl
 ·rw[if_neg h]
  have h0:pA j 0=false:=Bool.eq_false_iff.2 fun h'=>h (pB h')
  rw[h0]
  simp only
  by_cases h1:j % 2=1
  ·rw[if_pos h1,h1]
  ·rw[if_neg h1]
   have:j % 2=0:=by omega
   rw[this]
theorem put_get:∀ (d:Nat) (t:Tr α) (k:Nat) (x:Option α) (t':Tr α),put d t k x=some t'→∀j,t'.get j=if j=k then x else t.get j
 |0,_,_,_,_,h=>by simp[put] at h
 |d+1,t,k,x,t',h=>by
  have key:∀ (v:Option α) (l r:Tr α),(match pA k 0 with
   |true=>some (Tr.nd x l r)
   |false=>match pA (k % 2) 1 with
    |true=>match put d l (k / 2) x with|some l=>some (.nd v l r)|none=>none
    |false=>match put d r (k / 2-1) x with|some r=>some (.nd v l r)|none=>none)=some t'→∀j,t'.get j=if j=k then x else(Tr.nd v l r).get j:=by
   intro v l r h j
   split at h
   ·rename_i hk
    have hk:=pB hk
    simp only[p0] at h
    subst h hk
    rw[z2a,z2a]
    by_cases hj:j=0
    ·rw[if_pos hj,if_pos hj]
    ·rw[if_neg hj,if_neg hj,if_neg hj]
   ·rename_i hk
    have hk:=pW hk
    split at h
    ·rename_i hk1
     have hk1:=pB hk1
     split at h<;>simp only[p0,reduceCtorEq] at h
     rename_i l' hl
     subst h
     have ih:=put_get d l (k / 2) x l' hl
     rw[z2a,z2a,ih]
     by_cases hj:j=k
     ·subst hj;rw[if_neg hk,if_pos hk1,if_pos rfl,if_pos rfl]
     ·rw[if_neg hj]
      by_cases h0:j=0
      ·rw[if_pos h0,if_pos h0]
      ·rw[if_neg h0,if_neg h0]
       by_cases h1:j % 2=1
       ·rw[if_pos h1,if_pos h1,if_neg (by omega)]
       ·rw[if_neg h1,if_neg h1]
    ·rename_i hk1
     have hk1:=pW hk1
     split at h<;>simp only[p0,reduceCtorEq] at h
     rename_i r' hr
     subst h
     have ih:=put_get d r (k / 2-1) x r' hr
     rw[z2a,z2a,ih]
     by_cases hj:j=k
     ·subst hj;rw[if_neg hk,if_neg hk1,if_pos rfl,if_pos rfl]
     ·rw[if_neg hj]
      by_cases h0:j=0
      ·rw[if_pos h0,if_pos h0]
      ·rw[if_neg h0,if_neg h0]
       by_cases h1:j % 2=1
       ·rw[if_pos h1,if_pos h1]
       ·rw[if_neg h1,if_neg h1,if_neg (by omega)]
  cases t with
  |nil=>
   intro j
   have hn:(Tr.nil:Tr α).get j=(Tr.nd none .nil .nil).get j:=by rw[z2a];simp[get]
   rw[hn]
   exact key none .nil .nil (by unfold put at h;exact h) j
  |nd v l r=>exact key v l r (by unfold put at h;exact h)
end Tr
theorem zz3{i j:Id}{k:Nat}(hi:hix i=some k)(hj:hix j=some k):i=j:=by
 obtain⟨a,b⟩:=i
 obtain⟨c,d⟩:=j
 unfold hix at hi hj
 simp only at hi hj
 split at hi<;>split at hj<;>simp only[p0,reduceCtorEq] at hi hj
 all_goals first|(exfalso;omega)|(have:a=c:=(by omega);subst this;rfl)
theorem Wb{t t':Tr ABlock}{id:Id}{b:Option ABlock}(h:t.sat id b=some t')(j:Id):t'.at j=if j=id then b else t.at j:=by
 unfold Tr.sat at h
 split at h<;>try (cases h;done)
 rename_i k hk
 have hp:=Tr.put_get _ _ _ _ _ h
 unfold Tr.at
 by_cases hj:j=id
 ·subst hj
  rw[hk,if_pos rfl]
  simp only
  rw[hp,if_pos rfl]
 ·rw[if_neg hj]
  cases hx:hix j with
  |none=>rfl
  |some k'=>
   simp only
   rw[hp,if_neg]
   rintro rfl
   exact hj (zz3 hx hk)
structure StR(D:Id→Option ABlock)(H:AHeap)(nn:Nat)(S:Sh):Prop where
 n:nn=S.n
 h:∀id b,S.t.at id=some b→H.get id=some b
 d:∀id b,D id=some b→H.get id=some b∧S.t.at id=none∧id.1<nn
variable {D:Id→Option ABlock} {H:AHeap} {n:Nat} {S S':Sh}
theorem StR.new{b:ABlock}(h:StR D H n S)(hs:S.new b=some S'):StR D (((n,0),b)::H) (n+1) S':=by
 unfold Sh.new at hs
 split at hs<;>simp only[p0,reduceCtorEq] at hs
 rename_i t ht
 subst hs
 refine⟨by simp[h.n],fun id c hc=>?_,fun id c hc=>?_⟩
 ·simp only at hc
  rw[Wb ht] at hc
  by_cases hj:(n,0)=id
  ·subst hj;rw[AHeap.get_cons_same];rw[if_pos (by rw[h.n])] at hc;exact hc
  ·rw[AHeap.get_cons_other _ _ hj];rw[if_neg (by rw[←h.n];exact fun e=>hj e.symm)] at hc;exact h.h _ _ hc
 ·obtain⟨g1,g2,g3⟩:=h.d id c hc
  have hj:(n,0)≠id:=fun e=>by subst e;exact absurd g3 (Nat.lt_irrefl _)
  simp only
  rw[Wb ht,AHeap.get_cons_other _ _ hj,if_neg (by rw[←h.n];exact fun e=>hj e.symm)]
  exact⟨g1,g2,by omega⟩
theorem StR.new2{b c:ABlock}(h:StR D H n S)(hs:S.new2 b c=some S'):StR D (((n,0),b)::((n,1),c)::H) (n+1) S':=by
 unfold Sh.new2 at hs
 split at hs<;>try (cases hs;done)
 rename_i t ht
 split at hs<;>simp only[p0,reduceCtorEq] at hs
 rename_i t' ht'
 subst hs
 refine⟨by simp[h.n],fun id u hu=>?_,fun id u hu=>?_⟩
 ·simp only at hu
  rw[Wb ht',Wb ht,←h.n] at hu
  by_cases hj:(n,0)=id
  ·subst hj;rw[AHeap.get_cons_same];rw[if_neg (by simp),if_pos rfl] at hu;exact hu
  ·rw[AHeap.get_cons_other _ _ hj]
   by_cases hj1:(n,1)=id
   ·subst hj1;rw[AHeap.get_cons_same];rw[if_pos rfl] at hu;exact hu
   ·rw[AHeap.get_cons_other _ _ hj1];rw[if_neg (fun e=>hj1 e.symm),if_neg (fun e=>hj e.symm)] at hu;exact h.h _ _ hu
 ·obtain⟨g1,g2,g3⟩:=h.d id u hu
  have hj:(n,0)≠id:=fun e=>by subst e;exact absurd g3 (Nat.lt_irrefl _)
  have hj1:(n,1)≠id:=fun e=>by subst e;exact absurd g3 (Nat.lt_irrefl _)
  simp only
  rw[Wb ht',Wb ht,←h.n,AHeap.get_cons_other _ _ hj,AHeap.get_cons_other _ _ hj1,if_neg (fun e=>hj1 e.symm),if_neg (fun e=>hj e.symm)]
  exact⟨g1,g2,by omega⟩
theorem StR.upd{id:Id}{b b0:ABlock}(h:StR D H n S)(h0:S.t.at id=some b0)(hs:S.upd id b=some S'):StR D (H.set id b) n S':=by
 unfold Sh.upd at hs
 split at hs<;>simp only[p0,reduceCtorEq] at hs
 rename_i t ht
 subst hs
 refine⟨h.n,fun j c hc=>?_,fun j c hc=>?_⟩
 ·simp only at hc
  rw[Wb ht] at hc
  rw[AHeap.get_set]
  by_cases hj:id=j
  ·subst hj;rw[if_pos rfl] at hc ⊢;rw[h.h _ _ h0];exact hc
  ·rw[if_neg hj];rw[if_neg (fun e=>hj e.symm)] at hc;exact h.h _ _ hc
 ·obtain⟨g1,g2,g3⟩:=h.d j c hc
  have hj:id≠j:=fun e=>by subst e;rw[h0] at g2;cases g2
  simp only
  rw[Wb ht,AHeap.get_set,if_neg hj,if_neg (fun e=>hj e.symm)]
  exact⟨g1,g2,g3⟩
theorem StR.cut{id:Id}{b0:ABlock}(h:StR D H n S)(h0:S.t.at id=some b0)(hs:S.cut id=some S'):StR D (H.del id) n S':=by
 unfold Sh.cut at hs
 split at hs<;>simp only[p0,reduceCtorEq] at hs
 rename_i t ht
 subst hs
 refine⟨h.n,fun j c hc=>?_,fun j c hc=>?_⟩
 ·simp only at hc
  rw[Wb ht] at hc
  rw[AHeap.get_del]
  by_cases hj:id=j
  ·subst hj;rw[if_pos rfl] at hc;cases hc
  ·rw[if_neg hj];rw[if_neg (fun e=>hj e.symm)] at hc;exact h.h _ _ hc
 ·obtain⟨g1,g2,g3⟩:=h.d j c hc
  have hj:id≠j:=fun e=>by subst e;rw[h0] at g2;cases g2
  simp only
  rw[Wb ht,AHeap.get_del,if_neg hj,if_neg (fun e=>hj e.symm)]
  exact⟨g1,g2,g3⟩
theorem Sh.upd_at{id j:Id}{b c:ABlock}(hs:S.upd id b=some S')(hj:S.t.at j=some c):∃c',S'.t.at j=some c':=by
 unfold Sh.upd at hs
 split at hs<;>simp only[p0,reduceCtorEq] at hs
 rename_i t ht
 subst hs
 simp only
 rw[Wb ht]
 split
 ·exact⟨_,rfl⟩
 ·exact⟨_,hj⟩
def HLe(h h':Hp):Prop:=∀id b,h id=some b→h' id=some b
theorem Qq{h h':Hp}(hl:HLe h h'){ag:Bool}{n:Nat}:∀ {x v:AVal},z4k ag n h x=some v→z4k ag n h' x=some v:=by
 intro x v hx
 unfold z4k at hx ⊢
 split at hx
 ·exact hx
 ·rename_i b i off
  cases hb:h b with
  |none=>rw[hb] at hx;cases hx
  |some blk=>rw[hb] at hx;simp only[hl _ _ hb];exact hx
 ·cases hx
theorem z8z{h h':Hp}(hl:HLe h h'){len s:Nat}{x y v:AVal}(hx:z0b len s h x y=some v):z0b len s h' x y=some v:=by
 unfold z0b at hx ⊢
 split at hx
 ·rename_i b i k j
  cases hb:h b with
  |none=>rw[hb] at hx;cases hx
  |some blk=>rw[hb] at hx;simp only[hl _ _ hb];exact hx
 ·cases hx
theorem z59{h h':Hp}(hl:HLe h h'){len s:Nat}{x v:AVal}(hx:zke len s h x=some v):zke len s h' x=some v:=by
 unfold zke at hx ⊢
 split at hx
 ·rename_i b i
  cases hb:h b with
  |none=>rw[hb] at hx;cases hx
  |some blk=>rw[hb] at hx;simp only[hl _ _ hb];exact hx
 ·cases hx
theorem zcn{h h':Hp}(hl:HLe h h'){ks:List CK}{ka g ok:Bool}{zs:List AVal}{k x v:AVal}(hx:z62 ks ka g ok zs h k x=some v):z62 ks ka g ok zs h' k x=some v:=by
 unfold z62 at hx ⊢
 split at hx
 ·exact hx
 ·rename_i b
  cases hb:h b with
  |none=>rw[hb] at hx;cases hx
  |some blk=>rw[hb] at hx;simp only[hl _ _ hb];exact hx
 ·cases hx
theorem zkb{h h':Hp}(hl:HLe h h'){x v:AVal}(hx:zji h x=some v):zji h' x=some v:=by
 unfold zji at hx ⊢
 split at hx
 ·exact hx
 ·rename_i b
  cases hb:h b with
  |none=>rw[hb] at hx;cases hx
  |some blk=>rw[hb] at hx;simp only[hl _ _ hb];exact hx
 ·cases hx
theorem Wx{h h':Hp}(hl:HLe h h'){s:Nat}{x:AVal}{v:List (List AVal)}(hx:We h s x=some v):We h' s x=some v:=by
 unfold We at hx ⊢
 split at hx
 case h_3 b s' off len f=>
  cases hb:h b with
  |none=>rw[hb] at hx;cases hx
  |some blk=>rw[hb] at hx;simp only[hl _ _ hb];exact hx
 all_goals first|exact hx|cases hx
theorem Y8{α β:Type}{o:Option α}{f f':α→Option β}{v:β}(hx:o.bind f=some v)(hf:∀a,f a=some v→f' a=some v):o.bind f'=some v:=by
 cases o with
 |none=>cases hx
 |some a=>exact hf a hx
theorem z54{h h':Hp}(hl:HLe h h'){g:Nat→AVal}{op:LOp}{v:AVal}(hx:zdb g h op=some v):zdb g h' op=some v:=by
 unfold zdb at hx ⊢
 split at hx
 case h_4=>exact Y8 hx fun a h=>Qq hl h
 case h_14=>exact Y8 hx fun a h=>z59 hl h
 all_goals first
  |exact hx
  |exact Y8 hx fun a h=>zkb hl h
  |exact Y8 hx fun a h=>Y8 h fun b h=>z8z hl h
  |exact Y8 hx fun a h=>Y8 h fun b h=>zcn hl h
  |exact Y8 hx fun a h=>Qq hl h
  |exact Y8 hx fun a h=>z59 hl h
  |cases hx
theorem Ki{h h':Hp}(hl:HLe h h'){g:Nat→AVal}{lo:LOper}{v:AVal}(hx:Vq g h lo=some v):Vq g h' lo=some v:=by
 unfold Vq at hx ⊢
 split at hx
 ·exact z54 hl hx
 ·split at hx
  ·split at hx<;>try (cases hx;done)
   rename_i v' hv
   rw[z54 hl hv]
   exact hx
  ·exact hx
  ·cases hx
theorem z3c{h h':Hp}(hl:HLe h h'){lo:List Nat}:∀ {d:List (Nat×LOper×Env×AVal)},z3h h lo d=true→z3h h' lo d=true
 |[],_=>rfl
 |(p,o,e,v)::r,hx=>by
  unfold z3h at hx ⊢
  simp only[p9] at hx ⊢
  refine⟨?_,z3c hl hx.2⟩
  have h1:=hx.1
  split at h1
  ·split at h1
   ·rename_i u hu
    rw[Ki hl hu]
    exact h1
   ·cases h1
  ·rfl
theorem zqc{h h':Hp}(hl:HLe h h'){e:Ev}{r:LRes}{v:AVal}(hx:zz4 e h r=some v):zz4 e h' r=some v:=by
 unfold zz4 at hx ⊢
 split at hx
 ·exact hx
 ·split at hx
  ·exact Qq hl hx
  ·cases hx
theorem Ua{a b:IntKind}:z61 a b=true↔a=b:=by cases a<;>cases b<;>decide
theorem Yb{a b:Int}:ile a b=true↔a≤b:=by simp[ile]
theorem z47{a b:Int}:ilt a b=true↔a<b:=by simp[ilt]
theorem x3{a b:Nat}:pA a b=true↔a=b:=⟨pB,fun h=>by subst h;exact Nat.beq_refl a⟩
theorem vr{a b:Nat}:pE a b=true↔a≤b:=by rw[Nat.ble_eq]
theorem J7{p:Bool}{v y:AVal}(h:ck p v=some y):p=true∧v=y:=by
 unfold ck at h
 split at h<;>simp only[p0,reduceCtorEq] at h
 exact⟨rfl,h⟩
def XOk(x:XR)(y:AVal):Prop:=∃s,x=.ok s y∧s
theorem XOk.of{x:XR}{s:Prop}{y:AVal}(h:x=.ok s y)(hs:s):XOk x y:=⟨s,h,hs⟩
theorem XOk.and{x:XR}{p:Prop}{y:AVal}(h:XOk x y)(hp:p):XOk (x.and p) y:=by
 obtain⟨s,rfl,hs⟩:=h
 exact⟨p∧s,rfl,hp,hs⟩
theorem y1t{op:BinOp}{a b y:AVal}(h:y73 op a b=some y):XOk (zne op a b) y:=by
 unfold y73 at h
 split at h
 ·unfold zne
  cases op<;>simp only at h ⊢<;>(obtain⟨h1,rfl⟩:=J7 h;refine⟨_,rfl,?_⟩) <;>
   simp only[p9,Ua,Yb,Bool.not_eq_true',decide_eq_false_iff_not] at h1<;>exact h1
 ·unfold zne
  cases op<;>first
   |(cases h;done)
   |(obtain⟨h1,rfl⟩:=J7 h;exact⟨_,rfl,Yb.1 h1⟩)
   |(simp only[p0] at h;subst h;exact⟨_,rfl,trivial⟩)
 ·cases h
theorem y3h{op:UnOp}{a y:AVal}(h:bun op a=some y):XOk (xun op a) y:=by
 unfold bun at h
 split at h
 ·unfold xun
  split at h<;>simp only[p0,reduceCtorEq] at h
  subst h;exact⟨_,rfl,trivial⟩
 ·unfold xun
  split at h<;>simp only[p0,reduceCtorEq] at h<;>(subst h;exact⟨_,rfl,trivial⟩)
 ·cases h
theorem zix{k:CK}{x y:AVal}{b:Bool}(h:ze6 k x y=some b):Xi k x y=some b:=by
 unfold ze6 at h
 split at h
 ·split at h<;>simp only[p0,reduceCtorEq] at h
  rename_i hk
  subst h
  simp[Xi,Ua.1 hk]
 ·simpa[Xi] using h
 ·simpa[Xi] using h
 ·cases h
theorem X8:∀ {ks:List CK} {xs ys:List AVal} {b:Bool},Q7 ks xs ys=some b→qd ks xs ys=some b
 |[],[],[],b,h=>by simpa[Q7,qd] using h
 |k::ks,x::xs,y::ys,b,h=>by
  unfold Q7 at h
  split at h<;>try (cases h;done)
  rename_i a ha
  split at h<;>try (cases h;done)
  rename_i c hc
  unfold qd
  rw[zix ha,X8 hc]
  exact h
 |[],[],_::_,_,h=>by cases h
 |[],_::_,_,_,h=>by cases h
 |_::_,[],_,_,h=>by cases h
 |_::_,_::_,[],_,h=>by cases h
theorem zuw{x y:AVal}{b:Bool}(h:y28 x y=some b):XOk (z0a x y) (.bool b):=by
 unfold y28 at h
 split at h
 ·simp only[p0] at h;subst h;exact⟨_,rfl,trivial⟩
 ·rename_i len _
  cases hz:pA len 0<;>rw[hz] at h<;>simp only[p0,reduceCtorEq] at h
  subst h;exact⟨_,rfl,pW hz⟩
 ·rename_i len _
  cases hz:pA len 0<;>rw[hz] at h<;>simp only[p0,reduceCtorEq] at h
  subst h;exact⟨_,rfl,pW hz⟩
 ·rename_i es _
  cases es<;>simp only[p0,reduceCtorEq] at h
  subst h;exact⟨_,rfl,by simp⟩
 ·rename_i es _
  cases es<;>simp only[p0,reduceCtorEq] at h
  subst h;exact⟨_,rfl,by simp⟩
 ·cases h
theorem zz6{k:EqK}{x y:AVal}{b:Bool}(h:y6a k x y=some b):XOk (zr6 k x y) (.bool b):=by
 unfold y6a at h
 unfold zr6
 split at h
 ·split at h<;>simp only[p0,reduceCtorEq] at h
  subst h;exact⟨_,rfl,trivial⟩
 ·simp only
  unfold zxt at h
  split at h<;>simp only[p0,reduceCtorEq] at h<;>(subst h;exact⟨_,rfl,trivial⟩)
 ·simp only
  exact zuw h
 ·simp only
  unfold zxl at h
  split at h<;>simp only[p0,reduceCtorEq] at h<;>(subst h;exact⟨_,rfl,trivial⟩)
 ·simp only
  split at h<;>try (cases h;done)
  simp only[zs2,X8 h]
  exact⟨_,rfl,trivial⟩
 ·simp only
  unfold zt1 at h
  split at h<;>simp only[p0,reduceCtorEq] at h<;>(subst h;exact⟨_,rfl,trivial⟩)
 ·simp only
  unfold zo9 at h
  split at h<;>simp only[p0,reduceCtorEq] at h<;>(subst h;exact⟨_,rfl,trivial⟩)
 ·cases h
theorem y1f{neg:Bool}{k:EqK}{x y z:AVal}(h:y6n neg k x y=some z):XOk (xeq neg k x y) z:=by
 unfold y6n at h
 split at h<;>simp only[p0,reduceCtorEq] at h
 rename_i b hb
 obtain⟨s,h1,h2⟩:=zz6 hb
 unfold xeq
 subst h
 cases neg with
 |true=>simp only[if_true,h1,XR.neg];exact⟨_,rfl,h2⟩
 |false=>simp only[pM,if_false,h1];exact⟨_,rfl,h2⟩
theorem Kx{ag:Bool}{m:Nat}{x y:AVal}(h:z4k ag m H.get x=some y):XOk (z1d ag m H x) y:=by
 unfold z4k at h
 unfold z1d
 split at h
 ·obtain⟨h1,rfl⟩:=J7 h
  simp only[p9,vr] at h1
  exact⟨_,rfl,h1⟩
 ·rename_i b i off
  simp only
  split at h<;>try (cases h;done)
  ·rename_i hg
   obtain⟨h1,rfl⟩:=J7 h
   simp only[p9,vr] at h1
   rw[hg]
   exact⟨_,rfl,h1⟩
  ·rename_i hg
   obtain⟨h1,rfl⟩:=J7 h
   simp only[p9,vr,x3] at h1
   rw[hg]
   exact⟨_,rfl,h1⟩
 ·cases h
theorem zm1{off:Nat}{x y:AVal}(h:zok off x=some y):XOk (z5p off x) y:=by
 unfold zok at h
 split at h<;>simp only[p0,reduceCtorEq] at h<;>(subst h;exact⟨_,rfl,trivial⟩)
theorem zqs{ag:Bool}{m off:Nat}{x y:AVal}(h:zp4 ag m off x=some y):XOk (z5q ag m off x) y:=by
 unfold zp4 at h
 split at h<;>try (cases h;done)
 obtain⟨h1,rfl⟩:=J7 h
 exact⟨_,rfl,vr.1 h1⟩
theorem z8h{s:Nat}{x i y:AVal}(h:zgl s x i=some y):XOk (z3y s x i) y:=by
 unfold zgl at h
 split at h<;>try (cases h;done)
 all_goals
  obtain⟨h1,rfl⟩:=J7 h
  simp only[p9,x3,Yb,z47,and_assoc] at h1
  exact⟨_,rfl,h1⟩
theorem zj5{len s:Nat}{x i y:AVal}(h:zcs len s x i=some y):XOk (z45 len s x i) y:=by
 unfold zcs at h
 split at h<;>try (cases h;done)
 all_goals
  obtain⟨h1,rfl⟩:=J7 h
  simp only[p9,Yb,z47] at h1
  exact⟨_,rfl,h1⟩
theorem zj0{len s:Nat}{x i y:AVal}(h:z0b len s H.get x i=some y):XOk (Kf len s H x i) y:=by
 unfold z0b at h
 split at h<;>try (cases h;done)
 split at h<;>try (cases h;done)
 rename_i hg
 obtain⟨h1,rfl⟩:=J7 h
 simp only[p9,x3,Yb,z47,and_assoc] at h1
 simp only[Kf,hg]
 exact⟨_,rfl,h1⟩
theorem zud{len s:Nat}{x y:AVal}(h:zke len s H.get x=some y):XOk (zjt len s H x) y:=by
 unfold zke at h
 split at h<;>try (cases h;done)
 split at h<;>try (cases h;done)
 rename_i hg
 obtain⟨h1,rfl⟩:=J7 h
 simp only[p9,x3,vr] at h1
 simp only[zjt,hg]
 exact⟨_,rfl,h1⟩
theorem zv3{x i y:AVal}(h:y1g x i=some y):XOk (zl3 x i) y:=by
 unfold y1g at h
 split at h<;>try (cases h;done)
 obtain⟨h1,rfl⟩:=J7 h
 simp only[p9,Yb,z47] at h1
 exact⟨_,rfl,h1⟩
theorem zu6{len s:Nat}{ag:Bool}{x i y:AVal}(h:y2c len s ag x i=some y):XOk (zno len s ag x i) y:=by
 unfold y2c at h
 split at h<;>try (cases h;done)
 obtain⟨h1,rfl⟩:=J7 h
 simp only[p9,Yb,z47,vr,and_assoc] at h1
 exact⟨_,rfl,h1⟩
theorem zzr{k:Nat}{x y:AVal}(h:y6v k x=some y):XOk (y2i k x) y:=by
 unfold y6v at h
 split at h<;>try (cases h;done)
 obtain⟨h1,rfl⟩:=J7 h
 exact⟨_,rfl,vr.1 h1⟩
theorem zua{x y:AVal}(h:y0a x=some y):XOk (zjy x) y:=by
 unfold y0a at h
 split at h<;>simp only[p0,reduceCtorEq] at h
 subst h;exact⟨_,rfl,trivial⟩
theorem zid{x y:AVal}(h:zty x=some y):XOk (zd9 x) y:=by
 unfold zty at h
 split at h<;>simp only[p0,reduceCtorEq] at h<;>(subst h;exact⟨_,rfl,trivial⟩)
theorem zoi{x y:AVal}(h:zlw x=some y):XOk (z4m x) y:=by
 unfold zlw at h
 split at h<;>simp only[p0,reduceCtorEq] at h<;>(subst h;exact⟨_,rfl,trivial⟩)
variable {e:Env}
theorem y1{x:LOpd}{v:AVal}(h:Zu e.get x=some v):x.ev e=v∧x.need e:=by
 cases x with
 |c u=>simp only[Zu,p0] at h;exact⟨h,trivial⟩
 |t i=>
  simp only[Zu] at h
  show(e.get i).strip=v∧(e.get i).need
  split at h
  ·rename_i u hu
   simp only[p0] at h
   rw[hu]
   exact⟨h,rfl⟩
  ·cases h
  ·rename_i h1 h2
   simp only[p0] at h
   cases hg:e.get i with
   |cnd p u=>
    cases p with
    |true=>exact absurd hg (h1 u)
    |false=>exact absurd hg (h2 u)
   |_=>rw[hg] at h;subst h;exact⟨rfl,trivial⟩
theorem V6:∀ {xs:List LOpd} {vs:List AVal},z6k e.get xs=some vs→evs e xs=vs∧Wq e xs
 |[],vs,h=>by simp only[z6k,p0] at h;exact⟨h,trivial⟩
 |x::xs,vs,h=>by
  unfold z6k at h
  split at h<;>try (cases h;done)
  rename_i a ha
  split at h<;>simp only[p0,reduceCtorEq] at h
  rename_i l hl
  obtain⟨h1,h2⟩:=y1 ha
  obtain⟨h3,h4⟩:=V6 hl
  exact⟨by unfold evs;rw[h1,h3];exact h,h2,h4⟩
theorem Zr{d:Nat}{o:Option LOpd}{j:Int}(h:Je e.get d o=some j):va e d o=some j∧Q3 e o:=by
 cases o with
 |none=>simp only[Je,p0] at h;exact⟨by simp[va,h],trivial⟩
 |some x=>
  simp only[Je] at h
  split at h<;>simp only[p0,reduceCtorEq] at h
  rename_i k z hx
  obtain⟨h1,h2⟩:=y1 hx
  subst h
  exact⟨by simp only[va,h1],h2⟩
theorem zrb{lo hi:Option LOpd}{x y:AVal}(h:zox e.get lo hi x=some y):XOk (z4s (fun d=>va e d lo) (fun d=>va e d hi) x) y∧Q3 e lo∧Q3 e hi:=by
 unfold zox at h
 split at h<;>try (cases h;done)
 split at h<;>try (cases h;done)
 rename_i a b ha hb
 obtain⟨h1,rfl⟩:=J7 h
 obtain⟨ha1,ha2⟩:=Zr ha
 obtain⟨hb1,hb2⟩:=Zr hb
 simp only[p9,Yb,and_assoc] at h1
 refine⟨?_,ha2,hb2⟩
 simp only[z4s,ha1,hb1]
 exact⟨_,rfl,h1⟩
theorem zw8{s:Nat}{lo hi mx:Option LOpd}{x y:AVal}(h:zyz e.get s lo hi mx x=some y)(kp:Bool):XOk (zkr s (fun d=>va e d lo) (fun d=>va e d hi) (z4e e mx) kp x) y∧Q3 e lo∧Q3 e hi∧Q3 e mx:=by
 unfold zyz at h
 split at h
 ·split at h<;>try (cases h;done)
  rename_i a b ha hb
  obtain⟨ha1,ha2⟩:=Zr ha
  obtain⟨hb1,hb2⟩:=Zr hb
  split at h
  ·obtain⟨h1,rfl⟩:=J7 h
   simp only[p9,x3,Yb,and_assoc] at h1
   refine⟨?_,ha2,hb2,trivial⟩
   simp only[zkr,z84,ha1,hb1,z4e]
   exact⟨_,rfl,h1⟩
  ·split at h<;>try (cases h;done)
   rename_i z hz
   obtain⟨hz1,hz2⟩:=Zr hz
   obtain⟨h1,rfl⟩:=J7 h
   simp only[p9,x3,Yb,and_assoc] at h1
   refine⟨?_,ha2,hb2,hz2⟩
   simp only[zkr,z84,ha1,hb1,z4e,hz1]
   exact⟨_,rfl,h1⟩
 ·split at h<;>try (cases h;done)
  rename_i a b ha hb
  obtain⟨ha1,ha2⟩:=Zr ha
  obtain⟨hb1,hb2⟩:=Zr hb
  split at h
  ·obtain⟨h1,rfl⟩:=J7 h
   simp only[p9,x3,Yb,and_assoc] at h1
   refine⟨?_,ha2,hb2,trivial⟩
   simp only[zkr,z84,ha1,hb1,z4e]
   exact⟨_,rfl,h1⟩
  ·split at h<;>try (cases h;done)
   rename_i z hz
   obtain⟨hz1,hz2⟩:=Zr hz
   obtain⟨h1,rfl⟩:=J7 h
   simp only[p9,x3,Yb,and_assoc] at h1
   refine⟨?_,ha2,hb2,hz2⟩
   simp only[zkr,z84,ha1,hb1,z4e,hz1]
   exact⟨_,rfl,h1⟩
 ·split at h<;>try (cases h;done)
  rename_i a b ha hb
  obtain⟨ha1,ha2⟩:=Zr ha
  obtain⟨hb1,hb2⟩:=Zr hb
  obtain⟨h1,rfl⟩:=J7 h
  simp only[p9,decide_eq_true_eq] at h1
  refine⟨?_,ha2,hb2,trivial⟩
  simp only[zkr,z84,ha1,hb1,z4e]
  exact⟨_,rfl,h1⟩
 ·cases h
theorem z8g:∀ {ps:List (Nat×Nat×AVal)} {cells:List AVal} {y:AVal},z9u cells ps=some y→XOk (Xl cells ps) y
 |[],cells,y,h=>by simp only[z9u,p0] at h;subst h;exact⟨_,rfl,trivial⟩
 |(off,m,x)::r,cells,y,h=>by
  unfold z9u at h
  split at h<;>try (cases h;done)
  rename_i cs hc
  split at h<;>try (cases h;done)
  rename_i hb
  simp only[p9,x3,vr] at hb
  obtain⟨s,h1,h2⟩:=z8g h
  simp only[Xl,hc,h1]
  exact⟨_,rfl,hb.1,hb.2,h2⟩
theorem z97:∀ {ps:List (Nat×Nat×LOpd)} {l:List (Nat×Nat×AVal)},zb3 e.get ps=some l→uw e ps=l∧uj e ps
 |[],l,h=>by simp only[zb3,p0] at h;exact⟨h,trivial⟩
 |(o,m,x)::r,l,h=>by
  unfold zb3 at h
  split at h<;>try (cases h;done)
  rename_i a ha
  split at h<;>simp only[p0,reduceCtorEq] at h
  rename_i l' hl
  obtain⟨h1,h2⟩:=y1 ha
  obtain⟨h3,h4⟩:=z97 hl
  exact⟨by unfold uw;rw[h1,h3];exact h,h2,h4⟩
theorem zlz{mx:Bool}:∀ {l:List AVal} {v y:AVal},y17 mx v l=some y→XOk (ztd mx v l) y
 |[],v,y,h=>by
  cases v<;>simp only[y17,p0] at h<;>(subst h;exact⟨_,rfl,trivial⟩)
 |x::r,v,y,h=>by
  cases v<;>try (simp[y17] at h;done)
  cases x<;>try (simp[y17] at h;done)
  simp only[y17] at h
  split at h<;>try (cases h;done)
  rename_i hk
  obtain⟨s,h1,h2⟩:=zlz h
  simp only[ztd,h1]
  exact⟨_,rfl,Ua.1 hk,h2⟩
theorem zv6{mx:Bool}{l:List AVal}{y:AVal}(h:y1n mx l=some y):XOk (zkz mx l) y:=by
 unfold y1n at h
 split at h<;>try (cases h;done)
 exact zlz h
theorem Ud{ks:List CK}{ka:Bool}{k:AVal}(h:z56 ks ka k=true):Wj ks ka k=true:=by
 unfold z56 at h
 unfold Wj
 simp only[p9] at h ⊢
 refine⟨h.1,?_⟩
 cases hc:Q7 ks (jj k) (jj k) with
 |none=>rw[hc] at h;cases h.2
 |some b=>rw[X8 hc];rfl
theorem Jc{ks:List CK}{k k':AVal}{b:Bool}(h:zc0 ks k k'=some b):Wh ks k k'=some b:=by
 unfold zc0 at h
 unfold Wh
 split at h<;>try (cases h;done)
 ·rename_i h1 h2;rw[h1,h2];exact X8 h
 ·rename_i h1 h2;rw[h1,h2];exact X8 h
theorem z8j{ks:List CK}{k:AVal}:∀ {es:List (AVal×AVal)} {r:Option AVal},zi0 ks k es=some r→Ub ks k es=some r
 |[],r,h=>h
 |(k',x)::es,r,h=>by
  unfold zi0 at h
  unfold Ub
  split at h<;>try (cases h;done)
  ·rename_i hk;rw[Jc hk];exact h
  ·rename_i hk;rw[Jc hk];exact z8j h
theorem zgi{ks:List CK}{k x:AVal}:∀ {es r:List (AVal×AVal)},zvl ks k x es=some r→zmr ks k x es=some r
 |[],r,h=>h
 |(k',y)::es,r,h=>by
  unfold zvl at h
  unfold zmr
  split at h<;>try (cases h;done)
  ·rename_i hk;rw[Jc hk];exact h
  ·rename_i hk
   rw[Jc hk]
   split at h<;>simp only[p0,reduceCtorEq] at h
   rename_i l hl
   subst h
   simp only[zgi hl,pZ]
theorem z9y{ks:List CK}{k:AVal}:∀ {es r:List (AVal×AVal)},zfq ks k es=some r→z73 ks k es=some r
 |[],r,h=>h
 |(k',y)::es,r,h=>by
  unfold zfq at h
  unfold z73
  split at h<;>try (cases h;done)
  ·rename_i hk;rw[Jc hk];exact h
  ·rename_i hk
   rw[Jc hk]
   split at h<;>simp only[p0,reduceCtorEq] at h
   rename_i l hl
   subst h
   simp only[z9y hl,pZ]
theorem zn0{ks:List CK}{ka ag ok:Bool}{zs:List AVal}{k x y:AVal}(h:z62 ks ka ag ok zs H.get k x=some y):XOk (z0k ks ka ag ok zs H k x) y:=by
 unfold z62 at h
 split at h
 ·obtain⟨h1,rfl⟩:=J7 h
  simp only[z0k,Ud h1,if_true]
  exact⟨_,rfl,trivial⟩
 ·split at h<;>try (cases h;done)
  rename_i hg
  split at h<;>try (cases h;done)
  rename_i hk
  split at h<;>simp only[p0,reduceCtorEq] at h
  rename_i r hr
  subst h
  simp only[z0k,hg,Ud hk,if_true,z8j hr]
  exact⟨_,rfl,rfl⟩
 ·cases h
theorem zuu{x y:AVal}(h:zji H.get x=some y):XOk (zes H x) y:=by
 unfold zji at h
 split at h
 ·simp only[p0] at h;subst h;exact⟨_,rfl,trivial⟩
 ·split at h<;>simp only[p0,reduceCtorEq] at h
  rename_i hg
  subst h
  simp only[zes,hg]
  exact⟨_,rfl,trivial⟩
 ·cases h
theorem Zq{α γ:Type}{x:Option α}{f:α→Option γ}{o:γ}(h:x.bind f=some o):∃r,x=some r∧f r=some o:=by
 cases x with
 |none=>cases h
 |some r=>exact⟨r,rfl,h⟩
theorem z1s{op:LOp}{v:AVal}(h:zdb e.get H.get op=some v):XOk (vu e H op) v:=by
 cases op<;>simp only[zdb,reduceCtorEq] at h<;>simp only[vu]
 case mv x=>obtain⟨h1,h2⟩:=y1 h;rw[h1];exact⟨_,rfl,h2⟩
 case pick c a b=>
  split at h<;>try (cases h;done)
  ·rename_i hc
   obtain⟨c1,c2⟩:=y1 hc
   obtain⟨a1,a2⟩:=y1 h
   rw[c1]
   subst a1;exact XOk.and (XOk.of rfl ⟨fun _=>a2,fun h=>by cases h⟩) c2
  ·rename_i hc
   obtain⟨c1,c2⟩:=y1 hc
   obtain⟨a1,a2⟩:=y1 h
   rw[c1]
   subst a1;exact XOk.and (XOk.of rfl ⟨fun h=>(by cases h),fun _=>a2⟩) c2
 case build zs parts=>
  obtain⟨ps,h1,h2⟩:=Zq h
  obtain⟨p1,p2⟩:=z97 h1
  rw[p1]
  exact(z8g h2).and p2
 case load ag m a=>obtain⟨x,h1,h2⟩:=Zq h;obtain⟨p1,p2⟩:=y1 h1;rw[p1];exact(Kx h2).and p2
 case nilck a=>obtain⟨x,h1,h2⟩:=Zq h;obtain⟨p1,p2⟩:=y1 h1;rw[p1];exact(zoi h2).and p2
 case bin op x y=>obtain⟨a,h1,h2⟩:=Zq h;obtain⟨b,h3,h4⟩:=Zq h2;obtain⟨p1,p2⟩:=y1 h1;obtain⟨q1,q2⟩:=y1 h3;rw[p1,q1];exact(y1t h4).and ⟨p2,q2⟩
 case eq neg k x y=>obtain⟨a,h1,h2⟩:=Zq h;obtain⟨b,h3,h4⟩:=Zq h2;obtain⟨p1,p2⟩:=y1 h1;obtain⟨q1,q2⟩:=y1 h3;rw[p1,q1];exact(y1f h4).and ⟨p2,q2⟩
 case un op x=>obtain⟨a,h1,h2⟩:=Zq h;obtain⟨p1,p2⟩:=y1 h1;rw[p1];exact(y3h h2).and p2
 case conv k x=>
  cases k with
  |int k=>
   simp only at h ⊢
   split at h<;>simp only[p0,reduceCtorEq] at h
   rename_i hx
   obtain⟨p1,p2⟩:=y1 hx
   subst h
   simp only[p1]
   exact⟨_,rfl,p2⟩
  |same=>
   simp only at h ⊢
   split at h<;>simp only[p0,reduceCtorEq] at h
   rename_i hx
   obtain⟨p1,p2⟩:=y1 hx
   subst h
   simp only[p1]
   exact⟨_,rfl,p2⟩
  |s2b vm=>cases h
  |b2s=>cases h
 case mkfn f a c=>
  obtain⟨aq,h1,h2⟩:=Zq h
  obtain⟨cs,h3,h4⟩:=Zq h2
  obtain⟨p1,p2⟩:=V6 h1
  obtain⟨q1,q2⟩:=V6 h3
  simp only[p0] at h4
  subst h4
  rw[p1,q1]
  exact⟨_,rfl,p2,q2⟩
 case slStr x lo hi=>obtain⟨a,h1,h2⟩:=Zq h;obtain⟨p1,p2⟩:=y1 h1;obtain⟨q1,q2⟩:=zrb h2;rw[p1];exact q1.and ⟨p2,q2⟩
 case slSl s x lo hi mx=>obtain⟨a,h1,h2⟩:=Zq h;obtain⟨p1,p2⟩:=y1 h1;obtain⟨q1,q2⟩:=zw8 h2 (hi.isNone&&mx.isNone);rw[p1];exact q1.and ⟨p2,q2⟩
 case slAr m s x=>obtain⟨a,h1,h2⟩:=Zq h;obtain⟨p1,p2⟩:=y1 h1;rw[p1];exact(zud h2).and p2
 case faddr off x=>obtain⟨a,h1,h2⟩:=Zq h;obtain⟨p1,p2⟩:=y1 h1;rw[p1];exact(zm1 h2).and p2
 case field ag m off x=>obtain⟨a,h1,h2⟩:=Zq h;obtain⟨p1,p2⟩:=y1 h1;rw[p1];exact(zqs h2).and p2
 case iaddr s x i=>obtain⟨a,h1,h2⟩:=Zq h;obtain⟨b,h3,h4⟩:=Zq h2;obtain⟨p1,p2⟩:=y1 h1;obtain⟨q1,q2⟩:=y1 h3;rw[p1,q1];exact(z8h h4).and ⟨p2,q2⟩
 case iaddrA m s x i=>obtain⟨a,h1,h2⟩:=Zq h;obtain⟨b,h3,h4⟩:=Zq h2;obtain⟨p1,p2⟩:=y1 h1;obtain⟨q1,q2⟩:=y1 h3;rw[p1,q1];exact(zj5 h4).and ⟨p2,q2⟩
 case iaddrR m s x i=>obtain⟨a,h1,h2⟩:=Zq h;obtain⟨b,h3,h4⟩:=Zq h2;obtain⟨p1,p2⟩:=y1 h1;obtain⟨q1,q2⟩:=y1 h3;rw[p1,q1];exact(zj0 h4).and ⟨p2,q2⟩
 case idxS x i=>obtain⟨a,h1,h2⟩:=Zq h;obtain⟨b,h3,h4⟩:=Zq h2;obtain⟨p1,p2⟩:=y1 h1;obtain⟨q1,q2⟩:=y1 h3;rw[p1,q1];exact(zv3 h4).and ⟨p2,q2⟩
 case idxA m s ag x i=>obtain⟨a,h1,h2⟩:=Zq h;obtain⟨b,h3,h4⟩:=Zq h2;obtain⟨p1,p2⟩:=y1 h1;obtain⟨q1,q2⟩:=y1 h3;rw[p1,q1];exact(zu6 h4).and ⟨p2,q2⟩
 case ext k x=>obtain⟨a,h1,h2⟩:=Zq h;obtain⟨p1,p2⟩:=y1 h1;rw[p1];exact(zzr h2).and p2
 case len st x=>
  cases st with
  |true=>simp only at h ⊢;obtain⟨a,h1,h2⟩:=Zq h;obtain⟨p1,p2⟩:=y1 h1;rw[p1];exact(zua h2).and p2
  |false=>simp only at h ⊢;obtain⟨a,h1,h2⟩:=Zq h;obtain⟨p1,p2⟩:=y1 h1;rw[p1];exact(zid h2).and p2
 case mnx m args=>obtain⟨a,h1,h2⟩:=Zq h;obtain⟨p1,p2⟩:=V6 h1;rw[p1];exact(zv6 h2).and p2
 case mlook ks ka ag ok zs x k=>obtain⟨a,h1,h2⟩:=Zq h;obtain⟨b,h3,h4⟩:=Zq h2;obtain⟨p1,p2⟩:=y1 h1;obtain⟨q1,q2⟩:=y1 h3;rw[p1,q1];exact(zn0 h4).and ⟨p2,q2⟩
 case mlen x=>obtain⟨a,h1,h2⟩:=Zq h;obtain⟨p1,p2⟩:=y1 h1;rw[p1];exact(zuu h2).and p2
end Go.Fx
namespace Go.Fx
variable {P:Program}
section
variable {N:Lay}
theorem zav{ι:Type}{n0:Nat}(pre:ι→Prop)(env:ι→Env)(L:ι→AHeap)(nn μ:ι→Nat){Q:Exit→Env→AHeap→Nat→Prop}{body:LCode}
 (round:∀x,pre x→LWp P N n0 body (fun ex e H n=>match ex with|.normal=>∃y,pre y∧μ y<μ x∧env y=e∧L y=H∧nn y=n|ex=>Q ex e H n) (env x) (L x) (nn x)) :
 ∀x,pre x→LWp P N n0 (.loop body) Q (env x) (L x) (nn x):=by
 intro x0 hx0 c hc ro hro J0 γ0 G0 w0 I β w a hX hI hE hN hD QQ hQ
 cases c with
 |loop c=>
  simp only[zw,q8] at hc
  obtain⟨b',hb,hc⟩:=hc
  simp only[LCode.loop.injEq] at hc
  subst hc
  let Inside:Nat→Act→World→Prop:=fun m a w=>∃x I β,μ x=m∧pre x∧Ext J0 γ0 n0 G0 w0 I β (nn x) (L x) w∧Inv I β (nn x) (L x) w∧RepEnv I β (nn x) w (env x) a∧a.tmps.size=N.n∧Dfr P w0.heap.size w a.defers
  let mu:Act→World→Nat:=fun a w=>by
   classical
   exact if h:∃m,Inside m a w then pT (Y3 _ h) else 0
  have mu_spec:∀a w,(∃m,Inside m a w)→Inside (mu a w) a w∧∀k,k<mu a w→¬Inside k a w:=by
   intro a w h
   have:mu a w=pT (Y3 _ h):=by simp only[mu];rw[dif_pos h]
   rw[this]
   exact pN (Y3 _ h)
  refine wpIn_loop (fun a w=>∃m,Inside m a w) mu ⟨_,x0,I,β,rfl,hx0,hX,hI,hE,hN,hD⟩ ?_
  intro a w h
  obtain⟨⟨x,I,β,hm,hp,k1,k2,k3,k4,k5⟩,_⟩:=mu_spec a w h
  refine round x hp c hb ro hro J0 γ0 G0 w0 I β w a k1 k2 k3 k4 k5 _ ?_
  intro ex e' H' n' I' β' w' a' g1 g2 g3 g4 g5 g6
  cases ex with
  |normal=>
   obtain⟨y,hy,hlt,rfl,rfl,rfl⟩:=g1
   have hin:Inside (μ y) a' w':=⟨y,_,_,rfl,hy,g6,g2,g3,g4,g5⟩
   refine⟨⟨_,hin⟩,?_⟩
   obtain⟨_,hleast⟩:=mu_spec a' w' ⟨_,hin⟩
   have:¬μ y<mu a' w':=fun h=>hleast _ h hin
   omega
  |_=>exact hQ _ _ _ _ _ _ _ _ g1 g2 g3 g4 g5 g6
 |skip=>cases hc
 |region id ops draw=>simp only[zw] at hc;split at hc<;>(try split at hc)<;>(try split at hc)<;>(try split at hc)<;>(try split at hc)<;>(first|(simp at hc;done)|(rcases Zb hc with⟨_,h⟩|⟨_,_,_,h⟩<;>cases h))
 |seq a b=>simp only[zw] at hc;split at hc<;>simp at hc
 |cond c a b=>simp only[zw] at hc;split at hc<;>simp at hc
 |block id c=>simp[zw] at hc
 |exit id=>cases hc
 |ret=>cases hc
 |rangeFunc g ps x y=>simp only[zw] at hc;split at hc<;>simp at hc
 |_=>cases hc
end
def z75(ag:Bool)(s:Nat):LCode:=
 .seq (.region [⟨some 4,.load false 1 (.t 1),none⟩,⟨some 5,.len false (.t 4),none⟩,⟨some 6,.bin .sub (.t 5) (.c (.int .i64 1)),none⟩,⟨some 3,.mv (.t 6),none⟩])
 (.block 0 (.loop (.seq
  (.seq (.region [⟨some 7,.mv (.t 3),none⟩,⟨some 8,.bin .geq (.t 7) (.c (.int .i64 0)),none⟩]) (.cond (.t 8) .skip (.exit 0)))
  (.seq (.block 1 (.seq (.region [⟨some 11,.mv (.t 0),none⟩,⟨some 12,.mv (.t 3),none⟩,⟨some 13,.load false 1 (.t 1),none⟩,⟨some 14,.mv (.t 3),none⟩,⟨some 15,.iaddr s (.t 13) (.t 14),none⟩,⟨some 16,.load ag s (.t 15),none⟩,⟨some 17,.callv (.t 11) [.t 12,.t 16],none⟩,⟨some 18,.un .not (.t 17),none⟩])
   (.cond (.t 18) .ret .skip)))
   (.region [⟨some 9,.mv (.t 3),none⟩,⟨some 10,.bin .sub (.t 9) (.c (.int .i64 1)),none⟩,⟨some 3,.mv (.t 10),none⟩])))))
def AVal.plain(x:AVal):Prop:=x.strip=x∧x.need
theorem y2p{i:Nat}(h:i≤4611686018427387904):IntKind.i64.wrap ((i:Int)-1)=(i:Int)-1:=z21 (by omega) (by omega)
theorem Kq(k:IntKind)(z:Int):(AVal.int k z).strip=.int k z:=rfl
theorem zbl(b:Id)(i o:Nat):(AVal.ptr b i o).strip=.ptr b i o:=rfl
theorem ztq(f:Fn)(a c:List AVal):(AVal.fn f a c).strip=.fn f a c:=rfl
theorem Qj(b:Bool):(AVal.bool b).strip=.bool b:=rfl
theorem z1k(k:IntKind)(z:Int):(AVal.int k z).need=True:=rfl
theorem zfb(b:Id)(i o:Nat):(AVal.ptr b i o).need=True:=rfl
theorem zzx(f:Fn)(a c:List AVal):(AVal.fn f a c).need=True:=rfl
theorem J8(b:Bool):(AVal.bool b).need=True:=rfl
theorem zkj{f:FuncId}{bm:List Nat}{L:LFn}(hL:wm P bm f=some L)(hok:Zc P f)(hn:2≤L.lay.n){ag:Bool}{s:Nat}(hb:L.body=z75 ag s)(hr:L.res=[]){l:Nat}{bx:Id}{K:AHeap→Nat→Prop}(G:Nat→AHeap→Nat→Prop)
 (hstep:∀i H n,G (i+1) H n→i<4611686018427387904∧∃sl p el,sl.plain∧p.plain∧el.plain∧XOk (z1d false 1 H (.ptr bx 0 0)) sl∧XOk (z3y s sl.rd (.int .i64 (i:Int))) p∧XOk (z1d ag s H p) el ∧
  ACalls P (.yield l) [.int .i64 (i:Int),el] H n (fun v H' n'=>(v=.bool true∧G i H' n')∨(v=.bool false∧K H' n')))
 (hend:∀H n,G 0 H n→K H n) {len:Nat} {H:AHeap} {n:Nat} (hG:G len H n) (hlen:len≤4611686018427387904) {sl:AVal} (h1:sl.plain) (h2:XOk (z1d false 1 H (.ptr bx 0 0)) sl) (h3:XOk (zd9 sl.rd) (.int .i64 (len:Int))) :
 ACalls P (.func f) [.fn (.yield l) [] [],.ptr bx 0 0] H n (fun _ H' n'=>K H' n'):=by
 refine ACalls.ofFnW hL hok (by simpa using hn) ?_
 rw[hb,hr]
 unfold z75
 refine W5 (yz (.region _) _ _ _ _ ?_)
 obtain⟨s1,e1,d1⟩:=h2
 obtain⟨s2,e2,d2⟩:=h3
 have h1a:=h1.1
 have h1b:=h1.2
 simp[Wo,Vr,kv,vu,LOpd.ev,LOpd.need,Env.get,Env.put,zu,Kq,zbl,z1k,zfb,e1,XR.and,h1a,h1b,e2,zne,d1,d2]
 rw[y2p hlen]
 refine Jf ?_
 refine zav (ι:=Nat×Env×AHeap×Nat) (fun y=>y.1≤4611686018427387904∧G y.1 y.2.2.1 y.2.2.2∧y.2.1.get 3=.int .i64 ((y.1:Int)-1)∧y.2.1.get 0=.fn (.yield l) [] []∧y.2.1.get 1=.ptr bx 0 0) (fun y=>y.2.1) (fun y=>y.2.2.1) (fun y=>y.2.2.2) (fun y=>y.1) ?_ (len,_,H,n) ⟨hlen,hG,by simp[Env.get],by simp[Env.get],by simp[Env.get]⟩
 rintro⟨i,e,H,n⟩ ⟨hi,hG,q3,q0,q1⟩
 simp only at hi hG q3 q0 q1 ⊢
 refine W5 (W5 (yz (.region _) _ _ _ _ ?_))
 simp[Wo,Vr,kv,vu,LOpd.ev,LOpd.need,Env.get,Env.put,Kq,z1k,XR.and,zne,q3]
 cases i with
 |zero=>
  refine Xj (v:=false) (by simp[LOpd.ev,Env.get,Qj]) (by simp[LOpd.need,Env.get,J8]) (fun h=>by cases h) (fun _=>yz (.exit 0) _ _ _ _ ?_)
  simp only[Vr,if_true]
  exact hend _ _ hG
 |succ i=>
  obtain⟨hi2,sl,p,el,hsl,hp,hel,⟨t1,k1,c1⟩,⟨t2,k2,c2⟩,⟨t3,k3,c3⟩,hcall⟩:=hstep _ _ _ hG
  refine Xj (v:=true) (by simp[LOpd.ev,Env.get,Qj];omega) (by simp[LOpd.need,Env.get,J8]) (fun _=>yz .skip _ _ _ _ ?_) (fun h=>by cases h)
  simp only[Vr]
  have a1:=hsl.1
  have a2:=hsl.2
  have a3:=hp.1
  have a4:=hp.2
  have a5:=hel.1
  have a6:=hel.2
  have hcast:((i+1:Nat):Int)-1=(i:Int):=by omega
  rw[hcast] at q3 ⊢
  refine W5 (Jf (W5 (yz (.region _) _ _ _ _ ?_)))
  simp[Wo,Vr,kv,vu,Z1,evs,Wq,LOpd.ev,LOpd.need,Env.get,Env.put,Kq,z1k,zbl,zfb,ztq,zzx,XR.and,q3,q0,q1,k1,c1,k2,c2,k3,c3,a1,a2,a3,a4,a5,a6]
  refine ACallsC.mono (f:=.yield l) (first:=[]) (caps:=[]) ⟨rfl,by simpa using hcall⟩ ?_
  rintro v H' n' (⟨rfl,hG'⟩|⟨rfl,hK⟩)
  ·simp[Qj,J8,xun]
   refine Xj (v:=false) (by simp[LOpd.ev,Env.get,Qj]) (by simp[LOpd.need,Env.get,J8]) (fun h=>by cases h) (fun _=>yz .skip _ _ _ _ ?_)
   simp only[Vr]
   refine yz (.region _) _ _ _ _ ?_
   simp[Wo,Vr,kv,vu,LOpd.ev,LOpd.need,Env.get,Env.put,Kq,z1k,XR.and,zne,q3]
   exact⟨i,_,_,_,⟨by omega,hG',by simp[Env.get];exact y2p (by omega),by simp[Env.get,q0],by simp[Env.get,q1]⟩,by omega,rfl,rfl,rfl⟩
  ·simp[Qj,J8,xun]
   refine Xj (v:=true) (by simp[LOpd.ev,Env.get,Qj]) (by simp[LOpd.need,Env.get,J8]) (fun _=>yz .ret _ _ _ _ ?_) (fun h=>by cases h)
   simp only[Vr]
   exact hK
end Go.Fx
