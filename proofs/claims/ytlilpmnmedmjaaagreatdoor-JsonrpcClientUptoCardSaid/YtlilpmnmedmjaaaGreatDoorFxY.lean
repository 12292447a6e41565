/-
  Own framework.
-/
import Derived.Test.YtlilpmnmedmjaaaGreatDoorFxM2
namespace Go.Fx
set_option linter.unusedVariables false
def Vt:Option Prop→Prop→Prop
 |none,q=>q
 |some p,q=>p∧q
def X7:Option Prop→Option Prop→Option Prop
 |none,y=>y
 |some a,none=>some a
 |some a,some b=>some (a∧b)
def kv:Option Prop→Prop
 |none=>True
 |some p=>p
theorem jl(s:Option Prop)(q:Prop):Vt s q↔kv s∧q:=by cases s<;>simp[Vt,kv]
theorem jk(a b:Option Prop):kv (X7 a b)↔kv a∧kv b:=by cases a<;>cases b<;>simp[X7,kv]
def AVal.needY:AVal→Option Prop
 |.cnd p _=>some (p=true)
 |_=>none
theorem zn4(x:AVal):kv x.needY↔x.need:=by cases x<;>simp[AVal.needY,AVal.need,kv]
def LOpd.needY(e:Env):LOpd→Option Prop
 |.t i=>(e.get i).needY
 |.c _=>none
theorem zu(e:Env)(x:LOpd):kv (x.needY e)↔x.need e:=by
 cases x with
 |t i=>exact zn4 _
 |c v=>simp[LOpd.needY,LOpd.need,kv]
def Vg(e:Env):List LOpd→Option Prop
 |[]=>none
 |x::r=>X7 (x.needY e) (Vg e r)
theorem Yd(e:Env):∀l,kv (Vg e l)↔Jh e l
 |[]=>by simp[Vg,Jh,kv]
 |x::r=>by simp[Vg,Jh,jk,zu,Yd e r]
def z1o(e:Env):Option LOpd→Option Prop
 |none=>none
 |some x=>x.needY e
theorem Xd(e:Env)(x:Option LOpd):kv (z1o e x)↔Y0 e x:=by
 cases x with
 |none=>simp[z1o,Y0,kv]
 |some x=>exact zu e x
def z6z(e:Env):List (Nat×Nat×LOpd)→Option Prop
 |[]=>none
 |(_,_,x)::r=>X7 (x.needY e) (z6z e r)
theorem z4i(e:Env):∀l,kv (z6z e l)↔kb e l
 |[]=>by simp[z6z,kb,kv]
 |(_,_,x)::r=>by simp[z6z,kb,jk,zu,z4i e r]
def z48(e:Env):List (Nat×LOpd)→Option Prop
 |[]=>none
 |(_,x)::r=>X7 (x.needY e) (z48 e r)
theorem Kt(e:Env):∀l,kv (z48 e l)↔U1 e l
 |[]=>by simp[z48,U1,kv]
 |(_,x)::r=>by simp[z48,U1,jk,zu,Kt e r]
def zi5:IntKind→IntKind→Bool
 |.i8,.i8|.i16,.i16|.i32,.i32|.i64,.i64|.u8,.u8|.u16,.u16|.u32,.u32|.u64,.u64=>true
 |_,_=>false
theorem z6l{a b:IntKind}(h:zi5 a b=true):a=b:=by cases a<;>cases b<;>first|rfl|cases h
inductive YR where
 |ok (side:Option Prop) (v:AVal)
 |row (es:List (List AVal)) (i:Nat) (side:Prop) (f:List AVal→AVal)
 |pick (v:AVal) (side:Prop)
 |fork (j:Int) (len:Nat) (side:Option Prop) (f:Nat→AVal)
 |bad
def zvk(j:Int)(f:Nat→AVal)(K:AVal→Prop):Nat→Nat→Prop
 |0,_=>True
 |k+1,c=>(j=(c:Int)→K (f c))∧zvk j f K k (c+1)
def YR.run(r:YR)(K:AVal→Prop):Prop:=match r with
 |.ok s v=>Vt s (K v)
 |.row es i s f=>∃r,es.getD i []=r∧s∧K (f r)
 |.pick v0 s=>∃v,v0=v∧s∧K v
 |.fork j len s f=>Vt s ((0≤j∧j<(len:Int))∧zvk j f K len 0)
 |.bad=>False
def YR.runG(p:Bool)(r:YR)(K:AVal→Prop):Prop:=match r with
 |.ok none v=>K (.cnd p v)
 |.ok (some s) v=>(p=true→s)∧K (.cnd p v)
 |.row es i s f=>∃r,(p=true→es.getD i []=r∧s)∧K (.cnd p (f r))
 |.pick v0 s=>∃v,(p=true→v0=v∧s)∧K (.cnd p v)
 |_=>p=false∧K (.tup [])
def YR.and(s:Option Prop):YR→YR
 |.ok t v=>.ok (X7 s t) v
 |.row es i t f=>match s with
  |none=>.row es i t f
  |some p=>.row es i (p∧t) f
 |.pick v t=>match s with
  |none=>.pick v t
  |some p=>.pick v (p∧t)
 |.fork j len t f=>.fork j len (X7 s t) f
 |.bad=>.bad
def YR.Of(r:YR)(x:XR):Prop:=match r with
 |.ok s v=>∃side,x=.ok side v∧(kv s→side)
 |.row es i s f=>∃side,x=.ok side (f (es.getD i []))∧(s→side)
 |.pick v s=>∃side,x=.ok side v∧(s→side)
 |.fork j len s f=>∃side v,x=.ok side v∧∀c:Nat,c<len→j=(c:Int)→kv s→side∧v=f c
 |.bad=>True
theorem YR.Of.and{r:YR}{x:XR}{s:Option Prop}{p:Prop}(h:r.Of x)(hs:kv s→p):(r.and s).Of (x.and p):=by
 cases r with
 |bad=>trivial
 |ok t v=>
  obtain⟨side,rfl,h1⟩:=h
  exact⟨_,rfl,fun h=>by rw[jk] at h;exact⟨hs h.1,h1 h.2⟩⟩
 |row es i t f=>
  obtain⟨side,rfl,h1⟩:=h
  cases s with
  |none=>exact⟨_,rfl,fun h=>⟨hs trivial,h1 h⟩⟩
  |some q=>exact⟨_,rfl,fun h=>⟨hs h.1,h1 h.2⟩⟩
 |pick v t=>
  obtain⟨side,rfl,h1⟩:=h
  cases s with
  |none=>exact⟨_,rfl,fun h=>⟨hs trivial,h1 h⟩⟩
  |some q=>exact⟨_,rfl,fun h=>⟨hs h.1,h1 h.2⟩⟩
 |fork j len t f=>
  obtain⟨side,v,rfl,h1⟩:=h
  exact⟨_,v,rfl,fun c hc hj h=>by
   rw[jk] at h
   obtain⟨h2,h3⟩:=h1 c hc hj h.2
   exact⟨⟨hs h.1,h2⟩,h3⟩⟩
theorem z7e{j:Int}{f:Nat→AVal}{K:AVal→Prop}:∀ {k c0:Nat},zvk j f K k c0→∀c,c0≤c→c<c0+k→j=(c:Int)→K (f c)
 |0,c0,_,c,h1,h2,_=>by omega
 |k+1,c0,h,c,h1,h2,h3=>by
  by_cases hc:c=c0
  ·subst hc;exact h.1 h3
  ·exact z7e h.2 c (by omega) (by omega) h3
theorem YR.Of.run{r:YR}{x:XR}(h:r.Of x){K:AVal→Prop}(hk:r.run K):∃side v,x=.ok side v∧side∧K v:=by
 cases r with
 |bad=>exact hk.elim
 |ok t v=>
  obtain⟨side,rfl,h1⟩:=h
  rw[YR.run,jl] at hk
  exact⟨_,_,rfl,h1 hk.1,hk.2⟩
 |row es i t f=>
  obtain⟨side,rfl,h1⟩:=h
  obtain⟨r,rfl,ht,hk⟩:=hk
  exact⟨_,_,rfl,h1 ht,hk⟩
 |pick v t=>
  obtain⟨side,rfl,h1⟩:=h
  obtain⟨r,rfl,ht,hk⟩:=hk
  exact⟨_,_,rfl,h1 ht,hk⟩
 |fork j len t f=>
  obtain⟨side,v,rfl,h1⟩:=h
  rw[YR.run,jl] at hk
  obtain⟨hs,⟨h2,h3⟩,h4⟩:=hk
  obtain⟨c,rfl⟩:=Int.eq_ofNat_of_zero_le h2
  obtain⟨g1,rfl⟩:=h1 c (by omega) rfl hs
  exact⟨_,_,rfl,g1,z7e h4 c (Nat.zero_le _) (by omega) rfl⟩
def y35(op:BinOp):AVal→AVal→YR
 |.int k a,.int k' b=>match op with
  |.shl=>.ok (some (0≤b)) (.int k (k.wrap (a*2 ^ (min b.toNat k.bits))))
  |.shr=>.ok (some (0≤b)) (.int k (a.fdiv (2 ^ (min b.toNat k.bits))))
  |op=>match zi5 k k' with
   |false=>.bad
   |true=>match op with
    |.add=>.ok none (.int k (k.wrap (a+b)))
    |.sub=>.ok none (.int k (k.wrap (a-b)))
    |.mul=>.ok none (.int k (k.wrap (a*b)))
    |.quo=>.ok (some (b≠0)) (.int k (k.wrap (a.tdiv b)))
    |.rem=>.ok (some (b≠0)) (.int k (a.tmod b))
    |.and=>.ok none (.int k (V8 .and k a b))
    |.or=>.ok none (.int k (V8 .or k a b))
    |.xor=>.ok none (.int k (V8 .xor k a b))
    |.andNot=>.ok none (.int k (V8 .andNot k a b))
    |.eql=>.ok none (.bool (a==b))
    |.neq=>.ok none (.bool (a != b))
    |.lss=>.ok none (.bool (decide (a<b)))
    |.leq=>.ok none (.bool (decide (a≤b)))
    |.gtr=>.ok none (.bool (decide (a > b)))
    |.geq=>.ok none (.bool (decide (a≥b)))
    |_=>.bad
 |.str a,.str b=>match op with
  |.add=>.ok (some (((a.length+b.length:Nat):Int)≤9223372036854775807)) (.str (a++b))
  |.eql=>.ok none (.bool (a==b))
  |.neq=>.ok none (.bool (!(a==b)))
  |.lss=>.ok none (.bool (Op.bytesLess a b))
  |.leq=>.ok none (.bool (Op.bytesLess a b || a==b))
  |.gtr=>.ok none (.bool (!(Op.bytesLess a b || a==b)))
  |.geq=>.ok none (.bool (!(Op.bytesLess a b)))
  |_=>.bad
 |_,_=>.bad
theorem zvs(op:BinOp)(x y:AVal):(y35 op x y).Of (zku op x y):=by
 cases x<;>cases y<;>simp only[y35,zku]<;>try trivial
 case int.int k a k' b=>
  cases op<;>simp only<;>(try exact⟨_,rfl,fun h=>h⟩)<;>(cases hk:zi5 k k'<;>simp only<;>(try trivial)<;>(have hk:=z6l hk;subst hk)) <;>
   first|exact⟨_,rfl,fun _=>rfl⟩|exact⟨_,rfl,fun h=>⟨rfl,h⟩⟩
 case str.str a b=>
  cases op<;>simp only<;>first|trivial|exact⟨_,rfl,fun _=>trivial⟩|exact⟨_,rfl,fun h=>h⟩
def XR.toY:XR→YR
 |.ok s v=>.ok (some s) v
 |.bad=>.bad
theorem XR.toY_of(x:XR):x.toY.Of x:=by
 cases x with
 |ok s v=>exact⟨s,rfl,fun h=>h⟩
 |bad=>trivial
def XR.toY0:XR→YR
 |.ok _ v=>.ok none v
 |.bad=>.bad
theorem XR.toY0_of{x:XR}(h:∀s v,x=.ok s v→s):x.toY0.Of x:=by
 cases x with
 |ok s v=>exact⟨s,rfl,fun _=>h s v rfl⟩
 |bad=>trivial
def y0e:AVal→AVal→YR:=fun a b=>(zqw a b).toY0
def z6e:AVal→AVal→YR
 |.val (.slice none 0 0),.isl _ es _=>.ok (some (es≠[])) (.bool false)
 |.isl _ es _,.val (.slice none 0 0)=>.ok (some (es≠[])) (.bool false)
 |.val (.slice none 0 0),.msl _ _ _ len _=>.ok (some (len≠0)) (.bool false)
 |.msl _ _ _ len _,.val (.slice none 0 0)=>.ok (some (len≠0)) (.bool false)
 |a,b=>(Ua a b).toY0
theorem zcp(a b:AVal):(z6e a b).Of (Ua a b):=by
 unfold z6e
 split
 ·exact⟨_,rfl,fun h=>h⟩
 ·exact⟨_,rfl,fun h=>h⟩
 ·exact⟨_,rfl,fun h=>h⟩
 ·exact⟨_,rfl,fun h=>h⟩
 ·rename_i h1 h2 h3 h4
  refine XR.toY0_of fun s v h=>?_
  unfold Ua at h
  split at h<;>simp only[XR.ok.injEq,reduceCtorEq] at h<;>(try (obtain⟨rfl,_⟩:=h;trivial))
  ·exact absurd rfl (h3 _ _ _ _ _ rfl)
  ·exact absurd rfl (h4 _ _ _ _ _ · rfl)
  ·exact absurd rfl (h1 _ _ _ rfl)
  ·exact absurd rfl (h2 _ _ _ · rfl)
def y0a(k:EqK)(x y:AVal):YR:=
 match k with
 |.bool=>match x,y with
  |.bool a,.bool b=>.ok none (.bool (a==b))
  |_,_=>.bad
 |.ptr=>y0e x y
 |.slice=>z6e x.rd y.rd
 |.map=>(z0s x y).toY0
 |.agg ks=>(zo7 ks x y).toY0
 |.ifc=>(z7u x y).toY0
 |.fnc=>(za5 x y).toY0
 |_=>.bad
def YR.neg:YR→YR
 |.ok s (.bool b)=>.ok s (.bool (!b))
 |_=>.bad
def yeq(neg:Bool)(k:EqK)(x y:AVal):YR:=match neg with
 |true=>(y0a k x y).neg
 |false=>y0a k x y
theorem zx7(k:EqK)(x y:AVal):(y0a k x y).Of (ziq k x y):=by
 cases k<;>simp only[y0a,ziq]<;>try trivial
 case bool=>cases x<;>cases y<;>first|trivial|exact⟨_,rfl,fun _=>trivial⟩
 case ptr=>
  refine XR.toY0_of fun s v h=>?_
  unfold zqw at h
  split at h<;>simp only[XR.ok.injEq,reduceCtorEq] at h<;>(obtain⟨rfl,_⟩:=h;trivial)
 case slice=>exact zcp _ _
 case map=>
  refine XR.toY0_of fun s v h=>?_
  unfold z0s at h
  split at h<;>simp only[XR.ok.injEq,reduceCtorEq] at h<;>(obtain⟨rfl,_⟩:=h;trivial)
 case agg ks=>
  refine XR.toY0_of fun s v h=>?_
  unfold zo7 at h
  split at h<;>(try split at h)<;>simp only[XR.ok.injEq,reduceCtorEq] at h<;>(obtain⟨rfl,_⟩:=h;trivial)
 case ifc=>
  refine XR.toY0_of fun s v h=>?_
  unfold z7u at h
  split at h<;>simp only[XR.ok.injEq,reduceCtorEq] at h<;>(obtain⟨rfl,_⟩:=h;trivial)
 case fnc=>
  refine XR.toY0_of fun s v h=>?_
  unfold za5 at h
  split at h<;>simp only[XR.ok.injEq,reduceCtorEq] at h<;>(obtain⟨rfl,_⟩:=h;trivial)
theorem y02(neg:Bool)(k:EqK)(x y:AVal):(yeq neg k x y).Of (xeq neg k x y):=by
 have h:=zx7 k x y
 cases neg with
 |false=>simpa[yeq,xeq] using h
 |true=>
  simp only[yeq,xeq,if_true]
  cases hr:y0a k x y with
  |ok s v=>
   rw[hr] at h
   obtain⟨side,hx,hs⟩:=h
   cases v<;>simp only[YR.neg]<;>try trivial
   rw[hx]
   exact⟨side,rfl,hs⟩
  |_=>simp only[YR.neg];trivial
def zvr(agg:Bool)(n:Nat)(H:AHeap):AVal→YR
 |.iptr s es i off=>.row es i (i<es.length∧off+n≤s) (xh agg n off)
 |.ptr b i off=>match H.get b with
  |some (.rows s es)=>.row es i (i<es.length∧off+n≤s) (xh agg n off)
  |some (.one cs)=>match i,Nat.ble (off+n) cs.length with
   |0,true=>.ok none (xh agg n off cs)
   |_,_=>.bad
  |_=>.bad
 |_=>.bad
theorem zrn(g:Bool)(n:Nat)(H:AHeap)(x:AVal):(zvr g n H x).Of (z05 g n H x):=by
 cases x<;>simp only[zvr,z05]<;>try trivial
 case iptr s es i off=>exact⟨_,rfl,fun h=>h⟩
 case ptr b i off=>
  split
  ·rename_i hb
   rw[hb]
   exact⟨_,rfl,fun h=>h⟩
  ·rename_i hb
   rw[hb]
   split
   ·rename_i h
    exact⟨_,rfl,fun _=>⟨rfl,Nat.le_of_ble_eq_true h⟩⟩
   ·trivial
  ·trivial
def zpa(agg:Bool)(n off:Nat):AVal→YR
 |.agg cs=>match Nat.ble (off+n) cs.length with
  |true=>.ok none (xh agg n off cs)
  |false=>.bad
 |_=>.bad
theorem zp9(g:Bool)(n off:Nat)(x:AVal):(zpa g n off x).Of (z4s g n off x):=by
 cases x<;>simp only[zpa,z4s]<;>try trivial
 split
 ·rename_i h;exact⟨_,rfl,fun _=>Nat.le_of_ble_eq_true h⟩
 ·trivial
def zkw(s:Nat):AVal→AVal→YR
 |.isl s' es _,.int _ j=>match Nat.beq s s' with
  |true=>.ok (some (0≤j∧j<(es.length:Int))) (.iptr s' es j.toNat 0)
  |false=>.bad
 |.msl b s' off len _,.int _ j=>match Nat.beq s s' with
  |true=>.ok (some (0≤j∧j<(len:Int))) (.ptr b (off+j.toNat) 0)
  |false=>.bad
 |_,_=>.bad
theorem zl0(s:Nat)(x y:AVal):(zkw s x y).Of (z1x s x y):=by
 cases x<;>cases y<;>simp only[zkw,z1x]<;>try trivial
 all_goals
  split
  ·rename_i h;exact⟨_,rfl,fun hh=>⟨Nat.eq_of_beq_eq_true h,hh⟩⟩
  ·trivial
def zc4(len s:Nat)(H:AHeap):AVal→AVal→YR
 |.ptr b i 0,.int _ j=>match H.get b with
  |some (.rows s' _)=>match Nat.beq s s' with
   |true=>.ok (some (0≤j∧j<(len:Int))) (.ptr b (i+j.toNat) 0)
   |false=>.bad
  |_=>.bad
 |_,_=>.bad
theorem zfo(len s:Nat)(H:AHeap)(x y:AVal):(zc4 len s H x y).Of (Wq len s H x y):=by
 unfold zc4 Wq
 split
 ·split
  ·rename_i hg
   split
   ·rename_i h
    simp only[hg]
    exact⟨_,rfl,fun hh=>⟨Nat.eq_of_beq_eq_true h,hh⟩⟩
   ·trivial
  ·trivial
 ·trivial
def zbk(len s:Nat)(x:AVal):LOpd→AVal→YR
 |.c (.int _ (.ofNat c)),_=>match Nat.ble (c+1) len,x with
  |true,.iptr s' es i o=>.ok none (.iptr s' es i (o+c*s))
  |true,.ptr b i o=>.ok none (.ptr b i (o+c*s))
  |_,_=>.bad
 |_,.int _ j=>match x with
  |.iptr s' es i o=>.fork j len none (fun c=>.iptr s' es i (o+c*s))
  |.ptr b i o=>.fork j len none (fun c=>.ptr b i (o+c*s))
  |_=>.bad
 |_,_=>.bad
theorem zft(len s:Nat)(x:AVal)(e:Env)(i:LOpd):(zbk len s x i (i.ev e)).Of (z1b len s x (i.ev e)):=by
 unfold zbk
 split
 ·rename_i k c
  split
  ·rename_i h
   exact⟨_,rfl,fun _=>⟨Int.natCast_nonneg c,by have:=Nat.le_of_ble_eq_true h;simp;omega⟩⟩
  ·rename_i h
   exact⟨_,rfl,fun _=>⟨Int.natCast_nonneg c,by have:=Nat.le_of_ble_eq_true h;simp;omega⟩⟩
  ·trivial
 ·rename_i j _ heq
  rw[heq]
  split
  ·exact⟨_,_,rfl,fun c hc hj _=>⟨by omega,by subst hj;simp⟩⟩
  ·exact⟨_,_,rfl,fun c hc hj _=>⟨by omega,by subst hj;simp⟩⟩
  ·trivial
 ·trivial
def zx9(len s:Nat)(agg:Bool)(x:AVal):LOpd→AVal→YR
 |.c (.int _ (.ofNat c)),_=>match x with
  |.agg cs=>match Nat.ble (c+1) len&&Nat.ble (c*s+s) cs.length with
   |true=>.ok none (xh agg s (c*s) cs)
   |false=>.bad
  |_=>.bad
 |_,.int _ j=>match x with
  |.agg cs=>.pick (xh agg s (j.toNat * s) cs) (0≤j∧j<(len:Int)∧(j.toNat * s)+s≤cs.length)
  |_=>.bad
 |_,_=>.bad
theorem zpp(len s:Nat)(g:Bool)(x:AVal)(e:Env)(i:LOpd):(zx9 len s g x i (i.ev e)).Of (zmr len s g x (i.ev e)):=by
 unfold zx9
 split
 ·split
  ·split
   ·rename_i h
    simp only[Bool.and_eq_true] at h
    have h1:=Nat.le_of_ble_eq_true h.1
    have h2:=Nat.le_of_ble_eq_true h.2
    rename_i c _ _ _ _
    exact⟨_,rfl,fun _=>⟨Int.natCast_nonneg _,by simp;omega,by simpa using h2⟩⟩
   ·trivial
  ·trivial
 ·rename_i j _ heq
  rw[heq]
  split
  ·exact⟨_,rfl,fun h=>h⟩
  ·trivial
 ·trivial
def y1v(k:Nat):AVal→YR
 |.tup cs=>match Nat.ble (k+1) cs.length with
  |true=>.ok none (cs.getD k .any)
  |false=>.bad
 |_=>.bad
theorem zuk(k:Nat)(x:AVal):(y1v k x).Of (zxx k x):=by
 cases x<;>simp only[y1v,zxx]<;>try trivial
 split
 ·rename_i h;exact⟨_,rfl,fun _=>Nat.le_of_ble_eq_true h⟩
 ·trivial
def zxc(c:Bool):AVal→AVal→Option AVal
 |.bool a,.bool b=>some (.bool (bif c then a else b))
 |.int k a,.int k' b=>match zi5 k k' with
  |true=>some (.int k (bif c then a else b))
  |false=>none
 |.str a,.str b=>some (.str (bif c then a else b))
 |_,_=>none
theorem zqq{c:Bool}{a b v:AVal}(h:zxc c a b=some v):zx2 c a b=v:=by
 cases a<;>cases b<;>simp only[zxc] at h<;>try (cases h;done)
 ·simp only[Option.some.injEq] at h;subst h;cases c<;>rfl
 ·split at h<;>try (cases h;done)
  rename_i hk
  have hk:=z6l hk
  subst hk
  simp only[Option.some.injEq] at h
  subst h;cases c<;>rfl
 ·simp only[Option.some.injEq] at h;subst h;cases c<;>rfl
def zpu(c want:Bool):Option Prop→Option Prop
 |none=>none
 |some p=>some (c=want→p)
theorem z8b(c want:Bool)(p:Option Prop):kv (zpu c want p)↔(c=want→kv p):=by cases p<;>simp[zpu,kv]
def zmv(c:Bool)(e:Env):LOpd→LOpd→Option AVal
 |.c (.bool true),b=>match b.ev e with
  |.bool y=>some (.bool (c || y))
  |_=>none
 |a,.c (.bool false)=>match a.ev e with
  |.bool x=>some (.bool (c&&x))
  |_=>none
 |a,b=>zxc c (a.ev e) (b.ev e)
theorem zmq{c:Bool}{e:Env}{a b:LOpd}{v:AVal}(h:zmv c e a b=some v):zx2 c (a.ev e) (b.ev e)=v:=by
 unfold zmv at h
 split at h
 ·split at h<;>try (cases h;done)
  rename_i y hy
  simp only[Option.some.injEq] at h
  subst h
  rw[hy]
  cases c<;>rfl
 ·split at h<;>try (cases h;done)
  rename_i x hx
  simp only[Option.some.injEq] at h
  subst h
  rw[hx]
  cases c<;>rfl
 ·exact zqq h
def zs2(e:Env)(na nb:Option Prop)(c:AVal)(a b:LOpd):YR:=match c with
 |.bool c=>match zmv c e a b with
  |some v=>.ok (X7 (zpu c true na) (zpu c false nb)) v
  |none=>.bad
 |_=>.bad
def z8h(cells:List AVal):List (Nat×Nat×AVal)→YR
 |[]=>.ok none (.agg cells)
 |(off,n,x)::r=>match x.cells? with
  |some cs=>match Nat.beq cs.length n&&Nat.ble (off+n) cells.length with
   |true=>z8h (kj cells off cs) r
   |false=>.bad
  |none=>.bad
theorem z71:∀ (parts:List (Nat×Nat×AVal)) (cells:List AVal),(z8h cells parts).Of (Q4 cells parts)
 |[],cells=>⟨_,rfl,fun _=>trivial⟩
 |(off,n,x)::r,cells=>by
  simp only[z8h,Q4]
  split
  ·rename_i cs hc
   simp only[hc]
   split
   ·rename_i h
    simp only[Bool.and_eq_true] at h
    have h1:=Nat.eq_of_beq_eq_true h.1
    have h2:=Nat.le_of_ble_eq_true h.2
    have ih:=z71 r (kj cells off cs)
    cases hy:z8h (kj cells off cs) r with
    |ok s v=>
     rw[hy] at ih
     obtain⟨side,hx,hs⟩:=ih
     rw[hx]
     exact⟨_,rfl,fun h=>⟨h1,h2,hs h⟩⟩
    |bad=>trivial
    |row es i s f=>
     rw[hy] at ih
     obtain⟨side,hx,hs⟩:=ih
     rw[hx]
     exact⟨_,rfl,fun h=>⟨h1,h2,hs h⟩⟩
    |pick v s=>
     rw[hy] at ih
     obtain⟨side,hx,hs⟩:=ih
     rw[hx]
     exact⟨_,rfl,fun h=>⟨h1,h2,hs h⟩⟩
    |fork j len s f=>
     rw[hy] at ih
     obtain⟨side,v,hx,hs⟩:=ih
     rw[hx]
     exact⟨_,_,rfl,fun c hc hj h=>⟨⟨h1,h2,(hs c hc hj h).1⟩,(hs c hc hj h).2⟩⟩
   ·trivial
  ·trivial
def zyd(lo hi:Nat→Option Int):AVal→YR:=fun x=>(z3k lo hi x).toY
def XR.toP:XR→YR
 |.ok s v=>.pick v s
 |.bad=>.bad
theorem XR.toP_of(x:XR):x.toP.Of x:=by
 cases x with
 |ok s v=>exact⟨s,rfl,fun h=>h⟩
 |bad=>trivial
def y3z(s:Nat)(lo hi:Nat→Option Int)(mx:Option (Option Int))(keep:Bool):AVal→YR:=fun x=>(zk5 s lo hi mx keep x).toP
def zxv(isMax:Bool):AVal→List AVal→YR
 |v,[]=>.ok none v
 |.int k a,.int k' b::r=>match zi5 k k' with
  |true=>zxv isMax (.int k (if isMax then(if b > a then b else a) else(if b<a then b else a))) r
  |false=>.bad
 |_,_=>.bad
theorem zks(m:Bool):∀ (l:List AVal) (v:AVal),(zxv m v l).Of (zjg m v l)
 |[],v=>by simp only[zxv,zjg];exact⟨_,rfl,fun _=>trivial⟩
 |y::r,v=>by
  cases v<;>cases y<;>try trivial
  rename_i k a k' b
  simp only[zxv,zjg]
  split
  ·rename_i hk
   have hk:=z6l hk
   subst hk
   have ih:=zks m r (.int k (if m then(if b > a then b else a) else(if b<a then b else a)))
   cases hy:zxv m (.int k (if m then(if b > a then b else a) else(if b<a then b else a))) r with
   |ok s v=>
    rw[hy] at ih
    obtain⟨side,hx,hs⟩:=ih
    rw[hx]
    exact⟨_,rfl,fun h=>⟨rfl,hs h⟩⟩
   |bad=>trivial
   |row es i s f=>
    rw[hy] at ih
    obtain⟨side,hx,hs⟩:=ih
    rw[hx]
    exact⟨_,rfl,fun h=>⟨rfl,hs h⟩⟩
   |pick v s=>
    rw[hy] at ih
    obtain⟨side,hx,hs⟩:=ih
    rw[hx]
    exact⟨_,rfl,fun h=>⟨rfl,hs h⟩⟩
   |fork j len s f=>
    rw[hy] at ih
    obtain⟨side,v,hx,hs⟩:=ih
    rw[hx]
    exact⟨_,_,rfl,fun c hc hj h=>⟨⟨rfl,(hs c hc hj h).1⟩,(hs c hc hj h).2⟩⟩
  ·trivial
def y06(isMax:Bool):List AVal→YR
 |.int k a::r=>zxv isMax (.int k a) r
 |_=>.bad
def zmd(ks:List CK)(ka g ok:Bool)(zs:List AVal)(H:AHeap)(k:AVal):AVal→YR
 |.val (.map none)=>match Jb ks ka k with
  |true=>.ok none (zhg g ok zs none)
  |false=>.bad
 |.map b=>match H.get b with
  |some (.amap es)=>match Jb ks ka k with
   |true=>.pick (zhg g ok zs ((V9 ks k es).getD none)) ((V9 ks k es).isSome=true)
   |false=>.bad
  |_=>.bad
 |_=>.bad
theorem zll(ks:List CK)(ka g ok:Bool)(zs:List AVal)(H:AHeap)(k x:AVal):(zmd ks ka g ok zs H k x).Of (z01 ks ka g ok zs H k x):=by
 unfold zmd z01
 split
 ·split
  ·rename_i h;rw[if_pos h];exact⟨_,rfl,fun _=>trivial⟩
  ·trivial
 ·split
  ·rename_i hg
   split
   ·rename_i h;simp only[hg];rw[if_pos h];exact⟨_,rfl,fun h=>h⟩
   ·trivial
  ·trivial
 ·trivial
def z31(e:Env)(H:AHeap):LOp→YR
 |.mv x=>.ok (x.needY e) (x.ev e)
 |.pick c a b=>(zs2 e (a.needY e) (b.needY e) (c.ev e) a b).and (c.needY e)
 |.build zs parts=>(z8h zs (kx e parts)).and (z6z e parts)
 |.load g n a=>(zvr g n H (a.ev e)).and (a.needY e)
 |.nilck x=>(z43 (x.ev e)).toY0.and (x.needY e)
 |.bin op x y=>(y35 op (x.ev e) (y.ev e)).and (X7 (x.needY e) (y.needY e))
 |.eq neg k x y=>(yeq neg k (x.ev e) (y.ev e)).and (X7 (x.needY e) (y.needY e))
 |.un op x=>(xun op (x.ev e)).toY0.and (x.needY e)
 |.conv (.int k) x=>match x.ev e with
  |.int _ n=>.ok (x.needY e) (.int k (k.wrap n))
  |_=>.bad
 |.conv .same x=>match x.ev e with
  |.str l=>.ok (x.needY e) (.str l)
  |_=>.bad
 |.mkfn f a c=>.ok (X7 (Vg e a) (Vg e c)) (.fn f (evs e a) (evs e c))
 |.slStr x lo hi=>(zyd (fun d=>js e d lo) (fun d=>js e d hi) (x.ev e)).and (X7 (x.needY e) (X7 (z1o e lo) (z1o e hi)))
 |.slSl s x lo hi mx=>(y3z s (fun d=>js e d lo) (fun d=>js e d hi) (z39 e mx) (hi.isNone&&mx.isNone) (x.ev e)).and (X7 (x.needY e) (X7 (z1o e lo) (X7 (z1o e hi) (z1o e mx))))
 |.slAr n s x=>(zhe n s H (x.ev e)).toP.and (x.needY e)
 |.faddr off x=>(z3p off (x.ev e)).toY0.and (x.needY e)
 |.field g n off x=>(zpa g n off (x.ev e)).and (x.needY e)
 |.iaddr s x i=>(zkw s (x.ev e).rd (i.ev e)).and (X7 (x.needY e) (i.needY e))
 |.iaddrA n s x i=>(zbk n s (x.ev e) i (i.ev e)).and (X7 (x.needY e) (i.needY e))
 |.iaddrR n s x i=>(zc4 n s H (x.ev e) (i.ev e)).and (X7 (x.needY e) (i.needY e))
 |.idxS x i=>(zlc (x.ev e) (i.ev e)).toY.and (X7 (x.needY e) (i.needY e))
 |.idxA n s g x i=>(zx9 n s g (x.ev e) i (i.ev e)).and (X7 (x.needY e) (i.needY e))
 |.ext k x=>(y1v k (x.ev e)).and (x.needY e)
 |.len true x=>(zgt (x.ev e)).toY0.and (x.needY e)
 |.len false x=>(zct (x.ev e).rd).toY0.and (x.needY e)
 |.mnx m args=>(y06 m (evs e args)).and (Vg e args)
 |.mlook ks ka g ok zs x k=>(zmd ks ka g ok zs H (k.ev e) (x.ev e)).and (X7 (x.needY e) (k.needY e))
 |.mlen x=>(zcr H (x.ev e)).toY0.and (x.needY e)
 |_=>.bad
theorem Q8(e:Env)(H:AHeap)(op:LOp):(z31 e H op).Of (w5 e H op):=by
 have h2:∀ {x y:LOpd},kv (X7 (x.needY e) (y.needY e))→x.need e∧y.need e:=fun h=>by rw[jk,zu,zu] at h;exact h
 cases op<;>simp only[z31,w5]<;>try trivial
 case mv x=>exact⟨_,rfl,(zu e x).1⟩
 case pick c a b=>
  refine YR.Of.and ?_ (zu e c).1
  unfold zs2 zpq
  split
  ·rename_i cc hcc
   simp only[hcc]
   split
   ·rename_i v hv
    rw[zmq hv]
    refine⟨_,rfl,fun h=>?_⟩
    rw[jk,z8b,z8b,zu,zu] at h
    exact h
   ·trivial
  ·trivial
 case build zs parts=>exact(z71 _ _).and (z4i e parts).1
 case load g n a=>exact(zrn _ _ _ _).and (zu e a).1
 case nilck x=>
  refine YR.Of.and (XR.toY0_of fun s v h=>?_) (zu e x).1
  unfold z43 at h
  split at h<;>simp only[XR.ok.injEq,reduceCtorEq] at h<;>(obtain⟨rfl,_⟩:=h;trivial)
 case bin op x y=>exact(zvs _ _ _).and h2
 case eq neg k x y=>exact(y02 _ _ _ _).and h2
 case mlook ks ka g ok zs x k=>exact(zll _ _ _ _ _ _ _ _).and h2
 case mlen x=>
  refine YR.Of.and (XR.toY0_of fun s v h=>?_) (zu e x).1
  unfold zcr at h
  split at h<;>(try split at h)<;>simp only[XR.ok.injEq,reduceCtorEq] at h<;>(obtain⟨rfl,_⟩:=h;trivial)
 case un op x=>
  refine YR.Of.and (XR.toY0_of fun s v h=>?_) (zu e x).1
  unfold xun at h
  split at h<;>(try split at h)<;>simp only[XR.ok.injEq,reduceCtorEq] at h<;>(obtain⟨rfl,_⟩:=h;trivial)
 case conv k x=>
  cases k<;>simp only<;>try trivial
  ·split
   ·rename_i h;simp only[h];exact⟨_,rfl,(zu e x).1⟩
   ·trivial
  ·split
   ·rename_i h;simp only[h];exact⟨_,rfl,(zu e x).1⟩
   ·trivial
 case mkfn f a c=>exact⟨_,rfl,fun h=>by rw[jk,Yd,Yd] at h;exact h⟩
 case slStr x lo hi=>exact(XR.toY_of _).and (fun h=>by rw[jk,jk,zu,Xd,Xd] at h;exact h)
 case slSl s x lo hi mx=>exact(XR.toP_of _).and (fun h=>by rw[jk,jk,jk,zu,Xd,Xd,Xd] at h;exact h)
 case slAr k s x=>exact(XR.toP_of _).and (zu e x).1
 case faddr off x=>
  refine YR.Of.and (XR.toY0_of fun s v h=>?_) (zu e x).1
  unfold z3p at h
  split at h<;>simp only[XR.ok.injEq,reduceCtorEq] at h<;>(obtain⟨rfl,_⟩:=h;trivial)
 case field g n off x=>exact(zp9 _ _ _ _).and (zu e x).1
 case iaddr s x i=>exact(zl0 _ _ _).and h2
 case iaddrA n s x i=>exact(zft _ _ _ _ _).and h2
 case iaddrR n s x i=>exact(zfo _ _ _ _ _).and h2
 case idxS x i=>exact(XR.toY_of _).and h2
 case idxA n s g x i=>exact(zpp _ _ _ _ _ _).and h2
 case ext k x=>exact(zuk _ _).and (zu e x).1
 case len st x=>
  cases st with
  |true=>
   refine YR.Of.and (XR.toY0_of fun s v h=>?_) (zu e x).1
   unfold zgt at h
   split at h<;>simp only[XR.ok.injEq,reduceCtorEq] at h<;>(obtain⟨rfl,_⟩:=h;trivial)
  |false=>
   refine YR.Of.and (XR.toY0_of fun s v h=>?_) (zu e x).1
   unfold zct at h
   split at h<;>simp only[XR.ok.injEq,reduceCtorEq] at h<;>(obtain⟨rfl,_⟩:=h;trivial)
 case mnx m args=>
  refine YR.Of.and ?_ (Yd e args).1
  unfold y06 zkn
  split
  ·rename_i h;simp only[h];exact zks _ _ _
  ·trivial
end Go.Fx
