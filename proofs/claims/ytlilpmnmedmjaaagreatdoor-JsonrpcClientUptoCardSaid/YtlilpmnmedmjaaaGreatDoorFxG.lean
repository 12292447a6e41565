/-
  Own framework.
-/
import Derived.Test.YtlilpmnmedmjaaaGreatDoorFxF
import Derived.Laws.BytesString
import Derived.RangeFuncSeq
namespace Go.Fx
set_option linter.unusedVariables false
def uk (P:Program) (f:FuncId):Prop:=∃fn,P.funcs[f]?=some fn∧fn.body.isSome=true∧(fn.name=="runtime.NumGoroutine")=false
instance:Coe FuncId Fn:=⟨.func⟩
instance (k:Nat):OfNat Fn k:=⟨.func k⟩
def CallsF(P:Program):Fn→Array Value→World→(Ending→World→Prop)→Prop
 |.func f,vs,w,R=>Calls P f vs w R
 |.yield l,vs,w,R=>YieldAt Fence.wide 0 P l vs w R
 |_,_,_,_=>False
theorem CallsF.mono{P:Program}{f:Fn}{args:Array Value}{w:World}{R R':Ending→World→Prop}(h:CallsF P f args w R)(hr:∀e w',R e w'→R' e w'):CallsF P f args w R':=by
 cases f with
 |func f=>exact Calls.mono h hr
 |yield l=>
  obtain⟨fn,tmps,assign,body,h1,h2⟩:=h
  exact⟨fn,tmps,assign,body,h1,h2.mono hr⟩
 |_=>exact h.elim
def y21(P:Program):Fn→Prop
 |.func f=>uk P f
 |.yield _=>True
 |_=>False
def ACalls(P:Program)(f:Fn)(args:List AVal)(H:AHeap)(n:Nat)(Q:AVal→AHeap→Nat→Prop):Prop:=
 y21 P f∧∀ (I:Nat→Nat→Prop) (β:Id→Option CLoc) (w:World) (vs:List Value),Inv I β n H w→vs.length=args.length→(∀ (i:Nat) (x:AVal) (v:Value),args[i]?=some x→vs[i]?=some v→Rep I β n w x v) →
  CallsF P f vs.toArray w fun e w'=>∃r v H' n' I' β',e=.returned v∧Q r H' n'∧Inv I' β' n' H' w'∧Rep I' β' n' w' r v∧Ext I β n H w I' β' n' H' w'
theorem ACalls.mono{P:Program}{f:Fn}{args:List AVal}{H:AHeap}{n:Nat}{Q Q':AVal→AHeap→Nat→Prop}(h:ACalls P f args H n Q)(hq:∀r H' n',Q r H' n'→Q' r H' n'):ACalls P f args H n Q':=
 ⟨h.1,fun I β w vs hI hl hr=>(h.2 I β w vs hI hl hr).mono fun _ _ ⟨r,v,H',n',I',β',h1,h2,h3⟩=>⟨r,v,H',n',I',β',h1,hq _ _ _ h2,h3⟩⟩
def ACallsC(P:Program)(f:Fn)(first args caps:List AVal)(H:AHeap)(n:Nat)(K:AVal→AHeap→Nat→Prop):Prop:=
 match f with
 |.func g=>ACalls P (.func g) (first++args++caps) H n K
 |f=>caps=[]∧ACalls P f (first++args++caps) H n K
theorem ACallsC.mono{P:Program}{f:Fn}{first args caps:List AVal}{H:AHeap}{n:Nat}{Q Q':AVal→AHeap→Nat→Prop}(h:ACallsC P f first args caps H n Q)(hq:∀r H' n',Q r H' n'→Q' r H' n'):ACallsC P f first args caps H n Q':=by
 cases f with
 |func g=>exact ACalls.mono h hq
 |_=>exact⟨h.1,h.2.mono hq⟩
def Y2(H:AHeap)(s:Nat):AVal→Option (Prop×List (List AVal))
 |.isl s' es _=>some (s'=s,es)
 |.osl _ s' es=>some (s'=s,es)
 |.msl b s' off len _=>match H.get b with
  |some (.rows s'' es)=>some (s'=s∧s''=s∧off+len≤es.length,(es.drop off).take len)
  |_=>none
 |.val (.slice none 0 0)=>some (True,[])
 |.str l=>some (s=1,l.map fun c=>[.int .u8 (c.toNat:Int)])
 |_=>none
def Je:List (List AVal)→List (Nat×AVal)→Option (Prop×List (List AVal))
 |rows,[]=>some (True,rows)
 |rows,(i,x)::r=>match x.cells? with
  |some cs=>match Je (rows.set i cs) r with
   |some (p,rs)=>some (cs.length=((rows.getD i []).length)∧i<rows.length∧p,rs)
   |none=>none
  |none=>none
def evI(e:Env):List (Nat×LOpd)→List (Nat×AVal)
 |[]=>[]
 |(i,x)::r=>(i,x.ev e)::evI e r
def U1(e:Env):List (Nat×LOpd)→Prop
 |[]=>True
 |(_,x)::r=>x.need e∧U1 e r
def Ue:List AVal→UInt8
 |[.int _ m]=>UInt8.ofNat m.toNat
 |_=>0
def z06(y:AVal)(rows:List (List AVal)):Option (List (List AVal)):=
 match y with
 |.msl _ _ _ _ _=>uc rows
 |_=>some rows
def z81(s bytes:Nat)(H:AHeap)(n:Nat)(K:AVal→AHeap→Nat→Prop)(x:AVal)(rows2:List (List AVal)):Prop:=
 match x with
 |.val (.slice none 0 0)=>rows2.length*bytes≤140737488355328∧K (.osl (n,0) s rows2) (((n,0),.tok)::H) (n+1)
 |.isl s' es f=>s'=s∧f=true∧(es.length+rows2.length)*bytes≤140737488355328∧K (.osl (n,0) s (es++rows2)) (((n,0),.tok)::H) (n+1)
 |.osl tok s' es=>s'=s∧H.get tok=some .tok∧(es.length+rows2.length)*bytes≤140737488355328∧K (.osl (n,0) s (es++rows2)) (((n,0),.tok)::H.del tok) (n+1)
 |_=>False
def zpf(s bytes:Nat)(H:AHeap)(n:Nat)(K:AVal→AHeap→Nat→Prop)(x:AVal)(rows2:List (List AVal)):Prop:=
 match x with
 |.val (.slice none 0 0)=>(rows2=[]→K (.val (.slice none 0 0)) H n)∧(rows2≠[]→rows2.length*bytes≤140737488355328∧K (.msl (n,0) s 0 rows2.length false) (((n,0),.rows s rows2)::H) (n+1))
 |.isl s' es f=>s'=s∧(rows2=[]→K (.isl s' es f) H n)∧(rows2≠[]→f=true∧(es.length+rows2.length)*bytes≤140737488355328∧K (.msl (n,0) s 0 (es.length+rows2.length) false) (((n,0),.rows s (es++rows2))::H) (n+1))
 |.msl b s' off len f=>match H.get b with
  |some (.rows s'' es)=>s'=s∧s''=s∧off+len≤es.length∧(f=true→rows2=[]→K (.msl b s' off len f) H n) ∧
   ((f=true→rows2≠[])→(len+rows2.length)*bytes≤140737488355328 ∧
    K (.msl (n,0) s 0 (len+rows2.length) false) (((n,0),.rows s ((es.drop off).take len++rows2))::(if f then H else H.del b)) (n+1))
  |_=>False
 |_=>False
def ky(P:Program)(e:Env)(H:AHeap)(n:Nat)(K:AVal→AHeap→Nat→Prop):LOp→Prop
 |.alloc zs=>K (.ptr (n,0) 0 0) (((n,0),.one zs)::H) (n+1)
 |.allocR s zs=>K (.ptr (n,0) 0 0) (((n,0),.rows s (Jl s (zs.length / s) zs))::H) (n+1)
 |.allocB T el=>K (.ptr (n,0) 0 0) (((n,0),.bld T (n,1))::((n,1),.buf el [])::H) (n+1)
 |.box x=>match (x.ev e).cells? with
  |some cs=>x.need e∧K (.ptr (n,0) 0 0) (((n,0),.one cs)::H) (n+1)
  |none=>False
 |.mkSl vm s zs len parts=>match Je (List.replicate len zs) (evI e parts) with
  |some (p,rows)=>match vm with
   |true=>match uc rows with
    |some rows'=>zs.length=s∧U1 e parts∧p∧K (.isl s (rows'.map (wm zs)) true) H n
    |none=>False
   |false=>zs.length=s∧U1 e parts∧p∧∃rs,(rs=rows.map (wm zs)∨rs=rows)∧K (.msl (n,0) s 0 len true) (((n,0),.rows s rs)::H) (n+1)
  |none=>False
 |.store m a x=>match a.ev e,(x.ev e).cells? with
  |.ptr b i off,some cs=>match H.get b with
   |some (.rows s es)=>a.need e∧x.need e∧cs.length=m∧i<es.length∧off+m≤s∧K .any (H.set b (.rows s (es.set i (kj (es.getD i []) off cs)))) n
   |some (.one rs)=>a.need e∧x.need e∧cs.length=m∧i=0∧off+m≤rs.length∧K .any (H.set b (.one (kj rs off cs))) n
   |_=>False
  |_,_=>False
 |.conv (.s2b vm) x=>match x.ev e with
  |.str l=>match vm with
   |true=>x.need e∧K (.isl 1 (l.map fun c=>[.int .u8 (c.toNat:Int)]) false) H n
   |false=>x.need e∧K (.msl (n,0) 1 0 l.length false) (((n,0),.rows 1 (l.map fun c=>[.int .u8 (c.toNat:Int)]))::H) (n+1)
  |_=>False
 |.conv .b2s x=>match Y2 H 1 (x.ev e) with
  |some (p,rows)=>x.need e∧(∀l,x.ev e≠.str l)∧p∧(∀r∈rows,∃m,r=[.int .u8 m])∧K (.str (rows.map Ue)) H n
  |none=>False
 |.mkslice vm s bytes zs l c=>match l.ev e,c.ev e with
  |.int .i64 l',.int .i64 c'=>match vm with
   |true=>l.need e∧c.need e∧l'=0∧l'≤c'∧c'*bytes≤140737488355328∧K (.osl (n,0) s []) (((n,0),.tok)::H) (n+1)
   |false=>l.need e∧c.need e∧0≤l'∧l'≤c'∧c'*bytes≤140737488355328∧∃rows,(rows=List.replicate l'.toNat (wm zs zs)∨rows=List.replicate l'.toNat zs)∧K (.msl (n,0) s 0 l'.toNat (decide (c'=l'))) (((n,0),.rows s rows)::H) (n+1)
  |_,_=>False
 |.call f args=>Jh e args∧ACalls P f (evs e args) H n K
 |.callv x args=>match x.ev e with
  |.fn f first caps=>x.need e∧Jh e args∧ACallsC P f first (evs e args) caps H n K
  |_=>False
 |.app vm s bytes x y=>match Y2 H s (y.ev e) with
  |some (p,rows2)=>match vm with
   |true=>match z06 (y.ev e) rows2 with
    |some rows2'=>x.need e∧y.need e∧p∧z81 s bytes H n K (x.ev e) rows2'
    |none=>False
   |false=>x.need e∧y.need e∧p∧zpf s bytes H n K (x.ev e) rows2
  |none=>False
 |.copy s x y=>match x.ev e,Y2 H s (y.ev e) with
  |.msl b s' off len _,some (p,rows2)=>match H.get b with
   |some (.rows s'' es)=>x.need e∧y.need e∧p∧s'=s∧s''=s∧off+len≤es.length ∧
    K (.int .i64 ((min rows2.length len:Nat):Int)) (H.set b (.rows s (es.take off++rows2.take len++es.drop (off+min rows2.length len)))) n
   |_=>False
  |_,_=>False
 |.mkmap none=>K (.map (n,0)) (((n,0),.amap [])::H) (n+1)
 |.mset ks ka g zs m k x=>match m.ev e,zxu g zs (x.ev e) with
  |.map b,some y=>match H.get b with
   |some (.amap es)=>match zie ks (k.ev e) y es with
    |some es'=>m.need e∧k.need e∧x.need e∧Jb ks ka (k.ev e)=true∧K .any (H.set b (.amap es')) n
    |none=>False
   |_=>False
  |_,_=>False
 |.mdel ks ka m k=>match m.ev e with
  |.map b=>match H.get b with
   |some (.amap es)=>match z29 ks (k.ev e) es with
    |some es'=>m.need e∧k.need e∧Jb ks ka (k.ev e)=true∧K .any (H.set b (.amap es')) n
    |none=>False
   |_=>False
  |_=>False
 |.range x=>match x.ev e with
  |.map b=>match H.get b with
   |some (.amap es)=>x.need e∧∀ (arr:Array MapEntry) (ck:Nat),K (.ptr (n,0) 0 0) (((n,0),.itr (some b) arr ck [])::H.set b (.rmap es arr ck)) (n+1)
   |_=>False
  |.val (.map none)=>x.need e∧K (.ptr (n,0) 0 0) (((n,0),.itr none #[] 0 [])::H) (n+1)
  |_=>False
 |.next x=>match x.ev e with
  |.ptr i 0 0=>match H.get i with
   |some (.itr none _ _ _)=>x.need e∧K (.tup [.bool false]) H n
   |some (.itr (some b) arr ck seen)=>match H.get b with
    |some (.rmap es arr' ck')=>x.need e∧arr'=arr∧ck'=ck∧((∀j,j<es.length→j∈seen)→K (.tup [.bool false]) H n) ∧
     (∀j,j<es.length→j∉seen→K (.tup [.bool true,.any,.any]) (H.set i (.itr (some b) arr ck (j::seen))) n)
    |_=>False
   |_=>False
  |_=>False
 |.entry x=>match x.ev e with
  |.ptr i 0 0=>match H.get i with
   |some (.itr (some b) arr ck (j::seen))=>match H.get b with
    |some (.rmap es arr' ck')=>x.need e∧arr'=arr∧ck'=ck∧∃p,es[j]?=some p∧K (.tup [p.1,p.2]) H n
    |_=>False
   |_=>False
  |_=>False
 |_=>False
variable {P:Program}
section
variable {I:Nat→Nat→Prop} {β:Id→Option CLoc} {n:Nat} {H:AHeap} {w:World} {e:Env} {a:Act}
def Zk(I:Nat→Nat→Prop)(β:Id→Option CLoc)(n:Nat)(H:AHeap)(w:World)(K:AVal→AHeap→Nat→Prop)(v:Value)(w':World):Prop:=
 ∃r H' n' I' β',K r H' n'∧Inv I' β' n' H' w'∧Rep I' β' n' w' r v∧Ext I β n H w I' β' n' H' w'
theorem zkl{s:Nat}(hs:0<s){m k:Nat}(h:k<m*s):k / s<m∧k % s<s∧k=k / s*s+k % s:=
 ⟨(Nat.div_lt_iff_lt_mul hs).2 h,Nat.mod_lt _ hs,by rw[Nat.mul_comm];exact(Nat.div_add_mod k s).symm⟩
def y32(R:AVal→Value→Prop)(s:Nat)(es:List (List AVal))(arr:Array Value):Prop:=
 0+es.length*s≤arr.size∧(∀ (i:Nat) (r:List AVal),es[i]?=some r→r.length=s) ∧
 ∀ (i:Nat) (r:List AVal) (j:Nat) (x:AVal),es[i]?=some r→r[j]?=some x→∃v,arr[0+i*s+j]?=some v∧xp v=true∧R x v
theorem zdx{R:AVal→Value→Prop}{s:Nat}(hs:0<s)(b o:Nat)(es:List (List AVal))(hlen:∀ (i:Nat) (r:List AVal),es[i]?=some r→r.length=s)
 (hcell:∀ (i:Nat) (r:List AVal) (j:Nat) (x:AVal),es[i]?=some r→r[j]?=some x→∃v,w.cell? ⟨b,o+i*s+j,none⟩=some v∧xp v=true∧R x v) (m:Nat) (hm:m≤es.length) :
 ∃arr,(loadCells ⟨b,o,none⟩ (m*s)).run P w=.ok arr w∧arr.size=m*s∧(∀u∈arr.toList,xp u=true)∧y32 R s (es.take m) arr:=by
 have key:∀k,k<m*s→∃u,w.cell? ⟨b,o+k,none⟩=some u∧xp u=true∧∀x,(es.getD (k / s) [])[k % s]?=some x→R x u:=by
  intro k hk
  obtain⟨h1,h2,h3⟩:=zkl hs hk
  have hlt:k / s<es.length:=by omega
  have hr:es[k / s]?=some (es.getD (k / s) []):=by simp[List.getElem?_eq_getElem hlt]
  have hl:=hlen _ _ hr
  obtain⟨u,g1,g2,g3⟩:=hcell (k / s) _ (k % s) _ hr (List.getElem?_eq_getElem (by omega))
  refine⟨u,?_,g2,fun x hx=>?_⟩
  ·rw[←g1];congr 2;omega
  ·rw[List.getElem?_eq_getElem (by omega)] at hx
   simp only[Option.some.injEq] at hx
   rw[←hx];exact g3
 let f:Nat→Value:=fun k=>if h:k<m*s then Classical.choose (key k h) else default
 have hf:∀k (h:k<m*s),w.cell? ⟨b,o+k,none⟩=some (f k)∧xp (f k)=true∧∀x,(es.getD (k / s) [])[k % s]?=some x→R x (f k):=by
  intro k h
  simp only[f,h,dif_pos]
  exact Classical.choose_spec (key k h)
 refine⟨((List.range (m*s)).map f).toArray,Xm f (m*s) (fun k h=>(hf k h).1),by simp,?_,?_,?_,?_⟩
 ·intro u hu
  simp only[List.mem_map,List.mem_range] at hu
  obtain⟨k,hk,rfl⟩:=hu
  exact(hf k hk).2.1
 ·simp;rw[Nat.min_eq_left hm];exact Nat.le_refl _
 ·intro i r hi
  exact hlen i r (by rw[List.getElem?_take] at hi;split at hi;exact hi;cases hi)
 ·intro i r j x hi hj
  have hlt:i<m:=by
   rcases Nat.lt_or_ge i m with h|h
   ·exact h
   ·rw[List.getElem?_eq_none (by simp;omega)] at hi;cases hi
  rw[List.getElem?_take_of_lt hlt] at hi
  have hl:=hlen i r hi
  have hjs:j<s:=by
   rcases Nat.lt_or_ge j s with h|h
   ·exact h
   ·rw[List.getElem?_eq_none (by omega)] at hj;cases hj
  have hk:i*s+j<m*s:=by
   have:(i+1)*s≤m*s:=Nat.mul_le_mul_right _ (by omega)
   rw[Nat.add_mul] at this;omega
  refine⟨f (i*s+j),by simp[hk],(hf _ hk).2.1,(hf _ hk).2.2 x ?_⟩
  have e1:(i*s+j) / s=i:=by rw[Nat.mul_comm,Nat.mul_add_div hs,Nat.div_eq_of_lt hjs];rfl
  have e2:(i*s+j) % s=j:=by rw[Nat.mul_comm,Nat.mul_add_mod,Nat.mod_eq_of_lt hjs]
  rw[e1,e2,List.getD_eq_getElem?_getD,hi];exact hj
theorem RowsInI.up{s:Nat}{es:List (List AVal)}{arr:Array Value}(h:RowsInI I w s 0 es arr):RowsIn I β n w s 0 es arr:=
 ⟨h.1,h.2.1,fun i r j x hi hj=>by
  obtain⟨v,h1,h2,h3⟩:=h.2.2 i r j x hi hj
  exact⟨v,h1,h2,.imm _ _ h3⟩⟩
mutual
theorem Zi:∀ (x:AVal) {y:AVal},x.imm=some y→∀ {v:Value},Rep I β n w x v→RepI I w y v
 |.any,y,h,v,hr=>by simp[AVal.imm] at h
 |.bool b,y,h,v,hr=>by simp only[AVal.imm,Option.some.injEq] at h;subst h;cases hr;assumption
 |.int k m,y,h,v,hr=>by simp only[AVal.imm,Option.some.injEq] at h;subst h;cases hr;assumption
 |.str l,y,h,v,hr=>by simp only[AVal.imm,Option.some.injEq] at h;subst h;cases hr;assumption
 |.val u,y,h,v,hr=>by simp only[AVal.imm,Option.some.injEq] at h;subst h;cases hr;assumption
 |.isl s es f,y,h,v,hr=>by simp only[AVal.imm,Option.some.injEq] at h;subst h;cases hr;assumption
 |.iptr s es i off,y,h,v,hr=>by simp only[AVal.imm,Option.some.injEq] at h;subst h;cases hr;assumption
 |.osl tok s es,y,h,v,hr=>by
  simp only[AVal.imm,Option.some.injEq] at h
  subst h
  cases hr with
  |imm _ _ hr=>cases hr
  |osl _ _ _ _ _ hr=>exact hr
 |.ptr b i off,y,h,v,hr=>by simp[AVal.imm] at h
 |.msl b s off len f,y,h,v,hr=>by simp[AVal.imm] at h
 |.map b,y,h,v,hr=>by simp[AVal.imm] at h
 |.optp b,y,h,v,hr=>by simp[AVal.imm] at h
 |.cnd p x,y,h,v,hr=>by simp[AVal.imm] at h
 |.agg cs,y,h,v,hr=>by
  simp only[AVal.imm,Option.map_eq_some_iff] at h
  obtain⟨ds,hd,rfl⟩:=h
  obtain⟨vs,rfl,h1,h2,h3⟩:=hr.agg_inv
  obtain⟨k1,k2⟩:=Zm cs hd
  exact .agg ds vs (by omega) h2 (fun i y v hy hv=>k2 i y v hy (fun x hx=>h3 i x v hx hv))
 |.tup cs,y,h,v,hr=>by
  simp only[AVal.imm,Option.map_eq_some_iff] at h
  obtain⟨ds,hd,rfl⟩:=h
  obtain⟨k1,k2⟩:=Zm cs hd
  have:∃vs,v=.tuple vs∧vs.size=cs.length∧∀ (i:Nat) (y:AVal) (u:Value),cs[i]?=some y→vs[i]?=some u→Rep I β n w y u:=by
   cases hr with
   |tup _ vs h1 h2=>exact⟨vs,rfl,h1,h2⟩
   |imm _ _ hx=>
    cases hx with
    |tup _ vs h1 h2=>exact⟨vs,rfl,h1,fun i y u hy hu=>.imm _ _ (h2 i y u hy hu)⟩
  obtain⟨vs,rfl,h1,h3⟩:=this
  exact .tup ds vs (by omega) (fun i y v hy hv=>k2 i y v hy (fun x hx=>h3 i x v hx hv))
 |.fn f a c,y,h,v,hr=>by
  simp only[AVal.imm] at h
  split at h<;>try (cases h;done)
  rename_i a' c' ha hc
  simp only[Option.some.injEq] at h
  subst h
  obtain⟨k1,k2⟩:=Zm a ha
  obtain⟨l1,l2⟩:=Zm c hc
  have hfn:∃fs cs:Array Value,v=.func f fs cs∧fs.size=a.length∧cs.size=c.length∧(∀ (i:Nat) (x:AVal) (v:Value),a[i]?=some x→fs[i]?=some v→Rep I β n w x v)∧(∀ (i:Nat) (x:AVal) (v:Value),c[i]?=some x→cs[i]?=some v→Rep I β n w x v):=by
   cases hr with
   |fn _ _ _ fs cs h1 h2 h3 h4=>exact⟨fs,cs,rfl,h1,h2,h3,h4⟩
   |imm _ _ hr=>
    cases hr with
    |fn _ _ _ fs cs h1 h2 h3 h4=>exact⟨fs,cs,rfl,h1,h2,fun i x v p q=>.imm _ _ (h3 i x v p q),fun i x v p q=>.imm _ _ (h4 i x v p q)⟩
  obtain⟨fs,cs,rfl,h1,h2,h3,h4⟩:=hfn
  exact .fn f a' c' fs cs (by omega) (by omega) (fun i y v hy hv=>k2 i y v hy (fun x hx=>h3 i x v hx hv)) (fun i y v hy hv=>l2 i y v hy (fun x hx=>h4 i x v hx hv))
 |.ifc t x,y,h,v,hr=>by
  simp only[AVal.imm,Option.map_eq_some_iff] at h
  obtain⟨z,hz,rfl⟩:=h
  cases hr with
  |ifc _ _ u hr=>exact .ifc t z u (Zi x hz hr)
  |imm _ _ hr=>
   cases hr with
   |ifc _ _ u hr=>exact .ifc t z u (Zi x hz (.imm _ _ hr))
theorem Zm:∀ (cs:List AVal) {ds:List AVal},AVal.imm.immL cs=some ds→ds.length=cs.length∧∀ (i:Nat) (y:AVal) (v:Value),ds[i]?=some y→(∀x,cs[i]?=some x→Rep I β n w x v)→RepI I w y v
 |[],ds,h=>by simp only[AVal.imm.immL,Option.some.injEq] at h;subst h;exact⟨rfl,fun i y v hy _=>by simp at hy⟩
 |x::cs,ds,h=>by
  simp only[AVal.imm.immL] at h
  split at h<;>try (cases h;done)
  rename_i y l hy hl
  simp only[Option.some.injEq] at h
  subst h
  obtain⟨k1,k2⟩:=Zm cs hl
  refine⟨by simp[k1],fun i z v hz hv=>?_⟩
  cases i with
  |zero=>simp only[List.getElem?_cons_zero,Option.some.injEq] at hz;subst hz;exact Zi x hy (hv x rfl)
  |succ i=>exact k2 i z v (by simpa using hz) (fun x hx=>hv x (by simpa using hx))
end
theorem Xr:∀ {es es':List (List AVal)},uc es=some es'→es'.length=es.length∧∀ (i:Nat) (r r':List AVal),es[i]?=some r→es'[i]?=some r'→AVal.imm.immL r=some r'
 |[],es',h=>by simp only[uc,Option.some.injEq] at h;subst h;exact⟨rfl,fun i r r' hr _=>by simp at hr⟩
 |r::rs,es',h=>by
  simp only[uc] at h
  split at h<;>try (cases h;done)
  rename_i y l hy hl
  simp only[Option.some.injEq] at h
  subst h
  obtain⟨k1,k2⟩:=Xr hl
  refine⟨by simp[k1],fun i a b ha hb=>?_⟩
  cases i with
  |zero=>simp only[List.getElem?_cons_zero,Option.some.injEq] at ha hb;subst ha;subst hb;exact hy
  |succ i=>exact k2 i a b (by simpa using ha) (by simpa using hb)
theorem z75{es es':List (List AVal)}(m:Nat)(h:uc es=some es'):uc (es.take m)=some (es'.take m):=by
 induction es generalizing es' m with
 |nil=>simp only[uc,Option.some.injEq] at h;subst h;simp[uc]
 |cons r rs ih=>
  simp only[uc] at h
  split at h<;>try (cases h;done)
  rename_i y l hy hl
  simp only[Option.some.injEq] at h
  subst h
  cases m with
  |zero=>simp[uc]
  |succ m=>simp only[List.take_succ_cons,uc,hy,ih m hl]
theorem z4g{s base:Nat}{es es':List (List AVal)}{arr:Array Value}(h:RowsIn I β n w s base es arr)(he:uc es=some es'):RowsInI I w s base es' arr:=by
 obtain⟨h1,h2,h3⟩:=h
 obtain⟨k1,k2⟩:=Xr he
 have back:∀ (i:Nat) (r':List AVal),es'[i]?=some r'→∃r,es[i]?=some r∧AVal.imm.immL r=some r':=by
  intro i r' hr'
  have hlt:i<es.length:=by
   rcases Nat.lt_or_ge i es'.length with h|h
   ·omega
   ·rw[List.getElem?_eq_none h] at hr';cases hr'
  exact⟨es[i],List.getElem?_eq_getElem hlt,k2 i _ r' (List.getElem?_eq_getElem hlt) hr'⟩
 refine⟨by rw[k1];exact h1,fun i r' hr'=>?_,fun i r' j y hr' hy=>?_⟩
 ·obtain⟨r,hr,hi⟩:=back i r' hr'
  rw[(Zm (I:=I) (β:=β) (n:=n) (w:=w) r hi).1];exact h2 i r hr
 ·obtain⟨r,hr,hi⟩:=back i r' hr'
  obtain⟨l1,l2⟩:=Zm (I:=I) (β:=β) (n:=n) (w:=w) r hi
  have hlt:j<r.length:=by
   rcases Nat.lt_or_ge j r'.length with h|h
   ·omega
   ·rw[List.getElem?_eq_none h] at hy;cases hy
  obtain⟨v,g1,g2,g3⟩:=h3 i r j r[j] hr (List.getElem?_eq_getElem hlt)
  refine⟨v,g1,g2,l2 j y v hy (fun x hx=>?_)⟩
  rw[List.getElem?_eq_getElem hlt] at hx
  simp only[Option.some.injEq] at hx
  rw[←hx];exact g3
theorem zpx(l:List UInt8)(m:Nat)(hm':m≤l.length):(Builtin.firstCells 1 m (.string ⟨⟨l⟩⟩)).run P w=.ok ((l.take m).map fun b=>Value.int .u8 (b.toNat:Int)).toArray w ∧
 RowsInI I w 1 0 ((l.map fun c=>[AVal.int .u8 (c.toNat:Int)]).take m) ((l.take m).map fun b=>Value.int .u8 (b.toNat:Int)).toArray:=by
 have e1:((⟨⟨l⟩⟩:ByteArray).extract 0 m).data.map (fun b=>Value.int .u8 (b.toNat:Int))=((l.take m).map fun b=>Value.int .u8 (b.toNat:Int)).toArray:=by
  rw[Vm];simp
 refine⟨by simp only[Builtin.firstCells,Sem.run_pure,e1],?_,?_,?_⟩
 ·simp
 ·intro i r hi
  rw[←List.map_take,List.getElem?_map] at hi
  cases hl:(l.take m)[i]? with
  |none=>rw[hl] at hi;cases hi
  |some c=>rw[hl] at hi;simp at hi;rw[←hi];rfl
 ·intro i r j x hi hj
  rw[←List.map_take,List.getElem?_map] at hi
  cases hl:(l.take m)[i]? with
  |none=>rw[hl] at hi;cases hi
  |some c=>
   rw[hl] at hi
   simp at hi
   subst hi
   cases j with
   |succ j=>simp at hj
   |zero=>
    simp at hj
    subst hj
    exact⟨.int .u8 (c.toNat:Int),by rw[List.getElem?_toArray,List.getElem?_map];simp only[Nat.zero_add,Nat.mul_one,Nat.add_zero,hl,Option.map_some],rfl,.int _ _⟩
theorem uv(hI:Inv I β n H w){s:Nat}(hs:0<s){x:AVal}{v:Value}(hx:Rep I β n w x v){p:Prop}{rows:List (List AVal)}(h:Y2 H s x=some (p,rows))(hp:p) :
 (Builtin.lenOf v).run P w=.ok rows.length w∧∀m,m≤rows.length→∃arr,(Builtin.firstCells s m v).run P w=.ok arr w∧arr.size=m*s∧(∀u∈arr.toList,xp u=true)∧RowsIn I β n w s 0 (rows.take m) arr ∧
  ∀rows',z06 x rows=some rows'→RowsInI I w s 0 (rows'.take m) arr:=by
 have isl:∀ {s':Nat} {es:List (List AVal)} {f:Bool} {v:Value},RepI I w (.isl s' es f) v→s'=s→(Builtin.lenOf v).run P w=.ok es.length w∧∀m,m≤es.length→∃arr,(Builtin.firstCells s m v).run P w=.ok arr w∧arr.size=m*s∧(∀u∈arr.toList,xp u=true)∧RowsInI I w s 0 (es.take m) arr:=by
  intro s' es f v hx hp
  subst hp
  cases hx with
  |islNil=>exact⟨rfl,fun m hm=>⟨#[],rfl,by simp at hm;simp[hm],by simp,by simp[RowsInI]⟩⟩
  |islEmpty _ _ ad cap _=>
   refine⟨rfl,fun m hm=>?_⟩
   have:m=0:=by simpa using hm
   subst this
   exact⟨#[],by simp[Builtin.firstCells,loadCells,loadCellsFrom],by simp,by simp,by simp[RowsInI]⟩
  |isl _ _ _ b o cap vf hb hcap hf hlen hcell hic hrep=>
   refine⟨rfl,fun m hm=>?_⟩
   exact zdx (R:=RepI I w) hs b o es hlen (fun i r j x hi hj=>⟨_,hcell i r j x hi hj,hic i r j x hi hj,hrep i r j x hi hj⟩) m hm
 cases x<;>simp only[Y2] at h<;>try (cases h;done)
 case isl s' es f=>
  simp only[Option.some.injEq,Prod.mk.injEq] at h
  obtain⟨rfl,rfl⟩:=h
  cases hx with
  |imm _ _ hx=>
   obtain⟨k1,k2⟩:=isl hx hp
   refine⟨k1,fun m hm=>?_⟩
   obtain⟨arr,g1,g2,g3,g4⟩:=k2 m hm
   exact⟨arr,g1,g2,g3,g4.up,fun rows' hr=>by simp only[z06,Option.some.injEq] at hr;subst hr;exact g4⟩
 case osl tok s' es=>
  simp only[Option.some.injEq,Prod.mk.injEq] at h
  obtain⟨rfl,rfl⟩:=h
  have hx':RepI I w (.isl s' es false) v:=by
   cases hx with
   |imm _ _ hx=>cases hx
   |osl _ _ _ _ _ hx=>exact hx
  obtain⟨k1,k2⟩:=isl hx' hp
  refine⟨k1,fun m hm=>?_⟩
  obtain⟨arr,g1,g2,g3,g4⟩:=k2 m hm
  exact⟨arr,g1,g2,g3,g4.up,fun rows' hr=>by simp only[z06,Option.some.injEq] at hr;subst hr;exact g4⟩
 case msl b s' off len f=>
  split at h<;>try (cases h;done)
  rename_i s'' es hb
  simp only[Option.some.injEq,Prod.mk.injEq] at h
  obtain⟨rfl,rfl⟩:=h
  obtain⟨rfl,rfl,hlen0⟩:=hp
  obtain⟨c,hc,hcs,_,_,_,hbase,hlen,hcell⟩:=hI.blocks b _ hb
  have hrl:((es.drop off).take len).length=len:=by simp;omega
  rw[hrl]
  cases hx with
  |imm _ _ hx=>cases hx
  |msl _ _ _ _ _ ad cap hbn hcap hf hp=>
   refine⟨rfl,fun m hm=>?_⟩
   by_cases hcz:cap=0
   ·have:m=0:=by omega
    subst this
    exact⟨#[],by cases ad<;>simp[Builtin.firstCells,loadCells,loadCellsFrom],by simp,by simp,by simp[RowsIn],fun _ _=>by simp[RowsInI]⟩
   ·obtain⟨g1,g2⟩:=(hp c hc).2 hcz
    subst g1
    replace hcap:=hcap.1
    have hget:∀ (i:Nat) (r:List AVal),((es.drop off).take len)[i]?=some r→es[off+i]?=some r:=by
     intro i r hi
     rw[List.getElem?_take] at hi
     split at hi
     ·rwa [List.getElem?_drop] at hi
     ·cases hi
    obtain⟨arr,k1,k2,k3,k4⟩:=zdx (R:=Rep I β n w) (P:=P) hs c.blk (c.base+off*s'') ((es.drop off).take len) (fun i r hi=>hlen _ r (hget i r hi)) (fun i r j x hi hj=>by
     obtain⟨v,k1,k2,k3⟩:=hcell (off+i) r j x (hget i r hi) hj
     refine⟨v,?_,k2,k3⟩
     rw[←k1,Nat.add_mul,Nat.add_assoc c.base]) m (by omega)
    exact⟨arr,k1,k2,k3,k4,fun rows' hr=>z4g k4 (z75 m hr)⟩
 case val u=>
  split at h<;>(try (rename_i heq;cases heq;done))<;>try (cases h;done)
  rename_i heq
  cases heq
  simp only[Option.some.injEq,Prod.mk.injEq] at h
  obtain⟨_,rfl⟩:=h
  obtain rfl:=hx.val_inv
  exact⟨rfl,fun m hm=>⟨#[],rfl,by simp at hm;simp[hm],by simp,by simp[RowsIn],fun rows' hr=>by simp only[z06,Option.some.injEq] at hr;subst hr;simp[RowsInI]⟩⟩
 case str l=>
  simp only[Option.some.injEq,Prod.mk.injEq] at h
  obtain⟨rfl,rfl⟩:=h
  subst hp
  obtain rfl:=hx.str_inv
  refine⟨by simp[Builtin.lenOf];rfl,fun m hm=>?_⟩
  have hm':m≤l.length:=by simpa using hm
  obtain⟨g1,g2⟩:=zpx (P:=P) (w:=w) (I:=I) l m hm'
  refine⟨_,g1,by simp;omega,?_,g2.up,fun rows' hr=>by simp only[z06,Option.some.injEq] at hr;subst hr;exact g2⟩
  intro u hu
  simp only[List.mem_map] at hu
  obtain⟨b,_,rfl⟩:=hu
  rfl
end
end Go.Fx
