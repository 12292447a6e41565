/-
  Own framework.
-/
import Derived.Test.YtlilpmnmedmjaaaGreatDoorFxRf
namespace Go.Fx
set_option linter.unusedVariables false
section
variable {P:Program} {I:Nat→Nat→Prop} {β:Id→Option CLoc} {n:Nat} {H:AHeap} {w:World}
def zou:Exit→Option Code
 |.ret=>some .ret
 |.exit id=>some (.exit id)
 |_=>none
def zpb(r:Loop)(code:Code):Loop:={ r with state:=.done,pending:=some code }
def y24(k:Id)(l:Nat)(r:Loop)(K:AVal→AHeap→Nat→Prop):Exit→Env→AHeap→Nat→Prop:=
 fun ex e2 H2 n2=>(∃code,zou ex=some code∧∃e2',H2.get k=some (.lrec l (busy r) e2')∧K (.bool false) (H2.set k (.lrec l (zpb r code) e2')) n2)∨(ex=.normal∧∃e2',H2.get k=some (.lrec l (busy r) e2')∧K (.bool true) (H2.set k (.lrec l r e2')) n2)
theorem zg4{N:Lay}{ps:List Nat}{a b:LCode}{r:Loop}{e:Env}{l:Nat}{k:Id}{args:List AVal}{K:AVal→AHeap→Nat→Prop}(hr:RecOf P N ps a b r)(hk:H.get k=some (.lrec l r e))(hps:(ps.all fun p=>Nat.blt p N.n)=true)(hlen:args.length=ps.length)
 (h:LWp P (zpd N) n a (y3m k l r P N n b (y24 k l r K)) (zj5 e ps args) H n) :
 ACalls P (.yield l) args H n K:=by
 refine⟨trivial,fun I β w vs hI hl hrep=>?_⟩
 obtain⟨c,hc,h0,h1,h2,h3,h4⟩:=hI.blocks k _ hk
 rw[h2] at h3
 have hpl:r.params.size=ps.length:=by rw[←hr.pa,Array.length_toList]
 have hlt:∀p∈ps,p<r.tmps.size:=fun p hp=>by
  rw[hr.sz]
  rw[List.all_eq_true] at hps
  have:=hps p hp
  rwa [Nat.blt_eq] at this
 refine⟨r.fn,_,r.assign,r.body,run_yield h3 (by simp only[List.size_toArray];omega),roundIn_of_wpIn trivial ?_⟩
 refine h r.assign hr.la (some l) (fun h=>by cases h) I β H w I β w _ (Ext.refl I β n H w hI.fresh) hI ?_ ?_ (Dfr.nil _ _ _) _ ?_
 ·have:=z8v (n:=n) (w:=w) (I:=I) (β:=β) hlt hlen (by rw[hl,hlen]) h4 hrep
  intro t
  have h5:=Kk r.params vs.toArray r.tmps
  rw[hr.pa] at h5
  show Rep I β n w _ (((r.params.zip vs.toArray).foldl (fun tmps (x:Tmp×Value)=>tmps.setIfInBounds x.1 x.2) r.tmps).getD t undef)
  rw[h5]
  exact this t
 ·show((r.params.zip vs.toArray).foldl (fun tmps (x:Tmp×Value)=>tmps.setIfInBounds x.1 x.2) r.tmps).size=N.n
  rw[Kk,Wc]
  exact hr.sz
 intro ex e1 H1 n1 I1 β1 w1 a1 hq hI1 hE1 hN1 hD1 hX1
 obtain⟨rfl,e1',hk1,hb⟩:=hq
 obtain⟨q1,q2,q3⟩:=z14 (r':=busy r) hI1 hk1 rfl
 refine⟨_,run_beginRound q3 hr.st,?_⟩
 refine hb r.body hr.lb (some l) (fun h=>by cases h) I β H w I1 β1 _ a1 (hX1.trans q2) q1 (fun t=>(hE1 t).mono q2 hI1) hN1 (hD1.mono hI1 q2) _ ?_
 intro ex e2 H2 n2 I2 β2 w2 a2 hq hI2 hE2 hN2 hD2 hX2
 rcases hq with⟨code,hj,e2',hk2,hK⟩|⟨rfl,e2',hk2,hK⟩
 ·obtain⟨p1,p2,p3⟩:=z14 (r':=zpb r code) hI2 hk2 rfl
  have hrr:({ busy r with state:=if(some code).isNone then LoopState.ready else .done,pending:=some code }:Loop)=zpb r code:=by
   cases r
   simp[busy,zpb]
  have hrun:=run_endRound (P:=P) (some code) p3
  rw[hrr] at hrun
  cases ex with
  |ret=>cases hj;exact⟨_,_,hrun,.bool false,.bool false,_,n2,I2,β2,rfl,hK,p1,.imm _ _ (.bool false),hX2.trans p2⟩
  |exit id=>cases hj;exact⟨_,_,hrun,.bool false,.bool false,_,n2,I2,β2,rfl,hK,p1,.imm _ _ (.bool false),hX2.trans p2⟩
  |_=>cases hj
 obtain⟨p1,p2,p3⟩:=z14 (r':=r) hI2 hk2 rfl
 have hrr:({ busy r with state:=if(none:Option Code).isNone then LoopState.ready else .done,pending:=none }:Loop)=r:=by
  have:=hr.st
  have:=hr.pe
  cases r
  simp_all [busy]
 have hrun:=run_endRound (P:=P) none p3
 rw[hrr] at hrun
 exact⟨_,_,hrun,.bool true,.bool true,_,n2,I2,β2,rfl,hK,p1,.imm _ _ (.bool true),hX2.trans p2⟩
theorem zr7{N:Lay}{n0:Nat}{g:LOpd}{ps:List Nat}{a b:LCode}{e:Env}(e1:Env){Q:Exit→Env→AHeap→Nat→Prop}{gf:FuncId}{lb:List AVal}(hg:g.ev e=.fn (.func gf) [] lb)(hn:g.need e)(hs:SubE e1 e)
 (hcall:∀ (l:Nat) (r:Loop),RecOf P N ps a b r→ACalls P (.func gf) (.fn (.yield l) [] []::lb) (((n,0),.lrec l r e1)::H) (n+1) (fun _ H' n'=>∃k e',(H'.get k=some (.lrec l r e')∧Q .normal e' (H'.del k) n')∨∃ex code,zou ex=some code∧H'.get k=some (.lrec l (zpb r code) e')∧Q ex e' (H'.del k) n')) :
 LWp P N n0 (.rng g ps a b) Q e H n:=by
 intro c hc ro hro I0 β0 H0 w0 I β w aa hX hI hE hN hD QQ hQ
 cases c with
 |rangeFunc g' ps' x y=>
  simp only[y1] at hc
  split at hc<;>try (cases hc;done)
  rename_i g2 a2 b2 hrd hgl hal hbl
  simp only[Option.some.injEq,LCode.rng.injEq] at hc
  obtain⟨rfl,hps,rfl,rfl⟩:=hc
  obtain rfl:=hro hrd
  have hrg:=ya hE hgl hn
  rw[hg] at hrg
  obtain⟨cs,hf,k2,k4⟩:∃cs:Array Value,aa.eval g'=.func (.func gf) #[] cs∧cs.size=lb.length∧(∀ (i:Nat) (x:AVal) (v:Value),lb[i]?=some x→cs[i]?=some v→Rep I β n w x v):=by
   revert hrg
   generalize aa.eval g'=fv
   intro hr
   cases hr with
   |fn _ _ _ fs cs h1 h2 h3 h4=>
    have:fs=#[]:=Array.size_eq_zero_iff.1 (by simpa using h1)
    subst this
    exact⟨cs,rfl,h2,h4⟩
   |imm _ _ hr=>
    cases hr with
    |fn _ _ _ fs cs h1 h2 h3 h4=>
     have:fs=#[]:=Array.size_eq_zero_iff.1 (by simpa using h1)
     subst this
     exact⟨cs,rfl,h2,fun i x v p q=>.imm _ _ (h4 i x v p q)⟩
  refine wpIn_rangeFunc (fun fn _=>?_)
  obtain⟨r,hrec⟩:∃r:Loop,r={ state:=.ready,pending:=none,fn,tmps:=aa.tmps,params:=ps',assign:=x,body:=y,defers:=w.heap.size }:=⟨_,rfl⟩
  have hR:RecOf P N ps a2 b2 r:=by subst hrec;exact⟨rfl,rfl,hps,hal,hbl,hN⟩
  have htm:r.tmps=aa.tmps:=by subst hrec;rfl
  obtain⟨i0,x0⟩:=zn3 hI (.deferred (some []))
  have hE0:∀t,Rep I β n (w.alloc (.deferred (some []))) (Env.get e1 t) (r.tmps.getD t undef):=fun t=>by
   rw[htm]
   rcases hs.get t with h|h
   ·rw[h];exact .any _
   ·rw[h];exact(hE t).mono x0 hI
  obtain⟨i1,x1⟩:=zgn i0 (r:=r) hE0
  have hsz:(w.alloc (.deferred (some []))).heap.size=w.heap.size+1:=by simp
  rw[hsz] at i1 x1
  have hc:=hcall (w.heap.size+1) r hR
  obtain⟨f0,g1,g2,g3⟩:=hc.1
  have hD1:Dfr P w0.heap.size (w.alloc (.deferred (some []))) ({ target:=.collected w.heap.size,args:=#[] }::aa.defers):=by
   refine⟨List.pairwise_cons.2 ⟨fun d' hm=>.inl fun he=>?_,hD.1⟩,fun d hd=>?_⟩
   ·subst he
    rcases hD.2 _ hm with hid|⟨q,h1,h2,h3⟩
    ·obtain⟨_,_,_,_,h,_⟩:=hid w;cases h
    simp only[Deferred.mk.injEq,Target.collected.injEq,and_true] at h1
    subst h1
    rw[Array.getElem?_eq_none (Nat.le_refl _)] at h3
    cases h3
   ·rcases List.mem_cons.1 hd with rfl|hd
    ·exact .inr ⟨w.heap.size,rfl,hX.size,World.alloc_heap_new w _⟩
    ·exact(hD.mono hI x0).2 d hd
  refine⟨w.heap.size+1,[{ target:=.collected w.heap.size,args:=#[] }],(w.alloc (.deferred (some []))).alloc (.loop r),{ target:=.fn (.func gf) cs,args:=#[.func (.yield (w.heap.size+1)) #[] #[]] },(w.alloc (.deferred (some []))).alloc (.loop r),gf,
   #[.func (.yield (w.heap.size+1)) #[] #[]]++cs,(w.alloc (.deferred (some []))).alloc (.loop r),?_,?_,fun _ _=>trivial,?_,fun h=>(by cases h),?_⟩
  ·rw[hrec];exact run_enterLoop_outer _ _ _ _ _
  ·simp only[resolve,hf]
   simp[go_sem]
  ·have g4:f0.body.isNone=false:=by cases hb:f0.body<;>simp[hb] at g2 ⊢
   simp only[invoke]
   unfold callFunc
   simp only[Sem.run_bind,run_program,Result.andThen_ok,g1,g3,g4,Bool.false_eq_true,if_false,Sem.run_pure]
  ·refine(zbg (ro:=none)).2 ?_
   have hq:=hc.2 I _ _ (#[Value.func (.yield (w.heap.size+1)) #[] #[]]++cs).toList i1 (by simp;omega) (fun(i:Nat) (u:AVal) (v:Value) hu hv=>by
    cases i with
    |zero=>
     simp only[Array.toList_append,List.cons_append,List.nil_append,List.getElem?_cons_zero,Option.some.injEq] at hu hv
     subst hu;subst hv
     exact Rep.fn (.yield (w.heap.size+1)) [] [] #[] #[] rfl rfl (fun i x v h=>by cases i<;>cases h) (fun i x v h=>by cases i<;>cases h)
    |succ i=>
     simp only[Array.toList_append,List.cons_append,List.nil_append,List.getElem?_cons_succ] at hu hv
     exact((k4 i u v hu (by rw[←Array.getElem?_toList];exact hv)).mono x0 hI).mono x1 i0)
   rw[Array.toArray_toList] at hq
   refine Calls.mono hq ?_
   rintro ee w3 ⟨rv,v,H',n',I',β',rfl,⟨k,e',hk⟩,hI',hr',hx'⟩
   rcases hk with⟨hk,hK⟩|⟨ex,code,hj,hk,hK⟩
   ·obtain⟨cl,hcl,h0,h1,h2,h3,h4⟩:=hI'.blocks k _ hk
    rw[h2] at h3
    have hend:=run_endLoop (P:=P) h3 (by rw[hR.st];simp)
    obtain⟨rx,hrx⟩:∃rx:Loop,rx={ r with state:=.exhausted }:=⟨_,rfl⟩
    rw[←hrx,hR.pe] at hend
    obtain⟨q1,q2,_⟩:=z14 (r':=rx) hI' hk (by rw[hrx])
    refine⟨none,_,hend,?_⟩
    have hsub:∀id blk,(H'.del k).get id=some blk→(H'.set k (.lrec (w.heap.size+1) rx e')).get id=some blk:=by
     intro id blk hid
     rw[AHeap.get_del] at hid
     rw[AHeap.get_set]
     split at hid
     ·cases hid
     ·rename_i hne;rw[if_neg hne];exact hid
    refine hQ .normal e' (H'.del k) n' I' β' _ _ hK (q1.sub hsub) (fun t=>?_) hN ?_ ((((((hX.trans x0).trans x1).trans hx').trans q2).sub hsub))
    ·have:=(h4 t).mono q2 hI'
     rw[htm] at this
     exact this
    ·exact(((hD1.mono i0 x1).mono i1 hx').mono hI' q2)
   ·obtain⟨cl,hcl,h0,h1,h2,h3,h4⟩:=hI'.blocks k _ hk
    rw[h2] at h3
    have hend:=run_endLoop (P:=P) h3 (by simp[zpb])
    obtain⟨rx,hrx⟩:∃rx:Loop,rx={ zpb r code with state:=.exhausted }:=⟨_,rfl⟩
    rw[←hrx,show(zpb r code).pending=some code from rfl] at hend
    obtain⟨q1,q2,_⟩:=z14 (r':=rx) hI' hk (by rw[hrx])
    refine⟨some code,_,hend,?_⟩
    have hsub:∀id blk,(H'.del k).get id=some blk→(H'.set k (.lrec (w.heap.size+1) rx e')).get id=some blk:=by
     intro id blk hid
     rw[AHeap.get_del] at hid
     rw[AHeap.get_set]
     split at hid
     ·cases hid
     ·rename_i hne;rw[if_neg hne];exact hid
    have fin:QQ ex { aa with defers:={ target:=.collected w.heap.size,args:=#[] }::aa.defers } _:=hQ ex e' (H'.del k) n' I' β' _ _ hK (q1.sub hsub) (fun t=>by
     have:=(h4 t).mono q2 hI'
     rw[show(zpb r code).tmps=aa.tmps from htm] at this
     exact this) hN (((hD1.mono i0 x1).mono i1 hx').mono hI' q2) ((((((hX.trans x0).trans x1).trans hx').trans q2).sub hsub))
    cases ex with
    |ret=>cases hj;exact wpIn_ret fin
    |exit id=>cases hj;exact wpIn_exit fin
    |_=>cases hj
 |skip=>simp[y1] at hc
 |region id ops draw=>simp only[y1] at hc;split at hc<;>(try split at hc)<;>(try split at hc)<;>(try split at hc)<;>(try split at hc)<;>(first|(simp at hc;done)|(rcases ub hc with⟨_,h⟩|⟨_,_,_,h⟩<;>cases h))
 |seq a b=>simp only[y1] at hc;split at hc<;>simp at hc
 |cond c a b=>simp only[y1] at hc;split at hc<;>simp at hc
 |block id c=>simp[y1] at hc
 |loop c=>simp[y1] at hc
 |exit id=>simp[y1] at hc
 |ret=>simp[y1] at hc
 |_=>cases hc
end
end Go.Fx
