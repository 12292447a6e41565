/-
  Own framework.
-/
import Derived.Test.YtlilpmnmedmjaaaGreatDoorFxMa
namespace Go.Fx
set_option linter.unusedVariables false
variable {P:Program}
section
variable {I:Nat→Nat→Prop} {β:Id→Option CLoc} {n:Nat} {H:AHeap} {w:World} {e:Env} {a:Act}
theorem XR.and_ok{p side:Prop}{x:XR}{y:AVal}(h:x.and p=.ok side y)(hs:side):∃s0,x=.ok s0 y∧p∧s0:=by
 cases x with
 |bad=>cases h
 |ok s0 v=>
  simp only[XR.and,XR.ok.injEq] at h
  obtain⟨rfl,rfl⟩:=h
  exact⟨s0,rfl,hs.1,hs.2⟩
theorem zgo{c x y z:AVal}{vc vx vy:Value}{na nb:Prop}(hc:Rep I β n w c vc)(hx:na→Rep I β n w x vx)(hy:nb→Rep I β n w y vy){side:Prop}(h:zpq na nb c x y=.ok side z)(hs:side) :
 ∃r,(do pure (.value (if ←asBool vc then vx else vy)):Sem Next).run P w=.ok (.value r) w∧Rep I β n w z r:=by
 cases c<;>simp only[zpq] at h<;>try (cases h;done)
 rename_i b
 simp only[XR.ok.injEq] at h
 obtain⟨rfl,rfl⟩:=h
 obtain rfl:=hc.bool_inv
 cases b with
 |true=>exact⟨vx,by simp[asBool],hx (hs.1 rfl)⟩
 |false=>exact⟨vy,by simp[asBool],hy (hs.2 rfl)⟩
theorem V1(hI:Inv I β n H w)(hE:RepEnv I β n w e a){vm:Bool}{o:Oper}{lo:LOp}(hl:xq P vm o.op=some lo){side:Prop}{y:AVal}(h:w5 e H lo=.ok side y)(hs:side) :
 ∃r,(execOp a.eval o).run P w=.ok (.value r) w∧Rep I β n w y r:=by
 obtain⟨dst,op,type,pos,after,guard⟩:=o
 simp only at hl
 have val:∀ {s:Sem Value} {r:Value},s.run P w=.ok r w→(do pure (.value (←s)):Sem Next).run P w=.ok (.value r) w:=by
  intro s r hr
  rw[Sem.run_bind,hr];rfl
 cases op with
 |move x=>
  simp only[xq,Option.map_eq_some_iff] at hl
  obtain⟨x',hx',rfl⟩:=hl
  simp only[w5,XR.ok.injEq] at h
  obtain⟨rfl,rfl⟩:=h
  exact⟨_,rfl,ya hE hx' hs⟩
 |assign x=>
  simp only[xq,Option.map_eq_some_iff] at hl
  obtain⟨x',hx',rfl⟩:=hl
  simp only[w5,XR.ok.injEq] at h
  obtain⟨rfl,rfl⟩:=h
  exact⟨_,rfl,ya hE hx' hs⟩
 |pick c x z=>
  simp only[xq] at hl
  split at hl<;>try (cases hl;done)
  rename_i c' x' z' hc hx hz
  simp only[Option.some.injEq] at hl
  subst hl
  obtain⟨s0,h0,hn,hs0⟩:=XR.and_ok h hs
  exact zgo (ya hE hc hn) (ya hE hx) (ya hE hz) h0 hs0
 |build t parts=>
  simp only[xq] at hl
  split at hl
  ·rename_i fs ht
   split at hl<;>try (cases hl;done)
   rename_i z l hz hpl
   split at hl<;>try (cases hl;done)
   rename_i hall
   simp only[Option.some.injEq] at hl
   subst hl
   obtain⟨s0,h0,hn,hs0⟩:=XR.and_ok h hs
   obtain⟨r,hr,hrep⟩:=z6y ht hz hpl hall hE hn h0 hs0
   exact⟨r,val hr,hrep⟩
  ·rename_i m c ht
   split at hl<;>try (cases hl;done)
   rename_i z s hz hsz
   simp only[Option.map_eq_some_iff] at hl
   obtain⟨l,hpl,rfl⟩:=hl
   obtain⟨s0,h0,hn,hs0⟩:=XR.and_ok h hs
   obtain⟨r,hr,hrep⟩:=zcl ht hz hsz hpl hE hn h0 hs0
   exact⟨r,val hr,hrep⟩
  ·cases hl
 |load t x=>
  simp only[xq] at hl
  split at hl<;>try (cases hl;done)
  rename_i g m x' hg hm hx
  split at hl<;>try (cases hl;done)
  rename_i hgm
  simp only[Option.some.injEq] at hl
  subst hl
  obtain⟨s0,h0,hn,hs0⟩:=XR.and_ok h hs
  obtain⟨r,hr,hrep⟩:=z2m hg hm (by simpa using hgm) hI (ya hE hx hn) h0 hs0
  exact⟨r,val hr,hrep⟩
 |nilCheck x=>
  simp only[xq,Option.map_eq_some_iff] at hl
  obtain⟨x',hx',rfl⟩:=hl
  obtain⟨s0,h0,hn,hs0⟩:=XR.and_ok h hs
  obtain⟨h1,h2⟩:=z7q (ya hE hx' hn) h0
  refine⟨_,?_,h1⟩
  rcases h2 with⟨ad,h2⟩|⟨f,fs,cs,h2⟩<;>simp[execOp,h2]
 |binOp op t x z zt=>
  simp only[xq] at hl
  split at hl<;>try (cases hl;done)
  rename_i x' z' hx hz
  have bin:lo=.bin op x' z'→∃r,(execOp a.eval { dst:=dst,op:=.binOp op t x z zt,type:=type,pos:=pos,after:=after,guard:=guard }).run P w=.ok (.value r) w∧Rep I β n w y r:=by
   intro hlo
   subst hlo
   obtain⟨s0,h0,hn,hs0⟩:=XR.and_ok h hs
   obtain⟨r,hr,hrep⟩:=zgd (P:=P) (t:=t) (xo:=x) (yo:=z) (ya hE hx hn.1) (ya hE hz hn.2) h0 hs0
   exact⟨r,val hr,hrep⟩
  have eqs:∀ (neg:Bool),op=(if neg then .neq else .eql)→lo=.eq neg (z3q P t z) x' z'→∃r,(execOp a.eval { dst:=dst,op:=.binOp op t x z zt,type:=type,pos:=pos,after:=after,guard:=guard }).run P w=.ok (.value r) w∧Rep I β n w y r:=by
   intro neg hop hlo
   subst hlo
   subst hop
   obtain⟨s0,h0,hn,hs0⟩:=XR.and_ok h hs
   obtain⟨r,hr,hrep⟩:=zi9 (P:=P) (xo:=x) (yo:=z) (ya hE hx hn.1) (ya hE hz hn.2) h0 hs0
   exact⟨r,val hr,hrep⟩
  split at hl
  ·simp only[Option.some.injEq] at hl;exact bin hl.symm
  ·simp only[Option.some.injEq] at hl;exact bin hl.symm
  ·simp only[Option.some.injEq] at hl;exact eqs false rfl hl.symm
  ·simp only[Option.some.injEq] at hl;exact eqs true rfl hl.symm
  ·simp only[Option.some.injEq] at hl;exact bin hl.symm
 |unOp op t x=>
  simp only[xq,Option.map_eq_some_iff] at hl
  obtain⟨x',hx',rfl⟩:=hl
  obtain⟨s0,h0,hn,hs0⟩:=XR.and_ok h hs
  obtain⟨r,hr,hrep⟩:=zl9 (P:=P) (ya hE hx' hn) h0
  exact⟨r,val hr,hrep⟩
 |convert src d x=>
  simp only[xq] at hl
  split at hl<;>try (cases hl;done)
  rename_i k x' hk hx
  simp only[Option.some.injEq] at hl
  subst hl
  cases k with
  |s2b=>cases h
  |b2s=>cases h
  |same=>
   simp only[w5] at h
   split at h<;>try (cases h;done)
   rename_i l hev
   simp only[XR.ok.injEq] at h
   obtain⟨rfl,rfl⟩:=h
   have hr:=ya hE hx hs
   rw[hev] at hr
   have hv:=hr.str_inv
   have hu:P.underlying src=some .string∧P.underlying d=some .string:=by
    unfold z2w at hk
    split at hk<;>simp_all
    all_goals (split at hk<;>simp_all)
   refine⟨_,val (s:=convert src d (a.eval x)) (r:=a.eval x) ?_,hr⟩
   rw[hv]
   simp only[convert,Sem.run_bind,zf hu.1,zf hu.2,Result.andThen_ok,Sem.run_pure]
  |int k=>
   simp only[w5] at h
   split at h<;>try (cases h;done)
   rename_i k0 m hev
   simp only[XR.ok.injEq] at h
   obtain⟨rfl,rfl⟩:=h
   have hr:=ya hE hx hs
   rw[hev] at hr
   have hv:=hr.int_inv
   have hu:(∃k',P.underlying src=some (.int k'))∧P.underlying d=some (.int k):=by
    unfold z2w at hk
    split at hk<;>simp_all
    all_goals (split at hk<;>simp_all)
   obtain⟨⟨k',hu1⟩,hu2⟩:=hu
   refine⟨_,val (s:=convert src d (a.eval x)) (r:=.int k (k.wrap m)) ?_,.imm _ _ (.int _ _)⟩
   rw[hv]
   simp only[convert,Sem.run_bind,zf hu1,zf hu2,Result.andThen_ok,Conv.intToInt,Sem.run_pure]
 |makeFunc f first caps=>
  simp only[xq] at hl
  split at hl<;>try (cases hl;done)
  rename_i fs cs hf hc
  simp only[Option.some.injEq] at hl
  subst hl
  simp only[w5,XR.ok.injEq] at h
  obtain⟨rfl,rfl⟩:=h
  obtain⟨h1,h2⟩:=Zr hE _ _ hf hs.1
  obtain⟨h3,h4⟩:=Zr hE _ _ hc hs.2
  refine⟨_,val (s:=Instr.makeFunc f (first.map a.eval) (caps.map a.eval)) rfl,?_⟩
  refine .fn _ _ _ _ _ (by simpa using h1) (by simpa using h3) (fun i x v hx hv=>h2 i x v hx ?_) (fun i x v hx hv=>h4 i x v hx ?_)
  ·rw[←hv,←Array.getElem?_toList,Array.toList_map]
  ·rw[←hv,←Array.getElem?_toList,Array.toList_map]
 |slice t x lo0 hi0 mx0=>
  simp only[xq] at hl
  split at hl<;>try (cases hl;done)
  rename_i x' lo' hi' mx' hx hlo hhi hmx
  split at hl
  ·rename_i ht
   simp only[Option.some.injEq] at hl
   subst hl
   obtain⟨s0,h0,⟨hn,hn1,hn2⟩,hs0⟩:=XR.and_ok h hs
   have:mx0=none:=by cases mx0 with|none=>rfl|some m=>simp[ke] at hmx
   subst this
   obtain⟨r,hr,hrep⟩:=z70 ht hE hlo hhi hn1 hn2 (ya hE hx hn) h0 hs0
   exact⟨r,val hr,hrep⟩
  ·rename_i c ht
   split at hl<;>try (cases hl;done)
   rename_i hmh
   simp only[Option.map_eq_some_iff] at hl
   obtain⟨s,hsz,rfl⟩:=hl
   obtain⟨s0,h0,⟨hn,hn1,hn2,hn3⟩,hs0⟩:=XR.and_ok h hs
   obtain⟨r,hr,hrep⟩:=zgv ht hsz hE hlo hhi hmx (Bool.eq_false_iff.2 hmh) hn1 hn2 hn3 (ya hE hx hn) h0 hs0
   exact⟨r,val hr,hrep⟩
  ·rename_i nn c ht
   split at hl<;>try (cases hl;done)
   rename_i hno
   simp only[Option.map_eq_some_iff] at hl
   obtain⟨s,hsz,rfl⟩:=hl
   obtain⟨s0,h0,hn,hs0⟩:=XR.and_ok h hs
   rw[Bool.and_eq_true,Option.isNone_iff_eq_none,Option.isNone_iff_eq_none] at hno
   obtain⟨rfl,rfl⟩:=hno
   have:mx0=none:=by cases mx0 with|none=>rfl|some m=>simp[ke] at hmx
   subst this
   have:lo0=none:=by cases lo0 with|none=>rfl|some m=>simp[ke] at hlo
   subst this
   have:hi0=none:=by cases hi0 with|none=>rfl|some m=>simp[ke] at hhi
   subst this
   obtain⟨r,hr,hrep⟩:=zbb ht hsz hI (ya hE hx hn) h0 hs0
   exact⟨r,val hr,hrep⟩
  ·cases hl
 |fieldAddr t x i=>
  simp only[xq] at hl
  split at hl<;>try (cases hl;done)
  rename_i fs ht
  split at hl<;>try (cases hl;done)
  rename_i f hf
  split at hl<;>try (cases hl;done)
  rename_i m x' hm hx
  split at hl<;>try (cases hl;done)
  rename_i hne
  simp only[Option.some.injEq] at hl
  subst hl
  obtain⟨s0,h0,hn,hs0⟩:=XR.and_ok h hs
  obtain⟨r,hr,hrep⟩:=z86 ht hf hm (by simpa using hne) (ya hE hx hn) h0
  exact⟨r,val hr,hrep⟩
 |field t x i=>
  simp only[xq] at hl
  split at hl<;>try (cases hl;done)
  rename_i fs ht
  split at hl<;>try (cases hl;done)
  rename_i f hf
  split at hl<;>try (cases hl;done)
  rename_i g m x' hg hm hx
  split at hl<;>try (cases hl;done)
  rename_i hgm
  simp only[Option.some.injEq] at hl
  subst hl
  obtain⟨s0,h0,hn,hs0⟩:=XR.and_ok h hs
  obtain⟨r,hr,hrep⟩:=z9i ht hf hg hm (by simpa using hgm) (ya hE hx hn) h0 hs0
  exact⟨r,val hr,hrep⟩
 |indexAddr t x i=>
  simp only[xq] at hl
  split at hl<;>try (cases hl;done)
  ·rename_i c x' i' ht hx hi
   simp only[Option.map_eq_some_iff] at hl
   obtain⟨s,hsz,rfl⟩:=hl
   obtain⟨s0,h0,hn,hs0⟩:=XR.and_ok h hs
   obtain⟨r,hr,hrep⟩:=zag ht hsz (ya hE hx hn.1).rd (ya hE hi hn.2) h0 hs0
   exact⟨r,val hr,hrep⟩
  ·rename_i m c x' i' ht hx hi
   simp only[Option.map_eq_some_iff] at hl
   obtain⟨s,hsz,rfl⟩:=hl
   split at h
   ·obtain⟨s0,h0,hn,hs0⟩:=XR.and_ok h hs
    obtain⟨r,hr,hrep⟩:=z5p ht hsz (ya hE hx hn.1) (ya hE hi hn.2) h0 hs0
    exact⟨r,val hr,hrep⟩
   ·obtain⟨s0,h0,hn,hs0⟩:=XR.and_ok h hs
    obtain⟨r,hr,hrep⟩:=z4x ht hsz hI (ya hE hx hn.1) (ya hE hi hn.2) h0 hs0
    exact⟨r,val hr,hrep⟩
 |index t x i=>
  simp only[xq] at hl
  split at hl<;>try (cases hl;done)
  ·rename_i x' i' ht hx hi
   simp only[Option.some.injEq] at hl
   subst hl
   obtain⟨s0,h0,hn,hs0⟩:=XR.and_ok h hs
   obtain⟨r,hr,hrep⟩:=zc1 ht (ya hE hx hn.1) (ya hE hi hn.2) h0 hs0
   exact⟨r,val hr,hrep⟩
  ·rename_i m c x' i' ht hx hi
   split at hl<;>try (cases hl;done)
   rename_i g s hg hsz
   split at hl<;>try (cases hl;done)
   rename_i hgm
   simp only[Option.some.injEq] at hl
   subst hl
   obtain⟨s0,h0,hn,hs0⟩:=XR.and_ok h hs
   obtain⟨r,hr,hrep⟩:=zbm ht hg hsz (by simpa using hgm) (ya hE hx hn.1) (ya hE hi hn.2) h0 hs0
   exact⟨r,val hr,hrep⟩
 |extract x k=>
  simp only[xq,Option.map_eq_some_iff] at hl
  obtain⟨x',hx',rfl⟩:=hl
  obtain⟨s0,h0,hn,hs0⟩:=XR.and_ok h hs
  obtain⟨r,hr,hrep⟩:=zh2 (P:=P) (ya hE hx' hn) h0 hs0
  exact⟨r,val hr,hrep⟩
 |call c=>
  obtain⟨callee,args,argTypes⟩:=c
  simp only[xq] at hl
  unfold Kv at hl
  cases callee with
  |value f=>
   simp only at hl
   split at hl
   ·split at hl<;>try (cases hl;done)
    split at hl<;>try (cases hl;done)
    simp only[Option.map_eq_some_iff] at hl
    obtain⟨_,_,rfl⟩:=hl
    cases h
   ·split at hl<;>try (cases hl;done)
    simp only[Option.some.injEq] at hl
    subst hl
    cases h
   ·rename_i heq;cases heq
   all_goals (rename_i heq;cases heq)
  |invoke _ _=>cases hl
  |builtin b=>
   cases b<;>simp only at hl<;>try (cases hl;done)
   case len=>
    split at hl<;>try (cases hl;done)
    rename_i x t hargs htys
    have hx:args=#[x]:=by cases args;simp_all
    have hty:argTypes=#[t]:=by cases argTypes;simp_all
    subst hx;subst hty
    split at hl<;>try (cases hl;done)
    ·rename_i ht
     simp only[Option.map_eq_some_iff] at hl
     obtain⟨x',hx',rfl⟩:=hl
     obtain⟨s0,h0,hn,hs0⟩:=XR.and_ok h hs
     obtain⟨r,hr,hrep⟩:=zbu (rt:=type) ht (ya hE hx' hn) h0
     refine⟨r,?_,hrep⟩
     have e1:Array.map a.eval #[x]=#[a.eval x]:=by simp
     simp only[execOp,resolve,invoke,builtin,Sem.run_bind,Sem.run_pure,Result.andThen_ok,e1,hr]
    ·rename_i c ht
     simp only[Option.map_eq_some_iff] at hl
     obtain⟨x',hx',rfl⟩:=hl
     obtain⟨s0,h0,hn,hs0⟩:=XR.and_ok h hs
     obtain⟨r,hr,hrep⟩:=zcy (rt:=type) ht (ya hE hx' hn).rd h0
     refine⟨r,?_,hrep⟩
     have e1:Array.map a.eval #[x]=#[a.eval x]:=by simp
     simp only[execOp,resolve,invoke,builtin,Sem.run_bind,Sem.run_pure,Result.andThen_ok,e1,hr]
    ·rename_i kt et ht
     simp only[Option.map_eq_some_iff] at hl
     obtain⟨x',hx',rfl⟩:=hl
     obtain⟨s0,h0,hn,hs0⟩:=XR.and_ok h hs
     obtain⟨r,hr,hrep⟩:=zgx (rt:=type) ht hI (ya hE hx' hn) h0
     refine⟨r,?_,hrep⟩
     have e1:Array.map a.eval #[x]=#[a.eval x]:=by simp
     simp only[execOp,resolve,invoke,builtin,Sem.run_bind,Sem.run_pure,Result.andThen_ok,e1,hr]
   case append=>
    split at hl<;>try (cases hl;done)
    split at hl<;>try (cases hl;done)
    all_goals
     split at hl<;>try (cases hl;done)
     split at hl<;>try (cases hl;done)
     simp only[Option.some.injEq] at hl
     subst hl
     cases h
   case copy=>
    split at hl<;>try (cases hl;done)
    split at hl<;>try (cases hl;done)
    split at hl<;>try (cases hl;done)
    split at hl<;>try (cases hl;done)
    simp only[Option.some.injEq] at hl
    subst hl
    cases h
   case delete=>
    split at hl<;>try (cases hl;done)
    split at hl<;>try (cases hl;done)
    split at hl<;>try (cases hl;done)
    simp only[Option.some.injEq] at hl
    subst hl
    cases h
   case max=>
    simp only[Option.map_eq_some_iff] at hl
    obtain⟨l,hargs,rfl⟩:=hl
    obtain⟨s0,h0,hn,hs0⟩:=XR.and_ok h hs
    obtain⟨g1,g2⟩:=Zr hE _ _ hargs hn
    cases hl:evs e l with
    |nil=>rw[hl] at h0;cases h0
    |cons x xs=>
     rw[hl] at h0 g1 g2
     cases x<;>simp only[zkn] at h0<;>try (cases h0;done)
     cases hv:args.toList.map a.eval with
     |nil=>rw[hv] at g1;cases g1
     |cons v vs=>
      rw[hv] at g1 g2
      obtain⟨r,hr,hrep⟩:=Ud (P:=P) true xs vs _ y v (by simpa using g1) (fun i y v p q=>g2 (i+1) y v p q) (g2 0 _ v rfl rfl) s0 h0 hs0
      refine⟨r,?_,hrep⟩
      simp only[execOp,resolve,invoke,builtin,Sem.run_bind,Sem.run_pure,Result.andThen_ok,Builtin.max_,Array.toList_map,hv]
      simp only[if_true] at hr
      rw[hr];rfl
   case min=>
    simp only[Option.map_eq_some_iff] at hl
    obtain⟨l,hargs,rfl⟩:=hl
    obtain⟨s0,h0,hn,hs0⟩:=XR.and_ok h hs
    obtain⟨g1,g2⟩:=Zr hE _ _ hargs hn
    cases hl:evs e l with
    |nil=>rw[hl] at h0;cases h0
    |cons x xs=>
     rw[hl] at h0 g1 g2
     cases x<;>simp only[zkn] at h0<;>try (cases h0;done)
     cases hv:args.toList.map a.eval with
     |nil=>rw[hv] at g1;cases g1
     |cons v vs=>
      rw[hv] at g1 g2
      obtain⟨r,hr,hrep⟩:=Ud (P:=P) false xs vs _ y v (by simpa using g1) (fun i y v p q=>g2 (i+1) y v p q) (g2 0 _ v rfl rfl) s0 h0 hs0
      refine⟨r,?_,hrep⟩
      simp only[execOp,resolve,invoke,builtin,Sem.run_bind,Sem.run_pure,Result.andThen_ok,Builtin.min_,Array.toList_map,hv]
      simp only[Bool.false_eq_true,if_false] at hr
      rw[hr];rfl
 |lookup t x i ok=>
  simp only[xq] at hl
  split at hl<;>try (cases hl;done)
  rename_i kt et ht
  split at hl<;>try (cases hl;done)
  rename_i ks ka g zs zg x' i' hks hka hg hz hzg hx hi
  split at hl<;>try (cases hl;done)
  rename_i hc
  simp only[Bool.and_eq_true,Bool.or_eq_true,beq_iff_eq] at hc
  obtain⟨rfl,hgl⟩:=hc
  simp only[Option.some.injEq] at hl
  subst hl
  obtain⟨s0,h0,hn,hs0⟩:=XR.and_ok h hs
  obtain⟨r,hr,hrep⟩:=zbp ht hks hka (zgm hz hzg hgl) hI (ya hE hx hn.1) (ya hE hi hn.2) h0 hs0
  exact⟨r,val hr,hrep⟩
 |makeMap t r=>
  simp only[xq] at hl
  split at hl<;>try (cases hl;done)
  simp only[Option.some.injEq] at hl;subst hl;cases h
 |mapUpdate t m k x=>
  simp only[xq,Ul] at hl
  split at hl<;>try (cases hl;done)
  split at hl<;>try (cases hl;done)
  split at hl<;>try (cases hl;done)
  split at hl<;>try (cases hl;done)
  simp only[Option.some.injEq] at hl;subst hl;cases h
 |insert t m k x=>
  simp only[xq,Ul] at hl
  split at hl<;>try (cases hl;done)
  split at hl<;>try (cases hl;done)
  split at hl<;>try (cases hl;done)
  split at hl<;>try (cases hl;done)
  simp only[Option.some.injEq] at hl;subst hl;cases h
 |alloc _=>
  simp only[xq] at hl
  split at hl
  ·split at hl<;>try (cases hl;done)
   split at hl<;>try (cases hl;done)
   simp only[Option.some.injEq] at hl;subst hl;cases h
  ·split at hl<;>try (cases hl;done)
   all_goals (simp only[Option.some.injEq] at hl;subst hl;cases h)
  ·simp only[Option.map_eq_some_iff] at hl;obtain⟨_,_,rfl⟩:=hl;cases h
 |box _ _=>simp only[xq,Option.map_eq_some_iff] at hl;obtain⟨_,_,rfl⟩:=hl;cases h
 |buildSlice _ _ _=>
  simp only[xq] at hl
  split at hl<;>try (cases hl;done)
  split at hl<;>try (cases hl;done)
  split at hl<;>try (cases hl;done)
  simp only[Option.some.injEq] at hl;subst hl;cases h
 |store _ _ _=>
  simp only[xq] at hl
  split at hl<;>try (cases hl;done)
  simp only[Option.some.injEq] at hl;subst hl;cases h
 |makeSlice _ _ _=>
  simp only[xq] at hl
  split at hl<;>try (cases hl;done)
  split at hl<;>try (cases hl;done)
  split at hl<;>try (cases hl;done)
  simp only[Option.some.injEq] at hl;subst hl;cases h
 |range _ _=>
  simp only[xq] at hl
  split at hl<;>try (cases hl;done)
  simp only[Option.map_eq_some_iff] at hl;obtain⟨_,_,rfl⟩:=hl;cases h
 |next _ s=>
  cases s with
  |true=>simp[xq] at hl
  |false=>simp only[xq,Option.map_eq_some_iff] at hl;obtain⟨_,_,rfl⟩:=hl;cases h
 |entry _=>simp only[xq,Option.map_eq_some_iff] at hl;obtain⟨_,_,rfl⟩:=hl;cases h
 |_=>cases hl
end
end Go.Fx
