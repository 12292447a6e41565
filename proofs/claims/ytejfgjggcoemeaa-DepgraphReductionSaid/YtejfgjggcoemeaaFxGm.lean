/-
  Own framework.
-/
import Derived.Test.YtejfgjggcoemeaaFxGr
import Derived.Test.YtejfgjggcoemeaaFxOc
namespace Go.Fx
set_option linter.unusedVariables false
section
variable {κ α:Type} {ek:κ→AVal} {e:α→List AVal} {s q q':Nat} {qf:κ→κ→Bool}
def zj1(s:Nat)(e:α→List AVal)(r:List α):ABlock:=.rows s (r.map e)
def uw(qf:κ→κ→Bool):List (κ×α)→κ→Nat
 |[],_=>0
 |(k',_)::r,k=>if qf k k'=true then 0 else uw qf r k+1
def Zx(ek:κ→AVal)(q s:Nat)(l:List (κ×List α)):List (AVal×AVal):=l.mapIdx fun j p=>(ek p.1,.msl (q,j) s 0 p.2.length false)
def z08(ek:κ→AVal)(q s:Nat)(l:List (κ×List α))(i:Nat)(k:κ)(c:AVal):List (AVal×AVal):=if i<l.length then(Zx ek q s l).set i (ek k,c) else Zx ek q s l++[(ek k,c)]
def Y9(q s:Nat)(e:α→List AVal)(l:List (κ×List α))(h:Option Nat):AHeap:=match h with
 |none=>zc2 q (zj1 s e) l
 |some i=>(zc2 q (zj1 s e) l).del (q,i)
theorem Uk:∀ (l:List (κ×List α)) (k:κ),uw qf l k≤l.length
 |[],_=>Nat.le_refl _
 |(k',v)::r,k=>by
  rw[uw]
  split
  ·simp
  ·have:=Uk r k
   simp only[List.length_cons];omega
theorem zeo:∀ (l:List (κ×List α)) (k:κ),lk qf l k=(l[uw qf l k]?).map (·.2)
 |[],_=>rfl
 |(k',v)::r,k=>by
  rw[lk,uw]
  split
  ·rfl
  ·rw[List.getElem?_cons_succ];exact zeo r k
theorem zk1{l:List (κ×List α)}{k:κ}(h:(lk qf l k).isSome=true):uw qf l k<l.length:=by
 rw[zeo] at h
 rcases Nat.lt_or_ge (uw qf l k) l.length with h'|h'
 ·exact h'
 ·rw[List.getElem?_eq_none h'] at h;cases h
theorem zt3{l:List (κ×List α)}{k:κ}(h:(lk qf l k).isSome=false):uw qf l k=l.length:=by
 have:=Uk (qf:=qf) l k
 rw[zeo] at h
 rcases Nat.lt_or_ge (uw qf l k) l.length with h'|h'
 ·rw[List.getElem?_eq_getElem h'] at h;cases h
 ·omega
theorem zh1:∀ (l:List (κ×List α)) (k:κ) (p:κ×List α),l[uw qf l k]?=some p→qf k p.1=true
 |[],k,p,h=>by cases h
 |(k',v)::r,k,p,h=>by
  rw[uw] at h
  split at h
  ·rename_i hq
   simp only[List.getElem?_cons_zero,Option.some.injEq] at h
   subst h;exact hq
  ·rw[List.getElem?_cons_succ] at h;exact zh1 r k p h
theorem zkk:∀ (l:List (κ×List α)) (k:κ) (r:List α),mp qf l k r=if uw qf l k<l.length then l.set (uw qf l k) (k,r) else l++[(k,r)]
 |[],_,_=>rfl
 |(k',v)::l,k,r=>by
  rw[mp,uw]
  by_cases hq:qf k k'=true
  ·rw[if_pos hq,if_pos hq,if_pos (by simp)];rfl
  ·rw[if_neg hq,if_neg hq,zkk l k r]
   by_cases h:uw qf l k<l.length
   ·rw[if_pos h,if_pos (by simp only[List.length_cons];omega)];rfl
   ·rw[if_neg h,if_neg (by simp only[List.length_cons];omega)];rfl
theorem vr(l:List (κ×List α)):(Zx ek q s l).length=l.length:=by simp[Zx]
theorem Q5(l:List (κ×List α))(j:Nat):(Zx ek q s l)[j]?=l[j]?.map fun p=>(ek p.1,.msl (q,j) s 0 p.2.length false):=by simp[Zx]
theorem W8{l:List (κ×List α)}{i:Nat}{k:κ}{c:AVal}:(z08 ek q s l i k c).length=if i<l.length then l.length else l.length+1:=by
 unfold z08;split<;>simp[vr]
theorem Vk{l:List (κ×List α)}{i:Nat}(hi:i≤l.length){k:κ}{c:AVal}(j:Nat):(z08 ek q s l i k c)[j]?=if j=i then some (ek k,c) else(Zx ek q s l)[j]?:=by
 unfold z08
 by_cases h:i<l.length
 ·rw[if_pos h,List.getElem?_set]
  by_cases hj:i=j
  ·rw[if_pos hj,if_pos (by rw[vr];exact h),if_pos hj.symm]
  ·rw[if_neg hj,if_neg (fun e=>hj e.symm)]
 ·rw[if_neg h]
  by_cases hj:j<l.length
  ·rw[List.getElem?_append_left (by rw[vr];exact hj),if_neg (by omega)]
  ·rw[List.getElem?_append_right (by rw[vr];omega),vr]
   by_cases he:j=i
   ·rw[if_pos he,show j-l.length=0 by omega];rfl
   ·rw[if_neg he,List.getElem?_eq_none (by simp;omega),List.getElem?_eq_none (by rw[vr];omega)]
theorem W2{ks:List CK}(hq:∀a b,Y6 ks (ek a) (ek b)=some (qf a b))(k:κ):∀ (l:List (κ×List α)) (E:List (AVal×AVal)),E.length=l.length→(∀ (j:Nat) (p:κ×List α) (x:AVal×AVal),l[j]?=some p→E[j]?=some x→x.1=ek p.1)→Yg ks (ek k) E=some ((E[uw qf l k]?).map (·.2))
 |[],[],_,_=>rfl
 |[],_::_,h,_=>by cases h
 |_::_,[],h,_=>by cases h
 |(k',v)::l,(a,b)::E,h,hE=>by
  have h0:a=ek k':=hE 0 (k',v) (a,b) rfl rfl
  subst h0
  rw[Yg,hq,uw]
  cases hc:qf k k' with
  |true=>rfl
  |false=>
   simp only[Bool.false_eq_true,if_false,List.getElem?_cons_succ]
   exact W2 hq k l E (by simpa using h) (fun j p x h1 h2=>hE (j+1) p x (by simpa using h1) (by simpa using h2))
theorem z6r{ks:List CK}(hq:∀a b,Y6 ks (ek a) (ek b)=some (qf a b))(k:κ)(c:AVal):∀ (l:List (κ×List α)) (E:List (AVal×AVal)),E.length=l.length→(∀ (j:Nat) (p:κ×List α) (x:AVal×AVal),l[j]?=some p→E[j]?=some x→x.1=ek p.1)→zc0 ks (ek k) c E=some (if uw qf l k<l.length then E.set (uw qf l k) (ek k,c) else E++[(ek k,c)])
 |[],[],_,_=>rfl
 |[],_::_,h,_=>by cases h
 |_::_,[],h,_=>by cases h
 |(k',v)::l,(a,b)::E,h,hE=>by
  have h0:a=ek k':=hE 0 (k',v) (a,b) rfl rfl
  subst h0
  rw[zc0,hq,uw]
  cases hc:qf k k' with
  |true=>rfl
  |false=>
   simp only[Bool.false_eq_true,if_false]
   rw[z6r hq k c l E (by simpa using h) (fun j p x h1 h2=>hE (j+1) p x (by simpa using h1) (by simpa using h2))]
   by_cases hl:uw qf l k<l.length
   ·rw[if_pos hl,if_pos (by simp only[List.length_cons];omega)];rfl
   ·rw[if_neg hl,if_neg (by simp only[List.length_cons];omega)];rfl
theorem Jy{l:List (κ×List α)}(j:Nat)(p:κ×List α)(x:AVal×AVal)(h1:l[j]?=some p)(h2:(Zx ek q s l)[j]?=some x):x.1=ek p.1:=by
 rw[Q5,h1] at h2
 simp only[Option.map_some,Option.some.injEq] at h2
 subst h2;rfl
theorem Uh(he:∀a b,qf a b=true→ek a=ek b){l:List (κ×List α)}{k:κ}{c:AVal}(hi:uw qf l k<l.length)(j:Nat)(p:κ×List α)(x:AVal×AVal)(h1:l[j]?=some p)(h2:(z08 ek q s l (uw qf l k) k c)[j]?=some x):x.1=ek p.1:=by
 rw[Vk (Nat.le_of_lt hi)] at h2
 split at h2
 ·rename_i hj
  subst hj
  simp only[Option.some.injEq] at h2
  subst h2
  exact he _ _ (zh1 l k p h1)
 ·exact Jy j p x h1 h2
section
variable {ks:List CK} (hq:∀a b,Y6 ks (ek a) (ek b)=some (qf a b)) {l:List (κ×List α)} {k:κ} {c c':AVal} {g:Bool} {zs:List AVal}
include hq
theorem zds(h:(lk qf l k).isSome=false):(Yg ks (ek k) (Zx ek q s l)).getD none=none:=by
 rw[W2 hq k l _ (vr l) Jy,zt3 h,List.getElem?_eq_none (by rw[vr];exact Nat.le_refl _)];rfl
theorem zex(k:κ):(Yg ks (ek k) (Zx ek q s l)).isSome=true:=by
 rw[W2 hq k l _ (vr l) Jy];rfl
theorem zdl(he:∀a b,qf a b=true→ek a=ek b)(h:(lk qf l k).isSome=true):(Yg ks (ek k) (z08 ek q s l (uw qf l k) k c)).getD none=some c:=by
 have hi:=zk1 h
 rw[W2 hq k l _ (by rw[W8,if_pos hi]) (Uh he hi),Vk (Nat.le_of_lt hi),if_pos rfl];rfl
theorem zgq(he:∀a b,qf a b=true→ek a=ek b)(h:(lk qf l k).isSome=true):(Yg ks (ek k) (z08 ek q s l (uw qf l k) k c)).isSome=true:=by
 have hi:=zk1 h
 rw[W2 hq k l _ (by rw[W8,if_pos hi]) (Uh he hi)];rfl
theorem zlc(k:κ):zc0 ks (ek k) c (Zx ek q s l)=some (z08 ek q s l (uw qf l k) k c):=by
 rw[z6r hq k c l _ (vr l) Jy];rfl
theorem zk4(he:∀a b,qf a b=true→ek a=ek b)(h:(lk qf l k).isSome=true):zc0 ks (ek k) c' (z08 ek q s l (uw qf l k) k c)=some (z08 ek q s l (uw qf l k) k c'):=by
 have hi:=zk1 h
 rw[z6r hq k c' l _ (by rw[W8,if_pos hi]) (Uh he hi),if_pos hi]
 unfold z08
 rw[if_pos hi,if_pos hi,List.set_set]
end
theorem zi0{ks:List CK}(hq:∀a b,Y6 ks (ek a) (ek b)=some (qf a b))(he:∀a b,qf a b=true→ek a=ek b){l:List (κ×List α)}{k:κ}{c:AVal}{g:Bool}{zs:List AVal}(h:(lk qf l k).isSome=true):zj2 g false zs ((Yg ks (ek k) (z08 ek q s l (uw qf l k) k c)).getD none)=c:=by
 rw[zdl hq he h];rfl
theorem zcl{ks:List CK}(hq:∀a b,Y6 ks (ek a) (ek b)=some (qf a b)){l:List (κ×List α)}{k:κ}{g:Bool}{zs:List AVal}{z:AVal}(hz:z2s g zs=z)(h:(lk qf l k).isSome=false):zj2 g false zs ((Yg ks (ek k) (Zx ek q s l)).getD none)=z:=by
 rw[zds hq h];exact hz
theorem zor{l:List (κ×List α)}{k:κ}(h:(lk qf l k).isSome=true):(l[uw qf l k]?).map (·.2)=some ((lk qf l k).getD default):=by
 rw[←zeo]
 cases hl:lk qf l k with
 |none=>rw[hl] at h;cases h
 |some v=>rfl
theorem zrl{l:List (κ×List α)}{k:κ}(h:(lk qf l k).isSome=true):lk qf l k=some ((lk qf l k).getD default):=by
 cases hl:lk qf l k with
 |none=>rw[hl] at h;cases h
 |some v=>rfl
theorem z5w(he:∀x,AVal.nid.nidL (e x)=true){F:Id→Bool}{H:AHeap}{ρ:Id→Option Id}{n:Nat}(r:List α):BVw F H ρ n (zj1 s e r) (zj1 s e r):=by
 refine .rows s _ _ rfl fun i a b h1 h2=>?_
 rw[h1] at h2
 simp only[Option.some.injEq] at h2
 subst h2
 rw[List.getElem?_map] at h1
 obtain⟨z,_,rfl⟩:=Option.map_eq_some_iff.1 h1
 exact⟨rfl,fun j x y hx hy=>W7 (he z) j x y hx hy⟩
theorem zjg{l:List (κ×List α)}{h:Option Nat}{id:Id}{b:ABlock}(hg:(Y9 q s e l h).get id=some b):id.1=q∧h≠some id.2∧∃p,l[id.2]?=some p∧b=zj1 s e p.2:=by
 cases h with
 |none=>
  obtain⟨h1,p,h2,h3⟩:=z9y hg
  exact⟨h1,by simp,p,h2,h3⟩
 |some i=>
  unfold Y9 at hg
  simp only at hg
  rw[AHeap.get_del] at hg
  split at hg
  ·cases hg
  ·rename_i hne
   obtain⟨h1,p,h2,h3⟩:=z9y hg
   exact⟨h1,fun e=>hne (by simp only[Option.some.injEq] at e;rw[e,←h1]),p,h2,h3⟩
def IsFamM(q s:Nat)(e:α→List AVal)(l:List (κ×List α))(h:Option Nat)(T:AHeap):Prop:=∀ (j:Nat) (p:κ×List α),l[j]?=some p→h≠some j→T.get (q,j)=some (zj1 s e p.2)
theorem IsFamM.base{l:List (κ×List α)}{h:Option Nat}:IsFamM q s e l h (Y9 q s e l h):=fun j p hj hh=>by
 cases h with
 |none=>exact zdx hj
 |some i=>
  unfold Y9
  simp only
  rw[AHeap.get_del,if_neg (fun e=>hh (by simp only[Prod.mk.injEq,true_and] at e;rw[e]))]
  exact zdx hj
theorem IsFamM.del{l:List (κ×List α)}{h:Option Nat}{T:AHeap}{x:Id}(hx:x.1≠q)(a:IsFamM q s e l h T):IsFamM q s e l h (T.del x):=fun j p h1 h2=>by
 rw[AHeap.get_del,if_neg (fun e=>hx (by rw[e]))];exact a j p h1 h2
theorem IsFamM.without{l:List (κ×List α)}{h:Option Nat}{T:AHeap}{p:Id→Bool}(hp:∀j,p (q,j)=false)(a:IsFamM q s e l h T):IsFamM q s e l h (AHeap.without p T):=fun j x h1 h2=>by
 rw[AHeap.get_without,hp j];exact a j x h1 h2
theorem IsFamM.app{l:List (κ×List α)}{h:Option Nat}{lit T:AHeap}(hl:noR q lit=true)(a:IsFamM q s e l h T){j:Nat}{p:κ×List α}(h1:l[j]?=some p)(h2:h≠some j):AHeap.get (lit++T) (q,j)=some (zj1 s e p.2):=by
 rw[AHeap.get_append,Q7 hl rfl,Option.none_or];exact a j p h1 h2
theorem IsFamM.hole{l:List (κ×List α)}{h:Option Nat}{T:AHeap}(a:IsFamM q s e l none T):IsFamM q s e l h T:=fun j p h1 _=>a j p h1 (by simp)
theorem InQ.baseM{l:List (κ×List α)}{h:Option Nat}:InQ q (Y9 q s e l h):=by
 have h0:InQ q (zc2 q (zj1 s e) l):=fun x hx=>by
  obtain⟨j,p,_,rfl⟩:=z98 hx;rfl
 cases h with
 |none=>exact h0
 |some i=>exact h0.del
section
variable {n0 n n':Nat} {f:Nat→Option Id} {m t:Id} {g:Option Id} {M:List (Id×Id)} {e' e1:Env} {lit' T lit:AHeap} {l l':List (κ×List α)} {h h':Option Nat}
theorem zsf(hn:∀x,AVal.nid.nidL (e x)=true)(hc:zoj n0 n q q' m t lit' M=true)(hf1:∀j k,f j=some k→k.1=q∨k=t)(hf2:∀i j k,f i=some k→f j=some k→i=j)(hg1:∀k,g=some k→k.1=q)(hfg:∀j k,f j=some k→g≠some k)
 (hfam:∀ (j:Nat) (p:κ×List α),l'[j]?=some p→h'≠some j→∃k,f j=some k∧AHeap.get (lit'++T) k=some (zj1 s e p.2))
 (hE:EnvTo (fun _=>false) (lit'++T) (Ky n0 q' f m g M) n e' e1) (hH:HeapTo (fun _=>false) (lit'++T) (Ky n0 q' f m g M) n0 n lit):Sim n0 e' (lit'++T) n' e1 (lit++Y9 q' s e l' h') n:=by
 have hk:=Uq hc
 refine Sim.of ⟨_,_,zni hk (fun _ _=>rfl) hf1 hf2 hg1 hfg,hE,fun id blk hg=>?_⟩
 rw[AHeap.get_append] at hg
 cases hl:lit.get id with
 |some b=>
  rw[hl] at hg
  simp only[Option.some_or,Option.some.injEq] at hg
  subst hg
  exact hH.get id b hl
 |none=>
  rw[hl] at hg
  simp only[Option.none_or] at hg
  obtain⟨g2,g3,p,g4,rfl⟩:=zjg hg
  have hat:Ky n0 q' f m g M id=f id.2:=by unfold Ky;rw[if_pos g2]
  unfold Qq
  rw[hat]
  obtain⟨k,h1,h2⟩:=hfam id.2 p g4 g3
  rw[h1]
  simp only
  rw[h2]
  exact⟨trivial,z5w hn _⟩
theorem z2o(hn:∀x,AVal.nid.nidL (e x)=true)(hc:zoj n0 n q q' (q',0) (q,0) lit' M=true)(hT:IsFamM q s e l none T)
 (hE:EnvTo (fun _=>false) (lit'++T) (Ky n0 q' (fun j=>some (q,j)) (q',0) none M) n e' e1) (hH:HeapTo (fun _=>false) (lit'++T) (Ky n0 q' (fun j=>some (q,j)) (q',0) none M) n0 n lit):Sim n0 e' (lit'++T) n' e1 (lit++Y9 q' s e l none) n:=
 zsf hn hc (fun j k h=>by simp only[Option.some.injEq] at h;subst h;exact .inl rfl) (fun i j k h1 h2=>by simp only[Option.some.injEq] at h1 h2;subst h1;simp only[Prod.mk.injEq,true_and] at h2;exact h2.symm) (fun k h=>by cases h) (fun j k _ h=>by cases h)
  (fun j p h1 h2=>⟨_,rfl,hT.app (Uq hc).no h1 h2⟩) hE hH
theorem zsr(hn:∀x,AVal.nid.nidL (e x)=true){i:Nat}{v:List α}(hi:(l[i]?).map (·.2)=some v)(hc:zoj n0 n q q' m (q,0) lit' M=true)(hm:m.1≠q')(hT:IsFamM q s e l none T)
 (hE:EnvTo (fun _=>false) (lit'++T) (zqc n0 q q' l.length i m M) n e' e1) (hH:HeapTo (fun _=>false) (lit'++T) (zqc n0 q q' l.length i m M) n0 n lit):Sim n0 e' (lit'++T) n' e1 ((m,.rows s (v.map e))::lit++Y9 q' s e l (some i)) n:=by
 obtain⟨p,hp,hpv⟩:=Option.map_eq_some_iff.1 hi
 have hil:i<l.length:=zeb hp
 refine zsf (lit:=(m,.rows s (v.map e))::lit) hn hc (fun j k h=>?_) (fun a b k h1 h2=>?_) (fun k h=>?_) (fun j k h h2=>?_) (fun j p h1 h2=>?_) hE ⟨?_,hH⟩
 ·skip
  split at h
  ·cases h
  ·simp only[Option.some.injEq] at h;subst h;exact .inl rfl
 ·skip
  split at h1<;>split at h2<;>try (first|(cases h1;done)|(cases h2;done))
  simp only[Option.some.injEq] at h1 h2
  subst h1
  simp only[Prod.mk.injEq,true_and] at h2
  exact h2.symm
 ·rw[if_pos hil] at h
  simp only[Option.some.injEq] at h;subst h;rfl
 ·skip
  split at h
  ·cases h
  ·rename_i hne
   rw[if_pos hil] at h2
   simp only[Option.some.injEq] at h h2
   subst h
   simp only[Prod.mk.injEq,true_and] at h2
   exact hne h2.symm
 ·have:j≠i:=fun e=>h2 (by rw[e])
  rw[if_neg this]
  exact⟨_,rfl,hT.app (Uq hc).no h1 (by simp)⟩
 ·have hk:=Uq hc
  have:Ky n0 q' (fun j=>if j=i then none else some (q,j)) m (if i<l.length then some (q,i) else none) M m=some (q,i):=by
   unfold Ky;rw[if_neg hm,if_pos rfl,if_pos hil]
  unfold Qq
  rw[this]
  simp only
  rw[hT.app hk.no hp (by simp),hpv]
  exact⟨trivial,z5w hn _⟩
theorem zqi(hn:∀x,AVal.nid.nidL (e x)=true){k:κ}{r:List α}(hc:zoj n0 n q q' (q',0) t lit' M=true)(ht:t.1≠q)(hg:AHeap.get (lit'++T) t=some (.rows s (r.map e)))(hT:IsFamM q s e l (some (uw qf l k)) T)
 (hE:EnvTo (fun _=>false) (lit'++T) (zqo n0 q q' (uw qf l k) t M) n e' e1) (hH:HeapTo (fun _=>false) (lit'++T) (zqo n0 q q' (uw qf l k) t M) n0 n lit):Sim n0 e' (lit'++T) n' e1 (lit++Y9 q' s e (mp qf l k r) none) n:=by
 refine zsf hn hc (fun j k h=>?_) (fun a b k h1 h2=>?_) (fun k h=>by cases h) (fun j k _ h=>by cases h) (fun j p h1 h2=>?_) hE hH
 ·skip
  split at h<;>(simp only[Option.some.injEq] at h;subst h)
  ·exact .inr rfl
  ·exact .inl rfl
 ·skip
  split at h1<;>split at h2<;>simp only[Option.some.injEq] at h1 h2
  ·omega
  ·subst h1;exact absurd (by rw[←h2]) ht
  ·subst h2;exact absurd (by rw[←h1]) ht
  ·subst h1
   simp only[Prod.mk.injEq,true_and] at h2
   exact h2.symm
 ·skip
  rw[zkk] at h1
  by_cases hj:j=uw qf l k
  ·rw[if_pos hj]
   refine⟨_,rfl,?_⟩
   have:p=(k,r):=by
    split at h1
    ·rename_i hl
     rw[hj,List.getElem?_set_self hl] at h1
     exact(Option.some.inj h1).symm
    ·rename_i hl
     have:=Uk (qf:=qf) l k
     rw[hj,List.getElem?_append_right (by omega),show uw qf l k-l.length=0 by omega] at h1
     exact(Option.some.inj h1).symm
   rw[this,hg];rfl
  ·rw[if_neg hj]
   refine⟨_,rfl,hT.app (Uq hc).no (p:=p) ?_ (fun e=>hj (by simpa using e.symm))⟩
   split at h1
   ·rw[List.getElem?_set_ne (fun e=>hj e.symm)] at h1;exact h1
   ·rename_i hl
    have:=Uk (qf:=qf) l k
    rcases Nat.lt_or_ge j l.length with h'|h'
    ·rw[List.getElem?_append_left h'] at h1;exact h1
    ·rw[List.getElem?_eq_none (by simp;omega)] at h1;cases h1
theorem zne(hn:∀x,AVal.nid.nidL (e x)=true)(hc:zoj n0 n q q' (q',0) (q,0) lit' M=true)
 (hE:EnvTo (fun _=>false) (lit'++T) (Ky n0 q' (fun _=>none) (q',0) none M) n e' e1) (hH:HeapTo (fun _=>false) (lit'++T) (Ky n0 q' (fun _=>none) (q',0) none M) n0 n lit):Sim n0 e' (lit'++T) n' e1 (lit++Y9 q' s e ([]:List (κ×List α)) none) n:=
 zsf hn hc (fun j k h=>by cases h) (fun i j k h1 h2=>by cases h1) (fun k h=>by cases h) (fun j k h=>by cases h) (fun j p h1 h2=>by simp at h1) hE hH
end
section
variable {F:Id→Bool} {H:AHeap} {n0 n:Nat} {m t:Id} {M:List (Id×Id)} {l:List (κ×List α)} {N:Nat}
theorem BVw.entJ{g:Option Id}:BVw F H (Ky n0 q' (fun j=>some (q,j)) m g M) n (.amap (Zx ek q s l)) (.amap (Zx ek q' s l)):=by
 refine .amapV _ _ (by rw[vr,vr]) fun i k x k' y h1 h2=>?_
 rw[Q5] at h1 h2
 obtain⟨p,hp,h1⟩:=Option.map_eq_some_iff.1 h1
 rw[hp] at h2
 simp only[Option.map_some,Option.some.injEq,Prod.mk.injEq] at h1 h2
 obtain⟨rfl,rfl⟩:=h1
 obtain⟨rfl,rfl⟩:=h2
 exact⟨rfl,.mslF _ _ _ _ _ _ (by unfold Ky;rw[if_pos rfl])⟩
theorem BVw.entNew{ρ:Id→Option Id}:BVw F H ρ n (.amap []) (.amap (Zx ek q' s ([]:List (κ×List α)))):=.amap _ (fun _ h=>by cases h)
theorem BVw.entF(he:∀a b,qf a b=true→ek a=ek b){k:κ}{v:List α}(h:lk qf l k=some v)(hm:m.1≠q'){i:Nat}(hi:i=uw qf l k)(hN:N=l.length):BVw F H (zqc n0 q q' N i m M) n (.amap (Zx ek q s l)) (.amap (z08 ek q' s l (uw qf l k) k (.msl m s 0 v.length false))):=by
 subst hi
 subst hN
 have hlt:uw qf l k<l.length:=zk1 (by rw[h];rfl)
 refine .amapV _ _ (by rw[vr,W8,if_pos hlt]) fun i k1 x k' y h1 h2=>?_
 rw[Q5] at h1
 rw[Vk (Nat.le_of_lt hlt),Q5] at h2
 obtain⟨p,hp,h1⟩:=Option.map_eq_some_iff.1 h1
 simp only[Prod.mk.injEq] at h1
 obtain⟨rfl,rfl⟩:=h1
 by_cases hj:i=uw qf l k
 ·subst hj
  rw[if_pos rfl] at h2
  simp only[Option.some.injEq,Prod.mk.injEq] at h2
  obtain⟨rfl,rfl⟩:=h2
  refine⟨(he _ _ (zh1 l k p hp)).symm,?_⟩
  have:v.length=p.2.length:=by
   rw[zeo,hp] at h
   simp only[Option.map_some,Option.some.injEq] at h
   rw[h]
  rw[this]
  refine .mslF _ _ _ _ _ _ ?_
  unfold zqc Ky
  rw[if_neg hm,if_pos rfl,if_pos hlt]
 ·rw[if_neg hj,hp] at h2
  simp only[Option.map_some,Option.some.injEq,Prod.mk.injEq] at h2
  obtain⟨rfl,rfl⟩:=h2
  refine⟨rfl,.mslF _ _ _ _ _ _ ?_⟩
  unfold zqc Ky
  rw[if_pos rfl]
  simp only
  rw[if_neg hj]
theorem BVw.entU{k:κ}{r:List α}{len:Nat}{fl:Bool}{i:Nat}(hi:i=uw qf l k)(hl:len=r.length):BVw F H (zqo n0 q q' i t M) n (.amap (z08 ek q s l (uw qf l k) k (.msl t s 0 len fl))) (.amap (Zx ek q' s (mp qf l k r))):=by
 subst hi
 subst hl
 have hle:=Uk (qf:=qf) l k
 refine .amapV _ _ ?_ fun i k1 x k' y h1 h2=>?_
 ·rw[W8,vr,zkk]
  split<;>simp
 ·rw[Vk hle] at h1
  rw[Q5,zkk] at h2
  obtain⟨p,hp,h2⟩:=Option.map_eq_some_iff.1 h2
  simp only[Prod.mk.injEq] at h2
  obtain⟨rfl,rfl⟩:=h2
  by_cases hj:i=uw qf l k
  ·subst hj
   rw[if_pos rfl] at h1
   simp only[Option.some.injEq,Prod.mk.injEq] at h1
   obtain⟨rfl,rfl⟩:=h1
   have:p=(k,r):=by
    split at hp
    ·rename_i hl
     rw[List.getElem?_set_self hl] at hp
     exact(Option.some.inj hp).symm
    ·rename_i hl
     rw[List.getElem?_append_right (by omega),show uw qf l k-l.length=0 by omega] at hp
     exact(Option.some.inj hp).symm
   subst this
   refine⟨rfl,.mslF _ _ _ _ _ _ ?_⟩
   unfold zqo Ky
   rw[if_pos rfl]
   simp
  ·rw[if_neg hj,Q5] at h1
   obtain⟨p',hp',h1⟩:=Option.map_eq_some_iff.1 h1
   simp only[Prod.mk.injEq] at h1
   obtain⟨rfl,rfl⟩:=h1
   have:p=p':=by
    split at hp
    ·rw[List.getElem?_set_ne (fun e=>hj e.symm),hp'] at hp
     exact(Option.some.inj hp).symm
    ·rename_i hl
     have:=zeb hp'
     rw[List.getElem?_append_left this,hp'] at hp
     exact(Option.some.inj hp).symm
   subst this
   refine⟨rfl,.mslF _ _ _ _ _ _ ?_⟩
   unfold zqo Ky
   rw[if_pos rfl]
   simp only
   rw[if_neg hj]
theorem BVw.entZ(he:∀x,AVal.nid.nidL (e x)=true∧∀y∈e x,y.imm=some y){ρ:Id→Option Id}(hF:∀j,F (q,j)=true)(hT:∀ (j:Nat) (p:κ×List α),l[j]?=some p→H.get (q,j)=some (zj1 s e p.2)) :
 BVw F H ρ n (.amap (Zx ek q s l)) (.amap (l.map (em ek fun r=>.isl s (r.map e) false))):=by
 refine .amapV _ _ (by rw[vr,List.length_map]) fun i k x k' y h1 h2=>?_
 rw[Q5] at h1
 rw[List.getElem?_map] at h2
 obtain⟨p,hp,h1⟩:=Option.map_eq_some_iff.1 h1
 rw[hp] at h2
 simp only[Option.map_some,Option.some.injEq,Prod.mk.injEq,em] at h1 h2
 obtain⟨rfl,rfl⟩:=h1
 obtain⟨rfl,rfl⟩:=h2
 refine⟨rfl,.frz _ _ _ _ _ _ (p.2.map e) _ (fun h=>h) (hF i) (hT i p hp) (by simp) (by simp) (fun j a b h1 h2=>?_) (fun j a b c x y h1 h2 hx hy=>?_) (fun a ha y hy=>?_)⟩
 ·rw[Nat.zero_add] at h1;rw[h1] at h2;cases h2;rfl
 ·rw[Nat.zero_add] at h1
  rw[h1] at h2
  cases h2
  rw[List.getElem?_map] at h1
  obtain⟨z,_,rfl⟩:=Option.map_eq_some_iff.1 h1
  exact W7 (he z).1 c x y hx hy
 ·obtain⟨z,_,rfl⟩:=List.mem_map.1 ha
  exact(he z).2 y hy
end
theorem zua{n0 n n':Nat}{r R:AVal}{lit' T L:AHeap}{l:List (κ×List α)}(M:List (Id×Id))(Fs:List Id)(hρ:Xm n0 n lit' M=true)(hq:Nat.ble n0 q=true)(hno:noR q lit'=true)(hF:(Fs.all fun x=>Nat.ble n0 x.1)=true)(hT:IsFamM q s e l none T)
 (hv:Vw (fun x=>Nat.beq x.1 q || Fs.contains x) (lit'++T) (rho n0 M) n r R)
 (hH:HeapTo (fun x=>Nat.beq x.1 q || Fs.contains x) (lit'++T) (rho n0 M) n0 n L):Qh n0 n R L r (lit'++T) n':=by
 have h:=Jn hρ
 have hc':RhoChk n0 n (lit'++T) M:=⟨h.le,fun x hx=>⟨(h.all x hx).1,(h.all x hx).2.1,(h.all x hx).2.2.imp id z2z⟩,h.nd⟩
 have hF':∀i:Id,i.1<n0→(Nat.beq i.1 q || Fs.contains i)=false:=fun i hi=>by
  rw[zsj hF i hi,Bool.or_false]
  have:=Nat.le_of_ble_eq_true hq
  cases hb:Nat.beq i.1 q with
  |false=>rfl
  |true=>have:=Nat.eq_of_beq_eq_true hb;omega
 exact⟨_,_,zmo hc' hF',hv,hH.get⟩
end
end Go.Fx
