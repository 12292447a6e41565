/-
  Own framework.
-/
import Derived.Test.YtejfgjggcoemeaaFxRf
namespace Go.Fx
set_option linter.unusedVariables false
def ztw(q s:Nat)(es:List (List (List AVal))):List (List AVal):=es.mapIdx fun j r=>[.osl (q,j) s r]
def zuv(q s:Nat)(es:List (List (List AVal)))(i:Nat)(t:Id)(r:List (List AVal)):List (List AVal):=(ztw q s es).set i [.osl t s r]
def fam(q N:Nat)(h:Option Nat):AHeap:=((List.range N).filter fun j=>!(h==some j)).map fun j=>((q,j),.tok)
theorem zfb:∀ {L:AHeap} {k:Id},(∀x∈L,x.2=.tok)→k∈L.map (·.1)→L.get k=some .tok
 |[],k,_,h=>by cases h
 |(a,b)::r,k,h,hk=>by
  by_cases e:a=k
  ·subst e
   have:b=.tok:=h (a,b) (List.mem_cons_self ..)
   rw[this,AHeap.get_cons_same]
  ·rw[AHeap.get_cons_other _ _ e]
   refine zfb (fun x hx=>h x (List.mem_cons_of_mem _ hx)) ?_
   simp only[List.map_cons,List.mem_cons] at hk
   rcases hk with rfl|hk
   ·exact absurd rfl e
   ·exact hk
theorem zp2{q N j:Nat}{h:Option Nat}(hj:j<N)(hh:h≠some j):(fam q N h).get (q,j)=some .tok:=by
 refine zfb (fun x hx=>?_) ?_
 ·unfold fam at hx
  obtain⟨j,_,rfl⟩:=List.mem_map.1 hx
  rfl
 ·unfold fam
  rw[List.map_map]
  refine List.mem_map.2 ⟨j,List.mem_filter.2 ⟨List.mem_range.2 hj,by simpa using hh⟩,rfl⟩
def IsFam(q N:Nat)(h:Option Nat)(T:AHeap):Prop:=∀j,j<N→h≠some j→T.get (q,j)=some .tok
theorem IsFam.base{q N:Nat}{h:Option Nat}:IsFam q N h (fam q N h):=fun j=>zp2
theorem IsFam.del{q N:Nat}{h:Option Nat}{T:AHeap}{x:Id}(hx:x.1≠q)(a:IsFam q N h T):IsFam q N h (T.del x):=fun j h1 h2=>by
 rw[AHeap.get_del,if_neg (fun e=>hx (by rw[e]))];exact a j h1 h2
theorem IsFam.without{q N:Nat}{h:Option Nat}{T:AHeap}{p:Id→Bool}(hp:∀j,p (q,j)=false)(a:IsFam q N h T):IsFam q N h (AHeap.without p T):=fun j h1 h2=>by
 rw[AHeap.get_without,hp j];exact a j h1 h2
theorem IsFam.app{q N:Nat}{h:Option Nat}{lit T:AHeap}(hl:noR q lit=true)(a:IsFam q N h T){j:Nat}(h1:j<N)(h2:h≠some j):AHeap.get (lit++T) (q,j)=some .tok:=by
 rw[AHeap.get_append,Q7 hl rfl,Option.none_or];exact a j h1 h2
theorem zeb{α:Type}{l:List α}{i:Nat}{a:α}(h:l[i]?=some a):i<l.length:=by
 rcases Nat.lt_or_ge i l.length with h'|h'
 ·exact h'
 ·rw[List.getElem?_eq_none h'] at h;cases h
def Ky(n0 q':Nat)(f:Nat→Option Id)(m:Id)(g:Option Id)(M:List (Id×Id))(id:Id):Option Id:=if id.1=q' then f id.2 else if id=m then g else rho n0 M id
def zoj(n0 n q q':Nat)(m t:Id)(lit':AHeap)(M:List (Id×Id)):Bool:=
 Nat.ble n0 q&&Nat.ble n0 q'&&Nat.ble (q'+1) n&&Nat.ble n0 m.1&&Nat.ble (m.1+1) n&&Nat.ble n0 t.1&&Xm n0 n lit' M&&M.all (fun x=>!(Nat.beq x.2.1 q)&&!(decide (x.2=t)))&&noR q lit'
structure ChkG(n0 n q q':Nat)(m t:Id)(lit':AHeap)(M:List (Id×Id)):Prop where
 q0:n0≤q
 q1:n0≤q'
 q2:q'<n
 m1:n0≤m.1
 m2:m.1<n
 t1:n0≤t.1
 rc:RhoChk n0 n lit' M
 all:∀x∈M,x.2.1≠q∧x.2≠t
 no:noR q lit'=true
theorem Uq{n0 n q q':Nat}{m t:Id}{lit':AHeap}{M:List (Id×Id)}(h:zoj n0 n q q' m t lit' M=true):ChkG n0 n q q' m t lit' M:=by
 unfold zoj at h
 simp only[Bool.and_eq_true,List.all_eq_true] at h
 obtain⟨⟨⟨⟨⟨⟨⟨⟨h1,h2⟩,h3⟩,h4⟩,h5⟩,h6⟩,h7⟩,h8⟩,h9⟩:=h
 exact⟨Nat.le_of_ble_eq_true h1,Nat.le_of_ble_eq_true h2,Nat.le_of_ble_eq_true h3,Nat.le_of_ble_eq_true h4,Nat.le_of_ble_eq_true h5,Nat.le_of_ble_eq_true h6,Jn h7,fun x hx=>⟨V2 (h8 x hx).1,by simpa using(h8 x hx).2⟩,h9⟩
section
variable {n0 n n' q q' N:Nat} {h:Option Nat} {f:Nat→Option Id} {m t:Id} {g:Option Id} {M:List (Id×Id)} {e' e:Env} {lit' T lit:AHeap}
theorem zni{F:Id→Bool}(hc:ChkG n0 n q q' m t lit' M)(hF:∀i:Id,i.1<n0→F i=false)(hf1:∀j k,f j=some k→k.1=q∨k=t)(hf2:∀i j k,f i=some k→f j=some k→i=j)(hg1:∀k,g=some k→k.1=q)(hfg:∀j k,f j=some k→g≠some k) :
 RhoOk n0 n F (lit'++T) (Ky n0 q' f m g M):=by
 have base:∀ {i k:Id},Ky n0 q' f m g M i=some k→(i.1=q'∧f i.2=some k)∨(i.1≠q'∧i=m∧g=some k)∨(i.1≠q'∧i≠m∧rho n0 M i=some k):=by
  intro i k hi
  unfold Ky at hi
  split at hi
  ·rename_i h3;exact .inl ⟨h3,hi⟩
  ·rename_i h3
   split at hi
   ·rename_i h4;exact .inr (.inl ⟨h3,h4,hi⟩)
   ·rename_i h4;exact .inr (.inr ⟨h3,h4,hi⟩)
 have vals:∀ {i k:Id},rho n0 M i=some k→k.1≠q∧k≠t:=by
  intro i k hi
  rcases uc hi with g|⟨g1,g2,_⟩
  ·exact hc.all _ g
  ·subst g2
   exact⟨fun e=>by have:=hc.q0;omega,fun e=>by have:=hc.t1;subst e;omega⟩
 have hr:RhoOk n0 n F (lit'++T) (rho n0 M):=by
  have hc':RhoChk n0 n (lit'++T) M:=⟨hc.rc.le,fun x hx=>⟨(hc.rc.all x hx).1,(hc.rc.all x hx).2.1,(hc.rc.all x hx).2.2.imp id z2z⟩,hc.rc.nd⟩
  refine⟨fun i j k hi hj=>?_,fun i k hi=>?_,fun i hi=>?_,fun i k hi hk=>?_,hc'.le⟩
  ·rcases uc hi with g1|⟨g1,g1',g1''⟩<;>rcases uc hj with g2|⟨g2,g2',g2''⟩
   ·exact Qj hc'.nd g1 g2
   ·exact absurd (List.mem_map.2 ⟨_,g1,rfl⟩) g2''
   ·exact absurd (List.mem_map.2 ⟨_,g2,rfl⟩) g1''
   ·rw[←g1',←g2']
  ·rcases uc hi with g|⟨g,g',_⟩
   ·exact(hc'.all _ g).2.1
   ·have:=hc'.le;omega
  ·rcases z7o hc' hi with g|g
   ·exact .inl ⟨g,hF i hi⟩
   ·exact .inr g
  ·rcases uc hk with g|⟨g,g',_⟩
   ·exact(hc'.all _ g).2.2
   ·omega
 have nf:∀ {j:Nat} {k i:Id},f j=some k→rho n0 M i=some k→False:=fun h1 h2=>by
  rcases hf1 _ _ h1 with h|h
  ·exact(vals h2).1 h
  ·exact(vals h2).2 h
 refine⟨fun i j k hi hj=>?_,fun i k hi=>?_,fun i hi=>?_,fun i k hi hk=>?_,hr.le⟩
 ·rcases base hi with⟨a1,a2⟩|⟨a1,a2,a3⟩|⟨a1,a2,a3⟩<;>rcases base hj with⟨b1,b2⟩|⟨b1,b2,b3⟩|⟨b1,b2,b3⟩
  ·ext
   ·omega
   ·exact hf2 _ _ _ a2 b2
  ·exact absurd b3 (hfg _ _ a2)
  ·exact(nf a2 b3).elim
  ·exact absurd a3 (hfg _ _ b2)
  ·rw[a2,b2]
  ·exact absurd (hg1 _ a3) (vals b3).1
  ·exact(nf b2 a3).elim
  ·exact absurd (hg1 _ b3) (vals a3).1
  ·exact hr.inj i j k a3 b3
 ·rcases base hi with⟨a1,a2⟩|⟨a1,a2,a3⟩|⟨a1,a2,a3⟩
  ·have:=hc.q2;omega
  ·subst a2;exact hc.m2
  ·exact hr.dom i k a3
 ·have:Ky n0 q' f m g M i=rho n0 M i:=by
   unfold Ky
   rw[if_neg (by have:=hc.q1;omega),if_neg (fun e=>by have:=hc.m1;subst e;omega)]
  rw[this];exact hr.low i hi
 ·rcases base hk with⟨a1,a2⟩|⟨a1,a2,a3⟩|⟨a1,a2,a3⟩
  ·left
   rcases hf1 _ _ a2 with h|h
   ·have:=hc.q0;omega
   ·subst h;exact hc.t1
  ·left;have:=hg1 _ a3;have:=hc.q0;omega
  ·exact hr.high i k hi a3
def zqc(n0 q q' N i:Nat)(m:Id)(M:List (Id×Id)):Id→Option Id:=Ky n0 q' (fun j=>if j=i then none else some (q,j)) m (if i<N then some (q,i) else none) M
def zqo(n0 q q' i:Nat)(t:Id)(M:List (Id×Id)):Id→Option Id:=Ky n0 q' (fun j=>if j=i then some t else some (q,j)) (q',0) none M
section
variable {F:Id→Bool} {H:AHeap} {s:Nat} {es:List (List (List AVal))}
end
end
section
variable {α:Type} (f:α→List AVal) {q s:Nat} {l:List (List α)} {i:Nat} {t t':Id}
end
theorem IsFam.hole{q N:Nat}{h:Option Nat}{T:AHeap}(a:IsFam q N none T):IsFam q N h T:=fun j h1 _=>a j h1 (by simp)
def InQ(q:Nat)(T:AHeap):Prop:=∀x∈T,x.1.1=q
theorem InQ.base{q N:Nat}{h:Option Nat}:InQ q (fam q N h):=fun x hx=>by
 unfold fam at hx
 obtain⟨j,_,rfl⟩:=List.mem_map.1 hx
 rfl
theorem InQ.del{q:Nat}{y:Id}:∀ {T:AHeap},InQ q T→InQ q (T.del y)
 |[],_=>fun x hx=>by cases hx
 |(k,b)::r,h=>by
  have hr:InQ q r:=fun x hx=>h x (List.mem_cons_of_mem _ hx)
  unfold AHeap.del
  split
  ·exact InQ.del hr
  ·intro x hx
   rcases List.mem_cons.1 hx with rfl|hx
   ·exact h _ (List.mem_cons_self ..)
   ·exact InQ.del hr x hx
theorem Yw{q:Nat}{p:Id→Bool}{lit rest T:AHeap}(hT:InQ q T)(hp:∀j,p (q,j)=false)(hl:AHeap.without p lit=rest):AHeap.without p (lit++T)=rest++T:=by
 rw[J3,hl,Q6 (fun x hx=>?_)]
 have:=hT x hx
 rw[show x.1=(q,x.1.2) by rw[←this]]
 exact hp _
variable {P:Program}
end Go.Fx
