/-
  Keys in their order: comparing, binary search, insertion into a sorted list; the graph that is built from the edges; no condition but the lists' lengths.
-/
import Derived.Test.YtejfgjggcoemeaaGenC
import Derived.Test.YtejfgjggcoemeaaFxLt
namespace Go.Proofs.Ytejfgjggcoemeaa
open Go.Fx Go.Sort
set_option linter.unusedVariables false
theorem Wn{x:Int}(h:-4611686018427387904≤x)(h':x≤4611686018427387904):W x=x:=zsd (by unfold inR;omega)
abbrev K:=G_QKey
theorem u9(x:K):G_QKey.mk x.f_Kind x.f_A x.f_B=x:=rfl
theorem zn1{x y:K}(h1:x.f_Kind=y.f_Kind)(h2:x.f_A=y.f_A)(h3:x.f_B=y.f_B):x=y:=by
 cases x;cases y;simp only at h1 h2 h3;subst h1;subst h2;subst h3;rfl
instance:DecidableEq K:=fun x y=>if h:x.f_Kind=y.f_Kind∧x.f_A=y.f_A∧x.f_B=y.f_B then isTrue (zn1 h.1 h.2.1 h.2.2) else isFalse (fun e=>h (by subst e;exact⟨rfl,rfl,rfl⟩))
theorem eqK(x y:K):((x.f_Kind==y.f_Kind)&&((x.f_A==y.f_A)&&((x.f_B==y.f_B)&&true)))=decide (x=y):=by
 rw[Bool.eq_iff_iff,decide_eq_true_eq]
 cases x;cases y
 simp
theorem zdm(x y:K):zd x y=true↔x=y:=by
 unfold zd
 rw[eqK,decide_eq_true_eq]
def lt(x y:K):Prop:=x.f_Kind<y.f_Kind∨x.f_Kind=y.f_Kind∧(x.f_A<y.f_A∨x.f_A=y.f_A∧x.f_B<y.f_B)
instance (x y:K):Decidable (lt x y):=by unfold lt;infer_instance
theorem lt_irrefl(x:K):¬lt x x:=by unfold lt;omega
theorem Xb{x y z:K}(h:lt x y)(h':lt y z):lt x z:=by unfold lt at *;omega
theorem zkt{x y:K}(h:lt x y):¬lt y x:=by unfold lt at *;omega
theorem zeh(x y:K):lt x y∨x=y∨lt y x:=by
 by_cases h:x=y
 ·exact .inr (.inl h)
 ·have:¬(x.f_Kind=y.f_Kind∧x.f_A=y.f_A∧x.f_B=y.f_B):=fun⟨a,b,c⟩=>h (zn1 a b c)
  unfold lt;omega
abbrev Srt(l:List K):Prop:=l.Pairwise lt
theorem U9{l:List K}(h:Srt l):l.Nodup:=by
 unfold List.Nodup
 exact List.Pairwise.imp (fun {a b} (hab:lt a b) (e:a=b)=>lt_irrefl a (by rw[←e] at hab;exact hab)) h
theorem z6x:∀ {a b:List K},Srt a→Srt b→(∀x,x∈a↔x∈b)→a=b
 |[],[],_,_,_=>rfl
 |[],y::b,_,_,h=>by have:=(h y).2 (List.mem_cons_self ..);cases this
 |x::a,[],_,_,h=>by have:=(h x).1 (List.mem_cons_self ..);cases this
 |x::a,y::b,ha,hb,h=>by
  have ha':=List.pairwise_cons.1 ha
  have hb':=List.pairwise_cons.1 hb
  have hxy:x=y:=by
   rcases List.mem_cons.1 ((h x).1 (List.mem_cons_self ..)) with e|hx
   ·exact e
   ·rcases List.mem_cons.1 ((h y).2 (List.mem_cons_self ..)) with e|hy
    ·exact e.symm
    ·exact absurd (hb'.1 x hx) (zkt (ha'.1 y hy))
  subst hxy
  congr 1
  refine z6x ha'.2 hb'.2 fun z=>⟨fun hz=>?_,fun hz=>?_⟩
  ·rcases List.mem_cons.1 ((h z).1 (List.mem_cons_of_mem _ hz)) with e|h'
   ·subst e;exact absurd (ha'.1 _ hz) (lt_irrefl _)
   ·exact h'
  ·rcases List.mem_cons.1 ((h z).2 (List.mem_cons_of_mem _ hz)) with e|h'
   ·subst e;exact absurd (hb'.1 _ hz) (lt_irrefl _)
   ·exact h'
def c1(a b:Int):Int:=if a<b then -1 else if b<a then 1 else 0
theorem zps(m:Option Nat)(a b:Int):qa m a b=some (c1 a b):=by
 unfold qa wy c1
 simp only[Option.bind_some]
 rw[if_neg (by simp),if_neg (by simp)]
 by_cases h:a<b
 ·rw[if_pos (by simpa using h),if_pos h]
 ·rw[if_neg (by simpa using h),if_neg h]
  by_cases h':b<a
  ·rw[if_pos (by simpa using h'),if_pos h']
  ·rw[if_neg (by simpa using h'),if_neg h']
theorem zpq{m:Option Nat}{l:List Int}{i:Nat}(hi:i<l.length)(hl:l.length≤1000):zz m l (i:Int)=if l.getD i default≠0 then some (.inr (l.getD i default)) else some (.inl ((i+1:Nat):Int)):=by
 unfold zz
 rw[if_pos (by simpa using hi),if_pos (by simp;omega)]
 simp only[Int.toNat_natCast,Wi (show i≤4611686018427387904 by omega)]
 by_cases h:l.getD i default≠0
 ·rw[if_pos (by simpa using h),if_pos h];rfl
 ·rw[if_neg (by simpa using h),if_neg h]
theorem ztu{m:Option Nat}{l:List Int}:zz m l (l.length:Int)=some (.inr 0):=by
 unfold zz kc
 rw[if_neg (by simp)];rfl
def or3(a b c:Int):Int:=if a≠0 then a else if b≠0 then b else c
theorem orI(a b c:Int):wh none [a,b,c]=some (or3 a b c):=by
 have h0:=zpq (m:=none) (l:=[a,b,c]) (i:=0) (by simp) (by simp)
 have h1:=zpq (m:=none) (l:=[a,b,c]) (i:=1) (by simp) (by simp)
 have h2:=zpq (m:=none) (l:=[a,b,c]) (i:=2) (by simp) (by simp)
 have h3:=ztu (m:=none) (l:=[a,b,c])
 unfold wh kf or3
 show ky none _ ((0:Nat):Int)=_
 by_cases ha:a≠0
 ·rw[yv (x:=some a) (by show zz none _ _=_;rw[h0];exact if_pos ha),if_pos ha]
 ·rw[qw (s':=((1:Nat):Int)) (by show zz none _ _=_;rw[h0];exact if_neg ha),if_neg ha]
  by_cases hb:b≠0
  ·rw[yv (x:=some b) (by show zz none _ _=_;rw[h1];exact if_pos hb),if_pos hb]
  ·rw[qw (s':=((2:Nat):Int)) (by show zz none _ _=_;rw[h1];exact if_neg hb),if_neg hb]
   by_cases hc:c≠0
   ·rw[yv (x:=some c) (by show zz none _ _=_;rw[h2];exact if_pos hc)]
   ·rw[qw (s':=((3:Nat):Int)) (by show zz none _ _=_;rw[h2];exact if_neg hc),yv (x:=some 0) (by show zz none _ _=_;exact h3)]
    have:c=0:=Decidable.byContradiction hc
    rw[this]
theorem z2x{b:Int→Option (Int ⊕ Int)}{k:Nat}{s s':Int}(h:b s=some (.inl s')):kv b (k+1) s=kv b k s':=by simp only[kv,h]
theorem z1l{b:Int→Option (Int ⊕ Int)}{k:Nat}{s:Int}{x:Int}(h:b s=some (.inr x)):kv b (k+1) s=some x:=by simp only[kv,h]
theorem zu3(a b c:Int):wh (some 4096) [a,b,c]=some (or3 a b c):=by
 have h0:=zpq (m:=some 4096) (l:=[a,b,c]) (i:=0) (by simp) (by simp)
 have h1:=zpq (m:=some 4096) (l:=[a,b,c]) (i:=1) (by simp) (by simp)
 have h2:=zpq (m:=some 4096) (l:=[a,b,c]) (i:=2) (by simp) (by simp)
 have h3:=ztu (m:=some 4096) (l:=[a,b,c])
 unfold wh kf or3
 show kv _ (4095+1) ((0:Nat):Int)=_
 by_cases ha:a≠0
 ·rw[z1l (x:=a) (h0.trans (if_pos ha)),if_pos ha]
 ·rw[z2x (h0.trans (if_neg ha)),if_neg ha]
  show kv _ (4094+1) _=_
  by_cases hb:b≠0
  ·rw[z1l (x:=b) (h1.trans (if_pos hb)),if_pos hb]
  ·rw[z2x (h1.trans (if_neg hb)),if_neg hb]
   show kv _ (4093+1) _=_
   by_cases hc:c≠0
   ·rw[z1l (x:=c) (h2.trans (if_pos hc))]
   ·rw[z2x (h2.trans (if_neg hc))]
    refine(z1l (k:=4092) (x:=0) h3).trans ?_
    have:c=0:=Decidable.byContradiction hc
    rw[this]
def znh(x y:K):Int:=or3 (c1 x.f_Kind y.f_Kind) (c1 x.f_A y.f_A) (c1 x.f_B y.f_B)
theorem z7j(x y:K):znh x y<0↔lt x y:=by
 unfold znh or3 c1 lt
 repeat' split
 all_goals omega
theorem zfa(x y:K):znh x y=0↔x=y:=by
 constructor
 ·intro h
  have:x.f_Kind=y.f_Kind∧x.f_A=y.f_A∧x.f_B=y.f_B:=by
   unfold znh or3 c1 at h
   repeat' split at h
   all_goals omega
  exact zn1 this.1 this.2.1 this.2.2
 ·intro h
  subst h
  unfold znh or3 c1
  simp
theorem z82(x y:K):yz none x y=some (znh x y):=by
 unfold yz
 rw[zps,Option.bind_some,zps,Option.bind_some,zps,Option.bind_some,orI];rfl
theorem ztd(x y:K):z67 x y=znh x y:=by
 unfold z67 qx
 rw[zps,Option.bind_some,zps,Option.bind_some,zps,Option.bind_some,zu3];rfl
theorem z1j(x y:K):Go.Proofs.ltOf z67 x y=decide (lt x y):=by
 unfold Go.Proofs.ltOf
 rw[ztd,Bool.eq_iff_iff,decide_eq_true_eq,decide_eq_true_eq,z7j]
theorem swo:SWO (Go.Proofs.ltOf z67):=by
 refine⟨fun x=>?_,fun x y z h h'=>?_,fun x y z h h'=>?_⟩
 ·rw[z1j,decide_eq_false (lt_irrefl x)]
 ·rw[z1j,decide_eq_true_eq] at *;exact Xb h h'
 ·rw[z1j,decide_eq_false_iff_not] at *
  unfold lt at *;omega
structure Pos(l:List K)(e:K)(i:Nat):Prop where
 le:i≤l.length
 lo:∀j (h:j<l.length),j<i→lt l[j] e
 hi:∀j (h:j<l.length),i≤j→¬lt l[j] e
def fnd(l:List K)(e:K)(i:Nat):Bool:=decide (∃h:i<l.length,l[i]=e)
noncomputable abbrev gC:Unit→(K×K)→Option (Int×Unit):=fun(s:Unit) (x:(K×K))=>(yz none x.1 x.2).map fun o=>(o,())
theorem ztl{a b:Nat}(h:a+b≤9000000000000):W ((IntKind.wrap .u64 (W ((a:Int)+(b:Int)))).fdiv (2 ^ (min (1:Int).toNat (IntKind.bits .u64))))=(((a+b) / 2:Nat):Int):=by
 have wr:∀x:Int,IntKind.wrap .u64 x=x % 2 ^ 64:=fun x=>by rfl
 rw[zsd (x:=(a:Int)+(b:Int)) (by unfold inR;omega),wr]
 have e:((2:Int) ^ (min (1:Int).toNat (IntKind.bits .u64)))=2:=by simp[IntKind.bits]
 have e2:((2:Int) ^ 64)=18446744073709551616:=by decide
 rw[e,e2,Int.emod_eq_of_lt (by omega) (by omega),Int.fdiv_eq_ediv_of_nonneg _ (by omega),zsd (by unfold inR;omega)]
 omega
theorem zoi{l:List K}{e:K}(hl:l.length≤4000000000000)(hp:Srt l):∀ (N a b:Nat),b-a≤N→a≤b→b≤l.length →
 (∀j (h:j<l.length),j<a→lt l[j] e)→(∀j (h:j<l.length),b≤j→¬lt l[j] e) →
 ∃i,Pos l e i∧zm gC none e l (a:Int) () (b:Int)=some ((i:Int),fnd l e i,()):=by
 intro N
 have stop:∀a,a≤l.length→(∀j (h:j<l.length),j<a→lt l[j] e)→(∀j (h:j<l.length),a≤j→¬lt l[j] e) →
  ∃i,Pos l e i∧zm gC none e l (a:Int) () (a:Int)=some ((i:Int),fnd l e i,()):=by
  intro a ha h1 h2
  refine⟨a,⟨ha,h1,h2⟩,?_⟩
  unfold zm
  refine yv ?_
  unfold zl
  rw[if_neg (by simp)]
  congr 1
  unfold qz yu
  simp only[Int.toNat_natCast,Nat.zero_add,u9]
  by_cases hal:a<l.length
  ·rw[if_pos (by intro _;omega),if_pos (by intro _;omega),if_pos (by simp;omega),wo hal]
   simp only[gC,z82,Option.map_some,Option.bind_some]
   congr 3
   unfold fnd
   rw[Bool.eq_iff_iff,Bool.and_eq_true,decide_eq_true_eq,decide_eq_true_eq,beq_iff_eq]
   constructor
   ·rintro⟨_,h⟩
    exact⟨hal,(zfa _ _).1 h⟩
   ·rintro⟨_,h⟩
    exact⟨by omega,(zfa _ _).2 h⟩
  ·rw[if_pos (by intro h;simp at h;omega),if_pos (by intro h;simp at h;omega),if_neg (by simp;omega)]
   congr 3
   unfold fnd
   rw[Bool.eq_iff_iff,Bool.and_eq_true,decide_eq_true_eq,decide_eq_true_eq]
   constructor
   ·rintro⟨h,_⟩;omega
   ·rintro⟨h,_⟩;omega
 induction N with
 |zero=>
  intro a b hN hab hb h1 h2
  have he:b=a:=by omega
  subst he
  exact stop b hb h1 h2
 |succ N ih=>
  intro a b hN hab hb h1 h2
  by_cases he:a=b
  ·have he':b=a:=he.symm
   subst he'
   exact stop b hb h1 h2
  ·have hm:(a+b) / 2<l.length:=by omega
   by_cases hc:lt l[(a+b) / 2] e
   ·obtain⟨i,k1,k2⟩:=ih ((a+b) / 2+1) b (by omega) (by omega) hb (fun j hj hj2=>by
     by_cases e1:j=(a+b) / 2
     ·subst e1;exact hc
     ·exact Xb (List.pairwise_iff_getElem.1 hp j _ hj hm (by omega)) hc) h2
    refine⟨i,k1,?_⟩
    unfold zm
    rw[qw (s':=((((a+b) / 2+1:Nat):Int),(),(b:Int))) ?_]
    ·exact k2
    ·unfold zl
     simp only[ztl (show a+b≤9000000000000 by omega),Int.toNat_natCast,Nat.zero_add,u9,wo hm]
     rw[if_pos (by simp;omega),if_pos (by omega),if_pos (by omega)]
     simp only[gC,z82,Option.map_some,Option.bind_some]
     rw[if_pos (by simpa using(z7j _ _).2 hc),Wi (by omega)]
   ·obtain⟨i,k1,k2⟩:=ih a ((a+b) / 2) (by omega) (by omega) (by omega) h1 (fun j hj hj2 h=>by
     by_cases e1:j=(a+b) / 2
     ·subst e1;exact hc h
     ·exact hc (Xb (List.pairwise_iff_getElem.1 hp _ j hm hj (by omega)) h))
    refine⟨i,k1,?_⟩
    unfold zm
    rw[qw (s':=((a:Int),(),(((a+b) / 2:Nat):Int))) ?_]
    ·exact k2
    ·unfold zl
     simp only[ztl (show a+b≤9000000000000 by omega),Int.toNat_natCast,Nat.zero_add,u9,wo hm]
     rw[if_pos (by simp;omega),if_pos (by omega),if_pos (by omega)]
     simp only[gC,z82,Option.map_some,Option.bind_some]
     rw[if_neg (by simpa using fun h=>hc ((z7j _ _).1 h))]
theorem zsv{l:List K}{e:K}(hl:l.length≤4000000000000)(hp:Srt l):∃i,Pos l e i∧yf gC none e l ()=some ((i:Int),fnd l e i,()):=by
 unfold yf
 exact zoi hl hp l.length 0 l.length (by omega) (by omega) (Nat.le_refl _) (fun j _ h=>absurd h (Nat.not_lt_zero j)) (fun j h h'=>by omega)
theorem zff{l:List K}{k:K}(hl:l.length≤1000000)(hp:Srt l):∃l',qi none k l=some l'∧Srt l'∧(∀x,x∈l'↔x=k∨x∈l)∧l'.length≤l.length+1:=by
 obtain⟨i,hi,hb⟩:=zsv (e:=k) (by omega:l.length≤4000000000000) hp
 unfold qi wl
 rw[show(fun(s:Unit) (x:(K×K))=>(yz none x.1 x.2).map fun o=>(o,()))=gC from rfl,hb,Option.bind_some]
 have hle:=hi.le
 cases hf:fnd l k i with
 |true=>
  rw[if_neg (by simp)]
  unfold fnd at hf
  rw[decide_eq_true_eq] at hf
  obtain⟨h1,h2⟩:=hf
  refine⟨l,rfl,hp,fun x=>⟨.inr,fun h=>?_⟩,by omega⟩
  rcases h with rfl|h
  ·rw[←h2];exact List.getElem_mem _
  ·exact h
 |false=>
  rw[if_pos (by simp)]
  unfold vh zsn
  simp only
  rw[if_pos (by omega),Option.bind_some]
  simp only[Int.toNat_natCast]
  unfold fnd at hf
  rw[decide_eq_false_iff_not] at hf
  refine⟨_,rfl,?_,fun x=>?_,by simp;omega⟩
  ·have hlo:∀x∈l.take i,lt x k:=fun x hx=>by
    obtain⟨j,hj,rfl⟩:=List.mem_iff_getElem.1 hx
    rw[List.getElem_take]
    exact hi.lo j _ (by simp at hj;omega)
   have hhi:∀x∈l.drop i,lt k x:=fun x hx=>by
    obtain⟨j,hj,rfl⟩:=List.mem_iff_getElem.1 hx
    rw[List.getElem_drop]
    have hjl:i+j<l.length:=by simp at hj;omega
    have h1:=hi.hi (i+j) hjl (by omega)
    rcases zeh l[i+j] k with h|h|h
    ·exact absurd h h1
    ·exfalso
     by_cases hj0:j=0
     ·subst hj0;exact hf ⟨hjl,h⟩
     ·have h2:=List.pairwise_iff_getElem.1 hp i (i+j) (by omega) hjl (by omega)
      rw[h] at h2
      exact hi.hi i (by omega) (by omega) h2
    ·exact h
   refine List.pairwise_append.2 ⟨hp.sublist (List.take_sublist _ _),List.pairwise_cons.2 ⟨hhi,hp.sublist (List.drop_sublist _ _)⟩,fun x hx y hy=>?_⟩
   rcases List.mem_cons.1 hy with rfl|hy
   ·exact hlo x hx
   ·exact Xb (hlo x hx) (hhi y hy)
  ·rw[List.mem_append,List.mem_cons]
   have:x∈l↔x∈l.take i∨x∈l.drop i:=by rw[←List.mem_append,List.take_append_drop]
   rw[this]
   constructor
   ·rintro(h|h|h)
    ·exact .inr (.inl h)
    ·exact .inl h
    ·exact .inr (.inr h)
   ·rintro(h|h|h)
    ·exact .inr (.inl h)
    ·exact .inl h
    ·exact .inr (.inr h)
def src(rev:Bool)(e:G_QEdge):K:=if rev then e.f_To else e.f_From
def dst(rev:Bool)(e:G_QEdge):K:=if rev then e.f_From else e.f_To
abbrev Gm:=List (K×List K)
def nx(M:Gm)(k:K):List K:=(lk zd M k).getD []
structure Graph(rev:Bool)(es:List G_QEdge)(ks:List K)(M:Gm):Prop where
 srt:Srt ks
 mem:∀x,x∈ks↔∃e∈es,x=src rev e∨x=dst rev e
 nsrt:∀k,Srt (nx M k)
 nmem:∀k x,x∈nx M k↔∃e∈es,src rev e=k∧dst rev e=x
 klen:ks.length≤2*es.length
 nlen:∀k,(nx M k).length≤es.length
theorem zd7{M:Gm}{k j:K}{v:List K}:nx (mp zd M k v) j=if k=j then v else nx M j:=by
 unfold nx
 rw[lkM (hq:=zdm)]
 split<;>rfl
theorem zb0{rev:Bool}{es:List G_QEdge}{ks:List K}{M:Gm}(h:Graph rev es ks M)(hl:es.length≤1000)(e:G_QEdge):∃l1 l2 v,qi none (dst rev e) (nx M (src rev e))=some v∧qi none (src rev e) ks=some l1∧qi none (dst rev e) l1=some l2 ∧
 Graph rev (es++[e]) l2 (mp zd M (src rev e) v):=by
 have h1:=h.klen
 obtain⟨v,v1,v2,v3,v4⟩:=zff (k:=dst rev e) (by have:=h.nlen (src rev e);omega) (h.nsrt (src rev e))
 obtain⟨l1,a1,a2,a3,a4⟩:=zff (k:=src rev e) (by omega) h.srt
 obtain⟨l2,b1,b2,b3,b4⟩:=zff (k:=dst rev e) (by omega) a2
 refine⟨l1,l2,v,v1,a1,b1,b2,fun x=>?_,fun k=>?_,fun k x=>?_,by simp;omega,fun k=>?_⟩
 ·rw[b3,a3,h.mem]
  simp only[List.mem_append,List.mem_singleton]
  constructor
  ·rintro(h|h|⟨e',h1,h2⟩)
   ·exact⟨e,.inr rfl,.inr h⟩
   ·exact⟨e,.inr rfl,.inl h⟩
   ·exact⟨e',.inl h1,h2⟩
  ·rintro⟨e',h1|rfl,h2⟩
   ·exact .inr (.inr ⟨e',h1,h2⟩)
   ·rcases h2 with h2|h2
    ·exact .inr (.inl h2)
    ·exact .inl h2
 ·rw[zd7]
  split
  ·exact v2
  ·exact h.nsrt k
 ·rw[zd7]
  simp only[List.mem_append,List.mem_singleton]
  split
  ·rename_i hk
   subst hk
   rw[v3,h.nmem]
   constructor
   ·rintro(rfl|⟨e',h1,h2⟩)
    ·exact⟨e,.inr rfl,rfl,rfl⟩
    ·exact⟨e',.inl h1,h2⟩
   ·rintro⟨e',h1|rfl,h2,h3⟩
    ·exact .inr ⟨e',h1,h2,h3⟩
    ·exact .inl h3.symm
  ·rename_i hk
   rw[h.nmem]
   constructor
   ·rintro⟨e',h1,h2⟩;exact⟨e',.inl h1,h2⟩
   ·rintro⟨e',h1|rfl,h2,h3⟩
    ·exact⟨e',h1,h2,h3⟩
    ·exact absurd h2 hk
 ·rw[zd7]
  have:=h.nlen k
  split
  ·rename_i hk;subst hk;simp only[List.length_append,List.length_singleton];omega
  ·simp only[List.length_append,List.length_singleton];omega
theorem zra{es:List G_QEdge}{rev:Bool}(hl:es.length≤400):∀ (n i:Nat) (ks:List K) (M:Gm),i+n=es.length→Graph rev (es.take i) ks M →
 ∃ks' M',w9 none es rev (i:Int) M ks=some (ks',M')∧Graph rev es ks' M':=by
 have cap:(if 400<((es.map z6).length:Int) then 400 else((es.map z6).length:Int)).toNat=es.length:=by rw[List.length_map,if_neg (by omega)];omega
 intro n
 induction n with
 |zero=>
  intro i ks M h hg
  have:i=es.length:=by omega
  subst this
  rw[List.take_length] at hg
  refine⟨ks,M,?_,hg⟩
  unfold w9
  rw[yv (x:=some (ks,M))]
  unfold xm wz
  simp only[cap,List.take_length]
  rw[if_neg (by simp)]
 |succ n ih=>
  intro i ks M h hg
  have hi:i<es.length:=by omega
  obtain⟨l1,l2,v,v1,a1,b1,hg'⟩:=zb0 hg (by rw[List.length_take];omega) es[i]
  have htk:es.take i++[es[i]]=es.take (i+1):=by rw[List.take_add_one,List.getElem?_eq_getElem hi];rfl
  rw[htk] at hg'
  obtain⟨ks',M',h1,h2⟩:=ih (i+1) l2 _ (by omega) hg'
  refine⟨ks',M',?_,h2⟩
  have hb:xm none es rev (i:Int) M ks=some (.inl (((i+1:Nat):Int),mp zd M (src rev es[i]) v,l2)):=by
   have j6:∀N,jm none es rev (i:Int) ks (src rev es[i]).f_Kind (src rev es[i]).f_A (src rev es[i]).f_B (dst rev es[i]).f_Kind (dst rev es[i]).f_A (dst rev es[i]).f_B N=some (.inl (((i+1:Nat):Int),N,l2)):=fun N=>by
    unfold jm
    simp only[u9]
    rw[a1,Option.bind_some,b1,Option.bind_some,Wi (by omega)]
   have j5:jl none es rev (i:Int) M ks (src rev es[i]).f_Kind (src rev es[i]).f_A (src rev es[i]).f_B (dst rev es[i]).f_Kind (dst rev es[i]).f_A (dst rev es[i]).f_B=some (.inl (((i+1:Nat):Int),mp zd M (src rev es[i]) v,l2)):=by
    unfold jl
    simp only[u9]
    unfold nx at v1
    by_cases hs:(lk zd M (src rev es[i])).isSome=true
    ·rw[if_pos hs]
     have e1:(lk zd M (src rev es[i])).getD default=(lk zd M (src rev es[i])).getD []:=rfl
     rw[e1,v1,Option.bind_some,j6]
    ·rw[if_neg hs]
     have e1:(lk zd M (src rev es[i])).getD []=[]:=by
      cases hx:lk zd M (src rev es[i]) with
      |none=>rfl
      |some _=>rw[hx] at hs;exact absurd rfl hs
     rw[e1] at v1
     rw[v1,Option.bind_some,j6]
   unfold xm
   simp only[cap,List.take_length,Int.toNat_natCast,wo hi]
   rw[if_pos (by simpa using hi),if_pos (by simp;omega)]
   cases rev with
   |true=>rw[if_pos rfl];exact j5
   |false=>rw[if_neg (by decide)];exact j5
  unfold w9 at h1 ⊢
  rw[qw hb]
  exact h1
theorem Jb{es:List G_QEdge}{rev:Bool}(hl:es.length≤400):∃ks M,qq none es rev=some (ks,M)∧Graph rev es ks M:=by
 unfold qq
 rw[if_pos (by rw[List.length_map];split<;>omega)]
 exact zra hl es.length 0 [] [] (by omega) ⟨.nil,fun x=>by simp,fun k=>.nil,fun k x=>by simp[nx,lk],by simp,fun k=>by simp[nx,lk]⟩
end Go.Proofs.Ytejfgjggcoemeaa
