/-
  The reference: finding, sorting, what can be reached; no condition but the lists' lengths.
-/
import Derived.Test.YtejfgjggcoemeaaLb
namespace Go.Proofs.Ytejfgjggcoemeaa
open Go.Fx Go.Sort
set_option linter.unusedVariables false
theorem zna(x y:K):((x.f_Kind==y.f_Kind)&&((x.f_A==y.f_A)&&((x.f_B==y.f_B)&&true)))=true↔x=y:=by rw[eqK,decide_eq_true_eq]
theorem z8o{l:List K}{x:K}(hl:l.length≤1000000):∀ (k i:Nat),i+k=l.length→∃r:Int,yq none l x (i:Int)=some r∧(0≤r↔x∈l.drop i)
 |0,i,h=>by
  have:i=l.length:=by omega
  subst this
  refine⟨-1,?_,by simp⟩
  unfold yq
  rw[yv (x:=some (-1))]
  unfold y5 xt
  rw[if_neg (by simp)]
 |k+1,i,h=>by
  have hi:i<l.length:=by omega
  have hb:y5 none l x (i:Int)=if x=l[i] then some (.inr (i:Int)) else some (.inl ((i+1:Nat):Int)):=by
   unfold y5
   simp only[Int.toNat_natCast,wo hi]
   rw[if_pos (by simpa using hi),if_pos (by simp;omega)]
   by_cases c:x=l[i]
   ·rw[if_pos ((zna _ _).2 c),if_pos c];rfl
   ·rw[if_neg (fun h=>c ((zna _ _).1 h)),if_neg c,Wi (by omega)]
  rw[List.drop_eq_getElem_cons hi]
  by_cases c:x=l[i]
  ·rw[if_pos c] at hb
   refine⟨i,?_,⟨fun _=>by rw[c];exact List.mem_cons_self ..,fun _=>by omega⟩⟩
   unfold yq
   rw[yv (x:=some (i:Int)) hb]
  ·rw[if_neg c] at hb
   obtain⟨r,h1,h2⟩:=z8o hl k (i+1) (by omega)
   refine⟨r,?_,?_⟩
   ·unfold yq at h1 ⊢
    rw[qw hb];exact h1
   ·rw[h2,List.mem_cons]
    exact⟨.inr,fun h=>h.resolve_left c⟩
theorem Q1{l:List K}{x:K}(hl:l.length≤1000000):zk none l x=some (decide (x∈l)):=by
 obtain⟨r,h1,h2⟩:=z8o (x:=x) hl l.length 0 (by omega)
 unfold zk x8
 rw[show(0:Int)=((0:Nat):Int) from rfl,h1,Option.bind_some]
 congr 1
 rw[Bool.eq_iff_iff,decide_eq_true_eq,decide_eq_true_eq]
 rw[List.drop_zero] at h2
 exact h2
theorem znq(m:Option Nat)(a b:K):jg m a b=some (decide (lt a b)):=by
 unfold jg
 by_cases h1:a.f_Kind=b.f_Kind
 ·rw[if_neg (by simpa using h1)]
  by_cases h2:a.f_A=b.f_A
  ·rw[if_neg (by simpa using h2)]
   exact congrArg some (decide_eq_decide.2 (by unfold lt;omega))
  ·rw[if_pos (by simpa using h2)]
   exact congrArg some (decide_eq_decide.2 (by unfold lt;omega))
 ·rw[if_pos (by simpa using h1)]
  exact congrArg some (decide_eq_decide.2 (by unfold lt;omega))
theorem zt0{a0 v6:List K}{i:Nat}(hi:i<a0.length)(hai:a0.length≤1000000)(hl:v6.length≤1000000)(hs:Srt v6):∀ (n p:Nat),p+n=v6.length→(∀j (h:j<v6.length),j<p→lt v6[j] a0[i]) →
 ∃v',x5 none a0 v6 (i:Int) (p:Int)=some (.inl (v',((i+1:Nat):Int)))∧Srt v'∧(∀x,x∈v'↔x=a0[i]∨x∈v6)∧v'.length≤v6.length+1:=by
 have stop:∀p,p≤v6.length→(∀j (h:j<v6.length),j<p→lt v6[j] a0[i])→(∀ (h:p<v6.length),¬lt v6[p] a0[i]) →
  ∃v',x6 none a0 v6 (i:Int) (p:Int)=some (.inl (v',((i+1:Nat):Int)))∧Srt v'∧(∀x,x∈v'↔x=a0[i]∨x∈v6)∧v'.length≤v6.length+1:=by
  intro p hp h1 h2
  have ins:p=v6.length∨(∃h:p<v6.length,v6[p]≠a0[i])→Srt (v6.take p++([a0[i]]++v6.drop p)):=by
   intro hc
   have hlo:∀x∈v6.take p,lt x a0[i]:=fun x hx=>by
    obtain⟨j,hj,rfl⟩:=List.mem_iff_getElem.1 hx
    rw[List.getElem_take]
    exact h1 j _ (by simp at hj;omega)
   have hhi:∀x∈v6.drop p,lt a0[i] x:=fun x hx=>by
    obtain⟨j,hj,rfl⟩:=List.mem_iff_getElem.1 hx
    rw[List.getElem_drop]
    have hjl:p+j<v6.length:=by simp at hj;omega
    have hpl:p<v6.length:=by omega
    have hne:v6[p]≠a0[i]:=by
     rcases hc with hc|⟨_,hc⟩
     ·omega
     ·exact hc
    have h3:lt a0[i] v6[p]:=by
     rcases zeh v6[p] a0[i] with h|h|h
     ·exact absurd h (h2 hpl)
     ·exact absurd h hne
     ·exact h
    by_cases hj0:j=0
    ·subst hj0;exact h3
    ·exact Xb h3 (List.pairwise_iff_getElem.1 hs p (p+j) hpl hjl (by omega))
   refine List.pairwise_append.2 ⟨hs.sublist (List.take_sublist _ _),List.pairwise_cons.2 ⟨hhi,hs.sublist (List.drop_sublist _ _)⟩,fun x hx y hy=>?_⟩
   rcases List.mem_cons.1 hy with rfl|hy
   ·exact hlo x hx
   ·exact Xb (hlo x hx) (hhi y hy)
  have new:p=v6.length∨(∃h:p<v6.length,v6[p]≠a0[i])→∃v',some (Sum.inl (v6.take p++([a0[i]]++v6.drop p),((i+1:Nat):Int)):(List K×Int) ⊕ List K)=some (.inl (v',((i+1:Nat):Int)))∧Srt v'∧(∀x,x∈v'↔x=a0[i]∨x∈v6)∧v'.length≤v6.length+1:=by
   intro hc
   refine⟨_,rfl,ins hc,fun x=>?_,by simp;omega⟩
   have:x∈v6↔x∈v6.take p∨x∈v6.drop p:=by rw[←List.mem_append,List.take_append_drop]
   rw[this,List.mem_append,List.singleton_append,List.mem_cons]
   constructor
   ·rintro(h|h|h)
    ·exact .inr (.inl h)
    ·exact .inl h
    ·exact .inr (.inr h)
   ·rintro(h|h|h)
    ·exact .inr (.inl h)
    ·exact .inl h
    ·exact .inr (.inr h)
  unfold x6 ja
  simp only[Int.toNat_natCast,wo hi,u9,List.length_map]
  rw[if_pos (by intro h;simp at h;omega)]
  by_cases hc:p=v6.length
  ·rw[if_pos (by simp;omega),if_pos (by omega),if_pos (by omega),if_pos (by simp;omega),if_pos (by simp),if_pos (by simp;omega),Wi (by omega)]
   exact new (.inl hc)
  ·have hpl:p<v6.length:=by omega
   by_cases he:v6[p]=a0[i]
   ·rw[if_neg (by rw[wo hpl,(zna _ _).2 he];simp;omega),Wi (by omega)]
    refine⟨v6,rfl,hs,fun x=>⟨.inr,fun h=>?_⟩,by omega⟩
    rcases h with rfl|h
    ·rw[←he];exact List.getElem_mem _
    ·exact h
   ·have hne:¬(((v6.getD p default).f_Kind==a0[i].f_Kind)&&(((v6.getD p default).f_A==a0[i].f_A)&&(((v6.getD p default).f_B==a0[i].f_B)&&true)))=true:=by rw[zna,wo hpl];exact he
    rw[if_pos (by rw[Bool.eq_false_iff.2 hne];simp),if_pos (by omega),if_pos (by omega),if_pos (by simp;omega),if_pos (by simp),if_pos (by simp;omega),Wi (by omega)]
    exact new (.inr ⟨hpl,he⟩)
 intro n
 induction n with
 |zero=>
  intro p hp h1
  obtain⟨v',g1,g2⟩:=stop p (by omega) h1 (fun h=>by omega)
  refine⟨v',?_,g2⟩
  unfold x5
  rw[yv (x:=some (.inl (v',((i+1:Nat):Int))))]
  unfold qd
  rw[if_pos (by intro h;simp at h;omega),if_neg (by simp;omega),Option.bind_some,if_neg (by simp),g1]
 |succ n ih=>
  intro p hp h1
  have hpl:p<v6.length:=by omega
  have hb:qd none a0 v6 (i:Int) (p:Int)=if lt v6[p] a0[i] then some (.inl ((p+1:Nat):Int)) else(x6 none a0 v6 (i:Int) (p:Int)).map Sum.inr:=by
   unfold qd
   simp only[Int.toNat_natCast,wo hi,wo hpl,u9,List.length_map,znq]
   rw[if_pos (by intro _;omega),if_pos (by simp;omega),Option.bind_some]
   by_cases c:lt v6[p] a0[i]
   ·rw[if_pos (by simp;exact⟨by omega,c⟩),if_pos c,Wi (by omega)]
   ·rw[if_neg (by simp;exact fun _=>c),if_neg c]
  by_cases c:lt v6[p] a0[i]
  ·rw[if_pos c] at hb
   obtain⟨v',g1,g2⟩:=ih (p+1) (by omega) (fun j hj hj'=>by
    rcases Nat.lt_or_ge j p with h|h
    ·exact h1 j hj h
    ·have:j=p:=by omega
     subst this;exact c)
   refine⟨v',?_,g2⟩
   unfold x5 at g1 ⊢
   rw[qw hb];exact g1
  ·rw[if_neg c] at hb
   obtain⟨v',g1,g2⟩:=stop p (by omega) h1 (fun _=>c)
   refine⟨v',?_,g2⟩
   unfold x5
   rw[yv (x:=some (.inl (v',((i+1:Nat):Int))))]
   rw[hb,g1]
theorem zfs{a0:List K}(hai:a0.length≤100000):∀ (n i:Nat) (v6:List K),i+n=a0.length→v6.length≤i→Srt v6→(∀x,x∈v6↔x∈a0.take i)→∃r,jc none a0 v6 (i:Int)=some r∧Srt r∧(∀x,x∈r↔x∈a0)∧r.length≤a0.length
 |0,i,v6,h,hl,hs,hm=>by
  have:i=a0.length:=by omega
  subst this
  rw[List.take_length] at hm
  refine⟨v6,?_,hs,hm,hl⟩
  unfold jc
  rw[yv (x:=some v6)]
  unfold x3 jy
  rw[if_neg (by simp)]
 |n+1,i,v6,h,hl,hs,hm=>by
  have hi:i<a0.length:=by omega
  obtain⟨v',g1,g2,g3,g4⟩:=zt0 hi (by omega) (by omega) hs v6.length 0 (by omega) (fun j _ hj=>absurd hj (Nat.not_lt_zero j))
  obtain⟨r,h1,h2⟩:=zfs hai n (i+1) v' (by omega) (by omega) g2 (fun x=>by
   rw[g3,hm,List.take_add_one,List.getElem?_eq_getElem hi]
   simp only[Option.toList_some,List.mem_append,List.mem_singleton]
   exact Or.comm)
  refine⟨r,?_,h2⟩
  unfold jc at h1 ⊢
  rw[qw (s':=(v',((i+1:Nat):Int)))]
  ·exact h1
  ·unfold x3
   rw[if_pos (by simpa using hi),if_pos (by simp;omega)]
   exact g1
theorem J4{a0:List K}(hai:a0.length≤100000):∃r,xz none a0=some r∧Srt r∧(∀x,x∈r↔x∈a0)∧r.length≤a0.length:=
 zfs hai a0.length 0 [] (by omega) (by simp) .nil (fun x=>by simp)
theorem Jl{es:List G_QEdge}{key:K}(hl:es.length≤400):∀ (n j:Nat) (res:List K) (p:Bool),j+n=es.length→res.Nodup→(∀x∈res,Reach (adj false es) key x) →
 ∃res' p',qv none es key res p (j:Int)=some (.inl (res',p'))∧res'.Nodup∧(∀x∈res',Reach (adj false es) key x)∧res.length≤res'.length ∧
  (p'=false→p=false∧res'=res∧∀e∈es.drop j,(e.f_From=key∨e.f_From∈res)→e.f_To∈res)∧(p=false→p'=true→res.length<res'.length)
 |0,j,res,p,h,hn,hr=>by
  have:j=es.length:=by omega
  subst this
  refine⟨res,p,?_,hn,hr,Nat.le_refl _,fun h=>⟨h,rfl,fun e he=>by rw[List.drop_length] at he;cases he⟩,fun h1 h2=>by rw[h1] at h2;cases h2⟩
  unfold qv
  rw[yv (x:=some (.inl (res,p)))]
  unfold q7
  rw[if_neg (by simp)]
 |n+1,j,res,p,h,hn,hr=>by
  have hj:j<es.length:=by omega
  have hlen:=X0 hn hr
  have hb:q7 none es key res p (j:Int)=if(es[j].f_From=key∨es[j].f_From∈res)∧es[j].f_To∉res then some (.inl (res++[es[j].f_To],true,((j+1:Nat):Int))) else some (.inl (res,p,((j+1:Nat):Int))):=by
   unfold q7 xn
   simp only[Int.toNat_natCast,wo hj,u9,eqK,Q1 (show res.length≤1000000 by omega)]
   rw[if_pos (by simpa using hj),if_pos (by simp;omega)]
   by_cases c1:es[j].f_From=key
   ·rw[if_neg (by simp[c1]),Option.bind_some,if_pos (by simp[c1]),Option.bind_some]
    by_cases c2:es[j].f_To∈res
    ·rw[if_neg (by simp[c2]),if_neg (fun h=>h.2 c2),Wi (by omega)]
    ·rw[if_pos (by simp[c1,c2]),if_pos (by simp;omega),if_pos ⟨.inl c1,c2⟩,Wi (by omega)]
   ·rw[if_pos (by simp[c1]),Option.bind_some]
    by_cases c3:es[j].f_From∈res
    ·rw[if_pos (by simp[c3]),Option.bind_some]
     by_cases c2:es[j].f_To∈res
     ·rw[if_neg (by simp[c2]),if_neg (fun h=>h.2 c2),Wi (by omega)]
     ·rw[if_pos (by simp[c3,c2]),if_pos (by simp;omega),if_pos ⟨.inr c3,c2⟩,Wi (by omega)]
    ·rw[if_neg (by simp[c1,c3]),Option.bind_some,if_neg (by simp[c1,c3]),if_neg (fun h=>h.1.elim c1 c3),Wi (by omega)]
  by_cases c:(es[j].f_From=key∨es[j].f_From∈res)∧es[j].f_To∉res
  ·rw[if_pos c] at hb
   have hadj:adj false es es[j].f_From es[j].f_To:=⟨es[j],List.getElem_mem _,rfl,rfl⟩
   have hnew:Reach (adj false es) key es[j].f_To:=by
    rcases c.1 with h|h
    ·exact .one (h▸hadj)
    ·exact(hr _ h).snoc hadj
   have hn':(res++[es[j].f_To]).Nodup:=by
    rw[List.nodup_append]
    exact⟨hn,by simp,fun a ha b hb=>by rw[List.mem_singleton] at hb;subst hb;exact fun e=>c.2 (e▸ha)⟩
   obtain⟨res',p',g1,g2,g3,g4,g5,g6⟩:=Jl hl n (j+1) (res++[es[j].f_To]) true (by omega) hn' (fun x hx=>by
    rcases List.mem_append.1 hx with hx|hx
    ·exact hr x hx
    ·rw[List.mem_singleton] at hx;subst hx;exact hnew)
   simp only[List.length_append,List.length_singleton] at g4
   refine⟨res',p',?_,g2,g3,by omega,fun h=>absurd (g5 h).1 (by decide),fun _ _=>by omega⟩
   unfold qv at g1 ⊢
   rw[qw hb];exact g1
  ·rw[if_neg c] at hb
   obtain⟨res',p',g1,g2,g3,g4,g5,g6⟩:=Jl hl n (j+1) res p (by omega) hn hr
   refine⟨res',p',?_,g2,g3,g4,fun h=>⟨(g5 h).1,(g5 h).2.1,fun e he hc=>?_⟩,g6⟩
   ·unfold qv at g1 ⊢
    rw[qw hb];exact g1
   ·rw[List.drop_eq_getElem_cons hj] at he
    rcases List.mem_cons.1 he with rfl|he
    ·exact Decidable.byContradiction fun h=>c ⟨hc,h⟩
    ·exact(g5 h).2.2 e he hc
theorem zjd{es:List G_QEdge}{key:K}(hl:es.length≤400):∀ (n:Nat) (res:List K),es.length-res.length≤n→res.Nodup→(∀x∈res,Reach (adj false es) key x) →
 ∃l,qt none es key res true=some l∧IsReach false es key l:=by
 intro n
 induction n with
 |zero=>
  intro res h hn hr
  have hlen:=X0 hn hr
  obtain⟨res',p',g1,g2,g3,g4,g5,g6⟩:=Jl hl es.length 0 res false (by omega) hn hr
  have hlen':=X0 g2 g3
  cases p' with
  |true=>have:=g6 rfl rfl;omega
  |false=>
   obtain⟨_,rfl,hc⟩:=g5 rfl
   obtain⟨l,s1,s2,s3,s4⟩:=J4 (a0:=res') (by omega)
   refine⟨l,?_,s2,fun x=>?_⟩
   ·unfold qt
    rw[qw (s':=(res',false)),yv (x:=some l)]
    ·unfold zq xh
     rw[if_neg (by simp),s1];rfl
    ·unfold zq
     rw[if_pos rfl];exact g1
   ·rw[s3]
    refine⟨hr x,fun h=>?_⟩
    rw[List.drop_zero] at hc
    exact h.closed (S:=fun y=>y∈res') (fun b ⟨e,he,h1,h2⟩=>h2▸hc e he (.inl h1)) (fun b c hb ⟨e,he,h1,h2⟩=>h2▸hc e he (.inr (by rw[show e.f_From=b from h1];exact hb)))
 |succ n ih=>
  intro res h hn hr
  obtain⟨res',p',g1,g2,g3,g4,g5,g6⟩:=Jl hl es.length 0 res false (by omega) hn hr
  have hlen':=X0 g2 g3
  have hb:zq none es key res true=some (.inl (res',p')):=by
   unfold zq
   rw[if_pos rfl];exact g1
  cases p' with
  |true=>
   have:=g6 rfl rfl
   obtain⟨l,h1,h2⟩:=ih res' (by omega) g2 g3
   refine⟨l,?_,h2⟩
   unfold qt at h1 ⊢
   rw[qw (s':=(res',true)) hb];exact h1
  |false=>
   obtain⟨_,rfl,hc⟩:=g5 rfl
   obtain⟨l,s1,s2,s3,s4⟩:=J4 (a0:=res') (by omega)
   refine⟨l,?_,s2,fun x=>?_⟩
   ·unfold qt
    rw[qw (s':=(res',false)) hb,yv (x:=some l)]
    unfold zq xh
    rw[if_neg (by simp),s1];rfl
   ·rw[s3]
    refine⟨hr x,fun h=>?_⟩
    rw[List.drop_zero] at hc
    exact h.closed (S:=fun y=>y∈res') (fun b ⟨e,he,h1,h2⟩=>h2▸hc e he (.inl h1)) (fun b c hb ⟨e,he,h1,h2⟩=>h2▸hc e he (.inr (by rw[show e.f_From=b from h1];exact hb)))
theorem Qd{es:List G_QEdge}(hl:es.length≤400)(key:K):∃l,xl none es key=some l∧IsReach false es key l:=
 zjd hl _ [] (Nat.le_refl _) (by simp) (fun x hx=>by cases hx)
theorem z0s{l:List K}(hl:l.length≤1000000):∀ (k i:Nat),i+k=l.length→ql none l l (i:Int)=some true
 |0,i,h=>by
  unfold ql
  rw[yv (x:=some true)]
  unfold ym xw
  rw[if_neg (by simp;omega)]
 |k+1,i,h=>by
  have ih:=z0s hl k (i+1) (by omega)
  unfold ql at ih ⊢
  rw[qw (s':=((i+1:Nat):Int))]
  ·exact ih
  ·unfold ym
   simp only[List.length_map,Int.toNat_natCast]
   rw[if_pos (by simp;omega),if_pos (by omega),if_pos (by omega),if_neg (by rw[(zna _ _).2 rfl];decide),Wi (by omega)]
theorem z8p{l:List K}(hl:l.length≤1000000):yh none l l=some true:=by
 unfold yh
 rw[if_neg (by simp)]
 exact z0s hl l.length 0 (by omega)
theorem J8{rev:Bool}{es:List G_QEdge}{key:K}{l:List K}(h:IsReach rev es key l):l.length≤es.length:=X0 (U9 h.1) fun x hx=>(h.2 x).1 hx
def exE:List G_QEdge:=[(G_QEdge.mk (G_QKey.mk 0 3 0) (G_QKey.mk 0 2 0)),(G_QEdge.mk (G_QKey.mk 0 2 0) (G_QKey.mk 0 1 0))]
theorem V8(rev:Bool)(a b:K):adj rev exE a b↔(a=src rev (G_QEdge.mk (G_QKey.mk 0 3 0) (G_QKey.mk 0 2 0))∧b=dst rev (G_QEdge.mk (G_QKey.mk 0 3 0) (G_QKey.mk 0 2 0)))∨(a=src rev (G_QEdge.mk (G_QKey.mk 0 2 0) (G_QKey.mk 0 1 0))∧b=dst rev (G_QEdge.mk (G_QKey.mk 0 2 0) (G_QKey.mk 0 1 0))):=by
 unfold adj exE
 constructor
 ·rintro⟨e,he,rfl,rfl⟩
  rcases List.mem_cons.1 he with rfl|he
  ·exact .inl ⟨rfl,rfl⟩
  ·rw[List.mem_singleton] at he;subst he;exact .inr ⟨rfl,rfl⟩
 ·rintro(⟨rfl,rfl⟩|⟨rfl,rfl⟩)
  ·exact⟨_,List.mem_cons_self ..,rfl,rfl⟩
  ·exact⟨_,List.mem_cons_of_mem _ (List.mem_cons_self ..),rfl,rfl⟩
theorem ex1:IsReach false exE (G_QKey.mk 0 3 0) [G_QKey.mk 0 1 0,G_QKey.mk 0 2 0]:=by
 refine⟨by decide,fun x=>⟨fun h=>?_,fun h=>?_⟩⟩
 ·have h2:adj false exE (G_QKey.mk 0 3 0) (G_QKey.mk 0 2 0):=(V8 _ _ _).2 (.inl ⟨rfl,rfl⟩)
  have h1:adj false exE (G_QKey.mk 0 2 0) (G_QKey.mk 0 1 0):=(V8 _ _ _).2 (.inr ⟨rfl,rfl⟩)
  rcases List.mem_cons.1 h with rfl|h
  ·exact .step h2 (.one h1)
  ·rw[List.mem_singleton] at h;subst h;exact .one h2
 ·refine h.closed (S:=fun y=>y∈[G_QKey.mk 0 1 0,G_QKey.mk 0 2 0]) (fun b hb=>?_) (fun b c hb hc=>?_)
  ·rcases(V8 _ _ _).1 hb with⟨_,rfl⟩|⟨h,rfl⟩
   ·decide
   ·decide
  ·rcases(V8 _ _ _).1 hc with⟨_,rfl⟩|⟨_,rfl⟩<;>decide
theorem ex2:IsReach true exE (G_QKey.mk 0 1 0) [G_QKey.mk 0 2 0,G_QKey.mk 0 3 0]:=by
 refine⟨by decide,fun x=>⟨fun h=>?_,fun h=>?_⟩⟩
 ·have h2:adj true exE (G_QKey.mk 0 2 0) (G_QKey.mk 0 3 0):=(V8 _ _ _).2 (.inl ⟨rfl,rfl⟩)
  have h1:adj true exE (G_QKey.mk 0 1 0) (G_QKey.mk 0 2 0):=(V8 _ _ _).2 (.inr ⟨rfl,rfl⟩)
  rcases List.mem_cons.1 h with rfl|h
  ·exact .one h1
  ·rw[List.mem_singleton] at h;subst h;exact .step h1 (.one h2)
 ·refine h.closed (S:=fun y=>y∈[G_QKey.mk 0 2 0,G_QKey.mk 0 3 0]) (fun b hb=>?_) (fun b c hb hc=>?_)
  ·rcases(V8 _ _ _).1 hb with⟨_,rfl⟩|⟨_,rfl⟩<;>decide
  ·rcases(V8 _ _ _).1 hc with⟨_,rfl⟩|⟨_,rfl⟩<;>decide
theorem zax:y9 none=some true:=by
 obtain⟨l1,h1,h2⟩:=U0 (es:=exE) (by decide) (G_QKey.mk 0 3 0)
 obtain⟨l2,h3,h4⟩:=z1t (es:=exE) (by decide) (G_QKey.mk 0 1 0)
 obtain rfl:=h2.unique ex1
 obtain rfl:=h4.unique ex2
 unfold y9
 show((xb none exE (G_QKey.mk 0 3 0)).bind _)=_
 rw[h1,Option.bind_some,z8p (by decide),Option.bind_some]
 rw[if_pos (by decide)]
 show((jb none exE (G_QKey.mk 0 1 0)).bind _)=_
 rw[h3,Option.bind_some,if_pos (by decide),z8p (by decide)]
 rfl
end Go.Proofs.Ytejfgjggcoemeaa
