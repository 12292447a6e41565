/-
  The order of the keys: the program's steps are the reference's; they come to an end just where there is no cycle; no condition.
-/
import Derived.Test.YtejfgjggcoemeaaLc
namespace Go.Proofs.Ytejfgjggcoemeaa
open Go.Fx Go.Sort
set_option linter.unusedVariables false
abbrev Rc(es:List G_QEdge):=Reach (adj false es)
def rdy(es:List G_QEdge)(P:List K)(k:K):Bool:=decide (k∉P)&&decide (∀e∈es,e.f_From=k→e.f_To∈P)
theorem z27{es:List G_QEdge}{P:List K}{k:K}:rdy es P k=true↔k∉P∧∀y,adj false es k y→y∈P:=by
 unfold rdy
 rw[Bool.and_eq_true,decide_eq_true_eq,decide_eq_true_eq]
 constructor
 ·rintro⟨h1,h2⟩
  exact⟨h1,fun y ⟨e,he,a,b⟩=>b▸h2 e he a⟩
 ·rintro⟨h1,h2⟩
  exact⟨h1,fun e he a=>h2 _ ⟨e,he,a,rfl⟩⟩
def zsp(seen:List (K×Int))(P:List K):Prop:=∀k,(lk zd seen k).getD 0≠0↔k∈P
theorem z57{l:List K}{seen:List (K×Int)}(hl:l.length≤1000000):∀ (n i:Nat),i+n=l.length→∃r:Int,yk none l seen (i:Int)=some r∧(0≤r↔∃y∈l.drop i,(lk zd seen y).getD 0=0)
 |0,i,h=>by
  have:i=l.length:=by omega
  subst this
  refine⟨-1,?_,by simp⟩
  unfold yk
  rw[yv (x:=some (-1))]
  unfold yi jk
  rw[if_neg (by simp)]
 |n+1,i,h=>by
  have hi:i<l.length:=by omega
  have hb:yi none l seen (i:Int)=if(lk zd seen l[i]).getD 0=0 then some (.inr (i:Int)) else some (.inl ((i+1:Nat):Int)):=by
   unfold yi ju
   simp only[Int.toNat_natCast,wo hi,u9,Option.bind_some]
   rw[if_pos (by simpa using hi),if_pos (by simp;omega)]
   by_cases c:(lk zd seen l[i]).getD 0=0
   ·rw[if_pos (by simpa using c),if_pos c];rfl
   ·rw[if_neg (by simpa using c),if_neg c,Wi (by omega)]
  rw[List.drop_eq_getElem_cons hi]
  by_cases c:(lk zd seen l[i]).getD 0=0
  ·rw[if_pos c] at hb
   refine⟨i,?_,⟨fun _=>⟨_,List.mem_cons_self ..,c⟩,fun _=>by omega⟩⟩
   unfold yk
   rw[yv (x:=some (i:Int)) hb]
  ·rw[if_neg c] at hb
   obtain⟨r,h1,h2⟩:=z57 hl n (i+1) (by omega)
   refine⟨r,?_,?_⟩
   ·unfold yk at h1 ⊢
    rw[qw hb];exact h1
   ·rw[h2]
    constructor
    ·rintro⟨y,hy,h⟩;exact⟨y,List.mem_cons_of_mem _ hy,h⟩
    ·rintro⟨y,hy,h⟩
     rcases List.mem_cons.1 hy with rfl|hy
     ·exact absurd h c
     ·exact⟨y,hy,h⟩
theorem zl4{es:List G_QEdge}{ks ks':List K}{M:Gm}(hg:Graph false es ks M)(hl:es.length≤400){seen:List (K×Int)}{P:List K}(hs:zsp seen P)(k:K):jo none k ks' seen M=some (rdy es P k):=by
 have hnl:=hg.nlen k
 obtain⟨r,h1,h2⟩:=z57 (l:=nx M k) (seen:=seen) (by omega) (nx M k).length 0 (by omega)
 rw[List.drop_zero] at h2
 unfold jo x9 j9
 by_cases c:k∈P
 ·have:=(hs k).2 c
  rw[if_neg (by simpa using this),Option.bind_some]
  congr 1
  unfold rdy
  rw[decide_eq_false (fun h=>h c),Bool.false_and,show((lk zd seen k).getD 0==0)=false by simpa using this,Bool.false_and]
 ·have h0:(lk zd seen k).getD 0=0:=Decidable.byContradiction fun h=>c ((hs k).1 h)
  rw[if_pos (by simpa using h0)]
  show Option.bind (Option.bind (yk none (nx M k) seen ((0:Nat):Int)) _) _=_
  rw[h1,Option.bind_some,Option.bind_some]
  congr 1
  unfold rdy
  rw[decide_eq_true c,Bool.true_and,show((lk zd seen k).getD 0==0)=true by simpa using h0,Bool.true_and,Bool.eq_iff_iff,Bool.not_eq_true',decide_eq_false_iff_not,decide_eq_true_eq]
  constructor
  ·intro h e he hk
   have hy:e.f_To∈nx M k:=(hg.nmem k e.f_To).2 ⟨e,he,hk,rfl⟩
   refine(hs e.f_To).1 fun hz=>h ?_
   exact h2.2 ⟨_,hy,hz⟩
  ·intro h hr
   obtain⟨y,hy,hz⟩:=h2.1 hr
   obtain⟨e,he,hk,rfl⟩:=(hg.nmem k y).1 hy
   exact(hs (dst false e)).2 (h e he hk) hz
theorem Ko{ks:List K}{g:Unit→K→Option (Bool×Unit)}{p:K→Bool}(hgp:∀x,g () x=some (p x,()))(hl:ks.length≤1000000):∀ (n i:Nat),i+n=ks.length →
 (∃j,∃h:j<ks.length,i≤j∧zc g none ks (i:Int) ()=some ((j:Int),())∧(ks.drop i).find? p=some ks[j])∨(zc g none ks (i:Int) ()=some (-1,())∧(ks.drop i).find? p=none)
 |0,i,h=>by
  have:i=ks.length:=by omega
  subst this
  refine .inr ⟨?_,by rw[List.drop_length];rfl⟩
  unfold zc
  rw[yv (x:=some (-1,()))]
  unfold y4 xr
  rw[if_neg (by simp)]
 |n+1,i,h=>by
  have hi:i<ks.length:=by omega
  have hb:y4 g none ks (i:Int) ()=if p ks[i]=true then some (.inr ((i:Int),())) else some (.inl (((i+1:Nat):Int),())):=by
   unfold y4
   simp only[Int.toNat_natCast,wo hi,u9,hgp,Option.bind_some]
   rw[if_pos (by simpa using hi),if_pos (by simp;omega)]
   by_cases c:p ks[i]=true
   ·rw[if_pos c,if_pos c];rfl
   ·rw[if_neg c,if_neg c,Wi (by omega)]
  rw[List.drop_eq_getElem_cons hi,List.find?_cons]
  by_cases c:p ks[i]=true
  ·rw[if_pos c] at hb
   refine .inl ⟨i,hi,Nat.le_refl _,?_,by rw[c]⟩
   unfold zc
   rw[yv (x:=some ((i:Int),())) hb]
  ·rw[if_neg c] at hb
   have e:zc g none ks (i:Int) ()=zc g none ks ((i+1:Nat):Int) ():=by
    unfold zc
    rw[qw hb]
   rw[e,Bool.eq_false_iff.2 c]
   rcases Ko hgp hl n (i+1) (by omega) with⟨j,hj,h1,h2,h3⟩|h1
   ·exact .inl ⟨j,hj,by omega,h2,h3⟩
   ·exact .inr h1
def zca(es:List G_QEdge)(ks:List K):Nat→List K→Option (List K)
 |0,P=>some P
 |n+1,P=>match ks.find? (rdy es P) with
  |some k=>zca es ks n (P++[k])
  |none=>none
def zag(es:List G_QEdge)(ks:List K):Nat→List K→List K
 |0,P=>P
 |n+1,P=>match ks.find? (rdy es P) with
  |some k=>zag es ks n (P++[k])
  |none=>zag es ks n P
theorem z5o{es:List G_QEdge}{ks:List K}:∀ (n:Nat) (P P':List K),zca es ks n P=some P'→zag es ks n P=P'∧P'.length=P.length+n
 |0,P,P',h=>by cases h;exact⟨rfl,rfl⟩
 |n+1,P,P',h=>by
  unfold zca at h
  unfold zag
  cases hf:ks.find? (rdy es P) with
  |none=>rw[hf] at h;cases h
  |some k=>
   rw[hf] at h
   obtain⟨h1,h2⟩:=z5o n _ _ h
   exact⟨h1,by rw[h2];simp;omega⟩
theorem zfw{seen:List (K×Int)}{P:List K}(h:zsp seen P)(k:K):zsp (mp zd seen k 1) (P++[k]):=fun j=>by
 rw[lkM (hq:=zdm)]
 by_cases hj:k=j
 ·subst hj;rw[if_pos rfl];simp
 ·rw[if_neg hj,h j,List.mem_append,List.mem_singleton]
  exact⟨.inl,fun h=>h.resolve_right (fun e=>hj e.symm)⟩
theorem z8y{es:List G_QEdge}{ks:List K}{M:Gm}(hg:Graph false es ks M)(hl:es.length≤400):∀ (n:Nat) (P:List K) (seen:List (K×Int)),P.length+n=ks.length→zsp seen P →
 qe none (ks,M) P seen=some (match zca es ks n P with|some P'=>(P',0)|none=>([],8))
 |0,P,seen,h,hs=>by
  unfold qe
  rw[yv (x:=some (P,0))]
  ·rfl
  ·unfold yj jj
   rw[if_neg (by simp;omega)]
 |n+1,P,seen,h,hs=>by
  have hkl:=hg.klen
  have hgp:∀x,(fun(s:Unit) (x:K)=>(zo none ks seen M x).map fun o=>(o,())) () x=some (rdy es P x,()):=fun x=>by
   show(zo none ks seen M x).map _=_
   unfold zo
   rw[zl4 hg hl hs];rfl
  unfold zca
  rcases Ko (ks:=ks) (g:=fun(s:Unit) (x:K)=>(zo none ks seen M x).map fun o=>(o,())) (p:=rdy es P) hgp (by omega) ks.length 0 (by omega) with⟨j,hj,_,h2,h3⟩|⟨h2,h3⟩
  ·rw[List.drop_zero] at h3
   rw[h3]
   have ih:=z8y hg hl n (P++[ks[j]]) (mp zd seen ks[j] 1) (by simp;omega) (zfw hs _)
   unfold qe at ih ⊢
   rw[qw (s':=(P++[ks[j]],mp zd seen ks[j] 1))]
   ·exact ih
   ·unfold yj zw
    rw[if_pos (by simp;omega)]
    show Option.bind (zc _ none ks ((0:Nat):Int) ()) _=_
    rw[h2,Option.bind_some,if_neg (by simp)]
    simp only[Int.toNat_natCast,wo hj,u9]
    rw[if_pos (by simp;omega),if_pos (by simp;omega),if_pos (by simp;omega)]
  ·rw[List.drop_zero] at h3
   rw[h3]
   unfold qe
   rw[yv (x:=some ([],8))]
   unfold yj zw
   rw[if_pos (by simp;omega)]
   show Option.bind (zc _ none ks ((0:Nat):Int) ()) _=_
   rw[h2,Option.bind_some,if_pos (by decide)]
theorem zrw{es:List G_QEdge}{ks:List K}{M:Gm}(hg:Graph false es ks M)(hn:qq none es false=some (ks,M))(hl:es.length≤400) :
 x7 none es=some (match zca es ks ks.length [] with|some P'=>(P',0)|none=>([],8)):=by
 unfold x7
 rw[hn,Option.bind_some]
 exact z8y hg hl ks.length [] [] (by simp) (fun k=>by simp[lk])
inductive Placed(es:List G_QEdge):List K→Prop
 |nil:Placed es []
 |snoc {P:List K} {k:K}:Placed es P→k∉P→(∀y,adj false es k y→y∈P)→Placed es (P++[k])
theorem Placed.ok{es:List G_QEdge}{P:List K}(h:Placed es P):P.Nodup∧∀x∈P,(∀y,Rc es x y→y∈P)∧¬Rc es x x:=by
 induction h with
 |nil=>exact⟨by simp,fun x hx=>by cases hx⟩
 |@snoc P k h hk hc ih=>
  obtain⟨h1,h2⟩:=ih
  refine⟨?_,fun x hx=>?_⟩
  ·rw[List.nodup_append]
   exact⟨h1,by simp,fun a ha b hb=>by rw[List.mem_singleton] at hb;subst hb;exact fun e=>hk (e▸ha)⟩
  ·have all:∀y,Rc es k y→y∈P:=fun y hy=>hy.closed (S:=fun y=>y∈P) (fun b hb=>hc b hb) (fun b c hb hbc=>(h2 b hb).1 c (.one hbc))
   rcases List.mem_append.1 hx with hx|hx
   ·exact⟨fun y hy=>List.mem_append.2 (.inl ((h2 x hx).1 y hy)),(h2 x hx).2⟩
   ·rw[List.mem_singleton] at hx
    subst hx
    exact⟨fun y hy=>List.mem_append.2 (.inl (all y hy)),fun hh=>hk (all _ hh)⟩
theorem z6g{ks:List K}{p:K→Bool}{k:K}(h:ks.find? p=some k):k∈ks∧p k=true:=⟨List.mem_of_find?_eq_some h,List.find?_some h⟩
theorem z1f{es:List G_QEdge}{ks:List K}:∀ (n:Nat) (P P':List K),zca es ks n P=some P'→Placed es P→(∀x∈P,x∈ks)→Placed es P'∧∀x∈P',x∈ks
 |0,P,P',h,hp,hs=>by cases h;exact⟨hp,hs⟩
 |n+1,P,P',h,hp,hs=>by
  unfold zca at h
  cases hf:ks.find? (rdy es P) with
  |none=>rw[hf] at h;cases h
  |some k=>
   rw[hf] at h
   obtain⟨h1,h2⟩:=z6g hf
   obtain⟨h3,h4⟩:=z27.1 h2
   exact z1f n _ _ h (.snoc hp h3 h4) (fun x hx=>by
    rcases List.mem_append.1 hx with hx|hx
    ·exact hs x hx
    ·rw[List.mem_singleton] at hx;subst hx;exact h1)
theorem zft{a b:List K}(ha:a.Nodup)(hs:∀x∈a,x∈b)(hl:b.length≤a.length):∀x∈b,x∈a:=fun x hx=>Decidable.byContradiction fun h=>by
 have:=Jw (a:=x::a) (b:=b) (List.nodup_cons.2 ⟨h,ha⟩) (fun y hy=>by
  rcases List.mem_cons.1 hy with rfl|hy
  ·exact hx
  ·exact hs y hy)
 simp only[List.length_cons] at this;omega
theorem Reach.first{R:K→K→Prop}{a c:K}(h:Reach R a c):∃b,R a b:=by
 cases h with
 |one h=>exact⟨_,h⟩
 |step h _=>exact⟨_,h⟩
theorem zb3{es:List G_QEdge}{ks:List K}{M:Gm}(hg:Graph false es ks M){k:K}(hk:Rc es k k):zca es ks ks.length []=none:=by
 cases ht:zca es ks ks.length [] with
 |none=>rfl
 |some P=>
  obtain⟨h1,h2⟩:=z1f _ _ _ ht .nil (fun x hx=>by cases hx)
  have h3:=(z5o _ _ _ ht).2
  have h4:=h1.ok
  obtain⟨b,e,he,h5,_⟩:=hk.first
  have hkk:k∈ks:=(hg.mem k).2 ⟨e,he,.inl h5.symm⟩
  have:=zft h4.1 h2 (by simp at h3;omega) k hkk
  exact absurd hk (h4.2 k this).2
theorem zaz{es:List G_QEdge}{ks:List K}{M:Gm}(hg:Graph false es ks M)(hl:es.length≤400)(ha:∀k,¬Rc es k k){P:List K}:∀ (n:Nat) (k:K) (l:List K),IsReach false es k l→l.length≤n→k∈ks→k∉P→∃j∈ks,rdy es P j=true:=by
 intro n
 induction n with
 |zero=>
  intro k l hr hn hk hp
  refine⟨k,hk,z27.2 ⟨hp,fun y hy=>?_⟩⟩
  have:y∈l:=(hr.2 y).2 (.one hy)
  have:=List.length_pos_of_mem this
  omega
 |succ n ih=>
  intro k l hr hn hk hp
  by_cases hc:∀y,adj false es k y→y∈P
  ·exact⟨k,hk,z27.2 ⟨hp,hc⟩⟩
  ·obtain⟨y,hy⟩:=Classical.not_forall.1 hc
   obtain⟨hy,hyP⟩:=Classical.not_imp.1 hy
   obtain⟨m,_,hm⟩:=Qd hl y
   have hyk:y∈ks:=by
    obtain⟨e,he,_,rfl⟩:=hy
    exact(hg.mem _).2 ⟨e,he,.inr rfl⟩
   refine ih y m hm ?_ hyk hyP
   have hsub:(y::m).length≤l.length:=Jw (List.nodup_cons.2 ⟨fun h=>ha y ((hm.2 y).1 h),U9 hm.1⟩) (fun x hx=>by
    rcases List.mem_cons.1 hx with rfl|hx
    ·exact(hr.2 x).2 (.one hy)
    ·exact(hr.2 x).2 (.step hy ((hm.2 x).1 hx)))
   simp only[List.length_cons] at hsub;omega
theorem U3{es:List G_QEdge}{ks:List K}{M:Gm}(hg:Graph false es ks M)(hl:es.length≤400)(ha:∀k,¬Rc es k k):∀ (n:Nat) (P:List K),P.length+n=ks.length→Placed es P→(∀x∈P,x∈ks)→∃P',zca es ks n P=some P'
 |0,P,h,hp,hs=>⟨P,rfl⟩
 |n+1,P,h,hp,hs=>by
  have hex:∃k∈ks,k∉P:=by
   refine Classical.byContradiction fun hne=>?_
   have:=Jw (U9 hg.srt) (b:=P) fun x hx=>Classical.byContradiction fun hxp=>hne ⟨x,hx,hxp⟩
   omega
  obtain⟨k,hk,hkp⟩:=hex
  obtain⟨l,_,hr⟩:=Qd hl k
  obtain⟨j,hj,hjr⟩:=zaz hg hl ha l.length k l hr (Nat.le_refl _) hk hkp
  unfold zca
  cases hf:ks.find? (rdy es P) with
  |none=>exact absurd hjr (by have:=List.find?_eq_none.1 hf j hj;simpa using this)
  |some i=>
   obtain⟨h1,h2⟩:=z6g hf
   obtain⟨h3,h4⟩:=z27.1 h2
   exact U3 hg hl ha n (P++[i]) (by simp;omega) (.snoc hp h3 h4) (fun x hx=>by
    rcases List.mem_append.1 hx with hx|hx
    ·exact hs x hx
    ·rw[List.mem_singleton] at hx;subst hx;exact h1)
theorem z0h{es:List G_QEdge}(hl:es.length≤400):∀ (n i:Nat) (o:List K),i+n=es.length→o.length=2*i→js none es o (i:Int)=jr none (o++(es.drop i).flatMap fun e=>[e.f_From,e.f_To])
 |0,i,o,h,ho=>by
  have:i=es.length:=by omega
  subst this
  unfold js
  rw[List.drop_length,List.flatMap_nil,List.append_nil]
  refine yv ?_
  unfold xy
  rw[if_neg (by simp)]
 |n+1,i,o,h,ho=>by
  have hi:i<es.length:=by omega
  have ih:=z0h hl n (i+1) (o++[es[i].f_From,es[i].f_To]) (by omega) (by simp;omega)
  rw[List.drop_eq_getElem_cons hi,List.flatMap_cons,←List.append_assoc]
  unfold js at ih ⊢
  rw[qw (s':=(o++[es[i].f_From,es[i].f_To],((i+1:Nat):Int)))]
  ·exact ih
  ·unfold xy
   simp only[Int.toNat_natCast,wo hi,u9]
   rw[if_pos (by simpa using hi),if_pos (by simp;omega),if_pos (by simp;omega),Wi (by omega)]
theorem zkq{es:List G_QEdge}{ks:List K}{M:Gm}(hg:Graph false es ks M)(hl:es.length≤400):jt none es=some ks:=by
 have h:=z0h hl es.length 0 [] (by omega) (by simp)
 have hlen:∀l:List G_QEdge,(l.flatMap fun e=>[e.f_From,e.f_To]).length=2*l.length:=fun l=>by
  induction l with
  |nil=>rfl
  |cons e r ih=>rw[List.flatMap_cons,List.length_append,ih];simp;omega
 obtain⟨r,h1,h2,h3,_⟩:=J4 (a0:=es.flatMap fun e=>[e.f_From,e.f_To]) (by rw[hlen];omega)
 have:r=ks:=z6x h2 hg.srt fun x=>by
  rw[h3,hg.mem,List.mem_flatMap]
  constructor
  ·rintro⟨e,he,hx⟩
   refine⟨e,he,?_⟩
   simp only[List.mem_cons,List.not_mem_nil,or_false] at hx
   exact hx
  ·rintro⟨e,he,hx⟩
   refine⟨e,he,?_⟩
   simp only[List.mem_cons,List.not_mem_nil,or_false]
   exact hx
 subst this
 unfold jt
 rw[show(0:Int)=((0:Nat):Int) from rfl,h,List.drop_zero,List.nil_append]
 unfold jr
 rw[h1];rfl
theorem zak{es:List G_QEdge}{ks:List K}(hl:es.length≤400)(hkl:ks.length≤1000):∀ (n i:Nat),i+n=ks.length→∃b,xk none es ks (i:Int)=some b∧(b=true↔∃k∈ks.drop i,Rc es k k)
 |0,i,h=>by
  have:i=ks.length:=by omega
  subst this
  refine⟨false,?_,by simp⟩
  unfold xk
  rw[yv (x:=some false)]
  unfold qr wb
  rw[if_neg (by simp)]
 |n+1,i,h=>by
  have hi:i<ks.length:=by omega
  obtain⟨l,h1,h2⟩:=Qd hl ks[i]
  have hll:=J8 h2
  have hb:qr none es ks (i:Int)=if ks[i]∈l then some (.inr true) else some (.inl ((i+1:Nat):Int)):=by
   unfold qr
   simp only[Int.toNat_natCast,wo hi,u9]
   rw[if_pos (by simpa using hi),if_pos (by simp;omega),h1,Option.bind_some,Q1 (by omega),Option.bind_some]
   by_cases c:ks[i]∈l
   ·rw[if_pos (by simpa using c),if_pos c];rfl
   ·rw[if_neg (by simpa using c),if_neg c,Wi (by omega)]
  rw[List.drop_eq_getElem_cons hi]
  by_cases c:ks[i]∈l
  ·rw[if_pos c] at hb
   refine⟨true,?_,⟨fun _=>⟨_,List.mem_cons_self ..,(h2.2 _).1 c⟩,fun _=>rfl⟩⟩
   unfold xk
   rw[yv (x:=some true) hb]
  ·rw[if_neg c] at hb
   obtain⟨b,g1,g2⟩:=zak hl hkl n (i+1) (by omega)
   refine⟨b,?_,?_⟩
   ·unfold xk at g1 ⊢
    rw[qw hb];exact g1
   ·rw[g2]
    constructor
    ·rintro⟨k,hk,h⟩;exact⟨k,List.mem_cons_of_mem _ hk,h⟩
    ·rintro⟨k,hk,h⟩
     rcases List.mem_cons.1 hk with rfl|hk
     ·exact absurd ((h2.2 _).2 h) c
     ·exact⟨k,hk,h⟩
theorem zf0{es:List G_QEdge}{ks:List K}{M:Gm}(hg:Graph false es ks M)(hl:es.length≤400):∃b,jn none es=some b∧(b=true↔∃k,Rc es k k):=by
 have hkl:=hg.klen
 obtain⟨b,h1,h2⟩:=zak (ks:=ks) hl (by omega) ks.length 0 (by omega)
 refine⟨b,?_,h2.trans ?_⟩
 ·unfold jn
  rw[zkq hg hl,Option.bind_some];exact h1
 ·rw[List.drop_zero]
  constructor
  ·rintro⟨k,_,h⟩;exact⟨k,h⟩
  ·rintro⟨k,h⟩
   obtain⟨b,e,he,h5,_⟩:=h.first
   exact⟨k,(hg.mem k).2 ⟨e,he,.inl h5.symm⟩,h⟩
end Go.Proofs.Ytejfgjggcoemeaa
