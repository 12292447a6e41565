/-
  Own framework.
-/
import Derived.Test.YtlilpmnmedmjaaaGreatDoorFxL
namespace Go.Fx
set_option linter.unusedVariables false
variable {P:Program}
theorem z2c{I:Nat→Nat→Prop}{β β2:Id→Option CLoc}{n n2:Nat}{w:World}{g:Id→Id}(hn:∀id:Id,id.1<n→(g id).1<n2)(hβ:∀ (id:Id) c,id.1<n→β2 (g id)=some c→β id=some c){x:AVal}{v:Value}(h:Rep I β n w x v):Rep I β2 n2 w (x.ren g) v:=by
 induction h with
 |any v=>exact .any v
 |imm x v h=>
  -- immutable values have no names in them
  have key:∀ {x:AVal} {v:Value},RepI I w x v→Rep I β2 n2 w (x.ren g) v:=by
   intro x v h
   induction h with
   |bool b=>exact .imm _ _ (.bool b)
   |int k m=>exact .imm _ _ (.int k m)
   |str l=>exact .imm _ _ (.str l)
   |val v h=>exact .imm _ _ (.val v h)
   |agg cs vs h1 h2 _ ih=>
    refine .agg _ vs (by rw[kq,List.length_map];exact h1) h2 fun i y v hy hv=>?_
    rw[kq,List.getElem?_map] at hy
    cases hc:cs[i]? with
    |none=>rw[hc] at hy;cases hy
    |some x=>rw[hc] at hy;simp only[Option.map_some,Option.some.injEq] at hy;subst hy;exact ih i x v hc hv
   |tup cs vs h1 _ ih=>
    refine .tup _ vs (by rw[kq,List.length_map];exact h1) fun i y v hy hv=>?_
    rw[kq,List.getElem?_map] at hy
    cases hc:cs[i]? with
    |none=>rw[hc] at hy;cases hy
    |some x=>rw[hc] at hy;simp only[Option.map_some,Option.some.injEq] at hy;subst hy;exact ih i x v hc hv
   |islNil s f=>exact .imm _ _ (.islNil s f)
   |islEmpty s f a cap h=>exact .imm _ _ (.islEmpty s f a cap h)
   |isl s es f b o cap vf h1 h2 h3 h4 h5 h6 h7 _=>exact .imm _ _ (.isl s es f b o cap vf h1 h2 h3 h4 h5 h6 h7)
   |iptr s es b o i0 off vf h1 h4 h5 h6 h7 _=>exact .imm _ _ (.iptr s es b o i0 off vf h1 h4 h5 h6 h7)
   |fn f a c fs cs h1 h2 _ _ ih1 ih2=>
    refine .fn f _ _ fs cs (by rw[kq,List.length_map];exact h1) (by rw[kq,List.length_map];exact h2) (fun i y v hy hv=>?_) (fun i y v hy hv=>?_)
    ·rw[kq,List.getElem?_map] at hy
     cases hc:a[i]? with
     |none=>rw[hc] at hy;cases hy
     |some x=>rw[hc] at hy;simp only[Option.map_some,Option.some.injEq] at hy;subst hy;exact ih1 i x v hc hv
    ·rw[kq,List.getElem?_map] at hy
     cases hc:c[i]? with
     |none=>rw[hc] at hy;cases hy
     |some x=>rw[hc] at hy;simp only[Option.map_some,Option.some.injEq] at hy;subst hy;exact ih2 i x v hc hv
   |ifc t x v _ ih=>exact .ifc t _ v ih
  exact key h
 |agg cs vs h1 h2 _ ih=>
  refine .agg _ vs (by rw[kq,List.length_map];exact h1) h2 fun i y v hy hv=>?_
  rw[kq,List.getElem?_map] at hy
  cases hc:cs[i]? with
  |none=>rw[hc] at hy;cases hy
  |some x=>rw[hc] at hy;simp only[Option.map_some,Option.some.injEq] at hy;subst hy;exact ih i x v hc hv
 |tup cs vs h1 _ ih=>
  refine .tup _ vs (by rw[kq,List.length_map];exact h1) fun i y v hy hv=>?_
  rw[kq,List.getElem?_map] at hy
  cases hc:cs[i]? with
  |none=>rw[hc] at hy;cases hy
  |some x=>rw[hc] at hy;simp only[Option.map_some,Option.some.injEq] at hy;subst hy;exact ih i x v hc hv
 |fn f a c fs cs h1 h2 _ _ ih1 ih2=>
  refine .fn f _ _ fs cs (by rw[kq,List.length_map];exact h1) (by rw[kq,List.length_map];exact h2) (fun i y v hy hv=>?_) (fun i y v hy hv=>?_)
  ·rw[kq,List.getElem?_map] at hy
   cases hc:a[i]? with
   |none=>rw[hc] at hy;cases hy
   |some x=>rw[hc] at hy;simp only[Option.map_some,Option.some.injEq] at hy;subst hy;exact ih1 i x v hc hv
  ·rw[kq,List.getElem?_map] at hy
   cases hc:c[i]? with
   |none=>rw[hc] at hy;cases hy
   |some x=>rw[hc] at hy;simp only[Option.map_some,Option.some.injEq] at hy;subst hy;exact ih2 i x v hc hv
 |ifc t x v _ ih=>exact .ifc t _ v ih
 |osl tok s es v h1 h2 h3=>exact .osl _ _ _ _ (hn _ h1) h2 (fun c hc=>h3 c (hβ _ c h1 hc))
 |ptr b i off a h1 h2=>exact .ptr _ _ _ _ (hn _ h1) (fun c hc=>h2 c (hβ _ c h1 hc))
 |msl b s off len f a cap h0 h1 h2 h3=>exact .msl _ _ _ _ _ _ _ (hn _ h0) h1 h2 (fun c hc=>h3 c (hβ _ c h0 hc))
 |map b r h1 h2=>exact .map _ _ (hn _ h1) (fun c hc=>h2 c (hβ _ c h1 hc))
 |optp b r h1 h2=>exact .optp _ _ (hn _ h1) (fun c hc=>h2 c (hβ _ c h1 hc))
 |cnd p x v _ h ih=>exact .cnd p _ v ih h
theorem zf5{I:Nat→Nat→Prop}{β β2:Id→Option CLoc}{n n2:Nat}{w:World}{g:Id→Id}(hn:∀id:Id,id.1<n→(g id).1<n2)(hβ:∀ (id:Id) c,id.1<n→β2 (g id)=some c→β id=some c){c:CLoc}{s:Nat}{es:List (List AVal)}(h:RepB I β n w c (.rows s es)):RepB I β2 n2 w c (.rows s (Zt g es)):=by
 obtain⟨h1,h2,h3,h4,h5,h6,h7⟩:=h
 have get:∀ (i:Nat) (r:List AVal),(Zt g es)[i]?=some r→∃r0,es[i]?=some r0∧r=r0.map (AVal.ren g):=by
  intro i r hr
  unfold Zt at hr
  rw[List.getElem?_map] at hr
  cases he:es[i]? with
  |none=>rw[he] at hr;cases hr
  |some r0=>rw[he] at hr;simp only[Option.map_some,Option.some.injEq] at hr;exact⟨r0,rfl,by rw[←hr,kq]⟩
 refine⟨h1,h2.imp id (fun z=>⟨z.1,z.2.1,by rw[z.2.2];rfl⟩),h3,h4,by unfold Zt;rw[List.length_map];exact h5,fun i r hr=>?_,fun i r j x hr hx=>?_⟩
 ·obtain⟨r0,hr0,rfl⟩:=get i r hr
  rw[List.length_map];exact h6 i r0 hr0
 ·obtain⟨r0,hr0,rfl⟩:=get i r hr
  rw[List.getElem?_map] at hx
  cases hj:r0[j]? with
  |none=>rw[hj] at hx;cases hx
  |some x0=>
   rw[hj] at hx
   simp only[Option.map_some,Option.some.injEq] at hx
   subst hx
   obtain⟨v,g1,g2,g3⟩:=h7 i r0 j x0 hr0 hj
   exact⟨v,g1,g2,z2c hn hβ g3⟩
theorem zpy{I:Nat→Nat→Prop}{β β2:Id→Option CLoc}{n n2:Nat}{w:World}{g:Id→Id}(hn:∀id:Id,id.1<n→(g id).1<n2)(hβ:∀ (id:Id) c,id.1<n→β2 (g id)=some c→β id=some c){c:CLoc}{b:ABlock}(h:RepB I β n w c b):RepB I β2 n2 w c (b.ren g):=by
 cases b with
 |tok=>exact h
 |amap es=>
  obtain⟨h1,h2,arr,ck,h3,h4⟩:=h
  refine⟨h1,h2,arr,ck,h3,by rw[h4.len,List.length_map],fun i k x e hi he=>?_,h4.born,h4.clk⟩
  rw[List.getElem?_map] at hi
  cases hx:es[i]? with
  |none=>rw[hx] at hi;cases hi
  |some y=>
   rw[hx] at hi
   simp only[Option.map_some,Option.some.injEq,Prod.mk.injEq] at hi
   obtain⟨rfl,rfl⟩:=hi
   obtain⟨g1,g2⟩:=h4.ent i y.1 y.2 e hx he
   exact⟨Vo g1,z2c hn hβ g2⟩
 |one cs=>
  have:=zf5 hn hβ (u0.1 h)
  have hl:(AVal.ren.renL g cs).length=cs.length:=by rw[kq,List.length_map]
  rw[←hl] at this
  exact u0.2 this
 |rows s es=>exact zf5 hn hβ h
 |bld T g=>
  obtain⟨h1,h2,h3,h4,p,v,h5,h6,h7⟩:=h
  exact⟨h1,h2,h3,hn _ h4,p,v,h5,h6,fun d hd=>h7 d (hβ _ d h4 hd)⟩
 |buf e bs=>exact h
 |lrec l r e=>
  obtain⟨h1,h2,h3,h4,h5⟩:=h
  exact⟨h1,h2,h3,h4,fun t=>by rw[z6d];exact z2c hn hβ (h5 t)⟩
 |rmap es arr ck=>
  obtain⟨h1,h2,h3,h4⟩:=h
  refine⟨h1,h2,h3,by rw[h4.len,List.length_map],fun i k x e hi he=>?_,h4.born,h4.clk⟩
  rw[List.getElem?_map] at hi
  cases hx:es[i]? with
  |none=>rw[hx] at hi;cases hi
  |some y=>
   rw[hx] at hi
   simp only[Option.map_some,Option.some.injEq,Prod.mk.injEq] at hi
   obtain⟨rfl,rfl⟩:=hi
   obtain⟨g1,g2⟩:=h4.ent i y.1 y.2 e hx he
   exact⟨Vo g1,z2c hn hβ g2⟩
 |itr m arr ck seen=>
  obtain⟨h1,h2,h0,k,h3,h4⟩:=h
  exact⟨h1,h2,h0,k,h3,h4.mono (fun id h _=>hn id h) (fun id c h _ hc=>hβ id c h hc)⟩
 |mbox b=>
  obtain⟨h1,h2,h0,k,h3,h4⟩:=h
  exact⟨h1,h2,h0,k,h3,h4.mono (g:=g) (fun id h _=>hn id h) (fun id c h _ hc=>hβ id c h hc)⟩
def ArgsTo(F:Id→Bool)(H:AHeap)(ρ:Id→Option Id)(n:Nat):List AVal→List AVal→Prop
 |[],[]=>True
 |x::xs,y::ys=>Vw F H ρ n x y∧ArgsTo F H ρ n xs ys
 |_,_=>False
theorem ArgsTo.get{F:Id→Bool}{H:AHeap}{ρ:Id→Option Id}{n:Nat}:∀ {xs ys:List AVal},ArgsTo F H ρ n xs ys→xs.length=ys.length∧∀ (i:Nat) (x y:AVal),xs[i]?=some x→ys[i]?=some y→Vw F H ρ n x y
 |[],[],_=>⟨rfl,fun i x y h _=>by simp at h⟩
 |[],_::_,h=>h.elim
 |_::_,[],h=>h.elim
 |x::xs,y::ys,h=>by
  obtain⟨h1,h2⟩:=ArgsTo.get h.2
  refine⟨by simp[h1],fun i a b ha hb=>?_⟩
  cases i with
  |zero=>simp only[List.getElem?_cons_zero,Option.some.injEq] at ha hb;subst ha;subst hb;exact h.1
  |succ i=>exact h2 i a b (by simpa using ha) (by simpa using hb)
def AHeap.without(p:Id→Bool):AHeap→AHeap
 |[]=>[]
 |(k,b)::r=>if p k then AHeap.without p r else(k,b)::AHeap.without p r
theorem AHeap.get_without(p:Id→Bool):∀ (H:AHeap) (t:Id),(AHeap.without p H).get t=if p t then none else H.get t
 |[],t=>by simp[AHeap.without,AHeap.get]
 |(k,b)::r,t=>by
  unfold AHeap.without
  by_cases hk:p k=true
  ·rw[if_pos hk,AHeap.get_without p r t]
   by_cases ht:p t=true
   ·rw[if_pos ht,if_pos ht]
   ·rw[if_neg ht,if_neg ht]
    have:k≠t:=fun h=>by subst h;exact ht hk
    rw[AHeap.get_cons_other _ _ this]
  ·rw[if_neg hk]
   by_cases hkt:k=t
   ·subst hkt;rw[AHeap.get_cons_same,AHeap.get_cons_same,if_neg hk]
   ·rw[AHeap.get_cons_other _ _ hkt,AHeap.get_cons_other _ _ hkt];exact AHeap.get_without p r t
theorem AHeap.get_append(L H:AHeap)(t:Id):AHeap.get (L++H) t=(L.get t).or (H.get t):=by
 induction L with
 |nil=>rfl
 |cons x L ih=>
  obtain⟨k,b⟩:=x
  by_cases h:k=t
  ·subst h;simp[AHeap.get]
  ·simp only[List.cons_append,AHeap.get,if_neg h];exact ih
def AHeap.renamed(g:Id→Id)(H:AHeap):AHeap:=H.map fun x=>(g x.1,x.2.ren g)
theorem AHeap.get_renamed{g:Id→Id}:∀ {H:AHeap} {t:Id} {b:ABlock},(AHeap.renamed g H).get t=some b→∃i b0,(i,b0)∈H∧g i=t∧b=b0.ren g
 |[],t,b,h=>by simp[AHeap.renamed,AHeap.get] at h
 |(k,b0)::r,t,b,h=>by
  simp only[AHeap.renamed,List.map_cons] at h
  by_cases hk:g k=t
  ·subst hk
   rw[AHeap.get_cons_same] at h
   simp only[Option.some.injEq] at h
   exact⟨k,b0,List.mem_cons_self ..,rfl,h.symm⟩
  ·rw[AHeap.get_cons_other _ _ hk] at h
   obtain⟨i,b1,h1,h2,h3⟩:=AHeap.get_renamed h
   exact⟨i,b1,List.mem_cons_of_mem _ h1,h2,h3⟩
def z0b(ρ:Id→Option Id)(k n m:Nat)(id:Id):Id:=if id.1<k then(ρ id).getD (n+m,0) else(n+(id.1-k),id.2)
theorem ACalls.frame{f:Fn}{args args0:List AVal}{H H0 L:AHeap}{n k m:Nat}{R:AVal}{F:Id→Bool}{ρ:Id→Option Id}{K:AVal→AHeap→Nat→Prop}(h:ACalls P f args0 H0 k (kg (k+m) R L))
 (hinj:∀i j x,ρ i=some x→ρ j=some x→i=j) (hdom:∀i x,ρ i=some x→i.1<k∧x.1<n∧F x=false) (hF:∀x,F x=true→H.get x≠none)
 (ha:ArgsTo F H ρ k args args0) (hH:∀i b,H0.get i=some b→∃x b',ρ i=some x∧H.get x=some b'∧BVw F H ρ k b' b)
 (p:Id→Bool) (hp:∀x,p x=true↔F x=true∨∃i,ρ i=some x) (hnd:(L.map (·.1)).Nodup)
 (hk:K (R.ren (z0b ρ k n m)) (AHeap.renamed (z0b ρ k n m) L++AHeap.without p H) (n+m+1)):ACalls P f args H n K:=by
 refine⟨h.1,fun I β w vs hI hl hr=>?_⟩
 have hρ:RhoOk 0 k F H ρ:=⟨hinj,fun i x hx=>(hdom i x hx).1,fun i hi=>absurd hi (Nat.not_lt_zero _),fun _ _ _ _=>.inl (Nat.zero_le _),Nat.zero_le _⟩
 have hmem:∀ {L:AHeap} {i:Id} {b:ABlock},(L.map (·.1)).Nodup→(i,b)∈L→L.get i=some b:=by
  intro L i b hn hm
  induction L with
  |nil=>cases hm
  |cons y r ih=>
   obtain⟨j,c⟩:=y
   simp only[List.map_cons,List.nodup_cons] at hn
   rcases List.mem_cons.1 hm with h|h
   ·simp only[Prod.mk.injEq] at h;obtain⟨rfl,rfl⟩:=h;exact AHeap.get_cons_same _ _ _
   ·have:j≠i:=fun hji=>by subst hji;exact hn.1 (List.mem_map.2 ⟨_,h,rfl⟩)
    rw[AHeap.get_cons_other _ _ this];exact ih hn.2 h
 -- the callee's view
 have hto:∀ {i:Id} {b:ABlock},H0.get i=some b→Kj F H ρ 0 k i b:=by
  intro i b hb
  obtain⟨x,b',h1,h2,h3⟩:=hH i b hb
  unfold Kj
  rw[h1]
  simp only[h2]
  exact⟨(hdom i x h1).2.2,h3⟩
 have hI0:Inv (z3b I β F H w) (z42 β F ρ 0 k H0) k H0 w:=by
  refine⟨fun id blk hb=>?_,fun i j c d b q hi hj hc hd=>?_,fun i c b q hi hc=>?_,fun b q h=>?_,fun id hid=>?_,hI.glob.mono (fun _ _ h=>.inl h) (fun _ _ _=>rfl) (SameSz.refl _)⟩
  ·obtain⟨x,b',h1,h2,h3⟩:=hH id blk hb
   obtain⟨c,hc,hB⟩:=hI.blocks x b' h2
   exact⟨c,by rw[z2o h1 (hdom id x h1).2.2];exact hc,zjr hI hρ h3 hB⟩
  ·obtain⟨i',h1,_,h2⟩:=Y3 hi hc
   obtain⟨j',h3,_,h4⟩:=Y3 hj hd
   have:=hI.inj i' j' c d b q h2 h4 hc hd
   subst this
   exact hinj i j i' h1 h3
  ·obtain⟨i',h1,h2,h3⟩:=Y3 hi hc
   obtain⟨h4,h5⟩:=hI.own i' c b q h3 hc
   refine⟨?_,h5⟩
   rintro(h|⟨⟨id,d,g1,g2,g3,g4⟩,_⟩)
   ·exact h4 h
   ·have:=hI.inj id i' d c b q g2 h3 g4 hc
    subst this
    rw[g1] at h2;cases h2
  ·rcases h with h|⟨_,h⟩
   ·exact hI.imm b q h
   ·exact h
  ·cases hr:z42 β F ρ 0 k H0 id with
   |none=>rfl
   |some c=>
    rcases Zy hr with⟨x,h1,_⟩|⟨_,_,_,_,h⟩
    ·have:=(hdom id x h1).1;omega
    ·omega
 obtain⟨ha1,ha2⟩:=ha.get
 refine(h.2 _ _ w vs hI0 (by rw[hl,ha1]) (fun i y v hy hv=>?_)).mono ?_
 ·have hlt:i<args.length:=by rw[ha1];exact J9 hy
  exact z00 hI hρ (ha2 i args[i] y (List.getElem?_eq_getElem hlt) hy) (hr i _ v (List.getElem?_eq_getElem hlt) hv)
 ·rintro ee w' ⟨r,v,H1,n1,I',β',he,⟨rfl,rfl,rfl⟩,hI',hr',hx⟩
  -- an alive block of the callee is one of the caller
  have alive:∀ {i:Id} {c:CLoc} {b q:Nat},z42 β F ρ 0 k H0 i=some c→H0.get i≠none→c.has b q→∃x,ρ i=some x∧β x=some c∧H.get x≠none:=by
   intro i c b q hi hg hc
   obtain⟨x,h1,_,h2⟩:=Y3 hi hc
   refine⟨x,h1,h2,?_⟩
   cases hb:H0.get i with
   |none=>exact absurd hb hg
   |some b0=>
    obtain⟨x',b',h3,h4,_⟩:=hH i b0 hb
    rw[h1] at h3
    simp only[Option.some.injEq] at h3
    subst h3
    rw[h4];simp
  let β3:Id→Option CLoc:=fun j=>by
   classical
   exact if j.1<n then(if hj:∃i,ρ i=some j then β' (Classical.choose hj) else if F j=true then none else β j) else if j.1<n+m then β' (k+(j.1-n),j.2) else none
  have b3at:∀ {i x:Id},ρ i=some x→β3 x=β' i:=by
   intro i x hix
   have hex:∃i,ρ i=some x:=⟨i,hix⟩
   have:Classical.choose hex=i:=hinj _ _ x (Classical.choose_spec hex) hix
   simp only[β3,if_pos (hdom i x hix).2.1,dif_pos hex,this]
  have b3old:∀ {j:Id},j.1<n→(¬∃i,ρ i=some j)→F j=false→β3 j=β j:=by
   intro j hj hno hFj
   simp only[β3,if_pos hj,dif_neg hno,hFj,Bool.false_eq_true,if_false]
  have b3cases:∀ {j:Id} {c:CLoc},β3 j=some c→(∃i,ρ i=some j∧β' i=some c)∨(j.1<n∧(¬∃i,ρ i=some j)∧F j=false∧β j=some c)∨(n≤j.1∧j.1<n+m∧β' (k+(j.1-n),j.2)=some c):=by
   intro j c hj
   simp only[β3] at hj
   split at hj
   ·rename_i hlt
    split at hj
    ·rename_i hex;exact .inl ⟨_,Classical.choose_spec hex,hj⟩
    ·rename_i hno
     split at hj
     ·cases hj
     ·rename_i hFj;exact .inr (.inl ⟨hlt,hno,by simpa using hFj,hj⟩)
   ·rename_i hge
    split at hj
    ·rename_i hlt;exact .inr (.inr ⟨by omega,hlt,hj⟩)
    ·cases hj
  have hk0:∀ {i:Id} {c:CLoc},i.1<k→β' i=some c→z42 β F ρ 0 k H0 i=some c:=fun hi hc=>hx.back _ _ hi hc
  have upn:∀id:Id,id.1<k+m→(z0b ρ k n m id).1<n+m+1:=by
   intro id hid
   unfold z0b
   split
   ·cases hρi:ρ id with
    |none=>simp
    |some x=>have:=(hdom id x hρi).2.1;simp;omega
   ·simp;omega
  have upβ:∀ (id:Id) c,id.1<k+m→β3 (z0b ρ k n m id)=some c→β' id=some c:=by
   intro id c hid hc
   unfold z0b at hc
   split at hc
   ·rename_i hlt
    cases hρi:ρ id with
    |none=>
     rw[hρi] at hc
     simp only[Option.getD_none] at hc
     rcases b3cases hc with⟨i,h1,_⟩|⟨h1,_⟩|⟨_,h1,_⟩
     ·have:=(hdom i _ h1).2.1;simp only at this;omega
     ·simp only at h1;omega
     ·simp only at h1;omega
    |some x=>
     rw[hρi] at hc
     simp only[Option.getD_some] at hc
     rw[b3at hρi] at hc;exact hc
   ·rename_i hge
    rcases b3cases hc with⟨i,h1,_⟩|⟨h1,_⟩|⟨_,_,h1⟩
    ·have:=(hdom i _ h1).2.1;simp only at this;omega
    ·simp only at h1;omega
    ·simp only[Nat.add_sub_cancel_left] at h1
     rw[show k+(id.1-k)=id.1 by omega] at h1
     exact h1
  have hcI:∀b q,I b q→w'.cell? ⟨b,q,none⟩=w.cell? ⟨b,q,none⟩:=fun b q hb=>hx.heapI hI0 b q (.inl hb)
  have himm:∀b q,I b q→I' b q:=fun b q hb=>hx.imm b q (.inl hb)
  have hsz:w.heap.size≤w'.heap.size:=hx.size
  have hupAt:∀i b,H1.get i=some b→i.1<k+m∧((i.1<k∧∃x,ρ i=some x∧z0b ρ k n m i=x∧H.get x≠none)∨(k≤i.1∧z0b ρ k n m i=(n+(i.1-k),i.2))):=by
   intro i b hb
   have hlt:i.1<k+m:=by
    obtain⟨c,hc,_⟩:=hI'.blocks i b hb
    exact Yh hI' hc
   refine⟨hlt,?_⟩
   by_cases hi:i.1<k
   ·left
    refine⟨hi,?_⟩
    have hg:=hx.dom i hi (by rw[hb];simp)
    cases hb0:H0.get i with
    |none=>exact absurd hb0 hg
    |some b0=>
     obtain⟨x,b',h3,h4,_⟩:=hH i b0 hb0
     exact⟨x,h3,by unfold z0b;rw[if_pos hi,h3];rfl,by rw[h4];simp⟩
   ·right
    exact⟨by omega,by unfold z0b;rw[if_neg hi]⟩
  refine⟨_,v,_,_,I',β3,he,hk,?_,z2c upn upβ hr',?_⟩
  ·refine⟨fun id blk hb=>?_,fun i j c d b q hi hj hc hd=>?_,fun i c b q hi hc=>?_,hI'.imm,fun id hid=>?_,hI'.glob⟩
   ·rw[AHeap.get_append] at hb
    cases hg:(AHeap.renamed (z0b ρ k n m) H1).get id with
    |some b1=>
     rw[hg] at hb
     simp only[Option.some_or,Option.some.injEq] at hb
     subst hb
     obtain⟨i,b0,h1,h2,rfl⟩:=AHeap.get_renamed hg
     have hLi:=hmem hnd h1
     obtain⟨c,hc,hB⟩:=hI'.blocks i b0 hLi
     refine⟨c,?_,zpy upn upβ hB⟩
     obtain⟨hlt,h3|h3⟩:=hupAt i b0 hLi
     ·obtain⟨_,x,h4,h5,_⟩:=h3
      rw[←h2,h5,b3at h4];exact hc
     ·obtain⟨h4,h5⟩:=h3
      rw[←h2,h5]
      simp only[β3]
      rw[if_neg (by simp),if_pos (by simp;omega)]
      simp only[Nat.add_sub_cancel_left]
      rw[show k+(i.1-k)=i.1 by omega];exact hc
    |none=>
     rw[hg] at hb
     simp only[Option.none_or,AHeap.get_without] at hb
     split at hb<;>try (cases hb;done)
     rename_i hpn
     obtain⟨c,hc,hB⟩:=hI.blocks id blk hb
     have hid:=Yh hI hc
     have hno:¬∃i,ρ i=some id:=fun hex=>hpn ((hp id).2 (.inr hex))
     have hFid:F id=false:=by
      cases hF':F id with
      |false=>rfl
      |true=>exact absurd ((hp id).2 (.inl hF')) hpn
     refine⟨c,by rw[b3old hid hno hFid];exact hc,hB.mono' himm hcI (by omega) ?_ (fun arr el fr hh=>by
      obtain⟨arr',fr',k1,k2,k3⟩:=hx.shape _ arr el fr hh
      refine⟨arr',fr',k1,k2,k3.imp (fun h=>h) fun g k hk hck=>?_⟩
      obtain⟨i,d,e1,e2,e3⟩:=g k hk
      obtain⟨x,g1,g2,_⟩:=alive e1 e2 e3
      have:=hI.inj id x c d _ k hc g2 hck e3
      subst this
      exact hno ⟨i,g1⟩) ?_ ?_⟩
     ·intro j d hj hd
      rcases b3cases hd with⟨i,h1,h2⟩|⟨_,_,_,h1⟩|⟨h1,_⟩
      ·have:=hk0 (hdom i j h1).1 h2
       rwa [z2o h1 (hdom i j h1).2.2] at this
      ·exact h1
      ·omega
     ·intro b q u hbq hu
      refine hx.cells b q u hu (fun i d hi hg hd=>?_)
      obtain⟨x,h1,h2,_⟩:=alive hi hg hd
      have:=hI.inj id x c d b q hc h2 hbq hd
      subst this
      exact hno ⟨i,h1⟩
     ·intro es ck h0 hm
      refine hx.maps _ es ck hm (fun i d hi hg hd=>?_)
      obtain⟨x,h1,h2,_⟩:=alive hi hg hd
      have:=hI.inj id x c d _ 0 hc h2 h0 hd
      subst this
      exact hno ⟨i,h1⟩
   ·-- two blocks z87
    have tr:∀ {j:Id} {c:CLoc},β3 j=some c→(∃i,β' i=some c∧z0b ρ k n m i=j∧i.1<k+m)∨(j.1<n∧(¬∃i,ρ i=some j)∧F j=false∧β j=some c):=by
     intro j c hj
     rcases b3cases hj with⟨i,h1,h2⟩|h|⟨h1,h2,h3⟩
     ·exact .inl ⟨i,h2,by unfold z0b;rw[if_pos (hdom i j h1).1,h1];rfl,by have:=(hdom i j h1).1;omega⟩
     ·exact .inr h
     ·refine .inl ⟨_,h3,?_,by simp;omega⟩
      unfold z0b
      rw[if_neg (by simp)]
      simp only[Nat.add_sub_cancel_left]
      ext<;>simp;omega
    have mixed:∀ {i:Id} {j:Id} {c d:CLoc},β' i=some c→i.1<k+m→c.has b q→j.1<n→(¬∃i,ρ i=some j)→β j=some d→d.has b q→False:=by
     intro i j c d hi hik hc hj hno hd hdq
     obtain⟨_,hlt⟩:=hI.own j d b q hd hdq
     by_cases hi':i.1<k
     ·obtain⟨x,h1,_,h2⟩:=Y3 (hk0 hi' hi) hc
      have:=hI.inj x j c d b q h2 hd hc hdq
      subst this
      exact hno ⟨i,h1⟩
     ·rcases hx.new i c b q (by omega) hi hc with h|⟨i0,c0,h1,h2,h3⟩
      ·omega
      ·obtain⟨x,g1,g2,_⟩:=alive h1 h3 h2
       have:=hI.inj x j c0 d b q g2 hd h2 hdq
       subst this
       exact hno ⟨i0,g1⟩
    rcases tr hi with⟨i',h1,h2,h2'⟩|⟨h1,h2,_,h3⟩<;>rcases tr hj with⟨j',g1,g2,g2'⟩|⟨g1,g2,_,g3⟩
    ·have:=hI'.inj i' j' c d b q h1 g1 hc hd
     subst this
     rw[←h2,g2]
    ·exact(mixed h1 h2' hc g1 g2 g3 hd).elim
    ·exact(mixed g1 g2' hd h1 h2 h3 hc).elim
    ·exact hI.inj i j c d b q h3 g3 hc hd
   ·rcases b3cases hi with⟨i',_,h2⟩|⟨h1,h2,hFi,h3⟩|⟨_,_,h3⟩
    ·exact hI'.own i' c b q h2 hc
    ·obtain⟨g1,g2⟩:=hI.own i c b q h3 hc
     refine⟨fun hI'bq=>?_,by omega⟩
     by_cases hin:z3b I β F H w b q
     ·rcases hin with h|⟨⟨id,d,e1,e2,e3,e4⟩,_⟩
      ·exact g1 h
      ·have:=hI.inj id i d c b q e2 h3 e4 hc
       subst this
       rw[e1] at hFi;cases hFi
     ·obtain⟨i0,c0,e1,e2,e3⟩:=hx.immNew b q hI'bq hin g2
      obtain⟨x,e4,e5,_⟩:=alive e1 e3 e2
      have:=hI.inj x i c0 c b q e5 h3 e2 hc
      subst this
      exact h2 ⟨i0,e4⟩
    ·exact hI'.own _ c b q h3 hc
   ·cases hb:β3 id with
    |none=>rfl
    |some c=>
     rcases b3cases hb with⟨i,h1,_⟩|⟨h1,_⟩|⟨_,h1,_⟩
     ·have:=(hdom i id h1).2.1;omega
     ·omega
     ·omega
  ·refine⟨hx.os,hx.tape,hx.output,hx.size,fun b hb hn=>hx.frame b hb (fun i c q hi hg hc=>?_),fun b q u hu hn=>hx.cells b q u hu (fun i c hi hg hc=>?_),fun b arr el fr hb=>(by
    obtain⟨arr',fr',k1,k2,k3⟩:=hx.shape b arr el fr hb
    refine⟨arr',fr',k1,k2,k3.imp (fun h=>h) fun g k hk=>?_⟩
    obtain⟨i,d,e1,e2,e3⟩:=g k hk
    obtain⟨x,_,g2,g3⟩:=alive e1 e2 e3
    exact⟨x,d,g2,g3,e3⟩),fun b es ck hm hn=>hx.maps b es ck hm (fun i c hi hg hc=>?_),himm,fun b q hb hnb hlt=>?_,fun j hj=>?_,fun j c b q hj hc hq=>?_,fun j hj hg=>?_,by omega⟩
   ·obtain⟨x,_,h2,h3⟩:=alive hi hg hc
    exact hn x c q h2 h3 hc
   ·obtain⟨x,_,h2,h3⟩:=alive hi hg hc
    exact hn x c h2 h3 hc
   ·obtain⟨x,_,h2,h3⟩:=alive hi hg hc
    exact hn x c h2 h3 hc
   ·by_cases hin:z3b I β F H w b q
    ·rcases hin with h|⟨⟨id,d,e1,e2,e3,e4⟩,_⟩
     ·exact absurd h hnb
     ·exact⟨id,d,e2,e4,e3⟩
    ·obtain⟨i0,c0,e1,e2,e3⟩:=hx.immNew b q hb hin hlt
     obtain⟨x,_,e5,e6⟩:=alive e1 e3 e2
     exact⟨x,c0,e5,e2,e6⟩
   ·by_cases hex:∃i,ρ i=some j
    ·obtain⟨i,hi⟩:=hex
     obtain⟨d1,d2,d3⟩:=hdom i j hi
     rw[b3at hi]
     rcases hx.old i d1 with h|⟨h,hg⟩
     ·left;rw[h,z2o hi d3]
     ·right
      refine⟨h,?_⟩
      cases hb:H0.get i with
      |none=>exact absurd hb hg
      |some b0=>
       obtain⟨x',b',h3,h4,_⟩:=hH i b0 hb
       rw[hi] at h3
       simp only[Option.some.injEq] at h3
       subst h3
       rw[h4];simp
    ·cases hFj:F j with
     |false=>exact .inl (b3old hj hex hFj)
     |true=>
      right
      refine⟨?_,hF j hFj⟩
      simp only[β3,if_pos hj,dif_neg hex,hFj,if_true]
   ·rcases b3cases hc with⟨i,h1,_⟩|⟨h1,_⟩|⟨_,_,h1⟩
    ·have:=(hdom i j h1).2.1;omega
    ·omega
    ·rcases hx.new _ c b q (by simp) h1 hq with h|⟨i0,c0,e1,e2,e3⟩
     ·exact .inl h
     ·obtain⟨x,_,e5,e6⟩:=alive e1 e3 e2
      exact .inr ⟨x,c0,e5,e2,e6⟩
   ·rw[AHeap.get_append] at hg
    cases hh:(AHeap.renamed (z0b ρ k n m) H1).get j with
    |none=>
     rw[hh] at hg
     simp only[Option.none_or,AHeap.get_without] at hg
     split at hg
     ·exact absurd rfl hg
     ·exact hg
    |some b1=>
     obtain⟨i,b0,h1,h2,_⟩:=AHeap.get_renamed hh
     have hLi:=hmem hnd h1
     obtain⟨hlt,h3|h3⟩:=hupAt i b0 hLi
     ·obtain⟨_,x,_,h5,h6⟩:=h3
      rw[←h2,h5];exact h6
     ·obtain⟨h4,h5⟩:=h3
      rw[←h2,h5] at hj
      simp only at hj;omega
variable {P:Program}
def PFn(P:Program)(f:FuncId)(args:List AVal)(R:AVal):Prop:=R.nid=true∧∃m,ACalls P f args [] 0 (kg m R [])
theorem Inv.give{I:Nat→Nat→Prop}{β:Id→Option CLoc}{n:Nat}{H:AHeap}{w:World}{F:Id→Bool}(hI:Inv I β n H w):Inv (z3b I β F H w) (fun _=>none) 0 [] w:=
 { blocks:=fun id blk h=>by simp[AHeap.get] at h
   inj:=fun i j c d b k h=>by simp at h
   own:=fun i c b k h=>by simp at h
   imm:=fun b k h=>by
    rcases h with h|⟨_,h⟩
    ·exact hI.imm b k h
    ·exact h
   fresh:=fun id _=>rfl
   glob:=hI.glob.mono (fun _ _ h=>.inl h) (fun _ _ _=>rfl) (SameSz.refl _) }
theorem zib{I:Nat→Nat→Prop}{β:Id→Option CLoc}{n:Nat}{H:AHeap}{w:World}{F:Id→Bool}(hI:Inv I β n H w){x y:AVal}(h:Vw F H (fun _=>none) 0 x y){v:Value}(hr:Rep I β n w x v):Rep (z3b I β F H w) (fun _=>none) 0 w y v:=by
 have hρ:RhoOk 0 0 F H (fun _=>none):=⟨fun i j k h=>(by cases h),fun i k h=>(by cases h),fun i h=>absurd h (Nat.not_lt_zero _),fun i k _ h=>(by cases h),Nat.le_refl _⟩
 have:=z00 (n:=0) (L:=[]) hI hρ h hr
 have e:z42 β F (fun _=>none) 0 0 []=fun _=>none:=by
  funext id
  simp[z42,AHeap.get]
 rw[e] at this
 exact this
theorem PFn.use{f:FuncId}{args args0:List AVal}{R:AVal}(h:PFn P f args0 R){F:Id→Bool}{H:AHeap}{n:Nat}{K:AVal→AHeap→Nat→Prop}(ha:ArgsTo F H (fun _=>none) 0 args args0)(hF:∀x,F x=true→H.get x≠none)
 (hk:K R (AHeap.without F H) n):ACalls P f args H n K:=by
 obtain⟨hR,m,h⟩:=h
 refine⟨h.1,fun I β w vs hI hl hr=>?_⟩
 obtain⟨ha1,ha2⟩:=ha.get
 refine(h.2 _ _ w vs (hI.give (F:=F)) (by rw[hl,ha1]) (fun i y v hy hv=>?_)).mono ?_
 ·have hlt:i<args.length:=by rw[ha1];exact J9 hy
  exact zib hI (ha2 i args[i] y (List.getElem?_eq_getElem hlt) hy) (hr i _ v (List.getElem?_eq_getElem hlt) hv)
 ·rintro ee w' ⟨r,v,H1,n1,I',β',he,⟨rfl,rfl,rfl⟩,hI',hr',hx⟩
  have hcell:∀b q u,w.cell? ⟨b,q,none⟩=some u→w'.cell? ⟨b,q,none⟩=some u:=fun b q u hu=>hx.cells b q u hu (fun i c hi=>by cases hi)
  have himm:∀b q,I b q→I' b q:=fun b q hb=>hx.imm b q (.inl hb)
  have hcI:∀b q,I b q→w'.cell? ⟨b,q,none⟩=w.cell? ⟨b,q,none⟩:=fun b q hb=>by
   obtain⟨u,hu⟩:=hI.imm b q hb
   rw[hu];exact hcell b q u hu
  let β3:Id→Option CLoc:=fun j=>if F j then none else β j
  have b3:∀ {j c},β3 j=some c→F j=false∧β j=some c:=by
   intro j c hj
   simp only[β3] at hj
   split at hj
   ·cases hj
   ·rename_i hF';exact⟨by simpa using hF',hj⟩
  refine⟨_,v,_,_,I',β3,he,hk,?_,Jp (fun _ _ h=>h) _ hR hr',?_⟩
  ·refine⟨fun id blk hb=>?_,fun i j c d b q hi hj hc hd=>hI.inj i j c d b q (b3 hi).2 (b3 hj).2 hc hd,fun i c b q hi hc=>?_,hI'.imm,fun id hid=>?_,hI'.glob⟩
   ·rw[AHeap.get_without] at hb
    split at hb<;>try (cases hb;done)
    rename_i hFid
    obtain⟨c,hc,hB⟩:=hI.blocks id blk hb
    refine⟨c,by simp only[β3];rw[if_neg hFid];exact hc,hB.mono' himm hcI (Nat.le_refl n) (fun id d _ hd=>(b3 hd).2) (fun arr el fr hh=>by
     obtain⟨arr',fr',k1,k2,k3⟩:=hx.shape _ arr el fr hh
     refine⟨arr',fr',k1,k2,k3.imp (fun h=>h) fun g k hk=>?_⟩
     obtain⟨i,d,e1,_⟩:=g k hk
     cases e1) (fun b q u _ hu=>hcell b q u hu) (fun es ck _ hm=>hx.maps _ es ck hm (fun i c hi=>by cases hi))⟩
   ·obtain⟨hFi,hi⟩:=b3 hi
    obtain⟨g1,g2⟩:=hI.own i c b q hi hc
    refine⟨fun hbq=>?_,Nat.lt_of_lt_of_le g2 hx.size⟩
    by_cases hin:z3b I β F H w b q
    ·rcases hin with h|⟨⟨id,d,e1,e2,e3,e4⟩,_⟩
     ·exact g1 h
     ·have:=hI.inj id i d c b q e2 hi e4 hc
      subst this
      rw[e1] at hFi;cases hFi
    ·obtain⟨i0,c0,e1,_⟩:=hx.immNew b q hbq hin g2
     cases e1
   ·simp only[β3]
    split
    ·rfl
    ·exact hI.fresh id hid
  ·refine⟨hx.os,hx.tape,hx.output,hx.size,fun b hb _=>hx.frame b hb (fun i c q hi=>by cases hi),fun b q u hu _=>hcell b q u hu,fun b arr el fr hb=>(by
    obtain⟨arr',fr',k1,k2,k3⟩:=hx.shape b arr el fr hb
    refine⟨arr',fr',k1,k2,k3.imp (fun h=>h) fun g k hk=>?_⟩
    obtain⟨i,d,e1,_⟩:=g k hk
    cases e1),fun b es ck hm _=>hx.maps b es ck hm (fun i c hi=>by cases hi),himm,fun b q hb hnb hlt=>?_,fun j hj=>?_,fun j c b q hj hc hq=>?_,fun j hj hg=>?_,Nat.le_refl n⟩
   ·by_cases hin:z3b I β F H w b q
    ·rcases hin with h|⟨⟨id,d,e1,e2,e3,e4⟩,_⟩
     ·exact absurd h hnb
     ·exact⟨id,d,e2,e4,e3⟩
    ·obtain⟨i0,c0,e1,_⟩:=hx.immNew b q hb hin hlt
     cases e1
   ·simp only[β3]
    split
    ·rename_i hFj;exact .inr ⟨rfl,hF j hFj⟩
    ·exact .inl rfl
   ·have:=(b3 hc).2
    rw[hI.fresh j hj] at this
    cases this
   ·rw[AHeap.get_without] at hg
    split at hg
    ·exact absurd rfl hg
    ·exact hg
def AVal.flat:AVal→Bool
 |.bool _|.int _ _|.str _|.val _=>true
 |.tup cs=>flatL cs
 |.agg cs=>flatL cs
 |_=>false
where flatL:List AVal→Bool
 |[]=>true
 |x::r=>x.flat&&flatL r
mutual
theorem zer{I I2:Nat→Nat→Prop}{β β2:Id→Option CLoc}{n n2:Nat}{w w2:World}:∀ (x:AVal),x.flat=true→∀ {v:Value},Rep I β n w x v→Rep I2 β2 n2 w2 x v
 |.bool b,_,v,hr=>by rw[hr.bool_inv];exact .imm _ _ (.bool b)
 |.int k m,_,v,hr=>by rw[hr.int_inv];exact .imm _ _ (.int k m)
 |.str l,_,v,hr=>by rw[hr.str_inv];exact .imm _ _ (.str l)
 |.val u,_,v,hr=>by
  cases hr with
  |imm _ _ h=>cases h with|val _ h=>exact .imm _ _ (.val u h)
 |.tup cs,hn,v,hr=>by
  have:∃vs,v=.tuple vs∧vs.size=cs.length∧∀ (i:Nat) (y:AVal) (u:Value),cs[i]?=some y→vs[i]?=some u→Rep I β n w y u:=by
   cases hr with
   |tup _ vs h1 h2=>exact⟨vs,rfl,h1,h2⟩
   |imm _ _ hx=>
    cases hx with
    |tup _ vs h1 h2=>exact⟨vs,rfl,h1,fun i y u hy hu=>.imm _ _ (h2 i y u hy hu)⟩
  obtain⟨vs,rfl,h1,h3⟩:=this
  exact .tup cs vs h1 (fun i x v hx hv=>z2k cs hn x (List.mem_of_getElem? hx) (h3 i x v hx hv))
 |.agg cs,hn,v,hr=>by
  obtain⟨vs,rfl,h1,h2,h3⟩:=hr.agg_inv
  exact .agg cs vs h1 h2 (fun i x v hx hv=>z2k cs hn x (List.mem_of_getElem? hx) (h3 i x v hx hv))
theorem z2k{I I2:Nat→Nat→Prop}{β β2:Id→Option CLoc}{n n2:Nat}{w w2:World}:∀ (cs:List AVal),AVal.flat.flatL cs=true→∀x∈cs,∀ {v:Value},Rep I β n w x v→Rep I2 β2 n2 w2 x v
 |[],_,x,hx,v,hr=>by cases hx
 |y::r,hn,x,hx,v,hr=>by
  simp only[AVal.flat.flatL,Bool.and_eq_true] at hn
  rcases List.mem_cons.1 hx with e|hx
  ·rw[e] at hr ⊢;exact zer y hn.1 hr
  ·exact z2k r hn.2 x hx hr
end
theorem PFn.read{f:FuncId}{args args0:List AVal}{R:AVal}(h:PFn P f args0 R)(hR:R.flat=true)(B:Id→Bool){H:AHeap}{n:Nat}{K:AVal→AHeap→Nat→Prop}(ha:ArgsTo B H (fun _=>none) 0 args args0)(hk:K R H n):ACalls P f args H n K:=by
 obtain⟨_,m,h⟩:=h
 refine⟨h.1,fun I β w vs hI hl hr=>?_⟩
 obtain⟨ha1,ha2⟩:=ha.get
 refine(h.2 _ _ w vs (hI.give (F:=B)) (by rw[hl,ha1]) (fun i y v hy hv=>?_)).mono ?_
 ·have hlt:i<args.length:=by rw[ha1];exact J9 hy
  exact zib hI (ha2 i args[i] y (List.getElem?_eq_getElem hlt) hy) (hr i _ v (List.getElem?_eq_getElem hlt) hv)
 ·rintro ee w' ⟨r,v,H1,n1,I',β',he,⟨rfl,rfl,rfl⟩,hI',hr',hx⟩
  have hcell:∀b q u,w.cell? ⟨b,q,none⟩=some u→w'.cell? ⟨b,q,none⟩=some u:=fun b q u hu=>hx.cells b q u hu (fun i c hi=>by cases hi)
  have hcI:∀b q,I b q→w'.cell? ⟨b,q,none⟩=w.cell? ⟨b,q,none⟩:=fun b q hb=>by
   obtain⟨u,hu⟩:=hI.imm b q hb
   rw[hu];exact hcell b q u hu
  refine⟨r,v,H,n,I,β,he,hk,?_,zer r hR hr',?_⟩
  ·refine⟨fun id blk hb=>?_,hI.inj,fun i c b q hi hc=>⟨(hI.own i c b q hi hc).1,Nat.lt_of_lt_of_le (hI.own i c b q hi hc).2 hx.size⟩,fun b q hb=>by rw[hcI b q hb];exact hI.imm b q hb,hI.fresh,hI.glob.mono (fun _ _ h=>h) hcI (fun b arr el fr h=>by obtain⟨arr',fr',k1,k2,_⟩:=hx.shape b arr el fr h;exact⟨arr',fr',k1,k2⟩)⟩
   obtain⟨c,hc,hB⟩:=hI.blocks id blk hb
   exact⟨c,hc,hB.mono' (fun _ _ h=>h) hcI (Nat.le_refl n) (fun _ _ _ h=>h) (fun arr el fr hh=>by
    obtain⟨arr',fr',k1,k2,k3⟩:=hx.shape _ arr el fr hh
    refine⟨arr',fr',k1,k2,k3.imp (fun h=>h) fun g k hk=>?_⟩
    obtain⟨i,d,e1,_⟩:=g k hk
    cases e1) (fun b q u _ hu=>hcell b q u hu) (fun es ck _ hm=>hx.maps _ es ck hm (fun i c hi=>by cases hi))⟩
  ·exact⟨hx.os,hx.tape,hx.output,hx.size,fun b hb _=>hx.frame b hb (fun i c q hi=>by cases hi),fun b q u hu _=>hcell b q u hu,fun b arr el fr hb=>(by
    obtain⟨arr',fr',k1,k2,k3⟩:=hx.shape b arr el fr hb
    refine⟨arr',fr',k1,k2,k3.imp (fun h=>h) fun g k hk=>?_⟩
    obtain⟨i,d,e1,_⟩:=g k hk
    cases e1),fun b es ck hm _=>hx.maps b es ck hm (fun i c hi=>by cases hi),fun _ _ h=>h,fun b q h h'=>absurd h h',fun j _=>.inl rfl,fun j c b q hj hc=>(by rw[hI.fresh j hj] at hc;cases hc),fun j _ h=>h,Nat.le_refl n⟩
def jo(R:AVal):AVal→AHeap→Nat→Prop:=fun r H' _=>R.nid=true∧Vw (fun _=>true) H' (fun _=>none) 0 r R
theorem PFn.ofFnW{f:FuncId}{bm:List Nat}{L:LFn}(hL:wb P bm f=some L)(hok:uk P f){args:List AVal}(hlen:args.length≤L.lay.n){R:AVal}(hR:R.nid=true)
 (h:LWp P L.lay 0 L.body (Zz L.res (jo R)) (ye 0 args) [] 0):PFn P f args R:=by
 refine⟨hR,0,ACalls.fin ((ACalls.ofFnW hL hok hlen h).mono ?_)⟩
 rintro r H' n' ⟨_,hv⟩
 exact⟨fun _=>true,fun _=>none,⟨fun i j k h=>(by cases h),fun i k h=>(by cases h),fun i h=>absurd h (Nat.not_lt_zero _),fun i k _ h=>(by cases h),Nat.le_refl _⟩,hv,fun _ _ h=>by simp[AHeap.get] at h⟩
end Go.Fx
