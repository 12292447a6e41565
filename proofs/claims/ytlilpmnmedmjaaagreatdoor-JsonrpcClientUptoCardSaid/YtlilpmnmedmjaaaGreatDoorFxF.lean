/-
  Own framework.
-/
import Derived.Test.YtlilpmnmedmjaaaGreatDoorFxE
namespace Go.Fx
set_option linter.unusedVariables false
variable {P:Program}
theorem AHeap.get_cons_same(H:AHeap)(k:Id)(b:ABlock):AHeap.get ((k,b)::H) k=some b:=by simp[AHeap.get]
theorem AHeap.get_cons_other(H:AHeap){k t:Id}(b:ABlock)(h:k≠t):AHeap.get ((k,b)::H) t=H.get t:=by simp[AHeap.get,h]
theorem AHeap.get_set(H:AHeap)(k t:Id)(b:ABlock):(H.set k b).get t=if k=t then(H.get t).map (fun _=>b) else H.get t:=by
 induction H with
 |nil=>simp[AHeap.set,AHeap.get]
 |cons x H ih=>
  obtain⟨j,c⟩:=x
  unfold AHeap.set
  by_cases hjk:j=k
  ·subst hjk
   by_cases hjt:j=t<;>simp[AHeap.get,hjt]
  ·rw[if_neg hjk]
   by_cases hjt:j=t
   ·subst hjt
    have:¬k=j:=fun h=>hjk h.symm
    simp[AHeap.get,this]
   ·simp only[AHeap.get,if_neg hjt];exact ih
theorem AHeap.get_del(H:AHeap)(k t:Id):(H.del k).get t=if k=t then none else H.get t:=by
 induction H with
 |nil=>simp[AHeap.del,AHeap.get]
 |cons x H ih=>
  obtain⟨j,c⟩:=x
  unfold AHeap.del
  by_cases hjk:j=k
  ·subst hjk
   rw[if_pos rfl,ih]
   by_cases hjt:j=t
   ·rw[if_pos hjt,if_pos hjt]
   ·rw[if_neg hjt,if_neg hjt];simp[AHeap.get,hjt]
  ·rw[if_neg hjk]
   by_cases hjt:j=t
   ·subst hjt
    have:¬k=j:=fun h=>hjk h.symm
    simp[AHeap.get,this]
   ·simp only[AHeap.get,if_neg hjt];exact ih
def upd(β:Id→Option CLoc)(k:Id)(c:Option CLoc):Id→Option CLoc:=fun i=>if i=k then c else β i
theorem xz(β:Id→Option CLoc)(k:Id)(c:Option CLoc):upd β k c k=c:=by simp[upd]
theorem zz(β:Id→Option CLoc){k i:Id}(c:Option CLoc)(h:i≠k):upd β k c i=β i:=by simp[upd,h]
structure Chg(w w':World)(Wr:Nat→Nat→Prop):Prop where
 os:w'.os=w.os
 tape:TapeOk w w'
 output:w'.output=w.output
 size:w.heap.size≤w'.heap.size
 block:∀b,b<w.heap.size→(∀k,¬Wr b k)→w'.heap[b]?=w.heap[b]?
 cell:∀b k,b<w.heap.size→¬Wr b k→w'.cell? ⟨b,k,none⟩=w.cell? ⟨b,k,none⟩
 shape:∀ (b:Nat) (arr:Array Value) (el:TypeId) (fr:Nat×Nat),w.heap[b]?=some (.cells arr el fr)→∃arr',w'.heap[b]?=some (.cells arr' el fr)∧arr'.size=arr.size
 maps:∀ (b:Nat) (o:Obj) (ho:zfv o=true),w.heap[b]?=some o→¬Wr b 0→w'.heap[b]?=some o
theorem Chg.refl(w:World)(Wr:Nat→Nat→Prop):Chg w w Wr:=⟨rfl,⟨rfl,fun _=>Nat.le_refl _⟩,rfl,Nat.le_refl _,fun _ _ _=>rfl,fun _ _ _ _=>rfl,fun _ arr _ _ h=>⟨arr,h,rfl⟩,fun _ _ _ h _=>h⟩
theorem Chg.trans{w w' w'':World}{Wr:Nat→Nat→Prop}(a:Chg w w' Wr)(b:Chg w' w'' Wr):Chg w w'' Wr:=by
 refine⟨b.os.trans a.os,b.tape.trans a.tape,b.output.trans a.output,Nat.le_trans a.size b.size,fun x hx hn=>(b.block x (Nat.lt_of_lt_of_le hx a.size) hn).trans (a.block x hx hn),fun x k hx hn=>(b.cell x k (Nat.lt_of_lt_of_le hx a.size) hn).trans (a.cell x k hx hn),fun x arr el fr h=>?_,fun x es ck h hn=>b.maps x es ck (a.maps x es ck h hn) hn⟩
 obtain⟨arr',h1,h2⟩:=a.shape x arr el fr h
 obtain⟨arr'',h3,h4⟩:=b.shape x arr' el fr h1
 exact⟨arr'',h3,h4.trans h2⟩
theorem Chg.mono{w w':World}{Wr Wr':Nat→Nat→Prop}(a:Chg w w' Wr)(h:∀b k,Wr b k→Wr' b k):Chg w w' Wr':=
 ⟨a.os,a.tape,a.output,a.size,fun b hb hn=>a.block b hb fun k hk=>hn k (h b k hk),fun b k hb hn=>a.cell b k hb fun hk=>hn (h b k hk),a.shape,fun b es ck hb hn=>a.maps b es ck hb fun hk=>hn (h b 0 hk)⟩
theorem Chg.frozen{w w':World}{Wr:Nat→Nat→Prop}(a:Chg w w' Wr){b k:Nat}{v:Value}(h:w.cell? ⟨b,k,none⟩=some v):w'.frozen? ⟨b,k,none⟩=w.frozen? ⟨b,k,none⟩:=by
 unfold World.cell? at h
 split at h<;>try (cases h;done)
 rename_i arr el fr hb
 obtain⟨arr',h1,_⟩:=a.shape b arr el fr hb
 unfold World.frozen?
 simp only[h1,hb]
section
variable {I I':Nat→Nat→Prop} {β β':Id→Option CLoc} {n n':Nat} {H H':AHeap} {w w':World}
theorem Z9{b k:Nat}{arr arr':Array Value}{el:TypeId}{fr:Nat×Nat}(h:w.heap[b]?=some (.cells arr el fr))(h':w'.heap[b]?=some (.cells arr' el fr)):w'.frozen? ⟨b,k,none⟩=w.frozen? ⟨b,k,none⟩:=by
 unfold World.frozen?
 simp only[h,h']
theorem RepB.monoR(hI:∀b k,I b k→I' b k)(hw:∀b k,I b k→w'.cell? ⟨b,k,none⟩=w.cell? ⟨b,k,none⟩)(hn:n≤n')(hβ:∀ (id:Id) c,id.1<n→β' id=some c→β id=some c){c:CLoc}{s:Nat}{es:List (List AVal)}
 (hs:∀ (arr:Array Value) (el:TypeId) (fr:Nat×Nat),w.heap[c.blk]?=some (.cells arr el fr)→∃arr' fr',w'.heap[c.blk]?=some (.cells arr' el fr')∧arr'.size=arr.size∧(fr'=fr∨∀k,k<arr.size→¬c.has c.blk k))
 (hc:∀b k v,c.has b k→w.cell? ⟨b,k,none⟩=some v→w'.cell? ⟨b,k,none⟩=some v) (h:RepB I β n w c (.rows s es)):RepB I' β' n' w' c (.rows s es):=by
 obtain⟨h1,hA,h3,h4,h5,h6,h7⟩:=h
 rcases hA with⟨arr,el,fr,h2,h2',h2''⟩|hz
 rotate_left
 ·obtain⟨z1,z2,rfl⟩:=hz
  exact⟨h1,.inr ⟨z1,z2,rfl⟩,fun k hk hk'=>by omega,h4,h5,h6,fun i r j x hi _=>by simp at hi⟩
 obtain⟨arr',fr',k1,k2,k3⟩:=hs arr el fr h2
 refine⟨h1,.inl ⟨arr',el,fr',k1,by omega,fun hlt=>⟨(h2'' hlt).1,(h2'' hlt).2.1.trans k2.symm,by
  rcases k3 with k3|k3
  ·subst k3;exact(h2'' hlt).2.2.of rfl k2
  ·exact absurd (show c.has c.blk c.lo from⟨rfl,Nat.le_refl _,hlt⟩) (k3 c.lo (by have:=(h2'' hlt).2.1;omega))⟩⟩,fun k hk hk'=>?_,h4,h5,h6,fun i r j x hi hj=>?_⟩
 ·rcases k3 with rfl|k3
  ·rw[Z9 h2 k1];exact h3 k hk hk'
  ·exact absurd ⟨rfl,hk,hk'⟩ (k3 k (by omega))
 obtain⟨v,g1,g2,g3⟩:=h7 i r j x hi hj
 refine⟨v,hc _ _ _ ⟨rfl,by omega,?_⟩ g1,g2,g3.mono' hI hw hn hβ⟩
 have hi':i<es.length:=by
  rcases Nat.lt_or_ge i es.length with h|h
  ·exact h
  ·rw[List.getElem?_eq_none h] at hi;cases hi
 have hj':j<r.length:=by
  rcases Nat.lt_or_ge j r.length with h|h
  ·exact h
  ·rw[List.getElem?_eq_none h] at hj;cases hj
 have hr:=h6 i r hi
 have:(i+1)*s≤es.length*s:=Nat.mul_le_mul_right _ hi'
 rw[Nat.add_mul] at this
 omega
theorem RepB.mono'(hI:∀b k,I b k→I' b k)(hw:∀b k,I b k→w'.cell? ⟨b,k,none⟩=w.cell? ⟨b,k,none⟩)(hn:n≤n')(hβ:∀ (id:Id) c,id.1<n→β' id=some c→β id=some c){c:CLoc}{blk:ABlock}
 (hs:∀ (arr:Array Value) (el:TypeId) (fr:Nat×Nat),w.heap[c.blk]?=some (.cells arr el fr)→∃arr' fr',w'.heap[c.blk]?=some (.cells arr' el fr')∧arr'.size=arr.size∧(fr'=fr∨∀k,k<arr.size→¬c.has c.blk k))
 (hc:∀b k v,c.has b k→w.cell? ⟨b,k,none⟩=some v→w'.cell? ⟨b,k,none⟩=some v) (hm:∀ (o:Obj) (ho:zfv o=true),c.has c.blk 0→w.heap[c.blk]?=some o→w'.heap[c.blk]?=some o) (h:RepB I β n w c blk):RepB I' β' n' w' c blk:=by
 cases blk with
 |amap es=>
  obtain⟨h1,h2,arr,ck,h3,h4⟩:=h
  exact⟨h1,h2,arr,ck,hm _ rfl ⟨rfl,by omega,h2⟩ h3,h4.len,fun i k x e hi he=>⟨(h4.ent i k x e hi he).1.mono hI hw,(h4.ent i k x e hi he).2.mono' hI hw hn hβ⟩,h4.born,h4.clk⟩
 |lrec l r e=>
  obtain⟨h1,h2,h3,h4,h5⟩:=h
  exact⟨h1,h2,h3,hm _ rfl ⟨rfl,by omega,h2⟩ h4,fun t=>(h5 t).mono' hI hw hn hβ⟩
 |rmap es arr ck=>
  obtain⟨h1,h2,h3,h4⟩:=h
  exact⟨h1,h2,hm _ rfl ⟨rfl,by omega,h2⟩ h3,h4.len,fun i k x e hi he=>⟨(h4.ent i k x e hi he).1.mono hI hw,(h4.ent i k x e hi he).2.mono' hI hw hn hβ⟩,h4.born,h4.clk⟩
 |itr m arr ck seen=>
  obtain⟨h1,h2,h0,k,h3,h4⟩:=h
  have:=h4.mono (g:=id) (fun id h _=>Nat.lt_of_lt_of_le h hn) (fun id c h _ hc=>hβ id c h hc)
  exact⟨h1,h2,h0,k,hm _ rfl ⟨rfl,by omega,h2⟩ h3,by simpa using this⟩
 |mbox b=>
  obtain⟨h1,h2,h0,k,h3,h4⟩:=h
  have:=h4.mono (g:=id) (fun id h _=>Nat.lt_of_lt_of_le h hn) (fun id c h _ hc=>hβ id c h hc)
  exact⟨h1,h2,h0,k,hc _ _ _ ⟨rfl,by omega,h2⟩ h3,by simpa using this⟩
 |tok=>
  intro k h1 h2
  obtain⟨⟨v,g1⟩,g2⟩:=h k h1 h2
  refine⟨⟨v,hc _ _ _ ⟨rfl,h1,h2⟩ g1⟩,?_⟩
  have g1':=g1
  unfold World.cell? at g1'
  split at g1'<;>try (cases g1';done)
  rename_i arr el fr hb
  obtain⟨arr',fr',k1,_,k3⟩:=hs arr el fr hb
  rcases k3 with rfl|k3
  ·rw[Z9 hb k1];exact g2
  ·refine absurd ⟨rfl,h1,h2⟩ (k3 k ?_)
   rcases Nat.lt_or_ge k arr.size with h|h
   ·exact h
   ·simp only[Option.isSome_none,Bool.false_eq_true,if_false] at g1'
    first|(rw[Array.getElem?_eq_none h] at g1';cases g1')|(simp[Array.getElem?_eq_none h] at g1')
 |one cs=>exact u0.2 (RepB.monoR hI hw hn hβ hs hc (u0.1 h))
 |rows s es=>exact RepB.monoR hI hw hn hβ hs hc h
 |bld T g=>
  obtain⟨h1,h2,h3,h4,p,v,h5,h6,h7⟩:=h
  obtain⟨arr',fr',k1,k2,k3⟩:=hs _ _ _ h5
  have hfr:fr'=(0,0):=by
   rcases k3 with rfl|k3
   ·rfl
   ·exact absurd ⟨rfl,by omega,by omega⟩ (k3 0 (by simp))
  subst hfr
  have c0:=hc c.blk 0 p ⟨rfl,by omega,by omega⟩ (by unfold World.cell?;simp[h5])
  have c1:=hc c.blk 1 v ⟨rfl,by omega,by omega⟩ (by unfold World.cell?;simp[h5])
  unfold World.cell? at c0 c1
  simp only[k1] at c0 c1
  have harr:arr'=#[p,v]:=by
   have hsz:arr'.size=2:=by simpa using k2
   refine Array.ext (by simpa using hsz) fun i q1 q2=>?_
   match i,q1,q2 with
   |0,q1,q2=>
    have:arr'[0]?=some p:=by simpa using c0
    rw[Array.getElem?_eq_getElem q1] at this
    simpa using this
   |1,q1,q2=>
    have:arr'[1]?=some v:=by simpa using c1
    rw[Array.getElem?_eq_getElem q1] at this
    simpa using this
   |i+2,q1,q2=>omega
  subst harr
  exact⟨h1,h2,h3,by omega,p,v,k1,h6,fun d hd=>h7 d (hβ g d h4 hd)⟩
 |buf e bs=>
  obtain⟨h1,hs0,h2|⟨h2,arr,fr,h3,h4,h5,h6,h7⟩⟩:=h
  ·exact⟨h1,hs0,.inl h2⟩
  ·obtain⟨arr',fr',k1,k2,k3⟩:=hs _ _ _ h3
   have hfr:fr'=fr:=by
    rcases k3 with rfl|k3
    ·rfl
    ·exact absurd ⟨rfl,by omega,by omega⟩ (k3 0 (by omega))
   subst hfr
   refine⟨h1,hs0,.inr ⟨h2,arr',fr',k1,by omega,by omega,h6,fun i x hi=>?_⟩⟩
   have hlt:i<bs.length:=by
    rcases Nat.lt_or_ge i bs.length with h|h
    ·exact h
    ·rw[List.getElem?_eq_none h] at hi;cases hi
   have c0:=hc c.blk i _ ⟨rfl,by omega,by omega⟩ (by unfold World.cell?;simp only[h3];simpa using h7 i x hi)
   unfold World.cell? at c0
   simp only[k1] at c0
   simpa using c0
theorem kw{Wr:Nat→Nat→Prop}(hI:Inv I β n H w)(hC:Chg w w' Wr)(hn:n≤n')
 (hW:∀b k,Wr b k→∃id c,β id=some c∧H.get id≠none∧c.has b k)
 (hImm:∀b k,I b k→I' b k)
 (hImmN:∀b k,I' b k→¬I b k→(∃v,w'.cell? ⟨b,k,none⟩=some v)∧(w.heap.size≤b∨∃id c,β id=some c∧H.get id≠none∧c.has b k))
 (hOld:∀id:Id,id.1<n→β' id=β id∨(β' id=none∧H.get id≠none))
 (hNew:∀ (id:Id) c b k,n≤id.1→β' id=some c→c.has b k→b<w'.heap.size∧(w.heap.size≤b∨∃i0 c0,β i0=some c0∧H.get i0≠none∧c0.has b k))
 (hFr:∀id:Id,n'≤id.1→β' id=none)
 (hInj:∀i j c d b k,β' i=some c→β' j=some d→c.has b k→d.has b k→n≤j.1→i=j)
 (hOwn:∀i c b k,β' i=some c→c.has b k→I' b k→I b k)
 (hDom:∀id:Id,id.1<n→H'.get id≠none→H.get id≠none)
 (hB:∀id blk,H'.get id=some blk→(H.get id=some blk∧β' id=β id∧∀c b k,β id=some c→c.has b k→¬Wr b k)∨(∃c,β' id=some c∧RepB I' β' n' w' c blk)) :
 Inv I' β' n' H' w'∧Ext I β n H w I' β' n' H' w':=by
 have hnoW:∀b k,I b k→¬Wr b k:=fun b k hb hw=>by
  obtain⟨id,c,h1,_,h3⟩:=hW b k hw
  exact(hI.own id c b k h1 h3).1 hb
 have hcI:∀b k,I b k→w'.cell? ⟨b,k,none⟩=w.cell? ⟨b,k,none⟩:=fun b k hb=>by
  obtain⟨v,hv⟩:=hI.imm b k hb
  exact hC.cell b k (uf hv) (hnoW b k hb)
 have hback:∀ (id:Id) c,id.1<n→β' id=some c→β id=some c:=fun id c hid h=>by
  rcases hOld id hid with g|⟨g,_⟩
  ·exact g▸h
  ·rw[g] at h;cases h
 constructor
 ·refine⟨fun id blk hid=>?_,fun i j c d b k hi hj hc hd=>?_,fun i c b k hi hc=>?_,fun b k hb=>?_,hFr,hI.glob.mono hImm hcI (fun b arr el fr h=>by obtain⟨arr',k1,k2⟩:=hC.shape b arr el fr h;exact⟨arr',fr,k1,k2⟩)⟩
  ·rcases hB id blk hid with⟨h1,h2,h3⟩|h
   ·obtain⟨c,hc,hR⟩:=hI.blocks id blk h1
    refine⟨c,h2.trans hc,hR.mono' hImm hcI hn hback (fun arr el fr h=>by obtain⟨arr',k1,k2⟩:=hC.shape _ arr el fr h;exact⟨arr',fr,k1,k2,.inl rfl⟩) ?_ ?_⟩
    ·intro b k v hbk hv
     rw[hC.cell b k (uf hv) (h3 c b k hc hbk)];exact hv
    ·exact fun es ck h0 hm=>hC.maps _ es ck hm (h3 c _ 0 hc h0)
   ·exact h
  ·by_cases hj':n≤j.1
   ·exact hInj i j c d b k hi hj hc hd hj'
   ·by_cases hi':n≤i.1
    ·exact(hInj j i d c b k hj hi hd hc hi').symm
    ·exact hI.inj i j c d b k (hback i c (by omega) hi) (hback j d (by omega) hj) hc hd
  ·have hnot:¬I b k∧b<w'.heap.size:=by
    by_cases hi':n≤i.1
    ·obtain⟨h1,h2⟩:=hNew i c b k hi' hi hc
     refine⟨fun h=>?_,h1⟩
     rcases h2 with h2|⟨i0,c0,h3,_,h5⟩
     ·obtain⟨v,hv⟩:=hI.imm b k h
      have:=uf hv
      omega
     ·exact(hI.own i0 c0 b k h3 h5).1 h
    ·have:=hI.own i c b k (hback i c (by omega) hi) hc
     exact⟨this.1,Nat.lt_of_lt_of_le this.2 hC.size⟩
   exact⟨fun h=>hnot.1 (hOwn i c b k hi hc h),hnot.2⟩
  ·by_cases h:I b k
   ·rw[hcI b k h];exact hI.imm b k h
   ·exact(hImmN b k hb h).1
 ·refine⟨hC.os,hC.tape,hC.output,hC.size,fun b hb hnn=>hC.block b hb fun k hk=>?_,fun b k v hv hnn=>?_,fun b arr el fr h=>by obtain⟨arr',k1,k2⟩:=hC.shape b arr el fr h;exact⟨arr',fr,k1,k2,.inl rfl⟩,fun b es ck hm hnn=>hC.maps b es ck hm fun hk=>?_,hImm,fun b k hb hnb hlt=>?_,hOld,fun id c b k hid hc hbk=>?_,hDom,hn⟩
  ·obtain⟨id,c,h1,h2,h3⟩:=hW b k hk
   exact hnn id c k h1 h2 h3
  ·rw[hC.cell b k (uf hv) (fun hk=>?_)]
   ·exact hv
   ·obtain⟨id,c,h1,h2,h3⟩:=hW b k hk
    exact hnn id c h1 h2 h3
  ·obtain⟨id,c,h1,h2,h3⟩:=hW b 0 hk
   exact hnn id c h1 h2 h3
  ·rcases(hImmN b k hb hnb).2 with h|⟨id,c,h1,h2,h3⟩
   ·omega
   ·exact⟨id,c,h1,h3,h2⟩
  ·rcases(hNew id c b k hid hc hbk).2 with h|⟨i0,c0,h1,h2,h3⟩
   ·exact .inl h
   ·exact .inr ⟨i0,c0,h1,h3,h2⟩
structure Pushed(w w':World)(o:Obj):Prop where
 os:w'.os=w.os
 tape:TapeOk w w'
 output:w'.output=w.output
 heap:w'.heap=w.heap.push o
theorem Pushed.old{o:Obj}(h:Pushed w w' o){b:Nat}(hb:b<w.heap.size):w'.heap[b]?=w.heap[b]?:=by
 rw[h.heap,Array.getElem?_push,if_neg (by omega)]
theorem Pushed.new{o:Obj}(h:Pushed w w' o):w'.heap[w.heap.size]?=some o:=by
 rw[h.heap,Array.getElem?_push,if_pos rfl]
def RowsIn(I:Nat→Nat→Prop)(β:Id→Option CLoc)(n:Nat)(w:World)(s base:Nat)(es:List (List AVal))(arr:Array Value):Prop:=
 base+es.length*s≤arr.size∧(∀ (i:Nat) (r:List AVal),es[i]?=some r→r.length=s) ∧
 ∀ (i:Nat) (r:List AVal) (j:Nat) (x:AVal),es[i]?=some r→r[j]?=some x→∃v,arr[base+i*s+j]?=some v∧xp v=true∧Rep I β n w x v
theorem zar(hI:Inv I β n H w){b:Id}{c:CLoc}(hc:β b=some c):b.1<n:=by
 rcases Nat.lt_or_ge b.1 n with h|h
 ·exact h
 ·rw[hI.fresh b h] at hc;cases hc
theorem Pushed.chg{o:Obj}(h:Pushed w w' o):Chg w w' (fun _ _=>False):=by
 refine⟨h.os,h.tape,h.output,by rw[h.heap];simp,fun b hb _=>h.old hb,fun b k hb _=>cell?_of_heap (h.old hb),fun b arr el fr hb=>⟨arr,?_,rfl⟩,fun b es ck hb _=>?_⟩
 rotate_left
 ·have hlt:b<w.heap.size:=by
   rcases Nat.lt_or_ge b w.heap.size with h|h
   ·exact h
   ·rw[Array.getElem?_eq_none h] at hb;cases hb
  rw[h.old hlt];exact hb
 have hlt:b<w.heap.size:=by
  rcases Nat.lt_or_ge b w.heap.size with h|h
  ·exact h
  ·rw[Array.getElem?_eq_none h] at hb;cases hb
 rw[h.old hlt];exact hb
theorem Pushed.cell{arr:Array Value}{el:TypeId}{fr:Nat×Nat}(h:Pushed w w' (.cells arr el fr))(k:Nat):w'.cell? ⟨w.heap.size,k,none⟩=arr[k]?:=by
 unfold World.cell?
 simp only[h.new];simp
theorem Pushed.unfrozen{arr:Array Value}{el:TypeId}{fr:Nat×Nat}(h:Pushed w w' (.cells arr el fr))(hfr:∀k,k<arr.size→(fr.1≤k&&k<fr.2)=false)(k:Nat)(hk:k<arr.size):w'.frozen? ⟨w.heap.size,k,none⟩=false:=by
 have:=hfr k hk
 unfold World.frozen?
 simp only[h.new]
 exact this
theorem Wj{b k:Nat}{i:Id}{c:CLoc}(hI:Inv I β n H w)(h:β i=some c)(hk:c.has b k)(hb:w.heap.size≤b):False:=by
 have:=(hI.own i c b k h hk).2;omega
theorem Z6{id:Id}{n m:Nat}(h:id.1<n):id≠(n,m):=fun h'=>by subst h';simp at h
theorem vq{id:Id}{c d:CLoc}(h:upd β (n,0) (some c) id=some d)(hf:∀id:Id,n≤id.1→β id=none):(id=(n,0)∧d=c)∨(id.1<n∧β id=some d):=by
 by_cases hid:id=(n,0)
 ·subst hid;rw[xz] at h;simp only[Option.some.injEq] at h;exact .inl ⟨rfl,h.symm⟩
 ·rw[zz _ _ hid] at h
  refine .inr ⟨?_,h⟩
  rcases Nat.lt_or_ge id.1 n with hl|hl
  ·exact hl
  ·rw[hf id hl] at h;cases h
theorem z5y(hI:Inv I β n H w){arr:Array Value}{el:TypeId}{fr:Nat×Nat}{s:Nat}{es:List (List AVal)}(hp:Pushed w w' (.cells arr el fr))(hfr:∀k,k<arr.size→(fr.1≤k&&k<fr.2)=false)(hfe:EndOk s arr fr)
 (hr:RowsIn I β n w s 0 es arr) :
 Inv I (upd β (n,0) (some ⟨w.heap.size,0,arr.size,0,s⟩)) (n+1) (((n,0),.rows s es)::H) w' ∧
 Ext I β n H w I (upd β (n,0) (some ⟨w.heap.size,0,arr.size,0,s⟩)) (n+1) (((n,0),.rows s es)::H) w':=by
 have hsz:w'.heap.size=w.heap.size+1:=by rw[hp.heap];simp
 obtain⟨hr1,hr2,hr3⟩:=hr
 have hcI:∀b k,I b k→w'.cell? ⟨b,k,none⟩=w.cell? ⟨b,k,none⟩:=fun b k hb=>by
  obtain⟨v,hv⟩:=hI.imm b k hb
  exact hp.chg.cell b k (uf hv) id
 refine kw hI hp.chg (Nat.le_succ n) (fun _ _ h=>h.elim) (fun _ _ h=>h) (fun _ _ h h'=>absurd h h') (fun id hid=>.inl (zz _ _ (Z6 hid))) ?_ ?_ ?_ (fun _ _ _ _ _ _ h=>h) ?_ ?_
 ·intro id c b k hid hc hk
  rcases vq hc hI.fresh with⟨_,rfl⟩|⟨h,_⟩
  ·have hb:w.heap.size=b:=hk.1
   exact⟨by omega,.inl (by omega)⟩
  ·omega
 ·intro id hid
  rw[zz _ _ (fun h=>by subst h;exact absurd hid (Nat.not_succ_le_self n))]
  exact hI.fresh id (by omega)
 ·intro i j c d b k hi hj hc hd hj'
  rcases vq hj hI.fresh with⟨rfl,rfl⟩|⟨h,_⟩
  ·rcases vq hi hI.fresh with⟨rfl,_⟩|⟨_,h⟩
   ·rfl
   ·exact(Wj hI h hc (by rw[←hd.1];exact Nat.le_refl _)).elim
  ·omega
 ·intro id hid hg
  rwa [AHeap.get_cons_other _ _ (Z6 hid).symm] at hg
 ·intro id blk hid
  by_cases h:(n,0)=id
  ·subst h
   rw[AHeap.get_cons_same] at hid
   simp only[Option.some.injEq] at hid
   subst hid
   refine .inr ⟨_,xz _ _ _,rfl,.inl ⟨arr,el,fr,hp.new,Nat.le_refl _,fun _=>⟨rfl,rfl,hfe⟩⟩,fun k _ hk=>hp.unfrozen hfr k hk,Nat.le_refl _,by simpa using hr1,hr2,?_⟩
   intro i r j x hi hj
   obtain⟨v,g1,g2,g3⟩:=hr3 i r j x hi hj
   refine⟨v,by rw[hp.cell];exact g1,g2,g3.mono' (fun _ _ h=>h) hcI (Nat.le_succ n) (fun id c hid h=>by rwa [zz _ _ (Z6 hid)] at h)⟩
  ·rw[AHeap.get_cons_other _ _ h] at hid
   have hne:id≠(n,0):=fun h'=>h h'.symm
   exact .inl ⟨hid,zz _ _ hne,fun _ _ _ _ _ h=>h⟩
def RowsInI(I:Nat→Nat→Prop)(w:World)(s base:Nat)(es:List (List AVal))(arr:Array Value):Prop:=
 base+es.length*s≤arr.size∧(∀ (i:Nat) (r:List AVal),es[i]?=some r→r.length=s) ∧
 ∀ (i:Nat) (r:List AVal) (j:Nat) (x:AVal),es[i]?=some r→r[j]?=some x→∃v,arr[base+i*s+j]?=some v∧xp v=true∧RepI I w x v
theorem zda{s:Nat}{es:List (List AVal)}(hl:∀ (i:Nat) (r:List AVal),es[i]?=some r→r.length=s){i j:Nat}{r:List AVal}{x:AVal}(hi:es[i]?=some r)(hj:r[j]?=some x):i*s+j<es.length*s:=by
 have hi':i<es.length:=by
  rcases Nat.lt_or_ge i es.length with h|h
  ·exact h
  ·rw[List.getElem?_eq_none h] at hi;cases hi
 have hj':j<r.length:=by
  rcases Nat.lt_or_ge j r.length with h|h
  ·exact h
  ·rw[List.getElem?_eq_none h] at hj;cases hj
 have hr:=hl i r hi
 have:(i+1)*s≤es.length*s:=Nat.mul_le_mul_right _ hi'
 rw[Nat.add_mul] at this
 omega
theorem z5a(hI:Inv I β n H w){arr:Array Value}{el:TypeId}{fr:Nat×Nat}{s:Nat}{es:List (List AVal)}(hp:Pushed w w' (.cells arr el fr))(hfr:∀k,k<arr.size→(fr.1≤k&&k<fr.2)=false)
 (hr:RowsInI I w s 0 es arr) (tk:Bool) {H2:AHeap} (h2:∀id blk,H2.get id=some blk→H.get id=some blk) :
 ∃I' β',Inv I' β' (if tk then n+1 else n) (if tk then((n,0),.tok)::H2 else H2) w'∧Ext I β n H w I' β' (if tk then n+1 else n) (if tk then((n,0),.tok)::H2 else H2) w' ∧
  (tk=true→β' (n,0)=some ⟨w.heap.size,es.length*s,arr.size,0,s⟩) ∧
  (∀cap f,es.length≤cap→(f=true→cap=es.length)→RepI I' w' (.isl s es f) (.slice (some ⟨w.heap.size,0,none⟩) es.length cap))∧(∀ {x v},RepI I w x v→RepI I' w' x v):=by
 have hsz:w'.heap.size=w.heap.size+1:=by rw[hp.heap];simp
 obtain⟨hr1,hr2,hr3⟩:=hr
 have hcI:∀b k,I b k→w'.cell? ⟨b,k,none⟩=w.cell? ⟨b,k,none⟩:=fun b k hb=>by
  obtain⟨v,hv⟩:=hI.imm b k hb
  exact hp.chg.cell b k (uf hv) id
 have hup:∀ {x v},RepI I w x v→RepI (fun b k=>I b k∨(b=w.heap.size∧k<es.length*s)) w' x v:=fun h=>h.mono (fun _ _ h=>.inl h) hcI
 have hR:∀cap f,es.length≤cap→(f=true→cap=es.length)→RepI (fun b k=>I b k∨(b=w.heap.size∧k<es.length*s)) w' (.isl s es f) (.slice (some ⟨w.heap.size,0,none⟩) es.length cap):=by
  intro cap f h1 h2
  refine .isl s es f w.heap.size 0 cap (fun i j=>(arr[0+i*s+j]?).getD undef) (fun i r j x hi hj=>.inr ⟨rfl,?_⟩) h1 h2 hr2 ?_ ?_ ?_
  ·have:=zda hr2 hi hj;omega
  ·intro i r j x hi hj
   obtain⟨v,g1,_,_⟩:=hr3 i r j x hi hj
   rw[hp.cell,g1];rfl
  ·intro i r j x hi hj
   obtain⟨v,g1,g2,_⟩:=hr3 i r j x hi hj
   rw[g1];exact g2
  ·intro i r j x hi hj
   obtain⟨v,g1,_,g3⟩:=hr3 i r j x hi hj
   rw[g1];exact hup g3
 have himmN:∀b k,(I b k∨(b=w.heap.size∧k<es.length*s))→¬I b k→(∃v,w'.cell? ⟨b,k,none⟩=some v)∧(w.heap.size≤b∨∃id c,β id=some c∧H.get id≠none∧c.has b k):=by
  rintro b k (h|⟨rfl,hk⟩) hn
  ·exact absurd h hn
  ·refine⟨?_,.inl (Nat.le_refl _)⟩
   rw[hp.cell]
   have:k<arr.size:=by omega
   exact⟨arr[k],Array.getElem?_eq_getElem this⟩
 cases tk with
 |false=>
  refine⟨fun b k=>I b k∨(b=w.heap.size∧k<es.length*s),β,?_⟩
  simp only[Bool.false_eq_true,if_false]
  have hg:=kw (H':=H2) hI hp.chg (Nat.le_refl n) (fun _ _ h=>h.elim) (fun _ _ h=>.inl h) himmN (fun id _=>.inl rfl)
   (fun id c b k hid hc _=>by rw[hI.fresh id hid] at hc;cases hc) (fun id hid=>hI.fresh id hid) (fun i j c d b k hi hj _ _ hj'=>by rw[hI.fresh j hj'] at hj;cases hj)
   (fun i c b k hi hc h=>by
    rcases h with h|⟨rfl,_⟩
    ·exact h
    ·exact(Wj hI hi hc (Nat.le_refl _)).elim) (fun id _ hg h=>hg (by
    cases hh:H2.get id with
    |none=>rfl
    |some b=>rw[h2 id b hh] at h;cases h)) (fun id blk hid=>.inl ⟨h2 id blk hid,rfl,fun _ _ _ _ _ h=>h⟩)
  exact⟨hg.1,hg.2,fun h=>h.elim,hR,hup⟩
 |true=>
  refine⟨fun b k=>I b k∨(b=w.heap.size∧k<es.length*s),upd β (n,0) (some ⟨w.heap.size,es.length*s,arr.size,0,s⟩),?_⟩
  simp only[if_true]
  have hg:=kw (β':=upd β (n,0) (some ⟨w.heap.size,es.length*s,arr.size,0,s⟩)) (H':=((n,0),.tok)::H2) hI hp.chg (Nat.le_succ n) (fun _ _ h=>h.elim) (fun _ _ h=>.inl h) himmN (fun id hid=>.inl (zz _ _ (Z6 hid)))
   (fun id c b k hid hc hk=>by
    rcases vq hc hI.fresh with⟨_,rfl⟩|⟨h,_⟩
    ·have hb:w.heap.size=b:=hk.1
     exact⟨by omega,.inl (by omega)⟩
    ·omega)
   (fun id hid=>by rw[zz _ _ (fun h=>by subst h;exact absurd hid (Nat.not_succ_le_self n))];exact hI.fresh id (by omega))
   (fun i j c d b k hi hj hc hd hj'=>by
    rcases vq hj hI.fresh with⟨rfl,rfl⟩|⟨h,_⟩
    ·rcases vq hi hI.fresh with⟨rfl,_⟩|⟨_,h⟩
     ·rfl
     ·exact(Wj hI h hc (by rw[←hd.1];exact Nat.le_refl _)).elim
    ·omega)
   (fun i c b k hi hc h=>by
    rcases h with h|⟨rfl,hk⟩
    ·exact h
    ·rcases vq hi hI.fresh with⟨_,rfl⟩|⟨_,h⟩
     ·have h1:es.length*s≤k:=hc.2.1
      omega
     ·exact(Wj hI h hc (Nat.le_refl _)).elim)
   (fun id hid hg=>by
    rw[AHeap.get_cons_other _ _ (Z6 hid).symm] at hg
    intro h
    exact hg (by
     cases hh:H2.get id with
     |none=>rfl
     |some b=>rw[h2 id b hh] at h;cases h))
   (fun id blk hid=>by
    by_cases h:(n,0)=id
    ·subst h
     rw[AHeap.get_cons_same] at hid
     simp only[Option.some.injEq] at hid
     subst hid
     refine .inr ⟨_,xz _ _ _,fun k h1 h2=>⟨?_,hp.unfrozen hfr k h2⟩⟩
     simp only at h2
     rw[hp.cell]
     exact⟨arr[k],Array.getElem?_eq_getElem h2⟩
    ·rw[AHeap.get_cons_other _ _ h] at hid
     exact .inl ⟨h2 id blk hid,zz _ _ (fun h'=>h h'.symm),fun _ _ _ _ _ h=>h⟩)
  exact⟨hg.1,hg.2,fun _=>xz _ _ _,hR,hup⟩
structure Wrote(w w':World)(b:Nat):Prop where
 os:w'.os=w.os
 tape:TapeOk w w'
 output:w'.output=w.output
 size:w'.heap.size=w.heap.size
 other:∀k,k≠b→w'.heap[k]?=w.heap[k]?
 shape:∀arr el fr,w.heap[b]?=some (.cells arr el fr)→∃arr',w'.heap[b]?=some (.cells arr' el fr)∧arr'.size=arr.size
 mapsAt:∀o,zfv o=true→w.heap[b]?=some o→w'.heap[b]?=some o
theorem Wrote.refl(w:World)(b:Nat):Wrote w w b:=⟨rfl,⟨rfl,fun _=>Nat.le_refl _⟩,rfl,rfl,fun _ _=>rfl,fun arr _ _ h=>⟨arr,h,rfl⟩,fun _ _ h=>h⟩
theorem Wrote.trans{b:Nat}{w'':World}(h:Wrote w w' b)(k:Wrote w' w'' b):Wrote w w'' b:=by
 refine⟨k.os.trans h.os,k.tape.trans h.tape,k.output.trans h.output,k.size.trans h.size,fun i hi=>(k.other i hi).trans (h.other i hi),fun arr el fr hb=>?_,fun es ck hb=>k.mapsAt es ck (h.mapsAt es ck hb)⟩
 obtain⟨arr',h1,h2⟩:=h.shape arr el fr hb
 obtain⟨arr'',h3,h4⟩:=k.shape arr' el fr h1
 exact⟨arr'',h3,h4.trans h2⟩
theorem Wrote.setCell(w:World)(a:Addr)(v:Value):Wrote w (w.setCell a v) a.block:=by
 refine⟨rfl,⟨rfl,fun _=>Nat.le_refl _⟩,rfl,by simp,fun k hk=>?_,fun arr el fr hb=>?_,fun es ck hb=>?_⟩
 rotate_right
 ·simp only[World.setCell,Array.getElem?_modify,hb]
  cases es<;>first|(cases ck;done)|simp
 ·simp only[World.setCell,Array.getElem?_modify]
  rw[if_neg (fun h=>hk h.symm)]
 ·refine⟨if a.spot.isSome then arr else arr.setIfInBounds a.off v,?_,by split<;>simp⟩
  simp only[World.setCell,Array.getElem?_modify,hb]
  simp
theorem zfq{v:Value}(h:xp v=true):v.oneCell'=true:=by cases v<;>simp[xp] at h<;>rfl
theorem Vx:∀ (vs:List Value) (i:Nat) (w:World) (b o:Nat),(∀j,i≤j→j<i+vs.length→∃u,w.cell? ⟨b,o+j,none⟩=some u)→(∀j,i≤j→j<i+vs.length→w.frozen? ⟨b,o+j,none⟩=false)→(∀v∈vs,xp v=true) →
 ∃w',(storeCells ⟨b,o,none⟩ vs i).run P w=.ok () w'∧Wrote w w' b∧(∀k,(k<o+i∨o+i+vs.length≤k)→w'.cell? ⟨b,k,none⟩=w.cell? ⟨b,k,none⟩)∧(∀j,j<vs.length→w'.cell? ⟨b,o+i+j,none⟩=vs[j]?)
 |[],i,w,b,o,_,_,_=>⟨w,rfl,.refl w b,fun _ _=>rfl,fun j hj=>by simp at hj⟩
 |v::vs,i,w,b,o,h1,h2,h3=>by
  obtain⟨u,hu⟩:=h1 i (Nat.le_refl _) (by simp)
  have hf:=h2 i (Nat.le_refl _) (by simp)
  have hrun:(store ((⟨b,o,none⟩:Addr).add i) v).run P w=.ok () (w.setCell ⟨b,o+i,none⟩ v):=by
   rw[j5,run_store P w _ v _ (zfq (h3 v (by simp)))]
   simp[hu,hf]
  obtain⟨w',g1,g2,g3,g4⟩:=Vx vs (i+1) (w.setCell ⟨b,o+i,none⟩ v) b o
   (fun j hj hlt=>by
    obtain⟨u',hu'⟩:=h1 j (by omega) (by simp;omega)
    exact⟨u',by rw[World.cell?_setCell_other _ _ _ _ (by simp;omega)];exact hu'⟩)
   (fun j hj hlt=>by rw[World.frozen?_setCell];exact h2 j (by omega) (by simp;omega)) (fun v hv=>h3 v (by simp[hv]))
  refine⟨w',?_,(Wrote.setCell w ⟨b,o+i,none⟩ v).trans g2,?_,?_⟩
  ·unfold storeCells
   rw[Sem.run_bind,hrun,Result.andThen_ok,g1]
  ·intro k hk
   simp only[List.length_cons] at hk
   rw[g3 k (by omega),World.cell?_setCell_other _ _ _ _ (by simp;omega)]
  ·intro j hj
   cases j with
   |zero=>
    rw[g3 (o+i+0) (by omega)]
    simp only[Nat.add_zero,List.getElem?_cons_zero]
    exact World.cell?_setCell_same _ _ _ hu
   |succ j=>
    have:=g4 j (by simpa using hj)
    rw[List.getElem?_cons_succ,←this]
    congr 2
    omega
theorem ut{vs:List Value}{w:World}{b o:Nat}(h1:∀j,j<vs.length→∃u,w.cell? ⟨b,o+j,none⟩=some u)(h2:∀j,j<vs.length→w.frozen? ⟨b,o+j,none⟩=false)(h3:∀v∈vs,xp v=true) :
 ∃w',(storeCells ⟨b,o,none⟩ vs 0).run P w=.ok () w'∧Chg w w' (fun b' k=>b'=b∧o≤k∧k<o+vs.length)∧w'.heap.size=w.heap.size∧(∀j,j<vs.length→w'.cell? ⟨b,o+j,none⟩=vs[j]?):=by
 by_cases h0:vs=[]
 ·subst h0
  exact⟨w,rfl,Chg.refl w _,rfl,fun j hj=>by simp at hj⟩
 ·obtain⟨w',g1,g2,g3,g4⟩:=Vx (P:=P) vs 0 w b o (fun j _ h=>h1 j (by omega)) (fun j _ h=>h2 j (by omega)) h3
  refine⟨w',g1,⟨g2.os,g2.tape,g2.output,by rw[g2.size];exact Nat.le_refl _,fun x _ hx=>?_,fun x k _ hx=>?_,fun x arr el fr hx=>?_,fun x es ck hx _=>?_⟩,g2.size,fun j hj=>by have:=g4 j hj;simpa using this⟩
  ·refine g2.other x (fun h=>?_)
   subst h
   exact hx o ⟨rfl,Nat.le_refl _,by have:=List.length_pos_iff.2 h0;omega⟩
  ·by_cases hxb:x=b
   ·subst hxb
    refine g3 k ?_
    rcases Nat.lt_or_ge k o with h|h
    ·left;omega
    ·right
     rcases Nat.lt_or_ge k (o+vs.length) with h'|h'
     ·exact absurd ⟨rfl,h,h'⟩ hx
     ·omega
   ·exact cell?_of_heap (g2.other x hxb)
  ·by_cases hxb:x=b
   ·subst hxb;exact g2.shape arr el fr hx
   ·exact⟨arr,by rw[g2.other x hxb];exact hx,rfl⟩
  ·by_cases hxb:x=b
   ·subst hxb;exact g2.mapsAt es ck hx
   ·rw[g2.other x hxb];exact hx
theorem K7(hI:Inv I β n H w){b:Id}{c:CLoc}{s:Nat}{es es':List (List AVal)}(hb:H.get b=some (.rows s es))(hc:β b=some c)(hw:Chg w w' c.has)
 (hlen:es'.length≤es.length) (hrow:∀ (i:Nat) (r:List AVal),es'[i]?=some r→r.length=s)
 (hcell:∀ (i:Nat) (r:List AVal) (j:Nat) (x:AVal),es'[i]?=some r→r[j]?=some x→∃v,w'.cell? ⟨c.blk,c.base+i*s+j,none⟩=some v∧xp v=true∧Rep I β n w x v) :
 Inv I β n (H.set b (.rows s es')) w'∧Ext I β n H w I β n (H.set b (.rows s es')) w':=by
 have hne:H.get b≠none:=by rw[hb];simp
 have hcI:∀b k,I b k→w'.cell? ⟨b,k,none⟩=w.cell? ⟨b,k,none⟩:=fun b' k hbk=>by
  obtain⟨v,hv⟩:=hI.imm b' k hbk
  exact hw.cell b' k (uf hv) (fun h=>(hI.own b c b' k hc h).1 hbk)
 obtain⟨c',hc',hB⟩:=hI.blocks b _ hb
 rw[hc] at hc'
 simp only[Option.some.injEq] at hc'
 subst hc'
 have hnew:RepB I β n w' c (.rows s es'):=by
  obtain⟨h1,hA,h3,h4,h5,h6,h7⟩:=hB
  rcases hA with⟨arr,el,fr,h2,h2',h2''⟩|⟨z1,z2,rfl⟩
  ·obtain⟨arr',k1,k2⟩:=hw.shape _ arr el fr h2
   refine⟨h1,.inl ⟨arr',el,fr,k1,by omega,fun hlt=>⟨(h2'' hlt).1,(h2'' hlt).2.1.trans k2.symm,(h2'' hlt).2.2.of rfl k2⟩⟩,fun k hk hk'=>by rw[Z9 h2 k1];exact h3 k hk hk',h4,?_,hrow,fun i r j x hi hj=>?_⟩
   ·have:=Nat.mul_le_mul_right s hlen
    omega
   ·obtain⟨v,g1,g2,g3⟩:=hcell i r j x hi hj
    exact⟨v,g1,g2,g3.mono' (fun _ _ h=>h) hcI (Nat.le_refl n) (fun _ _ _ h=>h)⟩
  ·have:es'=[]:=List.eq_nil_of_length_eq_zero (by simpa using hlen)
   subst this
   exact⟨h1,.inr ⟨z1,z2,rfl⟩,fun k hk hk'=>by omega,h4,h5,hrow,fun i r j x hi _=>by simp at hi⟩
 refine kw hI hw (Nat.le_refl n) (fun b' k h=>⟨b,c,hc,hne,h⟩) (fun _ _ h=>h) (fun _ _ h h'=>absurd h h') (fun id hid=>.inl rfl)
  (fun id d b' k hid hd _=>by rw[hI.fresh id hid] at hd;cases hd) hI.fresh (fun i j d d' b' k hi hj h h' _=>hI.inj i j d d' b' k hi hj h h') (fun _ _ _ _ _ _ h=>h) ?_ ?_
 ·intro t _ ht
  rw[AHeap.get_set] at ht
  split at ht
  ·intro h;rw[h] at ht;simp at ht
  ·exact ht
 ·intro id blk hid
  rw[AHeap.get_set] at hid
  by_cases h:b=id
  ·subst h
   rw[if_pos rfl,hb] at hid
   simp only[Option.map_some,Option.some.injEq] at hid
   subst hid
   exact .inr ⟨c,hc,hnew⟩
  ·rw[if_neg h] at hid
   exact .inl ⟨hid,rfl,fun d b' k hd hk hk'=>h (hI.inj b id c d b' k hc hd hk' hk)⟩
theorem Qq{b id:Id}{c d:CLoc}(h:upd (upd β b none) (n,0) (some c) id=some d)(hf:∀id:Id,n≤id.1→β id=none):(id=(n,0)∧d=c)∨(id.1<n∧id≠b∧β id=some d):=by
 by_cases hid:id=(n,0)
 ·subst hid;rw[xz] at h;simp only[Option.some.injEq] at h;exact .inl ⟨rfl,h.symm⟩
 ·rw[zz _ _ hid] at h
  by_cases hb:id=b
  ·subst hb;rw[xz] at h;cases h
  ·rw[zz _ _ hb] at h
   refine .inr ⟨?_,hb,h⟩
   rcases Nat.lt_or_ge id.1 n with hl|hl
   ·exact hl
   ·rw[hf id hl] at h;cases h
theorem Yh(hI:Inv I β n H w){b:Id}{c:CLoc}(hc:β b=some c):b.1<n:=by
 rcases Nat.lt_or_ge b.1 n with h|h
 ·exact h
 ·rw[hI.fresh b h] at hc;cases hc
theorem z66(hI:Inv I β n H w){b:Id}{c c2:CLoc}{blk2:ABlock}(hb:H.get b≠none)(hc:β b=some c)(hw:Chg w w' c.has)(hsub:∀b k,c2.has b k→c.has b k)
 {J:Nat→Nat→Prop} (hJ:∀b' k,J b' k→c.has b' k∧¬c2.has b' k∧∃v,w'.cell? ⟨b',k,none⟩=some v)
 (hB:RepB (fun b k=>I b k∨J b k) (upd (upd β b none) (n,0) (some c2)) (n+1) w' c2 blk2) :
 Inv (fun b k=>I b k∨J b k) (upd (upd β b none) (n,0) (some c2)) (n+1) (((n,0),blk2)::H.del b) w' ∧
 Ext I β n H w (fun b k=>I b k∨J b k) (upd (upd β b none) (n,0) (some c2)) (n+1) (((n,0),blk2)::H.del b) w':=by
 have hbn:=Yh hI hc
 refine kw hI hw (Nat.le_succ n) (fun b' k h=>⟨b,c,hc,hb,h⟩) (fun _ _ h=>.inl h) ?_ ?_ ?_ ?_ ?_ ?_ ?_ ?_
 ·rintro b' k (h|h) hn
  ·exact absurd h hn
  ·obtain⟨h1,_,h2⟩:=hJ b' k h
   exact⟨h2,.inr ⟨b,c,hc,hb,h1⟩⟩
 ·intro id hid
  by_cases h':id=b
  ·subst h'
   exact .inr ⟨by rw[zz _ _ (Z6 hid),xz],hb⟩
  ·exact .inl (by rw[zz _ _ (Z6 hid),zz _ _ h'])
 ·intro id d b' k hid hd hk
  rcases Qq hd hI.fresh with⟨_,rfl⟩|⟨h,_⟩
  ·have hk':=hsub b' k hk
   exact⟨Nat.lt_of_lt_of_le (hI.own b c b' k hc hk').2 hw.size,.inr ⟨b,c,hc,hb,hk'⟩⟩
  ·omega
 ·intro id hid
  rw[zz _ _ (fun h=>by subst h;exact absurd hid (Nat.not_succ_le_self n)),zz _ _ (fun h=>by subst h;omega)]
  exact hI.fresh id (by omega)
 ·intro i j d d' b' k hi hj hd hd' hj'
  rcases Qq hj hI.fresh with⟨rfl,rfl⟩|⟨h,_⟩
  ·rcases Qq hi hI.fresh with⟨rfl,_⟩|⟨_,h1,h2⟩
   ·rfl
   ·exact absurd (hI.inj i b d c b' k h2 hc hd (hsub b' k hd')) h1
  ·omega
 ·intro i d b' k hi hd h
  rcases h with h|h
  ·exact h
  ·obtain⟨h1,h2,_⟩:=hJ b' k h
   rcases Qq hi hI.fresh with⟨_,rfl⟩|⟨_,h3,h4⟩
   ·exact absurd hd h2
   ·exact absurd (hI.inj i b d c b' k h4 hc hd h1) h3
 ·intro id hid hg
  rw[AHeap.get_cons_other _ _ (Z6 hid).symm,AHeap.get_del] at hg
  split at hg
  ·exact absurd rfl hg
  ·exact hg
 ·intro id blk hid
  by_cases h:(n,0)=id
  ·subst h
   rw[AHeap.get_cons_same] at hid
   simp only[Option.some.injEq] at hid
   subst hid
   exact .inr ⟨c2,xz _ _ _,hB⟩
  ·rw[AHeap.get_cons_other _ _ h,AHeap.get_del] at hid
   split at hid
   ·cases hid
   ·rename_i hne
    refine .inl ⟨hid,by rw[zz _ _ (fun h'=>h h'.symm),zz _ _ (fun h'=>hne h'.symm)],fun d b' k hd hk hk'=>hne (hI.inj b id c d b' k hc hd hk' hk)⟩
theorem zd0(hI:Inv I β n H w){b:Id}{c:CLoc}{s off:Nat}{es es':List (List AVal)}(hb:H.get b=some (.rows s es))(hc:β b=some c)(hw:Chg w w' c.has)(hph:es=[]→es'=[]∨∃arr el fr,w.heap[c.blk]?=some (.cells arr el fr)∧c.size≤arr.size∧(c.lo<c.size→c.lo=0∧c.size=arr.size∧EndOk c.s arr fr))
 (hlen:c.base+off*s+es'.length*s≤c.size) (hrow:∀ (i:Nat) (r:List AVal),es'[i]?=some r→r.length=s)
 (hcell:∀ (i:Nat) (r:List AVal) (j:Nat) (x:AVal),es'[i]?=some r→r[j]?=some x→∃v,w'.cell? ⟨c.blk,c.base+off*s+i*s+j,none⟩=some v∧xp v=true∧Rep I β n w x v) :
 ∃I',Inv I' (upd (upd β b none) (n,0) (some ⟨c.blk,c.lo,c.size,c.base+off*s,s⟩)) (n+1) (((n,0),.rows s es')::H.del b) w' ∧
 Ext I β n H w I' (upd (upd β b none) (n,0) (some ⟨c.blk,c.lo,c.size,c.base+off*s,s⟩)) (n+1) (((n,0),.rows s es')::H.del b) w':=by
 have hcI:∀b k,I b k→w'.cell? ⟨b,k,none⟩=w.cell? ⟨b,k,none⟩:=fun b' k hbk=>by
  obtain⟨v,hv⟩:=hI.imm b' k hbk
  exact hw.cell b' k (uf hv) (fun h=>(hI.own b c b' k hc h).1 hbk)
 obtain⟨c',hc',hB⟩:=hI.blocks b _ hb
 rw[hc] at hc'
 simp only[Option.some.injEq] at hc'
 subst hc'
 obtain⟨h1,hA,h3,h4,h5,h6,h7⟩:=hB
 have hA:(∃arr el fr,w.heap[c.blk]?=some (.cells arr el fr)∧c.size≤arr.size∧(c.lo<c.size→c.lo=0∧c.size=arr.size∧EndOk c.s arr fr))∨(c.lo=0∧c.size=0∧es'=[]):=by
  rcases hA with hA|⟨z1,z2,z3⟩
  ·exact .inl hA
  ·rcases hph z3 with z4|z4
   ·exact .inr ⟨z1,z2,z4⟩
   ·exact .inl z4
 rcases hA with⟨arr,el,fr,h2,h2',h2''⟩|hz
 rotate_left
 ·obtain⟨z1,z2,rfl⟩:=hz
  refine⟨_,z66 (c2:=⟨c.blk,c.lo,c.size,c.base+off*s,s⟩) (J:=fun _ _=>False) hI (by rw[hb];simp) hc hw (fun b k h=>⟨h.1,h.2.1,h.2.2⟩) (fun _ _ h=>h.elim) ?_⟩
  exact⟨rfl,.inr ⟨z1,z2,rfl⟩,fun k hk hk'=>by simp only at hk';omega,Nat.le_trans h4 (Nat.le_add_right _ _),hlen,hrow,fun i r j x hi _=>by simp at hi⟩
 obtain⟨arr',k1,k2⟩:=hw.shape _ arr el fr h2
 refine⟨_,z66 (c2:=⟨c.blk,c.lo,c.size,c.base+off*s,s⟩) (J:=fun _ _=>False) hI (by rw[hb];simp) hc hw (fun b k h=>⟨h.1,h.2.1,h.2.2⟩) (fun _ _ h=>h.elim) ?_⟩
 refine⟨rfl,.inl ⟨arr',el,fr,k1,by rw[k2];exact h2',fun hlt=>⟨(h2'' hlt).1,(h2'' hlt).2.1.trans k2.symm,(h2'' hlt).2.2.of h1.symm k2⟩⟩,fun k hk hk'=>by rw[Z9 h2 k1];exact h3 k hk hk',Nat.le_trans h4 (Nat.le_add_right _ _),hlen,hrow,fun i r j x hi hj=>?_⟩
 obtain⟨v,g1,g2,g3⟩:=hcell i r j x hi hj
 refine⟨v,g1,g2,g3.mono' (fun _ _ h=>.inl h) hcI (Nat.le_succ n) (fun id d hid hd=>?_)⟩
 rcases Qq hd hI.fresh with⟨h,_⟩|⟨_,_,h⟩
 ·exact absurd h (Z6 hid)
 ·exact h
theorem Inv.same{H2:AHeap}(h:∀id b,H2.get id=some b→∃b0,H.get id=some b0∧∀c,RepB I β n w c b0→RepB I β n w c b)(hI:Inv I β n H w):Inv I β n H2 w:=by
 refine⟨fun id blk hb=>?_,hI.inj,hI.own,hI.imm,hI.fresh,hI.glob⟩
 obtain⟨b0,h1,h2⟩:=h id blk hb
 obtain⟨c,hc,hB⟩:=hI.blocks id b0 h1
 exact⟨c,hc,h2 c hB⟩
theorem Ext.same{H2 H2':AHeap}(h:∀id,H2.get id≠none↔H.get id≠none)(h':∀id,H2'.get id≠none→H'.get id≠none)(e:Ext I β n H w I' β' n' H' w'):Ext I β n H2 w I' β' n' H2' w':=
 ⟨e.os,e.tape,e.output,e.size,fun b hb hn=>e.frame b hb fun id c k h1 h2=>hn id c k h1 ((h id).2 h2),fun b k v hv hn=>e.cells b k v hv fun id c h1 h2=>hn id c h1 ((h id).2 h2),fun b arr el fr hb=>by
  obtain⟨arr',fr',k1,k2,k3⟩:=e.shape b arr el fr hb
  exact⟨arr',fr',k1,k2,k3.imp (fun h=>h) fun g k hk=>by
   obtain⟨id,c,g1,g2,g3⟩:=g k hk
   exact⟨id,c,g1,(h id).2 g2,g3⟩⟩,fun b es ck hb hn=>e.maps b es ck hb fun id c h1 h2=>hn id c h1 ((h id).2 h2),e.imm,fun b k h1 h2 h3=>by
  obtain⟨id,c,g1,g2,g3⟩:=e.immNew b k h1 h2 h3
  exact⟨id,c,g1,g2,(h id).2 g3⟩,fun id hid=>by
  rcases e.old id hid with g|⟨g1,g2⟩
  ·exact .inl g
  ·exact .inr ⟨g1,(h id).2 g2⟩,fun id c b k h1 h2 h3=>by
  rcases e.new id c b k h1 h2 h3 with g|⟨i0,c0,g1,g2,g3⟩
  ·exact .inl g
  ·exact .inr ⟨i0,c0,g1,g2,(h i0).2 g3⟩,fun id hid hg=>(h id).2 (e.dom id hid (h' id hg)),e.le⟩
theorem zqc{k:Id}{cs:List AVal}{H:AHeap}(id:Id)(b:ABlock)(h:AHeap.get ((k,.one cs)::H) id=some b):∃b0,AHeap.get ((k,.rows cs.length [cs])::H) id=some b0∧∀c,RepB I β n w c b0→RepB I β n w c b:=by
 by_cases hk:k=id
 ·subst hk
  rw[AHeap.get_cons_same] at h
  simp only[Option.some.injEq] at h
  subst h
  exact⟨_,AHeap.get_cons_same _ _ _,fun c hc=>u0.2 hc⟩
 ·rw[AHeap.get_cons_other _ _ hk] at h
  exact⟨b,by rw[AHeap.get_cons_other _ _ hk];exact h,fun _ h=>h⟩
theorem zb2{k:Id}{b b':ABlock}{H:AHeap}(id:Id):AHeap.get ((k,b)::H) id≠none↔AHeap.get ((k,b')::H) id≠none:=by
 by_cases hk:k=id
 ·subst hk;rw[AHeap.get_cons_same,AHeap.get_cons_same];simp
 ·rw[AHeap.get_cons_other _ _ hk,AHeap.get_cons_other _ _ hk]
theorem W3{k:Id}{b:ABlock}{H:AHeap}(id:Id):(H.set k b).get id≠none↔H.get id≠none:=by
 rw[AHeap.get_set]
 split
 ·cases H.get id<;>simp
 ·exact Iff.rfl
end
end Go.Fx
