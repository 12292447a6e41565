/-
  Own framework.
-/
import Derived.Test.YtlilpmnmedmjaaaGreatDoorFxN
import Derived.RangeFuncRecord
import Derived.RangeFuncIn
namespace Go.Fx
set_option linter.unusedVariables false
section
variable {P:Program} {I:Nat→Nat→Prop} {β:Id→Option CLoc} {n:Nat} {H:AHeap} {w:World}
theorem zgn(hI:Inv I β n H w){r:Loop}{e:Env}(hE:∀t,Rep I β n w (Env.get e t) (r.tmps.getD t undef)) :
 Inv I (upd β (n,0) (some ⟨w.heap.size,0,1,0,0⟩)) (n+1) (((n,0),.lrec w.heap.size r e)::H) (w.alloc (.loop r))∧Ext I β n H w I (upd β (n,0) (some ⟨w.heap.size,0,1,0,0⟩)) (n+1) (((n,0),.lrec w.heap.size r e)::H) (w.alloc (.loop r)):=by
 have hp:Pushed w (w.alloc (.loop r)) (.loop r):=⟨rfl,⟨rfl,fun _=>Nat.le_refl _⟩,rfl,rfl⟩
 have hsz:(w.alloc (.loop r)).heap.size=w.heap.size+1:=by rw[hp.heap];simp
 have hfr:∀id:Id,n≤id.1→β id=none:=hI.fresh
 have hcI:∀b k,I b k→(w.alloc (.loop r)).cell? ⟨b,k,none⟩=w.cell? ⟨b,k,none⟩:=fun b k hb=>by
  obtain⟨v,hv⟩:=hI.imm b k hb
  exact hp.chg.cell b k (uf hv) (fun h=>h.elim)
 refine kw hI hp.chg (Nat.le_succ n) (fun _ _ h=>h.elim) (fun _ _ h=>h) (fun _ _ h h'=>absurd h h') (fun id hid=>.inl (zz _ _ (Z6 hid))) ?_ ?_ ?_ (fun _ _ _ _ _ _ h=>h) ?_ ?_
 ·intro id c b k hid hc hk
  rcases vq hc hI.fresh with⟨_,rfl⟩|⟨h,_⟩
  ·have hb:w.heap.size=b:=hk.1
   exact⟨by omega,.inl (by omega)⟩
  ·omega
 ·intro id hid
  rw[zz _ _ (fun h=>by subst h;exact absurd hid (Nat.not_succ_le_self n))]
  exact hI.fresh id (by omega)
 ·intro i j c d b k hi hj hc hd hj'
  rcases vq hj hI.fresh with⟨rfl,rfl⟩|⟨h,_⟩
  ·rcases vq hi hI.fresh with⟨rfl,_⟩|⟨_,h⟩
   ·rfl
   ·exact(Wj hI h hc (by rw[←hd.1];exact Nat.le_refl _)).elim
  ·omega
 ·intro id hid hg
  rwa [AHeap.get_cons_other _ _ (Z6 hid).symm] at hg
 ·intro id blk hid
  by_cases h:(n,0)=id
  ·subst h
   rw[AHeap.get_cons_same] at hid
   simp only[Option.some.injEq] at hid
   subst hid
   refine .inr ⟨⟨w.heap.size,0,1,0,0⟩,xz _ _ _,rfl,Nat.one_pos,rfl,hp.new,fun t=>(hE t).mono' (fun _ _ h=>h) hcI (Nat.le_succ n) (fun id c hid h=>?_)⟩
   rwa [zz _ _ (Z6 hid)] at h
  ·rw[AHeap.get_cons_other _ _ h] at hid
   exact .inl ⟨hid,zz _ _ (fun h'=>h h'.symm),fun _ _ _ _ _ h=>h⟩
theorem z14(hI:Inv I β n H w){k:Id}{l:Nat}{r r':Loop}{e:Env}(hk:H.get k=some (.lrec l r e))(ht:r'.tmps=r.tmps) :
 Inv I β n (H.set k (.lrec l r' e)) (w.putObj l (.loop r'))∧Ext I β n H w I β n (H.set k (.lrec l r' e)) (w.putObj l (.loop r'))∧w.heap[l]?=some (.loop r):=by
 obtain⟨c,hc,h0,h1,h2,h3,h4⟩:=hI.blocks k _ hk
 subst h2
 have hlt:c.blk<w.heap.size:=by
  rcases Nat.lt_or_ge c.blk w.heap.size with h|h
  ·exact h
  ·rw[Array.getElem?_eq_none h] at h3;cases h3
 have hne:H.get k≠none:=by rw[hk];simp
 have hother:∀b,b≠c.blk→(w.putObj c.blk (.loop r')).heap[b]?=w.heap[b]?:=fun b hb=>World.putObj_heap_other hb
 have hcell:∀b j,(w.putObj c.blk (.loop r')).cell? ⟨b,j,none⟩=w.cell? ⟨b,j,none⟩:=by
  intro b j
  by_cases hb:b=c.blk
  ·subst hb
   unfold World.cell?
   simp only[World.putObj_heap_same hlt,h3]
  ·exact cell?_of_heap (hother b hb)
 have hchg:Chg w (w.putObj c.blk (.loop r')) (fun b j=>b=c.blk∧j=0):=by
  refine⟨rfl,⟨rfl,fun _=>Nat.le_refl _⟩,rfl,by simp,fun b _ hb=>hother b (fun h=>hb 0 ⟨h,rfl⟩),fun b j _ _=>hcell b j,fun b arr2 el fr hb=>?_,fun b o ho hb hn=>?_⟩
  ·have:b≠c.blk:=fun h=>by subst h;rw[h3] at hb;cases hb
   exact⟨arr2,by rw[hother b this];exact hb,rfl⟩
  ·rw[hother b (fun h=>hn ⟨h,rfl⟩)];exact hb
 have hhas:c.has c.blk 0:=⟨rfl,by omega,h1⟩
 have:=kw (β':=β) (n':=n) (I':=I) (H':=H.set k (.lrec c.blk r' e)) hI hchg (Nat.le_refl n) (fun b' j h=>⟨k,c,hc,hne,by obtain⟨rfl,rfl⟩:=h;exact hhas⟩) (fun _ _ h=>h) (fun _ _ h h'=>absurd h h') (fun id hid=>.inl rfl)
  (fun id d b' j hid hd _=>by rw[hI.fresh id hid] at hd;cases hd) hI.fresh (fun i j d d' b' q hi hj h h' _=>hI.inj i j d d' b' q hi hj h h') (fun _ _ _ _ _ _ h=>h) (fun t _ ht=>by
   rw[AHeap.get_set] at ht
   split at ht
   ·intro h;rw[h] at ht;simp at ht
   ·exact ht) (fun id blk hid=>by
   rw[AHeap.get_set] at hid
   split at hid
   ·rename_i hkk
    subst hkk
    rw[hk] at hid
    simp only[Option.map_some,Option.some.injEq] at hid
    subst hid
    exact .inr ⟨c,hc,h0,h1,rfl,World.putObj_heap_same hlt,fun t=>by
     rw[ht];exact(h4 t).mono' (fun _ _ h=>h) (fun b j _=>hcell b j) (Nat.le_refl n) (fun _ _ _ h=>h)⟩
   ·rename_i hkk
    refine .inl ⟨hid,rfl,fun d b j hd hh hw=>?_⟩
    obtain⟨rfl,rfl⟩:=hw
    exact hkk (hI.inj k id c d _ _ hc hd hhas hh))
 exact⟨this.1,this.2,h3⟩
theorem zn3(hI:Inv I β n H w)(o:Obj):Inv I β n H (w.alloc o)∧Ext I β n H w I β n H (w.alloc o):=by
 have hp:Pushed w (w.alloc o) o:=⟨rfl,⟨rfl,fun _=>Nat.le_refl _⟩,rfl,rfl⟩
 exact kw hI hp.chg (Nat.le_refl n) (fun _ _ h=>h.elim) (fun _ _ h=>h) (fun _ _ h h'=>absurd h h') (fun id hid=>.inl rfl) (fun id c b k hid hc _=>by rw[hI.fresh id hid] at hc;cases hc) hI.fresh
  (fun i j c d b k hi hj h h' _=>hI.inj i j c d b k hi hj h h') (fun _ _ _ _ _ _ h=>h) (fun _ _ h=>h) (fun id blk hid=>.inl ⟨hid,rfl,fun _ _ _ _ _ h=>h⟩)
structure RecOf(P:Program)(N:Lay)(ps:List Nat)(a b:LCode)(r:Loop):Prop where
 st:r.state=.ready
 pe:r.pending=none
 pa:r.params.toList=ps
 la:y1 P (zpd N) r.assign=some a
 lb:y1 P (zpd N) r.body=some b
 sz:r.tmps.size=N.n
def busy(r:Loop):Loop:={ r with state:=.busy }
def y3m(k:Id)(l:Nat)(r:Loop)(P:Program)(N:Lay)(n0:Nat)(b:LCode)(Q2:Exit→Env→AHeap→Nat→Prop):Exit→Env→AHeap→Nat→Prop:=
 fun ex e1 H1 n1=>ex=.normal∧∃e1',H1.get k=some (.lrec l r e1')∧LWp P (zpd N) n0 b Q2 e1 (H1.set k (.lrec l (busy r) e1')) n1
def y45(k:Id)(l:Nat)(r:Loop)(K:AVal→AHeap→Nat→Prop):Exit→Env→AHeap→Nat→Prop:=
 fun ex e2 H2 n2=>ex=.normal∧∃e2',H2.get k=some (.lrec l (busy r) e2')∧K (.bool true) (H2.set k (.lrec l r e2')) n2
def zj5:Env→List Nat→List AVal→Env
 |e,p::ps,x::xs=>zj5 (e.put (some p) x) ps xs
 |e,_,_=>e
theorem z8v:∀ {ps:List Nat} {xs:List AVal} {vs:List Value} {e:Env} {tm:Array Value},(∀p∈ps,p<tm.size)→xs.length=ps.length→vs.length=ps.length→(∀t,Rep I β n w (e.get t) (tm.getD t undef)) →
 (∀ (i:Nat) (x:AVal) (v:Value),xs[i]?=some x→vs[i]?=some v→Rep I β n w x v)→∀t,Rep I β n w ((zj5 e ps xs).get t) (((ps.zip vs).foldl (fun t p=>t.setIfInBounds p.1 p.2) tm).getD t undef)
 |[],[],[],e,tm,_,_,_,he,_=>he
 |p::ps,x::xs,v::vs,e,tm,hp,h1,h2,he,hr=>by
  simp only[zj5,List.zip_cons_cons,List.foldl_cons]
  have hE:RepEnv I β n w e { tmps:=tm,defers:=[] }:=he
  have hx:=hr 0 x v rfl rfl
  have:=hE.put (d:=some p) (fun t ht=>by cases ht;exact hp p (List.mem_cons_self ..)) hx
  exact z8v (fun q hq=>by rw[Array.size_setIfInBounds];exact hp q (List.mem_cons_of_mem _ hq)) (by simpa using h1) (by simpa using h2) this (fun i x v hx hv=>hr (i+1) x v (by simpa using hx) (by simpa using hv))
 |[],x::xs,_,_,_,_,h1,_,_,_=>by simp at h1
 |[],[],v::vs,_,_,_,_,h2,_,_=>by simp at h2
 |p::ps,[],_,_,_,_,h1,_,_,_=>by simp at h1
 |p::ps,x::xs,[],_,_,_,_,h2,_,_=>by simp at h2
theorem Kk(ps:Array Tmp)(vs:Array Value)(tm:Array Value):(ps.zip vs).foldl (fun tmps (x:Tmp×Value)=>tmps.setIfInBounds x.1 x.2) tm=(ps.toList.zip vs.toList).foldl (fun t p=>t.setIfInBounds p.1 p.2) tm:=by
 rw[←Array.foldl_toList,Array.toList_zip]
theorem Wc:∀ (l:List (Nat×Value)) (tm:Array Value),(l.foldl (fun t p=>t.setIfInBounds p.1 p.2) tm).size=tm.size
 |[],_=>rfl
 |p::r,tm=>by rw[List.foldl_cons,Wc r,Array.size_setIfInBounds]
def SubE:Env→Env→Prop
 |[],_=>True
 |(k,x)::r,e=>e.get k=x∧SubE r e
theorem SubE.get:∀ {e1 e:Env},SubE e1 e→∀t,e1.get t=.any∨e1.get t=e.get t
 |[],_,_,t=>.inl rfl
 |(k,x)::r,e,h,t=>by
  simp only[Env.get]
  split
  ·rename_i hk;subst hk;exact .inr h.1.symm
  ·exact SubE.get h.2 t
end
def EnvVw(F:Id→Bool)(H:AHeap)(ρ:Id→Option Id)(n:Nat):Env→Env→Prop
 |[],[]=>True
 |(k,x)::r,(k',y)::r'=>(k=k'∧Vw F H ρ n x y)∧EnvVw F H ρ n r r'
 |_,_=>False
theorem EnvVw.get{F:Id→Bool}{H:AHeap}{ρ:Id→Option Id}{n:Nat}:∀ {e e':Env},EnvVw F H ρ n e e'→∀t,Vw F H ρ n (e.get t) (e'.get t)
 |[],[],_,t=>.any _
 |(k,x)::r,(k',y)::r',h,t=>by
  obtain⟨⟨rfl,h1⟩,h2⟩:=h
  simp only[Env.get]
  split
  ·exact h1
  ·exact EnvVw.get h2 t
 |[],_::_,h,_=>h.elim
 |_::_,[],h,_=>h.elim
end Go.Fx
