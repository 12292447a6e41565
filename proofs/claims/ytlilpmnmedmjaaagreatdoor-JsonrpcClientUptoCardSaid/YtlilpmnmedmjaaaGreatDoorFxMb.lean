/-
  Own framework.
-/
import Derived.Maps.RangeRun
import Derived.Test.YtlilpmnmedmjaaaGreatDoorFxH
import Derived.Test.YtlilpmnmedmjaaaGreatDoorFxMa
namespace Go.Fx
set_option linter.unusedVariables false
variable {P:Program}
section
variable {I:Nat→Nat→Prop} {β:Id→Option CLoc} {n:Nat} {H:AHeap} {w:World} {e:Env} {a:Act}
theorem z8e:∀ {ks:List CK} {cs ds:List AVal},yz ks cs ds=some true→cs=ds
 |[],[],[],_=>rfl
 |[],[],_::_,h=>by simp[yz] at h
 |[],_::_,_,h=>by simp[yz] at h
 |_::_,[],_,h=>by simp[yz] at h
 |_::_,_::_,[],h=>by simp[yz] at h
 |k::ks,x::xs,y::ys,h=>by
  simp only[yz] at h
  split at h<;>try (cases h;done)
  rename_i a b h1 h2
  simp only[Option.some.injEq,Bool.and_eq_true] at h
  obtain⟨rfl,rfl⟩:=h
  rw[z8e h2]
  have:x=y:=by
   cases k<;>cases x<;>cases y<;>simp[Q7] at h1
   ·rw[h1]
   ·rw[h1.1,h1.2]
   ·rw[h1]
  rw[this]
theorem z6i:∀ {ks:List CK} {cs:List AVal} {b:Bool},yz ks cs cs=some b→∀ (i:Nat) (x:AVal),cs[i]?=some x→∃u,(∀ {v:Value},Rep I β n w x v→v=u)∧∀d,Instr.sameBits d u u=true
 |[],[],_,_,i,x,h=>by simp at h
 |[],_::_,_,h,_,_,_=>by simp[yz] at h
 |_::_,[],_,h,_,_,_=>by simp[yz] at h
 |k::ks,y::ys,b,h,i,x,hx=>by
  simp only[yz] at h
  split at h<;>try (cases h;done)
  rename_i a b' h1 h2
  cases i with
  |succ i=>exact z6i h2 i x (by simpa using hx)
  |zero=>
   simp only[List.getElem?_cons_zero,Option.some.injEq] at hx
   subst hx
   cases k<;>cases y<;>simp[Q7] at h1
   ·exact⟨_,fun h=>h.bool_inv,fun d=>by cases d<;>simp[Instr.sameBits]⟩
   ·exact⟨_,fun h=>h.int_inv,fun d=>by cases d<;>simp[Instr.sameBits]⟩
   ·exact⟨_,fun h=>h.str_inv,fun d=>by cases d<;>simp[Instr.sameBits,beq_toListBytes]⟩
theorem za6{k k':AVal}(h:uw k=uw k')(hc:xv k=xv k'):k=k':=by
 cases k<;>cases k'<;>simp[uw,xv] at h hc ⊢<;>try exact hc
theorem zmn{ks:List CK}{ka:Bool}{k k':AVal}{v v':Value}(hok:Jb ks ka k=true)(he:X6 ks k k'=some true)(h:Rep I β n w k v)(h':RepI I w k' v'):v'=v∧(Instr.keyThatStays v' v).run P w=.ok v w:=by
 obtain⟨hag,hce⟩:=z2v he
 have hkk:k=k':=za6 hag.symm (z8e hce)
 subst hkk
 obtain⟨_,b,hb⟩:=Yz hok
 have vv:v'=v∧Instr.sameBits 10000 v v=true:=by
  cases hk:uw k with
  |true=>
   obtain⟨cs,rfl⟩:∃cs,k=.agg cs:=by cases k<;>simp[uw] at hk;exact⟨_,rfl⟩
   obtain⟨vs,rfl,h1,h2,h3⟩:=h.agg_inv
   obtain⟨vs',rfl,h1',h2',h3'⟩:=(Rep.imm (β:=β) (n:=n) _ _ h').agg_inv
   simp only[xv] at hb
   have key:∀i (hi:i<vs.size) (hi':i<vs'.size),vs'[i]=vs[i]∧Instr.sameBits 9999 vs[i] vs[i]=true:=by
    intro i hi hi'
    have hlt:i<cs.length:=by omega
    obtain⟨u,hu,hs⟩:=z6i (I:=I) (β:=β) (n:=n) (w:=w) hb i cs[i] (List.getElem?_eq_getElem hlt)
    have e1:=hu (h3 i _ _ (List.getElem?_eq_getElem hlt) (Array.getElem?_eq_getElem hi))
    have e2:=hu (h3' i _ _ (List.getElem?_eq_getElem hlt) (Array.getElem?_eq_getElem hi'))
    rw[e1,e2];exact⟨rfl,hs _⟩
   refine⟨?_,?_⟩
   ·congr 1
    refine Array.ext (by omega) (fun i h4 h5=>(key i h5 h4).1)
   ·simp only[Instr.sameBits,BEq.rfl,Bool.true_and,List.all_eq_true]
    rintro⟨x,y⟩ hxy
    obtain⟨i,hi⟩:=List.mem_iff_getElem?.1 hxy
    rw[List.getElem?_zip_eq_some] at hi
    obtain⟨e1,e2⟩:=hi
    rw[e1] at e2
    simp only[Option.some.injEq] at e2
    subst e2
    have hlt:i<vs.size:=by simpa using zas e1
    have:=(key i hlt (by omega)).2
    have e3:vs[i]=x:=by
     rw[Array.getElem?_toList,Array.getElem?_eq_getElem hlt] at e1
     simpa using e1
    rw[←e3];exact this
  |false=>
   have hc:xv k=[k]:=by cases k<;>simp[uw] at hk<;>rfl
   rw[hc] at hb
   obtain⟨u,hu,hs⟩:=z6i (I:=I) (β:=β) (n:=n) (w:=w) hb 0 k rfl
   have e1:=hu h
   have e2:=hu (Rep.imm (β:=β) (n:=n) _ _ h')
   rw[e1,e2]
   exact⟨rfl,hs _⟩
 obtain⟨rfl,hs⟩:=vv
 refine⟨rfl,?_⟩
 unfold Instr.keyThatStays
 rw[if_pos hs]
 rfl
theorem zix(hI:Inv I β n H w){b:Id}{c:CLoc}{es es':List (AVal×AVal)}{arr arr':Array MapEntry}{ck ck':Nat}(hb:H.get b=some (.amap es))(hc:β b=some c)(h0:c.lo=0)(h1:0<c.size)(hm:w.heap[c.blk]?=some (.map arr ck))(hin:MapIn I β n w es' arr' ck') :
 Inv I β n (H.set b (.amap es')) { w with heap:=w.heap.setIfInBounds c.blk (.map arr' ck') }∧Ext I β n H w I β n (H.set b (.amap es')) { w with heap:=w.heap.setIfInBounds c.blk (.map arr' ck') }:=by
 have hlt:c.blk<w.heap.size:=by
  rcases Nat.lt_or_ge c.blk w.heap.size with h|h
  ·exact h
  ·rw[Array.getElem?_eq_none h] at hm;cases hm
 have hne:H.get b≠none:=by rw[hb];simp
 have hother:∀k,k≠c.blk→(w.heap.setIfInBounds c.blk (.map arr' ck'))[k]?=w.heap[k]?:=fun k hk=>by
  rw[Array.getElem?_setIfInBounds_ne (fun h=>hk h.symm)]
 have hsame:(w.heap.setIfInBounds c.blk (.map arr' ck'))[c.blk]?=some (.map arr' ck'):=by
  rw[Array.getElem?_setIfInBounds_self_of_lt hlt]
 have hcell:∀k j,({ w with heap:=w.heap.setIfInBounds c.blk (.map arr' ck') }:World).cell? ⟨k,j,none⟩=w.cell? ⟨k,j,none⟩:=by
  intro k j
  by_cases hk:k=c.blk
  ·subst hk
   unfold World.cell?
   simp only[hsame,hm]
  ·exact cell?_of_heap (hother k hk)
 have hchg:Chg w { w with heap:=w.heap.setIfInBounds c.blk (.map arr' ck') } (fun k j=>k=c.blk∧j=0):=by
  refine⟨rfl,⟨rfl,fun _=>Nat.le_refl _⟩,rfl,by simp,fun k _ hk=>hother k (fun h=>hk 0 ⟨h,rfl⟩),fun k j _ _=>hcell k j,fun k arr2 el fr hk=>?_,fun k es2 ck2 hk hn=>?_⟩
  ·have:k≠c.blk:=fun h=>by subst h;rw[hm] at hk;cases hk
   exact⟨arr2,by simp only;rw[hother k this];exact hk,rfl⟩
  ·simp only;rw[hother k (fun h=>hn ⟨h,rfl⟩)];exact hk
 have hhas:c.has c.blk 0:=⟨rfl,by omega,h1⟩
 refine kw hI hchg (Nat.le_refl n) (fun b' k h=>⟨b,c,hc,hne,by obtain⟨rfl,rfl⟩:=h;exact hhas⟩) (fun _ _ h=>h) (fun _ _ h h'=>absurd h h') (fun id hid=>.inl rfl)
  (fun id d b' k hid hd _=>by rw[hI.fresh id hid] at hd;cases hd) hI.fresh (fun i j d d' b' k hi hj h h' _=>hI.inj i j d d' b' k hi hj h h') (fun _ _ _ _ _ _ h=>h) ?_ ?_
 ·intro t _ ht
  rw[AHeap.get_set] at ht
  split at ht
  ·intro h;rw[h] at ht;simp at ht
  ·exact ht
 ·intro id blk hid
  rw[AHeap.get_set] at hid
  by_cases h:b=id
  ·subst h
   rw[if_pos rfl,hb] at hid
   simp only[Option.map_some,Option.some.injEq] at hid
   subst hid
   refine .inr ⟨c,hc,h0,h1,arr',ck',hsame,hin.len,fun i k x m hi hx=>?_,hin.born,hin.clk⟩
   obtain⟨g1,g2⟩:=hin.ent i k x m hi hx
   exact⟨g1.mono (fun _ _ h=>h) (fun b k _=>hcell b k),g2.mono' (fun _ _ h=>h) (fun b k _=>hcell b k) (Nat.le_refl n) (fun _ _ _ h=>h)⟩
  ·rw[if_neg h] at hid
   refine .inl ⟨hid,rfl,fun d b' k hd hk hk'=>h (hI.inj b id c d b' k hc hd (by obtain⟨rfl,rfl⟩:=hk';exact hhas) hk)⟩
theorem zfx(hI:Inv I β n H w) :
 Inv I (upd β (n,0) (some ⟨w.heap.size,0,1,0,0⟩)) (n+1) (((n,0),.amap [])::H) (w.alloc (.map #[] 0))∧Ext I β n H w I (upd β (n,0) (some ⟨w.heap.size,0,1,0,0⟩)) (n+1) (((n,0),.amap [])::H) (w.alloc (.map #[] 0)):=by
 have hp:Pushed w (w.alloc (.map #[] 0)) (.map #[] 0):=⟨rfl,⟨rfl,fun _=>Nat.le_refl _⟩,rfl,rfl⟩
 have hsz:(w.alloc (.map #[] 0)).heap.size=w.heap.size+1:=by rw[hp.heap];simp
 refine kw hI hp.chg (Nat.le_succ n) (fun _ _ h=>h.elim) (fun _ _ h=>h) (fun _ _ h h'=>absurd h h') (fun id hid=>.inl (zz _ _ (Z6 hid))) ?_ ?_ ?_ (fun _ _ _ _ _ _ h=>h) ?_ ?_
 ·intro id c b k hid hc hk
  rcases vq hc hI.fresh with⟨_,rfl⟩|⟨h,_⟩
  ·have hb:w.heap.size=b:=hk.1
   exact⟨by omega,.inl (by omega)⟩
  ·omega
 ·intro id hid
  rw[zz _ _ (fun h=>by subst h;exact absurd hid (Nat.not_succ_le_self n))]
  exact hI.fresh id (by omega)
 ·intro i j c d b k hi hj hc hd hj'
  rcases vq hj hI.fresh with⟨rfl,rfl⟩|⟨h,_⟩
  ·rcases vq hi hI.fresh with⟨rfl,_⟩|⟨_,h⟩
   ·rfl
   ·exact(Wj hI h hc (by rw[←hd.1];exact Nat.le_refl _)).elim
  ·omega
 ·intro id hid hg
  rwa [AHeap.get_cons_other _ _ (Z6 hid).symm] at hg
 ·intro id blk hid
  by_cases h:(n,0)=id
  ·subst h
   rw[AHeap.get_cons_same] at hid
   simp only[Option.some.injEq] at hid
   subst hid
   exact .inr ⟨_,xz _ _ _,rfl,Nat.one_pos,#[],0,hp.new,rfl,fun i k x m hi _=>by simp at hi,fun i j m m' _ hi _=>by simp at hi,fun i m hi=>by simp at hi⟩
  ·rw[AHeap.get_cons_other _ _ h] at hid
   have hne:id≠(n,0):=fun h'=>h h'.symm
   exact .inl ⟨hid,zz _ _ hne,fun _ _ _ _ _ h=>h⟩
theorem Kq(hI:Inv I β n H w){o:Obj}{blk:ABlock}(hB:RepB I (upd β (n,0) (some ⟨w.heap.size,0,1,0,0⟩)) (n+1) (w.alloc o) ⟨w.heap.size,0,1,0,0⟩ blk) :
 Inv I (upd β (n,0) (some ⟨w.heap.size,0,1,0,0⟩)) (n+1) (((n,0),blk)::H) (w.alloc o)∧Ext I β n H w I (upd β (n,0) (some ⟨w.heap.size,0,1,0,0⟩)) (n+1) (((n,0),blk)::H) (w.alloc o):=by
 have hp:Pushed w (w.alloc o) o:=⟨rfl,⟨rfl,fun _=>Nat.le_refl _⟩,rfl,rfl⟩
 have hsz:(w.alloc o).heap.size=w.heap.size+1:=by rw[hp.heap];simp
 refine kw hI hp.chg (Nat.le_succ n) (fun _ _ h=>h.elim) (fun _ _ h=>h) (fun _ _ h h'=>absurd h h') (fun id hid=>.inl (zz _ _ (Z6 hid))) ?_ ?_ ?_ (fun _ _ _ _ _ _ h=>h) ?_ ?_
 ·intro id c b k hid hc hk
  rcases vq hc hI.fresh with⟨_,rfl⟩|⟨h,_⟩
  ·have hb:w.heap.size=b:=hk.1
   exact⟨by omega,.inl (by omega)⟩
  ·omega
 ·intro id hid
  rw[zz _ _ (fun h=>by subst h;exact absurd hid (Nat.not_succ_le_self n))]
  exact hI.fresh id (by omega)
 ·intro i j c d b k hi hj hc hd hj'
  rcases vq hj hI.fresh with⟨rfl,rfl⟩|⟨h,_⟩
  ·rcases vq hi hI.fresh with⟨rfl,_⟩|⟨_,h⟩
   ·rfl
   ·exact(Wj hI h hc (by rw[←hd.1];exact Nat.le_refl _)).elim
  ·omega
 ·intro id hid hg
  rwa [AHeap.get_cons_other _ _ (Z6 hid).symm] at hg
 ·intro id blk' hid
  by_cases h:(n,0)=id
  ·subst h
   rw[AHeap.get_cons_same] at hid
   simp only[Option.some.injEq] at hid
   subst hid
   exact .inr ⟨_,xz _ _ _,hB⟩
  ·rw[AHeap.get_cons_other _ _ h] at hid
   have hne:id≠(n,0):=fun h'=>h h'.symm
   exact .inl ⟨hid,zz _ _ hne,fun _ _ _ _ _ h=>h⟩
theorem zpo(hI:Inv I β n H w){b:Id}{c:CLoc}{blk':ABlock}(hb:H.get b≠none)(hc:β b=some c)(hB:RepB I β n w c blk') :
 Inv I β n (H.set b blk') w∧Ext I β n H w I β n (H.set b blk') w:=by
 refine kw (Wr:=fun _ _=>False) hI ⟨rfl,⟨rfl,fun _=>Nat.le_refl _⟩,rfl,Nat.le_refl _,fun _ _ _=>rfl,fun _ _ _ _=>rfl,fun _ arr _ _ h=>⟨arr,h,rfl⟩,fun _ _ _ h _=>h⟩ (Nat.le_refl n) (fun _ _ h=>h.elim) (fun _ _ h=>h) (fun _ _ h h'=>absurd h h') (fun id hid=>.inl rfl)
  (fun id d b' k hid hd _=>by rw[hI.fresh id hid] at hd;cases hd) hI.fresh (fun i j d d' b' k hi hj h h' _=>hI.inj i j d d' b' k hi hj h h') (fun _ _ _ _ _ _ h=>h) ?_ ?_
 ·intro t _ ht
  rw[AHeap.get_set] at ht
  split at ht
  ·intro h;rw[h] at ht;simp at ht
  ·exact ht
 ·intro id blk hid
  rw[AHeap.get_set] at hid
  by_cases h:b=id
  ·subst h
   rw[if_pos rfl] at hid
   obtain⟨_,_,rfl⟩:=Option.map_eq_some_iff.1 hid
   exact .inr ⟨c,hc,hB⟩
  ·rw[if_neg h] at hid
   exact .inl ⟨hid,rfl,fun d b' k _ _ hk'=>hk'⟩
theorem zvf(hI:Inv I β n H w){b:Id}{c:CLoc}{blk':ABlock}{o o':Obj}{w':World}(hb:H.get b≠none)(hc:β b=some c)(h0:c.lo=0)(h1:0<c.size)(hm:w.heap[c.blk]?=some o)(ho:zfv o=true)(ho':zfv o'=true)
 (hw1:w'.os=w.os) (hw2:TapeOk w w') (hw3:w'.output=w.output) (hw4:w'.heap=w.heap.setIfInBounds c.blk o') (hB:w'.heap[c.blk]?=some o'→(∀k j,w'.cell? ⟨k,j,none⟩=w.cell? ⟨k,j,none⟩)→RepB I β n w' c blk') :
 Inv I β n (H.set b blk') w'∧Ext I β n H w I β n (H.set b blk') w':=by
 have hlt:c.blk<w.heap.size:=by
  rcases Nat.lt_or_ge c.blk w.heap.size with h|h
  ·exact h
  ·rw[Array.getElem?_eq_none h] at hm;cases hm
 have hother:∀k,k≠c.blk→w'.heap[k]?=w.heap[k]?:=fun k hk=>by
  rw[hw4,Array.getElem?_setIfInBounds_ne (fun h=>hk h.symm)]
 have hsame:w'.heap[c.blk]?=some o':=by
  rw[hw4,Array.getElem?_setIfInBounds_self_of_lt hlt]
 have hcell:∀k j,w'.cell? ⟨k,j,none⟩=w.cell? ⟨k,j,none⟩:=by
  intro k j
  by_cases hk:k=c.blk
  ·subst hk
   unfold World.cell?
   simp only[hsame,hm]
   cases o<;>cases o'<;>first|rfl|(cases ho;done)|(cases ho';done)
  ·exact cell?_of_heap (hother k hk)
 have hchg:Chg w w' (fun k j=>k=c.blk∧j=0):=by
  refine⟨hw1,hw2,hw3,by rw[hw4];simp,fun k _ hk=>hother k (fun h=>hk 0 ⟨h,rfl⟩),fun k j _ _=>hcell k j,fun k arr2 el fr hk=>?_,fun k es2 ck2 hk hn=>?_⟩
  ·have:k≠c.blk:=fun h=>by subst h;rw[hm] at hk;simp only[Option.some.injEq] at hk;subst hk;cases ho
   exact⟨arr2,by rw[hother k this];exact hk,rfl⟩
  ·rw[hother k (fun h=>hn ⟨h,rfl⟩)];exact hk
 have hhas:c.has c.blk 0:=⟨rfl,by omega,h1⟩
 refine kw hI hchg (Nat.le_refl n) (fun b' k h=>⟨b,c,hc,hb,by obtain⟨rfl,rfl⟩:=h;exact hhas⟩) (fun _ _ h=>h) (fun _ _ h h'=>absurd h h') (fun id hid=>.inl rfl)
  (fun id d b' k hid hd _=>by rw[hI.fresh id hid] at hd;cases hd) hI.fresh (fun i j d d' b' k hi hj h h' _=>hI.inj i j d d' b' k hi hj h h') (fun _ _ _ _ _ _ h=>h) ?_ ?_
 ·intro t _ ht
  rw[AHeap.get_set] at ht
  split at ht
  ·intro h;rw[h] at ht;simp at ht
  ·exact ht
 ·intro id blk hid
  rw[AHeap.get_set] at hid
  by_cases h:b=id
  ·subst h
   rw[if_pos rfl] at hid
   obtain⟨_,_,rfl⟩:=Option.map_eq_some_iff.1 hid
   exact .inr ⟨c,hc,hB hsame hcell⟩
  ·rw[if_neg h] at hid
   refine .inl ⟨hid,rfl,fun d b' k hd hk hk'=>h (hI.inj b id c d b' k hc hd (by obtain⟨rfl,rfl⟩:=hk';exact hhas) hk)⟩
theorem zpk(hI:Inv I β n H w){K:AVal→AHeap→Nat→Prop}{t kt et:TypeId}(ht:P.underlying t=some (.map kt et)){b:Id}{v:Value}(hx:Rep I β n w (.map b) v){es:List (AVal×AVal)}(hg:H.get b=some (.amap es))
 (hK:∀ (arr:Array MapEntry) (ck:Nat),K (.ptr (n,0) 0 0) (((n,0),.itr (some b) arr ck [])::H.set b (.rmap es arr ck)) (n+1)):∃u w',(Instr.range t v).run P w=.ok u w'∧Zk I β n H w K u w':=by
 obtain⟨c,hc,h1,h2,arr,ck,h3,h4⟩:=hI.blocks b _ hg
 have hv:v=.map (some c.blk):=by
  cases hx with
  |imm _ _ h=>cases h
  |map _ q _ hq=>rw[hq c hc]
 subst hv
 obtain⟨g1,g2⟩:=zpo hI (by rw[hg];simp) hc (blk':=.rmap es arr ck) ⟨h1,h2,h3,h4⟩
 have hbn:=Yh hI hc
 obtain⟨k1,k2⟩:=Kq g1 (o:=z4c (some c.blk) arr ck []) (blk:=.itr (some b) arr ck []) ⟨rfl,Nat.one_pos,⟨rfl,fun _ h=>by cases h⟩,some c.blk,(⟨rfl,⟨rfl,fun _=>Nat.le_refl _⟩,rfl,rfl⟩:Pushed w (w.alloc (z4c (some c.blk) arr ck [])) _).new,Nat.lt_succ_of_lt hbn,c.blk,rfl,fun d hd=>by
  rw[zz _ _ (Z6 hbn),hc] at hd;simp only[Option.some.injEq] at hd;rw[hd]⟩
 refine⟨.pointer (some ⟨w.heap.size,0,none⟩),_,?_,_,_,_,_,_,hK arr ck,k1,.ptr _ _ _ _ (Nat.lt_succ_self n) (fun d hd=>?_),g2.trans k2⟩
 ·simp[Instr.range,zf ht,MapKept.run_getObj_map h3]
  rfl
 ·rw[xz] at hd;simp only[Option.some.injEq] at hd;subst hd;rfl
theorem zjt(hI:Inv I β n H w){K:AVal→AHeap→Nat→Prop}{t kt et:TypeId}(ht:P.underlying t=some (.map kt et))(hK:K (.ptr (n,0) 0 0) (((n,0),.itr none #[] 0 [])::H) (n+1)):∃u w',(Instr.range t (.map none)).run P w=.ok u w'∧Zk I β n H w K u w':=by
 obtain⟨k1,k2⟩:=Kq hI (o:=z4c none #[] 0 []) (blk:=.itr none #[] 0 []) ⟨rfl,Nat.one_pos,⟨rfl,fun _ h=>by cases h⟩,none,(⟨rfl,⟨rfl,fun _=>Nat.le_refl _⟩,rfl,rfl⟩:Pushed w (w.alloc (z4c none #[] 0 [])) _).new,rfl⟩
 refine⟨.pointer (some ⟨w.heap.size,0,none⟩),_,?_,_,_,_,_,_,hK,k1,.ptr _ _ _ _ (Nat.lt_succ_self n) (fun d hd=>?_),k2⟩
 ·simp[Instr.range,zf ht]
  rfl
 ·rw[xz] at hd;simp only[Option.some.injEq] at hd;subst hd;rfl
theorem z2f{arr:Array MapEntry}{j:Nat}{seen:List Nat}{e:MapEntry}(h:arr[j]?=some e):(Q5 arr seen).push e.born=Q5 arr (j::seen):=by
 unfold Q5
 simp[h]
theorem z3e{arr:Array MapEntry}{j:Nat}{seen:List Nat}{e:MapEntry}(hs:∀i∈seen,i<arr.size)(hb:∀ (i j:Nat) (e e':MapEntry),i<j→arr[i]?=some e→arr[j]?=some e'→e.born<e'.born)(h:arr[j]?=some e):(Q5 arr seen).contains e.born=true↔j∈seen:=by
 unfold Q5
 rw[Array.contains_iff_mem,List.mem_toArray,List.mem_map]
 constructor
 ·rintro⟨i,hi,he⟩
  have hi:=List.mem_reverse.1 hi
  have hlt:=hs i hi
  rw[Array.getElem?_eq_getElem hlt] at he
  simp only at he
  rcases Nat.lt_trichotomy i j with h'|h'|h'
  ·have:=hb i j _ _ h' (Array.getElem?_eq_getElem hlt) h;omega
  ·subst h';exact hi
  ·have:=hb j i _ _ h' h (Array.getElem?_eq_getElem hlt);omega
 ·intro hj
  exact⟨j,List.mem_reverse.2 hj,by rw[h]⟩
theorem zbj(hI:Inv I β n H w){i:Id}{v:Value}(hx:Rep I β n w (.ptr i 0 0) v){c:CLoc}(hc:β i=some c)(h0:c.base=0):v=.pointer (some ⟨c.blk,0,none⟩):=by
 cases hx with
 |imm _ _ h=>cases h
 |ptr _ _ _ a _ hq=>rw[hq c hc,h0];simp
theorem zw6(hI:Inv I β n H w){K:AVal→AHeap→Nat→Prop}{i b:Id}{v:Value}(hx:Rep I β n w (.ptr i 0 0) v){arr:Array MapEntry}{ck:Nat}{seen:List Nat}{es:List (AVal×AVal)}{ty:TypeId}
 (hi:H.get i=some (.itr (some b) arr ck seen)) (hb:H.get b=some (.rmap es arr ck)) (h0:(∀j,j<es.length→j∈seen)→K (.tup [.bool false]) H n)
 (h1:∀j,j<es.length→j∉seen→K (.tup [.bool true,.any,.any]) (H.set i (.itr (some b) arr ck (j::seen))) n):∃u w',(Instr.next v false ty).run P w=.ok u w'∧Zk I β n H w K u w':=by
 obtain⟨c,hc,c1,c2,⟨c6,c7⟩,k,c3,c4,k',rfl,c5⟩:=hI.blocks i _ hi
 obtain⟨d,hd,d1,d2,d3,d4⟩:=hI.blocks b _ hb
 have hkd:=c5 d hd
 subst hkd
 have hv:=zbj hI hx hc c6
 subst hv
 have hlen:=d4.len
 have old:∀x∈arr.toList,x.born<ck:=fun x hx=>by
  obtain⟨q,hq⟩:=List.mem_iff_getElem?.1 hx
  exact d4.clk q x (by simpa using hq)
 have refl:Ext I β n H w I β n H w:=Ext.refl _ _ _ _ _ hI.fresh
 rcases run_next_at (P:=P) w ty c.blk d.blk ck ck (Q5 arr seen) arr ck c3 d3 old (Nat.le_refl _) with⟨hz,hr⟩|⟨e,he,w1,hw1,hr⟩
 ·refine⟨_,_,hr,_,_,_,_,_,h0 ?_,hI,.tup [.bool false] _ rfl (fun q x u hx hu=>?_),refl⟩
  ·intro j hj
   have hj':j<arr.size:=by omega
   have hcon:(Q5 arr seen).contains (arr[j]).born=true:=by
    cases hq:(Q5 arr seen).contains (arr[j]).born with
    |true=>rfl
    |false=>
     have:arr[j]∈leftOf arr (Q5 arr seen):=by
      unfold leftOf
      rw[Array.mem_filter]
      exact⟨Array.getElem_mem hj',by rw[hq];rfl⟩
     rw[Array.eq_empty_of_size_eq_zero hz] at this
     cases(Array.not_mem_empty _ this)
   exact(z3e c7 d4.born (Array.getElem?_eq_getElem hj')).1 hcon
  ·cases q with
   |zero=>simp at hx hu;subst hx;subst hu;exact .imm _ _ (.bool false)
   |succ q=>simp at hx
 ·have hel:e∈leftOf arr (Q5 arr seen):=by simpa using he
  unfold leftOf at hel
  rw[Array.mem_filter] at hel
  obtain⟨hmem,hnc⟩:=hel
  obtain⟨j,hj,rfl⟩:=Array.getElem_of_mem hmem
  have hns:j∉seen:=fun h=>by
   have:=(z3e c7 d4.born (Array.getElem?_eq_getElem hj)).2 h
   rw[this] at hnc;cases hnc
  have hw':w1.heap=w.heap∧w1.os=w.os∧TapeOk w w1∧w1.output=w.output:=hw1.elim (fun e=>e▸⟨rfl,rfl,⟨rfl,fun _=>Nat.le_refl _⟩,rfl⟩) (fun e=>e▸⟨rfl,rfl,⟨rfl,fun _=>Nat.le_succ _⟩,rfl⟩)
  obtain⟨e1,e2,e3,e4⟩:=hw'
  rw[z2f (Array.getElem?_eq_getElem hj)] at hr
  obtain⟨g1,g2⟩:=zvf (w':=ChangeMaps.setBlock w1 c.blk (z4c (some d.blk) arr ck (j::seen))) hI (by rw[hi];simp) hc c1 c2 c3 rfl rfl e2 ⟨e3.eq,e3.le⟩ e4 (by simp only[ChangeMaps.setBlock,e1]) (blk':=.itr (some b) arr ck (j::seen)) (fun q1 q2=>
   ⟨c1,c2,⟨c6,fun q hq=>(List.mem_cons.1 hq).elim (fun e=>e▸hj) (c7 q)⟩,_,q1,c4,_,rfl,c5⟩)
  refine⟨_,_,hr,_,_,_,_,_,h1 j (by omega) hns,g1,.tup [.bool true,.any,.any] _ rfl (fun q x u hx hu=>?_),g2⟩
  match q with
  |0=>simp at hx hu;subst hx;subst hu;exact .imm _ _ (.bool true)
  |1=>simp at hx;subst hx;exact .any _
  |2=>simp at hx;subst hx;exact .any _
  |q+3=>simp at hx
theorem zrx(hI:Inv I β n H w){K:AVal→AHeap→Nat→Prop}{i:Id}{v:Value}(hx:Rep I β n w (.ptr i 0 0) v){arr:Array MapEntry}{ck:Nat}{seen:List Nat}{ty:TypeId}
 (hi:H.get i=some (.itr none arr ck seen)) (h0:K (.tup [.bool false]) H n):∃u w',(Instr.next v false ty).run P w=.ok u w'∧Zk I β n H w K u w':=by
 obtain⟨c,hc,c1,c2,⟨c6,c7⟩,k,c3,rfl⟩:=hI.blocks i _ hi
 have hv:=zbj hI hx hc c6
 subst hv
 have refl:Ext I β n H w I β n H w:=Ext.refl _ _ _ _ _ hI.fresh
 refine⟨.tuple #[.bool false],w,?_,_,_,_,_,_,h0,hI,.tup [.bool false] _ rfl (fun q x u hx hu=>?_),refl⟩
 ·have:w.heap[c.blk]?=some (.mapIter none ck (Q5 arr seen) ck):=c3
  simp[Instr.next,getObj,Sem.run,this]
 ·cases q with
  |zero=>simp at hx hu;subst hx;subst hu;exact .imm _ _ (.bool false)
  |succ q=>simp at hx
theorem zqu(hI:Inv I β n H w){K:AVal→AHeap→Nat→Prop}{i b:Id}{v:Value}(hx:Rep I β n w (.ptr i 0 0) v){arr:Array MapEntry}{ck j:Nat}{seen:List Nat}{es:List (AVal×AVal)}{p:AVal×AVal}
 (hi:H.get i=some (.itr (some b) arr ck (j::seen))) (hb:H.get b=some (.rmap es arr ck)) (hp:es[j]?=some p) (h:K (.tup [p.1,p.2]) H n):∃u w',(Instr.entry v).run P w=.ok u w'∧Zk I β n H w K u w':=by
 obtain⟨c,hc,c1,c2,⟨c6,c7⟩,k,c3,c4,k',rfl,c5⟩:=hI.blocks i _ hi
 obtain⟨d,hd,d1,d2,d3,d4⟩:=hI.blocks b _ hb
 have hkd:=c5 d hd
 subst hkd
 have hv:=zbj hI hx hc c6
 subst hv
 have refl:Ext I β n H w I β n H w:=Ext.refl _ _ _ _ _ hI.fresh
 have hj:j<arr.size:=c7 j (List.mem_cons_self ..)
 have hje:=Array.getElem?_eq_getElem hj
 have c3':w.heap[c.blk]?=some (.mapIter (some d.blk) ck ((Q5 arr seen).push (arr[j]).born) ck):=by rw[z2f hje];exact c3
 have nd:(arr.toList.map (·.born)).Nodup:=by
  rw[List.nodup_iff_pairwise_ne,List.pairwise_map,List.pairwise_iff_getElem]
  intro q1 q2 hq1 hq2 hlt he
  have:=d4.born q1 q2 arr[q1]! arr[q2]! hlt (by simp at hq1;simp[hq1]) (by simp at hq2;simp[hq2])
  simp at hq1 hq2
  simp[hq1,hq2] at this he
  omega
 have hr:=run_entry_at (P:=P) w c.blk d.blk ck (Q5 arr seen) arr ck arr[j] c3' d3 (by simp) nd
 obtain⟨g1,g2⟩:=d4.ent j p.1 p.2 _ hp hje
 refine⟨_,_,hr,_,_,_,_,_,h,hI,.tup [p.1,p.2] _ rfl (fun q x u hx hu=>?_),refl⟩
 match q with
 |0=>simp at hx hu;subst hx;subst hu;exact .imm _ _ g1
 |1=>simp at hx hu;subst hx;subst hu;exact g2
 |q+2=>simp at hx
theorem z9g{ks:List CK}{k x:AVal}:∀ {es es':List (AVal×AVal)},zie ks k x es=some es'→∃p,Yt ks k es=some p∧(match p with
 |none=>es'=es++[(k,x)]
 |some i=>∃k' y,es[i]?=some (k',y)∧X6 ks k k'=some true∧es'=es.set i (k,x))
 |[],es',h=>by simp only[zie,Option.some.injEq] at h;subst h;exact⟨none,rfl,rfl⟩
 |(k',y)::r,es',h=>by
  simp only[zie] at h
  simp only[Yt]
  split at h
  ·rename_i hc
   simp only[Option.some.injEq] at h
   subst h
   exact⟨some 0,by simp only[hc],k',y,rfl,hc,rfl⟩
  ·rename_i hc
   simp only[Option.map_eq_some_iff] at h
   obtain⟨r',hr,rfl⟩:=h
   obtain⟨p,h1,h2⟩:=z9g hr
   simp only[hc,h1,Option.map_some]
   refine⟨_,rfl,?_⟩
   cases p with
   |none=>simp only[Option.map_none] at h2 ⊢;rw[h2];rfl
   |some i=>
    simp only[Option.map_some] at h2 ⊢
    obtain⟨k2,y2,g1,g2,g3⟩:=h2
    exact⟨k2,y2,by simpa using g1,g2,by rw[g3];rfl⟩
  ·cases h
theorem z45{ks:List CK}{k:AVal}:∀ {es es':List (AVal×AVal)},z29 ks k es=some es'→∃p,Yt ks k es=some p∧(match p with
 |none=>es'=es
 |some i=>es'=es.eraseIdx i∧i<es.length)
 |[],es',h=>by simp only[z29,Option.some.injEq] at h;subst h;exact⟨none,rfl,rfl⟩
 |(k',y)::r,es',h=>by
  simp only[z29] at h
  simp only[Yt]
  split at h
  ·rename_i hc
   simp only[Option.some.injEq] at h
   subst h
   exact⟨some 0,by simp only[hc],rfl,by simp⟩
  ·rename_i hc
   simp only[Option.map_eq_some_iff] at h
   obtain⟨r',hr,rfl⟩:=h
   obtain⟨p,h1,h2⟩:=z45 hr
   simp only[hc,h1,Option.map_some]
   refine⟨_,rfl,?_⟩
   cases p with
   |none=>simp only[Option.map_none] at h2 ⊢;rw[h2]
   |some i=>
    simp only[Option.map_some] at h2 ⊢
    obtain⟨g1,g2⟩:=h2
    exact⟨by rw[g1];rfl,by simp;exact g2⟩
  ·cases h
theorem zqg{g:Bool}{zs:List AVal}{x y:AVal}(h:zxu g zs x=some y){v:Value}(hr:Rep I β n w x v):Rep I β n w y v:=by
 unfold zxu at h
 split at h
 ·rename_i cs hx
  simp only[Option.some.injEq] at h
  subst h
  have:=Zi x hx hr
  cases this with
  |agg _ vs h1 h2 h3=>
   obtain⟨hl,hg⟩:=Yb zs cs
   refine .imm _ _ (.agg _ vs (by rw[hl];exact h1) h2 (fun i z u hz hu=>?_))
   obtain⟨x0,z0,q1,q2⟩:=hg i z hz
   rcases q2 with rfl|rfl
   ·exact h3 i _ u q1 hu
   ·exact Kz z0 (h3 i _ u q1 hu)
 ·rename_i y0 hx
  have hR:=Zi x hx hr
  split at h<;>simp only[Option.some.injEq,reduceCtorEq] at h
  subst h
  exact .imm _ _ (Kz _ hR)
 ·split at h<;>simp only[Option.some.injEq,reduceCtorEq] at h<;>(subst h;exact hr)
 ·cases h
theorem getElem?_set' {es:List (AVal×AVal)} {i j:Nat} {y z:AVal×AVal} (h:(es.set i y)[j]?=some z):(i=j∧z=y∧i<es.length)∨(i≠j∧es[j]?=some z):=by
 rw[List.getElem?_set] at h
 split at h
 ·split at h
  ·rename_i h1 h2;simp only[Option.some.injEq] at h;exact .inl ⟨h1,h.symm,by subst h1;exact h2⟩
  ·cases h
 ·rename_i h1;exact .inr ⟨h1,h⟩
theorem Jt{arr:Array MapEntry}{x:MapEntry}{j:Nat}{e:MapEntry}(h:(arr.push x)[j]?=some e):(j<arr.size∧arr[j]?=some e)∨(j=arr.size∧e=x):=by
 rw[Array.getElem?_push] at h
 split at h
 ·rename_i h1;simp only[Option.some.injEq] at h;exact .inr ⟨h1,h.symm⟩
 ·have:j<arr.size:=by
   rcases Nat.lt_or_ge j arr.size with h'|h'
   ·exact h'
   ·rw[Array.getElem?_eq_none h'] at h;cases h
  exact .inl ⟨this,h⟩
theorem zk0(hI:Inv I β n H w){K:AVal→AHeap→Nat→Prop}{t kt et:TypeId}{ks:List CK}{ka g:Bool}{zs:List AVal}(ht:P.underlying t=some (.map kt et))(hks:Z3 P 50 kt=some ks)(hka:W5 P kt=some ka)
 {b:Id} {vm vk vx:Value} {k x y:AVal} (hm:Rep I β n w (.map b) vm) (hk:Rep I β n w k vk) (hx:Rep I β n w x vx) (hy:zxu g zs x=some y) {es es':List (AVal×AVal)} (hg:H.get b=some (.amap es)) (hp:zie ks k y es=some es') (hok:Jb ks ka k=true)
 (hki:k.imm=some k) (hK:K .any (H.set b (.amap es')) n):∃w',(Instr.mapUpdate t vm vk vx).run P w=.ok () w'∧∀v,Zk I β n H w K v w':=by
 obtain⟨c,hc,h1,h2,arr,ck,h3,h4⟩:=hI.blocks b _ hg
 have hv:vm=.map (some c.blk):=by
  cases hm with
  |imm _ _ h=>cases h
  |map _ q _ hq=>rw[hq c hc]
 subst hv
 obtain⟨hag,b0,hb0⟩:=Yz hok
 have hkc:=X5 hk
 rw[hag] at hkc
 have hck:=Xq (P:=P) (w:=w) (I:=I) (β:=β) (n:=n) false 50 kt ks hks 10000 (by omega) hka hkc b0 hb0
 obtain⟨p,hpl,hps⟩:=z9g hp
 have hf:=Jz hks hka hk hok (zjv h4) hpl
 have hkI:RepI I w k vk:=by
  exact Zi k hki hk
 have hyI:=zqg hy hx
 have fin:∀ {arr':Array MapEntry} {ck':Nat},MapIn I β n w es' arr' ck'→∀v,Zk I β n H w K v { w with heap:=w.heap.setIfInBounds c.blk (.map arr' ck') }:=by
  intro arr' ck' hin v
  obtain⟨g1,g2⟩:=zix hI hg hc h1 h2 h3 hin
  exact⟨.any,_,_,_,_,hK,g1,.any v,g2⟩
 cases p with
 |none=>
  simp only at hps
  subst hps
  refine⟨_,?_,fin (arr':=arr.push { key:=vk,val:=vx,born:=ck }) (ck':=ck+1) ⟨by simp[h4.len],fun i k' x' e hi he=>?_,fun i j e e' hij hi hj=>?_,fun i e hi=>?_⟩⟩
  ·unfold Instr.mapUpdate
   simp only[Sem.run_bind,zf ht,Result.andThen_ok,MapKept.run_getObj_map h3,hck,hf,Zs,Option.bind_none,MapKept.run_setObj_map _ h3]
  ·rcases Jt he with⟨g1,g2⟩|⟨g1,rfl⟩
   ·rw[List.getElem?_append_left (by rw[←h4.len];exact g1)] at hi
    exact h4.ent i k' x' e hi g2
   ·rw[g1,h4.len,List.getElem?_append_right (Nat.le_refl _)] at hi
    simp only[Nat.sub_self,List.getElem?_cons_zero,Option.some.injEq,Prod.mk.injEq] at hi
    obtain⟨rfl,rfl⟩:=hi
    exact⟨hkI,hyI⟩
  ·rcases Jt hj with⟨g1,g2⟩|⟨g1,rfl⟩
   ·rcases Jt hi with⟨g3,g4⟩|⟨g3,rfl⟩
    ·exact h4.born i j e e' hij g4 g2
    ·omega
   ·rcases Jt hi with⟨g3,g4⟩|⟨g3,rfl⟩
    ·exact h4.clk i e g4
    ·omega
  ·rcases Jt hi with⟨g1,g2⟩|⟨g1,rfl⟩
   ·have:=h4.clk i e g2;omega
   ·exact Nat.lt_succ_self ck
 |some i=>
  simp only at hps
  obtain⟨k',y',g1,g2,rfl⟩:=hps
  have hi:i<arr.size:=by rw[h4.len];exact zas g1
  obtain⟨r1,r2⟩:=h4.ent i k' y' arr[i] g1 (Array.getElem?_eq_getElem hi)
  obtain⟨s1,s2⟩:=zmn (P:=P) hok g2 hk r1
  have hmod:∀ (j:Nat),(arr.modify i fun e=>{ e with key:=vk,val:=vx })[j]?=if i=j then(arr[j]?).map (fun e=>{ e with key:=vk,val:=vx }) else arr[j]?:=fun j=>by rw[Array.getElem?_modify]
  refine⟨_,?_,fin (arr':=arr.modify i fun e=>{ e with key:=vk,val:=vx }) (ck':=ck) ⟨by simp[h4.len],fun j k2 x2 e hj he=>?_,fun j l e e' hjl hj hl=>?_,fun j e hj=>?_⟩⟩
  ·unfold Instr.mapUpdate
   simp only[Sem.run_bind,zf ht,Result.andThen_ok,MapKept.run_getObj_map h3,hck,hf,Zs,Option.bind_some,Array.getElem?_toList,Array.getElem?_eq_getElem hi,Option.map_some,Nat.zero_add,Option.getD_some,s2,MapKept.run_setObj_map _ h3]
  ·rw[hmod] at he
   rcases getElem?_set' hj with⟨q1,q2,_⟩|⟨q1,q2⟩
   ·subst q1
    rw[if_pos rfl,Array.getElem?_eq_getElem hi] at he
    simp only[Option.map_some,Option.some.injEq] at he
    simp only[Prod.mk.injEq] at q2
    obtain⟨rfl,rfl⟩:=q2
    subst he
    exact⟨hkI,hyI⟩
   ·rw[if_neg q1] at he
    exact h4.ent j k2 x2 e q2 he
  ·have ob:∀ (j:Nat) (e:MapEntry),(arr.modify i fun e=>{ e with key:=vk,val:=vx })[j]?=some e→∃e0,arr[j]?=some e0∧e.born=e0.born:=by
    intro j e hj
    rw[hmod] at hj
    split at hj
    ·simp only[Option.map_eq_some_iff] at hj
     obtain⟨e0,q1,rfl⟩:=hj
     exact⟨e0,q1,rfl⟩
    ·exact⟨e,hj,rfl⟩
   obtain⟨e0,q1,q2⟩:=ob j e hj
   obtain⟨e1,q3,q4⟩:=ob l e' hl
   rw[q2,q4];exact h4.born j l e0 e1 hjl q1 q3
  ·rw[hmod] at hj
   split at hj
   ·simp only[Option.map_eq_some_iff] at hj
    obtain⟨e0,q1,rfl⟩:=hj
    exact h4.clk j e0 q1
   ·exact h4.clk j e hj
theorem zw8(hI:Inv I β n H w){K:AVal→AHeap→Nat→Prop}{t t2 rt kt et:TypeId}{ks:List CK}{ka:Bool}(ht:P.underlying t=some (.map kt et))(hks:Z3 P 50 kt=some ks)(hka:W5 P kt=some ka)
 {b:Id} {vm vk:Value} {k:AVal} (hm:Rep I β n w (.map b) vm) (hk:Rep I β n w k vk) {es es':List (AVal×AVal)} (hg:H.get b=some (.amap es)) (hp:z29 ks k es=some es') (hok:Jb ks ka k=true)
 (hK:K .any (H.set b (.amap es')) n):∃v w',(Builtin.delete_ #[t,t2] rt #[vm,vk]).run P w=.ok v w'∧Zk I β n H w K v w':=by
 obtain⟨c,hc,h1,h2,arr,ck,h3,h4⟩:=hI.blocks b _ hg
 have hv:vm=.map (some c.blk):=by
  cases hm with
  |imm _ _ h=>cases h
  |map _ q _ hq=>rw[hq c hc]
 subst hv
 obtain⟨hag,b0,hb0⟩:=Yz hok
 have hkc:=X5 hk
 rw[hag] at hkc
 have hck:=Xq (P:=P) (w:=w) (I:=I) (β:=β) (n:=n) arr.isEmpty 50 kt ks hks 10000 (by omega) hka hkc b0 hb0
 obtain⟨p,hpl,hps⟩:=z45 hp
 have hf:=Jz hks hka hk hok (zjv h4) hpl
 have fin:∀ {arr':Array MapEntry} {ck':Nat},MapIn I β n w es' arr' ck'→∀v,Zk I β n H w K v { w with heap:=w.heap.setIfInBounds c.blk (.map arr' ck') }:=by
  intro arr' ck' hin v
  obtain⟨g1,g2⟩:=zix hI hg hc h1 h2 h3 hin
  exact⟨.any,_,_,_,_,hK,g1,.any v,g2⟩
 cases p with
 |none=>
  simp only at hps
  subst hps
  refine⟨_,_,?_,fin (arr':=arr) (ck':=ck) h4 (.tuple #[])⟩
  unfold Builtin.delete_
  simp only[List.getElem?_toArray,List.getElem?_cons_zero,List.getElem?_cons_succ,Sem.run_bind,zf ht,Result.andThen_ok,MapKept.run_getObj_map h3,hck,hf,Zs,Option.bind_none,MapKept.run_setObj_map _ h3,Sem.run_pure]
 |some i=>
  simp only at hps
  obtain⟨rfl,hlt⟩:=hps
  have hi:i<arr.size:=by rw[h4.len];exact hlt
  have her:∀j,(arr.eraseIdxIfInBounds i)[j]?=if j<i then arr[j]? else arr[j+1]?:=by
   intro j
   rw[Array.eraseIdxIfInBounds,dif_pos hi,Array.getElem?_eraseIdx]
  have hel:∀j,(es.eraseIdx i)[j]?=if j<i then es[j]? else es[j+1]?:=fun j=>by rw[List.getElem?_eraseIdx]
  refine⟨_,_,?_,fin (arr':=arr.eraseIdxIfInBounds i) (ck':=ck) ⟨?_,fun j k2 x2 e hj he=>?_,fun j l e e' hjl hj hl=>?_,fun j e hj=>?_⟩ (.tuple #[])⟩
  ·unfold Builtin.delete_
   simp only[List.getElem?_toArray,List.getElem?_cons_zero,List.getElem?_cons_succ,Sem.run_bind,zf ht,Result.andThen_ok,MapKept.run_getObj_map h3,hck,hf,Zs,Option.bind_some,Array.getElem?_toList,Array.getElem?_eq_getElem hi,Option.map_some,Nat.zero_add,MapKept.run_setObj_map _ h3,Sem.run_pure]
  ·rw[Array.eraseIdxIfInBounds,dif_pos hi,Array.size_eraseIdx,List.length_eraseIdx_of_lt hlt,h4.len]
  ·rw[hel] at hj
   rw[her] at he
   split at hj
   ·rename_i h;rw[if_pos h] at he;exact h4.ent j k2 x2 e hj he
   ·rename_i h;rw[if_neg h] at he;exact h4.ent (j+1) k2 x2 e hj he
  ·rw[her] at hj hl
   split at hj<;>split at hl
   ·exact h4.born _ _ _ _ (by omega) hj hl
   ·exact h4.born _ _ _ _ (by omega) hj hl
   ·omega
   ·exact h4.born _ _ _ _ (by omega) hj hl
  ·rw[her] at hj
   split at hj
   ·exact h4.clk _ _ hj
   ·exact h4.clk _ _ hj
theorem zqh(hI:Inv I β n H w){K:AVal→AHeap→Nat→Prop}{t:TypeId}(hK:K (.map (n,0)) (((n,0),.amap [])::H) (n+1)):∃v w',(Instr.makeMap t none).run P w=.ok v w'∧Zk I β n H w K v w':=by
 obtain⟨g1,g2⟩:=zfx hI
 refine⟨.map (some w.heap.size),w.alloc (.map #[] 0),?_,_,_,_,_,_,hK,g1,.map _ _ (Nat.lt_succ_self n) (fun c hc=>?_),g2⟩
 ·rfl
 ·rw[xz] at hc;simp only[Option.some.injEq] at hc;subst hc;rfl
theorem zfc:∀ {ks:List CK} {cs:List AVal} {b:Bool},yz ks cs cs=some b→AVal.imm.immL cs=some cs
 |[],[],_,_=>rfl
 |[],_::_,_,h=>by simp[yz] at h
 |_::_,[],_,h=>by simp[yz] at h
 |k::ks,y::ys,b,h=>by
  simp only[yz] at h
  split at h<;>try (cases h;done)
  rename_i a b' h1 h2
  have h3:=zfc h2
  have:y.imm=some y:=by cases k<;>cases y<;>simp[Q7] at h1<;>rfl
  simp only[AVal.imm.immL,this,h3]
theorem znc{ks:List CK}{ka:Bool}{k:AVal}(h:Jb ks ka k=true):k.imm=some k:=by
 obtain⟨_,b,hb⟩:=Yz h
 have:=zfc hb
 cases k with
 |agg cs=>simp only[xv] at this;simp only[AVal.imm,this,Option.map_some]
 |_=>
  simp only[xv,AVal.imm.immL] at this
  split at this<;>simp_all
end
end Go.Fx
