/-
  Own framework.
-/
import Derived.Test.YtejfgjggcoemeaaFxLb
import Derived.Shelf.SlSortCmp.NoneTotal
namespace Go.Fx
open Go.Shelf Go.RowKit Go.Lib Go.Sort Go.Proofs
set_option linter.unusedVariables false
theorem zj8{I I':Nat→Nat→Prop}{β':Id→Option CLoc}{n':Nat}{H':AHeap}{w w':World}(h:Ext I (fun _=>none) 0 [] w I' β' n' H' w'):∃n os,w'=grow (w.drewN n) os:=by
 refine⟨w'.drawn-w.drawn,w'.heap.extract w.heap.size w'.heap.size,?_⟩
 have h1:=h.os
 have h2:=h.tape.eq
 have h3:=h.tape.le rfl
 have h4:=h.output
 have h5:w'.heap=w.heap++w'.heap.extract w.heap.size w'.heap.size:=by
  refine Array.ext_getElem? fun i=>?_
  rw[Array.getElem?_append]
  split
  ·rename_i hi
   exact h.frame i hi (fun id c k hc=>by cases hc)
  ·rename_i hi
   rw[Array.getElem?_extract]
   split
   ·congr 1;omega
   ·rename_i hi2
    exact Array.getElem?_eq_none (by omega)
 have h6:w'.drawn=w.drawn+(w'.drawn-w.drawn):=by omega
 obtain⟨hp,tp,dr,os,out⟩:=w'
 simp only at h1 h2 h4 h5 h6
 unfold grow World.drewN
 simp only[World.mk.injEq]
 exact⟨h5,h2,h6,h1,h4⟩
theorem PFn.cmp{P:Program}{f:FuncId}{α:Type}{e:α→List AVal}(he:∀x,(e x).all z56=true){x y:α}{r:Int}(h:PFn P f [.agg (e x),.agg (e y)] (.int .i64 r))(W:World) :
 Calls P f #[.agg ((e x).map ziy).toArray,.agg ((e y).map ziy).toArray] W fun q w'=>q=.returned (.int .i64 r)∧∃m os,w'=grow (W.drewN m) os:=by
 obtain⟨_,m,hok,hc⟩:=h
 have hI:Inv (fun _ _=>False) (fun _=>none) 0 [] W:=⟨(fun _ _ h=>nomatch h),(fun _ _ _ _ _ _ h=>nomatch h),(fun _ _ _ _ h=>nomatch h),(fun _ _ (h:False)=>h.elim),fun _ _=>rfl,(show GlobOk _ W from⟨(fun _ hx=>nomatch hx),(fun _ hx=>nomatch hx)⟩)⟩
 have ag:∀z:α,RepI (fun _ _=>False) W (.agg (e z)) (.agg ((e z).map ziy).toArray):=fun z=>by
  refine .agg _ _ (by simp) (fun v hv=>?_) (fun i u v hu hv=>?_)
  ·simp only[List.mem_map] at hv
   obtain⟨u,hu,rfl⟩:=hv
   exact z5z (List.all_eq_true.1 (he z) u hu)
  ·simp only[List.getElem?_toArray,List.getElem?_map,hu,Option.map_some,Option.some.injEq] at hv
   subst hv
   exact zs8 (List.all_eq_true.1 (he z) u (List.mem_of_getElem? hu))
 refine(hc _ _ W [.agg ((e x).map ziy).toArray,.agg ((e y).map ziy).toArray] hI rfl (fun i u v hu hv=>?_)).mono ?_
 ·match i with
  |0=>simp only[List.getElem?_cons_zero,Option.some.injEq] at hu hv;subst hu;subst hv;exact .imm _ _ (ag x)
  |1=>simp only[List.getElem?_cons_succ,List.getElem?_cons_zero,Option.some.injEq] at hu hv;subst hu;subst hv;exact .imm _ _ (ag y)
  |i+2=>simp at hu
 ·rintro q w' ⟨r',v,H',n',I',β',rfl,⟨rfl,rfl,rfl⟩,_,hr,hx⟩
  exact⟨by rw[hr.int_inv],zj8 hx⟩
section
variable {P:Program} {ρ:Ren} {α:Type} [Inhabited α]
def Qp(e:α→List AVal)(x:α):List Value:=(e x).map ziy
def Zy(cf:α→α→Int)(l:List α):List α:=(pdq (ltOf cf) l.toArray 0 l.length (Lib.bitLen l.length) true true).toList
theorem z1e{cf:α→α→Int}(hO:SWO (ltOf cf))(l:List α):(Zy cf l).Perm l∧(Zy cf l).Pairwise fun x y=>ltOf cf y x=false:=by
 have h:=pdq_sorts (ltOf cf) hO l.toArray 0 l.length (Lib.bitLen l.length) true true (Nat.zero_le _) (by simp) (Or.inl rfl)
 obtain⟨⟨h1,h2,h3⟩,h4⟩:=h
 have e1:∀d:Array α,d.size=l.length→(d.extract 0 l.length).toList=d.toList:=fun d hd=>by
  rw[←hd];simp
 rw[e1 _ (by rw[h1];simp),e1 _ (by simp)] at h3
 refine⟨by unfold Zy;simpa using h3,?_⟩
 rw[List.pairwise_iff_getElem]
 intro i j hi hj hij
 unfold Zy at hi hj ⊢
 have:=h4 i j (Nat.zero_le _) hij (by simpa[h1] using hj)
 rw[Array.length_toList] at hi hj
 simp only[Array.getElem_toList]
 rwa [getElem!_pos _ j hj,getElem!_pos _ i hi] at this
theorem Qo{cf:α→α→Int}(hO:SWO (ltOf cf))(l:List α):(Zy cf l).length=l.length:=(z1e hO l).1.length_eq
theorem zju{w:World}{c:CLoc}{enc:α→List Value}{k m:Nat}{d0 d:Array α}{os:Array Obj}(hk:0<k)(h0:HoldsK enc k w c.blk c.base d0)(hs:d.size=d0.size)(hne:0<d0.size)(hlo:c.lo≤c.base)(hsz:c.base+d0.size*k≤c.size) :
 Chg w (sortWorldK enc k w c.blk c.base m d os) c.has:=by
 have hb:c.blk<w.heap.size:=by
  have:=(h0 0 (by simp;exact Nat.mul_pos hne hk)).1
  exact kb this
 have hin:c.has c.blk c.base:=⟨rfl,hlo,by have:=Nat.mul_pos hne hk;omega⟩
 have hput:∀b,b≠c.blk→(putRowK enc k (Sort.ahead w m) c.blk c.base d).heap[b]?=w.heap[b]?:=fun b hb'=>by
  unfold putRowK putRow mapBlock
  simp only[Array.getElem?_modify,heap_ahead]
  rw[if_neg (fun e=>hb' e.symm)]
 have hold:∀b,b<w.heap.size→(sortWorldK enc k w c.blk c.base m d os).heap[b]?=(putRowK enc k (Sort.ahead w m) c.blk c.base d).heap[b]?:=fun b hb'=>heap_grow_old _ _ (by unfold putRowK;simpa using hb')
 have hat:∀o,w.heap[c.blk]?=some o→(putRowK enc k (Sort.ahead w m) c.blk c.base d).heap[c.blk]?=some (onCells (putCells id c.base (flatK enc k d)) o):=fun o ho=>by
  unfold putRowK putRow mapBlock
  simp only[Array.getElem?_modify,heap_ahead,if_pos,ho,Option.map_some]
 refine⟨rfl,⟨rfl,fun _=>Nat.le_add_right _ _⟩,rfl,by unfold sortWorldK putRowK;simp,fun b hb' hn=>?_,fun b j hb' hn=>?_,fun b arr el fr h=>?_,fun b o ho h hn=>?_⟩
 ·rw[hold b hb',hput b (fun e=>hn c.base (e▸hin))]
 ·have e1:(sortWorldK enc k w c.blk c.base m d os).cell? ⟨b,j,none⟩=(putRowK enc k (Sort.ahead w m) c.blk c.base d).cell? ⟨b,j,none⟩:=cell?_of_heap (hold b hb')
  rw[e1]
  refine cell?_putRow_other id (Sort.ahead w m) c.blk c.base (flatK enc k d) ⟨b,j,none⟩ ?_
  by_cases e:b=c.blk
  ·subst e
   right
   by_cases h1:j<c.base
   ·exact .inl h1
   ·right
    have:¬(c.lo≤j∧j<c.size):=fun h2=>hn ⟨rfl,h2.1,h2.2⟩
    simp only[size_flatK,hs]
    omega
  ·exact .inl e
 ·have hlt:b<w.heap.size:=by
   rcases Nat.lt_or_ge b w.heap.size with h'|h'
   ·exact h'
   ·rw[Array.getElem?_eq_none h'] at h;cases h
  rw[hold b hlt]
  by_cases e:b=c.blk
  ·subst e
   rw[hat _ h]
   exact⟨_,rfl,by simp[putCells]⟩
  ·rw[hput b e];exact⟨arr,h,rfl⟩
 ·have hlt:b<w.heap.size:=by
   rcases Nat.lt_or_ge b w.heap.size with h'|h'
   ·exact h'
   ·rw[Array.getElem?_eq_none h'] at h;cases h
  rw[hold b hlt]
  by_cases e:b=c.blk
  ·subst e
   rw[hat _ h]
   cases o<;>first|rfl|cases ho
  ·rw[hput b e];exact h
theorem U2(L:SlLaysF0.n6 P ρ){k:Nat}(hk0:0<k)(aE:∀w,(isAgg (ρ.t 24)).run P w=.ok true w)(zE:∀w,(Go.sizeOf (ρ.t 24)).run P w=.ok k w)(e:α→List AVal)(he:∀x,(e x).length=k∧(e x).all z56=true)(cf:α→α→Int)(hO:SWO (ltOf cf))(g:Nat)
 (eg:∀args w,(callFunc g args).run P w=.ok (.enter g args) w) (hcmp:∀x y W,Calls P g #[.agg (Qp e x).toArray,.agg (Qp e y).toArray] W fun r w'=>r=.returned (.int .i64 (cf x y))∧∃q os',w'=grow (W.drewN q) os')
 (hok:Z6 P (ρ.f 6)) {f:FuncId} (hf:ρ.f 6=f) (l:List α) (hl:l.length<4611686018427387904) (fl:Bool) :
 ACalls P f [.msl (0,0) k 0 l.length fl,.fn (.func g) [] []] [((0,0),.rows k (l.map e))] 3 (ub 3 (.tup []) [((0,0),.rows k ((Zy cf l).map e))]):=by
 subst hf
 refine⟨hok,fun I β w vs hI hlen hr=>?_⟩
 match vs,hlen with
 |[v0,v1],_=>
 obtain⟨c,hc,h1,hA,h3,h4,h5,h6,h7⟩:=hI.blocks (0,0) _ rfl
 have hv1:v1=.func (.func g) #[] #[]:=by
  have hf:=hr 1 _ _ rfl rfl
  cases hf with
  |imm _ _ h=>
   cases h with
   |fn _ _ _ fs cs q1 q2 _ _=>rw[Array.eq_empty_of_size_eq_zero q1,Array.eq_empty_of_size_eq_zero q2]
  |fn _ _ _ fs cs q1 q2 _ _=>rw[Array.eq_empty_of_size_eq_zero q1,Array.eq_empty_of_size_eq_zero q2]
 subst hv1
 have hs0:=hr 0 _ _ rfl rfl
 obtain⟨a,cap,rfl,q1,q2,q3⟩:∃a cap,v0=.slice a l.length cap∧(l.length≤cap∧(a=none→cap=0))∧(fl=true→cap=l.length)∧(∀c,β (0,0)=some c→c.s=k∧(cap≠0→a=some ⟨c.blk,c.base+0*k,none⟩∧c.base+(0+cap)*k≤c.size)):=by
  cases hs0 with
  |imm _ _ h=>cases h
  |msl _ _ _ _ _ a cap _ g1 g2 g3=>exact⟨a,cap,rfl,g1,g2,g3⟩
 have hrow:∀ (d:List α) (i:Nat) (r:List AVal),(d.map e)[i]?=some r→∃x,d[i]?=some x∧r=e x:=fun d i r hr=>by
  rw[List.getElem?_map] at hr
  obtain⟨x,hx,rfl⟩:=Option.map_eq_some_iff.1 hr
  exact⟨x,hx,rfl⟩
 show Calls P (ρ.f 6) #[.slice a l.length cap,.func (.func g) #[] #[]] w _
 by_cases hnil:l=[]
 ·subst hnil
  refine(AnyF.slices_SortFunc_none L a cap _ w).mono ?_
  rintro r w' ⟨rfl,rfl⟩
  have:Zy cf ([]:List α)=[]:=List.eq_nil_of_length_eq_zero (by rw[Qo hO];rfl)
  rw[this]
  exact⟨_,_,_,_,I,β,rfl,⟨rfl,rfl,rfl⟩,hI,.tup [] #[] rfl (fun i x v h=>by simp at h),Ext.refl _ _ _ _ _ hI.fresh⟩
 ·have hlen:0<l.length:=List.length_pos_iff.2 hnil
  obtain⟨hcs,hap⟩:=q3 c hc
  obtain⟨rfl,hcap⟩:=hap (by omega)
  have hlen':(l.map e).length=l.length:=by simp
  rw[hlen'] at h5
  have hH:HoldsK (Qp e) k w c.blk c.base l.toArray:=by
   intro j hj
   rw[size_flatK] at hj
   simp only[List.size_toArray] at hj
   have hi:j / k<l.length:=(Nat.div_lt_iff_lt_mul hk0).2 hj
   have hm:j % k<k:=Nat.mod_lt _ hk0
   have hx:(l.map e)[j / k]?=some (e l[j / k]):=by rw[List.getElem?_map,List.getElem?_eq_getElem hi];rfl
   have hcell:(e l[j / k])[j % k]?=some ((e l[j / k])[j % k]'(by rw[(he _).1];exact hm)):=List.getElem?_eq_getElem _
   obtain⟨v,g1,g2,g3⟩:=h7 (j / k) _ (j % k) _ hx hcell
   have hflat:=List.all_eq_true.1 (he l[j / k]).2 _ (List.getElem_mem (by rw[(he _).1];exact hm))
   have:=zkb hflat g3
   subst this
   have hjj:c.base+j=c.base+j / k*k+j % k:=by rw[Nat.add_assoc,Nat.mul_comm (j / k) k,Nat.div_add_mod]
   constructor
   ·rw[hjj,g1,get_flatK _ _ _ _ (by simpa using hj)]
    congr 1
    have:(l.toArray)[j / k]! = l[j / k]:=by simp[hi]
    rw[this]
    unfold Qp
    rw[getElem!_pos _ _ (by rw[List.length_map,(he _).1];exact hm),List.getElem_map];rfl
   ·refine h3 _ (by omega) ?_
    have:j<l.length*k:=hj
    omega
  have hblk:c.blk<w.heap.size:=kb (hH 0 (by simp;exact Nat.mul_pos hlen hk0)).1
  have hfk:∀x,(Qp e x).length=k:=fun x=>by unfold Qp;rw[List.length_map];exact(he x).1
  have hone:∀x,∀v∈Qp e x,v.oneCell'=true:=fun x v hv=>by
   unfold Qp at hv
   obtain⟨y,hy,rfl⟩:=List.mem_map.1 hv
   have:=List.all_eq_true.1 (he x).2 y hy
   cases y<;>first|rfl|cases this
  have hC:=AnyQ.slices_SortFunc_eq L k aE zE (Qp e) hfk hone cf hO g #[] c.blk c.base cap l.toArray w eg (fun m os dk hs x y=>by simpa using hcmp x y _) hH hblk (by simpa using hl)
  simp only[List.size_toArray] at hC
  simp only[Nat.zero_mul,Nat.add_zero]
  refine hC.mono ?_
  rintro r w' ⟨rfl,m,os,rfl⟩
  have hsz:(pdq (ltOf cf) l.toArray 0 l.length (Lib.bitLen l.length) true true).size=l.toArray.size:=by
   have:=Qo hO l
   unfold Zy at this
   simpa using this
  have hchg:=zju (m:=m) (os:=os) hk0 hH hsz (by simpa using hlen) h4 (by simpa using h5)
  have hH2:=holdsK_sortWorldK_c (Qp e) k w c.blk c.base l.toArray (pdq (ltOf cf) l.toArray 0 l.length (Lib.bitLen l.length) true true) m os hH hblk hsz
  obtain⟨g1,g2⟩:=Qz hI (b:=(0,0)) (es':=(Zy cf l).map e) rfl hc hchg (by simp[Qo hO]) (fun i r hr=>by obtain⟨x,_,rfl⟩:=hrow _ i r hr;exact(he x).1) (fun i r j x hi hj=>by
   obtain⟨y,hy,rfl⟩:=hrow _ i r hi
   have hjk:j<k:=by
    rcases Nat.lt_or_ge j k with h'|h'
    ·exact h'
    ·rw[List.getElem?_eq_none (by rw[(he y).1];exact h')] at hj;cases hj
   have hil:i<(Zy cf l).length:=by
    rcases Nat.lt_or_ge i (Zy cf l).length with h'|h'
    ·exact h'
    ·rw[List.getElem?_eq_none h'] at hy;cases hy
   have hflat:=List.all_eq_true.1 (he y).2 x (List.mem_of_getElem? hj)
   have hcell:=(hH2 (i*k+j) (by
    rw[size_flatK]
    have:(i+1)*k≤(pdq (ltOf cf) l.toArray 0 l.length (Lib.bitLen l.length) true true).size*k:=Nat.mul_le_mul_right _ (by have h9:=hil;unfold Zy at h9;simp at h9;omega)
    rw[Nat.add_mul] at this;omega)).1
   rw[get_flatK _ _ _ _ (by
    have:(i+1)*k≤(pdq (ltOf cf) l.toArray 0 l.length (Lib.bitLen l.length) true true).size*k:=Nat.mul_le_mul_right _ (by have h9:=hil;unfold Zy at h9;simp at h9;omega)
    rw[Nat.add_mul] at this;omega)] at hcell
   have d1:(i*k+j) / k=i:=by rw[Nat.mul_comm,Nat.mul_add_div hk0,Nat.div_eq_of_lt hjk];rfl
   have d2:(i*k+j) % k=j:=by rw[Nat.mul_comm,Nat.mul_add_mod,Nat.mod_eq_of_lt hjk]
   rw[d1,d2] at hcell
   refine⟨ziy x,?_,z5z hflat,.imm _ _ (zs8 hflat)⟩
   rw[Nat.add_assoc,hcell]
   congr 1
   have hgi:(pdq (ltOf cf) l.toArray 0 l.length (Lib.bitLen l.length) true true)[i]! = y:=by
    unfold Zy at hy hil
    rw[Array.getElem?_toList] at hy
    rw[Array.getElem!_eq_getD,Array.getD_eq_getD_getElem?,hy];rfl
   rw[hgi]
   unfold Qp
   rw[getElem!_pos _ _ (by rw[List.length_map,(he y).1];exact hjk),List.getElem_map]
   rw[List.getElem?_eq_getElem (by rw[(he y).1];exact hjk)] at hj
   simp only[Option.some.injEq] at hj
   rw[hj];rfl)
  exact⟨_,_,_,_,I,β,rfl,⟨rfl,rfl,rfl⟩,g1,.tup [] #[] rfl (fun i x v h=>by simp at h),g2⟩
end
end Go.Fx
