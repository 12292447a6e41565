/-
  Own framework.
-/
import Derived.Test.YtlilpmnmedmjaaaGreatDoorFxS
namespace Go.Fx
set_option linter.unusedVariables false
variable {P:Program}
theorem ACalls.sub{f:Fn}{args:List AVal}{H:AHeap}{n:Nat}{K:AVal→AHeap→Nat→Prop}
 (h:ACalls P f args H n (fun r H' n'=>∃H2,(∀id blk,H2.get id=some blk→H'.get id=some blk)∧K r H2 n')):ACalls P f args H n K:=by
 refine⟨h.1,fun I β w vs hI hl hr=>(h.2 I β w vs hI hl hr).mono ?_⟩
 rintro ee w' ⟨r,v,H',n',I',β',he,⟨H2,h1,h2⟩,hI',hr',hx⟩
 exact⟨r,v,H2,n',I',β',he,h2,Inv.sub h1 hI',hr',Ext.sub h1 hx⟩
theorem Ks{H:AHeap}{id:Id}{b:ABlock}(h:H.get id=some b):(id,b)∈H:=by
 induction H with
 |nil=>simp[AHeap.get] at h
 |cons x r ih=>
  obtain⟨k,c⟩:=x
  by_cases hk:k=id
  ·subst hk;rw[AHeap.get_cons_same] at h;simp only[Option.some.injEq] at h;subst h;exact List.mem_cons_self ..
  ·rw[AHeap.get_cons_other _ _ hk] at h;exact List.mem_cons_of_mem _ (ih h)
theorem z4h{H:AHeap}{id:Id}{b:ABlock}(hn:(H.map (·.1)).Nodup)(h:(id,b)∈H):H.get id=some b:=by
 induction H with
 |nil=>cases h
 |cons x r ih=>
  obtain⟨k,c⟩:=x
  simp only[List.map_cons,List.nodup_cons] at hn
  rcases List.mem_cons.1 h with h|h
  ·simp only[Prod.mk.injEq] at h;obtain⟨rfl,rfl⟩:=h;exact AHeap.get_cons_same _ _ _
  ·have:k≠id:=fun hk=>by subst hk;exact hn.1 (List.mem_map.2 ⟨_,h,rfl⟩)
   rw[AHeap.get_cons_other _ _ this];exact ih hn.2 h
def noR(r:Nat)(H:AHeap):Bool:=H.all fun x=>!(Nat.beq x.1.1 r)
theorem V6{r:Nat}{H:AHeap}(h:noR r H=true){id:Id}(hid:id.1=r):H.get id=none:=by
 cases hg:H.get id with
 |none=>rfl
 |some b=>
  have hm:=Ks hg
  unfold noR at h
  rw[List.all_eq_true] at h
  have:=h _ hm
  simp only[hid] at this
  simp at this
mutual
theorem Jv{g h:Id→Id}:∀ (x:AVal),(x.ren g).ren h=x.ren (fun i=>h (g i))
 |.any=>rfl
 |.bool _=>rfl
 |.int _ _=>rfl
 |.str _=>rfl
 |.val _=>rfl
 |.isl _ _ _=>rfl
 |.iptr _ _ _ _=>rfl
 |.osl _ _ _=>rfl
 |.ptr _ _ _=>rfl
 |.msl _ _ _ _ _=>rfl
 |.map _=>rfl
 |.optp _=>rfl
 |.tup cs=>by simp only[AVal.ren];rw[Yv cs]
 |.agg cs=>by simp only[AVal.ren];rw[Yv cs]
 |.fn f a c=>by simp only[AVal.ren];rw[Yv a,Yv c]
 |.ifc t x=>by simp only[AVal.ren];rw[Jv x]
 |.cnd p x=>by simp only[AVal.ren];rw[Jv x]
theorem Yv{g h:Id→Id}:∀ (cs:List AVal),AVal.ren.renL h (AVal.ren.renL g cs)=AVal.ren.renL (fun i=>h (g i)) cs
 |[]=>rfl
 |x::r=>by simp only[AVal.ren.renL];rw[Jv x,Yv r]
end
mutual
theorem Zx{p:Id→Bool}{g h:Id→Id}(hgh:∀id:Id,p id=true→g id=h id):∀ (x:AVal),x.inP p=true→x.ren g=x.ren h
 |.any,_=>rfl
 |.bool _,_=>rfl
 |.int _ _,_=>rfl
 |.str _,_=>rfl
 |.val _,_=>rfl
 |.isl _ _ _,_=>rfl
 |.iptr _ _ _ _,_=>rfl
 |.osl t _ _,hp=>by simp only[AVal.ren];rw[hgh t hp]
 |.ptr t _ _,hp=>by simp only[AVal.ren];rw[hgh t hp]
 |.msl t _ _ _ _,hp=>by simp only[AVal.ren];rw[hgh t hp]
 |.map t,hp=>by simp only[AVal.ren];rw[hgh t hp]
 |.optp t,hp=>by simp only[AVal.ren];rw[hgh t hp]
 |.tup cs,hp=>by simp only[AVal.ren];rw[Zu hgh cs hp]
 |.agg cs,hp=>by simp only[AVal.ren];rw[Zu hgh cs hp]
 |.fn f a c,hp=>by
  simp only[AVal.inP,Bool.and_eq_true] at hp
  simp only[AVal.ren];rw[Zu hgh a hp.1,Zu hgh c hp.2]
 |.ifc t x,hp=>by simp only[AVal.ren];rw[Zx hgh x hp]
 |.cnd q x,hp=>by simp only[AVal.ren];rw[Zx hgh x hp]
theorem Zu{p:Id→Bool}{g h:Id→Id}(hgh:∀id:Id,p id=true→g id=h id):∀ (cs:List AVal),AVal.inP.inPL p cs=true→AVal.ren.renL g cs=AVal.ren.renL h cs
 |[],_=>rfl
 |x::r,hp=>by
  simp only[AVal.inP.inPL,Bool.and_eq_true] at hp
  simp only[AVal.ren.renL];rw[Zx hgh x hp.1,Zu hgh r hp.2]
end
mutual
theorem Jg{p q:Id→Bool}{g:Id→Id}(hg:∀id:Id,p id=true→q (g id)=true):∀ (x:AVal),x.inP p=true→(x.ren g).inP q=true
 |.any,_=>rfl
 |.bool _,_=>rfl
 |.int _ _,_=>rfl
 |.str _,_=>rfl
 |.val _,_=>rfl
 |.isl _ _ _,_=>rfl
 |.iptr _ _ _ _,_=>rfl
 |.osl t _ _,hp=>hg t hp
 |.ptr t _ _,hp=>hg t hp
 |.msl t _ _ _ _,hp=>hg t hp
 |.map t,hp=>hg t hp
 |.optp t,hp=>hg t hp
 |.tup cs,hp=>Xk hg cs hp
 |.agg cs,hp=>Xk hg cs hp
 |.fn f a c,hp=>by
  simp only[AVal.inP,Bool.and_eq_true] at hp
  simp only[AVal.ren,AVal.inP,Bool.and_eq_true]
  exact⟨Xk hg a hp.1,Xk hg c hp.2⟩
 |.ifc t x,hp=>Jg hg x hp
 |.cnd r x,hp=>Jg hg x hp
theorem Xk{p q:Id→Bool}{g:Id→Id}(hg:∀id:Id,p id=true→q (g id)=true):∀ (cs:List AVal),AVal.inP.inPL p cs=true→AVal.inP.inPL q (AVal.ren.renL g cs)=true
 |[],_=>rfl
 |x::r,hp=>by
  simp only[AVal.inP.inPL,Bool.and_eq_true] at hp
  simp only[AVal.ren.renL,AVal.inP.inPL,Bool.and_eq_true]
  exact⟨Jg hg x hp.1,Xk hg r hp.2⟩
end
theorem zil{g h:Id→Id}(b:ABlock):(b.ren g).ren h=b.ren (fun i=>h (g i)):=by
 cases b with
 |rows s es=>simp only[ABlock.ren,Zt,List.map_map];congr 1;exact List.map_congr_left fun x _=>Yv x
 |one cs=>simp only[ABlock.ren];rw[Yv]
 |amap es=>simp only[ABlock.ren,List.map_map];congr 1;refine List.map_congr_left fun x _=>?_;simp only[Function.comp];rw[Jv,Jv]
 |tok=>rfl
 |bld T g0=>rfl
 |buf e bs=>rfl
 |lrec l r e=>simp only[ABlock.ren,List.map_map];congr 1;refine List.map_congr_left fun x _=>?_;simp only[Function.comp];rw[Jv]
 |rmap es arr ck=>simp only[ABlock.ren,List.map_map];congr 1;refine List.map_congr_left fun x _=>?_;simp only[Function.comp];rw[Jv,Jv]
 |itr m arr ck seen=>simp only[ABlock.ren,Option.map_map];rfl
 |mbox b=>rfl
theorem Kx{p:Id→Bool}{g h:Id→Id}(hgh:∀id:Id,p id=true→g id=h id)(b:ABlock)(hp:b.inP p=true):b.ren g=b.ren h:=by
 cases b with
 |rows s es=>
  simp only[ABlock.inP,List.all_eq_true] at hp
  simp only[ABlock.ren,Zt];congr 1;exact List.map_congr_left fun x hx=>Zu hgh x (hp x hx)
 |one cs=>simp only[ABlock.ren];rw[Zu hgh cs hp]
 |amap es=>
  simp only[ABlock.inP,List.all_eq_true,Bool.and_eq_true] at hp
  simp only[ABlock.ren];congr 1;refine List.map_congr_left fun x hx=>?_;rw[Zx hgh _ (hp x hx).1,Zx hgh _ (hp x hx).2]
 |tok=>rfl
 |bld T g0=>simp only[ABlock.ren];rw[hgh g0 hp]
 |buf e bs=>rfl
 |lrec l r e=>
  simp only[ABlock.inP,List.all_eq_true] at hp
  simp only[ABlock.ren];congr 1;refine List.map_congr_left fun x hx=>?_;rw[Zx hgh _ (hp x hx)]
 |rmap es arr ck=>
  simp only[ABlock.inP,List.all_eq_true,Bool.and_eq_true] at hp
  simp only[ABlock.ren];congr 1;refine List.map_congr_left fun x hx=>?_;rw[Zx hgh _ (hp x hx).1,Zx hgh _ (hp x hx).2]
 |itr m arr ck seen=>
  cases m with
  |none=>rfl
  |some b=>simp only[ABlock.ren,Option.map_some];rw[hgh b hp]
 |mbox b=>simp only[ABlock.ren];rw[hgh b hp]
theorem z0i{p q:Id→Bool}{g:Id→Id}(hg:∀id:Id,p id=true→q (g id)=true)(b:ABlock)(hp:b.inP p=true):(b.ren g).inP q=true:=by
 cases b with
 |rows s es=>
  simp only[ABlock.inP,List.all_eq_true] at hp
  simp only[ABlock.ren,Zt,ABlock.inP,List.all_eq_true,List.mem_map]
  rintro x ⟨y,hy,rfl⟩
  exact Xk hg y (hp y hy)
 |one cs=>exact Xk hg cs hp
 |amap es=>
  simp only[ABlock.inP,List.all_eq_true,Bool.and_eq_true] at hp
  simp only[ABlock.ren,ABlock.inP,List.all_eq_true,List.mem_map,Bool.and_eq_true]
  rintro x ⟨y,hy,rfl⟩
  exact⟨Jg hg _ (hp y hy).1,Jg hg _ (hp y hy).2⟩
 |tok=>rfl
 |bld T g0=>exact hg g0 hp
 |buf e bs=>rfl
 |lrec l r e=>
  simp only[ABlock.inP,List.all_eq_true] at hp
  simp only[ABlock.ren,ABlock.inP,List.all_eq_true,List.mem_map]
  rintro x ⟨y,hy,rfl⟩
  exact Jg hg _ (hp y hy)
 |rmap es arr ck=>
  simp only[ABlock.inP,List.all_eq_true,Bool.and_eq_true] at hp
  simp only[ABlock.ren,ABlock.inP,List.all_eq_true,List.mem_map,Bool.and_eq_true]
  rintro x ⟨y,hy,rfl⟩
  exact⟨Jg hg _ (hp y hy).1,Jg hg _ (hp y hy).2⟩
 |itr m arr ck seen=>
  cases m with
  |none=>rfl
  |some b=>exact hg b hp
 |mbox b=>exact hg b hp
mutual
theorem Ki:∀ (x:AVal),x.ren (fun i=>i)=x
 |.any=>rfl
 |.bool _=>rfl
 |.int _ _=>rfl
 |.str _=>rfl
 |.val _=>rfl
 |.isl _ _ _=>rfl
 |.iptr _ _ _ _=>rfl
 |.osl _ _ _=>rfl
 |.ptr _ _ _=>rfl
 |.msl _ _ _ _ _=>rfl
 |.map _=>rfl
 |.optp _=>rfl
 |.tup cs=>by simp only[AVal.ren];rw[Vc cs]
 |.agg cs=>by simp only[AVal.ren];rw[Vc cs]
 |.fn f a c=>by simp only[AVal.ren];rw[Vc a,Vc c]
 |.ifc t x=>by simp only[AVal.ren];rw[Ki x]
 |.cnd p x=>by simp only[AVal.ren];rw[Ki x]
theorem Vc:∀ (cs:List AVal),AVal.ren.renL (fun i=>i) cs=cs
 |[]=>rfl
 |x::r=>by simp only[AVal.ren.renL];rw[Ki x,Vc r]
end
mutual
theorem zn9{p:Id→Bool}:∀ (x:AVal),x.nid=true→x.inP p=true
 |.bool _,_=>rfl
 |.int _ _,_=>rfl
 |.str _,_=>rfl
 |.val _,_=>rfl
 |.isl _ _ _,_=>rfl
 |.iptr _ _ _ _,_=>rfl
 |.tup cs,h=>Vj cs h
 |.agg cs,h=>Vj cs h
 |.fn f a c,h=>by
  simp only[AVal.nid,Bool.and_eq_true] at h
  simp only[AVal.inP,Bool.and_eq_true]
  exact⟨Vj a h.1,Vj c h.2⟩
 |.ifc t x,h=>zn9 x h
theorem Vj{p:Id→Bool}:∀ (cs:List AVal),AVal.nid.nidL cs=true→AVal.inP.inPL p cs=true
 |[],_=>rfl
 |x::r,h=>by
  simp only[AVal.nid.nidL,Bool.and_eq_true] at h
  simp only[AVal.inP.inPL,Bool.and_eq_true]
  exact⟨zn9 x h.1,Vj r h.2⟩
end
mutual
theorem wv{g:Id→Id}:∀ (x:AVal),x.nid=true→x.ren g=x
 |.bool _,_=>rfl
 |.int _ _,_=>rfl
 |.str _,_=>rfl
 |.val _,_=>rfl
 |.isl _ _ _,_=>rfl
 |.iptr _ _ _ _,_=>rfl
 |.tup cs,h=>by simp only[AVal.ren];rw[Kg cs h]
 |.agg cs,h=>by simp only[AVal.ren];rw[Kg cs h]
 |.fn f a c,h=>by
  simp only[AVal.nid,Bool.and_eq_true] at h
  simp only[AVal.ren];rw[Kg a h.1,Kg c h.2]
 |.ifc t x,h=>by simp only[AVal.ren];rw[wv x h]
theorem Kg{g:Id→Id}:∀ (cs:List AVal),AVal.nid.nidL cs=true→AVal.ren.renL g cs=cs
 |[],_=>rfl
 |x::r,h=>by
  simp only[AVal.nid.nidL,Bool.and_eq_true] at h
  simp only[AVal.ren.renL];rw[wv x h.1,Kg r h.2]
end
theorem zno(b:ABlock):b.ren (fun i=>i)=b:=by
 cases b with
 |rows s es=>
  simp only[ABlock.ren,Zt];congr 1
  conv=>rhs;rw[←List.map_id es]
  exact List.map_congr_left fun x _=>Vc x
 |one cs=>simp only[ABlock.ren];rw[Vc]
 |amap es=>
  simp only[ABlock.ren];congr 1
  conv=>rhs;rw[←List.map_id es]
  refine List.map_congr_left fun x _=>?_
  rw[Ki,Ki];rfl
 |tok=>rfl
 |bld T g0=>rfl
 |buf e bs=>rfl
 |lrec l r e=>
  simp only[ABlock.ren];congr 1
  conv=>rhs;rw[←List.map_id e]
  refine List.map_congr_left fun x _=>?_
  rw[Ki];rfl
 |rmap es arr ck=>
  simp only[ABlock.ren];congr 1
  conv=>rhs;rw[←List.map_id es]
  refine List.map_congr_left fun x _=>?_
  rw[Ki,Ki];rfl
 |itr m arr ck seen=>cases m<;>rfl
 |mbox b=>rfl
def RenL(g:Id→Id):AHeap→AHeap→Prop
 |[],[]=>True
 |(k,b)::r,(k',b')::r'=>g k=k'∧b.ren g=b'∧RenL g r r'
 |_,_=>False
theorem RenL.eq{g:Id→Id}:∀ {L L':AHeap},RenL g L L'→AHeap.renamed g L=L'
 |[],[],_=>rfl
 |[],_::_,h=>h.elim
 |_::_,[],h=>h.elim
 |(k,b)::r,(k',b')::r',h=>by
  obtain⟨h1,h2,h3⟩:=h
  have:=RenL.eq h3
  simp only[AHeap.renamed,List.map_cons] at this ⊢
  rw[h1,h2,this]
def mv(a b:Nat)(id:Id):Id:=if id.1=a then(b,id.2) else id
def p12(id:Id):Bool:=Nat.beq id.1 1 || Nat.beq id.1 2
structure Tl(T:AHeap):Prop where
 key:∀x∈T,p12 x.1=true
 val:∀x∈T,x.2.inP (fun id=>p12 id&&(T.get id).isSome)=true
 nd:(T.map (·.1)).Nodup
def up(q:Nat)(T:AHeap):AHeap:=AHeap.renamed (mv 2 q) T
theorem Zg{id:Id}(h:p12 id=true):id.1=1∨id.1=2:=by
 unfold p12 at h
 simp only[Bool.or_eq_true] at h
 rcases h with h|h
 ·exact .inl (Nat.eq_of_beq_eq_true h)
 ·exact .inr (Nat.eq_of_beq_eq_true h)
theorem zkz{q:Nat}{id:Id}(h:p12 id=true):(mv 2 q id).1=1∨(mv 2 q id).1=q:=by
 unfold mv
 rcases Zg h with h|h
 ·left;rw[if_neg (by omega)];exact h
 ·right;rw[if_pos h]
def p1q(q:Nat)(id:Id):Bool:=Nat.beq id.1 1 || Nat.beq id.1 q
theorem z3v{q:Nat}{id:Id}(h:id.1=1∨id.1=q):p1q q id=true:=by
 unfold p1q
 rcases h with h|h<;>simp[h]
theorem Tl.val'{T:AHeap}(t:Tl T)(x)(hx:x∈T):x.2.inP p12=true:=by
 have:=t.val x hx
 have h2:=z0i (q:=p12) (g:=fun i=>i) (fun id hid=>by simp only[Bool.and_eq_true] at hid;exact hid.1) _ this
 rwa [zno] at h2
theorem Jn{q:Nat}{id:Id}(h:p1q q id=true):id.1=1∨id.1=q:=by
 unfold p1q at h
 simp only[Bool.or_eq_true] at h
 rcases h with h|h
 ·exact .inl (Nat.eq_of_beq_eq_true h)
 ·exact .inr (Nat.eq_of_beq_eq_true h)
theorem zf3{q:Nat}{T:AHeap}(t:Tl T){x:Id×ABlock}(hx:x∈up q T):(x.1.1=1∨x.1.1=q)∧x.2.inP (p1q q)=true:=by
 unfold up AHeap.renamed at hx
 obtain⟨y,hy,rfl⟩:=List.mem_map.1 hx
 exact⟨zkz (t.key y hy),z0i (fun id hid=>z3v (zkz hid)) _ (t.val' y hy)⟩
theorem ztm{q:Nat}{T:AHeap}(t:Tl T){id:Id}{b:ABlock}(h:(up q T).get id=some b):∃k b0,T.get k=some b0∧p12 k=true∧b0.inP p12=true∧mv 2 q k=id∧b=b0.ren (mv 2 q):=by
 obtain⟨i,b0,h1,h2,h3⟩:=AHeap.get_renamed h
 exact⟨i,b0,z4h t.nd h1,t.key _ h1,t.val' _ h1,h2,h3⟩
theorem y0r{q:Nat}(hq:q≠1){i j:Id}(hi:p12 i=true)(hj:p12 j=true)(h:mv 2 q i=mv 2 q j):i=j:=by
 unfold mv at h
 rcases Zg hi with hi|hi<;>rcases Zg hj with hj|hj
 ·rwa [if_neg (by omega),if_neg (by omega)] at h
 ·rw[if_neg (by omega),if_pos hj] at h
  have:i.1=q:=by rw[h]
  omega
 ·rw[if_pos hi,if_neg (by omega)] at h
  have:j.1=q:=by rw[←h]
  omega
 ·rw[if_pos hi,if_pos hj] at h
  simp only[Prod.mk.injEq] at h
  ext
  ·omega
  ·exact h.2
theorem zyj{q:Nat}(hq:q≠1){T:AHeap}(t:Tl T):((up q T).map (·.1)).Nodup:=by
 unfold up AHeap.renamed
 rw[List.map_map]
 have:(T.map ((fun x=>x.1)∘fun x=>(mv 2 q x.1,x.2.ren (mv 2 q))))=(T.map (·.1)).map (mv 2 q):=by rw[List.map_map];rfl
 rw[this]
 refine List.pairwise_map.2 (List.Pairwise.imp_of_mem (fun {a b} ha hb hab he=>hab ?_) t.nd)
 obtain⟨x,hx,rfl⟩:=List.mem_map.1 ha
 obtain⟨y,hy,rfl⟩:=List.mem_map.1 hb
 exact y0r hq (t.key x hx) (t.key y hy) he
theorem ztk{q:Nat}(hq:q≠1){T:AHeap}(t:Tl T){k:Id}{b0:ABlock}(h:T.get k=some b0):(up q T).get (mv 2 q k)=some (b0.ren (mv 2 q)):=
 z4h (zyj hq t) (List.mem_map.2 ⟨(k,b0),Ks h,rfl⟩)
theorem zz7{a q q':Nat}(hq:q≠1){id:Id}(h:p12 id=true):mv q q' (mv 2 q id)=mv 2 q' id:=by
 unfold mv
 rcases Zg h with h|h
 ·rw[if_neg (by omega:¬id.1=2),if_neg (by omega),if_neg (by omega)]
 ·rw[if_pos h,if_pos h];simp
theorem z5o{q q':Nat}(hq:q≠1){b0:ABlock}(h:b0.inP p12=true):(b0.ren (mv 2 q)).ren (mv q q')=b0.ren (mv 2 q'):=by
 rw[zil]
 exact Kx (fun id hid=>zz7 (a:=0) hq hid) b0 h
theorem y33{q:Nat}(hq:q≠1){q':Nat}{T:AHeap}(t:Tl T):AHeap.renamed (mv q q') (up q T)=up q' T:=by
 unfold up AHeap.renamed
 rw[List.map_map]
 refine List.map_congr_left fun x hx=>?_
 simp only[Function.comp]
 rw[zz7 (a:=0) hq (t.key x hx),z5o hq (t.val' x hx)]
theorem zsl{q:Nat}{T lit:AHeap}(t:Tl T)(h1:noR 1 lit=true)(hq:noR q lit=true){id:Id}{b:ABlock}(hg:(up q T).get id=some b):AHeap.get (lit++up q T) id=some b:=by
 rw[AHeap.get_append]
 have:lit.get id=none:=by
  rcases(zf3 t (Ks hg)).1 with h|h
  ·exact V6 h1 h
  ·exact V6 hq h
 rw[this];simpa using hg
def zai(q:Nat)(M:List (Id×Id))(id:Id):Option Id:=if id.1=3 then some (q,id.2) else rho 3 M id
def y1r(n q:Nat)(lit':AHeap)(M:List (Id×Id)):Bool:=
 Nat.ble 4 n&&Nat.ble 3 q&&Ur 3 n lit' M&&M.all (fun x=>Nat.ble 4 x.1.1&&!(Nat.beq x.2.1 q)&&!(Nat.beq x.2.1 1))&&noR 1 lit'&&noR q lit'
structure ChkT(n q:Nat)(lit':AHeap)(M:List (Id×Id)):Prop where
 n4:4≤n
 q3:3≤q
 rc:RhoChk 3 n lit' M
 all:∀x∈M,4≤x.1.1∧x.2.1≠q∧x.2.1≠1
 no1:noR 1 lit'=true
 noq:noR q lit'=true
theorem z13{a b:Nat}(h:(!(Nat.beq a b))=true):a≠b:=by
 intro e;subst e;simp at h
theorem Wo{n q:Nat}{lit':AHeap}{M:List (Id×Id)}(h:y1r n q lit' M=true):ChkT n q lit' M:=by
 unfold y1r at h
 simp only[Bool.and_eq_true,List.all_eq_true] at h
 obtain⟨⟨⟨⟨⟨h1,h2⟩,h3⟩,h4⟩,h5⟩,h6⟩:=h
 exact⟨Nat.le_of_ble_eq_true h1,Nat.le_of_ble_eq_true h2,z93 h3,fun x hx=>⟨Nat.le_of_ble_eq_true (h4 x hx).1.1,z13 (h4 x hx).1.2,z13 (h4 x hx).2⟩,h5,h6⟩
theorem zrv{A B:AHeap}{id:Id}(h:A.get id≠none):AHeap.get (A++B) id≠none:=by
 rw[AHeap.get_append]
 cases hg:A.get id with
 |none=>exact absurd hg h
 |some b=>simp
theorem znu{n q:Nat}{lit' T:AHeap}{M:List (Id×Id)}{F:Id→Bool}(h:ChkT n q lit' M)(hF:∀i:Id,i.1<3→F i=false):RhoOk 3 n F (lit'++T) (zai q M):=by
 have base:∀ {i k:Id},zai q M i=some k→(i.1=3∧k=(q,i.2))∨(i.1≠3∧rho 3 M i=some k):=by
  intro i k hi
  unfold zai at hi
  split at hi
  ·rename_i h3;simp only[Option.some.injEq] at hi;exact .inl ⟨h3,hi.symm⟩
  ·rename_i h3;exact .inr ⟨h3,hi⟩
 have vals:∀ {i k:Id},rho 3 M i=some k→k.1≠q:=by
  intro i k hi
  rcases Xj hi with g|⟨g1,g2,_⟩
  ·exact(h.all _ g).2.1
  ·have:=h.q3;subst g2;omega
 have lift:∀ {id:Id},lit'.get id≠none→AHeap.get (lit'++T) id≠none:=fun h=>zrv h
 have hr:RhoOk 3 n F (lit'++T) (rho 3 M):=by
  have hc:RhoChk 3 n (lit'++T) M:=⟨h.rc.le,fun x hx=>⟨(h.rc.all x hx).1,(h.rc.all x hx).2.1,(h.rc.all x hx).2.2.imp id lift⟩,h.rc.nd⟩
  refine⟨fun i j k hi hj=>?_,fun i k hi=>?_,fun i hi=>?_,fun i k hi hk=>?_,hc.le⟩
  ·rcases Xj hi with g1|⟨g1,g1',g1''⟩<;>rcases Xj hj with g2|⟨g2,g2',g2''⟩
   ·exact Vq hc.nd g1 g2
   ·exact absurd (List.mem_map.2 ⟨_,g1,rfl⟩) g2''
   ·exact absurd (List.mem_map.2 ⟨_,g2,rfl⟩) g1''
   ·rw[←g1',←g2']
  ·rcases Xj hi with g|⟨g,g',_⟩
   ·exact(hc.all _ g).2.1
   ·have:=hc.le;omega
  ·rcases zk1 hc hi with g|g
   ·exact .inl ⟨g,hF i hi⟩
   ·exact .inr g
  ·rcases Xj hk with g|⟨g,g',_⟩
   ·exact(hc.all _ g).2.2
   ·omega
 refine⟨fun i j k hi hj=>?_,fun i k hi=>?_,fun i hi=>?_,fun i k hi hk=>?_,hr.le⟩
 ·rcases base hi with⟨a1,a2⟩|⟨a1,a2⟩<;>rcases base hj with⟨b1,b2⟩|⟨b1,b2⟩
  ·rw[a2] at b2
   simp only[Prod.mk.injEq,true_and] at b2
   ext
   ·omega
   ·exact b2
  ·exact absurd (by rw[a2]) (vals b2)
  ·exact absurd (by rw[b2]) (vals a2)
  ·exact hr.inj i j k a2 b2
 ·rcases base hi with⟨a1,a2⟩|⟨a1,a2⟩
  ·have:=h.n4;omega
  ·exact hr.dom i k a2
 ·have:zai q M i=rho 3 M i:=by unfold zai;rw[if_neg (by omega)]
  rw[this];exact hr.low i hi
 ·rcases base hk with⟨a1,a2⟩|⟨a1,a2⟩
  ·left;rw[a2];exact h.q3
  ·exact hr.high i k hi a2
theorem z9k{n q:Nat}{lit':AHeap}{M:List (Id×Id)}(h:ChkT n q lit' M)(p:Nat):zai q M (1,p)=some (1,p):=by
 unfold zai
 rw[if_neg (by simp)]
 have hl:z7s M (1,p)=none:=by
  cases hk:z7s M (1,p) with
  |none=>rfl
  |some k=>have:=(h.all _ (ux hk)).1;simp only at this;omega
 unfold rho
 rw[hl]
 simp only
 rw[if_pos]
 refine⟨by simp,?_⟩
 simp only[List.contains_eq_any_beq,List.any_eq_true,beq_iff_eq,List.mem_map]
 rintro⟨_,⟨x,hx,rfl⟩,he⟩
 exact(h.all x hx).2.2 (by rw[←he])
theorem z99{F:Id→Bool}{n q:Nat}{lit lit' T:AHeap}{M:List (Id×Id)}(t:Tl T)(hc:ChkT n q lit' M)(h:HeapTo F (lit'++up q T) (zai q M) 3 n lit)(hF:∀id:Id,id.1=1∨id.1=q→F id=false) :
 z1e F (lit'++up q T) (zai q M) 3 n (lit++up 3 T):=by
 intro id blk hg
 rw[AHeap.get_append] at hg
 cases hl:lit.get id with
 |some b=>
  rw[hl] at hg
  simp only[Option.some_or,Option.some.injEq] at hg
  subst hg
  exact h.get id b hl
 |none=>
  rw[hl] at hg
  simp only[Option.none_or] at hg
  have hq1:q≠1:=by have:=hc.q3;omega
  obtain⟨k,b0,g1,g2,g3,g4,g5⟩:=ztm t hg
  have hat:zai q M id=some (mv 2 q k):=by
   subst g4
   rcases Zg g2 with h1|h1
   ·have e:∀a,mv 2 a k=k:=fun a=>by unfold mv;rw[if_neg (by omega)]
    rw[e,e,show k=(1,k.2) by rw[←h1]]
    exact z9k hc _
   ·unfold mv;rw[if_pos h1,if_pos h1];unfold zai;simp
  unfold Kj
  rw[hat]
  simp only
  rw[zsl t hc.no1 hc.noq (ztk hq1 t g1)]
  refine⟨hF _ (zkz g2),?_⟩
  rw[g5,←z5o (q:=q) (q':=3) hq1 g3]
  refine .mov (p1q q) (mv q 3) _ (z0i (fun id hid=>z3v (zkz hid)) _ g3) (fun i hi=>?_)
  have hn:=hc.n4
  rcases Jn hi with h1|h1
  ·have e:mv q 3 i=i:=by unfold mv;rw[if_neg (by omega)]
   rw[e,show i=(1,i.2) by rw[←h1]]
   exact⟨by simp only;omega,z9k hc _⟩
  ·have e:mv q 3 i=(3,i.2):=by unfold mv;rw[if_pos h1]
   rw[e]
   refine⟨by simp only;omega,?_⟩
   unfold zai
   simp[←h1]
theorem y1l{n n':Nat}{q:Nat}{M:List (Id×Id)}{e' e:Env}{lit' lit T:AHeap}(t:Tl T)(hc:y1r n q lit' M=true)(hE:EnvTo (fun _=>false) (lit'++up q T) (zai q M) n e' e)
 (hH:HeapTo (fun _=>false) (lit'++up q T) (zai q M) 3 n lit):Sim 3 e' (lit'++up q T) n' e (lit++up 3 T) n:=
 Sim.of ⟨_,_,znu (Wo hc) (fun _ _=>rfl),hE,z99 t (Wo hc) hH (fun _ _=>rfl)⟩
theorem y2w{n0:Nat}{Fs:List Id}(hF:(Fs.all fun x=>Nat.ble n0 x.1)=true)(i:Id)(hi:i.1<n0):Fs.contains i=false:=by
 rw[List.all_eq_true] at hF
 simp only[List.contains_eq_any_beq,List.any_eq_false,beq_iff_eq]
 intro x hx hix
 have:=Nat.le_of_ble_eq_true (hF x hx)
 subst hix;omega
theorem Km{n0 n n':Nat}{r R:AVal}{H' L:AHeap}(M:List (Id×Id))(Fs:List Id)(hρ:Ur n0 n H' M=true)(hF:(Fs.all fun x=>Nat.ble n0 x.1)=true)(hv:Vw (fun x=>Fs.contains x) H' (rho n0 M) n r R)
 (hH:HeapTo (fun x=>Fs.contains x) H' (rho n0 M) n0 n L):Xx n0 n R L r H' n':=
 ⟨_,_,zqv hρ (y2w hF),hv,hH.get⟩
theorem y2d{q n n':Nat}{r R:AVal}{lit' lit T:AHeap}(t:Tl T)(M:List (Id×Id))(Fs:List Id)(hc:y1r n q lit' M=true)(hF:(Fs.all fun x=>Nat.ble 3 x.1&&!(Nat.beq x.1 q))=true)
 (hv:Vw (fun x=>Fs.contains x) (lit'++up q T) (zai q M) n r R) (hH:HeapTo (fun x=>Fs.contains x) (lit'++up q T) (zai q M) 3 n lit):Xx 3 n R (lit++up 3 T) r (lit'++up q T) n':=by
 have hF1:(Fs.all fun x=>Nat.ble 3 x.1)=true:=by
  rw[List.all_eq_true] at hF ⊢
  intro x hx
  have:=hF x hx
  simp only[Bool.and_eq_true] at this
  exact this.1
 refine⟨_,_,znu (Wo hc) (y2w hF1),hv,z99 t (Wo hc) hH (fun id hid=>?_)⟩
 rcases hid with hid|hid
 ·exact y2w hF1 id (by omega)
 ·rw[List.all_eq_true] at hF
  simp only[List.contains_eq_any_beq,List.any_eq_false,beq_iff_eq]
  intro x hx hix
  have:=hF x hx
  simp only[Bool.and_eq_true] at this
  subst hix
  exact z13 this.2 hid
theorem Yw{f:FuncId}{bm:List Nat}{L:LFn}(hL:wb P bm f=some L)(hok:uk P f){args:List AVal}(hlen:args.length≤L.lay.n){H Lh:AHeap}{n0 n:Nat}{R:AVal}
 (h:LWp P L.lay n0 L.body (Zz L.res (Xx n0 n R Lh)) (ye 0 args) H n0):ACalls P f args H n0 (kg n R Lh):=ACalls.fin (ACalls.ofFnW hL hok hlen h)
def ze6(H:AHeap)(id:Id):Option Id:=if id.1=3 then(if(H.get (2,id.2)).isSome=true then some (2,id.2) else none) else if id.1<3 then(if id.1=2∧(H.get id).isSome=true then none else some id) else none
theorem zu2{H:AHeap}:RhoOk 3 4 (fun _=>false) H (ze6 H):=by
 have some_ne:∀ {id:Id},(H.get id).isSome=true→H.get id≠none:=fun h hn=>by rw[hn] at h;cases h
 refine⟨fun i j k hi hj=>?_,fun i k hi=>?_,fun i hi=>?_,fun i k hi hk=>?_,by omega⟩
 ·unfold ze6 at hi hj
  split at hi
  ·rename_i i3
   split at hi<;>simp only[Option.some.injEq,reduceCtorEq] at hi
   rename_i hs
   split at hj
   ·rename_i j3
    split at hj<;>simp only[Option.some.injEq,reduceCtorEq] at hj
    rw[←hi] at hj
    simp only[Prod.mk.injEq,true_and] at hj
    ext
    ·omega
    ·exact hj.symm
   ·split at hj<;>try (cases hj;done)
    split at hj<;>simp only[Option.some.injEq,reduceCtorEq] at hj
    rename_i hno
    subst hj
    refine absurd ⟨?_,?_⟩ hno
    ·rw[←hi]
    ·rw[←hi];exact hs
  ·split at hi<;>try (cases hi;done)
   split at hi<;>simp only[Option.some.injEq,reduceCtorEq] at hi
   rename_i hno
   subst hi
   split at hj
   ·split at hj<;>simp only[Option.some.injEq,reduceCtorEq] at hj
    rename_i hs
    refine absurd ⟨?_,?_⟩ hno
    ·rw[←hj]
    ·rw[←hj];exact hs
   ·split at hj<;>try (cases hj;done)
    split at hj<;>simp only[Option.some.injEq,reduceCtorEq] at hj
    exact hj.symm
 ·unfold ze6 at hi
  split at hi
  ·omega
  ·split at hi<;>try (cases hi;done)
   omega
 ·unfold ze6
  rw[if_neg (by omega),if_pos hi]
  split
  ·rename_i hc;exact .inr ⟨rfl,some_ne hc.2⟩
  ·exact .inl ⟨rfl,rfl⟩
 ·unfold ze6 at hk
  split at hk
  ·split at hk<;>simp only[Option.some.injEq,reduceCtorEq] at hk
   rename_i hs
   right;rw[←hk];exact some_ne hs
  ·split at hk
   ·omega
   ·cases hk
theorem zt4{lit' lit T:AHeap}{e' e:Env}(t:Tl T)(h1:noR 1 lit'=true)(h2:noR 2 lit'=true)(hE:EnvTo (fun _=>false) (lit'++T) (ze6 (lit'++T)) 4 e' e)(hH:HeapTo (fun _=>false) (lit'++T) (ze6 (lit'++T)) 3 4 lit) :
 Sim 3 e' (lit'++T) 3 e (lit++up 3 T) 4:=by
 refine Sim.of ⟨_,_,zu2,hE,?_⟩
 have app:∀ {id:Id} {b:ABlock},p12 id=true→T.get id=some b→AHeap.get (lit'++T) id=some b:=by
  intro id b hp hg
  rw[AHeap.get_append]
  have:lit'.get id=none:=by
   rcases Zg hp with h|h
   ·exact V6 h1 h
   ·exact V6 h2 h
  rw[this];simpa using hg
 have at1:∀p,ze6 (lit'++T) (1,p)=some (1,p):=fun p=>by unfold ze6;simp
 -- names under 2 that are alive
 have at2:∀ {id:Id} {b:ABlock},id.1=2→T.get id=some b→ze6 (lit'++T) (3,id.2)=some id:=by
  intro id b hid hg
  have e:id=(2,id.2):=by rw[←hid]
  unfold ze6
  rw[if_pos rfl]
  have:=app (by unfold p12;rw[hid];rfl) hg
  rw[e] at this
  simp only
  rw[this,e]
  simp
 intro id blk hg
 rw[AHeap.get_append] at hg
 cases hl:lit.get id with
 |some b=>
  rw[hl] at hg
  simp only[Option.some_or,Option.some.injEq] at hg
  subst hg
  exact hH.get id b hl
 |none=>
  rw[hl] at hg
  simp only[Option.none_or] at hg
  obtain⟨k,b0,g1,g2,g3,g4,g5⟩:=ztm t hg
  have hat:ze6 (lit'++T) id=some k:=by
   subst g4
   rcases Zg g2 with h|h
   ·unfold mv;rw[if_neg (by omega),show k=(1,k.2) by rw[←h]];exact at1 _
   ·unfold mv;rw[if_pos h];exact at2 h g1
  unfold Kj
  rw[hat]
  simp only
  rw[app g2 g1]
  refine⟨by trivial,?_⟩
  rw[g5]
  refine .mov (fun id=>p12 id&&(T.get id).isSome) (mv 2 3) b0 (t.val _ (Ks g1)) (fun i hi=>?_)
  simp only[Bool.and_eq_true] at hi
  have hs:∃b,T.get i=some b:=Option.isSome_iff_exists.1 hi.2
  obtain⟨b,hb⟩:=hs
  rcases Zg hi.1 with h|h
  ·have e:mv 2 3 i=i:=by unfold mv;rw[if_neg (by omega)]
   rw[e]
   refine⟨by omega,?_⟩
   rw[show i=(1,i.2) by rw[←h]];exact at1 _
  ·have e:mv 2 3 i=(3,i.2):=by unfold mv;rw[if_pos h]
   rw[e]
   exact⟨by simp only;omega,at2 h hb⟩
def y1k(k n:Nat)(M:List (Id×Id)):Bool:=M.all (fun x=>Nat.ble (x.1.1+1) k&&Nat.ble (x.2.1+1) n)&&(M.map (·.2)).Nodup
theorem Vd:∀ {M:List (Id×Id)} {k:Id},k∈M.map (·.2)→(M.map (·.1)).Nodup→∃i,z7s M i=some k
 |[],k,h,_=>by cases h
 |(a,b)::r,k,h,hn=>by
  simp only[List.map_cons,List.nodup_cons] at hn
  simp only[List.map_cons,List.mem_cons] at h
  rcases h with rfl|h
  ·exact⟨a,by simp[z7s]⟩
  ·obtain⟨i,hi⟩:=Vd h hn.2
   refine⟨i,?_⟩
   have:a≠i:=fun hai=>by subst hai;exact hn.1 (List.mem_map.2 ⟨_,ux hi,rfl⟩)
   simp[z7s,this,hi]
def H0To(H:AHeap)(ρ:Id→Option Id)(k:Nat):AHeap→Prop
 |[]=>True
 |(i,b)::r=>(∃x b',ρ i=some x∧H.get x=some b'∧BVw (fun _=>false) H ρ k b' b)∧H0To H ρ k r
theorem H0To.get{H:AHeap}{ρ:Id→Option Id}{k:Nat}:∀ {H0:AHeap},H0To H ρ k H0→∀i b,H0.get i=some b→∃x b',ρ i=some x∧H.get x=some b'∧BVw (fun _=>false) H ρ k b' b
 |[],_,i,b,h=>by simp[AHeap.get] at h
 |(j,c)::r,h,i,b,hg=>by
  by_cases hj:j=i
  ·subst hj;rw[AHeap.get_cons_same] at hg;simp only[Option.some.injEq] at hg;subst hg;exact h.1
  ·rw[AHeap.get_cons_other _ _ hj] at hg;exact H0To.get h.2 i b hg
theorem h0I{H:AHeap}{ρ:Id→Option Id}{k:Nat}{i:Id}{b b':ABlock}(x:Id)(h1:ρ i=some x)(h2:H.get x=some b')(h3:BVw (fun _=>false) H ρ k b' b):∃x b',ρ i=some x∧H.get x=some b'∧BVw (fun _=>false) H ρ k b' b:=⟨x,b',h1,h2,h3⟩
def zru(M:List (Id×Id)):Bool:=(M.map (·.1)).Nodup
def z3z(L:AHeap):Bool:=(L.map (·.1)).Nodup
theorem Q1{f:Fn}{args args0:List AVal}{H H0 L L' rest:AHeap}{n k m:Nat}{R R':AVal}{K:AVal→AHeap→Nat→Prop}(M:List (Id×Id))(h:ACalls P f args0 H0 k (kg (k+m) R L))
 (hM:y1k k n M=true) (hM1:zru M=true) (hnd:z3z L=true) (ha:ArgsTo (fun _=>false) H (z7s M) k args args0) (hH:H0To H (z7s M) k H0)
 (hR:R.ren (z0b (z7s M) k n m)=R') (hL:RenL (z0b (z7s M) k n m) L L') (hrest:AHeap.without (fun x=>(M.map (·.2)).contains x) H=rest)
 (hk:K R' (L'++rest) (n+m+1)):ACalls P f args H n K:=by
 unfold y1k at hM
 simp only[Bool.and_eq_true,List.all_eq_true,decide_eq_true_eq] at hM
 have hM':∀x∈M,x.1.1<k∧x.2.1<n:=fun x hx=>⟨Nat.le_of_ble_eq_true (hM.1 x hx).1,Nat.le_of_ble_eq_true (hM.1 x hx).2⟩
 refine ACalls.frame (F:=fun _=>false) (ρ:=z7s M) h (fun i j x hi hj=>Vq hM.2 (ux hi) (ux hj)) (fun i x hi=>⟨(hM' _ (ux hi)).1,(hM' _ (ux hi)).2,rfl⟩) (fun x hx=>by cases hx) ha hH.get
  (fun x=>(M.map (·.2)).contains x) (fun x=>?_) (by simpa[z3z] using hnd) ?_
 ·simp only[List.contains_eq_any_beq,List.any_eq_true,beq_iff_eq,exists_eq_right',Bool.false_eq_true,false_or]
  constructor
  ·intro hy
   exact Vd hy (by simpa[zru] using hM1)
  ·rintro⟨i,hi⟩
   exact List.mem_map.2 ⟨_,ux hi,rfl⟩
 ·rw[hR,hL.eq,hrest];exact hk
theorem Vk{p:Id→Bool}:∀ {H:AHeap},(∀x∈H,p x.1=false)→AHeap.without p H=H
 |[],_=>rfl
 |(k,b)::r,h=>by
  have:=h (k,b) (List.mem_cons_self ..)
  simp only at this
  simp only[AHeap.without,this,Bool.false_eq_true,if_false]
  rw[Vk (fun x hx=>h x (List.mem_cons_of_mem _ hx))]
def Xc(q:Nat)(M:List (Id×Id))(id:Id):Option Id:=if id.1=1 then some id else if id.1=2 then some (q,id.2) else z7s M id
theorem ztl{f:Fn}{args args0:List AVal}{lit0 lit L L' rest T T':AHeap}{n q m:Nat}{R R':AVal}{K:AVal→AHeap→Nat→Prop}(t:Tl T)(t':Tl T')(M:List (Id×Id))(h:ACalls P f args0 (lit0++T) 3 (kg (3+m) R (L++up 3 T')))
 (hM:y1k 3 n M=true) (hM1:zru M=true) (hM2:(M.all fun x=>Nat.beq x.1.1 0&&!(Nat.beq x.2.1 1)&&!(Nat.beq x.2.1 q))=true) (hn:(Nat.ble 3 q&&Nat.ble (q+1) n&&Nat.ble 1 m)=true) (hnd:z3z L=true) (hnr:(noR 1 L&&noR 3 L&&noR n lit&&noR 1 lit&&noR q lit)=true)
 (ha:ArgsTo (fun _=>false) (lit++up q T) (Xc q M) 3 args args0) (hH:H0To (lit++up q T) (Xc q M) 3 lit0)
 (hR:R.ren (z0b (Xc q M) 3 n m)=R') (hL:RenL (z0b (Xc q M) 3 n m) L L') (hrest:AHeap.without (fun x=>(M.map (·.2)).contains x) lit=rest)
 (hk:K R' (L'++(rest++up n T')) (n+m+1)):ACalls P f args (lit++up q T) n K:=by
 unfold y1k at hM
 simp only[Bool.and_eq_true,List.all_eq_true,decide_eq_true_eq] at hM hM2 hn hnr
 have hM':∀x∈M,x.1.1<3∧x.2.1<n:=fun x hx=>⟨Nat.le_of_ble_eq_true (hM.1 x hx).1,Nat.le_of_ble_eq_true (hM.1 x hx).2⟩
 have hM3:∀x∈M,x.1.1=0∧x.2.1≠1∧x.2.1≠q:=fun x hx=>⟨Nat.eq_of_beq_eq_true (hM2 x hx).1.1,z13 (by simpa using(hM2 x hx).1.2),z13 (by simpa using(hM2 x hx).2)⟩
 have q3:=Nat.le_of_ble_eq_true hn.1.1
 have qn:=Nat.le_of_ble_eq_true hn.1.2
 have m1:=Nat.le_of_ble_eq_true hn.2
 have q1:q≠1:=by omega
 have cases:∀ {i k:Id},Xc q M i=some k→(i.1=1∧k=i)∨(i.1=2∧k=(q,i.2))∨((i,k)∈M∧i.1=0∧k.1≠1∧k.1≠q):=by
  intro i k h
  unfold Xc at h
  split at h
  ·rename_i h1;simp only[Option.some.injEq] at h;exact .inl ⟨h1,h.symm⟩
  ·split at h
   ·rename_i h1;simp only[Option.some.injEq] at h;exact .inr (.inl ⟨h1,h.symm⟩)
   ·have:=ux h;exact .inr (.inr ⟨this,hM3 _ this⟩)
 have l1:∀p,Xc q M (1,p)=some (1,p):=fun p=>by simp[Xc]
 have l2:∀p,Xc q M (2,p)=some (q,p):=fun p=>by simp[Xc]
 refine ACalls.sub ?_
 refine ACalls.frame (F:=fun _=>false) (ρ:=Xc q M) h (fun i j x hi hj=>?_) (fun i x hi=>?_) (fun x hx=>by cases hx) ha (fun i b hb=>?_)
  (fun x=>p1q q x || (M.map (·.2)).contains x) (fun x=>?_) ?_ ?_
 ·rcases cases hi with⟨a1,a2⟩|⟨a1,a2⟩|⟨a1,a2,a3,a4⟩<;>rcases cases hj with⟨b1,b2⟩|⟨b1,b2⟩|⟨b1,b2,b3,b4⟩
  ·rw[←a2,←b2]
  ·rw[b2] at a2;have:i.1=q:=by rw[←a2]
   omega
  ·subst a2;omega
  ·rw[a2] at b2;have:j.1=q:=by rw[←b2]
   omega
  ·rw[a2] at b2;simp only[Prod.mk.injEq,true_and] at b2;ext
   ·omega
   ·exact b2
  ·rw[a2] at b4;exact absurd rfl b4
  ·subst b2;omega
  ·rw[b2] at a4;exact absurd rfl a4
  ·exact Vq hM.2 a1 b1
 ·rcases cases hi with⟨a1,a2⟩|⟨a1,a2⟩|⟨a1,a2,a3,a4⟩
  ·subst a2;exact⟨by omega,by omega,rfl⟩
  ·subst a2;exact⟨by omega,by simp only;omega,rfl⟩
  ·exact⟨by omega,(hM' _ a1).2,rfl⟩
 ·rw[AHeap.get_append] at hb
  cases hl:lit0.get i with
  |some b0=>
   rw[hl] at hb
   simp only[Option.some_or,Option.some.injEq] at hb
   subst hb
   exact hH.get i b0 hl
  |none=>
   rw[hl] at hb
   simp only[Option.none_or] at hb
   have hm:=Ks hb
   have hat:Xc q M i=some (mv 2 q i):=by
    have hk:p12 i=true:=t.key _ hm
    rcases Zg hk with h1|h1
    ·unfold mv;rw[if_neg (by omega),show i=(1,i.2) by rw[←h1]];exact l1 _
    ·unfold mv;rw[if_pos h1,show i=(2,i.2) by rw[←h1]];exact l2 _
   refine⟨_,_,hat,zsl t hnr.1.2 hnr.2 (ztk q1 t hb),?_⟩
   have e:(b.ren (mv 2 q)).ren (mv q 2)=b:=by
    rw[z5o q1 (t.val' _ hm)]
    have:=Kx (g:=mv 2 2) (h:=fun i=>i) (p:=p12) (fun id hid=>by
     unfold mv
     split
     ·rename_i h;rw[←h]
     ·rfl) b (t.val' _ hm)
    rw[this,zno]
   have:=BVw.mov (F:=fun _=>false) (H:=lit++up q T) (ρ:=Xc q M) (n:=3) (p1q q) (mv q 2) (b.ren (mv 2 q)) (z0i (fun id hid=>z3v (zkz hid)) _ (t.val' _ hm)) (fun id hid=>by
    rcases Jn hid with h1|h1
    ·have e:mv q 2 id=id:=by unfold mv;rw[if_neg (by omega)]
     rw[e,show id=(1,id.2) by rw[←h1]]
     exact⟨by simp only;omega,l1 _⟩
    ·have e:mv q 2 id=(2,id.2):=by unfold mv;rw[if_pos h1]
     rw[e]
     refine⟨by simp only;omega,?_⟩
     rw[l2,←h1])
   rwa [e] at this
 ·simp only[Bool.false_eq_true,false_or,Bool.or_eq_true]
  constructor
  ·rintro(h1|h1)
   ·rcases Jn h1 with h1|h1
    ·exact⟨x,by rw[show x=(1,x.2) by rw[←h1]];exact l1 _⟩
    ·exact⟨(2,x.2),by rw[l2,←h1]⟩
   ·simp only[List.contains_eq_any_beq,List.any_eq_true,beq_iff_eq,exists_eq_right'] at h1
    obtain⟨i,hi⟩:=Vd (M:=M) h1 (by simpa[zru] using hM1)
    have:=(hM3 _ (ux hi)).1
    exact⟨i,by unfold Xc;rw[if_neg (by simp only at this;omega),if_neg (by simp only at this;omega)];exact hi⟩
  ·rintro⟨i,hi⟩
   rcases cases hi with⟨a1,a2⟩|⟨a1,a2⟩|⟨a1,a2,a3,a4⟩
   ·left;subst a2;exact z3v (.inl a1)
   ·left;subst a2;exact z3v (.inr rfl)
   ·right
    simp only[List.contains_eq_any_beq,List.any_eq_true,beq_iff_eq,exists_eq_right']
    exact List.mem_map.2 ⟨_,a1,rfl⟩
 ·rw[List.map_append,List.nodup_append]
  refine⟨by simpa[z3z] using hnd,zyj (by omega) t',fun a ha b hb hab=>?_⟩
  obtain⟨x,hx,rfl⟩:=List.mem_map.1 ha
  obtain⟨y,hy,rfl⟩:=List.mem_map.1 hb
  have h1:=hnr.1.1.1.1
  have h3:=hnr.1.1.1.2
  unfold noR at h1 h3
  rw[List.all_eq_true] at h1 h3
  rcases(zf3 t' hy).1 with g|g
  ·exact z13 (h1 x hx) (by rw[hab];exact g)
  ·exact z13 (h3 x hx) (by rw[hab];exact g)
 ·have hu:∀id:Id,p1q 3 id=true→z0b (Xc q M) 3 n m id=mv 3 n id:=by
   intro id hid
   rcases Jn hid with h1|h1
   ·unfold z0b mv;rw[if_pos (by omega),if_neg (by omega),show id=(1,id.2) by rw[←h1],l1];rfl
   ·unfold z0b mv;rw[if_neg (by omega),if_pos h1,h1];simp
  have eT:AHeap.renamed (z0b (Xc q M) 3 n m) (up 3 T')=up n T':=by
   rw[←y33 (q:=3) (q':=n) (by omega) t']
   unfold AHeap.renamed
   refine List.map_congr_left fun x hx=>?_
   obtain⟨g1,g2⟩:=zf3 t' hx
   rw[hu _ (z3v g1),Kx hu _ g2]
  have eL:AHeap.renamed (z0b (Xc q M) 3 n m) (L++up 3 T')=L'++up n T':=by
   have:=hL.eq
   unfold AHeap.renamed at this eT ⊢
   rw[List.map_append,this,eT]
  rw[hR,eL]
  refine⟨_,fun id blk hb=>?_,hk⟩
  rw[AHeap.get_append] at hb ⊢
  rw[AHeap.get_append]
  cases g1:L'.get id with
  |some b=>rw[g1] at hb;simpa using hb
  |none=>
   rw[g1] at hb
   simp only[Option.none_or] at hb ⊢
   rw[AHeap.get_append] at hb
   cases g2:rest.get id with
   |none=>
    rw[g2] at hb
    simp only[Option.none_or] at hb
    rw[hb];rfl
   |some b=>
    rw[g2] at hb
    simp only[Option.some_or,Option.some.injEq] at hb
    subst hb
    -- an old block: not under 1, nor under n
    have hg:lit.get id=some b∧(M.map (·.2)).contains id=false:=by
     rw[←hrest,AHeap.get_without] at g2
     split at g2
     ·cases g2
     ·rename_i hc;exact⟨g2,by simpa using hc⟩
    have hlt:id.1≠1∧id.1≠q:=⟨fun h=>by rw[V6 hnr.1.2 h] at hg;exact absurd hg.1 (by simp),fun h=>by rw[V6 hnr.2 h] at hg;exact absurd hg.1 (by simp)⟩
    have hu0:(up n T').get id=none:=by
     cases hh:(up n T').get id with
     |none=>rfl
     |some b'=>
      rcases(zf3 t' (Ks hh)).1 with h1|h1
      ·exact absurd h1 hlt.1
      ·rw[V6 hnr.1.1.2 h1] at hg;exact absurd hg.1 (by simp)
    have hp:(p1q q id || (M.map (·.2)).contains id)=false:=by
     rw[hg.2,Bool.or_false]
     cases hh:p1q q id with
     |false=>rfl
     |true=>
      rcases Jn hh with h1|h1
      ·exact absurd h1 hlt.1
      ·exact absurd h1 hlt.2
    rw[hu0,AHeap.get_without,hp,AHeap.get_append,hg.1]
    simp
structure Clo(P:Program)(fid:Fn)(first caps:List AVal){σ α τ:Type}(Hc:σ→AHeap)(ea:α→List AVal)(rb:τ→AVal)(g:σ→α→Option (τ×σ)):Prop where
 tl:∀s,Tl (Hc s)
 hf:AVal.inP.inPL (fun id=>Nat.beq id.1 1) first=true
 hc:AVal.inP.inPL (fun id=>Nat.beq id.1 1) caps=true
 hb:∀b,(rb b).nid=true
 yc:(∃f,fid=.func f)∨caps=[]
 call:∀s x o,g s x=some o→ACalls P fid (first++ea x++caps) (Hc s) 3 (kg 4 (rb o.1) (up 3 (Hc o.2)))
theorem Ko{F:Id→Bool}{H:AHeap}{ρ:Id→Option Id}{n:Nat}:∀ {a b c d:List AVal},ArgsTo F H ρ n a b→ArgsTo F H ρ n c d→ArgsTo F H ρ n (a++c) (b++d)
 |[],[],_,_,_,h=>h
 |[],_::_,_,_,h,_=>h.elim
 |_::_,[],_,_,h,_=>h.elim
 |x::xs,y::ys,_,_,h,h'=>⟨h.1,Ko h.2 h'⟩
theorem Vw.fix1{F:Id→Bool}{H:AHeap}{ρ:Id→Option Id}{n:Nat}{x:AVal}(hx:x.inP (fun id=>Nat.beq id.1 1)=true)(hn:1<n)(hρ:∀p,ρ (1,p)=some (1,p)):Vw F H ρ n x x:=by
 have:=Vw.mov (F:=F) (H:=H) (ρ:=ρ) (n:=n) (fun id=>Nat.beq id.1 1) (fun i=>i) x hx (fun id hid=>by
  have h1:=Nat.eq_of_beq_eq_true hid
  refine⟨by omega,?_⟩
  rw[show id=(1,id.2) by rw[←h1]];exact hρ _)
 rwa [Ki] at this
theorem Ku{F:Id→Bool}{H:AHeap}{ρ:Id→Option Id}{n:Nat}(hn:1<n)(hρ:∀p,ρ (1,p)=some (1,p)):∀ {a:List AVal},AVal.inP.inPL (fun id=>Nat.beq id.1 1) a=true→ArgsTo F H ρ n a a
 |[],_=>trivial
 |x::r,h=>by
  simp only[AVal.inP.inPL,Bool.and_eq_true] at h
  exact⟨.fix1 h.1 hn hρ,Ku hn hρ h.2⟩
theorem Vw.clo{F:Id→Bool}{H:AHeap}{ρ:Id→Option Id}{n:Nat}{f:Fn}{a c:List AVal}(ha:AVal.inP.inPL (fun id=>Nat.beq id.1 1) a=true)(hc:AVal.inP.inPL (fun id=>Nat.beq id.1 1) c=true)(hn:1<n)(hρ:∀p,ρ (1,p)=some (1,p)):Vw F H ρ n (.fn f a c) (.fn f a c):=
 .fix1 (by simp only[AVal.inP,ha,hc,Bool.and_self]) hn hρ
theorem zc8(q:Nat)(M:List (Id×Id))(p:Nat):Xc q M (1,p)=some (1,p):=by simp[Xc]
theorem zss(H:AHeap)(p:Nat):ze6 H (1,p)=some (1,p):=by simp[ze6]
theorem Clo.use{fid:Fn}{first caps:List AVal}{σ α τ:Type}{Hc:σ→AHeap}{ea:α→List AVal}{rb:τ→AVal}{g:σ→α→Option (τ×σ)}(c:Clo P fid first caps Hc ea rb g){s:σ}{x:α}{o:τ×σ}(h:g s x=some o)
 {args:List AVal} {lit:AHeap} {n q:Nat} {K:AVal→AHeap→Nat→Prop} (hn:(Nat.ble 3 q&&Nat.ble (q+1) n)=true) (hnr:(noR n lit&&noR 1 lit&&noR q lit)=true) (ha:ArgsTo (fun _=>false) (lit++up q (Hc s)) (Xc q []) 3 args (ea x))
 (hk:K (rb o.1) (lit++up n (Hc o.2)) (n+2)):ACallsC P fid first args caps (lit++up q (Hc s)) n K:=by
 have key:∀ {f:Fn},(∃f',f=.func f')∨caps=[]→ACalls P f (first++args++caps) (lit++up q (Hc s)) n K→ACallsC P f first args caps (lit++up q (Hc s)) n K:=by
  intro f h1 h2
  cases f with
  |func g=>exact h2
  |_=>
   rcases h1 with⟨f',h1⟩|h1
   ·cases h1
   ·exact⟨h1,h2⟩
 refine key c.yc ?_
 refine ztl (m:=1) (L:=[]) (L':=[]) (lit0:=[]) (rest:=lit) (R':=rb o.1) (c.tl s) (c.tl o.2) [] (c.call s x o h) rfl rfl rfl ?_ rfl ?_ (Ko (Ko (Ku (by omega) (zc8 q []) c.hf) ha) (Ku (by omega) (zc8 q []) c.hc)) trivial
  (wv _ (c.hb _)) trivial (Vk (fun _ _=>rfl)) hk
 ·simp only[Bool.and_eq_true] at hn ⊢
  exact⟨hn,rfl⟩
 ·simp only[Bool.and_eq_true] at hnr ⊢
  exact⟨⟨⟨⟨rfl,rfl⟩,hnr.1.1⟩,hnr.1.2⟩,hnr.2⟩
theorem ACalls.same{f:Fn}{args:List AVal}{H:AHeap}{n:Nat}{R:AVal}(hR:R.nid=true)(h:ACalls P f args H n (fun r H' n'=>r=R∧z1e (fun _=>false) H' (rho n []) n n H)):ACalls P f args H n (fun r H' n'=>r=R∧H'=H∧n'=n):=by
 refine⟨h.1,fun I β w vs hI hl hr=>(h.2 I β w vs hI hl hr).mono ?_⟩
 rintro ee w' ⟨r,v,H',n',I',β',he,⟨rfl,hH⟩,hI',hr',hx⟩
 have hρ:RhoOk n n (fun _=>false) H' (rho n []):=zqv (by simp[Ur]) (fun _ _=>rfl)
 obtain⟨k1,k2⟩:=zds hx hI' hρ hH
 exact⟨_,v,H,n,_,_,he,⟨rfl,rfl,rfl⟩,k2,Jp (fun _ _ h=>.inl h) _ hR hr',k1⟩
theorem ACalls.sim{f:Fn}{args args':List AVal}{H L:AHeap}{n n2:Nat}{K:AVal→AHeap→Nat→Prop}(hc:Nat.ble n n2=true)(ha:ArgsTo (fun _=>false) H (rho n []) n2 args args')(hH:HeapTo (fun _=>false) H (rho n []) n n2 L)
 (h:ACalls P f args' L n2 K):ACalls P f args H n K:=by
 refine⟨h.1,fun I β w vs hI hl hr=>?_⟩
 have hρ:RhoOk n n2 (fun _=>false) H (rho n []):=zqv (by simp[Ur,hc]) (fun _ _=>rfl)
 obtain⟨k1,k2⟩:=zds (Ext.refl I β n H w hI.fresh) hI hρ hH.get
 obtain⟨ha1,ha2⟩:=ha.get
 refine(h.2 _ _ w vs k2 (by rw[hl,ha1]) (fun i y v hy hv=>?_)).mono ?_
 ·have hlt:i<args.length:=by rw[ha1];exact J9 hy
  exact z00 hI hρ (ha2 i args[i] y (List.getElem?_eq_getElem hlt) hy) (hr i _ v (List.getElem?_eq_getElem hlt) hv)
 ·rintro ee w' ⟨r,v,H',n',I',β',he,hk,hI',hr',hx⟩
  exact⟨r,v,H',n',I',β',he,hk,hI',hr',k1.trans hx⟩
def zw7(p:Id→Bool):AHeap→Prop
 |[]=>True
 |(_,b)::r=>b.inP p=true∧zw7 p r
theorem zaa{p:Id→Bool}:∀ {T:AHeap},zw7 p T→∀x∈T,x.2.inP p=true
 |[],_,x,hx=>by cases hx
 |(_,b)::r,h,x,hx=>by
  rcases List.mem_cons.1 hx with e|hx
  ·rw[e];exact h.1
  ·exact zaa h.2 x hx
theorem Tl.lit{T:AHeap}(hk:(T.all fun x=>p12 x.1)=true)(hv:zw7 (fun id=>p12 id&&(T.get id).isSome) T)(hn:z3z T=true):Tl T:=
 ⟨by rw[List.all_eq_true] at hk;exact hk,zaa hv,by simpa[z3z] using hn⟩
theorem Vw.fnL{F:Id→Bool}{H:AHeap}{ρ:Id→Option Id}{n:Nat}{f:Fn}{a c a' c':List AVal}(h1:VwL F H ρ n a a')(h2:VwL F H ρ n c c'):Vw F H ρ n (.fn f a c) (.fn f a' c'):=.fn _ _ _ _ _ (Yl h1).1 (Yl h2).1 (Yl h1).2 (Yl h2).2
theorem Clo.mk'{fid:FuncId}{first caps:List AVal}{σ α τ:Type}{Hc:σ→AHeap}{ea:α→List AVal}{rb:τ→AVal}{g:σ→α→Option (τ×σ)}(tl:∀s,Tl (Hc s))(hf:AVal.inP.inPL (fun id=>Nat.beq id.1 1) first=true)(hc:AVal.inP.inPL (fun id=>Nat.beq id.1 1) caps=true)
 (hb:∀b,(rb b).nid=true) (call:∀s x o,g s x=some o→∃L,ACalls P fid (first++ea x++caps) (Hc s) 3 (kg 4 (rb o.1) L)∧RenL (mv 2 3) (Hc o.2) L):Clo P fid first caps Hc ea rb g:=
 ⟨tl,hf,hc,hb,.inl ⟨_,rfl⟩,fun s x o h=>by
  obtain⟨L,h1,h2⟩:=call s x o h
  have:=h2.eq
  unfold up
  rw[this];exact h1⟩
theorem zn{e e':Env}{x:LOpd}(h:∀t∈x.tmps,e.get t=e'.get t):x.ev e=x.ev e'∧x.need e=x.need e':=by
 cases x with
 |t i=>have:=h i (by simp[LOpd.tmps]);simp[LOpd.ev,LOpd.need,this]
 |c v=>exact⟨rfl,rfl⟩
theorem Yg{e e':Env}:∀ {l:List LOpd},(∀t∈l.flatMap LOpd.tmps,e.get t=e'.get t)→evs e l=evs e' l∧Jh e l=Jh e' l
 |[],_=>⟨rfl,rfl⟩
 |x::r,h=>by
  obtain⟨h1,h2⟩:=zn (e:=e) (e':=e') (x:=x) (fun t ht=>h t (by simp[ht]))
  obtain⟨h3,h4⟩:=Yg (e:=e) (e':=e') (l:=r) (fun t ht=>h t (by simp only[List.flatMap_cons,List.mem_append];exact .inr ht))
  simp only[evs,Jh,h1,h2,h3,h4,and_self]
theorem Qz{e e':Env}{x:Option LOpd}(h:∀t∈zcn x,e.get t=e'.get t):(∀d,js e d x=js e' d x)∧Y0 e x=Y0 e' x∧z39 e x=z39 e' x:=by
 cases x with
 |none=>exact⟨fun _=>rfl,rfl,rfl⟩
 |some x=>
  obtain⟨h1,h2⟩:=zn (e:=e) (e':=e') (x:=x) h
  refine⟨fun d=>?_,?_,?_⟩<;>simp only[js,Y0,z39,h1,h2]
theorem z2a{e e':Env}:∀ {l:List (Nat×Nat×LOpd)},(∀t∈l.flatMap (fun p=>p.2.2.tmps),e.get t=e'.get t)→kx e l=kx e' l∧kb e l=kb e' l
 |[],_=>⟨rfl,rfl⟩
 |(o,n,x)::r,h=>by
  obtain⟨h1,h2⟩:=zn (e:=e) (e':=e') (x:=x) (fun t ht=>h t (by simp[ht]))
  obtain⟨h3,h4⟩:=z2a (e:=e) (e':=e') (l:=r) (fun t ht=>h t (by simp only[List.flatMap_cons,List.mem_append];exact .inr ht))
  simp only[kx,kb,h1,h2,h3,h4,and_self]
theorem Uk{e e':Env}:∀ {l:List (Nat×LOpd)},(∀t∈l.flatMap (fun p=>p.2.tmps),e.get t=e'.get t)→evI e l=evI e' l∧U1 e l=U1 e' l
 |[],_=>⟨rfl,rfl⟩
 |(n,x)::r,h=>by
  obtain⟨h1,h2⟩:=zn (e:=e) (e':=e') (x:=x) (fun t ht=>h t (by simp[ht]))
  obtain⟨h3,h4⟩:=Uk (e:=e) (e':=e') (l:=r) (fun t ht=>h t (by simp only[List.flatMap_cons,List.mem_append];exact .inr ht))
  simp only[evI,U1,h1,h2,h3,h4,and_self]
theorem z2j{e e':Env}{H:AHeap}{op:LOp}(h:∀t∈op.tmps,e.get t=e'.get t):w5 e H op=w5 e' H op:=by
 have hl:∀ {a b:List Nat},(∀t∈a++b,e.get t=e'.get t)→(∀t∈a,e.get t=e'.get t)∧(∀t∈b,e.get t=e'.get t):=fun h=>⟨fun t ht=>h t (List.mem_append_left _ ht),fun t ht=>h t (List.mem_append_right _ ht)⟩
 cases op with
 |mv x=>obtain⟨h1,h2⟩:=zn h;simp only[w5,h1,h2]
 |pick c a b=>
  obtain⟨h12,h3⟩:=hl h
  obtain⟨h1,h2⟩:=hl h12
  obtain⟨a1,a2⟩:=zn h1
  obtain⟨b1,b2⟩:=zn h2
  obtain⟨c1,c2⟩:=zn h3
  simp only[w5,a1,a2,b1,b2,c1,c2]
 |build zs parts=>obtain⟨h1,h2⟩:=z2a h;simp only[w5,h1,h2]
 |load g n a=>obtain⟨h1,h2⟩:=zn h;simp only[w5,h1,h2]
 |nilck x=>obtain⟨h1,h2⟩:=zn h;simp only[w5,h1,h2]
 |bin op x y=>
  obtain⟨h1,h2⟩:=hl h
  obtain⟨a1,a2⟩:=zn h1
  obtain⟨b1,b2⟩:=zn h2
  simp only[w5,a1,a2,b1,b2]
 |eq neg k x y=>
  obtain⟨h1,h2⟩:=hl h
  obtain⟨a1,a2⟩:=zn h1
  obtain⟨b1,b2⟩:=zn h2
  simp only[w5,a1,a2,b1,b2]
 |un op x=>obtain⟨h1,h2⟩:=zn h;simp only[w5,h1,h2]
 |conv k x=>
  obtain⟨h1,h2⟩:=zn h
  cases k<;>simp only[w5,h1,h2]
 |mkfn f a c=>
  obtain⟨h1,h2⟩:=hl h
  obtain⟨a1,a2⟩:=Yg h1
  obtain⟨b1,b2⟩:=Yg h2
  simp only[w5,a1,a2,b1,b2]
 |slStr x lo hi=>
  obtain⟨h12,h3⟩:=hl h
  obtain⟨h1,h2⟩:=hl h12
  obtain⟨a1,a2⟩:=zn h1
  obtain⟨b1,b2,_⟩:=Qz h2
  obtain⟨c1,c2,_⟩:=Qz h3
  simp only[w5,a1,a2,b1,b2,c1,c2]
 |slSl s x lo hi mx=>
  obtain⟨h123,h4⟩:=hl h
  obtain⟨h12,h3⟩:=hl h123
  obtain⟨h1,h2⟩:=hl h12
  obtain⟨a1,a2⟩:=zn h1
  obtain⟨b1,b2,_⟩:=Qz h2
  obtain⟨c1,c2,_⟩:=Qz h3
  obtain⟨_,d2,d3⟩:=Qz h4
  simp only[w5,a1,a2,b1,b2,c1,c2,d2,d3]
 |slAr k s x=>obtain⟨h1,h2⟩:=zn h;simp only[w5,h1,h2]
 |faddr off x=>obtain⟨h1,h2⟩:=zn h;simp only[w5,h1,h2]
 |field g n off x=>obtain⟨h1,h2⟩:=zn h;simp only[w5,h1,h2]
 |iaddr s x i=>
  obtain⟨h1,h2⟩:=hl h
  obtain⟨a1,a2⟩:=zn h1
  obtain⟨b1,b2⟩:=zn h2
  simp only[w5,a1,a2,b1,b2]
 |iaddrA n s x i=>
  obtain⟨h1,h2⟩:=hl h
  obtain⟨a1,a2⟩:=zn h1
  obtain⟨b1,b2⟩:=zn h2
  simp only[w5,a1,a2,b1,b2]
 |iaddrR n s x i=>
  obtain⟨h1,h2⟩:=hl h
  obtain⟨a1,a2⟩:=zn h1
  obtain⟨b1,b2⟩:=zn h2
  simp only[w5,a1,a2,b1,b2]
 |idxS x i=>
  obtain⟨h1,h2⟩:=hl h
  obtain⟨a1,a2⟩:=zn h1
  obtain⟨b1,b2⟩:=zn h2
  simp only[w5,a1,a2,b1,b2]
 |idxA n s g x i=>
  obtain⟨h1,h2⟩:=hl h
  obtain⟨a1,a2⟩:=zn h1
  obtain⟨b1,b2⟩:=zn h2
  simp only[w5,a1,a2,b1,b2]
 |mlook ks ka g ok zs x k=>
  obtain⟨h1,h2⟩:=hl h
  obtain⟨a1,a2⟩:=zn h1
  obtain⟨b1,b2⟩:=zn h2
  simp only[w5,a1,a2,b1,b2]
 |mlen x=>obtain⟨h1,h2⟩:=zn h;simp only[w5,h1,h2]
 |ext k x=>obtain⟨h1,h2⟩:=zn h;simp only[w5,h1,h2]
 |len b x=>obtain⟨h1,h2⟩:=zn h;cases b<;>simp only[w5,h1,h2]
 |mnx m args=>obtain⟨h1,h2⟩:=Yg h;simp only[w5,h1,h2]
 |_=>rfl
theorem z47{e e':Env}{H:AHeap}{n:Nat}{K:AVal→AHeap→Nat→Prop}{op:LOp}(h:∀t∈op.tmps,e.get t=e'.get t):ky P e H n K op=ky P e' H n K op:=by
 have hl:∀ {a b:List Nat},(∀t∈a++b,e.get t=e'.get t)→(∀t∈a,e.get t=e'.get t)∧(∀t∈b,e.get t=e'.get t):=fun h=>⟨fun t ht=>h t (List.mem_append_left _ ht),fun t ht=>h t (List.mem_append_right _ ht)⟩
 cases op with
 |box x=>obtain⟨h1,h2⟩:=zn h;simp only[ky,h1,h2]
 |mkSl vm s zs len parts=>obtain⟨h1,h2⟩:=Uk h;simp only[ky,h1,h2]
 |store m a x=>
  obtain⟨h1,h2⟩:=hl h
  obtain⟨a1,a2⟩:=zn h1
  obtain⟨b1,b2⟩:=zn h2
  simp only[ky,a1,a2,b1,b2]
 |conv k x=>
  obtain⟨h1,h2⟩:=zn h
  cases k<;>simp only[ky,h1,h2]
 |mkslice vm s b zs l c=>
  obtain⟨h1,h2⟩:=hl h
  obtain⟨a1,a2⟩:=zn h1
  obtain⟨b1,b2⟩:=zn h2
  simp only[ky,a1,a2,b1,b2]
 |call f args=>obtain⟨h1,h2⟩:=Yg h;simp only[ky,h1,h2]
 |callv x args=>
  obtain⟨h1,h2⟩:=hl h
  obtain⟨a1,a2⟩:=zn h1
  obtain⟨b1,b2⟩:=Yg h2
  simp only[ky,a1,a2,b1,b2]
 |app vm s b x y=>
  obtain⟨h1,h2⟩:=hl h
  obtain⟨a1,a2⟩:=zn h1
  obtain⟨b1,b2⟩:=zn h2
  simp only[ky,a1,a2,b1,b2]
 |mkmap r=>cases r<;>rfl
 |range x=>obtain⟨h1,h2⟩:=zn h;simp only[ky,h1,h2]
 |next x=>obtain⟨h1,h2⟩:=zn h;simp only[ky,h1,h2]
 |entry x=>obtain⟨h1,h2⟩:=zn h;simp only[ky,h1,h2]
 |mset ks ka g zs m k x=>
  obtain⟨h12,h3⟩:=hl h
  obtain⟨h1,h2⟩:=hl h12
  obtain⟨a1,a2⟩:=zn h1
  obtain⟨b1,b2⟩:=zn h2
  obtain⟨c1,c2⟩:=zn h3
  simp only[ky,a1,a2,b1,b2,c1,c2]
 |mdel ks ka m k=>
  obtain⟨h1,h2⟩:=hl h
  obtain⟨a1,a2⟩:=zn h1
  obtain⟨b1,b2⟩:=zn h2
  simp only[ky,a1,a2,b1,b2]
 |copy s x y=>
  obtain⟨h1,h2⟩:=hl h
  obtain⟨a1,a2⟩:=zn h1
  obtain⟨b1,b2⟩:=zn h2
  simp only[ky,a1,a2,b1,b2]
 |_=>rfl
theorem zgu{s bytes:Nat}{H:AHeap}{n:Nat}{K K':AVal→AHeap→Nat→Prop}{x:AVal}{rows2:List (List AVal)}(hk:∀r H n,K r H n→K' r H n)(h:z81 s bytes H n K x rows2):z81 s bytes H n K' x rows2:=by
 unfold z81 at h ⊢
 split at h
 ·exact⟨h.1,hk _ _ _ h.2⟩
 ·exact⟨h.1,h.2.1,h.2.2.1,hk _ _ _ h.2.2.2⟩
 ·exact⟨h.1,h.2.1,h.2.2.1,hk _ _ _ h.2.2.2⟩
 ·exact h.elim
theorem zl1{s bytes:Nat}{H:AHeap}{n:Nat}{K K':AVal→AHeap→Nat→Prop}{x:AVal}{rows2:List (List AVal)}(hk:∀r H n,K r H n→K' r H n)(h:zpf s bytes H n K x rows2):zpf s bytes H n K' x rows2:=by
 unfold zpf at h ⊢
 split at h
 ·exact⟨fun hr=>hk _ _ _ (h.1 hr),fun hr=>⟨(h.2 hr).1,hk _ _ _ (h.2 hr).2⟩⟩
 ·exact⟨h.1,fun hr=>hk _ _ _ (h.2.1 hr),fun hr=>⟨(h.2.2 hr).1,(h.2.2 hr).2.1,hk _ _ _ (h.2.2 hr).2.2⟩⟩
 ·split at h
  ·rename_i hg
   try simp only[hg]
   exact⟨h.1,h.2.1,h.2.2.1,fun hf hr=>hk _ _ _ (h.2.2.2.1 hf hr),fun hr=>⟨(h.2.2.2.2 hr).1,hk _ _ _ (h.2.2.2.2 hr).2⟩⟩
  ·exact h.elim
 ·exact h.elim
theorem Xa{e:Env}{H:AHeap}{n:Nat}{K K':AVal→AHeap→Nat→Prop}{op:LOp}(hk:∀r H n,K r H n→K' r H n)(h:ky P e H n K op):ky P e H n K' op:=by
 cases op<;>simp only[ky] at h ⊢<;>try (exact h.elim)
 case alloc zs=>exact hk _ _ _ h
 case allocR s zs=>exact hk _ _ _ h
 case allocB T el=>exact hk _ _ _ h
 case box x=>
  split at h<;>try (exact h.elim)
  rename_i hc
  try simp only[hc]
  exact⟨h.1,hk _ _ _ h.2⟩
 case mkSl vm s zs len parts=>
  split at h<;>try (exact h.elim)
  rename_i hr
  try simp only[hr]
  cases vm with
  |true=>
   simp only at h ⊢
   split at h<;>try (exact h.elim)
   rename_i hi
   try simp only[hi]
   exact⟨h.1,h.2.1,h.2.2.1,hk _ _ _ h.2.2.2⟩
  |false=>
   obtain⟨h1,h2,h3,rs,h4,h5⟩:=h
   exact⟨h1,h2,h3,rs,h4,hk _ _ _ h5⟩
 case store m a x=>
  split at h<;>try (exact h.elim)
  rename_i ha hc
  try simp only[ha,hc]
  split at h
  ·rename_i hg
   try simp only[hg]
   exact⟨h.1,h.2.1,h.2.2.1,h.2.2.2.1,h.2.2.2.2.1,hk _ _ _ h.2.2.2.2.2⟩
  ·rename_i hg
   try simp only[hg]
   exact⟨h.1,h.2.1,h.2.2.1,h.2.2.2.1,h.2.2.2.2.1,hk _ _ _ h.2.2.2.2.2⟩
  ·exact h.elim
 case conv k x=>
  cases k<;>(try simp only at h ⊢)<;>try (exact h.elim)
  case s2b vm=>
   split at h<;>try (exact h.elim)
   rename_i hl
   try simp only[hl]
   cases vm<;>exact⟨h.1,hk _ _ _ h.2⟩
  case b2s=>
   split at h<;>try (exact h.elim)
   rename_i hl
   try simp only[hl]
   exact⟨h.1,h.2.1,h.2.2.1,h.2.2.2.1,hk _ _ _ h.2.2.2.2⟩
 case mkslice vm s bytes zs l c=>
  split at h<;>try (exact h.elim)
  rename_i hl hc
  try simp only[hl,hc]
  cases vm with
  |true=>exact⟨h.1,h.2.1,h.2.2.1,h.2.2.2.1,h.2.2.2.2.1,hk _ _ _ h.2.2.2.2.2⟩
  |false=>
   obtain⟨h1,h2,h3,h4,h5,rows,h7,h6⟩:=h
   exact⟨h1,h2,h3,h4,h5,rows,h7,hk _ _ _ h6⟩
 case call f args=>exact⟨h.1,h.2.mono hk⟩
 case mkmap r=>
  cases r with
  |none=>exact hk _ _ _ h
  |some x=>exact h.elim
 case range x=>
  split at h
  ·rename_i hx
   try simp only[hx]
   split at h<;>try (exact h.elim)
   rename_i hg
   try simp only[hg]
   exact⟨h.1,fun arr ck=>hk _ _ _ (h.2 arr ck)⟩
  ·rename_i hx
   try simp only[hx]
   exact⟨h.1,hk _ _ _ h.2⟩
  ·exact h.elim
 case next x=>
  split at h<;>try (exact h.elim)
  rename_i hx
  try simp only[hx]
  split at h
  ·rename_i hg
   try simp only[hg]
   exact⟨h.1,hk _ _ _ h.2⟩
  ·rename_i hg
   try simp only[hg]
   split at h<;>try (exact h.elim)
   rename_i hb
   try simp only[hb]
   exact⟨h.1,h.2.1,h.2.2.1,fun q=>hk _ _ _ (h.2.2.2.1 q),fun j h1 h2=>hk _ _ _ (h.2.2.2.2 j h1 h2)⟩
  ·exact h.elim
 case entry x=>
  split at h<;>try (exact h.elim)
  rename_i hx
  try simp only[hx]
  split at h<;>try (exact h.elim)
  rename_i hg
  try simp only[hg]
  split at h<;>try (exact h.elim)
  rename_i hb
  try simp only[hb]
  obtain⟨h1,h2,h3,p,h4,h5⟩:=h
  exact⟨h1,h2,h3,p,h4,hk _ _ _ h5⟩
 case mset ks ka g zs m k x=>
  split at h<;>try (exact h.elim)
  rename_i hm hy
  try simp only[hm,hy]
  split at h<;>try (exact h.elim)
  rename_i hg
  try simp only[hg]
  split at h<;>try (exact h.elim)
  rename_i hp
  try simp only[hp]
  exact⟨h.1,h.2.1,h.2.2.1,h.2.2.2.1,hk _ _ _ h.2.2.2.2⟩
 case mdel ks ka m k=>
  split at h<;>try (exact h.elim)
  rename_i hm
  try simp only[hm]
  split at h<;>try (exact h.elim)
  rename_i hg
  try simp only[hg]
  split at h<;>try (exact h.elim)
  rename_i hp
  try simp only[hp]
  exact⟨h.1,h.2.1,h.2.2.1,hk _ _ _ h.2.2.2⟩
 case callv x args=>
  split at h<;>try (exact h.elim)
  rename_i hx
  try simp only[hx]
  exact⟨h.1,h.2.1,h.2.2.mono hk⟩
 case app vm s bytes x y=>
  split at h<;>try (exact h.elim)
  rename_i hr
  try simp only[hr]
  cases vm with
  |true=>
   simp only at h ⊢
   split at h<;>try (exact h.elim)
   rename_i hi
   try simp only[hi]
   exact⟨h.1,h.2.1,h.2.2.1,zgu hk h.2.2.2⟩
  |false=>exact⟨h.1,h.2.1,h.2.2.1,zl1 hk h.2.2.2⟩
 case copy s x y=>
  split at h<;>try (exact h.elim)
  rename_i hx hr
  try simp only[hx,hr]
  split at h<;>try (exact h.elim)
  rename_i hg
  try simp only[hg]
  exact⟨h.1,h.2.1,h.2.2.1,h.2.2.2.1,h.2.2.2.2.1,h.2.2.2.2.2.1,hk _ _ _ h.2.2.2.2.2.2⟩
theorem zee{lo:LOper}{e:Env}{t:Nat}(h:t∈lo.looks):(lo.sees e).get t=e.get t:=by
 unfold LOper.sees
 generalize lo.looks=l at h
 induction l with
 |nil=>cases h
 |cons a r ih=>
  simp only[List.map_cons,Env.get]
  split
  ·rename_i h1;rw[h1]
  ·rename_i h1
   rcases List.mem_cons.1 h with e'|h
   ·exact absurd e'.symm h1
   ·exact ih h
theorem Kl{lo:LOper}{e:Env}:∀t∈lo.op.tmps,(lo.sees e).get t=e.get t:=fun t ht=>zee (by unfold LOper.looks;exact List.mem_append_left _ ht)
theorem zgw{d:Option Nat}{op:LOp}{g:Nat}{w:Bool}{e:Env}:((⟨d,op,some (g,w)⟩:LOper).sees e).get g=e.get g:=zee (by simp[LOper.looks])
theorem uo{R:Env→AHeap→Nat→Prop}:∀ (items:List DItem) {p:Nat} {done:List (Nat×LOper×Env×AVal)} {e:Env} {H:AHeap} {n:Nat},(items.all fun it=>it.loose.isEmpty)=true→Ju P (items.map (·.lo)) R e H n→xd P items p done R e H n
 |[],p,done,e,H,n,_,h=>h
 |⟨⟨d,op,none⟩,loose⟩::rest,p,done,e,H,n,hl,h=>by
  simp only[List.all_cons,Bool.and_eq_true] at hl
  have hlo:loose=[]:=by simpa using hl.1
  simp only[List.map_cons,Ju] at h
  unfold xd
  try simp only
  split at h
  ·rename_i hp
   try simp only[hp]
   split at h
   ·rename_i side v hx
    refine⟨v,?_,uo rest hl.2 h.2⟩
    unfold Xp
    try simp only
    rw[z2j (e':=e) (fun t ht=>Kl (lo:=⟨d,op,none⟩) t ht),hx]
    exact⟨h.1,.inl rfl⟩
   ·exact h.elim
  ·rename_i hp
   try simp only[hp]
   unfold z07
   try simp only
   rw[z47 (e':=e) (fun t ht=>Kl (lo:=⟨d,op,none⟩) t ht)]
   refine Xa (fun r H' n' hk=>⟨(fun x _ hx=>by rw[hlo] at hx;cases hx),uo rest hl.2 hk⟩) h
 |⟨⟨d,op,some (g,want)⟩,loose⟩::rest,p,done,e,H,n,hl,h=>by
  simp only[List.all_cons,Bool.and_eq_true] at hl
  have hlo:loose=[]:=by simpa using hl.1
  simp only[List.map_cons,Ju] at h
  unfold xd
  try simp only
  split at h<;>try (exact h.elim)
  rename_i q hq
  have hg:Z4 (((⟨d,op,some (g,want)⟩:LOper).sees e).get g) want=some q:=by rw[zgw];exact hq
  split at h
  ·rename_i hp
   try simp only[hp]
   unfold Xp
   try simp only
   try simp only[hg]
   rw[z2j (e':=e) (fun t ht=>Kl (lo:=⟨d,op,some (g,want)⟩) t ht)]
   split at h
   ·rename_i side v hx
    try simp only[hx]
    rcases h with⟨u,h1,h2⟩|⟨h1,h2⟩
    ·exact⟨.cnd q u,⟨fun hq=>(h1 hq).1,.inr (.inr ⟨q,v,u,rfl,rfl,fun hq=>(h1 hq).2⟩)⟩,uo rest hl.2 h2⟩
    ·refine⟨.tup [],⟨(fun hq=>by rw[h1] at hq;cases hq),.inr (.inl ⟨.inr ⟨v,by rw[h1]⟩,.inl rfl⟩)⟩,uo rest hl.2 h2⟩
   ·rename_i hx
    try simp only[hx]
    exact⟨.tup [],⟨h.1,.inl rfl⟩,uo rest hl.2 h.2⟩
  ·rename_i hp
   try simp only[hp]
   unfold z07
   try simp only
   try simp only[hg]
   have hk:∀ (K:AVal→AHeap→Nat→Prop) (hh:q=true→ky P e H n K op),q=true→ky P ((⟨d,op,some (g,want)⟩:LOper).sees e) H n K op:=fun K hh hq=>by
    rw[z47 (e':=e) (fun t ht=>Kl (lo:=⟨d,op,some (g,want)⟩) t ht)];exact hh hq
   rcases h with⟨R',h1,h2⟩|⟨h1,h2⟩
   ·exact Or.inl ⟨R',(hk _ h1),(fun x _ hx=>by rw[hlo] at hx;cases hx),uo rest hl.2 h2⟩
   ·refine Or.inr ⟨hk _ (fun hq=>Xa (fun r H' n' hk=>⟨(fun x _ hx=>by rw[hlo] at hx;cases hx),uo rest hl.2 hk⟩) (h1 hq)),fun hq=>(h2 hq).elim fun u hu=>⟨u,hu.1,(fun x _ hx=>by rw[hlo] at hx;cases hx),uo rest hl.2 hu.2⟩⟩
theorem zrw{N:Lay}{n0:Nat}{items:List DItem}{Q:Exit→Env→AHeap→Nat→Prop}{e:Env}{H:AHeap}{n:Nat}(hl:(items.all fun it=>it.loose.isEmpty)=true)(h:zpg P (items.map (·.lo)) (Q .normal) e H n):LWp P N n0 (.draw items) Q e H n:=
 yx (.draw items) Q e H n (uo items hl (Jd _ h))
def lk{κ α:Type}(q:κ→κ→Bool):List (κ×α)→κ→Option α
 |[],_=>none
 |(k',v)::r,k=>if q k k'=true then some v else lk q r k
def mp{κ α:Type}(q:κ→κ→Bool):List (κ×α)→κ→α→List (κ×α)
 |[],k,v=>[(k,v)]
 |(k',v')::r,k,v=>if q k k'=true then(k,v)::r else(k',v')::mp q r k v
def md{κ α:Type}(q:κ→κ→Bool):List (κ×α)→κ→List (κ×α)
 |[],_=>[]
 |(k',v')::r,k=>if q k k'=true then r else(k',v')::md q r k
def em{κ α:Type}(ek:κ→AVal)(ev:α→AVal)(p:κ×α):AVal×AVal:=(ek p.1,ev p.2)
theorem Kc{κ α:Type}{ks:List CK}{ek:κ→AVal}{ev:α→AVal}{q:κ→κ→Bool}(hq:∀a b,X6 ks (ek a) (ek b)=some (q a b))(k:κ):∀ (l:List (κ×α)),V9 ks (ek k) (l.map (em ek ev))=some ((lk q l k).map ev)
 |[]=>rfl
 |(k',v)::r=>by
  simp only[List.map_cons,em,V9,hq,lk]
  cases h:q k k' with
  |true=>simp
  |false=>simpa using Kc hq k r
theorem z0r{κ α:Type}{ks:List CK}{ek:κ→AVal}{ev:α→AVal}{q:κ→κ→Bool}(hq:∀a b,X6 ks (ek a) (ek b)=some (q a b))(k:κ)(v:α):∀ (l:List (κ×α)),zie ks (ek k) (ev v) (l.map (em ek ev))=some ((mp q l k v).map (em ek ev))
 |[]=>rfl
 |(k',v')::r=>by
  simp only[List.map_cons,em,zie,hq,mp]
  cases h:q k k' with
  |true=>simp[em]
  |false=>
   have:=z0r (ev:=ev) hq k v r
   simp only at this ⊢
   simp[this,em]
theorem z7a{κ α:Type}{ks:List CK}{ek:κ→AVal}{ev:α→AVal}{q:κ→κ→Bool}(hq:∀a b,X6 ks (ek a) (ek b)=some (q a b))(k:κ):∀ (l:List (κ×α)),z29 ks (ek k) (l.map (em ek ev))=some ((md q l k).map (em ek ev))
 |[]=>rfl
 |(k',v')::r=>by
  simp only[List.map_cons,em,z29,hq,md]
  cases h:q k k' with
  |true=>simp
  |false=>
   have:=z7a (ev:=ev) hq k r
   simp only at this ⊢
   simp[this,em]
theorem zdn{κ α:Type}{ks:List CK}{ek:κ→AVal}{ev:α→AVal}{q:κ→κ→Bool}(hq:∀a b,X6 ks (ek a) (ek b)=some (q a b)){g:Bool}{zs:List AVal}{z:α}(hz:z5g g zs=ev z)(k:κ)(l:List (κ×α)) :
 zhg g true zs ((V9 ks (ek k) (l.map (em ek ev))).getD none)=.tup [ev ((lk q l k).getD z),.bool (lk q l k).isSome]:=by
 rw[Kc hq]
 cases h:lk q l k<;>simp[zhg,hz]
theorem y0t{κ α:Type}{ks:List CK}{ek:κ→AVal}{ev:α→AVal}{q:κ→κ→Bool}(hq:∀a b,X6 ks (ek a) (ek b)=some (q a b)){g:Bool}{zs:List AVal}{z:α}(hz:z5g g zs=ev z)(k:κ)(l:List (κ×α)) :
 zhg g false zs ((V9 ks (ek k) (l.map (em ek ev))).getD none)=ev ((lk q l k).getD z):=by
 rw[Kc hq]
 cases h:lk q l k<;>simp[zhg,hz]
theorem U4{κ α:Type}{ks:List CK}{ek:κ→AVal}{ev:α→AVal}{q:κ→κ→Bool}(hq:∀a b,X6 ks (ek a) (ek b)=some (q a b))(k:κ)(l:List (κ×α)):(V9 ks (ek k) (l.map (em ek ev))).isSome=true:=by rw[Kc hq];rfl
theorem BVw.ofMap{F:Id→Bool}{H:AHeap}{ρ:Id→Option Id}{n:Nat}{κ α:Type}(ek:κ→AVal)(ev:α→AVal)(hv:∀x,(ev x).nid=true)(l:List (κ×α)):BVw F H ρ n (.amap (l.map (em ek ev))) (.amap (l.map (em ek ev))):=
 .amap _ (fun x hx=>by obtain⟨y,_,rfl⟩:=List.mem_map.1 hx;exact hv _)
theorem Va{κ α:Type}{g:Id→Id}(ek:κ→AVal)(ev:α→AVal)(hk:∀x,(ek x).nid=true)(hv:∀x,(ev x).nid=true)(l:List (κ×α)):(ABlock.amap (l.map (em ek ev))).ren g=.amap (l.map (em ek ev)):=by
 simp only[ABlock.ren,List.map_map]
 congr 1
 refine List.map_congr_left fun x _=>?_
 simp only[Function.comp,em,wv _ (hk _),wv _ (hv _)]
end Go.Fx
