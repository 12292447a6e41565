/-
  Own framework.
-/
import Derived.Test.YtejfgjggcoemeaaFxIn
namespace Go.Fx
open Go.Shelf Go.RowKit Go.Lib Go.Proofs
set_option linter.unusedVariables false
variable {P:Program} {ρ:Ren}
section
variable {I:Nat→Nat→Prop} {β:Id→Option CLoc} {n:Nat} {H:AHeap} {w:World}
theorem zj4(hI:Inv I β n H w){t u c:TypeId}{b0:Id}{cl:CLoc}{s i cap:Nat}{es:List (List AVal)}(ht:P.underlying t=some (.slice c))(hsz:jq P c=some s)(hs:0<s)
 (hb:H.get b0=some (.rows s es)) (hc:β b0=some cl) (hbn:b0.1<n) (hi:i<es.length) (hcap:es.length+1≤cap) (hsz2:cl.base+cap*s≤cl.size) :
 ∃w' I',(∀ty dc sc,(Builtin.copy_ #[t,u] ty #[.slice (some ⟨cl.blk,cl.base+(i+1)*s,none⟩) (es.length-i) dc,.slice (some ⟨cl.blk,cl.base+i*s,none⟩) (es.length+1-i) sc]).run P w=.ok (goInt ((es.length-i:Nat):Int)) w') ∧
  Inv I' (upd (upd β b0 none) (n,0) (some ⟨cl.blk,cl.lo,cl.size,cl.base+0*s,s⟩)) (n+1) (((n,0),.rows s (es.take (i+1)++es.drop i))::H.del b0) w' ∧
  Ext I β n H w I' (upd (upd β b0 none) (n,0) (some ⟨cl.blk,cl.lo,cl.size,cl.base+0*s,s⟩)) (n+1) (((n,0),.rows s (es.take (i+1)++es.drop i))::H.del b0) w':=by
 obtain⟨cl',hcl',hB⟩:=hI.blocks b0 _ hb
 rw[hc] at hcl'
 simp only[Option.some.injEq] at hcl'
 subst hcl'
 obtain⟨hcs,pA,p3,plo,p4,p5,p6⟩:=hB
 have hms:(es.length+1)*s≤cap*s:=Nat.mul_le_mul_right _ hcap
 have hx2:Rep I β n w (.msl b0 s i (es.length-i) false) (.slice (some ⟨cl.blk,cl.base+i*s,none⟩) (es.length-i) (cap-i)):=by
  refine .msl _ _ _ _ _ _ _ hbn ⟨by omega,nofun⟩ nofun fun d hd=>?_
  rw[hc] at hd
  simp only[Option.some.injEq] at hd
  subst hd
  exact⟨hcs,fun _=>⟨rfl,by rw[show i+(cap-i)=cap by omega];exact hsz2⟩⟩
 have hro:u5 H s (.msl b0 s i (es.length-i) false)=some (s=s∧s=s∧i+(es.length-i)≤es.length,(es.drop i).take (es.length-i)):=by simp only[u5,hb]
 have hdt:(es.drop i).take (es.length-i)=es.drop i:=List.take_of_length_le (by simp)
 obtain⟨_,hread⟩:=vw (P:=P) hI hs hx2 hro ⟨rfl,rfl,by omega⟩
 rw[hdt] at hread
 obtain⟨a2,f2,f2s,f2c,f2r,_⟩:=hread (es.length-i) (by simp)
 rw[List.take_of_length_le (by simp)] at f2r
 obtain⟨arr,el,fr,p1,p2⟩:∃arr el fr,w.heap[cl.blk]?=some (.cells arr el fr)∧cl.size≤arr.size∧(cl.lo<cl.size→cl.lo=0∧cl.size=arr.size∧EndOk cl.s arr fr):=by
  rcases pA with pA|⟨_,z2,z3⟩
  ·exact pA
  ·rw[z3] at hi;simp at hi
 have hle1:(i+1)*s+(es.length-i)*s=(es.length+1)*s:=by rw[←Nat.add_mul];congr 1;omega
 obtain⟨w',t1,t2,_,t4⟩:=kr (P:=P) (vs:=a2.toList) (w:=w) (b:=cl.blk) (o:=cl.base+(i+1)*s)
  (fun j hj=>by
   simp only[Array.length_toList,f2s] at hj
   have hlt:cl.base+(i+1)*s+j<arr.size:=by omega
   exact⟨arr[cl.base+(i+1)*s+j],by unfold World.cell?;simp[p1,hlt]⟩)
  (fun j hj=>by
   simp only[Array.length_toList,f2s] at hj
   exact p3 _ (by omega) (by omega)) f2c
 simp only[Array.length_toList,f2s] at t2 t4
 have hblk:cl.blk<w.heap.size:=by
  rcases Nat.lt_or_ge cl.blk w.heap.size with h|h
  ·exact h
  ·rw[Array.getElem?_eq_none h] at p1;cases p1
 have t3:∀k,(k<cl.base+(i+1)*s∨cl.base+(i+1)*s+(es.length-i)*s≤k)→w'.cell? ⟨cl.blk,k,none⟩=w.cell? ⟨cl.blk,k,none⟩:=fun k hk=>t2.cell cl.blk k hblk (fun h=>by omega)
 have hlen':(es.take (i+1)++es.drop i).length=es.length+1:=by simp;omega
 obtain⟨I',z1,z2⟩:=z2t hI (off:=0) (es':=es.take (i+1)++es.drop i) hb hc (t2.mono (fun b k h=>by obtain⟨rfl,h1,h2⟩:=h;exact⟨rfl,by omega,by omega⟩)) (fun he=>by rw[he] at hi;simp at hi) (by rw[hlen'];omega)
  (fun q r hq=>by
   rw[List.getElem?_append] at hq
   split at hq
   ·rw[List.getElem?_take] at hq;split at hq
    ·exact p5 _ r hq
    ·cases hq
   ·rw[List.getElem?_drop] at hq;exact p5 _ r hq)
  (fun q r j x hq hj=>by
   rw[Nat.zero_mul,Nat.add_zero]
   rw[List.getElem?_append] at hq
   have hjs:j<s:=by
    have:r.length=s:=by
     split at hq
     ·rw[List.getElem?_take] at hq;split at hq
      ·exact p5 _ r hq
      ·cases hq
     ·rw[List.getElem?_drop] at hq;exact p5 _ r hq
    have:=(List.getElem?_eq_some_iff.1 hj).1
    omega
   split at hq
   ·rename_i hlt
    rw[List.length_take] at hlt
    rw[List.getElem?_take] at hq
    split at hq
    ·rename_i hq1
     obtain⟨v,g1,g2,g3⟩:=p6 q r j x hq hj
     have hqs:q*s+s≤(i+1)*s:=by rw[←Nat.succ_mul];exact Nat.mul_le_mul_right _ hq1
     exact⟨v,by rw[t3 _ (.inl (by omega))];exact g1,g2,g3⟩
    ·cases hq
   ·rename_i hge
    rw[List.length_take] at hge
    have hq':q-min (i+1) es.length=q-(i+1):=by omega
    rw[List.length_take,hq'] at hq
    obtain⟨v,g1,g2,g3⟩:=f2r.2.2 _ r j x hq hj
    rw[Nat.zero_add] at g1
    have hlt2:q-(i+1)<es.length-i:=by
     have:=(List.getElem?_eq_some_iff.1 hq).1
     simpa using this
    have hpos:(q-(i+1))*s+j<(es.length-i)*s:=by
     have:(q-(i+1))*s+s≤(es.length-i)*s:=by rw[←Nat.succ_mul];exact Nat.mul_le_mul_right _ hlt2
     omega
    have:=t4 ((q-(i+1))*s+j) hpos
    rw[Array.getElem?_toList,g1] at this
    refine⟨v,?_,g2,g3⟩
    rw[←this]
    have e:q*s=(i+1)*s+(q-(i+1))*s:=by rw[←Nat.add_mul];congr 1;omega
    congr 2
    omega)
 refine⟨w',I',fun ty dc sc=>?_,z1,z2⟩
 have hmin:Nat.min (es.length+1-i) (es.length-i)=es.length-i:=Nat.min_eq_right (by omega)
 unfold Builtin.copy_
 have hf2:(Builtin.firstCells s (es.length-i) (.slice (some ⟨cl.blk,cl.base+i*s,none⟩) (es.length+1-i) sc)).run P w=.ok a2 w:=f2
 have hl2:(Builtin.lenOf (.slice (some ⟨cl.blk,cl.base+i*s,none⟩) (es.length+1-i) sc)).run P w=.ok (es.length+1-i) w:=rfl
 simp only[List.getElem?_toArray,List.getElem?_cons_zero,List.getElem?_cons_succ,Sem.run_bind,ze ht,Result.andThen_ok,qg hsz,hl2,hmin,hf2,t1]
 rfl
theorem zev(hI:Inv I β n H w):Inv I β n H w.drew∧Ext I β n H w I β n H w.drew:=by
 have refl:Ext I β n H w I β n H w:=Ext.refl _ _ _ _ _ hI.fresh
 exact⟨hI.of_heap (show w.drew.heap=w.heap from rfl),⟨rfl,⟨rfl,fun _=>Nat.le_succ _⟩,rfl,Nat.le_refl _,fun _ _ _=>rfl,fun _ _ _ h _=>h,fun _ arr _ fr h=>⟨arr,fr,h,rfl,.inl rfl⟩,fun _ _ _ h _=>h,refl.imm,refl.immNew,refl.old,refl.new,refl.dom,refl.le⟩⟩
theorem zn6{s:Nat}{row:List AVal}{fv:Bool}{v:Value}(hr:row.length=s)(hs:0<s)(h:RepI I w (.isl s [row] fv) v):∃b o c x,v=.slice (some ⟨b,o,none⟩) 1 c∧I b o∧w.cell? ⟨b,o,none⟩=some x:=by
 cases h with
 |isl _ _ _ b o cap vf h1 h2 h3 h4 h5 h6 h7=>
  have hx:row[0]?=some (row[0]'(by omega)):=List.getElem?_eq_getElem _
  have g1:=h1 0 row 0 _ rfl hx
  have g2:=h5 0 row 0 _ rfl hx
  simp only[Nat.zero_mul,Nat.add_zero] at g1 g2
  exact⟨b,o,cap,_,rfl,g1,g2⟩
theorem zjb{H L:AHeap}{n m:Nat}{R:AVal}{v:Value}{w':World}(h:Goes I β n H w (fun r H' n'=>r=R∧n'=m∧∀id blk,L.get id=some blk→H'.get id=some blk) v w'):∃I' β',Inv I' β' m L w'∧Rep I' β' m w' R v∧Ext I β n H w I' β' m L w':=by
 obtain⟨r,H',n',I',β',⟨rfl,rfl,h1⟩,h2,h3,h4⟩:=h
 exact⟨I',β',h2.sub h1,h3,h4.sub h1⟩
theorem Goes.mono{H:AHeap}{n:Nat}{K K':AVal→AHeap→Nat→Prop}{v:Value}{w':World}(h:Goes I β n H w K v w')(hk:∀r H' n',K r H' n'→K' r H' n'):Goes I β n H w K' v w':=by
 obtain⟨r,H',n',I',β',h1,h2,h3,h4⟩:=h
 exact⟨r,H',n',I',β',hk _ _ _ h1,h2,h3,h4⟩
theorem z6b{id0:Id}{b:ABlock}:∀id blk,AHeap.get [(id0,b)] id=some blk→id=id0∧blk=b:=fun id blk h=>by
 simp only[AHeap.get] at h
 split at h
 ·rename_i e;subst e;simp only[Option.some.injEq] at h;exact⟨rfl,h.symm⟩
 ·cases h
theorem zs4{es:List (List AVal)}{row:List AVal}{i:Nat}(hi:i<es.length):(es.take (i+1)++es.drop i).take i++[row].take (es.length+1-i)++(es.take (i+1)++es.drop i).drop (i+min [row].length (es.length+1-i))=es.take i++row::es.drop i:=by
 have h1:min [row].length (es.length+1-i)=1:=by simp only[List.length_singleton];omega
 have h2:[row].take (es.length+1-i)=[row]:=List.take_of_length_le (by simp only[List.length_singleton];omega)
 rw[h1,h2,List.drop_left' (by simp;omega),List.take_append_of_le_length (by simp;omega),List.take_take,show min i (i+1)=i by omega]
 simp
theorem zr7{es:List (List AVal)}{row zs:List AVal}{i:Nat}(hi:i<es.length):(es.take i++List.replicate (es.length+1-i) zs).take i++[row].take (es.length+1-i)++(es.take i++List.replicate (es.length+1-i) zs).drop (i+min [row].length (es.length+1-i))=es.take i++row::List.replicate (es.length-i) zs:=by
 have h1:min [row].length (es.length+1-i)=1:=by simp only[List.length_singleton];omega
 have h2:[row].take (es.length+1-i)=[row]:=List.take_of_length_le (by simp only[List.length_singleton];omega)
 have h3:(es.take i).length=i:=by simp;omega
 rw[h1,h2,List.take_left' h3,List.drop_append,h3,List.drop_of_length_le (by omega),show i+1-i=1 by omega,List.drop_replicate]
 simp[show es.length+1-i-1=es.length-i by omega]
theorem zrn{es:List (List AVal)}{row zs:List AVal}{i:Nat}(hi:i<es.length):(es.take i++row::List.replicate (es.length-i) zs).take (i+1)++(((es.drop i).take (es.length-i)).take (es.length-i))++(es.take i++row::List.replicate (es.length-i) zs).drop (i+1+min ((es.drop i).take (es.length-i)).length (es.length-i))=es.take i++row::es.drop i:=by
 have h3:(es.take i++[row]).length=i+1:=by simp;omega
 have h4:(es.drop i).length=es.length-i:=by simp
 have e:es.take i++row::List.replicate (es.length-i) zs=(es.take i++[row])++List.replicate (es.length-i) zs:=by simp
 have h5:(es.drop i).take (es.length-i)=es.drop i:=List.take_of_length_le (by omega)
 have h6:(es.take i++row::List.replicate (es.length-i) zs).drop (i+1+(es.length-i))=[]:=List.drop_of_length_le (by rw[e,List.length_append,h3,List.length_replicate];exact Nat.le_refl _)
 rw[h5,h5,h4,Nat.min_self,h6,e,List.take_left' h3]
 simp
end
section
variable {s b:Nat} {zs:List AVal}
theorem zb6(L:InsL P ρ)(hz:jx P (ρ.t 9)=some zs)(hsz:jq P (ρ.t 9)=some s)(hby:Yn P (ρ.t 9)=some b)(hs:0<s)(hs1:s≠1)(hb:0<b)(hok:Z6 P (ρ.f 22)){f:FuncId}(hf:ρ.f 22=f){es:List (List AVal)}{row:List AVal}{i:Nat}(hrow:row.length=s)(hi:i≤es.length)(hbig:(es.length+1)*b≤140737488355328)(fl fv:Bool) :
 ACalls P f [.msl (0,0) s 0 es.length fl,.int .i64 i,.isl s [row] fv] [((0,0),.rows s es)] 3 (ub 4 (.msl (3,0) s 0 (es.length+1) false) [((3,0),.rows s (es.take i++row::es.drop i))]):=by
 subst hf
 refine⟨hok,fun I β w vs hI hlen hr=>?_⟩
 match vs,hlen with
 |[v0,v1,v2],_=>
 have hr0:=hr 0 _ _ rfl rfl
 have hr1:=hr 1 _ _ rfl rfl
 have hr2:=hr 2 _ _ rfl rfl
 have hv1:v1=.int .i64 i:=by cases hr1 with|imm _ _ h=>cases h;rfl
 subst hv1
 have hr2I:RepI I w (.isl s [row] fv) v2:=by cases hr2 with|imm _ _ h=>exact h
 obtain⟨vb,voff,vc,vx,rfl,hvI,hvc⟩:=zn6 hrow hs hr2I
 have hn1:(es.length+1)*1≤(es.length+1)*b:=Nat.mul_le_mul_left _ hb
 have hn63:es.length<4611686018427387904:=by omega
 obtain⟨c,hc,hcs,hA,h3,h4,h5,h6,h7⟩:=hI.blocks (0,0) _ rfl
 obtain⟨a,cap,rfl,q1,q2,q3⟩:∃a cap,v0=.slice a es.length cap∧(es.length≤cap∧(a=none→cap=0))∧(fl=true→cap=es.length)∧(∀c,β (0,0)=some c→c.s=s∧(cap≠0→a=some ⟨c.blk,c.base+0*s,none⟩∧c.base+(0+cap)*s≤c.size)):=by
  cases hr0 with
  |imm _ _ h=>cases h
  |msl _ _ _ _ _ a cap _ g1 g2 g3=>exact⟨a,cap,rfl,g1,g2,g3⟩
 show Calls P (ρ.f 22) #[.slice a es.length cap,.int .i64 i,.slice (some ⟨vb,voff,none⟩) 1 vc] w _
 have fin:∀ {v:Value} {w':World},Goes I β 3 [((0,0),.rows s es)] w (fun r H' n'=>r=.msl (3,0) s 0 (es.length+1) false∧n'=4∧∀id blk,AHeap.get [((3,0),.rows s (es.take i++row::es.drop i))] id=some blk→H'.get id=some blk) v w' →
  ∃r v' H' n' I' β',Ending.returned v=.returned v'∧ub 4 (.msl (3,0) s 0 (es.length+1) false) [((3,0),.rows s (es.take i++row::es.drop i))] r H' n'∧Inv I' β' n' H' w'∧Rep I' β' n' w' r v'∧Ext I β 3 [((0,0),.rows s es)] w I' β' n' H' w':=fun {v w'} h=>by
  obtain⟨I',β',g1,g2,g3⟩:=zjb h
  exact⟨_,_,_,_,I',β',rfl,⟨rfl,rfl,rfl⟩,g1,g2,g3⟩
 by_cases hin:i=es.length
 ·subst hin
  have hro:u5 [((0,0),.rows s es)] s (.isl s [row] fv)=some (s=s,[row]):=rfl
  obtain⟨v,w',hrun,hg⟩:=za6 (P:=P) (rt:=0) hI (K:=fun r H' n'=>r=.msl (3,0) s 0 (es.length+1) false∧n'=4∧∀id blk,AHeap.get [((3,0),.rows s (es.take es.length++row::es.drop es.length))] id=some blk→H'.get id=some blk) L.t24 (.inl ⟨_,L.t24⟩) hz hsz hby hs hb hr0 hr2 hro rfl (by
   refine show _∧_ from⟨rfl,rfl,by omega,fun _ h=>(by cases h),fun _=>⟨by simpa using hbig,?_⟩⟩
   refine⟨rfl,rfl,fun id blk h=>?_⟩
   obtain⟨rfl,rfl⟩:=z6b id blk h
   simp[AHeap.get])
  cases a with
  |none=>
   have hc0:=q1.2 rfl
   subst hc0
   have hl0:es=[]:=List.length_eq_zero_iff.1 (Nat.le_zero.1 q1.1)
   subst hl0
   refine(z49 L hsz (some ⟨vb,voff,none⟩) vc w w' v (fun ty=>hrun)).mono ?_
   rintro r w2 ⟨rfl,rfl⟩
   exact fin hg
  |some ad=>
   refine(z36 L hsz es.length cap ad (some ⟨vb,voff,none⟩) vc w w' q1.1 v (fun ty=>hrun)).mono ?_
   rintro r w2 ⟨rfl,rfl⟩
   exact fin hg
 ·have hlt:i<es.length:=by omega
  obtain⟨q31,q32⟩:=q3 c hc
  obtain⟨rfl,hcsz⟩:=q32 (by omega)
  rw[Nat.zero_add] at hcsz
  rw[Nat.zero_mul,Nat.add_zero] at hr0 hr ⊢
  obtain⟨hId,hXd⟩:=zev hI
  have hr0d:=hr0.mono hXd hI
  have hr2d:=hr2.mono hXd hI
  by_cases hroom:es.length+1≤cap
  ·-- in place
   have hpos:0<cap*s:=Nat.mul_pos (by omega) hs
   obtain⟨arr,el,fr,p1,p2,p3⟩:∃arr el fr,w.heap[c.blk]?=some (.cells arr el fr)∧c.size≤arr.size∧(c.lo<c.size→c.lo=0∧c.size=arr.size∧EndOk c.s arr fr):=by
    rcases hA with hA|⟨_,z2,z3⟩
    ·exact hA
    ·rw[z3] at hlt;simp at hlt
   obtain⟨p31,p32,p33⟩:=p3 (by omega)
   obtain⟨arv,elv,frv,k1,k2⟩:∃arv elv frv,w.heap[vb]?=some (.cells arv elv frv)∧voff<arv.size:=by
    unfold World.cell? at hvc
    split at hvc
    ·rename_i cs el fr hh
     refine⟨cs,el,fr,hh,?_⟩
     rcases Nat.lt_or_ge voff cs.size with h|h
     ·exact h
     ·rw[Array.getElem?_eq_none h] at hvc;cases hvc
    ·cases hvc
   have hne:vb≠c.blk:=by
    intro e
    subst e
    rw[p1] at k1
    simp only[Option.some.injEq,Obj.cells.injEq] at k1
    obtain⟨rfl,_,_⟩:=k1
    exact(hI.own (0,0) c c.blk voff hc ⟨rfl,by omega,by omega⟩).1 hvI
   have hmul:(i+1)*s+s≤cap*s:=by rw[←Nat.succ_mul];exact Nat.mul_le_mul_right _ (by omega)
   have hov:∀lb cb,(callFunc (ρ.f 29) #[.slice (some ⟨vb,voff,none⟩) 1 vc,.slice (some ⟨c.blk,c.base+(i+1)*s,none⟩) lb cb]).run P w=.ok (.value (.bool false)) w:=fun lb cb=>
    znl L hsz ⟨vb,voff,none⟩ ⟨c.blk,c.base+(i+1)*s,none⟩ 1 vc lb cb hne (tA:=elv) (kA:=arv.size) (tB:=el) (kB:=arr.size) (by unfold World.shape?;simp[k1]) (by omega) (by unfold World.shape?;simp[p1]) (h3 _ (by omega) (by omega)) (by
     have:=p33 (by rw[hcs];exact hs1)
     unfold World.frozen?
     simp only[p1]
     exact this)
   obtain⟨w1,I1,r1,g1,g2⟩:=zj4 (P:=P) (t:=ρ.t 24) (u:=ρ.t 24) (cap:=cap) (i:=i) hId L.t24 hsz hs (b0:=(0,0)) (es:=es) rfl hc (by decide) hlt hroom hcsz
   rw[Nat.zero_mul,Nat.add_zero] at g1 g2
   have hro:u5 ((((3:Nat),(0:Nat)),ABlock.rows s (es.take (i+1)++es.drop i))::AHeap.del [((0,0),.rows s es)] (0,0)) s (.isl s [row] fv)=some (s=s,[row]):=rfl
   have hdst:Rep I1 (upd (upd β (0,0) none) (3,0) (some ⟨c.blk,c.lo,c.size,c.base,s⟩)) 4 w1 (.msl (3,0) s i (es.length+1-i) false) (.slice (some ⟨c.blk,c.base+i*s,none⟩) (es.length+1-i) (cap-i)):=by
    refine .msl _ _ _ _ _ _ _ (by decide) ⟨by omega,nofun⟩ nofun fun d hd=>?_
    rw[j0] at hd
    simp only[Option.some.injEq] at hd
    subst hd
    exact⟨rfl,fun _=>⟨rfl,by rw[show i+(cap-i)=cap by omega];exact hcsz⟩⟩
   obtain⟨v,w2,hrun,hg⟩:=z2b (P:=P) (rt:=0) g1 (K:=fun r H' n'=>n'=4∧∀id blk,AHeap.get [((3,0),.rows s (es.take i++row::es.drop i))] id=some blk→H'.get id=some blk) L.t24 (u:=ρ.t 24) hsz hs hdst (hr2d.mono g2 hId) hro rfl (s'':=s) (es:=es.take (i+1)++es.drop i) rfl rfl rfl (by simp;omega) (by
    refine⟨rfl,fun id blk h=>?_⟩
    obtain⟨rfl,rfl⟩:=z6b id blk h
    rw[zs4 hlt]
    simp[AHeap.set,AHeap.get])
   refine(z06 L hsz c.blk c.base es.length cap i vb voff vc w w1 w2 hlt hroom hn63 _ v hov r1 (fun ty dc=>hrun)).mono ?_
   rintro r w3 ⟨rfl,rfl⟩
   obtain⟨r,H',n',I',β',⟨rfl,k⟩,k2,k3,k4⟩:=hg
   have hX:=(hXd.trans g2).trans k4
   refine fin ⟨_,H',_,I',β',⟨rfl,rfl,k⟩,k2,?_,hX⟩
   refine Rep.mono k4 g1 ?_
   refine .msl _ _ _ _ _ _ _ (by decide) ⟨hroom,nofun⟩ nofun fun d hd=>?_
   rw[j0] at hd
   simp only[Option.some.injEq] at hd
   subst hd
   exact⟨rfl,fun _=>⟨by simp,by simpa using hcsz⟩⟩
  ·-- a new block
   have hcap:cap=es.length:=by omega
   subst hcap
   obtain⟨zv,zi,hzi,hzz,hzl,hzv,hzr⟩:=vu (I:=I) (β:=β) (n:=3) (w:=w.drew) hz
   obtain⟨bi,hbi,hbb⟩:=Wj hby
   obtain rfl:zi=bi:=by rw[hzi] at hbi;simpa using hbi
   have hzs:zs.length=s:=by
    unfold jq at hsz;rw[hzi] at hsz;simp at hsz;omega
   have hzc:zv.cells.size=s:=by have:=hzr.1;omega
   obtain⟨_,hread⟩:=vw (P:=P) hId hs hr0d (p:=s=s∧s=s∧0+es.length≤es.length) (rows:=(es.drop 0).take es.length) rfl ⟨rfl,rfl,by omega⟩
   rw[List.drop_zero,List.take_length] at hread
   obtain⟨a1,f1,f1s,f1c,f1r,_⟩:=hread i hi
   have hnc:=X1 (m:=es.length+1) (c:=es.length) (by omega)
   have hnc2:Builtin.nextslicecap (es.length+1) es.length*b≤281474976710656:=by
    have:Builtin.nextslicecap (es.length+1) es.length*b≤2*(es.length+1)*b:=Nat.mul_le_mul_right _ hnc
    rw[Nat.mul_assoc] at this;omega
   have hkb:(es.length+1-i)*zi.bytes≤281474976710656:=by
    have:(es.length+1-i)*b≤(es.length+1)*b:=Nat.mul_le_mul_right _ (by omega)
    rw[hbb];omega
   have hsum:i+(es.length+1-i)=es.length+1:=by omega
   have hG:=grownCap_ge w (es.length+1) es.length (ρ.t 9)
   have hG63:=grownCap_le_maxLen w (es.length+1) es.length (ρ.t 9) (by simp only[maxLen];omega)
   have hap:∀ty,(Builtin.append_ #[(ρ.t 24),(ρ.t 3)] ty #[.slice (some ⟨c.blk,c.base,none⟩) i es.length,.int .i64 ((es.length:Int)+1-(i:Int))]).run P w=.ok (.slice (some ⟨w.heap.size,0,none⟩) (es.length+1) (grownCap w (es.length+1) es.length (ρ.t 9))) (w.drew.alloc (.cells (a1.toList.toArray++Builtin.zeroCells zv.cells (es.length+1-i)++Builtin.zeroCells zv.cells (grownCap w (es.length+1) es.length (ρ.t 9)-(es.length+1))) (ρ.t 9))):=fun ty=>by
    have h:=Lib.run_append_grow_zeros w (ρ.t 24) (ρ.t 3) ty (ρ.t 9) zi zv .i64 .i64 L.t24 L.t3 hzi hzz (some ⟨c.blk,c.base,none⟩) i es.length a1.toList (by rw[show zi.size=s by omega];exact f1) (es.length+1-i) (by omega) (by omega) (by omega) (by omega) hkb (by rw[hsum,hbb];exact hnc2)
    rw[hsum,show((es.length+1-i:Nat):Int)=(es.length:Int)+1-(i:Int) by omega] at h
    exact h
   have hrep:=Qn hzr (by omega) (es.length+1-i)
   rw[hzs] at hrep
   have hzin:RowsIn I β 3 w.drew s 0 (List.replicate (es.length+1-i) zs) (Builtin.zeroCells zv.cells (es.length+1-i)):=by
    have:=Zm hrep (fun r hr=>by rw[(List.mem_replicate.1 hr).2,hzs])
    unfold Builtin.zeroCells
    rw[show(es.length+1-i)*zv.cells.size=(es.length+1-i)*s by rw[hzc]]
    exact this
   have hrows:=Wa (a3:=Builtin.zeroCells zv.cells (grownCap w (es.length+1) es.length (ρ.t 9)-(es.length+1))) f1r hzin (by rw[f1s,List.length_take];congr 1;omega)
   have hasz:(a1.toList.toArray++Builtin.zeroCells zv.cells (es.length+1-i)++Builtin.zeroCells zv.cells (grownCap w (es.length+1) es.length (ρ.t 9)-(es.length+1))).size=grownCap w (es.length+1) es.length (ρ.t 9)*s:=by
    simp only[Array.size_append,Builtin.zeroCells,Array.size_map,Array.size_range,hzc,f1s]
    rw[←Nat.add_mul,←Nat.add_mul];congr 1;omega
   obtain⟨g1,g2⟩:=Kq hId (wt w.drew (.cells (a1.toList.toArray++Builtin.zeroCells zv.cells (es.length+1-i)++Builtin.zeroCells zv.cells (grownCap w (es.length+1) es.length (ρ.t 9)-(es.length+1))) (ρ.t 9))) (fun k h=>Za k _ h) EndOk.zero (by simpa using hrows)
   rw[hasz] at g1 g2
   have hlen0:(es.take i++List.replicate (es.length+1-i) zs).length=es.length+1:=by simp;omega
   have hdst:∀ (w':World) (off len cap':Nat),len≤cap'→off+cap'=grownCap w (es.length+1) es.length (ρ.t 9)→Rep I (upd β (3,0) (some ⟨w.drew.heap.size,0,grownCap w (es.length+1) es.length (ρ.t 9)*s,0,s⟩)) 4 w' (.msl (3,0) s off len false) (.slice (some ⟨w.heap.size,off*s,none⟩) len cap'):=fun w' off len cap' hc1 hc2=>by
    refine .msl _ _ _ _ _ _ _ (by decide) ⟨hc1,nofun⟩ nofun fun d hd=>?_
    rw[j0] at hd
    simp only[Option.some.injEq] at hd
    subst hd
    exact⟨rfl,fun _=>⟨by simp only[Nat.zero_add];rfl,by simp only[Nat.zero_add,hc2];exact Nat.le_refl _⟩⟩
   have hro:∀H:AHeap,u5 H s (.isl s [row] fv)=some (s=s,[row]):=fun _=>rfl
   -- the copy of the element
   obtain⟨v1,w2,hrun1,hg1⟩:=z2b (P:=P) (rt:=0) g1 (K:=fun r H' n'=>H'=(((3,0),ABlock.rows s (es.take i++row::List.replicate (es.length-i) zs))::[((0,0),.rows s es)])∧n'=4) L.t24 (u:=ρ.t 24) hsz hs (hdst _ i (es.length+1-i) (grownCap w (es.length+1) es.length (ρ.t 9)-i) (by omega) (by omega)) (hr2d.mono g2 hId) (hro _) rfl (s'':=s) (es:=es.take i++List.replicate (es.length+1-i) zs) rfl rfl rfl (by rw[hlen0];omega) (by
    refine⟨?_,rfl⟩
    rw[zr7 hlt]
    simp[AHeap.set])
   obtain⟨r1,H1,n1,I1,β1,⟨rfl,rfl⟩,e1,_,e3⟩:=hg1
   obtain⟨hId2,hXd2⟩:=zev e1
   have hX2:=(hXd.trans g2).trans (e3.trans hXd2)
   have hsrc:Rep I β 3 w (.msl (0,0) s i (es.length-i) false) (.slice (some ⟨c.blk,c.base+i*s,none⟩) (es.length-i) (es.length-i)):=by
    refine .msl _ _ _ _ _ _ _ (by decide) ⟨Nat.le_refl _,nofun⟩ nofun fun d hd=>?_
    rw[hc] at hd
    simp only[Option.some.injEq] at hd
    subst hd
    exact⟨q31,fun _=>⟨rfl,by rw[show i+(es.length-i)=es.length by omega];exact hcsz⟩⟩
   obtain⟨v2,w3,hrun2,hg2⟩:=z2b (P:=P) (rt:=0) hId2 (K:=fun r H' n'=>H'=(((3,0),ABlock.rows s (es.take i++row::es.drop i))::[((0,0),.rows s es)])∧n'=4) L.t24 (u:=ρ.t 24) hsz hs (((hdst _ (i+1) (es.length-i) (grownCap w (es.length+1) es.length (ρ.t 9)-(i+1)) (by omega) (by omega)).mono e3 g1).mono hXd2 e1) (hsrc.mono hX2 hI) (p:=s=s∧s=s∧i+(es.length-i)≤es.length) (rows2:=(es.drop i).take (es.length-i)) (by simp[u5,AHeap.get]) ⟨rfl,rfl,by omega⟩ (s'':=s) (es:=es.take i++row::List.replicate (es.length-i) zs) rfl rfl rfl (by simp;omega) (by
    refine⟨?_,rfl⟩
    rw[zrn hlt]
    simp[AHeap.set])
   refine(z2p L hsz c.blk c.base es.length es.length i (some ⟨vb,voff,none⟩) vc w _ w2 w3 hlt (Nat.le_refl _) (by omega) hn63 _ _ hG hG63 v1 v2 hap (fun ty dc=>hrun1) (fun ty dc sc=>hrun2)).mono ?_
   rintro r w4 ⟨rfl,rfl⟩
   obtain⟨r2,H2,n2,I2,β2,⟨rfl,rfl⟩,u1,_,u3⟩:=hg2
   refine fin ⟨_,_,_,I2,β2,⟨rfl,rfl,fun id blk h=>?_⟩,u1,?_,hX2.trans u3⟩
   ·obtain⟨rfl,rfl⟩:=z6b id blk h
    rfl
   ·have:=hdst (w.drew.alloc (.cells (a1.toList.toArray++Builtin.zeroCells zv.cells (es.length+1-i)++Builtin.zeroCells zv.cells (grownCap w (es.length+1) es.length (ρ.t 9)-(es.length+1))) (ρ.t 9))) 0 (es.length+1) (grownCap w (es.length+1) es.length (ρ.t 9)) hG (by omega)
    rw[Nat.zero_mul] at this
    exact((this.mono e3 g1).mono hXd2 e1).mono u3 hId2
end
end Go.Fx
