/-
  Own framework.
-/
import Derived.Test.YtlilpmnmedmjaaaGreatDoorFxI
namespace Go.Fx
set_option linter.unusedVariables false
variable {P:Program}
section
variable {I:Nat→Nat→Prop} {β:Id→Option CLoc} {n:Nat} {H:AHeap} {w:World} {e:Env} {a:Act}
theorem z34{s:Nat}{es1 es2:List (List AVal)}{a1 a2 a3:Array Value}(h1:RowsInI I w s 0 es1 a1)(h2:RowsInI I w s 0 es2 a2)(hs:a1.size=es1.length*s):RowsInI I w s 0 (es1++es2) (a1++a2++a3):=by
 obtain⟨p1,p2,p3⟩:=h1
 obtain⟨q1,q2,q3⟩:=h2
 refine⟨by simp only[List.length_append,Array.size_append,Nat.add_mul] at *;omega,?_,?_⟩
 ·intro i r hi
  rw[List.getElem?_append] at hi
  split at hi
  ·exact p2 i r hi
  ·exact q2 _ r hi
 ·intro i r j x hi hj
  rw[List.getElem?_append] at hi
  split at hi
  ·rename_i hlt
   obtain⟨v,g1,g2,g3⟩:=p3 i r j x hi hj
   refine⟨v,?_,g2,g3⟩
   have:0+i*s+j<a1.size:=by
    rcases Nat.lt_or_ge (0+i*s+j) a1.size with h|h
    ·exact h
    ·rw[Array.getElem?_eq_none h] at g1;cases g1
   rw[Array.append_assoc,Array.getElem?_append_left this];exact g1
  ·rename_i hge
   obtain⟨v,g1,g2,g3⟩:=q3 _ r j x hi hj
   refine⟨v,?_,g2,g3⟩
   have hlt:0+(i-es1.length)*s+j<a2.size:=by
    rcases Nat.lt_or_ge (0+(i-es1.length)*s+j) a2.size with h|h
    ·exact h
    ·rw[Array.getElem?_eq_none h] at g1;cases g1
   have e1:i*s=es1.length*s+(i-es1.length)*s:=by rw[←Nat.add_mul];congr 1;omega
   rw[Array.append_assoc,Array.getElem?_append_right (by omega),Array.getElem?_append_left (by omega),←g1]
   congr 1;omega
theorem zlj{y:AVal}{rows rows':List (List AVal)}(h:z06 y rows=some rows'):rows'.length=rows.length:=by
 unfold z06 at h
 split at h
 ·exact(Xr h).1
 ·simp only[Option.some.injEq] at h;rw[h]
theorem zqj{s:Nat}{es:List (List AVal)}{f:Bool}{ad:Addr}{cap:Nat}(h:RepI I w (.isl s es f) (.slice (some ad) es.length cap)) :
 (∀ (i:Nat) (r:List AVal),es[i]?=some r→r.length=s)∧∃vf:Nat→Nat→Value,∀ (i:Nat) (r:List AVal) (j:Nat) (x:AVal),es[i]?=some r→r[j]?=some x →
  I ad.block (ad.off+i*s+j)∧w.cell? ⟨ad.block,ad.off+i*s+j,none⟩=some (vf i j)∧xp (vf i j)=true∧RepI I w x (vf i j):=by
 cases h with
 |islEmpty=>exact⟨fun i r h=>by simp at h,fun _ _=>undef,fun i r j x h=>by simp at h⟩
 |isl _ _ _ b o cap vf h1 h2 h3 h4 h5 h6 h7=>exact⟨h4,vf,fun i r j x hi hj=>⟨h1 i r j x hi hj,h5 i r j x hi hj,h6 i r j x hi hj,h7 i r j x hi hj⟩⟩
theorem z6f(hI:Inv I β n H w)(s:Nat):Inv I (upd β (n,0) (some ⟨0,0,0,0,s⟩)) (n+1) (((n,0),.tok)::H) w∧Ext I β n H w I (upd β (n,0) (some ⟨0,0,0,0,s⟩)) (n+1) (((n,0),.tok)::H) w:=by
 have none0:∀b k,¬(⟨0,0,0,0,s⟩:CLoc).has b k:=fun b k h=>by have:=h.2.2;simp at this
 refine kw hI (Chg.refl w (fun _ _=>False)) (Nat.le_succ n) (fun _ _ h=>h.elim) (fun _ _ h=>h) (fun _ _ h h'=>absurd h h') (fun id hid=>.inl (zz _ _ (Z6 hid))) ?_ ?_ ?_ (fun _ _ _ _ _ _ h=>h) ?_ ?_
 ·intro id c b k hid hc hk
  rcases vq hc hI.fresh with⟨_,rfl⟩|⟨h,_⟩
  ·exact absurd hk (none0 b k)
  ·omega
 ·intro id hid
  rw[zz _ _ (fun h=>by subst h;exact absurd hid (Nat.not_succ_le_self n))]
  exact hI.fresh id (by omega)
 ·intro i j c d b k hi hj hc hd hj'
  rcases vq hj hI.fresh with⟨_,rfl⟩|⟨h,_⟩
  ·exact absurd hd (none0 b k)
  ·omega
 ·intro id hid hg
  rwa [AHeap.get_cons_other _ _ (Z6 hid).symm] at hg
 ·intro id blk hid
  by_cases h:(n,0)=id
  ·subst h
   rw[AHeap.get_cons_same] at hid
   simp only[Option.some.injEq] at hid
   subst hid
   exact .inr ⟨_,xz _ _ _,fun k _ h2=>absurd h2 (Nat.not_lt_zero k)⟩
  ·rw[AHeap.get_cons_other _ _ h] at hid
   exact .inl ⟨hid,zz _ _ (fun h'=>h h'.symm),fun _ _ _ _ _ h=>h⟩
theorem zo3(hI:Inv I β n H w){K:AVal→AHeap→Nat→Prop}{t u c rt:TypeId}{s b:Nat}{zs:List AVal}(ht:P.underlying t=some (.slice c))(hu:(∃c',P.underlying u=some (.slice c'))∨P.underlying u=some .string)(hz:wa P c=some zs)(hsz:wj P c=some s)(hby:X8 P c=some b)(hs:0<s)(hb:0<b)
 {x y:AVal} {vx vy:Value} (hx:Rep I β n w x vx) (hy:Rep I β n w y vy) {p:Prop} {rows2 rows2':List (List AVal)} (hr:Y2 H s y=some (p,rows2)) (hp:p) (him:z06 y rows2=some rows2') (h:z81 s b H n K x rows2') :
 ∃v w',(Builtin.append_ #[t,u] rt #[vx,vy]).run P w=.ok v w'∧Zk I β n H w K v w':=by
 let wd:World:={ w with drawn:=w.drawn+1 }
 have hwd:wd.heap=w.heap:=rfl
 have hId:Inv I β n H wd:=hI.of_heap hwd
 have hl2:rows2'.length=rows2.length:=zlj him
 obtain⟨hly,hread⟩:=uv (P:=P) hI hs hy hr hp
 obtain⟨a2,f2,f2s,f2c,_,f2r⟩:=hread rows2.length (Nat.le_refl _)
 obtain⟨_,hreadd⟩:=uv (P:=P) hId hs (hy.of_heap hwd) hr hp
 obtain⟨a2d,g2,g2s,g2c,_,g2r⟩:=hreadd rows2.length (Nat.le_refl _)
 have f2r:=f2r rows2' him
 have g2r:=g2r rows2' him
 rw[←hl2,List.take_length] at f2r g2r
 rw[←hl2] at hly f2 f2s g2 g2s
 -- in place: the run
 have place:∀ (base:Option Addr) (len cap:Nat) (w':World),vx=.slice base len cap→len+rows2'.length≤cap→(match base with|some ad=>(storeCells (ad.add (len*s)) a2.toList 0).run P w=.ok () w'|none=>a2=#[]∧w'=w) →
  (Builtin.append_ #[t,u] rt #[vx,vy]).run P w=.ok (.slice base (len+rows2'.length) cap) w':=by
  intro base len cap w' hv hc hst
  rcases hu with⟨c',hu⟩|hu
  all_goals
   unfold Builtin.append_
   simp only[List.getElem?_toArray,List.getElem?_cons_zero,List.getElem?_cons_succ,Sem.run_bind,zf ht,zf hu,Result.andThen_ok,x7 hsz,Sem.run_pure,hly,hv,Bool.false_eq_true,if_false,Bool.not_false,if_true]
   rw[if_pos hc]
   simp only[Sem.run_bind,f2,Result.andThen_ok]
   cases base with
   |none=>obtain⟨rfl,rfl⟩:=hst;simp
   |some ad=>simp only at hst;simp only[hst,Result.andThen_ok,Sem.run_bind,Sem.run_pure]
 -- a new block
 have grow:∀ (H2:AHeap) (base:Option Addr) (len cap:Nat) (es1:List (List AVal)) (a1:Array Value),(∀id blk,H2.get id=some blk→H.get id=some blk)→vx=.slice base len cap→(Builtin.firstCells s len (.slice base len cap)).run P wd=.ok a1 wd→RowsInI I w s 0 es1 a1→a1.size=len*s→es1.length=len →
  cap<len+rows2'.length→(len+rows2'.length)*b≤140737488355328→K (.osl (n,0) s (es1++rows2')) (((n,0),.tok)::H2) (n+1) →
  ∃v w',(Builtin.append_ #[t,u] rt #[vx,vy]).run P w=.ok v w'∧Zk I β n H w K v w':=by
  intro H2 base len cap es1 a1 hH2 hv h1 hr1 hs1 hl hcap hby2 hk
  subst hv
  obtain⟨m,w',a3,k1,k2,k3,k4⟩:=z61 (P:=P) (rt:=rt) ht hu hz hsz hby hb (wd:=wd) rfl hly h1 g2 hcap hby2 hs1 g2s
  obtain⟨I',β',q1,q2,q3,q4,_⟩:=z5a (H2:=H2) hI k3 (fun k h=>Q6 k _ h) (z34 hr1 (g2r.of_heap hwd.symm) (by rw[hs1,hl])) true hH2
  simp only[if_true] at q1 q2
  have hlen:(es1++rows2').length=len+rows2'.length:=by rw[List.length_append,hl]
  refine⟨_,w',k1,_,_,_,_,_,hk,q1,?_,q2⟩
  have hrep:=q4 m false (by rw[hlen];exact k2) (fun h=>by cases h)
  rw[hlen] at hrep
  refine .osl _ _ _ _ (Nat.lt_succ_self n) hrep ?_
  intro d hd ad cap' he
  rw[q3 rfl] at hd
  simp only[Option.some.injEq] at hd
  subst hd
  simp only[Value.slice.injEq,Option.some.injEq] at he
  obtain⟨rfl,_,rfl⟩:=he
  right
  exact⟨rfl,rfl,by simp,by simp only[Nat.zero_add];rw[k4];exact Nat.le_refl _⟩
 -- nothing appended: an empty token
 have keep0:∀ (es:List (List AVal)),rows2'=[]→(∃base cap,vx=.slice base es.length cap∧es.length≤cap)→RepI I w (.isl s es false) vx→(∀ad cap,vx=.slice (some ad) es.length cap→cap=es.length)→K (.osl (n,0) s es) (((n,0),.tok)::H) (n+1) →
  ∃v w',(Builtin.append_ #[t,u] rt #[vx,vy]).run P w=.ok v w'∧Zk I β n H w K v w':=by
  intro es h0 ⟨base,cap,hv,hc⟩ hRI hfull hk
  have ha2:a2=#[]:=by
   have:a2.size=0:=by rw[f2s,h0];simp
   exact Array.size_eq_zero_iff.1 this
  obtain⟨q1,q2⟩:=z6f hI s
  refine⟨vx,w,?_,_,_,_,_,_,hk,q1,?_,q2⟩
  ·have:=place base es.length cap w hv (by rw[h0];simpa using hc) (by
    cases base with
    |none=>exact⟨ha2,rfl⟩
    |some ad=>subst ha2;simp[storeCells])
   rw[h0] at this
   rw[this,hv];simp
  ·refine .osl _ _ _ _ (Nat.lt_succ_self n) hRI ?_
   intro d _ ad cap' he
   exact .inl (hfull ad cap' he)
 cases x<;>simp only[z81] at h<;>try (exact h.elim)
 case val uu=>
  split at h
  ·rename_i heq
   cases heq
   obtain rfl:=hx.val_inv
   obtain⟨q1,q2⟩:=h
   by_cases h0:rows2'=[]
   ·refine keep0 [] h0 ⟨none,0,rfl,Nat.le_refl _⟩ (.islNil _ _) (fun ad cap he=>by simp at he) (by rw[h0] at q2;exact q2)
   ·have hpos:0<rows2'.length:=List.length_pos_iff.2 h0
    exact grow H none 0 0 [] #[] (fun _ _ h=>h) rfl rfl (by simp[RowsInI]) (by simp) rfl (by omega) (by simpa using q1) (by simpa using q2)
  all_goals first|(rename_i heq;cases heq;done)|exact h.elim
 case isl s' es f=>
  obtain⟨rfl,hf,q1,q2⟩:=h
  have hxI:RepI I w (.isl s' es f) vx:=by cases hx;assumption
  obtain⟨ad,cap,rfl,hcap,hfull,_⟩:=hx.isl_inv
  have hce:=hfull hf
  have hxI0:RepI I w (.isl s' es false) (.slice ad es.length cap):=by
   cases hxI with
   |islNil=>exact .islNil _ _
   |islEmpty _ _ a _ h=>exact .islEmpty _ _ _ _ (fun h=>by cases h)
   |isl _ _ _ b o cap vf h1 h2 h3 h4 h5 h6 h7=>exact .isl _ _ _ b o cap vf h1 h2 (fun h=>by cases h) h4 h5 h6 h7
  by_cases h0:rows2'=[]
  ·refine keep0 es h0 ⟨ad,cap,rfl,hcap⟩ hxI0 (fun ad cap he=>by simp only[Value.slice.injEq] at he;rw[←he.2.2];exact hce) (by rw[h0,List.append_nil] at q2;exact q2)
  ·have hpos:0<rows2'.length:=List.length_pos_iff.2 h0
   obtain⟨_,hread1⟩:=uv (P:=P) hId hs (hx.of_heap hwd) (p:=s'=s') (rows:=es) rfl rfl
   obtain⟨a1,e1,e2,_,_,e4⟩:=hread1 es.length (Nat.le_refl _)
   have e4:=e4 es rfl
   rw[List.take_length] at e4
   exact grow H ad es.length cap es a1 (fun _ _ h=>h) rfl e1 (e4.of_heap hwd.symm) e2 rfl (by omega) q1 q2
 case osl tok s' es=>
  obtain⟨rfl,htk,q1,q2⟩:=h
  have hx0:=hx
  cases hx with
  |imm _ _ hx=>cases hx
  |osl _ _ _ _ htn hxI hcond=>
  obtain⟨ad,cap,rfl,hcap,_,hne⟩:=(Rep.imm (β:=β) (n:=n) _ _ hxI).isl_inv
  obtain⟨cl,hcl,hB⟩:=hI.blocks tok _ htk
  have hdel:∀id blk,(H.del tok).get id=some blk→H.get id=some blk:=fun id blk hh=>by
   rw[AHeap.get_del] at hh
   split at hh
   ·cases hh
   ·exact hh
  by_cases hin:es.length+rows2'.length≤cap
  ·cases ad with
   |none=>
    -- nil: nothing is appended
    have hes:es=[]:=by
     by_cases h:es=[]
     ·exact h
     ·exact absurd rfl (hne h)
    subst hes
    have hc0:cap=0:=by cases hxI;rfl
    have h0:rows2'=[]:=List.length_eq_zero_iff.1 (by omega)
    have:=keep0 [] h0 ⟨none,cap,rfl,Nat.zero_le _⟩ (by rw[hc0] at hxI ⊢;exact .islNil _ _) (fun ad cap he=>by simp at he)
    -- the old token is dropped
    obtain⟨z1,z2⟩:=z6f hI s'
    have hsub:∀id blk,AHeap.get (((n,0),.tok)::H.del tok) id=some blk→AHeap.get (((n,0),.tok)::H) id=some blk:=by
     intro id blk hh
     by_cases hn:(n,0)=id
     ·subst hn;rw[AHeap.get_cons_same] at hh ⊢;exact hh
     ·rw[AHeap.get_cons_other _ _ hn] at hh ⊢;exact hdel id blk hh
    have ha2:a2=#[]:=by
     have:a2.size=0:=by rw[f2s,h0];simp
     exact Array.size_eq_zero_iff.1 this
    refine⟨.slice none 0 cap,w,?_,_,_,_,_,_,q2,z1.sub hsub,?_,z2.sub hsub⟩
    ·have:=place none 0 cap w rfl (by rw[h0];simp) ⟨ha2,rfl⟩
     rw[h0] at this
     simpa using this
    ·rw[h0,List.append_nil]
     refine .osl _ _ _ _ (Nat.lt_succ_self n) (by rw[hc0];exact .islNil _ _) ?_
     intro d _ ad cap' he
     simp at he
   |some ad=>
    obtain⟨hrl,vf,hvf⟩:=zqj hxI
    rcases hcond cl hcl ad cap rfl with hce|⟨sp,hblk,hlo,hhi⟩
    ·-- full: nothing is appended
     have h0:rows2'=[]:=List.length_eq_zero_iff.1 (by omega)
     obtain⟨z1,z2⟩:=z6f hI s'
     have hsub:∀id blk,AHeap.get (((n,0),.tok)::H.del tok) id=some blk→AHeap.get (((n,0),.tok)::H) id=some blk:=by
      intro id blk hh
      by_cases hn:(n,0)=id
      ·subst hn;rw[AHeap.get_cons_same] at hh ⊢;exact hh
      ·rw[AHeap.get_cons_other _ _ hn] at hh ⊢;exact hdel id blk hh
     have ha2:a2=#[]:=by
      have:a2.size=0:=by rw[f2s,h0];simp
      exact Array.size_eq_zero_iff.1 this
     refine⟨.slice (some ad) es.length cap,w,?_,_,_,_,_,_,q2,z1.sub hsub,?_,z2.sub hsub⟩
     ·have:=place (some ad) es.length cap w rfl (by rw[h0];simpa using hcap) (by subst ha2;simp[storeCells])
      rw[h0] at this
      simpa using this
     ·rw[h0,List.append_nil]
      refine .osl _ _ _ _ (Nat.lt_succ_self n) hxI ?_
      intro d _ ad' cap' he
      simp only[Value.slice.injEq] at he
      exact .inl (by rw[←he.2.2];exact hce)
    ·-- in place
     obtain⟨bb,oo,spt⟩:=ad
     simp only at sp hblk hlo hhi hvf
     subst sp
     subst hblk
     have hle:(es.length+rows2'.length)*s'≤cap*s':=Nat.mul_le_mul_right _ hin
     rw[Nat.add_mul] at hle
     obtain⟨w',t1,t2,t3,t4⟩:=ut (P:=P) (vs:=a2.toList) (w:=w) (b:=cl.blk) (o:=oo+es.length*s')
      (fun j hj=>by
       simp only[Array.length_toList,f2s] at hj
       exact(hB _ (by omega) (by omega)).1)
      (fun j hj=>by
       simp only[Array.length_toList,f2s] at hj
       exact(hB _ (by omega) (by omega)).2) f2c
     simp only[Array.length_toList,f2s] at t2 t4
     have t2':Chg w w' cl.has:=t2.mono (fun b' k h=>⟨h.1.symm,by omega,by omega⟩)
     obtain⟨z1,z2⟩:=z66 (c2:=⟨cl.blk,cl.lo+rows2'.length*s',cl.size,0,s'⟩) (blk2:=.tok) (J:=fun b k=>b=cl.blk∧cl.lo≤k∧k<cl.lo+rows2'.length*s') hI (by rw[htk];simp) hcl t2'
      (fun b k h=>⟨h.1,by have:=h.2.1;simp only at this;omega,h.2.2⟩)
      (fun b' k h=>by
       obtain⟨rfl,h1,h2⟩:=h
       refine⟨⟨rfl,h1,by omega⟩,fun h'=>by have:=h'.2.1;simp only at this;omega,?_⟩
       have:=t4 (k-cl.lo) (by omega)
       rw[show oo+es.length*s'+(k-cl.lo)=k by omega] at this
       exact⟨a2[k-cl.lo]'(by omega),by rw[this];simp[Array.getElem?_eq_getElem (show k-cl.lo<a2.size by omega)]⟩)
      (fun k h1 h2=>by
       simp only at h1 h2
       obtain⟨⟨v,hv⟩,hfz⟩:=hB k (by omega) h2
       refine⟨⟨v,?_⟩,?_⟩
       ·rw[t2.cell cl.blk k (uf hv) (fun h=>by omega)];exact hv
       ·rw[t2'.frozen hv];exact hfz)
     have hcI:∀b k,I b k→w'.cell? ⟨b,k,none⟩=w.cell? ⟨b,k,none⟩:=fun b' k hbk=>by
      obtain⟨v,hv⟩:=hI.imm b' k hbk
      exact t2'.cell b' k (uf hv) (fun h=>(hI.own tok cl b' k hcl h).1 hbk)
     have up:∀ {x v},RepI I w x v→RepI (fun b k=>I b k∨(b=cl.blk∧cl.lo≤k∧k<cl.lo+rows2'.length*s')) w' x v:=fun h=>h.mono (fun _ _ h=>.inl h) hcI
     have hlen:(es++rows2').length=es.length+rows2'.length:=List.length_append
     -- the cells of the new slice
     have key:∀ (i:Nat) (r:List AVal) (j:Nat) (x:AVal),(es++rows2')[i]?=some r→r[j]?=some x→∃v,(I cl.blk (oo+i*s'+j)∨(cl.blk=cl.blk∧cl.lo≤oo+i*s'+j∧oo+i*s'+j<cl.lo+rows2'.length*s')) ∧
      w'.cell? ⟨cl.blk,oo+i*s'+j,none⟩=some v∧xp v=true∧RepI (fun b k=>I b k∨(b=cl.blk∧cl.lo≤k∧k<cl.lo+rows2'.length*s')) w' x v:=by
      intro i r j x hi hj
      rw[List.getElem?_append] at hi
      split at hi
      ·obtain⟨h1,h2,h3,h4⟩:=hvf i r j x hi hj
       exact⟨_,.inl h1,by rw[hcI _ _ h1];exact h2,h3,up h4⟩
      ·rename_i hge
       obtain⟨v,h1,h2,h3⟩:=f2r.2.2 (i-es.length) r j x hi hj
       have hrow:=zda f2r.2.1 hi hj
       have hib:i*s'=es.length*s'+(i-es.length)*s':=by rw[←Nat.add_mul];congr 1;omega
       have:=t4 ((i-es.length)*s'+j) hrow
       rw[Array.getElem?_toList,show(i-es.length)*s'+j=0+(i-es.length)*s'+j by omega,h1] at this
       exact⟨v,.inr ⟨rfl,by omega,by omega⟩,by rw[←this];congr 2;omega,h2,up h3⟩
     refine⟨.slice (some ⟨cl.blk,oo,none⟩) (es.length+rows2'.length) cap,w',place (some ⟨cl.blk,oo,none⟩) es.length cap w' rfl hin (by simp only[j5];exact t1),_,_,_,_,_,q2,z1,?_,z2⟩
     refine .osl _ _ _ _ (Nat.lt_succ_self n) ?_ ?_
     ·have:=RepI.isl (I:=fun b k=>I b k∨(b=cl.blk∧cl.lo≤k∧k<cl.lo+rows2'.length*s')) (w:=w') s' (es++rows2') false cl.blk oo cap (fun i j=>(w'.cell? ⟨cl.blk,oo+i*s'+j,none⟩).getD undef)
       (fun i r j x hi hj=>by obtain⟨v,h1,_⟩:=key i r j x hi hj;exact h1) (by rw[hlen];exact hin) (fun h=>by cases h)
       (fun i r hi=>by
        rw[List.getElem?_append] at hi
        split at hi
        ·exact hrl i r hi
        ·exact f2r.2.1 _ r hi)
       (fun i r j x hi hj=>by obtain⟨v,_,h2,_⟩:=key i r j x hi hj;rw[h2];rfl)
       (fun i r j x hi hj=>by obtain⟨v,_,h2,h3,_⟩:=key i r j x hi hj;rw[h2];exact h3)
       (fun i r j x hi hj=>by obtain⟨v,_,h2,_,h4⟩:=key i r j x hi hj;rw[h2];exact h4)
      rw[hlen] at this
      exact this
     ·intro d hd ad' cap' he
      rw[xz] at hd
      simp only[Option.some.injEq] at hd
      subst hd
      simp only[Value.slice.injEq,Option.some.injEq] at he
      obtain⟨rfl,_,rfl⟩:=he
      right
      refine⟨rfl,rfl,?_,hhi⟩
      simp only[hlen,Nat.add_mul];omega
  ·-- a new block
   obtain⟨_,hread1⟩:=uv (P:=P) hId hs (hx0.of_heap hwd) (p:=s'=s') (rows:=es) rfl rfl
   obtain⟨a1,e1,e2,_,_,e4⟩:=hread1 es.length (Nat.le_refl _)
   have e4:=e4 es rfl
   rw[List.take_length] at e4
   exact grow (H.del tok) ad es.length cap es a1 hdel rfl e1 (e4.of_heap hwd.symm) e2 rfl (by omega) q1 q2
end
end Go.Fx
