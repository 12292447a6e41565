/-
  Own framework.
-/
import Derived.Test.YtbohjnffcnhgeaaFa
import Derived.Maps.RangeRun
import Derived.OrdersIn
import Derived.LoopIn
import Derived.RangeFuncLeaves
import Derived.RangeFuncCalls
set_option linter.unusedVariables false
set_option linter.unusedSimpArgs false
open Array renaming getElem?_eq_getElem→pB,getElem?_eq_none→pK,size_eq_zero_iff→pN,getElem?_toList→pO,length_toList→pQ
open Bool renaming and_eq_true→pI,false_eq_true→qK
open Go.Instr renaming sameBits→qH
open List renaming getElem?_eq_getElem→p7,mem_of_getElem?→pC,getElem?_map→pG,getElem?_cons_zero→pH,length_map→pJ,length_cons→pM,getElem?_eq_none→pR,length_eq_zero_iff→pS,getElem?_append→pT,map_congr_left→pU,length_append→pW,getElem?_cons_succ→pY,mem_range→q7,mem_cons→q9,getElem?_toArray→qB,length_nil→qC,getD_eq_getElem?_getD→qE,all_eq_true→qI,getElem?_take_of_lt→qJ,range→qL
open Nat renaming le_refl→p9,lt_or_ge→pD,lt_succ_self→pV,add_zero→pX,lt_trichotomy→q8,add_mul→qA,mul_le_mul_right→qF,le_succ→qG,lt_of_lt_of_le→qM
open Option renaming map_eq_some_iff→p8,map_some→pE
open Option.some renaming injEq→p0
open Prod.mk renaming injEq→qD
open Go.Result renaming andThen_ok→pF
open Go.Sem renaming run_bind→pL,run_pure→pP
open Go.Value.slice renaming injEq→qN
open Go.World renaming putObj_heap_other→pZ
namespace Go.Fx
variable {P:Program}
section
variable {I:Nat→Nat→Prop} {β:Id→Option CLoc} {n:Nat} {H:AHeap} {w:World} {e:Env} {a:Act}
theorem z58{s:Nat}{es1 es2:List (List AVal)}{a1 a2 a3:Array Value}(h1:RowsInI I w s 0 es1 a1)(h2:RowsInI I w s 0 es2 a2)(hs:a1.size=es1.length*s):RowsInI I w s 0 (es1++es2) (a1++a2++a3):=by
 obtain⟨p1,p2,p3⟩:=h1
 obtain⟨q1,q2,q3⟩:=h2
 refine⟨by simp only[pW,Array.size_append,qA] at *;omega,?_,?_⟩
 ·intro i r hi
  rw[pT] at hi
  split at hi
  ·exact p2 i r hi
  ·exact q2 _ r hi
 ·intro i r j x hi hj
  rw[pT] at hi
  split at hi
  ·rename_i hlt
   obtain⟨v,g1,g2,g3⟩:=p3 i r j x hi hj
   refine⟨v,?_,g2,g3⟩
   have:0+i*s+j<a1.size:=by
    rcases pD (0+i*s+j) a1.size with h|h
    ·exact h
    ·rw[pK h] at g1;cases g1
   rw[Array.append_assoc,Array.getElem?_append_left this];exact g1
  ·rename_i hge
   obtain⟨v,g1,g2,g3⟩:=q3 _ r j x hi hj
   refine⟨v,?_,g2,g3⟩
   have hlt:0+(i-es1.length)*s+j<a2.size:=by
    rcases pD (0+(i-es1.length)*s+j) a2.size with h|h
    ·exact h
    ·rw[pK h] at g1;cases g1
   have e1:i*s=es1.length*s+(i-es1.length)*s:=by rw[←qA];congr 1;omega
   rw[Array.append_assoc,Array.getElem?_append_right (by omega),Array.getElem?_append_left (by omega),←g1]
   congr 1;omega
theorem zn3{y:AVal}{rows rows':List (List AVal)}(h:z2e y rows=some rows'):rows'.length=rows.length:=by
 unfold z2e at h
 split at h
 ·exact(Wu h).1
 ·simp only[p0] at h;rw[h]
theorem zu9{s:Nat}{es:List (List AVal)}{f:Bool}{ad:Addr}{cap:Nat}(h:RepI I w (.isl s es f) (.slice (some ad) es.length cap)) :
 (∀ (i:Nat) (r:List AVal),es[i]?=some r→r.length=s)∧∃vf:Nat→Nat→Value,∀ (i:Nat) (r:List AVal) (j:Nat) (x:AVal),es[i]?=some r→r[j]?=some x →
  I ad.block (ad.off+i*s+j)∧w.cell? ⟨ad.block,ad.off+i*s+j,none⟩=some (vf i j)∧j7 (vf i j)=true∧RepI I w x (vf i j):=by
 cases h with
 |islEmpty=>exact⟨fun i r h=>by simp at h,fun _ _=>undef,fun i r j x h=>by simp at h⟩
 |isl _ _ _ b o cap vf h1 h2 h3 h4 h5 h6 h7=>exact⟨h4,vf,fun i r j x hi hj=>⟨h1 i r j x hi hj,h5 i r j x hi hj,h6 i r j x hi hj,h7 i r j x hi hj⟩⟩
theorem z6v(hI:Inv I β n H w)(s:Nat):Inv I (upd β (n,0) (some ⟨0,0,0,0,s⟩)) (n+1) (((n,0),.tok)::H) w∧Ext I β n H w I (upd β (n,0) (some ⟨0,0,0,0,s⟩)) (n+1) (((n,0),.tok)::H) w:=by
 have none0:∀b k,¬(⟨0,0,0,0,s⟩:CLoc).has b k:=fun b k h=>by have:=h.2.2;simp at this
 refine Yl hI (Chg.refl w (fun _ _=>False)) (qG n) (fun _ _ h=>h.elim) (fun _ _ h=>h) (fun _ _ h h'=>absurd h h') (fun id hid=>.inl (yf _ _ (X7 hid))) ?_ ?_ ?_ (fun _ _ _ _ _ _ h=>h) ?_ ?_
 ·intro id c b k hid hc hk
  rcases uo hc hI.fresh with⟨_,rfl⟩|⟨h,_⟩
  ·exact absurd hk (none0 b k)
  ·omega
 ·intro id hid
  rw[yf _ _ (fun h=>by subst h;exact absurd hid (Nat.not_succ_le_self n))]
  exact hI.fresh id (by omega)
 ·intro i j c d b k hi hj hc hd hj'
  rcases uo hj hI.fresh with⟨_,rfl⟩|⟨h,_⟩
  ·exact absurd hd (none0 b k)
  ·omega
 ·intro id hid hg
  rwa [AHeap.get_cons_other _ _ (X7 hid).symm] at hg
 ·intro id blk hid
  by_cases h:(n,0)=id
  ·subst h
   rw[AHeap.get_cons_same] at hid
   simp only[p0] at hid
   subst hid
   exact .inr ⟨_,we _ _ _,fun k _ h2=>absurd h2 (Nat.not_lt_zero k)⟩
  ·rw[AHeap.get_cons_other _ _ h] at hid
   exact .inl ⟨hid,yf _ _ (fun h'=>h h'.symm),fun _ _ _ _ _ h=>h⟩
theorem zoi(hI:Inv I β n H w){K:AVal→AHeap→Nat→Prop}{t u c rt:TypeId}{s b:Nat}{zs:List AVal}(ht:P.underlying t=some (.slice c))(hu:(∃c',P.underlying u=some (.slice c'))∨P.underlying u=some .string)(hz:vr P c=some zs)(hsz:vw P c=some s)(hby:U0 P c=some b)(hs:0<s)(hb:0<b)
 {x y:AVal} {vx vy:Value} (hx:Rep I β n w x vx) (hy:Rep I β n w y vy) {p:Prop} {rows2 rows2':List (List AVal)} (hr:Jn H s y=some (p,rows2)) (hp:p) (him:z2e y rows2=some rows2') (h:zcu s b H n K x rows2') :
 ∃v w',(Builtin.append_ #[t,u] rt #[vx,vy]).run P w=.ok v w'∧Goes I β n H w K v w':=by
 let wd:World:={ w with drawn:=w.drawn+1 }
 have hwd:wd.heap=w.heap:=rfl
 have hId:Inv I β n H wd:=hI.of_heap hwd
 have hl2:rows2'.length=rows2.length:=zn3 him
 obtain⟨hly,hread⟩:=Y4 (P:=P) hI hs hy hr hp
 obtain⟨a2,f2,f2s,f2c,_,f2r⟩:=hread rows2.length (p9 _)
 obtain⟨_,hreadd⟩:=Y4 (P:=P) hId hs (hy.of_heap hwd) hr hp
 obtain⟨a2d,g2,g2s,g2c,_,g2r⟩:=hreadd rows2.length (p9 _)
 have f2r:=f2r rows2' him
 have g2r:=g2r rows2' him
 rw[←hl2,List.take_length] at f2r g2r
 rw[←hl2] at hly f2 f2s g2 g2s
 -- in place: the run
 have place:∀ (base:Option Addr) (len cap:Nat) (w':World),vx=.slice base len cap→len+rows2'.length≤cap→(match base with|some ad=>(storeCells (ad.add (len*s)) a2.toList 0).run P w=.ok () w'|none=>a2=#[]∧w'=w) →
  (Builtin.append_ #[t,u] rt #[vx,vy]).run P w=.ok (.slice base (len+rows2'.length) cap) w':=by
  intro base len cap w' hv hc hst
  rcases hu with⟨c',hu⟩|hu
  all_goals
   unfold Builtin.append_
   simp only[qB,pH,pY,pL,zd ht,zd hu,pF,xm hsz,pP,hly,hv,qK,if_false,Bool.not_false,if_true]
   rw[if_pos hc]
   simp only[pL,f2,pF]
   cases base with
   |none=>obtain⟨rfl,rfl⟩:=hst;simp
   |some ad=>simp only at hst;simp only[hst,pF,pL,pP]
 -- a new block
 have grow:∀ (H2:AHeap) (base:Option Addr) (len cap:Nat) (es1:List (List AVal)) (a1:Array Value),(∀id blk,H2.get id=some blk→H.get id=some blk)→vx=.slice base len cap→(Builtin.firstCells s len (.slice base len cap)).run P wd=.ok a1 wd→RowsInI I w s 0 es1 a1→a1.size=len*s→es1.length=len →
  cap<len+rows2'.length→(len+rows2'.length)*b≤140737488355328→K (.osl (n,0) s (es1++rows2')) (((n,0),.tok)::H2) (n+1) →
  ∃v w',(Builtin.append_ #[t,u] rt #[vx,vy]).run P w=.ok v w'∧Goes I β n H w K v w':=by
  intro H2 base len cap es1 a1 hH2 hv h1 hr1 hs1 hl hcap hby2 hk
  subst hv
  obtain⟨m,w',a3,k1,k2,k3,k4⟩:=zif (P:=P) (rt:=rt) ht hu hz hsz hby hb (wd:=wd) rfl hly h1 g2 hcap hby2 hs1 g2s
  obtain⟨I',β',q1,q2,q3,q4,_⟩:=z8v (H2:=H2) hI k3 (fun k h=>Jp k _ h) (z58 hr1 (g2r.of_heap hwd.symm) (by rw[hs1,hl])) true hH2
  simp only[if_true] at q1 q2
  have hlen:(es1++rows2').length=len+rows2'.length:=by rw[pW,hl]
  refine⟨_,w',k1,_,_,_,_,_,hk,q1,?_,q2⟩
  have hrep:=q4 m false (by rw[hlen];exact k2) (fun h=>by cases h)
  rw[hlen] at hrep
  refine .osl _ _ _ _ (pV n) hrep ?_
  intro d hd ad cap' he
  rw[q3 rfl] at hd
  simp only[p0] at hd
  subst hd
  simp only[qN,p0] at he
  obtain⟨rfl,_,rfl⟩:=he
  right
  exact⟨rfl,rfl,by simp,by simp only[Nat.zero_add];rw[k4];exact p9 _⟩
 -- nothing appended: an empty token
 have keep0:∀ (es:List (List AVal)),rows2'=[]→(∃base cap,vx=.slice base es.length cap∧es.length≤cap)→RepI I w (.isl s es false) vx→(∀ad cap,vx=.slice (some ad) es.length cap→cap=es.length)→K (.osl (n,0) s es) (((n,0),.tok)::H) (n+1) →
  ∃v w',(Builtin.append_ #[t,u] rt #[vx,vy]).run P w=.ok v w'∧Goes I β n H w K v w':=by
  intro es h0 ⟨base,cap,hv,hc⟩ hRI hfull hk
  have ha2:a2=#[]:=by
   have:a2.size=0:=by rw[f2s,h0];simp
   exact pN.1 this
  obtain⟨q1,q2⟩:=z6v hI s
  refine⟨vx,w,?_,_,_,_,_,_,hk,q1,?_,q2⟩
  ·have:=place base es.length cap w hv (by rw[h0];simpa using hc) (by
    cases base with
    |none=>exact⟨ha2,rfl⟩
    |some ad=>subst ha2;simp[storeCells])
   rw[h0] at this
   rw[this,hv];simp
  ·refine .osl _ _ _ _ (pV n) hRI ?_
   intro d _ ad cap' he
   exact .inl (hfull ad cap' he)
 cases x<;>simp only[zcu] at h<;>try (exact h.elim)
 case val uu=>
  split at h
  ·rename_i heq
   cases heq
   obtain rfl:=hx.val_inv
   obtain⟨q1,q2⟩:=h
   by_cases h0:rows2'=[]
   ·refine keep0 [] h0 ⟨none,0,rfl,p9 _⟩ (.islNil _ _) (fun ad cap he=>by simp at he) (by rw[h0] at q2;exact q2)
   ·have hpos:0<rows2'.length:=List.length_pos_iff.2 h0
    exact grow H none 0 0 [] #[] (fun _ _ h=>h) rfl rfl (by simp[RowsInI]) (by simp) rfl (by omega) (by simpa using q1) (by simpa using q2)
  all_goals first|(rename_i heq;cases heq;done)|exact h.elim
 case isl s' es f=>
  obtain⟨rfl,hf,q1,q2⟩:=h
  have hxI:RepI I w (.isl s' es f) vx:=by cases hx;assumption
  obtain⟨ad,cap,rfl,hcap,hfull,_⟩:=hx.isl_inv
  have hce:=hfull hf
  have hxI0:RepI I w (.isl s' es false) (.slice ad es.length cap):=by
   cases hxI with
   |islNil=>exact .islNil _ _
   |islEmpty _ _ a _ h=>exact .islEmpty _ _ _ _ (fun h=>by cases h)
   |isl _ _ _ b o cap vf h1 h2 h3 h4 h5 h6 h7=>exact .isl _ _ _ b o cap vf h1 h2 (fun h=>by cases h) h4 h5 h6 h7
  by_cases h0:rows2'=[]
  ·refine keep0 es h0 ⟨ad,cap,rfl,hcap⟩ hxI0 (fun ad cap he=>by simp only[qN] at he;rw[←he.2.2];exact hce) (by rw[h0,List.append_nil] at q2;exact q2)
  ·have hpos:0<rows2'.length:=List.length_pos_iff.2 h0
   obtain⟨_,hread1⟩:=Y4 (P:=P) hId hs (hx.of_heap hwd) (p:=s'=s') (rows:=es) rfl rfl
   obtain⟨a1,e1,e2,_,_,e4⟩:=hread1 es.length (p9 _)
   have e4:=e4 es rfl
   rw[List.take_length] at e4
   exact grow H ad es.length cap es a1 (fun _ _ h=>h) rfl e1 (e4.of_heap hwd.symm) e2 rfl (by omega) q1 q2
 case osl tok s' es=>
  obtain⟨rfl,htk,q1,q2⟩:=h
  have hx0:=hx
  cases hx with
  |imm _ _ hx=>cases hx
  |osl _ _ _ _ htn hxI hcond=>
  obtain⟨ad,cap,rfl,hcap,_,hne⟩:=(Rep.imm (β:=β) (n:=n) _ _ hxI).isl_inv
  obtain⟨cl,hcl,hB⟩:=hI.blocks tok _ htk
  have hdel:∀id blk,(H.del tok).get id=some blk→H.get id=some blk:=fun id blk hh=>by
   rw[AHeap.get_del] at hh
   split at hh
   ·cases hh
   ·exact hh
  by_cases hin:es.length+rows2'.length≤cap
  ·cases ad with
   |none=>
    -- nil: nothing is appended
    have hes:es=[]:=by
     by_cases h:es=[]
     ·exact h
     ·exact absurd rfl (hne h)
    subst hes
    have hc0:cap=0:=by cases hxI;rfl
    have h0:rows2'=[]:=pS.1 (by omega)
    have:=keep0 [] h0 ⟨none,cap,rfl,Nat.zero_le _⟩ (by rw[hc0] at hxI ⊢;exact .islNil _ _) (fun ad cap he=>by simp at he)
    -- the old token is dropped
    obtain⟨z1,z2⟩:=z6v hI s'
    have hsub:∀id blk,AHeap.get (((n,0),.tok)::H.del tok) id=some blk→AHeap.get (((n,0),.tok)::H) id=some blk:=by
     intro id blk hh
     by_cases hn:(n,0)=id
     ·subst hn;rw[AHeap.get_cons_same] at hh ⊢;exact hh
     ·rw[AHeap.get_cons_other _ _ hn] at hh ⊢;exact hdel id blk hh
    have ha2:a2=#[]:=by
     have:a2.size=0:=by rw[f2s,h0];simp
     exact pN.1 this
    refine⟨.slice none 0 cap,w,?_,_,_,_,_,_,q2,z1.sub hsub,?_,z2.sub hsub⟩
    ·have:=place none 0 cap w rfl (by rw[h0];simp) ⟨ha2,rfl⟩
     rw[h0] at this
     simpa using this
    ·rw[h0,List.append_nil]
     refine .osl _ _ _ _ (pV n) (by rw[hc0];exact .islNil _ _) ?_
     intro d _ ad cap' he
     simp at he
   |some ad=>
    obtain⟨hrl,vf,hvf⟩:=zu9 hxI
    rcases hcond cl hcl ad cap rfl with hce|⟨sp,hblk,hlo,hhi⟩
    ·-- full: nothing is appended
     have h0:rows2'=[]:=pS.1 (by omega)
     obtain⟨z1,z2⟩:=z6v hI s'
     have hsub:∀id blk,AHeap.get (((n,0),.tok)::H.del tok) id=some blk→AHeap.get (((n,0),.tok)::H) id=some blk:=by
      intro id blk hh
      by_cases hn:(n,0)=id
      ·subst hn;rw[AHeap.get_cons_same] at hh ⊢;exact hh
      ·rw[AHeap.get_cons_other _ _ hn] at hh ⊢;exact hdel id blk hh
     have ha2:a2=#[]:=by
      have:a2.size=0:=by rw[f2s,h0];simp
      exact pN.1 this
     refine⟨.slice (some ad) es.length cap,w,?_,_,_,_,_,_,q2,z1.sub hsub,?_,z2.sub hsub⟩
     ·have:=place (some ad) es.length cap w rfl (by rw[h0];simpa using hcap) (by subst ha2;simp[storeCells])
      rw[h0] at this
      simpa using this
     ·rw[h0,List.append_nil]
      refine .osl _ _ _ _ (pV n) hxI ?_
      intro d _ ad' cap' he
      simp only[qN] at he
      exact .inl (by rw[←he.2.2];exact hce)
    ·-- in place
     obtain⟨bb,oo,spt⟩:=ad
     simp only at sp hblk hlo hhi hvf
     subst sp
     subst hblk
     have hle:(es.length+rows2'.length)*s'≤cap*s':=qF _ hin
     rw[qA] at hle
     obtain⟨w',t1,t2,t3,t4⟩:=Zw (P:=P) (vs:=a2.toList) (w:=w) (b:=cl.blk) (o:=oo+es.length*s')
      (fun j hj=>by
       simp only[pQ,f2s] at hj
       exact(hB _ (by omega) (by omega)).1)
      (fun j hj=>by
       simp only[pQ,f2s] at hj
       exact(hB _ (by omega) (by omega)).2) f2c
     simp only[pQ,f2s] at t2 t4
     have t2':Chg w w' cl.has:=t2.mono (fun b' k h=>⟨h.1.symm,by omega,by omega⟩)
     obtain⟨z1,z2⟩:=z7z (c2:=⟨cl.blk,cl.lo+rows2'.length*s',cl.size,0,s'⟩) (blk2:=.tok) (J:=fun b k=>b=cl.blk∧cl.lo≤k∧k<cl.lo+rows2'.length*s') hI (by rw[htk];simp) hcl t2'
      (fun b k h=>⟨h.1,by have:=h.2.1;simp only at this;omega,h.2.2⟩)
      (fun b' k h=>by
       obtain⟨rfl,h1,h2⟩:=h
       refine⟨⟨rfl,h1,by omega⟩,fun h'=>by have:=h'.2.1;simp only at this;omega,?_⟩
       have:=t4 (k-cl.lo) (by omega)
       rw[show oo+es.length*s'+(k-cl.lo)=k by omega] at this
       exact⟨a2[k-cl.lo]'(by omega),by rw[this];simp[pB (show k-cl.lo<a2.size by omega)]⟩)
      (fun k h1 h2=>by
       simp only at h1 h2
       obtain⟨⟨v,hv⟩,hfz⟩:=hB k (by omega) h2
       refine⟨⟨v,?_⟩,?_⟩
       ·rw[t2.cell cl.blk k (Yh hv) (fun h=>by omega)];exact hv
       ·rw[t2'.frozen hv];exact hfz)
     have hcI:∀b k,I b k→w'.cell? ⟨b,k,none⟩=w.cell? ⟨b,k,none⟩:=fun b' k hbk=>by
      obtain⟨v,hv⟩:=hI.imm b' k hbk
      exact t2'.cell b' k (Yh hv) (fun h=>(hI.own tok cl b' k hcl h).1 hbk)
     have up:∀ {x v},RepI I w x v→RepI (fun b k=>I b k∨(b=cl.blk∧cl.lo≤k∧k<cl.lo+rows2'.length*s')) w' x v:=fun h=>h.mono (fun _ _ h=>.inl h) hcI
     have hlen:(es++rows2').length=es.length+rows2'.length:=pW
     -- the cells of the new slice
     have key:∀ (i:Nat) (r:List AVal) (j:Nat) (x:AVal),(es++rows2')[i]?=some r→r[j]?=some x→∃v,(I cl.blk (oo+i*s'+j)∨(cl.blk=cl.blk∧cl.lo≤oo+i*s'+j∧oo+i*s'+j<cl.lo+rows2'.length*s')) ∧
      w'.cell? ⟨cl.blk,oo+i*s'+j,none⟩=some v∧j7 v=true∧RepI (fun b k=>I b k∨(b=cl.blk∧cl.lo≤k∧k<cl.lo+rows2'.length*s')) w' x v:=by
      intro i r j x hi hj
      rw[pT] at hi
      split at hi
      ·obtain⟨h1,h2,h3,h4⟩:=hvf i r j x hi hj
       exact⟨_,.inl h1,by rw[hcI _ _ h1];exact h2,h3,up h4⟩
      ·rename_i hge
       obtain⟨v,h1,h2,h3⟩:=f2r.2.2 (i-es.length) r j x hi hj
       have hrow:=zib f2r.2.1 hi hj
       have hib:i*s'=es.length*s'+(i-es.length)*s':=by rw[←qA];congr 1;omega
       have:=t4 ((i-es.length)*s'+j) hrow
       rw[pO,show(i-es.length)*s'+j=0+(i-es.length)*s'+j by omega,h1] at this
       exact⟨v,.inr ⟨rfl,by omega,by omega⟩,by rw[←this];congr 2;omega,h2,up h3⟩
     refine⟨.slice (some ⟨cl.blk,oo,none⟩) (es.length+rows2'.length) cap,w',place (some ⟨cl.blk,oo,none⟩) es.length cap w' rfl hin (by simp only[k9];exact t1),_,_,_,_,_,q2,z1,?_,z2⟩
     refine .osl _ _ _ _ (pV n) ?_ ?_
     ·have:=RepI.isl (I:=fun b k=>I b k∨(b=cl.blk∧cl.lo≤k∧k<cl.lo+rows2'.length*s')) (w:=w') s' (es++rows2') false cl.blk oo cap (fun i j=>(w'.cell? ⟨cl.blk,oo+i*s'+j,none⟩).getD undef)
       (fun i r j x hi hj=>by obtain⟨v,h1,_⟩:=key i r j x hi hj;exact h1) (by rw[hlen];exact hin) (fun h=>by cases h)
       (fun i r hi=>by
        rw[pT] at hi
        split at hi
        ·exact hrl i r hi
        ·exact f2r.2.1 _ r hi)
       (fun i r j x hi hj=>by obtain⟨v,_,h2,_⟩:=key i r j x hi hj;rw[h2];rfl)
       (fun i r j x hi hj=>by obtain⟨v,_,h2,h3,_⟩:=key i r j x hi hj;rw[h2];exact h3)
       (fun i r j x hi hj=>by obtain⟨v,_,h2,_,h4⟩:=key i r j x hi hj;rw[h2];exact h4)
      rw[hlen] at this
      exact this
     ·intro d hd ad' cap' he
      rw[we] at hd
      simp only[p0] at hd
      subst hd
      simp only[qN,p0] at he
      obtain⟨rfl,_,rfl⟩:=he
      right
      refine⟨rfl,rfl,?_,hhi⟩
      simp only[hlen,qA];omega
  ·-- a new block
   obtain⟨_,hread1⟩:=Y4 (P:=P) hId hs (hx0.of_heap hwd) (p:=s'=s') (rows:=es) rfl rfl
   obtain⟨a1,e1,e2,_,_,e4⟩:=hread1 es.length (p9 _)
   have e4:=e4 es rfl
   rw[List.take_length] at e4
   exact grow (H.del tok) ad es.length cap es a1 hdel rfl e1 (e4.of_heap hwd.symm) e2 rfl (by omega) q1 q2
end
end Go.Fx
namespace Go.Fx
variable {P:Program}
section
variable {I:Nat→Nat→Prop} {β:Id→Option CLoc} {n:Nat} {H:AHeap} {w:World} {e:Env} {a:Act}
theorem zb8:∀ {ks:List CK} {cs ds:List AVal},qk ks cs ds=some true→cs=ds
 |[],[],[],_=>rfl
 |[],[],_::_,h=>by simp[qk] at h
 |[],_::_,_,h=>by simp[qk] at h
 |_::_,[],_,h=>by simp[qk] at h
 |_::_,_::_,[],h=>by simp[qk] at h
 |k::ks,x::xs,y::ys,h=>by
  simp only[qk] at h
  split at h<;>try (cases h;done)
  rename_i a b h1 h2
  simp only[p0,pI] at h
  obtain⟨rfl,rfl⟩:=h
  rw[zb8 h2]
  have:x=y:=by
   cases k<;>cases x<;>cases y<;>simp[U6] at h1
   ·rw[h1]
   ·rw[h1.1,h1.2]
   ·rw[h1]
  rw[this]
theorem z8r:∀ {ks:List CK} {cs:List AVal} {b:Bool},qk ks cs cs=some b→∀ (i:Nat) (x:AVal),cs[i]?=some x→∃u,(∀ {v:Value},Rep I β n w x v→v=u)∧∀d,qH d u u=true
 |[],[],_,_,i,x,h=>by simp at h
 |[],_::_,_,h,_,_,_=>by simp[qk] at h
 |_::_,[],_,h,_,_,_=>by simp[qk] at h
 |k::ks,y::ys,b,h,i,x,hx=>by
  simp only[qk] at h
  split at h<;>try (cases h;done)
  rename_i a b' h1 h2
  cases i with
  |succ i=>exact z8r h2 i x (by simpa using hx)
  |zero=>
   simp only[pH,p0] at hx
   subst hx
   cases k<;>cases y<;>simp[U6] at h1
   ·exact⟨_,fun h=>h.bool_inv,fun d=>by cases d<;>simp[qH]⟩
   ·exact⟨_,fun h=>h.int_inv,fun d=>by cases d<;>simp[qH]⟩
   ·exact⟨_,fun h=>h.str_inv,fun d=>by cases d<;>simp[qH,beq_toListBytes]⟩
theorem zb7{k k':AVal}(h:Q5 k=Q5 k')(hc:ko k=ko k'):k=k':=by
 cases k<;>cases k'<;>simp[Q5,ko] at h hc ⊢<;>try exact hc
theorem zll{ks:List CK}{ka:Bool}{k k':AVal}{v v':Value}(hok:Ud ks ka k=true)(he:z3g ks k k'=some true)(h:Rep I β n w k v)(h':RepI I w k' v'):v'=v∧(Instr.keyThatStays v' v).run P w=.ok v w:=by
 obtain⟨hag,hce⟩:=z3z he
 have hkk:k=k':=zb7 hag.symm (zb8 hce)
 subst hkk
 obtain⟨_,b,hb⟩:=Jg hok
 have vv:v'=v∧qH 10000 v v=true:=by
  cases hk:Q5 k with
  |true=>
   obtain⟨cs,rfl⟩:∃cs,k=.agg cs:=by cases k<;>simp[Q5] at hk;exact⟨_,rfl⟩
   obtain⟨vs,rfl,h1,h2,h3⟩:=h.agg_inv
   obtain⟨vs',rfl,h1',h2',h3'⟩:=(Rep.imm (β:=β) (n:=n) _ _ h').agg_inv
   simp only[ko] at hb
   have key:∀i (hi:i<vs.size) (hi':i<vs'.size),vs'[i]=vs[i]∧qH 9999 vs[i] vs[i]=true:=by
    intro i hi hi'
    have hlt:i<cs.length:=by omega
    obtain⟨u,hu,hs⟩:=z8r (I:=I) (β:=β) (n:=n) (w:=w) hb i cs[i] (p7 hlt)
    have e1:=hu (h3 i _ _ (p7 hlt) (pB hi))
    have e2:=hu (h3' i _ _ (p7 hlt) (pB hi'))
    rw[e1,e2];exact⟨rfl,hs _⟩
   refine⟨?_,?_⟩
   ·congr 1
    refine Array.ext (by omega) (fun i h4 h5=>(key i h5 h4).1)
   ·simp only[qH,BEq.rfl,Bool.true_and,qI]
    rintro⟨x,y⟩ hxy
    obtain⟨i,hi⟩:=List.mem_iff_getElem?.1 hxy
    rw[List.getElem?_zip_eq_some] at hi
    obtain⟨e1,e2⟩:=hi
    rw[e1] at e2
    simp only[p0] at e2
    subst e2
    have hlt:i<vs.size:=by simpa using z4m e1
    have:=(key i hlt (by omega)).2
    have e3:vs[i]=x:=by
     rw[pO,pB hlt] at e1
     simpa using e1
    rw[←e3];exact this
  |false=>
   have hc:ko k=[k]:=by cases k<;>simp[Q5] at hk<;>rfl
   rw[hc] at hb
   obtain⟨u,hu,hs⟩:=z8r (I:=I) (β:=β) (n:=n) (w:=w) hb 0 k rfl
   have e1:=hu h
   have e2:=hu (Rep.imm (β:=β) (n:=n) _ _ h')
   rw[e1,e2]
   exact⟨rfl,hs _⟩
 obtain⟨rfl,hs⟩:=vv
 refine⟨rfl,?_⟩
 unfold Instr.keyThatStays
 rw[if_pos hs]
 rfl
theorem zrg(hI:Inv I β n H w){b:Id}{c:CLoc}{es es':List (AVal×AVal)}{arr arr':Array MapEntry}{ck ck':Nat}(hb:H.get b=some (.amap es))(hc:β b=some c)(h0:c.lo=0)(h1:0<c.size)(hm:w.heap[c.blk]?=some (.map arr ck))(hin:MapIn I β n w es' arr' ck') :
 Inv I β n (H.set b (.amap es')) { w with heap:=w.heap.setIfInBounds c.blk (.map arr' ck') }∧Ext I β n H w I β n (H.set b (.amap es')) { w with heap:=w.heap.setIfInBounds c.blk (.map arr' ck') }:=by
 have hlt:c.blk<w.heap.size:=by
  rcases pD c.blk w.heap.size with h|h
  ·exact h
  ·rw[pK h] at hm;cases hm
 have hne:H.get b≠none:=by rw[hb];simp
 have hother:∀k,k≠c.blk→(w.heap.setIfInBounds c.blk (.map arr' ck'))[k]?=w.heap[k]?:=fun k hk=>by
  rw[Array.getElem?_setIfInBounds_ne (fun h=>hk h.symm)]
 have hsame:(w.heap.setIfInBounds c.blk (.map arr' ck'))[c.blk]?=some (.map arr' ck'):=by
  rw[Array.getElem?_setIfInBounds_self_of_lt hlt]
 have hcell:∀k j,({ w with heap:=w.heap.setIfInBounds c.blk (.map arr' ck') }:World).cell? ⟨k,j,none⟩=w.cell? ⟨k,j,none⟩:=by
  intro k j
  by_cases hk:k=c.blk
  ·subst hk
   unfold World.cell?
   simp only[hsame,hm]
  ·exact cell?_of_heap (hother k hk)
 have hchg:Chg w { w with heap:=w.heap.setIfInBounds c.blk (.map arr' ck') } (fun k j=>k=c.blk∧j=0):=by
  refine⟨rfl,⟨rfl,fun _=>p9 _⟩,rfl,by simp,fun k _ hk=>hother k (fun h=>hk 0 ⟨h,rfl⟩),fun k j _ _=>hcell k j,fun k arr2 el fr hk=>?_,fun k es2 ck2 hk hn=>?_⟩
  ·have:k≠c.blk:=fun h=>by subst h;rw[hm] at hk;cases hk
   exact⟨arr2,by simp only;rw[hother k this];exact hk,rfl⟩
  ·simp only;rw[hother k (fun h=>hn ⟨h,rfl⟩)];exact hk
 have hhas:c.has c.blk 0:=⟨rfl,by omega,h1⟩
 refine Yl hI hchg (p9 n) (fun b' k h=>⟨b,c,hc,hne,by obtain⟨rfl,rfl⟩:=h;exact hhas⟩) (fun _ _ h=>h) (fun _ _ h h'=>absurd h h') (fun id hid=>.inl rfl)
  (fun id d b' k hid hd _=>by rw[hI.fresh id hid] at hd;cases hd) hI.fresh (fun i j d d' b' k hi hj h h' _=>hI.inj i j d d' b' k hi hj h h') (fun _ _ _ _ _ _ h=>h) ?_ ?_
 ·intro t _ ht
  rw[AHeap.get_set] at ht
  split at ht
  ·intro h;rw[h] at ht;simp at ht
  ·exact ht
 ·intro id blk hid
  rw[AHeap.get_set] at hid
  by_cases h:b=id
  ·subst h
   rw[if_pos rfl,hb] at hid
   simp only[pE,p0] at hid
   subst hid
   refine .inr ⟨c,hc,h0,h1,arr',ck',hsame,hin.len,fun i k x m hi hx=>?_,hin.born,hin.clk⟩
   obtain⟨g1,g2⟩:=hin.ent i k x m hi hx
   exact⟨g1.mono (fun _ _ h=>h) (fun b k _=>hcell b k),g2.mono' (fun _ _ h=>h) (fun b k _=>hcell b k) (p9 n) (fun _ _ _ h=>h)⟩
  ·rw[if_neg h] at hid
   refine .inl ⟨hid,rfl,fun d b' k hd hk hk'=>h (hI.inj b id c d b' k hc hd (by obtain⟨rfl,rfl⟩:=hk';exact hhas) hk)⟩
theorem zkm(hI:Inv I β n H w) :
 Inv I (upd β (n,0) (some ⟨w.heap.size,0,1,0,0⟩)) (n+1) (((n,0),.amap [])::H) (w.alloc (.map #[] 0))∧Ext I β n H w I (upd β (n,0) (some ⟨w.heap.size,0,1,0,0⟩)) (n+1) (((n,0),.amap [])::H) (w.alloc (.map #[] 0)):=by
 have hp:Pushed w (w.alloc (.map #[] 0)) (.map #[] 0):=⟨rfl,⟨rfl,fun _=>p9 _⟩,rfl,rfl⟩
 have hsz:(w.alloc (.map #[] 0)).heap.size=w.heap.size+1:=by rw[hp.heap];simp
 refine Yl hI hp.chg (qG n) (fun _ _ h=>h.elim) (fun _ _ h=>h) (fun _ _ h h'=>absurd h h') (fun id hid=>.inl (yf _ _ (X7 hid))) ?_ ?_ ?_ (fun _ _ _ _ _ _ h=>h) ?_ ?_
 ·intro id c b k hid hc hk
  rcases uo hc hI.fresh with⟨_,rfl⟩|⟨h,_⟩
  ·have hb:w.heap.size=b:=hk.1
   exact⟨by omega,.inl (by omega)⟩
  ·omega
 ·intro id hid
  rw[yf _ _ (fun h=>by subst h;exact absurd hid (Nat.not_succ_le_self n))]
  exact hI.fresh id (by omega)
 ·intro i j c d b k hi hj hc hd hj'
  rcases uo hj hI.fresh with⟨rfl,rfl⟩|⟨h,_⟩
  ·rcases uo hi hI.fresh with⟨rfl,_⟩|⟨_,h⟩
   ·rfl
   ·exact(z1o hI h hc (by rw[←hd.1];exact p9 _)).elim
  ·omega
 ·intro id hid hg
  rwa [AHeap.get_cons_other _ _ (X7 hid).symm] at hg
 ·intro id blk hid
  by_cases h:(n,0)=id
  ·subst h
   rw[AHeap.get_cons_same] at hid
   simp only[p0] at hid
   subst hid
   exact .inr ⟨_,we _ _ _,rfl,Nat.one_pos,#[],0,hp.new,rfl,fun i k x m hi _=>by simp at hi,fun i j m m' _ hi _=>by simp at hi,fun i m hi=>by simp at hi⟩
  ·rw[AHeap.get_cons_other _ _ h] at hid
   have hne:id≠(n,0):=fun h'=>h h'.symm
   exact .inl ⟨hid,yf _ _ hne,fun _ _ _ _ _ h=>h⟩
theorem z5i(hI:Inv I β n H w){o:Obj}{blk:ABlock}(hB:RepB I (upd β (n,0) (some ⟨w.heap.size,0,1,0,0⟩)) (n+1) (w.alloc o) ⟨w.heap.size,0,1,0,0⟩ blk) :
 Inv I (upd β (n,0) (some ⟨w.heap.size,0,1,0,0⟩)) (n+1) (((n,0),blk)::H) (w.alloc o)∧Ext I β n H w I (upd β (n,0) (some ⟨w.heap.size,0,1,0,0⟩)) (n+1) (((n,0),blk)::H) (w.alloc o):=by
 have hp:Pushed w (w.alloc o) o:=⟨rfl,⟨rfl,fun _=>p9 _⟩,rfl,rfl⟩
 have hsz:(w.alloc o).heap.size=w.heap.size+1:=by rw[hp.heap];simp
 refine Yl hI hp.chg (qG n) (fun _ _ h=>h.elim) (fun _ _ h=>h) (fun _ _ h h'=>absurd h h') (fun id hid=>.inl (yf _ _ (X7 hid))) ?_ ?_ ?_ (fun _ _ _ _ _ _ h=>h) ?_ ?_
 ·intro id c b k hid hc hk
  rcases uo hc hI.fresh with⟨_,rfl⟩|⟨h,_⟩
  ·have hb:w.heap.size=b:=hk.1
   exact⟨by omega,.inl (by omega)⟩
  ·omega
 ·intro id hid
  rw[yf _ _ (fun h=>by subst h;exact absurd hid (Nat.not_succ_le_self n))]
  exact hI.fresh id (by omega)
 ·intro i j c d b k hi hj hc hd hj'
  rcases uo hj hI.fresh with⟨rfl,rfl⟩|⟨h,_⟩
  ·rcases uo hi hI.fresh with⟨rfl,_⟩|⟨_,h⟩
   ·rfl
   ·exact(z1o hI h hc (by rw[←hd.1];exact p9 _)).elim
  ·omega
 ·intro id hid hg
  rwa [AHeap.get_cons_other _ _ (X7 hid).symm] at hg
 ·intro id blk' hid
  by_cases h:(n,0)=id
  ·subst h
   rw[AHeap.get_cons_same] at hid
   simp only[p0] at hid
   subst hid
   exact .inr ⟨_,we _ _ _,hB⟩
  ·rw[AHeap.get_cons_other _ _ h] at hid
   have hne:id≠(n,0):=fun h'=>h h'.symm
   exact .inl ⟨hid,yf _ _ hne,fun _ _ _ _ _ h=>h⟩
theorem zt8(hI:Inv I β n H w){b:Id}{c:CLoc}{blk':ABlock}(hb:H.get b≠none)(hc:β b=some c)(hB:RepB I β n w c blk') :
 Inv I β n (H.set b blk') w∧Ext I β n H w I β n (H.set b blk') w:=by
 refine Yl (Wr:=fun _ _=>False) hI ⟨rfl,⟨rfl,fun _=>p9 _⟩,rfl,p9 _,fun _ _ _=>rfl,fun _ _ _ _=>rfl,fun _ arr _ _ h=>⟨arr,h,rfl⟩,fun _ _ _ h _=>h⟩ (p9 n) (fun _ _ h=>h.elim) (fun _ _ h=>h) (fun _ _ h h'=>absurd h h') (fun id hid=>.inl rfl)
  (fun id d b' k hid hd _=>by rw[hI.fresh id hid] at hd;cases hd) hI.fresh (fun i j d d' b' k hi hj h h' _=>hI.inj i j d d' b' k hi hj h h') (fun _ _ _ _ _ _ h=>h) ?_ ?_
 ·intro t _ ht
  rw[AHeap.get_set] at ht
  split at ht
  ·intro h;rw[h] at ht;simp at ht
  ·exact ht
 ·intro id blk hid
  rw[AHeap.get_set] at hid
  by_cases h:b=id
  ·subst h
   rw[if_pos rfl] at hid
   obtain⟨_,_,rfl⟩:=p8.1 hid
   exact .inr ⟨c,hc,hB⟩
  ·rw[if_neg h] at hid
   exact .inl ⟨hid,rfl,fun d b' k _ _ hk'=>hk'⟩
theorem zxz(hI:Inv I β n H w){b:Id}{c:CLoc}{blk':ABlock}{o o':Obj}{w':World}(hb:H.get b≠none)(hc:β b=some c)(h0:c.lo=0)(h1:0<c.size)(hm:w.heap[c.blk]?=some o)(ho:zjo o=true)(ho':zjo o'=true)
 (hw1:w'.os=w.os) (hw2:TapeOk w w') (hw3:w'.output=w.output) (hw4:w'.heap=w.heap.setIfInBounds c.blk o') (hB:w'.heap[c.blk]?=some o'→(∀k j,w'.cell? ⟨k,j,none⟩=w.cell? ⟨k,j,none⟩)→RepB I β n w' c blk') :
 Inv I β n (H.set b blk') w'∧Ext I β n H w I β n (H.set b blk') w':=by
 have hlt:c.blk<w.heap.size:=by
  rcases pD c.blk w.heap.size with h|h
  ·exact h
  ·rw[pK h] at hm;cases hm
 have hother:∀k,k≠c.blk→w'.heap[k]?=w.heap[k]?:=fun k hk=>by
  rw[hw4,Array.getElem?_setIfInBounds_ne (fun h=>hk h.symm)]
 have hsame:w'.heap[c.blk]?=some o':=by
  rw[hw4,Array.getElem?_setIfInBounds_self_of_lt hlt]
 have hcell:∀k j,w'.cell? ⟨k,j,none⟩=w.cell? ⟨k,j,none⟩:=by
  intro k j
  by_cases hk:k=c.blk
  ·subst hk
   unfold World.cell?
   simp only[hsame,hm]
   cases o<;>cases o'<;>first|rfl|(cases ho;done)|(cases ho';done)
  ·exact cell?_of_heap (hother k hk)
 have hchg:Chg w w' (fun k j=>k=c.blk∧j=0):=by
  refine⟨hw1,hw2,hw3,by rw[hw4];simp,fun k _ hk=>hother k (fun h=>hk 0 ⟨h,rfl⟩),fun k j _ _=>hcell k j,fun k arr2 el fr hk=>?_,fun k es2 ck2 hk hn=>?_⟩
  ·have:k≠c.blk:=fun h=>by subst h;rw[hm] at hk;simp only[p0] at hk;subst hk;cases ho
   exact⟨arr2,by rw[hother k this];exact hk,rfl⟩
  ·rw[hother k (fun h=>hn ⟨h,rfl⟩)];exact hk
 have hhas:c.has c.blk 0:=⟨rfl,by omega,h1⟩
 refine Yl hI hchg (p9 n) (fun b' k h=>⟨b,c,hc,hb,by obtain⟨rfl,rfl⟩:=h;exact hhas⟩) (fun _ _ h=>h) (fun _ _ h h'=>absurd h h') (fun id hid=>.inl rfl)
  (fun id d b' k hid hd _=>by rw[hI.fresh id hid] at hd;cases hd) hI.fresh (fun i j d d' b' k hi hj h h' _=>hI.inj i j d d' b' k hi hj h h') (fun _ _ _ _ _ _ h=>h) ?_ ?_
 ·intro t _ ht
  rw[AHeap.get_set] at ht
  split at ht
  ·intro h;rw[h] at ht;simp at ht
  ·exact ht
 ·intro id blk hid
  rw[AHeap.get_set] at hid
  by_cases h:b=id
  ·subst h
   rw[if_pos rfl] at hid
   obtain⟨_,_,rfl⟩:=p8.1 hid
   exact .inr ⟨c,hc,hB hsame hcell⟩
  ·rw[if_neg h] at hid
   refine .inl ⟨hid,rfl,fun d b' k hd hk hk'=>h (hI.inj b id c d b' k hc hd (by obtain⟨rfl,rfl⟩:=hk';exact hhas) hk)⟩
theorem zsa(hI:Inv I β n H w){K:AVal→AHeap→Nat→Prop}{t kt et:TypeId}(ht:P.underlying t=some (.map kt et)){b:Id}{v:Value}(hx:Rep I β n w (.map b) v){es:List (AVal×AVal)}(hg:H.get b=some (.amap es))
 (hK:∀ (arr:Array MapEntry) (ck:Nat),K (.ptr (n,0) 0 0) (((n,0),.itr (some b) arr ck [])::H.set b (.rmap es arr ck)) (n+1)):∃u w',(Instr.range t v).run P w=.ok u w'∧Goes I β n H w K u w':=by
 obtain⟨c,hc,h1,h2,arr,ck,h3,h4⟩:=hI.blocks b _ hg
 have hv:v=.map (some c.blk):=by
  cases hx with
  |imm _ _ h=>cases h
  |map _ q _ hq=>rw[hq c hc]
 subst hv
 obtain⟨g1,g2⟩:=zt8 hI (by rw[hg];simp) hc (blk':=.rmap es arr ck) ⟨h1,h2,h3,h4⟩
 have hbn:=Ks hI hc
 obtain⟨k1,k2⟩:=z5i g1 (o:=z6n (some c.blk) arr ck []) (blk:=.itr (some b) arr ck []) ⟨rfl,Nat.one_pos,⟨rfl,fun _ h=>by cases h⟩,some c.blk,(⟨rfl,⟨rfl,fun _=>p9 _⟩,rfl,rfl⟩:Pushed w (w.alloc (z6n (some c.blk) arr ck [])) _).new,Nat.lt_succ_of_lt hbn,c.blk,rfl,fun d hd=>by
  rw[yf _ _ (X7 hbn),hc] at hd;simp only[p0] at hd;rw[hd]⟩
 refine⟨.pointer (some ⟨w.heap.size,0,none⟩),_,?_,_,_,_,_,_,hK arr ck,k1,.ptr _ _ _ _ (pV n) (fun d hd=>?_),g2.trans k2⟩
 ·simp[Instr.range,zd ht,MapKept.run_getObj_map h3]
  rfl
 ·rw[we] at hd;simp only[p0] at hd;subst hd;rfl
theorem zlq(hI:Inv I β n H w){K:AVal→AHeap→Nat→Prop}{t kt et:TypeId}(ht:P.underlying t=some (.map kt et))(hK:K (.ptr (n,0) 0 0) (((n,0),.itr none #[] 0 [])::H) (n+1)):∃u w',(Instr.range t (.map none)).run P w=.ok u w'∧Goes I β n H w K u w':=by
 obtain⟨k1,k2⟩:=z5i hI (o:=z6n none #[] 0 []) (blk:=.itr none #[] 0 []) ⟨rfl,Nat.one_pos,⟨rfl,fun _ h=>by cases h⟩,none,(⟨rfl,⟨rfl,fun _=>p9 _⟩,rfl,rfl⟩:Pushed w (w.alloc (z6n none #[] 0 [])) _).new,rfl⟩
 refine⟨.pointer (some ⟨w.heap.size,0,none⟩),_,?_,_,_,_,_,_,hK,k1,.ptr _ _ _ _ (pV n) (fun d hd=>?_),k2⟩
 ·simp[Instr.range,zd ht]
  rfl
 ·rw[we] at hd;simp only[p0] at hd;subst hd;rfl
theorem z4u{arr:Array MapEntry}{j:Nat}{seen:List Nat}{e:MapEntry}(h:arr[j]?=some e):(Jk arr seen).push e.born=Jk arr (j::seen):=by
 unfold Jk
 simp[h]
theorem z65{arr:Array MapEntry}{j:Nat}{seen:List Nat}{e:MapEntry}(hs:∀i∈seen,i<arr.size)(hb:∀ (i j:Nat) (e e':MapEntry),i<j→arr[i]?=some e→arr[j]?=some e'→e.born<e'.born)(h:arr[j]?=some e):(Jk arr seen).contains e.born=true↔j∈seen:=by
 unfold Jk
 rw[Array.contains_iff_mem,List.mem_toArray,List.mem_map]
 constructor
 ·rintro⟨i,hi,he⟩
  have hi:=List.mem_reverse.1 hi
  have hlt:=hs i hi
  rw[pB hlt] at he
  simp only at he
  rcases q8 i j with h'|h'|h'
  ·have:=hb i j _ _ h' (pB hlt) h;omega
  ·subst h';exact hi
  ·have:=hb j i _ _ h' h (pB hlt);omega
 ·intro hj
  exact⟨j,List.mem_reverse.2 hj,by rw[h]⟩
theorem zg6(hI:Inv I β n H w){i:Id}{v:Value}(hx:Rep I β n w (.ptr i 0 0) v){c:CLoc}(hc:β i=some c)(h0:c.base=0):v=.pointer (some ⟨c.blk,0,none⟩):=by
 cases hx with
 |imm _ _ h=>cases h
 |ptr _ _ _ a _ hq=>rw[hq c hc,h0];simp
theorem zw5(hI:Inv I β n H w){K:AVal→AHeap→Nat→Prop}{i b:Id}{v:Value}(hx:Rep I β n w (.ptr i 0 0) v){arr:Array MapEntry}{ck:Nat}{seen:List Nat}{es:List (AVal×AVal)}{ty:TypeId}
 (hi:H.get i=some (.itr (some b) arr ck seen)) (hb:H.get b=some (.rmap es arr ck)) (h0:(∀j,j<es.length→j∈seen)→K (.tup [.bool false]) H n)
 (h1:∀j,j<es.length→j∉seen→K (.tup [.bool true,.any,.any]) (H.set i (.itr (some b) arr ck (j::seen))) n):∃u w',(Instr.next v false ty).run P w=.ok u w'∧Goes I β n H w K u w':=by
 obtain⟨c,hc,c1,c2,⟨c6,c7⟩,k,c3,c4,k',rfl,c5⟩:=hI.blocks i _ hi
 obtain⟨d,hd,d1,d2,d3,d4⟩:=hI.blocks b _ hb
 have hkd:=c5 d hd
 subst hkd
 have hv:=zg6 hI hx hc c6
 subst hv
 have hlen:=d4.len
 have old:∀x∈arr.toList,x.born<ck:=fun x hx=>by
  obtain⟨q,hq⟩:=List.mem_iff_getElem?.1 hx
  exact d4.clk q x (by simpa using hq)
 have refl:Ext I β n H w I β n H w:=Ext.refl _ _ _ _ _ hI.fresh
 rcases run_next_at (P:=P) w ty c.blk d.blk ck ck (Jk arr seen) arr ck c3 d3 old (p9 _) with⟨hz,hr⟩|⟨e,he,w1,hw1,hr⟩
 ·refine⟨_,_,hr,_,_,_,_,_,h0 ?_,hI,.tup [.bool false] _ rfl (fun q x u hx hu=>?_),refl⟩
  ·intro j hj
   have hj':j<arr.size:=by omega
   have hcon:(Jk arr seen).contains (arr[j]).born=true:=by
    cases hq:(Jk arr seen).contains (arr[j]).born with
    |true=>rfl
    |false=>
     have:arr[j]∈leftOf arr (Jk arr seen):=by
      unfold leftOf
      rw[Array.mem_filter]
      exact⟨Array.getElem_mem hj',by rw[hq];rfl⟩
     rw[Array.eq_empty_of_size_eq_zero hz] at this
     cases(Array.not_mem_empty _ this)
   exact(z65 c7 d4.born (pB hj')).1 hcon
  ·cases q with
   |zero=>simp at hx hu;subst hx;subst hu;exact .imm _ _ (.bool false)
   |succ q=>simp at hx
 ·have hel:e∈leftOf arr (Jk arr seen):=by simpa using he
  unfold leftOf at hel
  rw[Array.mem_filter] at hel
  obtain⟨hmem,hnc⟩:=hel
  obtain⟨j,hj,rfl⟩:=Array.getElem_of_mem hmem
  have hns:j∉seen:=fun h=>by
   have:=(z65 c7 d4.born (pB hj)).2 h
   rw[this] at hnc;cases hnc
  have hw':w1.heap=w.heap∧w1.os=w.os∧TapeOk w w1∧w1.output=w.output:=hw1.elim (fun e=>e▸⟨rfl,rfl,⟨rfl,fun _=>p9 _⟩,rfl⟩) (fun e=>e▸⟨rfl,rfl,⟨rfl,fun _=>qG _⟩,rfl⟩)
  obtain⟨e1,e2,e3,e4⟩:=hw'
  rw[z4u (pB hj)] at hr
  obtain⟨g1,g2⟩:=zxz (w':=ChangeMaps.setBlock w1 c.blk (z6n (some d.blk) arr ck (j::seen))) hI (by rw[hi];simp) hc c1 c2 c3 rfl rfl e2 ⟨e3.eq,e3.le⟩ e4 (by simp only[ChangeMaps.setBlock,e1]) (blk':=.itr (some b) arr ck (j::seen)) (fun q1 q2=>
   ⟨c1,c2,⟨c6,fun q hq=>(q9.1 hq).elim (fun e=>e▸hj) (c7 q)⟩,_,q1,c4,_,rfl,c5⟩)
  refine⟨_,_,hr,_,_,_,_,_,h1 j (by omega) hns,g1,.tup [.bool true,.any,.any] _ rfl (fun q x u hx hu=>?_),g2⟩
  match q with
  |0=>simp at hx hu;subst hx;subst hu;exact .imm _ _ (.bool true)
  |1=>simp at hx;subst hx;exact .any _
  |2=>simp at hx;subst hx;exact .any _
  |q+3=>simp at hx
theorem zt3(hI:Inv I β n H w){K:AVal→AHeap→Nat→Prop}{i:Id}{v:Value}(hx:Rep I β n w (.ptr i 0 0) v){arr:Array MapEntry}{ck:Nat}{seen:List Nat}{ty:TypeId}
 (hi:H.get i=some (.itr none arr ck seen)) (h0:K (.tup [.bool false]) H n):∃u w',(Instr.next v false ty).run P w=.ok u w'∧Goes I β n H w K u w':=by
 obtain⟨c,hc,c1,c2,⟨c6,c7⟩,k,c3,rfl⟩:=hI.blocks i _ hi
 have hv:=zg6 hI hx hc c6
 subst hv
 have refl:Ext I β n H w I β n H w:=Ext.refl _ _ _ _ _ hI.fresh
 refine⟨.tuple #[.bool false],w,?_,_,_,_,_,_,h0,hI,.tup [.bool false] _ rfl (fun q x u hx hu=>?_),refl⟩
 ·have:w.heap[c.blk]?=some (.mapIter none ck (Jk arr seen) ck):=c3
  simp[Instr.next,getObj,Sem.run,this]
 ·cases q with
  |zero=>simp at hx hu;subst hx;subst hu;exact .imm _ _ (.bool false)
  |succ q=>simp at hx
theorem zt0(hI:Inv I β n H w){K:AVal→AHeap→Nat→Prop}{i b:Id}{v:Value}(hx:Rep I β n w (.ptr i 0 0) v){arr:Array MapEntry}{ck j:Nat}{seen:List Nat}{es:List (AVal×AVal)}{p:AVal×AVal}
 (hi:H.get i=some (.itr (some b) arr ck (j::seen))) (hb:H.get b=some (.rmap es arr ck)) (hp:es[j]?=some p) (h:K (.tup [p.1,p.2]) H n):∃u w',(Instr.entry v).run P w=.ok u w'∧Goes I β n H w K u w':=by
 obtain⟨c,hc,c1,c2,⟨c6,c7⟩,k,c3,c4,k',rfl,c5⟩:=hI.blocks i _ hi
 obtain⟨d,hd,d1,d2,d3,d4⟩:=hI.blocks b _ hb
 have hkd:=c5 d hd
 subst hkd
 have hv:=zg6 hI hx hc c6
 subst hv
 have refl:Ext I β n H w I β n H w:=Ext.refl _ _ _ _ _ hI.fresh
 have hj:j<arr.size:=c7 j (List.mem_cons_self ..)
 have hje:=pB hj
 have c3':w.heap[c.blk]?=some (.mapIter (some d.blk) ck ((Jk arr seen).push (arr[j]).born) ck):=by rw[z4u hje];exact c3
 have nd:(arr.toList.map (·.born)).Nodup:=by
  rw[List.nodup_iff_pairwise_ne,List.pairwise_map,List.pairwise_iff_getElem]
  intro q1 q2 hq1 hq2 hlt he
  have:=d4.born q1 q2 arr[q1]! arr[q2]! hlt (by simp at hq1;simp[hq1]) (by simp at hq2;simp[hq2])
  simp at hq1 hq2
  simp[hq1,hq2] at this he
  omega
 have hr:=run_entry_at (P:=P) w c.blk d.blk ck (Jk arr seen) arr ck arr[j] c3' d3 (by simp) nd
 obtain⟨g1,g2⟩:=d4.ent j p.1 p.2 _ hp hje
 refine⟨_,_,hr,_,_,_,_,_,h,hI,.tup [p.1,p.2] _ rfl (fun q x u hx hu=>?_),refl⟩
 match q with
 |0=>simp at hx hu;subst hx;subst hu;exact .imm _ _ g1
 |1=>simp at hx hu;subst hx;subst hu;exact g2
 |q+2=>simp at hx
theorem zc5{ks:List CK}{k x:AVal}:∀ {es es':List (AVal×AVal)},zxf ks k x es=some es'→∃p,Xx ks k es=some p∧(match p with
 |none=>es'=es++[(k,x)]
 |some i=>∃k' y,es[i]?=some (k',y)∧z3g ks k k'=some true∧es'=es.set i (k,x))
 |[],es',h=>by simp only[zxf,p0] at h;subst h;exact⟨none,rfl,rfl⟩
 |(k',y)::r,es',h=>by
  simp only[zxf] at h
  simp only[Xx]
  split at h
  ·rename_i hc
   simp only[p0] at h
   subst h
   exact⟨some 0,by simp only[hc],k',y,rfl,hc,rfl⟩
  ·rename_i hc
   simp only[p8] at h
   obtain⟨r',hr,rfl⟩:=h
   obtain⟨p,h1,h2⟩:=zc5 hr
   simp only[hc,h1,pE]
   refine⟨_,rfl,?_⟩
   cases p with
   |none=>simp only[Option.map_none] at h2 ⊢;rw[h2];rfl
   |some i=>
    simp only[pE] at h2 ⊢
    obtain⟨k2,y2,g1,g2,g3⟩:=h2
    exact⟨k2,y2,by simpa using g1,g2,by rw[g3];rfl⟩
  ·cases h
theorem z66{ks:List CK}{k:AVal}:∀ {es es':List (AVal×AVal)},zej ks k es=some es'→∃p,Xx ks k es=some p∧(match p with
 |none=>es'=es
 |some i=>es'=es.eraseIdx i∧i<es.length)
 |[],es',h=>by simp only[zej,p0] at h;subst h;exact⟨none,rfl,rfl⟩
 |(k',y)::r,es',h=>by
  simp only[zej] at h
  simp only[Xx]
  split at h
  ·rename_i hc
   simp only[p0] at h
   subst h
   exact⟨some 0,by simp only[hc],rfl,by simp⟩
  ·rename_i hc
   simp only[p8] at h
   obtain⟨r',hr,rfl⟩:=h
   obtain⟨p,h1,h2⟩:=z66 hr
   simp only[hc,h1,pE]
   refine⟨_,rfl,?_⟩
   cases p with
   |none=>simp only[Option.map_none] at h2 ⊢;rw[h2]
   |some i=>
    simp only[pE] at h2 ⊢
    obtain⟨g1,g2⟩:=h2
    exact⟨by rw[g1];rfl,by simp;exact g2⟩
  ·cases h
theorem zue{g:Bool}{zs:List AVal}{x y:AVal}(h:zzg g zs x=some y){v:Value}(hr:Rep I β n w x v):Rep I β n w y v:=by
 unfold zzg at h
 split at h
 ·rename_i cs hx
  simp only[p0] at h
  subst h
  have:=Yx x hx hr
  cases this with
  |agg _ vs h1 h2 h3=>
   obtain⟨hl,hg⟩:=Xn zs cs
   refine .imm _ _ (.agg _ vs (by rw[hl];exact h1) h2 (fun i z u hz hu=>?_))
   obtain⟨x0,z0,q1,q2⟩:=hg i z hz
   rcases q2 with rfl|rfl
   ·exact h3 i _ u q1 hu
   ·exact z17 z0 (h3 i _ u q1 hu)
 ·rename_i y0 hx
  have hR:=Yx x hx hr
  split at h<;>simp only[p0,reduceCtorEq] at h
  subst h
  exact .imm _ _ (z17 _ hR)
 ·split at h<;>simp only[p0,reduceCtorEq] at h<;>(subst h;exact hr)
 ·cases h
theorem getElem?_set' {es:List (AVal×AVal)} {i j:Nat} {y z:AVal×AVal} (h:(es.set i y)[j]?=some z):(i=j∧z=y∧i<es.length)∨(i≠j∧es[j]?=some z):=by
 rw[List.getElem?_set] at h
 split at h
 ·split at h
  ·rename_i h1 h2;simp only[p0] at h;exact .inl ⟨h1,h.symm,by subst h1;exact h2⟩
  ·cases h
 ·rename_i h1;exact .inr ⟨h1,h⟩
theorem Vk{arr:Array MapEntry}{x:MapEntry}{j:Nat}{e:MapEntry}(h:(arr.push x)[j]?=some e):(j<arr.size∧arr[j]?=some e)∨(j=arr.size∧e=x):=by
 rw[Array.getElem?_push] at h
 split at h
 ·rename_i h1;simp only[p0] at h;exact .inr ⟨h1,h.symm⟩
 ·have:j<arr.size:=by
   rcases pD j arr.size with h'|h'
   ·exact h'
   ·rw[pK h'] at h;cases h
  exact .inl ⟨this,h⟩
theorem zrv(hI:Inv I β n H w){K:AVal→AHeap→Nat→Prop}{t kt et:TypeId}{ks:List CK}{ka g:Bool}{zs:List AVal}(ht:P.underlying t=some (.map kt et))(hks:Yp P 50 kt=some ks)(hka:Kv P kt=some ka)
 {b:Id} {vm vk vx:Value} {k x y:AVal} (hm:Rep I β n w (.map b) vm) (hk:Rep I β n w k vk) (hx:Rep I β n w x vx) (hy:zzg g zs x=some y) {es es':List (AVal×AVal)} (hg:H.get b=some (.amap es)) (hp:zxf ks k y es=some es') (hok:Ud ks ka k=true)
 (hki:k.imm=some k) (hK:K .any (H.set b (.amap es')) n):∃w',(Instr.mapUpdate t vm vk vx).run P w=.ok () w'∧∀v,Goes I β n H w K v w':=by
 obtain⟨c,hc,h1,h2,arr,ck,h3,h4⟩:=hI.blocks b _ hg
 have hv:vm=.map (some c.blk):=by
  cases hm with
  |imm _ _ h=>cases h
  |map _ q _ hq=>rw[hq c hc]
 subst hv
 obtain⟨hag,b0,hb0⟩:=Jg hok
 have hkc:=W0 hk
 rw[hag] at hkc
 have hck:=Vc (P:=P) (w:=w) (I:=I) (β:=β) (n:=n) false 50 kt ks hks 10000 (by omega) hka hkc b0 hb0
 obtain⟨p,hpl,hps⟩:=zc5 hp
 have hf:=Km hks hka hk hok (zr3 h4) hpl
 have hkI:RepI I w k vk:=by
  exact Yx k hki hk
 have hyI:=zue hy hx
 have fin:∀ {arr':Array MapEntry} {ck':Nat},MapIn I β n w es' arr' ck'→∀v,Goes I β n H w K v { w with heap:=w.heap.setIfInBounds c.blk (.map arr' ck') }:=by
  intro arr' ck' hin v
  obtain⟨g1,g2⟩:=zrg hI hg hc h1 h2 h3 hin
  exact⟨.any,_,_,_,_,hK,g1,.any v,g2⟩
 cases p with
 |none=>
  simp only at hps
  subst hps
  refine⟨_,?_,fin (arr':=arr.push { key:=vk,val:=vx,born:=ck }) (ck':=ck+1) ⟨by simp[h4.len],fun i k' x' e hi he=>?_,fun i j e e' hij hi hj=>?_,fun i e hi=>?_⟩⟩
  ·unfold Instr.mapUpdate
   simp only[pL,zd ht,pF,MapKept.run_getObj_map h3,hck,hf,Qj,Option.bind_none,MapKept.run_setObj_map _ h3]
  ·rcases Vk he with⟨g1,g2⟩|⟨g1,rfl⟩
   ·rw[List.getElem?_append_left (by rw[←h4.len];exact g1)] at hi
    exact h4.ent i k' x' e hi g2
   ·rw[g1,h4.len,List.getElem?_append_right (p9 _)] at hi
    simp only[Nat.sub_self,pH,p0,qD] at hi
    obtain⟨rfl,rfl⟩:=hi
    exact⟨hkI,hyI⟩
  ·rcases Vk hj with⟨g1,g2⟩|⟨g1,rfl⟩
   ·rcases Vk hi with⟨g3,g4⟩|⟨g3,rfl⟩
    ·exact h4.born i j e e' hij g4 g2
    ·omega
   ·rcases Vk hi with⟨g3,g4⟩|⟨g3,rfl⟩
    ·exact h4.clk i e g4
    ·omega
  ·rcases Vk hi with⟨g1,g2⟩|⟨g1,rfl⟩
   ·have:=h4.clk i e g2;omega
   ·exact pV ck
 |some i=>
  simp only at hps
  obtain⟨k',y',g1,g2,rfl⟩:=hps
  have hi:i<arr.size:=by rw[h4.len];exact z4m g1
  obtain⟨r1,r2⟩:=h4.ent i k' y' arr[i] g1 (pB hi)
  obtain⟨s1,s2⟩:=zll (P:=P) hok g2 hk r1
  have hmod:∀ (j:Nat),(arr.modify i fun e=>{ e with key:=vk,val:=vx })[j]?=if i=j then(arr[j]?).map (fun e=>{ e with key:=vk,val:=vx }) else arr[j]?:=fun j=>by rw[Array.getElem?_modify]
  refine⟨_,?_,fin (arr':=arr.modify i fun e=>{ e with key:=vk,val:=vx }) (ck':=ck) ⟨by simp[h4.len],fun j k2 x2 e hj he=>?_,fun j l e e' hjl hj hl=>?_,fun j e hj=>?_⟩⟩
  ·unfold Instr.mapUpdate
   simp only[pL,zd ht,pF,MapKept.run_getObj_map h3,hck,hf,Qj,Option.bind_some,pO,pB hi,pE,Nat.zero_add,Option.getD_some,s2,MapKept.run_setObj_map _ h3]
  ·rw[hmod] at he
   rcases getElem?_set' hj with⟨q1,q2,_⟩|⟨q1,q2⟩
   ·subst q1
    rw[if_pos rfl,pB hi] at he
    simp only[pE,p0] at he
    simp only[qD] at q2
    obtain⟨rfl,rfl⟩:=q2
    subst he
    exact⟨hkI,hyI⟩
   ·rw[if_neg q1] at he
    exact h4.ent j k2 x2 e q2 he
  ·have ob:∀ (j:Nat) (e:MapEntry),(arr.modify i fun e=>{ e with key:=vk,val:=vx })[j]?=some e→∃e0,arr[j]?=some e0∧e.born=e0.born:=by
    intro j e hj
    rw[hmod] at hj
    split at hj
    ·simp only[p8] at hj
     obtain⟨e0,q1,rfl⟩:=hj
     exact⟨e0,q1,rfl⟩
    ·exact⟨e,hj,rfl⟩
   obtain⟨e0,q1,q2⟩:=ob j e hj
   obtain⟨e1,q3,q4⟩:=ob l e' hl
   rw[q2,q4];exact h4.born j l e0 e1 hjl q1 q3
  ·rw[hmod] at hj
   split at hj
   ·simp only[p8] at hj
    obtain⟨e0,q1,rfl⟩:=hj
    exact h4.clk j e0 q1
   ·exact h4.clk j e hj
theorem zw6(hI:Inv I β n H w){K:AVal→AHeap→Nat→Prop}{t t2 rt kt et:TypeId}{ks:List CK}{ka:Bool}(ht:P.underlying t=some (.map kt et))(hks:Yp P 50 kt=some ks)(hka:Kv P kt=some ka)
 {b:Id} {vm vk:Value} {k:AVal} (hm:Rep I β n w (.map b) vm) (hk:Rep I β n w k vk) {es es':List (AVal×AVal)} (hg:H.get b=some (.amap es)) (hp:zej ks k es=some es') (hok:Ud ks ka k=true)
 (hK:K .any (H.set b (.amap es')) n):∃v w',(Builtin.delete_ #[t,t2] rt #[vm,vk]).run P w=.ok v w'∧Goes I β n H w K v w':=by
 obtain⟨c,hc,h1,h2,arr,ck,h3,h4⟩:=hI.blocks b _ hg
 have hv:vm=.map (some c.blk):=by
  cases hm with
  |imm _ _ h=>cases h
  |map _ q _ hq=>rw[hq c hc]
 subst hv
 obtain⟨hag,b0,hb0⟩:=Jg hok
 have hkc:=W0 hk
 rw[hag] at hkc
 have hck:=Vc (P:=P) (w:=w) (I:=I) (β:=β) (n:=n) arr.isEmpty 50 kt ks hks 10000 (by omega) hka hkc b0 hb0
 obtain⟨p,hpl,hps⟩:=z66 hp
 have hf:=Km hks hka hk hok (zr3 h4) hpl
 have fin:∀ {arr':Array MapEntry} {ck':Nat},MapIn I β n w es' arr' ck'→∀v,Goes I β n H w K v { w with heap:=w.heap.setIfInBounds c.blk (.map arr' ck') }:=by
  intro arr' ck' hin v
  obtain⟨g1,g2⟩:=zrg hI hg hc h1 h2 h3 hin
  exact⟨.any,_,_,_,_,hK,g1,.any v,g2⟩
 cases p with
 |none=>
  simp only at hps
  subst hps
  refine⟨_,_,?_,fin (arr':=arr) (ck':=ck) h4 (.tuple #[])⟩
  unfold Builtin.delete_
  simp only[qB,pH,pY,pL,zd ht,pF,MapKept.run_getObj_map h3,hck,hf,Qj,Option.bind_none,MapKept.run_setObj_map _ h3,pP]
 |some i=>
  simp only at hps
  obtain⟨rfl,hlt⟩:=hps
  have hi:i<arr.size:=by rw[h4.len];exact hlt
  have her:∀j,(arr.eraseIdxIfInBounds i)[j]?=if j<i then arr[j]? else arr[j+1]?:=by
   intro j
   rw[Array.eraseIdxIfInBounds,dif_pos hi,Array.getElem?_eraseIdx]
  have hel:∀j,(es.eraseIdx i)[j]?=if j<i then es[j]? else es[j+1]?:=fun j=>by rw[List.getElem?_eraseIdx]
  refine⟨_,_,?_,fin (arr':=arr.eraseIdxIfInBounds i) (ck':=ck) ⟨?_,fun j k2 x2 e hj he=>?_,fun j l e e' hjl hj hl=>?_,fun j e hj=>?_⟩ (.tuple #[])⟩
  ·unfold Builtin.delete_
   simp only[qB,pH,pY,pL,zd ht,pF,MapKept.run_getObj_map h3,hck,hf,Qj,Option.bind_some,pO,pB hi,pE,Nat.zero_add,MapKept.run_setObj_map _ h3,pP]
  ·rw[Array.eraseIdxIfInBounds,dif_pos hi,Array.size_eraseIdx,List.length_eraseIdx_of_lt hlt,h4.len]
  ·rw[hel] at hj
   rw[her] at he
   split at hj
   ·rename_i h;rw[if_pos h] at he;exact h4.ent j k2 x2 e hj he
   ·rename_i h;rw[if_neg h] at he;exact h4.ent (j+1) k2 x2 e hj he
  ·rw[her] at hj hl
   split at hj<;>split at hl
   ·exact h4.born _ _ _ _ (by omega) hj hl
   ·exact h4.born _ _ _ _ (by omega) hj hl
   ·omega
   ·exact h4.born _ _ _ _ (by omega) hj hl
  ·rw[her] at hj
   split at hj
   ·exact h4.clk _ _ hj
   ·exact h4.clk _ _ hj
theorem zsb(hI:Inv I β n H w){K:AVal→AHeap→Nat→Prop}{t:TypeId}(hK:K (.map (n,0)) (((n,0),.amap [])::H) (n+1)):∃v w',(Instr.makeMap t none).run P w=.ok v w'∧Goes I β n H w K v w':=by
 obtain⟨g1,g2⟩:=zkm hI
 refine⟨.map (some w.heap.size),w.alloc (.map #[] 0),?_,_,_,_,_,_,hK,g1,.map _ _ (pV n) (fun c hc=>?_),g2⟩
 ·rfl
 ·rw[we] at hc;simp only[p0] at hc;subst hc;rfl
theorem zj2:∀ {ks:List CK} {cs:List AVal} {b:Bool},qk ks cs cs=some b→AVal.imm.immL cs=some cs
 |[],[],_,_=>rfl
 |[],_::_,_,h=>by simp[qk] at h
 |_::_,[],_,h=>by simp[qk] at h
 |k::ks,y::ys,b,h=>by
  simp only[qk] at h
  split at h<;>try (cases h;done)
  rename_i a b' h1 h2
  have h3:=zj2 h2
  have:y.imm=some y:=by cases k<;>cases y<;>simp[U6] at h1<;>rfl
  simp only[AVal.imm.immL,this,h3]
theorem zpz{ks:List CK}{ka:Bool}{k:AVal}(h:Ud ks ka k=true):k.imm=some k:=by
 obtain⟨_,b,hb⟩:=Jg h
 have:=zj2 hb
 cases k with
 |agg cs=>simp only[ko] at this;simp only[AVal.imm,this,pE]
 |_=>
  simp only[ko,AVal.imm.immL] at this
  split at this<;>simp_all
end
end Go.Fx
namespace Go.Fx
variable {P:Program}
section
variable {I:Nat→Nat→Prop} {β:Id→Option CLoc} {n:Nat} {H:AHeap} {w:World} {e:Env} {a:Act}
theorem Ub(hI:Inv I β n H w){K:AVal→AHeap→Nat→Prop}{t u c rt:TypeId}{s:Nat}(ht:P.underlying t=some (.slice c))(hsz:vw P c=some s)(hs:0<s)
 {id:Id} {s' s'' off len:Nat} {f:Bool} {es:List (List AVal)} {y:AVal} {vx vy:Value} (hx:Rep I β n w (.msl id s' off len f) vx) (hy:Rep I β n w y vy) {p:Prop} {rows2:List (List AVal)} (hr:Jn H s y=some (p,rows2)) (hp:p)
 (hb:H.get id=some (.rows s'' es)) (e1:s'=s) (e2:s''=s) (hlen0:off+len≤es.length)
 (hk:K (.int .i64 ((min rows2.length len:Nat):Int)) (H.set id (.rows s (es.take off++rows2.take len++es.drop (off+min rows2.length len)))) n) :
 ∃v w',(Builtin.copy_ #[t,u] rt #[vx,vy]).run P w=.ok v w'∧Goes I β n H w K v w':=by
 subst e1
 subst e2
 obtain⟨hly,hread⟩:=Y4 (P:=P) hI hs hy hr hp
 obtain⟨a2,f2,f2s,f2c,f2r,_⟩:=hread (min rows2.length len) (Nat.min_le_left _ _)
 obtain⟨ad,cap,rfl,hcap,hfull,hnil⟩:=hx.msl_inv
 obtain⟨cl,hcl,hB⟩:=hI.blocks id _ hb
 obtain⟨hcs,pA,p3,plo,p4,p5,p6⟩:=hB
 have hmin:Nat.min rows2.length len=min rows2.length len:=rfl
 by_cases hm0:min rows2.length len=0
 ·-- nothing is copied
  have ha2:a2=#[]:=pN.1 (by rw[f2s,hm0,Nat.zero_mul])
  subst ha2
  have hes:es.take off++rows2.take len++es.drop (off+min rows2.length len)=es:=by
   have:rows2.take len=[]:=by
    rw[List.take_eq_nil_iff]
    rcases Nat.min_eq_zero_iff.1 hm0 with h|h
    ·exact .inr (pS.1 h)
    ·exact .inl h
   rw[this,hm0];simp
  rw[hes,hm0] at hk
  rw[hm0] at f2
  refine⟨.int .i64 0,w,?_,.int .i64 0,H.set id (.rows s'' es),n,I,β,hk,?_,.imm _ _ (.int _ _),?_⟩
  ·unfold Builtin.copy_
   simp only[qB,pH,pY,pL,zd ht,pF,xm hsz,hly,hmin,hm0,f2,storeCells]
   cases ad<;>rfl
  ·exact(z04 hI hb hcl (.refl w _) (p9 _) p5 p6).1
  ·exact(z04 hI hb hcl (.refl w _) (p9 _) p5 p6).2
 ·cases hx with
  |imm _ _ hx=>cases hx
  |msl _ _ _ _ _ _ _ hbn _ _ hpp=>
   obtain⟨_,hpp2⟩:=hpp cl hcl
   have hcz:cap≠0:=by
    have:min rows2.length len≤len:=Nat.min_le_right _ _
    omega
   obtain⟨r1,r2⟩:=hpp2 hcz
   obtain⟨arr,el,fr,p1,p2⟩:∃arr el fr,w.heap[cl.blk]?=some (.cells arr el fr)∧cl.size≤arr.size∧(cl.lo<cl.size→cl.lo=0∧cl.size=arr.size∧EndOk cl.s arr fr):=by
    rcases pA with pA|⟨_,z2,_⟩
    ·exact pA
    ·have:0<(off+cap)*s'':=Nat.mul_pos (by omega) hs
     omega
   subst r1
   have hle:min rows2.length len*s''≤len*s'':=qF _ (Nat.min_le_right _ _)
   have hle2:(off+len)*s''≤es.length*s'':=qF _ hlen0
   rw[qA] at hle2
   obtain⟨w',t1,t2,_,t4⟩:=Zw (P:=P) (vs:=a2.toList) (w:=w) (b:=cl.blk) (o:=cl.base+off*s'')
    (fun j hj=>by
     simp only[pQ,f2s] at hj
     have hlt:cl.base+off*s''+j<arr.size:=by omega
     exact⟨arr[cl.base+off*s''+j],by unfold World.cell?;simp[p1,hlt]⟩)
    (fun j hj=>by
     simp only[pQ,f2s] at hj
     exact p3 _ (by omega) (by omega)) f2c
   simp only[pQ,f2s] at t2 t4
   have hblk:cl.blk<w.heap.size:=by
    rcases pD cl.blk w.heap.size with h|h
    ·exact h
    ·rw[pK h] at p1;cases p1
   have t3:∀k,(k<cl.base+off*s''∨cl.base+off*s''+min rows2.length len*s''≤k)→w'.cell? ⟨cl.blk,k,none⟩=w.cell? ⟨cl.blk,k,none⟩:=fun k hk=>t2.cell cl.blk k hblk (fun h=>by omega)
   have htl:(rows2.take len).length=min rows2.length len:=by rw[List.length_take,Nat.min_comm]
   have hoff:(es.take off).length=off:=by rw[List.length_take];omega
   -- where a row of the new block lies
   have place:∀ (i:Nat) (r:List AVal),(es.take off++rows2.take len++es.drop (off+min rows2.length len))[i]?=some r →
    (i<off∨off+min rows2.length len≤i)∧es[i]?=some r∨(off≤i∧i<off+min rows2.length len)∧(rows2.take (min rows2.length len))[i-off]?=some r:=by
    intro i r hi
    rw[List.append_assoc,pT] at hi
    split at hi
    ·rename_i hlt
     rw[hoff] at hlt
     rw[qJ hlt] at hi
     exact .inl ⟨.inl hlt,hi⟩
    ·rename_i hge
     rw[hoff] at hge hi
     rw[pT] at hi
     split at hi
     ·rename_i hlt
      rw[htl] at hlt
      refine .inr ⟨by omega,?_⟩
      rw[qJ hlt,←hi,qJ (by have:=Nat.min_le_right rows2.length len;omega)]
     ·rename_i hge2
      rw[htl] at hge2 hi
      rw[List.getElem?_drop] at hi
      refine .inl ⟨.inr (by omega),?_⟩
      rw[←hi];congr 1;omega
   obtain⟨z1,z2⟩:=z04 hI hb hcl (t2.mono (fun b' k h=>⟨h.1.symm,by omega,by omega⟩)) (es':=es.take off++rows2.take len++es.drop (off+min rows2.length len))
    (by rw[pW,pW,hoff,htl,List.length_drop];have:=Nat.min_le_right rows2.length len;omega)
    (fun i r hi=>by
     rcases place i r hi with⟨_,h⟩|⟨_,h⟩
     ·exact p5 i r h
     ·exact f2r.2.1 _ r h)
    (fun i r j z hi hj=>by
     rcases place i r hi with⟨h1,h⟩|⟨h1,h⟩
     ·obtain⟨v,g1,g2,g3⟩:=p6 i r j z h hj
      have hjl:j<s'':=by
       have:=p5 _ r h
       rcases pD j r.length with h|h
       ·omega
       ·rw[pR h] at hj;cases hj
      refine⟨v,?_,g2,g3⟩
      rw[t3 _ ?_];exact g1
      rcases h1 with h1|h1
      ·have:(i+1)*s''≤off*s'':=qF _ h1
       rw[qA] at this
       left;omega
      ·have:(off+min rows2.length len)*s''≤i*s'':=qF _ h1
       rw[qA] at this
       right;omega
     ·obtain⟨v,g1,g2,g3⟩:=f2r.2.2 (i-off) r j z h hj
      have hlt:0+(i-off)*s''+j<a2.size:=by
       rcases pD (0+(i-off)*s''+j) a2.size with h|h
       ·exact h
       ·rw[pK h] at g1;cases g1
      have hh:=t4 ((i-off)*s''+j) (by omega)
      rw[pO,show(i-off)*s''+j=0+(i-off)*s''+j by omega,g1] at hh
      have e3:i*s''=off*s''+(i-off)*s'':=by rw[←qA];congr 1;omega
      exact⟨v,by rw[←hh];congr 2;omega,g2,g3⟩)
   refine⟨.int .i64 ((min rows2.length len:Nat):Int),w',?_,_,_,_,_,_,hk,z1,.imm _ _ (.int _ _),z2⟩
   unfold Builtin.copy_
   simp only[qB,pH,pY,pL,zd ht,pF,xm hsz,pP,hly,hmin,f2,t1]
   rfl
theorem zru{src d c:TypeId}(hs:P.underlying src=some .string)(hd:P.underlying d=some (.slice c))(hc:P.underlying c=some (.int .u8)){l:List UInt8} :
 ∃ (m:Nat) (w':World) (arr:Array Value),(convert src d (.string ⟨⟨l⟩⟩)).run P w=.ok (.slice (some ⟨w.heap.size,0,none⟩) l.length m) w'∧l.length≤m∧arr.size=m∧Pushed w w' (.cells arr c (arr.size,arr.size+1)) ∧
  RowsInI I w 1 0 (l.map fun c=>[.int .u8 (c.toNat:Int)]) arr:=by
 have esz:(⟨⟨l⟩⟩:ByteArray).size=l.length:=rfl
 let q:Question:=.appendCap l.length 0 c
 let m:=q.cut (w.tape w.drawn q)
 have hm:l.length≤m:=Nat.le_add_right _ _
 let wd:World:={ w with drawn:=w.drawn+1 }
 let arr:Array Value:=(⟨l⟩:Array UInt8).map (fun b=>Value.int .u8 (b.toNat:Int))++Array.replicate (m-l.length) (.int .u8 0)
 have hasz:arr.size=m:=by simp[arr];omega
 let w1:=wd.alloc (.cells arr c)
 let w':=w1.freeze ⟨w.heap.size,arr.size,none⟩ 1
 have hdraw:(choose (.appendCap l.length 0 c)).run P w=.ok m wd:=rfl
 have hblk:w1.heap[w.heap.size]?=some (.cells arr c):=by
  show(w.heap.push _)[w.heap.size]?=_
  simp
 have hshape:w1.shape? w.heap.size=some (c,arr.size):=by
  unfold World.shape?;rw[hblk]
 have hp:Pushed w w' (.cells arr c (arr.size,arr.size+1)):=by
  refine⟨rfl,⟨rfl,fun _=>qG _⟩,rfl,?_⟩
  show(World.freeze w1 _ 1).heap=_
  unfold World.freeze
  simp only[Nat.one_ne_zero,if_false]
  show(w.heap.push (.cells arr c)).modify w.heap.size _=w.heap.push _
  apply Array.ext_getElem?
  intro i
  rw[Array.getElem?_modify]
  by_cases h:w.heap.size=i
  ·subst h;simp
  ·rw[if_neg h,Array.getElem?_push,Array.getElem?_push,if_neg (fun h'=>h h'.symm),if_neg (fun h'=>h h'.symm)]
 have hrows:RowsInI I w 1 0 (l.map fun c=>[.int .u8 (c.toNat:Int)]) arr:=by
  refine⟨by simp[hasz];omega,?_,?_⟩
  ·intro i r hi
   rw[pG] at hi
   cases hl:l[i]? with
   |none=>rw[hl] at hi;cases hi
   |some b=>rw[hl] at hi;simp at hi;rw[←hi];rfl
  ·intro i r j x hi hj
   rw[pG] at hi
   cases hl:l[i]? with
   |none=>rw[hl] at hi;cases hi
   |some b=>
    rw[hl] at hi
    simp at hi
    subst hi
    cases j with
    |succ j=>simp at hj
    |zero=>
     simp at hj
     subst hj
     refine⟨.int .u8 (b.toNat:Int),?_,rfl,.int _ _⟩
     simp only[arr,Nat.zero_add,Nat.mul_one,pX]
     have hlt:i<l.length:=by
      rcases pD i l.length with h|h
      ·exact h
      ·rw[pR h] at hl;cases hl
     rw[Array.getElem?_append_left (by simpa using hlt),Array.getElem?_map]
     simp[hl]
 refine⟨m,w',arr,?_,hm,hasz,hp,hrows⟩
 simp only[convert,pL,zd hs,zd hd,zd hc,pF,Conv.stringToBytes,esz,hdraw,newRow,run_newObj,pP,World.alloc_eq,markStringish]
 have hw1:wd.alloc (.cells ((⟨l⟩:Array UInt8).map (fun b=>Value.int .u8 (b.toNat:Int))++Array.replicate (m-l.length) (.int .u8 0)) c)=w1:=rfl
 have hwd:wd.heap.size=w.heap.size:=rfl
 rw[hw1,hwd]
 simp only[run_shape,hshape,pF,run_freeze]
 rfl
theorem zz2(hI:Inv I β n H w){K:AVal→AHeap→Nat→Prop}{src d c:TypeId}(hs:P.underlying src=some .string)(hd:P.underlying d=some (.slice c))(hc:P.underlying c=some (.int .u8)){l:List UInt8}
 (hk:K (.msl (n,0) 1 0 l.length false) (((n,0),.rows 1 (l.map fun c=>[.int .u8 (c.toNat:Int)]))::H) (n+1)) :
 ∃v w',(convert src d (.string ⟨⟨l⟩⟩)).run P w=.ok v w'∧Goes I β n H w K v w':=by
 obtain⟨m,w',arr,h1,h2,h3,h4,h5⟩:=zru (P:=P) (w:=w) (I:=I) hs hd hc (l:=l)
 exact⟨_,w',h1,z2i hI h4 (fun k hk=>by simp;omega) EndOk.one h5.up hk (Ve _ h2 (fun h=>by cases h) (by rw[h3];omega))⟩
theorem zxc(hI:Inv I β n H w){K:AVal→AHeap→Nat→Prop}{src d c:TypeId}(hs:P.underlying src=some .string)(hd:P.underlying d=some (.slice c))(hc:P.underlying c=some (.int .u8)){l:List UInt8}
 (hk:K (.isl 1 (l.map fun c=>[.int .u8 (c.toNat:Int)]) false) H n) :
 ∃v w',(convert src d (.string ⟨⟨l⟩⟩)).run P w=.ok v w'∧Goes I β n H w K v w':=by
 obtain⟨m,w',arr,h1,h2,h3,h4,h5⟩:=zru (P:=P) (w:=w) (I:=I) hs hd hc (l:=l)
 obtain⟨I',β',g1,g2,_,g4,_⟩:=z8v (H2:=H) hI h4 (fun k hk=>by simp;omega) h5 false (fun _ _ h=>h)
 simp only[qK,if_false] at g1 g2
 refine⟨_,w',h1,_,_,_,_,_,hk,g1,.imm _ _ ?_,g2⟩
 have:=g4 m false (by simpa using h2) (fun h=>by cases h)
 simpa using this
theorem zjh(ns:List Int):∀ (s:ByteArray),ns.foldl (fun r n=>r.push (UInt8.ofNat n.toNat)) s=⟨⟨s.data.toList++ns.map fun n=>UInt8.ofNat n.toNat⟩⟩:=by
 induction ns with
 |nil=>intro s;simp
 |cons x ns ih=>intro s;rw[List.foldl_cons,ih];simp[ByteArray.push]
theorem zyr(hI:Inv I β n H w){K:AVal→AHeap→Nat→Prop}{src d c:TypeId}(hs:P.underlying src=some (.slice c))(hd:P.underlying d=some .string)(hc:P.underlying c=some (.int .u8)){x:AVal}{v:Value}(hx:Rep I β n w x v){p:Prop}{rows:List (List AVal)}(hr:Jn H 1 x=some (p,rows))(hp:p)
 (hns:∀l,x≠.str l) (hall:∀r∈rows,∃m,r=[.int .u8 m]) (hk:K (.str (rows.map z48)) H n) :
 ∃u w',(convert src d v).run P w=.ok u w'∧Goes I β n H w K u w':=by
 have refl:Ext I β n H w I β n H w:=Ext.refl _ _ _ _ _ hI.fresh
 obtain⟨hl,hread⟩:=Y4 (P:=P) hI (by omega) hx hr hp
 obtain⟨arr,f1,f2,f3,f4,_⟩:=hread rows.length (p9 _)
 rw[List.take_length] at f4
 have hv:∃ad len cap,v=.slice ad len cap:=by
  cases x<;>simp only[Jn] at hr<;>try (cases hr;done)
  case isl=>obtain⟨ad,cap,h,_⟩:=hx.isl_inv;exact⟨_,_,_,h⟩
  case osl=>obtain⟨ad,cap,h,_⟩:=hx.rd.isl_inv;exact⟨_,_,_,h⟩
  case msl=>obtain⟨ad,cap,h,_⟩:=hx.msl_inv;exact⟨_,_,_,h⟩
  case str=>exact absurd rfl (hns _)
  case val u=>
   split at hr<;>(try (rename_i heq;cases heq;done))<;>try (cases hr;done)
   rename_i heq
   cases heq
   exact⟨_,_,_,hx.val_inv⟩
 obtain⟨ad,len,cap,rfl⟩:=hv
 have hlen:len=rows.length:=by
  simp only[Builtin.lenOf,pP,Result.ok.injEq] at hl;exact hl.1
 subst hlen
 -- the numbers that lie there
 let ns:List Int:=rows.map fun r=>match r with|[.int _ m]=>m|_=>0
 have harr:arr=(ns.map (Value.int .u8)).toArray:=by
  apply Array.ext_getElem?
  intro i
  by_cases hlt:i<rows.length
  ·obtain⟨m,hm⟩:=hall rows[i] (List.getElem_mem hlt)
   obtain⟨v,g1,_,g3⟩:=f4.2.2 i rows[i] 0 (.int .u8 m) (p7 hlt) (by rw[hm];rfl)
   have:=g3.int_inv
   subst this
   simp only[Nat.zero_add,Nat.mul_one,pX] at g1
   rw[g1]
   simp[ns,hlt,hm]
  ·rw[pK (by omega),pK (by simp[ns];omega)]
 have hstr:ns.map (fun n=>UInt8.ofNat n.toNat)=rows.map z48:=by
  simp only[ns,List.map_map]
  apply pU
  intro r hr
  obtain⟨m,rfl⟩:=hall r hr
  rfl
 refine⟨.string ⟨⟨rows.map z48⟩⟩,w,?_,_,_,_,_,_,hk,hI,.imm _ _ (.str _),refl⟩
 rw[run_convert_bytes_string w src d c ad rows.length cap hs hc hd]
 cases ad with
 |none=>
  have h0:arr=#[]:=by
   simp only[Builtin.firstCells,pP,Result.ok.injEq] at f1;exact f1.1.symm
  have:rows=[]:=by
   have:arr.size=0:=by rw[h0];rfl
   exact pS.1 (by omega)
  subst this
  rfl
 |some ad=>
  rw[run_bytesToString w ad rows.length cap ns (by
   rw[←harr]
   simpa[Builtin.firstCells] using f1),zjh]
  simp[hstr]
theorem z54(hE:RepEnv I β n w e a){xs:Array Operand}{ys:List LOpd}(h:Qq xs.toList=some ys)(hn:Uc e ys) :
 (xs.map a.eval).toList.length=(evs e ys).length∧∀ (i:Nat) (y:AVal) (v:Value),(evs e ys)[i]?=some y→(xs.map a.eval).toList[i]?=some v→Rep I β n w y v:=by
 obtain⟨h1,h2⟩:=Q7 hE _ _ h hn
 rw[Array.toList_map]
 exact⟨h1,h2⟩
def wpR(P:Program)(o:Oper)(a:Act)(w:World)(next:Act→World→Prop)(Q:Exit→Act→World→Prop):Prop:=
 o.wp P a w next Q∨∃l fn tmps assign body,(execOp a.eval o).run P w=.ok (.round l fn tmps assign body) w∧RoundIn Fence.wide 0 P l fn tmps assign body w (fun e w'=>∃v,e=.returned v∧next (a.put o.dst v) w')
theorem Kt(hI:Inv I β n H w)(hE:RepEnv I β n w e a){vm:Bool}{o:Oper}{lo:LOp}(hl:j5 P vm o.op=some lo){K:AVal→AHeap→Nat→Prop}(h:Yf P e H n K lo){next:Act→World→Prop}{Q:Exit→Act→World→Prop}
 (hnext:∀v w',Goes I β n H w K v w'→next (a.put o.dst v) w'):wpR P o a w next Q:=by
 obtain⟨dst,op,type,pos,after,guard⟩:=o
 simp only at hl hnext
 by_cases hyield:∃x args l first caps,lo=.callv x args∧x.ev e=.fn (.yield l) first caps
 ·-- a round
  obtain⟨x',ys,l,first,caps,rfl,hev⟩:=hyield
  obtain⟨f,args,argTypes,rfl,hx,hys⟩:∃f args argTypes,op=.call { callee:=.value f,args:=args,argTypes:=argTypes }∧qd f=some x'∧Qq args.toList=some ys:=by
   clear h hnext hev
   cases op with
   |call c=>
    obtain⟨callee,args,argTypes⟩:=c
    cases callee with
    |value f=>
     simp only[j5] at hl
     unfold z15 at hl
     simp only at hl
     split at hl
     ·repeat' (split at hl<;>try (cases hl;done))
      simp only[p8] at hl
      obtain⟨_,_,hl⟩:=hl
      cases hl
     ·rename_i heq
      simp only[Callee.value.injEq] at heq
      subst heq
      split at hl<;>try (cases hl;done)
      simp only[p0,LOp.callv.injEq] at hl
      obtain⟨rfl,rfl⟩:=hl
      exact⟨_,_,_,rfl,by assumption,by assumption⟩
     ·rename_i heq;cases heq
     all_goals (rename_i heq;cases heq)
    |_=>
     exfalso
     simp only[j5] at hl
     unfold z15 at hl
     simp only at hl
     repeat' (split at hl<;>try (cases hl;done))
     all_goals (first|(simp only[p8] at hl;obtain⟨_,_,hl⟩:=hl;cases hl;done)|(rename_i heq _ _;cases heq;done)|(rename_i heq _ _ _ _ _;cases heq;done)|(rename_i heq _ _ _ _ _ _ _;cases heq;done)|skip)
     all_goals (first|(cases hl;done)|contradiction|(rename_i heq _ _ _ _ _ _ ;cases heq;done)|skip)
   |_=>
    exfalso
    simp only[j5] at hl
    try unfold z2c at hl
    repeat' (split at hl<;>try (cases hl;done))
    all_goals (first|(simp only[p8] at hl;obtain⟨_,_,hl⟩:=hl;cases hl;done)|(cases hl;done)|skip)
  simp only[Yf,hev] at h
  obtain⟨h1,h2,rfl,h3⟩:=h
  have hr:=yh hE hx h1
  rw[hev] at hr
  have hfn:∃fs cs:Array Value,a.eval f=.func (.yield l) fs cs∧fs.size=first.length∧cs.size=0∧(∀ (i:Nat) (x:AVal) (v:Value),first[i]?=some x→fs[i]?=some v→Rep I β n w x v):=by
   revert hr
   generalize a.eval f=fv
   intro hr
   cases hr with
   |fn _ _ _ fs cs h1 h2 h3 h4=>exact⟨fs,cs,rfl,h1,h2,h3⟩
   |imm _ _ hr=>
    cases hr with
    |fn _ _ _ fs cs h1 h2 h3 h4=>exact⟨fs,cs,rfl,h1,h2,fun i x v p q=>.imm _ _ (h3 i x v p q)⟩
  obtain⟨fs,cs,hf,k1,k2,k3⟩:=hfn
  obtain⟨g1,g2⟩:=z54 hE hys h2
  have hq:=h3.2 I β w (fs++args.map a.eval).toList hI (by simp only[Array.toList_append,pW,g1,pQ,k1,List.append_nil]) (fun i y v hy hv=>by
   simp only[Array.toList_append] at hv
   rw[List.append_nil] at hy
   rw[pT] at hy hv
   have hlb:fs.toList.length=first.length:=by simp[k1]
   rw[hlb] at hv
   split at hy
   ·rename_i hlt2
    rw[if_pos hlt2] at hv
    exact k3 i y v hy (by rw[←pO];exact hv)
   ·rename_i hlt2
    rw[if_neg hlt2] at hv
    exact g2 _ y v hy hv)
  obtain⟨fn,tmps,assign,body,q1,q2⟩:=hq
  refine .inr ⟨l,fn,tmps,assign,body,?_,q2.mono ?_⟩
  ·have:(execOp a.eval { dst:=dst,op:=.call { callee:=.value f,args:=args,argTypes:=argTypes },type:=type,pos:=pos,after:=after,guard:=guard }).run P w=(Instr.yield l (fs++args.map a.eval)).run P w:=by
    simp[execOp,resolve,hf,Deferred.ofValue,invoke]
   rw[this,←q1]
  ·rintro ee w' ⟨r,v,H',n',I',β',rfl,hK,hI',hr',hx'⟩
   exact⟨v,rfl,hnext v w' ⟨r,H',n',I',β',hK,hI',hr',hx'⟩⟩
 left
 have val:∀ {s:Sem Value},(∃v w',s.run P w=.ok v w'∧Goes I β n H w K v w')→execOp a.eval { dst:=dst,op:=op,type:=type,pos:=pos,after:=after,guard:=guard }=(do pure (.value (←s)):Sem Next) →
  Oper.wp P { dst:=dst,op:=op,type:=type,pos:=pos,after:=after,guard:=guard } a w next Q:=by
  intro s ⟨v,w',hr,hg⟩ he
  unfold Oper.wp
  rw[he,pL,hr]
  exact hnext v w' hg
 have call:∀ {f:FuncId} {args:List AVal} {vs:Array Value},ACalls P f args H n K→vs.toList.length=args.length→(∀ (i:Nat) (y:AVal) (v:Value),args[i]?=some y→vs.toList[i]?=some v→Rep I β n w y v) →
  (execOp a.eval { dst:=dst,op:=op,type:=type,pos:=pos,after:=after,guard:=guard }).run P w=(callFunc f vs).run P w →
  Oper.wp P { dst:=dst,op:=op,type:=type,pos:=pos,after:=after,guard:=guard } a w next Q:=by
  intro f args vs hc h1 h2 he
  obtain⟨⟨fn,g1,g2,g3⟩,hc⟩:=hc
  have hcall:(callFunc f vs).run P w=.ok (.enter f vs) w:=by
   unfold callFunc
   have g4:fn.body.isNone=false:=by cases hb:fn.body<;>simp[hb] at g2 ⊢
   simp only[pL,run_program,pF,g1,g3,g4,qK,if_false,pP]
  unfold Oper.wp
  rw[he,hcall,Oper.upon_enter]
  have:=hc I β w vs.toList hI h1 h2
  rw[Array.toArray_toList] at this
  refine this.mono fun ee w' ⟨r,v,H',n',I',β',he',hK,hI',hr',hx'⟩=>?_
  subst he'
  exact hnext v w' ⟨r,H',n',I',β',hK,hI',hr',hx'⟩
 cases op with
 |alloc t=>
  simp only[j5] at hl
  split at hl
  ·split at hl<;>try (cases hl;done)
   rename_i z s hz hs
   split at hl<;>try (cases hl;done)
   rename_i hc
   simp only[p0] at hl
   subst hl
   simp only[pI,beq_iff_eq] at hc
   exact val (zmk hI hz hc.2 h) rfl
  ·split at hl
   ·rename_i hb
    simp only[p0] at hl
    subst hl
    exact val (zro hI hb h) rfl
   ·rename_i zs _ hz
    simp only[p0] at hl
    subst hl
    exact val (zin hI hz h) rfl
   ·cases hl
  ·simp only[p8] at hl
   obtain⟨zs,hz,rfl⟩:=hl
   exact val (zin hI hz h) rfl
 |box t x=>
  simp only[j5,p8] at hl
  obtain⟨x',hx',rfl⟩:=hl
  simp only[Yf] at h
  split at h<;>try (exact h.elim)
  rename_i cs hc
  exact val (zyl hI (yh hE hx' h.1) hc h.2) rfl
 |buildSlice t len parts=>
  simp only[j5] at hl
  split at hl<;>try (cases hl;done)
  rename_i c ht
  split at hl<;>try (cases hl;done)
  rename_i z s l hz hsz hpl
  split at hl<;>try (cases hl;done)
  rename_i hcond
  simp only[pI,decide_eq_true_eq] at hcond
  simp only[p0] at hl
  subst hl
  simp only[Yf] at h
  split at h<;>try (exact h.elim)
  rename_i p rows hm
  cases vm with
  |false=>
   obtain⟨h1,h2,h3,h4⟩:=h
   obtain⟨arr',k1,k2,k3,k4⟩:=z8d (P:=P) hI hE ht hz hsz hpl hcond.1 hcond.2 h1 h2 hm h3
   obtain⟨rs,hrs,h4⟩:=h4
   rcases hrs with rfl|rfl
   ·exact val ⟨_,_,k1,zq6 hI k2 (z1m k4 _) h4⟩ rfl
   ·exact val ⟨_,_,k1,zq6 hI k2 k4 h4⟩ rfl
  |true=>
   simp only at h
   split at h<;>try (exact h.elim)
   rename_i rows' hi
   obtain⟨h1,h2,h3,h4⟩:=h
   obtain⟨arr',k1,k2,k3,k4⟩:=z8d (P:=P) hI hE ht hz hsz hpl hcond.1 hcond.2 h1 h2 hm h3
   exact val ⟨_,_,k1,zgy hI k4 k3 hi h4⟩ rfl
 |store t x y=>
  simp only[j5] at hl
  split at hl<;>try (cases hl;done)
  rename_i m x' y' hm hx hy
  simp only[p0] at hl
  subst hl
  simp only[Yf] at h
  split at h<;>try (exact h.elim)
  rename_i b i off cs hev hc
  have key:∃w',(Instr.storeAt t (a.eval x) (a.eval y)).run P w=.ok () w'∧Goes I β n H w K undef w':=by
   split at h<;>try (exact h.elim)
   ·rename_i s es hb
    obtain⟨h1,h2,h3,h4,h5,h6⟩:=h
    have hrx:=yh hE hx h1
    rw[hev] at hrx
    exact zig (P:=P) hI hm hrx (yh hE hy h2) hc hb h3 h4 h5 h6
   ·rename_i rs hb
    obtain⟨h1,h2,h3,rfl,h5,h6⟩:=h
    have hrx:=yh hE hx h1
    rw[hev] at hrx
    exact zfp (P:=P) hI hm hrx (yh hE hy h2) hc hb h3 h5 h6
  obtain⟨w',r1,r2⟩:=key
  unfold Oper.wp
  have he:(execOp a.eval { dst:=dst,op:=.store t x y,type:=type,pos:=pos,after:=after,guard:=guard }).run P w=.ok .skip w':=by
   simp only[execOp,pL,r1,pF,pP]
  rw[he,Oper.upon_skip]
  exact hnext undef w' r2
 |mapUpdate t m k x=>
  simp only[j5] at hl
  unfold z2c at hl
  split at hl<;>try (cases hl;done)
  rename_i kt et ht
  split at hl<;>try (cases hl;done)
  rename_i ks ka g zs hks hka hg hz
  split at hl<;>try (cases hl;done)
  split at hl<;>try (cases hl;done)
  rename_i m' k' x' hm hk hx
  simp only[p0] at hl
  subst hl
  simp only[Yf] at h
  split at h<;>try (exact h.elim)
  rename_i b y hev hy
  split at h<;>try (exact h.elim)
  rename_i es hb
  split at h<;>try (exact h.elim)
  rename_i es' hp
  obtain⟨h1,h2,h3,h4,h5⟩:=h
  have hrm:=yh hE hm h1
  rw[hev] at hrm
  obtain⟨w',r1,r2⟩:=zrv (P:=P) hI ht hks hka hrm (yh hE hk h2) (yh hE hx h3) hy hb hp h4 (zpz h4) h5
  unfold Oper.wp
  have he:(execOp a.eval { dst:=dst,op:=.mapUpdate t m k x,type:=type,pos:=pos,after:=after,guard:=guard }).run P w=.ok .skip w':=by
   simp only[execOp,pL,r1,pF,pP]
  rw[he,Oper.upon_skip]
  exact hnext undef w' (r2 undef)
 |insert t m k x=>
  simp only[j5] at hl
  unfold z2c at hl
  split at hl<;>try (cases hl;done)
  rename_i kt et ht
  split at hl<;>try (cases hl;done)
  rename_i ks ka g zs hks hka hg hz
  split at hl<;>try (cases hl;done)
  split at hl<;>try (cases hl;done)
  rename_i m' k' x' hm hk hx
  simp only[p0] at hl
  subst hl
  simp only[Yf] at h
  split at h<;>try (exact h.elim)
  rename_i b y hev hy
  split at h<;>try (exact h.elim)
  rename_i es hb
  split at h<;>try (exact h.elim)
  rename_i es' hp
  obtain⟨h1,h2,h3,h4,h5⟩:=h
  have hrm:=yh hE hm h1
  rw[hev] at hrm
  obtain⟨w',r1,r2⟩:=zrv (P:=P) hI ht hks hka hrm (yh hE hk h2) (yh hE hx h3) hy hb hp h4 (zpz h4) h5
  unfold Oper.wp
  have he:(execOp a.eval { dst:=dst,op:=.insert t m k x,type:=type,pos:=pos,after:=after,guard:=guard }).run P w=.ok .skip w':=by
   simp only[execOp,pL,r1,pF,pP]
  rw[he,Oper.upon_skip]
  exact hnext undef w' (r2 undef)
 |makeMap t r=>
  simp only[j5] at hl
  split at hl<;>try (cases hl;done)
  simp only[p0] at hl
  subst hl
  exact val (zsb hI h) rfl
 |range t x=>
  simp only[j5] at hl
  split at hl<;>try (cases hl;done)
  rename_i kt et ht
  simp only[p8] at hl
  obtain⟨x',hx',rfl⟩:=hl
  simp only[Yf] at h
  split at h
  ·rename_i b hev
   split at h<;>try (exact h.elim)
   rename_i es hg
   have hr:=yh hE hx' h.1
   rw[hev] at hr
   exact val (zsa hI ht hr hg h.2) rfl
  ·rename_i hev
   have hr:=yh hE hx' h.1
   rw[hev] at hr
   refine val (s:=Instr.range t (a.eval x)) ?_ rfl
   rw[hr.val_inv]
   exact zlq hI ht h.2
  ·exact h.elim
 |next x s=>
  cases s with
  |true=>simp[j5] at hl
  |false=>
   simp only[j5,p8] at hl
   obtain⟨x',hx',rfl⟩:=hl
   simp only[Yf] at h
   split at h<;>try (exact h.elim)
   rename_i i hev
   split at h
   ·rename_i arr ck seen hi
    have hr:=yh hE hx' h.1
    rw[hev] at hr
    exact val (zt3 hI hr hi h.2) rfl
   ·rename_i b arr ck seen hi
    split at h<;>try (exact h.elim)
    rename_i es arr' ck' hb
    obtain⟨h1,rfl,rfl,h4,h5⟩:=h
    have hr:=yh hE hx' h1
    rw[hev] at hr
    exact val (zw5 hI hr hi hb h4 h5) rfl
   ·exact h.elim
 |entry x=>
  simp only[j5,p8] at hl
  obtain⟨x',hx',rfl⟩:=hl
  simp only[Yf] at h
  split at h<;>try (exact h.elim)
  rename_i i hev
  split at h<;>try (exact h.elim)
  rename_i b arr ck j seen hi
  split at h<;>try (exact h.elim)
  rename_i es arr' ck' hb
  obtain⟨h1,rfl,rfl,p,h4,h5⟩:=h
  have hr:=yh hE hx' h1
  rw[hev] at hr
  exact val (zt0 hI hr hi hb h4 h5) rfl
 |convert src d x=>
  simp only[j5] at hl
  split at hl<;>try (cases hl;done)
  rename_i k x' hk hx
  simp only[p0] at hl
  subst hl
  cases k with
  |int k=>exact h.elim
  |same=>exact h.elim
  |s2b vm'=>
   simp only[Yf] at h
   split at h<;>try (exact h.elim)
   rename_i l hev
   have hn1:x'.need e:=by cases vm'<;>exact h.1
   have hr:=yh hE hx hn1
   rw[hev] at hr
   have hv:=hr.str_inv
   have hu:∃c,P.underlying src=some .string∧P.underlying d=some (.slice c)∧P.underlying c=some (.int .u8):=by
    unfold z50 at hk
    split at hk<;>simp_all
    all_goals (split at hk<;>simp_all)
   obtain⟨c,hu1,hu2,hu3⟩:=hu
   refine val (s:=convert src d (a.eval x)) ?_ rfl
   rw[hv]
   cases vm' with
   |true=>exact zxc hI hu1 hu2 hu3 h.2
   |false=>exact zz2 hI hu1 hu2 hu3 h.2
  |b2s=>
   simp only[Yf] at h
   split at h<;>try (exact h.elim)
   rename_i p rows hro
   obtain⟨h1,h2,h3,h4,h5⟩:=h
   have hu:∃c,P.underlying src=some (.slice c)∧P.underlying d=some .string∧P.underlying c=some (.int .u8):=by
    unfold z50 at hk
    split at hk<;>simp_all
    all_goals (split at hk<;>simp_all)
   obtain⟨c,hu1,hu2,hu3⟩:=hu
   exact val (s:=convert src d (a.eval x)) (zyr hI hu1 hu2 hu3 (yh hE hx h1) hro h3 h2 h4 h5) rfl
 |makeSlice t l c=>
  simp only[j5] at hl
  split at hl<;>try (cases hl;done)
  rename_i el ht
  split at hl<;>try (cases hl;done)
  rename_i z s b l' c' hz hsz hby hl' hc'
  split at hl<;>try (cases hl;done)
  rename_i hcond
  simp only[pI,decide_eq_true_eq] at hcond
  simp only[p0] at hl
  subst hl
  simp only[Yf] at h
  split at h<;>try (exact h.elim)
  rename_i lv cv hlv hcv
  cases vm with
  |false=>
   obtain⟨h1,h2,h3,h4,h5,h6⟩:=h
   have r1:=yh hE hl' h1
   rw[hlv] at r1
   have r2:=yh hE hc' h2
   rw[hcv] at r2
   refine val (s:=Instr.makeSlice t (a.eval l) (a.eval c)) ?_ rfl
   rw[r1.int_inv,r2.int_inv]
   obtain⟨arr,k1,k2,k3⟩:=z3h (P:=P) (w:=w) (I:=I) (β:=β) (n:=n) ht hz hsz hby hcond.1 hcond.2 h3 h4 h5
   obtain⟨rows,h7|h7,h6⟩:=h6
   ·subst h7
    exact⟨_,_,k1,z6c hI h4 k2 (by have kk:=z1m (es:=List.replicate _ _) k3 z;rwa [List.map_replicate] at kk) h6⟩
   ·subst h7
    exact⟨_,_,k1,z6c hI h4 k2 k3 h6⟩
  |true=>
   obtain⟨h1,h2,h3,h4,h5,h6⟩:=h
   have r1:=yh hE hl' h1
   rw[hlv] at r1
   have r2:=yh hE hc' h2
   rw[hcv] at r2
   subst h3
   refine val (s:=Instr.makeSlice t (a.eval l) (a.eval c)) ?_ rfl
   rw[r1.int_inv,r2.int_inv]
   obtain⟨arr,k1,k2,k3⟩:=z3h (P:=P) (w:=w) (I:=I) (β:=β) (n:=n) ht hz hsz hby hcond.1 hcond.2 (Int.le_refl 0) h4 h5
   exact⟨_,_,k1,zfq hI k2 h6⟩
 |call c=>
  obtain⟨callee,args,argTypes⟩:=c
  simp only[j5] at hl
  unfold z15 at hl
  cases callee with
  |value f=>
   simp only at hl
   split at hl
   ·rename_i fid heq
    simp only[Callee.value.injEq] at heq
    subst heq
    split at hl<;>try (cases hl;done)
    split at hl<;>try (cases hl;done)
    simp only[p8] at hl
    obtain⟨ys,hys,rfl⟩:=hl
    simp only[Yf] at h
    obtain⟨h1,h2⟩:=z54 hE hys h.1
    refine call h.2 h1 h2 ?_
    simp[execOp,resolve,Act.eval,Deferred.ofValue,invoke]
   ·rename_i g hne heq
    simp only[Callee.value.injEq] at heq
    subst heq
    split at hl<;>try (cases hl;done)
    rename_i x' ys hx hys
    simp only[p0] at hl
    subst hl
    simp only[Yf] at h
    split at h<;>try (exact h.elim)
    rename_i fid first caps hev
    obtain⟨h1,h2,h3⟩:=h
    obtain⟨fid,rfl⟩:∃g,fid=.func g:=by
     cases fid with
     |func g=>exact⟨g,rfl⟩
     |yield l=>exact absurd ⟨x',ys,l,first,caps,rfl,hev⟩ hyield
     |_=>exact h3.2.1.elim
    have hr:=yh hE hx h1
    rw[hev] at hr
    have hfn:∃fs cs:Array Value,a.eval f=.func (.func fid) fs cs∧fs.size=first.length∧cs.size=caps.length∧(∀ (i:Nat) (x:AVal) (v:Value),first[i]?=some x→fs[i]?=some v→Rep I β n w x v)∧(∀ (i:Nat) (x:AVal) (v:Value),caps[i]?=some x→cs[i]?=some v→Rep I β n w x v):=by
     revert hr
     generalize a.eval f=fv
     intro hr
     cases hr with
     |fn _ _ _ fs cs h1 h2 h3 h4=>exact⟨fs,cs,rfl,h1,h2,h3,h4⟩
     |imm _ _ hr=>
      cases hr with
      |fn _ _ _ fs cs h1 h2 h3 h4=>exact⟨fs,cs,rfl,h1,h2,fun i x v p q=>.imm _ _ (h3 i x v p q),fun i x v p q=>.imm _ _ (h4 i x v p q)⟩
    obtain⟨fs,cs,hf,k1,k2,k3,k4⟩:=hfn
    obtain⟨g1,g2⟩:=z54 hE hys h2
    refine call (vs:=fs++args.map a.eval++cs) h3 (by simp only[Array.toList_append,pW,g1,pQ,k1,k2]) ?_ ?_
    ·intro i y v hy hv
     simp only[Array.toList_append] at hv
     rw[pT] at hy hv
     have hla:(fs.toList++(args.map a.eval).toList).length=(first++evs e ys).length:=by simp only[pW,g1,pQ,k1]
     rw[hla] at hv
     split at hy
     ·rename_i hlt
      rw[if_pos hlt] at hv
      rw[pT] at hy hv
      have hlb:fs.toList.length=first.length:=by simp[k1]
      rw[hlb] at hv
      split at hy
      ·rename_i hlt2
       rw[if_pos hlt2] at hv
       exact k3 i y v hy (by rw[←pO];exact hv)
      ·rename_i hlt2
       rw[if_neg hlt2] at hv
       exact g2 _ y v hy hv
     ·rename_i hlt
      rw[if_neg hlt] at hv
      exact k4 _ y v hy (by rw[←pO];exact hv)
    ·simp[execOp,resolve,hf,Deferred.ofValue,invoke]
   ·rename_i heq;cases heq
   all_goals (rename_i heq;cases heq)
  |invoke _ _=>cases hl
  |builtin bi=>
   cases bi<;>simp only at hl<;>try (cases hl;done)
   case len=>
    split at hl<;>try (cases hl;done)
    split at hl<;>try (cases hl;done)
    all_goals
     simp only[p8] at hl
     obtain⟨_,_,rfl⟩:=hl
     exact h.elim
   case delete=>
    split at hl<;>try (cases hl;done)
    rename_i x y t t2 hargs htys
    have hx:args=#[x,y]:=by cases args;simp_all
    have hty:argTypes=#[t,t2]:=by cases argTypes;simp_all
    subst hx;subst hty
    split at hl<;>try (cases hl;done)
    rename_i kt et ht
    split at hl<;>try (cases hl;done)
    rename_i ks ka x' y' hks hka hx hy
    simp only[p0] at hl
    subst hl
    simp only[Yf] at h
    split at h<;>try (exact h.elim)
    rename_i b hev
    split at h<;>try (exact h.elim)
    rename_i es hb
    split at h<;>try (exact h.elim)
    rename_i es' hp
    obtain⟨h1,h2,h3,h4⟩:=h
    have hrx:=yh hE hx h1
    rw[hev] at hrx
    refine val (s:=Builtin.delete_ #[t,t2] type (#[x,y].map a.eval)) ?_ rfl
    have e1:(#[x,y]:Array Operand).map a.eval=#[a.eval x,a.eval y]:=by simp
    rw[e1]
    exact zw6 hI ht hks hka hrx (yh hE hy h2) hb hp h3 h4
   case max=>simp only[p8] at hl;obtain⟨_,_,rfl⟩:=hl;exact h.elim
   case min=>simp only[p8] at hl;obtain⟨_,_,rfl⟩:=hl;exact h.elim
   case append=>
    split at hl<;>try (cases hl;done)
    rename_i x y t u hargs htys
    have hx:args=#[x,y]:=by cases args;simp_all
    have hty:argTypes=#[t,u]:=by cases argTypes;simp_all
    subst hx;subst hty
    split at hl<;>try (cases hl;done)
    all_goals
     rename_i c _ ht hu
     split at hl<;>try (cases hl;done)
     rename_i s b x' y' hsz hby hx hy
     split at hl<;>try (cases hl;done)
     rename_i hcond
     simp only[pI,decide_eq_true_eq] at hcond
     obtain⟨⟨hs,hb⟩,hz⟩:=hcond
     obtain⟨zs,hz⟩:=Option.isSome_iff_exists.1 hz
     simp only[p0] at hl
     subst hl
     simp only[Yf] at h
     split at h<;>try (exact h.elim)
     rename_i p rows2 hro
     refine val (s:=Builtin.append_ #[t,u] type (#[x,y].map a.eval)) ?_ rfl
     have e1:(#[x,y]:Array Operand).map a.eval=#[a.eval x,a.eval y]:=by simp
     rw[e1]
     cases vm with
     |false=>
      obtain⟨h1,h2,h3,h4⟩:=h
      first
       |exact zoo hI ht (.inl ⟨_,hu⟩) hz hsz hby hs hb (yh hE hx h1) (yh hE hy h2) hro h3 h4
       |exact zoo hI ht (.inr hu) hz hsz hby hs hb (yh hE hx h1) (yh hE hy h2) hro h3 h4
     |true=>
      simp only at h
      split at h<;>try (exact h.elim)
      rename_i rows2' him
      obtain⟨h1,h2,h3,h4⟩:=h
      first
       |exact zoi hI ht (.inl ⟨_,hu⟩) hz hsz hby hs hb (yh hE hx h1) (yh hE hy h2) hro h3 him h4
       |exact zoi hI ht (.inr hu) hz hsz hby hs hb (yh hE hx h1) (yh hE hy h2) hro h3 him h4
   case copy=>
    split at hl<;>try (cases hl;done)
    rename_i x y t u hargs htys
    have hx:args=#[x,y]:=by cases args;simp_all
    have hty:argTypes=#[t,u]:=by cases argTypes;simp_all
    subst hx;subst hty
    split at hl<;>try (cases hl;done)
    rename_i c ht
    split at hl<;>try (cases hl;done)
    rename_i s x' y' hsz hx hy
    split at hl<;>try (cases hl;done)
    rename_i hs
    simp only[p0] at hl
    subst hl
    simp only[Yf] at h
    split at h<;>try (exact h.elim)
    rename_i b s' off len f p rows2 hev hro
    split at h<;>try (exact h.elim)
    rename_i s'' es hb
    obtain⟨h1,h2,h3,h4,h5,h6,h7⟩:=h
    have hrx:=yh hE hx h1
    rw[hev] at hrx
    refine val (s:=Builtin.copy_ #[t,u] type (#[x,y].map a.eval)) ?_ rfl
    have e1:(#[x,y]:Array Operand).map a.eval=#[a.eval x,a.eval y]:=by simp
    rw[e1]
    exact Ub hI ht hsz hs hrx (yh hE hy h2) hro h3 hb h4 h5 h6 h7
 |move _=>simp only[j5,p8] at hl;obtain⟨_,_,rfl⟩:=hl;exact h.elim
 |lookup _ _ _ _=>simp only[j5] at hl;split at hl<;>try (cases hl;done)
                  split at hl<;>try (cases hl;done)
                  split at hl<;>cases hl;exact h.elim
 |assign _=>simp only[j5,p8] at hl;obtain⟨_,_,rfl⟩:=hl;exact h.elim
 |nilCheck _=>simp only[j5,p8] at hl;obtain⟨_,_,rfl⟩:=hl;exact h.elim
 |unOp _ _ _=>simp only[j5,p8] at hl;obtain⟨_,_,rfl⟩:=hl;exact h.elim
 |extract _ _=>simp only[j5,p8] at hl;obtain⟨_,_,rfl⟩:=hl;exact h.elim
 |pick _ _ _=>simp only[j5] at hl;split at hl<;>cases hl;exact h.elim
 |makeFunc _ _ _=>simp only[j5] at hl;split at hl<;>cases hl;exact h.elim
 |load _ _=>simp only[j5] at hl;split at hl<;>try (cases hl;done)
            split at hl<;>cases hl;exact h.elim
 |binOp _ _ _ _ _=>simp only[j5] at hl;split at hl<;>try (cases hl;done)
                   split at hl<;>cases hl<;>exact h.elim
 |build _ _=>simp only[j5] at hl;split at hl<;>try (cases hl;done)
             ·split at hl<;>try (cases hl;done)
              split at hl<;>cases hl;exact h.elim
             ·split at hl<;>try (cases hl;done)
              simp only[p8] at hl;obtain⟨_,_,rfl⟩:=hl;exact h.elim
 |slice _ _ _ _ _=>simp only[j5] at hl;split at hl<;>try (cases hl;done)
                   split at hl<;>try (cases hl;done)
                   ·cases hl;exact h.elim
                   ·split at hl<;>try (cases hl;done)
                    simp only[p8] at hl;obtain⟨_,_,rfl⟩:=hl;exact h.elim
                   ·split at hl<;>try (cases hl;done)
                    simp only[p8] at hl;obtain⟨_,_,rfl⟩:=hl;exact h.elim
 |fieldAddr _ _ _=>simp only[j5] at hl;split at hl<;>try (cases hl;done)
                   split at hl<;>try (cases hl;done)
                   split at hl<;>try (cases hl;done)
                   split at hl<;>cases hl;exact h.elim
 |field _ _ _=>simp only[j5] at hl;split at hl<;>try (cases hl;done)
               split at hl<;>try (cases hl;done)
               split at hl<;>try (cases hl;done)
               split at hl<;>cases hl;exact h.elim
 |indexAddr _ _ _=>simp only[j5] at hl;split at hl<;>try (cases hl;done)
                   all_goals (simp only[p8] at hl;obtain⟨_,_,rfl⟩:=hl;first|exact h.elim|(split at h<;>exact h.elim))
 |index _ _ _=>simp only[j5] at hl;split at hl<;>try (cases hl;done)
               ·cases hl;exact h.elim
               ·split at hl<;>try (cases hl;done)
                split at hl<;>cases hl;exact h.elim
 |_=>cases hl
end
end Go.Fx
namespace Go.Fx
def z34(ro:Option Nat):Fence:={ Fence.wide with round:=ro }
theorem zp9{ro:Option Nat}{m:Nat}{P:Program}{f:FuncId}{args:Array Value}{w:World}{R:Ending→World→Prop}:CallsIn (z34 ro) m P f args w R↔Calls P f args w R:=by
 cases ro with
 |none=>exact callsIn_wide
 |some l=>exact callsIn_wide (n:=m)
theorem y0h{ro:Option Nat}{m:Nat}{P:Program}{row:String}{args:Array Value}{w:World}{R:Value→World→Prop}(h:Rows P row args w R):_root_.Go.RowsIn (z34 ro) m P row args w R:=by
 intro c cs _
 obtain⟨v,w',h1,h2⟩:=h c cs
 exact⟨v,w',h1,(stepsIn_wide (P:=P)).2 h2⟩
theorem Ki{P:Program}{ro:Option Nat}{o:Oper}{a:Act}{w:World}{K:Act→World→Prop}{Q:Exit→Act→World→Prop}(hd:∀c,o.op≠.defer c)(h:o.wp P a w K Q):o.wpIn (z34 ro) 0 P a w K Q:=by
 refine⟨fun _ _=>trivial,?_⟩
 rw[Oper.semAt_eq _ _ _ hd]
 unfold Oper.wp at h
 revert h
 generalize (execOp a.eval o).run P w=r
 intro h
 have hdep:(z34 ro).depth.isSome=true→1≤0:=fun h=>by cases h
 cases r with
 |ok x w'=>
  cases x with
  |value v=>exact h
  |skip=>exact h
  |defer d=>exact h
  |enter f args=>exact⟨hdep,zp9.2 h⟩
  |row row args=>exact⟨hdep,y0h h⟩
  |_=>exact h.elim
 |halt x w'=>
  cases x with
  |panic v=>exact h
  |_=>exact h.elim
theorem zw8{ro:Option Nat}{m l:Nat}{P:Program}{f:FuncId}{tmps:Array Value}{assign body:Code}{w:World}{R:Ending→World→Prop}(h:RoundIn Fence.wide 0 P l f tmps assign body w R):RoundIn (z34 ro) m P l f tmps assign body w R:=by
 exact⟨trivial,fun c cs _=>h.2 c cs (room_wide _)⟩
theorem V4{P:Program}{ro:Option Nat}{o:Oper}{a:Act}{w:World}{K:Act→World→Prop}{Q:Exit→Act→World→Prop}(hd:∀c,o.op≠.defer c)(h:wpR P o a w K Q):o.wpIn (z34 ro) 0 P a w K Q:=by
 rcases h with h|⟨l,fn,tmps,assign,body,h1,h2⟩
 ·exact Ki hd h
 ·refine⟨fun _ _=>trivial,?_⟩
  rw[Oper.semAt_eq _ _ _ hd,h1,Oper.uponIn_round]
  refine⟨fun h=>(by cases h),zw8 (h2.mono ?_)⟩
  rintro e w' ⟨v,rfl,h3⟩
  exact h3
def zld(P:Program)(d:Deferred):Prop:=∀w:World,∃fv cap f args,d.target=.fn fv cap∧(invoke d.target d.args).run P w=.ok (.enter f args) w ∧
 CallsDIn Fence.wide 0 P f args .returning w (fun e u' w'=>(∃v,e=.returned v)∧u'=.returning∧w'=w)
def zy3(P:Program)(f:FuncId):Prop:=∀caps:Array Value,zld P { target:=.fn (.func f) caps,args:=#[] }
def MarkD(k:Nat)(w:World)(d:Deferred):Prop:=∃r,d={ target:=.collected r,args:=#[] }∧k≤r∧w.heap[r]?=some (.deferred (some []))
theorem MarkD.busy{P:Program}{k:Nat}{w:World}{d:Deferred}(h:MarkD k w d):¬zld P d:=by
 obtain⟨r,rfl,_⟩:=h
 intro h
 obtain⟨_,_,_,_,h,_⟩:=h w
 cases h
def Dfr(P:Program)(k:Nat)(w:World)(ds:List Deferred):Prop:=ds.Pairwise (fun a b=>a≠b∨zld P a)∧∀d∈ds,zld P d∨MarkD k w d
theorem Dfr.idle{P:Program}{k:Nat}{w:World}{ds:List Deferred}{d:Deferred}(h:Dfr P k w ds)(hd:zld P d):Dfr P k w (d::ds):=
 ⟨List.pairwise_cons.2 ⟨fun _ _=>.inr hd,h.1⟩,fun x hx=>by
  rcases q9.1 hx with rfl|hx
  ·exact .inl hd
  ·exact h.2 x hx⟩
theorem Dfr.nil(P:Program)(k:Nat)(w:World):Dfr P k w []:=⟨.nil,fun _ h=>by cases h⟩
theorem ze9{I:Nat→Nat→Prop}{β:Id→Option CLoc}{n:Nat}{w:World}{c:CLoc}{b:ABlock}{r:Nat}{ds:Option (List Deferred)}(hB:RepB I β n w c b)(h3:w.heap[r]?=some (.deferred ds)):∀k,¬c.has r k:=by
 intro q hk
 have e:c.blk=r:=hk.1
 cases b with
 |rows s es=>
  obtain⟨_,⟨arr,el,fr,h,_⟩|⟨_,z,_⟩,_⟩:=hB
  ·rw[e,h3] at h;cases h
  ·have:=hk.2.2;omega
 |one cs=>
  obtain⟨_,⟨arr,el,fr,h,_⟩|⟨_,_,z⟩,_⟩:=hB
  ·rw[e,h3] at h;cases h
  ·cases z
 |amap es=>obtain⟨_,_,arr,ck,h,_⟩:=hB;rw[e,h3] at h;cases h
 |lrec l r e'=>obtain⟨_,_,_,h,_⟩:=hB;rw[e,h3] at h;cases h
 |rmap es arr ck=>obtain⟨_,_,h,_⟩:=hB;rw[e,h3] at h;cases h
 |itr m arr ck seen=>obtain⟨_,_,_,q,h,_⟩:=hB;rw[e,h3] at h;cases h
 |mbox b'=>obtain⟨_,_,_,q,h,_⟩:=hB;unfold World.cell? at h;rw[e] at h;simp[h3] at h
 |bld T g=>obtain⟨_,_,_,_,p,v,h,_⟩:=hB;rw[e,h3] at h;cases h
 |buf el bs=>
  obtain⟨h1,_,h2|⟨_,arr,fr,h,_⟩⟩:=hB
  ·have:=hk.2.2;omega
  ·rw[e,h3] at h;cases h
 |tok=>
  obtain⟨⟨v,hv⟩,_⟩:=hB q hk.2.1 hk.2.2
  unfold World.cell? at hv
  rw[e,h3] at hv
  cases hv
theorem Dfr.mono{P:Program}{I I':Nat→Nat→Prop}{β β':Id→Option CLoc}{n n':Nat}{H H':AHeap}{w w':World}{k:Nat}{ds:List Deferred}(h:Dfr P k w ds)(hI:Inv I β n H w)(hX:Ext I β n H w I' β' n' H' w'):Dfr P k w' ds:=by
 refine⟨h.1,fun d hd=>?_⟩
 rcases h.2 d hd with hi|⟨r,h1,h2,h3⟩
 ·exact .inl hi
 refine .inr ⟨r,h1,h2,?_⟩
 have hlt:r<w.heap.size:=by
  rcases pD r w.heap.size with h|h
  ·exact h
  ·rw[pK h] at h3;cases h3
 rw[hX.frame r hlt fun id c q hc hg hk=>?_]
 ·exact h3
 cases hb:H.get id with
 |none=>exact hg hb
 |some b=>
  obtain⟨c',hc',hB⟩:=hI.blocks id b hb
  rw[hc] at hc'
  simp only[p0] at hc'
  subst hc'
  exact ze9 hB h3 q hk
theorem ztx{I:Nat→Nat→Prop}{β:Id→Option CLoc}{n:Nat}{H:AHeap}{w:World}{r:Nat}{ds:Option (List Deferred)}(o:Obj)(hI:Inv I β n H w)(hr:w.heap[r]?=some (.deferred ds)) :
 Inv I β n H (w.putObj r o)∧(∀x v,Rep I β n w x v→Rep I β n (w.putObj r o) x v) ∧
 (∀ (I0:Nat→Nat→Prop) (β0:Id→Option CLoc) (n0:Nat) (H0:AHeap) (w0:World),w0.heap.size≤r→Ext I0 β0 n0 H0 w0 I β n H w→Ext I0 β0 n0 H0 w0 I β n H (w.putObj r o)):=by
 have hcell:∀b k v,w.cell? ⟨b,k,none⟩=some v→(w.putObj r o).cell? ⟨b,k,none⟩=some v:=by
  intro b k v hv
  have hne:b≠r:=by
   rintro rfl
   unfold World.cell? at hv
   rw[hr] at hv
   cases hv
  rw[cell?_of_heap (pZ hne)];exact hv
 have hImm:∀b k,I b k→(w.putObj r o).cell? ⟨b,k,none⟩=w.cell? ⟨b,k,none⟩:=by
  intro b k hb
  obtain⟨v,hv⟩:=hI.imm b k hb
  rw[hv];exact hcell b k v hv
 have hobj:∀ (b:Nat) (ob:Obj),w.heap[b]?=some ob→(∀x,ob≠.deferred x)→(w.putObj r o).heap[b]?=some ob:=by
  intro b ob hb hne
  have:b≠r:=by rintro rfl;rw[hr] at hb;simp only[p0] at hb;exact hne _ hb.symm
  rw[pZ this];exact hb
 refine⟨⟨fun id blk hid=>?_,hI.inj,fun i c b k hi hc=>by rw[World.putObj_size];exact hI.own i c b k hi hc,fun b k hb=>by rw[hImm b k hb];exact hI.imm b k hb,hI.fresh,hI.glob.mono (fun _ _ h=>h) hImm (fun b arr el fr h=>⟨arr,fr,hobj _ _ h nofun,rfl⟩)⟩,fun x v hx=>hx.mono' (fun _ _ h=>h) hImm (p9 _) (fun _ _ _ h=>h),?_⟩
 ·obtain⟨c,hc,hB⟩:=hI.blocks id blk hid
  exact⟨c,hc,hB.mono' (fun _ _ h=>h) hImm (p9 _) (fun _ _ _ h=>h) (fun arr el fr h=>⟨arr,fr,hobj _ _ h nofun,rfl,.inl rfl⟩) (fun b k v _ hv=>hcell b k v hv) (fun ob ho _ h=>hobj _ _ h (fun x hx=>by subst hx;cases ho))⟩
 ·intro I0 β0 n0 H0 w0 hle hX
  have hlt:∀b (ob:Obj),w0.heap[b]?=some ob→b≠r:=by
   rintro b ob hb rfl
   rw[pK hle] at hb;cases hb
  refine⟨hX.os,⟨hX.tape.eq,hX.tape.le⟩,hX.output,by rw[World.putObj_size];exact hX.size,fun b hb hn=>?_,fun b k v hv hn=>hcell b k v (hX.cells b k v hv hn),fun b arr el fr hb=>?_,fun b es ck hb hn=>?_,hX.imm,hX.immNew,hX.old,hX.new,hX.dom,hX.le⟩
  ·rw[pZ (by omega)];exact hX.frame b hb hn
  ·obtain⟨arr',fr',h1,h2⟩:=hX.shape b arr el fr hb
   exact⟨arr',fr',by rw[pZ (hlt b _ hb)];exact h1,h2⟩
  ·rw[pZ (hlt b _ hb)];exact hX.maps b es ck hb hn
theorem Dfr.of_heap{P:Program}{k:Nat}{w w':World}{ds:List Deferred}(h:Dfr P k w ds)(hw:w'.heap=w.heap):Dfr P k w' ds:=⟨h.1,fun d hd=>by
 rcases h.2 d hd with hi|⟨r,h1,h2,h3⟩
 ·exact .inl hi
 exact .inr ⟨r,h1,h2,by rw[hw];exact h3⟩⟩
theorem Yn{P:Program}{vm:Bool}{o:Op}{l:LOp}(h:j5 P vm o=some l):∀c,o≠.defer c:=by
 rintro c rfl
 cases h
def Xw:AVal→Bool→Option Bool
 |.bool b,want=>some (b==want)
 |.cnd q (.bool b),want=>some (q&&(b==want))
 |.tup [],_=>some false
 |_,_=>none
def zav(a:AVal):Prop:=a=.tup []∨∃x,a=.cnd false x
def z6l(p:Bool)(H:AHeap)(n:Nat)(E:(AVal→AHeap→Nat→Prop)→Prop)(K:AVal→AHeap→Nat→Prop):Prop:=
 (∃R,(p=true→E (fun r H' n'=>r=R∧H'=H∧n'=n))∧K (.cnd p R) H n)∨((p=true→E K)∧(p=false→∃u,zav u∧K u H n))
def z6o(P:Program):List LOper→(Env→AHeap→Nat→Prop)→Env→AHeap→Nat→Prop
 |[],Q,e,H,n=>Q e H n
 |⟨d,op,none⟩::os,Q,e,H,n=>
  match Zl op with
  |true=>match ua e H op with
   |.ok side v=>side∧z6o P os Q (e.put d v) H n
   |.bad=>False
  |false=>Yf P e H n (fun r H' n'=>z6o P os Q (e.put d r) H' n') op
 |⟨d,op,some (g,want)⟩::os,Q,e,H,n=>
  match Xw (e.get g) want with
  |some p=>match Zl op with
   |true=>match ua e H op with
    |.ok side v=>(∃u,(p=true→side∧v=u)∧z6o P os Q (e.put d (.cnd p u)) H n)∨(p=false∧z6o P os Q (e.put d (.tup [])) H n)
    |.bad=>p=false∧z6o P os Q (e.put d (.tup [])) H n
   |false=>z6l p H n (fun K=>Yf P e H n K op) (fun r H' n'=>z6o P os Q (e.put d r) H' n')
  |none=>False
def xqs:List LOper→(Env→AHeap→Nat→Prop)→Env→AHeap→Nat→Prop
 |[],Q,e,H,n=>Q e H n
 |⟨d,op,none⟩::os,Q,e,H,n=>match ua e H op with
  |.ok side v=>side∧xqs os Q (e.put d v) H n
  |.bad=>False
 |⟨d,op,some (g,want)⟩::os,Q,e,H,n=>
  match Xw (e.get g) want with
  |some p=>match ua e H op with
   |.ok side v=>(∃u,(p=true→side∧v=u)∧xqs os Q (e.put d (.cnd p u)) H n)∨(p=false∧xqs os Q (e.put d (.tup [])) H n)
   |.bad=>p=false∧xqs os Q (e.put d (.tup [])) H n
  |none=>False
def LOper.sees(lo:LOper)(e:Env):Env:=lo.looks.map fun t=>(t,e.get t)
def Kx(e:Env)(H:AHeap)(lo:LOper):XR:=
 match lo.guard with
 |none=>ua e H lo.op
 |some (g,want)=>match Xw (e.get g) want with
  |some p=>match ua e H lo.op with
   |.ok side v=>.ok (p=true→side) (.cnd p v)
   |.bad=>.ok (p=false) (.tup [])
  |none=>.bad
def z8w(P:Program)(e:Env)(H:AHeap)(n:Nat)(K:AVal→AHeap→Nat→Prop)(lo:LOper):Prop:=
 match lo.guard with
 |none=>Yf P e H n K lo.op
 |some (g,want)=>match Xw (e.get g) want with
  |some p=>z6l p H n (fun K=>Yf P e H n K lo.op) K
  |none=>False
def y0l(a b:AVal):Prop:=a=b∨(zav a∧zav b)∨∃p x y,a=.cnd p x∧b=.cnd p y∧(p=true→x=y)
def XR.gives(r:XR)(v:AVal):Prop:=match r with
 |.ok side u=>side∧y0l u v
 |.bad=>False
def xd(P:Program):List DItem→Nat→List (Nat×LOper×Env×AVal)→(Env→AHeap→Nat→Prop)→Env→AHeap→Nat→Prop
 |[],_,_,R,e,H,n=>R e H n
 |it::rest,p,done,R,e,H,n=>
  match Zl it.lo.op with
  |true=>∃v,(Kx (it.lo.sees e) H it.lo).gives v∧xd P rest (p+1) (if Q6 it.lo.op then(p,it.lo,it.lo.sees e,v)::done else done) R (e.put it.lo.dst v) H n
  |false=>z8w P (it.lo.sees e) H n (fun v H' n'=>(∀x∈done,x.1∈it.loose→(Kx x.2.2.1 H' x.2.1).gives x.2.2.2)∧xd P rest (p+1) done R (e.put it.lo.dst v) H' n') it.lo
def zzx(P:Program)(N:Lay)(I:Nat→Nat→Prop)(β:Id→Option CLoc)(n:Nat)(H:AHeap)(w:World)(Q:Exit→Env→AHeap→Nat→Prop)(QQ:Exit→Act→World→Prop):Prop:=
 ∀ex e' H' n' I' β' w' a',Q ex e' H' n'→Inv I' β' n' H' w'→RepEnv I' β' n' w' e' a'→a'.tmps.size=N.n→Dfr P w.heap.size w' a'.defers→Ext I β n H w I' β' n' H' w'→QQ ex a' w'
def LWp(P:Program)(N:Lay)(n0:Nat)(lc:LCode)(Q:Exit→Env→AHeap→Nat→Prop)(e:Env)(H:AHeap)(n:Nat):Prop:=
 ∀c,yk P N c=some lc→∀ro,(N.rd=false→ro=none)→∀I0 β0 H0 w0 I β w a,Ext I0 β0 n0 H0 w0 I β n H w→Inv I β n H w→RepEnv I β n w e a→a.tmps.size=N.n→Dfr P w0.heap.size w a.defers→∀QQ,zzx P N I0 β0 n0 H0 w0 Q QQ→c.wpIn (z34 ro) 0 P QQ a w
def zep:AVal→AVal→Prop
 |.ptr b _ _,.ptr c _ _=>b≠c
 |_,_=>False
def zfa(P:Program)(N:Lay)(n0:Nat):LCode→(Exit→Env→AHeap→Nat→Prop)→Env→AHeap→Nat→Prop
 |.skip,Q,e,H,n=>Q .normal e H n
 |.region ops,Q,e,H,n=>z6o P ops (Q .normal) e H n
 |.quiet ops,Q,e,H,n=>xqs ops (Q .normal) e H n
 |.draw items,Q,e,H,n=>xd P items 0 [] (Q .normal) e H n
 |.draw2 a b items,Q,e,H,n=>xd P items 0 [] (fun e H n=>zep (a.ev e) (b.ev e)∧Q .normal e H n) e H n
 |.seq a b,Q,e,H,n=>zfa P N n0 a (fun ex e H n=>match ex with|.normal=>zfa P N n0 b Q e H n|ex=>Q ex e H n) e H n
 |.cond c a b,Q,e,H,n=>match c.ev e with
  |.bool v=>c.need e∧(v=true→zfa P N n0 a Q e H n)∧(v=false→zfa P N n0 b Q e H n)
  |_=>False
 |.block id c,Q,e,H,n=>zfa P N n0 c (fun ex e H n=>match ex with|.exit i=>if i=id then Q .normal e H n else Q (.exit i) e H n|ex=>Q ex e H n) e H n
 |.loop c,Q,e,H,n=>LWp P N n0 (.loop c) Q e H n
 |.rng g ps a b,Q,e,H,n=>LWp P N n0 (.rng g ps a b) Q e H n
 |.dfr f t,Q,e,H,n=>zy3 P f∧Q .normal (e.put (some t) .any) H n
 |.exit id,Q,e,H,n=>Q (.exit id) e H n
 |.ret,Q,e,H,n=>Q .ret e H n
variable {P:Program}
section
variable {I:Nat→Nat→Prop} {β:Id→Option CLoc} {N:Lay} {n:Nat} {H:AHeap} {w:World} {e:Env} {a:Act}
def zao:Value→Option Bool
 |.bool b=>some b
 |_=>none
theorem Jr{x:AVal}{want p:Bool}{v:Value}(hx:Rep I β n w x v)(h:Xw x want=some p):(zao v==some want)=p:=by
 unfold Xw at h
 split at h
 ·rename_i _ b
  simp only[p0] at h
  subst h
  rw[hx.bool_inv]
  simp[zao]
 ·rename_i _ q b
  simp only[p0] at h
  subst h
  cases hx with
  |imm _ _ hx=>cases hx
  |cnd _ _ _ h1 h2=>
   cases q with
   |true=>rw[(h1 rfl).bool_inv];simp[zao]
   |false=>rw[h2 rfl];simp[undef,zao]
 ·simp only[p0] at h
  subst h
  have:v=.tuple #[]:=by
   cases hx with
   |imm _ _ hx=>cases hx with|tup _ vs h1 h2=>have:=pN.1 h1;subst this;rfl
   |tup _ vs h1 h2=>have:=pN.1 h1;subst this;rfl
  subst this
  rfl
 ·cases h
theorem zjz{a:AVal}(h:zav a){v:Value}(hr:Rep I β n w a v):v=undef:=by
 rcases h with rfl|⟨x,rfl⟩
 ·cases hr with
  |imm _ _ hx=>cases hx with|tup _ vs h1 h2=>have:=pN.1 h1;subst this;rfl
  |tup _ vs h1 h2=>have:=pN.1 h1;subst this;rfl
 ·cases hr with
  |imm _ _ hx=>cases hx
  |cnd _ _ _ h1 h2=>exact h2 rfl
theorem z3y{a:AVal}(h:zav a):Rep I β n w a undef:=by
 rcases h with rfl|⟨x,rfl⟩
 ·exact .tup [] #[] rfl (by simp)
 ·exact .cnd false x undef (fun h=>by cases h) (fun _=>rfl)
theorem z01{a b:AVal}(h:y0l a b){v:Value}(hr:Rep I β n w a v):Rep I β n w b v:=by
 rcases h with rfl|⟨h1,h2⟩|⟨p,x,y,rfl,rfl,h⟩
 ·exact hr
 ·rw[zjz h1 hr];exact z3y h2
 ·cases hr with
  |imm _ _ hr=>cases hr
  |cnd _ _ _ h1 h2=>exact .cnd p y v (fun hp=>by rw[←h hp];exact h1 hp) h2
theorem Ym{o:Oper}(h:o.guard=none)(y:Nat→Option Bool):Region.wanted o y=true:=by
 unfold Region.wanted;rw[h]
theorem V1{o:Oper}{j:Nat}{want:Bool}(h:o.guard=some (j,want))(y:Nat→Option Bool):Region.wanted o y=(y j==some want):=by
 unfold Region.wanted;rw[h]
theorem Y7{ops:Array Oper}{o:Oper}{lo:LOper}(h:Xt P N ops o=some lo) :
 (∀t,o.dst=some t→t<N.n)∧lo.dst=o.dst∧lo.op=(j5 P (N.vm o.dst) o.op).getD .bad∧((o.guard=none∧lo.guard=none)∨∃j want g,o.guard=some (j,want)∧lo.guard=some (g,want)∧(ops[j]?).bind (·.dst)=some g∧g<N.n):=by
 unfold Xt at h
 split at h
 ·cases h
 ·rename_i hd hg
  simp only[p0] at h
  subst h
  refine⟨?_,rfl,rfl,.inl ⟨hg,rfl⟩⟩
  intro t ht
  rw[ht] at hd
  simpa using hd
 ·rename_i j want hd hg
  split at h
  ·rename_i g hgd
   split at h<;>try (cases h;done)
   rename_i hlt
   simp only[p0] at h
   subst h
   refine⟨?_,rfl,rfl,.inr ⟨j,want,g,hg,rfl,hgd,hlt⟩⟩
   intro t ht
   rw[ht] at hd
   simpa using hd
  ·cases h
theorem Je{vm:Bool}{o:Oper}{lo:LOper}(h:lo.op=(j5 P vm o.op).getD .bad)(hne:lo.op≠.bad):j5 P vm o.op=some lo.op:=by
 cases hl:j5 P vm o.op with
 |none=>rw[hl] at h;exact absurd h hne
 |some x=>rw[hl] at h;exact congrArg some h.symm
theorem K8:Rep I β n w (.tup []) undef:=.imm _ _ (.tup [] #[] rfl (by simp))
theorem K9{ops:Array Oper}:∀ (l:List Oper) (ll:List LOper),Kr P N ops l=some ll→l.length=ll.length∧∀ (i:Nat) (o:Oper) (lo:LOper),l[i]?=some o→ll[i]?=some lo→Xt P N ops o=some lo
 |[],ll,h=>by simp[Kr] at h;subst h;simp
 |o::l,ll,h=>by
  simp only[Kr] at h
  cases h1:Xt P N ops o with
  |none=>simp[h1] at h
  |some lo=>
  cases h2:Kr P N ops l with
  |none=>simp[h1,h2] at h
  |some l'=>
   simp only[h1,h2,p0] at h
   subst h
   obtain⟨k1,k2⟩:=K9 l l' h2
   refine⟨by simp[k1],fun i o' lo' hi hi'=>?_⟩
   cases i with
   |zero=>simp at hi hi';subst hi;subst hi';exact h1
   |succ i=>exact k2 i o' lo' (by simpa using hi) (by simpa using hi')
theorem Ko{ops:Array Oper}{tmps:Array Value}{j g:Nat}(h:(ops[j]?).bind (·.dst)=some g)(hg:g<tmps.size):yielded ops tmps j=zao (tmps.getD g undef):=by
 unfold yielded
 rw[h]
 have:tmps[g]?=some tmps[g]:=pB hg
 simp only[Option.bind_some,this]
 have:tmps.getD g undef=tmps[g]:=by simp[hg]
 rw[this]
 cases tmps[g]<;>rfl
theorem z5s{ro:Option Nat}{K0:Nat}{ops:Array Oper}{Q:Env→AHeap→Nat→Prop}{QQ:Exit→Act→World→Prop}:∀ (is:List Nat) (ll:List LOper),is.length=ll.length →
 (∀ (k i:Nat) (lo:LOper),is[k]?=some i→ll[k]?=some lo→∃o,ops[i]?=some o∧Xt P N ops o=some lo) →
 ∀ {I:Nat→Nat→Prop} {β:Id→Option CLoc} {n:Nat} {H:AHeap} {w:World} {e:Env} {a:Act},z6o P ll Q e H n→Inv I β n H w→RepEnv I β n w e a→a.tmps.size=N.n→Dfr P K0 w a.defers →
 (∀e' H' n' I' β' w' a',Q e' H' n'→Inv I' β' n' H' w'→RepEnv I' β' n' w' e' a'→a'.tmps.size=N.n→Dfr P K0 w' a'.defers→Ext I β n H w I' β' n' H' w'→QQ .normal a' w')→wpOpsIn (z34 ro) 0 P ops QQ is a w
 |[],ll,hl,_,I,β,n,H,w,e,a,h,hI,hE,hN,hD,hQ=>by
  cases ll with
  |cons _ _=>simp at hl
  |nil=>exact hQ _ _ _ _ _ _ _ h hI hE hN hD (Ext.refl _ _ _ _ _ hI.fresh)
 |i::is,ll,hl,hlow,I,β,n,H,w,e,a,h,hI,hE,hN,hD,hQ=>by
  cases ll with
  |nil=>simp at hl
  |cons lo ll=>
   obtain⟨o,ho,hlo⟩:=hlow 0 i lo rfl rfl
   obtain⟨hd,hdst,hop,hg⟩:=Y7 hlo
   obtain⟨d,op,guard⟩:=lo
   simp only at hdst hop hg
   subst hdst
   have hdN:∀t,o.dst=some t→t<a.tmps.size:=fun t ht=>by rw[hN];exact hd t ht
   have rest:∀ {I:Nat→Nat→Prop} {β:Id→Option CLoc} {n:Nat} {H:AHeap} {w:World} {e:Env} {a:Act},z6o P ll Q e H n→Inv I β n H w→RepEnv I β n w e a→a.tmps.size=N.n→Dfr P K0 w a.defers →
    (∀e' H' n' I' β' w' a',Q e' H' n'→Inv I' β' n' H' w'→RepEnv I' β' n' w' e' a'→a'.tmps.size=N.n→Dfr P K0 w' a'.defers→Ext I β n H w I' β' n' H' w'→QQ .normal a' w')→wpOpsIn (z34 ro) 0 P ops QQ is a w:=
    fun h1 h2 h3 h4 h5 h6=>z5s (ro:=ro) (K0:=K0) (ops:=ops) (Q:=Q) (QQ:=QQ) is ll (by simpa using hl) (fun k i lo h1 h2=>hlow (k+1) i lo h1 h2) h1 h2 h3 h4 h5 h6
   unfold wpOpsIn
   simp only[ho]
   -- the next operation, behind one that is carried out
   have eff:∀ {Kop:LOp},Kop=op→j5 P (N.vm o.dst) o.op=some Kop→Yf P e H n (fun r H' n'=>z6o P ll Q (e.put o.dst r) H' n') Kop→o.wpIn (z34 ro) 0 P a w (wpOpsIn (z34 ro) 0 P ops QQ is) QQ:=by
    intro Kop _ hl h
    refine V4 (Yn hl) (Kt hI hE hl h ?_)
    intro v w' ⟨r,H',n',I',β',hK,hI',hr',hx'⟩
    refine rest hK hI' (RepEnv.put (fun t=>(hE t).mono hx' hI) hdN hr') (by rw[Act.put_size];exact hN) (by rw[Act.put_defers];exact hD.mono hI hx') ?_
    intro e' H'' n'' I'' β'' w'' a' h1 h2 h3 h4 h5 h6
    exact hQ e' H'' n'' I'' β'' w'' a' h1 h2 h3 h4 h5 (hx'.trans h6)
   have pure:∀ {Kop:LOp} {side:Prop} {v y:AVal},Kop=op→j5 P (N.vm o.dst) o.op=some Kop→ua e H Kop=.ok side v→side→(∀r,Rep I β n w v r→Rep I β n w y r)→z6o P ll Q (e.put o.dst y) H n→o.wpIn (z34 ro) 0 P a w (wpOpsIn (z34 ro) 0 P ops QQ is) QQ:=by
    intro Kop side v y _ hl hp hs hy h
    obtain⟨r,hr,hrep⟩:=Um hI hE hl hp hs
    refine Ki (Yn hl) ?_
    unfold Oper.wp
    rw[hr,Oper.upon_value]
    exact rest h hI (hE.put hdN (hy r hrep)) (by rw[Act.put_size];exact hN) (by rw[Act.put_defers];exact hD) hQ
   have skip:∀ {y:AVal},Rep I β n w y undef→z6o P ll Q (e.put o.dst y) H n→wpOpsIn (z34 ro) 0 P ops QQ is (a.put o.dst undef) w:=by
    intro y hy h
    exact rest h hI (hE.put hdN hy) (by rw[Act.put_size];exact hN) (by rw[Act.put_defers];exact hD) hQ
   rcases hg with⟨hg1,rfl⟩|⟨j,want,g,hg1,rfl,hg2,hg3⟩
   ·rw[Ym hg1,if_pos rfl]
    simp only[z6o] at h
    split at h
    ·split at h
     ·rename_i side v hp
      have hne:op≠.bad:=by intro hb;rw[hb] at hp;cases hp
      exact pure rfl (Je (lo:=⟨o.dst,op,none⟩) hop hne) hp h.1 (fun _ h=>h) h.2
     ·exact h.elim
    ·have hne:op≠.bad:=by intro hb;rw[hb] at h;exact h.elim
     exact eff rfl (Je (lo:=⟨o.dst,op,none⟩) hop hne) h
   ·rw[V1 hg1,Ko hg2 (by rw[hN];exact hg3)]
    simp only[z6o] at h
    split at h
    ·rename_i p hp
     rw[Jr (hE g) hp]
     split at h
     ·split at h
      ·rename_i side v hpu
       have hne:op≠.bad:=by intro hb;rw[hb] at hpu;cases hpu
       rcases h with⟨u,hu,h⟩|⟨rfl,h⟩
       rotate_left
       ·rw[if_neg (by simp)];refine⟨fun _ _=>trivial,?_⟩
        exact skip K8 h
       cases p with
       |true=>
        obtain⟨hs,rfl⟩:=hu rfl
        rw[if_pos rfl]
        exact(pure rfl (Je (lo:=⟨o.dst,op,some (g,want)⟩) hop hne) hpu hs (fun r hr=>.cnd true v r (fun _=>hr) (fun h=>by cases h)) h)
       |false=>
        rw[if_neg (by simp)];refine⟨fun _ _=>trivial,?_⟩
        exact skip (.cnd false u undef (fun h=>by cases h) (fun _=>rfl)) h
      ·obtain⟨rfl,h⟩:=h
       rw[if_neg (by simp)];refine⟨fun _ _=>trivial,?_⟩
       exact skip K8 h
     ·cases p with
      |true=>
       rw[if_pos rfl]
       rcases h with⟨R,h1,h2⟩|h
       ·have h:=h1 rfl
        have hne:op≠.bad:=by intro hb;rw[hb] at h;exact h.elim
        refine V4 (Yn (Je (lo:=⟨o.dst,op,some (g,want)⟩) hop hne)) (Kt hI hE (Je (lo:=⟨o.dst,op,some (g,want)⟩) hop hne) h ?_)
        rintro v w' ⟨r,H',n',I',β',⟨rfl,rfl,rfl⟩,hI',hr',hx'⟩
        refine rest h2 hI' (RepEnv.put (fun t=>(hE t).mono hx' hI) hdN (.cnd true r v (fun _=>hr') (fun h=>by cases h))) (by rw[Act.put_size];exact hN) (by rw[Act.put_defers];exact hD.mono hI hx') ?_
        intro e' H'' n'' I'' β'' w'' a' h1 h2 h3 h4 h5 h6
        exact hQ e' H'' n'' I'' β'' w'' a' h1 h2 h3 h4 h5 (hx'.trans h6)
       ·have h:=h.1 rfl
        have hne:op≠.bad:=by intro hb;rw[hb] at h;exact h.elim
        exact(eff rfl (Je (lo:=⟨o.dst,op,some (g,want)⟩) hop hne) h)
      |false=>
       rw[if_neg (by simp)];refine⟨fun _ _=>trivial,?_⟩
       rcases h with⟨R,_,h2⟩|h
       ·exact skip (.cnd false R undef (fun h=>by cases h) (fun _=>rfl)) h2
       ·obtain⟨u,h1,h2⟩:=h.2 rfl
        exact skip (z3y h1) h2
    ·exact h.elim
theorem zap{K0:Nat}{w0:World}{ops:Array Oper}{Q:Env→AHeap→Nat→Prop}{Qa:Act→Prop}{C:World→Prop}(hC:∀w',C w'→w'=w)(hI:Inv I β n H w):∀ (l:List Oper) (ll:List LOper),l.length=ll.length →
 (∀ (k:Nat) (o:Oper) (lo:LOper),l[k]?=some o→ll[k]?=some lo→Xt P N ops o=some lo) →
 ∀ {e:Env} {a:Act},xqs ll Q e H n→RepEnv I β n w e a→a.tmps.size=N.n→Dfr P K0 w0 a.defers →
 (∀e' a',Q e' H n→RepEnv I β n w e' a'→a'.tmps.size=N.n→Dfr P K0 w0 a'.defers→Qa a')→wpQuiet P ops C Qa l a
 |[],ll,hl,_,e,a,h,hE,hN,hD,hQ=>by
  cases ll with
  |cons _ _=>simp at hl
  |nil=>exact hQ _ _ h hE hN hD
 |o::l,ll,hl,hlow,e,a,h,hE,hN,hD,hQ=>by
  cases ll with
  |nil=>simp at hl
  |cons lo ll=>
   have hlo:=hlow 0 o lo rfl rfl
   obtain⟨hd,hdst,hop,hg⟩:=Y7 hlo
   obtain⟨d,op,guard⟩:=lo
   simp only at hdst hop hg
   subst hdst
   have hdN:∀t,o.dst=some t→t<a.tmps.size:=fun t ht=>by rw[hN];exact hd t ht
   have rest:∀ {y:AVal} {r:Value},Rep I β n w y r→xqs ll Q (e.put o.dst y) H n→wpQuiet P ops C Qa l (a.put o.dst r):=fun hy h=>
    zap hC hI l ll (by simpa using hl) (fun k o lo h1 h2=>hlow (k+1) o lo h1 h2) h (hE.put hdN hy) (by rw[Act.put_size];exact hN) (by rw[Act.put_defers];exact hD) hQ
   have pure:∀ {side:Prop} {v y:AVal},ua e H op=.ok side v→side→(∀r,Rep I β n w v r→Rep I β n w y r)→xqs ll Q (e.put o.dst y) H n→o.quiet P a C (wpQuiet P ops C Qa l):=by
    intro side v y hp hs hy h
    have hne:op≠.bad:=by intro hb;rw[hb] at hp;cases hp
    obtain⟨r,hr,hrep⟩:=Um hI hE (Je (lo:=⟨o.dst,op,guard⟩) hop hne) hp hs
    refine⟨r,fun w' hw'=>?_,rest (hy r hrep) h⟩
    obtain rfl:=hC w' hw'
    unfold Oper.quietAt
    rw[hr]
    exact⟨rfl,rfl⟩
   unfold wpQuiet
   rcases hg with⟨hg1,rfl⟩|⟨j,want,g,hg1,rfl,hg2,hg3⟩
   ·rw[Ym hg1,if_pos rfl]
    simp only[xqs] at h
    split at h
    ·rename_i side v hp
     exact pure hp h.1 (fun _ h=>h) h.2
    ·exact h.elim
   ·rw[V1 hg1,Ko hg2 (by rw[hN];exact hg3)]
    simp only[xqs] at h
    split at h
    ·rename_i p hp
     rw[Jr (hE g) hp]
     split at h
     ·rename_i side v hpu
      rcases h with⟨u,hu,h⟩|⟨rfl,h⟩
      rotate_left
      ·rw[if_neg (by simp)]
       exact rest K8 h
      cases p with
      |true=>
       obtain⟨hs,rfl⟩:=hu rfl
       rw[if_pos rfl]
       exact pure hpu hs (fun r hr=>.cnd true v r (fun _=>hr) (fun h=>by cases h)) h
      |false=>
       rw[if_neg (by simp)]
       exact rest (.cnd false u undef (fun h=>by cases h) (fun _=>rfl)) h
     ·obtain⟨rfl,h⟩:=h
      rw[if_neg (by simp)]
      exact rest K8 h
    ·exact h.elim
end
end Go.Fx
namespace Go.Fx
variable {P:Program}
theorem zk5{e:Env}{H H':AHeap}{op:LOp}(h:Q6 op=false):ua e H op=ua e H' op:=by
 cases op<;>first|rfl|(rename_i k x;cases k<;>rfl)|(simp[Q6] at h)
theorem z1d{e:Env}{H H':AHeap}{lo:LOper}(h:Q6 lo.op=false):Kx e H lo=Kx e H' lo:=by
 unfold Kx;rw[zk5 (H:=H) (H':=H') h]
section
variable {I:Nat→Nat→Prop} {β:Id→Option CLoc} {N:Lay} {n:Nat} {H:AHeap} {w:World} {e:Env} {a:Act}
theorem zka{ro:Option Nat}{ops:Array Oper}{QQ:Exit→Act→World→Prop}{K:Act→World→Prop}{i:Nat}{o:Oper}{lo:LOper}(ho:ops[i]?=some o)(hlo:Xt P N ops o=some lo){v:AVal}(hv:(Kx e H lo).gives v)
 (hI:Inv I β n H w) (hE:RepEnv I β n w e a) (hN:a.tmps.size=N.n) (hK:∀r,Rep I β n w v r→K (a.put o.dst r) w):wpOpIn (z34 ro) 0 P ops QQ i K a w:=by
 obtain⟨hd,hdst,hop,hg⟩:=Y7 hlo
 unfold wpOpIn
 simp only[ho]
 have pure:∀ {side:Prop} {u:AVal},ua e H lo.op=.ok side u→side→(∀r,Rep I β n w u r→Rep I β n w v r)→o.wpIn (z34 ro) 0 P a w K QQ:=by
  intro side u hp hs hy
  have hne:lo.op≠.bad:=by intro hb;rw[hb] at hp;cases hp
  obtain⟨r,hr,hrep⟩:=Um hI hE (Je hop hne) hp hs
  refine Ki (Yn (Je hop hne)) ?_
  unfold Oper.wp
  rw[hr,Oper.upon_value]
  exact hK r (hy r hrep)
 unfold Kx at hv
 rcases hg with⟨hg1,hg0⟩|⟨j,want,g,hg1,hg0,hg2,hg3⟩
 ·rw[hg0] at hv
  rw[Ym hg1,if_pos rfl]
  simp only at hv
  cases hp:ua e H lo.op with
  |bad=>rw[hp] at hv;exact hv.elim
  |ok side u=>
   rw[hp] at hv
   obtain⟨h1,hs⟩:=hv
   exact(pure hp h1 (fun _ h=>z01 hs h))
 ·rw[hg0] at hv
  simp only at hv
  rw[V1 hg1,Ko hg2 (by rw[hN];exact hg3)]
  cases hgp:Xw (e.get g) want with
  |none=>rw[hgp] at hv;exact hv.elim
  |some p=>
   rw[hgp] at hv
   simp only at hv
   rw[Jr (hE g) hgp]
   cases hp:ua e H lo.op with
   |bad=>
    rw[hp] at hv
    obtain⟨rfl,hs⟩:=hv
    rw[if_neg (by simp)];refine⟨fun _ _=>trivial,?_⟩
    exact hK _ (z01 hs K8)
   |ok side u=>
    rw[hp] at hv
    obtain⟨h1,hs⟩:=hv
    cases p with
    |true=>
     rw[if_pos rfl]
     exact(pure hp (h1 rfl) (fun r hr=>z01 hs (.cnd true u r (fun _=>hr) (fun h=>by cases h))))
    |false=>
     rw[if_neg (by simp)];refine⟨fun _ _=>trivial,?_⟩
     exact hK _ (z01 hs (.cnd false u undef (fun h=>by cases h) (fun _=>rfl)))
theorem z46{ro:Option Nat}{ops:Array Oper}{QQ:Exit→Act→World→Prop}{K:Act→World→Prop}{KK:AVal→AHeap→Nat→Prop}{i:Nat}{o:Oper}{lo:LOper}(ho:ops[i]?=some o)(hlo:Xt P N ops o=some lo)(hv:z8w P e H n KK lo)
 (hI:Inv I β n H w) (hE:RepEnv I β n w e a) (hN:a.tmps.size=N.n) (hK:∀r v H' n' I' β' w',KK v H' n'→Inv I' β' n' H' w'→Rep I' β' n' w' v r→Ext I β n H w I' β' n' H' w'→K (a.put o.dst r) w'):wpOpIn (z34 ro) 0 P ops QQ i K a w:=by
 obtain⟨hd,hdst,hop,hg⟩:=Y7 hlo
 unfold wpOpIn
 simp only[ho]
 have eff:Yf P e H n KK lo.op→o.wpIn (z34 ro) 0 P a w K QQ:=by
  intro h
  have hne:lo.op≠.bad:=by intro hb;rw[hb] at h;exact h.elim
  refine V4 (Yn (Je hop hne)) (Kt hI hE (Je hop hne) h ?_)
  intro v w' ⟨r,H',n',I',β',h1,h2,h3,h4⟩
  exact hK v r H' n' I' β' w' h1 h2 h3 h4
 unfold z8w at hv
 rcases hg with⟨hg1,hg0⟩|⟨j,want,g,hg1,hg0,hg2,hg3⟩
 ·rw[hg0] at hv
  rw[Ym hg1,if_pos rfl]
  exact(eff hv)
 ·rw[hg0] at hv
  simp only at hv
  rw[V1 hg1,Ko hg2 (by rw[hN];exact hg3)]
  cases hgp:Xw (e.get g) want with
  |none=>rw[hgp] at hv;exact hv.elim
  |some p=>
   rw[hgp] at hv
   simp only at hv
   rw[Jr (hE g) hgp]
   cases p with
   |true=>
    rw[if_pos rfl]
    rcases hv with⟨R,h1,h2⟩|hv
    ·have h:=h1 rfl
     have hne:lo.op≠.bad:=by intro hb;rw[hb] at h;exact h.elim
     refine V4 (Yn (Je hop hne)) (Kt hI hE (Je hop hne) h ?_)
     rintro v w' ⟨r,H',n',I',β',⟨rfl,rfl,rfl⟩,hI',hr',hx'⟩
     exact hK v _ _ _ _ _ _ h2 hI' (.cnd true r v (fun _=>hr') (fun h=>by cases h)) hx'
    ·exact(eff (hv.1 rfl))
   |false=>
    rw[if_neg (by simp)];refine⟨fun _ _=>trivial,?_⟩
    rcases hv with⟨R,_,h2⟩|hv
    ·exact hK undef _ _ _ _ _ _ h2 hI (.cnd false R undef (fun h=>by cases h) (fun _=>rfl)) (Ext.refl _ _ _ _ _ hI.fresh)
    ·obtain⟨u,h1,h2⟩:=hv.2 rfl
     exact hK _ _ _ _ _ _ _ h2 hI (z3y h1) (Ext.refl _ _ _ _ _ hI.fresh)
end
structure DOk(sw:Bool)(ops:Array Oper)(m:Nat)(lo:Nat→LOper)(loose:Nat→List Nat)(ord:Nat→Nat)(pre:Nat→List Nat):Prop where
 size:ops.size=m
 lt:∀p,p<m→ord p<m
 inj:∀p q,p<m→q<m→ord p=ord q→p=q
 surj:∀i,i<m→∃p,p<m∧ord p=i
 topo:∀p,p<m→∀d∈Yv ops (ord p),∃q,q<p∧ord q=d
 just:∀j,j<m→∀i∈pre j,i∈Yv ops j∨∃d∈Yv ops j,i∈pre d
 war:∀p q,p<q→q<m→∀d,(lo q).dst=some d→d∈(lo p).looks→ord p∈pre (ord q)
 raw:∀p q,p<q→q<m→∀d,(lo p).dst=some d→d∈(lo q).looks→ord p∈pre (ord q)
 waw:∀p q,p<q→q<m→∀d,(lo p).dst=some d→(lo q).dst≠some d
 eff:∀p q,p<q→q<m→Zl (lo p).op=false→z5q (lo p)=false→ord p∈pre (ord q)∨zks (lo q)=true∨(sw=true∧p+2=m∧zeh (lo p)=true∧zeh (lo q)=true)
 swl:sw=true→∀x,x+2<m→Q6 (lo x).op=true→ord x∈pre (ord (m-1))∧ord x∈pre (ord (m-2))
 loose:∀p q,p<q→q<m→Zl (lo q).op=false→z5q (lo q)=false→Q6 (lo p).op=true→ord p∈pre (ord q)∨p∈loose q
theorem z8y{sw:Bool}{m:Nat}{los:List LOper}{i j:Nat}{pre loose:List Nat}{p:Nat}(h:z8m sw m los i j pre loose p=true) :
 i≠j∧(∀d,(los.getD j ui).dst=some d→d∈(los.getD i ui).looks→i∈pre)∧(∀d,(los.getD i ui).dst=some d→d∈(los.getD j ui).looks→i∈pre) ∧
 (∀d,(los.getD i ui).dst=some d→(los.getD j ui).dst≠some d)∧(Zl (los.getD i ui).op=false→z5q (los.getD i ui)=false→i∈pre∨zks (los.getD j ui)=true∨(sw=true∧p+2=m∧zeh (los.getD i ui)=true∧zeh (los.getD j ui)=true)) ∧
 (Zl (los.getD j ui).op=false→z5q (los.getD j ui)=false→Q6 (los.getD i ui).op=true→i∈pre∨p∈loose):=by
 unfold z8m at h
 simp only[pI,Bool.or_eq_true,List.contains_iff_mem] at h
 obtain⟨⟨⟨⟨⟨h1,h2⟩,h3⟩,h4⟩,h5⟩,h6⟩:=h
 refine⟨by simpa using h1,?_,?_,?_,?_,?_⟩
 ·intro d hd hl
  rcases h2 with h2|h2
  ·exact h2
  ·rw[hd] at h2;simp at h2;exact absurd hl h2
 ·intro d hd hl
  rcases h3 with h3|h3
  ·exact h3
  ·rw[hd] at h3;simp at h3;exact absurd hl h3
 ·intro d hd hd2
  rw[hd,hd2] at h4
  simp at h4
 ·intro hp hm
  rcases h5 with(((h5|h5)|h5)|h5)|h5
  ·rw[hp] at h5;cases h5
  ·rw[hm] at h5;cases h5
  ·exact .inl h5
  ·exact .inr (.inl h5)
  ·exact .inr (.inr ⟨h5.1.1.1,Nat.eq_of_beq_eq_true h5.1.1.2,h5.1.2,h5.2⟩)
 ·intro hp hm hl
  rcases h6 with(((h6|h6)|h6)|h6)|h6
  ·rw[hp] at h6;cases h6
  ·rw[hm] at h6;cases h6
  ·rw[hl] at h6;cases h6
  ·exact .inl h6
  ·exact .inr h6
theorem z5c{sw:Bool}{ops:Array Oper}{los:List LOper}{items:List DItem}(h:Ke sw ops los=some items) :
 ∃ (ord:Nat→Nat) (pre loose:Nat→List Nat),DOk sw ops ops.size (fun p=>los.getD (ord p) ui) loose ord pre∧items.length=ops.size∧los.length=ops.size ∧
  ∀i it,items[i]?=some it→it.lo=los.getD (ord i) ui∧it.loose=loose i:=by
 unfold Ke at h
 simp only at h
 generalize zfy ops los ops.size []=acc at h
 generalize zaf los acc=loose at h
 split at h<;>try (cases h;done)
 rename_i hc
 simp only[p0] at h
 subst h
 unfold zm6 at hc
 simp only[pI,beq_iff_eq,qI,q7,List.any_eq_true,decide_eq_true_eq] at hc
 obtain⟨⟨⟨⟨⟨⟨⟨c1,c2⟩,c3⟩,c4⟩,c5⟩,c6⟩,c8⟩,c7⟩:=hc
 have key:∀x∈acc,∃p,p<ops.size∧(acc.getD p (0,[])).1=x.1:=by
  intro x hx
  obtain⟨p,hp⟩:=List.getElem?_of_mem hx
  have hlt:p<acc.length:=by
   rcases pD p acc.length with h|h
   ·exact h
   ·rw[pR h] at hp;cases hp
  exact⟨p,by omega,by rw[qE,hp];rfl⟩
 have mem:∀p,p<ops.size→acc.getD p (0,[])∈acc:=by
  intro p hp
  rw[qE,p7 (by omega)]
  exact List.getElem_mem _
 have pair:∀p q,p<q→q<ops.size→_:=fun p q hpq hq=>z8y (c7 q hq p hpq)
 refine⟨fun p=>(acc.getD p (0,[])).1,zb0 acc,fun q=>loose.getD q [],⟨rfl,?_,?_,?_,?_,?_,?_,?_,?_,?_,?_,?_⟩,by simp[c1],c2,?_⟩
 ·intro p hp
  exact c4 _ (List.mem_map.2 ⟨_,mem p hp,rfl⟩)
 ·intro p q hp hq he
  rcases q8 p q with h|h|h
  ·exact absurd he (pair p q h hq).1
  ·exact h
  ·exact absurd he.symm (pair q p h hp).1
 ·intro i hi
  obtain⟨x,hx,he⟩:=c3 i hi
  obtain⟨p,hp,hpe⟩:=key x hx
  exact⟨p,hp,by rw[hpe];exact he⟩
 ·intro p hp d hd
  obtain⟨x,hx,he⟩:=c5 p hp d hd
  obtain⟨q,hq⟩:=List.getElem?_of_mem hx
  have hqp:q<p:=by
   rcases pD q p with h|h
   ·exact h
   ·rw[pR (by simp;omega)] at hq;cases hq
  refine⟨q,hqp,?_⟩
  rw[qJ hqp] at hq
  show(acc.getD q (0,[])).1=d
  rw[qE,hq]
  exact he
 ·intro j hj i hi
  obtain⟨x,hx,he⟩:=c3 j hj
  obtain⟨p,hp,hpe⟩:=key x hx
  have hj2:(acc.getD p (0,[])).1=j:=by rw[hpe];exact he
  have:=c6 p hp i (by rw[hj2];exact hi)
  rw[hj2] at this
  simp only[Bool.or_eq_true,List.contains_iff_mem,List.any_eq_true] at this
  exact this
 ·exact fun p q hpq hq=>(pair p q hpq hq).2.1
 ·exact fun p q hpq hq=>(pair p q hpq hq).2.2.1
 ·exact fun p q hpq hq=>(pair p q hpq hq).2.2.2.1
 ·exact fun p q hpq hq=>(pair p q hpq hq).2.2.2.2.1
 ·intro hsw x hx hl
  simp only[Bool.or_eq_true,Bool.not_eq_true',hsw,Bool.true_eq_false,false_or,qI,q7,pI,List.contains_iff_mem,Bool.and_eq_false_imp] at c8
  rcases c8 x (by omega) with h|h
  ·rw[h (Nat.ble_eq_true_of_le (by omega))] at hl;cases hl
  ·exact h
 ·exact fun p q hpq hq=>(pair p q hpq hq).2.2.2.2.2
 ·intro i it hi
  simp only[pG,p8] at hi
  obtain⟨a,ha,rfl⟩:=hi
  have:a=i:=by
   rcases pD i acc.length with h|h
   ·rw[List.getElem?_range h] at ha;exact(Option.some.inj ha).symm
   ·rw[pR (by simpa using h)] at ha;cases ha
  subst this
  exact⟨rfl,rfl⟩
theorem Qv{ops:Array Oper}{los:List LOper}{lc:LCode}(h:z38 ops los=some lc):(∃items,lc=.draw items)∨∃a b items,lc=.draw2 a b items:=by
 unfold z38 at h
 split at h
 ·cases h;exact .inl ⟨_,rfl⟩
 ·unfold z1k at h
  split at h<;>try (cases h;done)
  split at h<;>try (cases h;done)
  split at h<;>try (cases h;done)
  split at h<;>try (cases h;done)
  cases h;exact .inr ⟨_,_,_,rfl⟩
section
variable {sw:Bool} {ops:Array Oper} {N:Lay} {m:Nat} {lo:Nat→LOper} {loose:Nat→List Nat} {ord:Nat→Nat} {pre:Nat→List Nat}
def Down(ops:Array Oper)(listed:Array Bool):Prop:=∀j,listed.getD j false=true→∀d∈Yv ops j,listed.getD d false=true
theorem DOk.ancestors(D:DOk sw ops m lo loose ord pre){listed:Array Bool}(hd:Down ops listed):∀p,p<m→(∀d∈Yv ops (ord p),listed.getD d false=true)→∀i∈pre (ord p),listed.getD i false=true:=by
 intro p
 induction p using Nat.strongRecOn with
 |_ p ih=>
  intro hp hl i hi
  rcases D.just _ (D.lt p hp) i hi with h|⟨d,h1,h2⟩
  ·exact hl i h
  ·obtain⟨q,hq,rfl⟩:=D.topo p hp d h1
   exact ih q hq (by omega) (hd _ (hl _ h1)) i h2
def Wv(m:Nat)(lo:Nat→LOper)(e0:Env)(v:Nat→AVal)(S:Nat→Bool)(t:Nat):AVal:=
 match (qL m).find? (fun p=>S p&&((lo p).dst==some t)) with
 |some p=>v p
 |none=>e0.get t
theorem z18{α:Type}{f g:α→Bool}:∀ {l:List α},(∀x∈l,f x=g x)→l.find? f=l.find? g
 |[],_=>rfl
 |x::l,h=>by
  simp only[List.find?_cons,h x (List.mem_cons_self ..)]
  rw[z18 (fun y hy=>h y (List.mem_cons_of_mem _ hy))]
theorem ue{e0:Env}{v v':Nat→AVal}{S S':Nat→Bool}{t:Nat}(h:∀p,p<m→(lo p).dst=some t→S p=S' p∧(S p=true→v p=v' p)):Wv m lo e0 v S t=Wv m lo e0 v' S' t:=by
 unfold Wv
 have e:(qL m).find? (fun p=>S p&&((lo p).dst==some t))=(qL m).find? (fun p=>S' p&&((lo p).dst==some t)):=by
  refine z18 fun p hp=>?_
  by_cases hd:(lo p).dst=some t
  ·rw[(h p (q7.1 hp) hd).1]
  ·have:((lo p).dst==some t)=false:=by simpa using hd
   rw[this,Bool.and_false,Bool.and_false]
 rw[←e]
 cases hf:(qL m).find? (fun p=>S p&&((lo p).dst==some t)) with
 |none=>rfl
 |some p=>
  have h1:=List.find?_some hf
  simp only[pI,beq_iff_eq] at h1
  exact(h p (q7.1 (List.mem_of_find?_eq_some hf)) h1.2).2 h1.1
theorem Kp(D:DOk sw ops m lo loose ord pre){e0:Env}{v:Nat→AVal}{S:Nat→Bool}{p t:Nat}(hp:p<m)(hS:S p=true)(hd:(lo p).dst=some t):Wv m lo e0 v S t=v p:=by
 unfold Wv
 cases hf:(qL m).find? (fun p=>S p&&((lo p).dst==some t)) with
 |none=>
  have:=List.find?_eq_none.1 hf p (q7.2 hp)
  simp[hS,hd] at this
 |some q=>
  have h1:=List.find?_some hf
  simp only[pI,beq_iff_eq] at h1
  have hq:=q7.1 (List.mem_of_find?_eq_some hf)
  rcases q8 p q with h|h|h
  ·exact absurd h1.2 (D.waw p q h hq t hd)
  ·rw[h]
  ·exact absurd hd (D.waw q p h hp t h1.2)
end
end Go.Fx
namespace Go.Fx
variable {sw:Bool} {P:Program} {ops:Array Oper} {N:Lay} {m:Nat} {lo:Nat→LOper} {loose:Nat→List Nat} {ord:Nat→Nat} {pre:Nat→List Nat}
def unl(m:Nat)(listed:Array Bool):Nat:=((qL m).filter (fun i=>!listed.getD i false)).length
theorem za0{α:Type}{f g:α→Bool}:∀ {l:List α},(∀x,g x=true→f x=true)→(∃x∈l,f x=true∧g x=false)→(l.filter g).length<(l.filter f).length
 |[],_,h=>by obtain⟨x,hx,_⟩:=h;cases hx
 |y::l,hfg,h=>by
  have hle:∀l:List α,(l.filter g).length≤(l.filter f).length:=by
   intro l
   induction l with
   |nil=>simp
   |cons z l ih=>
    simp only[List.filter_cons]
    cases hg:g z with
    |true=>rw[if_pos rfl,if_pos (hfg z hg)];simp only[pM];omega
    |false=>
     rw[if_neg (by simp)]
     split
     ·simp only[pM];omega
     ·exact ih
  obtain⟨x,hx,h1,h2⟩:=h
  simp only[List.filter_cons]
  rcases q9.1 hx with rfl|hx
  ·rw[h1,h2,if_pos rfl,if_neg (by simp)]
   have:=hle l
   simp only[pM];omega
  ·have ih:=za0 hfg ⟨x,hx,h1,h2⟩
   cases hg:g y with
   |true=>rw[if_pos rfl,if_pos (hfg y hg)];simp only[pM];omega
   |false=>
    rw[if_neg (by simp)]
    split
    ·simp only[pM];omega
    ·exact ih
def Y2(m:Nat)(lo:Nat→LOper)(e0:Env)(v:Nat→AVal)(p:Nat):Env:=(lo p).looks.map fun t=>(t,Wv m lo e0 v (fun x=>decide (x<p)) t)
def z0l(v:Nat→AVal)(q:Nat)(x:AVal):Nat→AVal:=fun p=>if p=q then x else v p
theorem Zx{e0:Env}{v:Nat→AVal}{q p:Nat}{x:AVal}(h:p≤q):Y2 m lo e0 (z0l v q x) p=Y2 m lo e0 v p:=by
 unfold Y2
 refine pU fun t _=>?_
 congr 1
 refine ue fun r hr hd=>⟨rfl,fun hlt=>?_⟩
 have:r<p:=by simpa using hlt
 unfold z0l
 rw[if_neg (by omega)]
theorem zkb{e0:Env}{v:Nat→AVal}{p t:Nat}:(Y2 m lo e0 v p).get t=if t∈(lo p).looks then Wv m lo e0 v (fun x=>decide (x<p)) t else .any:=by
 unfold Y2
 induction(lo p).looks with
 |nil=>simp[Env.get]
 |cons u l ih=>
  simp only[List.map_cons,Env.get,ih]
  by_cases h:u=t
  ·subst h;simp
  ·rw[if_neg h]
   by_cases h2:t∈l
   ·rw[if_pos h2,if_pos (List.mem_cons_of_mem _ h2)]
   ·rw[if_neg h2,if_neg (by intro h3;rcases q9.1 h3 with rfl|h3;exact h rfl;exact h2 h3)]
theorem zqy{listed:Array Bool}{i:Nat}(hi:i<listed.size):listed.getD i true=listed.getD i false:=by simp[hi]
section
variable {P:Program} {I:Nat→Nat→Prop} {β:Id→Option CLoc} {n:Nat} {H:AHeap} {w:World}
theorem zwb{vm:Bool}{zs:List AVal}:∀ {op:Op},j5 P vm op=some (.alloc zs)→∃t,op=.alloc t∧vr P t=some zs:=by
 intro op hl
 cases op with
 |alloc t=>
  refine⟨t,rfl,?_⟩
  simp only[j5] at hl
  repeat' (split at hl<;>try (cases hl;done))
  all_goals (first|(simp only[p0,LOp.alloc.injEq] at hl;subst hl;assumption)|(simp only[p8] at hl;obtain⟨z,hz,hl⟩:=hl;cases hl;exact hz))
 |call c=>
  exfalso
  obtain⟨callee,args,argTypes⟩:=c
  cases callee with
  |_=>
   simp only[j5] at hl
   unfold z15 at hl
   simp only at hl
   repeat' (split at hl<;>try (cases hl;done))
   all_goals (first|(simp only[p8] at hl;obtain⟨_,_,hl⟩:=hl;cases hl;done)|(cases hl;done)|skip)
 |_=>
  exfalso
  simp only[j5] at hl
  try unfold z2c at hl
  repeat' (split at hl<;>try (cases hl;done))
  all_goals (first|(simp only[p8] at hl;obtain⟨_,_,hl⟩:=hl;cases hl;done)|(cases hl;done)|skip)
def zy1(I:Nat→Nat→Prop)(β:Id→Option CLoc)(K0:Nat)(w:World)(c:CLoc):Prop:=
 ∀b k,c.has b k→¬I b k∧(∀id d,β id=some d→¬d.has b k)∧K0≤b∧b<w.heap.size
theorem zqp{I':Nat→Nat→Prop}{β':Id→Option CLoc}{n':Nat}{H':AHeap}{w':World}{K0:Nat}{c:CLoc}(hf:zy1 I β K0 w c)(hX:Ext I β n H w I' β' n' H' w'):zy1 I' β' K0 w' c:=by
 intro b k hk
 obtain⟨h1,h2,h3,h4⟩:=hf b k hk
 refine⟨fun h=>?_,fun id d hd hh=>?_,h3,qM h4 hX.size⟩
 ·obtain⟨id,d,g1,g2,_⟩:=hX.immNew b k h h1 h4
  exact h2 id d g1 g2
 ·by_cases hid:id.1<n
  ·rcases hX.old id hid with g|⟨g,_⟩
   ·exact h2 id d (g▸hd) hh
   ·rw[g] at hd;cases hd
  ·rcases hX.new id d b k (by omega) hd hh with g|⟨i0,c0,g1,g2,_⟩
   ·omega
   ·exact h2 i0 c0 g1 g2
theorem zt5{I':Nat→Nat→Prop}{β':Id→Option CLoc}{n':Nat}{H':AHeap}{w':World}{K0:Nat}{c:CLoc}{zs:List AVal}(hI:Inv I β n H w)(hf:zy1 I β K0 w c)(hX:Ext I β n H w I' β' n' H' w')(hB:RepB I β n w c (.one zs)):RepB I' β' n' w' c (.one zs):=by
 refine hB.mono' hX.imm (hX.heapI hI) hX.le hX.back (fun arr el fr h=>?_) (fun b k v hk hv=>?_) (fun o ho hk hm=>?_)
 ·obtain⟨arr',fr',g1,g2,g3⟩:=hX.shape c.blk arr el fr h
  refine⟨arr',fr',g1,g2,?_⟩
  rcases g3 with g3|g3
  ·exact .inl g3
  ·refine .inr fun k hk hc=>?_
   obtain⟨id,d,e1,_,e3⟩:=g3 k hk
   exact(hf c.blk k hc).2.1 id d e1 e3
 ·exact hX.cells b k v hv (fun id d e1 _ e3=>(hf b k hk).2.1 id d e1 e3)
 ·exact hX.maps c.blk o ho hm (fun id d e1 _ e3=>(hf c.blk 0 hk).2.1 id d e1 e3)
theorem zr9{K0:Nat}{c:CLoc}{zs:List AVal}(hI:Inv I β n H w)(hf:zy1 I β K0 w c)(hB:RepB I β n w c (.one zs)):Inv I (upd β (n,0) (some c)) (n+1) (((n,0),.one zs)::H) w:=by
 have hup:∀ (id:Id) d,id.1<n→upd β (n,0) (some c) id=some d→β id=some d:=fun id d hid h=>by rwa [yf _ _ (X7 hid)] at h
 have hmono:∀ {d:CLoc} {b:ABlock},RepB I β n w d b→RepB I (upd β (n,0) (some c)) (n+1) w d b:=fun h=>
  h.mono' (fun _ _ h=>h) (fun _ _ _=>rfl) (qG n) hup (fun arr el fr h=>⟨arr,fr,h,rfl,.inl rfl⟩) (fun _ _ _ _ h=>h) (fun _ _ _ h=>h)
 refine⟨fun id blk hid=>?_,fun i j d e b k hi hj hd he=>?_,fun i d b k hi hd=>?_,hI.imm,fun id hid=>?_,hI.glob⟩
 ·by_cases h:(n,0)=id
  ·subst h
   rw[AHeap.get_cons_same] at hid
   simp only[p0] at hid
   subst hid
   exact⟨c,we _ _ _,hmono hB⟩
  ·rw[AHeap.get_cons_other _ _ h] at hid
   obtain⟨d,hd,hb⟩:=hI.blocks id blk hid
   exact⟨d,by rw[yf _ _ (fun h'=>h h'.symm)];exact hd,hmono hb⟩
 ·rcases uo hi hI.fresh with⟨rfl,rfl⟩|⟨_,h1⟩
  ·rcases uo hj hI.fresh with⟨rfl,_⟩|⟨_,h2⟩
   ·rfl
   ·exact absurd he ((hf b k hd).2.1 j e h2)
  ·rcases uo hj hI.fresh with⟨rfl,rfl⟩|⟨_,h2⟩
   ·exact absurd hd ((hf b k he).2.1 i d h1)
   ·exact hI.inj i j d e b k h1 h2 hd he
 ·rcases uo hi hI.fresh with⟨rfl,rfl⟩|⟨_,h1⟩
  ·exact⟨(hf b k hd).1,(hf b k hd).2.2.2⟩
  ·exact hI.own i d b k h1 hd
 ·rw[yf _ _ (fun h=>by subst h;exact absurd hid (Nat.not_succ_le_self n))]
  exact hI.fresh id (by omega)
theorem znk{I0:Nat→Nat→Prop}{β0:Id→Option CLoc}{n0:Nat}{H0:AHeap}{w0:World}{c:CLoc}{zs:List AVal}(hI:Inv I β n H w)(hf:zy1 I β w0.heap.size w c)(hX:Ext I0 β0 n0 H0 w0 I β n H w) :
 Ext I0 β0 n0 H0 w0 I (upd β (n,0) (some c)) (n+1) (((n,0),.one zs)::H) w:=by
 refine⟨hX.os,hX.tape,hX.output,hX.size,hX.frame,hX.cells,hX.shape,hX.maps,hX.imm,hX.immNew,fun id hid=>?_,fun id d b k hid hd hk=>?_,fun id hid hg=>?_,Nat.le_succ_of_le hX.le⟩
 ·rw[yf _ _ (X7 (qM hid hX.le))];exact hX.old id hid
 ·rcases uo hd hI.fresh with⟨rfl,rfl⟩|⟨_,h1⟩
  ·exact .inl (hf b k hk).2.2.1
  ·exact hX.new id d b k hid h1 hk
 ·rw[AHeap.get_cons_other _ _ (X7 (qM hid hX.le)).symm] at hg
  exact hX.dom id hid hg
theorem zoj(hI:Inv I β n H w)(o:Obj):Inv I β n H (w.alloc o)∧Ext I β n H w I β n H (w.alloc o):=by
 have hp:Pushed w (w.alloc o) o:=⟨rfl,⟨rfl,fun _=>p9 _⟩,rfl,rfl⟩
 exact Yl hI hp.chg (p9 n) (fun _ _ h=>h.elim) (fun _ _ h=>h) (fun _ _ h h'=>absurd h h') (fun id hid=>.inl rfl) (fun id c b k hid hc _=>by rw[hI.fresh id hid] at hc;cases hc) hI.fresh
  (fun i j c d b k hi hj h h' _=>hI.inj i j c d b k hi hj h h') (fun _ _ _ _ _ _ h=>h) (fun _ _ h=>h) (fun id blk hid=>.inl ⟨hid,rfl,fun _ _ _ _ _ h=>h⟩)
theorem zt4{N:Lay}{ro:Option Nat}{ops:Array Oper}{QQ:Exit→Act→World→Prop}{K:Act→World→Prop}{i:Nat}{o:Oper}{lo:LOper}{a:Act}{zs:List AVal}(ho:ops[i]?=some o)(hlo:Xt P N ops o=some lo)(hop:lo.op=.alloc zs)(hg:lo.guard=none)(hI:Inv I β n H w){K0:Nat}(hK0:K0≤w.heap.size)
 (hK:∀c w',c.blk=w.heap.size→Inv I β n H w'→Ext I β n H w I β n H w'→zy1 I β K0 w' c→RepB I β n w' c (.one zs)→K (a.put o.dst (.pointer (some ⟨c.blk,c.base,none⟩))) w'):wpOpIn (z34 ro) 0 P ops QQ i K a w:=by
 obtain⟨hd,hdst,hopx,hgx⟩:=Y7 hlo
 have hne:lo.op≠.bad:=by rw[hop];exact fun h=>by cases h
 have hl:=Je hopx hne
 rw[hop] at hl
 obtain⟨t,h1,hz⟩:=zwb hl
 unfold wpOpIn
 simp only[ho]
 rcases hgx with⟨hg1,hg0⟩|⟨j,want,g,hg1,hg0,hg2,hg3⟩
 ·rw[Ym hg1,if_pos rfl]
  refine Ki (Yn (Je hopx hne)) ?_
  obtain⟨zv,zi,_,_,_,hzv,_⟩:=Zu (I:=I) (β:=β) (n:=n) (w:=w) hz
  have hex:(execOp a.eval o).run P w=.ok (.value (.pointer (some ⟨w.heap.size,0,none⟩))) (w.alloc (.cells zv.cells t)):=by
   obtain⟨dst,op,type,pos,after,guard⟩:=o
   simp only at h1
   subst h1
   simp only[execOp,pL,Instr.alloc,hzv,pF,newVar,newRow,run_newObj,pP,World.alloc_eq]
  unfold Oper.wp
  rw[hex,Oper.upon_value]
  have hp:=Z5 w (.cells zv.cells t)
  obtain⟨i1,x1⟩:=zoj hI (.cells zv.cells t)
  obtain⟨zv2,zi2,_,_,_,hzv2,hzr2⟩:=Zu (I:=I) (β:=β) (n:=n) (w:=w) hz
  have:zv2=zv:=by rw[hzv] at hzv2;cases hzv2;rfl
  subst this
  obtain⟨k1,_⟩:=z6w hI hp (fun k _=>by simp) EndOk.zero (Xo hzr2)
  obtain⟨c,hc,hB⟩:=k1.blocks (n,0) _ (AHeap.get_cons_same _ _ _)
  rw[we] at hc
  simp only[p0] at hc
  subst hc
  refine hK ⟨w.heap.size,0,zv2.cells.size,0,zs.length⟩ _ rfl i1 x1 (fun b k hk=>?_) ?_
  ·have hb:w.heap.size=b:=hk.1
   subst hb
   refine⟨fun h=>?_,fun id d e1 e3=>?_,hK0,by simp⟩
   ·obtain⟨v,hv⟩:=hI.imm _ _ h
    exact absurd (Yh hv) (Nat.lt_irrefl _)
   ·exact z1o hI e1 e3 (p9 _)
  ·refine Zq.2 ⟨rfl,.inl ⟨zv2.cells,t,(0,0),hp.new,p9 _,fun _=>⟨rfl,rfl,EndOk.zero⟩⟩,fun k _ hk=>hp.unfrozen (fun k _=>by simp) k hk,p9 _,?_,?_,?_⟩
   ·simpa using(Xo hzr2).1
   ·exact(Xo hzr2).2.1
   ·intro i r j x hi hj
    obtain⟨v,g1,g2,g3⟩:=(Xo hzr2).2.2 i r j x hi hj
    exact⟨v,by rw[hp.cell];exact g1,g2,g3.mono x1 hI⟩
 ·rw[hg0] at hg;cases hg
end
section
variable (D:DOk sw ops m lo loose ord pre)
include D
theorem DOk.agree{listed:Array Bool}(hd:Down ops listed){e0:Env}{v:Nat→AVal}{p t:Nat}(hp:p<m)(hun:listed.getD (ord p) false=false)(hall:∀d∈Yv ops (ord p),listed.getD d false=true)(ht:t∈(lo p).looks) :
 Wv m lo e0 v (fun x=>listed.getD (ord x) false) t=Wv m lo e0 v (fun x=>decide (x<p)) t:=by
 refine ue fun r hr hdst=>⟨?_,fun _=>rfl⟩
 have anc:=D.ancestors hd p hp hall
 rcases q8 r p with h|h|h
 ·rw[decide_eq_true h]
  exact anc _ (D.raw r p h hp t hdst ht)
 ·subst h
  rw[hun,decide_eq_false (by omega)]
 ·rw[decide_eq_false (by omega)]
  cases hl:listed.getD (ord r) false with
  |false=>rfl
  |true=>
   have:=D.ancestors hd r hr (hd _ hl) _ (D.war p r h hr t hdst ht)
   rw[hun] at this;cases this
omit D in
theorem Xg{listed:Array Bool}{i j:Nat}(hi:i<listed.size):(listed.setIfInBounds i true).getD j false=if i=j then true else listed.getD j false:=by
 by_cases h:i=j
 ·subst h;simp[hi]
 ·simp[h]
omit D in
theorem zgb{a:Act}{d:Nat}{v:Value}(h:d<a.tmps.size):(a.put (some d) v).tmps.getD d undef=v:=by simp[Act.put,h]
omit D in
theorem zde{a:Act}{d:Option Nat}{t:Nat}{v:Value}(h:d≠some t):(a.put d v).tmps.getD t undef=a.tmps.getD t undef:=by
 cases d with
 |none=>rfl
 |some d=>
  have hdt:d≠t:=fun h'=>h (by rw[h'])
  simp[Act.put,Array.getD_eq_getD_getElem?,hdt]
omit D in
theorem zy8{listed:Array Bool}(hs:listed.size=m){i:Nat}(hi:i<m)(hun:listed.getD i false=false){fuel:Nat}(hf:unl m listed≤fuel+1):unl m (listed.setIfInBounds i true)≤fuel:=by
 have:unl m (listed.setIfInBounds i true)<unl m listed:=by
  refine za0 (fun x hx=>?_) ⟨i,q7.2 hi,by rw[hun];rfl,by rw[Xg (by omega),if_pos rfl];rfl⟩
  rw[Xg (by omega)] at hx
  split at hx
  ·simp at hx
  ·exact hx
 omega
omit D in
theorem Down.set{listed:Array Bool}(hd:Down ops listed)(hs:listed.size=m){i:Nat}(hi:i<m)(hall:∀d∈Yv ops i,listed.getD d false=true):Down ops (listed.setIfInBounds i true):=by
 intro j hj d hdj
 rw[Xg (by omega)] at hj ⊢
 split
 ·rfl
 ·split at hj
  ·rename_i h;subst h;exact hall d hdj
  ·exact hd j hj d hdj
omit D in
theorem ztu{l:LOper}(h:z5q l=true):∃s zs len parts,l.op=.mkSl true s zs len parts:=by
 unfold z5q at h
 split at h
 ·rename_i h1;exact⟨_,_,_,_,h1⟩
 ·cases h
omit D in
theorem z3n{l:LOper}(h:z5q l=true):Zl l.op=false:=by
 obtain⟨_,_,_,_,h1⟩:=ztu h
 rw[h1];rfl
omit D in
theorem z6q{l:LOper}{zs:List AVal}(h:z5q l=true)(ha:l.op=.alloc zs):False:=by
 obtain⟨_,_,_,_,h1⟩:=ztu h
 rw[h1] at ha;cases ha
omit D in
theorem zeq{e:Env}{H:AHeap}{n:Nat}{K:AVal→AHeap→Nat→Prop}{s:Nat}{zs:List AVal}{len:Nat}{parts:List (Nat×LOpd)}(hx:Yf P e H n K (.mkSl true s zs len parts)) :
 ∃val,(∀ (H:AHeap) (n:Nat) (K':AVal→AHeap→Nat→Prop),K' val H n→Yf P e H n K' (.mkSl true s zs len parts))∧K val H n:=by
 simp only[Yf] at hx ⊢
 split at hx<;>try (exact hx.elim)
 rename_i p rows hrows
 split at hx<;>try (exact hx.elim)
 rename_i rows' himm
 obtain⟨g1,g2,g3,g4⟩:=hx
 exact⟨_,fun H n K' hk=>⟨g1,g2,g3,hk⟩,g4⟩
omit D in
theorem zsh{l:LOper}{e:Env}{H:AHeap}{n:Nat}{K:AVal→AHeap→Nat→Prop}(h:z5q l=true)(hx:z8w P e H n K l):∃val,(∀H n,z8w P e H n (fun x H' n'=>x=val∧H'=H∧n'=n) l)∧K val H n:=by
 obtain⟨s,zs,len,parts,h1⟩:=ztu h
 unfold z8w at hx ⊢
 rw[h1] at hx ⊢
 cases hg:l.guard with
 |none=>
  rw[hg] at hx
  simp only at hx ⊢
  obtain⟨val,k1,k2⟩:=zeq hx
  exact⟨val,fun H n=>k1 H n _ ⟨rfl,rfl,rfl⟩,k2⟩
 |some gw=>
  obtain⟨g,want⟩:=gw
  rw[hg] at hx
  simp only at hx ⊢
  cases hp:Xw (e.get g) want with
  |none=>rw[hp] at hx;exact hx.elim
  |some p=>
   rw[hp] at hx
   simp only at hx ⊢
   rcases hx with⟨R,k1,k2⟩|⟨k1,k2⟩
   ·refine⟨.cnd p R,fun H n=>.inl ⟨R,fun hpt=>?_,rfl,rfl,rfl⟩,k2⟩
    obtain⟨val,q1,q2⟩:=zeq (k1 hpt)
    obtain⟨rfl,_,_⟩:=q2
    exact q1 H n _ ⟨rfl,rfl,rfl⟩
   ·cases p with
    |true=>
     obtain⟨val,q1,q2⟩:=zeq (k1 rfl)
     exact⟨val,fun H n=>.inr ⟨fun _=>q1 H n _ ⟨rfl,rfl,rfl⟩,nofun⟩,q2⟩
    |false=>
     obtain⟨u,hu,hk⟩:=k2 rfl
     exact⟨u,fun H n=>.inr ⟨nofun,fun _=>⟨u,hu,rfl,rfl,rfl⟩⟩,hk⟩
def zvm(P:Program)(m:Nat)(lo:Nat→LOper)(e0:Env)(v:Nat→AVal)(H:AHeap)(p:Nat):Prop:=
 (z5q (lo p)=false→(Kx (Y2 m lo e0 v p) H (lo p)).gives (v p))∧(z5q (lo p)=true→∀H n,z8w P (Y2 m lo e0 v p) H n (fun x H' n'=>x=v p∧H'=H∧n'=n) (lo p))
def Ear(lo:Nat→LOper)(I:Nat→Nat→Prop)(β:Id→Option CLoc)(n:Nat)(w:World)(K0:Nat)(a:Act)(loc:Nat→CLoc)(p:Nat):Prop:=
 zy1 I β K0 w (loc p)∧∃zs d,(lo p).op=.alloc zs∧(lo p).guard=none∧(lo p).dst=some d∧RepB I β n w (loc p) (.one zs)∧a.tmps.getD d undef=.pointer (some ⟨(loc p).blk,(loc p).base,none⟩)
end
theorem Wo{l:LOper}(h:zeh l=true):l.dst=none∧l.guard=none∧∃k a x,l.op=.store k a x:=by
 unfold zeh at h
 split at h
 ·rename_i g1 g2 g3;exact⟨g3,g2,_,_,_,g1⟩
 ·cases h
theorem znc{l:LOper}(h:zeh l=true):Zl l.op=false∧z5q l=false∧Q6 l.op=false:=by
 obtain⟨_,_,k,a,x,h1⟩:=Wo h
 unfold z5q
 rw[h1]
 exact⟨rfl,rfl,rfl⟩
def ApR(sw:Bool)(l l':LOper)(R:Env→AHeap→Nat→Prop):Prop:=
 sw=true→∀k a x k' a' x',l.op=.store k a x→l'.op=.store k' a' x'→∀e H n,R e H n→zep (a.ev e) (a'.ev e)
theorem zk4{x y:AVal}(h:zep x y):zep y x:=by
 unfold zep at h
 split at h
 ·exact fun h'=>h h'.symm
 ·exact h.elim
theorem AHeap.set_comm:∀ (H:AHeap) {b c:Id} (x y:ABlock),b≠c→(H.set b x).set c y=(H.set c y).set b x
 |[],_,_,_,_,_=>rfl
 |(k,v)::r,b,c,x,y,h=>by
  by_cases h1:k=b
  ·subst h1
   by_cases h2:k=c
   ·exact absurd h2 h
   ·simp[AHeap.set,h2]
  ·by_cases h2:k=c
   ·subst h2
    simp[AHeap.set,h1]
   ·simp[AHeap.set,h1,h2,AHeap.set_comm r x y h]
def sg(q x:Nat):Nat:=if x=q then q+1 else if x=q+1 then q else x
theorem zkq{q:Nat}:sg q q=q+1:=by simp[sg]
theorem zrx{q:Nat}:sg q (q+1)=q:=by simp[sg]
theorem z1g{q x:Nat}(h:x<q):sg q x=x:=by unfold sg;rw[if_neg (by omega),if_neg (by omega)]
theorem zwi{q x m:Nat}(hm:q+2=m)(h:x<m):sg q x<m:=by unfold sg;split;omega;split<;>omega
theorem zx3{q x:Nat}:sg q (sg q x)=x:=by
 by_cases h:x=q
 ·subst h;rw[zkq,zrx]
 ·by_cases h2:x=q+1
  ·subst h2;rw[zrx,zkq]
  ·have:sg q x=x:=by unfold sg;rw[if_neg h,if_neg h2]
   rw[this,this]
theorem z4i{q x y m:Nat}(hm:q+2=m)(h:x<y)(hy:y<m):(x=q∧y=q+1)∨(x<q∧sg q x=x∧x<sg q y∧sg q y<m):=by
 by_cases h1:x=q
 ·left;omega
 ·right
  have:x<q:=by omega
  refine⟨this,z1g this,?_,zwi hm hy⟩
  unfold sg;split;omega;split<;>omega
theorem DOk.swap(D:DOk sw ops m lo loose ord pre){q:Nat}(hsw:sw=true)(hm:q+2=m)(h1:zeh (lo q)=true)(h2:zeh (lo (q+1))=true)(hnd:ord q∉Yv ops (ord (q+1))) :
 DOk sw ops m (fun x=>lo (sg q x)) (fun x=>loose (sg q x)) (fun x=>ord (sg q x)) pre:=by
 have d1:=(Wo h1).1
 have d2:=(Wo h2).1
 refine⟨D.size,fun p hp=>D.lt _ (zwi hm hp),fun p q' hp hq h=>?_,fun i hi=>?_,fun p hp d hd=>?_,D.just,fun p q' hpq hq d hd hl=>?_,fun p q' hpq hq d hd hl=>?_,fun p q' hpq hq d hd hd2=>?_,fun p q' hpq hq hp hmf=>?_,fun _ x hx hl=>?_,fun p q' hpq hq hp hmf hl=>?_⟩
 ·have:=D.inj _ _ (zwi hm hp) (zwi hm hq) h
  rw[←zx3 (q:=q) (x:=p),this,zx3]
 ·obtain⟨p,hp,rfl⟩:=D.surj i hi
  exact⟨sg q p,zwi hm hp,by rw[zx3]⟩
 ·obtain⟨y,hy,rfl⟩:=D.topo _ (zwi hm hp) d hd
  rcases q8 p q with h|h|h
  ·rw[z1g h] at hy
   exact⟨y,hy,by rw[z1g (by omega)]⟩
  ·subst h
   rw[zkq] at hy hd
   have:y<p:=by
    rcases pD y p with h|h
    ·exact h
    ·have:y=p:=by omega
     subst this;exact absurd hd hnd
   exact⟨y,this,by rw[z1g this]⟩
  ·have:p=q+1:=by omega
   subst this
   rw[zrx] at hy
   exact⟨y,by omega,by rw[z1g hy]⟩
 ·rcases z4i hm hpq hq with⟨rfl,rfl⟩|⟨g1,g2,g3,g4⟩
  ·rw[zrx,d1] at hd;cases hd
  ·rw[g2] at hl ⊢
   exact D.war _ _ g3 g4 d hd hl
 ·rcases z4i hm hpq hq with⟨rfl,rfl⟩|⟨g1,g2,g3,g4⟩
  ·rw[zkq,d2] at hd;cases hd
  ·rw[g2] at hd ⊢
   exact D.raw _ _ g3 g4 d hd hl
 ·rcases z4i hm hpq hq with⟨rfl,rfl⟩|⟨g1,g2,g3,g4⟩
  ·rw[zkq,d2] at hd;cases hd
  ·rw[g2] at hd
   exact D.waw _ _ g3 g4 d hd hd2
 ·rcases z4i hm hpq hq with⟨rfl,rfl⟩|⟨g1,g2,g3,g4⟩
  ·rw[zkq,zrx]
   exact .inr (.inr ⟨hsw,hm,h2,h1⟩)
  ·rw[g2] at hp hmf ⊢
   rcases D.eff _ _ g3 g4 hp hmf with h|h|⟨_,h,_⟩
   ·exact .inl h
   ·exact .inr (.inl h)
   ·omega
 ·have hxq:x<q:=by omega
  rw[z1g hxq] at hl ⊢
  have:=D.swl hsw x hx hl
  have e1:m-1=q+1:=by omega
  have e2:m-2=q:=by omega
  rw[e1,e2] at this ⊢
  rw[zkq,zrx]
  exact⟨this.2,this.1⟩
 ·rcases z4i hm hpq hq with⟨rfl,rfl⟩|⟨g1,g2,g3,g4⟩
  ·rw[zkq,(znc h2).2.2] at hl;cases hl
  ·rw[g2] at hl ⊢
   exact D.loose _ _ g3 g4 hp hmf hl
theorem z8h{q:Nat}(hm:q+2=m)(h1:zeh (lo q)=true)(h2:zeh (lo (q+1))=true){e0:Env}{v:Nat→AVal}{S S':Nat→Bool}{t:Nat}(hS:∀x,x<q→S x=S' x):Wv m (fun x=>lo (sg q x)) e0 v S t=Wv m lo e0 v S' t:=by
 have d1:=(Wo h1).1
 have d2:=(Wo h2).1
 unfold Wv
 rw[z18 (g:=fun p=>S' p&&((lo p).dst==some t)) (fun x hx=>?_)]
 have hxm:=q7.1 hx
 show(S x&&(lo (sg q x)).dst==some t)=_
 rcases q8 x q with h|h|h
 ·rw[z1g h,hS x h]
 ·subst h;rw[zkq,d1,d2];simp
 ·have:x=q+1:=by omega
  subst this;rw[zrx,d1,d2];simp
theorem zqb{lo:LOper}{e:Env}{a:LOpd}(h:∀t∈a.tmps,t∈lo.looks):a.ev (lo.sees e)=a.ev e:=by
 cases a with
 |t i=>
  simp only[LOpd.ev]
  unfold LOper.sees
  have hi:i∈lo.looks:=h i (by simp[LOpd.tmps])
  generalize lo.looks=l at hi
  induction l with
  |nil=>cases hi
  |cons u l ih=>
   simp only[List.map_cons,Env.get]
   by_cases hu:u=i
   ·subst hu;simp
   ·rw[if_neg hu]
    rcases q9.1 hi with rfl|hi
    ·exact absurd rfl hu
    ·exact ih hi
 |c v=>rfl
theorem zcs{e:Env}{H:AHeap}{n:Nat}{K:AVal→AHeap→Nat→Prop}{m:Nat}{a x:LOpd}(h:Yf P e H n K (.store m a x)) :
 ∃b i off bl bl',a.ev e=.ptr b i off∧H.get b=some bl∧(∀ (H:AHeap) (n:Nat) (K':AVal→AHeap→Nat→Prop),H.get b=some bl→K' .any (H.set b bl') n→Yf P e H n K' (.store m a x))∧K .any (H.set b bl') n:=by
 simp only[Yf] at h ⊢
 split at h<;>try (exact h.elim)
 rename_i b i off cs ha hc
 split at h<;>try (exact h.elim)
 ·rename_i s es hb
  obtain⟨q1,q2,q3,q4,q5,q6⟩:=h
  refine⟨b,i,off,_,_,ha,hb,fun H n K' hg hk=>?_,q6⟩
  simp only[hg]
  exact⟨q1,q2,q3,q4,q5,hk⟩
 ·rename_i rs hb
  obtain⟨q1,q2,q3,q4,q5,q6⟩:=h
  refine⟨b,i,off,_,_,ha,hb,fun H n K' hg hk=>?_,q6⟩
  simp only[hg]
  exact⟨q1,q2,q3,q4,q5,hk⟩
theorem zxg{l1 l2:LOper}{e:Env}{H:AHeap}{n:Nat}{C1 C2:AHeap→Prop}{R:Env→AHeap→Nat→Prop}(h1:zeh l1=true)(h2:zeh l2=true)(hap:ApR true l1 l2 R){K':AVal→AHeap→Nat→Prop}(hK':∀v H n,R e H n→K' v H n)
 (hx:z8w P (l1.sees e) H n (fun v H' n'=>C1 H'∧z8w P (l2.sees e) H' n' (fun v2 H2 n2=>C2 H2∧R e H2 n2) l2) l1) :
 z8w P (l2.sees e) H n (fun v H' n'=>n'=n∧z8w P (l1.sees e) H' n' K' l1) l2:=by
 obtain⟨_,g1,k,a,x,o1⟩:=Wo h1
 obtain⟨_,g2,k',a',x',o2⟩:=Wo h2
 have ea:a.ev (l1.sees e)=a.ev e:=zqb (fun t ht=>by unfold LOper.looks;rw[o1];simp[LOp.tmps,ht])
 have ea':a'.ev (l2.sees e)=a'.ev e:=zqb (fun t ht=>by unfold LOper.looks;rw[o2];simp[LOp.tmps,ht])
 have hap:=hap rfl k a x k' a' x' o1 o2
 unfold z8w at hx ⊢
 simp only[g1,g2,o1,o2] at hx ⊢
 obtain⟨b1,i1,f1,bl1,bl1',q1,q2,q3,_,hx⟩:=zcs hx
 obtain⟨b2,i2,f2,bl2,bl2',r1,r2,r3,_,hx⟩:=zcs hx
 rw[ea] at q1
 rw[ea'] at r1
 have hne:=hap _ _ _ hx
 rw[q1,r1] at hne
 have hne:b1≠b2:=hne
 rw[AHeap.get_set,if_neg hne] at r2
 refine r3 H n _ r2 ⟨rfl,?_⟩
 refine q3 _ n _ ?_ ?_
 ·rw[AHeap.get_set,if_neg (fun h=>hne h.symm)];exact q2
 ·rw[←AHeap.set_comm H bl1' bl2' hne];exact hK' _ _ _ hx
theorem zzf{ro:Option Nat}{R:Env→AHeap→Nat→Prop}{QQ:Exit→Act→World→Prop}{e0:Env}{I0:Nat→Nat→Prop}{β0:Id→Option CLoc}{n0:Nat}{H0:AHeap}{w0:World}
 (hR:∀e H n I β w a,R e H n→Inv I β n H w→RepEnv I β n w e a→a.tmps.size=N.n→Dfr P w0.heap.size w a.defers→Ext I0 β0 n0 H0 w0 I β n H w→QQ .normal a w) :
 ∀ (k:Nat) (lo:Nat→LOper) (loose:Nat→List Nat) (ord:Nat→Nat) (D:DOk sw ops m lo loose ord pre) (hops:∀p,p<m→∃o,ops[ord p]?=some o∧Xt P N ops o=some (lo p)) (hap:sw=true→2≤m→ApR sw (lo (m-2)) (lo (m-1)) R) (fuel q:Nat) (items:List DItem) (listed:Array Bool) (loc:Nat→CLoc) (v:Nat→AVal) (done:List (Nat×LOper×Env×AVal)) (e:Env) (H:AHeap) (n:Nat) (I:Nat→Nat→Prop) (β:Id→Option CLoc) (w:World) (a:Act),fuel+items.length≤k →
  items.length+q=m→(∀i it,items[i]?=some it→it.lo=lo (q+i)∧it.loose=loose (q+i))→listed.size=m→Down ops listed→(∀p,p<m→listed.getD (ord p) false=true→p<q∨Ear lo I β n w w0.heap.size a loc p) →
  (∀p p',q≤p→q≤p'→p<m→p'<m→listed.getD (ord p) false=true→listed.getD (ord p') false=true→p≠p'→∀b k,(loc p).has b k→¬(loc p').has b k)→(∀p,q≤p→v p=.any) →
  (∀p,p<q→Zl (lo p).op=false→z5q (lo p)=false→listed.getD (ord p) false=true)→unl m listed≤fuel →
  (∀t,e.get t=Wv m lo e0 v (fun x=>decide (x<q)) t)→(∀t,Rep I β n w (Wv m lo e0 v (fun x=>listed.getD (ord x) false) t) (a.tmps.getD t undef)) →
  (∀p,p<q→listed.getD (ord p) false=false→zvm P m lo e0 v H p) →
  (∀p,p<q→listed.getD (ord p) false=false→Q6 (lo p).op=true→(p,lo p,Y2 m lo e0 v p,v p)∈done) →
  xd P items q done R e H n→Inv I β n H w→a.tmps.size=N.n→Dfr P w0.heap.size w a.defers→Ext I0 β0 n0 H0 w0 I β n H w→wpAnyIn (z34 ro) 0 P .any ops QQ fuel listed a w:=by
 intro k
 induction k using Nat.strongRecOn with
 |_ k ih=>
 intro lo loose ord D hops hap fuel q items listed loc v done e H n I β w a hk hlen hits hsz hdn hsub hdis hany heff hun henv hrep hpend hdone hx hI hN hD hX
 -- an item at the head that leaves the heap alone is put among the pending
 by_cases hpure:∃it rest,items=it::rest∧Zl it.lo.op=true
 ·obtain⟨it,rest,rfl,hp⟩:=hpure
  obtain⟨h1,h2⟩:=hits 0 it rfl
  simp only[pX] at h1 h2
  simp only[pM] at hlen hk
  have hq:q<m:=by omega
  unfold xd at hx
  rw[hp] at hx
  simp only at hx
  obtain⟨val,hgv,hx⟩:=hx
  ·have hsees:Y2 m lo e0 (z0l v q val) q=it.lo.sees e:=by
    rw[Zx (p9 q),h1]
    unfold Y2 LOper.sees
    exact pU fun t _=>by rw[henv t]
   have hqun:listed.getD (ord q) false=false:=by
    cases hl:listed.getD (ord q) false with
    |false=>rfl
    |true=>
     rcases hsub q hq hl with h|⟨_,zs,d,h,_⟩
     ·omega
     ·rw[←h1] at h;rw[h] at hp;cases hp
   have hlt:∀p,p<q→z0l v q val p=v p:=fun p hp=>by unfold z0l;rw[if_neg (by omega)]
   have hqv:z0l v q val q=val:=by unfold z0l;rw[if_pos rfl]
   refine ih (fuel+rest.length) (by omega) lo loose ord D hops hap fuel (q+1) rest listed loc (z0l v q val) _ _ H n I β w a (p9 _) (by omega) ?_ hsz hdn (fun p hp hl=>(hsub p hp hl).imp (fun h=>Nat.lt_succ_of_lt h) id) (fun p p' h1 h2=>hdis p p' (by omega) (by omega)) (fun p hp=>by unfold z0l;rw[if_neg (by omega)];exact hany p (by omega)) ?_ hun ?_ ?_ ?_ ?_ hx hI hN hD hX
   ·intro i it' hi
    have:=hits (i+1) it' (by simpa using hi)
    rw[show q+1+i=q+(i+1) by omega]
    exact this
   ·intro p hp2 hef hmf
    rcases pD p q with h|h
    ·exact heff p h hef hmf
    ·have:p=q:=by omega
     subst this
     rw[←h1,hp] at hef;cases hef
   ·intro t
    by_cases hd:it.lo.dst=some t
    ·rw[hd,Env.get_put_same,Kp D hq (by simp) (by rw[←h1];exact hd),hqv]
    ·have:(e.put it.lo.dst val).get t=e.get t:=by
      cases hdd:it.lo.dst with
      |none=>rfl
      |some d=>exact Env.get_put_other e val (by intro h;subst h;exact hd hdd)
     rw[this,henv t]
     refine ue fun p hp2 hdst=>?_
     have hne:p≠q:=by intro h;subst h;rw[←h1] at hdst;exact hd hdst
     refine⟨by by_cases h:p<q<;>simp[h]<;>omega,fun hl=>(hlt p (by simpa using hl)).symm⟩
   ·intro t
    rw[ue (S':=fun x=>listed.getD (ord x) false) (v':=v) (fun p hp2 _=>⟨rfl,fun hl=>by unfold z0l;rw[if_neg (fun h=>by subst h;rw[hqun] at hl;cases hl)]⟩)]
    exact hrep t
   ·intro p hp2 hl
    rcases pD p q with h|h
    ·unfold zvm;rw[Zx (by omega),hlt p h];exact hpend p h hl
    ·have:p=q:=by omega
     subst this
     unfold zvm
     rw[hsees,hqv,←h1]
     exact⟨fun _=>hgv,fun hm=>by have:=z3n hm;rw[hp] at this;cases this⟩
   ·intro p hp2 hl hld
    rcases pD p q with h|h
    ·rw[Zx (by omega),hlt p h]
     have:=hdone p h hl hld
     split
     ·exact List.mem_cons_of_mem _ this
     ·exact this
    ·have:p=q:=by omega
     subst this
     rw[hsees,hqv,←h1]
     rw[←h1] at hld
     rw[if_pos hld]
     exact List.mem_cons_self ..
 by_cases hmk:∃it rest,items=it::rest∧z5q it.lo=true
 ·-- a slice literal waits for its turn, too
  obtain⟨it,rest,rfl,hp⟩:=hmk
  obtain⟨h1,h2⟩:=hits 0 it rfl
  simp only[pX] at h1 h2
  simp only[pM] at hlen hk
  have hq:q<m:=by omega
  have hnp:=z3n hp
  unfold xd at hx
  rw[hnp] at hx
  simp only at hx
  obtain⟨val,hgv,_,hx⟩:=zsh hp hx
  have hsees:Y2 m lo e0 (z0l v q val) q=it.lo.sees e:=by
   rw[Zx (p9 q),h1]
   unfold Y2 LOper.sees
   exact pU fun t _=>by rw[henv t]
  have hqun:listed.getD (ord q) false=false:=by
   cases hl:listed.getD (ord q) false with
   |false=>rfl
   |true=>
    rcases hsub q hq hl with h|⟨_,zs,d,h,_⟩
    ·omega
    ·rw[←h1] at h;exact(z6q hp h).elim
  have hlt:∀p,p<q→z0l v q val p=v p:=fun p hp=>by unfold z0l;rw[if_neg (by omega)]
  have hqv:z0l v q val q=val:=by unfold z0l;rw[if_pos rfl]
  refine ih (fuel+rest.length) (by omega) lo loose ord D hops hap fuel (q+1) rest listed loc (z0l v q val) _ _ H n I β w a (p9 _) (by omega) ?_ hsz hdn (fun p hp hl=>(hsub p hp hl).imp (fun h=>Nat.lt_succ_of_lt h) id) (fun p p' h1 h2=>hdis p p' (by omega) (by omega)) (fun p hp=>by unfold z0l;rw[if_neg (by omega)];exact hany p (by omega)) ?_ hun ?_ ?_ ?_ ?_ hx hI hN hD hX
  ·intro i it' hi
   have:=hits (i+1) it' (by simpa using hi)
   rw[show q+1+i=q+(i+1) by omega]
   exact this
  ·intro p hp2 hef hmf
   rcases pD p q with h|h
   ·exact heff p h hef hmf
   ·have:p=q:=by omega
    subst this
    rw[←h1,hp] at hmf;cases hmf
  ·intro t
   by_cases hd:it.lo.dst=some t
   ·rw[hd,Env.get_put_same,Kp D hq (by simp) (by rw[←h1];exact hd),hqv]
   ·have:(e.put it.lo.dst val).get t=e.get t:=by
     cases hdd:it.lo.dst with
     |none=>rfl
     |some d=>exact Env.get_put_other e val (by intro h;subst h;exact hd hdd)
    rw[this,henv t]
    refine ue fun p hp2 hdst=>?_
    have hne:p≠q:=by intro h;subst h;rw[←h1] at hdst;exact hd hdst
    refine⟨by by_cases h:p<q<;>simp[h]<;>omega,fun hl=>(hlt p (by simpa using hl)).symm⟩
  ·intro t
   rw[ue (S':=fun x=>listed.getD (ord x) false) (v':=v) (fun p hp2 _=>⟨rfl,fun hl=>by unfold z0l;rw[if_neg (fun h=>by subst h;rw[hqun] at hl;cases hl)]⟩)]
   exact hrep t
  ·intro p hp2 hl
   rcases pD p q with h|h
   ·unfold zvm;rw[Zx (by omega),hlt p h];exact hpend p h hl
   ·have:p=q:=by omega
    subst this
    unfold zvm
    rw[hsees,hqv,←h1]
    exact⟨fun hm=>(by rw[hp] at hm;cases hm),fun _=>hgv⟩
  ·intro p hp2 hl hld
   rcases pD p q with h|h
   ·rw[Zx (by omega),hlt p h]
    exact hdone p h hl hld
   ·have:p=q:=by omega
    subst this
    rw[←h1] at hld
    exfalso
    obtain⟨_,_,_,_,g1⟩:=ztu hp
    rw[g1] at hld
    cases hld
 by_cases hclaim:∃it rest,items=it::rest∧Zl it.lo.op=false∧listed.getD (ord q) false=true
 ·-- the head has been carried out ahead of its place
  obtain⟨it,rest,rfl,hnp,hlq⟩:=hclaim
  obtain⟨h1,h2⟩:=hits 0 it rfl
  simp only[pX] at h1 h2
  simp only[pM] at hlen hk
  have hq:q<m:=by omega
  obtain⟨hf,zs,d,hop,hgd,hdq,hB,hptr⟩:=(hsub q hq hlq).resolve_left (Nat.lt_irrefl q)
  unfold xd at hx
  rw[hnp] at hx
  simp only at hx
  have hsees:it.lo.sees e=Y2 m lo e0 v q:=by
   rw[h1]
   unfold Y2 LOper.sees
   exact pU fun t _=>by rw[henv t]
  rw[hsees,h1] at hx
  unfold z8w at hx
  rw[hgd] at hx
  simp only[hop,Yf] at hx
  obtain⟨hloose,hx2⟩:=hx
  have i2:=zr9 hI hf hB
  have x2:=znk (zs:=zs) hI hf hX
  have hup:∀ (id:Id) c,id.1<n→upd β (n,0) (some (loc q)) id=some c→β id=some c:=fun id c hid h=>by rwa [yf _ _ (X7 hid)] at h
  have hmono:∀ {x:AVal} {r:Value},Rep I β n w x r→Rep I (upd β (n,0) (some (loc q))) (n+1) w x r:=fun h=>h.mono' (fun _ _ h=>h) (fun _ _ _=>rfl) (qG n) hup
  have hlt:∀x,x≠q→z0l v q (.ptr (n,0) 0 0) x=v x:=fun x hx=>by unfold z0l;rw[if_neg hx]
  have hqv:z0l v q (.ptr (n,0) 0 0) q=.ptr (n,0) 0 0:=by unfold z0l;rw[if_pos rfl]
  refine ih (fuel+rest.length) (by omega) lo loose ord D hops hap fuel (q+1) rest listed loc (z0l v q (.ptr (n,0) 0 0)) done _ _ (n+1) I (upd β (n,0) (some (loc q))) w a (p9 _) (by omega) ?_ hsz hdn ?_ (fun p p' g1 g2=>hdis p p' (by omega) (by omega)) (fun p hp=>by rw[hlt p (by omega)];exact hany p (by omega)) ?_ hun ?_ ?_ ?_ ?_ hx2 i2 hN hD x2
  ·intro i it' hi
   have:=hits (i+1) it' (by simpa using hi)
   rw[show q+1+i=q+(i+1) by omega]
   exact this
  ·intro p hp hl
   by_cases hpq:p=q
   ·left;omega
   ·rcases hsub p hp hl with h|⟨g1,zs',d',g2,g3,g4,g5,g6⟩
    ·left;omega
    ·by_cases hlt2:p<q
     ·left;omega
     ·refine .inr ⟨fun b k hk=>?_,zs',d',g2,g3,g4,?_,g6⟩
      ·obtain⟨e1,e2,e3,e4⟩:=g1 b k hk
       refine⟨e1,fun id c hc hh=>?_,e3,e4⟩
       rcases uo hc hI.fresh with⟨rfl,rfl⟩|⟨_,h1⟩
       ·exact hdis p q (by omega) (p9 q) hp hq hl hlq hpq b k hk hh
       ·exact e2 id c h1 hh
      ·exact g5.mono' (fun _ _ h=>h) (fun _ _ _=>rfl) (qG n) hup (fun arr el fr h=>⟨arr,fr,h,rfl,.inl rfl⟩) (fun _ _ _ _ h=>h) (fun _ _ _ h=>h)
  ·intro p hp hef hmf
   rcases pD p q with h|h
   ·exact heff p h hef hmf
   ·have:p=q:=by omega
    subst this;exact hlq
  ·intro t
   by_cases hd:(lo q).dst=some t
   ·rw[hd,Env.get_put_same,Kp D hq (by simp) hd,hqv]
   ·have:(e.put (lo q).dst (.ptr (n,0) 0 0)).get t=e.get t:=by
     cases hdd:(lo q).dst with
     |none=>rfl
     |some d=>exact Env.get_put_other e _ (by intro h;subst h;exact hd hdd)
    rw[this,henv t]
    refine ue fun x hx2 hdx=>?_
    have hne:x≠q:=by intro h;subst h;exact hd hdx
    refine⟨by by_cases h:x<q<;>simp[h]<;>omega,fun _=>(hlt x hne).symm⟩
  ·intro t
   by_cases hd:(lo q).dst=some t
   ·rw[Kp D hq hlq hd,hqv]
    rw[hdq] at hd
    simp only[p0] at hd
    subst hd
    rw[hptr]
    refine .ptr (n,0) 0 0 _ (pV n) (fun c hc=>?_)
    rw[we] at hc
    simp only[p0] at hc
    subst hc
    simp
   ·have:=hmono (hrep t)
    rw[ue (S':=fun x=>listed.getD (ord x) false) (v':=z0l v q (.ptr (n,0) 0 0)) (fun x hx hdx=>?_)] at this
    ·exact this
    ·have hne:x≠q:=by intro h;subst h;exact hd hdx
     exact⟨rfl,fun _=>(hlt x hne).symm⟩
  ·intro x hx hlx
   have hxq:x<q:=by
    rcases pD x q with h|h
    ·exact h
    ·have:x=q:=by omega
     subst this;rw[hlq] at hlx;cases hlx
   unfold zvm
   rw[Zx (by omega),hlt x (by omega)]
   refine⟨fun hmf=>?_,fun hm=>(hpend x hxq hlx).2 hm⟩
   cases hld:Q6 (lo x).op with
   |false=>rw[z1d (H':=H) hld];exact(hpend x hxq hlx).1 hmf
   |true=>
    have hmem:=hdone x hxq hlx hld
    have hl2:=D.loose x q hxq hq (by rw[←h1];exact hnp) (Bool.eq_false_iff.2 fun hm=>z6q hm hop) hld
    rcases hl2 with h3|h3
    ·have:=D.ancestors hdn q hq (hdn _ hlq) _ h3
     rw[hlx] at this;cases this
    ·exact hloose _ hmem (by rw[h2];exact h3)
  ·intro x hx hlx hld
   have hxq:x<q:=by
    rcases pD x q with h|h
    ·exact h
    ·have:x=q:=by omega
     subst this;rw[hlq] at hlx;cases hlx
   rw[Zx (by omega),hlt x (by omega)]
   exact hdone x hxq hlx hld
 ·-- all listed: the end
  have fin:(∀p,p<m→listed.getD (ord p) false=true)→QQ .normal a w:=by
   intro hall
   have hqm:q=m:=by
    cases items with
    |nil=>simp only[qC] at hlen;omega
    |cons it rest=>
     exfalso
     simp only[pM] at hlen
     have hnp:Zl it.lo.op=false:=by
      cases h:Zl it.lo.op with
      |false=>rfl
      |true=>exact absurd ⟨it,rest,rfl,h⟩ hpure
     exact hclaim ⟨it,rest,rfl,hnp,hall q (by omega)⟩
   have:items=[]:=pS.1 (by omega)
   subst this
   refine hR e H n I β w a hx hI (fun t=>?_) hN hD hX
   rw[henv t,ue (S':=fun x=>listed.getD (ord x) false) (v':=v) (fun p hp _=>⟨by rw[hall p hp];simp;omega,fun _=>rfl⟩)]
   exact hrep t
  have ready_spec:∀i,i∈Region.ready .any ops listed→∃p,p<m∧ord p=i∧listed.getD i false=false∧∀d∈Yv ops i,listed.getD d false=true:=by
   intro i hi
   obtain⟨h1,oi,h2,h3⟩:=mem_ready.1 hi
   have him:i<m:=by rw[←D.size];exact(Array.getElem?_eq_some_iff.1 h2).1
   obtain⟨p,hp,rfl⟩:=D.surj i him
   refine⟨p,hp,rfl,by rw[←zqy (by omega)];exact h1,fun d hd=>?_⟩
   unfold Yv at hd
   rw[h2] at hd
   simp only[List.mem_map,List.mem_filter,Array.mem_toList_iff] at hd
   obtain⟨ed,⟨h4,h5⟩,rfl⟩:=hd
   exact h3 ed h4 h5
  have all_of:Region.ready .any ops listed=[]→∀p,p<m→listed.getD (ord p) false=true:=by
   intro hr p
   induction p using Nat.strongRecOn with
   |_ p ihp=>
    intro hp
    cases hl:listed.getD (ord p) false with
    |true=>rfl
    |false=>
     exfalso
     obtain⟨o,ho,_⟩:=hops p hp
     have:ord p∈Region.ready .any ops listed:=by
      refine mem_ready.2 ⟨by rw[zqy (by rw[hsz];exact D.lt p hp)];exact hl,o,ho,fun ed hed hb=>?_⟩
      have hmem:ed.on∈Yv ops (ord p):=by
       unfold Yv
       rw[ho]
       exact List.mem_map.2 ⟨ed,List.mem_filter.2 ⟨by simpa using hed,hb⟩,rfl⟩
      obtain⟨r,hr2,hre⟩:=D.topo p hp _ hmem
      rw[←hre]
      exact ihp r hr2 (by omega)
     rw[hr] at this
     cases this
  cases fuel with
  |zero=>
   have hall:∀p,p<m→listed.getD (ord p) false=true:=by
    intro p hp
    cases hl:listed.getD (ord p) false with
    |true=>rfl
    |false=>
     have hmem:ord p∈(qL m).filter (fun i=>!listed.getD i false):=List.mem_filter.2 ⟨q7.2 (D.lt p hp),by rw[hl];rfl⟩
     have:=List.length_pos_of_mem hmem
     unfold unl at hun
     omega
   refine⟨?_,fin hall⟩
   rw[List.eq_nil_iff_forall_not_mem]
   intro i hi
   obtain⟨p,hp,rfl,hl,_⟩:=ready_spec i hi
   rw[hall p hp] at hl;cases hl
  |succ fuel=>
   refine⟨fun hr=>fin (all_of hr),fun i hi=>?_⟩
   obtain⟨p,hp,rfl,hl,hall⟩:=ready_spec i hi
   obtain⟨o,ho,hlo⟩:=hops p hp
   have hdN:=(Y7 hlo).1
   have hdst:=(Y7 hlo).2.1
   have hE:RepEnv I β n w (Y2 m lo e0 v p) a:=by
    intro t
    rw[zkb]
    split
    ·rename_i ht
     rw[←D.agree hdn hp hl hall ht]
     exact hrep t
    ·exact .any _
   have hset:∀x,(listed.setIfInBounds (ord p) true).getD (ord x) false=if ord p=ord x then true else listed.getD (ord x) false:=fun x=>Xg (by rw[hsz];exact D.lt p hp)
   have hother:∀x,x<m→x≠p→(listed.setIfInBounds (ord p) true).getD (ord x) false=listed.getD (ord x) false:=fun x hx hne=>by
    rw[hset,if_neg (fun h=>hne (D.inj x p hx hp h.symm))]
   have hself:(listed.setIfInBounds (ord p) true).getD (ord p) false=true:=by rw[hset,if_pos rfl]
   have hdn':Down ops (listed.setIfInBounds (ord p) true):=hdn.set hsz (D.lt p hp) hall
   have hun':=zy8 hsz (D.lt p hp) hl hun
   -- the slots behind it
   have hrep':∀ {I':Nat→Nat→Prop} {β':Id→Option CLoc} {n':Nat} {w':World} {v':Nat→AVal} {r:Value},(∀t,Rep I' β' n' w' (Wv m lo e0 v (fun x=>listed.getD (ord x) false) t) (a.tmps.getD t undef))→Rep I' β' n' w' (v' p) r→(∀x,x≠p→v' x=v x) →
    ∀t,Rep I' β' n' w' (Wv m lo e0 v' (fun x=>(listed.setIfInBounds (ord p) true).getD (ord x) false) t) ((a.put o.dst r).tmps.getD t undef):=by
    intro I' β' n' w' v' r h1 h2 h3 t
    by_cases hd:(lo p).dst=some t
    ·rw[Kp D hp hself hd]
     rw[hdst] at hd
     rw[hd,zgb (by rw[hN];exact hdN t hd)]
     exact h2
    ·rw[zde (by rw[←hdst];exact hd)]
     have:=h1 t
     rw[ue (S':=fun x=>(listed.setIfInBounds (ord p) true).getD (ord x) false) (v':=v') (fun x hx hdx=>?_)] at this
     ·exact this
     ·have hne:x≠p:=by intro h;subst h;exact hd hdx
      exact⟨(hother x hx hne).symm,fun _=>(h3 x hne).symm⟩
   have hear:∀ {I':Nat→Nat→Prop} {β':Id→Option CLoc} {n':Nat} {H':AHeap} {w':World} {r:Value} {x:Nat},Ext I β n H w I' β' n' H' w'→x<m→x≠p→Ear lo I β n w w0.heap.size a loc x→Ear lo I' β' n' w' w0.heap.size (a.put o.dst r) loc x:=by
    intro I' β' n' H' w' r x hxt hx hne ⟨g1,zs',d',g2,g3,g4,g5,g6⟩
    refine⟨zqp g1 hxt,zs',d',g2,g3,g4,zt5 hI g1 hxt g5,?_⟩
    rw[zde (fun hd=>?_)]
    ·exact g6
    ·rw[←hdst] at hd
     rcases pD x p with h|h
     ·exact D.waw x p h hp d' g4 hd
     ·exact D.waw p x (by omega) hx d' hd g4
   rcases q8 p q with hpq|hpq|hpq
   ·-- a pending one
    by_cases hmp:z5q (lo p)=true
    ·refine z46 (ro:=ro) ho hlo ((hpend p hpq hl).2 hmp H n) hI hE hN (fun r val H' n' I' β' w' hK hI' hr' hx'=>?_)
     obtain⟨rfl,rfl,rfl⟩:=hK
     refine ih (fuel+items.length) (by omega) lo loose ord D hops hap fuel q items _ loc v done e H' n' I' β' w' _ (p9 _) hlen hits (by simp[hsz]) hdn' ?_ ?_ hany ?_ hun' henv (hrep' (fun t=>(hrep t).mono hx' hI) hr' (fun _ _=>rfl)) ?_ ?_ hx hI' (by rw[Act.put_size];exact hN) (by rw[Act.put_defers];exact hD.mono hI hx') (hX.trans hx')
     ·intro x hx hlx
      by_cases h:x=p
      ·subst h;exact .inl hpq
      ·rw[hother x hx h] at hlx;exact(hsub x hx hlx).imp id (hear hx' hx h)
     ·intro x x' g1 g2 g3 g4 g5 g6
      rw[hother x g3 (by omega)] at g5
      rw[hother x' g4 (by omega)] at g6
      exact hdis x x' g1 g2 g3 g4 g5 g6
     ·intro x hx hef hmf
      by_cases h:x=p
      ·subst h;exact hself
      ·rw[hother x (by omega) h];exact heff x hx hef hmf
     ·intro x hx hlx
      by_cases h:x=p
      ·subst h;rw[hself] at hlx;cases hlx
      ·rw[hother x (by omega) h] at hlx;exact hpend x hx hlx
     ·intro x hx hlx hld
      by_cases h:x=p
      ·subst h;rw[hself] at hlx;cases hlx
      ·rw[hother x (by omega) h] at hlx;exact hdone x hx hlx hld
    refine zka (ro:=ro) ho hlo ((hpend p hpq hl).1 (Bool.eq_false_iff.2 hmp)) hI hE hN (fun r hr=>?_)
    refine ih (fuel+items.length) (by omega) lo loose ord D hops hap fuel q items _ loc v done e H n I β w _ (p9 _) hlen hits (by simp[hsz]) hdn' ?_ ?_ hany ?_ hun' henv (hrep' hrep hr (fun _ _=>rfl)) ?_ ?_ hx hI (by rw[Act.put_size];exact hN) (by rw[Act.put_defers];exact hD) hX
    ·intro x hx hlx
     by_cases h:x=p
     ·subst h;exact .inl hpq
     ·rw[hother x hx h] at hlx;exact(hsub x hx hlx).imp id (hear (Ext.refl I β n H w hI.fresh) hx h)
    ·intro x x' g1 g2 g3 g4 g5 g6
     rw[hother x g3 (by omega)] at g5
     rw[hother x' g4 (by omega)] at g6
     exact hdis x x' g1 g2 g3 g4 g5 g6
    ·intro x hx hef hmf
     by_cases h:x=p
     ·subst h;exact hself
     ·rw[hother x (by omega) h];exact heff x hx hef hmf
    ·intro x hx hlx
     by_cases h:x=p
     ·subst h;rw[hself] at hlx;cases hlx
     ·rw[hother x (by omega) h] at hlx;exact hpend x hx hlx
    ·intro x hx hlx hld
     by_cases h:x=p
     ·subst h;rw[hself] at hlx;cases hlx
     ·rw[hother x (by omega) h] at hlx;exact hdone x hx hlx hld
   ·-- the head, which changes the heap
    subst hpq
    cases items with
    |nil=>simp only[qC] at hlen;omega
    |cons it rest=>
     obtain⟨h1,h2⟩:=hits 0 it rfl
     simp only[pX] at h1 h2
     simp only[pM] at hlen hk
     have hnp:Zl it.lo.op=false:=by
      cases h:Zl it.lo.op with
      |false=>rfl
      |true=>exact absurd ⟨it,rest,rfl,h⟩ hpure
     unfold xd at hx
     rw[hnp] at hx
     simp only at hx
     have hsees:it.lo.sees e=Y2 m lo e0 v p:=by
      rw[h1]
      unfold Y2 LOper.sees
      exact pU fun t _=>by rw[henv t]
     rw[hsees,h1] at hx
     refine z46 (ro:=ro) ho hlo hx hI hE hN (fun r val H' n' I' β' w' hK hI' hr' hx'=>?_)
     obtain⟨hloose,hx2⟩:=hK
     have hlt:∀x,x≠p→z0l v p val x=v x:=fun x hx=>by unfold z0l;rw[if_neg hx]
     have hqv:z0l v p val p=val:=by unfold z0l;rw[if_pos rfl]
     refine ih (fuel+rest.length) (by omega) lo loose ord D hops hap fuel (p+1) rest _ loc (z0l v p val) done _ H' n' I' β' w' _ (p9 _) (by omega) ?_ (by simp[hsz]) hdn' ?_ ?_ (fun x hx=>by rw[hlt x (by omega)];exact hany x (by omega)) ?_ hun' ?_
      (hrep' (fun t=>(hrep t).mono hx' hI) (by rw[hqv];exact hr') hlt) ?_ ?_ hx2 hI' (by rw[Act.put_size];exact hN) (by rw[Act.put_defers];exact hD.mono hI hx') (hX.trans hx')
     ·intro i it' hi
      have:=hits (i+1) it' (by simpa using hi)
      rw[show p+1+i=p+(i+1) by omega]
      exact this
     ·intro x hx hlx
      by_cases h:x=p
      ·left;omega
      ·rw[hother x hx h] at hlx;exact(hsub x hx hlx).imp (fun h=>Nat.lt_succ_of_lt h) (hear hx' hx h)
     ·intro x x' g1 g2 g3 g4 g5 g6
      rw[hother x g3 (by omega)] at g5
      rw[hother x' g4 (by omega)] at g6
      exact hdis x x' (by omega) (by omega) g3 g4 g5 g6
     ·intro x hx hef hmf
      by_cases h:x=p
      ·subst h;exact hself
      ·rw[hother x (by omega) h];exact heff x (by omega) hef hmf
     ·intro t
      by_cases hd:(lo p).dst=some t
      ·rw[hd,Env.get_put_same,Kp D hp (by simp) hd,hqv]
      ·have:(e.put (lo p).dst val).get t=e.get t:=by
        cases hdd:(lo p).dst with
        |none=>rfl
        |some d=>exact Env.get_put_other e val (by intro h;subst h;exact hd hdd)
       rw[this,henv t]
       refine ue fun x hx2 hdx=>?_
       have hne:x≠p:=by intro h;subst h;exact hd hdx
       refine⟨by by_cases h:x<p<;>simp[h]<;>omega,fun _=>(hlt x hne).symm⟩
     ·intro x hx hlx
      by_cases h:x=p
      ·subst h;rw[hself] at hlx;cases hlx
      ·have hxp:x<p:=by omega
       rw[hother x (by omega) h] at hlx
       unfold zvm
       rw[Zx (by omega),hlt x h]
       refine⟨fun hmf=>?_,fun hm=>(hpend x hxp hlx).2 hm⟩
       cases hld:Q6 (lo x).op with
       |false=>rw[z1d (H':=H) hld];exact(hpend x hxp hlx).1 hmf
       |true=>
        have hmem:=hdone x hxp hlx hld
        have hl2:=D.loose x p hxp hp (by rw[←h1];exact hnp) (by rw[←h1];exact Bool.eq_false_iff.2 fun hm=>hmk ⟨it,rest,rfl,hm⟩) hld
        rcases hl2 with h3|h3
        ·have:=D.ancestors hdn p hp hall _ h3
         rw[hlx] at this;cases this
        ·exact hloose _ hmem (by rw[h2];exact h3)
     ·intro x hx hlx hld
      by_cases h:x=p
      ·subst h;rw[hself] at hlx;cases hlx
      ·rw[hother x (by omega) h] at hlx
       rw[Zx (by omega),hlt x h]
       exact hdone x (by omega) hlx hld
   ·-- one behind the head waits for the head; or it is a variable that is made ahead of its place
    have hqm:q<m:=by omega
    obtain⟨it,rest,rfl⟩:∃it rest,items=it::rest:=by
     cases items with
     |nil=>simp only[qC] at hlen;omega
     |cons it rest=>exact⟨it,rest,rfl⟩
    obtain⟨h1,_⟩:=hits 0 it rfl
    simp only[pX] at h1
    have hnp:Zl it.lo.op=false:=by
     cases h:Zl it.lo.op with
     |false=>rfl
     |true=>exact absurd ⟨it,rest,rfl,h⟩ hpure
    rcases D.eff q p hpq hp (by rw[←h1];exact hnp) (by rw[←h1];exact Bool.eq_false_iff.2 fun hm=>hmk ⟨it,rest,rfl,hm⟩) with hpre|halc|⟨hsw,hqm2,hst1,hst2⟩
    ·exfalso
     have:=D.ancestors hdn p hp hall _ hpre
     exact hclaim ⟨it,rest,rfl,hnp,this⟩
    ·obtain⟨zs,d,hop,hgd,hdp⟩:∃zs d,(lo p).op=.alloc zs∧(lo p).guard=none∧(lo p).dst=some d:=by
      unfold zks at halc
      split at halc
      ·rename_i g1 g2 g3;exact⟨_,_,g1,g2,g3⟩
      ·cases halc
     refine zt4 (ro:=ro) (K0:=w0.heap.size) ho hlo hop hgd hI hX.size (fun c w' hcb i1 x1 hf hB=>?_)
     have hloc:∀x,x≠p→(fun y=>if y=p then c else loc y) x=loc x:=fun x hx=>by simp[hx]
     have hear':∀ {r:Value} {x:Nat},x<m→x≠p→Ear lo I β n w w0.heap.size a loc x→Ear lo I β n w' w0.heap.size (a.put o.dst r) (fun y=>if y=p then c else loc y) x:=by
      intro r x hx hne h
      have:=hear (r:=r) x1 hx hne h
      unfold Ear at this ⊢
      rw[hloc x hne]
      exact this
     refine ih (fuel+(it::rest).length) (by omega) lo loose ord D hops hap fuel q (it::rest) _ (fun y=>if y=p then c else loc y) v done e H n I β w' _ (p9 _) hlen hits (by simp[hsz]) hdn' ?_ ?_ hany ?_ hun' henv
      (hrep' (fun t=>(hrep t).mono x1 hI) (by rw[hany p (by omega)];exact .any _) (fun _ _=>rfl)) ?_ ?_ hx i1 (by rw[Act.put_size];exact hN) (by rw[Act.put_defers];exact hD.mono hI x1) (hX.trans x1)
     ·intro x hx hlx
      by_cases h:x=p
      ·subst h
       refine .inr ⟨by simpa using hf,zs,d,hop,hgd,hdp,by simpa using hB,?_⟩
       have hdp2:o.dst=some d:=by rw[←hdst];exact hdp
       rw[hdp2,zgb (by rw[hN];exact hdN d hdp2)]
       simp
      ·rw[hother x hx h] at hlx;exact(hsub x hx hlx).imp id (hear' hx h)
     ·intro x x' g1 g2 g3 g4 g5 g6 hne b k hk hk'
      have far:∀y,y<m→y≠p→q≤y→(listed.setIfInBounds (ord p) true).getD (ord y) false=true→(loc y).has b k→c.has b k→False:=by
       intro y hy hyp hqy hly h1 h2
       rw[hother y hy hyp] at hly
       rcases hsub y hy hly with h|⟨g,_⟩
       ·omega
       ·have:=(g b k h1).2.2.2
        have e2:c.blk=b:=h2.1
        omega
      by_cases hxp:x=p
      ·subst hxp
       rw[if_pos rfl] at hk
       rw[if_neg (fun h=>hne h.symm)] at hk'
       exact far x' g4 (fun h=>hne h.symm) g2 g6 hk' hk
      ·rw[if_neg hxp] at hk
       by_cases hxp':x'=p
       ·subst hxp'
        rw[if_pos rfl] at hk'
        exact far x g3 hxp g1 g5 hk hk'
       ·rw[if_neg hxp'] at hk'
        rw[hother x g3 hxp] at g5
        rw[hother x' g4 hxp'] at g6
        exact hdis x x' g1 g2 g3 g4 g5 g6 hne b k hk hk'
     ·intro x hx hef hmf
      rw[hother x (by omega) (by omega)];exact heff x hx hef hmf
     ·intro x hx hlx
      rw[hother x (by omega) (by omega)] at hlx;exact hpend x hx hlx
     ·intro x hx hlx hld
      rw[hother x (by omega) (by omega)] at hlx;exact hdone x hx hlx hld
    ·-- the last two change places
     have hpq1:p=q+1:=by omega
     subst hpq1
     subst hsw
     obtain⟨it2,rfl⟩:∃it2,rest=[it2]:=by
      cases rest with
      |nil=>simp only[pM,qC] at hlen;omega
      |cons it2 r=>cases r with
       |nil=>exact⟨it2,rfl⟩
       |cons _ _=>simp only[pM] at hlen;omega
     have hap':=hap rfl (by omega)
     rw[show m-2=q by omega,show m-1=q+1 by omega] at hap'
     obtain⟨e1,e2⟩:=hits 0 it rfl
     obtain⟨e3,e4⟩:=hits 1 it2 rfl
     simp only[pX] at e1 e2
     have d1:=(Wo hst1).1
     have d2:=(Wo hst2).1
     have hqun:listed.getD (ord q) false=false:=by
      cases hlq:listed.getD (ord q) false with
      |false=>rfl
      |true=>exact absurd ⟨it,[it2],rfl,hnp,hlq⟩ hclaim
     have hnd:ord q∉Yv ops (ord (q+1)):=fun h=>by
      have:=hall _ h
      rw[hqun] at this;cases this
     have hloads:∀x,x<q→Q6 (lo x).op=true→listed.getD (ord x) false=true:=fun x hx hld=>by
      have:=(D.swl rfl x (by omega) hld).1
      rw[show m-1=q+1 by omega] at this
      exact D.ancestors hdn (q+1) hp hall _ this
     have hsq:Y2 m lo e0 v q=(lo q).sees e:=by
      unfold Y2 LOper.sees
      exact pU fun t _=>by rw[henv t]
     have hsp:Y2 m lo e0 v (q+1)=(lo (q+1)).sees e:=by
      unfold Y2 LOper.sees
      refine pU fun t _=>?_
      rw[henv t]
      congr 1
      refine ue fun r hr hd=>⟨?_,fun _=>rfl⟩
      have:r≠q:=by intro h;subst h;rw[d1] at hd;cases hd
      by_cases h:r<q<;>simp[h]<;>omega
     have hx2:z8w P ((lo (q+1)).sees e) H n (fun v H' n'=>n'=n∧z8w P ((lo q).sees e) H' n' (fun v1 H2 n2=>(∀x∈([]:List (Nat×LOper×Env×AVal)),x.1∈it.loose→(Kx x.2.2.1 H2 x.2.1).gives x.2.2.2)∧R e H2 n2) (lo q)) (lo (q+1)):=by
      unfold xd at hx
      rw[hnp] at hx
      simp only at hx
      unfold xd at hx
      rw[e3,(znc hst2).1] at hx
      simp only[xd] at hx
      rw[e1,d1,d2] at hx
      simp only[Env.put] at hx
      exact zxg hst1 hst2 hap' (fun _ _ _ h=>⟨fun _ h=>by(cases h),h⟩) hx
     refine z46 (ro:=ro) ho hlo (by rw[hsp];exact hx2) hI hE hN (fun r val H' n' I' β' w' hK hI' hr' hx'=>?_)
     obtain⟨rfl,hK⟩:=hK
     have D':=D.swap rfl hqm2 hst1 hst2 hnd
     have hvp:v (q+1)=.any:=hany _ (by omega)
     refine ih (fuel+1) (by simp only[pM,qC] at hk;omega) (fun x=>lo (sg q x)) (fun x=>loose (sg q x)) (fun x=>ord (sg q x)) D' (fun x hx=>hops _ (zwi hqm2 hx)) ?_ fuel (q+1) [it] _ loc v [] e H' n' I' β' w' _ (p9 _) (by simp only[pM,qC];omega) ?_ (by simp[hsz]) hdn' ?_ ?_ (fun x hx=>hany x (by omega)) ?_ hun' ?_ ?_ ?_ ?_ ?_ hI' (by rw[Act.put_size];exact hN) (by rw[Act.put_defers];exact hD.mono hI hx') (hX.trans hx')
     ·intro _ _
      rw[show m-2=q by omega,show m-1=q+1 by omega]
      simp only[zkq,zrx]
      exact fun hs k a x k' a' x' g1 g2 e H n hr=>zk4 (hap' hs k' a' x' k a x g2 g1 e H n hr)
     ·intro i it' hi
      cases i with
      |zero=>
       simp only[pH,p0] at hi
       subst hi
       simp only[pX,zrx]
       exact⟨e1,e2⟩
      |succ i=>simp at hi
     ·intro x hx hlx
      rcases pD x (q+1) with h|h
      ·exact .inl h
      ·exfalso
       have:x=q+1:=by omega
       subst this
       simp only[zrx] at hlx
       rw[hother q (by omega) (by omega),hqun] at hlx
       cases hlx
     ·intro x x' g1 g2 g3 g4 g5 g6 hne
      omega
     ·intro x hx hef hmf
      rcases pD x q with h|h
      ·simp only[z1g h] at hef hmf ⊢
       rw[hother x (by omega) (by omega)]
       exact heff x h hef hmf
      ·have:x=q:=by omega
       subst this
       simp only[zkq]
       exact hself
     ·intro t
      rw[z8h hqm2 hst1 hst2 (S':=fun x=>decide (x<q)) (fun x hx=>by simp[hx];omega)]
      exact henv t
     ·intro t
      rw[z8h hqm2 hst1 hst2 (S':=fun x=>(listed.setIfInBounds (ord (q+1)) true).getD (ord x) false) (fun x hx=>by rw[z1g hx])]
      exact hrep' (fun t=>(hrep t).mono hx' hI) (by rw[hvp];exact .any _) (fun _ _=>rfl) t
     ·intro x hx hlx
      rcases pD x q with h|h
      ·simp only[z1g h] at hlx
       rw[hother x (by omega) (by omega)] at hlx
       have hse:Y2 m (fun x=>lo (sg q x)) e0 v x=Y2 m lo e0 v x:=by
        unfold Y2
        simp only[z1g h]
        refine pU fun t _=>?_
        rw[z8h hqm2 hst1 hst2 (S':=fun y=>decide (y<x)) (fun y hy=>rfl)]
       unfold zvm
       rw[hse]
       simp only[z1g h]
       refine⟨fun hmf=>?_,fun hm=>(hpend x h hlx).2 hm⟩
       cases hld:Q6 (lo x).op with
       |false=>rw[z1d (H':=H) hld];exact(hpend x h hlx).1 hmf
       |true=>have:=hloads x h hld;rw[hlx] at this;cases this
      ·have:x=q:=by omega
       subst this
       simp only[zkq] at hlx
       rw[hself] at hlx;cases hlx
     ·intro x hx hlx hld
      exfalso
      rcases pD x q with h|h
      ·simp only[z1g h] at hlx hld
       rw[hother x (by omega) (by omega)] at hlx
       have:=hloads x h hld
       rw[hlx] at this;cases this
      ·have:x=q:=by omega
       subst this
       simp only[zkq] at hlx
       rw[hself] at hlx;cases hlx
     ·unfold xd
      rw[hnp]
      simp only[xd]
      rw[e1,d1]
      simp only[Env.put]
      exact hK
end Go.Fx
namespace Go.Fx
variable {P:Program} {N:Lay}
theorem LWp.mono{n0:Nat}{lc:LCode}{Q Q':Exit→Env→AHeap→Nat→Prop}{e:Env}{H:AHeap}{n:Nat}(h:LWp P N n0 lc Q e H n)(hq:∀ex e H n,Q ex e H n→Q' ex e H n):LWp P N n0 lc Q' e H n:=
 fun c hc ro hro I0 β0 H0 w0 I β w a h0 h1 h2 h3 h4 QQ hQ=>h c hc ro hro I0 β0 H0 w0 I β w a h0 h1 h2 h3 h4 QQ fun ex e' H' n' I' β' w' a' g1 g2 g3 g4 g5 g6=>hQ ex e' H' n' I' β' w' a' (hq _ _ _ _ g1) g2 g3 g4 g5 g6
theorem zji{draw:Bool}{ops:Array Oper}{f t:Nat}(h:zth N draw ops=some (f,t)):N.rd=false∧draw=false∧t<N.n ∧
 ∃o1 o2 fs cs c,ops.toList=[o1,o2]∧o1.dst=some t∧o1.op=.makeFunc (.func f) fs cs∧o1.guard=none∧o2.dst=none∧o2.op=.defer c∧o2.guard=none∧c.callee=.value (.tmp t)∧fs=#[]∧c.args=#[]:=by
 unfold zth at h
 split at h<;>try (cases h;done)
 rename_i o1 o2 hrd hops
 split at h<;>try (cases h;done)
 rename_i t0 f0 fs cs c h1 h2 h3 h4 h5 h6
 split at h<;>try (cases h;done)
 rename_i t' hc
 split at h<;>try (cases h;done)
 rename_i hb
 simp only[pI,beq_iff_eq,Nat.blt_eq] at hb
 simp only[p0,qD] at h
 obtain⟨rfl,rfl⟩:=h
 obtain⟨⟨⟨b1,b2⟩,rfl⟩,b4⟩:=hb
 exact⟨hrd,rfl,b4,o1,o2,fs,cs,c,hops,h1,h2,h3,h4,h5,h6,hc,pN.1 b1,pN.1 b2⟩
theorem zax{n0 id:Nat}{ops:Array Oper}{draw:Bool}{f t:Nat}(hd:zth N draw ops=some (f,t)){Q:Exit→Env→AHeap→Nat→Prop}{e:Env}{H:AHeap}{n:Nat}(h:zy3 P f∧Q .normal (e.put (some t) .any) H n)
 {ro:Option Nat} (hro:N.rd=false→ro=none) {I0:Nat→Nat→Prop} {β0:Id→Option CLoc} {H0:AHeap} {w0:World} {I:Nat→Nat→Prop} {β:Id→Option CLoc} {w:World} {a:Act} (hX:Ext I0 β0 n0 H0 w0 I β n H w) (hI:Inv I β n H w) (hE:RepEnv I β n w e a) (hN:a.tmps.size=N.n) (hD:Dfr P w0.heap.size w a.defers) {QQ:Exit→Act→World→Prop} (hQ:zzx P N I0 β0 n0 H0 w0 Q QQ) :
 (Code.region id ops draw).wpIn (z34 ro) 0 P QQ a w:=by
 obtain⟨hrd,rfl,ht,o1,o2,fs,cs,c,hops,h1,h2,h3,h4,h5,h6,hc,rfl,hca⟩:=zji hd
 obtain rfl:=hro hrd
 have hsz:ops.size=2:=by rw[←pQ,hops];rfl
 have g0:ops[0]?=some o1:=by rw[←pO,hops];rfl
 have g1:ops[1]?=some o2:=by rw[←pO,hops];rfl
 refine wpIn_region ?_
 have hr:qL ops.size=[0,1]:=by rw[hsz];rfl
 rw[hr]
 unfold wpOpsIn
 simp only[g0]
 rw[Ym h3,if_pos rfl]
 refine⟨fun _ _=>trivial,?_⟩
 have e1:(o1.semAt (z34 none).round a.eval).run P w=.ok (.value (.func (.func f) #[] (cs.map a.eval))) w:=by
  show(execOp a.eval o1).run P w=_
  obtain⟨d1,p1,t1,s1,a1,g1⟩:=o1
  simp only at h2
  subst h2
  have hm:(Instr.makeFunc (.func f) #[] (cs.map a.eval)).run P w=.ok (.func (.func f) #[] (cs.map a.eval)) w:=rfl
  simp[go_sem,hm]
 rw[e1,Oper.uponIn_value,h1]
 unfold wpOpsIn
 simp only[g1]
 rw[Ym h6,if_pos rfl]
 refine⟨fun _ _=>trivial,?_⟩
 have ev:(a.put (some t) (.func (.func f) #[] (cs.map a.eval))).eval (.tmp t)=.func (.func f) #[] (cs.map a.eval):=by
  have:t<a.tmps.size:=by rw[hN];exact ht
  simp[Act.eval,Act.put,this]
 have e2:(o2.semAt (z34 none).round (a.put (some t) (.func (.func f) #[] (cs.map a.eval))).eval).run P w=.ok (.defer { target:=.fn (.func f) (cs.map a.eval),args:=#[] }) w:=by
  show(execOp _ o2).run P w=_
  obtain⟨d1,p1,t1,s1,a1,g1⟩:=o2
  simp only at h5
  subst h5
  simp[execOp,resolve,hc,hca,ev,Deferred.ofValue]
 rw[e2,Oper.uponIn_defer,h4]
 unfold wpOpsIn
 have hE1:RepEnv I β n w (e.put (some t) .any) (a.put (some t) (.func (.func f) #[] (cs.map a.eval))):=
  hE.put (fun t' ht'=>by cases ht';rw[hN];exact ht) (.any _)
 refine hQ .normal _ H n I β w _ h.2 hI ?_ ?_ ?_ hX
 ·exact hE1
 ·show(a.put (some t) _).tmps.size=N.n
  rw[Act.put_size];exact hN
 ·show Dfr P w0.heap.size w (_::(a.put (some t) _).defers)
  rw[Act.put_defers]
  exact hD.idle (h.1 _)
theorem uq{n0:Nat}(lc:LCode)(Q:Exit→Env→AHeap→Nat→Prop)(e:Env)(H:AHeap)(n:Nat)(h:zfa P N n0 lc Q e H n):LWp P N n0 lc Q e H n:=by
 intro c
 induction c generalizing lc Q e H n with
 |skip=>
  intro hc ro hro I0 β0 H0 w0 I β w a hX hI hE hN hD QQ hQ
  simp only[yk,p0] at hc
  subst hc
  exact wpIn_skip (hQ _ _ _ _ _ _ _ _ h hI hE hN hD hX)
 |region id os draw=>
  intro hc ro hro I0 β0 H0 w0 I β w a hX hI hE hN hD QQ hQ
  cases draw with
  |false=>
   simp only[yk] at hc
   split at hc
   ·rename_i x hd
    simp only[p0] at hc
    subst hc
    exact zax hd h hro hX hI hE hN hD hQ
   split at hc<;>try (cases hc;done)
   rename_i ll hll
   simp only[qK,if_false,p0] at hc
   subst hc
   obtain⟨k1,k2⟩:=K9 _ _ hll
   refine wpIn_region (z5s (Q:=Q .normal) (qL os.size) ll (by simpa using k1) ?_ h hI hE hN hD (fun e' H' n' I' β' w' a' g1 g2 g3 g4 g5 g6=>hQ _ _ _ _ _ _ _ _ g1 g2 g3 g4 g5 (hX.trans g6)))
   intro k i lo hi hlo
   have hk:k<os.size:=by
    rcases pD k os.size with h|h
    ·exact h
    ·rw[pR (by simpa using h)] at hi;cases hi
   rw[List.getElem?_range hk] at hi
   simp only[p0] at hi
   subst hi
   exact⟨os[k],pB hk,k2 k os[k] lo (by simp[hk]) hlo⟩
  |true=>
   simp only[yk,if_true] at hc
   split at hc
   ·rename_i x hd
    simp only[p0] at hc
    subst hc
    exact zax hd h hro hX hI hE hN hD hQ
   split at hc<;>try (cases hc;done)
   rename_i ll hll
   split at hc<;>try (cases hc;done)
   rename_i hm
   obtain⟨k1,k2⟩:=K9 _ _ hll
   have hheap:({ w with drawn:=w.drawn+1 }:World).heap=w.heap:=rfl
   have hId:=hI.of_heap hheap
   have hdraw:Ext I β n H w I β n H { w with drawn:=w.drawn+1 }:=by
    have:=Ext.refl I β n H w hI.fresh
    exact⟨rfl,⟨rfl,fun _=>qG _⟩,rfl,p9 _,fun _ _ _=>rfl,fun _ _ _ h _=>h,fun _ arr _ fr h=>⟨arr,fr,h,rfl,.inl rfl⟩,fun _ _ _ h _=>h,this.imm,this.immNew,this.old,this.new,this.dom,this.le⟩
   split at hc
   ·rename_i hcond
    simp only[pI] at hcond
    simp only[p0] at hc
    subst hc
    simp only[Bool.not_eq_eq_eq_not,Bool.not_true] at hcond
    obtain rfl:=hro hcond.1
    refine wpIn_wide.2 (wp_region_quiet (C:=fun w'=>w'={ w with drawn:=w.drawn+1 }) hm hcond.2.1 rfl ?_)
    refine zap (K0:=w0.heap.size) (w0:={ w with drawn:=w.drawn+1 }) (Q:=Q .normal) (w:={ w with drawn:=w.drawn+1 }) (fun w' h=>h) hId os.toList ll k1 k2 h (fun t=>(hE t).of_heap hheap) hN (hD.of_heap hheap) ?_
    intro e' a' g1 g2 g3 g4 w' hw'
    subst hw'
    exact hQ _ _ _ _ _ _ _ _ g1 hId g2 g3 g4 (hX.trans hdraw)
   ·obtain⟨sw,items,R,hit,h,hR,hap⟩:∃sw items,∃R:Env→AHeap→Nat→Prop,Ke sw os ll=some items∧xd P items 0 [] R e H n∧(∀e H n,R e H n→Q .normal e H n)∧∀i1 i2,items[os.size-2]?=some i1→items[os.size-1]?=some i2→ApR sw i1.lo i2.lo R:=by
     unfold z38 at hc
     split at hc
     ·rename_i items hit
      simp only[p0] at hc
      subst hc
      exact⟨false,items,Q .normal,hit,h,fun _ _ _ h=>h,fun _ _ _ _ hs=>by cases hs⟩
     ·unfold z1k at hc
      split at hc<;>try (cases hc;done)
      rename_i items hit
      split at hc<;>try (cases hc;done)
      rename_i i1 i2 hi1 hi2
      split at hc<;>try (cases hc;done)
      rename_i a b hop1 hop2
      split at hc<;>try (cases hc;done)
      simp only[p0] at hc
      subst hc
      refine⟨true,items,_,hit,h,fun _ _ _ h=>h.2,fun j1 j2 hj1 hj2 _ k a' x k' b' y g1 g2 e H n hr=>?_⟩
      rw[hi1] at hj1
      rw[hi2] at hj2
      simp only[p0] at hj1 hj2
      subst hj1 hj2
      rw[hop1] at g1
      rw[hop2] at g2
      cases g1
      cases g2
      exact hr.1
    obtain⟨ord,pre,loose,D,hlen,hll2,hits⟩:=z5c hit
    refine wpIn_region_any hm ?_
    have hun:∀i,(Array.replicate os.size false).getD i false=false:=fun i=>by
     rcases pD i os.size with h|h
     ·simp[h]
     ·simp[h]
    refine zzf (N:=N) (R:=R) (QQ:=QQ) (e0:=e) (fun e' H' n' I' β' w' a' g1 g2 g3 g4 g5 g6=>hQ .normal e' H' n' I' β' w' a' (hR _ _ _ g1) g2 g3 g4 g5 g6) (os.size+items.length) _ _ _ D ?_ ?_ os.size 0 items _ (fun _=>⟨0,0,0,0,0⟩) (fun _=>.any) [] e H n I β { w with drawn:=w.drawn+1 } a (p9 _) (by omega) ?_ (by simp) ?_ ?_ (fun p p' _ _ _ _ hl=>by rw[hun] at hl;cases hl) (fun _ _=>rfl) ?_ ?_ ?_ ?_ ?_ ?_ h hId hN (hD.of_heap hheap) (hX.trans hdraw)
    ·intro p hp
     have hp2:=D.lt p hp
     refine⟨os[ord p]'hp2,pB hp2,k2 (ord p) _ _ (by simp[hp2]) ?_⟩
     rw[qE,p7 (by omega)]
     simp
    ·intro hsw hm2
     have l1:os.size-2<items.length:=by omega
     have l2:os.size-1<items.length:=by omega
     have t1:=(hits _ _ (p7 l1)).1
     have t2:=(hits _ _ (p7 l2)).1
     have:=hap _ _ (p7 l1) (p7 l2)
     rw[t1,t2] at this
     exact this
    ·intro i it hi
     rw[Nat.zero_add]
     exact hits i it hi
    ·intro j hj
     rw[hun] at hj;cases hj
    ·intro p hp hl
     rw[hun] at hl;cases hl
    ·intro p hp;omega
    ·unfold unl
     exact Nat.le_trans (List.length_filter_le _ _) (by simp)
    ·intro t
     unfold Wv
     rw[List.find?_eq_none.2 (by simp)]
    ·intro t
     have:Wv os.size (fun p=>ll.getD (ord p) ui) e (fun _=>.any) (fun x=>(Array.replicate os.size false).getD (ord x) false) t=e.get t:=by
      unfold Wv
      rw[List.find?_eq_none.2 (fun x _=>by simp only[hun];simp)]
     rw[this]
     exact(hE t).of_heap hheap
    ·intro p hp;omega
    ·intro p hp;omega
 |seq x y ihx ihy=>
  intro hc ro hro I0 β0 H0 w0 I β w a hX hI hE hN hD QQ hQ
  simp only[yk] at hc
  split at hc<;>try (cases hc;done)
  rename_i x' y' hx hy
  simp only[p0] at hc
  subst hc
  refine wpIn_seq (ihx x' _ e H n h hx ro hro I0 β0 H0 w0 I β w a hX hI hE hN hD _ ?_)
  intro ex e' H' n' I' β' w' a' g1 g2 g3 g4 g5 g6
  cases ex with
  |normal=>exact ihy y' _ e' H' n' g1 hy ro hro I0 β0 H0 w0 I' β' w' a' g6 g2 g3 g4 g5 QQ hQ
  |_=>exact hQ _ _ _ _ _ _ _ _ g1 g2 g3 g4 g5 g6
 |cond cx x y ihx ihy=>
  intro hc ro hro I0 β0 H0 w0 I β w a hX hI hE hN hD QQ hQ
  simp only[yk] at hc
  split at hc<;>try (cases hc;done)
  rename_i c' x' y' hcx hx hy
  simp only[p0] at hc
  subst hc
  simp only[zfa] at h
  split at h
  ·rename_i v hev
   obtain⟨h1,h2,h3⟩:=h
   have hr:=yh hE hcx h1
   rw[hev] at hr
   exact wpIn_cond_split hr.bool_inv (fun hv=>ihx x' _ e H n (h2 hv) hx ro hro I0 β0 H0 w0 I β w a hX hI hE hN hD QQ hQ) (fun hv=>ihy y' _ e H n (h3 hv) hy ro hro I0 β0 H0 w0 I β w a hX hI hE hN hD QQ hQ)
  ·exact h.elim
 |block id x ih=>
  intro hc ro hro I0 β0 H0 w0 I β w a hX hI hE hN hD QQ hQ
  simp only[yk,p8] at hc
  obtain⟨x',hx,hc⟩:=hc
  subst hc
  refine wpIn_block (ih x' _ e H n h hx ro hro I0 β0 H0 w0 I β w a hX hI hE hN hD _ ?_)
  intro ex e' H' n' I' β' w' a' g1 g2 g3 g4 g5 g6
  cases ex with
  |exit i=>
   simp only at g1
   simp only[Exit.inBlock]
   split at g1
   ·rename_i hi;rw[if_pos hi];exact hQ _ _ _ _ _ _ _ _ g1 g2 g3 g4 g5 g6
   ·rename_i hi;rw[if_neg hi];exact hQ _ _ _ _ _ _ _ _ g1 g2 g3 g4 g5 g6
  |_=>exact hQ _ _ _ _ _ _ _ _ g1 g2 g3 g4 g5 g6
 |loop x ih=>
  intro hc
  have hc0:=hc
  simp only[yk,p8] at hc
  obtain⟨x',hx,hc⟩:=hc
  subst hc
  exact h _ hc0
 |exit id=>
  intro hc ro hro I0 β0 H0 w0 I β w a hX hI hE hN hD QQ hQ
  simp only[yk,p0] at hc
  subst hc
  exact wpIn_exit (hQ _ _ _ _ _ _ _ _ h hI hE hN hD hX)
 |ret=>
  intro hc ro hro I0 β0 H0 w0 I β w a hX hI hE hN hD QQ hQ
  simp only[yk,p0] at hc
  subst hc
  exact wpIn_ret (hQ _ _ _ _ _ _ _ _ h hI hE hN hD hX)
 |rangeFunc f ps x y ih1 ih2=>
  intro hc
  have hc0:=hc
  simp only[yk] at hc
  split at hc<;>try (cases hc;done)
  simp only[p0] at hc
  subst hc
  exact h _ hc0
 |scope x ih=>intro hc;cases hc
 |label l=>intro hc;cases hc
 |goto l=>intro hc;cases hc
 |refuse why=>intro hc;cases hc
def AVal.nid:AVal→Bool
 |.bool _|.int _ _|.str _|.val _|.isl _ _ _|.iptr _ _ _ _=>true
 |.tup cs=>nidL cs
 |.agg cs=>nidL cs
 |.fn _ a c=>nidL a&&nidL c
 |.ifc _ x=>x.nid
 |_=>false
where nidL:List AVal→Bool
 |[]=>true
 |x::r=>x.nid&&nidL r
mutual
theorem Vv{I I2:Nat→Nat→Prop}{β β2:Id→Option CLoc}{n n2:Nat}{w:World}(hI:∀b k,I b k→I2 b k):∀ (x:AVal),x.nid=true→∀ {v:Value},Rep I β n w x v→Rep I2 β2 n2 w x v
 |.bool b,_,v,hr=>by cases hr with|imm _ _ h=>exact .imm _ _ (h.mono hI (fun _ _ _=>rfl))
 |.int k m,_,v,hr=>by cases hr with|imm _ _ h=>exact .imm _ _ (h.mono hI (fun _ _ _=>rfl))
 |.str l,_,v,hr=>by cases hr with|imm _ _ h=>exact .imm _ _ (h.mono hI (fun _ _ _=>rfl))
 |.val u,_,v,hr=>by cases hr with|imm _ _ h=>exact .imm _ _ (h.mono hI (fun _ _ _=>rfl))
 |.isl s es f,_,v,hr=>by cases hr with|imm _ _ h=>exact .imm _ _ (h.mono hI (fun _ _ _=>rfl))
 |.iptr s es i o,_,v,hr=>by cases hr with|imm _ _ h=>exact .imm _ _ (h.mono hI (fun _ _ _=>rfl))
 |.tup cs,hn,v,hr=>by
  cases hr with
  |imm _ _ h=>exact .imm _ _ (h.mono hI (fun _ _ _=>rfl))
  |tup _ vs h1 h2=>exact .tup cs vs h1 (fun i x v hx hv=>z0h hI cs hn x (pC hx) (h2 i x v hx hv))
 |.agg cs,hn,v,hr=>by
  cases hr with
  |imm _ _ h=>exact .imm _ _ (h.mono hI (fun _ _ _=>rfl))
  |agg _ vs h1 h2 h3=>exact .agg cs vs h1 h2 (fun i x v hx hv=>z0h hI cs hn x (pC hx) (h3 i x v hx hv))
 |.fn f a c,hn,v,hr=>by
  simp only[AVal.nid,pI] at hn
  cases hr with
  |imm _ _ h=>exact .imm _ _ (h.mono hI (fun _ _ _=>rfl))
  |fn _ _ _ fs cs h1 h2 h3 h4=>exact .fn f a c fs cs h1 h2 (fun i x v hx hv=>z0h hI a hn.1 x (pC hx) (h3 i x v hx hv)) (fun i x v hx hv=>z0h hI c hn.2 x (pC hx) (h4 i x v hx hv))
 |.ifc t x,hn,v,hr=>by
  cases hr with
  |imm _ _ h=>exact .imm _ _ (h.mono hI (fun _ _ _=>rfl))
  |ifc _ _ u h=>exact .ifc t x u (Vv hI x hn h)
theorem z0h{I I2:Nat→Nat→Prop}{β β2:Id→Option CLoc}{n n2:Nat}{w:World}(hI:∀b k,I b k→I2 b k):∀ (cs:List AVal),AVal.nid.nidL cs=true→∀x∈cs,∀ {v:Value},Rep I β n w x v→Rep I2 β2 n2 w x v
 |[],_,x,hx,v,hr=>by cases hx
 |y::r,hn,x,hx,v,hr=>by
  simp only[AVal.nid.nidL,pI] at hn
  rcases q9.1 hx with e|hx
  ·rw[e] at hr ⊢;exact Vv hI y hn.1 hr
  ·exact z0h hI r hn.2 x hx hr
end
def AVal.inP(p:Id→Bool):AVal→Bool
 |.osl tok _ _=>p tok
 |.ptr b _ _=>p b
 |.msl b _ _ _ _=>p b
 |.map b=>p b
 |.optp b=>p b
 |.agg cs=>inPL p cs
 |.tup cs=>inPL p cs
 |.fn _ a c=>inPL p a&&inPL p c
 |.ifc _ x=>x.inP p
 |.cnd _ x=>x.inP p
 |_=>true
where inPL (p:Id→Bool):List AVal→Bool
 |[]=>true
 |x::xs=>x.inP p&&inPL p xs
def ABlock.inP(p:Id→Bool):ABlock→Bool
 |.rows _ es=>es.all (AVal.inP.inPL p)
 |.one cs=>AVal.inP.inPL p cs
 |.amap es=>es.all fun x=>x.1.inP p&&x.2.inP p
 |.tok=>true
 |.bld _ g=>p g
 |.buf _ _=>true
 |.lrec _ _ e=>e.all fun x=>x.2.inP p
 |.rmap es _ _=>es.all fun x=>x.1.inP p&&x.2.inP p
 |.itr m _ _ _=>(match m with|some b=>p b|none=>true)
 |.mbox b=>p b
theorem Kl{p:Id→Bool}:∀ {cs:List AVal},AVal.inP.inPL p cs=true→∀x∈cs,x.inP p=true
 |[],_,x,hx=>by cases hx
 |y::ys,h,x,hx=>by
  simp only[AVal.inP.inPL,pI] at h
  rcases q9.1 hx with e|hx
  ·rw[e];exact h.1
  ·exact Kl h.2 x hx
def AVal.ren(g:Id→Id):AVal→AVal
 |.osl tok s es=>.osl (g tok) s es
 |.ptr b i off=>.ptr (g b) i off
 |.msl b s off len f=>.msl (g b) s off len f
 |.map b=>.map (g b)
 |.optp b=>.optp (g b)
 |.agg cs=>.agg (renL g cs)
 |.tup cs=>.tup (renL g cs)
 |.fn f a c=>.fn f (renL g a) (renL g c)
 |.ifc t x=>.ifc t (x.ren g)
 |.cnd p x=>.cnd p (x.ren g)
 |x=>x
where renL (g:Id→Id):List AVal→List AVal
 |[]=>[]
 |x::r=>x.ren g::renL g r
def Ye(g:Id→Id)(es:List (List AVal)):List (List AVal):=es.map (AVal.ren.renL g)
def ABlock.ren(g:Id→Id):ABlock→ABlock
 |.rows s es=>.rows s (Ye g es)
 |.one cs=>.one (AVal.ren.renL g cs)
 |.amap es=>.amap (es.map fun x=>(x.1.ren g,x.2.ren g))
 |.tok=>.tok
 |.bld T b=>.bld T (g b)
 |.buf e bs=>.buf e bs
 |.lrec l r e=>.lrec l r (e.map fun x=>(x.1,x.2.ren g))
 |.rmap es arr ck=>.rmap (es.map fun x=>(x.1.ren g,x.2.ren g)) arr ck
 |.itr m arr ck seen=>.itr (m.map g) arr ck seen
 |.mbox b=>.mbox (g b)
theorem z9n(g:Id→Id):∀ (e:Env) (t:Nat),Env.get (e.map fun x=>(x.1,x.2.ren g)) t=(Env.get e t).ren g
 |[],t=>rfl
 |(k,v)::r,t=>by
  simp only[List.map_cons,Env.get]
  split
  ·rfl
  ·exact z9n g r t
theorem zqs{p:Id→Bool}:∀ (e:Env) (t:Nat),(e.all fun x=>x.2.inP p)=true→(Env.get e t).inP p=true
 |[],t,_=>rfl
 |(k,v)::r,t,h=>by
  simp only[List.all_cons,pI] at h
  simp only[Env.get]
  split
  ·exact h.1
  ·exact zqs r t h.2
theorem Za(g:Id→Id):∀ (l:List AVal),AVal.ren.renL g l=l.map (AVal.ren g)
 |[]=>rfl
 |x::r=>by simp only[AVal.ren.renL,List.map_cons,Za g r]
theorem Xi{g:Id→Id}{l:List AVal}{i:Nat}{y:AVal}(h:(AVal.ren.renL g l)[i]?=some y):∃x,l[i]?=some x∧y=x.ren g:=by
 rw[Za,pG] at h
 cases hx:l[i]? with
 |none=>rw[hx] at h;cases h
 |some x=>rw[hx] at h;simp only[pE,p0] at h;exact⟨x,rfl,h.symm⟩
theorem Qu{g:Id→Id}(l:List AVal):(AVal.ren.renL g l).length=l.length:=by rw[Za,pJ]
theorem z0a{I:Nat→Nat→Prop}{w:World}{g:Id→Id}{x:AVal}{v:Value}(h:RepI I w x v):RepI I w (x.ren g) v:=by
 induction h with
 |bool b=>exact .bool b
 |int k n=>exact .int k n
 |str l=>exact .str l
 |val v h=>exact .val v h
 |agg cs vs h1 h2 _ ih=>exact .agg _ vs (by rw[Qu];exact h1) h2 (fun i x v hx hv=>by obtain⟨y,hy,rfl⟩:=Xi hx;exact ih i y v hy hv)
 |tup cs vs h1 _ ih=>exact .tup _ vs (by rw[Qu];exact h1) (fun i x v hx hv=>by obtain⟨y,hy,rfl⟩:=Xi hx;exact ih i y v hy hv)
 |islNil s f=>exact .islNil s f
 |islEmpty s f a cap h=>exact .islEmpty s f a cap h
 |isl s es f b o cap vf h1 h2 h3 h4 h5 h6 h7 _=>exact .isl s es f b o cap vf h1 h2 h3 h4 h5 h6 h7
 |iptr s es b o i0 off vf h1 h4 h5 h6 h7 _=>exact .iptr s es b o i0 off vf h1 h4 h5 h6 h7
 |fn f a c fs cs h1 h2 _ _ ih1 ih2=>exact .fn f _ _ fs cs (by rw[Qu];exact h1) (by rw[Qu];exact h2) (fun i x v hx hv=>by obtain⟨y,hy,rfl⟩:=Xi hx;exact ih1 i y v hy hv) (fun i x v hx hv=>by obtain⟨y,hy,rfl⟩:=Xi hx;exact ih2 i y v hy hv)
 |ifc t x v _ ih=>exact .ifc t _ v ih
theorem z4o{p:Id→Bool}{g:Id→Id}{I I2:Nat→Nat→Prop}{β β2:Id→Option CLoc}{n n2:Nat}{w:World}(hI:∀b k,I b k→I2 b k)(hn:∀id:Id,p id=true→(g id).1<n2)
 (hβ:∀ (id:Id) c,p id=true→β2 (g id)=some c→β id=some c) {x:AVal} {v:Value} (h:Rep I β n w x v):x.inP p=true→Rep I2 β2 n2 w (x.ren g) v:=by
 induction h with
 |any v=>intro _;exact .any v
 |imm x v h=>intro _;exact .imm _ _ (z0a (h.mono hI (fun _ _ _=>rfl)))
 |agg cs vs h1 h2 _ ih=>intro hr;exact .agg _ vs (by rw[Qu];exact h1) h2 (fun i x v hx hv=>by obtain⟨y,hy,rfl⟩:=Xi hx;exact ih i y v hy hv (Kl hr y (pC hy)))
 |tup cs vs h1 _ ih=>intro hr;exact .tup _ vs (by rw[Qu];exact h1) (fun i x v hx hv=>by obtain⟨y,hy,rfl⟩:=Xi hx;exact ih i y v hy hv (Kl hr y (pC hy)))
 |fn f a c fs cs h1 h2 _ _ ih1 ih2=>
  intro hr
  simp only[AVal.inP,pI] at hr
  exact .fn f _ _ fs cs (by rw[Qu];exact h1) (by rw[Qu];exact h2) (fun i x v hx hv=>by obtain⟨y,hy,rfl⟩:=Xi hx;exact ih1 i y v hy hv (Kl hr.1 y (pC hy)))
   (fun i x v hx hv=>by obtain⟨y,hy,rfl⟩:=Xi hx;exact ih2 i y v hy hv (Kl hr.2 y (pC hy)))
 |ifc t x v _ ih=>intro hr;exact .ifc t _ v (ih hr)
 |osl tok s es v h1 h2 h3=>intro hr;exact .osl _ s es v (hn tok hr) (h2.mono hI (fun _ _ _=>rfl)) (fun c hc=>h3 c (hβ tok c hr hc))
 |ptr b i off a hb h=>intro hr;exact .ptr _ i off a (hn b hr) (fun c hc=>h c (hβ b c hr hc))
 |msl b s off len f a cap hb h1 h2 h3=>intro hr;exact .msl _ s off len f a cap (hn b hr) h1 h2 (fun c hc=>h3 c (hβ b c hr hc))
 |map b k hb h=>intro hr;exact .map _ k (hn b hr) (fun c hc=>h c (hβ b c hr hc))
 |optp b k hb h=>intro hr;exact .optp _ k (hn b hr) (fun c hc=>h c (hβ b c hr hc))
 |cnd q x v _ h ih=>intro hr;exact .cnd q _ v (fun hp=>ih hp hr) h
theorem zgp{p:Id→Bool}{g:Id→Id}{I I2:Nat→Nat→Prop}{β β2:Id→Option CLoc}{n n2:Nat}{w:World}(hI:∀b k,I b k→I2 b k)(hn:∀id:Id,p id=true→(g id).1<n2)
 (hβ:∀ (id:Id) c,p id=true→β2 (g id)=some c→β id=some c) {c:CLoc} {s:Nat} {es:List (List AVal)} (hr:(ABlock.rows s es).inP p=true) (hB:RepB I β n w c (.rows s es)):RepB I2 β2 n2 w c (.rows s (Ye g es)):=by
 obtain⟨h1,h2,h3,h4,h5,h6,h7⟩:=hB
 have hrow:∀ {i:Nat} {q:List AVal},(Ye g es)[i]?=some q→∃q0,es[i]?=some q0∧q=AVal.ren.renL g q0:=by
  intro i q hq
  unfold Ye at hq
  rw[pG] at hq
  cases hx:es[i]? with
  |none=>rw[hx] at hq;cases hq
  |some q0=>rw[hx] at hq;simp only[pE,p0] at hq;exact⟨q0,rfl,hq.symm⟩
 refine⟨h1,h2.imp id (fun z=>⟨z.1,z.2.1,by rw[z.2.2];rfl⟩),h3,h4,by unfold Ye;rw[pJ];exact h5,fun i q hi=>?_,fun i q j x hi hj=>?_⟩
 ·obtain⟨q0,hq0,rfl⟩:=hrow hi
  rw[Qu];exact h6 i q0 hq0
 ·obtain⟨q0,hq0,rfl⟩:=hrow hi
  obtain⟨x0,hx0,rfl⟩:=Xi hj
  obtain⟨v,g1,g2,g3⟩:=h7 i q0 j x0 hq0 hx0
  simp only[ABlock.inP,qI] at hr
  exact⟨v,g1,g2,z4o hI hn hβ g3 (Kl (hr q0 (pC hq0)) x0 (pC hx0))⟩
theorem zt9{p:Id→Bool}{g:Id→Id}{I I2:Nat→Nat→Prop}{β β2:Id→Option CLoc}{n n2:Nat}{w:World}(hI:∀b k,I b k→I2 b k)(hn:∀id:Id,p id=true→(g id).1<n2)
 (hβ:∀ (id:Id) c,p id=true→β2 (g id)=some c→β id=some c) {c:CLoc} {b:ABlock} (hr:b.inP p=true) (hB:RepB I β n w c b):RepB I2 β2 n2 w c (b.ren g):=by
 cases b with
 |bld T g0=>
  obtain⟨h1,h2,h3,h4,q,v,h5,h6,h7⟩:=hB
  exact⟨h1,h2,h3,hn _ hr,q,v,h5,h6,fun d hd=>h7 d (hβ _ d hr hd)⟩
 |buf e bs=>exact hB
 |lrec l r e=>
  obtain⟨h1,h2,h3,h4,h5⟩:=hB
  exact⟨h1,h2,h3,h4,fun t=>by rw[z9n];exact z4o hI hn hβ (h5 t) (zqs e t hr)⟩
 |rmap es arr ck=>
  obtain⟨h1,h2,h3,h4⟩:=hB
  refine⟨h1,h2,h3,by rw[h4.len,pJ],fun i k x e hi he=>?_,h4.born,h4.clk⟩
  rw[pG] at hi
  cases hx:es[i]? with
  |none=>rw[hx] at hi;cases hi
  |some y=>
   rw[hx] at hi
   simp only[pE,p0,qD] at hi
   obtain⟨rfl,rfl⟩:=hi
   obtain⟨g1,g2⟩:=h4.ent i y.1 y.2 e hx he
   simp only[ABlock.inP,qI,pI] at hr
   exact⟨z0a (g1.mono hI (fun _ _ _=>rfl)),z4o hI hn hβ g2 (hr y (pC hx)).2⟩
 |itr m arr ck seen=>
  obtain⟨h1,h2,h0,k,h3,h4⟩:=hB
  refine⟨h1,h2,h0,k,h3,h4.mono (fun id _ hm=>hn id ?_) (fun id c _ hm hc=>hβ id c ?_ hc)⟩<;>(subst hm;exact hr)
 |mbox b=>
  obtain⟨h1,h2,h0,k,h3,h4⟩:=hB
  refine⟨h1,h2,h0,k,h3,h4.mono (g:=g) (fun id _ hm=>hn id ?_) (fun id c _ hm hc=>hβ id c ?_ hc)⟩<;>(simp only[p0] at hm;subst hm;exact hr)
 |rows s es=>exact zgp hI hn hβ hr hB
 |one cs=>
  have:=zgp (g:=g) (I2:=I2) (β2:=β2) (n2:=n2) hI hn hβ (by simpa[ABlock.inP] using hr) (Zq.1 hB)
  simp only[ABlock.ren]
  refine Zq.2 ?_
  rw[Qu]
  exact this
 |amap es=>
  obtain⟨h1,h2,arr,ck,h3,h4⟩:=hB
  refine⟨h1,h2,arr,ck,h3,by rw[h4.len,pJ],fun i k x e hi he=>?_,h4.born,h4.clk⟩
  rw[pG] at hi
  cases hx:es[i]? with
  |none=>rw[hx] at hi;cases hi
  |some y=>
   rw[hx] at hi
   simp only[pE,p0,qD] at hi
   obtain⟨rfl,rfl⟩:=hi
   obtain⟨g1,g2⟩:=h4.ent i y.1 y.2 e hx he
   simp only[ABlock.inP,qI,pI] at hr
   exact⟨z0a (g1.mono hI (fun _ _ _=>rfl)),z4o hI hn hβ g2 (hr y (pC hx)).2⟩
 |tok=>exact hB
inductive Vw(F:Id→Bool)(H:AHeap)(ρ:Id→Option Id)(n:Nat):AVal→AVal→Prop
 |any (x:AVal):Vw F H ρ n x .any
 |same (x:AVal):x.nid=true→Vw F H ρ n x x
 |mov (p:Id→Bool) (g:Id→Id) (x:AVal):x.inP p=true→(∀id:Id,p id=true→(g id).1<n∧ρ (g id)=some id)→Vw F H ρ n x (x.ren g)
 |osl (tok tok':Id) (s:Nat) (es:List (List AVal)):ρ tok'=some tok→Vw F H ρ n (.osl tok s es) (.osl tok' s es)
 |oslI (tok:Id) (s:Nat) (es:List (List AVal)):Vw F H ρ n (.osl tok s es) (.isl s es false)
 |ptr (b b':Id) (i off:Nat):ρ b'=some b→Vw F H ρ n (.ptr b i off) (.ptr b' i off)
 |msl (b b':Id) (s off len:Nat) (f:Bool):ρ b'=some b→Vw F H ρ n (.msl b s off len f) (.msl b' s off len f)
 |mslF (b b':Id) (s off len:Nat) (f:Bool):ρ b'=some b→Vw F H ρ n (.msl b s off len f) (.msl b' s off len false)
 |map (b b':Id):ρ b'=some b→Vw F H ρ n (.map b) (.map b')
 |optp (b b':Id):ρ b'=some b→Vw F H ρ n (.optp b) (.optp b')
 |nilP (b':Id):b'.1<n→Vw F H ρ n (.val (.pointer none)) (.optp b')
 |ptrP (b b':Id):ρ b'=some b→Vw F H ρ n (.ptr b 0 0) (.optp b')
 |islM (b b':Id) (s off:Nat) (f:Bool) (es:List (List AVal)):ρ b'=some b→H.get b=some (.rows s es)→Vw F H ρ n (.isl s [] true) (.msl b' s off 0 f)
 |nilM (b b':Id) (s off:Nat) (f:Bool) (es:List (List AVal)):ρ b'=some b→H.get b=some (.rows s es)→Vw F H ρ n (.val (.slice none 0 0)) (.msl b' s off 0 f)
 |nilI (s:Nat) (f:Bool):Vw F H ρ n (.val (.slice none 0 0)) (.isl s [] f)
 |nilO (tok':Id) (s:Nat):tok'.1<n→Vw F H ρ n (.val (.slice none 0 0)) (.osl tok' s [])
 |islF (s:Nat) (es:List (List AVal)) (f:Bool):Vw F H ρ n (.isl s es f) (.isl s es false)
 |islO (tok':Id) (s:Nat) (es:List (List AVal)):tok'.1<n→Vw F H ρ n (.isl s es true) (.osl tok' s es)
 |cnd (p:Bool) (x y:AVal):p=true→Vw F H ρ n x y→Vw F H ρ n (.cnd p x) y
 |agg (cs ds:List AVal):cs.length=ds.length→(∀ (i:Nat) (x y:AVal),cs[i]?=some x→ds[i]?=some y→Vw F H ρ n x y)→Vw F H ρ n (.agg cs) (.agg ds)
 |tup (cs ds:List AVal):cs.length=ds.length→(∀ (i:Nat) (x y:AVal),cs[i]?=some x→ds[i]?=some y→Vw F H ρ n x y)→Vw F H ρ n (.tup cs) (.tup ds)
 |fn (f:Fn) (a c a' c':List AVal):a.length=a'.length→c.length=c'.length→(∀ (i:Nat) (x y:AVal),a[i]?=some x→a'[i]?=some y→Vw F H ρ n x y)→(∀ (i:Nat) (x y:AVal),c[i]?=some x→c'[i]?=some y→Vw F H ρ n x y)→Vw F H ρ n (.fn f a c) (.fn f a' c')
 |ifc (t:TypeId) (x y:AVal):Vw F H ρ n x y→Vw F H ρ n (.ifc t x) (.ifc t y)
 |frz (b:Id) (s off len:Nat) (f f':Bool) (es rows:List (List AVal)):(f'=true→f=true)→F b=true→H.get b=some (.rows s es)→off+len≤es.length→rows.length=len →
  (∀ (i:Nat) (r r':List AVal),es[off+i]?=some r→rows[i]?=some r'→r.length=r'.length) →
  (∀ (i:Nat) (r r':List AVal) (j:Nat) (x y:AVal),es[off+i]?=some r→rows[i]?=some r'→r[j]?=some x→r'[j]?=some y→Vw F H ρ n x y)→(∀r'∈rows,∀y∈r',y.imm=some y)→Vw F H ρ n (.msl b s off len f) (.isl s rows f')
 |frz1 (b:Id) (off:Nat) (r r':List AVal):F b=true→H.get b=some (.one r)→r.length=r'.length→(∀ (j:Nat) (x y:AVal),r[j]?=some x→r'[j]?=some y→Vw F H ρ n x y)→(∀y∈r',y.imm=some y)→Vw F H ρ n (.ptr b 0 off) (.iptr r'.length [r'] 0 off)
 |frzP (b:Id) (s i off:Nat) (es rows:List (List AVal)):F b=true→H.get b=some (.rows s es)→rows.length=es.length →
  (∀ (i:Nat) (r r':List AVal),es[i]?=some r→rows[i]?=some r'→r.length=r'.length) →
  (∀ (i:Nat) (r r':List AVal) (j:Nat) (x y:AVal),es[i]?=some r→rows[i]?=some r'→r[j]?=some x→r'[j]?=some y→Vw F H ρ n x y)→(∀r'∈rows,∀y∈r',y.imm=some y)→Vw F H ρ n (.ptr b i off) (.iptr s rows i off)
inductive BVw(F:Id→Bool)(H:AHeap)(ρ:Id→Option Id)(n:Nat):ABlock→ABlock→Prop
 |tok:BVw F H ρ n .tok .tok
 |bld (T:TypeId) (g g':Id):ρ g'=some g→BVw F H ρ n (.bld T g) (.bld T g')
 |buf (e:TypeId) (bs:List UInt8):BVw F H ρ n (.buf e bs) (.buf e bs)
 |lrec (l:Nat) (r:Loop) (e e':Env):(∀t,Vw F H ρ n (e.get t) (e'.get t))→BVw F H ρ n (.lrec l r e) (.lrec l r e')
 |mov (p:Id→Bool) (g:Id→Id) (b:ABlock):b.inP p=true→(∀id:Id,p id=true→(g id).1<n∧ρ (g id)=some id)→BVw F H ρ n b (b.ren g)
 |one (r r':List AVal):r.length=r'.length→(∀ (j:Nat) (x y:AVal),r[j]?=some x→r'[j]?=some y→Vw F H ρ n x y)→BVw F H ρ n (.one r) (.one r')
 |amap (es:List (AVal×AVal)):(∀x∈es,x.2.nid=true)→BVw F H ρ n (.amap es) (.amap es)
 |amapV (es es':List (AVal×AVal)):es.length=es'.length→(∀ (i:Nat) (k x k' y:AVal),es[i]?=some (k,x)→es'[i]?=some (k',y)→k=k'∧Vw F H ρ n x y)→BVw F H ρ n (.amap es) (.amap es')
 |rmap (es:List (AVal×AVal)) (arr:Array MapEntry) (ck:Nat):(∀x∈es,x.2.nid=true)→BVw F H ρ n (.rmap es arr ck) (.rmap es arr ck)
 |rmapA (es:List (AVal×AVal)) (arr:Array MapEntry) (ck:Nat):(∀x∈es,x.2.nid=true)→BVw F H ρ n (.rmap es arr ck) (.amap es)
 |itr (b b':Id) (arr:Array MapEntry) (ck:Nat) (seen:List Nat):ρ b'=some b→BVw F H ρ n (.itr (some b) arr ck seen) (.itr (some b') arr ck seen)
 |mbox (b b':Id):ρ b'=some b→BVw F H ρ n (.mbox b) (.mbox b')
 |rows (s:Nat) (es es':List (List AVal)):es.length=es'.length→(∀ (i:Nat) (r r':List AVal),es[i]?=some r→es'[i]?=some r'→r.length=r'.length∧∀ (j:Nat) (x y:AVal),r[j]?=some x→r'[j]?=some y→Vw F H ρ n x y)→BVw F H ρ n (.rows s es) (.rows s es')
def EnvTo(F:Id→Bool)(H:AHeap)(ρ:Id→Option Id)(n:Nat)(e':Env):Env→Prop
 |[]=>True
 |(t,v)::r=>Vw F H ρ n (e'.get t) v∧EnvTo F H ρ n e' r
def Jz(F:Id→Bool)(H:AHeap)(ρ:Id→Option Id)(n0 n:Nat)(k:Id)(b:ABlock):Prop:=
 match ρ k with
 |some j=>match H.get j with
  |some b'=>F j=false∧BVw F H ρ n b' b
  |none=>False
 |none=>b=.tok∧n0≤k.1∧k.1<n
def HeapTo(F:Id→Bool)(H:AHeap)(ρ:Id→Option Id)(n0 n:Nat):AHeap→Prop
 |[]=>True
 |(k,b)::r=>Jz F H ρ n0 n k b∧HeapTo F H ρ n0 n r
def z3i(F:Id→Bool)(H:AHeap)(ρ:Id→Option Id)(n0 n:Nat)(L:AHeap):Prop:=∀id blk,L.get id=some blk→Jz F H ρ n0 n id blk
structure RhoOk(n0 n:Nat)(F:Id→Bool)(H:AHeap)(ρ:Id→Option Id):Prop where
 inj:∀i j k,ρ i=some k→ρ j=some k→i=j
 dom:∀i k,ρ i=some k→i.1<n
 low:∀i:Id,i.1<n0→(ρ i=some i∧F i=false)∨(ρ i=none∧H.get i≠none)
 high:∀ (i k:Id),n0≤i.1→ρ i=some k→n0≤k.1∨H.get k≠none
 le:n0≤n
theorem EnvTo.get{F:Id→Bool}{H:AHeap}{ρ:Id→Option Id}{n:Nat}{e':Env}:∀ {e:Env},EnvTo F H ρ n e' e→∀t,Vw F H ρ n (e'.get t) (e.get t)
 |[],_,t=>.any _
 |(k,v)::r,h,t=>by
  by_cases hk:k=t
  ·subst hk;simp only[Env.get,if_pos];exact h.1
  ·simp only[Env.get,if_neg hk];exact EnvTo.get h.2 t
theorem HeapTo.get{F:Id→Bool}{H:AHeap}{ρ:Id→Option Id}{n0 n:Nat}:∀ {L:AHeap},HeapTo F H ρ n0 n L→∀id blk,L.get id=some blk→Jz F H ρ n0 n id blk
 |[],_,_,_,h=>by cases h
 |(k,b)::r,h,id,blk,hb=>by
  by_cases hk:k=id
  ·subst hk
   simp only[AHeap.get,if_pos,p0] at hb
   subst hb
   exact h.1
  ·simp only[AHeap.get,if_neg hk] at hb;exact HeapTo.get h.2 id blk hb
section
variable {I I0:Nat→Nat→Prop} {β β0:Id→Option CLoc} {n0 n n':Nat} {H H' H0 L:AHeap} {w w0:World} {F:Id→Bool} {ρ:Id→Option Id}
def z5b(I:Nat→Nat→Prop)(β:Id→Option CLoc)(F:Id→Bool)(H:AHeap)(w:World):Nat→Nat→Prop:=fun b k=>I b k∨((∃id c,F id=true∧β id=some c∧H.get id≠none∧c.has b k)∧∃v,w.cell? ⟨b,k,none⟩=some v)
noncomputable def z6k(β:Id→Option CLoc)(F:Id→Bool)(ρ:Id→Option Id)(n0 n:Nat)(L:AHeap):Id→Option CLoc:=fun id=>match ρ id with
 |some k=>if F k then none else β k
 |none=>by classical exact if L.get id=some .tok∧n0≤id.1∧id.1<n then some ⟨0,0,0,0,0⟩ else none
theorem Qw{id:Id}{c:CLoc}(h:z6k β F ρ n0 n L id=some c):(∃k,ρ id=some k∧F k=false∧β k=some c)∨(ρ id=none∧c=⟨0,0,0,0,0⟩∧L.get id=some .tok∧n0≤id.1∧id.1<n):=by
 unfold z6k at h
 split at h
 ·rename_i k hk
  split at h
  ·cases h
  ·rename_i hF;exact .inl ⟨k,hk,by simpa using hF,h⟩
 ·rename_i hk
  split at h
  ·rename_i hc
   simp only[p0] at h
   exact .inr ⟨hk,h.symm,hc⟩
  ·cases h
theorem Xl{id:Id}{c:CLoc}{b k:Nat}(h:z6k β F ρ n0 n L id=some c)(hk:c.has b k):∃j,ρ id=some j∧F j=false∧β j=some c:=by
 rcases Qw h with h|⟨_,h,_⟩
 ·exact h
 ·subst h
  have:=hk.2.2
  simp at this
theorem z4j{id k:Id}(h:ρ id=some k)(hF:F k=false):z6k β F ρ n0 n L id=β k:=by
 unfold z6k;rw[h];simp[hF]
theorem z64{es:List (List AVal)}{i:Nat}{r:List AVal}(h:es[i]?=some r):i<es.length:=by
 rcases pD i es.length with h'|h'
 ·exact h'
 ·rw[pR h'] at h;cases h
theorem Wj{r:List AVal}{j:Nat}{x:AVal}(h:r[j]?=some x):j<r.length:=by
 rcases pD j r.length with h'|h'
 ·exact h'
 ·rw[pR h'] at h;cases h
theorem z2b(hI:Inv I β n' H' w)(hρ:RhoOk n0 n F H' ρ){x y:AVal}(h:Vw F H' ρ n x y):∀ {v:Value},Rep I β n' w x v→Rep (z5b I β F H' w) (z6k β F ρ n0 n L) n w y v:=by
 have up:∀ {x:AVal} {v:Value},RepI I w x v→RepI (z5b I β F H' w) w x v:=fun h=>h.mono (fun _ _ h=>.inl h) (fun _ _ _=>rfl)
 have back:∀ {i k:Id} {c:CLoc},ρ i=some k→z6k β F ρ n0 n L i=some c→β k=some c:=by
  intro i k c hk hc
  rcases Qw hc with⟨k',h1,_,h3⟩|⟨h1,_⟩
  ·rw[hk] at h1;simp only[p0] at h1;subst h1;exact h3
  ·rw[hk] at h1;cases h1
 -- the cells of a block that is frozen
 have frozen:∀ {b:Id} {c:CLoc} {s:Nat} {es:List (List AVal)},F b=true→H'.get b≠none→β b=some c→RepB I β n' w c (.rows s es)→∀k,c.base≤k→k<c.base+es.length*s→z5b I β F H' w c.blk k:=by
  intro b c s es hF hg hc hB k h1 h2
  obtain⟨_,⟨arr,el,fr,g1,g2⟩|⟨z1,z2,rfl⟩,_,g4,g5,_⟩:=hB
  rotate_left
  ·simp only[qC] at h2;omega
  refine .inr ⟨⟨b,c,hF,hc,hg,rfl,by omega,by omega⟩,?_⟩
  have hlt:k<arr.size:=by omega
  exact⟨arr[k],by unfold World.cell?;simp[g1,hlt]⟩
 induction h with
 |any x=>intro v _;exact .any v
 |same x hx=>intro v hr;exact Vv (fun _ _ h=>.inl h) x hx hr
 |mov p g x hx hp=>intro v hr;exact z4o (fun _ _ h=>.inl h) (fun id hid=>(hp id hid).1) (fun id c hid hc=>back (hp id hid).2 hc) hr hx
 |osl tok tok' s es ht=>
  intro v hr
  cases hr with
  |imm _ _ hr=>cases hr
  |osl _ _ _ _ h1 h2 h3=>exact .osl _ _ _ _ (hρ.dom _ _ ht) (up h2) (fun c hc=>h3 c (back ht hc))
 |oslI tok s es=>
  intro v hr
  cases hr with
  |imm _ _ hr=>cases hr
  |osl _ _ _ _ h1 h2 h3=>exact .imm _ _ (up h2)
 |ptr b b' i off hb=>
  intro v hr
  cases hr with
  |imm _ _ hr=>cases hr
  |ptr _ _ _ a h1 h2=>exact .ptr _ _ _ _ (hρ.dom _ _ hb) (fun c hc=>h2 c (back hb hc))
 |msl b b' s off len f hb=>
  intro v hr
  cases hr with
  |imm _ _ hr=>cases hr
  |msl _ _ _ _ _ a cap h0 h1 h2 h3=>exact .msl _ _ _ _ _ _ _ (hρ.dom _ _ hb) h1 h2 (fun c hc=>h3 c (back hb hc))
 |mslF b b' s off len f hb=>
  intro v hr
  cases hr with
  |imm _ _ hr=>cases hr
  |msl _ _ _ _ _ a cap h0 h1 h2 h3=>exact .msl _ _ _ _ _ _ _ (hρ.dom _ _ hb) h1 (fun h=>by cases h) (fun c hc=>h3 c (back hb hc))
 |islM b b' s off f es hb hg=>
  intro v hr
  obtain⟨c,hc,hB⟩:=hI.blocks b _ hg
  obtain⟨ad,cap,rfl,_,hcap,_⟩:=hr.isl_inv
  have h0:cap=0:=hcap rfl
  subst h0
  exact .msl _ _ _ _ _ ad 0 (hρ.dom _ _ hb) ⟨p9 _,fun _=>rfl⟩ (fun _=>rfl) (fun c' hc'=>by
   have h1:=back hb hc'
   rw[hc] at h1
   simp only[p0] at h1
   subst h1
   exact⟨hB.1,fun h=>absurd rfl h⟩)
 |nilM b b' s off f es hb hg=>
  intro v hr
  obtain rfl:=hr.val_inv
  obtain⟨c,hc,hB⟩:=hI.blocks b _ hg
  exact .msl _ _ _ _ _ none 0 (hρ.dom _ _ hb) ⟨p9 _,fun _=>rfl⟩ (fun _=>rfl) (fun c' hc'=>by
   have h1:=back hb hc'
   rw[hc] at h1
   simp only[p0] at h1
   subst h1
   exact⟨hB.1,fun h=>absurd rfl h⟩)
 |map b b' hb=>
  intro v hr
  cases hr with
  |imm _ _ hr=>cases hr
  |map _ r h1 h2=>exact .map _ _ (hρ.dom _ _ hb) (fun c hc=>h2 c (back hb hc))
 |optp b b' hb=>
  intro v hr
  cases hr with
  |imm _ _ hr=>cases hr
  |optp _ a h1 h2=>exact .optp _ _ (hρ.dom _ _ hb) (fun c hc=>h2 c (back hb hc))
 |nilP b' hb=>intro v hr;rw[hr.val_inv];exact .optp _ _ hb (fun c _=>.inl rfl)
 |ptrP b b' hb=>
  intro v hr
  cases hr with
  |imm _ _ hr=>cases hr
  |ptr _ _ _ a h1 h2=>exact .optp _ _ (hρ.dom _ _ hb) (fun c hc=>.inr (by rw[h2 c (back hb hc)];simp))
 |nilI s f=>intro v hr;rw[hr.val_inv];exact .imm _ _ (.islNil s f)
 |nilO tok' s ht=>intro v hr;rw[hr.val_inv];exact .osl _ _ _ _ ht (.islNil _ _) (fun c _ a cap he=>by simp at he)
 |islF s es f=>
  intro v hr
  cases hr with
  |imm _ _ hr=>
   cases hr with
   |islNil=>exact .imm _ _ (.islNil _ _)
   |islEmpty _ _ a cap h=>exact .imm _ _ (.islEmpty _ _ _ _ (fun h=>by cases h))
   |isl _ _ _ b o cap vf h1 h2 h3 h4 h5 h6 h7=>exact .imm _ _ (up (.isl _ _ _ b o cap vf h1 h2 (fun h=>by cases h) h4 h5 h6 h7))
 |islO tok' s es ht=>
  intro v hr
  obtain⟨ad,cap,hv,_,hf,_⟩:=hr.isl_inv
  have hcap:=hf rfl
  cases hr with
  |imm _ _ hr=>
   refine .osl _ _ _ _ ht ?_ ?_
   ·cases hr with
    |islNil=>exact .islNil _ _
    |islEmpty _ _ a cap h=>exact .islEmpty _ _ _ _ (fun h=>by cases h)
    |isl _ _ _ b o cap vf h1 h2 h3 h4 h5 h6 h7=>exact up (.isl _ _ _ b o cap vf h1 h2 (fun h=>by cases h) h4 h5 h6 h7)
   ·intro c _ a cap' he
    rw[hv] at he
    simp only[qN] at he
    exact .inl (by rw[←he.2.2];exact hcap)
 |cnd p x y hp _ ih=>
  intro v hr
  cases hr with
  |imm _ _ hr=>cases hr
  |cnd _ _ _ h1 _=>exact ih (h1 hp)
 |agg cs ds hl _ ih=>
  intro v hr
  obtain⟨vs,rfl,h1,h2,h3⟩:=hr.agg_inv
  refine .agg ds vs (by omega) h2 fun i y v hy hv=>?_
  have hlt:i<cs.length:=by rw[hl];exact Wj hy
  exact ih i cs[i] y (p7 hlt) hy (h3 i _ v (p7 hlt) hv)
 |tup cs ds hl _ ih=>
  intro v hr
  have:∃vs,v=.tuple vs∧vs.size=cs.length∧∀ (i:Nat) (y:AVal) (u:Value),cs[i]?=some y→vs[i]?=some u→Rep I β n' w y u:=by
   cases hr with
   |tup _ vs h1 h2=>exact⟨vs,rfl,h1,h2⟩
   |imm _ _ hx=>
    cases hx with
    |tup _ vs h1 h2=>exact⟨vs,rfl,h1,fun i y u hy hu=>.imm _ _ (h2 i y u hy hu)⟩
  obtain⟨vs,rfl,h1,h3⟩:=this
  refine .tup ds vs (by omega) fun i y v hy hv=>?_
  have hlt:i<cs.length:=by rw[hl];exact Wj hy
  exact ih i cs[i] y (p7 hlt) hy (h3 i _ v (p7 hlt) hv)
 |fn f a c a' c' hl1 hl2 _ _ ih1 ih2=>
  intro v hr
  have hfn:∃fs cs:Array Value,v=.func f fs cs∧fs.size=a.length∧cs.size=c.length∧(∀ (i:Nat) (x:AVal) (v:Value),a[i]?=some x→fs[i]?=some v→Rep I β n' w x v)∧(∀ (i:Nat) (x:AVal) (v:Value),c[i]?=some x→cs[i]?=some v→Rep I β n' w x v):=by
   cases hr with
   |fn _ _ _ fs cs h1 h2 h3 h4=>exact⟨fs,cs,rfl,h1,h2,h3,h4⟩
   |imm _ _ hr=>
    cases hr with
    |fn _ _ _ fs cs h1 h2 h3 h4=>exact⟨fs,cs,rfl,h1,h2,fun i x v p q=>.imm _ _ (h3 i x v p q),fun i x v p q=>.imm _ _ (h4 i x v p q)⟩
  obtain⟨fs,cs,rfl,k1,k2,k3,k4⟩:=hfn
  refine .fn f a' c' fs cs (by omega) (by omega) (fun i y v hy hv=>?_) (fun i y v hy hv=>?_)
  ·have hlt:i<a.length:=by rw[hl1];exact Wj hy
   exact ih1 i a[i] y (p7 hlt) hy (k3 i _ v (p7 hlt) hv)
  ·have hlt:i<c.length:=by rw[hl2];exact Wj hy
   exact ih2 i c[i] y (p7 hlt) hy (k4 i _ v (p7 hlt) hv)
 |ifc t x y _ ih=>
  intro v hr
  cases hr with
  |ifc _ _ u h=>exact .ifc t y u (ih h)
  |imm _ _ h=>
   cases h with
   |ifc _ _ u h=>exact .ifc t y u (ih (.imm _ _ h))
 |frz b s off len f f' es rows hff hF hg hlen hrl hrow _ himm ih=>
  intro v hr
  obtain⟨c,hc,hB⟩:=hI.blocks b _ hg
  have hB0:=hB
  obtain⟨hcs,_,_,hlo,hbase,hlens,hcell⟩:=hB
  cases hr with
  |imm _ _ h=>cases h
  |msl _ _ _ _ _ ad cap hbn hcap hf hp=>
   by_cases h0:len=0
   ·subst h0
    have:rows=[]:=pS.1 hrl
    subst this
    cases ad with
    |some ad=>exact .imm _ _ (.islEmpty s f' ad cap (fun h=>hf (hff h)))
    |none=>have hc0:=hcap.2 rfl;subst hc0;exact .imm _ _ (.islNil _ _)
   ·obtain⟨k1,k2⟩:=(hp c hc).2 (by omega)
    subst k1
    have key:∀ (i:Nat) (r':List AVal) (j:Nat) (y:AVal),rows[i]?=some r'→r'[j]?=some y→∃u,w.cell? ⟨c.blk,c.base+off*s+i*s+j,none⟩=some u∧j7 u=true∧RepI (z5b I β F H' w) w y u∧z5b I β F H' w c.blk (c.base+off*s+i*s+j):=by
     intro i r' j y hr' hy
     have hi:i<len:=by rw[←hrl];exact z64 hr'
     have hr:es[off+i]?=some (es[off+i]'(by omega)):=p7 (by omega)
     have hlr:=hrow i _ r' hr hr'
     have hj:=Wj hy
     have hx:(es[off+i]'(by omega))[j]?=some ((es[off+i]'(by omega))[j]'(by omega)):=p7 (by omega)
     obtain⟨u,g1,g2,g3⟩:=hcell (off+i) _ j _ hr hx
     have hrin:=zib hlens hr hx
     rw[qA] at g1 hrin
     have hrep:=ih i _ r' j _ y hr hr' hx hy g3
     have e1:c.base+(off*s+i*s)+j=c.base+off*s+i*s+j:=by omega
     rw[e1] at g1
     exact⟨u,g1,g2,Yx y (himm r' (pC hr') y (pC hy)) hrep,frozen hF (by rw[hg];simp) hc hB0 _ (by omega) (by omega)⟩
    subst hrl
    refine .imm _ _ (.isl s rows f' c.blk (c.base+off*s) cap (fun i j=>(w.cell? ⟨c.blk,c.base+off*s+i*s+j,none⟩).getD undef) ?_ hcap.1 (fun h=>hf (hff h)) ?_ ?_ ?_ ?_)
    ·intro i r j x hi hj
     obtain⟨u,_,_,_,h4⟩:=key i r j x hi hj
     exact h4
    ·intro i r' hr'
     have hi:=z64 hr'
     have hr:es[off+i]?=some (es[off+i]'(by omega)):=p7 (by omega)
     rw[←hrow i _ r' hr hr'];exact hlens _ _ hr
    ·intro i r j x hi hj;obtain⟨u,h1,_⟩:=key i r j x hi hj;rw[h1];rfl
    ·intro i r j x hi hj;obtain⟨u,h1,h2,_⟩:=key i r j x hi hj;rw[h1];exact h2
    ·intro i r j x hi hj;obtain⟨u,h1,_,h3,_⟩:=key i r j x hi hj;rw[h1];exact h3
 |frz1 b off r0 r0' hF hg hl0 _ himm ih=>
  intro v hr
  obtain⟨c,hc,hB⟩:=hI.blocks b _ hg
  have hB0:=Zq.1 hB
  obtain⟨hcs,_,_,hlo,hbase,hlens,hcell⟩:=hB0
  cases hr with
  |imm _ _ h=>cases h
  |ptr _ _ _ ad hbn hp=>
   have hp:=hp c hc
   subst hp
   have key:∀ (i:Nat) (r':List AVal) (j:Nat) (y:AVal),[r0'][i]?=some r'→r'[j]?=some y→∃u,w.cell? ⟨c.blk,c.base+i*r0'.length+j,none⟩=some u∧j7 u=true∧RepI (z5b I β F H' w) w y u∧z5b I β F H' w c.blk (c.base+i*r0'.length+j):=by
    intro i r' j y hr' hy
    cases i with
    |succ i=>simp at hr'
    |zero=>
     simp only[pH,p0] at hr'
     subst hr'
     have hj:=Wj hy
     have hx:r0[j]?=some (r0[j]'(by omega)):=p7 (by omega)
     obtain⟨u,g1,g2,g3⟩:=hcell 0 r0 j _ rfl hx
     have hrep:=ih j _ y hx hy g3
     simp only[Nat.zero_mul,pX] at g1 ⊢
     exact⟨u,g1,g2,Yx y (himm y (pC hy)) hrep,frozen hF (by rw[hg];simp) hc (Zq.1 hB) _ (by omega) (by simp;omega)⟩
   simp only[Nat.zero_mul,pX]
   have:=RepI.iptr (I:=z5b I β F H' w) (w:=w) r0'.length [r0'] c.blk c.base 0 off (fun i j=>(w.cell? ⟨c.blk,c.base+i*r0'.length+j,none⟩).getD undef) (fun i r j x hi hj=>by
    obtain⟨u,_,_,_,h4⟩:=key i r j x hi hj
    exact h4) (fun i r' hr'=>by
    cases i with
    |succ i=>simp at hr'
    |zero=>simp only[pH,p0] at hr';rw[←hr'])
    (fun i r j x hi hj=>by obtain⟨u,h1,_⟩:=key i r j x hi hj;rw[h1];rfl)
    (fun i r j x hi hj=>by obtain⟨u,h1,h2,_⟩:=key i r j x hi hj;rw[h1];exact h2)
    (fun i r j x hi hj=>by obtain⟨u,h1,_,h3,_⟩:=key i r j x hi hj;rw[h1];exact h3)
   simp only[Nat.zero_mul,pX] at this
   exact .imm _ _ this
 |frzP b s i0 off es rows hF hg hrl hrow _ himm ih=>
  intro v hr
  obtain⟨c,hc,hB⟩:=hI.blocks b _ hg
  have hB0:=hB
  obtain⟨hcs,_,_,hlo,hbase,hlens,hcell⟩:=hB
  cases hr with
  |imm _ _ h=>cases h
  |ptr _ _ _ ad hbn hp=>
   have hp:=hp c hc
   subst hp
   rw[hcs]
   have key:∀ (i:Nat) (r':List AVal) (j:Nat) (y:AVal),rows[i]?=some r'→r'[j]?=some y→∃u,w.cell? ⟨c.blk,c.base+i*s+j,none⟩=some u∧j7 u=true∧RepI (z5b I β F H' w) w y u∧z5b I β F H' w c.blk (c.base+i*s+j):=by
    intro i r' j y hr' hy
    have hi:i<es.length:=by rw[←hrl];exact z64 hr'
    have hr:es[i]?=some es[i]:=p7 hi
    have hlr:=hrow i _ r' hr hr'
    have hj:=Wj hy
    have hx:(es[i])[j]?=some ((es[i])[j]'(by omega)):=p7 (by omega)
    obtain⟨u,g1,g2,g3⟩:=hcell i _ j _ hr hx
    have hrin:=zib hlens hr hx
    have hrep:=ih i _ r' j _ y hr hr' hx hy g3
    exact⟨u,g1,g2,Yx y (himm r' (pC hr') y (pC hy)) hrep,frozen hF (by rw[hg];simp) hc hB0 _ (by omega) (by omega)⟩
   refine .imm _ _ (.iptr s rows c.blk c.base i0 off (fun i j=>(w.cell? ⟨c.blk,c.base+i*s+j,none⟩).getD undef) ?_ ?_ ?_ ?_ ?_)
   ·intro i r j x hi hj
    obtain⟨u,_,_,_,h4⟩:=key i r j x hi hj
    exact h4
   ·intro i r' hr'
    have hi:=z64 hr'
    have hr:es[i]?=some (es[i]'(by omega)):=p7 (by omega)
    rw[←hrow i _ r' hr hr'];exact hlens _ _ hr
   ·intro i r j x hi hj;obtain⟨u,h1,_⟩:=key i r j x hi hj;rw[h1];rfl
   ·intro i r j x hi hj;obtain⟨u,h1,h2,_⟩:=key i r j x hi hj;rw[h1];exact h2
   ·intro i r j x hi hj;obtain⟨u,h1,_,h3,_⟩:=key i r j x hi hj;rw[h1];exact h3
theorem zgg(hI:Inv I β n' H' w)(hρ:RhoOk n0 n F H' ρ){c:CLoc}{s:Nat}{es es':List (List AVal)}(hl:es.length=es'.length)(hr:∀ (i:Nat) (r r':List AVal),es[i]?=some r→es'[i]?=some r'→r.length=r'.length∧∀ (j:Nat) (x y:AVal),r[j]?=some x→r'[j]?=some y→Vw F H' ρ n x y)
 (hB:RepB I β n' w c (.rows s es)):RepB (z5b I β F H' w) (z6k β F ρ n0 n L) n w c (.rows s es'):=by
 obtain⟨h1,h2,h3,h4,h5,h6,h7⟩:=hB
 refine⟨h1,h2.imp id (fun z=>⟨z.1,z.2.1,by have:=hl;rw[z.2.2] at this;exact List.eq_nil_of_length_eq_zero this.symm⟩),h3,h4,by rw[←hl];exact h5,fun i r' hr'=>?_,fun i r' j y hr' hy=>?_⟩
 ·have hi:i<es.length:=by rw[hl];exact z64 hr'
  have hri:es[i]?=some es[i]:=p7 hi
  rw[←(hr i _ r' hri hr').1];exact h6 i _ hri
 ·have hi:i<es.length:=by rw[hl];exact z64 hr'
  have hri:es[i]?=some es[i]:=p7 hi
  obtain⟨k1,k2⟩:=hr i _ r' hri hr'
  have hj:j<(es[i]).length:=by rw[k1];exact Wj hy
  have hxj:(es[i])[j]?=some ((es[i])[j]):=p7 hj
  obtain⟨v,g1,g2,g3⟩:=h7 i _ j _ hri hxj
  exact⟨v,g1,g2,z2b hI hρ (k2 j _ y hxj hy) g3⟩
theorem zrt(hI:Inv I β n' H' w)(hρ:RhoOk n0 n F H' ρ){c:CLoc}{b b':ABlock}(h:BVw F H' ρ n b b')(hB:RepB I β n' w c b):RepB (z5b I β F H' w) (z6k β F ρ n0 n L) n w c b':=by
 cases h with
 |tok=>exact hB
 |buf e bs=>exact hB
 |lrec l r e e' he=>
  obtain⟨h1,h2,h3,h4,h5⟩:=hB
  exact⟨h1,h2,h3,h4,fun t=>z2b hI hρ (he t) (h5 t)⟩
 |rmap es arr ck he=>
  obtain⟨h1,h2,h3,h4⟩:=hB
  refine⟨h1,h2,h3,h4.len,fun i k x e hi hx=>?_,h4.born,h4.clk⟩
  obtain⟨g1,g2⟩:=h4.ent i k x e hi hx
  exact⟨g1.mono (fun _ _ h=>.inl h) (fun _ _ _=>rfl),Vv (fun _ _ h=>.inl h) x (he _ (pC hi)) g2⟩
 |rmapA es arr ck he=>
  obtain⟨h1,h2,h3,h4⟩:=hB
  refine⟨h1,h2,arr,ck,h3,h4.len,fun i k x e hi hx=>?_,h4.born,h4.clk⟩
  obtain⟨g1,g2⟩:=h4.ent i k x e hi hx
  exact⟨g1.mono (fun _ _ h=>.inl h) (fun _ _ _=>rfl),Vv (fun _ _ h=>.inl h) x (he _ (pC hi)) g2⟩
 |itr b b' arr ck seen hg=>
  obtain⟨h1,h2,h0,k,h3,h4,q,h5,h6⟩:=hB
  refine⟨h1,h2,h0,k,h3,hρ.dom _ _ hg,q,h5,fun d hd=>h6 d ?_⟩
  rcases Qw hd with⟨k',e1,_,e3⟩|⟨e1,_⟩
  ·rw[hg] at e1;simp only[p0] at e1;subst e1;exact e3
  ·rw[hg] at e1;cases e1
 |mbox b b' hg=>
  obtain⟨h1,h2,h0,k,h3,h4,q,h5,h6⟩:=hB
  refine⟨h1,h2,h0,k,h3,hρ.dom _ _ hg,q,h5,fun d hd=>h6 d ?_⟩
  rcases Qw hd with⟨k',e1,_,e3⟩|⟨e1,_⟩
  ·rw[hg] at e1;simp only[p0] at e1;subst e1;exact e3
  ·rw[hg] at e1;cases e1
 |bld T g g' hg=>
  obtain⟨h1,h2,h3,h4,p,v,h5,h6,h7⟩:=hB
  refine⟨h1,h2,h3,hρ.dom _ _ hg,p,v,h5,h6,fun d hd=>h7 d ?_⟩
  rcases Qw hd with⟨k',e1,_,e3⟩|⟨e1,_⟩
  ·rw[hg] at e1;simp only[p0] at e1;subst e1;exact e3
  ·rw[hg] at e1;cases e1
 |mov p g b hx hp=>
  refine zt9 (fun _ _ h=>.inl h) (fun id hid=>(hp id hid).1) (fun id c hid hc=>?_) hx hB
  rcases Qw hc with⟨k',h1,_,h3⟩|⟨h1,_⟩
  ·rw[(hp id hid).2] at h1;simp only[p0] at h1;subst h1;exact h3
  ·rw[(hp id hid).2] at h1;cases h1
 |one r r' hl hr=>
  have:=zgg (L:=L) (es:=[r]) (es':=[r']) hI hρ rfl (fun i a a' h1 h2=>by
   cases i with
   |succ i=>simp at h1
   |zero=>simp only[pH,p0] at h1 h2;subst h1;subst h2;exact⟨hl,hr⟩) (Zq.1 hB)
  rw[hl] at this
  exact Zq.2 this
 |amap es he=>
  obtain⟨h1,h2,arr,ck,h3,h4⟩:=hB
  refine⟨h1,h2,arr,ck,h3,h4.len,fun i k x e hi hx=>?_,h4.born,h4.clk⟩
  obtain⟨g1,g2⟩:=h4.ent i k x e hi hx
  exact⟨g1.mono (fun _ _ h=>.inl h) (fun _ _ _=>rfl),Vv (fun _ _ h=>.inl h) x (he _ (pC hi)) g2⟩
 |amapV es es' hl hv=>
  obtain⟨h1,h2,arr,ck,h3,h4⟩:=hB
  refine⟨h1,h2,arr,ck,h3,h4.len.trans hl,fun i k x e hi hx=>?_,h4.born,h4.clk⟩
  have hlt:i<es.length:=by rw[hl];exact(List.getElem?_eq_some_iff.1 hi).1
  obtain⟨rfl,g⟩:=hv i es[i].1 es[i].2 k x (by rw[p7 hlt]) hi
  obtain⟨g1,g2⟩:=h4.ent i es[i].1 es[i].2 e (by rw[p7 hlt]) hx
  exact⟨g1.mono (fun _ _ h=>.inl h) (fun _ _ _=>rfl),z2b hI hρ g g2⟩
 |rows s es es' hl hr=>exact zgg hI hρ hl hr hB
theorem zhn(hX:Ext I0 β0 n0 H0 w0 I β n' H' w)(hI:Inv I β n' H' w)(hρ:RhoOk n0 n F H' ρ)(hL:z3i F H' ρ n0 n L) :
 Ext I0 β0 n0 H0 w0 (z5b I β F H' w) (z6k β F ρ n0 n L) n L w∧Inv (z5b I β F H' w) (z6k β F ρ n0 n L) n L w:=by
 have own:∀id c b k,β id=some c→H'.get id≠none→c.has b k→b<w0.heap.size→∃i0 c0,β0 i0=some c0∧c0.has b k∧H0.get i0≠none:=by
  intro id c b k he hg hk hlt
  by_cases hid:id.1<n0
  ·rcases hX.old id hid with h|⟨h,_⟩
   ·exact⟨id,c,h▸he,hk,hX.dom id hid hg⟩
   ·rw[h] at he;cases he
  ·rcases hX.new id c b k (by omega) he hk with h|h
   ·omega
   ·exact h
 constructor
 ·refine⟨hX.os,hX.tape,hX.output,hX.size,hX.frame,hX.cells,hX.shape,hX.maps,fun b k h=>.inl (hX.imm b k h),?_,?_,?_,?_,hρ.le⟩
  ·rintro b k (h|⟨⟨id,c,h1,h2,h3,h4⟩,_⟩) hn hlt
   ·exact hX.immNew b k h hn hlt
   ·exact own id c b k h2 h3 h4 hlt
  ·intro id hid
   rcases hρ.low id hid with⟨h1,h2⟩|⟨h1,h2⟩
   ·rw[z4j h1 h2]
    exact hX.old id hid
   ·refine .inr ⟨?_,hX.dom id hid h2⟩
    unfold z6k
    rw[h1]
    simp only
    rw[if_neg (fun h=>by omega)]
  ·intro id c b k hid hc hk
   obtain⟨j,h1,h2,h3⟩:=Xl hc hk
   rcases hρ.high id j hid h1 with h4|h4
   ·exact hX.new j c b k h4 h3 hk
   ·by_cases hlt:b<w0.heap.size
    ·exact .inr (own j c b k h3 h4 hk hlt)
    ·exact .inl (by omega)
  ·intro id hid hg
   refine hX.dom id hid ?_
   cases hh:L.get id with
   |none=>exact absurd hh hg
   |some blk=>
    have:=hL id blk hh
    unfold Jz at this
    rcases hρ.low id hid with⟨h1,h2⟩|⟨h1,h2⟩
    ·rw[h1] at this
     simp only at this
     intro hn
     rw[hn] at this
     exact this
    ·exact h2
 ·refine⟨fun id blk hb=>?_,fun i j c d b k hi hj hc hd=>?_,fun i c b k hi hc=>?_,fun b k h=>?_,fun id hid=>?_,hI.glob.mono (fun _ _ h=>.inl h) (fun _ _ _=>rfl) (SameSz.refl _)⟩
  ·have:=hL id blk hb
   unfold Jz at this
   split at this
   ·rename_i j hj
    split at this<;>try (exact this.elim)
    rename_i b' hb'
    obtain⟨hF,hv⟩:=this
    obtain⟨c,hc,hB⟩:=hI.blocks j b' hb'
    exact⟨c,by rw[z4j hj hF];exact hc,zrt hI hρ hv hB⟩
   ·rename_i hj
    obtain⟨rfl,h1,h2⟩:=this
    refine⟨⟨0,0,0,0,0⟩,?_,fun k _ h=>absurd h (Nat.not_lt_zero k)⟩
    unfold z6k
    rw[hj]
    simp[hb,h1,h2]
  ·obtain⟨i',h1,_,h2⟩:=Xl hi hc
   obtain⟨j',h3,_,h4⟩:=Xl hj hd
   have:=hI.inj i' j' c d b k h2 h4 hc hd
   subst this
   exact hρ.inj i j i' h1 h3
  ·obtain⟨i',h1,h2,h3⟩:=Xl hi hc
   obtain⟨h4,h5⟩:=hI.own i' c b k h3 hc
   refine⟨?_,h5⟩
   rintro(h|⟨⟨id,d,g1,g2,g3,g4⟩,_⟩)
   ·exact h4 h
   ·have:=hI.inj id i' d c b k g2 h3 g4 hc
    subst this
    rw[g1] at h2;cases h2
  ·rcases h with h|⟨_,h⟩
   ·exact hI.imm b k h
   ·exact h
  ·cases hr:z6k β F ρ n0 n L id with
   |none=>rfl
   |some c=>
    rcases Qw hr with⟨k,h1,_⟩|⟨_,_,_,_,h⟩
    ·have:=hρ.dom id k h1;omega
    ·omega
end
def y20(n0 n:Nat)(e':Env)(H':AHeap)(e:Env)(L:AHeap):Prop:=∃F ρ,RhoOk n0 n F H' ρ∧EnvTo F H' ρ n e' e∧z3i F H' ρ n0 n L
theorem Vi(p:Nat→Prop)(h:∃m,p m):∃m,p m∧∀k,k<m→¬p k:=by
 obtain⟨m,hm⟩:=h
 induction m using Nat.strongRecOn with
 |_ m ih=>
  by_cases hk:∃k,k<m∧p k
  ·obtain⟨k,h1,h2⟩:=hk
   exact ih k h1 h2
  ·exact⟨m,hm,fun k hlt hp=>hk ⟨k,hlt,hp⟩⟩
def y2l{ι:Type}(n0:Nat)(nL:ι→Nat)(env:ι→Env)(L:ι→AHeap)(pre:ι→Prop)(μ:ι→Nat)(x:ι)(Q:Exit→Env→AHeap→Nat→Prop):Exit→Env→AHeap→Nat→Prop
 |.normal,e',H',n'=>∃y,pre y∧μ y<μ x∧y20 n0 (nL y) e' H' (env y) (L y)
 |ex,e',H',n'=>Q ex e' H' n'
def qe:Nat→List AVal→Env
 |_,[]=>[]
 |k,x::r=>(k,x)::qe (k+1) r
theorem z55:∀ (l:List AVal) (k t:Nat),(qe k l).get t=if k≤t then(l[t-k]?).getD .any else .any
 |[],k,t=>by simp[qe,Env.get]
 |x::l,k,t=>by
  unfold qe Env.get
  by_cases h:k=t
  ·subst h;simp
  ·rw[if_neg h,z55 l (k+1) t]
   by_cases h1:k+1≤t
   ·rw[if_pos h1,if_pos (by omega)]
    have:t-k=(t-(k+1))+1:=by omega
    rw[this,pY]
   ·rw[if_neg h1]
    by_cases h2:k≤t
    ·omega
    ·rw[if_neg h2]
def y1f(e:Env)(H:AHeap):LRes→XR
 |.t i=>.ok (e.get i).need (e.get i).strip
 |.cell i g n=>(zey g n H (e.get i).strip).and (e.get i).need
def zfr(e:Env)(H:AHeap):List LRes→(List AVal→Prop)→Prop
 |[],k=>k []
 |r::rs,k=>match y1f e H r with
  |.ok side v=>side∧zfr e H rs (fun l=>k (v::l))
  |.bad=>False
def zmv(l:List AVal):AVal:=match l with|[x]=>x|l=>.tup l
def W4(res:List LRes)(Q:AVal→AHeap→Nat→Prop):Exit→Env→AHeap→Nat→Prop
 |.normal,e,H,n=>zfr e H res (fun l=>Q (zmv l) H n)
 |.ret,e,H,n=>zfr e H res (fun l=>Q (zmv l) H n)
 |_,_,_,_=>False
def ztg:List Value→Value
 |[x]=>x
 |l=>.tuple l.toArray
theorem and_ok{p side:Prop}{r:XR}{v:AVal}(h:r.and p=.ok side v)(hs:side):∃s0,r=.ok s0 v∧s0∧p:=by
 cases r with
 |bad=>cases h
 |ok s0 u=>
  simp only[XR.and,XR.ok.injEq] at h
  obtain⟨rfl,rfl⟩:=h
  exact⟨s0,rfl,hs.2,hs.1⟩
def zjp(tmps:Array Value):ResultVar→Sem Value
 |.tmp t=>pure (tmps.getD t undef)
 |.cell a t=>do loadVar t (←asAddr (tmps.getD a undef))
theorem zk3(fn:Func)(tmps:Array Value):results fn tmps=(do let vs ←fn.results.mapM (zjp tmps);pure (if h:vs.size=1 then vs[0] else .tuple vs)):=by
 rfl
theorem z7q{I:Nat→Nat→Prop}{β:Id→Option CLoc}{n:Nat}{H:AHeap}{w:World}{e:Env}{tmps:Array Value}(hI:Inv I β n H w)(hE:∀t,Rep I β n w (e.get t) (tmps.getD t undef)):∀ (rs:List ResultVar) (ls:List LRes),z3k P rs=some ls→∀ {k:List AVal→Prop},zfr e H ls k →
 ∃ (vs:List Value) (xs:List AVal),(rs.mapM (zjp tmps)).run P w=.ok vs w∧k xs∧vs.length=xs.length∧∀ (i:Nat) (x:AVal) (v:Value),xs[i]?=some x→vs[i]?=some v→Rep I β n w x v
 |[],ls,h,k,hk=>by
  simp only[z3k,p0] at h
  subst h
  exact⟨[],[],rfl,hk,rfl,fun i x v h _=>by simp at h⟩
 |.tmp t::rs,ls,h,k,hk=>by
  simp only[z3k,p8] at h
  obtain⟨l,hl,rfl⟩:=h
  simp only[zfr,y1f] at hk
  obtain⟨hn,hk⟩:=hk
  obtain⟨vs,xs,h1,h2,h3,h4⟩:=z7q hI hE rs l hl hk
  refine⟨tmps.getD t undef::vs,(e.get t).strip::xs,?_,h2,by simp[h3],fun i x v hx hv=>?_⟩
  ·rw[List.mapM_cons]
   simp only[zjp,pure_bind,pL,h1,pF,pP]
  ·cases i with
   |zero=>simp only[pH,p0] at hx hv;subst hx;subst hv;exact(hE t).strip hn
   |succ i=>exact h4 i x v (by simpa using hx) (by simpa using hv)
 |.cell a t::rs,ls,h,k,hk=>by
  simp only[z3k] at h
  split at h<;>try (cases h;done)
  rename_i g m l hg hm hl
  split at h<;>try (cases h;done)
  rename_i hgm
  simp only[p0] at h
  subst h
  simp only[zfr,y1f] at hk
  split at hk<;>try (exact hk.elim)
  rename_i side u hx
  obtain⟨hs,hk⟩:=hk
  obtain⟨s0,hx0,hs0,hneed⟩:=and_ok hx hs
  obtain⟨vs,xs,h1,h2,h3,h4⟩:=z7q hI hE rs l hl hk
  have hr:=(hE a).strip hneed
  obtain⟨r,hr1,hr2⟩:=z4r (P:=P) hg hm (by simpa[Bool.or_eq_true] using hgm) hI hr hx0 hs0
  have hrun:(zjp tmps (.cell a t)).run P w=.ok r w:=by
   have:∃ad,tmps.getD a undef=.pointer (some ad):=by
    cases hst:(e.get a).strip<;>rw[hst] at hx0 hr<;>simp only[zey] at hx0<;>try (cases hx0;done)
    ·obtain⟨b,o,h⟩:=hr.iptr_inv;exact⟨_,h⟩
    ·obtain⟨ad,h⟩:=hr.ptr_inv;exact⟨_,h⟩
   obtain⟨ad,had⟩:=this
   rw[had] at hr1
   simpa[zjp,had,Instr.loadAt,Instr.sureAddr,asAddr] using hr1
  refine⟨r::vs,u::xs,?_,h2,by simp[h3],fun i x v hx hv=>?_⟩
  ·rw[List.mapM_cons]
   rw[pL,hrun]
   simp only[pF,pL,h1,pP]
  ·cases i with
   |zero=>simp only[pH,p0] at hx hv;subst hx;subst hv;exact hr2
   |succ i=>exact h4 i x v (by simpa using hx) (by simpa using hv)
theorem U9{fn:Func}{tmps:Array Value}{w:World}{vs:List Value}(h:(fn.results.toList.mapM (zjp tmps)).run P w=.ok vs w) :
 (results fn tmps).run P w=.ok (ztg vs) w:=by
 rw[zk3,Array.mapM_eq_mapM_toList]
 simp only[map_eq_pure_bind,bind_assoc,pure_bind]
 simp only[pL,h,pF,pP]
 cases vs with
 |nil=>rfl
 |cons v l=>
  cases l with
  |nil=>rfl
  |cons v2 l=>simp[ztg]
theorem ACalls.ofFnW{f:FuncId}{bm:List Nat}{L:LFn}(hL:Zb P bm f=some L)(hok:Xk P f){args:List AVal}(hlen:args.length≤L.lay.n){H:AHeap}{n:Nat}{Q:AVal→AHeap→Nat→Prop}
 (h:LWp P L.lay n L.body (W4 L.res Q) (qe 0 args) H n):ACalls P f args H n Q:=by
 refine⟨hok,fun I β w vs hI hl hr=>?_⟩
 unfold Zb at hL
 split at hL<;>try (cases hL;done)
 rename_i fn hfn
 split at hL<;>try (cases hL;done)
 rename_i c hc
 split at hL<;>try (cases hL;done)
 rename_i lc lr hlc hlr
 simp only[p0] at hL
 subst hL
 simp only at h hlen
 refine(zp9 (ro:=none) (m:=0)).1 (callsIn_of_wp_marks hfn hc trivial ?_)
 refine h c hlc none (fun _=>rfl) I β H w I β w _ (Ext.refl _ _ _ _ _ hI.fresh) hI ?_ (by simp[hl];omega) (Dfr.nil _ _ _) _ ?_
 ·intro t
  rw[z55,if_pos (Nat.zero_le t),Nat.sub_zero]
  cases hx:args[t]? with
  |none=>exact .any _
  |some x=>
   have hlt:t<vs.length:=by
    rcases pD t vs.length with h|h
    ·exact h
    ·rw[pR (by omega)] at hx;cases hx
   have:(vs.toArray++Array.replicate (fn.ntmps-vs.toArray.size) undef).getD t undef=vs[t]:=by
    simp[Array.getD_eq_getD_getElem?,Array.getElem?_append,hlt]
   rw[this]
   exact hr t x vs[t] hx (p7 hlt)
 ·intro ex e' H' n' I' β' w' a' g1 g2 g3 g4 g5 g6
  have fin:zfr e' H' lr (fun l=>Q (zmv l) H' n')→LeavesInM (z34 none) 0 P fn a'.tmps (fun e w'=>∃r v H' n' I' β',e=.returned v∧Q r H' n'∧Inv I' β' n' H' w'∧Rep I' β' n' w' r v∧Ext I β n H w I' β' n' H' w') a'.defers .returning w':=by
   intro hk
   generalize a'.defers=ds at g5
   induction ds generalizing w' with
   |nil=>
    obtain⟨us,xs,q1,q2,q3,q4⟩:=z7q (P:=P) g2 g3 _ _ hlr hk
    refine⟨_,U9 q1,_,_,_,_,_,_,rfl,q2,g2,?_,g6⟩
    cases xs with
    |nil=>
     have:us=[]:=pS.1 q3
     subst this
     exact .tup [] #[] rfl (by simp)
    |cons x l=>
     cases us with
     |nil=>simp at q3
     |cons u us=>
      cases l with
      |nil=>
       have:us=[]:=pS.1 (by simpa using q3)
       subst this
       exact q4 0 x u rfl rfl
      |cons x2 l=>
       cases us with
       |nil=>simp at q3
       |cons u2 us=>exact .tup (x::x2::l) _ (by simpa[ztg] using q3) (fun i x v hx hv=>q4 i x v hx (by simpa[ztg] using hv))
   |cons d ds ih=>
    obtain⟨hnd,hall⟩:=g5
    rcases hall d (by simp) with hid|⟨r,h1,h2,h3⟩
    ·obtain⟨fv,cap,f,args,i1,i2,i3⟩:=hid w'
     refine⟨nofun,.inr ⟨fun h=>(by cases h),fv,cap,f,args,i1,i2,fun _ _=>trivial,i3.mono ?_⟩⟩
     rintro e1 u' w1 ⟨⟨v,rfl⟩,rfl,rfl⟩
     exact ih _ g2 g3 g6 ⟨(List.pairwise_cons.1 hnd).2,fun d' hd'=>hall d' (by simp[hd'])⟩
    subst h1
    obtain⟨m1,m2,m3⟩:=ztx (.deferred none) g2 h3
    refine⟨nofun,.inl ⟨r,_,rfl,run_takeDeferred h3,ih _ m1 (fun t=>m2 _ _ (g3 t)) (m3 _ _ _ _ _ h2 g6) ⟨(List.pairwise_cons.1 hnd).2,fun d' hd'=>?_⟩⟩⟩
    rcases hall d' (by simp[hd']) with hid|⟨r',k1,k2,k3⟩
    ·exact .inl hid
    refine .inr ⟨r',k1,k2,?_⟩
    have hne:r'≠r:=by
     rintro rfl
     subst k1
     rcases(List.pairwise_cons.1 hnd).1 _ hd' with hh|hh
     ·exact hh rfl
     ·obtain⟨_,_,_,_,h,_⟩:=hh w';cases h
    rw[pZ hne];exact k3
  cases ex with
  |normal=>exact fin g1
  |ret=>exact fin g1
  |_=>exact g1.elim
def Yy(n0 n:Nat)(R:AVal)(L:AHeap):AVal→AHeap→Nat→Prop:=fun r H' _=>∃F ρ,RhoOk n0 n F H' ρ∧Vw F H' ρ n r R∧z3i F H' ρ n0 n L
def Ze(n:Nat)(R:AVal)(L:AHeap):AVal→AHeap→Nat→Prop:=fun r H' n'=>r=R∧H'=L∧n'=n
theorem ACalls.fin{f:Fn}{args:List AVal}{H L:AHeap}{n0 n:Nat}{R:AVal}(h:ACalls P f args H n0 (Yy n0 n R L)):ACalls P f args H n0 (Ze n R L):=by
 refine⟨h.1,fun I β w vs hI hl hr=>(h.2 I β w vs hI hl hr).mono ?_⟩
 rintro ee w' ⟨r,v,H',n',I',β',he,⟨F,ρ,hρ,hv,hL⟩,hI',hr',hx⟩
 obtain⟨k1,k2⟩:=zhn hx hI' hρ hL
 exact⟨R,v,L,n,_,_,he,⟨rfl,rfl,rfl⟩,k2,z2b hI' hρ hv hr',k1⟩
end Go.Fx
namespace Go.Fx
variable {P:Program}
theorem z43{I:Nat→Nat→Prop}{β β2:Id→Option CLoc}{n n2:Nat}{w:World}{g:Id→Id}(hn:∀id:Id,id.1<n→(g id).1<n2)(hβ:∀ (id:Id) c,id.1<n→β2 (g id)=some c→β id=some c){x:AVal}{v:Value}(h:Rep I β n w x v):Rep I β2 n2 w (x.ren g) v:=by
 induction h with
 |any v=>exact .any v
 |imm x v h=>
  -- immutable values have no names in them
  have key:∀ {x:AVal} {v:Value},RepI I w x v→Rep I β2 n2 w (x.ren g) v:=by
   intro x v h
   induction h with
   |bool b=>exact .imm _ _ (.bool b)
   |int k m=>exact .imm _ _ (.int k m)
   |str l=>exact .imm _ _ (.str l)
   |val v h=>exact .imm _ _ (.val v h)
   |agg cs vs h1 h2 _ ih=>
    refine .agg _ vs (by rw[Za,pJ];exact h1) h2 fun i y v hy hv=>?_
    rw[Za,pG] at hy
    cases hc:cs[i]? with
    |none=>rw[hc] at hy;cases hy
    |some x=>rw[hc] at hy;simp only[pE,p0] at hy;subst hy;exact ih i x v hc hv
   |tup cs vs h1 _ ih=>
    refine .tup _ vs (by rw[Za,pJ];exact h1) fun i y v hy hv=>?_
    rw[Za,pG] at hy
    cases hc:cs[i]? with
    |none=>rw[hc] at hy;cases hy
    |some x=>rw[hc] at hy;simp only[pE,p0] at hy;subst hy;exact ih i x v hc hv
   |islNil s f=>exact .imm _ _ (.islNil s f)
   |islEmpty s f a cap h=>exact .imm _ _ (.islEmpty s f a cap h)
   |isl s es f b o cap vf h1 h2 h3 h4 h5 h6 h7 _=>exact .imm _ _ (.isl s es f b o cap vf h1 h2 h3 h4 h5 h6 h7)
   |iptr s es b o i0 off vf h1 h4 h5 h6 h7 _=>exact .imm _ _ (.iptr s es b o i0 off vf h1 h4 h5 h6 h7)
   |fn f a c fs cs h1 h2 _ _ ih1 ih2=>
    refine .fn f _ _ fs cs (by rw[Za,pJ];exact h1) (by rw[Za,pJ];exact h2) (fun i y v hy hv=>?_) (fun i y v hy hv=>?_)
    ·rw[Za,pG] at hy
     cases hc:a[i]? with
     |none=>rw[hc] at hy;cases hy
     |some x=>rw[hc] at hy;simp only[pE,p0] at hy;subst hy;exact ih1 i x v hc hv
    ·rw[Za,pG] at hy
     cases hc:c[i]? with
     |none=>rw[hc] at hy;cases hy
     |some x=>rw[hc] at hy;simp only[pE,p0] at hy;subst hy;exact ih2 i x v hc hv
   |ifc t x v _ ih=>exact .ifc t _ v ih
  exact key h
 |agg cs vs h1 h2 _ ih=>
  refine .agg _ vs (by rw[Za,pJ];exact h1) h2 fun i y v hy hv=>?_
  rw[Za,pG] at hy
  cases hc:cs[i]? with
  |none=>rw[hc] at hy;cases hy
  |some x=>rw[hc] at hy;simp only[pE,p0] at hy;subst hy;exact ih i x v hc hv
 |tup cs vs h1 _ ih=>
  refine .tup _ vs (by rw[Za,pJ];exact h1) fun i y v hy hv=>?_
  rw[Za,pG] at hy
  cases hc:cs[i]? with
  |none=>rw[hc] at hy;cases hy
  |some x=>rw[hc] at hy;simp only[pE,p0] at hy;subst hy;exact ih i x v hc hv
 |fn f a c fs cs h1 h2 _ _ ih1 ih2=>
  refine .fn f _ _ fs cs (by rw[Za,pJ];exact h1) (by rw[Za,pJ];exact h2) (fun i y v hy hv=>?_) (fun i y v hy hv=>?_)
  ·rw[Za,pG] at hy
   cases hc:a[i]? with
   |none=>rw[hc] at hy;cases hy
   |some x=>rw[hc] at hy;simp only[pE,p0] at hy;subst hy;exact ih1 i x v hc hv
  ·rw[Za,pG] at hy
   cases hc:c[i]? with
   |none=>rw[hc] at hy;cases hy
   |some x=>rw[hc] at hy;simp only[pE,p0] at hy;subst hy;exact ih2 i x v hc hv
 |ifc t x v _ ih=>exact .ifc t _ v ih
 |osl tok s es v h1 h2 h3=>exact .osl _ _ _ _ (hn _ h1) h2 (fun c hc=>h3 c (hβ _ c h1 hc))
 |ptr b i off a h1 h2=>exact .ptr _ _ _ _ (hn _ h1) (fun c hc=>h2 c (hβ _ c h1 hc))
 |msl b s off len f a cap h0 h1 h2 h3=>exact .msl _ _ _ _ _ _ _ (hn _ h0) h1 h2 (fun c hc=>h3 c (hβ _ c h0 hc))
 |map b r h1 h2=>exact .map _ _ (hn _ h1) (fun c hc=>h2 c (hβ _ c h1 hc))
 |optp b r h1 h2=>exact .optp _ _ (hn _ h1) (fun c hc=>h2 c (hβ _ c h1 hc))
 |cnd p x v _ h ih=>exact .cnd p _ v ih h
theorem zh9{I:Nat→Nat→Prop}{β β2:Id→Option CLoc}{n n2:Nat}{w:World}{g:Id→Id}(hn:∀id:Id,id.1<n→(g id).1<n2)(hβ:∀ (id:Id) c,id.1<n→β2 (g id)=some c→β id=some c){c:CLoc}{s:Nat}{es:List (List AVal)}(h:RepB I β n w c (.rows s es)):RepB I β2 n2 w c (.rows s (Ye g es)):=by
 obtain⟨h1,h2,h3,h4,h5,h6,h7⟩:=h
 have get:∀ (i:Nat) (r:List AVal),(Ye g es)[i]?=some r→∃r0,es[i]?=some r0∧r=r0.map (AVal.ren g):=by
  intro i r hr
  unfold Ye at hr
  rw[pG] at hr
  cases he:es[i]? with
  |none=>rw[he] at hr;cases hr
  |some r0=>rw[he] at hr;simp only[pE,p0] at hr;exact⟨r0,rfl,by rw[←hr,Za]⟩
 refine⟨h1,h2.imp id (fun z=>⟨z.1,z.2.1,by rw[z.2.2];rfl⟩),h3,h4,by unfold Ye;rw[pJ];exact h5,fun i r hr=>?_,fun i r j x hr hx=>?_⟩
 ·obtain⟨r0,hr0,rfl⟩:=get i r hr
  rw[pJ];exact h6 i r0 hr0
 ·obtain⟨r0,hr0,rfl⟩:=get i r hr
  rw[pG] at hx
  cases hj:r0[j]? with
  |none=>rw[hj] at hx;cases hx
  |some x0=>
   rw[hj] at hx
   simp only[pE,p0] at hx
   subst hx
   obtain⟨v,g1,g2,g3⟩:=h7 i r0 j x0 hr0 hj
   exact⟨v,g1,g2,z43 hn hβ g3⟩
theorem ztr{I:Nat→Nat→Prop}{β β2:Id→Option CLoc}{n n2:Nat}{w:World}{g:Id→Id}(hn:∀id:Id,id.1<n→(g id).1<n2)(hβ:∀ (id:Id) c,id.1<n→β2 (g id)=some c→β id=some c){c:CLoc}{b:ABlock}(h:RepB I β n w c b):RepB I β2 n2 w c (b.ren g):=by
 cases b with
 |tok=>exact h
 |amap es=>
  obtain⟨h1,h2,arr,ck,h3,h4⟩:=h
  refine⟨h1,h2,arr,ck,h3,by rw[h4.len,pJ],fun i k x e hi he=>?_,h4.born,h4.clk⟩
  rw[pG] at hi
  cases hx:es[i]? with
  |none=>rw[hx] at hi;cases hi
  |some y=>
   rw[hx] at hi
   simp only[pE,p0,qD] at hi
   obtain⟨rfl,rfl⟩:=hi
   obtain⟨g1,g2⟩:=h4.ent i y.1 y.2 e hx he
   exact⟨z0a g1,z43 hn hβ g2⟩
 |one cs=>
  have:=zh9 hn hβ (Zq.1 h)
  have hl:(AVal.ren.renL g cs).length=cs.length:=by rw[Za,pJ]
  rw[←hl] at this
  exact Zq.2 this
 |rows s es=>exact zh9 hn hβ h
 |bld T g=>
  obtain⟨h1,h2,h3,h4,p,v,h5,h6,h7⟩:=h
  exact⟨h1,h2,h3,hn _ h4,p,v,h5,h6,fun d hd=>h7 d (hβ _ d h4 hd)⟩
 |buf e bs=>exact h
 |lrec l r e=>
  obtain⟨h1,h2,h3,h4,h5⟩:=h
  exact⟨h1,h2,h3,h4,fun t=>by rw[z9n];exact z43 hn hβ (h5 t)⟩
 |rmap es arr ck=>
  obtain⟨h1,h2,h3,h4⟩:=h
  refine⟨h1,h2,h3,by rw[h4.len,pJ],fun i k x e hi he=>?_,h4.born,h4.clk⟩
  rw[pG] at hi
  cases hx:es[i]? with
  |none=>rw[hx] at hi;cases hi
  |some y=>
   rw[hx] at hi
   simp only[pE,p0,qD] at hi
   obtain⟨rfl,rfl⟩:=hi
   obtain⟨g1,g2⟩:=h4.ent i y.1 y.2 e hx he
   exact⟨z0a g1,z43 hn hβ g2⟩
 |itr m arr ck seen=>
  obtain⟨h1,h2,h0,k,h3,h4⟩:=h
  exact⟨h1,h2,h0,k,h3,h4.mono (fun id h _=>hn id h) (fun id c h _ hc=>hβ id c h hc)⟩
 |mbox b=>
  obtain⟨h1,h2,h0,k,h3,h4⟩:=h
  exact⟨h1,h2,h0,k,h3,h4.mono (g:=g) (fun id h _=>hn id h) (fun id c h _ hc=>hβ id c h hc)⟩
def ArgsTo(F:Id→Bool)(H:AHeap)(ρ:Id→Option Id)(n:Nat):List AVal→List AVal→Prop
 |[],[]=>True
 |x::xs,y::ys=>Vw F H ρ n x y∧ArgsTo F H ρ n xs ys
 |_,_=>False
theorem ArgsTo.get{F:Id→Bool}{H:AHeap}{ρ:Id→Option Id}{n:Nat}:∀ {xs ys:List AVal},ArgsTo F H ρ n xs ys→xs.length=ys.length∧∀ (i:Nat) (x y:AVal),xs[i]?=some x→ys[i]?=some y→Vw F H ρ n x y
 |[],[],_=>⟨rfl,fun i x y h _=>by simp at h⟩
 |[],_::_,h=>h.elim
 |_::_,[],h=>h.elim
 |x::xs,y::ys,h=>by
  obtain⟨h1,h2⟩:=ArgsTo.get h.2
  refine⟨by simp[h1],fun i a b ha hb=>?_⟩
  cases i with
  |zero=>simp only[pH,p0] at ha hb;subst ha;subst hb;exact h.1
  |succ i=>exact h2 i a b (by simpa using ha) (by simpa using hb)
def AHeap.without(p:Id→Bool):AHeap→AHeap
 |[]=>[]
 |(k,b)::r=>if p k then AHeap.without p r else(k,b)::AHeap.without p r
theorem AHeap.get_without(p:Id→Bool):∀ (H:AHeap) (t:Id),(AHeap.without p H).get t=if p t then none else H.get t
 |[],t=>by simp[AHeap.without,AHeap.get]
 |(k,b)::r,t=>by
  unfold AHeap.without
  by_cases hk:p k=true
  ·rw[if_pos hk,AHeap.get_without p r t]
   by_cases ht:p t=true
   ·rw[if_pos ht,if_pos ht]
   ·rw[if_neg ht,if_neg ht]
    have:k≠t:=fun h=>by subst h;exact ht hk
    rw[AHeap.get_cons_other _ _ this]
  ·rw[if_neg hk]
   by_cases hkt:k=t
   ·subst hkt;rw[AHeap.get_cons_same,AHeap.get_cons_same,if_neg hk]
   ·rw[AHeap.get_cons_other _ _ hkt,AHeap.get_cons_other _ _ hkt];exact AHeap.get_without p r t
theorem AHeap.get_append(L H:AHeap)(t:Id):AHeap.get (L++H) t=(L.get t).or (H.get t):=by
 induction L with
 |nil=>rfl
 |cons x L ih=>
  obtain⟨k,b⟩:=x
  by_cases h:k=t
  ·subst h;simp[AHeap.get]
  ·simp only[List.cons_append,AHeap.get,if_neg h];exact ih
def AHeap.renamed(g:Id→Id)(H:AHeap):AHeap:=H.map fun x=>(g x.1,x.2.ren g)
theorem AHeap.get_renamed{g:Id→Id}:∀ {H:AHeap} {t:Id} {b:ABlock},(AHeap.renamed g H).get t=some b→∃i b0,(i,b0)∈H∧g i=t∧b=b0.ren g
 |[],t,b,h=>by simp[AHeap.renamed,AHeap.get] at h
 |(k,b0)::r,t,b,h=>by
  simp only[AHeap.renamed,List.map_cons] at h
  by_cases hk:g k=t
  ·subst hk
   rw[AHeap.get_cons_same] at h
   simp only[p0] at h
   exact⟨k,b0,List.mem_cons_self ..,rfl,h.symm⟩
  ·rw[AHeap.get_cons_other _ _ hk] at h
   obtain⟨i,b1,h1,h2,h3⟩:=AHeap.get_renamed h
   exact⟨i,b1,List.mem_cons_of_mem _ h1,h2,h3⟩
def z10(ρ:Id→Option Id)(k n m:Nat)(id:Id):Id:=if id.1<k then(ρ id).getD (n+m,0) else(n+(id.1-k),id.2)
theorem ACalls.frame{f:Fn}{args args0:List AVal}{H H0 L:AHeap}{n k m:Nat}{R:AVal}{F:Id→Bool}{ρ:Id→Option Id}{K:AVal→AHeap→Nat→Prop}(h:ACalls P f args0 H0 k (Ze (k+m) R L))
 (hinj:∀i j x,ρ i=some x→ρ j=some x→i=j) (hdom:∀i x,ρ i=some x→i.1<k∧x.1<n∧F x=false) (hF:∀x,F x=true→H.get x≠none)
 (ha:ArgsTo F H ρ k args args0) (hH:∀i b,H0.get i=some b→∃x b',ρ i=some x∧H.get x=some b'∧BVw F H ρ k b' b)
 (p:Id→Bool) (hp:∀x,p x=true↔F x=true∨∃i,ρ i=some x) (hnd:(L.map (·.1)).Nodup)
 (hk:K (R.ren (z10 ρ k n m)) (AHeap.renamed (z10 ρ k n m) L++AHeap.without p H) (n+m+1)):ACalls P f args H n K:=by
 refine⟨h.1,fun I β w vs hI hl hr=>?_⟩
 have hρ:RhoOk 0 k F H ρ:=⟨hinj,fun i x hx=>(hdom i x hx).1,fun i hi=>absurd hi (Nat.not_lt_zero _),fun _ _ _ _=>.inl (Nat.zero_le _),Nat.zero_le _⟩
 have hmem:∀ {L:AHeap} {i:Id} {b:ABlock},(L.map (·.1)).Nodup→(i,b)∈L→L.get i=some b:=by
  intro L i b hn hm
  induction L with
  |nil=>cases hm
  |cons y r ih=>
   obtain⟨j,c⟩:=y
   simp only[List.map_cons,List.nodup_cons] at hn
   rcases q9.1 hm with h|h
   ·simp only[qD] at h;obtain⟨rfl,rfl⟩:=h;exact AHeap.get_cons_same _ _ _
   ·have:j≠i:=fun hji=>by subst hji;exact hn.1 (List.mem_map.2 ⟨_,h,rfl⟩)
    rw[AHeap.get_cons_other _ _ this];exact ih hn.2 h
 -- the callee's view
 have hto:∀ {i:Id} {b:ABlock},H0.get i=some b→Jz F H ρ 0 k i b:=by
  intro i b hb
  obtain⟨x,b',h1,h2,h3⟩:=hH i b hb
  unfold Jz
  rw[h1]
  simp only[h2]
  exact⟨(hdom i x h1).2.2,h3⟩
 have hI0:Inv (z5b I β F H w) (z6k β F ρ 0 k H0) k H0 w:=by
  refine⟨fun id blk hb=>?_,fun i j c d b q hi hj hc hd=>?_,fun i c b q hi hc=>?_,fun b q h=>?_,fun id hid=>?_,hI.glob.mono (fun _ _ h=>.inl h) (fun _ _ _=>rfl) (SameSz.refl _)⟩
  ·obtain⟨x,b',h1,h2,h3⟩:=hH id blk hb
   obtain⟨c,hc,hB⟩:=hI.blocks x b' h2
   exact⟨c,by rw[z4j h1 (hdom id x h1).2.2];exact hc,zrt hI hρ h3 hB⟩
  ·obtain⟨i',h1,_,h2⟩:=Xl hi hc
   obtain⟨j',h3,_,h4⟩:=Xl hj hd
   have:=hI.inj i' j' c d b q h2 h4 hc hd
   subst this
   exact hinj i j i' h1 h3
  ·obtain⟨i',h1,h2,h3⟩:=Xl hi hc
   obtain⟨h4,h5⟩:=hI.own i' c b q h3 hc
   refine⟨?_,h5⟩
   rintro(h|⟨⟨id,d,g1,g2,g3,g4⟩,_⟩)
   ·exact h4 h
   ·have:=hI.inj id i' d c b q g2 h3 g4 hc
    subst this
    rw[g1] at h2;cases h2
  ·rcases h with h|⟨_,h⟩
   ·exact hI.imm b q h
   ·exact h
  ·cases hr:z6k β F ρ 0 k H0 id with
   |none=>rfl
   |some c=>
    rcases Qw hr with⟨x,h1,_⟩|⟨_,_,_,_,h⟩
    ·have:=(hdom id x h1).1;omega
    ·omega
 obtain⟨ha1,ha2⟩:=ha.get
 refine(h.2 _ _ w vs hI0 (by rw[hl,ha1]) (fun i y v hy hv=>?_)).mono ?_
 ·have hlt:i<args.length:=by rw[ha1];exact Wj hy
  exact z2b hI hρ (ha2 i args[i] y (p7 hlt) hy) (hr i _ v (p7 hlt) hv)
 ·rintro ee w' ⟨r,v,H1,n1,I',β',he,⟨rfl,rfl,rfl⟩,hI',hr',hx⟩
  -- an alive block of the callee is one of the caller
  have alive:∀ {i:Id} {c:CLoc} {b q:Nat},z6k β F ρ 0 k H0 i=some c→H0.get i≠none→c.has b q→∃x,ρ i=some x∧β x=some c∧H.get x≠none:=by
   intro i c b q hi hg hc
   obtain⟨x,h1,_,h2⟩:=Xl hi hc
   refine⟨x,h1,h2,?_⟩
   cases hb:H0.get i with
   |none=>exact absurd hb hg
   |some b0=>
    obtain⟨x',b',h3,h4,_⟩:=hH i b0 hb
    rw[h1] at h3
    simp only[p0] at h3
    subst h3
    rw[h4];simp
  let β3:Id→Option CLoc:=fun j=>by
   classical
   exact if j.1<n then(if hj:∃i,ρ i=some j then β' (Classical.choose hj) else if F j=true then none else β j) else if j.1<n+m then β' (k+(j.1-n),j.2) else none
  have b3at:∀ {i x:Id},ρ i=some x→β3 x=β' i:=by
   intro i x hix
   have hex:∃i,ρ i=some x:=⟨i,hix⟩
   have:Classical.choose hex=i:=hinj _ _ x (Classical.choose_spec hex) hix
   simp only[β3,if_pos (hdom i x hix).2.1,dif_pos hex,this]
  have b3old:∀ {j:Id},j.1<n→(¬∃i,ρ i=some j)→F j=false→β3 j=β j:=by
   intro j hj hno hFj
   simp only[β3,if_pos hj,dif_neg hno,hFj,qK,if_false]
  have b3cases:∀ {j:Id} {c:CLoc},β3 j=some c→(∃i,ρ i=some j∧β' i=some c)∨(j.1<n∧(¬∃i,ρ i=some j)∧F j=false∧β j=some c)∨(n≤j.1∧j.1<n+m∧β' (k+(j.1-n),j.2)=some c):=by
   intro j c hj
   simp only[β3] at hj
   split at hj
   ·rename_i hlt
    split at hj
    ·rename_i hex;exact .inl ⟨_,Classical.choose_spec hex,hj⟩
    ·rename_i hno
     split at hj
     ·cases hj
     ·rename_i hFj;exact .inr (.inl ⟨hlt,hno,by simpa using hFj,hj⟩)
   ·rename_i hge
    split at hj
    ·rename_i hlt;exact .inr (.inr ⟨by omega,hlt,hj⟩)
    ·cases hj
  have hk0:∀ {i:Id} {c:CLoc},i.1<k→β' i=some c→z6k β F ρ 0 k H0 i=some c:=fun hi hc=>hx.back _ _ hi hc
  have upn:∀id:Id,id.1<k+m→(z10 ρ k n m id).1<n+m+1:=by
   intro id hid
   unfold z10
   split
   ·cases hρi:ρ id with
    |none=>simp
    |some x=>have:=(hdom id x hρi).2.1;simp;omega
   ·simp;omega
  have upβ:∀ (id:Id) c,id.1<k+m→β3 (z10 ρ k n m id)=some c→β' id=some c:=by
   intro id c hid hc
   unfold z10 at hc
   split at hc
   ·rename_i hlt
    cases hρi:ρ id with
    |none=>
     rw[hρi] at hc
     simp only[Option.getD_none] at hc
     rcases b3cases hc with⟨i,h1,_⟩|⟨h1,_⟩|⟨_,h1,_⟩
     ·have:=(hdom i _ h1).2.1;simp only at this;omega
     ·simp only at h1;omega
     ·simp only at h1;omega
    |some x=>
     rw[hρi] at hc
     simp only[Option.getD_some] at hc
     rw[b3at hρi] at hc;exact hc
   ·rename_i hge
    rcases b3cases hc with⟨i,h1,_⟩|⟨h1,_⟩|⟨_,_,h1⟩
    ·have:=(hdom i _ h1).2.1;simp only at this;omega
    ·simp only at h1;omega
    ·simp only[Nat.add_sub_cancel_left] at h1
     rw[show k+(id.1-k)=id.1 by omega] at h1
     exact h1
  have hcI:∀b q,I b q→w'.cell? ⟨b,q,none⟩=w.cell? ⟨b,q,none⟩:=fun b q hb=>hx.heapI hI0 b q (.inl hb)
  have himm:∀b q,I b q→I' b q:=fun b q hb=>hx.imm b q (.inl hb)
  have hsz:w.heap.size≤w'.heap.size:=hx.size
  have hupAt:∀i b,H1.get i=some b→i.1<k+m∧((i.1<k∧∃x,ρ i=some x∧z10 ρ k n m i=x∧H.get x≠none)∨(k≤i.1∧z10 ρ k n m i=(n+(i.1-k),i.2))):=by
   intro i b hb
   have hlt:i.1<k+m:=by
    obtain⟨c,hc,_⟩:=hI'.blocks i b hb
    exact Ks hI' hc
   refine⟨hlt,?_⟩
   by_cases hi:i.1<k
   ·left
    refine⟨hi,?_⟩
    have hg:=hx.dom i hi (by rw[hb];simp)
    cases hb0:H0.get i with
    |none=>exact absurd hb0 hg
    |some b0=>
     obtain⟨x,b',h3,h4,_⟩:=hH i b0 hb0
     exact⟨x,h3,by unfold z10;rw[if_pos hi,h3];rfl,by rw[h4];simp⟩
   ·right
    exact⟨by omega,by unfold z10;rw[if_neg hi]⟩
  refine⟨_,v,_,_,I',β3,he,hk,?_,z43 upn upβ hr',?_⟩
  ·refine⟨fun id blk hb=>?_,fun i j c d b q hi hj hc hd=>?_,fun i c b q hi hc=>?_,hI'.imm,fun id hid=>?_,hI'.glob⟩
   ·rw[AHeap.get_append] at hb
    cases hg:(AHeap.renamed (z10 ρ k n m) H1).get id with
    |some b1=>
     rw[hg] at hb
     simp only[Option.some_or,p0] at hb
     subst hb
     obtain⟨i,b0,h1,h2,rfl⟩:=AHeap.get_renamed hg
     have hLi:=hmem hnd h1
     obtain⟨c,hc,hB⟩:=hI'.blocks i b0 hLi
     refine⟨c,?_,ztr upn upβ hB⟩
     obtain⟨hlt,h3|h3⟩:=hupAt i b0 hLi
     ·obtain⟨_,x,h4,h5,_⟩:=h3
      rw[←h2,h5,b3at h4];exact hc
     ·obtain⟨h4,h5⟩:=h3
      rw[←h2,h5]
      simp only[β3]
      rw[if_neg (by simp),if_pos (by simp;omega)]
      simp only[Nat.add_sub_cancel_left]
      rw[show k+(i.1-k)=i.1 by omega];exact hc
    |none=>
     rw[hg] at hb
     simp only[Option.none_or,AHeap.get_without] at hb
     split at hb<;>try (cases hb;done)
     rename_i hpn
     obtain⟨c,hc,hB⟩:=hI.blocks id blk hb
     have hid:=Ks hI hc
     have hno:¬∃i,ρ i=some id:=fun hex=>hpn ((hp id).2 (.inr hex))
     have hFid:F id=false:=by
      cases hF':F id with
      |false=>rfl
      |true=>exact absurd ((hp id).2 (.inl hF')) hpn
     refine⟨c,by rw[b3old hid hno hFid];exact hc,hB.mono' himm hcI (by omega) ?_ (fun arr el fr hh=>by
      obtain⟨arr',fr',k1,k2,k3⟩:=hx.shape _ arr el fr hh
      refine⟨arr',fr',k1,k2,k3.imp (fun h=>h) fun g k hk hck=>?_⟩
      obtain⟨i,d,e1,e2,e3⟩:=g k hk
      obtain⟨x,g1,g2,_⟩:=alive e1 e2 e3
      have:=hI.inj id x c d _ k hc g2 hck e3
      subst this
      exact hno ⟨i,g1⟩) ?_ ?_⟩
     ·intro j d hj hd
      rcases b3cases hd with⟨i,h1,h2⟩|⟨_,_,_,h1⟩|⟨h1,_⟩
      ·have:=hk0 (hdom i j h1).1 h2
       rwa [z4j h1 (hdom i j h1).2.2] at this
      ·exact h1
      ·omega
     ·intro b q u hbq hu
      refine hx.cells b q u hu (fun i d hi hg hd=>?_)
      obtain⟨x,h1,h2,_⟩:=alive hi hg hd
      have:=hI.inj id x c d b q hc h2 hbq hd
      subst this
      exact hno ⟨i,h1⟩
     ·intro es ck h0 hm
      refine hx.maps _ es ck hm (fun i d hi hg hd=>?_)
      obtain⟨x,h1,h2,_⟩:=alive hi hg hd
      have:=hI.inj id x c d _ 0 hc h2 h0 hd
      subst this
      exact hno ⟨i,h1⟩
   ·-- two blocks zep
    have tr:∀ {j:Id} {c:CLoc},β3 j=some c→(∃i,β' i=some c∧z10 ρ k n m i=j∧i.1<k+m)∨(j.1<n∧(¬∃i,ρ i=some j)∧F j=false∧β j=some c):=by
     intro j c hj
     rcases b3cases hj with⟨i,h1,h2⟩|h|⟨h1,h2,h3⟩
     ·exact .inl ⟨i,h2,by unfold z10;rw[if_pos (hdom i j h1).1,h1];rfl,by have:=(hdom i j h1).1;omega⟩
     ·exact .inr h
     ·refine .inl ⟨_,h3,?_,by simp;omega⟩
      unfold z10
      rw[if_neg (by simp)]
      simp only[Nat.add_sub_cancel_left]
      ext<;>simp;omega
    have mixed:∀ {i:Id} {j:Id} {c d:CLoc},β' i=some c→i.1<k+m→c.has b q→j.1<n→(¬∃i,ρ i=some j)→β j=some d→d.has b q→False:=by
     intro i j c d hi hik hc hj hno hd hdq
     obtain⟨_,hlt⟩:=hI.own j d b q hd hdq
     by_cases hi':i.1<k
     ·obtain⟨x,h1,_,h2⟩:=Xl (hk0 hi' hi) hc
      have:=hI.inj x j c d b q h2 hd hc hdq
      subst this
      exact hno ⟨i,h1⟩
     ·rcases hx.new i c b q (by omega) hi hc with h|⟨i0,c0,h1,h2,h3⟩
      ·omega
      ·obtain⟨x,g1,g2,_⟩:=alive h1 h3 h2
       have:=hI.inj x j c0 d b q g2 hd h2 hdq
       subst this
       exact hno ⟨i0,g1⟩
    rcases tr hi with⟨i',h1,h2,h2'⟩|⟨h1,h2,_,h3⟩<;>rcases tr hj with⟨j',g1,g2,g2'⟩|⟨g1,g2,_,g3⟩
    ·have:=hI'.inj i' j' c d b q h1 g1 hc hd
     subst this
     rw[←h2,g2]
    ·exact(mixed h1 h2' hc g1 g2 g3 hd).elim
    ·exact(mixed g1 g2' hd h1 h2 h3 hc).elim
    ·exact hI.inj i j c d b q h3 g3 hc hd
   ·rcases b3cases hi with⟨i',_,h2⟩|⟨h1,h2,hFi,h3⟩|⟨_,_,h3⟩
    ·exact hI'.own i' c b q h2 hc
    ·obtain⟨g1,g2⟩:=hI.own i c b q h3 hc
     refine⟨fun hI'bq=>?_,by omega⟩
     by_cases hin:z5b I β F H w b q
     ·rcases hin with h|⟨⟨id,d,e1,e2,e3,e4⟩,_⟩
      ·exact g1 h
      ·have:=hI.inj id i d c b q e2 h3 e4 hc
       subst this
       rw[e1] at hFi;cases hFi
     ·obtain⟨i0,c0,e1,e2,e3⟩:=hx.immNew b q hI'bq hin g2
      obtain⟨x,e4,e5,_⟩:=alive e1 e3 e2
      have:=hI.inj x i c0 c b q e5 h3 e2 hc
      subst this
      exact h2 ⟨i0,e4⟩
    ·exact hI'.own _ c b q h3 hc
   ·cases hb:β3 id with
    |none=>rfl
    |some c=>
     rcases b3cases hb with⟨i,h1,_⟩|⟨h1,_⟩|⟨_,h1,_⟩
     ·have:=(hdom i id h1).2.1;omega
     ·omega
     ·omega
  ·refine⟨hx.os,hx.tape,hx.output,hx.size,fun b hb hn=>hx.frame b hb (fun i c q hi hg hc=>?_),fun b q u hu hn=>hx.cells b q u hu (fun i c hi hg hc=>?_),fun b arr el fr hb=>(by
    obtain⟨arr',fr',k1,k2,k3⟩:=hx.shape b arr el fr hb
    refine⟨arr',fr',k1,k2,k3.imp (fun h=>h) fun g k hk=>?_⟩
    obtain⟨i,d,e1,e2,e3⟩:=g k hk
    obtain⟨x,_,g2,g3⟩:=alive e1 e2 e3
    exact⟨x,d,g2,g3,e3⟩),fun b es ck hm hn=>hx.maps b es ck hm (fun i c hi hg hc=>?_),himm,fun b q hb hnb hlt=>?_,fun j hj=>?_,fun j c b q hj hc hq=>?_,fun j hj hg=>?_,by omega⟩
   ·obtain⟨x,_,h2,h3⟩:=alive hi hg hc
    exact hn x c q h2 h3 hc
   ·obtain⟨x,_,h2,h3⟩:=alive hi hg hc
    exact hn x c h2 h3 hc
   ·obtain⟨x,_,h2,h3⟩:=alive hi hg hc
    exact hn x c h2 h3 hc
   ·by_cases hin:z5b I β F H w b q
    ·rcases hin with h|⟨⟨id,d,e1,e2,e3,e4⟩,_⟩
     ·exact absurd h hnb
     ·exact⟨id,d,e2,e4,e3⟩
    ·obtain⟨i0,c0,e1,e2,e3⟩:=hx.immNew b q hb hin hlt
     obtain⟨x,_,e5,e6⟩:=alive e1 e3 e2
     exact⟨x,c0,e5,e2,e6⟩
   ·by_cases hex:∃i,ρ i=some j
    ·obtain⟨i,hi⟩:=hex
     obtain⟨d1,d2,d3⟩:=hdom i j hi
     rw[b3at hi]
     rcases hx.old i d1 with h|⟨h,hg⟩
     ·left;rw[h,z4j hi d3]
     ·right
      refine⟨h,?_⟩
      cases hb:H0.get i with
      |none=>exact absurd hb hg
      |some b0=>
       obtain⟨x',b',h3,h4,_⟩:=hH i b0 hb
       rw[hi] at h3
       simp only[p0] at h3
       subst h3
       rw[h4];simp
    ·cases hFj:F j with
     |false=>exact .inl (b3old hj hex hFj)
     |true=>
      right
      refine⟨?_,hF j hFj⟩
      simp only[β3,if_pos hj,dif_neg hex,hFj,if_true]
   ·rcases b3cases hc with⟨i,h1,_⟩|⟨h1,_⟩|⟨_,_,h1⟩
    ·have:=(hdom i j h1).2.1;omega
    ·omega
    ·rcases hx.new _ c b q (by simp) h1 hq with h|⟨i0,c0,e1,e2,e3⟩
     ·exact .inl h
     ·obtain⟨x,_,e5,e6⟩:=alive e1 e3 e2
      exact .inr ⟨x,c0,e5,e2,e6⟩
   ·rw[AHeap.get_append] at hg
    cases hh:(AHeap.renamed (z10 ρ k n m) H1).get j with
    |none=>
     rw[hh] at hg
     simp only[Option.none_or,AHeap.get_without] at hg
     split at hg
     ·exact absurd rfl hg
     ·exact hg
    |some b1=>
     obtain⟨i,b0,h1,h2,_⟩:=AHeap.get_renamed hh
     have hLi:=hmem hnd h1
     obtain⟨hlt,h3|h3⟩:=hupAt i b0 hLi
     ·obtain⟨_,x,_,h5,h6⟩:=h3
      rw[←h2,h5];exact h6
     ·obtain⟨h4,h5⟩:=h3
      rw[←h2,h5] at hj
      simp only at hj;omega
end Go.Fx
namespace Go.Fx
variable {P:Program}
def PFn(P:Program)(f:FuncId)(args:List AVal)(R:AVal):Prop:=R.nid=true∧∃m,ACalls P f args [] 0 (Ze m R [])
theorem Inv.give{I:Nat→Nat→Prop}{β:Id→Option CLoc}{n:Nat}{H:AHeap}{w:World}{F:Id→Bool}(hI:Inv I β n H w):Inv (z5b I β F H w) (fun _=>none) 0 [] w:=
 { blocks:=fun id blk h=>by simp[AHeap.get] at h
   inj:=fun i j c d b k h=>by simp at h
   own:=fun i c b k h=>by simp at h
   imm:=fun b k h=>by
    rcases h with h|⟨_,h⟩
    ·exact hI.imm b k h
    ·exact h
   fresh:=fun id _=>rfl
   glob:=hI.glob.mono (fun _ _ h=>.inl h) (fun _ _ _=>rfl) (SameSz.refl _) }
theorem zf2{I:Nat→Nat→Prop}{β:Id→Option CLoc}{n:Nat}{H:AHeap}{w:World}{F:Id→Bool}(hI:Inv I β n H w){x y:AVal}(h:Vw F H (fun _=>none) 0 x y){v:Value}(hr:Rep I β n w x v):Rep (z5b I β F H w) (fun _=>none) 0 w y v:=by
 have hρ:RhoOk 0 0 F H (fun _=>none):=⟨fun i j k h=>(by cases h),fun i k h=>(by cases h),fun i h=>absurd h (Nat.not_lt_zero _),fun i k _ h=>(by cases h),p9 _⟩
 have:=z2b (n:=0) (L:=[]) hI hρ h hr
 have e:z6k β F (fun _=>none) 0 0 []=fun _=>none:=by
  funext id
  simp[z6k,AHeap.get]
 rw[e] at this
 exact this
theorem PFn.use{f:FuncId}{args args0:List AVal}{R:AVal}(h:PFn P f args0 R){F:Id→Bool}{H:AHeap}{n:Nat}{K:AVal→AHeap→Nat→Prop}(ha:ArgsTo F H (fun _=>none) 0 args args0)(hF:∀x,F x=true→H.get x≠none)
 (hk:K R (AHeap.without F H) n):ACalls P f args H n K:=by
 obtain⟨hR,m,h⟩:=h
 refine⟨h.1,fun I β w vs hI hl hr=>?_⟩
 obtain⟨ha1,ha2⟩:=ha.get
 refine(h.2 _ _ w vs (hI.give (F:=F)) (by rw[hl,ha1]) (fun i y v hy hv=>?_)).mono ?_
 ·have hlt:i<args.length:=by rw[ha1];exact Wj hy
  exact zf2 hI (ha2 i args[i] y (p7 hlt) hy) (hr i _ v (p7 hlt) hv)
 ·rintro ee w' ⟨r,v,H1,n1,I',β',he,⟨rfl,rfl,rfl⟩,hI',hr',hx⟩
  have hcell:∀b q u,w.cell? ⟨b,q,none⟩=some u→w'.cell? ⟨b,q,none⟩=some u:=fun b q u hu=>hx.cells b q u hu (fun i c hi=>by cases hi)
  have himm:∀b q,I b q→I' b q:=fun b q hb=>hx.imm b q (.inl hb)
  have hcI:∀b q,I b q→w'.cell? ⟨b,q,none⟩=w.cell? ⟨b,q,none⟩:=fun b q hb=>by
   obtain⟨u,hu⟩:=hI.imm b q hb
   rw[hu];exact hcell b q u hu
  let β3:Id→Option CLoc:=fun j=>if F j then none else β j
  have b3:∀ {j c},β3 j=some c→F j=false∧β j=some c:=by
   intro j c hj
   simp only[β3] at hj
   split at hj
   ·cases hj
   ·rename_i hF';exact⟨by simpa using hF',hj⟩
  refine⟨_,v,_,_,I',β3,he,hk,?_,Vv (fun _ _ h=>h) _ hR hr',?_⟩
  ·refine⟨fun id blk hb=>?_,fun i j c d b q hi hj hc hd=>hI.inj i j c d b q (b3 hi).2 (b3 hj).2 hc hd,fun i c b q hi hc=>?_,hI'.imm,fun id hid=>?_,hI'.glob⟩
   ·rw[AHeap.get_without] at hb
    split at hb<;>try (cases hb;done)
    rename_i hFid
    obtain⟨c,hc,hB⟩:=hI.blocks id blk hb
    refine⟨c,by simp only[β3];rw[if_neg hFid];exact hc,hB.mono' himm hcI (p9 n) (fun id d _ hd=>(b3 hd).2) (fun arr el fr hh=>by
     obtain⟨arr',fr',k1,k2,k3⟩:=hx.shape _ arr el fr hh
     refine⟨arr',fr',k1,k2,k3.imp (fun h=>h) fun g k hk=>?_⟩
     obtain⟨i,d,e1,_⟩:=g k hk
     cases e1) (fun b q u _ hu=>hcell b q u hu) (fun es ck _ hm=>hx.maps _ es ck hm (fun i c hi=>by cases hi))⟩
   ·obtain⟨hFi,hi⟩:=b3 hi
    obtain⟨g1,g2⟩:=hI.own i c b q hi hc
    refine⟨fun hbq=>?_,qM g2 hx.size⟩
    by_cases hin:z5b I β F H w b q
    ·rcases hin with h|⟨⟨id,d,e1,e2,e3,e4⟩,_⟩
     ·exact g1 h
     ·have:=hI.inj id i d c b q e2 hi e4 hc
      subst this
      rw[e1] at hFi;cases hFi
    ·obtain⟨i0,c0,e1,_⟩:=hx.immNew b q hbq hin g2
     cases e1
   ·simp only[β3]
    split
    ·rfl
    ·exact hI.fresh id hid
  ·refine⟨hx.os,hx.tape,hx.output,hx.size,fun b hb _=>hx.frame b hb (fun i c q hi=>by cases hi),fun b q u hu _=>hcell b q u hu,fun b arr el fr hb=>(by
    obtain⟨arr',fr',k1,k2,k3⟩:=hx.shape b arr el fr hb
    refine⟨arr',fr',k1,k2,k3.imp (fun h=>h) fun g k hk=>?_⟩
    obtain⟨i,d,e1,_⟩:=g k hk
    cases e1),fun b es ck hm _=>hx.maps b es ck hm (fun i c hi=>by cases hi),himm,fun b q hb hnb hlt=>?_,fun j hj=>?_,fun j c b q hj hc hq=>?_,fun j hj hg=>?_,p9 n⟩
   ·by_cases hin:z5b I β F H w b q
    ·rcases hin with h|⟨⟨id,d,e1,e2,e3,e4⟩,_⟩
     ·exact absurd h hnb
     ·exact⟨id,d,e2,e4,e3⟩
    ·obtain⟨i0,c0,e1,_⟩:=hx.immNew b q hb hin hlt
     cases e1
   ·simp only[β3]
    split
    ·rename_i hFj;exact .inr ⟨rfl,hF j hFj⟩
    ·exact .inl rfl
   ·have:=(b3 hc).2
    rw[hI.fresh j hj] at this
    cases this
   ·rw[AHeap.get_without] at hg
    split at hg
    ·exact absurd rfl hg
    ·exact hg
def AVal.flat:AVal→Bool
 |.bool _|.int _ _|.str _|.val _=>true
 |.tup cs=>flatL cs
 |.agg cs=>flatL cs
 |_=>false
where flatL:List AVal→Bool
 |[]=>true
 |x::r=>x.flat&&flatL r
mutual
theorem zgs{I I2:Nat→Nat→Prop}{β β2:Id→Option CLoc}{n n2:Nat}{w w2:World}:∀ (x:AVal),x.flat=true→∀ {v:Value},Rep I β n w x v→Rep I2 β2 n2 w2 x v
 |.bool b,_,v,hr=>by rw[hr.bool_inv];exact .imm _ _ (.bool b)
 |.int k m,_,v,hr=>by rw[hr.int_inv];exact .imm _ _ (.int k m)
 |.str l,_,v,hr=>by rw[hr.str_inv];exact .imm _ _ (.str l)
 |.val u,_,v,hr=>by
  cases hr with
  |imm _ _ h=>cases h with|val _ h=>exact .imm _ _ (.val u h)
 |.tup cs,hn,v,hr=>by
  have:∃vs,v=.tuple vs∧vs.size=cs.length∧∀ (i:Nat) (y:AVal) (u:Value),cs[i]?=some y→vs[i]?=some u→Rep I β n w y u:=by
   cases hr with
   |tup _ vs h1 h2=>exact⟨vs,rfl,h1,h2⟩
   |imm _ _ hx=>
    cases hx with
    |tup _ vs h1 h2=>exact⟨vs,rfl,h1,fun i y u hy hu=>.imm _ _ (h2 i y u hy hu)⟩
  obtain⟨vs,rfl,h1,h3⟩:=this
  exact .tup cs vs h1 (fun i x v hx hv=>z4s cs hn x (pC hx) (h3 i x v hx hv))
 |.agg cs,hn,v,hr=>by
  obtain⟨vs,rfl,h1,h2,h3⟩:=hr.agg_inv
  exact .agg cs vs h1 h2 (fun i x v hx hv=>z4s cs hn x (pC hx) (h3 i x v hx hv))
theorem z4s{I I2:Nat→Nat→Prop}{β β2:Id→Option CLoc}{n n2:Nat}{w w2:World}:∀ (cs:List AVal),AVal.flat.flatL cs=true→∀x∈cs,∀ {v:Value},Rep I β n w x v→Rep I2 β2 n2 w2 x v
 |[],_,x,hx,v,hr=>by cases hx
 |y::r,hn,x,hx,v,hr=>by
  simp only[AVal.flat.flatL,pI] at hn
  rcases q9.1 hx with e|hx
  ·rw[e] at hr ⊢;exact zgs y hn.1 hr
  ·exact z4s r hn.2 x hx hr
end
theorem PFn.read{f:FuncId}{args args0:List AVal}{R:AVal}(h:PFn P f args0 R)(hR:R.flat=true)(B:Id→Bool){H:AHeap}{n:Nat}{K:AVal→AHeap→Nat→Prop}(ha:ArgsTo B H (fun _=>none) 0 args args0)(hk:K R H n):ACalls P f args H n K:=by
 obtain⟨_,m,h⟩:=h
 refine⟨h.1,fun I β w vs hI hl hr=>?_⟩
 obtain⟨ha1,ha2⟩:=ha.get
 refine(h.2 _ _ w vs (hI.give (F:=B)) (by rw[hl,ha1]) (fun i y v hy hv=>?_)).mono ?_
 ·have hlt:i<args.length:=by rw[ha1];exact Wj hy
  exact zf2 hI (ha2 i args[i] y (p7 hlt) hy) (hr i _ v (p7 hlt) hv)
 ·rintro ee w' ⟨r,v,H1,n1,I',β',he,⟨rfl,rfl,rfl⟩,hI',hr',hx⟩
  have hcell:∀b q u,w.cell? ⟨b,q,none⟩=some u→w'.cell? ⟨b,q,none⟩=some u:=fun b q u hu=>hx.cells b q u hu (fun i c hi=>by cases hi)
  have hcI:∀b q,I b q→w'.cell? ⟨b,q,none⟩=w.cell? ⟨b,q,none⟩:=fun b q hb=>by
   obtain⟨u,hu⟩:=hI.imm b q hb
   rw[hu];exact hcell b q u hu
  refine⟨r,v,H,n,I,β,he,hk,?_,zgs r hR hr',?_⟩
  ·refine⟨fun id blk hb=>?_,hI.inj,fun i c b q hi hc=>⟨(hI.own i c b q hi hc).1,qM (hI.own i c b q hi hc).2 hx.size⟩,fun b q hb=>by rw[hcI b q hb];exact hI.imm b q hb,hI.fresh,hI.glob.mono (fun _ _ h=>h) hcI (fun b arr el fr h=>by obtain⟨arr',fr',k1,k2,_⟩:=hx.shape b arr el fr h;exact⟨arr',fr',k1,k2⟩)⟩
   obtain⟨c,hc,hB⟩:=hI.blocks id blk hb
   exact⟨c,hc,hB.mono' (fun _ _ h=>h) hcI (p9 n) (fun _ _ _ h=>h) (fun arr el fr hh=>by
    obtain⟨arr',fr',k1,k2,k3⟩:=hx.shape _ arr el fr hh
    refine⟨arr',fr',k1,k2,k3.imp (fun h=>h) fun g k hk=>?_⟩
    obtain⟨i,d,e1,_⟩:=g k hk
    cases e1) (fun b q u _ hu=>hcell b q u hu) (fun es ck _ hm=>hx.maps _ es ck hm (fun i c hi=>by cases hi))⟩
  ·exact⟨hx.os,hx.tape,hx.output,hx.size,fun b hb _=>hx.frame b hb (fun i c q hi=>by cases hi),fun b q u hu _=>hcell b q u hu,fun b arr el fr hb=>(by
    obtain⟨arr',fr',k1,k2,k3⟩:=hx.shape b arr el fr hb
    refine⟨arr',fr',k1,k2,k3.imp (fun h=>h) fun g k hk=>?_⟩
    obtain⟨i,d,e1,_⟩:=g k hk
    cases e1),fun b es ck hm _=>hx.maps b es ck hm (fun i c hi=>by cases hi),fun _ _ h=>h,fun b q h h'=>absurd h h',fun j _=>.inl rfl,fun j c b q hj hc=>(by rw[hI.fresh j hj] at hc;cases hc),fun j _ h=>h,p9 n⟩
def Yd(R:AVal):AVal→AHeap→Nat→Prop:=fun r H' _=>R.nid=true∧Vw (fun _=>true) H' (fun _=>none) 0 r R
theorem PFn.ofFnW{f:FuncId}{bm:List Nat}{L:LFn}(hL:Zb P bm f=some L)(hok:Xk P f){args:List AVal}(hlen:args.length≤L.lay.n){R:AVal}(hR:R.nid=true)
 (h:LWp P L.lay 0 L.body (W4 L.res (Yd R)) (qe 0 args) [] 0):PFn P f args R:=by
 refine⟨hR,0,ACalls.fin ((ACalls.ofFnW hL hok hlen h).mono ?_)⟩
 rintro r H' n' ⟨_,hv⟩
 exact⟨fun _=>true,fun _=>none,⟨fun i j k h=>(by cases h),fun i k h=>(by cases h),fun i h=>absurd h (Nat.not_lt_zero _),fun i k _ h=>(by cases h),p9 _⟩,hv,fun _ _ h=>by simp[AHeap.get] at h⟩
end Go.Fx
