/-
  Own framework.
-/
import Derived.Test.YtjkfnbjgpilokaaGreatDoorFa
import Derived.Maps.RangeRun
import Derived.OrdersIn
import Derived.LoopIn
import Derived.RangeFuncLeaves
import Derived.RangeFuncCalls
set_option linter.unusedVariables false
set_option linter.unusedSimpArgs false
open Array renaming getElem?_eq_getElem→pC,getElem?_eq_none→pF,length_toList→pI,getElem?_toList→pR,size_eq_zero_iff→pT,getElem?_append_left→q8
open Bool renaming false_eq_true→pS,and_eq_true→pZ
open Go.Instr renaming sameBits→qR
open List renaming length_append→pL,getElem?_append→pM,getElem?_cons_zero→pN,length_cons→pO,getElem?_eq_getElem→pP,getElem?_eq_none→pQ,getElem?_cons_succ→pV,replicate→pW,map_congr_left→pX,getElem?_toArray→pY,getElem?_take_of_lt→q7,mem_range→qA,length_nil→qD,append_nil→qF,length_eq_zero_iff→qH,take_length→qJ,getElem?_drop→qL,getElem?_append_right→qM,getD_eq_getElem?_getD→qN,flatten_cons→qO,getElem?_map→qP,getElem?_append_left→qQ,length_pos_iff→qS
open Nat renaming le_refl→p9,lt_or_ge→pD,add_mul→pG,mul_le_mul_right→pJ,lt_succ_self→pK,zero_add→qB,not_succ_le_self→qC,add_zero→qE,lt_trichotomy→qG,le_succ→qK
open Option renaming map_eq_some_iff→p8,map_some→pU
open Option.some renaming injEq→p7
open Go.Result renaming andThen_ok→pB
open Go.Sem renaming run_bind→pE,run_pure→pH
open Go.Value.slice renaming injEq→qU
open Go.World renaming alloc_eq→q9,putObj_heap_other→qI,cell?→qT
namespace Go.Fx
variable {P:Program}
section
variable {I:Nat→Nat→Prop} {β:Id→Option CLoc} {n:Nat} {H:AHeap} {w:World} {e:Env} {a:Act}
theorem Jj{s:Nat}:∀ (rows:List (List AVal)) (i j:Nat) (r:List AVal) (x:AVal),(∀r∈rows,r.length=s)→rows[i]?=some r→r[j]?=some x→rows.flatten[i*s+j]?=some x
 |[],i,j,r,x,_,hi,_=>by simp at hi
 |r0::rows,0,j,r,x,hl,hi,hj=>by
  simp at hi;subst hi
  have:=hl r0 (by simp)
  rw[qO,Nat.zero_mul,qB,qQ]
  ·exact hj
  ·rcases pD j r0.length with h|h
   ·exact h
   ·rw[pQ h] at hj;cases hj
 |r0::rows,i+1,j,r,x,hl,hi,hj=>by
  have h0:=hl r0 (by simp)
  have:=Jj rows i j r x (fun r hr=>hl r (by simp[hr])) (by simpa using hi) hj
  rw[qO,qM (by rw[h0,pG];omega),←this]
  congr 1
  rw[h0,pG];omega
theorem wn{s:Nat}:∀ (rows:List (List AVal)),(∀r∈rows,r.length=s)→rows.flatten.length=rows.length*s
 |[],_=>by simp
 |r::rows,h=>by
  rw[qO,pL,h r (by simp),wn rows (fun r hr=>h r (by simp[hr])),pO,pG];omega
theorem Kq{s:Nat}:∀ (rows:List (List AVal)) (i:Nat) (cs:List AVal),(∀r∈rows,r.length=s)→i<rows.length→cs.length=s→(rows.set i cs).flatten=jp rows.flatten (i*s) cs
 |[],i,cs,_,hi,_=>by simp at hi
 |r::rows,0,cs,h,_,hc=>by
  have h0:=h r (by simp)
  simp only[List.set_cons_zero,qO,jp,Nat.zero_mul,List.take_zero,List.nil_append,qB]
  rw[hc,←h0,List.drop_left]
 |r::rows,i+1,cs,h,hi,hc=>by
  have h0:=h r (by simp)
  have ih:=Kq rows i cs (fun r hr=>h r (by simp[hr])) (by simpa using hi) hc
  simp only[List.set_cons_succ,qO,ih,jp]
  have e1:(i+1)*s=r.length+i*s:=by rw[h0,pG];omega
  rw[e1,List.take_length_add_append,Nat.add_assoc,List.drop_length_add_append]
  simp
theorem Uq{s:Nat}:∀ (parts:List (Nat×AVal)) (rows:List (List AVal)) (p:Prop) (rows':List (List AVal)),X8 rows parts=some (p,rows')→p→(∀r∈rows,r.length=s) →
 (∀r∈rows',r.length=s)∧rows'.length=rows.length∧∃side,Zq rows.flatten (parts.map fun q=>(q.1*s,s,q.2))=.ok side (.agg rows'.flatten)∧side
 |[],rows,p,rows',h,_,hl=>by
  simp only[X8,p7,Prod.mk.injEq] at h
  obtain⟨_,rfl⟩:=h
  exact⟨hl,rfl,True,rfl,trivial⟩
 |(i,x)::parts,rows,p,rows',h,hp,hl=>by
  simp only[X8] at h
  cases hc:x.cells? with
  |none=>simp[hc] at h
  |some cs=>
  cases hm:X8 (rows.set i cs) parts with
  |none=>simp[hc,hm] at h
  |some q=>
   obtain⟨p0,rs⟩:=q
   simp only[hc,hm,p7,Prod.mk.injEq] at h
   obtain⟨rfl,rfl⟩:=h
   obtain⟨h1,h2,h3⟩:=hp
   have hri:rows.getD i []∈rows:=by rw[qN,pP h2];exact List.getElem_mem h2
   have hcs:cs.length=s:=h1.trans (hl _ hri)
   have hl':∀r∈rows.set i cs,r.length=s:=by
    intro r hr
    rcases List.mem_or_eq_of_mem_set hr with h|h
    ·exact hl r h
    ·rw[h];exact hcs
   obtain⟨g1,g2,side,g3,g4⟩:=Uq parts (rows.set i cs) p0 rs hm h3 hl'
   refine⟨g1,by simpa using g2,cs.length=s∧i*s+s≤rows.flatten.length∧side,?_,hcs,?_,g4⟩
   ·simp only[List.map_cons,Zq,hc]
    rw[←Kq rows i cs hl h2 hcs,g3]
   ·rw[wn rows hl]
    have:(i+1)*s≤rows.length*s:=pJ _ h2
    rw[pG] at this;omega
theorem Yt{s:Nat}{rows:List (List AVal)}{arr:Array Value}(h:Xo I β n w rows.flatten arr)(hl:∀r∈rows,r.length=s):RowsIn I β n w s 0 rows arr:=by
 obtain⟨h1,h2,h3⟩:=h
 refine⟨by rw[h1,wn rows hl];omega,fun i r hi=>hl r (List.mem_of_getElem? hi),fun i r j x hi hj=>?_⟩
 have hx:=Jj rows i j r x hl hi hj
 have hlt:i*s+j<arr.size:=by
  rw[h1]
  rcases pD (i*s+j) rows.flatten.length with h|h
  ·exact h
  ·rw[pQ h] at hx;cases hx
 refine⟨arr[i*s+j],by simp[hlt],h2 _ (by simp),h3 _ _ _ hx (pC hlt)⟩
theorem uv{cs:List AVal}{arr:Array Value}(h:Xo I β n w cs arr):RowsIn I β n w cs.length 0 [cs] arr:=
 Yt (by simpa using h) (by simp)
theorem Vg{zs:List AVal}{zv:Array Value}(h:Xo I β n w zs zv)(hs:0<zs.length)(m:Nat) :
 Xo I β n w (pW m zs).flatten ((Array.range (m*zs.length)).map (zv[· % zv.size]!)):=by
 obtain⟨h1,h2,h3⟩:=h
 have hl:∀r∈pW m zs,r.length=zs.length:=fun r hr=>by rw[(List.mem_replicate.1 hr).2]
 refine⟨by simp[wn _ hl],?_,?_⟩
 ·intro u hu
  simp only[Array.toList_map,List.mem_map] at hu
  obtain⟨k,_,rfl⟩:=hu
  have hlt:k % zv.size<zv.size:=Nat.mod_lt _ (by omega)
  rw[getElem!_pos zv _ hlt]
  exact h2 _ (by simp)
 ·intro k y u hy hu
  have hk:k<m*zs.length:=by
   rcases pD k (m*zs.length) with h|h
   ·exact h
   ·rw[pQ (by rw[wn _ hl];simpa using h)] at hy;cases hy
  obtain⟨g1,g2,g3⟩:=zfx hs hk
  have hlt:k % zv.size<zv.size:=Nat.mod_lt _ (by omega)
  simp only[Array.getElem?_map,Array.getElem?_range,hk,if_true,pU,p7] at hu
  rw[getElem!_pos zv _ hlt] at hu
  have:=Jj (s:=zs.length) (pW m zs) (k / zs.length) (k % zs.length) zs (zs[k % zs.length]) hl (by simp[g1]) (pP g2)
  rw[←g3,hy] at this
  simp only[p7] at this
  refine h3 (k % zs.length) y u ?_ ?_
  ·rw[this];exact pP g2
  ·have e:k % zv.size=k % zs.length:=by rw[h1]
   rw[←hu,←e];exact pC hlt
theorem jo(w:World)(o:Obj):Pushed w (w.alloc o) o:=⟨rfl,⟨rfl,fun _=>p9 _⟩,rfl,rfl⟩
theorem uq(k m:Nat)(_:k<m):((0:Nat)≤k&&decide (k<0))=false:=by simp
theorem Jz(hI:Inv I β n H w){K:AVal→AHeap→Nat→Prop}{arr:Array Value}{el:TypeId}{s:Nat}{es:List (List AVal)}{w':World}{fr:Nat×Nat}(hp:Pushed w w' (.cells arr el fr))(hfr:∀k,k<arr.size→(fr.1≤k&&k<fr.2)=false)(hfe:EndOk s arr fr)
 (hr:RowsIn I β n w s 0 es arr) {r:AVal} {v:Value} (hk:K r (((n,0),.rows s es)::H) (n+1)) (hv:Rep I (upd β (n,0) (some ⟨w.heap.size,0,arr.size,0,s⟩)) (n+1) w' r v):Goes I β n H w K v w':=by
 obtain⟨h1,h2⟩:=z3d hI hp hfr hfe hr
 exact⟨r,_,_,_,_,hk,h1,hv,h2⟩
theorem Ue(w':World)(s sz b:Nat):Rep I (upd β (n,0) (some ⟨b,0,sz,0,s⟩)) (n+1) w' (.ptr (n,0) 0 0) (.pointer (some ⟨b,0,none⟩)):=by
 refine .ptr _ _ _ _ (pK n) fun c hc=>?_
 rw[qr] at hc
 simp only[p7] at hc
 subst hc
 simp
theorem Z4(w':World){s sz b len cap:Nat}{f:Bool}(h1:len≤cap)(h2:f=true→cap=len)(h3:cap*s≤sz) :
 Rep I (upd β (n,0) (some ⟨b,0,sz,0,s⟩)) (n+1) w' (.msl (n,0) s 0 len f) (.slice (some ⟨b,0,none⟩) len cap):=by
 refine .msl _ _ _ _ _ _ _ (pK n) ⟨h1,nofun⟩ h2 fun c hc=>?_
 rw[qr] at hc
 simp only[p7] at hc
 subst hc
 exact⟨rfl,fun _=>⟨by simp,by simpa using h3⟩⟩
theorem z9i(hI:Inv I β n H w){K:AVal→AHeap→Nat→Prop}{arr:Array Value}{el:TypeId}{cs:List AVal}{w':World}(hp:Pushed w w' (.cells arr el (0,0)))
 (hr:RowsIn I β n w cs.length 0 [cs] arr) (hk:K (.ptr (n,0) 0 0) (((n,0),.one cs)::H) (n+1)):Goes I β n H w K (.pointer (some ⟨w.heap.size,0,none⟩)) w':=by
 obtain⟨h1,h2⟩:=z3d hI hp (fun k h=>uq k _ h) EndOk.zero hr
 exact⟨_,_,_,_,_,hk,h1.same zlb,Ue _ _ _ _,h2.same (fun _=>Iff.rfl) (fun id h=>(z6v id).1 h)⟩
theorem zao(hI:Inv I β n H w){K:AVal→AHeap→Nat→Prop}{t:TypeId}{zs:List AVal}(hz:xf P t=some zs)(hk:K (.ptr (n,0) 0 0) (((n,0),.one zs)::H) (n+1)) :
 ∃v w',(Instr.alloc t true (.tuple #[])).run P w=.ok v w'∧Goes I β n H w K v w':=by
 obtain⟨zv,zi,_,_,_,hzv,hzr⟩:=wy (I:=I) (β:=β) (n:=n) (w:=w) hz
 refine⟨.pointer (some ⟨w.heap.size,0,none⟩),w.alloc (.cells zv.cells t),?_,z9i hI (arr:=zv.cells) (el:=t) (jo w _) (uv hzr) hk⟩
 simp only[Instr.alloc,pE,hzv,pB,newVar,newRow,run_newObj,pH,q9]
theorem Xq(s:Nat):∀ (k:Nat) (l:List AVal),l.length=k*s→(Qx s k l).flatten=l
 |0,l,h=>by simp at h;subst h;rfl
 |k+1,l,h=>by
  rw[Qx,qO,Xq s k _ (by rw[List.length_drop,h,pG];omega),List.take_append_drop]
theorem z1e(s:Nat):∀ (k:Nat) (l:List AVal),l.length=k*s→∀r∈Qx s k l,r.length=s
 |0,l,h,r,hr=>by simp[Qx] at hr
 |k+1,l,h,r,hr=>by
  rw[Qx,List.mem_cons] at hr
  rcases hr with rfl|hr
  ·rw[List.length_take,h,pG];omega
  ·exact z1e s k _ (by rw[List.length_drop,h,pG];omega) r hr
theorem zjh(hI:Inv I β n H w){K:AVal→AHeap→Nat→Prop}{t:TypeId}{s:Nat}{zs:List AVal}(hz:xf P t=some zs)(hs:zs.length % s=0)
 (hk:K (.ptr (n,0) 0 0) (((n,0),.rows s (Qx s (zs.length / s) zs))::H) (n+1)) :
 ∃v w',(Instr.alloc t true (.tuple #[])).run P w=.ok v w'∧Goes I β n H w K v w':=by
 obtain⟨zv,zi,_,_,_,hzv,hzr⟩:=wy (I:=I) (β:=β) (n:=n) (w:=w) hz
 have hl:zs.length=zs.length / s*s:=by have:=Nat.div_add_mod zs.length s;rw[Nat.mul_comm];omega
 have hr:RowsIn I β n w s 0 (Qx s (zs.length / s) zs) zv.cells:=Yt (by rw[Xq _ _ _ hl];exact hzr) (z1e _ _ _ hl)
 obtain⟨h1,h2⟩:=z3d hI (el:=t) (fr:=(0,0)) (jo w _) (fun k h=>uq k _ h) EndOk.zero hr
 refine⟨.pointer (some ⟨w.heap.size,0,none⟩),w.alloc (.cells zv.cells t),?_,_,_,_,_,_,hk,h1,Ue _ _ _ _,h2⟩
 simp only[Instr.alloc,pE,hzv,pB,newVar,newRow,run_newObj,pH,q9]
theorem zhd{t e:TypeId}(h:zvu P t=some e):∃i v,P.info? t=some i∧i.zero=some v∧v.cells=#[.pointer none,.slice none 0 0]∧(zeroValue t).run P w=.ok v w:=by
 unfold zvu at h
 split at h<;>try (cases h;done)
 rename_i fs i hu hi
 split at h<;>try (cases h;done)
 rename_i f0 f1 v z hf hv hz
 split at h<;>try (cases h;done)
 rename_i u c h1 h2 h3
 obtain⟨v',i',g1,g2,_,g4,_⟩:=wy (I:=fun _ _=>False) (β:=fun _=>none) (n:=0) (w:=w) hz
 rw[hi] at g1
 simp only[p7] at g1
 subst g1
 rw[hv] at g2
 simp only[p7] at g2
 subst g2
 exact⟨i,v,hi,hv,Array.toList_inj.1 h3,g4⟩
theorem zpe{w':World}(hI:Inv I β n H w){T e:TypeId}(hp:Pushed w w' (.cells #[.pointer none,.slice none 0 0] T (0,0))) :
 ∃β',Inv I β' (n+1) (((n,0),.bld T (n,1))::((n,1),.buf e [])::H) w'∧Ext I β n H w I β' (n+1) (((n,0),.bld T (n,1))::((n,1),.buf e [])::H) w'∧β' (n,0)=some ⟨w.heap.size,0,2,0,2⟩:=by
 have hsz:w'.heap.size=w.heap.size+1:=by rw[hp.heap];simp
 have h01:((n,1):Id)≠(n,0):=by simp
 let β':Id→Option CLoc:=upd (upd β (n,1) (some ⟨0,0,0,0,0⟩)) (n,0) (some ⟨w.heap.size,0,2,0,2⟩)
 have b0:β' (n,0)=some ⟨w.heap.size,0,2,0,2⟩:=qr _ _ _
 have b1:β' (n,1)=some ⟨0,0,0,0,0⟩:=by simp only[β'];rw[ze _ _ h01,qr]
 have bo:∀id:Id,id≠(n,0)→id≠(n,1)→β' id=β id:=fun id h0 h1=>by simp only[β'];rw[ze _ _ h0,ze _ _ h1]
 have hold:∀id:Id,id.1<n→β' id=β id:=fun id h=>bo id (vn h) (vn h)
 have cases3:∀ {id:Id} {c:CLoc} {b k:Nat},β' id=some c→c.has b k→(id=(n,0)∧b=w.heap.size)∨(id.1<n∧β id=some c):=by
  intro id c b k hc hk
  by_cases h0:id=(n,0)
  ·subst h0;rw[b0] at hc;simp only[p7] at hc;subst hc;exact .inl ⟨rfl,hk.1.symm⟩
  ·by_cases h1:id=(n,1)
   ·subst h1;rw[b1] at hc;simp only[p7] at hc;subst hc;exact absurd hk.2.2 (Nat.not_lt_zero _)
   ·rw[bo id h0 h1] at hc;exact .inr ⟨z6q hI hc,hc⟩
 refine⟨β',?_⟩
 rw[←and_assoc]
 refine⟨wk hI hp.chg (qK n) (fun _ _ h=>h.elim) (fun _ _ h=>h) (fun _ _ h h'=>absurd h h') (fun id hid=>.inl (hold id hid)) ?_ ?_ ?_ (fun _ _ _ _ _ _ h=>h) ?_ ?_,b0⟩
 ·intro id c b k hid hc hk
  rcases cases3 hc hk with⟨_,rfl⟩|⟨h,_⟩
  ·exact⟨by omega,.inl (p9 _)⟩
  ·omega
 ·intro id hid
  rw[bo id (fun h=>by subst h;exact absurd hid (qC n)) (fun h=>by subst h;exact absurd hid (qC n))]
  exact hI.fresh id (by omega)
 ·intro i j c d b k hi hj hc hd hj'
  rcases cases3 hj hd with⟨rfl,rfl⟩|⟨h,_⟩
  ·rcases cases3 hi hc with⟨rfl,_⟩|⟨_,h⟩
   ·rfl
   ·exact(Xu hI h hc (p9 _)).elim
  ·omega
 ·intro id hid hg
  rwa [AHeap.get_cons_other _ _ (vn hid).symm,AHeap.get_cons_other _ _ (vn hid).symm] at hg
 ·intro id blk hid
  by_cases h0:(n,0)=id
  ·subst h0
   rw[AHeap.get_cons_same] at hid
   simp only[p7] at hid
   subst hid
   exact .inr ⟨_,b0,rfl,rfl,rfl,pK n,_,_,hp.new,.inl rfl,fun d hd=>by rw[b1] at hd;simp only[p7] at hd;subst hd;exact .inl ⟨rfl,rfl⟩⟩
  ·rw[AHeap.get_cons_other _ _ h0] at hid
   by_cases h1:(n,1)=id
   ·subst h1
    rw[AHeap.get_cons_same] at hid
    simp only[p7] at hid
    subst hid
    exact .inr ⟨_,b1,rfl,rfl,.inl ⟨rfl,rfl⟩⟩
   ·rw[AHeap.get_cons_other _ _ h1] at hid
    exact .inl ⟨hid,bo id (fun h=>h0 h.symm) (fun h=>h1 h.symm),fun _ _ _ _ _ h=>h⟩
theorem zio(hI:Inv I β n H w){K:AVal→AHeap→Nat→Prop}{t e:TypeId}(hb:zvu P t=some e)(hk:K (.ptr (n,0) 0 0) (((n,0),.bld t (n,1))::((n,1),.buf e [])::H) (n+1)) :
 ∃v w',(Instr.alloc t true (.tuple #[])).run P w=.ok v w'∧Goes I β n H w K v w':=by
 obtain⟨i,zv,_,_,hz,hzv⟩:=zhd (w:=w) hb
 obtain⟨β',h1,h2,h3⟩:=zpe (e:=e) hI (jo w (.cells #[.pointer none,.slice none 0 0] t))
 refine⟨.pointer (some ⟨w.heap.size,0,none⟩),w.alloc (.cells zv.cells t),?_,_,_,_,_,_,hk,by rw[hz];exact h1,?_,by rw[hz];exact h2⟩
 ·simp only[Instr.alloc,pE,hzv,pB,newVar,newRow,run_newObj,pH,q9]
 ·refine .ptr _ _ _ _ (pK n) fun c hc=>?_
  rw[h3] at hc
  simp only[p7] at hc
  subst hc
  simp
theorem ztp(hI:Inv I β n H w){K:AVal→AHeap→Nat→Prop}{t:TypeId}{x:AVal}{v:Value}(hx:Rep I β n w x v){cs:List AVal}(hc:x.cells? = some cs)(hk:K (.ptr (n,0) 0 0) (((n,0),.one cs)::H) (n+1)) :
 ∃u w',(Instr.box t v).run P w=.ok u w'∧Goes I β n H w K u w':=by
 refine⟨.pointer (some ⟨w.heap.size,0,none⟩),w.alloc (.cells v.cells t),?_,z9i hI (arr:=v.cells) (el:=t) (jo w _) (uv (U6 hx hc)) hk⟩
 simp only[Instr.box,pE,pB,newVar,newRow,run_newObj,pH,q9]
theorem zcy(l:List (Nat×LOpd)):(evI e l).length=l.length:=by
 induction l with
 |nil=>rfl
 |cons x l ih=>obtain⟨_,_⟩:=x;simp[evI,ih]
theorem Wb(hE:RepEnv I β n w e a):∀ (ps:List (Nat×Operand)) (l:List (Nat×LOpd)),Ze ps=some l→Wy e l →
 ps.length=l.length∧∀ (k i i':Nat) (v:Value) (x:AVal),(ps.map fun q=>(q.1,a.eval q.2))[k]?=some (i,v)→(evI e l)[k]?=some (i',x)→i=i'∧Rep I β n w x v
 |[],l,h,_=>by simp[Ze] at h;subst h;simp
 |(i0,o0)::ps,l,h,hn=>by
  simp only[Ze] at h
  cases hx:ye o0 with
  |none=>simp[hx] at h
  |some x0=>
  cases hr:Ze ps with
  |none=>simp[hx,hr] at h
  |some l0=>
   simp only[hx,hr,p7] at h
   subst h
   simp only[Wy] at hn
   obtain⟨ih1,ih2⟩:=Wb hE ps l0 hr hn.2
   refine⟨by simp[ih1],?_⟩
   intro k i i' v x h1 h2
   cases k with
   |zero=>
    simp[evI] at h1 h2
    obtain⟨rfl,rfl⟩:=h1
    obtain⟨rfl,rfl⟩:=h2
    exact⟨rfl,zu hE hx hn.1⟩
   |succ k=>exact ih2 k i i' v x (by simpa using h1) (by simpa[evI] using h2)
theorem z3a(hI:Inv I β n H w)(hE:RepEnv I β n w e a){t c:TypeId}{len s:Nat}{parts:Array (Nat×Operand)}{zs:List AVal}{l:List (Nat×LOpd)}(ht:P.underlying t=some (.slice c))(hz:xf P c=some zs)(hsz:xl P c=some s)
 (hpl:Ze parts.toList=some l) (hs:0<s) (hlen:len*s≤16777216) (hzs:zs.length=s) (hn:Wy e l) {p:Prop} {rows:List (List AVal)} (hm:X8 (pW len zs) (evI e l)=some (p,rows)) (hp:p)
 :
 ∃arr',(Instr.buildSlice t len (parts.map fun(i,x)=>(i,a.eval x))).run P w=.ok (.slice (some ⟨w.heap.size,0,none⟩) len len) (w.alloc (.cells arr' c))∧arr'.size=len*s∧rows.length=len∧RowsIn I β n w s 0 rows arr':=by
 obtain⟨zv,zi,_,_,_,hzv,hzr⟩:=wy (I:=I) (β:=β) (n:=n) (w:=w) hz
 obtain⟨g1,g2⟩:=Wb hE parts.toList l hpl hn
 have hl:∀r∈pW len zs,r.length=s:=fun r hr=>by rw[(List.mem_replicate.1 hr).2,hzs]
 obtain⟨k1,k2,side,k3,k4⟩:=Uq _ _ _ _ hm hp hl
 have hrep:=Vg hzr (by omega) len
 rw[hzs] at hrep
 obtain⟨arr',cs',f1,f2,f3,f4⟩:=Kb (I:=I) (β:=β) (n:=n) (w:=w) (fun i=>some (i*s,s)) (parts.toList.map fun q=>(q.1,a.eval q.2)) ((evI e l).map fun q=>(q.1*s,s,q.2)) _ _
  (by simp[zcy,←g1]) (by
   intro k i off m v x h1 h2
   rw[qP] at h2
   cases hq:(evI e l)[k]? with
   |none=>rw[hq] at h2;cases h2
   |some q=>
    rw[hq] at h2
    simp only[pU,p7,Prod.mk.injEq] at h2
    obtain⟨h3,h4,h5⟩:=h2
    obtain⟨h6,h7⟩:=g2 k i q.1 v q.2 h1 hq
    subst h6;subst h3;subst h4;subst h5
    exact⟨rfl,h7⟩) hrep side _ k3 k4
 simp only[AVal.agg.injEq] at f2
 subst f2
 have hsize:arr'.size=len*s:=by rw[f3.1,wn _ k1,k2];simp
 refine⟨arr',?_,hsize,by rw[k2];simp,Yt f3 k1⟩
 have e1:(parts.map fun(i,x)=>(i,a.eval x)).toList=parts.toList.map fun q=>(q.1,a.eval q.2):=by simp
 simp only[Instr.buildSlice,pE,za ht,pB,yu hsz]
 rw[if_neg (by omega)]
 by_cases h0:len*s=0
 ·have:(Array.range (len*s)).map (zv.cells[· % zv.cells.size]!)=#[]:=by rw[h0];simp
  rw[this] at f1
  simp only[if_pos h0,pH,pB,pE,e1]
  have:(Array.range (len*s)).map ((#[]:Array Value)[· % (#[]:Array Value).size]!)=#[]:=by rw[h0];simp
  rw[this,f1]
  simp only[newRow,pE,run_newObj,pB,pH,q9]
 ·simp only[if_neg h0,pH,pB,pE,e1,hzv,f1,newRow,run_newObj,q9]
theorem zh9(hI:Inv I β n H w){K:AVal→AHeap→Nat→Prop}{c:TypeId}{len s:Nat}{rows:List (List AVal)}{arr':Array Value}(h1:arr'.size=len*s)(h2:RowsIn I β n w s 0 rows arr')
 (hk:K (.msl (n,0) s 0 len true) (((n,0),.rows s rows)::H) (n+1)):Goes I β n H w K (.slice (some ⟨w.heap.size,0,none⟩) len len) (w.alloc (.cells arr' c)):=
 Jz hI (arr:=arr') (el:=c) (fr:=(0,0)) (jo w _) (fun k h=>uq k _ h) EndOk.zero h2 hk (Z4 _ (p9 _) (fun _=>rfl) (by rw[h1];exact p9 _))
theorem V0(z:AVal){x:AVal}{v:Value}(h:RepI I w x v):RepI I w (Yy z x) v:=by
 unfold Yy
 split
 ·cases h with|val _ _=>exact .islNil _ _
 ·cases h with
  |isl _ _ _ b o cap vf h1 h2 h3 h4 h5 h6 h7=>exact .isl _ _ false b o cap vf h1 h2 (fun h=>by cases h) h4 h5 h6 h7
  |islEmpty _ _ b cap h1=>exact .islEmpty _ _ b cap (fun h=>by cases h)
  |islNil _ _=>exact .islNil _ _
 ·exact h
theorem Z0:∀ (zs r:List AVal),(xz zs r).length=r.length∧∀ (j:Nat) (y:AVal),(xz zs r)[j]?=some y→∃x z,r[j]?=some x∧(y=x∨y=Yy z x)
 |[],r=>⟨by simp[xz],fun j y h=>⟨y,y,by simpa[xz] using h,.inl rfl⟩⟩
 |z::zs,[]=>⟨by simp[xz],fun j y h=>by simp[xz] at h⟩
 |z::zs,x::r=>by
  obtain⟨h1,h2⟩:=Z0 zs r
  refine⟨by simp[xz,h1],fun j y hy=>?_⟩
  cases j with
  |zero=>simp[xz] at hy;exact⟨x,z,rfl,.inr hy.symm⟩
  |succ j=>simpa using h2 j y (by simpa[xz] using hy)
theorem Vj{s base:Nat}{es:List (List AVal)}{arr:Array Value}(h:RowsIn I β n w s base es arr)(zs:List AVal):RowsIn I β n w s base (es.map (xz zs)) arr:=by
 obtain⟨h1,h2,h3⟩:=h
 have hg:∀ (i:Nat) (r:List AVal),(es.map (xz zs))[i]?=some r→∃r0,es[i]?=some r0∧r=xz zs r0:=by
  intro i r hr
  rw[qP] at hr
  cases he:es[i]? with
  |none=>rw[he] at hr;cases hr
  |some r0=>rw[he] at hr;simp at hr;exact⟨r0,rfl,hr.symm⟩
 refine⟨by simpa using h1,fun i r hr=>?_,fun i r j x hr hx=>?_⟩
 ·obtain⟨r0,g1,rfl⟩:=hg i r hr
  rw[(Z0 zs r0).1];exact h2 i r0 g1
 ·obtain⟨r0,g1,rfl⟩:=hg i r hr
  obtain⟨x0,z0,q1,q2⟩:=(Z0 zs r0).2 j x hx
  obtain⟨v,k1,k2,k3⟩:=h3 i r0 j x0 g1 q1
  refine⟨v,k1,k2,?_⟩
  rcases q2 with rfl|rfl
  ·exact k3
  ·exact Jh z0 k3
theorem z2m{s base:Nat}{es:List (List AVal)}{arr:Array Value}(h:RowsInI I w s base es arr)(zs:List AVal):RowsInI I w s base (es.map (xz zs)) arr:=by
 obtain⟨h1,h2,h3⟩:=h
 have hg:∀ (i:Nat) (r:List AVal),(es.map (xz zs))[i]?=some r→∃r0,es[i]?=some r0∧r=xz zs r0:=by
  intro i r hr
  rw[qP] at hr
  cases he:es[i]? with
  |none=>rw[he] at hr;cases hr
  |some r0=>rw[he] at hr;simp at hr;exact⟨r0,rfl,hr.symm⟩
 refine⟨by simpa using h1,fun i r hr=>?_,fun i r j x hr hx=>?_⟩
 ·obtain⟨r0,g1,rfl⟩:=hg i r hr
  rw[(Z0 zs r0).1];exact h2 i r0 g1
 ·obtain⟨r0,g1,rfl⟩:=hg i r hr
  obtain⟨y,z,g2,g3⟩:=(Z0 zs r0).2 j x hx
  obtain⟨v,k1,k2,k3⟩:=h3 i r0 j y g1 g2
  refine⟨v,k1,k2,?_⟩
  rcases g3 with rfl|rfl
  ·exact k3
  ·exact V0 z k3
theorem z9j(hI:Inv I β n H w){K:AVal→AHeap→Nat→Prop}{c:TypeId}{len s:Nat}{rows rows':List (List AVal)}{arr':Array Value}(h2:RowsIn I β n w s 0 rows arr')(h3:rows.length=len)(hi:wq rows=some rows')
 {zs:List AVal} (hk:K (.isl s (rows'.map (xz zs)) true) H n):Goes I β n H w K (.slice (some ⟨w.heap.size,0,none⟩) len len) (w.alloc (.cells arr' c)):=by
 obtain⟨I',β',g1,g2,_,g4,_⟩:=z2p (H2:=H) hI (jo w (.cells arr' c)) (fun k h=>uq k _ h) (z2m (z15 h2 hi) zs) false (fun _ _ h=>h)
 simp only[pS,if_false] at g1 g2
 have hl:(rows'.map (xz zs)).length=len:=by rw[List.length_map,(Yl hi).1,h3]
 subst hl
 exact⟨_,_,_,_,_,hk,g1,.imm _ _ (g4 _ true (p9 _) (fun _=>rfl)),g2⟩
theorem za0(hI:Inv I β n H w){K:AVal→AHeap→Nat→Prop}{t:TypeId}{m:Nat}(hsz:xl P t=some m){b:Id}{i off:Nat}{v u:Value}{x:AVal}(ha:Rep I β n w (.ptr b i off) v)(hx:Rep I β n w x u){cs:List AVal}(hc:x.cells? = some cs)
 {s:Nat} {es:List (List AVal)} (hb:H.get b=some (.rows s es)) (h1:cs.length=m) (h2:i<es.length) (h3:off+m≤s) (hk:K .any (H.set b (.rows s (es.set i (jp (es.getD i []) off cs)))) n) :
 ∃w',(Instr.storeAt t v u).run P w=.ok () w'∧Goes I β n H w K undef w':=by
 obtain⟨c,hcb,hB⟩:=hI.blocks b _ hb
 have hB0:=hB
 obtain⟨rfl,⟨arr,el,fr,g1,g2⟩|⟨_,_,rfl⟩,g3,glo,g4,g5,g6⟩:=hB
 rotate_left
 ·simp at h2
 cases ha with
 |imm _ _ ha=>cases ha
 |ptr _ _ _ ad hbn hp=>
  have hp:=hp c hcb
  subst hp
  obtain⟨k1,k2,k3⟩:=U6 hx hc
  have hri:es[i]?=some (es.getD i []):=by simp[pP h2]
  have hrl:=g5 i _ hri
  have hin:(i+1)*c.s≤es.length*c.s:=pJ _ h2
  rw[pG] at hin
  generalize es.getD i []=row at *
  obtain⟨w',r1,r2,_,r4⟩:=vq (P:=P) (vs:=u.cells.toList) (w:=w) (b:=c.blk) (o:=c.base+i*c.s+off)
   (fun j hj=>by
    simp only[pI] at hj
    obtain⟨v,q1,_⟩:=g6 i _ (off+j) _ hri (pP (by omega:off+j<row.length))
    exact⟨v,by rw[←q1];congr 2;omega⟩)
   (fun j hj=>by
    simp only[pI] at hj
    exact g3 _ (by omega) (by omega)) k2
  simp only[pI] at r2 r4
  have hblk:c.blk<w.heap.size:=by
   rcases pD c.blk w.heap.size with h|h
   ·exact h
   ·rw[pF h] at g1;cases g1
  have r3:∀k,(k<c.base+i*c.s+off∨c.base+i*c.s+off+u.cells.size≤k)→w'.cell? ⟨c.blk,k,none⟩=w.cell? ⟨c.blk,k,none⟩:=fun k hk=>r2.cell c.blk k hblk (fun h=>by omega)
  refine⟨w',?_,?_⟩
  ·simp only[Instr.storeAt,Instr.sureAddr,storeVar,pE,pH,pB,yu hsz]
   rw[if_neg (by omega)]
   exact r1
  ·have hspl:(jp row off cs).length=c.s:=by
    unfold jp
    rw[pL,pL,List.length_take,List.length_drop];omega
   obtain⟨q1,q2⟩:=W0 hI hb hcb (r2.mono (fun b' k h=>⟨h.1.symm,by omega,by omega⟩)) (es':=es.set i (jp row off cs)) (by simp)
    (fun i' r hr=>by
     rw[List.getElem?_set] at hr
     split at hr
     ·rename_i heq
      subst heq
      simp only[p7] at hr;rw[←hr];exact hspl
     ·exact g5 i' r hr)
    (fun i' r j y hr hj=>by
     rw[List.getElem?_set] at hr
     split at hr
     ·rename_i heq
      subst heq
      simp only[p7] at hr
      subst hr
      unfold jp at hj
      by_cases hc1:off≤j∧j<off+cs.length
      ·have hj':cs[j-off]?=some y:=by
        rw[List.append_assoc,qM (by simp;omega),qQ (by simp;omega)] at hj
        rw[←hj];congr 1;simp;omega
       have hlt:j-off<u.cells.size:=by omega
       refine⟨u.cells[j-off],?_,k2 _ (by simp),k3 _ _ _ hj' (pC hlt)⟩
       have:=r4 (j-off) hlt
       rw[pR,pC hlt] at this
       rw[←this];congr 2;omega
      ·have hj':row[j]?=some y:=by
        by_cases hlt:j<off
        ·rw[List.append_assoc,qQ (by simp;omega),q7 hlt] at hj;exact hj
        ·rw[qM (by simp;omega),qL] at hj
         rw[←hj];congr 1;simp;omega
       obtain⟨v,p1,p2,p3⟩:=g6 i _ j y hri hj'
       exact⟨v,by rw[r3 _ (by omega)];exact p1,p2,p3⟩
     ·rename_i hne
      obtain⟨v,p1,p2,p3⟩:=g6 i' r j y hr hj
      have hjl:j<c.s:=by
       have:=g5 i' r hr
       rcases pD j r.length with h|h
       ·omega
       ·rw[pQ h] at hj;cases hj
      refine⟨v,?_,p2,p3⟩
      rw[r3 _ ?_];exact p1
      rcases Nat.lt_or_gt_of_ne hne with h|h
      ·have:(i+1)*c.s≤i'*c.s:=pJ _ h
       rw[pG] at this
       right;omega
      ·have:(i'+1)*c.s≤i*c.s:=pJ _ h
       rw[pG] at this
       left;omega)
   exact⟨.any,_,_,_,_,hk,q1,.any _,q2⟩
theorem z7a(hI:Inv I β n H w){K:AVal→AHeap→Nat→Prop}{t:TypeId}{m:Nat}(hsz:xl P t=some m){b:Id}{off:Nat}{v u:Value}{x:AVal}(ha:Rep I β n w (.ptr b 0 off) v)(hx:Rep I β n w x u){cs:List AVal}(hc:x.cells? = some cs)
 {rs:List AVal} (hb:H.get b=some (.one rs)) (h1:cs.length=m) (h3:off+m≤rs.length) (hk:K .any (H.set b (.one (jp rs off cs))) n) :
 ∃w',(Instr.storeAt t v u).run P w=.ok () w'∧Goes I β n H w K undef w':=by
 have hspl:(jp rs off cs).length=rs.length:=by
  unfold jp
  rw[pL,pL,List.length_take,List.length_drop];omega
 let H2:AHeap:=H.set b (.rows rs.length [rs])
 have hb2:H2.get b=some (.rows rs.length [rs]):=by
  show(H.set b _).get b=_
  rw[AHeap.get_set,if_pos rfl,hb];rfl
 have hI2:Inv I β n H2 w:=hI.same (fun id blk hid=>by
  have hid:(H.set b (.rows rs.length [rs])).get id=some blk:=hid
  rw[AHeap.get_set] at hid
  split at hid
  ·rename_i hbi
   subst hbi
   rw[hb] at hid
   simp only[pU,p7] at hid
   subst hid
   exact⟨_,hb,fun c hc=>wl.1 hc⟩
  ·exact⟨blk,hid,fun _ h=>h⟩)
 obtain⟨w',r1,r,H',n',I',β',hK,g1,g2,g3⟩:=za0 (P:=P) (K:=fun r H' n'=>r=.any∧H'=H2.set b (.rows rs.length [jp rs off cs])∧n'=n) hI2 hsz ha hx hc hb2 h1 (by simp) h3 ⟨rfl,by simp,rfl⟩
 obtain⟨rfl,rfl,rfl⟩:=hK
 refine⟨w',r1,.any,_,_,I',β',hk,g1.same (fun id blk hid=>?_),.any _,g3.same (fun id=>(Xj id).symm) (fun id hid=>?_)⟩
 ·rw[AHeap.get_set] at hid
  split at hid
  ·rename_i hbi
   subst hbi
   rw[hb] at hid
   simp only[pU,p7] at hid
   subst hid
   refine⟨.rows rs.length [jp rs off cs],by rw[AHeap.get_set,if_pos rfl,hb2];rfl,fun c hc=>wl.2 ?_⟩
   rw[hspl];exact hc
  ·rename_i hbi
   refine⟨blk,?_,fun _ h=>h⟩
   rw[AHeap.get_set,if_neg hbi]
   show(H.set b _).get id=_
   rw[AHeap.get_set,if_neg hbi];exact hid
 ·rw[Xj] at hid ⊢
  show(H.set b _).get id≠none
  rw[Xj];exact hid
end
end Go.Fx
namespace Go.Fx
variable {P:Program}
section
variable {I:Nat→Nat→Prop} {β:Id→Option CLoc} {n:Nat} {H:AHeap} {w:World} {e:Env} {a:Act}
theorem K7{z:Int}(h1:-9223372036854775808≤z)(h2:z≤9223372036854775807):IntKind.i64.wrap z=z:=by
 show(if(true&&decide (z % 18446744073709551616≥9223372036854775808))=true then z % 18446744073709551616-18446744073709551616 else z % 18446744073709551616)=z
 by_cases h:z % 18446744073709551616≥9223372036854775808
 ·rw[if_pos (by simpa using h)];omega
 ·rw[if_neg (by simpa using h)];omega
theorem z20{t:TypeId}{b:Nat}(h:Zk P t=some b):∃i,P.info? t=some i∧i.bytes=b:=by
 unfold Zk at h
 cases hi:P.info? t with
 |none=>rw[hi] at h;cases h
 |some i=>rw[hi] at h;simp at h;exact⟨i,rfl,h⟩
theorem z05{t c:TypeId}{s b:Nat}{zs:List AVal}(ht:P.underlying t=some (.slice c))(hz:xf P c=some zs)(hsz:xl P c=some s)(hby:Zk P c=some b)(hs:0<s)(hb:0<b)
 {l k:Int} (h0:0≤l) (h1:l≤k) (h2:k*b≤140737488355328) :
 ∃arr,(Instr.makeSlice t (.int .i64 l) (.int .i64 k)).run P w=.ok (.slice (some ⟨w.heap.size,0,none⟩) l.toNat k.toNat) (w.alloc (.cells arr c))∧arr.size=k.toNat * s∧RowsIn I β n w s 0 (pW l.toNat zs) arr:=by
 obtain⟨zv,zi,hzi,_,hzl,hzv,hzr⟩:=wy (I:=I) (β:=β) (n:=n) (w:=w) hz
 obtain⟨bi,hbi,hbb⟩:=z20 hby
 have hzs:zs.length=s:=by
  unfold xl at hsz;rw[hzi] at hsz;simp at hsz;omega
 have hkb:k≤140737488355328:=by
  have:k*1≤k*b:=Int.mul_le_mul_of_nonneg_left (by omega) (by omega)
  omega
 have hl1:IntKind.i64.wrap l=l:=K7 (by omega) (by omega)
 have hk1:IntKind.i64.wrap k=k:=K7 (by omega) (by omega)
 have hrep:=Vg hzr (by omega) k.toNat
 rw[hzs] at hrep
 have hlr:∀r∈pW k.toNat zs,r.length=s:=fun r hr=>by rw[(List.mem_replicate.1 hr).2,hzs]
 have hin:=Yt hrep hlr
 have hin':RowsIn I β n w s 0 (pW l.toNat zs) ((Array.range (k.toNat * s)).map (zv.cells[· % zv.cells.size]!)):=by
  obtain⟨q1,q2,q3⟩:=hin
  have hle:l.toNat≤k.toNat:=by omega
  have hsub:∀ (i:Nat) (r:List AVal),(pW l.toNat zs)[i]?=some r→(pW k.toNat zs)[i]?=some r:=by
   intro i r hi
   have hlt:i<l.toNat:=by
    rcases pD i l.toNat with h|h
    ·exact h
    ·rw[pQ (by simpa using h)] at hi;cases hi
   rw[List.getElem?_replicate_of_lt hlt] at hi
   rw[List.getElem?_replicate_of_lt (by omega)];exact hi
  refine⟨?_,fun i r hi=>q2 i r (hsub i r hi),fun i r j x hi hj=>q3 i r j x (hsub i r hi) hj⟩
  have:=pJ s hle
  simp only[List.length_replicate] at q1 ⊢
  omega
 have hasz:((Array.range (k.toNat * s)).map (zv.cells[· % zv.cells.size]!)).size=k.toNat * s:=by simp
 refine⟨_,?_,hasz,hin'⟩
 have n1:(decide (k<0) || decide ((b:Int)*k > 2 ^ 48))=false:=by
  have:(b:Int)*k=k*b:=Int.mul_comm _ _
  simp;omega
 have n2:decide (l<0)=false:=by simp;omega
 have n3:decide (l > k)=false:=by simp;omega
 have htI:(typeInfo c).run P w=.ok bi w:=by unfold typeInfo;simp[hbi]
 simp only[Instr.makeSlice,pE,za ht,pB,asInt,asIntOf,pH,htI,hbb,hl1,hk1,n1,n2,n3,Bool.or_false,pS,if_false,run_askRoom,yu hsz]
 by_cases hk0:k.toNat * s=0
 ·have e0:∀f:Nat→Value,(Array.range 0).map f=#[]:=by intro f;simp
  simp only[hk0,if_true,e0]
  simp[newRow]
 ·simp only[hk0,if_false,pH,pB,pE,hzv]
  simp[newRow]
theorem z0x(hI:Inv I β n H w){K:AVal→AHeap→Nat→Prop}{c:TypeId}{s:Nat}{zs:List AVal}{arr:Array Value}{l k:Int}(h1:l≤k)(ha:arr.size=k.toNat * s)(hin:RowsIn I β n w s 0 (pW l.toNat zs) arr)
 (hk:K (.msl (n,0) s 0 l.toNat (decide (k=l))) (((n,0),.rows s (pW l.toNat zs))::H) (n+1)):Goes I β n H w K (.slice (some ⟨w.heap.size,0,none⟩) l.toNat k.toNat) (w.alloc (.cells arr c)):=
 Jz hI (fr:=(0,0)) (jo w _) (fun k h=>uq k _ h) EndOk.zero hin hk (Z4 _ (by omega) (fun h=>by simp at h;rw[h]) (by rw[ha];exact p9 _))
theorem z7p(hI:Inv I β n H w){K:AVal→AHeap→Nat→Prop}{c:TypeId}{s:Nat}{arr:Array Value}{k:Int}(ha:arr.size=k.toNat * s)
 (hk:K (.osl (n,0) s []) (((n,0),.tok)::H) (n+1)):Goes I β n H w K (.slice (some ⟨w.heap.size,0,none⟩) (0:Int).toNat k.toNat) (w.alloc (.cells arr c)):=by
 obtain⟨I',β',g1,g2,g3,g4,_⟩:=z2p (s:=s) (es:=[]) (H2:=H) hI (jo w (.cells arr c)) (fun k h=>uq k _ h) (by simp[RowsInI]) true (fun _ _ h=>h)
 simp only[if_true] at g1 g2
 refine⟨_,_,_,_,_,hk,g1,?_,g2⟩
 refine .osl _ _ _ _ (pK n) (g4 _ false (Nat.zero_le _) (fun h=>by cases h)) ?_
 intro d hd ad cap' he
 rw[g3 rfl] at hd
 simp only[p7] at hd
 subst hd
 simp only[qU,p7] at he
 obtain⟨rfl,_,rfl⟩:=he
 right
 exact⟨rfl,rfl,by simp,by simp only[qB];rw[ha];exact p9 _⟩
theorem z5e(m:Nat):∀ (r c:Nat),256≤c→c≤2*m→Builtin.growBy m r c≤2*m
 |0,c,_,h=>by simpa[Builtin.growBy] using h
 |r+1,c,h0,h=>by
  unfold Builtin.growBy
  split
  ·exact h
  ·exact z5e m r _ (by omega) (by omega)
theorem U3{m c:Nat}(h:c<m):Builtin.nextslicecap m c≤2*m:=by
 unfold Builtin.nextslicecap
 split
 ·omega
 ·split
  ·omega
  ·exact z5e m 4 c (by omega) (by omega)
theorem z2l{s:Nat}{es1 es2:List (List AVal)}{a1 a2 a3:Array Value}(h1:RowsIn I β n w s 0 es1 a1)(h2:RowsIn I β n w s 0 es2 a2)(hs:a1.size=es1.length*s):RowsIn I β n w s 0 (es1++es2) (a1++a2++a3):=by
 obtain⟨p1,p2,p3⟩:=h1
 obtain⟨q1,q2,q3⟩:=h2
 refine⟨by simp only[pL,Array.size_append,pG] at *;omega,?_,?_⟩
 ·intro i r hi
  rw[pM] at hi
  split at hi
  ·exact p2 i r hi
  ·exact q2 _ r hi
 ·intro i r j x hi hj
  rw[pM] at hi
  split at hi
  ·rename_i hlt
   obtain⟨v,g1,g2,g3⟩:=p3 i r j x hi hj
   refine⟨v,?_,g2,g3⟩
   have:0+i*s+j<a1.size:=by
    rcases pD (0+i*s+j) a1.size with h|h
    ·exact h
    ·rw[pF h] at g1;cases g1
   rw[Array.append_assoc,q8 this];exact g1
  ·rename_i hge
   obtain⟨v,g1,g2,g3⟩:=q3 _ r j x hi hj
   refine⟨v,?_,g2,g3⟩
   have hlt:0+(i-es1.length)*s+j<a2.size:=by
    rcases pD (0+(i-es1.length)*s+j) a2.size with h|h
    ·exact h
    ·rw[pF h] at g1;cases g1
   have e1:i*s=es1.length*s+(i-es1.length)*s:=by rw[←pG];congr 1;omega
   rw[Array.append_assoc,Array.getElem?_append_right (by omega),q8 (by omega),←g1]
   congr 1;omega
theorem cell?_heap {w':World} (h:w'.heap=w.heap) (a:Addr):w'.cell? a=w.cell? a:=by unfold qT;rw[h]
theorem RepI.of_heap{w':World}(h:w'.heap=w.heap){x:AVal}{v:Value}(hr:RepI I w x v):RepI I w' x v:=
 hr.mono (fun _ _ h=>h) (fun b k _=>cell?_heap h _)
theorem Rep.of_heap{w':World}(h:w'.heap=w.heap){x:AVal}{v:Value}(hr:Rep I β n w x v):Rep I β n w' x v:=
 hr.mono' (fun _ _ h=>h) (fun b k _=>cell?_heap h _) (p9 n) (fun _ _ _ h=>h)
theorem Inv.of_heap{w':World}(h:w'.heap=w.heap)(hI:Inv I β n H w):Inv I β n H w':=by
 refine⟨fun id blk hb=>?_,hI.inj,fun i c b k hc hk=>by rw[h];exact hI.own i c b k hc hk,fun b k hb=>by rw[cell?_heap h];exact hI.imm b k hb,hI.fresh,hI.glob.mono (fun _ _ h=>h) (fun b k _=>cell?_heap h _) (fun b arr el fr hh=>⟨arr,fr,by rw[h];exact hh,rfl⟩)⟩
 obtain⟨c,hc,hB⟩:=hI.blocks id blk hb
 exact⟨c,hc,hB.mono' (fun _ _ h=>h) (fun b k _=>cell?_heap h _) (p9 n) (fun _ _ _ h=>h) (fun arr el fr hh=>⟨arr,fr,by rw[h];exact hh,rfl,.inl rfl⟩) (fun b k v _ hv=>by rw[cell?_heap h];exact hv) (fun es ck _ hm=>by rw[h];exact hm)⟩
theorem RowsIn.of_heap{w':World}(h:w'.heap=w.heap){s base:Nat}{es:List (List AVal)}{arr:Array Value}(hr:RowsIn I β n w s base es arr):RowsIn I β n w' s base es arr:=
 ⟨hr.1,hr.2.1,fun i r j x hi hj=>by obtain⟨v,h1,h2,h3⟩:=hr.2.2 i r j x hi hj;exact⟨v,h1,h2,h3.of_heap h⟩⟩
theorem RowsInI.of_heap{w':World}(h:w'.heap=w.heap){s base:Nat}{es:List (List AVal)}{arr:Array Value}(hr:RowsInI I w s base es arr):RowsInI I w' s base es arr:=
 ⟨hr.1,hr.2.1,fun i r j x hi hj=>by obtain⟨v,h1,h2,h3⟩:=hr.2.2 i r j x hi hj;exact⟨v,h1,h2,h3.of_heap h⟩⟩
theorem z3k{t u c rt:TypeId}{s b:Nat}{zs:List AVal}(ht:P.underlying t=some (.slice c))(hu:(∃c',P.underlying u=some (.slice c'))∨P.underlying u=some .string)(hz:xf P c=some zs)(hsz:xl P c=some s)(hby:Zk P c=some b)(hb:0<b)
 {base:Option Addr} {len cap m2:Nat} {y:Value} {a1 a2:Array Value} {wd:World} (hwd:wd={ w with drawn:=w.drawn+1 }) (hly:(Builtin.lenOf y).run P w=.ok m2 w)
 (h1:(Builtin.firstCells s len (.slice base len cap)).run P wd=.ok a1 wd) (h2:(Builtin.firstCells s m2 y).run P wd=.ok a2 wd)
 (hcap:cap<len+m2) (hby2:(len+m2)*b≤140737488355328) (hs1:a1.size=len*s) (hs2:a2.size=m2*s) :
 ∃ (m:Nat) (w':World) (a3:Array Value),(Builtin.append_ #[t,u] rt #[.slice base len cap,y]).run P w=.ok (.slice (some ⟨w.heap.size,0,none⟩) (len+m2) m) w'∧len+m2≤m ∧
  Pushed w w' (.cells (a1++a2++a3) c (0,0))∧(a1++a2++a3).size=m*s:=by
 obtain⟨zv,zi,hzi,_,hzl,hzv,hzr⟩:=wy (I:=fun _ _=>False) (β:=fun _=>none) (n:=0) (w:=wd) hz
 obtain⟨bi,hbi,hbb⟩:=z20 hby
 have htI:∀w,(typeInfo c).run P w=.ok bi w:=by intro w;unfold typeInfo;simp[hbi]
 have hzs:zs.length=s:=by
  unfold xl at hsz;rw[hzi] at hsz;simp at hsz;omega
 have hzc:zv.cells.size=s:=by have:=hzr.1;omega
 have hm1:(len+m2)*1≤(len+m2)*b:=Nat.mul_le_mul_left _ hb
 have hnc:=U3 hcap
 have hnc2:Builtin.nextslicecap (len+m2) cap*b≤281474976710656:=by
  have:Builtin.nextslicecap (len+m2) cap*b≤2*(len+m2)*b:=pJ _ hnc
  rw[Nat.mul_assoc] at this;omega
 have hmx:IntKind.i64.max=9223372036854775807:=by decide
 let q:Question:=.appendCap (len+m2) cap c
 let m:=q.cut (w.tape w.drawn q)
 have hm:len+m2≤m:=Nat.le_add_right _ _
 let a3:=Builtin.zeroCells zv.cells (m-(len+m2))
 have ha3:a3.size=(m-(len+m2))*s:=by simp[a3,Builtin.zeroCells,hzc]
 refine⟨m,wd.alloc (.cells (a1++a2++a3) c),a3,?_,hm,⟨by rw[hwd];rfl,⟨by rw[hwd];rfl,fun _=>by rw[hwd];exact qK _⟩,by rw[hwd];rfl,by rw[hwd];rfl⟩,?_⟩
 ·have hdraw:(choose (.appendCap (len+m2) cap c)).run P w=.ok m wd:=by rw[hwd];rfl
  have c1:¬(len+m2≤cap):=by omega
  have c2:¬(((len+m2:Nat):Int) > IntKind.i64.max∧(False∨b=0)):=by omega
  have c3:¬(Builtin.nextslicecap (len+m2) cap*b > 2 ^ 48):=by omega
  have hne:wd.heap.size=w.heap.size:=by rw[hwd]
  rcases hu with⟨c',hu⟩|hu
  all_goals
   unfold Builtin.append_
   simp only[pY,pN,pV,pE,za ht,za hu,pB,yu hsz,pH,hly,pS,if_false,Bool.not_false,if_true]
   rw[if_neg c1]
   simp only[pE,htI,hbb,pB]
   rw[if_neg c2]
   simp only[pE,htI,hbb,pB]
   rw[if_neg c3]
   simp only[pE,hdraw,pB,run_askRoom,h1,h2,hzv,newRow,run_newObj,pH,q9,hne,htI]
   rfl
 ·simp only[Array.size_append,hs1,hs2,ha3]
  rw[←pG,←pG];congr 1;omega
theorem Inv.sub{H2:AHeap}(h:∀id blk,H2.get id=some blk→H.get id=some blk)(hI:Inv I β n H w):Inv I β n H2 w:=
 ⟨fun id blk hb=>hI.blocks id blk (h id blk hb),hI.inj,hI.own,hI.imm,hI.fresh,hI.glob⟩
theorem Ext.sub{I':Nat→Nat→Prop}{β':Id→Option CLoc}{n':Nat}{H' H2:AHeap}{w':World}(h:∀id blk,H2.get id=some blk→H'.get id=some blk)(e:Ext I β n H w I' β' n' H' w'):Ext I β n H w I' β' n' H2 w':=
 ⟨e.os,e.tape,e.output,e.size,e.frame,e.cells,e.shape,e.maps,e.imm,e.immNew,e.old,e.new,fun id hid hg=>e.dom id hid (by
  cases hh:H2.get id with
  |none=>exact absurd hh hg
  |some b=>rw[h id b hh];simp),e.le⟩
theorem zhi(hI:Inv I β n H w){K:AVal→AHeap→Nat→Prop}{t u c rt:TypeId}{s b:Nat}{zs:List AVal}(ht:P.underlying t=some (.slice c))(hu:(∃c',P.underlying u=some (.slice c'))∨P.underlying u=some .string)(hz:xf P c=some zs)(hsz:xl P c=some s)(hby:Zk P c=some b)(hs:0<s)(hb:0<b)
 {x y:AVal} {vx vy:Value} (hx:Rep I β n w x vx) (hy:Rep I β n w y vy) {p:Prop} {rows2:List (List AVal)} (hr:ui H s y=some (p,rows2)) (hp:p) (h:zjn s b H n K x rows2) :
 ∃v w',(Builtin.append_ #[t,u] rt #[vx,vy]).run P w=.ok v w'∧Goes I β n H w K v w':=by
 let wd:World:={ w with drawn:=w.drawn+1 }
 have hwd:wd.heap=w.heap:=rfl
 have hId:Inv I β n H wd:=hI.of_heap hwd
 obtain⟨hly,hread⟩:=vu (P:=P) hI hs hy hr hp
 obtain⟨a2,f2,f2s,f2c,f2r,_⟩:=hread rows2.length (p9 _)
 obtain⟨_,hreadd⟩:=vu (P:=P) hId hs (hy.of_heap hwd) hr hp
 obtain⟨a2d,g2,g2s,g2c,g2r,_⟩:=hreadd rows2.length (p9 _)
 rw[qJ] at f2r g2r
 have refl:Ext I β n H w I β n H w:=Ext.refl _ _ _ _ _ hI.fresh
 -- nothing to append
 have nothing:rows2=[]→∀ (base:Option Addr) (len cap:Nat),vx=.slice base len cap→len≤cap→∃w',(Builtin.append_ #[t,u] rt #[vx,vy]).run P w=.ok vx w'∧w'=w:=by
  intro h0 base len cap hv hc
  subst h0
  have ha2:a2=#[]:=by
   have:a2.size=0:=by simpa using f2s
   exact pT.1 this
  subst ha2
  refine⟨w,?_,rfl⟩
  rcases hu with⟨c',hu⟩|hu
  all_goals
   unfold Builtin.append_
   simp only[pY,pN,pV,pE,za ht,za hu,pB,yu hsz,pH,hly,hv,pS,if_false,Bool.not_false,if_true,qD,qE]
   rw[if_pos hc]
   simp only[qD] at f2
   simp only[pE,f2,pB]
   cases base<;>simp[storeCells]
 -- a new block
 have grow:∀ (K:AVal→AHeap→Nat→Prop) (base:Option Addr) (len cap:Nat) (es1:List (List AVal)) (a1:Array Value),vx=.slice base len cap→(Builtin.firstCells s len (.slice base len cap)).run P wd=.ok a1 wd→RowsIn I β n w s 0 es1 a1→a1.size=len*s→es1.length=len →
  cap<len+rows2.length→(len+rows2.length)*b≤140737488355328→K (.msl (n,0) s 0 (len+rows2.length) false) (((n,0),.rows s (es1++rows2))::H) (n+1) →
  ∃v w',(Builtin.append_ #[t,u] rt #[vx,vy]).run P w=.ok v w'∧Goes I β n H w K v w':=by
  intro K base len cap es1 a1 hv h1 hr1 hs1 hl hcap hby2 hk
  subst hv
  obtain⟨m,w',a3,k1,k2,k3,k4⟩:=z3k (P:=P) (rt:=rt) ht hu hz hsz hby hb (wd:=wd) rfl hly h1 g2 hcap hby2 hs1 g2s
  refine⟨_,w',k1,Jz hI k3 (fun k h=>uq k _ h) EndOk.zero (z2l hr1 (g2r.of_heap hwd.symm) (by rw[hs1,hl])) hk (Z4 _ k2 (fun h=>by cases h) (by rw[k4];exact p9 _))⟩
 cases x<;>simp only[zjn] at h<;>try (exact h.elim)
 case val uu=>
  split at h
  ·rename_i heq
   cases heq
   obtain rfl:=hx.val_inv
   by_cases h0:rows2=[]
   ·obtain⟨w',q1,rfl⟩:=nothing h0 none 0 0 rfl (p9 _)
    exact⟨_,_,q1,_,_,_,_,_,h.1 h0,hI,hx,refl⟩
   ·obtain⟨q1,q2⟩:=h.2 h0
    have hpos:0<rows2.length:=qS.2 h0
    refine grow K none 0 0 [] #[] rfl rfl (by simp[RowsIn]) (by simp) rfl (by omega) (by simpa using q1) (by simpa using q2)
  all_goals first|(rename_i heq;cases heq;done)|exact h.elim
 case isl s' es f=>
  obtain⟨rfl,hk0,hk1⟩:=h
  obtain⟨ad,cap,rfl,hcap,hfull,_⟩:=hx.isl_inv
  by_cases h0:rows2=[]
  ·obtain⟨w',q1,rfl⟩:=nothing h0 ad es.length cap rfl hcap
   exact⟨_,_,q1,_,_,_,_,_,hk0 h0,hI,hx,refl⟩
  ·obtain⟨q0,q1,q2⟩:=hk1 h0
   have hpos:0<rows2.length:=qS.2 h0
   obtain⟨_,hread1⟩:=vu (P:=P) hId hs (hx.of_heap hwd) (p:=s'=s') (rows:=es) rfl rfl
   obtain⟨a1,e1,e2,_,e4,_⟩:=hread1 es.length (p9 _)
   rw[qJ] at e4
   exact grow K ad es.length cap es a1 rfl e1 (e4.of_heap hwd.symm) e2 rfl (by have:=hfull q0;omega) q1 q2
 case msl id s' off len f=>
  split at h<;>try (exact h.elim)
  rename_i s'' es hbk
  obtain⟨e1,e2,hlen0,hk0,hk1⟩:=h
  have hs'':s'=s'':=e1.trans e2.symm
  obtain⟨ad,cap,rfl,hcap,hfull,hnil⟩:=hx.msl_inv
  by_cases h0:rows2=[]
  ·obtain⟨w',q1,rfl⟩:=nothing h0 ad len cap rfl hcap
   cases f with
   |true=>exact⟨_,_,q1,_,_,_,_,_,hk0 rfl h0,hI,hx,refl⟩
   |false=>
    obtain⟨_,q2⟩:=hk1 nofun
    simp only[pS,if_false] at q2
    subst h0
    subst e1
    subst e2
    obtain⟨cl,hcl,hB⟩:=hI.blocks id _ hbk
    obtain⟨hcs,pA,p3,plo,p4,p5,p6⟩:=hB
    have hrl:((es.drop off).take len).length=len:=by simp;omega
    have hadd:(off+len)*s''=off*s''+len*s'':=pG _ _ _
    have hle:(off+len)*s''≤es.length*s'':=pJ _ hlen0
    obtain⟨I',z1,z2⟩:=zbf hI (off:=off) hbk hcl (Chg.refl w' _) (fun he=>.inl (by rw[he];simp)) (es':=(es.drop off).take len++[]) (by rw[qF,hrl];omega)
     (fun i r hi=>by
      rw[qF,List.getElem?_take] at hi
      split at hi
      ·rw[qL] at hi;exact p5 _ r hi
      ·cases hi)
     (fun i r j z hi hj=>by
      rw[qF,List.getElem?_take] at hi
      split at hi
      ·rw[qL] at hi
       obtain⟨v,g1,g2,g3⟩:=p6 (off+i) r j z hi hj
       rw[pG] at g1
       exact⟨v,by rw[←g1];congr 2;omega,g2,g3⟩
      ·cases hi)
    refine⟨_,w',q1,_,_,_,_,_,q2,z1,?_,z2⟩
    cases hx with
    |imm _ _ hx=>cases hx
    |msl _ _ _ _ _ _ _ hbn _ _ hpp=>
     refine .msl _ _ _ _ _ _ _ (pK n) ⟨hcap,by assumption⟩ (fun h=>by cases h) fun d hd=>?_
     rw[qr] at hd
     simp only[p7] at hd
     subst hd
     refine⟨rfl,fun hcz=>?_⟩
     obtain⟨_,hpp2⟩:=hpp cl hcl
     obtain⟨r1,r2⟩:=hpp2 hcz
     have hadd2:(off+cap)*s''=off*s''+cap*s'':=pG _ _ _
     exact⟨by rw[r1];simp,by simp only[qB];omega⟩
  ·obtain⟨q1,q2⟩:=hk1 fun _=>h0
   have hpos:0<rows2.length:=qS.2 h0
   have hro:ui H s (.msl id s' off len f)=some (s'=s∧s''=s∧off+len≤es.length,(es.drop off).take len):=by simp only[ui,hbk]
   have hrl:((es.drop off).take len).length=len:=by simp;omega
   obtain⟨_,hread1⟩:=vu (P:=P) hId hs (hx.of_heap hwd) hro ⟨e1,e2,hlen0⟩
   obtain⟨a1,k1,k2,_,k4,_⟩:=hread1 ((es.drop off).take len).length (p9 _)
   rw[qJ] at k4
   rw[hrl] at k1 k2
   by_cases hin:len+rows2.length≤cap
   ·-- in place
    have hcz:cap≠0:=by omega
    have hf:f=false:=by
     cases f with
     |false=>rfl
     |true=>have:=hfull rfl;omega
    subst hf
    simp only[pS,if_false] at q2
    subst e1
    subst e2
    obtain⟨cl,hcl,hB⟩:=hI.blocks id _ hbk
    have hB0:=hB
    obtain⟨hcs,pA,p3,plo,p4,p5,p6⟩:=hB
    have hx0:=hx
    cases hx with
    |imm _ _ hx=>cases hx
    |msl _ _ _ _ _ _ _ hbn _ _ hpp=>
     obtain⟨_,hpp2⟩:=hpp cl hcl
     obtain⟨r1,r2⟩:=hpp2 hcz
     subst r1
     obtain⟨arr,el,fr,p1,p2⟩:∃arr el fr,w.heap[cl.blk]?=some (.cells arr el fr)∧cl.size≤arr.size∧(cl.lo<cl.size→cl.lo=0∧cl.size=arr.size∧EndOk cl.s arr fr):=by
      rcases pA with pA|⟨_,z2,_⟩
      ·exact pA
      ·have:0<(off+cap)*s'':=Nat.mul_pos (by omega) hs
       omega
     have hadd:(off+cap)*s''=off*s''+cap*s'':=pG _ _ _
     have hle:(len+rows2.length)*s''≤cap*s'':=pJ _ hin
     have hadd2:(len+rows2.length)*s''=len*s''+rows2.length*s'':=pG _ _ _
     obtain⟨w',t1,t2,_,t4⟩:=vq (P:=P) (vs:=a2.toList) (w:=w) (b:=cl.blk) (o:=cl.base+off*s''+len*s'')
      (fun j hj=>by
       simp only[pI,f2s] at hj
       have hlt:cl.base+off*s''+len*s''+j<arr.size:=by omega
       exact⟨arr[cl.base+off*s''+len*s''+j],by unfold qT;simp[p1,hlt]⟩)
      (fun j hj=>by
       simp only[pI,f2s] at hj
       exact p3 _ (by omega) (by omega)) f2c
     simp only[pI,f2s] at t2 t4
     have hblk:cl.blk<w.heap.size:=by
      rcases pD cl.blk w.heap.size with h|h
      ·exact h
      ·rw[pF h] at p1;cases p1
     have t3:∀k,k<cl.base+off*s''+len*s''→w'.cell? ⟨cl.blk,k,none⟩=w.cell? ⟨cl.blk,k,none⟩:=fun k hk=>t2.cell cl.blk k hblk (fun h=>by omega)
     obtain⟨I',z1,z2⟩:=zbf hI (off:=off) hbk hcl (t2.mono (fun b' k h=>⟨h.1.symm,by omega,by omega⟩)) (fun _=>.inr ⟨arr,el,fr,p1,p2⟩) (es':=(es.drop off).take len++rows2) (by rw[pL,hrl];omega)
      (fun i r hi=>by
       rw[pM] at hi
       split at hi
       ·rw[List.getElem?_take] at hi
        split at hi
        ·rw[qL] at hi;exact p5 _ r hi
        ·cases hi
       ·exact f2r.2.1 _ r hi)
      (fun i r j z hi hj=>by
       rw[pM] at hi
       split at hi
       ·rename_i hlt
        rw[hrl] at hlt
        rw[q7 hlt,qL] at hi
        obtain⟨v,g1,g2,g3⟩:=p6 (off+i) r j z hi hj
        have hjl:j<s'':=by
         have:=p5 _ r hi
         rcases pD j r.length with h|h
         ·omega
         ·rw[pQ h] at hj;cases hj
        have:(i+1)*s''≤len*s'':=pJ _ hlt
        rw[pG] at this g1
        exact⟨v,by rw[t3 _ (by omega),←g1];congr 2;omega,g2,g3⟩
       ·rename_i hge
        rw[hrl] at hge hi
        obtain⟨v,g1,g2,g3⟩:=f2r.2.2 (i-len) r j z hi hj
        have hlt:0+(i-len)*s''+j<a2.size:=by
         rcases pD (0+(i-len)*s''+j) a2.size with h|h
         ·exact h
         ·rw[pF h] at g1;cases g1
        have hh:=t4 ((i-len)*s''+j) (by omega)
        rw[pR,show(i-len)*s''+j=0+(i-len)*s''+j by omega,g1] at hh
        have e3:i*s''=len*s''+(i-len)*s'':=by rw[←pG];congr 1;omega
        exact⟨v,by rw[←hh];congr 2;omega,g2,g3⟩)
     refine⟨.slice (some ⟨cl.blk,cl.base+off*s'',none⟩) (len+rows2.length) cap,w',?_,_,_,_,_,_,q2,z1,?_,z2⟩
     ·rcases hu with⟨c',hu⟩|hu
      all_goals
       unfold Builtin.append_
       simp only[pY,pN,pV,pE,za ht,za hu,pB,yu hsz,pH,hly,pS,if_false,Bool.not_false,if_true]
       rw[if_pos hin]
       simp only[pE,f2,pB,xg,t1,pH]
     ·refine .msl _ _ _ _ _ _ _ (pK n) ⟨hin,nofun⟩ (fun h=>by cases h) fun d hd=>?_
      rw[qr] at hd
      simp only[p7] at hd
      subst hd
      exact⟨rfl,fun _=>⟨by simp,by simp only[qB];omega⟩⟩
   ·-- a new block
    cases f with
    |true=>exact grow K ad len cap _ a1 rfl k1 (k4.of_heap hwd.symm) k2 hrl (by omega) q1 (by simpa using q2)
    |false=>
     simp only[pS,if_false] at q2
     obtain⟨v,w',z1,r,H',n',I',β',z2,z3,z4,z5⟩:=grow (fun r H' n'=>r=.msl (n,0) s 0 (len+rows2.length) false∧H'=((n,0),.rows s ((es.drop off).take len++rows2))::H∧n'=n+1) ad len cap _ a1 rfl k1 (k4.of_heap hwd.symm) k2 hrl (by omega) q1 ⟨rfl,rfl,rfl⟩
     obtain⟨rfl,rfl,rfl⟩:=z2
     have hsub:∀k blk,AHeap.get (((n,0),.rows s ((es.drop off).take len++rows2))::H.del id) k=some blk→AHeap.get (((n,0),.rows s ((es.drop off).take len++rows2))::H) k=some blk:=by
      intro k blk hk
      by_cases hnk:(n,0)=k
      ·subst hnk;rw[AHeap.get_cons_same] at hk ⊢;exact hk
      ·rw[AHeap.get_cons_other _ _ hnk,AHeap.get_del] at hk
       rw[AHeap.get_cons_other _ _ hnk]
       split at hk
       ·cases hk
       ·exact hk
     exact⟨v,w',z1,_,_,_,I',β',q2,z3.sub hsub,z4,z5.sub hsub⟩
end
end Go.Fx
namespace Go.Fx
variable {P:Program}
section
variable {I:Nat→Nat→Prop} {β:Id→Option CLoc} {n:Nat} {H:AHeap} {w:World} {e:Env} {a:Act}
theorem z0s{s:Nat}{es1 es2:List (List AVal)}{a1 a2 a3:Array Value}(h1:RowsInI I w s 0 es1 a1)(h2:RowsInI I w s 0 es2 a2)(hs:a1.size=es1.length*s):RowsInI I w s 0 (es1++es2) (a1++a2++a3):=by
 obtain⟨p1,p2,p3⟩:=h1
 obtain⟨q1,q2,q3⟩:=h2
 refine⟨by simp only[pL,Array.size_append,pG] at *;omega,?_,?_⟩
 ·intro i r hi
  rw[pM] at hi
  split at hi
  ·exact p2 i r hi
  ·exact q2 _ r hi
 ·intro i r j x hi hj
  rw[pM] at hi
  split at hi
  ·rename_i hlt
   obtain⟨v,g1,g2,g3⟩:=p3 i r j x hi hj
   refine⟨v,?_,g2,g3⟩
   have:0+i*s+j<a1.size:=by
    rcases pD (0+i*s+j) a1.size with h|h
    ·exact h
    ·rw[pF h] at g1;cases g1
   rw[Array.append_assoc,q8 this];exact g1
  ·rename_i hge
   obtain⟨v,g1,g2,g3⟩:=q3 _ r j x hi hj
   refine⟨v,?_,g2,g3⟩
   have hlt:0+(i-es1.length)*s+j<a2.size:=by
    rcases pD (0+(i-es1.length)*s+j) a2.size with h|h
    ·exact h
    ·rw[pF h] at g1;cases g1
   have e1:i*s=es1.length*s+(i-es1.length)*s:=by rw[←pG];congr 1;omega
   rw[Array.append_assoc,Array.getElem?_append_right (by omega),q8 (by omega),←g1]
   congr 1;omega
theorem zf9{y:AVal}{rows rows':List (List AVal)}(h:Vs y rows=some rows'):rows'.length=rows.length:=by
 unfold Vs at h
 split at h
 ·exact(Yl h).1
 ·simp only[p7] at h;rw[h]
theorem zlh{s:Nat}{es:List (List AVal)}{f:Bool}{ad:Addr}{cap:Nat}(h:RepI I w (.isl s es f) (.slice (some ad) es.length cap)) :
 (∀ (i:Nat) (r:List AVal),es[i]?=some r→r.length=s)∧∃vf:Nat→Nat→Value,∀ (i:Nat) (r:List AVal) (j:Nat) (x:AVal),es[i]?=some r→r[j]?=some x →
  I ad.block (ad.off+i*s+j)∧w.cell? ⟨ad.block,ad.off+i*s+j,none⟩=some (vf i j)∧qm (vf i j)=true∧RepI I w x (vf i j):=by
 cases h with
 |islEmpty=>exact⟨fun i r h=>by simp at h,fun _ _=>undef,fun i r j x h=>by simp at h⟩
 |isl _ _ _ b o cap vf h1 h2 h3 h4 h5 h6 h7=>exact⟨h4,vf,fun i r j x hi hj=>⟨h1 i r j x hi hj,h5 i r j x hi hj,h6 i r j x hi hj,h7 i r j x hi hj⟩⟩
theorem z3n(hI:Inv I β n H w)(s:Nat):Inv I (upd β (n,0) (some ⟨0,0,0,0,s⟩)) (n+1) (((n,0),.tok)::H) w∧Ext I β n H w I (upd β (n,0) (some ⟨0,0,0,0,s⟩)) (n+1) (((n,0),.tok)::H) w:=by
 have none0:∀b k,¬(⟨0,0,0,0,s⟩:CLoc).has b k:=fun b k h=>by have:=h.2.2;simp at this
 refine wk hI (Chg.refl w (fun _ _=>False)) (qK n) (fun _ _ h=>h.elim) (fun _ _ h=>h) (fun _ _ h h'=>absurd h h') (fun id hid=>.inl (ze _ _ (vn hid))) ?_ ?_ ?_ (fun _ _ _ _ _ _ h=>h) ?_ ?_
 ·intro id c b k hid hc hk
  rcases j6 hc hI.fresh with⟨_,rfl⟩|⟨h,_⟩
  ·exact absurd hk (none0 b k)
  ·omega
 ·intro id hid
  rw[ze _ _ (fun h=>by subst h;exact absurd hid (qC n))]
  exact hI.fresh id (by omega)
 ·intro i j c d b k hi hj hc hd hj'
  rcases j6 hj hI.fresh with⟨_,rfl⟩|⟨h,_⟩
  ·exact absurd hd (none0 b k)
  ·omega
 ·intro id hid hg
  rwa [AHeap.get_cons_other _ _ (vn hid).symm] at hg
 ·intro id blk hid
  by_cases h:(n,0)=id
  ·subst h
   rw[AHeap.get_cons_same] at hid
   simp only[p7] at hid
   subst hid
   exact .inr ⟨_,qr _ _ _,fun k _ h2=>absurd h2 (Nat.not_lt_zero k)⟩
  ·rw[AHeap.get_cons_other _ _ h] at hid
   exact .inl ⟨hid,ze _ _ (fun h'=>h h'.symm),fun _ _ _ _ _ h=>h⟩
theorem zhv(hI:Inv I β n H w){K:AVal→AHeap→Nat→Prop}{t u c rt:TypeId}{s b:Nat}{zs:List AVal}(ht:P.underlying t=some (.slice c))(hu:(∃c',P.underlying u=some (.slice c'))∨P.underlying u=some .string)(hz:xf P c=some zs)(hsz:xl P c=some s)(hby:Zk P c=some b)(hs:0<s)(hb:0<b)
 {x y:AVal} {vx vy:Value} (hx:Rep I β n w x vx) (hy:Rep I β n w y vy) {p:Prop} {rows2 rows2':List (List AVal)} (hr:ui H s y=some (p,rows2)) (hp:p) (him:Vs y rows2=some rows2') (h:z4z s b H n K x rows2') :
 ∃v w',(Builtin.append_ #[t,u] rt #[vx,vy]).run P w=.ok v w'∧Goes I β n H w K v w':=by
 let wd:World:={ w with drawn:=w.drawn+1 }
 have hwd:wd.heap=w.heap:=rfl
 have hId:Inv I β n H wd:=hI.of_heap hwd
 have hl2:rows2'.length=rows2.length:=zf9 him
 obtain⟨hly,hread⟩:=vu (P:=P) hI hs hy hr hp
 obtain⟨a2,f2,f2s,f2c,_,f2r⟩:=hread rows2.length (p9 _)
 obtain⟨_,hreadd⟩:=vu (P:=P) hId hs (hy.of_heap hwd) hr hp
 obtain⟨a2d,g2,g2s,g2c,_,g2r⟩:=hreadd rows2.length (p9 _)
 have f2r:=f2r rows2' him
 have g2r:=g2r rows2' him
 rw[←hl2,qJ] at f2r g2r
 rw[←hl2] at hly f2 f2s g2 g2s
 -- in place: the run
 have place:∀ (base:Option Addr) (len cap:Nat) (w':World),vx=.slice base len cap→len+rows2'.length≤cap→(match base with|some ad=>(storeCells (ad.add (len*s)) a2.toList 0).run P w=.ok () w'|none=>a2=#[]∧w'=w) →
  (Builtin.append_ #[t,u] rt #[vx,vy]).run P w=.ok (.slice base (len+rows2'.length) cap) w':=by
  intro base len cap w' hv hc hst
  rcases hu with⟨c',hu⟩|hu
  all_goals
   unfold Builtin.append_
   simp only[pY,pN,pV,pE,za ht,za hu,pB,yu hsz,pH,hly,hv,pS,if_false,Bool.not_false,if_true]
   rw[if_pos hc]
   simp only[pE,f2,pB]
   cases base with
   |none=>obtain⟨rfl,rfl⟩:=hst;simp
   |some ad=>simp only at hst;simp only[hst,pB,pE,pH]
 -- a new block
 have grow:∀ (H2:AHeap) (base:Option Addr) (len cap:Nat) (es1:List (List AVal)) (a1:Array Value),(∀id blk,H2.get id=some blk→H.get id=some blk)→vx=.slice base len cap→(Builtin.firstCells s len (.slice base len cap)).run P wd=.ok a1 wd→RowsInI I w s 0 es1 a1→a1.size=len*s→es1.length=len →
  cap<len+rows2'.length→(len+rows2'.length)*b≤140737488355328→K (.osl (n,0) s (es1++rows2')) (((n,0),.tok)::H2) (n+1) →
  ∃v w',(Builtin.append_ #[t,u] rt #[vx,vy]).run P w=.ok v w'∧Goes I β n H w K v w':=by
  intro H2 base len cap es1 a1 hH2 hv h1 hr1 hs1 hl hcap hby2 hk
  subst hv
  obtain⟨m,w',a3,k1,k2,k3,k4⟩:=z3k (P:=P) (rt:=rt) ht hu hz hsz hby hb (wd:=wd) rfl hly h1 g2 hcap hby2 hs1 g2s
  obtain⟨I',β',q1,q2,q3,q4,_⟩:=z2p (H2:=H2) hI k3 (fun k h=>uq k _ h) (z0s hr1 (g2r.of_heap hwd.symm) (by rw[hs1,hl])) true hH2
  simp only[if_true] at q1 q2
  have hlen:(es1++rows2').length=len+rows2'.length:=by rw[pL,hl]
  refine⟨_,w',k1,_,_,_,_,_,hk,q1,?_,q2⟩
  have hrep:=q4 m false (by rw[hlen];exact k2) (fun h=>by cases h)
  rw[hlen] at hrep
  refine .osl _ _ _ _ (pK n) hrep ?_
  intro d hd ad cap' he
  rw[q3 rfl] at hd
  simp only[p7] at hd
  subst hd
  simp only[qU,p7] at he
  obtain⟨rfl,_,rfl⟩:=he
  right
  exact⟨rfl,rfl,by simp,by simp only[qB];rw[k4];exact p9 _⟩
 -- nothing appended: an empty token
 have keep0:∀ (es:List (List AVal)),rows2'=[]→(∃base cap,vx=.slice base es.length cap∧es.length≤cap)→RepI I w (.isl s es false) vx→(∀ad cap,vx=.slice (some ad) es.length cap→cap=es.length)→K (.osl (n,0) s es) (((n,0),.tok)::H) (n+1) →
  ∃v w',(Builtin.append_ #[t,u] rt #[vx,vy]).run P w=.ok v w'∧Goes I β n H w K v w':=by
  intro es h0 ⟨base,cap,hv,hc⟩ hRI hfull hk
  have ha2:a2=#[]:=by
   have:a2.size=0:=by rw[f2s,h0];simp
   exact pT.1 this
  obtain⟨q1,q2⟩:=z3n hI s
  refine⟨vx,w,?_,_,_,_,_,_,hk,q1,?_,q2⟩
  ·have:=place base es.length cap w hv (by rw[h0];simpa using hc) (by
    cases base with
    |none=>exact⟨ha2,rfl⟩
    |some ad=>subst ha2;simp[storeCells])
   rw[h0] at this
   rw[this,hv];simp
  ·refine .osl _ _ _ _ (pK n) hRI ?_
   intro d _ ad cap' he
   exact .inl (hfull ad cap' he)
 cases x<;>simp only[z4z] at h<;>try (exact h.elim)
 case val uu=>
  split at h
  ·rename_i heq
   cases heq
   obtain rfl:=hx.val_inv
   obtain⟨q1,q2⟩:=h
   by_cases h0:rows2'=[]
   ·refine keep0 [] h0 ⟨none,0,rfl,p9 _⟩ (.islNil _ _) (fun ad cap he=>by simp at he) (by rw[h0] at q2;exact q2)
   ·have hpos:0<rows2'.length:=qS.2 h0
    exact grow H none 0 0 [] #[] (fun _ _ h=>h) rfl rfl (by simp[RowsInI]) (by simp) rfl (by omega) (by simpa using q1) (by simpa using q2)
  all_goals first|(rename_i heq;cases heq;done)|exact h.elim
 case isl s' es f=>
  obtain⟨rfl,hf,q1,q2⟩:=h
  have hxI:RepI I w (.isl s' es f) vx:=by cases hx;assumption
  obtain⟨ad,cap,rfl,hcap,hfull,_⟩:=hx.isl_inv
  have hce:=hfull hf
  have hxI0:RepI I w (.isl s' es false) (.slice ad es.length cap):=by
   cases hxI with
   |islNil=>exact .islNil _ _
   |islEmpty _ _ a _ h=>exact .islEmpty _ _ _ _ (fun h=>by cases h)
   |isl _ _ _ b o cap vf h1 h2 h3 h4 h5 h6 h7=>exact .isl _ _ _ b o cap vf h1 h2 (fun h=>by cases h) h4 h5 h6 h7
  by_cases h0:rows2'=[]
  ·refine keep0 es h0 ⟨ad,cap,rfl,hcap⟩ hxI0 (fun ad cap he=>by simp only[qU] at he;rw[←he.2.2];exact hce) (by rw[h0,qF] at q2;exact q2)
  ·have hpos:0<rows2'.length:=qS.2 h0
   obtain⟨_,hread1⟩:=vu (P:=P) hId hs (hx.of_heap hwd) (p:=s'=s') (rows:=es) rfl rfl
   obtain⟨a1,e1,e2,_,_,e4⟩:=hread1 es.length (p9 _)
   have e4:=e4 es rfl
   rw[qJ] at e4
   exact grow H ad es.length cap es a1 (fun _ _ h=>h) rfl e1 (e4.of_heap hwd.symm) e2 rfl (by omega) q1 q2
 case osl tok s' es=>
  obtain⟨rfl,htk,q1,q2⟩:=h
  have hx0:=hx
  cases hx with
  |imm _ _ hx=>cases hx
  |osl _ _ _ _ htn hxI hcond=>
  obtain⟨ad,cap,rfl,hcap,_,hne⟩:=(Rep.imm (β:=β) (n:=n) _ _ hxI).isl_inv
  obtain⟨cl,hcl,hB⟩:=hI.blocks tok _ htk
  have hdel:∀id blk,(H.del tok).get id=some blk→H.get id=some blk:=fun id blk hh=>by
   rw[AHeap.get_del] at hh
   split at hh
   ·cases hh
   ·exact hh
  by_cases hin:es.length+rows2'.length≤cap
  ·cases ad with
   |none=>
    -- nil: nothing is appended
    have hes:es=[]:=by
     by_cases h:es=[]
     ·exact h
     ·exact absurd rfl (hne h)
    subst hes
    have hc0:cap=0:=by cases hxI;rfl
    have h0:rows2'=[]:=qH.1 (by omega)
    have:=keep0 [] h0 ⟨none,cap,rfl,Nat.zero_le _⟩ (by rw[hc0] at hxI ⊢;exact .islNil _ _) (fun ad cap he=>by simp at he)
    -- the old token is dropped
    obtain⟨z1,z2⟩:=z3n hI s'
    have hsub:∀id blk,AHeap.get (((n,0),.tok)::H.del tok) id=some blk→AHeap.get (((n,0),.tok)::H) id=some blk:=by
     intro id blk hh
     by_cases hn:(n,0)=id
     ·subst hn;rw[AHeap.get_cons_same] at hh ⊢;exact hh
     ·rw[AHeap.get_cons_other _ _ hn] at hh ⊢;exact hdel id blk hh
    have ha2:a2=#[]:=by
     have:a2.size=0:=by rw[f2s,h0];simp
     exact pT.1 this
    refine⟨.slice none 0 cap,w,?_,_,_,_,_,_,q2,z1.sub hsub,?_,z2.sub hsub⟩
    ·have:=place none 0 cap w rfl (by rw[h0];simp) ⟨ha2,rfl⟩
     rw[h0] at this
     simpa using this
    ·rw[h0,qF]
     refine .osl _ _ _ _ (pK n) (by rw[hc0];exact .islNil _ _) ?_
     intro d _ ad cap' he
     simp at he
   |some ad=>
    obtain⟨hrl,vf,hvf⟩:=zlh hxI
    rcases hcond cl hcl ad cap rfl with hce|⟨sp,hblk,hlo,hhi⟩
    ·-- full: nothing is appended
     have h0:rows2'=[]:=qH.1 (by omega)
     obtain⟨z1,z2⟩:=z3n hI s'
     have hsub:∀id blk,AHeap.get (((n,0),.tok)::H.del tok) id=some blk→AHeap.get (((n,0),.tok)::H) id=some blk:=by
      intro id blk hh
      by_cases hn:(n,0)=id
      ·subst hn;rw[AHeap.get_cons_same] at hh ⊢;exact hh
      ·rw[AHeap.get_cons_other _ _ hn] at hh ⊢;exact hdel id blk hh
     have ha2:a2=#[]:=by
      have:a2.size=0:=by rw[f2s,h0];simp
      exact pT.1 this
     refine⟨.slice (some ad) es.length cap,w,?_,_,_,_,_,_,q2,z1.sub hsub,?_,z2.sub hsub⟩
     ·have:=place (some ad) es.length cap w rfl (by rw[h0];simpa using hcap) (by subst ha2;simp[storeCells])
      rw[h0] at this
      simpa using this
     ·rw[h0,qF]
      refine .osl _ _ _ _ (pK n) hxI ?_
      intro d _ ad' cap' he
      simp only[qU] at he
      exact .inl (by rw[←he.2.2];exact hce)
    ·-- in place
     obtain⟨bb,oo,spt⟩:=ad
     simp only at sp hblk hlo hhi hvf
     subst sp
     subst hblk
     have hle:(es.length+rows2'.length)*s'≤cap*s':=pJ _ hin
     rw[pG] at hle
     obtain⟨w',t1,t2,t3,t4⟩:=vq (P:=P) (vs:=a2.toList) (w:=w) (b:=cl.blk) (o:=oo+es.length*s')
      (fun j hj=>by
       simp only[pI,f2s] at hj
       exact(hB _ (by omega) (by omega)).1)
      (fun j hj=>by
       simp only[pI,f2s] at hj
       exact(hB _ (by omega) (by omega)).2) f2c
     simp only[pI,f2s] at t2 t4
     have t2':Chg w w' cl.has:=t2.mono (fun b' k h=>⟨h.1.symm,by omega,by omega⟩)
     obtain⟨z1,z2⟩:=z32 (c2:=⟨cl.blk,cl.lo+rows2'.length*s',cl.size,0,s'⟩) (blk2:=.tok) (J:=fun b k=>b=cl.blk∧cl.lo≤k∧k<cl.lo+rows2'.length*s') hI (by rw[htk];simp) hcl t2'
      (fun b k h=>⟨h.1,by have:=h.2.1;simp only at this;omega,h.2.2⟩)
      (fun b' k h=>by
       obtain⟨rfl,h1,h2⟩:=h
       refine⟨⟨rfl,h1,by omega⟩,fun h'=>by have:=h'.2.1;simp only at this;omega,?_⟩
       have:=t4 (k-cl.lo) (by omega)
       rw[show oo+es.length*s'+(k-cl.lo)=k by omega] at this
       exact⟨a2[k-cl.lo]'(by omega),by rw[this];simp[pC (show k-cl.lo<a2.size by omega)]⟩)
      (fun k h1 h2=>by
       simp only at h1 h2
       obtain⟨⟨v,hv⟩,hfz⟩:=hB k (by omega) h2
       refine⟨⟨v,?_⟩,?_⟩
       ·rw[t2.cell cl.blk k (ve hv) (fun h=>by omega)];exact hv
       ·rw[t2'.frozen hv];exact hfz)
     have hcI:∀b k,I b k→w'.cell? ⟨b,k,none⟩=w.cell? ⟨b,k,none⟩:=fun b' k hbk=>by
      obtain⟨v,hv⟩:=hI.imm b' k hbk
      exact t2'.cell b' k (ve hv) (fun h=>(hI.own tok cl b' k hcl h).1 hbk)
     have up:∀ {x v},RepI I w x v→RepI (fun b k=>I b k∨(b=cl.blk∧cl.lo≤k∧k<cl.lo+rows2'.length*s')) w' x v:=fun h=>h.mono (fun _ _ h=>.inl h) hcI
     have hlen:(es++rows2').length=es.length+rows2'.length:=pL
     -- the cells of the new slice
     have key:∀ (i:Nat) (r:List AVal) (j:Nat) (x:AVal),(es++rows2')[i]?=some r→r[j]?=some x→∃v,(I cl.blk (oo+i*s'+j)∨(cl.blk=cl.blk∧cl.lo≤oo+i*s'+j∧oo+i*s'+j<cl.lo+rows2'.length*s')) ∧
      w'.cell? ⟨cl.blk,oo+i*s'+j,none⟩=some v∧qm v=true∧RepI (fun b k=>I b k∨(b=cl.blk∧cl.lo≤k∧k<cl.lo+rows2'.length*s')) w' x v:=by
      intro i r j x hi hj
      rw[pM] at hi
      split at hi
      ·obtain⟨h1,h2,h3,h4⟩:=hvf i r j x hi hj
       exact⟨_,.inl h1,by rw[hcI _ _ h1];exact h2,h3,up h4⟩
      ·rename_i hge
       obtain⟨v,h1,h2,h3⟩:=f2r.2.2 (i-es.length) r j x hi hj
       have hrow:=zb3 f2r.2.1 hi hj
       have hib:i*s'=es.length*s'+(i-es.length)*s':=by rw[←pG];congr 1;omega
       have:=t4 ((i-es.length)*s'+j) hrow
       rw[pR,show(i-es.length)*s'+j=0+(i-es.length)*s'+j by omega,h1] at this
       exact⟨v,.inr ⟨rfl,by omega,by omega⟩,by rw[←this];congr 2;omega,h2,up h3⟩
     refine⟨.slice (some ⟨cl.blk,oo,none⟩) (es.length+rows2'.length) cap,w',place (some ⟨cl.blk,oo,none⟩) es.length cap w' rfl hin (by simp only[xg];exact t1),_,_,_,_,_,q2,z1,?_,z2⟩
     refine .osl _ _ _ _ (pK n) ?_ ?_
     ·have:=RepI.isl (I:=fun b k=>I b k∨(b=cl.blk∧cl.lo≤k∧k<cl.lo+rows2'.length*s')) (w:=w') s' (es++rows2') false cl.blk oo cap (fun i j=>(w'.cell? ⟨cl.blk,oo+i*s'+j,none⟩).getD undef)
       (fun i r j x hi hj=>by obtain⟨v,h1,_⟩:=key i r j x hi hj;exact h1) (by rw[hlen];exact hin) (fun h=>by cases h)
       (fun i r hi=>by
        rw[pM] at hi
        split at hi
        ·exact hrl i r hi
        ·exact f2r.2.1 _ r hi)
       (fun i r j x hi hj=>by obtain⟨v,_,h2,_⟩:=key i r j x hi hj;rw[h2];rfl)
       (fun i r j x hi hj=>by obtain⟨v,_,h2,h3,_⟩:=key i r j x hi hj;rw[h2];exact h3)
       (fun i r j x hi hj=>by obtain⟨v,_,h2,_,h4⟩:=key i r j x hi hj;rw[h2];exact h4)
      rw[hlen] at this
      exact this
     ·intro d hd ad' cap' he
      rw[qr] at hd
      simp only[p7] at hd
      subst hd
      simp only[qU,p7] at he
      obtain⟨rfl,_,rfl⟩:=he
      right
      refine⟨rfl,rfl,?_,hhi⟩
      simp only[hlen,pG];omega
  ·-- a new block
   obtain⟨_,hread1⟩:=vu (P:=P) hId hs (hx0.of_heap hwd) (p:=s'=s') (rows:=es) rfl rfl
   obtain⟨a1,e1,e2,_,_,e4⟩:=hread1 es.length (p9 _)
   have e4:=e4 es rfl
   rw[qJ] at e4
   exact grow (H.del tok) ad es.length cap es a1 hdel rfl e1 (e4.of_heap hwd.symm) e2 rfl (by omega) q1 q2
end
end Go.Fx
namespace Go.Fx
variable {P:Program}
section
variable {I:Nat→Nat→Prop} {β:Id→Option CLoc} {n:Nat} {H:AHeap} {w:World} {e:Env} {a:Act}
theorem z5y:∀ {ks:List CK} {cs ds:List AVal},ya ks cs ds=some true→cs=ds
 |[],[],[],_=>rfl
 |[],[],_::_,h=>by simp[ya] at h
 |[],_::_,_,h=>by simp[ya] at h
 |_::_,[],_,h=>by simp[ya] at h
 |_::_,_::_,[],h=>by simp[ya] at h
 |k::ks,x::xs,y::ys,h=>by
  simp only[ya] at h
  split at h<;>try (cases h;done)
  rename_i a b h1 h2
  simp only[p7,pZ] at h
  obtain⟨rfl,rfl⟩:=h
  rw[z5y h2]
  have:x=y:=by
   cases k<;>cases x<;>cases y<;>simp[Zp] at h1
   ·rw[h1]
   ·rw[h1.1,h1.2]
   ·rw[h1]
  rw[this]
theorem z2k:∀ {ks:List CK} {cs:List AVal} {b:Bool},ya ks cs cs=some b→∀ (i:Nat) (x:AVal),cs[i]?=some x→∃u,(∀ {v:Value},Rep I β n w x v→v=u)∧∀d,qR d u u=true
 |[],[],_,_,i,x,h=>by simp at h
 |[],_::_,_,h,_,_,_=>by simp[ya] at h
 |_::_,[],_,h,_,_,_=>by simp[ya] at h
 |k::ks,y::ys,b,h,i,x,hx=>by
  simp only[ya] at h
  split at h<;>try (cases h;done)
  rename_i a b' h1 h2
  cases i with
  |succ i=>exact z2k h2 i x (by simpa using hx)
  |zero=>
   simp only[pN,p7] at hx
   subst hx
   cases k<;>cases y<;>simp[Zp] at h1
   ·exact⟨_,fun h=>h.bool_inv,fun d=>by cases d<;>simp[qR]⟩
   ·exact⟨_,fun h=>h.int_inv,fun d=>by cases d<;>simp[qR]⟩
   ·exact⟨_,fun h=>h.str_inv,fun d=>by cases d<;>simp[qR,beq_toListBytes]⟩
theorem z41{k k':AVal}(h:vo k=vo k')(hc:qp k=qp k'):k=k':=by
 cases k<;>cases k'<;>simp[vo,qp] at h hc ⊢<;>try exact hc
theorem zix{ks:List CK}{ka:Bool}{k k':AVal}{v v':Value}(hok:Qv ks ka k=true)(he:Vy ks k k'=some true)(h:Rep I β n w k v)(h':RepI I w k' v'):v'=v∧(Instr.keyThatStays v' v).run P w=.ok v w:=by
 obtain⟨hag,hce⟩:=U1 he
 have hkk:k=k':=z41 hag.symm (z5y hce)
 subst hkk
 obtain⟨_,b,hb⟩:=Z2 hok
 have vv:v'=v∧qR 10000 v v=true:=by
  cases hk:vo k with
  |true=>
   obtain⟨cs,rfl⟩:∃cs,k=.agg cs:=by cases k<;>simp[vo] at hk;exact⟨_,rfl⟩
   obtain⟨vs,rfl,h1,h2,h3⟩:=h.agg_inv
   obtain⟨vs',rfl,h1',h2',h3'⟩:=(Rep.imm (β:=β) (n:=n) _ _ h').agg_inv
   simp only[qp] at hb
   have key:∀i (hi:i<vs.size) (hi':i<vs'.size),vs'[i]=vs[i]∧qR 9999 vs[i] vs[i]=true:=by
    intro i hi hi'
    have hlt:i<cs.length:=by omega
    obtain⟨u,hu,hs⟩:=z2k (I:=I) (β:=β) (n:=n) (w:=w) hb i cs[i] (pP hlt)
    have e1:=hu (h3 i _ _ (pP hlt) (pC hi))
    have e2:=hu (h3' i _ _ (pP hlt) (pC hi'))
    rw[e1,e2];exact⟨rfl,hs _⟩
   refine⟨?_,?_⟩
   ·congr 1
    refine Array.ext (by omega) (fun i h4 h5=>(key i h5 h4).1)
   ·simp only[qR,BEq.rfl,Bool.true_and,List.all_eq_true]
    rintro⟨x,y⟩ hxy
    obtain⟨i,hi⟩:=List.mem_iff_getElem?.1 hxy
    rw[List.getElem?_zip_eq_some] at hi
    obtain⟨e1,e2⟩:=hi
    rw[e1] at e2
    simp only[p7] at e2
    subst e2
    have hlt:i<vs.size:=by simpa using z7z e1
    have:=(key i hlt (by omega)).2
    have e3:vs[i]=x:=by
     rw[pR,pC hlt] at e1
     simpa using e1
    rw[←e3];exact this
  |false=>
   have hc:qp k=[k]:=by cases k<;>simp[vo] at hk<;>rfl
   rw[hc] at hb
   obtain⟨u,hu,hs⟩:=z2k (I:=I) (β:=β) (n:=n) (w:=w) hb 0 k rfl
   have e1:=hu h
   have e2:=hu (Rep.imm (β:=β) (n:=n) _ _ h')
   rw[e1,e2]
   exact⟨rfl,hs _⟩
 obtain⟨rfl,hs⟩:=vv
 refine⟨rfl,?_⟩
 unfold Instr.keyThatStays
 rw[if_pos hs]
 rfl
theorem zgo(hI:Inv I β n H w){b:Id}{c:CLoc}{es es':List (AVal×AVal)}{arr arr':Array MapEntry}{ck ck':Nat}(hb:H.get b=some (.amap es))(hc:β b=some c)(h0:c.lo=0)(h1:0<c.size)(hm:w.heap[c.blk]?=some (.map arr ck))(hin:MapIn I β n w es' arr' ck') :
 Inv I β n (H.set b (.amap es')) { w with heap:=w.heap.setIfInBounds c.blk (.map arr' ck') }∧Ext I β n H w I β n (H.set b (.amap es')) { w with heap:=w.heap.setIfInBounds c.blk (.map arr' ck') }:=by
 have hlt:c.blk<w.heap.size:=by
  rcases pD c.blk w.heap.size with h|h
  ·exact h
  ·rw[pF h] at hm;cases hm
 have hne:H.get b≠none:=by rw[hb];simp
 have hother:∀k,k≠c.blk→(w.heap.setIfInBounds c.blk (.map arr' ck'))[k]?=w.heap[k]?:=fun k hk=>by
  rw[Array.getElem?_setIfInBounds_ne (fun h=>hk h.symm)]
 have hsame:(w.heap.setIfInBounds c.blk (.map arr' ck'))[c.blk]?=some (.map arr' ck'):=by
  rw[Array.getElem?_setIfInBounds_self_of_lt hlt]
 have hcell:∀k j,({ w with heap:=w.heap.setIfInBounds c.blk (.map arr' ck') }:World).cell? ⟨k,j,none⟩=w.cell? ⟨k,j,none⟩:=by
  intro k j
  by_cases hk:k=c.blk
  ·subst hk
   unfold qT
   simp only[hsame,hm]
  ·exact cell?_of_heap (hother k hk)
 have hchg:Chg w { w with heap:=w.heap.setIfInBounds c.blk (.map arr' ck') } (fun k j=>k=c.blk∧j=0):=by
  refine⟨rfl,⟨rfl,fun _=>p9 _⟩,rfl,by simp,fun k _ hk=>hother k (fun h=>hk 0 ⟨h,rfl⟩),fun k j _ _=>hcell k j,fun k arr2 el fr hk=>?_,fun k es2 ck2 hk hn=>?_⟩
  ·have:k≠c.blk:=fun h=>by subst h;rw[hm] at hk;cases hk
   exact⟨arr2,by simp only;rw[hother k this];exact hk,rfl⟩
  ·simp only;rw[hother k (fun h=>hn ⟨h,rfl⟩)];exact hk
 have hhas:c.has c.blk 0:=⟨rfl,by omega,h1⟩
 refine wk hI hchg (p9 n) (fun b' k h=>⟨b,c,hc,hne,by obtain⟨rfl,rfl⟩:=h;exact hhas⟩) (fun _ _ h=>h) (fun _ _ h h'=>absurd h h') (fun id hid=>.inl rfl)
  (fun id d b' k hid hd _=>by rw[hI.fresh id hid] at hd;cases hd) hI.fresh (fun i j d d' b' k hi hj h h' _=>hI.inj i j d d' b' k hi hj h h') (fun _ _ _ _ _ _ h=>h) ?_ ?_
 ·intro t _ ht
  rw[AHeap.get_set] at ht
  split at ht
  ·intro h;rw[h] at ht;simp at ht
  ·exact ht
 ·intro id blk hid
  rw[AHeap.get_set] at hid
  by_cases h:b=id
  ·subst h
   rw[if_pos rfl,hb] at hid
   simp only[pU,p7] at hid
   subst hid
   refine .inr ⟨c,hc,h0,h1,arr',ck',hsame,hin.len,fun i k x m hi hx=>?_,hin.born,hin.clk⟩
   obtain⟨g1,g2⟩:=hin.ent i k x m hi hx
   exact⟨g1.mono (fun _ _ h=>h) (fun b k _=>hcell b k),g2.mono' (fun _ _ h=>h) (fun b k _=>hcell b k) (p9 n) (fun _ _ _ h=>h)⟩
  ·rw[if_neg h] at hid
   refine .inl ⟨hid,rfl,fun d b' k hd hk hk'=>h (hI.inj b id c d b' k hc hd (by obtain⟨rfl,rfl⟩:=hk';exact hhas) hk)⟩
theorem zc8(hI:Inv I β n H w) :
 Inv I (upd β (n,0) (some ⟨w.heap.size,0,1,0,0⟩)) (n+1) (((n,0),.amap [])::H) (w.alloc (.map #[] 0))∧Ext I β n H w I (upd β (n,0) (some ⟨w.heap.size,0,1,0,0⟩)) (n+1) (((n,0),.amap [])::H) (w.alloc (.map #[] 0)):=by
 have hp:Pushed w (w.alloc (.map #[] 0)) (.map #[] 0):=⟨rfl,⟨rfl,fun _=>p9 _⟩,rfl,rfl⟩
 have hsz:(w.alloc (.map #[] 0)).heap.size=w.heap.size+1:=by rw[hp.heap];simp
 refine wk hI hp.chg (qK n) (fun _ _ h=>h.elim) (fun _ _ h=>h) (fun _ _ h h'=>absurd h h') (fun id hid=>.inl (ze _ _ (vn hid))) ?_ ?_ ?_ (fun _ _ _ _ _ _ h=>h) ?_ ?_
 ·intro id c b k hid hc hk
  rcases j6 hc hI.fresh with⟨_,rfl⟩|⟨h,_⟩
  ·have hb:w.heap.size=b:=hk.1
   exact⟨by omega,.inl (by omega)⟩
  ·omega
 ·intro id hid
  rw[ze _ _ (fun h=>by subst h;exact absurd hid (qC n))]
  exact hI.fresh id (by omega)
 ·intro i j c d b k hi hj hc hd hj'
  rcases j6 hj hI.fresh with⟨rfl,rfl⟩|⟨h,_⟩
  ·rcases j6 hi hI.fresh with⟨rfl,_⟩|⟨_,h⟩
   ·rfl
   ·exact(Xu hI h hc (by rw[←hd.1];exact p9 _)).elim
  ·omega
 ·intro id hid hg
  rwa [AHeap.get_cons_other _ _ (vn hid).symm] at hg
 ·intro id blk hid
  by_cases h:(n,0)=id
  ·subst h
   rw[AHeap.get_cons_same] at hid
   simp only[p7] at hid
   subst hid
   exact .inr ⟨_,qr _ _ _,rfl,Nat.one_pos,#[],0,hp.new,rfl,fun i k x m hi _=>by simp at hi,fun i j m m' _ hi _=>by simp at hi,fun i m hi=>by simp at hi⟩
  ·rw[AHeap.get_cons_other _ _ h] at hid
   have hne:id≠(n,0):=fun h'=>h h'.symm
   exact .inl ⟨hid,ze _ _ hne,fun _ _ _ _ _ h=>h⟩
theorem z1k(hI:Inv I β n H w){o:Obj}{blk:ABlock}(hB:RepB I (upd β (n,0) (some ⟨w.heap.size,0,1,0,0⟩)) (n+1) (w.alloc o) ⟨w.heap.size,0,1,0,0⟩ blk) :
 Inv I (upd β (n,0) (some ⟨w.heap.size,0,1,0,0⟩)) (n+1) (((n,0),blk)::H) (w.alloc o)∧Ext I β n H w I (upd β (n,0) (some ⟨w.heap.size,0,1,0,0⟩)) (n+1) (((n,0),blk)::H) (w.alloc o):=by
 have hp:Pushed w (w.alloc o) o:=⟨rfl,⟨rfl,fun _=>p9 _⟩,rfl,rfl⟩
 have hsz:(w.alloc o).heap.size=w.heap.size+1:=by rw[hp.heap];simp
 refine wk hI hp.chg (qK n) (fun _ _ h=>h.elim) (fun _ _ h=>h) (fun _ _ h h'=>absurd h h') (fun id hid=>.inl (ze _ _ (vn hid))) ?_ ?_ ?_ (fun _ _ _ _ _ _ h=>h) ?_ ?_
 ·intro id c b k hid hc hk
  rcases j6 hc hI.fresh with⟨_,rfl⟩|⟨h,_⟩
  ·have hb:w.heap.size=b:=hk.1
   exact⟨by omega,.inl (by omega)⟩
  ·omega
 ·intro id hid
  rw[ze _ _ (fun h=>by subst h;exact absurd hid (qC n))]
  exact hI.fresh id (by omega)
 ·intro i j c d b k hi hj hc hd hj'
  rcases j6 hj hI.fresh with⟨rfl,rfl⟩|⟨h,_⟩
  ·rcases j6 hi hI.fresh with⟨rfl,_⟩|⟨_,h⟩
   ·rfl
   ·exact(Xu hI h hc (by rw[←hd.1];exact p9 _)).elim
  ·omega
 ·intro id hid hg
  rwa [AHeap.get_cons_other _ _ (vn hid).symm] at hg
 ·intro id blk' hid
  by_cases h:(n,0)=id
  ·subst h
   rw[AHeap.get_cons_same] at hid
   simp only[p7] at hid
   subst hid
   exact .inr ⟨_,qr _ _ _,hB⟩
  ·rw[AHeap.get_cons_other _ _ h] at hid
   have hne:id≠(n,0):=fun h'=>h h'.symm
   exact .inl ⟨hid,ze _ _ hne,fun _ _ _ _ _ h=>h⟩
theorem zjs(hI:Inv I β n H w){b:Id}{c:CLoc}{blk':ABlock}(hb:H.get b≠none)(hc:β b=some c)(hB:RepB I β n w c blk') :
 Inv I β n (H.set b blk') w∧Ext I β n H w I β n (H.set b blk') w:=by
 refine wk (Wr:=fun _ _=>False) hI ⟨rfl,⟨rfl,fun _=>p9 _⟩,rfl,p9 _,fun _ _ _=>rfl,fun _ _ _ _=>rfl,fun _ arr _ _ h=>⟨arr,h,rfl⟩,fun _ _ _ h _=>h⟩ (p9 n) (fun _ _ h=>h.elim) (fun _ _ h=>h) (fun _ _ h h'=>absurd h h') (fun id hid=>.inl rfl)
  (fun id d b' k hid hd _=>by rw[hI.fresh id hid] at hd;cases hd) hI.fresh (fun i j d d' b' k hi hj h h' _=>hI.inj i j d d' b' k hi hj h h') (fun _ _ _ _ _ _ h=>h) ?_ ?_
 ·intro t _ ht
  rw[AHeap.get_set] at ht
  split at ht
  ·intro h;rw[h] at ht;simp at ht
  ·exact ht
 ·intro id blk hid
  rw[AHeap.get_set] at hid
  by_cases h:b=id
  ·subst h
   rw[if_pos rfl] at hid
   obtain⟨_,_,rfl⟩:=p8.1 hid
   exact .inr ⟨c,hc,hB⟩
  ·rw[if_neg h] at hid
   exact .inl ⟨hid,rfl,fun d b' k _ _ hk'=>hk'⟩
theorem zqt(hI:Inv I β n H w){b:Id}{c:CLoc}{blk':ABlock}{o o':Obj}{w':World}(hb:H.get b≠none)(hc:β b=some c)(h0:c.lo=0)(h1:0<c.size)(hm:w.heap[c.blk]?=some o)(ho:zcu o=true)(ho':zcu o'=true)
 (hw1:w'.os=w.os) (hw2:TapeOk w w') (hw3:w'.output=w.output) (hw4:w'.heap=w.heap.setIfInBounds c.blk o') (hB:w'.heap[c.blk]?=some o'→(∀k j,w'.cell? ⟨k,j,none⟩=w.cell? ⟨k,j,none⟩)→RepB I β n w' c blk') :
 Inv I β n (H.set b blk') w'∧Ext I β n H w I β n (H.set b blk') w':=by
 have hlt:c.blk<w.heap.size:=by
  rcases pD c.blk w.heap.size with h|h
  ·exact h
  ·rw[pF h] at hm;cases hm
 have hother:∀k,k≠c.blk→w'.heap[k]?=w.heap[k]?:=fun k hk=>by
  rw[hw4,Array.getElem?_setIfInBounds_ne (fun h=>hk h.symm)]
 have hsame:w'.heap[c.blk]?=some o':=by
  rw[hw4,Array.getElem?_setIfInBounds_self_of_lt hlt]
 have hcell:∀k j,w'.cell? ⟨k,j,none⟩=w.cell? ⟨k,j,none⟩:=by
  intro k j
  by_cases hk:k=c.blk
  ·subst hk
   unfold qT
   simp only[hsame,hm]
   cases o<;>cases o'<;>first|rfl|(cases ho;done)|(cases ho';done)
  ·exact cell?_of_heap (hother k hk)
 have hchg:Chg w w' (fun k j=>k=c.blk∧j=0):=by
  refine⟨hw1,hw2,hw3,by rw[hw4];simp,fun k _ hk=>hother k (fun h=>hk 0 ⟨h,rfl⟩),fun k j _ _=>hcell k j,fun k arr2 el fr hk=>?_,fun k es2 ck2 hk hn=>?_⟩
  ·have:k≠c.blk:=fun h=>by subst h;rw[hm] at hk;simp only[p7] at hk;subst hk;cases ho
   exact⟨arr2,by rw[hother k this];exact hk,rfl⟩
  ·rw[hother k (fun h=>hn ⟨h,rfl⟩)];exact hk
 have hhas:c.has c.blk 0:=⟨rfl,by omega,h1⟩
 refine wk hI hchg (p9 n) (fun b' k h=>⟨b,c,hc,hb,by obtain⟨rfl,rfl⟩:=h;exact hhas⟩) (fun _ _ h=>h) (fun _ _ h h'=>absurd h h') (fun id hid=>.inl rfl)
  (fun id d b' k hid hd _=>by rw[hI.fresh id hid] at hd;cases hd) hI.fresh (fun i j d d' b' k hi hj h h' _=>hI.inj i j d d' b' k hi hj h h') (fun _ _ _ _ _ _ h=>h) ?_ ?_
 ·intro t _ ht
  rw[AHeap.get_set] at ht
  split at ht
  ·intro h;rw[h] at ht;simp at ht
  ·exact ht
 ·intro id blk hid
  rw[AHeap.get_set] at hid
  by_cases h:b=id
  ·subst h
   rw[if_pos rfl] at hid
   obtain⟨_,_,rfl⟩:=p8.1 hid
   exact .inr ⟨c,hc,hB hsame hcell⟩
  ·rw[if_neg h] at hid
   refine .inl ⟨hid,rfl,fun d b' k hd hk hk'=>h (hI.inj b id c d b' k hc hd (by obtain⟨rfl,rfl⟩:=hk';exact hhas) hk)⟩
theorem zld(hI:Inv I β n H w){K:AVal→AHeap→Nat→Prop}{t kt et:TypeId}(ht:P.underlying t=some (.map kt et)){b:Id}{v:Value}(hx:Rep I β n w (.map b) v){es:List (AVal×AVal)}(hg:H.get b=some (.amap es))
 (hK:∀ (arr:Array MapEntry) (ck:Nat),K (.ptr (n,0) 0 0) (((n,0),.itr (some b) arr ck [])::H.set b (.rmap es arr ck)) (n+1)):∃u w',(Instr.range t v).run P w=.ok u w'∧Goes I β n H w K u w':=by
 obtain⟨c,hc,h1,h2,arr,ck,h3,h4⟩:=hI.blocks b _ hg
 have hv:v=.map (some c.blk):=by
  cases hx with
  |imm _ _ h=>cases h
  |map _ q _ hq=>rw[hq c hc]
 subst hv
 obtain⟨g1,g2⟩:=zjs hI (by rw[hg];simp) hc (blk':=.rmap es arr ck) ⟨h1,h2,h3,h4⟩
 have hbn:=uy hI hc
 obtain⟨k1,k2⟩:=z1k g1 (o:=z1r (some c.blk) arr ck []) (blk:=.itr (some b) arr ck []) ⟨rfl,Nat.one_pos,⟨rfl,fun _ h=>by cases h⟩,some c.blk,(⟨rfl,⟨rfl,fun _=>p9 _⟩,rfl,rfl⟩:Pushed w (w.alloc (z1r (some c.blk) arr ck [])) _).new,Nat.lt_succ_of_lt hbn,c.blk,rfl,fun d hd=>by
  rw[ze _ _ (vn hbn),hc] at hd;simp only[p7] at hd;rw[hd]⟩
 refine⟨.pointer (some ⟨w.heap.size,0,none⟩),_,?_,_,_,_,_,_,hK arr ck,k1,.ptr _ _ _ _ (pK n) (fun d hd=>?_),g2.trans k2⟩
 ·simp[Instr.range,za ht,MapKept.run_getObj_map h3]
  rfl
 ·rw[qr] at hd;simp only[p7] at hd;subst hd;rfl
theorem zf5(hI:Inv I β n H w){K:AVal→AHeap→Nat→Prop}{t kt et:TypeId}(ht:P.underlying t=some (.map kt et))(hK:K (.ptr (n,0) 0 0) (((n,0),.itr none #[] 0 [])::H) (n+1)):∃u w',(Instr.range t (.map none)).run P w=.ok u w'∧Goes I β n H w K u w':=by
 obtain⟨k1,k2⟩:=z1k hI (o:=z1r none #[] 0 []) (blk:=.itr none #[] 0 []) ⟨rfl,Nat.one_pos,⟨rfl,fun _ h=>by cases h⟩,none,(⟨rfl,⟨rfl,fun _=>p9 _⟩,rfl,rfl⟩:Pushed w (w.alloc (z1r none #[] 0 [])) _).new,rfl⟩
 refine⟨.pointer (some ⟨w.heap.size,0,none⟩),_,?_,_,_,_,_,_,hK,k1,.ptr _ _ _ _ (pK n) (fun d hd=>?_),k2⟩
 ·simp[Instr.range,za ht]
  rfl
 ·rw[qr] at hd;simp only[p7] at hd;subst hd;rfl
theorem Kv{arr:Array MapEntry}{j:Nat}{seen:List Nat}{e:MapEntry}(h:arr[j]?=some e):(Zr arr seen).push e.born=Zr arr (j::seen):=by
 unfold Zr
 simp[h]
theorem z19{arr:Array MapEntry}{j:Nat}{seen:List Nat}{e:MapEntry}(hs:∀i∈seen,i<arr.size)(hb:∀ (i j:Nat) (e e':MapEntry),i<j→arr[i]?=some e→arr[j]?=some e'→e.born<e'.born)(h:arr[j]?=some e):(Zr arr seen).contains e.born=true↔j∈seen:=by
 unfold Zr
 rw[Array.contains_iff_mem,List.mem_toArray,List.mem_map]
 constructor
 ·rintro⟨i,hi,he⟩
  have hi:=List.mem_reverse.1 hi
  have hlt:=hs i hi
  rw[pC hlt] at he
  simp only at he
  rcases qG i j with h'|h'|h'
  ·have:=hb i j _ _ h' (pC hlt) h;omega
  ·subst h';exact hi
  ·have:=hb j i _ _ h' h (pC hlt);omega
 ·intro hj
  exact⟨j,List.mem_reverse.2 hj,by rw[h]⟩
theorem z7h(hI:Inv I β n H w){i:Id}{v:Value}(hx:Rep I β n w (.ptr i 0 0) v){c:CLoc}(hc:β i=some c)(h0:c.base=0):v=.pointer (some ⟨c.blk,0,none⟩):=by
 cases hx with
 |imm _ _ h=>cases h
 |ptr _ _ _ a _ hq=>rw[hq c hc,h0];simp
theorem zrc(hI:Inv I β n H w){K:AVal→AHeap→Nat→Prop}{i b:Id}{v:Value}(hx:Rep I β n w (.ptr i 0 0) v){arr:Array MapEntry}{ck:Nat}{seen:List Nat}{es:List (AVal×AVal)}{ty:TypeId}
 (hi:H.get i=some (.itr (some b) arr ck seen)) (hb:H.get b=some (.rmap es arr ck)) (h0:(∀j,j<es.length→j∈seen)→K (.tup [.bool false]) H n)
 (h1:∀j,j<es.length→j∉seen→K (.tup [.bool true,.any,.any]) (H.set i (.itr (some b) arr ck (j::seen))) n):∃u w',(Instr.next v false ty).run P w=.ok u w'∧Goes I β n H w K u w':=by
 obtain⟨c,hc,c1,c2,⟨c6,c7⟩,k,c3,c4,k',rfl,c5⟩:=hI.blocks i _ hi
 obtain⟨d,hd,d1,d2,d3,d4⟩:=hI.blocks b _ hb
 have hkd:=c5 d hd
 subst hkd
 have hv:=z7h hI hx hc c6
 subst hv
 have hlen:=d4.len
 have old:∀x∈arr.toList,x.born<ck:=fun x hx=>by
  obtain⟨q,hq⟩:=List.mem_iff_getElem?.1 hx
  exact d4.clk q x (by simpa using hq)
 have refl:Ext I β n H w I β n H w:=Ext.refl _ _ _ _ _ hI.fresh
 rcases run_next_at (P:=P) w ty c.blk d.blk ck ck (Zr arr seen) arr ck c3 d3 old (p9 _) with⟨hz,hr⟩|⟨e,he,w1,hw1,hr⟩
 ·refine⟨_,_,hr,_,_,_,_,_,h0 ?_,hI,.tup [.bool false] _ rfl (fun q x u hx hu=>?_),refl⟩
  ·intro j hj
   have hj':j<arr.size:=by omega
   have hcon:(Zr arr seen).contains (arr[j]).born=true:=by
    cases hq:(Zr arr seen).contains (arr[j]).born with
    |true=>rfl
    |false=>
     have:arr[j]∈leftOf arr (Zr arr seen):=by
      unfold leftOf
      rw[Array.mem_filter]
      exact⟨Array.getElem_mem hj',by rw[hq];rfl⟩
     rw[Array.eq_empty_of_size_eq_zero hz] at this
     cases(Array.not_mem_empty _ this)
   exact(z19 c7 d4.born (pC hj')).1 hcon
  ·cases q with
   |zero=>simp at hx hu;subst hx;subst hu;exact .imm _ _ (.bool false)
   |succ q=>simp at hx
 ·have hel:e∈leftOf arr (Zr arr seen):=by simpa using he
  unfold leftOf at hel
  rw[Array.mem_filter] at hel
  obtain⟨hmem,hnc⟩:=hel
  obtain⟨j,hj,rfl⟩:=Array.getElem_of_mem hmem
  have hns:j∉seen:=fun h=>by
   have:=(z19 c7 d4.born (pC hj)).2 h
   rw[this] at hnc;cases hnc
  have hw':w1.heap=w.heap∧w1.os=w.os∧TapeOk w w1∧w1.output=w.output:=hw1.elim (fun e=>e▸⟨rfl,rfl,⟨rfl,fun _=>p9 _⟩,rfl⟩) (fun e=>e▸⟨rfl,rfl,⟨rfl,fun _=>qK _⟩,rfl⟩)
  obtain⟨e1,e2,e3,e4⟩:=hw'
  rw[Kv (pC hj)] at hr
  obtain⟨g1,g2⟩:=zqt (w':=ChangeMaps.setBlock w1 c.blk (z1r (some d.blk) arr ck (j::seen))) hI (by rw[hi];simp) hc c1 c2 c3 rfl rfl e2 ⟨e3.eq,e3.le⟩ e4 (by simp only[ChangeMaps.setBlock,e1]) (blk':=.itr (some b) arr ck (j::seen)) (fun q1 q2=>
   ⟨c1,c2,⟨c6,fun q hq=>(List.mem_cons.1 hq).elim (fun e=>e▸hj) (c7 q)⟩,_,q1,c4,_,rfl,c5⟩)
  refine⟨_,_,hr,_,_,_,_,_,h1 j (by omega) hns,g1,.tup [.bool true,.any,.any] _ rfl (fun q x u hx hu=>?_),g2⟩
  match q with
  |0=>simp at hx hu;subst hx;subst hu;exact .imm _ _ (.bool true)
  |1=>simp at hx;subst hx;exact .any _
  |2=>simp at hx;subst hx;exact .any _
  |q+3=>simp at hx
theorem zki(hI:Inv I β n H w){K:AVal→AHeap→Nat→Prop}{i:Id}{v:Value}(hx:Rep I β n w (.ptr i 0 0) v){arr:Array MapEntry}{ck:Nat}{seen:List Nat}{ty:TypeId}
 (hi:H.get i=some (.itr none arr ck seen)) (h0:K (.tup [.bool false]) H n):∃u w',(Instr.next v false ty).run P w=.ok u w'∧Goes I β n H w K u w':=by
 obtain⟨c,hc,c1,c2,⟨c6,c7⟩,k,c3,rfl⟩:=hI.blocks i _ hi
 have hv:=z7h hI hx hc c6
 subst hv
 have refl:Ext I β n H w I β n H w:=Ext.refl _ _ _ _ _ hI.fresh
 refine⟨.tuple #[.bool false],w,?_,_,_,_,_,_,h0,hI,.tup [.bool false] _ rfl (fun q x u hx hu=>?_),refl⟩
 ·have:w.heap[c.blk]?=some (.mapIter none ck (Zr arr seen) ck):=c3
  simp[Instr.next,getObj,Sem.run,this]
 ·cases q with
  |zero=>simp at hx hu;subst hx;subst hu;exact .imm _ _ (.bool false)
  |succ q=>simp at hx
theorem zl4(hI:Inv I β n H w){K:AVal→AHeap→Nat→Prop}{i b:Id}{v:Value}(hx:Rep I β n w (.ptr i 0 0) v){arr:Array MapEntry}{ck j:Nat}{seen:List Nat}{es:List (AVal×AVal)}{p:AVal×AVal}
 (hi:H.get i=some (.itr (some b) arr ck (j::seen))) (hb:H.get b=some (.rmap es arr ck)) (hp:es[j]?=some p) (h:K (.tup [p.1,p.2]) H n):∃u w',(Instr.entry v).run P w=.ok u w'∧Goes I β n H w K u w':=by
 obtain⟨c,hc,c1,c2,⟨c6,c7⟩,k,c3,c4,k',rfl,c5⟩:=hI.blocks i _ hi
 obtain⟨d,hd,d1,d2,d3,d4⟩:=hI.blocks b _ hb
 have hkd:=c5 d hd
 subst hkd
 have hv:=z7h hI hx hc c6
 subst hv
 have refl:Ext I β n H w I β n H w:=Ext.refl _ _ _ _ _ hI.fresh
 have hj:j<arr.size:=c7 j (List.mem_cons_self ..)
 have hje:=pC hj
 have c3':w.heap[c.blk]?=some (.mapIter (some d.blk) ck ((Zr arr seen).push (arr[j]).born) ck):=by rw[Kv hje];exact c3
 have nd:(arr.toList.map (·.born)).Nodup:=by
  rw[List.nodup_iff_pairwise_ne,List.pairwise_map,List.pairwise_iff_getElem]
  intro q1 q2 hq1 hq2 hlt he
  have:=d4.born q1 q2 arr[q1]! arr[q2]! hlt (by simp at hq1;simp[hq1]) (by simp at hq2;simp[hq2])
  simp at hq1 hq2
  simp[hq1,hq2] at this he
  omega
 have hr:=run_entry_at (P:=P) w c.blk d.blk ck (Zr arr seen) arr ck arr[j] c3' d3 (by simp) nd
 obtain⟨g1,g2⟩:=d4.ent j p.1 p.2 _ hp hje
 refine⟨_,_,hr,_,_,_,_,_,h,hI,.tup [p.1,p.2] _ rfl (fun q x u hx hu=>?_),refl⟩
 match q with
 |0=>simp at hx hu;subst hx;subst hu;exact .imm _ _ g1
 |1=>simp at hx hu;subst hx;subst hu;exact g2
 |q+2=>simp at hx
theorem z59{ks:List CK}{k x:AVal}:∀ {es es':List (AVal×AVal)},zkv ks k x es=some es'→∃p,Z7 ks k es=some p∧(match p with
 |none=>es'=es++[(k,x)]
 |some i=>∃k' y,es[i]?=some (k',y)∧Vy ks k k'=some true∧es'=es.set i (k,x))
 |[],es',h=>by simp only[zkv,p7] at h;subst h;exact⟨none,rfl,rfl⟩
 |(k',y)::r,es',h=>by
  simp only[zkv] at h
  simp only[Z7]
  split at h
  ·rename_i hc
   simp only[p7] at h
   subst h
   exact⟨some 0,by simp only[hc],k',y,rfl,hc,rfl⟩
  ·rename_i hc
   simp only[p8] at h
   obtain⟨r',hr,rfl⟩:=h
   obtain⟨p,h1,h2⟩:=z59 hr
   simp only[hc,h1,pU]
   refine⟨_,rfl,?_⟩
   cases p with
   |none=>simp only[Option.map_none] at h2 ⊢;rw[h2];rfl
   |some i=>
    simp only[pU] at h2 ⊢
    obtain⟨k2,y2,g1,g2,g3⟩:=h2
    exact⟨k2,y2,by simpa using g1,g2,by rw[g3];rfl⟩
  ·cases h
theorem z13{ks:List CK}{k:AVal}:∀ {es es':List (AVal×AVal)},z30 ks k es=some es'→∃p,Z7 ks k es=some p∧(match p with
 |none=>es'=es
 |some i=>es'=es.eraseIdx i∧i<es.length)
 |[],es',h=>by simp only[z30,p7] at h;subst h;exact⟨none,rfl,rfl⟩
 |(k',y)::r,es',h=>by
  simp only[z30] at h
  simp only[Z7]
  split at h
  ·rename_i hc
   simp only[p7] at h
   subst h
   exact⟨some 0,by simp only[hc],rfl,by simp⟩
  ·rename_i hc
   simp only[p8] at h
   obtain⟨r',hr,rfl⟩:=h
   obtain⟨p,h1,h2⟩:=z13 hr
   simp only[hc,h1,pU]
   refine⟨_,rfl,?_⟩
   cases p with
   |none=>simp only[Option.map_none] at h2 ⊢;rw[h2]
   |some i=>
    simp only[pU] at h2 ⊢
    obtain⟨g1,g2⟩:=h2
    exact⟨by rw[g1];rfl,by simp;exact g2⟩
  ·cases h
theorem zk4{g:Bool}{zs:List AVal}{x y:AVal}(h:zru g zs x=some y){v:Value}(hr:Rep I β n w x v):Rep I β n w y v:=by
 unfold zru at h
 split at h
 ·rename_i cs hx
  simp only[p7] at h
  subst h
  have:=kn x hx hr
  cases this with
  |agg _ vs h1 h2 h3=>
   obtain⟨hl,hg⟩:=Z0 zs cs
   refine .imm _ _ (.agg _ vs (by rw[hl];exact h1) h2 (fun i z u hz hu=>?_))
   obtain⟨x0,z0,q1,q2⟩:=hg i z hz
   rcases q2 with rfl|rfl
   ·exact h3 i _ u q1 hu
   ·exact V0 z0 (h3 i _ u q1 hu)
 ·rename_i y0 hx
  have hR:=kn x hx hr
  split at h<;>simp only[p7,reduceCtorEq] at h
  subst h
  exact .imm _ _ (V0 _ hR)
 ·split at h<;>simp only[p7,reduceCtorEq] at h<;>(subst h;exact hr)
 ·cases h
theorem getElem?_set' {es:List (AVal×AVal)} {i j:Nat} {y z:AVal×AVal} (h:(es.set i y)[j]?=some z):(i=j∧z=y∧i<es.length)∨(i≠j∧es[j]?=some z):=by
 rw[List.getElem?_set] at h
 split at h
 ·split at h
  ·rename_i h1 h2;simp only[p7] at h;exact .inl ⟨h1,h.symm,by subst h1;exact h2⟩
  ·cases h
 ·rename_i h1;exact .inr ⟨h1,h⟩
theorem Q5{arr:Array MapEntry}{x:MapEntry}{j:Nat}{e:MapEntry}(h:(arr.push x)[j]?=some e):(j<arr.size∧arr[j]?=some e)∨(j=arr.size∧e=x):=by
 rw[Array.getElem?_push] at h
 split at h
 ·rename_i h1;simp only[p7] at h;exact .inr ⟨h1,h.symm⟩
 ·have:j<arr.size:=by
   rcases pD j arr.size with h'|h'
   ·exact h'
   ·rw[pF h'] at h;cases h
  exact .inl ⟨this,h⟩
theorem zh0(hI:Inv I β n H w){K:AVal→AHeap→Nat→Prop}{t kt et:TypeId}{ks:List CK}{ka g:Bool}{zs:List AVal}(ht:P.underlying t=some (.map kt et))(hks:kf P 50 kt=some ks)(hka:Xb P kt=some ka)
 {b:Id} {vm vk vx:Value} {k x y:AVal} (hm:Rep I β n w (.map b) vm) (hk:Rep I β n w k vk) (hx:Rep I β n w x vx) (hy:zru g zs x=some y) {es es':List (AVal×AVal)} (hg:H.get b=some (.amap es)) (hp:zkv ks k y es=some es') (hok:Qv ks ka k=true)
 (hki:k.imm=some k) (hK:K .any (H.set b (.amap es')) n):∃w',(Instr.mapUpdate t vm vk vx).run P w=.ok () w'∧∀v,Goes I β n H w K v w':=by
 obtain⟨c,hc,h1,h2,arr,ck,h3,h4⟩:=hI.blocks b _ hg
 have hv:vm=.map (some c.blk):=by
  cases hm with
  |imm _ _ h=>cases h
  |map _ q _ hq=>rw[hq c hc]
 subst hv
 obtain⟨hag,b0,hb0⟩:=Z2 hok
 have hkc:=Y7 hk
 rw[hag] at hkc
 have hck:=Ym (P:=P) (w:=w) (I:=I) (β:=β) (n:=n) false 50 kt ks hks 10000 (by omega) hka hkc b0 hb0
 obtain⟨p,hpl,hps⟩:=z59 hp
 have hf:=Xh hks hka hk hok (zga h4) hpl
 have hkI:RepI I w k vk:=by
  exact kn k hki hk
 have hyI:=zk4 hy hx
 have fin:∀ {arr':Array MapEntry} {ck':Nat},MapIn I β n w es' arr' ck'→∀v,Goes I β n H w K v { w with heap:=w.heap.setIfInBounds c.blk (.map arr' ck') }:=by
  intro arr' ck' hin v
  obtain⟨g1,g2⟩:=zgo hI hg hc h1 h2 h3 hin
  exact⟨.any,_,_,_,_,hK,g1,.any v,g2⟩
 cases p with
 |none=>
  simp only at hps
  subst hps
  refine⟨_,?_,fin (arr':=arr.push { key:=vk,val:=vx,born:=ck }) (ck':=ck+1) ⟨by simp[h4.len],fun i k' x' e hi he=>?_,fun i j e e' hij hi hj=>?_,fun i e hi=>?_⟩⟩
  ·unfold Instr.mapUpdate
   simp only[pE,za ht,pB,MapKept.run_getObj_map h3,hck,hf,ky,Option.bind_none,MapKept.run_setObj_map _ h3]
  ·rcases Q5 he with⟨g1,g2⟩|⟨g1,rfl⟩
   ·rw[qQ (by rw[←h4.len];exact g1)] at hi
    exact h4.ent i k' x' e hi g2
   ·rw[g1,h4.len,qM (p9 _)] at hi
    simp only[Nat.sub_self,pN,p7,Prod.mk.injEq] at hi
    obtain⟨rfl,rfl⟩:=hi
    exact⟨hkI,hyI⟩
  ·rcases Q5 hj with⟨g1,g2⟩|⟨g1,rfl⟩
   ·rcases Q5 hi with⟨g3,g4⟩|⟨g3,rfl⟩
    ·exact h4.born i j e e' hij g4 g2
    ·omega
   ·rcases Q5 hi with⟨g3,g4⟩|⟨g3,rfl⟩
    ·exact h4.clk i e g4
    ·omega
  ·rcases Q5 hi with⟨g1,g2⟩|⟨g1,rfl⟩
   ·have:=h4.clk i e g2;omega
   ·exact pK ck
 |some i=>
  simp only at hps
  obtain⟨k',y',g1,g2,rfl⟩:=hps
  have hi:i<arr.size:=by rw[h4.len];exact z7z g1
  obtain⟨r1,r2⟩:=h4.ent i k' y' arr[i] g1 (pC hi)
  obtain⟨s1,s2⟩:=zix (P:=P) hok g2 hk r1
  have hmod:∀ (j:Nat),(arr.modify i fun e=>{ e with key:=vk,val:=vx })[j]?=if i=j then(arr[j]?).map (fun e=>{ e with key:=vk,val:=vx }) else arr[j]?:=fun j=>by rw[Array.getElem?_modify]
  refine⟨_,?_,fin (arr':=arr.modify i fun e=>{ e with key:=vk,val:=vx }) (ck':=ck) ⟨by simp[h4.len],fun j k2 x2 e hj he=>?_,fun j l e e' hjl hj hl=>?_,fun j e hj=>?_⟩⟩
  ·unfold Instr.mapUpdate
   simp only[pE,za ht,pB,MapKept.run_getObj_map h3,hck,hf,ky,Option.bind_some,pR,pC hi,pU,qB,Option.getD_some,s2,MapKept.run_setObj_map _ h3]
  ·rw[hmod] at he
   rcases getElem?_set' hj with⟨q1,q2,_⟩|⟨q1,q2⟩
   ·subst q1
    rw[if_pos rfl,pC hi] at he
    simp only[pU,p7] at he
    simp only[Prod.mk.injEq] at q2
    obtain⟨rfl,rfl⟩:=q2
    subst he
    exact⟨hkI,hyI⟩
   ·rw[if_neg q1] at he
    exact h4.ent j k2 x2 e q2 he
  ·have ob:∀ (j:Nat) (e:MapEntry),(arr.modify i fun e=>{ e with key:=vk,val:=vx })[j]?=some e→∃e0,arr[j]?=some e0∧e.born=e0.born:=by
    intro j e hj
    rw[hmod] at hj
    split at hj
    ·simp only[p8] at hj
     obtain⟨e0,q1,rfl⟩:=hj
     exact⟨e0,q1,rfl⟩
    ·exact⟨e,hj,rfl⟩
   obtain⟨e0,q1,q2⟩:=ob j e hj
   obtain⟨e1,q3,q4⟩:=ob l e' hl
   rw[q2,q4];exact h4.born j l e0 e1 hjl q1 q3
  ·rw[hmod] at hj
   split at hj
   ·simp only[p8] at hj
    obtain⟨e0,q1,rfl⟩:=hj
    exact h4.clk j e0 q1
   ·exact h4.clk j e hj
theorem zq5(hI:Inv I β n H w){K:AVal→AHeap→Nat→Prop}{t t2 rt kt et:TypeId}{ks:List CK}{ka:Bool}(ht:P.underlying t=some (.map kt et))(hks:kf P 50 kt=some ks)(hka:Xb P kt=some ka)
 {b:Id} {vm vk:Value} {k:AVal} (hm:Rep I β n w (.map b) vm) (hk:Rep I β n w k vk) {es es':List (AVal×AVal)} (hg:H.get b=some (.amap es)) (hp:z30 ks k es=some es') (hok:Qv ks ka k=true)
 (hK:K .any (H.set b (.amap es')) n):∃v w',(Builtin.delete_ #[t,t2] rt #[vm,vk]).run P w=.ok v w'∧Goes I β n H w K v w':=by
 obtain⟨c,hc,h1,h2,arr,ck,h3,h4⟩:=hI.blocks b _ hg
 have hv:vm=.map (some c.blk):=by
  cases hm with
  |imm _ _ h=>cases h
  |map _ q _ hq=>rw[hq c hc]
 subst hv
 obtain⟨hag,b0,hb0⟩:=Z2 hok
 have hkc:=Y7 hk
 rw[hag] at hkc
 have hck:=Ym (P:=P) (w:=w) (I:=I) (β:=β) (n:=n) arr.isEmpty 50 kt ks hks 10000 (by omega) hka hkc b0 hb0
 obtain⟨p,hpl,hps⟩:=z13 hp
 have hf:=Xh hks hka hk hok (zga h4) hpl
 have fin:∀ {arr':Array MapEntry} {ck':Nat},MapIn I β n w es' arr' ck'→∀v,Goes I β n H w K v { w with heap:=w.heap.setIfInBounds c.blk (.map arr' ck') }:=by
  intro arr' ck' hin v
  obtain⟨g1,g2⟩:=zgo hI hg hc h1 h2 h3 hin
  exact⟨.any,_,_,_,_,hK,g1,.any v,g2⟩
 cases p with
 |none=>
  simp only at hps
  subst hps
  refine⟨_,_,?_,fin (arr':=arr) (ck':=ck) h4 (.tuple #[])⟩
  unfold Builtin.delete_
  simp only[pY,pN,pV,pE,za ht,pB,MapKept.run_getObj_map h3,hck,hf,ky,Option.bind_none,MapKept.run_setObj_map _ h3,pH]
 |some i=>
  simp only at hps
  obtain⟨rfl,hlt⟩:=hps
  have hi:i<arr.size:=by rw[h4.len];exact hlt
  have her:∀j,(arr.eraseIdxIfInBounds i)[j]?=if j<i then arr[j]? else arr[j+1]?:=by
   intro j
   rw[Array.eraseIdxIfInBounds,dif_pos hi,Array.getElem?_eraseIdx]
  have hel:∀j,(es.eraseIdx i)[j]?=if j<i then es[j]? else es[j+1]?:=fun j=>by rw[List.getElem?_eraseIdx]
  refine⟨_,_,?_,fin (arr':=arr.eraseIdxIfInBounds i) (ck':=ck) ⟨?_,fun j k2 x2 e hj he=>?_,fun j l e e' hjl hj hl=>?_,fun j e hj=>?_⟩ (.tuple #[])⟩
  ·unfold Builtin.delete_
   simp only[pY,pN,pV,pE,za ht,pB,MapKept.run_getObj_map h3,hck,hf,ky,Option.bind_some,pR,pC hi,pU,qB,MapKept.run_setObj_map _ h3,pH]
  ·rw[Array.eraseIdxIfInBounds,dif_pos hi,Array.size_eraseIdx,List.length_eraseIdx_of_lt hlt,h4.len]
  ·rw[hel] at hj
   rw[her] at he
   split at hj
   ·rename_i h;rw[if_pos h] at he;exact h4.ent j k2 x2 e hj he
   ·rename_i h;rw[if_neg h] at he;exact h4.ent (j+1) k2 x2 e hj he
  ·rw[her] at hj hl
   split at hj<;>split at hl
   ·exact h4.born _ _ _ _ (by omega) hj hl
   ·exact h4.born _ _ _ _ (by omega) hj hl
   ·omega
   ·exact h4.born _ _ _ _ (by omega) hj hl
  ·rw[her] at hj
   split at hj
   ·exact h4.clk _ _ hj
   ·exact h4.clk _ _ hj
theorem zl7(hI:Inv I β n H w){K:AVal→AHeap→Nat→Prop}{t:TypeId}(hK:K (.map (n,0)) (((n,0),.amap [])::H) (n+1)):∃v w',(Instr.makeMap t none).run P w=.ok v w'∧Goes I β n H w K v w':=by
 obtain⟨g1,g2⟩:=zc8 hI
 refine⟨.map (some w.heap.size),w.alloc (.map #[] 0),?_,_,_,_,_,_,hK,g1,.map _ _ (pK n) (fun c hc=>?_),g2⟩
 ·rfl
 ·rw[qr] at hc;simp only[p7] at hc;subst hc;rfl
theorem zbc:∀ {ks:List CK} {cs:List AVal} {b:Bool},ya ks cs cs=some b→AVal.imm.immL cs=some cs
 |[],[],_,_=>rfl
 |[],_::_,_,h=>by simp[ya] at h
 |_::_,[],_,h=>by simp[ya] at h
 |k::ks,y::ys,b,h=>by
  simp only[ya] at h
  split at h<;>try (cases h;done)
  rename_i a b' h1 h2
  have h3:=zbc h2
  have:y.imm=some y:=by cases k<;>cases y<;>simp[Zp] at h1<;>rfl
  simp only[AVal.imm.immL,this,h3]
theorem ze5{ks:List CK}{ka:Bool}{k:AVal}(h:Qv ks ka k=true):k.imm=some k:=by
 obtain⟨_,b,hb⟩:=Z2 h
 have:=zbc hb
 cases k with
 |agg cs=>simp only[qp] at this;simp only[AVal.imm,this,pU]
 |_=>
  simp only[qp,AVal.imm.immL] at this
  split at this<;>simp_all
end
end Go.Fx
namespace Go.Fx
variable {P:Program}
section
variable {I:Nat→Nat→Prop} {β:Id→Option CLoc} {n:Nat} {H:AHeap} {w:World} {e:Env} {a:Act}
theorem zq2(hI:Inv I β n H w){K:AVal→AHeap→Nat→Prop}{t u c rt:TypeId}{s:Nat}(ht:P.underlying t=some (.slice c))(hsz:xl P c=some s)(hs:0<s)
 {id:Id} {s' s'' off len:Nat} {f:Bool} {es:List (List AVal)} {y:AVal} {vx vy:Value} (hx:Rep I β n w (.msl id s' off len f) vx) (hy:Rep I β n w y vy) {p:Prop} {rows2:List (List AVal)} (hr:ui H s y=some (p,rows2)) (hp:p)
 (hb:H.get id=some (.rows s'' es)) (e1:s'=s) (e2:s''=s) (hlen0:off+len≤es.length)
 (hk:K (.int .i64 ((min rows2.length len:Nat):Int)) (H.set id (.rows s (es.take off++rows2.take len++es.drop (off+min rows2.length len)))) n) :
 ∃v w',(Builtin.copy_ #[t,u] rt #[vx,vy]).run P w=.ok v w'∧Goes I β n H w K v w':=by
 subst e1
 subst e2
 obtain⟨hly,hread⟩:=vu (P:=P) hI hs hy hr hp
 obtain⟨a2,f2,f2s,f2c,f2r,_⟩:=hread (min rows2.length len) (Nat.min_le_left _ _)
 obtain⟨ad,cap,rfl,hcap,hfull,hnil⟩:=hx.msl_inv
 obtain⟨cl,hcl,hB⟩:=hI.blocks id _ hb
 obtain⟨hcs,pA,p3,plo,p4,p5,p6⟩:=hB
 have hmin:Nat.min rows2.length len=min rows2.length len:=rfl
 by_cases hm0:min rows2.length len=0
 ·-- nothing is copied
  have ha2:a2=#[]:=pT.1 (by rw[f2s,hm0,Nat.zero_mul])
  subst ha2
  have hes:es.take off++rows2.take len++es.drop (off+min rows2.length len)=es:=by
   have:rows2.take len=[]:=by
    rw[List.take_eq_nil_iff]
    rcases Nat.min_eq_zero_iff.1 hm0 with h|h
    ·exact .inr (qH.1 h)
    ·exact .inl h
   rw[this,hm0];simp
  rw[hes,hm0] at hk
  rw[hm0] at f2
  refine⟨.int .i64 0,w,?_,.int .i64 0,H.set id (.rows s'' es),n,I,β,hk,?_,.imm _ _ (.int _ _),?_⟩
  ·unfold Builtin.copy_
   simp only[pY,pN,pV,pE,za ht,pB,yu hsz,hly,hmin,hm0,f2,storeCells]
   cases ad<;>rfl
  ·exact(W0 hI hb hcl (.refl w _) (p9 _) p5 p6).1
  ·exact(W0 hI hb hcl (.refl w _) (p9 _) p5 p6).2
 ·cases hx with
  |imm _ _ hx=>cases hx
  |msl _ _ _ _ _ _ _ hbn _ _ hpp=>
   obtain⟨_,hpp2⟩:=hpp cl hcl
   have hcz:cap≠0:=by
    have:min rows2.length len≤len:=Nat.min_le_right _ _
    omega
   obtain⟨r1,r2⟩:=hpp2 hcz
   obtain⟨arr,el,fr,p1,p2⟩:∃arr el fr,w.heap[cl.blk]?=some (.cells arr el fr)∧cl.size≤arr.size∧(cl.lo<cl.size→cl.lo=0∧cl.size=arr.size∧EndOk cl.s arr fr):=by
    rcases pA with pA|⟨_,z2,_⟩
    ·exact pA
    ·have:0<(off+cap)*s'':=Nat.mul_pos (by omega) hs
     omega
   subst r1
   have hle:min rows2.length len*s''≤len*s'':=pJ _ (Nat.min_le_right _ _)
   have hle2:(off+len)*s''≤es.length*s'':=pJ _ hlen0
   rw[pG] at hle2
   obtain⟨w',t1,t2,_,t4⟩:=vq (P:=P) (vs:=a2.toList) (w:=w) (b:=cl.blk) (o:=cl.base+off*s'')
    (fun j hj=>by
     simp only[pI,f2s] at hj
     have hlt:cl.base+off*s''+j<arr.size:=by omega
     exact⟨arr[cl.base+off*s''+j],by unfold qT;simp[p1,hlt]⟩)
    (fun j hj=>by
     simp only[pI,f2s] at hj
     exact p3 _ (by omega) (by omega)) f2c
   simp only[pI,f2s] at t2 t4
   have hblk:cl.blk<w.heap.size:=by
    rcases pD cl.blk w.heap.size with h|h
    ·exact h
    ·rw[pF h] at p1;cases p1
   have t3:∀k,(k<cl.base+off*s''∨cl.base+off*s''+min rows2.length len*s''≤k)→w'.cell? ⟨cl.blk,k,none⟩=w.cell? ⟨cl.blk,k,none⟩:=fun k hk=>t2.cell cl.blk k hblk (fun h=>by omega)
   have htl:(rows2.take len).length=min rows2.length len:=by rw[List.length_take,Nat.min_comm]
   have hoff:(es.take off).length=off:=by rw[List.length_take];omega
   -- where a row of the new block lies
   have place:∀ (i:Nat) (r:List AVal),(es.take off++rows2.take len++es.drop (off+min rows2.length len))[i]?=some r →
    (i<off∨off+min rows2.length len≤i)∧es[i]?=some r∨(off≤i∧i<off+min rows2.length len)∧(rows2.take (min rows2.length len))[i-off]?=some r:=by
    intro i r hi
    rw[List.append_assoc,pM] at hi
    split at hi
    ·rename_i hlt
     rw[hoff] at hlt
     rw[q7 hlt] at hi
     exact .inl ⟨.inl hlt,hi⟩
    ·rename_i hge
     rw[hoff] at hge hi
     rw[pM] at hi
     split at hi
     ·rename_i hlt
      rw[htl] at hlt
      refine .inr ⟨by omega,?_⟩
      rw[q7 hlt,←hi,q7 (by have:=Nat.min_le_right rows2.length len;omega)]
     ·rename_i hge2
      rw[htl] at hge2 hi
      rw[qL] at hi
      refine .inl ⟨.inr (by omega),?_⟩
      rw[←hi];congr 1;omega
   obtain⟨z1,z2⟩:=W0 hI hb hcl (t2.mono (fun b' k h=>⟨h.1.symm,by omega,by omega⟩)) (es':=es.take off++rows2.take len++es.drop (off+min rows2.length len))
    (by rw[pL,pL,hoff,htl,List.length_drop];have:=Nat.min_le_right rows2.length len;omega)
    (fun i r hi=>by
     rcases place i r hi with⟨_,h⟩|⟨_,h⟩
     ·exact p5 i r h
     ·exact f2r.2.1 _ r h)
    (fun i r j z hi hj=>by
     rcases place i r hi with⟨h1,h⟩|⟨h1,h⟩
     ·obtain⟨v,g1,g2,g3⟩:=p6 i r j z h hj
      have hjl:j<s'':=by
       have:=p5 _ r h
       rcases pD j r.length with h|h
       ·omega
       ·rw[pQ h] at hj;cases hj
      refine⟨v,?_,g2,g3⟩
      rw[t3 _ ?_];exact g1
      rcases h1 with h1|h1
      ·have:(i+1)*s''≤off*s'':=pJ _ h1
       rw[pG] at this
       left;omega
      ·have:(off+min rows2.length len)*s''≤i*s'':=pJ _ h1
       rw[pG] at this
       right;omega
     ·obtain⟨v,g1,g2,g3⟩:=f2r.2.2 (i-off) r j z h hj
      have hlt:0+(i-off)*s''+j<a2.size:=by
       rcases pD (0+(i-off)*s''+j) a2.size with h|h
       ·exact h
       ·rw[pF h] at g1;cases g1
      have hh:=t4 ((i-off)*s''+j) (by omega)
      rw[pR,show(i-off)*s''+j=0+(i-off)*s''+j by omega,g1] at hh
      have e3:i*s''=off*s''+(i-off)*s'':=by rw[←pG];congr 1;omega
      exact⟨v,by rw[←hh];congr 2;omega,g2,g3⟩)
   refine⟨.int .i64 ((min rows2.length len:Nat):Int),w',?_,_,_,_,_,_,hk,z1,.imm _ _ (.int _ _),z2⟩
   unfold Builtin.copy_
   simp only[pY,pN,pV,pE,za ht,pB,yu hsz,pH,hly,hmin,f2,t1]
   rfl
theorem zha{src d c:TypeId}(hs:P.underlying src=some .string)(hd:P.underlying d=some (.slice c))(hc:P.underlying c=some (.int .u8)){l:List UInt8} :
 ∃ (m:Nat) (w':World) (arr:Array Value),(convert src d (.string ⟨⟨l⟩⟩)).run P w=.ok (.slice (some ⟨w.heap.size,0,none⟩) l.length m) w'∧l.length≤m∧arr.size=m∧Pushed w w' (.cells arr c (arr.size,arr.size+1)) ∧
  RowsInI I w 1 0 (l.map fun c=>[.int .u8 (c.toNat:Int)]) arr:=by
 have esz:(⟨⟨l⟩⟩:ByteArray).size=l.length:=rfl
 let q:Question:=.appendCap l.length 0 c
 let m:=q.cut (w.tape w.drawn q)
 have hm:l.length≤m:=Nat.le_add_right _ _
 let wd:World:={ w with drawn:=w.drawn+1 }
 let arr:Array Value:=(⟨l⟩:Array UInt8).map (fun b=>Value.int .u8 (b.toNat:Int))++Array.replicate (m-l.length) (.int .u8 0)
 have hasz:arr.size=m:=by simp[arr];omega
 let w1:=wd.alloc (.cells arr c)
 let w':=w1.freeze ⟨w.heap.size,arr.size,none⟩ 1
 have hdraw:(choose (.appendCap l.length 0 c)).run P w=.ok m wd:=rfl
 have hblk:w1.heap[w.heap.size]?=some (.cells arr c):=by
  show(w.heap.push _)[w.heap.size]?=_
  simp
 have hshape:w1.shape? w.heap.size=some (c,arr.size):=by
  unfold World.shape?;rw[hblk]
 have hp:Pushed w w' (.cells arr c (arr.size,arr.size+1)):=by
  refine⟨rfl,⟨rfl,fun _=>qK _⟩,rfl,?_⟩
  show(World.freeze w1 _ 1).heap=_
  unfold World.freeze
  simp only[Nat.one_ne_zero,if_false]
  show(w.heap.push (.cells arr c)).modify w.heap.size _=w.heap.push _
  apply Array.ext_getElem?
  intro i
  rw[Array.getElem?_modify]
  by_cases h:w.heap.size=i
  ·subst h;simp
  ·rw[if_neg h,Array.getElem?_push,Array.getElem?_push,if_neg (fun h'=>h h'.symm),if_neg (fun h'=>h h'.symm)]
 have hrows:RowsInI I w 1 0 (l.map fun c=>[.int .u8 (c.toNat:Int)]) arr:=by
  refine⟨by simp[hasz];omega,?_,?_⟩
  ·intro i r hi
   rw[qP] at hi
   cases hl:l[i]? with
   |none=>rw[hl] at hi;cases hi
   |some b=>rw[hl] at hi;simp at hi;rw[←hi];rfl
  ·intro i r j x hi hj
   rw[qP] at hi
   cases hl:l[i]? with
   |none=>rw[hl] at hi;cases hi
   |some b=>
    rw[hl] at hi
    simp at hi
    subst hi
    cases j with
    |succ j=>simp at hj
    |zero=>
     simp at hj
     subst hj
     refine⟨.int .u8 (b.toNat:Int),?_,rfl,.int _ _⟩
     simp only[arr,qB,Nat.mul_one,qE]
     have hlt:i<l.length:=by
      rcases pD i l.length with h|h
      ·exact h
      ·rw[pQ h] at hl;cases hl
     rw[q8 (by simpa using hlt),Array.getElem?_map]
     simp[hl]
 refine⟨m,w',arr,?_,hm,hasz,hp,hrows⟩
 simp only[convert,pE,za hs,za hd,za hc,pB,Conv.stringToBytes,esz,hdraw,newRow,run_newObj,pH,q9,markStringish]
 have hw1:wd.alloc (.cells ((⟨l⟩:Array UInt8).map (fun b=>Value.int .u8 (b.toNat:Int))++Array.replicate (m-l.length) (.int .u8 0)) c)=w1:=rfl
 have hwd:wd.heap.size=w.heap.size:=rfl
 rw[hw1,hwd]
 simp only[run_shape,hshape,pB,run_freeze]
 rfl
theorem zuj(hI:Inv I β n H w){K:AVal→AHeap→Nat→Prop}{src d c:TypeId}(hs:P.underlying src=some .string)(hd:P.underlying d=some (.slice c))(hc:P.underlying c=some (.int .u8)){l:List UInt8}
 (hk:K (.msl (n,0) 1 0 l.length false) (((n,0),.rows 1 (l.map fun c=>[.int .u8 (c.toNat:Int)]))::H) (n+1)) :
 ∃v w',(convert src d (.string ⟨⟨l⟩⟩)).run P w=.ok v w'∧Goes I β n H w K v w':=by
 obtain⟨m,w',arr,h1,h2,h3,h4,h5⟩:=zha (P:=P) (w:=w) (I:=I) hs hd hc (l:=l)
 exact⟨_,w',h1,Jz hI h4 (fun k hk=>by simp;omega) EndOk.one h5.up hk (Z4 _ h2 (fun h=>by cases h) (by rw[h3];omega))⟩
theorem zov(hI:Inv I β n H w){K:AVal→AHeap→Nat→Prop}{src d c:TypeId}(hs:P.underlying src=some .string)(hd:P.underlying d=some (.slice c))(hc:P.underlying c=some (.int .u8)){l:List UInt8}
 (hk:K (.isl 1 (l.map fun c=>[.int .u8 (c.toNat:Int)]) false) H n) :
 ∃v w',(convert src d (.string ⟨⟨l⟩⟩)).run P w=.ok v w'∧Goes I β n H w K v w':=by
 obtain⟨m,w',arr,h1,h2,h3,h4,h5⟩:=zha (P:=P) (w:=w) (I:=I) hs hd hc (l:=l)
 obtain⟨I',β',g1,g2,_,g4,_⟩:=z2p (H2:=H) hI h4 (fun k hk=>by simp;omega) h5 false (fun _ _ h=>h)
 simp only[pS,if_false] at g1 g2
 refine⟨_,w',h1,_,_,_,_,_,hk,g1,.imm _ _ ?_,g2⟩
 have:=g4 m false (by simpa using h2) (fun h=>by cases h)
 simpa using this
theorem zbg(ns:List Int):∀ (s:ByteArray),ns.foldl (fun r n=>r.push (UInt8.ofNat n.toNat)) s=⟨⟨s.data.toList++ns.map fun n=>UInt8.ofNat n.toNat⟩⟩:=by
 induction ns with
 |nil=>intro s;simp
 |cons x ns ih=>intro s;rw[List.foldl_cons,ih];simp[ByteArray.push]
theorem ztw(hI:Inv I β n H w){K:AVal→AHeap→Nat→Prop}{src d c:TypeId}(hs:P.underlying src=some (.slice c))(hd:P.underlying d=some .string)(hc:P.underlying c=some (.int .u8)){x:AVal}{v:Value}(hx:Rep I β n w x v){p:Prop}{rows:List (List AVal)}(hr:ui H 1 x=some (p,rows))(hp:p)
 (hns:∀l,x≠.str l) (hall:∀r∈rows,∃m,r=[.int .u8 m]) (hk:K (.str (rows.map Wt)) H n) :
 ∃u w',(convert src d v).run P w=.ok u w'∧Goes I β n H w K u w':=by
 have refl:Ext I β n H w I β n H w:=Ext.refl _ _ _ _ _ hI.fresh
 obtain⟨hl,hread⟩:=vu (P:=P) hI (by omega) hx hr hp
 obtain⟨arr,f1,f2,f3,f4,_⟩:=hread rows.length (p9 _)
 rw[qJ] at f4
 have hv:∃ad len cap,v=.slice ad len cap:=by
  cases x<;>simp only[ui] at hr<;>try (cases hr;done)
  case isl=>obtain⟨ad,cap,h,_⟩:=hx.isl_inv;exact⟨_,_,_,h⟩
  case osl=>obtain⟨ad,cap,h,_⟩:=hx.rd.isl_inv;exact⟨_,_,_,h⟩
  case msl=>obtain⟨ad,cap,h,_⟩:=hx.msl_inv;exact⟨_,_,_,h⟩
  case str=>exact absurd rfl (hns _)
  case val u=>
   split at hr<;>(try (rename_i heq;cases heq;done))<;>try (cases hr;done)
   rename_i heq
   cases heq
   exact⟨_,_,_,hx.val_inv⟩
 obtain⟨ad,len,cap,rfl⟩:=hv
 have hlen:len=rows.length:=by
  simp only[Builtin.lenOf,pH,Result.ok.injEq] at hl;exact hl.1
 subst hlen
 -- the numbers that lie there
 let ns:List Int:=rows.map fun r=>match r with|[.int _ m]=>m|_=>0
 have harr:arr=(ns.map (Value.int .u8)).toArray:=by
  apply Array.ext_getElem?
  intro i
  by_cases hlt:i<rows.length
  ·obtain⟨m,hm⟩:=hall rows[i] (List.getElem_mem hlt)
   obtain⟨v,g1,_,g3⟩:=f4.2.2 i rows[i] 0 (.int .u8 m) (pP hlt) (by rw[hm];rfl)
   have:=g3.int_inv
   subst this
   simp only[qB,Nat.mul_one,qE] at g1
   rw[g1]
   simp[ns,hlt,hm]
  ·rw[pF (by omega),pF (by simp[ns];omega)]
 have hstr:ns.map (fun n=>UInt8.ofNat n.toNat)=rows.map Wt:=by
  simp only[ns,List.map_map]
  apply pX
  intro r hr
  obtain⟨m,rfl⟩:=hall r hr
  rfl
 refine⟨.string ⟨⟨rows.map Wt⟩⟩,w,?_,_,_,_,_,_,hk,hI,.imm _ _ (.str _),refl⟩
 rw[run_convert_bytes_string w src d c ad rows.length cap hs hc hd]
 cases ad with
 |none=>
  have h0:arr=#[]:=by
   simp only[Builtin.firstCells,pH,Result.ok.injEq] at f1;exact f1.1.symm
  have:rows=[]:=by
   have:arr.size=0:=by rw[h0];rfl
   exact qH.1 (by omega)
  subst this
  rfl
 |some ad=>
  rw[run_bytesToString w ad rows.length cap ns (by
   rw[←harr]
   simpa[Builtin.firstCells] using f1),zbg]
  simp[hstr]
theorem U5(hE:RepEnv I β n w e a){xs:Array Operand}{ys:List LOpd}(h:u4 xs.toList=some ys)(hn:Q3 e ys) :
 (xs.map a.eval).toList.length=(evs e ys).length∧∀ (i:Nat) (y:AVal) (v:Value),(evs e ys)[i]?=some y→(xs.map a.eval).toList[i]?=some v→Rep I β n w y v:=by
 obtain⟨h1,h2⟩:=u0 hE _ _ h hn
 rw[Array.toList_map]
 exact⟨h1,h2⟩
def wpR(P:Program)(o:Oper)(a:Act)(w:World)(next:Act→World→Prop)(Q:Exit→Act→World→Prop):Prop:=
 o.wp P a w next Q∨∃l fn tmps assign body,(execOp a.eval o).run P w=.ok (.round l fn tmps assign body) w∧RoundIn Fence.wide 0 P l fn tmps assign body w (fun e w'=>∃v,e=.returned v∧next (a.put o.dst v) w')
theorem Xa(hI:Inv I β n H w)(hE:RepEnv I β n w e a){vm:Bool}{o:Oper}{lo:LOp}(hl:ql P vm o.op=some lo){K:AVal→AHeap→Nat→Prop}(h:wh P e H n K lo){next:Act→World→Prop}{Q:Exit→Act→World→Prop}
 (hnext:∀v w',Goes I β n H w K v w'→next (a.put o.dst v) w'):wpR P o a w next Q:=by
 obtain⟨dst,op,type,pos,after,guard⟩:=o
 simp only at hl hnext
 by_cases hyield:∃x args l first caps,lo=.callv x args∧x.ev e=.fn (.yield l) first caps
 ·-- a round
  obtain⟨x',ys,l,first,caps,rfl,hev⟩:=hyield
  obtain⟨f,args,argTypes,rfl,hx,hys⟩:∃f args argTypes,op=.call { callee:=.value f,args:=args,argTypes:=argTypes }∧ye f=some x'∧u4 args.toList=some ys:=by
   clear h hnext hev
   cases op with
   |call c=>
    obtain⟨callee,args,argTypes⟩:=c
    cases callee with
    |value f=>
     simp only[ql] at hl
     unfold Wm at hl
     simp only at hl
     split at hl
     ·repeat' (split at hl<;>try (cases hl;done))
      simp only[p8] at hl
      obtain⟨_,_,hl⟩:=hl
      cases hl
     ·rename_i heq
      simp only[Callee.value.injEq] at heq
      subst heq
      split at hl<;>try (cases hl;done)
      simp only[p7,LOp.callv.injEq] at hl
      obtain⟨rfl,rfl⟩:=hl
      exact⟨_,_,_,rfl,by assumption,by assumption⟩
     ·rename_i heq;cases heq
     all_goals (rename_i heq;cases heq)
    |_=>
     exfalso
     simp only[ql] at hl
     unfold Wm at hl
     simp only at hl
     repeat' (split at hl<;>try (cases hl;done))
     all_goals (first|(simp only[p8] at hl;obtain⟨_,_,hl⟩:=hl;cases hl;done)|(rename_i heq _ _;cases heq;done)|(rename_i heq _ _ _ _ _;cases heq;done)|(rename_i heq _ _ _ _ _ _ _;cases heq;done)|skip)
     all_goals (first|(cases hl;done)|contradiction|(rename_i heq _ _ _ _ _ _ ;cases heq;done)|skip)
   |_=>
    exfalso
    simp only[ql] at hl
    try unfold Ve at hl
    repeat' (split at hl<;>try (cases hl;done))
    all_goals (first|(simp only[p8] at hl;obtain⟨_,_,hl⟩:=hl;cases hl;done)|(cases hl;done)|skip)
  simp only[wh,hev] at h
  obtain⟨h1,h2,rfl,h3⟩:=h
  have hr:=zu hE hx h1
  rw[hev] at hr
  have hfn:∃fs cs:Array Value,a.eval f=.func (.yield l) fs cs∧fs.size=first.length∧cs.size=0∧(∀ (i:Nat) (x:AVal) (v:Value),first[i]?=some x→fs[i]?=some v→Rep I β n w x v):=by
   revert hr
   generalize a.eval f=fv
   intro hr
   cases hr with
   |fn _ _ _ fs cs h1 h2 h3 h4=>exact⟨fs,cs,rfl,h1,h2,h3⟩
   |imm _ _ hr=>
    cases hr with
    |fn _ _ _ fs cs h1 h2 h3 h4=>exact⟨fs,cs,rfl,h1,h2,fun i x v p q=>.imm _ _ (h3 i x v p q)⟩
  obtain⟨fs,cs,hf,k1,k2,k3⟩:=hfn
  obtain⟨g1,g2⟩:=U5 hE hys h2
  have hq:=h3.2 I β w (fs++args.map a.eval).toList hI (by simp only[Array.toList_append,pL,g1,pI,k1,qF]) (fun i y v hy hv=>by
   simp only[Array.toList_append] at hv
   rw[qF] at hy
   rw[pM] at hy hv
   have hlb:fs.toList.length=first.length:=by simp[k1]
   rw[hlb] at hv
   split at hy
   ·rename_i hlt2
    rw[if_pos hlt2] at hv
    exact k3 i y v hy (by rw[←pR];exact hv)
   ·rename_i hlt2
    rw[if_neg hlt2] at hv
    exact g2 _ y v hy hv)
  obtain⟨fn,tmps,assign,body,q1,q2⟩:=hq
  refine .inr ⟨l,fn,tmps,assign,body,?_,q2.mono ?_⟩
  ·have:(execOp a.eval { dst:=dst,op:=.call { callee:=.value f,args:=args,argTypes:=argTypes },type:=type,pos:=pos,after:=after,guard:=guard }).run P w=(Instr.yield l (fs++args.map a.eval)).run P w:=by
    simp[execOp,resolve,hf,Deferred.ofValue,invoke]
   rw[this,←q1]
  ·rintro ee w' ⟨r,v,H',n',I',β',rfl,hK,hI',hr',hx'⟩
   exact⟨v,rfl,hnext v w' ⟨r,H',n',I',β',hK,hI',hr',hx'⟩⟩
 left
 have val:∀ {s:Sem Value},(∃v w',s.run P w=.ok v w'∧Goes I β n H w K v w')→execOp a.eval { dst:=dst,op:=op,type:=type,pos:=pos,after:=after,guard:=guard }=(do pure (.value (←s)):Sem Next) →
  Oper.wp P { dst:=dst,op:=op,type:=type,pos:=pos,after:=after,guard:=guard } a w next Q:=by
  intro s ⟨v,w',hr,hg⟩ he
  unfold Oper.wp
  rw[he,pE,hr]
  exact hnext v w' hg
 have call:∀ {f:FuncId} {args:List AVal} {vs:Array Value},ACalls P f args H n K→vs.toList.length=args.length→(∀ (i:Nat) (y:AVal) (v:Value),args[i]?=some y→vs.toList[i]?=some v→Rep I β n w y v) →
  (execOp a.eval { dst:=dst,op:=op,type:=type,pos:=pos,after:=after,guard:=guard }).run P w=(callFunc f vs).run P w →
  Oper.wp P { dst:=dst,op:=op,type:=type,pos:=pos,after:=after,guard:=guard } a w next Q:=by
  intro f args vs hc h1 h2 he
  obtain⟨⟨fn,g1,g2,g3⟩,hc⟩:=hc
  have hcall:(callFunc f vs).run P w=.ok (.enter f vs) w:=by
   unfold callFunc
   have g4:fn.body.isNone=false:=by cases hb:fn.body<;>simp[hb] at g2 ⊢
   simp only[pE,run_program,pB,g1,g3,g4,pS,if_false,pH]
  unfold Oper.wp
  rw[he,hcall,Oper.upon_enter]
  have:=hc I β w vs.toList hI h1 h2
  rw[Array.toArray_toList] at this
  refine this.mono fun ee w' ⟨r,v,H',n',I',β',he',hK,hI',hr',hx'⟩=>?_
  subst he'
  exact hnext v w' ⟨r,H',n',I',β',hK,hI',hr',hx'⟩
 cases op with
 |alloc t=>
  simp only[ql] at hl
  split at hl
  ·split at hl<;>try (cases hl;done)
   rename_i z s hz hs
   split at hl<;>try (cases hl;done)
   rename_i hc
   simp only[p7] at hl
   subst hl
   simp only[pZ,beq_iff_eq] at hc
   exact val (zjh hI hz hc.2 h) rfl
  ·split at hl
   ·rename_i hb
    simp only[p7] at hl
    subst hl
    exact val (zio hI hb h) rfl
   ·rename_i zs _ hz
    simp only[p7] at hl
    subst hl
    exact val (zao hI hz h) rfl
   ·cases hl
  ·simp only[p8] at hl
   obtain⟨zs,hz,rfl⟩:=hl
   exact val (zao hI hz h) rfl
 |box t x=>
  simp only[ql,p8] at hl
  obtain⟨x',hx',rfl⟩:=hl
  simp only[wh] at h
  split at h<;>try (exact h.elim)
  rename_i cs hc
  exact val (ztp hI (zu hE hx' h.1) hc h.2) rfl
 |buildSlice t len parts=>
  simp only[ql] at hl
  split at hl<;>try (cases hl;done)
  rename_i c ht
  split at hl<;>try (cases hl;done)
  rename_i z s l hz hsz hpl
  split at hl<;>try (cases hl;done)
  rename_i hcond
  simp only[pZ,decide_eq_true_eq] at hcond
  simp only[p7] at hl
  subst hl
  simp only[wh] at h
  split at h<;>try (exact h.elim)
  rename_i p rows hm
  cases vm with
  |false=>
   obtain⟨h1,h2,h3,h4⟩:=h
   obtain⟨arr',k1,k2,k3,k4⟩:=z3a (P:=P) hI hE ht hz hsz hpl hcond.1 hcond.2 h1 h2 hm h3
   obtain⟨rs,hrs,h4⟩:=h4
   rcases hrs with rfl|rfl
   ·exact val ⟨_,_,k1,zh9 hI k2 (Vj k4 _) h4⟩ rfl
   ·exact val ⟨_,_,k1,zh9 hI k2 k4 h4⟩ rfl
  |true=>
   simp only at h
   split at h<;>try (exact h.elim)
   rename_i rows' hi
   obtain⟨h1,h2,h3,h4⟩:=h
   obtain⟨arr',k1,k2,k3,k4⟩:=z3a (P:=P) hI hE ht hz hsz hpl hcond.1 hcond.2 h1 h2 hm h3
   exact val ⟨_,_,k1,z9j hI k4 k3 hi h4⟩ rfl
 |store t x y=>
  simp only[ql] at hl
  split at hl<;>try (cases hl;done)
  rename_i m x' y' hm hx hy
  simp only[p7] at hl
  subst hl
  simp only[wh] at h
  split at h<;>try (exact h.elim)
  rename_i b i off cs hev hc
  have key:∃w',(Instr.storeAt t (a.eval x) (a.eval y)).run P w=.ok () w'∧Goes I β n H w K undef w':=by
   split at h<;>try (exact h.elim)
   ·rename_i s es hb
    obtain⟨h1,h2,h3,h4,h5,h6⟩:=h
    have hrx:=zu hE hx h1
    rw[hev] at hrx
    exact za0 (P:=P) hI hm hrx (zu hE hy h2) hc hb h3 h4 h5 h6
   ·rename_i rs hb
    obtain⟨h1,h2,h3,rfl,h5,h6⟩:=h
    have hrx:=zu hE hx h1
    rw[hev] at hrx
    exact z7a (P:=P) hI hm hrx (zu hE hy h2) hc hb h3 h5 h6
  obtain⟨w',r1,r2⟩:=key
  unfold Oper.wp
  have he:(execOp a.eval { dst:=dst,op:=.store t x y,type:=type,pos:=pos,after:=after,guard:=guard }).run P w=.ok .skip w':=by
   simp only[execOp,pE,r1,pB,pH]
  rw[he,Oper.upon_skip]
  exact hnext undef w' r2
 |mapUpdate t m k x=>
  simp only[ql] at hl
  unfold Ve at hl
  split at hl<;>try (cases hl;done)
  rename_i kt et ht
  split at hl<;>try (cases hl;done)
  rename_i ks ka g zs hks hka hg hz
  split at hl<;>try (cases hl;done)
  split at hl<;>try (cases hl;done)
  rename_i m' k' x' hm hk hx
  simp only[p7] at hl
  subst hl
  simp only[wh] at h
  split at h<;>try (exact h.elim)
  rename_i b y hev hy
  split at h<;>try (exact h.elim)
  rename_i es hb
  split at h<;>try (exact h.elim)
  rename_i es' hp
  obtain⟨h1,h2,h3,h4,h5⟩:=h
  have hrm:=zu hE hm h1
  rw[hev] at hrm
  obtain⟨w',r1,r2⟩:=zh0 (P:=P) hI ht hks hka hrm (zu hE hk h2) (zu hE hx h3) hy hb hp h4 (ze5 h4) h5
  unfold Oper.wp
  have he:(execOp a.eval { dst:=dst,op:=.mapUpdate t m k x,type:=type,pos:=pos,after:=after,guard:=guard }).run P w=.ok .skip w':=by
   simp only[execOp,pE,r1,pB,pH]
  rw[he,Oper.upon_skip]
  exact hnext undef w' (r2 undef)
 |insert t m k x=>
  simp only[ql] at hl
  unfold Ve at hl
  split at hl<;>try (cases hl;done)
  rename_i kt et ht
  split at hl<;>try (cases hl;done)
  rename_i ks ka g zs hks hka hg hz
  split at hl<;>try (cases hl;done)
  split at hl<;>try (cases hl;done)
  rename_i m' k' x' hm hk hx
  simp only[p7] at hl
  subst hl
  simp only[wh] at h
  split at h<;>try (exact h.elim)
  rename_i b y hev hy
  split at h<;>try (exact h.elim)
  rename_i es hb
  split at h<;>try (exact h.elim)
  rename_i es' hp
  obtain⟨h1,h2,h3,h4,h5⟩:=h
  have hrm:=zu hE hm h1
  rw[hev] at hrm
  obtain⟨w',r1,r2⟩:=zh0 (P:=P) hI ht hks hka hrm (zu hE hk h2) (zu hE hx h3) hy hb hp h4 (ze5 h4) h5
  unfold Oper.wp
  have he:(execOp a.eval { dst:=dst,op:=.insert t m k x,type:=type,pos:=pos,after:=after,guard:=guard }).run P w=.ok .skip w':=by
   simp only[execOp,pE,r1,pB,pH]
  rw[he,Oper.upon_skip]
  exact hnext undef w' (r2 undef)
 |makeMap t r=>
  simp only[ql] at hl
  split at hl<;>try (cases hl;done)
  simp only[p7] at hl
  subst hl
  exact val (zl7 hI h) rfl
 |range t x=>
  simp only[ql] at hl
  split at hl<;>try (cases hl;done)
  rename_i kt et ht
  simp only[p8] at hl
  obtain⟨x',hx',rfl⟩:=hl
  simp only[wh] at h
  split at h
  ·rename_i b hev
   split at h<;>try (exact h.elim)
   rename_i es hg
   have hr:=zu hE hx' h.1
   rw[hev] at hr
   exact val (zld hI ht hr hg h.2) rfl
  ·rename_i hev
   have hr:=zu hE hx' h.1
   rw[hev] at hr
   refine val (s:=Instr.range t (a.eval x)) ?_ rfl
   rw[hr.val_inv]
   exact zf5 hI ht h.2
  ·exact h.elim
 |next x s=>
  cases s with
  |true=>simp[ql] at hl
  |false=>
   simp only[ql,p8] at hl
   obtain⟨x',hx',rfl⟩:=hl
   simp only[wh] at h
   split at h<;>try (exact h.elim)
   rename_i i hev
   split at h
   ·rename_i arr ck seen hi
    have hr:=zu hE hx' h.1
    rw[hev] at hr
    exact val (zki hI hr hi h.2) rfl
   ·rename_i b arr ck seen hi
    split at h<;>try (exact h.elim)
    rename_i es arr' ck' hb
    obtain⟨h1,rfl,rfl,h4,h5⟩:=h
    have hr:=zu hE hx' h1
    rw[hev] at hr
    exact val (zrc hI hr hi hb h4 h5) rfl
   ·exact h.elim
 |entry x=>
  simp only[ql,p8] at hl
  obtain⟨x',hx',rfl⟩:=hl
  simp only[wh] at h
  split at h<;>try (exact h.elim)
  rename_i i hev
  split at h<;>try (exact h.elim)
  rename_i b arr ck j seen hi
  split at h<;>try (exact h.elim)
  rename_i es arr' ck' hb
  obtain⟨h1,rfl,rfl,p,h4,h5⟩:=h
  have hr:=zu hE hx' h1
  rw[hev] at hr
  exact val (zl4 hI hr hi hb h4 h5) rfl
 |convert src d x=>
  simp only[ql] at hl
  split at hl<;>try (cases hl;done)
  rename_i k x' hk hx
  simp only[p7] at hl
  subst hl
  cases k with
  |int k=>exact h.elim
  |same=>exact h.elim
  |s2b vm'=>
   simp only[wh] at h
   split at h<;>try (exact h.elim)
   rename_i l hev
   have hn1:x'.need e:=by cases vm'<;>exact h.1
   have hr:=zu hE hx hn1
   rw[hev] at hr
   have hv:=hr.str_inv
   have hu:∃c,P.underlying src=some .string∧P.underlying d=some (.slice c)∧P.underlying c=some (.int .u8):=by
    unfold Uk at hk
    split at hk<;>simp_all
    all_goals (split at hk<;>simp_all)
   obtain⟨c,hu1,hu2,hu3⟩:=hu
   refine val (s:=convert src d (a.eval x)) ?_ rfl
   rw[hv]
   cases vm' with
   |true=>exact zov hI hu1 hu2 hu3 h.2
   |false=>exact zuj hI hu1 hu2 hu3 h.2
  |b2s=>
   simp only[wh] at h
   split at h<;>try (exact h.elim)
   rename_i p rows hro
   obtain⟨h1,h2,h3,h4,h5⟩:=h
   have hu:∃c,P.underlying src=some (.slice c)∧P.underlying d=some .string∧P.underlying c=some (.int .u8):=by
    unfold Uk at hk
    split at hk<;>simp_all
    all_goals (split at hk<;>simp_all)
   obtain⟨c,hu1,hu2,hu3⟩:=hu
   exact val (s:=convert src d (a.eval x)) (ztw hI hu1 hu2 hu3 (zu hE hx h1) hro h3 h2 h4 h5) rfl
 |makeSlice t l c=>
  simp only[ql] at hl
  split at hl<;>try (cases hl;done)
  rename_i el ht
  split at hl<;>try (cases hl;done)
  rename_i z s b l' c' hz hsz hby hl' hc'
  split at hl<;>try (cases hl;done)
  rename_i hcond
  simp only[pZ,decide_eq_true_eq] at hcond
  simp only[p7] at hl
  subst hl
  simp only[wh] at h
  split at h<;>try (exact h.elim)
  rename_i lv cv hlv hcv
  cases vm with
  |false=>
   obtain⟨h1,h2,h3,h4,h5,h6⟩:=h
   have r1:=zu hE hl' h1
   rw[hlv] at r1
   have r2:=zu hE hc' h2
   rw[hcv] at r2
   refine val (s:=Instr.makeSlice t (a.eval l) (a.eval c)) ?_ rfl
   rw[r1.int_inv,r2.int_inv]
   obtain⟨arr,k1,k2,k3⟩:=z05 (P:=P) (w:=w) (I:=I) (β:=β) (n:=n) ht hz hsz hby hcond.1 hcond.2 h3 h4 h5
   obtain⟨rows,h7|h7,h6⟩:=h6
   ·subst h7
    exact⟨_,_,k1,z0x hI h4 k2 (by have kk:=Vj (es:=pW _ _) k3 z;rwa [List.map_replicate] at kk) h6⟩
   ·subst h7
    exact⟨_,_,k1,z0x hI h4 k2 k3 h6⟩
  |true=>
   obtain⟨h1,h2,h3,h4,h5,h6⟩:=h
   have r1:=zu hE hl' h1
   rw[hlv] at r1
   have r2:=zu hE hc' h2
   rw[hcv] at r2
   subst h3
   refine val (s:=Instr.makeSlice t (a.eval l) (a.eval c)) ?_ rfl
   rw[r1.int_inv,r2.int_inv]
   obtain⟨arr,k1,k2,k3⟩:=z05 (P:=P) (w:=w) (I:=I) (β:=β) (n:=n) ht hz hsz hby hcond.1 hcond.2 (Int.le_refl 0) h4 h5
   exact⟨_,_,k1,z7p hI k2 h6⟩
 |call c=>
  obtain⟨callee,args,argTypes⟩:=c
  simp only[ql] at hl
  unfold Wm at hl
  cases callee with
  |value f=>
   simp only at hl
   split at hl
   ·rename_i fid heq
    simp only[Callee.value.injEq] at heq
    subst heq
    split at hl<;>try (cases hl;done)
    split at hl<;>try (cases hl;done)
    simp only[p8] at hl
    obtain⟨ys,hys,rfl⟩:=hl
    simp only[wh] at h
    obtain⟨h1,h2⟩:=U5 hE hys h.1
    refine call h.2 h1 h2 ?_
    simp[execOp,resolve,Act.eval,Deferred.ofValue,invoke]
   ·rename_i g hne heq
    simp only[Callee.value.injEq] at heq
    subst heq
    split at hl<;>try (cases hl;done)
    rename_i x' ys hx hys
    simp only[p7] at hl
    subst hl
    simp only[wh] at h
    split at h<;>try (exact h.elim)
    rename_i fid first caps hev
    obtain⟨h1,h2,h3⟩:=h
    obtain⟨fid,rfl⟩:∃g,fid=.func g:=by
     cases fid with
     |func g=>exact⟨g,rfl⟩
     |yield l=>exact absurd ⟨x',ys,l,first,caps,rfl,hev⟩ hyield
     |_=>exact h3.2.1.elim
    have hr:=zu hE hx h1
    rw[hev] at hr
    have hfn:∃fs cs:Array Value,a.eval f=.func (.func fid) fs cs∧fs.size=first.length∧cs.size=caps.length∧(∀ (i:Nat) (x:AVal) (v:Value),first[i]?=some x→fs[i]?=some v→Rep I β n w x v)∧(∀ (i:Nat) (x:AVal) (v:Value),caps[i]?=some x→cs[i]?=some v→Rep I β n w x v):=by
     revert hr
     generalize a.eval f=fv
     intro hr
     cases hr with
     |fn _ _ _ fs cs h1 h2 h3 h4=>exact⟨fs,cs,rfl,h1,h2,h3,h4⟩
     |imm _ _ hr=>
      cases hr with
      |fn _ _ _ fs cs h1 h2 h3 h4=>exact⟨fs,cs,rfl,h1,h2,fun i x v p q=>.imm _ _ (h3 i x v p q),fun i x v p q=>.imm _ _ (h4 i x v p q)⟩
    obtain⟨fs,cs,hf,k1,k2,k3,k4⟩:=hfn
    obtain⟨g1,g2⟩:=U5 hE hys h2
    refine call (vs:=fs++args.map a.eval++cs) h3 (by simp only[Array.toList_append,pL,g1,pI,k1,k2]) ?_ ?_
    ·intro i y v hy hv
     simp only[Array.toList_append] at hv
     rw[pM] at hy hv
     have hla:(fs.toList++(args.map a.eval).toList).length=(first++evs e ys).length:=by simp only[pL,g1,pI,k1]
     rw[hla] at hv
     split at hy
     ·rename_i hlt
      rw[if_pos hlt] at hv
      rw[pM] at hy hv
      have hlb:fs.toList.length=first.length:=by simp[k1]
      rw[hlb] at hv
      split at hy
      ·rename_i hlt2
       rw[if_pos hlt2] at hv
       exact k3 i y v hy (by rw[←pR];exact hv)
      ·rename_i hlt2
       rw[if_neg hlt2] at hv
       exact g2 _ y v hy hv
     ·rename_i hlt
      rw[if_neg hlt] at hv
      exact k4 _ y v hy (by rw[←pR];exact hv)
    ·simp[execOp,resolve,hf,Deferred.ofValue,invoke]
   ·rename_i heq;cases heq
   all_goals (rename_i heq;cases heq)
  |invoke _ _=>cases hl
  |builtin bi=>
   cases bi<;>simp only at hl<;>try (cases hl;done)
   case len=>
    split at hl<;>try (cases hl;done)
    split at hl<;>try (cases hl;done)
    all_goals
     simp only[p8] at hl
     obtain⟨_,_,rfl⟩:=hl
     exact h.elim
   case delete=>
    split at hl<;>try (cases hl;done)
    rename_i x y t t2 hargs htys
    have hx:args=#[x,y]:=by cases args;simp_all
    have hty:argTypes=#[t,t2]:=by cases argTypes;simp_all
    subst hx;subst hty
    split at hl<;>try (cases hl;done)
    rename_i kt et ht
    split at hl<;>try (cases hl;done)
    rename_i ks ka x' y' hks hka hx hy
    simp only[p7] at hl
    subst hl
    simp only[wh] at h
    split at h<;>try (exact h.elim)
    rename_i b hev
    split at h<;>try (exact h.elim)
    rename_i es hb
    split at h<;>try (exact h.elim)
    rename_i es' hp
    obtain⟨h1,h2,h3,h4⟩:=h
    have hrx:=zu hE hx h1
    rw[hev] at hrx
    refine val (s:=Builtin.delete_ #[t,t2] type (#[x,y].map a.eval)) ?_ rfl
    have e1:(#[x,y]:Array Operand).map a.eval=#[a.eval x,a.eval y]:=by simp
    rw[e1]
    exact zq5 hI ht hks hka hrx (zu hE hy h2) hb hp h3 h4
   case max=>simp only[p8] at hl;obtain⟨_,_,rfl⟩:=hl;exact h.elim
   case min=>simp only[p8] at hl;obtain⟨_,_,rfl⟩:=hl;exact h.elim
   case append=>
    split at hl<;>try (cases hl;done)
    rename_i x y t u hargs htys
    have hx:args=#[x,y]:=by cases args;simp_all
    have hty:argTypes=#[t,u]:=by cases argTypes;simp_all
    subst hx;subst hty
    split at hl<;>try (cases hl;done)
    all_goals
     rename_i c _ ht hu
     split at hl<;>try (cases hl;done)
     rename_i s b x' y' hsz hby hx hy
     split at hl<;>try (cases hl;done)
     rename_i hcond
     simp only[pZ,decide_eq_true_eq] at hcond
     obtain⟨⟨hs,hb⟩,hz⟩:=hcond
     obtain⟨zs,hz⟩:=Option.isSome_iff_exists.1 hz
     simp only[p7] at hl
     subst hl
     simp only[wh] at h
     split at h<;>try (exact h.elim)
     rename_i p rows2 hro
     refine val (s:=Builtin.append_ #[t,u] type (#[x,y].map a.eval)) ?_ rfl
     have e1:(#[x,y]:Array Operand).map a.eval=#[a.eval x,a.eval y]:=by simp
     rw[e1]
     cases vm with
     |false=>
      obtain⟨h1,h2,h3,h4⟩:=h
      first
       |exact zhi hI ht (.inl ⟨_,hu⟩) hz hsz hby hs hb (zu hE hx h1) (zu hE hy h2) hro h3 h4
       |exact zhi hI ht (.inr hu) hz hsz hby hs hb (zu hE hx h1) (zu hE hy h2) hro h3 h4
     |true=>
      simp only at h
      split at h<;>try (exact h.elim)
      rename_i rows2' him
      obtain⟨h1,h2,h3,h4⟩:=h
      first
       |exact zhv hI ht (.inl ⟨_,hu⟩) hz hsz hby hs hb (zu hE hx h1) (zu hE hy h2) hro h3 him h4
       |exact zhv hI ht (.inr hu) hz hsz hby hs hb (zu hE hx h1) (zu hE hy h2) hro h3 him h4
   case copy=>
    split at hl<;>try (cases hl;done)
    rename_i x y t u hargs htys
    have hx:args=#[x,y]:=by cases args;simp_all
    have hty:argTypes=#[t,u]:=by cases argTypes;simp_all
    subst hx;subst hty
    split at hl<;>try (cases hl;done)
    rename_i c ht
    split at hl<;>try (cases hl;done)
    rename_i s x' y' hsz hx hy
    split at hl<;>try (cases hl;done)
    rename_i hs
    simp only[p7] at hl
    subst hl
    simp only[wh] at h
    split at h<;>try (exact h.elim)
    rename_i b s' off len f p rows2 hev hro
    split at h<;>try (exact h.elim)
    rename_i s'' es hb
    obtain⟨h1,h2,h3,h4,h5,h6,h7⟩:=h
    have hrx:=zu hE hx h1
    rw[hev] at hrx
    refine val (s:=Builtin.copy_ #[t,u] type (#[x,y].map a.eval)) ?_ rfl
    have e1:(#[x,y]:Array Operand).map a.eval=#[a.eval x,a.eval y]:=by simp
    rw[e1]
    exact zq2 hI ht hsz hs hrx (zu hE hy h2) hro h3 hb h4 h5 h6 h7
 |move _=>simp only[ql,p8] at hl;obtain⟨_,_,rfl⟩:=hl;exact h.elim
 |lookup _ _ _ _=>simp only[ql] at hl;split at hl<;>try (cases hl;done)
                  split at hl<;>try (cases hl;done)
                  split at hl<;>cases hl;exact h.elim
 |assign _=>simp only[ql,p8] at hl;obtain⟨_,_,rfl⟩:=hl;exact h.elim
 |nilCheck _=>simp only[ql,p8] at hl;obtain⟨_,_,rfl⟩:=hl;exact h.elim
 |unOp _ _ _=>simp only[ql,p8] at hl;obtain⟨_,_,rfl⟩:=hl;exact h.elim
 |extract _ _=>simp only[ql,p8] at hl;obtain⟨_,_,rfl⟩:=hl;exact h.elim
 |pick _ _ _=>simp only[ql] at hl;split at hl<;>cases hl;exact h.elim
 |makeFunc _ _ _=>simp only[ql] at hl;split at hl<;>cases hl;exact h.elim
 |load _ _=>simp only[ql] at hl;split at hl<;>try (cases hl;done)
            split at hl<;>cases hl;exact h.elim
 |binOp _ _ _ _ _=>simp only[ql] at hl;split at hl<;>try (cases hl;done)
                   split at hl<;>cases hl<;>exact h.elim
 |build _ _=>simp only[ql] at hl;split at hl<;>try (cases hl;done)
             ·split at hl<;>try (cases hl;done)
              split at hl<;>cases hl;exact h.elim
             ·split at hl<;>try (cases hl;done)
              simp only[p8] at hl;obtain⟨_,_,rfl⟩:=hl;exact h.elim
 |slice _ _ _ _ _=>simp only[ql] at hl;split at hl<;>try (cases hl;done)
                   split at hl<;>try (cases hl;done)
                   ·cases hl;exact h.elim
                   ·split at hl<;>try (cases hl;done)
                    simp only[p8] at hl;obtain⟨_,_,rfl⟩:=hl;exact h.elim
                   ·split at hl<;>try (cases hl;done)
                    simp only[p8] at hl;obtain⟨_,_,rfl⟩:=hl;exact h.elim
 |fieldAddr _ _ _=>simp only[ql] at hl;split at hl<;>try (cases hl;done)
                   split at hl<;>try (cases hl;done)
                   split at hl<;>try (cases hl;done)
                   split at hl<;>cases hl;exact h.elim
 |field _ _ _=>simp only[ql] at hl;split at hl<;>try (cases hl;done)
               split at hl<;>try (cases hl;done)
               split at hl<;>try (cases hl;done)
               split at hl<;>cases hl;exact h.elim
 |indexAddr _ _ _=>simp only[ql] at hl;split at hl<;>try (cases hl;done)
                   all_goals (simp only[p8] at hl;obtain⟨_,_,rfl⟩:=hl;first|exact h.elim|(split at h<;>exact h.elim))
 |index _ _ _=>simp only[ql] at hl;split at hl<;>try (cases hl;done)
               ·cases hl;exact h.elim
               ·split at hl<;>try (cases hl;done)
                split at hl<;>cases hl;exact h.elim
 |_=>cases hl
end
end Go.Fx
namespace Go.Fx
def Vz(ro:Option Nat):Fence:={ Fence.wide with round:=ro }
theorem z6w{ro:Option Nat}{m:Nat}{P:Program}{f:FuncId}{args:Array Value}{w:World}{R:Ending→World→Prop}:CallsIn (Vz ro) m P f args w R↔Calls P f args w R:=by
 cases ro with
 |none=>exact callsIn_wide
 |some l=>exact callsIn_wide (n:=m)
theorem zv9{ro:Option Nat}{m:Nat}{P:Program}{row:String}{args:Array Value}{w:World}{R:Value→World→Prop}(h:Rows P row args w R):_root_.Go.RowsIn (Vz ro) m P row args w R:=by
 intro c cs _
 obtain⟨v,w',h1,h2⟩:=h c cs
 exact⟨v,w',h1,(stepsIn_wide (P:=P)).2 h2⟩
theorem Xd{P:Program}{ro:Option Nat}{o:Oper}{a:Act}{w:World}{K:Act→World→Prop}{Q:Exit→Act→World→Prop}(hd:∀c,o.op≠.defer c)(h:o.wp P a w K Q):o.wpIn (Vz ro) 0 P a w K Q:=by
 refine⟨fun _ _=>trivial,?_⟩
 rw[Oper.semAt_eq _ _ _ hd]
 unfold Oper.wp at h
 revert h
 generalize (execOp a.eval o).run P w=r
 intro h
 have hdep:(Vz ro).depth.isSome=true→1≤0:=fun h=>by cases h
 cases r with
 |ok x w'=>
  cases x with
  |value v=>exact h
  |skip=>exact h
  |defer d=>exact h
  |enter f args=>exact⟨hdep,z6w.2 h⟩
  |row row args=>exact⟨hdep,zv9 h⟩
  |_=>exact h.elim
 |halt x w'=>
  cases x with
  |panic v=>exact h
  |_=>exact h.elim
theorem zpa{ro:Option Nat}{m l:Nat}{P:Program}{f:FuncId}{tmps:Array Value}{assign body:Code}{w:World}{R:Ending→World→Prop}(h:RoundIn Fence.wide 0 P l f tmps assign body w R):RoundIn (Vz ro) m P l f tmps assign body w R:=by
 exact⟨trivial,fun c cs _=>h.2 c cs (room_wide _)⟩
theorem Yk{P:Program}{ro:Option Nat}{o:Oper}{a:Act}{w:World}{K:Act→World→Prop}{Q:Exit→Act→World→Prop}(hd:∀c,o.op≠.defer c)(h:wpR P o a w K Q):o.wpIn (Vz ro) 0 P a w K Q:=by
 rcases h with h|⟨l,fn,tmps,assign,body,h1,h2⟩
 ·exact Xd hd h
 ·refine⟨fun _ _=>trivial,?_⟩
  rw[Oper.semAt_eq _ _ _ hd,h1,Oper.uponIn_round]
  refine⟨fun h=>(by cases h),zpa (h2.mono ?_)⟩
  rintro e w' ⟨v,rfl,h3⟩
  exact h3
def zfq(P:Program)(d:Deferred):Prop:=∀w:World,∃fv cap f args,d.target=.fn fv cap∧(invoke d.target d.args).run P w=.ok (.enter f args) w ∧
 CallsDIn Fence.wide 0 P f args .returning w (fun e u' w'=>(∃v,e=.returned v)∧u'=.returning∧w'=w)
def z88(P:Program)(f:FuncId):Prop:=∀caps:Array Value,zfq P { target:=.fn (.func f) caps,args:=#[] }
def MarkD(k:Nat)(w:World)(d:Deferred):Prop:=∃r,d={ target:=.collected r,args:=#[] }∧k≤r∧w.heap[r]?=some (.deferred (some []))
theorem MarkD.busy{P:Program}{k:Nat}{w:World}{d:Deferred}(h:MarkD k w d):¬zfq P d:=by
 obtain⟨r,rfl,_⟩:=h
 intro h
 obtain⟨_,_,_,_,h,_⟩:=h w
 cases h
def Dfr(P:Program)(k:Nat)(w:World)(ds:List Deferred):Prop:=ds.Pairwise (fun a b=>a≠b∨zfq P a)∧∀d∈ds,zfq P d∨MarkD k w d
theorem Dfr.idle{P:Program}{k:Nat}{w:World}{ds:List Deferred}{d:Deferred}(h:Dfr P k w ds)(hd:zfq P d):Dfr P k w (d::ds):=
 ⟨List.pairwise_cons.2 ⟨fun _ _=>.inr hd,h.1⟩,fun x hx=>by
  rcases List.mem_cons.1 hx with rfl|hx
  ·exact .inl hd
  ·exact h.2 x hx⟩
theorem Dfr.nil(P:Program)(k:Nat)(w:World):Dfr P k w []:=⟨.nil,fun _ h=>by cases h⟩
theorem z7l{I:Nat→Nat→Prop}{β:Id→Option CLoc}{n:Nat}{w:World}{c:CLoc}{b:ABlock}{r:Nat}{ds:Option (List Deferred)}(hB:RepB I β n w c b)(h3:w.heap[r]?=some (.deferred ds)):∀k,¬c.has r k:=by
 intro q hk
 have e:c.blk=r:=hk.1
 cases b with
 |rows s es=>
  obtain⟨_,⟨arr,el,fr,h,_⟩|⟨_,z,_⟩,_⟩:=hB
  ·rw[e,h3] at h;cases h
  ·have:=hk.2.2;omega
 |one cs=>
  obtain⟨_,⟨arr,el,fr,h,_⟩|⟨_,_,z⟩,_⟩:=hB
  ·rw[e,h3] at h;cases h
  ·cases z
 |amap es=>obtain⟨_,_,arr,ck,h,_⟩:=hB;rw[e,h3] at h;cases h
 |lrec l r e'=>obtain⟨_,_,_,h,_⟩:=hB;rw[e,h3] at h;cases h
 |rmap es arr ck=>obtain⟨_,_,h,_⟩:=hB;rw[e,h3] at h;cases h
 |itr m arr ck seen=>obtain⟨_,_,_,q,h,_⟩:=hB;rw[e,h3] at h;cases h
 |mbox b'=>obtain⟨_,_,_,q,h,_⟩:=hB;unfold qT at h;rw[e] at h;simp[h3] at h
 |bld T g=>obtain⟨_,_,_,_,p,v,h,_⟩:=hB;rw[e,h3] at h;cases h
 |buf el bs=>
  obtain⟨h1,_,h2|⟨_,arr,fr,h,_⟩⟩:=hB
  ·have:=hk.2.2;omega
  ·rw[e,h3] at h;cases h
 |tok=>
  obtain⟨⟨v,hv⟩,_⟩:=hB q hk.2.1 hk.2.2
  unfold qT at hv
  rw[e,h3] at hv
  cases hv
theorem Dfr.mono{P:Program}{I I':Nat→Nat→Prop}{β β':Id→Option CLoc}{n n':Nat}{H H':AHeap}{w w':World}{k:Nat}{ds:List Deferred}(h:Dfr P k w ds)(hI:Inv I β n H w)(hX:Ext I β n H w I' β' n' H' w'):Dfr P k w' ds:=by
 refine⟨h.1,fun d hd=>?_⟩
 rcases h.2 d hd with hi|⟨r,h1,h2,h3⟩
 ·exact .inl hi
 refine .inr ⟨r,h1,h2,?_⟩
 have hlt:r<w.heap.size:=by
  rcases pD r w.heap.size with h|h
  ·exact h
  ·rw[pF h] at h3;cases h3
 rw[hX.frame r hlt fun id c q hc hg hk=>?_]
 ·exact h3
 cases hb:H.get id with
 |none=>exact hg hb
 |some b=>
  obtain⟨c',hc',hB⟩:=hI.blocks id b hb
  rw[hc] at hc'
  simp only[p7] at hc'
  subst hc'
  exact z7l hB h3 q hk
theorem zmb{I:Nat→Nat→Prop}{β:Id→Option CLoc}{n:Nat}{H:AHeap}{w:World}{r:Nat}{ds:Option (List Deferred)}(o:Obj)(hI:Inv I β n H w)(hr:w.heap[r]?=some (.deferred ds)) :
 Inv I β n H (w.putObj r o)∧(∀x v,Rep I β n w x v→Rep I β n (w.putObj r o) x v) ∧
 (∀ (I0:Nat→Nat→Prop) (β0:Id→Option CLoc) (n0:Nat) (H0:AHeap) (w0:World),w0.heap.size≤r→Ext I0 β0 n0 H0 w0 I β n H w→Ext I0 β0 n0 H0 w0 I β n H (w.putObj r o)):=by
 have hcell:∀b k v,w.cell? ⟨b,k,none⟩=some v→(w.putObj r o).cell? ⟨b,k,none⟩=some v:=by
  intro b k v hv
  have hne:b≠r:=by
   rintro rfl
   unfold qT at hv
   rw[hr] at hv
   cases hv
  rw[cell?_of_heap (qI hne)];exact hv
 have hImm:∀b k,I b k→(w.putObj r o).cell? ⟨b,k,none⟩=w.cell? ⟨b,k,none⟩:=by
  intro b k hb
  obtain⟨v,hv⟩:=hI.imm b k hb
  rw[hv];exact hcell b k v hv
 have hobj:∀ (b:Nat) (ob:Obj),w.heap[b]?=some ob→(∀x,ob≠.deferred x)→(w.putObj r o).heap[b]?=some ob:=by
  intro b ob hb hne
  have:b≠r:=by rintro rfl;rw[hr] at hb;simp only[p7] at hb;exact hne _ hb.symm
  rw[qI this];exact hb
 refine⟨⟨fun id blk hid=>?_,hI.inj,fun i c b k hi hc=>by rw[World.putObj_size];exact hI.own i c b k hi hc,fun b k hb=>by rw[hImm b k hb];exact hI.imm b k hb,hI.fresh,hI.glob.mono (fun _ _ h=>h) hImm (fun b arr el fr h=>⟨arr,fr,hobj _ _ h nofun,rfl⟩)⟩,fun x v hx=>hx.mono' (fun _ _ h=>h) hImm (p9 _) (fun _ _ _ h=>h),?_⟩
 ·obtain⟨c,hc,hB⟩:=hI.blocks id blk hid
  exact⟨c,hc,hB.mono' (fun _ _ h=>h) hImm (p9 _) (fun _ _ _ h=>h) (fun arr el fr h=>⟨arr,fr,hobj _ _ h nofun,rfl,.inl rfl⟩) (fun b k v _ hv=>hcell b k v hv) (fun ob ho _ h=>hobj _ _ h (fun x hx=>by subst hx;cases ho))⟩
 ·intro I0 β0 n0 H0 w0 hle hX
  have hlt:∀b (ob:Obj),w0.heap[b]?=some ob→b≠r:=by
   rintro b ob hb rfl
   rw[pF hle] at hb;cases hb
  refine⟨hX.os,⟨hX.tape.eq,hX.tape.le⟩,hX.output,by rw[World.putObj_size];exact hX.size,fun b hb hn=>?_,fun b k v hv hn=>hcell b k v (hX.cells b k v hv hn),fun b arr el fr hb=>?_,fun b es ck hb hn=>?_,hX.imm,hX.immNew,hX.old,hX.new,hX.dom,hX.le⟩
  ·rw[qI (by omega)];exact hX.frame b hb hn
  ·obtain⟨arr',fr',h1,h2⟩:=hX.shape b arr el fr hb
   exact⟨arr',fr',by rw[qI (hlt b _ hb)];exact h1,h2⟩
  ·rw[qI (hlt b _ hb)];exact hX.maps b es ck hb hn
theorem Dfr.of_heap{P:Program}{k:Nat}{w w':World}{ds:List Deferred}(h:Dfr P k w ds)(hw:w'.heap=w.heap):Dfr P k w' ds:=⟨h.1,fun d hd=>by
 rcases h.2 d hd with hi|⟨r,h1,h2,h3⟩
 ·exact .inl hi
 exact .inr ⟨r,h1,h2,by rw[hw];exact h3⟩⟩
theorem k6{P:Program}{vm:Bool}{o:Op}{l:LOp}(h:ql P vm o=some l):∀c,o≠.defer c:=by
 rintro c rfl
 cases h
def kc:AVal→Bool→Option Bool
 |.bool b,want=>some (b==want)
 |.cnd q (.bool b),want=>some (q&&(b==want))
 |.tup [],_=>some false
 |_,_=>none
def z4c(a:AVal):Prop:=a=.tup []∨∃x,a=.cnd false x
def Vf(p:Bool)(H:AHeap)(n:Nat)(E:(AVal→AHeap→Nat→Prop)→Prop)(K:AVal→AHeap→Nat→Prop):Prop:=
 (∃R,(p=true→E (fun r H' n'=>r=R∧H'=H∧n'=n))∧K (.cnd p R) H n)∨((p=true→E K)∧(p=false→∃u,z4c u∧K u H n))
def X3(P:Program):List LOper→(Env→AHeap→Nat→Prop)→Env→AHeap→Nat→Prop
 |[],Q,e,H,n=>Q e H n
 |⟨d,op,none⟩::os,Q,e,H,n=>
  match xy op with
  |true=>match xh e H op with
   |.ok side v=>side∧X3 P os Q (e.put d v) H n
   |.bad=>False
  |false=>wh P e H n (fun r H' n'=>X3 P os Q (e.put d r) H' n') op
 |⟨d,op,some (g,want)⟩::os,Q,e,H,n=>
  match kc (e.get g) want with
  |some p=>match xy op with
   |true=>match xh e H op with
    |.ok side v=>(∃u,(p=true→side∧v=u)∧X3 P os Q (e.put d (.cnd p u)) H n)∨(p=false∧X3 P os Q (e.put d (.tup [])) H n)
    |.bad=>p=false∧X3 P os Q (e.put d (.tup [])) H n
   |false=>Vf p H n (fun K=>wh P e H n K op) (fun r H' n'=>X3 P os Q (e.put d r) H' n')
  |none=>False
def xqs:List LOper→(Env→AHeap→Nat→Prop)→Env→AHeap→Nat→Prop
 |[],Q,e,H,n=>Q e H n
 |⟨d,op,none⟩::os,Q,e,H,n=>match xh e H op with
  |.ok side v=>side∧xqs os Q (e.put d v) H n
  |.bad=>False
 |⟨d,op,some (g,want)⟩::os,Q,e,H,n=>
  match kc (e.get g) want with
  |some p=>match xh e H op with
   |.ok side v=>(∃u,(p=true→side∧v=u)∧xqs os Q (e.put d (.cnd p u)) H n)∨(p=false∧xqs os Q (e.put d (.tup [])) H n)
   |.bad=>p=false∧xqs os Q (e.put d (.tup [])) H n
  |none=>False
def LOper.sees(lo:LOper)(e:Env):Env:=lo.looks.map fun t=>(t,e.get t)
def Yh(e:Env)(H:AHeap)(lo:LOper):XR:=
 match lo.guard with
 |none=>xh e H lo.op
 |some (g,want)=>match kc (e.get g) want with
  |some p=>match xh e H lo.op with
   |.ok side v=>.ok (p=true→side) (.cnd p v)
   |.bad=>.ok (p=false) (.tup [])
  |none=>.bad
def Vv(P:Program)(e:Env)(H:AHeap)(n:Nat)(K:AVal→AHeap→Nat→Prop)(lo:LOper):Prop:=
 match lo.guard with
 |none=>wh P e H n K lo.op
 |some (g,want)=>match kc (e.get g) want with
  |some p=>Vf p H n (fun K=>wh P e H n K lo.op) K
  |none=>False
def zuq(a b:AVal):Prop:=a=b∨(z4c a∧z4c b)∨∃p x y,a=.cnd p x∧b=.cnd p y∧(p=true→x=y)
def XR.gives(r:XR)(v:AVal):Prop:=match r with
 |.ok side u=>side∧zuq u v
 |.bad=>False
def xd(P:Program):List DItem→Nat→List (Nat×LOper×Env×AVal)→(Env→AHeap→Nat→Prop)→Env→AHeap→Nat→Prop
 |[],_,_,R,e,H,n=>R e H n
 |it::rest,p,done,R,e,H,n=>
  match xy it.lo.op with
  |true=>∃v,(Yh (it.lo.sees e) H it.lo).gives v∧xd P rest (p+1) (if kw it.lo.op then(p,it.lo,it.lo.sees e,v)::done else done) R (e.put it.lo.dst v) H n
  |false=>Vv P (it.lo.sees e) H n (fun v H' n'=>(∀x∈done,x.1∈it.loose→(Yh x.2.2.1 H' x.2.1).gives x.2.2.2)∧xd P rest (p+1) done R (e.put it.lo.dst v) H' n') it.lo
def ztt(P:Program)(N:Lay)(I:Nat→Nat→Prop)(β:Id→Option CLoc)(n:Nat)(H:AHeap)(w:World)(Q:Exit→Env→AHeap→Nat→Prop)(QQ:Exit→Act→World→Prop):Prop:=
 ∀ex e' H' n' I' β' w' a',Q ex e' H' n'→Inv I' β' n' H' w'→RepEnv I' β' n' w' e' a'→a'.tmps.size=N.n→Dfr P w.heap.size w' a'.defers→Ext I β n H w I' β' n' H' w'→QQ ex a' w'
def LWp(P:Program)(N:Lay)(n0:Nat)(lc:LCode)(Q:Exit→Env→AHeap→Nat→Prop)(e:Env)(H:AHeap)(n:Nat):Prop:=
 ∀c,zj P N c=some lc→∀ro,(N.rd=false→ro=none)→∀I0 β0 H0 w0 I β w a,Ext I0 β0 n0 H0 w0 I β n H w→Inv I β n H w→RepEnv I β n w e a→a.tmps.size=N.n→Dfr P w0.heap.size w a.defers→∀QQ,ztt P N I0 β0 n0 H0 w0 Q QQ→c.wpIn (Vz ro) 0 P QQ a w
def z6i:AVal→AVal→Prop
 |.ptr b _ _,.ptr c _ _=>b≠c
 |_,_=>False
def Jm(P:Program)(N:Lay)(n0:Nat):LCode→(Exit→Env→AHeap→Nat→Prop)→Env→AHeap→Nat→Prop
 |.skip,Q,e,H,n=>Q .normal e H n
 |.region ops,Q,e,H,n=>X3 P ops (Q .normal) e H n
 |.quiet ops,Q,e,H,n=>xqs ops (Q .normal) e H n
 |.draw items,Q,e,H,n=>xd P items 0 [] (Q .normal) e H n
 |.draw2 a b items,Q,e,H,n=>xd P items 0 [] (fun e H n=>z6i (a.ev e) (b.ev e)∧Q .normal e H n) e H n
 |.seq a b,Q,e,H,n=>Jm P N n0 a (fun ex e H n=>match ex with|.normal=>Jm P N n0 b Q e H n|ex=>Q ex e H n) e H n
 |.cond c a b,Q,e,H,n=>match c.ev e with
  |.bool v=>c.need e∧(v=true→Jm P N n0 a Q e H n)∧(v=false→Jm P N n0 b Q e H n)
  |_=>False
 |.block id c,Q,e,H,n=>Jm P N n0 c (fun ex e H n=>match ex with|.exit i=>if i=id then Q .normal e H n else Q (.exit i) e H n|ex=>Q ex e H n) e H n
 |.loop c,Q,e,H,n=>LWp P N n0 (.loop c) Q e H n
 |.rng g ps a b,Q,e,H,n=>LWp P N n0 (.rng g ps a b) Q e H n
 |.dfr f t,Q,e,H,n=>z88 P f∧Q .normal (e.put (some t) .any) H n
 |.exit id,Q,e,H,n=>Q (.exit id) e H n
 |.ret,Q,e,H,n=>Q .ret e H n
variable {P:Program}
section
variable {I:Nat→Nat→Prop} {β:Id→Option CLoc} {N:Lay} {n:Nat} {H:AHeap} {w:World} {e:Env} {a:Act}
def z4e:Value→Option Bool
 |.bool b=>some b
 |_=>none
theorem Zl{x:AVal}{want p:Bool}{v:Value}(hx:Rep I β n w x v)(h:kc x want=some p):(z4e v==some want)=p:=by
 unfold kc at h
 split at h
 ·rename_i _ b
  simp only[p7] at h
  subst h
  rw[hx.bool_inv]
  simp[z4e]
 ·rename_i _ q b
  simp only[p7] at h
  subst h
  cases hx with
  |imm _ _ hx=>cases hx
  |cnd _ _ _ h1 h2=>
   cases q with
   |true=>rw[(h1 rfl).bool_inv];simp[z4e]
   |false=>rw[h2 rfl];simp[undef,z4e]
 ·simp only[p7] at h
  subst h
  have:v=.tuple #[]:=by
   cases hx with
   |imm _ _ hx=>cases hx with|tup _ vs h1 h2=>have:=pT.1 h1;subst this;rfl
   |tup _ vs h1 h2=>have:=pT.1 h1;subst this;rfl
  subst this
  rfl
 ·cases h
theorem zc4{a:AVal}(h:z4c a){v:Value}(hr:Rep I β n w a v):v=undef:=by
 rcases h with rfl|⟨x,rfl⟩
 ·cases hr with
  |imm _ _ hx=>cases hx with|tup _ vs h1 h2=>have:=pT.1 h1;subst this;rfl
  |tup _ vs h1 h2=>have:=pT.1 h1;subst this;rfl
 ·cases hr with
  |imm _ _ hx=>cases hx
  |cnd _ _ _ h1 h2=>exact h2 rfl
theorem Kt{a:AVal}(h:z4c a):Rep I β n w a undef:=by
 rcases h with rfl|⟨x,rfl⟩
 ·exact .tup [] #[] rfl (by simp)
 ·exact .cnd false x undef (fun h=>by cases h) (fun _=>rfl)
theorem Wc{a b:AVal}(h:zuq a b){v:Value}(hr:Rep I β n w a v):Rep I β n w b v:=by
 rcases h with rfl|⟨h1,h2⟩|⟨p,x,y,rfl,rfl,h⟩
 ·exact hr
 ·rw[zc4 h1 hr];exact Kt h2
 ·cases hr with
  |imm _ _ hr=>cases hr
  |cnd _ _ _ h1 h2=>exact .cnd p y v (fun hp=>by rw[←h hp];exact h1 hp) h2
theorem k8{o:Oper}(h:o.guard=none)(y:Nat→Option Bool):Region.wanted o y=true:=by
 unfold Region.wanted;rw[h]
theorem Ys{o:Oper}{j:Nat}{want:Bool}(h:o.guard=some (j,want))(y:Nat→Option Bool):Region.wanted o y=(y j==some want):=by
 unfold Region.wanted;rw[h]
theorem va{ops:Array Oper}{o:Oper}{lo:LOper}(h:Zd P N ops o=some lo) :
 (∀t,o.dst=some t→t<N.n)∧lo.dst=o.dst∧lo.op=(ql P (N.vm o.dst) o.op).getD .bad∧((o.guard=none∧lo.guard=none)∨∃j want g,o.guard=some (j,want)∧lo.guard=some (g,want)∧(ops[j]?).bind (·.dst)=some g∧g<N.n):=by
 unfold Zd at h
 split at h
 ·cases h
 ·rename_i hd hg
  simp only[p7] at h
  subst h
  refine⟨?_,rfl,rfl,.inl ⟨hg,rfl⟩⟩
  intro t ht
  rw[ht] at hd
  simpa using hd
 ·rename_i j want hd hg
  split at h
  ·rename_i g hgd
   split at h<;>try (cases h;done)
   rename_i hlt
   simp only[p7] at h
   subst h
   refine⟨?_,rfl,rfl,.inr ⟨j,want,g,hg,rfl,hgd,hlt⟩⟩
   intro t ht
   rw[ht] at hd
   simpa using hd
  ·cases h
theorem Zb{vm:Bool}{o:Oper}{lo:LOper}(h:lo.op=(ql P vm o.op).getD .bad)(hne:lo.op≠.bad):ql P vm o.op=some lo.op:=by
 cases hl:ql P vm o.op with
 |none=>rw[hl] at h;exact absurd h hne
 |some x=>rw[hl] at h;exact congrArg some h.symm
theorem Qj:Rep I β n w (.tup []) undef:=.imm _ _ (.tup [] #[] rfl (by simp))
theorem X4{ops:Array Oper}:∀ (l:List Oper) (ll:List LOper),Xk P N ops l=some ll→l.length=ll.length∧∀ (i:Nat) (o:Oper) (lo:LOper),l[i]?=some o→ll[i]?=some lo→Zd P N ops o=some lo
 |[],ll,h=>by simp[Xk] at h;subst h;simp
 |o::l,ll,h=>by
  simp only[Xk] at h
  cases h1:Zd P N ops o with
  |none=>simp[h1] at h
  |some lo=>
  cases h2:Xk P N ops l with
  |none=>simp[h1,h2] at h
  |some l'=>
   simp only[h1,h2,p7] at h
   subst h
   obtain⟨k1,k2⟩:=X4 l l' h2
   refine⟨by simp[k1],fun i o' lo' hi hi'=>?_⟩
   cases i with
   |zero=>simp at hi hi';subst hi;subst hi';exact h1
   |succ i=>exact k2 i o' lo' (by simpa using hi) (by simpa using hi')
theorem Xg{ops:Array Oper}{tmps:Array Value}{j g:Nat}(h:(ops[j]?).bind (·.dst)=some g)(hg:g<tmps.size):yielded ops tmps j=z4e (tmps.getD g undef):=by
 unfold yielded
 rw[h]
 have:tmps[g]?=some tmps[g]:=pC hg
 simp only[Option.bind_some,this]
 have:tmps.getD g undef=tmps[g]:=by simp[hg]
 rw[this]
 cases tmps[g]<;>rfl
theorem z1h{ro:Option Nat}{K0:Nat}{ops:Array Oper}{Q:Env→AHeap→Nat→Prop}{QQ:Exit→Act→World→Prop}:∀ (is:List Nat) (ll:List LOper),is.length=ll.length →
 (∀ (k i:Nat) (lo:LOper),is[k]?=some i→ll[k]?=some lo→∃o,ops[i]?=some o∧Zd P N ops o=some lo) →
 ∀ {I:Nat→Nat→Prop} {β:Id→Option CLoc} {n:Nat} {H:AHeap} {w:World} {e:Env} {a:Act},X3 P ll Q e H n→Inv I β n H w→RepEnv I β n w e a→a.tmps.size=N.n→Dfr P K0 w a.defers →
 (∀e' H' n' I' β' w' a',Q e' H' n'→Inv I' β' n' H' w'→RepEnv I' β' n' w' e' a'→a'.tmps.size=N.n→Dfr P K0 w' a'.defers→Ext I β n H w I' β' n' H' w'→QQ .normal a' w')→wpOpsIn (Vz ro) 0 P ops QQ is a w
 |[],ll,hl,_,I,β,n,H,w,e,a,h,hI,hE,hN,hD,hQ=>by
  cases ll with
  |cons _ _=>simp at hl
  |nil=>exact hQ _ _ _ _ _ _ _ h hI hE hN hD (Ext.refl _ _ _ _ _ hI.fresh)
 |i::is,ll,hl,hlow,I,β,n,H,w,e,a,h,hI,hE,hN,hD,hQ=>by
  cases ll with
  |nil=>simp at hl
  |cons lo ll=>
   obtain⟨o,ho,hlo⟩:=hlow 0 i lo rfl rfl
   obtain⟨hd,hdst,hop,hg⟩:=va hlo
   obtain⟨d,op,guard⟩:=lo
   simp only at hdst hop hg
   subst hdst
   have hdN:∀t,o.dst=some t→t<a.tmps.size:=fun t ht=>by rw[hN];exact hd t ht
   have rest:∀ {I:Nat→Nat→Prop} {β:Id→Option CLoc} {n:Nat} {H:AHeap} {w:World} {e:Env} {a:Act},X3 P ll Q e H n→Inv I β n H w→RepEnv I β n w e a→a.tmps.size=N.n→Dfr P K0 w a.defers →
    (∀e' H' n' I' β' w' a',Q e' H' n'→Inv I' β' n' H' w'→RepEnv I' β' n' w' e' a'→a'.tmps.size=N.n→Dfr P K0 w' a'.defers→Ext I β n H w I' β' n' H' w'→QQ .normal a' w')→wpOpsIn (Vz ro) 0 P ops QQ is a w:=
    fun h1 h2 h3 h4 h5 h6=>z1h (ro:=ro) (K0:=K0) (ops:=ops) (Q:=Q) (QQ:=QQ) is ll (by simpa using hl) (fun k i lo h1 h2=>hlow (k+1) i lo h1 h2) h1 h2 h3 h4 h5 h6
   unfold wpOpsIn
   simp only[ho]
   -- the next operation, behind one that is carried out
   have eff:∀ {Kop:LOp},Kop=op→ql P (N.vm o.dst) o.op=some Kop→wh P e H n (fun r H' n'=>X3 P ll Q (e.put o.dst r) H' n') Kop→o.wpIn (Vz ro) 0 P a w (wpOpsIn (Vz ro) 0 P ops QQ is) QQ:=by
    intro Kop _ hl h
    refine Yk (k6 hl) (Xa hI hE hl h ?_)
    intro v w' ⟨r,H',n',I',β',hK,hI',hr',hx'⟩
    refine rest hK hI' (RepEnv.put (fun t=>(hE t).mono hx' hI) hdN hr') (by rw[Act.put_size];exact hN) (by rw[Act.put_defers];exact hD.mono hI hx') ?_
    intro e' H'' n'' I'' β'' w'' a' h1 h2 h3 h4 h5 h6
    exact hQ e' H'' n'' I'' β'' w'' a' h1 h2 h3 h4 h5 (hx'.trans h6)
   have pure:∀ {Kop:LOp} {side:Prop} {v y:AVal},Kop=op→ql P (N.vm o.dst) o.op=some Kop→xh e H Kop=.ok side v→side→(∀r,Rep I β n w v r→Rep I β n w y r)→X3 P ll Q (e.put o.dst y) H n→o.wpIn (Vz ro) 0 P a w (wpOpsIn (Vz ro) 0 P ops QQ is) QQ:=by
    intro Kop side v y _ hl hp hs hy h
    obtain⟨r,hr,hrep⟩:=J4 hI hE hl hp hs
    refine Xd (k6 hl) ?_
    unfold Oper.wp
    rw[hr,Oper.upon_value]
    exact rest h hI (hE.put hdN (hy r hrep)) (by rw[Act.put_size];exact hN) (by rw[Act.put_defers];exact hD) hQ
   have skip:∀ {y:AVal},Rep I β n w y undef→X3 P ll Q (e.put o.dst y) H n→wpOpsIn (Vz ro) 0 P ops QQ is (a.put o.dst undef) w:=by
    intro y hy h
    exact rest h hI (hE.put hdN hy) (by rw[Act.put_size];exact hN) (by rw[Act.put_defers];exact hD) hQ
   rcases hg with⟨hg1,rfl⟩|⟨j,want,g,hg1,rfl,hg2,hg3⟩
   ·rw[k8 hg1,if_pos rfl]
    simp only[X3] at h
    split at h
    ·split at h
     ·rename_i side v hp
      have hne:op≠.bad:=by intro hb;rw[hb] at hp;cases hp
      exact pure rfl (Zb (lo:=⟨o.dst,op,none⟩) hop hne) hp h.1 (fun _ h=>h) h.2
     ·exact h.elim
    ·have hne:op≠.bad:=by intro hb;rw[hb] at h;exact h.elim
     exact eff rfl (Zb (lo:=⟨o.dst,op,none⟩) hop hne) h
   ·rw[Ys hg1,Xg hg2 (by rw[hN];exact hg3)]
    simp only[X3] at h
    split at h
    ·rename_i p hp
     rw[Zl (hE g) hp]
     split at h
     ·split at h
      ·rename_i side v hpu
       have hne:op≠.bad:=by intro hb;rw[hb] at hpu;cases hpu
       rcases h with⟨u,hu,h⟩|⟨rfl,h⟩
       rotate_left
       ·rw[if_neg (by simp)];refine⟨fun _ _=>trivial,?_⟩
        exact skip Qj h
       cases p with
       |true=>
        obtain⟨hs,rfl⟩:=hu rfl
        rw[if_pos rfl]
        exact(pure rfl (Zb (lo:=⟨o.dst,op,some (g,want)⟩) hop hne) hpu hs (fun r hr=>.cnd true v r (fun _=>hr) (fun h=>by cases h)) h)
       |false=>
        rw[if_neg (by simp)];refine⟨fun _ _=>trivial,?_⟩
        exact skip (.cnd false u undef (fun h=>by cases h) (fun _=>rfl)) h
      ·obtain⟨rfl,h⟩:=h
       rw[if_neg (by simp)];refine⟨fun _ _=>trivial,?_⟩
       exact skip Qj h
     ·cases p with
      |true=>
       rw[if_pos rfl]
       rcases h with⟨R,h1,h2⟩|h
       ·have h:=h1 rfl
        have hne:op≠.bad:=by intro hb;rw[hb] at h;exact h.elim
        refine Yk (k6 (Zb (lo:=⟨o.dst,op,some (g,want)⟩) hop hne)) (Xa hI hE (Zb (lo:=⟨o.dst,op,some (g,want)⟩) hop hne) h ?_)
        rintro v w' ⟨r,H',n',I',β',⟨rfl,rfl,rfl⟩,hI',hr',hx'⟩
        refine rest h2 hI' (RepEnv.put (fun t=>(hE t).mono hx' hI) hdN (.cnd true r v (fun _=>hr') (fun h=>by cases h))) (by rw[Act.put_size];exact hN) (by rw[Act.put_defers];exact hD.mono hI hx') ?_
        intro e' H'' n'' I'' β'' w'' a' h1 h2 h3 h4 h5 h6
        exact hQ e' H'' n'' I'' β'' w'' a' h1 h2 h3 h4 h5 (hx'.trans h6)
       ·have h:=h.1 rfl
        have hne:op≠.bad:=by intro hb;rw[hb] at h;exact h.elim
        exact(eff rfl (Zb (lo:=⟨o.dst,op,some (g,want)⟩) hop hne) h)
      |false=>
       rw[if_neg (by simp)];refine⟨fun _ _=>trivial,?_⟩
       rcases h with⟨R,_,h2⟩|h
       ·exact skip (.cnd false R undef (fun h=>by cases h) (fun _=>rfl)) h2
       ·obtain⟨u,h1,h2⟩:=h.2 rfl
        exact skip (Kt h1) h2
    ·exact h.elim
theorem z4p{K0:Nat}{w0:World}{ops:Array Oper}{Q:Env→AHeap→Nat→Prop}{Qa:Act→Prop}{C:World→Prop}(hC:∀w',C w'→w'=w)(hI:Inv I β n H w):∀ (l:List Oper) (ll:List LOper),l.length=ll.length →
 (∀ (k:Nat) (o:Oper) (lo:LOper),l[k]?=some o→ll[k]?=some lo→Zd P N ops o=some lo) →
 ∀ {e:Env} {a:Act},xqs ll Q e H n→RepEnv I β n w e a→a.tmps.size=N.n→Dfr P K0 w0 a.defers →
 (∀e' a',Q e' H n→RepEnv I β n w e' a'→a'.tmps.size=N.n→Dfr P K0 w0 a'.defers→Qa a')→wpQuiet P ops C Qa l a
 |[],ll,hl,_,e,a,h,hE,hN,hD,hQ=>by
  cases ll with
  |cons _ _=>simp at hl
  |nil=>exact hQ _ _ h hE hN hD
 |o::l,ll,hl,hlow,e,a,h,hE,hN,hD,hQ=>by
  cases ll with
  |nil=>simp at hl
  |cons lo ll=>
   have hlo:=hlow 0 o lo rfl rfl
   obtain⟨hd,hdst,hop,hg⟩:=va hlo
   obtain⟨d,op,guard⟩:=lo
   simp only at hdst hop hg
   subst hdst
   have hdN:∀t,o.dst=some t→t<a.tmps.size:=fun t ht=>by rw[hN];exact hd t ht
   have rest:∀ {y:AVal} {r:Value},Rep I β n w y r→xqs ll Q (e.put o.dst y) H n→wpQuiet P ops C Qa l (a.put o.dst r):=fun hy h=>
    z4p hC hI l ll (by simpa using hl) (fun k o lo h1 h2=>hlow (k+1) o lo h1 h2) h (hE.put hdN hy) (by rw[Act.put_size];exact hN) (by rw[Act.put_defers];exact hD) hQ
   have pure:∀ {side:Prop} {v y:AVal},xh e H op=.ok side v→side→(∀r,Rep I β n w v r→Rep I β n w y r)→xqs ll Q (e.put o.dst y) H n→o.quiet P a C (wpQuiet P ops C Qa l):=by
    intro side v y hp hs hy h
    have hne:op≠.bad:=by intro hb;rw[hb] at hp;cases hp
    obtain⟨r,hr,hrep⟩:=J4 hI hE (Zb (lo:=⟨o.dst,op,guard⟩) hop hne) hp hs
    refine⟨r,fun w' hw'=>?_,rest (hy r hrep) h⟩
    obtain rfl:=hC w' hw'
    unfold Oper.quietAt
    rw[hr]
    exact⟨rfl,rfl⟩
   unfold wpQuiet
   rcases hg with⟨hg1,rfl⟩|⟨j,want,g,hg1,rfl,hg2,hg3⟩
   ·rw[k8 hg1,if_pos rfl]
    simp only[xqs] at h
    split at h
    ·rename_i side v hp
     exact pure hp h.1 (fun _ h=>h) h.2
    ·exact h.elim
   ·rw[Ys hg1,Xg hg2 (by rw[hN];exact hg3)]
    simp only[xqs] at h
    split at h
    ·rename_i p hp
     rw[Zl (hE g) hp]
     split at h
     ·rename_i side v hpu
      rcases h with⟨u,hu,h⟩|⟨rfl,h⟩
      rotate_left
      ·rw[if_neg (by simp)]
       exact rest Qj h
      cases p with
      |true=>
       obtain⟨hs,rfl⟩:=hu rfl
       rw[if_pos rfl]
       exact pure hpu hs (fun r hr=>.cnd true v r (fun _=>hr) (fun h=>by cases h)) h
      |false=>
       rw[if_neg (by simp)]
       exact rest (.cnd false u undef (fun h=>by cases h) (fun _=>rfl)) h
     ·obtain⟨rfl,h⟩:=h
      rw[if_neg (by simp)]
      exact rest Qj h
    ·exact h.elim
end
end Go.Fx
namespace Go.Fx
variable {P:Program}
theorem zd9{e:Env}{H H':AHeap}{op:LOp}(h:kw op=false):xh e H op=xh e H' op:=by
 cases op<;>first|rfl|(rename_i k x;cases k<;>rfl)|(simp[kw] at h)
theorem V7{e:Env}{H H':AHeap}{lo:LOper}(h:kw lo.op=false):Yh e H lo=Yh e H' lo:=by
 unfold Yh;rw[zd9 (H:=H) (H':=H') h]
section
variable {I:Nat→Nat→Prop} {β:Id→Option CLoc} {N:Lay} {n:Nat} {H:AHeap} {w:World} {e:Env} {a:Act}
theorem zck{ro:Option Nat}{ops:Array Oper}{QQ:Exit→Act→World→Prop}{K:Act→World→Prop}{i:Nat}{o:Oper}{lo:LOper}(ho:ops[i]?=some o)(hlo:Zd P N ops o=some lo){v:AVal}(hv:(Yh e H lo).gives v)
 (hI:Inv I β n H w) (hE:RepEnv I β n w e a) (hN:a.tmps.size=N.n) (hK:∀r,Rep I β n w v r→K (a.put o.dst r) w):wpOpIn (Vz ro) 0 P ops QQ i K a w:=by
 obtain⟨hd,hdst,hop,hg⟩:=va hlo
 unfold wpOpIn
 simp only[ho]
 have pure:∀ {side:Prop} {u:AVal},xh e H lo.op=.ok side u→side→(∀r,Rep I β n w u r→Rep I β n w v r)→o.wpIn (Vz ro) 0 P a w K QQ:=by
  intro side u hp hs hy
  have hne:lo.op≠.bad:=by intro hb;rw[hb] at hp;cases hp
  obtain⟨r,hr,hrep⟩:=J4 hI hE (Zb hop hne) hp hs
  refine Xd (k6 (Zb hop hne)) ?_
  unfold Oper.wp
  rw[hr,Oper.upon_value]
  exact hK r (hy r hrep)
 unfold Yh at hv
 rcases hg with⟨hg1,hg0⟩|⟨j,want,g,hg1,hg0,hg2,hg3⟩
 ·rw[hg0] at hv
  rw[k8 hg1,if_pos rfl]
  simp only at hv
  cases hp:xh e H lo.op with
  |bad=>rw[hp] at hv;exact hv.elim
  |ok side u=>
   rw[hp] at hv
   obtain⟨h1,hs⟩:=hv
   exact(pure hp h1 (fun _ h=>Wc hs h))
 ·rw[hg0] at hv
  simp only at hv
  rw[Ys hg1,Xg hg2 (by rw[hN];exact hg3)]
  cases hgp:kc (e.get g) want with
  |none=>rw[hgp] at hv;exact hv.elim
  |some p=>
   rw[hgp] at hv
   simp only at hv
   rw[Zl (hE g) hgp]
   cases hp:xh e H lo.op with
   |bad=>
    rw[hp] at hv
    obtain⟨rfl,hs⟩:=hv
    rw[if_neg (by simp)];refine⟨fun _ _=>trivial,?_⟩
    exact hK _ (Wc hs Qj)
   |ok side u=>
    rw[hp] at hv
    obtain⟨h1,hs⟩:=hv
    cases p with
    |true=>
     rw[if_pos rfl]
     exact(pure hp (h1 rfl) (fun r hr=>Wc hs (.cnd true u r (fun _=>hr) (fun h=>by cases h))))
    |false=>
     rw[if_neg (by simp)];refine⟨fun _ _=>trivial,?_⟩
     exact hK _ (Wc hs (.cnd false u undef (fun h=>by cases h) (fun _=>rfl)))
theorem Uy{ro:Option Nat}{ops:Array Oper}{QQ:Exit→Act→World→Prop}{K:Act→World→Prop}{KK:AVal→AHeap→Nat→Prop}{i:Nat}{o:Oper}{lo:LOper}(ho:ops[i]?=some o)(hlo:Zd P N ops o=some lo)(hv:Vv P e H n KK lo)
 (hI:Inv I β n H w) (hE:RepEnv I β n w e a) (hN:a.tmps.size=N.n) (hK:∀r v H' n' I' β' w',KK v H' n'→Inv I' β' n' H' w'→Rep I' β' n' w' v r→Ext I β n H w I' β' n' H' w'→K (a.put o.dst r) w'):wpOpIn (Vz ro) 0 P ops QQ i K a w:=by
 obtain⟨hd,hdst,hop,hg⟩:=va hlo
 unfold wpOpIn
 simp only[ho]
 have eff:wh P e H n KK lo.op→o.wpIn (Vz ro) 0 P a w K QQ:=by
  intro h
  have hne:lo.op≠.bad:=by intro hb;rw[hb] at h;exact h.elim
  refine Yk (k6 (Zb hop hne)) (Xa hI hE (Zb hop hne) h ?_)
  intro v w' ⟨r,H',n',I',β',h1,h2,h3,h4⟩
  exact hK v r H' n' I' β' w' h1 h2 h3 h4
 unfold Vv at hv
 rcases hg with⟨hg1,hg0⟩|⟨j,want,g,hg1,hg0,hg2,hg3⟩
 ·rw[hg0] at hv
  rw[k8 hg1,if_pos rfl]
  exact(eff hv)
 ·rw[hg0] at hv
  simp only at hv
  rw[Ys hg1,Xg hg2 (by rw[hN];exact hg3)]
  cases hgp:kc (e.get g) want with
  |none=>rw[hgp] at hv;exact hv.elim
  |some p=>
   rw[hgp] at hv
   simp only at hv
   rw[Zl (hE g) hgp]
   cases p with
   |true=>
    rw[if_pos rfl]
    rcases hv with⟨R,h1,h2⟩|hv
    ·have h:=h1 rfl
     have hne:lo.op≠.bad:=by intro hb;rw[hb] at h;exact h.elim
     refine Yk (k6 (Zb hop hne)) (Xa hI hE (Zb hop hne) h ?_)
     rintro v w' ⟨r,H',n',I',β',⟨rfl,rfl,rfl⟩,hI',hr',hx'⟩
     exact hK v _ _ _ _ _ _ h2 hI' (.cnd true r v (fun _=>hr') (fun h=>by cases h)) hx'
    ·exact(eff (hv.1 rfl))
   |false=>
    rw[if_neg (by simp)];refine⟨fun _ _=>trivial,?_⟩
    rcases hv with⟨R,_,h2⟩|hv
    ·exact hK undef _ _ _ _ _ _ h2 hI (.cnd false R undef (fun h=>by cases h) (fun _=>rfl)) (Ext.refl _ _ _ _ _ hI.fresh)
    ·obtain⟨u,h1,h2⟩:=hv.2 rfl
     exact hK _ _ _ _ _ _ _ h2 hI (Kt h1) (Ext.refl _ _ _ _ _ hI.fresh)
end
structure DOk(sw:Bool)(ops:Array Oper)(m:Nat)(lo:Nat→LOper)(loose:Nat→List Nat)(ord:Nat→Nat)(pre:Nat→List Nat):Prop where
 size:ops.size=m
 lt:∀p,p<m→ord p<m
 inj:∀p q,p<m→q<m→ord p=ord q→p=q
 surj:∀i,i<m→∃p,p<m∧ord p=i
 topo:∀p,p<m→∀d∈ki ops (ord p),∃q,q<p∧ord q=d
 just:∀j,j<m→∀i∈pre j,i∈ki ops j∨∃d∈ki ops j,i∈pre d
 war:∀p q,p<q→q<m→∀d,(lo q).dst=some d→d∈(lo p).looks→ord p∈pre (ord q)
 raw:∀p q,p<q→q<m→∀d,(lo p).dst=some d→d∈(lo q).looks→ord p∈pre (ord q)
 waw:∀p q,p<q→q<m→∀d,(lo p).dst=some d→(lo q).dst≠some d
 eff:∀p q,p<q→q<m→xy (lo p).op=false→z1d (lo p)=false→ord p∈pre (ord q)∨zf2 (lo q)=true∨(sw=true∧p+2=m∧z7r (lo p)=true∧z7r (lo q)=true)
 swl:sw=true→∀x,x+2<m→kw (lo x).op=true→ord x∈pre (ord (m-1))∧ord x∈pre (ord (m-2))
 loose:∀p q,p<q→q<m→xy (lo q).op=false→z1d (lo q)=false→kw (lo p).op=true→ord p∈pre (ord q)∨p∈loose q
theorem z3i{sw:Bool}{m:Nat}{los:List LOper}{i j:Nat}{pre loose:List Nat}{p:Nat}(h:z3j sw m los i j pre loose p=true) :
 i≠j∧(∀d,(los.getD j jm).dst=some d→d∈(los.getD i jm).looks→i∈pre)∧(∀d,(los.getD i jm).dst=some d→d∈(los.getD j jm).looks→i∈pre) ∧
 (∀d,(los.getD i jm).dst=some d→(los.getD j jm).dst≠some d)∧(xy (los.getD i jm).op=false→z1d (los.getD i jm)=false→i∈pre∨zf2 (los.getD j jm)=true∨(sw=true∧p+2=m∧z7r (los.getD i jm)=true∧z7r (los.getD j jm)=true)) ∧
 (xy (los.getD j jm).op=false→z1d (los.getD j jm)=false→kw (los.getD i jm).op=true→i∈pre∨p∈loose):=by
 unfold z3j at h
 simp only[pZ,Bool.or_eq_true,List.contains_iff_mem] at h
 obtain⟨⟨⟨⟨⟨h1,h2⟩,h3⟩,h4⟩,h5⟩,h6⟩:=h
 refine⟨by simpa using h1,?_,?_,?_,?_,?_⟩
 ·intro d hd hl
  rcases h2 with h2|h2
  ·exact h2
  ·rw[hd] at h2;simp at h2;exact absurd hl h2
 ·intro d hd hl
  rcases h3 with h3|h3
  ·exact h3
  ·rw[hd] at h3;simp at h3;exact absurd hl h3
 ·intro d hd hd2
  rw[hd,hd2] at h4
  simp at h4
 ·intro hp hm
  rcases h5 with(((h5|h5)|h5)|h5)|h5
  ·rw[hp] at h5;cases h5
  ·rw[hm] at h5;cases h5
  ·exact .inl h5
  ·exact .inr (.inl h5)
  ·exact .inr (.inr ⟨h5.1.1.1,Nat.eq_of_beq_eq_true h5.1.1.2,h5.1.2,h5.2⟩)
 ·intro hp hm hl
  rcases h6 with(((h6|h6)|h6)|h6)|h6
  ·rw[hp] at h6;cases h6
  ·rw[hm] at h6;cases h6
  ·rw[hl] at h6;cases h6
  ·exact .inl h6
  ·exact .inr h6
theorem z0l{sw:Bool}{ops:Array Oper}{los:List LOper}{items:List DItem}(h:Qr sw ops los=some items) :
 ∃ (ord:Nat→Nat) (pre loose:Nat→List Nat),DOk sw ops ops.size (fun p=>los.getD (ord p) jm) loose ord pre∧items.length=ops.size∧los.length=ops.size ∧
  ∀i it,items[i]?=some it→it.lo=los.getD (ord i) jm∧it.loose=loose i:=by
 unfold Qr at h
 simp only at h
 generalize z70 ops los ops.size []=acc at h
 generalize z4r los acc=loose at h
 split at h<;>try (cases h;done)
 rename_i hc
 simp only[p7] at h
 subst h
 unfold zhe at hc
 simp only[pZ,beq_iff_eq,List.all_eq_true,qA,List.any_eq_true,decide_eq_true_eq] at hc
 obtain⟨⟨⟨⟨⟨⟨⟨c1,c2⟩,c3⟩,c4⟩,c5⟩,c6⟩,c8⟩,c7⟩:=hc
 have key:∀x∈acc,∃p,p<ops.size∧(acc.getD p (0,[])).1=x.1:=by
  intro x hx
  obtain⟨p,hp⟩:=List.getElem?_of_mem hx
  have hlt:p<acc.length:=by
   rcases pD p acc.length with h|h
   ·exact h
   ·rw[pQ h] at hp;cases hp
  exact⟨p,by omega,by rw[qN,hp];rfl⟩
 have mem:∀p,p<ops.size→acc.getD p (0,[])∈acc:=by
  intro p hp
  rw[qN,pP (by omega)]
  exact List.getElem_mem _
 have pair:∀p q,p<q→q<ops.size→_:=fun p q hpq hq=>z3i (c7 q hq p hpq)
 refine⟨fun p=>(acc.getD p (0,[])).1,z3w acc,fun q=>loose.getD q [],⟨rfl,?_,?_,?_,?_,?_,?_,?_,?_,?_,?_,?_⟩,by simp[c1],c2,?_⟩
 ·intro p hp
  exact c4 _ (List.mem_map.2 ⟨_,mem p hp,rfl⟩)
 ·intro p q hp hq he
  rcases qG p q with h|h|h
  ·exact absurd he (pair p q h hq).1
  ·exact h
  ·exact absurd he.symm (pair q p h hp).1
 ·intro i hi
  obtain⟨x,hx,he⟩:=c3 i hi
  obtain⟨p,hp,hpe⟩:=key x hx
  exact⟨p,hp,by rw[hpe];exact he⟩
 ·intro p hp d hd
  obtain⟨x,hx,he⟩:=c5 p hp d hd
  obtain⟨q,hq⟩:=List.getElem?_of_mem hx
  have hqp:q<p:=by
   rcases pD q p with h|h
   ·exact h
   ·rw[pQ (by simp;omega)] at hq;cases hq
  refine⟨q,hqp,?_⟩
  rw[q7 hqp] at hq
  show(acc.getD q (0,[])).1=d
  rw[qN,hq]
  exact he
 ·intro j hj i hi
  obtain⟨x,hx,he⟩:=c3 j hj
  obtain⟨p,hp,hpe⟩:=key x hx
  have hj2:(acc.getD p (0,[])).1=j:=by rw[hpe];exact he
  have:=c6 p hp i (by rw[hj2];exact hi)
  rw[hj2] at this
  simp only[Bool.or_eq_true,List.contains_iff_mem,List.any_eq_true] at this
  exact this
 ·exact fun p q hpq hq=>(pair p q hpq hq).2.1
 ·exact fun p q hpq hq=>(pair p q hpq hq).2.2.1
 ·exact fun p q hpq hq=>(pair p q hpq hq).2.2.2.1
 ·exact fun p q hpq hq=>(pair p q hpq hq).2.2.2.2.1
 ·intro hsw x hx hl
  simp only[Bool.or_eq_true,Bool.not_eq_true',hsw,Bool.true_eq_false,false_or,List.all_eq_true,qA,pZ,List.contains_iff_mem,Bool.and_eq_false_imp] at c8
  rcases c8 x (by omega) with h|h
  ·rw[h (Nat.ble_eq_true_of_le (by omega))] at hl;cases hl
  ·exact h
 ·exact fun p q hpq hq=>(pair p q hpq hq).2.2.2.2.2
 ·intro i it hi
  simp only[qP,p8] at hi
  obtain⟨a,ha,rfl⟩:=hi
  have:a=i:=by
   rcases pD i acc.length with h|h
   ·rw[List.getElem?_range h] at ha;exact(Option.some.inj ha).symm
   ·rw[pQ (by simpa using h)] at ha;cases ha
  subst this
  exact⟨rfl,rfl⟩
theorem wo{ops:Array Oper}{los:List LOper}{lc:LCode}(h:K9 ops los=some lc):(∃items,lc=.draw items)∨∃a b items,lc=.draw2 a b items:=by
 unfold K9 at h
 split at h
 ·cases h;exact .inl ⟨_,rfl⟩
 ·unfold V2 at h
  split at h<;>try (cases h;done)
  split at h<;>try (cases h;done)
  split at h<;>try (cases h;done)
  split at h<;>try (cases h;done)
  cases h;exact .inr ⟨_,_,_,rfl⟩
section
variable {sw:Bool} {ops:Array Oper} {N:Lay} {m:Nat} {lo:Nat→LOper} {loose:Nat→List Nat} {ord:Nat→Nat} {pre:Nat→List Nat}
def Down(ops:Array Oper)(listed:Array Bool):Prop:=∀j,listed.getD j false=true→∀d∈ki ops j,listed.getD d false=true
theorem DOk.ancestors(D:DOk sw ops m lo loose ord pre){listed:Array Bool}(hd:Down ops listed):∀p,p<m→(∀d∈ki ops (ord p),listed.getD d false=true)→∀i∈pre (ord p),listed.getD i false=true:=by
 intro p
 induction p using Nat.strongRecOn with
 |_ p ih=>
  intro hp hl i hi
  rcases D.just _ (D.lt p hp) i hi with h|⟨d,h1,h2⟩
  ·exact hl i h
  ·obtain⟨q,hq,rfl⟩:=D.topo p hp d h1
   exact ih q hq (by omega) (hd _ (hl _ h1)) i h2
def Yu(m:Nat)(lo:Nat→LOper)(e0:Env)(v:Nat→AVal)(S:Nat→Bool)(t:Nat):AVal:=
 match (List.range m).find? (fun p=>S p&&((lo p).dst==some t)) with
 |some p=>v p
 |none=>e0.get t
theorem V8{α:Type}{f g:α→Bool}:∀ {l:List α},(∀x∈l,f x=g x)→l.find? f=l.find? g
 |[],_=>rfl
 |x::l,h=>by
  simp only[List.find?_cons,h x (List.mem_cons_self ..)]
  rw[V8 (fun y hy=>h y (List.mem_cons_of_mem _ hy))]
theorem je{e0:Env}{v v':Nat→AVal}{S S':Nat→Bool}{t:Nat}(h:∀p,p<m→(lo p).dst=some t→S p=S' p∧(S p=true→v p=v' p)):Yu m lo e0 v S t=Yu m lo e0 v' S' t:=by
 unfold Yu
 have e:(List.range m).find? (fun p=>S p&&((lo p).dst==some t))=(List.range m).find? (fun p=>S' p&&((lo p).dst==some t)):=by
  refine V8 fun p hp=>?_
  by_cases hd:(lo p).dst=some t
  ·rw[(h p (qA.1 hp) hd).1]
  ·have:((lo p).dst==some t)=false:=by simpa using hd
   rw[this,Bool.and_false,Bool.and_false]
 rw[←e]
 cases hf:(List.range m).find? (fun p=>S p&&((lo p).dst==some t)) with
 |none=>rfl
 |some p=>
  have h1:=List.find?_some hf
  simp only[pZ,beq_iff_eq] at h1
  exact(h p (qA.1 (List.mem_of_find?_eq_some hf)) h1.2).2 h1.1
theorem Xl(D:DOk sw ops m lo loose ord pre){e0:Env}{v:Nat→AVal}{S:Nat→Bool}{p t:Nat}(hp:p<m)(hS:S p=true)(hd:(lo p).dst=some t):Yu m lo e0 v S t=v p:=by
 unfold Yu
 cases hf:(List.range m).find? (fun p=>S p&&((lo p).dst==some t)) with
 |none=>
  have:=List.find?_eq_none.1 hf p (qA.2 hp)
  simp[hS,hd] at this
 |some q=>
  have h1:=List.find?_some hf
  simp only[pZ,beq_iff_eq] at h1
  have hq:=qA.1 (List.mem_of_find?_eq_some hf)
  rcases qG p q with h|h|h
  ·exact absurd h1.2 (D.waw p q h hq t hd)
  ·rw[h]
  ·exact absurd hd (D.waw q p h hp t h1.2)
end
end Go.Fx
namespace Go.Fx
variable {sw:Bool} {P:Program} {ops:Array Oper} {N:Lay} {m:Nat} {lo:Nat→LOper} {loose:Nat→List Nat} {ord:Nat→Nat} {pre:Nat→List Nat}
def unl(m:Nat)(listed:Array Bool):Nat:=((List.range m).filter (fun i=>!listed.getD i false)).length
theorem z69{α:Type}{f g:α→Bool}:∀ {l:List α},(∀x,g x=true→f x=true)→(∃x∈l,f x=true∧g x=false)→(l.filter g).length<(l.filter f).length
 |[],_,h=>by obtain⟨x,hx,_⟩:=h;cases hx
 |y::l,hfg,h=>by
  have hle:∀l:List α,(l.filter g).length≤(l.filter f).length:=by
   intro l
   induction l with
   |nil=>simp
   |cons z l ih=>
    simp only[List.filter_cons]
    cases hg:g z with
    |true=>rw[if_pos rfl,if_pos (hfg z hg)];simp only[pO];omega
    |false=>
     rw[if_neg (by simp)]
     split
     ·simp only[pO];omega
     ·exact ih
  obtain⟨x,hx,h1,h2⟩:=h
  simp only[List.filter_cons]
  rcases List.mem_cons.1 hx with rfl|hx
  ·rw[h1,h2,if_pos rfl,if_neg (by simp)]
   have:=hle l
   simp only[pO];omega
  ·have ih:=z69 hfg ⟨x,hx,h1,h2⟩
   cases hg:g y with
   |true=>rw[if_pos rfl,if_pos (hfg y hg)];simp only[pO];omega
   |false=>
    rw[if_neg (by simp)]
    split
    ·simp only[pO];omega
    ·exact ih
def wr(m:Nat)(lo:Nat→LOper)(e0:Env)(v:Nat→AVal)(p:Nat):Env:=(lo p).looks.map fun t=>(t,Yu m lo e0 v (fun x=>decide (x<p)) t)
def Jw(v:Nat→AVal)(q:Nat)(x:AVal):Nat→AVal:=fun p=>if p=q then x else v p
theorem wm{e0:Env}{v:Nat→AVal}{q p:Nat}{x:AVal}(h:p≤q):wr m lo e0 (Jw v q x) p=wr m lo e0 v p:=by
 unfold wr
 refine pX fun t _=>?_
 congr 1
 refine je fun r hr hd=>⟨rfl,fun hlt=>?_⟩
 have:r<p:=by simpa using hlt
 unfold Jw
 rw[if_neg (by omega)]
theorem zbm{e0:Env}{v:Nat→AVal}{p t:Nat}:(wr m lo e0 v p).get t=if t∈(lo p).looks then Yu m lo e0 v (fun x=>decide (x<p)) t else .any:=by
 unfold wr
 induction(lo p).looks with
 |nil=>simp[Env.get]
 |cons u l ih=>
  simp only[List.map_cons,Env.get,ih]
  by_cases h:u=t
  ·subst h;simp
  ·rw[if_neg h]
   by_cases h2:t∈l
   ·rw[if_pos h2,if_pos (List.mem_cons_of_mem _ h2)]
   ·rw[if_neg h2,if_neg (by intro h3;rcases List.mem_cons.1 h3 with rfl|h3;exact h rfl;exact h2 h3)]
theorem zfr{listed:Array Bool}{i:Nat}(hi:i<listed.size):listed.getD i true=listed.getD i false:=by simp[hi]
section
variable {P:Program} {I:Nat→Nat→Prop} {β:Id→Option CLoc} {n:Nat} {H:AHeap} {w:World}
theorem zrj{vm:Bool}{zs:List AVal}:∀ {op:Op},ql P vm op=some (.alloc zs)→∃t,op=.alloc t∧xf P t=some zs:=by
 intro op hl
 cases op with
 |alloc t=>
  refine⟨t,rfl,?_⟩
  simp only[ql] at hl
  repeat' (split at hl<;>try (cases hl;done))
  all_goals (first|(simp only[p7,LOp.alloc.injEq] at hl;subst hl;assumption)|(simp only[p8] at hl;obtain⟨z,hz,hl⟩:=hl;cases hl;exact hz))
 |call c=>
  exfalso
  obtain⟨callee,args,argTypes⟩:=c
  cases callee with
  |_=>
   simp only[ql] at hl
   unfold Wm at hl
   simp only at hl
   repeat' (split at hl<;>try (cases hl;done))
   all_goals (first|(simp only[p8] at hl;obtain⟨_,_,hl⟩:=hl;cases hl;done)|(cases hl;done)|skip)
 |_=>
  exfalso
  simp only[ql] at hl
  try unfold Ve at hl
  repeat' (split at hl<;>try (cases hl;done))
  all_goals (first|(simp only[p8] at hl;obtain⟨_,_,hl⟩:=hl;cases hl;done)|(cases hl;done)|skip)
def zqk(I:Nat→Nat→Prop)(β:Id→Option CLoc)(K0:Nat)(w:World)(c:CLoc):Prop:=
 ∀b k,c.has b k→¬I b k∧(∀id d,β id=some d→¬d.has b k)∧K0≤b∧b<w.heap.size
theorem zj7{I':Nat→Nat→Prop}{β':Id→Option CLoc}{n':Nat}{H':AHeap}{w':World}{K0:Nat}{c:CLoc}(hf:zqk I β K0 w c)(hX:Ext I β n H w I' β' n' H' w'):zqk I' β' K0 w' c:=by
 intro b k hk
 obtain⟨h1,h2,h3,h4⟩:=hf b k hk
 refine⟨fun h=>?_,fun id d hd hh=>?_,h3,Nat.lt_of_lt_of_le h4 hX.size⟩
 ·obtain⟨id,d,g1,g2,_⟩:=hX.immNew b k h h1 h4
  exact h2 id d g1 g2
 ·by_cases hid:id.1<n
  ·rcases hX.old id hid with g|⟨g,_⟩
   ·exact h2 id d (g▸hd) hh
   ·rw[g] at hd;cases hd
  ·rcases hX.new id d b k (by omega) hd hh with g|⟨i0,c0,g1,g2,_⟩
   ·omega
   ·exact h2 i0 c0 g1 g2
theorem zmd{I':Nat→Nat→Prop}{β':Id→Option CLoc}{n':Nat}{H':AHeap}{w':World}{K0:Nat}{c:CLoc}{zs:List AVal}(hI:Inv I β n H w)(hf:zqk I β K0 w c)(hX:Ext I β n H w I' β' n' H' w')(hB:RepB I β n w c (.one zs)):RepB I' β' n' w' c (.one zs):=by
 refine hB.mono' hX.imm (hX.heapI hI) hX.le hX.back (fun arr el fr h=>?_) (fun b k v hk hv=>?_) (fun o ho hk hm=>?_)
 ·obtain⟨arr',fr',g1,g2,g3⟩:=hX.shape c.blk arr el fr h
  refine⟨arr',fr',g1,g2,?_⟩
  rcases g3 with g3|g3
  ·exact .inl g3
  ·refine .inr fun k hk hc=>?_
   obtain⟨id,d,e1,_,e3⟩:=g3 k hk
   exact(hf c.blk k hc).2.1 id d e1 e3
 ·exact hX.cells b k v hv (fun id d e1 _ e3=>(hf b k hk).2.1 id d e1 e3)
 ·exact hX.maps c.blk o ho hm (fun id d e1 _ e3=>(hf c.blk 0 hk).2.1 id d e1 e3)
theorem ze2{K0:Nat}{c:CLoc}{zs:List AVal}(hI:Inv I β n H w)(hf:zqk I β K0 w c)(hB:RepB I β n w c (.one zs)):Inv I (upd β (n,0) (some c)) (n+1) (((n,0),.one zs)::H) w:=by
 have hup:∀ (id:Id) d,id.1<n→upd β (n,0) (some c) id=some d→β id=some d:=fun id d hid h=>by rwa [ze _ _ (vn hid)] at h
 have hmono:∀ {d:CLoc} {b:ABlock},RepB I β n w d b→RepB I (upd β (n,0) (some c)) (n+1) w d b:=fun h=>
  h.mono' (fun _ _ h=>h) (fun _ _ _=>rfl) (qK n) hup (fun arr el fr h=>⟨arr,fr,h,rfl,.inl rfl⟩) (fun _ _ _ _ h=>h) (fun _ _ _ h=>h)
 refine⟨fun id blk hid=>?_,fun i j d e b k hi hj hd he=>?_,fun i d b k hi hd=>?_,hI.imm,fun id hid=>?_,hI.glob⟩
 ·by_cases h:(n,0)=id
  ·subst h
   rw[AHeap.get_cons_same] at hid
   simp only[p7] at hid
   subst hid
   exact⟨c,qr _ _ _,hmono hB⟩
  ·rw[AHeap.get_cons_other _ _ h] at hid
   obtain⟨d,hd,hb⟩:=hI.blocks id blk hid
   exact⟨d,by rw[ze _ _ (fun h'=>h h'.symm)];exact hd,hmono hb⟩
 ·rcases j6 hi hI.fresh with⟨rfl,rfl⟩|⟨_,h1⟩
  ·rcases j6 hj hI.fresh with⟨rfl,_⟩|⟨_,h2⟩
   ·rfl
   ·exact absurd he ((hf b k hd).2.1 j e h2)
  ·rcases j6 hj hI.fresh with⟨rfl,rfl⟩|⟨_,h2⟩
   ·exact absurd hd ((hf b k he).2.1 i d h1)
   ·exact hI.inj i j d e b k h1 h2 hd he
 ·rcases j6 hi hI.fresh with⟨rfl,rfl⟩|⟨_,h1⟩
  ·exact⟨(hf b k hd).1,(hf b k hd).2.2.2⟩
  ·exact hI.own i d b k h1 hd
 ·rw[ze _ _ (fun h=>by subst h;exact absurd hid (qC n))]
  exact hI.fresh id (by omega)
theorem zg6{I0:Nat→Nat→Prop}{β0:Id→Option CLoc}{n0:Nat}{H0:AHeap}{w0:World}{c:CLoc}{zs:List AVal}(hI:Inv I β n H w)(hf:zqk I β w0.heap.size w c)(hX:Ext I0 β0 n0 H0 w0 I β n H w) :
 Ext I0 β0 n0 H0 w0 I (upd β (n,0) (some c)) (n+1) (((n,0),.one zs)::H) w:=by
 refine⟨hX.os,hX.tape,hX.output,hX.size,hX.frame,hX.cells,hX.shape,hX.maps,hX.imm,hX.immNew,fun id hid=>?_,fun id d b k hid hd hk=>?_,fun id hid hg=>?_,Nat.le_succ_of_le hX.le⟩
 ·rw[ze _ _ (vn (Nat.lt_of_lt_of_le hid hX.le))];exact hX.old id hid
 ·rcases j6 hd hI.fresh with⟨rfl,rfl⟩|⟨_,h1⟩
  ·exact .inl (hf b k hk).2.2.1
  ·exact hX.new id d b k hid h1 hk
 ·rw[AHeap.get_cons_other _ _ (vn (Nat.lt_of_lt_of_le hid hX.le)).symm] at hg
  exact hX.dom id hid hg
theorem zei(hI:Inv I β n H w)(o:Obj):Inv I β n H (w.alloc o)∧Ext I β n H w I β n H (w.alloc o):=by
 have hp:Pushed w (w.alloc o) o:=⟨rfl,⟨rfl,fun _=>p9 _⟩,rfl,rfl⟩
 exact wk hI hp.chg (p9 n) (fun _ _ h=>h.elim) (fun _ _ h=>h) (fun _ _ h h'=>absurd h h') (fun id hid=>.inl rfl) (fun id c b k hid hc _=>by rw[hI.fresh id hid] at hc;cases hc) hI.fresh
  (fun i j c d b k hi hj h h' _=>hI.inj i j c d b k hi hj h h') (fun _ _ _ _ _ _ h=>h) (fun _ _ h=>h) (fun id blk hid=>.inl ⟨hid,rfl,fun _ _ _ _ _ h=>h⟩)
theorem zly{N:Lay}{ro:Option Nat}{ops:Array Oper}{QQ:Exit→Act→World→Prop}{K:Act→World→Prop}{i:Nat}{o:Oper}{lo:LOper}{a:Act}{zs:List AVal}(ho:ops[i]?=some o)(hlo:Zd P N ops o=some lo)(hop:lo.op=.alloc zs)(hg:lo.guard=none)(hI:Inv I β n H w){K0:Nat}(hK0:K0≤w.heap.size)
 (hK:∀c w',c.blk=w.heap.size→Inv I β n H w'→Ext I β n H w I β n H w'→zqk I β K0 w' c→RepB I β n w' c (.one zs)→K (a.put o.dst (.pointer (some ⟨c.blk,c.base,none⟩))) w'):wpOpIn (Vz ro) 0 P ops QQ i K a w:=by
 obtain⟨hd,hdst,hopx,hgx⟩:=va hlo
 have hne:lo.op≠.bad:=by rw[hop];exact fun h=>by cases h
 have hl:=Zb hopx hne
 rw[hop] at hl
 obtain⟨t,h1,hz⟩:=zrj hl
 unfold wpOpIn
 simp only[ho]
 rcases hgx with⟨hg1,hg0⟩|⟨j,want,g,hg1,hg0,hg2,hg3⟩
 ·rw[k8 hg1,if_pos rfl]
  refine Xd (k6 (Zb hopx hne)) ?_
  obtain⟨zv,zi,_,_,_,hzv,_⟩:=wy (I:=I) (β:=β) (n:=n) (w:=w) hz
  have hex:(execOp a.eval o).run P w=.ok (.value (.pointer (some ⟨w.heap.size,0,none⟩))) (w.alloc (.cells zv.cells t)):=by
   obtain⟨dst,op,type,pos,after,guard⟩:=o
   simp only at h1
   subst h1
   simp only[execOp,pE,Instr.alloc,hzv,pB,newVar,newRow,run_newObj,pH,q9]
  unfold Oper.wp
  rw[hex,Oper.upon_value]
  have hp:=jo w (.cells zv.cells t)
  obtain⟨i1,x1⟩:=zei hI (.cells zv.cells t)
  obtain⟨zv2,zi2,_,_,_,hzv2,hzr2⟩:=wy (I:=I) (β:=β) (n:=n) (w:=w) hz
  have:zv2=zv:=by rw[hzv] at hzv2;cases hzv2;rfl
  subst this
  obtain⟨k1,_⟩:=z3d hI hp (fun k _=>by simp) EndOk.zero (uv hzr2)
  obtain⟨c,hc,hB⟩:=k1.blocks (n,0) _ (AHeap.get_cons_same _ _ _)
  rw[qr] at hc
  simp only[p7] at hc
  subst hc
  refine hK ⟨w.heap.size,0,zv2.cells.size,0,zs.length⟩ _ rfl i1 x1 (fun b k hk=>?_) ?_
  ·have hb:w.heap.size=b:=hk.1
   subst hb
   refine⟨fun h=>?_,fun id d e1 e3=>?_,hK0,by simp⟩
   ·obtain⟨v,hv⟩:=hI.imm _ _ h
    exact absurd (ve hv) (Nat.lt_irrefl _)
   ·exact Xu hI e1 e3 (p9 _)
  ·refine wl.2 ⟨rfl,.inl ⟨zv2.cells,t,(0,0),hp.new,p9 _,fun _=>⟨rfl,rfl,EndOk.zero⟩⟩,fun k _ hk=>hp.unfrozen (fun k _=>by simp) k hk,p9 _,?_,?_,?_⟩
   ·simpa using(uv hzr2).1
   ·exact(uv hzr2).2.1
   ·intro i r j x hi hj
    obtain⟨v,g1,g2,g3⟩:=(uv hzr2).2.2 i r j x hi hj
    exact⟨v,by rw[hp.cell];exact g1,g2,g3.mono x1 hI⟩
 ·rw[hg0] at hg;cases hg
end
section
variable (D:DOk sw ops m lo loose ord pre)
include D
theorem DOk.agree{listed:Array Bool}(hd:Down ops listed){e0:Env}{v:Nat→AVal}{p t:Nat}(hp:p<m)(hun:listed.getD (ord p) false=false)(hall:∀d∈ki ops (ord p),listed.getD d false=true)(ht:t∈(lo p).looks) :
 Yu m lo e0 v (fun x=>listed.getD (ord x) false) t=Yu m lo e0 v (fun x=>decide (x<p)) t:=by
 refine je fun r hr hdst=>⟨?_,fun _=>rfl⟩
 have anc:=D.ancestors hd p hp hall
 rcases qG r p with h|h|h
 ·rw[decide_eq_true h]
  exact anc _ (D.raw r p h hp t hdst ht)
 ·subst h
  rw[hun,decide_eq_false (by omega)]
 ·rw[decide_eq_false (by omega)]
  cases hl:listed.getD (ord r) false with
  |false=>rfl
  |true=>
   have:=D.ancestors hd r hr (hd _ hl) _ (D.war p r h hr t hdst ht)
   rw[hun] at this;cases this
omit D in
theorem Kh{listed:Array Bool}{i j:Nat}(hi:i<listed.size):(listed.setIfInBounds i true).getD j false=if i=j then true else listed.getD j false:=by
 by_cases h:i=j
 ·subst h;simp[hi]
 ·simp[h]
omit D in
theorem z9q{a:Act}{d:Nat}{v:Value}(h:d<a.tmps.size):(a.put (some d) v).tmps.getD d undef=v:=by simp[Act.put,h]
omit D in
theorem z3q{a:Act}{d:Option Nat}{t:Nat}{v:Value}(h:d≠some t):(a.put d v).tmps.getD t undef=a.tmps.getD t undef:=by
 cases d with
 |none=>rfl
 |some d=>
  have hdt:d≠t:=fun h'=>h (by rw[h'])
  simp[Act.put,Array.getD_eq_getD_getElem?,hdt]
omit D in
theorem zp1{listed:Array Bool}(hs:listed.size=m){i:Nat}(hi:i<m)(hun:listed.getD i false=false){fuel:Nat}(hf:unl m listed≤fuel+1):unl m (listed.setIfInBounds i true)≤fuel:=by
 have:unl m (listed.setIfInBounds i true)<unl m listed:=by
  refine z69 (fun x hx=>?_) ⟨i,qA.2 hi,by rw[hun];rfl,by rw[Kh (by omega),if_pos rfl];rfl⟩
  rw[Kh (by omega)] at hx
  split at hx
  ·simp at hx
  ·exact hx
 omega
omit D in
theorem Down.set{listed:Array Bool}(hd:Down ops listed)(hs:listed.size=m){i:Nat}(hi:i<m)(hall:∀d∈ki ops i,listed.getD d false=true):Down ops (listed.setIfInBounds i true):=by
 intro j hj d hdj
 rw[Kh (by omega)] at hj ⊢
 split
 ·rfl
 ·split at hj
  ·rename_i h;subst h;exact hall d hdj
  ·exact hd j hj d hdj
omit D in
theorem zk9{l:LOper}(h:z1d l=true):∃s zs len parts,l.op=.mkSl true s zs len parts:=by
 unfold z1d at h
 split at h
 ·rename_i h1;exact⟨_,_,_,_,h1⟩
 ·cases h
omit D in
theorem Up{l:LOper}(h:z1d l=true):xy l.op=false:=by
 obtain⟨_,_,_,_,h1⟩:=zk9 h
 rw[h1];rfl
omit D in
theorem z18{l:LOper}{zs:List AVal}(h:z1d l=true)(ha:l.op=.alloc zs):False:=by
 obtain⟨_,_,_,_,h1⟩:=zk9 h
 rw[h1] at ha;cases ha
omit D in
theorem z8m{e:Env}{H:AHeap}{n:Nat}{K:AVal→AHeap→Nat→Prop}{s:Nat}{zs:List AVal}{len:Nat}{parts:List (Nat×LOpd)}(hx:wh P e H n K (.mkSl true s zs len parts)) :
 ∃val,(∀ (H:AHeap) (n:Nat) (K':AVal→AHeap→Nat→Prop),K' val H n→wh P e H n K' (.mkSl true s zs len parts))∧K val H n:=by
 simp only[wh] at hx ⊢
 split at hx<;>try (exact hx.elim)
 rename_i p rows hrows
 split at hx<;>try (exact hx.elim)
 rename_i rows' himm
 obtain⟨g1,g2,g3,g4⟩:=hx
 exact⟨_,fun H n K' hk=>⟨g1,g2,g3,hk⟩,g4⟩
omit D in
theorem zkr{l:LOper}{e:Env}{H:AHeap}{n:Nat}{K:AVal→AHeap→Nat→Prop}(h:z1d l=true)(hx:Vv P e H n K l):∃val,(∀H n,Vv P e H n (fun x H' n'=>x=val∧H'=H∧n'=n) l)∧K val H n:=by
 obtain⟨s,zs,len,parts,h1⟩:=zk9 h
 unfold Vv at hx ⊢
 rw[h1] at hx ⊢
 cases hg:l.guard with
 |none=>
  rw[hg] at hx
  simp only at hx ⊢
  obtain⟨val,k1,k2⟩:=z8m hx
  exact⟨val,fun H n=>k1 H n _ ⟨rfl,rfl,rfl⟩,k2⟩
 |some gw=>
  obtain⟨g,want⟩:=gw
  rw[hg] at hx
  simp only at hx ⊢
  cases hp:kc (e.get g) want with
  |none=>rw[hp] at hx;exact hx.elim
  |some p=>
   rw[hp] at hx
   simp only at hx ⊢
   rcases hx with⟨R,k1,k2⟩|⟨k1,k2⟩
   ·refine⟨.cnd p R,fun H n=>.inl ⟨R,fun hpt=>?_,rfl,rfl,rfl⟩,k2⟩
    obtain⟨val,q1,q2⟩:=z8m (k1 hpt)
    obtain⟨rfl,_,_⟩:=q2
    exact q1 H n _ ⟨rfl,rfl,rfl⟩
   ·cases p with
    |true=>
     obtain⟨val,q1,q2⟩:=z8m (k1 rfl)
     exact⟨val,fun H n=>.inr ⟨fun _=>q1 H n _ ⟨rfl,rfl,rfl⟩,nofun⟩,q2⟩
    |false=>
     obtain⟨u,hu,hk⟩:=k2 rfl
     exact⟨u,fun H n=>.inr ⟨nofun,fun _=>⟨u,hu,rfl,rfl,rfl⟩⟩,hk⟩
def zn5(P:Program)(m:Nat)(lo:Nat→LOper)(e0:Env)(v:Nat→AVal)(H:AHeap)(p:Nat):Prop:=
 (z1d (lo p)=false→(Yh (wr m lo e0 v p) H (lo p)).gives (v p))∧(z1d (lo p)=true→∀H n,Vv P (wr m lo e0 v p) H n (fun x H' n'=>x=v p∧H'=H∧n'=n) (lo p))
def Ear(lo:Nat→LOper)(I:Nat→Nat→Prop)(β:Id→Option CLoc)(n:Nat)(w:World)(K0:Nat)(a:Act)(loc:Nat→CLoc)(p:Nat):Prop:=
 zqk I β K0 w (loc p)∧∃zs d,(lo p).op=.alloc zs∧(lo p).guard=none∧(lo p).dst=some d∧RepB I β n w (loc p) (.one zs)∧a.tmps.getD d undef=.pointer (some ⟨(loc p).blk,(loc p).base,none⟩)
end
theorem Yg{l:LOper}(h:z7r l=true):l.dst=none∧l.guard=none∧∃k a x,l.op=.store k a x:=by
 unfold z7r at h
 split at h
 ·rename_i g1 g2 g3;exact⟨g3,g2,_,_,_,g1⟩
 ·cases h
theorem ze1{l:LOper}(h:z7r l=true):xy l.op=false∧z1d l=false∧kw l.op=false:=by
 obtain⟨_,_,k,a,x,h1⟩:=Yg h
 unfold z1d
 rw[h1]
 exact⟨rfl,rfl,rfl⟩
def ApR(sw:Bool)(l l':LOper)(R:Env→AHeap→Nat→Prop):Prop:=
 sw=true→∀k a x k' a' x',l.op=.store k a x→l'.op=.store k' a' x'→∀e H n,R e H n→z6i (a.ev e) (a'.ev e)
theorem zby{x y:AVal}(h:z6i x y):z6i y x:=by
 unfold z6i at h
 split at h
 ·exact fun h'=>h h'.symm
 ·exact h.elim
theorem AHeap.set_comm:∀ (H:AHeap) {b c:Id} (x y:ABlock),b≠c→(H.set b x).set c y=(H.set c y).set b x
 |[],_,_,_,_,_=>rfl
 |(k,v)::r,b,c,x,y,h=>by
  by_cases h1:k=b
  ·subst h1
   by_cases h2:k=c
   ·exact absurd h2 h
   ·simp[AHeap.set,h2]
  ·by_cases h2:k=c
   ·subst h2
    simp[AHeap.set,h1]
   ·simp[AHeap.set,h1,h2,AHeap.set_comm r x y h]
def sg(q x:Nat):Nat:=if x=q then q+1 else if x=q+1 then q else x
theorem zbk{q:Nat}:sg q q=q+1:=by simp[sg]
theorem zjq{q:Nat}:sg q (q+1)=q:=by simp[sg]
theorem V6{q x:Nat}(h:x<q):sg q x=x:=by unfold sg;rw[if_neg (by omega),if_neg (by omega)]
theorem zp5{q x m:Nat}(hm:q+2=m)(h:x<m):sg q x<m:=by unfold sg;split;omega;split<;>omega
theorem zpu{q x:Nat}:sg q (sg q x)=x:=by
 by_cases h:x=q
 ·subst h;rw[zbk,zjq]
 ·by_cases h2:x=q+1
  ·subst h2;rw[zjq,zbk]
  ·have:sg q x=x:=by unfold sg;rw[if_neg h,if_neg h2]
   rw[this,this]
theorem Us{q x y m:Nat}(hm:q+2=m)(h:x<y)(hy:y<m):(x=q∧y=q+1)∨(x<q∧sg q x=x∧x<sg q y∧sg q y<m):=by
 by_cases h1:x=q
 ·left;omega
 ·right
  have:x<q:=by omega
  refine⟨this,V6 this,?_,zp5 hm hy⟩
  unfold sg;split;omega;split<;>omega
theorem DOk.swap(D:DOk sw ops m lo loose ord pre){q:Nat}(hsw:sw=true)(hm:q+2=m)(h1:z7r (lo q)=true)(h2:z7r (lo (q+1))=true)(hnd:ord q∉ki ops (ord (q+1))) :
 DOk sw ops m (fun x=>lo (sg q x)) (fun x=>loose (sg q x)) (fun x=>ord (sg q x)) pre:=by
 have d1:=(Yg h1).1
 have d2:=(Yg h2).1
 refine⟨D.size,fun p hp=>D.lt _ (zp5 hm hp),fun p q' hp hq h=>?_,fun i hi=>?_,fun p hp d hd=>?_,D.just,fun p q' hpq hq d hd hl=>?_,fun p q' hpq hq d hd hl=>?_,fun p q' hpq hq d hd hd2=>?_,fun p q' hpq hq hp hmf=>?_,fun _ x hx hl=>?_,fun p q' hpq hq hp hmf hl=>?_⟩
 ·have:=D.inj _ _ (zp5 hm hp) (zp5 hm hq) h
  rw[←zpu (q:=q) (x:=p),this,zpu]
 ·obtain⟨p,hp,rfl⟩:=D.surj i hi
  exact⟨sg q p,zp5 hm hp,by rw[zpu]⟩
 ·obtain⟨y,hy,rfl⟩:=D.topo _ (zp5 hm hp) d hd
  rcases qG p q with h|h|h
  ·rw[V6 h] at hy
   exact⟨y,hy,by rw[V6 (by omega)]⟩
  ·subst h
   rw[zbk] at hy hd
   have:y<p:=by
    rcases pD y p with h|h
    ·exact h
    ·have:y=p:=by omega
     subst this;exact absurd hd hnd
   exact⟨y,this,by rw[V6 this]⟩
  ·have:p=q+1:=by omega
   subst this
   rw[zjq] at hy
   exact⟨y,by omega,by rw[V6 hy]⟩
 ·rcases Us hm hpq hq with⟨rfl,rfl⟩|⟨g1,g2,g3,g4⟩
  ·rw[zjq,d1] at hd;cases hd
  ·rw[g2] at hl ⊢
   exact D.war _ _ g3 g4 d hd hl
 ·rcases Us hm hpq hq with⟨rfl,rfl⟩|⟨g1,g2,g3,g4⟩
  ·rw[zbk,d2] at hd;cases hd
  ·rw[g2] at hd ⊢
   exact D.raw _ _ g3 g4 d hd hl
 ·rcases Us hm hpq hq with⟨rfl,rfl⟩|⟨g1,g2,g3,g4⟩
  ·rw[zbk,d2] at hd;cases hd
  ·rw[g2] at hd
   exact D.waw _ _ g3 g4 d hd hd2
 ·rcases Us hm hpq hq with⟨rfl,rfl⟩|⟨g1,g2,g3,g4⟩
  ·rw[zbk,zjq]
   exact .inr (.inr ⟨hsw,hm,h2,h1⟩)
  ·rw[g2] at hp hmf ⊢
   rcases D.eff _ _ g3 g4 hp hmf with h|h|⟨_,h,_⟩
   ·exact .inl h
   ·exact .inr (.inl h)
   ·omega
 ·have hxq:x<q:=by omega
  rw[V6 hxq] at hl ⊢
  have:=D.swl hsw x hx hl
  have e1:m-1=q+1:=by omega
  have e2:m-2=q:=by omega
  rw[e1,e2] at this ⊢
  rw[zbk,zjq]
  exact⟨this.2,this.1⟩
 ·rcases Us hm hpq hq with⟨rfl,rfl⟩|⟨g1,g2,g3,g4⟩
  ·rw[zbk,(ze1 h2).2.2] at hl;cases hl
  ·rw[g2] at hl ⊢
   exact D.loose _ _ g3 g4 hp hmf hl
theorem z2h{q:Nat}(hm:q+2=m)(h1:z7r (lo q)=true)(h2:z7r (lo (q+1))=true){e0:Env}{v:Nat→AVal}{S S':Nat→Bool}{t:Nat}(hS:∀x,x<q→S x=S' x):Yu m (fun x=>lo (sg q x)) e0 v S t=Yu m lo e0 v S' t:=by
 have d1:=(Yg h1).1
 have d2:=(Yg h2).1
 unfold Yu
 rw[V8 (g:=fun p=>S' p&&((lo p).dst==some t)) (fun x hx=>?_)]
 have hxm:=qA.1 hx
 show(S x&&(lo (sg q x)).dst==some t)=_
 rcases qG x q with h|h|h
 ·rw[V6 h,hS x h]
 ·subst h;rw[zbk,d1,d2];simp
 ·have:x=q+1:=by omega
  subst this;rw[zjq,d1,d2];simp
theorem zhu{lo:LOper}{e:Env}{a:LOpd}(h:∀t∈a.tmps,t∈lo.looks):a.ev (lo.sees e)=a.ev e:=by
 cases a with
 |t i=>
  simp only[LOpd.ev]
  unfold LOper.sees
  have hi:i∈lo.looks:=h i (by simp[LOpd.tmps])
  generalize lo.looks=l at hi
  induction l with
  |nil=>cases hi
  |cons u l ih=>
   simp only[List.map_cons,Env.get]
   by_cases hu:u=i
   ·subst hu;simp
   ·rw[if_neg hu]
    rcases List.mem_cons.1 hi with rfl|hi
    ·exact absurd rfl hu
    ·exact ih hi
 |c v=>rfl
theorem z45{e:Env}{H:AHeap}{n:Nat}{K:AVal→AHeap→Nat→Prop}{m:Nat}{a x:LOpd}(h:wh P e H n K (.store m a x)) :
 ∃b i off bl bl',a.ev e=.ptr b i off∧H.get b=some bl∧(∀ (H:AHeap) (n:Nat) (K':AVal→AHeap→Nat→Prop),H.get b=some bl→K' .any (H.set b bl') n→wh P e H n K' (.store m a x))∧K .any (H.set b bl') n:=by
 simp only[wh] at h ⊢
 split at h<;>try (exact h.elim)
 rename_i b i off cs ha hc
 split at h<;>try (exact h.elim)
 ·rename_i s es hb
  obtain⟨q1,q2,q3,q4,q5,q6⟩:=h
  refine⟨b,i,off,_,_,ha,hb,fun H n K' hg hk=>?_,q6⟩
  simp only[hg]
  exact⟨q1,q2,q3,q4,q5,hk⟩
 ·rename_i rs hb
  obtain⟨q1,q2,q3,q4,q5,q6⟩:=h
  refine⟨b,i,off,_,_,ha,hb,fun H n K' hg hk=>?_,q6⟩
  simp only[hg]
  exact⟨q1,q2,q3,q4,q5,hk⟩
theorem zr3{l1 l2:LOper}{e:Env}{H:AHeap}{n:Nat}{C1 C2:AHeap→Prop}{R:Env→AHeap→Nat→Prop}(h1:z7r l1=true)(h2:z7r l2=true)(hap:ApR true l1 l2 R){K':AVal→AHeap→Nat→Prop}(hK':∀v H n,R e H n→K' v H n)
 (hx:Vv P (l1.sees e) H n (fun v H' n'=>C1 H'∧Vv P (l2.sees e) H' n' (fun v2 H2 n2=>C2 H2∧R e H2 n2) l2) l1) :
 Vv P (l2.sees e) H n (fun v H' n'=>n'=n∧Vv P (l1.sees e) H' n' K' l1) l2:=by
 obtain⟨_,g1,k,a,x,o1⟩:=Yg h1
 obtain⟨_,g2,k',a',x',o2⟩:=Yg h2
 have ea:a.ev (l1.sees e)=a.ev e:=zhu (fun t ht=>by unfold LOper.looks;rw[o1];simp[LOp.tmps,ht])
 have ea':a'.ev (l2.sees e)=a'.ev e:=zhu (fun t ht=>by unfold LOper.looks;rw[o2];simp[LOp.tmps,ht])
 have hap:=hap rfl k a x k' a' x' o1 o2
 unfold Vv at hx ⊢
 simp only[g1,g2,o1,o2] at hx ⊢
 obtain⟨b1,i1,f1,bl1,bl1',q1,q2,q3,_,hx⟩:=z45 hx
 obtain⟨b2,i2,f2,bl2,bl2',r1,r2,r3,_,hx⟩:=z45 hx
 rw[ea] at q1
 rw[ea'] at r1
 have hne:=hap _ _ _ hx
 rw[q1,r1] at hne
 have hne:b1≠b2:=hne
 rw[AHeap.get_set,if_neg hne] at r2
 refine r3 H n _ r2 ⟨rfl,?_⟩
 refine q3 _ n _ ?_ ?_
 ·rw[AHeap.get_set,if_neg (fun h=>hne h.symm)];exact q2
 ·rw[←AHeap.set_comm H bl1' bl2' hne];exact hK' _ _ _ hx
theorem zvc{ro:Option Nat}{R:Env→AHeap→Nat→Prop}{QQ:Exit→Act→World→Prop}{e0:Env}{I0:Nat→Nat→Prop}{β0:Id→Option CLoc}{n0:Nat}{H0:AHeap}{w0:World}
 (hR:∀e H n I β w a,R e H n→Inv I β n H w→RepEnv I β n w e a→a.tmps.size=N.n→Dfr P w0.heap.size w a.defers→Ext I0 β0 n0 H0 w0 I β n H w→QQ .normal a w) :
 ∀ (k:Nat) (lo:Nat→LOper) (loose:Nat→List Nat) (ord:Nat→Nat) (D:DOk sw ops m lo loose ord pre) (hops:∀p,p<m→∃o,ops[ord p]?=some o∧Zd P N ops o=some (lo p)) (hap:sw=true→2≤m→ApR sw (lo (m-2)) (lo (m-1)) R) (fuel q:Nat) (items:List DItem) (listed:Array Bool) (loc:Nat→CLoc) (v:Nat→AVal) (done:List (Nat×LOper×Env×AVal)) (e:Env) (H:AHeap) (n:Nat) (I:Nat→Nat→Prop) (β:Id→Option CLoc) (w:World) (a:Act),fuel+items.length≤k →
  items.length+q=m→(∀i it,items[i]?=some it→it.lo=lo (q+i)∧it.loose=loose (q+i))→listed.size=m→Down ops listed→(∀p,p<m→listed.getD (ord p) false=true→p<q∨Ear lo I β n w w0.heap.size a loc p) →
  (∀p p',q≤p→q≤p'→p<m→p'<m→listed.getD (ord p) false=true→listed.getD (ord p') false=true→p≠p'→∀b k,(loc p).has b k→¬(loc p').has b k)→(∀p,q≤p→v p=.any) →
  (∀p,p<q→xy (lo p).op=false→z1d (lo p)=false→listed.getD (ord p) false=true)→unl m listed≤fuel →
  (∀t,e.get t=Yu m lo e0 v (fun x=>decide (x<q)) t)→(∀t,Rep I β n w (Yu m lo e0 v (fun x=>listed.getD (ord x) false) t) (a.tmps.getD t undef)) →
  (∀p,p<q→listed.getD (ord p) false=false→zn5 P m lo e0 v H p) →
  (∀p,p<q→listed.getD (ord p) false=false→kw (lo p).op=true→(p,lo p,wr m lo e0 v p,v p)∈done) →
  xd P items q done R e H n→Inv I β n H w→a.tmps.size=N.n→Dfr P w0.heap.size w a.defers→Ext I0 β0 n0 H0 w0 I β n H w→wpAnyIn (Vz ro) 0 P .any ops QQ fuel listed a w:=by
 intro k
 induction k using Nat.strongRecOn with
 |_ k ih=>
 intro lo loose ord D hops hap fuel q items listed loc v done e H n I β w a hk hlen hits hsz hdn hsub hdis hany heff hun henv hrep hpend hdone hx hI hN hD hX
 -- an item at the head that leaves the heap alone is put among the pending
 by_cases hpure:∃it rest,items=it::rest∧xy it.lo.op=true
 ·obtain⟨it,rest,rfl,hp⟩:=hpure
  obtain⟨h1,h2⟩:=hits 0 it rfl
  simp only[qE] at h1 h2
  simp only[pO] at hlen hk
  have hq:q<m:=by omega
  unfold xd at hx
  rw[hp] at hx
  simp only at hx
  obtain⟨val,hgv,hx⟩:=hx
  ·have hsees:wr m lo e0 (Jw v q val) q=it.lo.sees e:=by
    rw[wm (p9 q),h1]
    unfold wr LOper.sees
    exact pX fun t _=>by rw[henv t]
   have hqun:listed.getD (ord q) false=false:=by
    cases hl:listed.getD (ord q) false with
    |false=>rfl
    |true=>
     rcases hsub q hq hl with h|⟨_,zs,d,h,_⟩
     ·omega
     ·rw[←h1] at h;rw[h] at hp;cases hp
   have hlt:∀p,p<q→Jw v q val p=v p:=fun p hp=>by unfold Jw;rw[if_neg (by omega)]
   have hqv:Jw v q val q=val:=by unfold Jw;rw[if_pos rfl]
   refine ih (fuel+rest.length) (by omega) lo loose ord D hops hap fuel (q+1) rest listed loc (Jw v q val) _ _ H n I β w a (p9 _) (by omega) ?_ hsz hdn (fun p hp hl=>(hsub p hp hl).imp (fun h=>Nat.lt_succ_of_lt h) id) (fun p p' h1 h2=>hdis p p' (by omega) (by omega)) (fun p hp=>by unfold Jw;rw[if_neg (by omega)];exact hany p (by omega)) ?_ hun ?_ ?_ ?_ ?_ hx hI hN hD hX
   ·intro i it' hi
    have:=hits (i+1) it' (by simpa using hi)
    rw[show q+1+i=q+(i+1) by omega]
    exact this
   ·intro p hp2 hef hmf
    rcases pD p q with h|h
    ·exact heff p h hef hmf
    ·have:p=q:=by omega
     subst this
     rw[←h1,hp] at hef;cases hef
   ·intro t
    by_cases hd:it.lo.dst=some t
    ·rw[hd,Env.get_put_same,Xl D hq (by simp) (by rw[←h1];exact hd),hqv]
    ·have:(e.put it.lo.dst val).get t=e.get t:=by
      cases hdd:it.lo.dst with
      |none=>rfl
      |some d=>exact Env.get_put_other e val (by intro h;subst h;exact hd hdd)
     rw[this,henv t]
     refine je fun p hp2 hdst=>?_
     have hne:p≠q:=by intro h;subst h;rw[←h1] at hdst;exact hd hdst
     refine⟨by by_cases h:p<q<;>simp[h]<;>omega,fun hl=>(hlt p (by simpa using hl)).symm⟩
   ·intro t
    rw[je (S':=fun x=>listed.getD (ord x) false) (v':=v) (fun p hp2 _=>⟨rfl,fun hl=>by unfold Jw;rw[if_neg (fun h=>by subst h;rw[hqun] at hl;cases hl)]⟩)]
    exact hrep t
   ·intro p hp2 hl
    rcases pD p q with h|h
    ·unfold zn5;rw[wm (by omega),hlt p h];exact hpend p h hl
    ·have:p=q:=by omega
     subst this
     unfold zn5
     rw[hsees,hqv,←h1]
     exact⟨fun _=>hgv,fun hm=>by have:=Up hm;rw[hp] at this;cases this⟩
   ·intro p hp2 hl hld
    rcases pD p q with h|h
    ·rw[wm (by omega),hlt p h]
     have:=hdone p h hl hld
     split
     ·exact List.mem_cons_of_mem _ this
     ·exact this
    ·have:p=q:=by omega
     subst this
     rw[hsees,hqv,←h1]
     rw[←h1] at hld
     rw[if_pos hld]
     exact List.mem_cons_self ..
 by_cases hmk:∃it rest,items=it::rest∧z1d it.lo=true
 ·-- a slice literal waits for its turn, too
  obtain⟨it,rest,rfl,hp⟩:=hmk
  obtain⟨h1,h2⟩:=hits 0 it rfl
  simp only[qE] at h1 h2
  simp only[pO] at hlen hk
  have hq:q<m:=by omega
  have hnp:=Up hp
  unfold xd at hx
  rw[hnp] at hx
  simp only at hx
  obtain⟨val,hgv,_,hx⟩:=zkr hp hx
  have hsees:wr m lo e0 (Jw v q val) q=it.lo.sees e:=by
   rw[wm (p9 q),h1]
   unfold wr LOper.sees
   exact pX fun t _=>by rw[henv t]
  have hqun:listed.getD (ord q) false=false:=by
   cases hl:listed.getD (ord q) false with
   |false=>rfl
   |true=>
    rcases hsub q hq hl with h|⟨_,zs,d,h,_⟩
    ·omega
    ·rw[←h1] at h;exact(z18 hp h).elim
  have hlt:∀p,p<q→Jw v q val p=v p:=fun p hp=>by unfold Jw;rw[if_neg (by omega)]
  have hqv:Jw v q val q=val:=by unfold Jw;rw[if_pos rfl]
  refine ih (fuel+rest.length) (by omega) lo loose ord D hops hap fuel (q+1) rest listed loc (Jw v q val) _ _ H n I β w a (p9 _) (by omega) ?_ hsz hdn (fun p hp hl=>(hsub p hp hl).imp (fun h=>Nat.lt_succ_of_lt h) id) (fun p p' h1 h2=>hdis p p' (by omega) (by omega)) (fun p hp=>by unfold Jw;rw[if_neg (by omega)];exact hany p (by omega)) ?_ hun ?_ ?_ ?_ ?_ hx hI hN hD hX
  ·intro i it' hi
   have:=hits (i+1) it' (by simpa using hi)
   rw[show q+1+i=q+(i+1) by omega]
   exact this
  ·intro p hp2 hef hmf
   rcases pD p q with h|h
   ·exact heff p h hef hmf
   ·have:p=q:=by omega
    subst this
    rw[←h1,hp] at hmf;cases hmf
  ·intro t
   by_cases hd:it.lo.dst=some t
   ·rw[hd,Env.get_put_same,Xl D hq (by simp) (by rw[←h1];exact hd),hqv]
   ·have:(e.put it.lo.dst val).get t=e.get t:=by
     cases hdd:it.lo.dst with
     |none=>rfl
     |some d=>exact Env.get_put_other e val (by intro h;subst h;exact hd hdd)
    rw[this,henv t]
    refine je fun p hp2 hdst=>?_
    have hne:p≠q:=by intro h;subst h;rw[←h1] at hdst;exact hd hdst
    refine⟨by by_cases h:p<q<;>simp[h]<;>omega,fun hl=>(hlt p (by simpa using hl)).symm⟩
  ·intro t
   rw[je (S':=fun x=>listed.getD (ord x) false) (v':=v) (fun p hp2 _=>⟨rfl,fun hl=>by unfold Jw;rw[if_neg (fun h=>by subst h;rw[hqun] at hl;cases hl)]⟩)]
   exact hrep t
  ·intro p hp2 hl
   rcases pD p q with h|h
   ·unfold zn5;rw[wm (by omega),hlt p h];exact hpend p h hl
   ·have:p=q:=by omega
    subst this
    unfold zn5
    rw[hsees,hqv,←h1]
    exact⟨fun hm=>(by rw[hp] at hm;cases hm),fun _=>hgv⟩
  ·intro p hp2 hl hld
   rcases pD p q with h|h
   ·rw[wm (by omega),hlt p h]
    exact hdone p h hl hld
   ·have:p=q:=by omega
    subst this
    rw[←h1] at hld
    exfalso
    obtain⟨_,_,_,_,g1⟩:=zk9 hp
    rw[g1] at hld
    cases hld
 by_cases hclaim:∃it rest,items=it::rest∧xy it.lo.op=false∧listed.getD (ord q) false=true
 ·-- the head has been carried out ahead of its place
  obtain⟨it,rest,rfl,hnp,hlq⟩:=hclaim
  obtain⟨h1,h2⟩:=hits 0 it rfl
  simp only[qE] at h1 h2
  simp only[pO] at hlen hk
  have hq:q<m:=by omega
  obtain⟨hf,zs,d,hop,hgd,hdq,hB,hptr⟩:=(hsub q hq hlq).resolve_left (Nat.lt_irrefl q)
  unfold xd at hx
  rw[hnp] at hx
  simp only at hx
  have hsees:it.lo.sees e=wr m lo e0 v q:=by
   rw[h1]
   unfold wr LOper.sees
   exact pX fun t _=>by rw[henv t]
  rw[hsees,h1] at hx
  unfold Vv at hx
  rw[hgd] at hx
  simp only[hop,wh] at hx
  obtain⟨hloose,hx2⟩:=hx
  have i2:=ze2 hI hf hB
  have x2:=zg6 (zs:=zs) hI hf hX
  have hup:∀ (id:Id) c,id.1<n→upd β (n,0) (some (loc q)) id=some c→β id=some c:=fun id c hid h=>by rwa [ze _ _ (vn hid)] at h
  have hmono:∀ {x:AVal} {r:Value},Rep I β n w x r→Rep I (upd β (n,0) (some (loc q))) (n+1) w x r:=fun h=>h.mono' (fun _ _ h=>h) (fun _ _ _=>rfl) (qK n) hup
  have hlt:∀x,x≠q→Jw v q (.ptr (n,0) 0 0) x=v x:=fun x hx=>by unfold Jw;rw[if_neg hx]
  have hqv:Jw v q (.ptr (n,0) 0 0) q=.ptr (n,0) 0 0:=by unfold Jw;rw[if_pos rfl]
  refine ih (fuel+rest.length) (by omega) lo loose ord D hops hap fuel (q+1) rest listed loc (Jw v q (.ptr (n,0) 0 0)) done _ _ (n+1) I (upd β (n,0) (some (loc q))) w a (p9 _) (by omega) ?_ hsz hdn ?_ (fun p p' g1 g2=>hdis p p' (by omega) (by omega)) (fun p hp=>by rw[hlt p (by omega)];exact hany p (by omega)) ?_ hun ?_ ?_ ?_ ?_ hx2 i2 hN hD x2
  ·intro i it' hi
   have:=hits (i+1) it' (by simpa using hi)
   rw[show q+1+i=q+(i+1) by omega]
   exact this
  ·intro p hp hl
   by_cases hpq:p=q
   ·left;omega
   ·rcases hsub p hp hl with h|⟨g1,zs',d',g2,g3,g4,g5,g6⟩
    ·left;omega
    ·by_cases hlt2:p<q
     ·left;omega
     ·refine .inr ⟨fun b k hk=>?_,zs',d',g2,g3,g4,?_,g6⟩
      ·obtain⟨e1,e2,e3,e4⟩:=g1 b k hk
       refine⟨e1,fun id c hc hh=>?_,e3,e4⟩
       rcases j6 hc hI.fresh with⟨rfl,rfl⟩|⟨_,h1⟩
       ·exact hdis p q (by omega) (p9 q) hp hq hl hlq hpq b k hk hh
       ·exact e2 id c h1 hh
      ·exact g5.mono' (fun _ _ h=>h) (fun _ _ _=>rfl) (qK n) hup (fun arr el fr h=>⟨arr,fr,h,rfl,.inl rfl⟩) (fun _ _ _ _ h=>h) (fun _ _ _ h=>h)
  ·intro p hp hef hmf
   rcases pD p q with h|h
   ·exact heff p h hef hmf
   ·have:p=q:=by omega
    subst this;exact hlq
  ·intro t
   by_cases hd:(lo q).dst=some t
   ·rw[hd,Env.get_put_same,Xl D hq (by simp) hd,hqv]
   ·have:(e.put (lo q).dst (.ptr (n,0) 0 0)).get t=e.get t:=by
     cases hdd:(lo q).dst with
     |none=>rfl
     |some d=>exact Env.get_put_other e _ (by intro h;subst h;exact hd hdd)
    rw[this,henv t]
    refine je fun x hx2 hdx=>?_
    have hne:x≠q:=by intro h;subst h;exact hd hdx
    refine⟨by by_cases h:x<q<;>simp[h]<;>omega,fun _=>(hlt x hne).symm⟩
  ·intro t
   by_cases hd:(lo q).dst=some t
   ·rw[Xl D hq hlq hd,hqv]
    rw[hdq] at hd
    simp only[p7] at hd
    subst hd
    rw[hptr]
    refine .ptr (n,0) 0 0 _ (pK n) (fun c hc=>?_)
    rw[qr] at hc
    simp only[p7] at hc
    subst hc
    simp
   ·have:=hmono (hrep t)
    rw[je (S':=fun x=>listed.getD (ord x) false) (v':=Jw v q (.ptr (n,0) 0 0)) (fun x hx hdx=>?_)] at this
    ·exact this
    ·have hne:x≠q:=by intro h;subst h;exact hd hdx
     exact⟨rfl,fun _=>(hlt x hne).symm⟩
  ·intro x hx hlx
   have hxq:x<q:=by
    rcases pD x q with h|h
    ·exact h
    ·have:x=q:=by omega
     subst this;rw[hlq] at hlx;cases hlx
   unfold zn5
   rw[wm (by omega),hlt x (by omega)]
   refine⟨fun hmf=>?_,fun hm=>(hpend x hxq hlx).2 hm⟩
   cases hld:kw (lo x).op with
   |false=>rw[V7 (H':=H) hld];exact(hpend x hxq hlx).1 hmf
   |true=>
    have hmem:=hdone x hxq hlx hld
    have hl2:=D.loose x q hxq hq (by rw[←h1];exact hnp) (Bool.eq_false_iff.2 fun hm=>z18 hm hop) hld
    rcases hl2 with h3|h3
    ·have:=D.ancestors hdn q hq (hdn _ hlq) _ h3
     rw[hlx] at this;cases this
    ·exact hloose _ hmem (by rw[h2];exact h3)
  ·intro x hx hlx hld
   have hxq:x<q:=by
    rcases pD x q with h|h
    ·exact h
    ·have:x=q:=by omega
     subst this;rw[hlq] at hlx;cases hlx
   rw[wm (by omega),hlt x (by omega)]
   exact hdone x hxq hlx hld
 ·-- all listed: the end
  have fin:(∀p,p<m→listed.getD (ord p) false=true)→QQ .normal a w:=by
   intro hall
   have hqm:q=m:=by
    cases items with
    |nil=>simp only[qD] at hlen;omega
    |cons it rest=>
     exfalso
     simp only[pO] at hlen
     have hnp:xy it.lo.op=false:=by
      cases h:xy it.lo.op with
      |false=>rfl
      |true=>exact absurd ⟨it,rest,rfl,h⟩ hpure
     exact hclaim ⟨it,rest,rfl,hnp,hall q (by omega)⟩
   have:items=[]:=qH.1 (by omega)
   subst this
   refine hR e H n I β w a hx hI (fun t=>?_) hN hD hX
   rw[henv t,je (S':=fun x=>listed.getD (ord x) false) (v':=v) (fun p hp _=>⟨by rw[hall p hp];simp;omega,fun _=>rfl⟩)]
   exact hrep t
  have ready_spec:∀i,i∈Region.ready .any ops listed→∃p,p<m∧ord p=i∧listed.getD i false=false∧∀d∈ki ops i,listed.getD d false=true:=by
   intro i hi
   obtain⟨h1,oi,h2,h3⟩:=mem_ready.1 hi
   have him:i<m:=by rw[←D.size];exact(Array.getElem?_eq_some_iff.1 h2).1
   obtain⟨p,hp,rfl⟩:=D.surj i him
   refine⟨p,hp,rfl,by rw[←zfr (by omega)];exact h1,fun d hd=>?_⟩
   unfold ki at hd
   rw[h2] at hd
   simp only[List.mem_map,List.mem_filter,Array.mem_toList_iff] at hd
   obtain⟨ed,⟨h4,h5⟩,rfl⟩:=hd
   exact h3 ed h4 h5
  have all_of:Region.ready .any ops listed=[]→∀p,p<m→listed.getD (ord p) false=true:=by
   intro hr p
   induction p using Nat.strongRecOn with
   |_ p ihp=>
    intro hp
    cases hl:listed.getD (ord p) false with
    |true=>rfl
    |false=>
     exfalso
     obtain⟨o,ho,_⟩:=hops p hp
     have:ord p∈Region.ready .any ops listed:=by
      refine mem_ready.2 ⟨by rw[zfr (by rw[hsz];exact D.lt p hp)];exact hl,o,ho,fun ed hed hb=>?_⟩
      have hmem:ed.on∈ki ops (ord p):=by
       unfold ki
       rw[ho]
       exact List.mem_map.2 ⟨ed,List.mem_filter.2 ⟨by simpa using hed,hb⟩,rfl⟩
      obtain⟨r,hr2,hre⟩:=D.topo p hp _ hmem
      rw[←hre]
      exact ihp r hr2 (by omega)
     rw[hr] at this
     cases this
  cases fuel with
  |zero=>
   have hall:∀p,p<m→listed.getD (ord p) false=true:=by
    intro p hp
    cases hl:listed.getD (ord p) false with
    |true=>rfl
    |false=>
     have hmem:ord p∈(List.range m).filter (fun i=>!listed.getD i false):=List.mem_filter.2 ⟨qA.2 (D.lt p hp),by rw[hl];rfl⟩
     have:=List.length_pos_of_mem hmem
     unfold unl at hun
     omega
   refine⟨?_,fin hall⟩
   rw[List.eq_nil_iff_forall_not_mem]
   intro i hi
   obtain⟨p,hp,rfl,hl,_⟩:=ready_spec i hi
   rw[hall p hp] at hl;cases hl
  |succ fuel=>
   refine⟨fun hr=>fin (all_of hr),fun i hi=>?_⟩
   obtain⟨p,hp,rfl,hl,hall⟩:=ready_spec i hi
   obtain⟨o,ho,hlo⟩:=hops p hp
   have hdN:=(va hlo).1
   have hdst:=(va hlo).2.1
   have hE:RepEnv I β n w (wr m lo e0 v p) a:=by
    intro t
    rw[zbm]
    split
    ·rename_i ht
     rw[←D.agree hdn hp hl hall ht]
     exact hrep t
    ·exact .any _
   have hset:∀x,(listed.setIfInBounds (ord p) true).getD (ord x) false=if ord p=ord x then true else listed.getD (ord x) false:=fun x=>Kh (by rw[hsz];exact D.lt p hp)
   have hother:∀x,x<m→x≠p→(listed.setIfInBounds (ord p) true).getD (ord x) false=listed.getD (ord x) false:=fun x hx hne=>by
    rw[hset,if_neg (fun h=>hne (D.inj x p hx hp h.symm))]
   have hself:(listed.setIfInBounds (ord p) true).getD (ord p) false=true:=by rw[hset,if_pos rfl]
   have hdn':Down ops (listed.setIfInBounds (ord p) true):=hdn.set hsz (D.lt p hp) hall
   have hun':=zp1 hsz (D.lt p hp) hl hun
   -- the slots behind it
   have hrep':∀ {I':Nat→Nat→Prop} {β':Id→Option CLoc} {n':Nat} {w':World} {v':Nat→AVal} {r:Value},(∀t,Rep I' β' n' w' (Yu m lo e0 v (fun x=>listed.getD (ord x) false) t) (a.tmps.getD t undef))→Rep I' β' n' w' (v' p) r→(∀x,x≠p→v' x=v x) →
    ∀t,Rep I' β' n' w' (Yu m lo e0 v' (fun x=>(listed.setIfInBounds (ord p) true).getD (ord x) false) t) ((a.put o.dst r).tmps.getD t undef):=by
    intro I' β' n' w' v' r h1 h2 h3 t
    by_cases hd:(lo p).dst=some t
    ·rw[Xl D hp hself hd]
     rw[hdst] at hd
     rw[hd,z9q (by rw[hN];exact hdN t hd)]
     exact h2
    ·rw[z3q (by rw[←hdst];exact hd)]
     have:=h1 t
     rw[je (S':=fun x=>(listed.setIfInBounds (ord p) true).getD (ord x) false) (v':=v') (fun x hx hdx=>?_)] at this
     ·exact this
     ·have hne:x≠p:=by intro h;subst h;exact hd hdx
      exact⟨(hother x hx hne).symm,fun _=>(h3 x hne).symm⟩
   have hear:∀ {I':Nat→Nat→Prop} {β':Id→Option CLoc} {n':Nat} {H':AHeap} {w':World} {r:Value} {x:Nat},Ext I β n H w I' β' n' H' w'→x<m→x≠p→Ear lo I β n w w0.heap.size a loc x→Ear lo I' β' n' w' w0.heap.size (a.put o.dst r) loc x:=by
    intro I' β' n' H' w' r x hxt hx hne ⟨g1,zs',d',g2,g3,g4,g5,g6⟩
    refine⟨zj7 g1 hxt,zs',d',g2,g3,g4,zmd hI g1 hxt g5,?_⟩
    rw[z3q (fun hd=>?_)]
    ·exact g6
    ·rw[←hdst] at hd
     rcases pD x p with h|h
     ·exact D.waw x p h hp d' g4 hd
     ·exact D.waw p x (by omega) hx d' hd g4
   rcases qG p q with hpq|hpq|hpq
   ·-- a pending one
    by_cases hmp:z1d (lo p)=true
    ·refine Uy (ro:=ro) ho hlo ((hpend p hpq hl).2 hmp H n) hI hE hN (fun r val H' n' I' β' w' hK hI' hr' hx'=>?_)
     obtain⟨rfl,rfl,rfl⟩:=hK
     refine ih (fuel+items.length) (by omega) lo loose ord D hops hap fuel q items _ loc v done e H' n' I' β' w' _ (p9 _) hlen hits (by simp[hsz]) hdn' ?_ ?_ hany ?_ hun' henv (hrep' (fun t=>(hrep t).mono hx' hI) hr' (fun _ _=>rfl)) ?_ ?_ hx hI' (by rw[Act.put_size];exact hN) (by rw[Act.put_defers];exact hD.mono hI hx') (hX.trans hx')
     ·intro x hx hlx
      by_cases h:x=p
      ·subst h;exact .inl hpq
      ·rw[hother x hx h] at hlx;exact(hsub x hx hlx).imp id (hear hx' hx h)
     ·intro x x' g1 g2 g3 g4 g5 g6
      rw[hother x g3 (by omega)] at g5
      rw[hother x' g4 (by omega)] at g6
      exact hdis x x' g1 g2 g3 g4 g5 g6
     ·intro x hx hef hmf
      by_cases h:x=p
      ·subst h;exact hself
      ·rw[hother x (by omega) h];exact heff x hx hef hmf
     ·intro x hx hlx
      by_cases h:x=p
      ·subst h;rw[hself] at hlx;cases hlx
      ·rw[hother x (by omega) h] at hlx;exact hpend x hx hlx
     ·intro x hx hlx hld
      by_cases h:x=p
      ·subst h;rw[hself] at hlx;cases hlx
      ·rw[hother x (by omega) h] at hlx;exact hdone x hx hlx hld
    refine zck (ro:=ro) ho hlo ((hpend p hpq hl).1 (Bool.eq_false_iff.2 hmp)) hI hE hN (fun r hr=>?_)
    refine ih (fuel+items.length) (by omega) lo loose ord D hops hap fuel q items _ loc v done e H n I β w _ (p9 _) hlen hits (by simp[hsz]) hdn' ?_ ?_ hany ?_ hun' henv (hrep' hrep hr (fun _ _=>rfl)) ?_ ?_ hx hI (by rw[Act.put_size];exact hN) (by rw[Act.put_defers];exact hD) hX
    ·intro x hx hlx
     by_cases h:x=p
     ·subst h;exact .inl hpq
     ·rw[hother x hx h] at hlx;exact(hsub x hx hlx).imp id (hear (Ext.refl I β n H w hI.fresh) hx h)
    ·intro x x' g1 g2 g3 g4 g5 g6
     rw[hother x g3 (by omega)] at g5
     rw[hother x' g4 (by omega)] at g6
     exact hdis x x' g1 g2 g3 g4 g5 g6
    ·intro x hx hef hmf
     by_cases h:x=p
     ·subst h;exact hself
     ·rw[hother x (by omega) h];exact heff x hx hef hmf
    ·intro x hx hlx
     by_cases h:x=p
     ·subst h;rw[hself] at hlx;cases hlx
     ·rw[hother x (by omega) h] at hlx;exact hpend x hx hlx
    ·intro x hx hlx hld
     by_cases h:x=p
     ·subst h;rw[hself] at hlx;cases hlx
     ·rw[hother x (by omega) h] at hlx;exact hdone x hx hlx hld
   ·-- the head, which changes the heap
    subst hpq
    cases items with
    |nil=>simp only[qD] at hlen;omega
    |cons it rest=>
     obtain⟨h1,h2⟩:=hits 0 it rfl
     simp only[qE] at h1 h2
     simp only[pO] at hlen hk
     have hnp:xy it.lo.op=false:=by
      cases h:xy it.lo.op with
      |false=>rfl
      |true=>exact absurd ⟨it,rest,rfl,h⟩ hpure
     unfold xd at hx
     rw[hnp] at hx
     simp only at hx
     have hsees:it.lo.sees e=wr m lo e0 v p:=by
      rw[h1]
      unfold wr LOper.sees
      exact pX fun t _=>by rw[henv t]
     rw[hsees,h1] at hx
     refine Uy (ro:=ro) ho hlo hx hI hE hN (fun r val H' n' I' β' w' hK hI' hr' hx'=>?_)
     obtain⟨hloose,hx2⟩:=hK
     have hlt:∀x,x≠p→Jw v p val x=v x:=fun x hx=>by unfold Jw;rw[if_neg hx]
     have hqv:Jw v p val p=val:=by unfold Jw;rw[if_pos rfl]
     refine ih (fuel+rest.length) (by omega) lo loose ord D hops hap fuel (p+1) rest _ loc (Jw v p val) done _ H' n' I' β' w' _ (p9 _) (by omega) ?_ (by simp[hsz]) hdn' ?_ ?_ (fun x hx=>by rw[hlt x (by omega)];exact hany x (by omega)) ?_ hun' ?_
      (hrep' (fun t=>(hrep t).mono hx' hI) (by rw[hqv];exact hr') hlt) ?_ ?_ hx2 hI' (by rw[Act.put_size];exact hN) (by rw[Act.put_defers];exact hD.mono hI hx') (hX.trans hx')
     ·intro i it' hi
      have:=hits (i+1) it' (by simpa using hi)
      rw[show p+1+i=p+(i+1) by omega]
      exact this
     ·intro x hx hlx
      by_cases h:x=p
      ·left;omega
      ·rw[hother x hx h] at hlx;exact(hsub x hx hlx).imp (fun h=>Nat.lt_succ_of_lt h) (hear hx' hx h)
     ·intro x x' g1 g2 g3 g4 g5 g6
      rw[hother x g3 (by omega)] at g5
      rw[hother x' g4 (by omega)] at g6
      exact hdis x x' (by omega) (by omega) g3 g4 g5 g6
     ·intro x hx hef hmf
      by_cases h:x=p
      ·subst h;exact hself
      ·rw[hother x (by omega) h];exact heff x (by omega) hef hmf
     ·intro t
      by_cases hd:(lo p).dst=some t
      ·rw[hd,Env.get_put_same,Xl D hp (by simp) hd,hqv]
      ·have:(e.put (lo p).dst val).get t=e.get t:=by
        cases hdd:(lo p).dst with
        |none=>rfl
        |some d=>exact Env.get_put_other e val (by intro h;subst h;exact hd hdd)
       rw[this,henv t]
       refine je fun x hx2 hdx=>?_
       have hne:x≠p:=by intro h;subst h;exact hd hdx
       refine⟨by by_cases h:x<p<;>simp[h]<;>omega,fun _=>(hlt x hne).symm⟩
     ·intro x hx hlx
      by_cases h:x=p
      ·subst h;rw[hself] at hlx;cases hlx
      ·have hxp:x<p:=by omega
       rw[hother x (by omega) h] at hlx
       unfold zn5
       rw[wm (by omega),hlt x h]
       refine⟨fun hmf=>?_,fun hm=>(hpend x hxp hlx).2 hm⟩
       cases hld:kw (lo x).op with
       |false=>rw[V7 (H':=H) hld];exact(hpend x hxp hlx).1 hmf
       |true=>
        have hmem:=hdone x hxp hlx hld
        have hl2:=D.loose x p hxp hp (by rw[←h1];exact hnp) (by rw[←h1];exact Bool.eq_false_iff.2 fun hm=>hmk ⟨it,rest,rfl,hm⟩) hld
        rcases hl2 with h3|h3
        ·have:=D.ancestors hdn p hp hall _ h3
         rw[hlx] at this;cases this
        ·exact hloose _ hmem (by rw[h2];exact h3)
     ·intro x hx hlx hld
      by_cases h:x=p
      ·subst h;rw[hself] at hlx;cases hlx
      ·rw[hother x (by omega) h] at hlx
       rw[wm (by omega),hlt x h]
       exact hdone x (by omega) hlx hld
   ·-- one behind the head waits for the head; or it is a variable that is made ahead of its place
    have hqm:q<m:=by omega
    obtain⟨it,rest,rfl⟩:∃it rest,items=it::rest:=by
     cases items with
     |nil=>simp only[qD] at hlen;omega
     |cons it rest=>exact⟨it,rest,rfl⟩
    obtain⟨h1,_⟩:=hits 0 it rfl
    simp only[qE] at h1
    have hnp:xy it.lo.op=false:=by
     cases h:xy it.lo.op with
     |false=>rfl
     |true=>exact absurd ⟨it,rest,rfl,h⟩ hpure
    rcases D.eff q p hpq hp (by rw[←h1];exact hnp) (by rw[←h1];exact Bool.eq_false_iff.2 fun hm=>hmk ⟨it,rest,rfl,hm⟩) with hpre|halc|⟨hsw,hqm2,hst1,hst2⟩
    ·exfalso
     have:=D.ancestors hdn p hp hall _ hpre
     exact hclaim ⟨it,rest,rfl,hnp,this⟩
    ·obtain⟨zs,d,hop,hgd,hdp⟩:∃zs d,(lo p).op=.alloc zs∧(lo p).guard=none∧(lo p).dst=some d:=by
      unfold zf2 at halc
      split at halc
      ·rename_i g1 g2 g3;exact⟨_,_,g1,g2,g3⟩
      ·cases halc
     refine zly (ro:=ro) (K0:=w0.heap.size) ho hlo hop hgd hI hX.size (fun c w' hcb i1 x1 hf hB=>?_)
     have hloc:∀x,x≠p→(fun y=>if y=p then c else loc y) x=loc x:=fun x hx=>by simp[hx]
     have hear':∀ {r:Value} {x:Nat},x<m→x≠p→Ear lo I β n w w0.heap.size a loc x→Ear lo I β n w' w0.heap.size (a.put o.dst r) (fun y=>if y=p then c else loc y) x:=by
      intro r x hx hne h
      have:=hear (r:=r) x1 hx hne h
      unfold Ear at this ⊢
      rw[hloc x hne]
      exact this
     refine ih (fuel+(it::rest).length) (by omega) lo loose ord D hops hap fuel q (it::rest) _ (fun y=>if y=p then c else loc y) v done e H n I β w' _ (p9 _) hlen hits (by simp[hsz]) hdn' ?_ ?_ hany ?_ hun' henv
      (hrep' (fun t=>(hrep t).mono x1 hI) (by rw[hany p (by omega)];exact .any _) (fun _ _=>rfl)) ?_ ?_ hx i1 (by rw[Act.put_size];exact hN) (by rw[Act.put_defers];exact hD.mono hI x1) (hX.trans x1)
     ·intro x hx hlx
      by_cases h:x=p
      ·subst h
       refine .inr ⟨by simpa using hf,zs,d,hop,hgd,hdp,by simpa using hB,?_⟩
       have hdp2:o.dst=some d:=by rw[←hdst];exact hdp
       rw[hdp2,z9q (by rw[hN];exact hdN d hdp2)]
       simp
      ·rw[hother x hx h] at hlx;exact(hsub x hx hlx).imp id (hear' hx h)
     ·intro x x' g1 g2 g3 g4 g5 g6 hne b k hk hk'
      have far:∀y,y<m→y≠p→q≤y→(listed.setIfInBounds (ord p) true).getD (ord y) false=true→(loc y).has b k→c.has b k→False:=by
       intro y hy hyp hqy hly h1 h2
       rw[hother y hy hyp] at hly
       rcases hsub y hy hly with h|⟨g,_⟩
       ·omega
       ·have:=(g b k h1).2.2.2
        have e2:c.blk=b:=h2.1
        omega
      by_cases hxp:x=p
      ·subst hxp
       rw[if_pos rfl] at hk
       rw[if_neg (fun h=>hne h.symm)] at hk'
       exact far x' g4 (fun h=>hne h.symm) g2 g6 hk' hk
      ·rw[if_neg hxp] at hk
       by_cases hxp':x'=p
       ·subst hxp'
        rw[if_pos rfl] at hk'
        exact far x g3 hxp g1 g5 hk hk'
       ·rw[if_neg hxp'] at hk'
        rw[hother x g3 hxp] at g5
        rw[hother x' g4 hxp'] at g6
        exact hdis x x' g1 g2 g3 g4 g5 g6 hne b k hk hk'
     ·intro x hx hef hmf
      rw[hother x (by omega) (by omega)];exact heff x hx hef hmf
     ·intro x hx hlx
      rw[hother x (by omega) (by omega)] at hlx;exact hpend x hx hlx
     ·intro x hx hlx hld
      rw[hother x (by omega) (by omega)] at hlx;exact hdone x hx hlx hld
    ·-- the last two change places
     have hpq1:p=q+1:=by omega
     subst hpq1
     subst hsw
     obtain⟨it2,rfl⟩:∃it2,rest=[it2]:=by
      cases rest with
      |nil=>simp only[pO,qD] at hlen;omega
      |cons it2 r=>cases r with
       |nil=>exact⟨it2,rfl⟩
       |cons _ _=>simp only[pO] at hlen;omega
     have hap':=hap rfl (by omega)
     rw[show m-2=q by omega,show m-1=q+1 by omega] at hap'
     obtain⟨e1,e2⟩:=hits 0 it rfl
     obtain⟨e3,e4⟩:=hits 1 it2 rfl
     simp only[qE] at e1 e2
     have d1:=(Yg hst1).1
     have d2:=(Yg hst2).1
     have hqun:listed.getD (ord q) false=false:=by
      cases hlq:listed.getD (ord q) false with
      |false=>rfl
      |true=>exact absurd ⟨it,[it2],rfl,hnp,hlq⟩ hclaim
     have hnd:ord q∉ki ops (ord (q+1)):=fun h=>by
      have:=hall _ h
      rw[hqun] at this;cases this
     have hloads:∀x,x<q→kw (lo x).op=true→listed.getD (ord x) false=true:=fun x hx hld=>by
      have:=(D.swl rfl x (by omega) hld).1
      rw[show m-1=q+1 by omega] at this
      exact D.ancestors hdn (q+1) hp hall _ this
     have hsq:wr m lo e0 v q=(lo q).sees e:=by
      unfold wr LOper.sees
      exact pX fun t _=>by rw[henv t]
     have hsp:wr m lo e0 v (q+1)=(lo (q+1)).sees e:=by
      unfold wr LOper.sees
      refine pX fun t _=>?_
      rw[henv t]
      congr 1
      refine je fun r hr hd=>⟨?_,fun _=>rfl⟩
      have:r≠q:=by intro h;subst h;rw[d1] at hd;cases hd
      by_cases h:r<q<;>simp[h]<;>omega
     have hx2:Vv P ((lo (q+1)).sees e) H n (fun v H' n'=>n'=n∧Vv P ((lo q).sees e) H' n' (fun v1 H2 n2=>(∀x∈([]:List (Nat×LOper×Env×AVal)),x.1∈it.loose→(Yh x.2.2.1 H2 x.2.1).gives x.2.2.2)∧R e H2 n2) (lo q)) (lo (q+1)):=by
      unfold xd at hx
      rw[hnp] at hx
      simp only at hx
      unfold xd at hx
      rw[e3,(ze1 hst2).1] at hx
      simp only[xd] at hx
      rw[e1,d1,d2] at hx
      simp only[Env.put] at hx
      exact zr3 hst1 hst2 hap' (fun _ _ _ h=>⟨fun _ h=>by(cases h),h⟩) hx
     refine Uy (ro:=ro) ho hlo (by rw[hsp];exact hx2) hI hE hN (fun r val H' n' I' β' w' hK hI' hr' hx'=>?_)
     obtain⟨rfl,hK⟩:=hK
     have D':=D.swap rfl hqm2 hst1 hst2 hnd
     have hvp:v (q+1)=.any:=hany _ (by omega)
     refine ih (fuel+1) (by simp only[pO,qD] at hk;omega) (fun x=>lo (sg q x)) (fun x=>loose (sg q x)) (fun x=>ord (sg q x)) D' (fun x hx=>hops _ (zp5 hqm2 hx)) ?_ fuel (q+1) [it] _ loc v [] e H' n' I' β' w' _ (p9 _) (by simp only[pO,qD];omega) ?_ (by simp[hsz]) hdn' ?_ ?_ (fun x hx=>hany x (by omega)) ?_ hun' ?_ ?_ ?_ ?_ ?_ hI' (by rw[Act.put_size];exact hN) (by rw[Act.put_defers];exact hD.mono hI hx') (hX.trans hx')
     ·intro _ _
      rw[show m-2=q by omega,show m-1=q+1 by omega]
      simp only[zbk,zjq]
      exact fun hs k a x k' a' x' g1 g2 e H n hr=>zby (hap' hs k' a' x' k a x g2 g1 e H n hr)
     ·intro i it' hi
      cases i with
      |zero=>
       simp only[pN,p7] at hi
       subst hi
       simp only[qE,zjq]
       exact⟨e1,e2⟩
      |succ i=>simp at hi
     ·intro x hx hlx
      rcases pD x (q+1) with h|h
      ·exact .inl h
      ·exfalso
       have:x=q+1:=by omega
       subst this
       simp only[zjq] at hlx
       rw[hother q (by omega) (by omega),hqun] at hlx
       cases hlx
     ·intro x x' g1 g2 g3 g4 g5 g6 hne
      omega
     ·intro x hx hef hmf
      rcases pD x q with h|h
      ·simp only[V6 h] at hef hmf ⊢
       rw[hother x (by omega) (by omega)]
       exact heff x h hef hmf
      ·have:x=q:=by omega
       subst this
       simp only[zbk]
       exact hself
     ·intro t
      rw[z2h hqm2 hst1 hst2 (S':=fun x=>decide (x<q)) (fun x hx=>by simp[hx];omega)]
      exact henv t
     ·intro t
      rw[z2h hqm2 hst1 hst2 (S':=fun x=>(listed.setIfInBounds (ord (q+1)) true).getD (ord x) false) (fun x hx=>by rw[V6 hx])]
      exact hrep' (fun t=>(hrep t).mono hx' hI) (by rw[hvp];exact .any _) (fun _ _=>rfl) t
     ·intro x hx hlx
      rcases pD x q with h|h
      ·simp only[V6 h] at hlx
       rw[hother x (by omega) (by omega)] at hlx
       have hse:wr m (fun x=>lo (sg q x)) e0 v x=wr m lo e0 v x:=by
        unfold wr
        simp only[V6 h]
        refine pX fun t _=>?_
        rw[z2h hqm2 hst1 hst2 (S':=fun y=>decide (y<x)) (fun y hy=>rfl)]
       unfold zn5
       rw[hse]
       simp only[V6 h]
       refine⟨fun hmf=>?_,fun hm=>(hpend x h hlx).2 hm⟩
       cases hld:kw (lo x).op with
       |false=>rw[V7 (H':=H) hld];exact(hpend x h hlx).1 hmf
       |true=>have:=hloads x h hld;rw[hlx] at this;cases this
      ·have:x=q:=by omega
       subst this
       simp only[zbk] at hlx
       rw[hself] at hlx;cases hlx
     ·intro x hx hlx hld
      exfalso
      rcases pD x q with h|h
      ·simp only[V6 h] at hlx hld
       rw[hother x (by omega) (by omega)] at hlx
       have:=hloads x h hld
       rw[hlx] at this;cases this
      ·have:x=q:=by omega
       subst this
       simp only[zbk] at hlx
       rw[hself] at hlx;cases hlx
     ·unfold xd
      rw[hnp]
      simp only[xd]
      rw[e1,d1]
      simp only[Env.put]
      exact hK
end Go.Fx
