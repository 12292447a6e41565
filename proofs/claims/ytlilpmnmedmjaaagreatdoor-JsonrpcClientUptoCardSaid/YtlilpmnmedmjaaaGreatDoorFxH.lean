/-
  Own framework.
-/
import Derived.Test.YtlilpmnmedmjaaaGreatDoorFxG
namespace Go.Fx
set_option linter.unusedVariables false
variable {P:Program}
section
variable {I:Nat→Nat→Prop} {β:Id→Option CLoc} {n:Nat} {H:AHeap} {w:World} {e:Env} {a:Act}
theorem V0{s:Nat}:∀ (rows:List (List AVal)) (i j:Nat) (r:List AVal) (x:AVal),(∀r∈rows,r.length=s)→rows[i]?=some r→r[j]?=some x→rows.flatten[i*s+j]?=some x
 |[],i,j,r,x,_,hi,_=>by simp at hi
 |r0::rows,0,j,r,x,hl,hi,hj=>by
  simp at hi;subst hi
  have:=hl r0 (by simp)
  rw[List.flatten_cons,Nat.zero_mul,Nat.zero_add,List.getElem?_append_left]
  ·exact hj
  ·rcases Nat.lt_or_ge j r0.length with h|h
   ·exact h
   ·rw[List.getElem?_eq_none h] at hj;cases hj
 |r0::rows,i+1,j,r,x,hl,hi,hj=>by
  have h0:=hl r0 (by simp)
  have:=V0 rows i j r x (fun r hr=>hl r (by simp[hr])) (by simpa using hi) hj
  rw[List.flatten_cons,List.getElem?_append_right (by rw[h0,Nat.add_mul];omega),←this]
  congr 1
  rw[h0,Nat.add_mul];omega
theorem u9{s:Nat}:∀ (rows:List (List AVal)),(∀r∈rows,r.length=s)→rows.flatten.length=rows.length*s
 |[],_=>by simp
 |r::rows,h=>by
  rw[List.flatten_cons,List.length_append,h r (by simp),u9 rows (fun r hr=>h r (by simp[hr])),List.length_cons,Nat.add_mul];omega
theorem z2i{s:Nat}:∀ (rows:List (List AVal)) (i:Nat) (cs:List AVal),(∀r∈rows,r.length=s)→i<rows.length→cs.length=s→(rows.set i cs).flatten=kj rows.flatten (i*s) cs
 |[],i,cs,_,hi,_=>by simp at hi
 |r::rows,0,cs,h,_,hc=>by
  have h0:=h r (by simp)
  simp only[List.set_cons_zero,List.flatten_cons,kj,Nat.zero_mul,List.take_zero,List.nil_append,Nat.zero_add]
  rw[hc,←h0,List.drop_left]
 |r::rows,i+1,cs,h,hi,hc=>by
  have h0:=h r (by simp)
  have ih:=z2i rows i cs (fun r hr=>h r (by simp[hr])) (by simpa using hi) hc
  simp only[List.set_cons_succ,List.flatten_cons,ih,kj]
  have e1:(i+1)*s=r.length+i*s:=by rw[h0,Nat.add_mul];omega
  rw[e1,List.take_length_add_append,Nat.add_assoc,List.drop_length_add_append]
  simp
theorem z1r{s:Nat}:∀ (parts:List (Nat×AVal)) (rows:List (List AVal)) (p:Prop) (rows':List (List AVal)),Je rows parts=some (p,rows')→p→(∀r∈rows,r.length=s) →
 (∀r∈rows',r.length=s)∧rows'.length=rows.length∧∃side,Q4 rows.flatten (parts.map fun q=>(q.1*s,s,q.2))=.ok side (.agg rows'.flatten)∧side
 |[],rows,p,rows',h,_,hl=>by
  simp only[Je,Option.some.injEq,Prod.mk.injEq] at h
  obtain⟨_,rfl⟩:=h
  exact⟨hl,rfl,True,rfl,trivial⟩
 |(i,x)::parts,rows,p,rows',h,hp,hl=>by
  simp only[Je] at h
  cases hc:x.cells? with
  |none=>simp[hc] at h
  |some cs=>
  cases hm:Je (rows.set i cs) parts with
  |none=>simp[hc,hm] at h
  |some q=>
   obtain⟨p0,rs⟩:=q
   simp only[hc,hm,Option.some.injEq,Prod.mk.injEq] at h
   obtain⟨rfl,rfl⟩:=h
   obtain⟨h1,h2,h3⟩:=hp
   have hri:rows.getD i []∈rows:=by rw[List.getD_eq_getElem?_getD,List.getElem?_eq_getElem h2];exact List.getElem_mem h2
   have hcs:cs.length=s:=h1.trans (hl _ hri)
   have hl':∀r∈rows.set i cs,r.length=s:=by
    intro r hr
    rcases List.mem_or_eq_of_mem_set hr with h|h
    ·exact hl r h
    ·rw[h];exact hcs
   obtain⟨g1,g2,side,g3,g4⟩:=z1r parts (rows.set i cs) p0 rs hm h3 hl'
   refine⟨g1,by simpa using g2,cs.length=s∧i*s+s≤rows.flatten.length∧side,?_,hcs,?_,g4⟩
   ·simp only[List.map_cons,Q4,hc]
    rw[←z2i rows i cs hl h2 hcs,g3]
   ·rw[u9 rows hl]
    have:(i+1)*s≤rows.length*s:=Nat.mul_le_mul_right _ h2
    rw[Nat.add_mul] at this;omega
theorem J5{s:Nat}{rows:List (List AVal)}{arr:Array Value}(h:Wd I β n w rows.flatten arr)(hl:∀r∈rows,r.length=s):RowsIn I β n w s 0 rows arr:=by
 obtain⟨h1,h2,h3⟩:=h
 refine⟨by rw[h1,u9 rows hl];omega,fun i r hi=>hl r (List.mem_of_getElem? hi),fun i r j x hi hj=>?_⟩
 have hx:=V0 rows i j r x hl hi hj
 have hlt:i*s+j<arr.size:=by
  rw[h1]
  rcases Nat.lt_or_ge (i*s+j) rows.flatten.length with h|h
  ·exact h
  ·rw[List.getElem?_eq_none h] at hx;cases hx
 refine⟨arr[i*s+j],by simp[hlt],h2 _ (by simp),h3 _ _ _ hx (Array.getElem?_eq_getElem hlt)⟩
theorem Ye{cs:List AVal}{arr:Array Value}(h:Wd I β n w cs arr):RowsIn I β n w cs.length 0 [cs] arr:=
 J5 (by simpa using h) (by simp)
theorem Uv{zs:List AVal}{zv:Array Value}(h:Wd I β n w zs zv)(hs:0<zs.length)(m:Nat) :
 Wd I β n w (List.replicate m zs).flatten ((Array.range (m*zs.length)).map (zv[· % zv.size]!)):=by
 obtain⟨h1,h2,h3⟩:=h
 have hl:∀r∈List.replicate m zs,r.length=zs.length:=fun r hr=>by rw[(List.mem_replicate.1 hr).2]
 refine⟨by simp[u9 _ hl],?_,?_⟩
 ·intro u hu
  simp only[Array.toList_map,List.mem_map] at hu
  obtain⟨k,_,rfl⟩:=hu
  have hlt:k % zv.size<zv.size:=Nat.mod_lt _ (by omega)
  rw[getElem!_pos zv _ hlt]
  exact h2 _ (by simp)
 ·intro k y u hy hu
  have hk:k<m*zs.length:=by
   rcases Nat.lt_or_ge k (m*zs.length) with h|h
   ·exact h
   ·rw[List.getElem?_eq_none (by rw[u9 _ hl];simpa using h)] at hy;cases hy
  obtain⟨g1,g2,g3⟩:=zkl hs hk
  have hlt:k % zv.size<zv.size:=Nat.mod_lt _ (by omega)
  simp only[Array.getElem?_map,Array.getElem?_range,hk,if_true,Option.map_some,Option.some.injEq] at hu
  rw[getElem!_pos zv _ hlt] at hu
  have:=V0 (s:=zs.length) (List.replicate m zs) (k / zs.length) (k % zs.length) zs (zs[k % zs.length]) hl (by simp[g1]) (List.getElem?_eq_getElem g2)
  rw[←g3,hy] at this
  simp only[Option.some.injEq] at this
  refine h3 (k % zs.length) y u ?_ ?_
  ·rw[this];exact List.getElem?_eq_getElem g2
  ·have e:k % zv.size=k % zs.length:=by rw[h1]
   rw[←hu,←e];exact Array.getElem?_eq_getElem hlt
theorem kl(w:World)(o:Obj):Pushed w (w.alloc o) o:=⟨rfl,⟨rfl,fun _=>Nat.le_refl _⟩,rfl,rfl⟩
theorem Q6(k m:Nat)(_:k<m):((0:Nat)≤k&&decide (k<0))=false:=by simp
theorem z0g(hI:Inv I β n H w){K:AVal→AHeap→Nat→Prop}{arr:Array Value}{el:TypeId}{s:Nat}{es:List (List AVal)}{w':World}{fr:Nat×Nat}(hp:Pushed w w' (.cells arr el fr))(hfr:∀k,k<arr.size→(fr.1≤k&&k<fr.2)=false)(hfe:EndOk s arr fr)
 (hr:RowsIn I β n w s 0 es arr) {r:AVal} {v:Value} (hk:K r (((n,0),.rows s es)::H) (n+1)) (hv:Rep I (upd β (n,0) (some ⟨w.heap.size,0,arr.size,0,s⟩)) (n+1) w' r v):Zk I β n H w K v w':=by
 obtain⟨h1,h2⟩:=z5y hI hp hfr hfe hr
 exact⟨r,_,_,_,_,hk,h1,hv,h2⟩
theorem z21(w':World)(s sz b:Nat):Rep I (upd β (n,0) (some ⟨b,0,sz,0,s⟩)) (n+1) w' (.ptr (n,0) 0 0) (.pointer (some ⟨b,0,none⟩)):=by
 refine .ptr _ _ _ _ (Nat.lt_succ_self n) fun c hc=>?_
 rw[xz] at hc
 simp only[Option.some.injEq] at hc
 subst hc
 simp
theorem J6(w':World){s sz b len cap:Nat}{f:Bool}(h1:len≤cap)(h2:f=true→cap=len)(h3:cap*s≤sz) :
 Rep I (upd β (n,0) (some ⟨b,0,sz,0,s⟩)) (n+1) w' (.msl (n,0) s 0 len f) (.slice (some ⟨b,0,none⟩) len cap):=by
 refine .msl _ _ _ _ _ _ _ (Nat.lt_succ_self n) ⟨h1,nofun⟩ h2 fun c hc=>?_
 rw[xz] at hc
 simp only[Option.some.injEq] at hc
 subst hc
 exact⟨rfl,fun _=>⟨by simp,by simpa using h3⟩⟩
theorem zdv(hI:Inv I β n H w){K:AVal→AHeap→Nat→Prop}{arr:Array Value}{el:TypeId}{cs:List AVal}{w':World}(hp:Pushed w w' (.cells arr el (0,0)))
 (hr:RowsIn I β n w cs.length 0 [cs] arr) (hk:K (.ptr (n,0) 0 0) (((n,0),.one cs)::H) (n+1)):Zk I β n H w K (.pointer (some ⟨w.heap.size,0,none⟩)) w':=by
 obtain⟨h1,h2⟩:=z5y hI hp (fun k h=>Q6 k _ h) EndOk.zero hr
 exact⟨_,_,_,_,_,hk,h1.same zqc,z21 _ _ _ _,h2.same (fun _=>Iff.rfl) (fun id h=>(zb2 id).1 h)⟩
theorem zdb(hI:Inv I β n H w){K:AVal→AHeap→Nat→Prop}{t:TypeId}{zs:List AVal}(hz:wa P t=some zs)(hk:K (.ptr (n,0) 0 0) (((n,0),.one zs)::H) (n+1)) :
 ∃v w',(Instr.alloc t true (.tuple #[])).run P w=.ok v w'∧Zk I β n H w K v w':=by
 obtain⟨zv,zi,_,_,_,hzv,hzr⟩:=ui (I:=I) (β:=β) (n:=n) (w:=w) hz
 refine⟨.pointer (some ⟨w.heap.size,0,none⟩),w.alloc (.cells zv.cells t),?_,zdv hI (arr:=zv.cells) (el:=t) (kl w _) (Ye hzr) hk⟩
 simp only[Instr.alloc,Sem.run_bind,hzv,Result.andThen_ok,newVar,newRow,run_newObj,Sem.run_pure,World.alloc_eq]
theorem Wh(s:Nat):∀ (k:Nat) (l:List AVal),l.length=k*s→(Jl s k l).flatten=l
 |0,l,h=>by simp at h;subst h;rfl
 |k+1,l,h=>by
  rw[Jl,List.flatten_cons,Wh s k _ (by rw[List.length_drop,h,Nat.add_mul];omega),List.take_append_drop]
theorem z4w(s:Nat):∀ (k:Nat) (l:List AVal),l.length=k*s→∀r∈Jl s k l,r.length=s
 |0,l,h,r,hr=>by simp[Jl] at hr
 |k+1,l,h,r,hr=>by
  rw[Jl,List.mem_cons] at hr
  rcases hr with rfl|hr
  ·rw[List.length_take,h,Nat.add_mul];omega
  ·exact z4w s k _ (by rw[List.length_drop,h,Nat.add_mul];omega) r hr
theorem zlg(hI:Inv I β n H w){K:AVal→AHeap→Nat→Prop}{t:TypeId}{s:Nat}{zs:List AVal}(hz:wa P t=some zs)(hs:zs.length % s=0)
 (hk:K (.ptr (n,0) 0 0) (((n,0),.rows s (Jl s (zs.length / s) zs))::H) (n+1)) :
 ∃v w',(Instr.alloc t true (.tuple #[])).run P w=.ok v w'∧Zk I β n H w K v w':=by
 obtain⟨zv,zi,_,_,_,hzv,hzr⟩:=ui (I:=I) (β:=β) (n:=n) (w:=w) hz
 have hl:zs.length=zs.length / s*s:=by have:=Nat.div_add_mod zs.length s;rw[Nat.mul_comm];omega
 have hr:RowsIn I β n w s 0 (Jl s (zs.length / s) zs) zv.cells:=J5 (by rw[Wh _ _ _ hl];exact hzr) (z4w _ _ _ hl)
 obtain⟨h1,h2⟩:=z5y hI (el:=t) (fr:=(0,0)) (kl w _) (fun k h=>Q6 k _ h) EndOk.zero hr
 refine⟨.pointer (some ⟨w.heap.size,0,none⟩),w.alloc (.cells zv.cells t),?_,_,_,_,_,_,hk,h1,z21 _ _ _ _,h2⟩
 simp only[Instr.alloc,Sem.run_bind,hzv,Result.andThen_ok,newVar,newRow,run_newObj,Sem.run_pure,World.alloc_eq]
theorem zjh{t e:TypeId}(h:y1p P t=some e):∃i v,P.info? t=some i∧i.zero=some v∧v.cells=#[.pointer none,.slice none 0 0]∧(zeroValue t).run P w=.ok v w:=by
 unfold y1p at h
 split at h<;>try (cases h;done)
 rename_i fs i hu hi
 split at h<;>try (cases h;done)
 rename_i f0 f1 v z hf hv hz
 split at h<;>try (cases h;done)
 rename_i u c h1 h2 h3
 obtain⟨v',i',g1,g2,_,g4,_⟩:=ui (I:=fun _ _=>False) (β:=fun _=>none) (n:=0) (w:=w) hz
 rw[hi] at g1
 simp only[Option.some.injEq] at g1
 subst g1
 rw[hv] at g2
 simp only[Option.some.injEq] at g2
 subst g2
 exact⟨i,v,hi,hv,Array.toList_inj.1 h3,g4⟩
theorem zuo{w':World}(hI:Inv I β n H w){T e:TypeId}(hp:Pushed w w' (.cells #[.pointer none,.slice none 0 0] T (0,0))) :
 ∃β',Inv I β' (n+1) (((n,0),.bld T (n,1))::((n,1),.buf e [])::H) w'∧Ext I β n H w I β' (n+1) (((n,0),.bld T (n,1))::((n,1),.buf e [])::H) w'∧β' (n,0)=some ⟨w.heap.size,0,2,0,2⟩:=by
 have hsz:w'.heap.size=w.heap.size+1:=by rw[hp.heap];simp
 have h01:((n,1):Id)≠(n,0):=by simp
 let β':Id→Option CLoc:=upd (upd β (n,1) (some ⟨0,0,0,0,0⟩)) (n,0) (some ⟨w.heap.size,0,2,0,2⟩)
 have b0:β' (n,0)=some ⟨w.heap.size,0,2,0,2⟩:=xz _ _ _
 have b1:β' (n,1)=some ⟨0,0,0,0,0⟩:=by simp only[β'];rw[zz _ _ h01,xz]
 have bo:∀id:Id,id≠(n,0)→id≠(n,1)→β' id=β id:=fun id h0 h1=>by simp only[β'];rw[zz _ _ h0,zz _ _ h1]
 have hold:∀id:Id,id.1<n→β' id=β id:=fun id h=>bo id (Z6 h) (Z6 h)
 have cases3:∀ {id:Id} {c:CLoc} {b k:Nat},β' id=some c→c.has b k→(id=(n,0)∧b=w.heap.size)∨(id.1<n∧β id=some c):=by
  intro id c b k hc hk
  by_cases h0:id=(n,0)
  ·subst h0;rw[b0] at hc;simp only[Option.some.injEq] at hc;subst hc;exact .inl ⟨rfl,hk.1.symm⟩
  ·by_cases h1:id=(n,1)
   ·subst h1;rw[b1] at hc;simp only[Option.some.injEq] at hc;subst hc;exact absurd hk.2.2 (Nat.not_lt_zero _)
   ·rw[bo id h0 h1] at hc;exact .inr ⟨zar hI hc,hc⟩
 refine⟨β',?_⟩
 rw[←and_assoc]
 refine⟨kw hI hp.chg (Nat.le_succ n) (fun _ _ h=>h.elim) (fun _ _ h=>h) (fun _ _ h h'=>absurd h h') (fun id hid=>.inl (hold id hid)) ?_ ?_ ?_ (fun _ _ _ _ _ _ h=>h) ?_ ?_,b0⟩
 ·intro id c b k hid hc hk
  rcases cases3 hc hk with⟨_,rfl⟩|⟨h,_⟩
  ·exact⟨by omega,.inl (Nat.le_refl _)⟩
  ·omega
 ·intro id hid
  rw[bo id (fun h=>by subst h;exact absurd hid (Nat.not_succ_le_self n)) (fun h=>by subst h;exact absurd hid (Nat.not_succ_le_self n))]
  exact hI.fresh id (by omega)
 ·intro i j c d b k hi hj hc hd hj'
  rcases cases3 hj hd with⟨rfl,rfl⟩|⟨h,_⟩
  ·rcases cases3 hi hc with⟨rfl,_⟩|⟨_,h⟩
   ·rfl
   ·exact(Wj hI h hc (Nat.le_refl _)).elim
  ·omega
 ·intro id hid hg
  rwa [AHeap.get_cons_other _ _ (Z6 hid).symm,AHeap.get_cons_other _ _ (Z6 hid).symm] at hg
 ·intro id blk hid
  by_cases h0:(n,0)=id
  ·subst h0
   rw[AHeap.get_cons_same] at hid
   simp only[Option.some.injEq] at hid
   subst hid
   exact .inr ⟨_,b0,rfl,rfl,rfl,Nat.lt_succ_self n,_,_,hp.new,.inl rfl,fun d hd=>by rw[b1] at hd;simp only[Option.some.injEq] at hd;subst hd;exact .inl ⟨rfl,rfl⟩⟩
  ·rw[AHeap.get_cons_other _ _ h0] at hid
   by_cases h1:(n,1)=id
   ·subst h1
    rw[AHeap.get_cons_same] at hid
    simp only[Option.some.injEq] at hid
    subst hid
    exact .inr ⟨_,b1,rfl,rfl,.inl ⟨rfl,rfl⟩⟩
   ·rw[AHeap.get_cons_other _ _ h1] at hid
    exact .inl ⟨hid,bo id (fun h=>h0 h.symm) (fun h=>h1 h.symm),fun _ _ _ _ _ h=>h⟩
theorem zlr(hI:Inv I β n H w){K:AVal→AHeap→Nat→Prop}{t e:TypeId}(hb:y1p P t=some e)(hk:K (.ptr (n,0) 0 0) (((n,0),.bld t (n,1))::((n,1),.buf e [])::H) (n+1)) :
 ∃v w',(Instr.alloc t true (.tuple #[])).run P w=.ok v w'∧Zk I β n H w K v w':=by
 obtain⟨i,zv,_,_,hz,hzv⟩:=zjh (w:=w) hb
 obtain⟨β',h1,h2,h3⟩:=zuo (e:=e) hI (kl w (.cells #[.pointer none,.slice none 0 0] t))
 refine⟨.pointer (some ⟨w.heap.size,0,none⟩),w.alloc (.cells zv.cells t),?_,_,_,_,_,_,hk,by rw[hz];exact h1,?_,by rw[hz];exact h2⟩
 ·simp only[Instr.alloc,Sem.run_bind,hzv,Result.andThen_ok,newVar,newRow,run_newObj,Sem.run_pure,World.alloc_eq]
 ·refine .ptr _ _ _ _ (Nat.lt_succ_self n) fun c hc=>?_
  rw[h3] at hc
  simp only[Option.some.injEq] at hc
  subst hc
  simp
theorem y0g(hI:Inv I β n H w){K:AVal→AHeap→Nat→Prop}{t:TypeId}{x:AVal}{v:Value}(hx:Rep I β n w x v){cs:List AVal}(hc:x.cells? = some cs)(hk:K (.ptr (n,0) 0 0) (((n,0),.one cs)::H) (n+1)) :
 ∃u w',(Instr.box t v).run P w=.ok u w'∧Zk I β n H w K u w':=by
 refine⟨.pointer (some ⟨w.heap.size,0,none⟩),w.alloc (.cells v.cells t),?_,zdv hI (arr:=v.cells) (el:=t) (kl w _) (Ye (z18 hx hc)) hk⟩
 simp only[Instr.box,Sem.run_bind,Result.andThen_ok,newVar,newRow,run_newObj,Sem.run_pure,World.alloc_eq]
theorem zg8(l:List (Nat×LOpd)):(evI e l).length=l.length:=by
 induction l with
 |nil=>rfl
 |cons x l ih=>obtain⟨_,_⟩:=x;simp[evI,ih]
theorem Ka(hE:RepEnv I β n w e a):∀ (ps:List (Nat×Operand)) (l:List (Nat×LOpd)),Yq ps=some l→U1 e l →
 ps.length=l.length∧∀ (k i i':Nat) (v:Value) (x:AVal),(ps.map fun q=>(q.1,a.eval q.2))[k]?=some (i,v)→(evI e l)[k]?=some (i',x)→i=i'∧Rep I β n w x v
 |[],l,h,_=>by simp[Yq] at h;subst h;simp
 |(i0,o0)::ps,l,h,hn=>by
  simp only[Yq] at h
  cases hx:q9 o0 with
  |none=>simp[hx] at h
  |some x0=>
  cases hr:Yq ps with
  |none=>simp[hx,hr] at h
  |some l0=>
   simp only[hx,hr,Option.some.injEq] at h
   subst h
   simp only[U1] at hn
   obtain⟨ih1,ih2⟩:=Ka hE ps l0 hr hn.2
   refine⟨by simp[ih1],?_⟩
   intro k i i' v x h1 h2
   cases k with
   |zero=>
    simp[evI] at h1 h2
    obtain⟨rfl,rfl⟩:=h1
    obtain⟨rfl,rfl⟩:=h2
    exact⟨rfl,ya hE hx hn.1⟩
   |succ k=>exact ih2 k i i' v x (by simpa using h1) (by simpa[evI] using h2)
theorem z68(hI:Inv I β n H w)(hE:RepEnv I β n w e a){t c:TypeId}{len s:Nat}{parts:Array (Nat×Operand)}{zs:List AVal}{l:List (Nat×LOpd)}(ht:P.underlying t=some (.slice c))(hz:wa P c=some zs)(hsz:wj P c=some s)
 (hpl:Yq parts.toList=some l) (hs:0<s) (hlen:len*s≤16777216) (hzs:zs.length=s) (hn:U1 e l) {p:Prop} {rows:List (List AVal)} (hm:Je (List.replicate len zs) (evI e l)=some (p,rows)) (hp:p)
 :
 ∃arr',(Instr.buildSlice t len (parts.map fun(i,x)=>(i,a.eval x))).run P w=.ok (.slice (some ⟨w.heap.size,0,none⟩) len len) (w.alloc (.cells arr' c))∧arr'.size=len*s∧rows.length=len∧RowsIn I β n w s 0 rows arr':=by
 obtain⟨zv,zi,_,_,_,hzv,hzr⟩:=ui (I:=I) (β:=β) (n:=n) (w:=w) hz
 obtain⟨g1,g2⟩:=Ka hE parts.toList l hpl hn
 have hl:∀r∈List.replicate len zs,r.length=s:=fun r hr=>by rw[(List.mem_replicate.1 hr).2,hzs]
 obtain⟨k1,k2,side,k3,k4⟩:=z1r _ _ _ _ hm hp hl
 have hrep:=Uv hzr (by omega) len
 rw[hzs] at hrep
 obtain⟨arr',cs',f1,f2,f3,f4⟩:=z0f (I:=I) (β:=β) (n:=n) (w:=w) (fun i=>some (i*s,s)) (parts.toList.map fun q=>(q.1,a.eval q.2)) ((evI e l).map fun q=>(q.1*s,s,q.2)) _ _
  (by simp[zg8,←g1]) (by
   intro k i off m v x h1 h2
   rw[List.getElem?_map] at h2
   cases hq:(evI e l)[k]? with
   |none=>rw[hq] at h2;cases h2
   |some q=>
    rw[hq] at h2
    simp only[Option.map_some,Option.some.injEq,Prod.mk.injEq] at h2
    obtain⟨h3,h4,h5⟩:=h2
    obtain⟨h6,h7⟩:=g2 k i q.1 v q.2 h1 hq
    subst h6;subst h3;subst h4;subst h5
    exact⟨rfl,h7⟩) hrep side _ k3 k4
 simp only[AVal.agg.injEq] at f2
 subst f2
 have hsize:arr'.size=len*s:=by rw[f3.1,u9 _ k1,k2];simp
 refine⟨arr',?_,hsize,by rw[k2];simp,J5 f3 k1⟩
 have e1:(parts.map fun(i,x)=>(i,a.eval x)).toList=parts.toList.map fun q=>(q.1,a.eval q.2):=by simp
 simp only[Instr.buildSlice,Sem.run_bind,zf ht,Result.andThen_ok,x7 hsz]
 rw[if_neg (by omega)]
 by_cases h0:len*s=0
 ·have:(Array.range (len*s)).map (zv.cells[· % zv.cells.size]!)=#[]:=by rw[h0];simp
  rw[this] at f1
  simp only[if_pos h0,Sem.run_pure,Result.andThen_ok,Sem.run_bind,e1]
  have:(Array.range (len*s)).map ((#[]:Array Value)[· % (#[]:Array Value).size]!)=#[]:=by rw[h0];simp
  rw[this,f1]
  simp only[newRow,Sem.run_bind,run_newObj,Result.andThen_ok,Sem.run_pure,World.alloc_eq]
 ·simp only[if_neg h0,Sem.run_pure,Result.andThen_ok,Sem.run_bind,e1,hzv,f1,newRow,run_newObj,World.alloc_eq]
theorem zht(hI:Inv I β n H w){K:AVal→AHeap→Nat→Prop}{c:TypeId}{len s:Nat}{rows:List (List AVal)}{arr':Array Value}(h1:arr'.size=len*s)(h2:RowsIn I β n w s 0 rows arr')
 (hk:K (.msl (n,0) s 0 len true) (((n,0),.rows s rows)::H) (n+1)):Zk I β n H w K (.slice (some ⟨w.heap.size,0,none⟩) len len) (w.alloc (.cells arr' c)):=
 z0g hI (arr:=arr') (el:=c) (fr:=(0,0)) (kl w _) (fun k h=>Q6 k _ h) EndOk.zero h2 hk (J6 _ (Nat.le_refl _) (fun _=>rfl) (by rw[h1];exact Nat.le_refl _))
theorem Kz(z:AVal){x:AVal}{v:Value}(h:RepI I w x v):RepI I w (J7 z x) v:=by
 unfold J7
 split
 ·cases h with|val _ _=>exact .islNil _ _
 ·cases h with
  |isl _ _ _ b o cap vf h1 h2 h3 h4 h5 h6 h7=>exact .isl _ _ false b o cap vf h1 h2 (fun h=>by cases h) h4 h5 h6 h7
  |islEmpty _ _ b cap h1=>exact .islEmpty _ _ b cap (fun h=>by cases h)
  |islNil _ _=>exact .islNil _ _
 ·exact h
theorem Yb:∀ (zs r:List AVal),(wm zs r).length=r.length∧∀ (j:Nat) (y:AVal),(wm zs r)[j]?=some y→∃x z,r[j]?=some x∧(y=x∨y=J7 z x)
 |[],r=>⟨by simp[wm],fun j y h=>⟨y,y,by simpa[wm] using h,.inl rfl⟩⟩
 |z::zs,[]=>⟨by simp[wm],fun j y h=>by simp[wm] at h⟩
 |z::zs,x::r=>by
  obtain⟨h1,h2⟩:=Yb zs r
  refine⟨by simp[wm,h1],fun j y hy=>?_⟩
  cases j with
  |zero=>simp[wm] at hy;exact⟨x,z,rfl,.inr hy.symm⟩
  |succ j=>simpa using h2 j y (by simpa[wm] using hy)
theorem Uu{s base:Nat}{es:List (List AVal)}{arr:Array Value}(h:RowsIn I β n w s base es arr)(zs:List AVal):RowsIn I β n w s base (es.map (wm zs)) arr:=by
 obtain⟨h1,h2,h3⟩:=h
 have hg:∀ (i:Nat) (r:List AVal),(es.map (wm zs))[i]?=some r→∃r0,es[i]?=some r0∧r=wm zs r0:=by
  intro i r hr
  rw[List.getElem?_map] at hr
  cases he:es[i]? with
  |none=>rw[he] at hr;cases hr
  |some r0=>rw[he] at hr;simp at hr;exact⟨r0,rfl,hr.symm⟩
 refine⟨by simpa using h1,fun i r hr=>?_,fun i r j x hr hx=>?_⟩
 ·obtain⟨r0,g1,rfl⟩:=hg i r hr
  rw[(Yb zs r0).1];exact h2 i r0 g1
 ·obtain⟨r0,g1,rfl⟩:=hg i r hr
  obtain⟨x0,z0,q1,q2⟩:=(Yb zs r0).2 j x hx
  obtain⟨v,k1,k2,k3⟩:=h3 i r0 j x0 g1 q1
  refine⟨v,k1,k2,?_⟩
  rcases q2 with rfl|rfl
  ·exact k3
  ·exact Wn z0 k3
theorem z6k{s base:Nat}{es:List (List AVal)}{arr:Array Value}(h:RowsInI I w s base es arr)(zs:List AVal):RowsInI I w s base (es.map (wm zs)) arr:=by
 obtain⟨h1,h2,h3⟩:=h
 have hg:∀ (i:Nat) (r:List AVal),(es.map (wm zs))[i]?=some r→∃r0,es[i]?=some r0∧r=wm zs r0:=by
  intro i r hr
  rw[List.getElem?_map] at hr
  cases he:es[i]? with
  |none=>rw[he] at hr;cases hr
  |some r0=>rw[he] at hr;simp at hr;exact⟨r0,rfl,hr.symm⟩
 refine⟨by simpa using h1,fun i r hr=>?_,fun i r j x hr hx=>?_⟩
 ·obtain⟨r0,g1,rfl⟩:=hg i r hr
  rw[(Yb zs r0).1];exact h2 i r0 g1
 ·obtain⟨r0,g1,rfl⟩:=hg i r hr
  obtain⟨y,z,g2,g3⟩:=(Yb zs r0).2 j x hx
  obtain⟨v,k1,k2,k3⟩:=h3 i r0 j y g1 g2
  refine⟨v,k1,k2,?_⟩
  rcases g3 with rfl|rfl
  ·exact k3
  ·exact Kz z k3
theorem ze5(hI:Inv I β n H w){K:AVal→AHeap→Nat→Prop}{c:TypeId}{len s:Nat}{rows rows':List (List AVal)}{arr':Array Value}(h2:RowsIn I β n w s 0 rows arr')(h3:rows.length=len)(hi:uc rows=some rows')
 {zs:List AVal} (hk:K (.isl s (rows'.map (wm zs)) true) H n):Zk I β n H w K (.slice (some ⟨w.heap.size,0,none⟩) len len) (w.alloc (.cells arr' c)):=by
 obtain⟨I',β',g1,g2,_,g4,_⟩:=z5a (H2:=H) hI (kl w (.cells arr' c)) (fun k h=>Q6 k _ h) (z6k (z4g h2 hi) zs) false (fun _ _ h=>h)
 simp only[Bool.false_eq_true,if_false] at g1 g2
 have hl:(rows'.map (wm zs)).length=len:=by rw[List.length_map,(Xr hi).1,h3]
 subst hl
 exact⟨_,_,_,_,_,hk,g1,.imm _ _ (g4 _ true (Nat.le_refl _) (fun _=>rfl)),g2⟩
theorem zdf(hI:Inv I β n H w){K:AVal→AHeap→Nat→Prop}{t:TypeId}{m:Nat}(hsz:wj P t=some m){b:Id}{i off:Nat}{v u:Value}{x:AVal}(ha:Rep I β n w (.ptr b i off) v)(hx:Rep I β n w x u){cs:List AVal}(hc:x.cells? = some cs)
 {s:Nat} {es:List (List AVal)} (hb:H.get b=some (.rows s es)) (h1:cs.length=m) (h2:i<es.length) (h3:off+m≤s) (hk:K .any (H.set b (.rows s (es.set i (kj (es.getD i []) off cs)))) n) :
 ∃w',(Instr.storeAt t v u).run P w=.ok () w'∧Zk I β n H w K undef w':=by
 obtain⟨c,hcb,hB⟩:=hI.blocks b _ hb
 have hB0:=hB
 obtain⟨rfl,⟨arr,el,fr,g1,g2⟩|⟨_,_,rfl⟩,g3,glo,g4,g5,g6⟩:=hB
 rotate_left
 ·simp at h2
 cases ha with
 |imm _ _ ha=>cases ha
 |ptr _ _ _ ad hbn hp=>
  have hp:=hp c hcb
  subst hp
  obtain⟨k1,k2,k3⟩:=z18 hx hc
  have hri:es[i]?=some (es.getD i []):=by simp[List.getElem?_eq_getElem h2]
  have hrl:=g5 i _ hri
  have hin:(i+1)*c.s≤es.length*c.s:=Nat.mul_le_mul_right _ h2
  rw[Nat.add_mul] at hin
  generalize es.getD i []=row at *
  obtain⟨w',r1,r2,_,r4⟩:=ut (P:=P) (vs:=u.cells.toList) (w:=w) (b:=c.blk) (o:=c.base+i*c.s+off)
   (fun j hj=>by
    simp only[Array.length_toList] at hj
    obtain⟨v,q1,_⟩:=g6 i _ (off+j) _ hri (List.getElem?_eq_getElem (by omega:off+j<row.length))
    exact⟨v,by rw[←q1];congr 2;omega⟩)
   (fun j hj=>by
    simp only[Array.length_toList] at hj
    exact g3 _ (by omega) (by omega)) k2
  simp only[Array.length_toList] at r2 r4
  have hblk:c.blk<w.heap.size:=by
   rcases Nat.lt_or_ge c.blk w.heap.size with h|h
   ·exact h
   ·rw[Array.getElem?_eq_none h] at g1;cases g1
  have r3:∀k,(k<c.base+i*c.s+off∨c.base+i*c.s+off+u.cells.size≤k)→w'.cell? ⟨c.blk,k,none⟩=w.cell? ⟨c.blk,k,none⟩:=fun k hk=>r2.cell c.blk k hblk (fun h=>by omega)
  refine⟨w',?_,?_⟩
  ·simp only[Instr.storeAt,Instr.sureAddr,storeVar,Sem.run_bind,Sem.run_pure,Result.andThen_ok,x7 hsz]
   rw[if_neg (by omega)]
   exact r1
  ·have hspl:(kj row off cs).length=c.s:=by
    unfold kj
    rw[List.length_append,List.length_append,List.length_take,List.length_drop];omega
   obtain⟨q1,q2⟩:=K7 hI hb hcb (r2.mono (fun b' k h=>⟨h.1.symm,by omega,by omega⟩)) (es':=es.set i (kj row off cs)) (by simp)
    (fun i' r hr=>by
     rw[List.getElem?_set] at hr
     split at hr
     ·rename_i heq
      subst heq
      simp only[Option.some.injEq] at hr;rw[←hr];exact hspl
     ·exact g5 i' r hr)
    (fun i' r j y hr hj=>by
     rw[List.getElem?_set] at hr
     split at hr
     ·rename_i heq
      subst heq
      simp only[Option.some.injEq] at hr
      subst hr
      unfold kj at hj
      by_cases hc1:off≤j∧j<off+cs.length
      ·have hj':cs[j-off]?=some y:=by
        rw[List.append_assoc,List.getElem?_append_right (by simp;omega),List.getElem?_append_left (by simp;omega)] at hj
        rw[←hj];congr 1;simp;omega
       have hlt:j-off<u.cells.size:=by omega
       refine⟨u.cells[j-off],?_,k2 _ (by simp),k3 _ _ _ hj' (Array.getElem?_eq_getElem hlt)⟩
       have:=r4 (j-off) hlt
       rw[Array.getElem?_toList,Array.getElem?_eq_getElem hlt] at this
       rw[←this];congr 2;omega
      ·have hj':row[j]?=some y:=by
        by_cases hlt:j<off
        ·rw[List.append_assoc,List.getElem?_append_left (by simp;omega),List.getElem?_take_of_lt hlt] at hj;exact hj
        ·rw[List.getElem?_append_right (by simp;omega),List.getElem?_drop] at hj
         rw[←hj];congr 1;simp;omega
       obtain⟨v,p1,p2,p3⟩:=g6 i _ j y hri hj'
       exact⟨v,by rw[r3 _ (by omega)];exact p1,p2,p3⟩
     ·rename_i hne
      obtain⟨v,p1,p2,p3⟩:=g6 i' r j y hr hj
      have hjl:j<c.s:=by
       have:=g5 i' r hr
       rcases Nat.lt_or_ge j r.length with h|h
       ·omega
       ·rw[List.getElem?_eq_none h] at hj;cases hj
      refine⟨v,?_,p2,p3⟩
      rw[r3 _ ?_];exact p1
      rcases Nat.lt_or_gt_of_ne hne with h|h
      ·have:(i+1)*c.s≤i'*c.s:=Nat.mul_le_mul_right _ h
       rw[Nat.add_mul] at this
       right;omega
      ·have:(i'+1)*c.s≤i*c.s:=Nat.mul_le_mul_right _ h
       rw[Nat.add_mul] at this
       left;omega)
   exact⟨.any,_,_,_,_,hk,q1,.any _,q2⟩
theorem zb8(hI:Inv I β n H w){K:AVal→AHeap→Nat→Prop}{t:TypeId}{m:Nat}(hsz:wj P t=some m){b:Id}{off:Nat}{v u:Value}{x:AVal}(ha:Rep I β n w (.ptr b 0 off) v)(hx:Rep I β n w x u){cs:List AVal}(hc:x.cells? = some cs)
 {rs:List AVal} (hb:H.get b=some (.one rs)) (h1:cs.length=m) (h3:off+m≤rs.length) (hk:K .any (H.set b (.one (kj rs off cs))) n) :
 ∃w',(Instr.storeAt t v u).run P w=.ok () w'∧Zk I β n H w K undef w':=by
 have hspl:(kj rs off cs).length=rs.length:=by
  unfold kj
  rw[List.length_append,List.length_append,List.length_take,List.length_drop];omega
 let H2:AHeap:=H.set b (.rows rs.length [rs])
 have hb2:H2.get b=some (.rows rs.length [rs]):=by
  show(H.set b _).get b=_
  rw[AHeap.get_set,if_pos rfl,hb];rfl
 have hI2:Inv I β n H2 w:=hI.same (fun id blk hid=>by
  have hid:(H.set b (.rows rs.length [rs])).get id=some blk:=hid
  rw[AHeap.get_set] at hid
  split at hid
  ·rename_i hbi
   subst hbi
   rw[hb] at hid
   simp only[Option.map_some,Option.some.injEq] at hid
   subst hid
   exact⟨_,hb,fun c hc=>u0.1 hc⟩
  ·exact⟨blk,hid,fun _ h=>h⟩)
 obtain⟨w',r1,r,H',n',I',β',hK,g1,g2,g3⟩:=zdf (P:=P) (K:=fun r H' n'=>r=.any∧H'=H2.set b (.rows rs.length [kj rs off cs])∧n'=n) hI2 hsz ha hx hc hb2 h1 (by simp) h3 ⟨rfl,by simp,rfl⟩
 obtain⟨rfl,rfl,rfl⟩:=hK
 refine⟨w',r1,.any,_,_,I',β',hk,g1.same (fun id blk hid=>?_),.any _,g3.same (fun id=>(W3 id).symm) (fun id hid=>?_)⟩
 ·rw[AHeap.get_set] at hid
  split at hid
  ·rename_i hbi
   subst hbi
   rw[hb] at hid
   simp only[Option.map_some,Option.some.injEq] at hid
   subst hid
   refine⟨.rows rs.length [kj rs off cs],by rw[AHeap.get_set,if_pos rfl,hb2];rfl,fun c hc=>u0.2 ?_⟩
   rw[hspl];exact hc
  ·rename_i hbi
   refine⟨blk,?_,fun _ h=>h⟩
   rw[AHeap.get_set,if_neg hbi]
   show(H.set b _).get id=_
   rw[AHeap.get_set,if_neg hbi];exact hid
 ·rw[W3] at hid ⊢
  show(H.set b _).get id≠none
  rw[W3];exact hid
end
end Go.Fx
