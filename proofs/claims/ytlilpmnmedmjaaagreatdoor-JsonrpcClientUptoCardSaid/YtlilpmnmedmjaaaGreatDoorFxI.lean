/-
  Own framework.
-/
import Derived.Test.YtlilpmnmedmjaaaGreatDoorFxH
namespace Go.Fx
set_option linter.unusedVariables false
variable {P:Program}
section
variable {I:Nat→Nat→Prop} {β:Id→Option CLoc} {n:Nat} {H:AHeap} {w:World} {e:Env} {a:Act}
theorem z09{z:Int}(h1:-9223372036854775808≤z)(h2:z≤9223372036854775807):IntKind.i64.wrap z=z:=by
 show(if(true&&decide (z % 18446744073709551616≥9223372036854775808))=true then z % 18446744073709551616-18446744073709551616 else z % 18446744073709551616)=z
 by_cases h:z % 18446744073709551616≥9223372036854775808
 ·rw[if_pos (by simpa using h)];omega
 ·rw[if_neg (by simpa using h)];omega
theorem z3m{t:TypeId}{b:Nat}(h:X8 P t=some b):∃i,P.info? t=some i∧i.bytes=b:=by
 unfold X8 at h
 cases hi:P.info? t with
 |none=>rw[hi] at h;cases h
 |some i=>rw[hi] at h;simp at h;exact⟨i,rfl,h⟩
theorem z0v{t c:TypeId}{s b:Nat}{zs:List AVal}(ht:P.underlying t=some (.slice c))(hz:wa P c=some zs)(hsz:wj P c=some s)(hby:X8 P c=some b)(hs:0<s)(hb:0<b)
 {l k:Int} (h0:0≤l) (h1:l≤k) (h2:k*b≤140737488355328) :
 ∃arr,(Instr.makeSlice t (.int .i64 l) (.int .i64 k)).run P w=.ok (.slice (some ⟨w.heap.size,0,none⟩) l.toNat k.toNat) (w.alloc (.cells arr c))∧arr.size=k.toNat * s∧RowsIn I β n w s 0 (List.replicate l.toNat zs) arr:=by
 obtain⟨zv,zi,hzi,_,hzl,hzv,hzr⟩:=ui (I:=I) (β:=β) (n:=n) (w:=w) hz
 obtain⟨bi,hbi,hbb⟩:=z3m hby
 have hzs:zs.length=s:=by
  unfold wj at hsz;rw[hzi] at hsz;simp at hsz;omega
 have hkb:k≤140737488355328:=by
  have:k*1≤k*b:=Int.mul_le_mul_of_nonneg_left (by omega) (by omega)
  omega
 have hl1:IntKind.i64.wrap l=l:=z09 (by omega) (by omega)
 have hk1:IntKind.i64.wrap k=k:=z09 (by omega) (by omega)
 have hrep:=Uv hzr (by omega) k.toNat
 rw[hzs] at hrep
 have hlr:∀r∈List.replicate k.toNat zs,r.length=s:=fun r hr=>by rw[(List.mem_replicate.1 hr).2,hzs]
 have hin:=J5 hrep hlr
 have hin':RowsIn I β n w s 0 (List.replicate l.toNat zs) ((Array.range (k.toNat * s)).map (zv.cells[· % zv.cells.size]!)):=by
  obtain⟨q1,q2,q3⟩:=hin
  have hle:l.toNat≤k.toNat:=by omega
  have hsub:∀ (i:Nat) (r:List AVal),(List.replicate l.toNat zs)[i]?=some r→(List.replicate k.toNat zs)[i]?=some r:=by
   intro i r hi
   have hlt:i<l.toNat:=by
    rcases Nat.lt_or_ge i l.toNat with h|h
    ·exact h
    ·rw[List.getElem?_eq_none (by simpa using h)] at hi;cases hi
   rw[List.getElem?_replicate_of_lt hlt] at hi
   rw[List.getElem?_replicate_of_lt (by omega)];exact hi
  refine⟨?_,fun i r hi=>q2 i r (hsub i r hi),fun i r j x hi hj=>q3 i r j x (hsub i r hi) hj⟩
  have:=Nat.mul_le_mul_right s hle
  simp only[List.length_replicate] at q1 ⊢
  omega
 have hasz:((Array.range (k.toNat * s)).map (zv.cells[· % zv.cells.size]!)).size=k.toNat * s:=by simp
 refine⟨_,?_,hasz,hin'⟩
 have n1:(decide (k<0) || decide ((b:Int)*k > 2 ^ 48))=false:=by
  have:(b:Int)*k=k*b:=Int.mul_comm _ _
  simp;omega
 have n2:decide (l<0)=false:=by simp;omega
 have n3:decide (l > k)=false:=by simp;omega
 have htI:(typeInfo c).run P w=.ok bi w:=by unfold typeInfo;simp[hbi]
 simp only[Instr.makeSlice,Sem.run_bind,zf ht,Result.andThen_ok,asInt,asIntOf,Sem.run_pure,htI,hbb,hl1,hk1,n1,n2,n3,Bool.or_false,Bool.false_eq_true,if_false,run_askRoom,x7 hsz]
 by_cases hk0:k.toNat * s=0
 ·have e0:∀f:Nat→Value,(Array.range 0).map f=#[]:=by intro f;simp
  simp only[hk0,if_true,e0]
  simp[newRow]
 ·simp only[hk0,if_false,Sem.run_pure,Result.andThen_ok,Sem.run_bind,hzv]
  simp[newRow]
theorem z40(hI:Inv I β n H w){K:AVal→AHeap→Nat→Prop}{c:TypeId}{s:Nat}{zs:List AVal}{arr:Array Value}{l k:Int}(h1:l≤k)(ha:arr.size=k.toNat * s)(hin:RowsIn I β n w s 0 (List.replicate l.toNat zs) arr)
 (hk:K (.msl (n,0) s 0 l.toNat (decide (k=l))) (((n,0),.rows s (List.replicate l.toNat zs))::H) (n+1)):Zk I β n H w K (.slice (some ⟨w.heap.size,0,none⟩) l.toNat k.toNat) (w.alloc (.cells arr c)):=
 z0g hI (fr:=(0,0)) (kl w _) (fun k h=>Q6 k _ h) EndOk.zero hin hk (J6 _ (by omega) (fun h=>by simp at h;rw[h]) (by rw[ha];exact Nat.le_refl _))
theorem zau(hI:Inv I β n H w){K:AVal→AHeap→Nat→Prop}{c:TypeId}{s:Nat}{arr:Array Value}{k:Int}(ha:arr.size=k.toNat * s)
 (hk:K (.osl (n,0) s []) (((n,0),.tok)::H) (n+1)):Zk I β n H w K (.slice (some ⟨w.heap.size,0,none⟩) (0:Int).toNat k.toNat) (w.alloc (.cells arr c)):=by
 obtain⟨I',β',g1,g2,g3,g4,_⟩:=z5a (s:=s) (es:=[]) (H2:=H) hI (kl w (.cells arr c)) (fun k h=>Q6 k _ h) (by simp[RowsInI]) true (fun _ _ h=>h)
 simp only[if_true] at g1 g2
 refine⟨_,_,_,_,_,hk,g1,?_,g2⟩
 refine .osl _ _ _ _ (Nat.lt_succ_self n) (g4 _ false (Nat.zero_le _) (fun h=>by cases h)) ?_
 intro d hd ad cap' he
 rw[g3 rfl] at hd
 simp only[Option.some.injEq] at hd
 subst hd
 simp only[Value.slice.injEq,Option.some.injEq] at he
 obtain⟨rfl,_,rfl⟩:=he
 right
 exact⟨rfl,rfl,by simp,by simp only[Nat.zero_add];rw[ha];exact Nat.le_refl _⟩
theorem zad(m:Nat):∀ (r c:Nat),256≤c→c≤2*m→Builtin.growBy m r c≤2*m
 |0,c,_,h=>by simpa[Builtin.growBy] using h
 |r+1,c,h0,h=>by
  unfold Builtin.growBy
  split
  ·exact h
  ·exact zad m r _ (by omega) (by omega)
theorem z1z{m c:Nat}(h:c<m):Builtin.nextslicecap m c≤2*m:=by
 unfold Builtin.nextslicecap
 split
 ·omega
 ·split
  ·omega
  ·exact zad m 4 c (by omega) (by omega)
theorem z5f{s:Nat}{es1 es2:List (List AVal)}{a1 a2 a3:Array Value}(h1:RowsIn I β n w s 0 es1 a1)(h2:RowsIn I β n w s 0 es2 a2)(hs:a1.size=es1.length*s):RowsIn I β n w s 0 (es1++es2) (a1++a2++a3):=by
 obtain⟨p1,p2,p3⟩:=h1
 obtain⟨q1,q2,q3⟩:=h2
 refine⟨by simp only[List.length_append,Array.size_append,Nat.add_mul] at *;omega,?_,?_⟩
 ·intro i r hi
  rw[List.getElem?_append] at hi
  split at hi
  ·exact p2 i r hi
  ·exact q2 _ r hi
 ·intro i r j x hi hj
  rw[List.getElem?_append] at hi
  split at hi
  ·rename_i hlt
   obtain⟨v,g1,g2,g3⟩:=p3 i r j x hi hj
   refine⟨v,?_,g2,g3⟩
   have:0+i*s+j<a1.size:=by
    rcases Nat.lt_or_ge (0+i*s+j) a1.size with h|h
    ·exact h
    ·rw[Array.getElem?_eq_none h] at g1;cases g1
   rw[Array.append_assoc,Array.getElem?_append_left this];exact g1
  ·rename_i hge
   obtain⟨v,g1,g2,g3⟩:=q3 _ r j x hi hj
   refine⟨v,?_,g2,g3⟩
   have hlt:0+(i-es1.length)*s+j<a2.size:=by
    rcases Nat.lt_or_ge (0+(i-es1.length)*s+j) a2.size with h|h
    ·exact h
    ·rw[Array.getElem?_eq_none h] at g1;cases g1
   have e1:i*s=es1.length*s+(i-es1.length)*s:=by rw[←Nat.add_mul];congr 1;omega
   rw[Array.append_assoc,Array.getElem?_append_right (by omega),Array.getElem?_append_left (by omega),←g1]
   congr 1;omega
theorem cell?_heap {w':World} (h:w'.heap=w.heap) (a:Addr):w'.cell? a=w.cell? a:=by unfold World.cell?;rw[h]
theorem RepI.of_heap{w':World}(h:w'.heap=w.heap){x:AVal}{v:Value}(hr:RepI I w x v):RepI I w' x v:=
 hr.mono (fun _ _ h=>h) (fun b k _=>cell?_heap h _)
theorem Rep.of_heap{w':World}(h:w'.heap=w.heap){x:AVal}{v:Value}(hr:Rep I β n w x v):Rep I β n w' x v:=
 hr.mono' (fun _ _ h=>h) (fun b k _=>cell?_heap h _) (Nat.le_refl n) (fun _ _ _ h=>h)
theorem Inv.of_heap{w':World}(h:w'.heap=w.heap)(hI:Inv I β n H w):Inv I β n H w':=by
 refine⟨fun id blk hb=>?_,hI.inj,fun i c b k hc hk=>by rw[h];exact hI.own i c b k hc hk,fun b k hb=>by rw[cell?_heap h];exact hI.imm b k hb,hI.fresh,hI.glob.mono (fun _ _ h=>h) (fun b k _=>cell?_heap h _) (fun b arr el fr hh=>⟨arr,fr,by rw[h];exact hh,rfl⟩)⟩
 obtain⟨c,hc,hB⟩:=hI.blocks id blk hb
 exact⟨c,hc,hB.mono' (fun _ _ h=>h) (fun b k _=>cell?_heap h _) (Nat.le_refl n) (fun _ _ _ h=>h) (fun arr el fr hh=>⟨arr,fr,by rw[h];exact hh,rfl,.inl rfl⟩) (fun b k v _ hv=>by rw[cell?_heap h];exact hv) (fun es ck _ hm=>by rw[h];exact hm)⟩
theorem RowsIn.of_heap{w':World}(h:w'.heap=w.heap){s base:Nat}{es:List (List AVal)}{arr:Array Value}(hr:RowsIn I β n w s base es arr):RowsIn I β n w' s base es arr:=
 ⟨hr.1,hr.2.1,fun i r j x hi hj=>by obtain⟨v,h1,h2,h3⟩:=hr.2.2 i r j x hi hj;exact⟨v,h1,h2,h3.of_heap h⟩⟩
theorem RowsInI.of_heap{w':World}(h:w'.heap=w.heap){s base:Nat}{es:List (List AVal)}{arr:Array Value}(hr:RowsInI I w s base es arr):RowsInI I w' s base es arr:=
 ⟨hr.1,hr.2.1,fun i r j x hi hj=>by obtain⟨v,h1,h2,h3⟩:=hr.2.2 i r j x hi hj;exact⟨v,h1,h2,h3.of_heap h⟩⟩
theorem z61{t u c rt:TypeId}{s b:Nat}{zs:List AVal}(ht:P.underlying t=some (.slice c))(hu:(∃c',P.underlying u=some (.slice c'))∨P.underlying u=some .string)(hz:wa P c=some zs)(hsz:wj P c=some s)(hby:X8 P c=some b)(hb:0<b)
 {base:Option Addr} {len cap m2:Nat} {y:Value} {a1 a2:Array Value} {wd:World} (hwd:wd={ w with drawn:=w.drawn+1 }) (hly:(Builtin.lenOf y).run P w=.ok m2 w)
 (h1:(Builtin.firstCells s len (.slice base len cap)).run P wd=.ok a1 wd) (h2:(Builtin.firstCells s m2 y).run P wd=.ok a2 wd)
 (hcap:cap<len+m2) (hby2:(len+m2)*b≤140737488355328) (hs1:a1.size=len*s) (hs2:a2.size=m2*s) :
 ∃ (m:Nat) (w':World) (a3:Array Value),(Builtin.append_ #[t,u] rt #[.slice base len cap,y]).run P w=.ok (.slice (some ⟨w.heap.size,0,none⟩) (len+m2) m) w'∧len+m2≤m ∧
  Pushed w w' (.cells (a1++a2++a3) c (0,0))∧(a1++a2++a3).size=m*s:=by
 obtain⟨zv,zi,hzi,_,hzl,hzv,hzr⟩:=ui (I:=fun _ _=>False) (β:=fun _=>none) (n:=0) (w:=wd) hz
 obtain⟨bi,hbi,hbb⟩:=z3m hby
 have htI:∀w,(typeInfo c).run P w=.ok bi w:=by intro w;unfold typeInfo;simp[hbi]
 have hzs:zs.length=s:=by
  unfold wj at hsz;rw[hzi] at hsz;simp at hsz;omega
 have hzc:zv.cells.size=s:=by have:=hzr.1;omega
 have hm1:(len+m2)*1≤(len+m2)*b:=Nat.mul_le_mul_left _ hb
 have hnc:=z1z hcap
 have hnc2:Builtin.nextslicecap (len+m2) cap*b≤281474976710656:=by
  have:Builtin.nextslicecap (len+m2) cap*b≤2*(len+m2)*b:=Nat.mul_le_mul_right _ hnc
  rw[Nat.mul_assoc] at this;omega
 have hmx:IntKind.i64.max=9223372036854775807:=by decide
 let q:Question:=.appendCap (len+m2) cap c
 let m:=q.cut (w.tape w.drawn q)
 have hm:len+m2≤m:=Nat.le_add_right _ _
 let a3:=Builtin.zeroCells zv.cells (m-(len+m2))
 have ha3:a3.size=(m-(len+m2))*s:=by simp[a3,Builtin.zeroCells,hzc]
 refine⟨m,wd.alloc (.cells (a1++a2++a3) c),a3,?_,hm,⟨by rw[hwd];rfl,⟨by rw[hwd];rfl,fun _=>by rw[hwd];exact Nat.le_succ _⟩,by rw[hwd];rfl,by rw[hwd];rfl⟩,?_⟩
 ·have hdraw:(choose (.appendCap (len+m2) cap c)).run P w=.ok m wd:=by rw[hwd];rfl
  have c1:¬(len+m2≤cap):=by omega
  have c2:¬(((len+m2:Nat):Int) > IntKind.i64.max∧(False∨b=0)):=by omega
  have c3:¬(Builtin.nextslicecap (len+m2) cap*b > 2 ^ 48):=by omega
  have hne:wd.heap.size=w.heap.size:=by rw[hwd]
  rcases hu with⟨c',hu⟩|hu
  all_goals
   unfold Builtin.append_
   simp only[List.getElem?_toArray,List.getElem?_cons_zero,List.getElem?_cons_succ,Sem.run_bind,zf ht,zf hu,Result.andThen_ok,x7 hsz,Sem.run_pure,hly,Bool.false_eq_true,if_false,Bool.not_false,if_true]
   rw[if_neg c1]
   simp only[Sem.run_bind,htI,hbb,Result.andThen_ok]
   rw[if_neg c2]
   simp only[Sem.run_bind,htI,hbb,Result.andThen_ok]
   rw[if_neg c3]
   simp only[Sem.run_bind,hdraw,Result.andThen_ok,run_askRoom,h1,h2,hzv,newRow,run_newObj,Sem.run_pure,World.alloc_eq,hne,htI]
   rfl
 ·simp only[Array.size_append,hs1,hs2,ha3]
  rw[←Nat.add_mul,←Nat.add_mul];congr 1;omega
theorem Inv.sub{H2:AHeap}(h:∀id blk,H2.get id=some blk→H.get id=some blk)(hI:Inv I β n H w):Inv I β n H2 w:=
 ⟨fun id blk hb=>hI.blocks id blk (h id blk hb),hI.inj,hI.own,hI.imm,hI.fresh,hI.glob⟩
theorem Ext.sub{I':Nat→Nat→Prop}{β':Id→Option CLoc}{n':Nat}{H' H2:AHeap}{w':World}(h:∀id blk,H2.get id=some blk→H'.get id=some blk)(e:Ext I β n H w I' β' n' H' w'):Ext I β n H w I' β' n' H2 w':=
 ⟨e.os,e.tape,e.output,e.size,e.frame,e.cells,e.shape,e.maps,e.imm,e.immNew,e.old,e.new,fun id hid hg=>e.dom id hid (by
  cases hh:H2.get id with
  |none=>exact absurd hh hg
  |some b=>rw[h id b hh];simp),e.le⟩
theorem zp5(hI:Inv I β n H w){K:AVal→AHeap→Nat→Prop}{t u c rt:TypeId}{s b:Nat}{zs:List AVal}(ht:P.underlying t=some (.slice c))(hu:(∃c',P.underlying u=some (.slice c'))∨P.underlying u=some .string)(hz:wa P c=some zs)(hsz:wj P c=some s)(hby:X8 P c=some b)(hs:0<s)(hb:0<b)
 {x y:AVal} {vx vy:Value} (hx:Rep I β n w x vx) (hy:Rep I β n w y vy) {p:Prop} {rows2:List (List AVal)} (hr:Y2 H s y=some (p,rows2)) (hp:p) (h:zpf s b H n K x rows2) :
 ∃v w',(Builtin.append_ #[t,u] rt #[vx,vy]).run P w=.ok v w'∧Zk I β n H w K v w':=by
 let wd:World:={ w with drawn:=w.drawn+1 }
 have hwd:wd.heap=w.heap:=rfl
 have hId:Inv I β n H wd:=hI.of_heap hwd
 obtain⟨hly,hread⟩:=uv (P:=P) hI hs hy hr hp
 obtain⟨a2,f2,f2s,f2c,f2r,_⟩:=hread rows2.length (Nat.le_refl _)
 obtain⟨_,hreadd⟩:=uv (P:=P) hId hs (hy.of_heap hwd) hr hp
 obtain⟨a2d,g2,g2s,g2c,g2r,_⟩:=hreadd rows2.length (Nat.le_refl _)
 rw[List.take_length] at f2r g2r
 have refl:Ext I β n H w I β n H w:=Ext.refl _ _ _ _ _ hI.fresh
 -- nothing to append
 have nothing:rows2=[]→∀ (base:Option Addr) (len cap:Nat),vx=.slice base len cap→len≤cap→∃w',(Builtin.append_ #[t,u] rt #[vx,vy]).run P w=.ok vx w'∧w'=w:=by
  intro h0 base len cap hv hc
  subst h0
  have ha2:a2=#[]:=by
   have:a2.size=0:=by simpa using f2s
   exact Array.size_eq_zero_iff.1 this
  subst ha2
  refine⟨w,?_,rfl⟩
  rcases hu with⟨c',hu⟩|hu
  all_goals
   unfold Builtin.append_
   simp only[List.getElem?_toArray,List.getElem?_cons_zero,List.getElem?_cons_succ,Sem.run_bind,zf ht,zf hu,Result.andThen_ok,x7 hsz,Sem.run_pure,hly,hv,Bool.false_eq_true,if_false,Bool.not_false,if_true,List.length_nil,Nat.add_zero]
   rw[if_pos hc]
   simp only[List.length_nil] at f2
   simp only[Sem.run_bind,f2,Result.andThen_ok]
   cases base<;>simp[storeCells]
 -- a new block
 have grow:∀ (K:AVal→AHeap→Nat→Prop) (base:Option Addr) (len cap:Nat) (es1:List (List AVal)) (a1:Array Value),vx=.slice base len cap→(Builtin.firstCells s len (.slice base len cap)).run P wd=.ok a1 wd→RowsIn I β n w s 0 es1 a1→a1.size=len*s→es1.length=len →
  cap<len+rows2.length→(len+rows2.length)*b≤140737488355328→K (.msl (n,0) s 0 (len+rows2.length) false) (((n,0),.rows s (es1++rows2))::H) (n+1) →
  ∃v w',(Builtin.append_ #[t,u] rt #[vx,vy]).run P w=.ok v w'∧Zk I β n H w K v w':=by
  intro K base len cap es1 a1 hv h1 hr1 hs1 hl hcap hby2 hk
  subst hv
  obtain⟨m,w',a3,k1,k2,k3,k4⟩:=z61 (P:=P) (rt:=rt) ht hu hz hsz hby hb (wd:=wd) rfl hly h1 g2 hcap hby2 hs1 g2s
  refine⟨_,w',k1,z0g hI k3 (fun k h=>Q6 k _ h) EndOk.zero (z5f hr1 (g2r.of_heap hwd.symm) (by rw[hs1,hl])) hk (J6 _ k2 (fun h=>by cases h) (by rw[k4];exact Nat.le_refl _))⟩
 cases x<;>simp only[zpf] at h<;>try (exact h.elim)
 case val uu=>
  split at h
  ·rename_i heq
   cases heq
   obtain rfl:=hx.val_inv
   by_cases h0:rows2=[]
   ·obtain⟨w',q1,rfl⟩:=nothing h0 none 0 0 rfl (Nat.le_refl _)
    exact⟨_,_,q1,_,_,_,_,_,h.1 h0,hI,hx,refl⟩
   ·obtain⟨q1,q2⟩:=h.2 h0
    have hpos:0<rows2.length:=List.length_pos_iff.2 h0
    refine grow K none 0 0 [] #[] rfl rfl (by simp[RowsIn]) (by simp) rfl (by omega) (by simpa using q1) (by simpa using q2)
  all_goals first|(rename_i heq;cases heq;done)|exact h.elim
 case isl s' es f=>
  obtain⟨rfl,hk0,hk1⟩:=h
  obtain⟨ad,cap,rfl,hcap,hfull,_⟩:=hx.isl_inv
  by_cases h0:rows2=[]
  ·obtain⟨w',q1,rfl⟩:=nothing h0 ad es.length cap rfl hcap
   exact⟨_,_,q1,_,_,_,_,_,hk0 h0,hI,hx,refl⟩
  ·obtain⟨q0,q1,q2⟩:=hk1 h0
   have hpos:0<rows2.length:=List.length_pos_iff.2 h0
   obtain⟨_,hread1⟩:=uv (P:=P) hId hs (hx.of_heap hwd) (p:=s'=s') (rows:=es) rfl rfl
   obtain⟨a1,e1,e2,_,e4,_⟩:=hread1 es.length (Nat.le_refl _)
   rw[List.take_length] at e4
   exact grow K ad es.length cap es a1 rfl e1 (e4.of_heap hwd.symm) e2 rfl (by have:=hfull q0;omega) q1 q2
 case msl id s' off len f=>
  split at h<;>try (exact h.elim)
  rename_i s'' es hbk
  obtain⟨e1,e2,hlen0,hk0,hk1⟩:=h
  have hs'':s'=s'':=e1.trans e2.symm
  obtain⟨ad,cap,rfl,hcap,hfull,hnil⟩:=hx.msl_inv
  by_cases h0:rows2=[]
  ·obtain⟨w',q1,rfl⟩:=nothing h0 ad len cap rfl hcap
   cases f with
   |true=>exact⟨_,_,q1,_,_,_,_,_,hk0 rfl h0,hI,hx,refl⟩
   |false=>
    obtain⟨_,q2⟩:=hk1 nofun
    simp only[Bool.false_eq_true,if_false] at q2
    subst h0
    subst e1
    subst e2
    obtain⟨cl,hcl,hB⟩:=hI.blocks id _ hbk
    obtain⟨hcs,pA,p3,plo,p4,p5,p6⟩:=hB
    have hrl:((es.drop off).take len).length=len:=by simp;omega
    have hadd:(off+len)*s''=off*s''+len*s'':=Nat.add_mul _ _ _
    have hle:(off+len)*s''≤es.length*s'':=Nat.mul_le_mul_right _ hlen0
    obtain⟨I',z1,z2⟩:=zd0 hI (off:=off) hbk hcl (Chg.refl w' _) (fun he=>.inl (by rw[he];simp)) (es':=(es.drop off).take len++[]) (by rw[List.append_nil,hrl];omega)
     (fun i r hi=>by
      rw[List.append_nil,List.getElem?_take] at hi
      split at hi
      ·rw[List.getElem?_drop] at hi;exact p5 _ r hi
      ·cases hi)
     (fun i r j z hi hj=>by
      rw[List.append_nil,List.getElem?_take] at hi
      split at hi
      ·rw[List.getElem?_drop] at hi
       obtain⟨v,g1,g2,g3⟩:=p6 (off+i) r j z hi hj
       rw[Nat.add_mul] at g1
       exact⟨v,by rw[←g1];congr 2;omega,g2,g3⟩
      ·cases hi)
    refine⟨_,w',q1,_,_,_,_,_,q2,z1,?_,z2⟩
    cases hx with
    |imm _ _ hx=>cases hx
    |msl _ _ _ _ _ _ _ hbn _ _ hpp=>
     refine .msl _ _ _ _ _ _ _ (Nat.lt_succ_self n) ⟨hcap,by assumption⟩ (fun h=>by cases h) fun d hd=>?_
     rw[xz] at hd
     simp only[Option.some.injEq] at hd
     subst hd
     refine⟨rfl,fun hcz=>?_⟩
     obtain⟨_,hpp2⟩:=hpp cl hcl
     obtain⟨r1,r2⟩:=hpp2 hcz
     have hadd2:(off+cap)*s''=off*s''+cap*s'':=Nat.add_mul _ _ _
     exact⟨by rw[r1];simp,by simp only[Nat.zero_add];omega⟩
  ·obtain⟨q1,q2⟩:=hk1 fun _=>h0
   have hpos:0<rows2.length:=List.length_pos_iff.2 h0
   have hro:Y2 H s (.msl id s' off len f)=some (s'=s∧s''=s∧off+len≤es.length,(es.drop off).take len):=by simp only[Y2,hbk]
   have hrl:((es.drop off).take len).length=len:=by simp;omega
   obtain⟨_,hread1⟩:=uv (P:=P) hId hs (hx.of_heap hwd) hro ⟨e1,e2,hlen0⟩
   obtain⟨a1,k1,k2,_,k4,_⟩:=hread1 ((es.drop off).take len).length (Nat.le_refl _)
   rw[List.take_length] at k4
   rw[hrl] at k1 k2
   by_cases hin:len+rows2.length≤cap
   ·-- in place
    have hcz:cap≠0:=by omega
    have hf:f=false:=by
     cases f with
     |false=>rfl
     |true=>have:=hfull rfl;omega
    subst hf
    simp only[Bool.false_eq_true,if_false] at q2
    subst e1
    subst e2
    obtain⟨cl,hcl,hB⟩:=hI.blocks id _ hbk
    have hB0:=hB
    obtain⟨hcs,pA,p3,plo,p4,p5,p6⟩:=hB
    have hx0:=hx
    cases hx with
    |imm _ _ hx=>cases hx
    |msl _ _ _ _ _ _ _ hbn _ _ hpp=>
     obtain⟨_,hpp2⟩:=hpp cl hcl
     obtain⟨r1,r2⟩:=hpp2 hcz
     subst r1
     obtain⟨arr,el,fr,p1,p2⟩:∃arr el fr,w.heap[cl.blk]?=some (.cells arr el fr)∧cl.size≤arr.size∧(cl.lo<cl.size→cl.lo=0∧cl.size=arr.size∧EndOk cl.s arr fr):=by
      rcases pA with pA|⟨_,z2,_⟩
      ·exact pA
      ·have:0<(off+cap)*s'':=Nat.mul_pos (by omega) hs
       omega
     have hadd:(off+cap)*s''=off*s''+cap*s'':=Nat.add_mul _ _ _
     have hle:(len+rows2.length)*s''≤cap*s'':=Nat.mul_le_mul_right _ hin
     have hadd2:(len+rows2.length)*s''=len*s''+rows2.length*s'':=Nat.add_mul _ _ _
     obtain⟨w',t1,t2,_,t4⟩:=ut (P:=P) (vs:=a2.toList) (w:=w) (b:=cl.blk) (o:=cl.base+off*s''+len*s'')
      (fun j hj=>by
       simp only[Array.length_toList,f2s] at hj
       have hlt:cl.base+off*s''+len*s''+j<arr.size:=by omega
       exact⟨arr[cl.base+off*s''+len*s''+j],by unfold World.cell?;simp[p1,hlt]⟩)
      (fun j hj=>by
       simp only[Array.length_toList,f2s] at hj
       exact p3 _ (by omega) (by omega)) f2c
     simp only[Array.length_toList,f2s] at t2 t4
     have hblk:cl.blk<w.heap.size:=by
      rcases Nat.lt_or_ge cl.blk w.heap.size with h|h
      ·exact h
      ·rw[Array.getElem?_eq_none h] at p1;cases p1
     have t3:∀k,k<cl.base+off*s''+len*s''→w'.cell? ⟨cl.blk,k,none⟩=w.cell? ⟨cl.blk,k,none⟩:=fun k hk=>t2.cell cl.blk k hblk (fun h=>by omega)
     obtain⟨I',z1,z2⟩:=zd0 hI (off:=off) hbk hcl (t2.mono (fun b' k h=>⟨h.1.symm,by omega,by omega⟩)) (fun _=>.inr ⟨arr,el,fr,p1,p2⟩) (es':=(es.drop off).take len++rows2) (by rw[List.length_append,hrl];omega)
      (fun i r hi=>by
       rw[List.getElem?_append] at hi
       split at hi
       ·rw[List.getElem?_take] at hi
        split at hi
        ·rw[List.getElem?_drop] at hi;exact p5 _ r hi
        ·cases hi
       ·exact f2r.2.1 _ r hi)
      (fun i r j z hi hj=>by
       rw[List.getElem?_append] at hi
       split at hi
       ·rename_i hlt
        rw[hrl] at hlt
        rw[List.getElem?_take_of_lt hlt,List.getElem?_drop] at hi
        obtain⟨v,g1,g2,g3⟩:=p6 (off+i) r j z hi hj
        have hjl:j<s'':=by
         have:=p5 _ r hi
         rcases Nat.lt_or_ge j r.length with h|h
         ·omega
         ·rw[List.getElem?_eq_none h] at hj;cases hj
        have:(i+1)*s''≤len*s'':=Nat.mul_le_mul_right _ hlt
        rw[Nat.add_mul] at this g1
        exact⟨v,by rw[t3 _ (by omega),←g1];congr 2;omega,g2,g3⟩
       ·rename_i hge
        rw[hrl] at hge hi
        obtain⟨v,g1,g2,g3⟩:=f2r.2.2 (i-len) r j z hi hj
        have hlt:0+(i-len)*s''+j<a2.size:=by
         rcases Nat.lt_or_ge (0+(i-len)*s''+j) a2.size with h|h
         ·exact h
         ·rw[Array.getElem?_eq_none h] at g1;cases g1
        have hh:=t4 ((i-len)*s''+j) (by omega)
        rw[Array.getElem?_toList,show(i-len)*s''+j=0+(i-len)*s''+j by omega,g1] at hh
        have e3:i*s''=len*s''+(i-len)*s'':=by rw[←Nat.add_mul];congr 1;omega
        exact⟨v,by rw[←hh];congr 2;omega,g2,g3⟩)
     refine⟨.slice (some ⟨cl.blk,cl.base+off*s'',none⟩) (len+rows2.length) cap,w',?_,_,_,_,_,_,q2,z1,?_,z2⟩
     ·rcases hu with⟨c',hu⟩|hu
      all_goals
       unfold Builtin.append_
       simp only[List.getElem?_toArray,List.getElem?_cons_zero,List.getElem?_cons_succ,Sem.run_bind,zf ht,zf hu,Result.andThen_ok,x7 hsz,Sem.run_pure,hly,Bool.false_eq_true,if_false,Bool.not_false,if_true]
       rw[if_pos hin]
       simp only[Sem.run_bind,f2,Result.andThen_ok,j5,t1,Sem.run_pure]
     ·refine .msl _ _ _ _ _ _ _ (Nat.lt_succ_self n) ⟨hin,nofun⟩ (fun h=>by cases h) fun d hd=>?_
      rw[xz] at hd
      simp only[Option.some.injEq] at hd
      subst hd
      exact⟨rfl,fun _=>⟨by simp,by simp only[Nat.zero_add];omega⟩⟩
   ·-- a new block
    cases f with
    |true=>exact grow K ad len cap _ a1 rfl k1 (k4.of_heap hwd.symm) k2 hrl (by omega) q1 (by simpa using q2)
    |false=>
     simp only[Bool.false_eq_true,if_false] at q2
     obtain⟨v,w',z1,r,H',n',I',β',z2,z3,z4,z5⟩:=grow (fun r H' n'=>r=.msl (n,0) s 0 (len+rows2.length) false∧H'=((n,0),.rows s ((es.drop off).take len++rows2))::H∧n'=n+1) ad len cap _ a1 rfl k1 (k4.of_heap hwd.symm) k2 hrl (by omega) q1 ⟨rfl,rfl,rfl⟩
     obtain⟨rfl,rfl,rfl⟩:=z2
     have hsub:∀k blk,AHeap.get (((n,0),.rows s ((es.drop off).take len++rows2))::H.del id) k=some blk→AHeap.get (((n,0),.rows s ((es.drop off).take len++rows2))::H) k=some blk:=by
      intro k blk hk
      by_cases hnk:(n,0)=k
      ·subst hnk;rw[AHeap.get_cons_same] at hk ⊢;exact hk
      ·rw[AHeap.get_cons_other _ _ hnk,AHeap.get_del] at hk
       rw[AHeap.get_cons_other _ _ hnk]
       split at hk
       ·cases hk
       ·exact hk
     exact⟨v,w',z1,_,_,_,I',β',q2,z3.sub hsub,z4,z5.sub hsub⟩
end
end Go.Fx
