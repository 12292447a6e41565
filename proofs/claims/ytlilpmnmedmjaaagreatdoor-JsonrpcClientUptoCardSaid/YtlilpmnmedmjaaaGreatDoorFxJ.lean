/-
  Own framework.
-/
import Derived.Test.YtlilpmnmedmjaaaGreatDoorFxI2
import Derived.Test.YtlilpmnmedmjaaaGreatDoorFxMb
namespace Go.Fx
set_option linter.unusedVariables false
variable {P:Program}
section
variable {I:Nat→Nat→Prop} {β:Id→Option CLoc} {n:Nat} {H:AHeap} {w:World} {e:Env} {a:Act}
theorem zwk(hI:Inv I β n H w){K:AVal→AHeap→Nat→Prop}{t u c rt:TypeId}{s:Nat}(ht:P.underlying t=some (.slice c))(hsz:wj P c=some s)(hs:0<s)
 {id:Id} {s' s'' off len:Nat} {f:Bool} {es:List (List AVal)} {y:AVal} {vx vy:Value} (hx:Rep I β n w (.msl id s' off len f) vx) (hy:Rep I β n w y vy) {p:Prop} {rows2:List (List AVal)} (hr:Y2 H s y=some (p,rows2)) (hp:p)
 (hb:H.get id=some (.rows s'' es)) (e1:s'=s) (e2:s''=s) (hlen0:off+len≤es.length)
 (hk:K (.int .i64 ((min rows2.length len:Nat):Int)) (H.set id (.rows s (es.take off++rows2.take len++es.drop (off+min rows2.length len)))) n) :
 ∃v w',(Builtin.copy_ #[t,u] rt #[vx,vy]).run P w=.ok v w'∧Zk I β n H w K v w':=by
 subst e1
 subst e2
 obtain⟨hly,hread⟩:=uv (P:=P) hI hs hy hr hp
 obtain⟨a2,f2,f2s,f2c,f2r,_⟩:=hread (min rows2.length len) (Nat.min_le_left _ _)
 obtain⟨ad,cap,rfl,hcap,hfull,hnil⟩:=hx.msl_inv
 obtain⟨cl,hcl,hB⟩:=hI.blocks id _ hb
 obtain⟨hcs,pA,p3,plo,p4,p5,p6⟩:=hB
 have hmin:Nat.min rows2.length len=min rows2.length len:=rfl
 by_cases hm0:min rows2.length len=0
 ·-- nothing is copied
  have ha2:a2=#[]:=Array.size_eq_zero_iff.1 (by rw[f2s,hm0,Nat.zero_mul])
  subst ha2
  have hes:es.take off++rows2.take len++es.drop (off+min rows2.length len)=es:=by
   have:rows2.take len=[]:=by
    rw[List.take_eq_nil_iff]
    rcases Nat.min_eq_zero_iff.1 hm0 with h|h
    ·exact .inr (List.length_eq_zero_iff.1 h)
    ·exact .inl h
   rw[this,hm0];simp
  rw[hes,hm0] at hk
  rw[hm0] at f2
  refine⟨.int .i64 0,w,?_,.int .i64 0,H.set id (.rows s'' es),n,I,β,hk,?_,.imm _ _ (.int _ _),?_⟩
  ·unfold Builtin.copy_
   simp only[List.getElem?_toArray,List.getElem?_cons_zero,List.getElem?_cons_succ,Sem.run_bind,zf ht,Result.andThen_ok,x7 hsz,hly,hmin,hm0,f2,storeCells]
   cases ad<;>rfl
  ·exact(K7 hI hb hcl (.refl w _) (Nat.le_refl _) p5 p6).1
  ·exact(K7 hI hb hcl (.refl w _) (Nat.le_refl _) p5 p6).2
 ·cases hx with
  |imm _ _ hx=>cases hx
  |msl _ _ _ _ _ _ _ hbn _ _ hpp=>
   obtain⟨_,hpp2⟩:=hpp cl hcl
   have hcz:cap≠0:=by
    have:min rows2.length len≤len:=Nat.min_le_right _ _
    omega
   obtain⟨r1,r2⟩:=hpp2 hcz
   obtain⟨arr,el,fr,p1,p2⟩:∃arr el fr,w.heap[cl.blk]?=some (.cells arr el fr)∧cl.size≤arr.size∧(cl.lo<cl.size→cl.lo=0∧cl.size=arr.size∧EndOk cl.s arr fr):=by
    rcases pA with pA|⟨_,z2,_⟩
    ·exact pA
    ·have:0<(off+cap)*s'':=Nat.mul_pos (by omega) hs
     omega
   subst r1
   have hle:min rows2.length len*s''≤len*s'':=Nat.mul_le_mul_right _ (Nat.min_le_right _ _)
   have hle2:(off+len)*s''≤es.length*s'':=Nat.mul_le_mul_right _ hlen0
   rw[Nat.add_mul] at hle2
   obtain⟨w',t1,t2,_,t4⟩:=ut (P:=P) (vs:=a2.toList) (w:=w) (b:=cl.blk) (o:=cl.base+off*s'')
    (fun j hj=>by
     simp only[Array.length_toList,f2s] at hj
     have hlt:cl.base+off*s''+j<arr.size:=by omega
     exact⟨arr[cl.base+off*s''+j],by unfold World.cell?;simp[p1,hlt]⟩)
    (fun j hj=>by
     simp only[Array.length_toList,f2s] at hj
     exact p3 _ (by omega) (by omega)) f2c
   simp only[Array.length_toList,f2s] at t2 t4
   have hblk:cl.blk<w.heap.size:=by
    rcases Nat.lt_or_ge cl.blk w.heap.size with h|h
    ·exact h
    ·rw[Array.getElem?_eq_none h] at p1;cases p1
   have t3:∀k,(k<cl.base+off*s''∨cl.base+off*s''+min rows2.length len*s''≤k)→w'.cell? ⟨cl.blk,k,none⟩=w.cell? ⟨cl.blk,k,none⟩:=fun k hk=>t2.cell cl.blk k hblk (fun h=>by omega)
   have htl:(rows2.take len).length=min rows2.length len:=by rw[List.length_take,Nat.min_comm]
   have hoff:(es.take off).length=off:=by rw[List.length_take];omega
   -- where a row of the new block lies
   have place:∀ (i:Nat) (r:List AVal),(es.take off++rows2.take len++es.drop (off+min rows2.length len))[i]?=some r →
    (i<off∨off+min rows2.length len≤i)∧es[i]?=some r∨(off≤i∧i<off+min rows2.length len)∧(rows2.take (min rows2.length len))[i-off]?=some r:=by
    intro i r hi
    rw[List.append_assoc,List.getElem?_append] at hi
    split at hi
    ·rename_i hlt
     rw[hoff] at hlt
     rw[List.getElem?_take_of_lt hlt] at hi
     exact .inl ⟨.inl hlt,hi⟩
    ·rename_i hge
     rw[hoff] at hge hi
     rw[List.getElem?_append] at hi
     split at hi
     ·rename_i hlt
      rw[htl] at hlt
      refine .inr ⟨by omega,?_⟩
      rw[List.getElem?_take_of_lt hlt,←hi,List.getElem?_take_of_lt (by have:=Nat.min_le_right rows2.length len;omega)]
     ·rename_i hge2
      rw[htl] at hge2 hi
      rw[List.getElem?_drop] at hi
      refine .inl ⟨.inr (by omega),?_⟩
      rw[←hi];congr 1;omega
   obtain⟨z1,z2⟩:=K7 hI hb hcl (t2.mono (fun b' k h=>⟨h.1.symm,by omega,by omega⟩)) (es':=es.take off++rows2.take len++es.drop (off+min rows2.length len))
    (by rw[List.length_append,List.length_append,hoff,htl,List.length_drop];have:=Nat.min_le_right rows2.length len;omega)
    (fun i r hi=>by
     rcases place i r hi with⟨_,h⟩|⟨_,h⟩
     ·exact p5 i r h
     ·exact f2r.2.1 _ r h)
    (fun i r j z hi hj=>by
     rcases place i r hi with⟨h1,h⟩|⟨h1,h⟩
     ·obtain⟨v,g1,g2,g3⟩:=p6 i r j z h hj
      have hjl:j<s'':=by
       have:=p5 _ r h
       rcases Nat.lt_or_ge j r.length with h|h
       ·omega
       ·rw[List.getElem?_eq_none h] at hj;cases hj
      refine⟨v,?_,g2,g3⟩
      rw[t3 _ ?_];exact g1
      rcases h1 with h1|h1
      ·have:(i+1)*s''≤off*s'':=Nat.mul_le_mul_right _ h1
       rw[Nat.add_mul] at this
       left;omega
      ·have:(off+min rows2.length len)*s''≤i*s'':=Nat.mul_le_mul_right _ h1
       rw[Nat.add_mul] at this
       right;omega
     ·obtain⟨v,g1,g2,g3⟩:=f2r.2.2 (i-off) r j z h hj
      have hlt:0+(i-off)*s''+j<a2.size:=by
       rcases Nat.lt_or_ge (0+(i-off)*s''+j) a2.size with h|h
       ·exact h
       ·rw[Array.getElem?_eq_none h] at g1;cases g1
      have hh:=t4 ((i-off)*s''+j) (by omega)
      rw[Array.getElem?_toList,show(i-off)*s''+j=0+(i-off)*s''+j by omega,g1] at hh
      have e3:i*s''=off*s''+(i-off)*s'':=by rw[←Nat.add_mul];congr 1;omega
      exact⟨v,by rw[←hh];congr 2;omega,g2,g3⟩)
   refine⟨.int .i64 ((min rows2.length len:Nat):Int),w',?_,_,_,_,_,_,hk,z1,.imm _ _ (.int _ _),z2⟩
   unfold Builtin.copy_
   simp only[List.getElem?_toArray,List.getElem?_cons_zero,List.getElem?_cons_succ,Sem.run_bind,zf ht,Result.andThen_ok,x7 hsz,Sem.run_pure,hly,hmin,f2,t1]
   rfl
theorem zmj{src d c:TypeId}(hs:P.underlying src=some .string)(hd:P.underlying d=some (.slice c))(hc:P.underlying c=some (.int .u8)){l:List UInt8} :
 ∃ (m:Nat) (w':World) (arr:Array Value),(convert src d (.string ⟨⟨l⟩⟩)).run P w=.ok (.slice (some ⟨w.heap.size,0,none⟩) l.length m) w'∧l.length≤m∧arr.size=m∧Pushed w w' (.cells arr c (arr.size,arr.size+1)) ∧
  RowsInI I w 1 0 (l.map fun c=>[.int .u8 (c.toNat:Int)]) arr:=by
 have esz:(⟨⟨l⟩⟩:ByteArray).size=l.length:=rfl
 let q:Question:=.appendCap l.length 0 c
 let m:=q.cut (w.tape w.drawn q)
 have hm:l.length≤m:=Nat.le_add_right _ _
 let wd:World:={ w with drawn:=w.drawn+1 }
 let arr:Array Value:=(⟨l⟩:Array UInt8).map (fun b=>Value.int .u8 (b.toNat:Int))++Array.replicate (m-l.length) (.int .u8 0)
 have hasz:arr.size=m:=by simp[arr];omega
 let w1:=wd.alloc (.cells arr c)
 let w':=w1.freeze ⟨w.heap.size,arr.size,none⟩ 1
 have hdraw:(choose (.appendCap l.length 0 c)).run P w=.ok m wd:=rfl
 have hblk:w1.heap[w.heap.size]?=some (.cells arr c):=by
  show(w.heap.push _)[w.heap.size]?=_
  simp
 have hshape:w1.shape? w.heap.size=some (c,arr.size):=by
  unfold World.shape?;rw[hblk]
 have hp:Pushed w w' (.cells arr c (arr.size,arr.size+1)):=by
  refine⟨rfl,⟨rfl,fun _=>Nat.le_succ _⟩,rfl,?_⟩
  show(World.freeze w1 _ 1).heap=_
  unfold World.freeze
  simp only[Nat.one_ne_zero,if_false]
  show(w.heap.push (.cells arr c)).modify w.heap.size _=w.heap.push _
  apply Array.ext_getElem?
  intro i
  rw[Array.getElem?_modify]
  by_cases h:w.heap.size=i
  ·subst h;simp
  ·rw[if_neg h,Array.getElem?_push,Array.getElem?_push,if_neg (fun h'=>h h'.symm),if_neg (fun h'=>h h'.symm)]
 have hrows:RowsInI I w 1 0 (l.map fun c=>[.int .u8 (c.toNat:Int)]) arr:=by
  refine⟨by simp[hasz];omega,?_,?_⟩
  ·intro i r hi
   rw[List.getElem?_map] at hi
   cases hl:l[i]? with
   |none=>rw[hl] at hi;cases hi
   |some b=>rw[hl] at hi;simp at hi;rw[←hi];rfl
  ·intro i r j x hi hj
   rw[List.getElem?_map] at hi
   cases hl:l[i]? with
   |none=>rw[hl] at hi;cases hi
   |some b=>
    rw[hl] at hi
    simp at hi
    subst hi
    cases j with
    |succ j=>simp at hj
    |zero=>
     simp at hj
     subst hj
     refine⟨.int .u8 (b.toNat:Int),?_,rfl,.int _ _⟩
     simp only[arr,Nat.zero_add,Nat.mul_one,Nat.add_zero]
     have hlt:i<l.length:=by
      rcases Nat.lt_or_ge i l.length with h|h
      ·exact h
      ·rw[List.getElem?_eq_none h] at hl;cases hl
     rw[Array.getElem?_append_left (by simpa using hlt),Array.getElem?_map]
     simp[hl]
 refine⟨m,w',arr,?_,hm,hasz,hp,hrows⟩
 simp only[convert,Sem.run_bind,zf hs,zf hd,zf hc,Result.andThen_ok,Conv.stringToBytes,esz,hdraw,newRow,run_newObj,Sem.run_pure,World.alloc_eq,markStringish]
 have hw1:wd.alloc (.cells ((⟨l⟩:Array UInt8).map (fun b=>Value.int .u8 (b.toNat:Int))++Array.replicate (m-l.length) (.int .u8 0)) c)=w1:=rfl
 have hwd:wd.heap.size=w.heap.size:=rfl
 rw[hw1,hwd]
 simp only[run_shape,hshape,Result.andThen_ok,run_freeze]
 rfl
theorem zz4(hI:Inv I β n H w){K:AVal→AHeap→Nat→Prop}{src d c:TypeId}(hs:P.underlying src=some .string)(hd:P.underlying d=some (.slice c))(hc:P.underlying c=some (.int .u8)){l:List UInt8}
 (hk:K (.msl (n,0) 1 0 l.length false) (((n,0),.rows 1 (l.map fun c=>[.int .u8 (c.toNat:Int)]))::H) (n+1)) :
 ∃v w',(convert src d (.string ⟨⟨l⟩⟩)).run P w=.ok v w'∧Zk I β n H w K v w':=by
 obtain⟨m,w',arr,h1,h2,h3,h4,h5⟩:=zmj (P:=P) (w:=w) (I:=I) hs hd hc (l:=l)
 exact⟨_,w',h1,z0g hI h4 (fun k hk=>by simp;omega) EndOk.one h5.up hk (J6 _ h2 (fun h=>by cases h) (by rw[h3];omega))⟩
theorem zut(hI:Inv I β n H w){K:AVal→AHeap→Nat→Prop}{src d c:TypeId}(hs:P.underlying src=some .string)(hd:P.underlying d=some (.slice c))(hc:P.underlying c=some (.int .u8)){l:List UInt8}
 (hk:K (.isl 1 (l.map fun c=>[.int .u8 (c.toNat:Int)]) false) H n) :
 ∃v w',(convert src d (.string ⟨⟨l⟩⟩)).run P w=.ok v w'∧Zk I β n H w K v w':=by
 obtain⟨m,w',arr,h1,h2,h3,h4,h5⟩:=zmj (P:=P) (w:=w) (I:=I) hs hd hc (l:=l)
 obtain⟨I',β',g1,g2,_,g4,_⟩:=z5a (H2:=H) hI h4 (fun k hk=>by simp;omega) h5 false (fun _ _ h=>h)
 simp only[Bool.false_eq_true,if_false] at g1 g2
 refine⟨_,w',h1,_,_,_,_,_,hk,g1,.imm _ _ ?_,g2⟩
 have:=g4 m false (by simpa using h2) (fun h=>by cases h)
 simpa using this
theorem zh4(ns:List Int):∀ (s:ByteArray),ns.foldl (fun r n=>r.push (UInt8.ofNat n.toNat)) s=⟨⟨s.data.toList++ns.map fun n=>UInt8.ofNat n.toNat⟩⟩:=by
 induction ns with
 |nil=>intro s;simp
 |cons x ns ih=>intro s;rw[List.foldl_cons,ih];simp[ByteArray.push]
theorem zyo(hI:Inv I β n H w){K:AVal→AHeap→Nat→Prop}{src d c:TypeId}(hs:P.underlying src=some (.slice c))(hd:P.underlying d=some .string)(hc:P.underlying c=some (.int .u8)){x:AVal}{v:Value}(hx:Rep I β n w x v){p:Prop}{rows:List (List AVal)}(hr:Y2 H 1 x=some (p,rows))(hp:p)
 (hns:∀l,x≠.str l) (hall:∀r∈rows,∃m,r=[.int .u8 m]) (hk:K (.str (rows.map Ue)) H n) :
 ∃u w',(convert src d v).run P w=.ok u w'∧Zk I β n H w K u w':=by
 have refl:Ext I β n H w I β n H w:=Ext.refl _ _ _ _ _ hI.fresh
 obtain⟨hl,hread⟩:=uv (P:=P) hI (by omega) hx hr hp
 obtain⟨arr,f1,f2,f3,f4,_⟩:=hread rows.length (Nat.le_refl _)
 rw[List.take_length] at f4
 have hv:∃ad len cap,v=.slice ad len cap:=by
  cases x<;>simp only[Y2] at hr<;>try (cases hr;done)
  case isl=>obtain⟨ad,cap,h,_⟩:=hx.isl_inv;exact⟨_,_,_,h⟩
  case osl=>obtain⟨ad,cap,h,_⟩:=hx.rd.isl_inv;exact⟨_,_,_,h⟩
  case msl=>obtain⟨ad,cap,h,_⟩:=hx.msl_inv;exact⟨_,_,_,h⟩
  case str=>exact absurd rfl (hns _)
  case val u=>
   split at hr<;>(try (rename_i heq;cases heq;done))<;>try (cases hr;done)
   rename_i heq
   cases heq
   exact⟨_,_,_,hx.val_inv⟩
 obtain⟨ad,len,cap,rfl⟩:=hv
 have hlen:len=rows.length:=by
  simp only[Builtin.lenOf,Sem.run_pure,Result.ok.injEq] at hl;exact hl.1
 subst hlen
 -- the numbers that lie there
 let ns:List Int:=rows.map fun r=>match r with|[.int _ m]=>m|_=>0
 have harr:arr=(ns.map (Value.int .u8)).toArray:=by
  apply Array.ext_getElem?
  intro i
  by_cases hlt:i<rows.length
  ·obtain⟨m,hm⟩:=hall rows[i] (List.getElem_mem hlt)
   obtain⟨v,g1,_,g3⟩:=f4.2.2 i rows[i] 0 (.int .u8 m) (List.getElem?_eq_getElem hlt) (by rw[hm];rfl)
   have:=g3.int_inv
   subst this
   simp only[Nat.zero_add,Nat.mul_one,Nat.add_zero] at g1
   rw[g1]
   simp[ns,hlt,hm]
  ·rw[Array.getElem?_eq_none (by omega),Array.getElem?_eq_none (by simp[ns];omega)]
 have hstr:ns.map (fun n=>UInt8.ofNat n.toNat)=rows.map Ue:=by
  simp only[ns,List.map_map]
  apply List.map_congr_left
  intro r hr
  obtain⟨m,rfl⟩:=hall r hr
  rfl
 refine⟨.string ⟨⟨rows.map Ue⟩⟩,w,?_,_,_,_,_,_,hk,hI,.imm _ _ (.str _),refl⟩
 rw[run_convert_bytes_string w src d c ad rows.length cap hs hc hd]
 cases ad with
 |none=>
  have h0:arr=#[]:=by
   simp only[Builtin.firstCells,Sem.run_pure,Result.ok.injEq] at f1;exact f1.1.symm
  have:rows=[]:=by
   have:arr.size=0:=by rw[h0];rfl
   exact List.length_eq_zero_iff.1 (by omega)
  subst this
  rfl
 |some ad=>
  rw[run_bytesToString w ad rows.length cap ns (by
   rw[←harr]
   simpa[Builtin.firstCells] using f1),zh4]
  simp[hstr]
theorem z0z(hE:RepEnv I β n w e a){xs:Array Operand}{ys:List LOpd}(h:Zq xs.toList=some ys)(hn:Jh e ys) :
 (xs.map a.eval).toList.length=(evs e ys).length∧∀ (i:Nat) (y:AVal) (v:Value),(evs e ys)[i]?=some y→(xs.map a.eval).toList[i]?=some v→Rep I β n w y v:=by
 obtain⟨h1,h2⟩:=Zr hE _ _ h hn
 rw[Array.toList_map]
 exact⟨h1,h2⟩
def wpR(P:Program)(o:Oper)(a:Act)(w:World)(next:Act→World→Prop)(Q:Exit→Act→World→Prop):Prop:=
 o.wp P a w next Q∨∃l fn tmps assign body,(execOp a.eval o).run P w=.ok (.round l fn tmps assign body) w∧RoundIn Fence.wide 0 P l fn tmps assign body w (fun e w'=>∃v,e=.returned v∧next (a.put o.dst v) w')
theorem W8(hI:Inv I β n H w)(hE:RepEnv I β n w e a){vm:Bool}{o:Oper}{lo:LOp}(hl:xq P vm o.op=some lo){K:AVal→AHeap→Nat→Prop}(h:ky P e H n K lo){next:Act→World→Prop}{Q:Exit→Act→World→Prop}
 (hnext:∀v w',Zk I β n H w K v w'→next (a.put o.dst v) w'):wpR P o a w next Q:=by
 obtain⟨dst,op,type,pos,after,guard⟩:=o
 simp only at hl hnext
 by_cases hyield:∃x args l first caps,lo=.callv x args∧x.ev e=.fn (.yield l) first caps
 ·-- a round
  obtain⟨x',ys,l,first,caps,rfl,hev⟩:=hyield
  obtain⟨f,args,argTypes,rfl,hx,hys⟩:∃f args argTypes,op=.call { callee:=.value f,args:=args,argTypes:=argTypes }∧q9 f=some x'∧Zq args.toList=some ys:=by
   clear h hnext hev
   cases op with
   |call c=>
    obtain⟨callee,args,argTypes⟩:=c
    cases callee with
    |value f=>
     simp only[xq] at hl
     unfold Kv at hl
     simp only at hl
     split at hl
     ·repeat' (split at hl<;>try (cases hl;done))
      simp only[Option.map_eq_some_iff] at hl
      obtain⟨_,_,hl⟩:=hl
      cases hl
     ·rename_i heq
      simp only[Callee.value.injEq] at heq
      subst heq
      split at hl<;>try (cases hl;done)
      simp only[Option.some.injEq,LOp.callv.injEq] at hl
      obtain⟨rfl,rfl⟩:=hl
      exact⟨_,_,_,rfl,by assumption,by assumption⟩
     ·rename_i heq;cases heq
     all_goals (rename_i heq;cases heq)
    |_=>
     exfalso
     simp only[xq] at hl
     unfold Kv at hl
     simp only at hl
     repeat' (split at hl<;>try (cases hl;done))
     all_goals (first|(simp only[Option.map_eq_some_iff] at hl;obtain⟨_,_,hl⟩:=hl;cases hl;done)|(rename_i heq _ _;cases heq;done)|(rename_i heq _ _ _ _ _;cases heq;done)|(rename_i heq _ _ _ _ _ _ _;cases heq;done)|skip)
     all_goals (first|(cases hl;done)|contradiction|(rename_i heq _ _ _ _ _ _ ;cases heq;done)|skip)
   |_=>
    exfalso
    simp only[xq] at hl
    try unfold Ul at hl
    repeat' (split at hl<;>try (cases hl;done))
    all_goals (first|(simp only[Option.map_eq_some_iff] at hl;obtain⟨_,_,hl⟩:=hl;cases hl;done)|(cases hl;done)|skip)
  simp only[ky,hev] at h
  obtain⟨h1,h2,rfl,h3⟩:=h
  have hr:=ya hE hx h1
  rw[hev] at hr
  have hfn:∃fs cs:Array Value,a.eval f=.func (.yield l) fs cs∧fs.size=first.length∧cs.size=0∧(∀ (i:Nat) (x:AVal) (v:Value),first[i]?=some x→fs[i]?=some v→Rep I β n w x v):=by
   revert hr
   generalize a.eval f=fv
   intro hr
   cases hr with
   |fn _ _ _ fs cs h1 h2 h3 h4=>exact⟨fs,cs,rfl,h1,h2,h3⟩
   |imm _ _ hr=>
    cases hr with
    |fn _ _ _ fs cs h1 h2 h3 h4=>exact⟨fs,cs,rfl,h1,h2,fun i x v p q=>.imm _ _ (h3 i x v p q)⟩
  obtain⟨fs,cs,hf,k1,k2,k3⟩:=hfn
  obtain⟨g1,g2⟩:=z0z hE hys h2
  have hq:=h3.2 I β w (fs++args.map a.eval).toList hI (by simp only[Array.toList_append,List.length_append,g1,Array.length_toList,k1,List.append_nil]) (fun i y v hy hv=>by
   simp only[Array.toList_append] at hv
   rw[List.append_nil] at hy
   rw[List.getElem?_append] at hy hv
   have hlb:fs.toList.length=first.length:=by simp[k1]
   rw[hlb] at hv
   split at hy
   ·rename_i hlt2
    rw[if_pos hlt2] at hv
    exact k3 i y v hy (by rw[←Array.getElem?_toList];exact hv)
   ·rename_i hlt2
    rw[if_neg hlt2] at hv
    exact g2 _ y v hy hv)
  obtain⟨fn,tmps,assign,body,q1,q2⟩:=hq
  refine .inr ⟨l,fn,tmps,assign,body,?_,q2.mono ?_⟩
  ·have:(execOp a.eval { dst:=dst,op:=.call { callee:=.value f,args:=args,argTypes:=argTypes },type:=type,pos:=pos,after:=after,guard:=guard }).run P w=(Instr.yield l (fs++args.map a.eval)).run P w:=by
    simp[execOp,resolve,hf,Deferred.ofValue,invoke]
   rw[this,←q1]
  ·rintro ee w' ⟨r,v,H',n',I',β',rfl,hK,hI',hr',hx'⟩
   exact⟨v,rfl,hnext v w' ⟨r,H',n',I',β',hK,hI',hr',hx'⟩⟩
 left
 have val:∀ {s:Sem Value},(∃v w',s.run P w=.ok v w'∧Zk I β n H w K v w')→execOp a.eval { dst:=dst,op:=op,type:=type,pos:=pos,after:=after,guard:=guard }=(do pure (.value (←s)):Sem Next) →
  Oper.wp P { dst:=dst,op:=op,type:=type,pos:=pos,after:=after,guard:=guard } a w next Q:=by
  intro s ⟨v,w',hr,hg⟩ he
  unfold Oper.wp
  rw[he,Sem.run_bind,hr]
  exact hnext v w' hg
 have call:∀ {f:FuncId} {args:List AVal} {vs:Array Value},ACalls P f args H n K→vs.toList.length=args.length→(∀ (i:Nat) (y:AVal) (v:Value),args[i]?=some y→vs.toList[i]?=some v→Rep I β n w y v) →
  (execOp a.eval { dst:=dst,op:=op,type:=type,pos:=pos,after:=after,guard:=guard }).run P w=(callFunc f vs).run P w →
  Oper.wp P { dst:=dst,op:=op,type:=type,pos:=pos,after:=after,guard:=guard } a w next Q:=by
  intro f args vs hc h1 h2 he
  obtain⟨⟨fn,g1,g2,g3⟩,hc⟩:=hc
  have hcall:(callFunc f vs).run P w=.ok (.enter f vs) w:=by
   unfold callFunc
   have g4:fn.body.isNone=false:=by cases hb:fn.body<;>simp[hb] at g2 ⊢
   simp only[Sem.run_bind,run_program,Result.andThen_ok,g1,g3,g4,Bool.false_eq_true,if_false,Sem.run_pure]
  unfold Oper.wp
  rw[he,hcall,Oper.upon_enter]
  have:=hc I β w vs.toList hI h1 h2
  rw[Array.toArray_toList] at this
  refine this.mono fun ee w' ⟨r,v,H',n',I',β',he',hK,hI',hr',hx'⟩=>?_
  subst he'
  exact hnext v w' ⟨r,H',n',I',β',hK,hI',hr',hx'⟩
 cases op with
 |alloc t=>
  simp only[xq] at hl
  split at hl
  ·split at hl<;>try (cases hl;done)
   rename_i z s hz hs
   split at hl<;>try (cases hl;done)
   rename_i hc
   simp only[Option.some.injEq] at hl
   subst hl
   simp only[Bool.and_eq_true,beq_iff_eq] at hc
   exact val (zlg hI hz hc.2 h) rfl
  ·split at hl
   ·rename_i hb
    simp only[Option.some.injEq] at hl
    subst hl
    exact val (zlr hI hb h) rfl
   ·rename_i zs _ hz
    simp only[Option.some.injEq] at hl
    subst hl
    exact val (zdb hI hz h) rfl
   ·cases hl
  ·simp only[Option.map_eq_some_iff] at hl
   obtain⟨zs,hz,rfl⟩:=hl
   exact val (zdb hI hz h) rfl
 |box t x=>
  simp only[xq,Option.map_eq_some_iff] at hl
  obtain⟨x',hx',rfl⟩:=hl
  simp only[ky] at h
  split at h<;>try (exact h.elim)
  rename_i cs hc
  exact val (y0g hI (ya hE hx' h.1) hc h.2) rfl
 |buildSlice t len parts=>
  simp only[xq] at hl
  split at hl<;>try (cases hl;done)
  rename_i c ht
  split at hl<;>try (cases hl;done)
  rename_i z s l hz hsz hpl
  split at hl<;>try (cases hl;done)
  rename_i hcond
  simp only[Bool.and_eq_true,decide_eq_true_eq] at hcond
  simp only[Option.some.injEq] at hl
  subst hl
  simp only[ky] at h
  split at h<;>try (exact h.elim)
  rename_i p rows hm
  cases vm with
  |false=>
   obtain⟨h1,h2,h3,h4⟩:=h
   obtain⟨arr',k1,k2,k3,k4⟩:=z68 (P:=P) hI hE ht hz hsz hpl hcond.1 hcond.2 h1 h2 hm h3
   obtain⟨rs,hrs,h4⟩:=h4
   rcases hrs with rfl|rfl
   ·exact val ⟨_,_,k1,zht hI k2 (Uu k4 _) h4⟩ rfl
   ·exact val ⟨_,_,k1,zht hI k2 k4 h4⟩ rfl
  |true=>
   simp only at h
   split at h<;>try (exact h.elim)
   rename_i rows' hi
   obtain⟨h1,h2,h3,h4⟩:=h
   obtain⟨arr',k1,k2,k3,k4⟩:=z68 (P:=P) hI hE ht hz hsz hpl hcond.1 hcond.2 h1 h2 hm h3
   exact val ⟨_,_,k1,ze5 hI k4 k3 hi h4⟩ rfl
 |store t x y=>
  simp only[xq] at hl
  split at hl<;>try (cases hl;done)
  rename_i m x' y' hm hx hy
  simp only[Option.some.injEq] at hl
  subst hl
  simp only[ky] at h
  split at h<;>try (exact h.elim)
  rename_i b i off cs hev hc
  have key:∃w',(Instr.storeAt t (a.eval x) (a.eval y)).run P w=.ok () w'∧Zk I β n H w K undef w':=by
   split at h<;>try (exact h.elim)
   ·rename_i s es hb
    obtain⟨h1,h2,h3,h4,h5,h6⟩:=h
    have hrx:=ya hE hx h1
    rw[hev] at hrx
    exact zdf (P:=P) hI hm hrx (ya hE hy h2) hc hb h3 h4 h5 h6
   ·rename_i rs hb
    obtain⟨h1,h2,h3,rfl,h5,h6⟩:=h
    have hrx:=ya hE hx h1
    rw[hev] at hrx
    exact zb8 (P:=P) hI hm hrx (ya hE hy h2) hc hb h3 h5 h6
  obtain⟨w',r1,r2⟩:=key
  unfold Oper.wp
  have he:(execOp a.eval { dst:=dst,op:=.store t x y,type:=type,pos:=pos,after:=after,guard:=guard }).run P w=.ok .skip w':=by
   simp only[execOp,Sem.run_bind,r1,Result.andThen_ok,Sem.run_pure]
  rw[he,Oper.upon_skip]
  exact hnext undef w' r2
 |mapUpdate t m k x=>
  simp only[xq] at hl
  unfold Ul at hl
  split at hl<;>try (cases hl;done)
  rename_i kt et ht
  split at hl<;>try (cases hl;done)
  rename_i ks ka g zs hks hka hg hz
  split at hl<;>try (cases hl;done)
  split at hl<;>try (cases hl;done)
  rename_i m' k' x' hm hk hx
  simp only[Option.some.injEq] at hl
  subst hl
  simp only[ky] at h
  split at h<;>try (exact h.elim)
  rename_i b y hev hy
  split at h<;>try (exact h.elim)
  rename_i es hb
  split at h<;>try (exact h.elim)
  rename_i es' hp
  obtain⟨h1,h2,h3,h4,h5⟩:=h
  have hrm:=ya hE hm h1
  rw[hev] at hrm
  obtain⟨w',r1,r2⟩:=zk0 (P:=P) hI ht hks hka hrm (ya hE hk h2) (ya hE hx h3) hy hb hp h4 (znc h4) h5
  unfold Oper.wp
  have he:(execOp a.eval { dst:=dst,op:=.mapUpdate t m k x,type:=type,pos:=pos,after:=after,guard:=guard }).run P w=.ok .skip w':=by
   simp only[execOp,Sem.run_bind,r1,Result.andThen_ok,Sem.run_pure]
  rw[he,Oper.upon_skip]
  exact hnext undef w' (r2 undef)
 |insert t m k x=>
  simp only[xq] at hl
  unfold Ul at hl
  split at hl<;>try (cases hl;done)
  rename_i kt et ht
  split at hl<;>try (cases hl;done)
  rename_i ks ka g zs hks hka hg hz
  split at hl<;>try (cases hl;done)
  split at hl<;>try (cases hl;done)
  rename_i m' k' x' hm hk hx
  simp only[Option.some.injEq] at hl
  subst hl
  simp only[ky] at h
  split at h<;>try (exact h.elim)
  rename_i b y hev hy
  split at h<;>try (exact h.elim)
  rename_i es hb
  split at h<;>try (exact h.elim)
  rename_i es' hp
  obtain⟨h1,h2,h3,h4,h5⟩:=h
  have hrm:=ya hE hm h1
  rw[hev] at hrm
  obtain⟨w',r1,r2⟩:=zk0 (P:=P) hI ht hks hka hrm (ya hE hk h2) (ya hE hx h3) hy hb hp h4 (znc h4) h5
  unfold Oper.wp
  have he:(execOp a.eval { dst:=dst,op:=.insert t m k x,type:=type,pos:=pos,after:=after,guard:=guard }).run P w=.ok .skip w':=by
   simp only[execOp,Sem.run_bind,r1,Result.andThen_ok,Sem.run_pure]
  rw[he,Oper.upon_skip]
  exact hnext undef w' (r2 undef)
 |makeMap t r=>
  simp only[xq] at hl
  split at hl<;>try (cases hl;done)
  simp only[Option.some.injEq] at hl
  subst hl
  exact val (zqh hI h) rfl
 |range t x=>
  simp only[xq] at hl
  split at hl<;>try (cases hl;done)
  rename_i kt et ht
  simp only[Option.map_eq_some_iff] at hl
  obtain⟨x',hx',rfl⟩:=hl
  simp only[ky] at h
  split at h
  ·rename_i b hev
   split at h<;>try (exact h.elim)
   rename_i es hg
   have hr:=ya hE hx' h.1
   rw[hev] at hr
   exact val (zpk hI ht hr hg h.2) rfl
  ·rename_i hev
   have hr:=ya hE hx' h.1
   rw[hev] at hr
   refine val (s:=Instr.range t (a.eval x)) ?_ rfl
   rw[hr.val_inv]
   exact zjt hI ht h.2
  ·exact h.elim
 |next x s=>
  cases s with
  |true=>simp[xq] at hl
  |false=>
   simp only[xq,Option.map_eq_some_iff] at hl
   obtain⟨x',hx',rfl⟩:=hl
   simp only[ky] at h
   split at h<;>try (exact h.elim)
   rename_i i hev
   split at h
   ·rename_i arr ck seen hi
    have hr:=ya hE hx' h.1
    rw[hev] at hr
    exact val (zrx hI hr hi h.2) rfl
   ·rename_i b arr ck seen hi
    split at h<;>try (exact h.elim)
    rename_i es arr' ck' hb
    obtain⟨h1,rfl,rfl,h4,h5⟩:=h
    have hr:=ya hE hx' h1
    rw[hev] at hr
    exact val (zw6 hI hr hi hb h4 h5) rfl
   ·exact h.elim
 |entry x=>
  simp only[xq,Option.map_eq_some_iff] at hl
  obtain⟨x',hx',rfl⟩:=hl
  simp only[ky] at h
  split at h<;>try (exact h.elim)
  rename_i i hev
  split at h<;>try (exact h.elim)
  rename_i b arr ck j seen hi
  split at h<;>try (exact h.elim)
  rename_i es arr' ck' hb
  obtain⟨h1,rfl,rfl,p,h4,h5⟩:=h
  have hr:=ya hE hx' h1
  rw[hev] at hr
  exact val (zqu hI hr hi hb h4 h5) rfl
 |convert src d x=>
  simp only[xq] at hl
  split at hl<;>try (cases hl;done)
  rename_i k x' hk hx
  simp only[Option.some.injEq] at hl
  subst hl
  cases k with
  |int k=>exact h.elim
  |same=>exact h.elim
  |s2b vm'=>
   simp only[ky] at h
   split at h<;>try (exact h.elim)
   rename_i l hev
   have hn1:x'.need e:=by cases vm'<;>exact h.1
   have hr:=ya hE hx hn1
   rw[hev] at hr
   have hv:=hr.str_inv
   have hu:∃c,P.underlying src=some .string∧P.underlying d=some (.slice c)∧P.underlying c=some (.int .u8):=by
    unfold z2w at hk
    split at hk<;>simp_all
    all_goals (split at hk<;>simp_all)
   obtain⟨c,hu1,hu2,hu3⟩:=hu
   refine val (s:=convert src d (a.eval x)) ?_ rfl
   rw[hv]
   cases vm' with
   |true=>exact zut hI hu1 hu2 hu3 h.2
   |false=>exact zz4 hI hu1 hu2 hu3 h.2
  |b2s=>
   simp only[ky] at h
   split at h<;>try (exact h.elim)
   rename_i p rows hro
   obtain⟨h1,h2,h3,h4,h5⟩:=h
   have hu:∃c,P.underlying src=some (.slice c)∧P.underlying d=some .string∧P.underlying c=some (.int .u8):=by
    unfold z2w at hk
    split at hk<;>simp_all
    all_goals (split at hk<;>simp_all)
   obtain⟨c,hu1,hu2,hu3⟩:=hu
   exact val (s:=convert src d (a.eval x)) (zyo hI hu1 hu2 hu3 (ya hE hx h1) hro h3 h2 h4 h5) rfl
 |makeSlice t l c=>
  simp only[xq] at hl
  split at hl<;>try (cases hl;done)
  rename_i el ht
  split at hl<;>try (cases hl;done)
  rename_i z s b l' c' hz hsz hby hl' hc'
  split at hl<;>try (cases hl;done)
  rename_i hcond
  simp only[Bool.and_eq_true,decide_eq_true_eq] at hcond
  simp only[Option.some.injEq] at hl
  subst hl
  simp only[ky] at h
  split at h<;>try (exact h.elim)
  rename_i lv cv hlv hcv
  cases vm with
  |false=>
   obtain⟨h1,h2,h3,h4,h5,h6⟩:=h
   have r1:=ya hE hl' h1
   rw[hlv] at r1
   have r2:=ya hE hc' h2
   rw[hcv] at r2
   refine val (s:=Instr.makeSlice t (a.eval l) (a.eval c)) ?_ rfl
   rw[r1.int_inv,r2.int_inv]
   obtain⟨arr,k1,k2,k3⟩:=z0v (P:=P) (w:=w) (I:=I) (β:=β) (n:=n) ht hz hsz hby hcond.1 hcond.2 h3 h4 h5
   obtain⟨rows,h7|h7,h6⟩:=h6
   ·subst h7
    exact⟨_,_,k1,z40 hI h4 k2 (by have kk:=Uu (es:=List.replicate _ _) k3 z;rwa [List.map_replicate] at kk) h6⟩
   ·subst h7
    exact⟨_,_,k1,z40 hI h4 k2 k3 h6⟩
  |true=>
   obtain⟨h1,h2,h3,h4,h5,h6⟩:=h
   have r1:=ya hE hl' h1
   rw[hlv] at r1
   have r2:=ya hE hc' h2
   rw[hcv] at r2
   subst h3
   refine val (s:=Instr.makeSlice t (a.eval l) (a.eval c)) ?_ rfl
   rw[r1.int_inv,r2.int_inv]
   obtain⟨arr,k1,k2,k3⟩:=z0v (P:=P) (w:=w) (I:=I) (β:=β) (n:=n) ht hz hsz hby hcond.1 hcond.2 (Int.le_refl 0) h4 h5
   exact⟨_,_,k1,zau hI k2 h6⟩
 |call c=>
  obtain⟨callee,args,argTypes⟩:=c
  simp only[xq] at hl
  unfold Kv at hl
  cases callee with
  |value f=>
   simp only at hl
   split at hl
   ·rename_i fid heq
    simp only[Callee.value.injEq] at heq
    subst heq
    split at hl<;>try (cases hl;done)
    split at hl<;>try (cases hl;done)
    simp only[Option.map_eq_some_iff] at hl
    obtain⟨ys,hys,rfl⟩:=hl
    simp only[ky] at h
    obtain⟨h1,h2⟩:=z0z hE hys h.1
    refine call h.2 h1 h2 ?_
    simp[execOp,resolve,Act.eval,Deferred.ofValue,invoke]
   ·rename_i g hne heq
    simp only[Callee.value.injEq] at heq
    subst heq
    split at hl<;>try (cases hl;done)
    rename_i x' ys hx hys
    simp only[Option.some.injEq] at hl
    subst hl
    simp only[ky] at h
    split at h<;>try (exact h.elim)
    rename_i fid first caps hev
    obtain⟨h1,h2,h3⟩:=h
    obtain⟨fid,rfl⟩:∃g,fid=.func g:=by
     cases fid with
     |func g=>exact⟨g,rfl⟩
     |yield l=>exact absurd ⟨x',ys,l,first,caps,rfl,hev⟩ hyield
     |_=>exact h3.2.1.elim
    have hr:=ya hE hx h1
    rw[hev] at hr
    have hfn:∃fs cs:Array Value,a.eval f=.func (.func fid) fs cs∧fs.size=first.length∧cs.size=caps.length∧(∀ (i:Nat) (x:AVal) (v:Value),first[i]?=some x→fs[i]?=some v→Rep I β n w x v)∧(∀ (i:Nat) (x:AVal) (v:Value),caps[i]?=some x→cs[i]?=some v→Rep I β n w x v):=by
     revert hr
     generalize a.eval f=fv
     intro hr
     cases hr with
     |fn _ _ _ fs cs h1 h2 h3 h4=>exact⟨fs,cs,rfl,h1,h2,h3,h4⟩
     |imm _ _ hr=>
      cases hr with
      |fn _ _ _ fs cs h1 h2 h3 h4=>exact⟨fs,cs,rfl,h1,h2,fun i x v p q=>.imm _ _ (h3 i x v p q),fun i x v p q=>.imm _ _ (h4 i x v p q)⟩
    obtain⟨fs,cs,hf,k1,k2,k3,k4⟩:=hfn
    obtain⟨g1,g2⟩:=z0z hE hys h2
    refine call (vs:=fs++args.map a.eval++cs) h3 (by simp only[Array.toList_append,List.length_append,g1,Array.length_toList,k1,k2]) ?_ ?_
    ·intro i y v hy hv
     simp only[Array.toList_append] at hv
     rw[List.getElem?_append] at hy hv
     have hla:(fs.toList++(args.map a.eval).toList).length=(first++evs e ys).length:=by simp only[List.length_append,g1,Array.length_toList,k1]
     rw[hla] at hv
     split at hy
     ·rename_i hlt
      rw[if_pos hlt] at hv
      rw[List.getElem?_append] at hy hv
      have hlb:fs.toList.length=first.length:=by simp[k1]
      rw[hlb] at hv
      split at hy
      ·rename_i hlt2
       rw[if_pos hlt2] at hv
       exact k3 i y v hy (by rw[←Array.getElem?_toList];exact hv)
      ·rename_i hlt2
       rw[if_neg hlt2] at hv
       exact g2 _ y v hy hv
     ·rename_i hlt
      rw[if_neg hlt] at hv
      exact k4 _ y v hy (by rw[←Array.getElem?_toList];exact hv)
    ·simp[execOp,resolve,hf,Deferred.ofValue,invoke]
   ·rename_i heq;cases heq
   all_goals (rename_i heq;cases heq)
  |invoke _ _=>cases hl
  |builtin bi=>
   cases bi<;>simp only at hl<;>try (cases hl;done)
   case len=>
    split at hl<;>try (cases hl;done)
    split at hl<;>try (cases hl;done)
    all_goals
     simp only[Option.map_eq_some_iff] at hl
     obtain⟨_,_,rfl⟩:=hl
     exact h.elim
   case delete=>
    split at hl<;>try (cases hl;done)
    rename_i x y t t2 hargs htys
    have hx:args=#[x,y]:=by cases args;simp_all
    have hty:argTypes=#[t,t2]:=by cases argTypes;simp_all
    subst hx;subst hty
    split at hl<;>try (cases hl;done)
    rename_i kt et ht
    split at hl<;>try (cases hl;done)
    rename_i ks ka x' y' hks hka hx hy
    simp only[Option.some.injEq] at hl
    subst hl
    simp only[ky] at h
    split at h<;>try (exact h.elim)
    rename_i b hev
    split at h<;>try (exact h.elim)
    rename_i es hb
    split at h<;>try (exact h.elim)
    rename_i es' hp
    obtain⟨h1,h2,h3,h4⟩:=h
    have hrx:=ya hE hx h1
    rw[hev] at hrx
    refine val (s:=Builtin.delete_ #[t,t2] type (#[x,y].map a.eval)) ?_ rfl
    have e1:(#[x,y]:Array Operand).map a.eval=#[a.eval x,a.eval y]:=by simp
    rw[e1]
    exact zw8 hI ht hks hka hrx (ya hE hy h2) hb hp h3 h4
   case max=>simp only[Option.map_eq_some_iff] at hl;obtain⟨_,_,rfl⟩:=hl;exact h.elim
   case min=>simp only[Option.map_eq_some_iff] at hl;obtain⟨_,_,rfl⟩:=hl;exact h.elim
   case append=>
    split at hl<;>try (cases hl;done)
    rename_i x y t u hargs htys
    have hx:args=#[x,y]:=by cases args;simp_all
    have hty:argTypes=#[t,u]:=by cases argTypes;simp_all
    subst hx;subst hty
    split at hl<;>try (cases hl;done)
    all_goals
     rename_i c _ ht hu
     split at hl<;>try (cases hl;done)
     rename_i s b x' y' hsz hby hx hy
     split at hl<;>try (cases hl;done)
     rename_i hcond
     simp only[Bool.and_eq_true,decide_eq_true_eq] at hcond
     obtain⟨⟨hs,hb⟩,hz⟩:=hcond
     obtain⟨zs,hz⟩:=Option.isSome_iff_exists.1 hz
     simp only[Option.some.injEq] at hl
     subst hl
     simp only[ky] at h
     split at h<;>try (exact h.elim)
     rename_i p rows2 hro
     refine val (s:=Builtin.append_ #[t,u] type (#[x,y].map a.eval)) ?_ rfl
     have e1:(#[x,y]:Array Operand).map a.eval=#[a.eval x,a.eval y]:=by simp
     rw[e1]
     cases vm with
     |false=>
      obtain⟨h1,h2,h3,h4⟩:=h
      first
       |exact zp5 hI ht (.inl ⟨_,hu⟩) hz hsz hby hs hb (ya hE hx h1) (ya hE hy h2) hro h3 h4
       |exact zp5 hI ht (.inr hu) hz hsz hby hs hb (ya hE hx h1) (ya hE hy h2) hro h3 h4
     |true=>
      simp only at h
      split at h<;>try (exact h.elim)
      rename_i rows2' him
      obtain⟨h1,h2,h3,h4⟩:=h
      first
       |exact zo3 hI ht (.inl ⟨_,hu⟩) hz hsz hby hs hb (ya hE hx h1) (ya hE hy h2) hro h3 him h4
       |exact zo3 hI ht (.inr hu) hz hsz hby hs hb (ya hE hx h1) (ya hE hy h2) hro h3 him h4
   case copy=>
    split at hl<;>try (cases hl;done)
    rename_i x y t u hargs htys
    have hx:args=#[x,y]:=by cases args;simp_all
    have hty:argTypes=#[t,u]:=by cases argTypes;simp_all
    subst hx;subst hty
    split at hl<;>try (cases hl;done)
    rename_i c ht
    split at hl<;>try (cases hl;done)
    rename_i s x' y' hsz hx hy
    split at hl<;>try (cases hl;done)
    rename_i hs
    simp only[Option.some.injEq] at hl
    subst hl
    simp only[ky] at h
    split at h<;>try (exact h.elim)
    rename_i b s' off len f p rows2 hev hro
    split at h<;>try (exact h.elim)
    rename_i s'' es hb
    obtain⟨h1,h2,h3,h4,h5,h6,h7⟩:=h
    have hrx:=ya hE hx h1
    rw[hev] at hrx
    refine val (s:=Builtin.copy_ #[t,u] type (#[x,y].map a.eval)) ?_ rfl
    have e1:(#[x,y]:Array Operand).map a.eval=#[a.eval x,a.eval y]:=by simp
    rw[e1]
    exact zwk hI ht hsz hs hrx (ya hE hy h2) hro h3 hb h4 h5 h6 h7
 |move _=>simp only[xq,Option.map_eq_some_iff] at hl;obtain⟨_,_,rfl⟩:=hl;exact h.elim
 |lookup _ _ _ _=>simp only[xq] at hl;split at hl<;>try (cases hl;done)
                  split at hl<;>try (cases hl;done)
                  split at hl<;>cases hl;exact h.elim
 |assign _=>simp only[xq,Option.map_eq_some_iff] at hl;obtain⟨_,_,rfl⟩:=hl;exact h.elim
 |nilCheck _=>simp only[xq,Option.map_eq_some_iff] at hl;obtain⟨_,_,rfl⟩:=hl;exact h.elim
 |unOp _ _ _=>simp only[xq,Option.map_eq_some_iff] at hl;obtain⟨_,_,rfl⟩:=hl;exact h.elim
 |extract _ _=>simp only[xq,Option.map_eq_some_iff] at hl;obtain⟨_,_,rfl⟩:=hl;exact h.elim
 |pick _ _ _=>simp only[xq] at hl;split at hl<;>cases hl;exact h.elim
 |makeFunc _ _ _=>simp only[xq] at hl;split at hl<;>cases hl;exact h.elim
 |load _ _=>simp only[xq] at hl;split at hl<;>try (cases hl;done)
            split at hl<;>cases hl;exact h.elim
 |binOp _ _ _ _ _=>simp only[xq] at hl;split at hl<;>try (cases hl;done)
                   split at hl<;>cases hl<;>exact h.elim
 |build _ _=>simp only[xq] at hl;split at hl<;>try (cases hl;done)
             ·split at hl<;>try (cases hl;done)
              split at hl<;>cases hl;exact h.elim
             ·split at hl<;>try (cases hl;done)
              simp only[Option.map_eq_some_iff] at hl;obtain⟨_,_,rfl⟩:=hl;exact h.elim
 |slice _ _ _ _ _=>simp only[xq] at hl;split at hl<;>try (cases hl;done)
                   split at hl<;>try (cases hl;done)
                   ·cases hl;exact h.elim
                   ·split at hl<;>try (cases hl;done)
                    simp only[Option.map_eq_some_iff] at hl;obtain⟨_,_,rfl⟩:=hl;exact h.elim
                   ·split at hl<;>try (cases hl;done)
                    simp only[Option.map_eq_some_iff] at hl;obtain⟨_,_,rfl⟩:=hl;exact h.elim
 |fieldAddr _ _ _=>simp only[xq] at hl;split at hl<;>try (cases hl;done)
                   split at hl<;>try (cases hl;done)
                   split at hl<;>try (cases hl;done)
                   split at hl<;>cases hl;exact h.elim
 |field _ _ _=>simp only[xq] at hl;split at hl<;>try (cases hl;done)
               split at hl<;>try (cases hl;done)
               split at hl<;>try (cases hl;done)
               split at hl<;>cases hl;exact h.elim
 |indexAddr _ _ _=>simp only[xq] at hl;split at hl<;>try (cases hl;done)
                   all_goals (simp only[Option.map_eq_some_iff] at hl;obtain⟨_,_,rfl⟩:=hl;first|exact h.elim|(split at h<;>exact h.elim))
 |index _ _ _=>simp only[xq] at hl;split at hl<;>try (cases hl;done)
               ·cases hl;exact h.elim
               ·split at hl<;>try (cases hl;done)
                split at hl<;>cases hl;exact h.elim
 |_=>cases hl
end
end Go.Fx
