/-
  Own framework.
-/
import Derived.Test.YtlilpmnmedmjaaaGreatDoorFxBd
import Derived.Test.YtlilpmnmedmjaaaGreatDoorFxX
namespace Go.Fx
set_option linter.unusedVariables false
variable {P:Program} {I:Nat→Nat→Prop} {β:Id→Option CLoc} {n:Nat} {H:AHeap} {w:World}
structure BByte(P:Program)(f:FuncId)(T e tb:TypeId):Prop where
 ok:uk P f
 ht:P.underlying tb=some (.slice e)
 hz:∃zs,wa P e=some zs
 hsz:wj P e=some 1
 hby:X8 P e=some 1
 used:∀ (b:Nat) (c:Int) (v v2:Value) (w w2:World),w.heap[b]?=some (.cells #[.pointer (some ⟨b,0,none⟩),v] T (0,0)) →
  (Builtin.append_ #[tb,tb] tb #[v,.slice (some ⟨w.heap.size,0,none⟩) 1 1]).run P (w.alloc (.cells #[.int .u8 c] e))=.ok v2 w2→(∃a l c,v2=.slice a l c)→w2.heap[b]?=some (.cells #[.pointer (some ⟨b,0,none⟩),v] T (0,0)) →
  Calls P f #[.pointer (some ⟨b,0,none⟩),.int .u8 c] w fun e w'=>e=.returned .nilIface∧w'=w2.setCell ⟨b,1,none⟩ v2
 fresh:∀ (b:Nat) (c:Int) (v v2:Value) (w w2:World),w.heap[b]?=some (.cells #[.pointer none,v] T (0,0)) →
  (Builtin.append_ #[tb,tb] tb #[v,.slice (some ⟨w.heap.size,0,none⟩) 1 1]).run P ((w.setCell ⟨b,0,none⟩ (.pointer (some ⟨b,0,none⟩))).alloc (.cells #[.int .u8 c] e))=.ok v2 w2→(∃a l c,v2=.slice a l c)→w2.heap[b]?=some (.cells #[.pointer (some ⟨b,0,none⟩),v] T (0,0)) →
  Calls P f #[.pointer (some ⟨b,0,none⟩),.int .u8 c] w fun e w'=>e=.returned .nilIface∧w'=w2.setCell ⟨b,1,none⟩ v2
structure BLen(P:Program)(f:FuncId)(T:TypeId):Prop where
 ok:uk P f
 run:∀ (b l cp:Nat) (p:Value) (a:Option Addr) (w:World),w.heap[b]?=some (.cells #[p,.slice a l cp] T (0,0))→Calls P f #[.pointer (some ⟨b,0,none⟩)] w fun e w'=>e=.returned (.int .i64 (l:Int))∧w'=w
theorem u7(w:World)(o:Obj):(w.alloc o).heap=w.heap.push o:=rfl
theorem z9s{b:Nat}{o ob:Obj}(h:w.heap[b]?=some ob):(w.alloc o).heap[b]?=some ob:=by
 have hlt:b<w.heap.size:=by
  rcases Nat.lt_or_ge b w.heap.size with h'|h'
  ·exact h'
  ·rw[Array.getElem?_eq_none h'] at h;cases h
 rw[u7,Array.getElem?_push,if_neg (by omega)];exact h
theorem zb7{b:Nat}{arr:Array Value}{el:TypeId}{fr:Nat×Nat}(h:w.heap[b]?=some (.cells arr el fr))(o:Obj)(v:Value):Wrote (w.alloc o) ((w.setCell ⟨b,0,none⟩ v).alloc o) b:=by
 have hw:=Wrote.setCell w ⟨b,0,none⟩ v
 have hlt:b<w.heap.size:=by
  rcases Nat.lt_or_ge b w.heap.size with h'|h'
  ·exact h'
  ·rw[Array.getElem?_eq_none h'] at h;cases h
 refine⟨hw.os,⟨hw.tape.eq,hw.tape.le⟩,hw.output,?_,fun k hk=>?_,fun arr' el' fr' hh=>?_,fun ob ho hh=>?_⟩
 rotate_right
 ·rw[u7,Array.getElem?_push,if_neg (by omega)] at hh
  rw[h] at hh
  simp only[Option.some.injEq] at hh
  subst hh
  cases ho
 ·rw[u7,u7,Array.size_push,Array.size_push,hw.size]
 ·rw[u7,u7,Array.getElem?_push,Array.getElem?_push,hw.size,hw.other k hk]
 ·rw[u7,Array.getElem?_push,if_neg (by omega)] at hh
  obtain⟨arr2,h1,h2⟩:=hw.shape _ _ _ hh
  exact⟨arr2,by rw[u7,Array.getElem?_push,if_neg (by rw[hw.size];omega)];exact h1,h2⟩
set_option maxHeartbeats 1000000 in
theorem zg7{f:FuncId}{T e tb:TypeId}(hW:BByte P f T e tb){b g:Id}{bs:List UInt8}{x:UInt8}{K:AVal→AHeap→Nat→Prop}(hb:H.get b=some (.bld T g))(hg:H.get g=some (.buf e bs))
 (hlen:bs.length+1≤140737488355328) (hk:K (.val .nilIface) (((n,0),.buf e (bs++[x]))::(H.set b (.bld T (n,0))).del g) (n+1)) :
 ACalls P f [.ptr b 0 0,.int .u8 (x.toNat:Int)] H n K:=by
 refine⟨hW.ok,fun I β w vs hI hl hr=>?_⟩
 match vs,hl with
 |[vp,vx],_=>
 have r1:=hr 0 _ _ rfl rfl
 have r2:=hr 1 _ _ rfl rfl
 rw[r2.int_inv]
 obtain⟨c,hc,hB⟩:=hI.blocks b _ hb
 rw[zbi hc hB r1]
 obtain⟨hlo,hbase,hsize,hgn,p,v,hheap,hp,hv⟩:=hB
 obtain⟨hIA,hXA⟩:=z7j hI (.cells #[.int .u8 (x.toNat:Int)] e)
 have hheapA:=z9s (o:=.cells #[.int .u8 (x.toNat:Int)] e) hheap
 have hblt:c.blk<w.heap.size:=by
  rcases Nat.lt_or_ge c.blk w.heap.size with h|h
  ·exact h
  ·rw[Array.getElem?_eq_none h] at hheap;cases hheap
 obtain⟨w1,hw1,hw1b,hnew,hcalls⟩:∃w1:World,Wrote (w.alloc (.cells #[.int .u8 (x.toNat:Int)] e)) w1 c.blk∧w1.heap[c.blk]?=some (.cells #[.pointer (some ⟨c.blk,0,none⟩),v] T (0,0))∧w1.heap[w.heap.size]?=some (.cells #[.int .u8 (x.toNat:Int)] e (0,0)) ∧
  ∀v2 w2,(Builtin.append_ #[tb,tb] tb #[v,.slice (some ⟨w.heap.size,0,none⟩) 1 1]).run P w1=.ok v2 w2→(∃a l c,v2=.slice a l c) →
  w2.heap[c.blk]?=some (.cells #[.pointer (some ⟨c.blk,0,none⟩),v] T (0,0)) →
  Calls P f #[.pointer (some ⟨c.blk,0,none⟩),.int .u8 (x.toNat:Int)] w fun e w'=>e=.returned .nilIface∧w'=w2.setCell ⟨c.blk,1,none⟩ v2:=by
  rcases hp with rfl|rfl
  ·refine⟨(w.setCell ⟨c.blk,0,none⟩ (.pointer (some ⟨c.blk,0,none⟩))).alloc (.cells #[.int .u8 (x.toNat:Int)] e),zb7 hheap _ _,z9s (by rw[Zl hheap];rfl),?_,fun v2 w2 h1 h2 h3=>hW.fresh _ _ _ _ _ _ hheap h1 h2 h3⟩
   rw[u7,Array.getElem?_push,if_pos (Wrote.setCell w ⟨c.blk,0,none⟩ _).size.symm]
  ·refine⟨w.alloc (.cells #[.int .u8 (x.toNat:Int)] e),Wrote.refl _ _,hheapA,?_,fun v2 w2 h1 h2 h3=>hW.used _ _ _ _ _ _ hheap h1 h2 h3⟩
   rw[u7,Array.getElem?_push,if_pos rfl]
 obtain⟨v2,w2,β',hrun,hv2,hw2b,r3,r4⟩:=zd2 (s:=[x]) hW.ht (.inl ⟨_,hW.ht⟩) hW.hz hW.hsz hW.hby hb hg hlen hIA hc hheapA hw1 hw1b (vy:=.slice (some ⟨w.heap.size,0,none⟩) 1 1) (fun _ _=>rfl) (fun wx hx=>by
  have:(Builtin.firstCells 1 [x].length (.slice (some ⟨w.heap.size,0,none⟩) 1 1))=loadCells ⟨w.heap.size,0,none⟩ ([x].length*1):=rfl
  rw[this]
  refine zd3 _ _ _ fun j y hy=>?_
  unfold World.cell?
  rw[hx]
  simp only[hnew]
  match j,hy with
  |0,hy=>simp at hy;subst hy;rfl
  |j+1,hy=>simp at hy)
 refine(hcalls v2 w2 hrun hv2 hw2b).mono ?_
 rintro ee w' ⟨rfl,rfl⟩
 exact⟨_,_,_,_,I,_,rfl,hk,r3,.imm _ _ (.val _ rfl),hXA.trans r4⟩
theorem zve{f:FuncId}{T e:TypeId}(hS:BLen P f T){b g:Id}{bs:List UInt8}{K:AVal→AHeap→Nat→Prop}(hb:H.get b=some (.bld T g))(hg:H.get g=some (.buf e bs))
 (hk:K (.int .i64 (bs.length:Int)) H n):ACalls P f [.ptr b 0 0] H n K:=by
 refine⟨hS.ok,fun I β w vs hI hl hr=>?_⟩
 match vs,hl with
 |[vp],_=>
 have r1:=hr 0 _ _ rfl rfl
 obtain⟨c,hc,hB⟩:=hI.blocks b _ hb
 obtain⟨d,hd,hD⟩:=hI.blocks g _ hg
 rw[zbi hc hB r1]
 obtain⟨hlo,hbase,hsize,hgn,p,v,hheap,hp,hv⟩:=hB
 have hds:d.s=bs.length:=hD.2.1
 have hz2:d.size=0→bs.length=0:=fun hz=>by
  obtain⟨_,_,⟨_,h⟩|⟨h,_⟩⟩:=hD
  ·rw[h];rfl
  ·omega
 obtain⟨a,cp,rfl⟩:∃a cp,v=.slice a bs.length cp:=by
  rcases hv d hd with⟨h1,h2⟩|⟨_,h2⟩
  ·exact⟨none,0,by rw[h2,hz2 h1]⟩
  ·exact⟨_,_,by rw[h2,hds]⟩
 refine(hS.run _ _ _ _ _ _ hheap).mono ?_
 rintro ee w' ⟨rfl,rfl⟩
 exact⟨_,_,_,_,I,β,rfl,hk,hI,.imm _ _ (.int _ _),Ext.refl _ _ _ _ _ hI.fresh⟩
end Go.Fx
