/-
  Own framework.
-/
import Derived.Test.YtlilpmnmedmjaaaGreatDoorFxMd
namespace Go.Fx
open Go
set_option linter.unusedVariables false
section
variable {P:Program} {I:Nat→Nat→Prop} {β:Id→Option CLoc} {n:Nat} {H:AHeap} {w:World}
structure BWrite(P:Program)(f:FuncId)(T e tb ts:TypeId):Prop where
 ok:uk P f
 ht:P.underlying tb=some (.slice e)
 hu:P.underlying ts=some .string
 hz:∃zs,wa P e=some zs
 hsz:wj P e=some 1
 hby:X8 P e=some 1
 used:∀ (b:Nat) (s:ByteArray) (v v2:Value) (w w2:World),w.heap[b]?=some (.cells #[.pointer (some ⟨b,0,none⟩),v] T (0,0)) →
  (Builtin.append_ #[tb,ts] tb #[v,.string s]).run P w=.ok v2 w2→(∃a l c,v2=.slice a l c)→w2.heap[b]?=some (.cells #[.pointer (some ⟨b,0,none⟩),v] T (0,0)) →
  Calls P f #[.pointer (some ⟨b,0,none⟩),.string s] w fun e w'=>e=.returned (.tuple #[.int .i64 s.size,.nilIface])∧w'=w2.setCell ⟨b,1,none⟩ v2
 fresh:∀ (b:Nat) (s:ByteArray) (v v2:Value) (w w2:World),w.heap[b]?=some (.cells #[.pointer none,v] T (0,0)) →
  (Builtin.append_ #[tb,ts] tb #[v,.string s]).run P (w.setCell ⟨b,0,none⟩ (.pointer (some ⟨b,0,none⟩)))=.ok v2 w2→(∃a l c,v2=.slice a l c)→w2.heap[b]?=some (.cells #[.pointer (some ⟨b,0,none⟩),v] T (0,0)) →
  Calls P f #[.pointer (some ⟨b,0,none⟩),.string s] w fun e w'=>e=.returned (.tuple #[.int .i64 s.size,.nilIface])∧w'=w2.setCell ⟨b,1,none⟩ v2
structure BStr(P:Program)(f:FuncId)(T e:TypeId):Prop where
 ok:uk P f
 nil:∀ (b:Nat) (p:Value) (w:World),w.heap[b]?=some (.cells #[p,.slice none 0 0] T (0,0)) →
  Calls P f #[.pointer (some ⟨b,0,none⟩)] w fun e w'=>e=.returned (.string ⟨#[]⟩)∧w'=w.drew
 zero:∀ (b g cap:Nat) (p:Value) (w:World),w.heap[b]?=some (.cells #[p,.slice (some ⟨g,0,none⟩) 0 cap] T (0,0))→cap≠0 →
  Calls P f #[.pointer (some ⟨b,0,none⟩)] w fun e w'=>e=.returned (.string ⟨#[]⟩)∧w'=w.drew
 full:∀ (b g cap:Nat) (l:List UInt8) (p:Value) (w:World) (cur:Array Value) (fr:Nat×Nat),w.heap[b]?=some (.cells #[p,.slice (some ⟨g,0,none⟩) l.length cap] T (0,0))→l≠[]→cap≠0→l.length≤cur.size→l.length≤9223372036854775807 →
  w.heap[g]?=some (.cells cur e fr)→(∀ (j:Nat) (x:UInt8),l[j]?=some x→cur[j]?=some (Value.int .u8 (x.toNat:Int))) →
  Calls P f #[.pointer (some ⟨b,0,none⟩)] w fun e w'=>e=.returned (.string ⟨l.toArray⟩)∧w'=w.drew.freeze ⟨g,0,none⟩ l.length
theorem Zl{b k:Nat}{arr:Array Value}{el:TypeId}{fr:Nat×Nat}(h:w.heap[b]?=some (.cells arr el fr))(v:Value):(w.setCell ⟨b,k,none⟩ v).heap[b]?=some (.cells (arr.setIfInBounds k v) el fr):=by
 simp[World.setCell,Array.getElem?_modify,h]
theorem Vh{b k x:Nat}(hx:x≠b)(v:Value):(w.setCell ⟨b,k,none⟩ v).heap[x]?=w.heap[x]?:=by
 simp only[World.setCell,Array.getElem?_modify]
 rw[if_neg (fun h=>hx h.symm)]
theorem zbf(hI:Inv I β n H w){w':World}{b g:Id}{T e:TypeId}{bs bs2:List UInt8}{c d d2:CLoc}(hb:H.get b=some (.bld T g))(hg:H.get g=some (.buf e bs))(hc:β b=some c)(hd:β g=some d)
 (hC:Chg w w' (fun x k=>c.has x k∨d.has x k)) (hd2:∀x k,d2.has x k→x<w'.heap.size∧(d.has x k∨w.heap.size≤x))
 (hB1:RepB I (upd (upd β g none) (n,0) (some d2)) (n+1) w' c (.bld T (n,0))) (hB2:RepB I (upd (upd β g none) (n,0) (some d2)) (n+1) w' d2 (.buf e bs2)) :
 Inv I (upd (upd β g none) (n,0) (some d2)) (n+1) (((n,0),.buf e bs2)::(H.set b (.bld T (n,0))).del g) w' ∧
 Ext I β n H w I (upd (upd β g none) (n,0) (some d2)) (n+1) (((n,0),.buf e bs2)::(H.set b (.bld T (n,0))).del g) w':=by
 have hbg:b≠g:=by rintro rfl;rw[hb] at hg;cases hg
 have hbn:=Yh hI hc
 have hgn:=Yh hI hd
 refine kw hI hC (Nat.le_succ n) ?_ (fun _ _ h=>h) (fun _ _ h h'=>absurd h h') ?_ ?_ ?_ ?_ ?_ ?_ ?_
 ·rintro x k (h|h)
  ·exact⟨b,c,hc,by rw[hb];simp,h⟩
  ·exact⟨g,d,hd,by rw[hg];simp,h⟩
 ·intro id hid
  by_cases h:id=g
  ·subst h;exact .inr ⟨by rw[zz _ _ (Z6 hid),xz],by rw[hg];simp⟩
  ·exact .inl (by rw[zz _ _ (Z6 hid),zz _ _ h])
 ·intro id q x k hid hq hk
  rcases Qq hq hI.fresh with⟨_,rfl⟩|⟨h,_⟩
  ·obtain⟨h1,h2⟩:=hd2 x k hk
   refine⟨h1,?_⟩
   rcases h2 with h2|h2
   ·exact .inr ⟨g,d,hd,by rw[hg];simp,h2⟩
   ·exact .inl h2
  ·omega
 ·intro id hid
  rw[zz _ _ (fun h=>by subst h;exact absurd hid (Nat.not_succ_le_self n)),zz _ _ (fun h=>by subst h;omega)]
  exact hI.fresh id (by omega)
 ·intro i j q q' x k hi hj hq hq' hj'
  rcases Qq hj hI.fresh with⟨rfl,rfl⟩|⟨h,_⟩
  ·rcases Qq hi hI.fresh with⟨rfl,_⟩|⟨_,h1,h2⟩
   ·rfl
   ·rcases(hd2 x k hq').2 with h|h
    ·exact absurd (hI.inj i g q d x k h2 hd hq h) h1
    ·exact(Wj hI h2 hq h).elim
  ·omega
 ·intro i q x k hi hq h;exact h
 ·intro id hid h
  rw[AHeap.get_cons_other _ _ (Z6 hid).symm,AHeap.get_del] at h
  split at h
  ·exact absurd rfl h
  ·exact(W3 id).1 h
 ·intro id blk hid
  by_cases h:(n,0)=id
  ·subst h
   rw[AHeap.get_cons_same] at hid
   simp only[Option.some.injEq] at hid
   subst hid
   exact .inr ⟨d2,xz _ _ _,hB2⟩
  ·rw[AHeap.get_cons_other _ _ h,AHeap.get_del] at hid
   split at hid
   ·cases hid
   ·rename_i hne
    have hβ:upd (upd β g none) (n,0) (some d2) id=β id:=by rw[zz _ _ (fun h'=>h h'.symm),zz _ _ (fun h'=>hne h'.symm)]
    rw[AHeap.get_set] at hid
    by_cases hbi:b=id
    ·subst hbi
     rw[if_pos rfl,hb] at hid
     simp only[Option.map_some,Option.some.injEq] at hid
     subst hid
     exact .inr ⟨c,hβ.trans hc,hB1⟩
    ·rw[if_neg hbi] at hid
     refine .inl ⟨hid,hβ,fun q x k hq hk hw=>?_⟩
     rcases hw with hw|hw
     ·exact hbi (hI.inj b id c q x k hc hq hw hk)
     ·exact hne (hI.inj g id d q x k hd hq hw hk)
def ul(l:List UInt8):Array Value:=(l.map fun x=>Value.int .u8 (x.toNat:Int)).toArray
theorem kn(l:List UInt8):(ul l).size=l.length:=by simp[ul]
theorem Jx(l:List UInt8)(i:Nat)(x:UInt8)(h:l[i]?=some x):(ul l)[i]?=some (Value.int .u8 (x.toNat:Int)):=by
 simp only[ul,List.getElem?_toArray,List.getElem?_map,h];rfl
theorem zlx(s:List UInt8)(w:World):(Builtin.firstCells 1 s.length (.string ⟨⟨s⟩⟩)).run P w=.ok (ul s) w:=by
 have h:(Builtin.firstCells 1 s.length (.string ⟨⟨s⟩⟩))=(pure ((ByteArray.extract ⟨⟨s⟩⟩ 0 s.length).data.map fun b=>Value.int .u8 b.toNat):Sem (Array Value)):=rfl
 rw[h,Sem.run_pure]
 congr 1
 apply Array.toList_inj.1
 have h2:(ByteArray.extract ⟨⟨s⟩⟩ 0 s.length).data=⟨s⟩:=by
  rw[ByteArray.data_extract]
  apply Array.toList_inj.1
  simp
 rw[h2]
 simp[ul]
theorem znb{t u c rt:TypeId}{z:Nat}(ht:P.underlying t=some (.slice c))(hu:(∃c',P.underlying u=some (.slice c'))∨P.underlying u=some .string)(hsz:wj P c=some z)(w:World)(base:Option Addr)(len cap:Nat)(h:len≤cap){vy:Value}
 (hly:(Builtin.lenOf vy).run P w=.ok 0 w) (f2:(Builtin.firstCells z 0 vy).run P w=.ok #[] w) :
 (Builtin.append_ #[t,u] rt #[.slice base len cap,vy]).run P w=.ok (.slice base len cap) w:=by
 rcases hu with⟨c2,hu⟩|hu
 ·unfold Builtin.append_
  simp only[List.getElem?_toArray,List.getElem?_cons_zero,List.getElem?_cons_succ,Sem.run_bind,zf ht,zf hu,Result.andThen_ok,x7 hsz,Sem.run_pure,hly,Bool.false_eq_true,if_false,Bool.not_false,if_true,Nat.add_zero]
  rw[if_pos h]
  simp only[Sem.run_bind,f2,Result.andThen_ok]
  cases base<;>simp[storeCells]
 ·unfold Builtin.append_
  simp only[List.getElem?_toArray,List.getElem?_cons_zero,List.getElem?_cons_succ,Sem.run_bind,zf ht,zf hu,Result.andThen_ok,x7 hsz,Sem.run_pure,hly,Bool.false_eq_true,if_false,Bool.not_false,if_true,Nat.add_zero]
  rw[if_pos h]
  simp only[Sem.run_bind,f2,Result.andThen_ok]
  cases base<;>simp[storeCells]
theorem zmw{t u c rt:TypeId}{z:Nat}(ht:P.underlying t=some (.slice c))(hu:(∃c',P.underlying u=some (.slice c'))∨P.underlying u=some .string)(hsz:wj P c=some z)(w w':World)(b len cap m:Nat)(h:len+m≤cap){vy:Value}{a2:Array Value}
 (hly:(Builtin.lenOf vy).run P w=.ok m w) (f2:(Builtin.firstCells z m vy).run P w=.ok a2 w)
 (hst:(storeCells ⟨b,0+len*z,none⟩ a2.toList 0).run P w=.ok () w') :
 (Builtin.append_ #[t,u] rt #[.slice (some ⟨b,0,none⟩) len cap,vy]).run P w=.ok (.slice (some ⟨b,0,none⟩) (len+m) cap) w':=by
 rcases hu with⟨c2,hu⟩|hu
 ·unfold Builtin.append_
  simp only[List.getElem?_toArray,List.getElem?_cons_zero,List.getElem?_cons_succ,Sem.run_bind,zf ht,zf hu,Result.andThen_ok,x7 hsz,Sem.run_pure,hly,Bool.false_eq_true,if_false,Bool.not_false,if_true]
  rw[if_pos h]
  simp only[Sem.run_bind,f2,Result.andThen_ok,j5,hst,Sem.run_pure]
 ·unfold Builtin.append_
  simp only[List.getElem?_toArray,List.getElem?_cons_zero,List.getElem?_cons_succ,Sem.run_bind,zf ht,zf hu,Result.andThen_ok,x7 hsz,Sem.run_pure,hly,Bool.false_eq_true,if_false,Bool.not_false,if_true]
  rw[if_pos h]
  simp only[Sem.run_bind,f2,Result.andThen_ok,j5,hst,Sem.run_pure]
theorem zd3(w:World)(b:Nat)(l:List UInt8)(h:∀ (j:Nat) (x:UInt8),l[j]?=some x→w.cell? ⟨b,j,none⟩=some (Value.int .u8 (x.toNat:Int))):(loadCells ⟨b,0,none⟩ (l.length*1)).run P w=.ok (ul l) w:=by
 rw[Nat.mul_one,Xm (fun j=>Value.int .u8 ((l.getD j 0).toNat:Int)) l.length (fun j hj=>by
  rw[Nat.zero_add];exact h j _ (by rw[List.getD_eq_getElem?_getD,List.getElem?_eq_getElem hj];rfl))]
 congr 1
 apply Array.toList_inj.1
 simp only[ul]
 apply List.ext_getElem?
 intro j
 simp only[List.getElem?_map]
 by_cases hj:j<l.length
 ·rw[List.getElem?_range hj,List.getElem?_eq_getElem hj];simp[List.getD_eq_getElem?_getD,List.getElem?_eq_getElem hj]
 ·rw[List.getElem?_eq_none (by simpa using hj),List.getElem?_eq_none (by omega)];rfl
theorem zmh{w w':World}{c:CLoc}{arr:Array Value}{el:TypeId}{fr:Nat×Nat}(h:Wrote w w' c.blk)(hheap:w.heap[c.blk]?=some (.cells arr el fr))(hlo:c.lo=0)(hpos:0<c.size)(hsz:arr.size≤c.size):Chg w w' c.has:=by
 refine⟨h.os,h.tape,h.output,by rw[h.size];exact Nat.le_refl _,fun b _ hb=>?_,fun b k _ hb=>?_,fun b a e f hb=>?_,fun b es ck hb _=>?_⟩
 ·refine h.other b fun hx=>?_
  subst hx
  exact hb 0 ⟨rfl,by omega,hpos⟩
 ·by_cases hx:b=c.blk
  ·subst hx
   obtain⟨arr',h1,h2⟩:=h.shape _ _ _ hheap
   have hk:c.size≤k:=by
    rcases Nat.lt_or_ge k c.size with h|h
    ·exact absurd ⟨rfl,by omega,h⟩ hb
    ·exact h
   unfold World.cell?
   simp only[hheap,h1]
   rw[Array.getElem?_eq_none (by omega),Array.getElem?_eq_none (by omega)]
  ·exact cell?_of_heap (h.other b hx)
 ·by_cases hx:b=c.blk
  ·subst hx;exact h.shape _ _ _ hb
  ·exact⟨a,by rw[h.other b hx];exact hb,rfl⟩
 ·by_cases hx:b=c.blk
  ·subst hx;exact h.mapsAt _ ck hb
  ·rw[h.other b hx];exact hb
theorem zd2{T e tb ts:TypeId}{vy:Value}(ht:P.underlying tb=some (.slice e))(hu:(∃c',P.underlying ts=some (.slice c'))∨P.underlying ts=some .string)(hz0:∃zs,wa P e=some zs)(hsz:wj P e=some 1)(hby:X8 P e=some 1)
 {b g:Id} {bs s:List UInt8} (hb:H.get b=some (.bld T g)) (hg:H.get g=some (.buf e bs)) (hlen:bs.length+s.length≤140737488355328) (hI:Inv I β n H w) {c:CLoc} (hc:β b=some c) {p v:Value}
 (hheap:w.heap[c.blk]?=some (.cells #[p,v] T (0,0))) {w1:World} (hw1:Wrote w w1 c.blk) (hw1b:w1.heap[c.blk]?=some (.cells #[.pointer (some ⟨c.blk,0,none⟩),v] T (0,0)))
 (hsl:∀wx:World,wx.heap=w1.heap→(Builtin.lenOf vy).run P wx=.ok s.length wx) (hfc:∀wx:World,wx.heap=w1.heap→(Builtin.firstCells 1 s.length vy).run P wx=.ok (ul s) wx) :
 ∃ (v2:Value) (w2:World) (β':Id→Option CLoc),(Builtin.append_ #[tb,ts] tb #[v,vy]).run P w1=.ok v2 w2∧(∃a l c,v2=.slice a l c)∧w2.heap[c.blk]?=some (.cells #[.pointer (some ⟨c.blk,0,none⟩),v] T (0,0)) ∧
  Inv I β' (n+1) (((n,0),.buf e (bs++s))::(H.set b (.bld T (n,0))).del g) (w2.setCell ⟨c.blk,1,none⟩ v2)∧Ext I β n H w I β' (n+1) (((n,0),.buf e (bs++s))::(H.set b (.bld T (n,0))).del g) (w2.setCell ⟨c.blk,1,none⟩ v2):=by
 obtain⟨c',hc',hB⟩:=hI.blocks b _ hb
 rw[hc] at hc'
 simp only[Option.some.injEq] at hc'
 subst hc'
 obtain⟨d,hd,hD⟩:=hI.blocks g _ hg
 obtain⟨hlo,hbase,hsize,hgn,p',v',hheap',hp,hv⟩:=hB
 rw[hheap] at hheap'
 simp only[Option.some.injEq,Obj.cells.injEq,and_true] at hheap'
 obtain⟨rfl,rfl⟩:p=p'∧v=v':=by simpa using hheap'
 have hds:d.s=bs.length:=hD.2.1
 have hvd:=hv d hd
 rw[hds] at hvd
 have hbg:b≠g:=by rintro rfl;rw[hb] at hg;cases hg
 have hblt:c.blk<w.heap.size:=by
  rcases Nat.lt_or_ge c.blk w.heap.size with h|h
  ·exact h
  ·rw[Array.getElem?_eq_none h] at hheap;cases hheap
 have other:∀x,x≠c.blk→w1.heap[x]?=w.heap[x]?:=hw1.other
 have hdc:0<d.size→d.blk≠c.blk:=by
  intro hp0 h
  have hdlo:d.lo=0:=hD.1
  exact hbg (hI.inj b g c d c.blk 0 hc hd ⟨rfl,by omega,by omega⟩ ⟨h,by omega,hp0⟩)
 -- what is appended
 obtain⟨zs,hz⟩:=hz0
 have hwsz:w1.heap.size=w.heap.size:=hw1.size
 have grow:∀ (base:Option Addr) (cap:Nat) (a1:Array Value),v=.slice base bs.length cap→(Builtin.firstCells 1 bs.length (.slice base bs.length cap)).run P { w1 with drawn:=w1.drawn+1 }=.ok a1 { w1 with drawn:=w1.drawn+1 }→a1=ul bs→cap<bs.length+s.length →
  ∃ (v2:Value) (w2:World) (d2:CLoc),(Builtin.append_ #[tb,ts] tb #[v,vy]).run P w1=.ok v2 w2∧(∃a l c,v2=.slice a l c)∧Chg w1 w2 d.has∧(∀x k,d2.has x k→x<w2.heap.size∧(d.has x k∨w.heap.size≤x))∧d2.lo=0∧d2.s=(bs++s).length ∧
   ((d2.size=0∧bs++s=[]∧v2=.slice none 0 0)∨(0<d2.size∧d2.blk≠c.blk∧v2=.slice (some ⟨d2.blk,0,none⟩) (bs++s).length d2.size∧∃arr fr,w2.heap[d2.blk]?=some (.cells arr e fr)∧d2.size=arr.size∧(bs++s).length≤arr.size∧(fr.1=fr.2∨fr.2≤(bs++s).length) ∧
    ∀ (i:Nat) (x:UInt8),(bs++s)[i]?=some x→arr[i]?=some (.int .u8 (x.toNat:Int)))):=by
  intro base cap a1 hv1 hf1 ha1 hcap
  subst hv1
  subst ha1
  obtain⟨m,w',a3,k1,k2,k3,k4⟩:=z61 (P:=P) (rt:=tb) (w:=w1) ht hu hz hsz hby Nat.one_pos (wd:={ w1 with drawn:=w1.drawn+1 }) rfl (hsl w1 rfl) hf1 (hfc _ rfl) hcap (by omega) (by simp[kn]) (by simp[kn])
  have hsz':w'.heap.size=w1.heap.size+1:=by rw[k3.heap];simp
  refine⟨_,w',⟨w1.heap.size,0,m,0,(bs++s).length⟩,k1,⟨_,_,_,rfl⟩,k3.chg.mono (fun _ _ h=>h.elim),fun x k h=>?_,rfl,rfl,.inr ⟨by simp only;omega,by simp only;omega,by rw[List.length_append],_,_,k3.new,by rw[k4];simp,by rw[k4,List.length_append];omega,.inl rfl,fun i x hi=>?_⟩⟩
  ·have hx:w1.heap.size=x:=h.1
   exact⟨by omega,.inr (by omega)⟩
  ·have hlt:i<bs.length+s.length:=by
    rcases Nat.lt_or_ge i (bs++s).length with h|h
    ·rwa [List.length_append] at h
    ·rw[List.getElem?_eq_none h] at hi;cases hi
   rw[Array.getElem?_append_left (by simp only[Array.size_append,kn];exact hlt)]
   by_cases hib:i<bs.length
   ·rw[Array.getElem?_append_left (by rw[kn];exact hib)]
    rw[List.getElem?_append_left hib] at hi
    exact Jx _ _ _ hi
   ·rw[Array.getElem?_append_right (by rw[kn];omega),kn]
    rw[List.getElem?_append_right (by omega)] at hi
    exact Jx _ _ _ hi
 obtain⟨v2,w2,d2,hrun,hv2,hC2,hd2,hlo2,hs2,hfin⟩:∃ (v2:Value) (w2:World) (d2:CLoc),(Builtin.append_ #[tb,ts] tb #[v,vy]).run P w1=.ok v2 w2∧(∃a l c,v2=.slice a l c)∧Chg w1 w2 d.has∧(∀x k,d2.has x k→x<w2.heap.size∧(d.has x k∨w.heap.size≤x))∧d2.lo=0∧d2.s=(bs++s).length ∧
  ((d2.size=0∧bs++s=[]∧v2=.slice none 0 0)∨(0<d2.size∧d2.blk≠c.blk∧v2=.slice (some ⟨d2.blk,0,none⟩) (bs++s).length d2.size∧∃arr fr,w2.heap[d2.blk]?=some (.cells arr e fr)∧d2.size=arr.size∧(bs++s).length≤arr.size∧(fr.1=fr.2∨fr.2≤(bs++s).length) ∧
   ∀ (i:Nat) (x:UInt8),(bs++s)[i]?=some x→arr[i]?=some (.int .u8 (x.toNat:Int)))):=by
  have hz2:d.size=0→bs.length=0:=fun hz=>by
   obtain⟨_,_,⟨_,h⟩|⟨h,_⟩⟩:=hD
   ·rw[h];rfl
   ·omega
  rcases hvd with⟨z1,rfl⟩|⟨z1,rfl⟩
  ·have hbs:bs=[]:=List.length_eq_zero_iff.1 (hz2 z1)
   subst hbs
   by_cases hs0:s=[]
   ·subst hs0
    exact⟨_,w1,{ d with s:=(([]:List UInt8)++[]).length },znb ht hu hsz w1 none 0 0 (Nat.le_refl _) (hsl w1 rfl) (hfc w1 rfl),⟨_,_,_,rfl⟩,Chg.refl _ _,fun x k h=>absurd (show k<d.size from h.2.2) (by omega),hD.1,rfl,.inl ⟨z1,rfl,rfl⟩⟩
   ·exact grow none 0 #[] rfl rfl rfl (by have:=List.length_pos_iff.2 hs0;simpa using this)
  ·obtain⟨_,_,⟨h,_⟩|⟨_,arr,fr,q1,q2,q3,q4,q5⟩⟩:=hD
   ·omega
   have q1':w1.heap[d.blk]?=some (.cells arr e fr):=by rw[other _ (hdc z1)];exact q1
   by_cases hin:bs.length+s.length≤d.size
   ·have hun:∀k,bs.length≤k→w1.frozen? ⟨d.blk,k,none⟩=false:=by
     intro k hk
     unfold World.frozen?
     simp only[q1']
     rcases q4 with h|h
     ·simp only[Bool.and_eq_false_iff,decide_eq_false_iff_not];omega
     ·simp only[Bool.and_eq_false_iff,decide_eq_false_iff_not];omega
    obtain⟨w',t1,t2,t3,t4⟩:=ut (P:=P) (vs:=(ul s).toList) (w:=w1) (b:=d.blk) (o:=0+bs.length*1)
     (fun j hj=>by
      simp only[Array.length_toList,kn] at hj
      have hlt:0+bs.length*1+j<arr.size:=by omega
      exact⟨arr[0+bs.length*1+j],by unfold World.cell?;simp[q1']⟩)
     (fun j hj=>hun _ (by omega)) (fun u hu=>by
      simp only[ul,List.mem_map] at hu
      obtain⟨y,_,rfl⟩:=hu;rfl)
    simp only[Array.length_toList,kn] at t2 t4
    obtain⟨arr',g1,g2⟩:=t2.shape _ _ _ _ q1'
    have hdlt:d.blk<w1.heap.size:=by
     rcases Nat.lt_or_ge d.blk w1.heap.size with h|h
     ·exact h
     ·rw[Array.getElem?_eq_none h] at q1';cases q1'
    have cellA:∀k,w'.cell? ⟨d.blk,k,none⟩=arr'[k]?:=fun k=>by unfold World.cell?;simp[g1]
    refine⟨_,w',{ d with s:=(bs++s).length },zmw ht hu hsz w1 w' d.blk bs.length d.size s.length hin (hsl w1 rfl) (hfc w1 rfl) t1,⟨_,_,_,rfl⟩,t2.mono (fun b' k h=>⟨h.1.symm,by omega,by omega⟩),fun x k h=>?_,by assumption,rfl,.inr ⟨z1,hdc z1,by rw[List.length_append],arr',fr,g1,(by show d.size=arr'.size;omega),by rw[List.length_append];omega,?_,fun i x hi=>?_⟩⟩
    ·have hx:d.blk=x:=h.1
     exact⟨by rw[t3];omega,.inl h⟩
    ·rcases q4 with h|h
     ·exact .inl h
     ·exact .inr (by rw[List.length_append];omega)
    ·have hlt:i<bs.length+s.length:=by
      rcases Nat.lt_or_ge i (bs++s).length with h|h
      ·rwa [List.length_append] at h
      ·rw[List.getElem?_eq_none h] at hi;cases hi
     rw[←cellA]
     by_cases hib:i<bs.length
     ·rw[List.getElem?_append_left hib] at hi
      rw[t2.cell d.blk i hdlt (fun h=>by omega)]
      unfold World.cell?
      simp only[q1']
      simpa using q5 i x hi
     ·rw[List.getElem?_append_right (by omega)] at hi
      have:=t4 (i-bs.length) (by omega)
      rw[show 0+bs.length*1+(i-bs.length)=i by omega] at this
      rw[this,Array.getElem?_toList]
      exact Jx _ _ _ hi
   ·refine grow (some ⟨d.blk,0,none⟩) d.size (ul bs) rfl ?_ rfl (by omega)
    have:(Builtin.firstCells 1 bs.length (.slice (some ⟨d.blk,0,none⟩) bs.length d.size))=loadCells ⟨d.blk,0,none⟩ (bs.length*1):=rfl
    rw[this]
    refine zd3 _ _ _ fun j x hx=>?_
    unfold World.cell?
    simp only[q1']
    simpa using q5 j x hx
 have hnd:∀k,¬d.has c.blk k:=fun k h=>hdc (by have:=h.2;have:=hD.1;omega) h.1
 have hw2b:w2.heap[c.blk]?=some (.cells #[.pointer (some ⟨c.blk,0,none⟩),v] T (0,0)):=by
  rw[hC2.block c.blk (by omega) hnd];exact hw1b
 have hw3b:(w2.setCell ⟨c.blk,1,none⟩ v2).heap[c.blk]?=some (.cells #[.pointer (some ⟨c.blk,0,none⟩),v2] T (0,0)):=by rw[Zl hw2b];rfl
 have hsz3:(w2.setCell ⟨c.blk,1,none⟩ v2).heap.size=w2.heap.size:=by simp
 have hCh:Chg w (w2.setCell ⟨c.blk,1,none⟩ v2) (fun x k=>c.has x k∨d.has x k):=
  ((zmh hw1 hheap hlo (by omega) (by simp;omega)).mono (fun _ _ h=>.inl h)).trans
   ((hC2.mono (fun _ _ h=>.inr h)).trans ((zmh (Wrote.setCell w2 ⟨c.blk,1,none⟩ v2) hw2b hlo (by omega) (by simp;omega)).mono (fun _ _ h=>.inl h)))
 obtain⟨r3,r4⟩:=zbf (bs2:=bs++s) (w':=w2.setCell ⟨c.blk,1,none⟩ v2) (d2:=d2) hI hb hg hc hd hCh (fun x k h=>by rw[hsz3];exact hd2 x k h)
  ⟨hlo,hbase,hsize,Nat.lt_succ_self n,_,v2,hw3b,.inr rfl,fun d' hd'=>by
   rw[xz] at hd'
   simp only[Option.some.injEq] at hd'
   subst hd'
   rcases hfin with⟨g1,g2,g3⟩|⟨g1,_,g2,_⟩
   ·exact .inl ⟨g1,g3⟩
   ·exact .inr ⟨g1,by rw[hs2];exact g2⟩⟩
  ⟨hlo2,hs2,by
   rcases hfin with⟨g1,g2,g3⟩|⟨g1,g2,_,arr,fr,g3,g4,g5,g6,g7⟩
   ·exact .inl ⟨g1,g2⟩
   ·exact .inr ⟨g1,arr,fr,by rw[Vh g2];exact g3,g4,g5,g6,g7⟩⟩
 exact⟨v2,w2,_,hrun,hv2,hw2b,r3,r4⟩
theorem zbi{b:Id}{T:TypeId}{g:Id}{vp:Value}{c:CLoc}(hc:β b=some c)(hB:RepB I β n w c (.bld T g))(r1:Rep I β n w (.ptr b 0 0) vp):vp=.pointer (some ⟨c.blk,0,none⟩):=by
 obtain⟨hlo,hbase,_⟩:=hB
 cases r1 with
 |imm _ _ h=>cases h
 |ptr _ _ _ a h1 h2=>rw[h2 c hc,hbase];simp
set_option maxHeartbeats 1000000 in
theorem zl3{f:FuncId}{T e tb ts:TypeId}(hW:BWrite P f T e tb ts){b g:Id}{bs s:List UInt8}{K:AVal→AHeap→Nat→Prop}(hb:H.get b=some (.bld T g))(hg:H.get g=some (.buf e bs))
 (hlen:bs.length+s.length≤140737488355328) (hk:K (.tup [.int .i64 (s.length:Int),.val .nilIface]) (((n,0),.buf e (bs++s))::(H.set b (.bld T (n,0))).del g) (n+1)) :
 ACalls P f [.ptr b 0 0,.str s] H n K:=by
 refine⟨hW.ok,fun I β w vs hI hl hr=>?_⟩
 match vs,hl with
 |[vp,vs'],_=>
 have r1:=hr 0 _ _ rfl rfl
 have r2:=hr 1 _ _ rfl rfl
 rw[r2.str_inv]
 obtain⟨c,hc,hB⟩:=hI.blocks b _ hb
 rw[zbi hc hB r1]
 obtain⟨hlo,hbase,hsize,hgn,p,v,hheap,hp,hv⟩:=hB
 obtain⟨w1,hw1,hw1b,hcalls⟩:∃w1:World,Wrote w w1 c.blk∧w1.heap[c.blk]?=some (.cells #[.pointer (some ⟨c.blk,0,none⟩),v] T (0,0))∧∀v2 w2,(Builtin.append_ #[tb,ts] tb #[v,.string ⟨⟨s⟩⟩]).run P w1=.ok v2 w2→(∃a l c,v2=.slice a l c) →
  w2.heap[c.blk]?=some (.cells #[.pointer (some ⟨c.blk,0,none⟩),v] T (0,0)) →
  Calls P f #[.pointer (some ⟨c.blk,0,none⟩),.string ⟨⟨s⟩⟩] w fun e w'=>e=.returned (.tuple #[.int .i64 (⟨⟨s⟩⟩:ByteArray).size,.nilIface])∧w'=w2.setCell ⟨c.blk,1,none⟩ v2:=by
  rcases hp with rfl|rfl
  ·exact⟨w.setCell ⟨c.blk,0,none⟩ (.pointer (some ⟨c.blk,0,none⟩)),Wrote.setCell w ⟨c.blk,0,none⟩ _,by rw[Zl hheap];rfl,fun v2 w2 h1 h2 h3=>hW.fresh _ _ _ _ _ _ hheap h1 h2 h3⟩
  ·exact⟨w,Wrote.refl w _,hheap,fun v2 w2 h1 h2 h3=>hW.used _ _ _ _ _ _ hheap h1 h2 h3⟩
 obtain⟨v2,w2,β',hrun,hv2,hw2b,r3,r4⟩:=zd2 hW.ht (.inr hW.hu) hW.hz hW.hsz hW.hby hb hg hlen hI hc hheap hw1 hw1b (vy:=.string ⟨⟨s⟩⟩) (fun _ _=>rfl) (fun _ _=>zlx s _)
 refine(hcalls v2 w2 hrun hv2 hw2b).mono ?_
 rintro ee w' ⟨rfl,rfl⟩
 refine⟨_,_,_,_,I,_,rfl,hk,r3,?_,r4⟩
 refine .tup _ _ rfl fun i x u hx hu=>?_
 match i,hx,hu with
 |0,hx,hu=>simp at hx hu;subst hx;subst hu;exact .imm _ _ (.int _ _)
 |1,hx,hu=>simp at hx hu;subst hx;subst hu;exact .imm _ _ (.val _ rfl)
 |i+2,hx,hu=>simp at hx
theorem z04{b m:Nat}{arr:Array Value}{el:TypeId}{fr:Nat×Nat}(h:w.heap[b]?=some (.cells arr el fr))(hm:m≠0) :
 (w.freeze ⟨b,0,none⟩ m).heap[b]?=some (.cells arr el (if fr.1==fr.2 then(0,0+m) else(min fr.1 0,max fr.2 (0+m)))):=by
 unfold World.freeze
 rw[if_neg hm]
 simp[Array.getElem?_modify,h]
theorem uj{b m x:Nat}(hx:x≠b):(w.freeze ⟨b,0,none⟩ m).heap[x]?=w.heap[x]?:=by
 unfold World.freeze
 split
 ·rfl
 ·simp only[Array.getElem?_modify]
  rw[if_neg (fun h=>hx h.symm)]
theorem z1a{b m:Nat}:(w.freeze ⟨b,0,none⟩ m).heap.size=w.heap.size:=by
 unfold World.freeze
 split<;>simp
theorem zhc(hI:Inv I β n H w){g:Id}{e:TypeId}{bs:List UInt8}{d:CLoc}(hg:H.get g=some (.buf e bs))(hd:β g=some d)(hpos:0<d.size)(hbs:bs≠[]) :
 Inv I β n H (w.freeze ⟨d.blk,0,none⟩ bs.length)∧Ext I β n H w I β n H (w.freeze ⟨d.blk,0,none⟩ bs.length):=by
 have hm:bs.length≠0:=fun h=>hbs (List.length_eq_zero_iff.1 h)
 have hgne:H.get g≠none:=by rw[hg];simp
 obtain⟨d',hd',hD⟩:=hI.blocks g _ hg
 rw[hd] at hd'
 simp only[Option.some.injEq] at hd'
 subst hd'
 obtain⟨hlo,hds,⟨h,_⟩|⟨_,arr,fr,q1,q2,q3,q4,q5⟩⟩:=hD
 ·omega
 have self:=z04 q1 hm
 have hcell:∀b k,(w.freeze ⟨d.blk,0,none⟩ bs.length).cell? ⟨b,k,none⟩=w.cell? ⟨b,k,none⟩:=by
  intro b k
  by_cases hb:b=d.blk
  ·subst hb
   unfold World.cell?
   simp only[self,q1]
  ·exact cell?_of_heap (uj hb)
 have hhas:∀k,k<arr.size→d.has d.blk k:=fun k hk=>⟨rfl,by omega,by omega⟩
 have hmap:∀ (b:Nat) (o:Obj),w.heap[b]?=some o→(∀a e f,o≠.cells a e f)→(w.freeze ⟨d.blk,0,none⟩ bs.length).heap[b]?=some o:=by
  intro b o hb hne
  have:b≠d.blk:=by rintro rfl;rw[q1] at hb;simp only[Option.some.injEq] at hb;exact hne _ _ _ hb.symm
  rw[uj this];exact hb
 have hshape:∀ (b:Nat) (a:Array Value) (el:TypeId) (f:Nat×Nat),w.heap[b]?=some (.cells a el f)→∃a' f',(w.freeze ⟨d.blk,0,none⟩ bs.length).heap[b]?=some (.cells a' el f')∧a'.size=a.size∧(f'=f∨(b=d.blk∧a.size=arr.size)):=by
  intro b a el f hb
  by_cases hx:b=d.blk
  ·subst hx
   rw[q1] at hb
   simp only[Option.some.injEq,Obj.cells.injEq] at hb
   obtain⟨rfl,rfl,rfl⟩:=hb
   exact⟨_,_,self,rfl,.inr ⟨rfl,rfl⟩⟩
  ·exact⟨a,f,by rw[uj hx];exact hb,rfl,.inl rfl⟩
 constructor
 ·refine⟨fun id blk hid=>?_,hI.inj,fun i c b k hi hc=>by rw[z1a];exact hI.own i c b k hi hc,fun b k hb=>by rw[hcell];exact hI.imm b k hb,hI.fresh,hI.glob.mono (fun _ _ h=>h) (fun b k _=>by rw[hcell]) (fun b a el f hb=>by obtain⟨a',f',h1,h2,_⟩:=hshape b a el f hb;exact⟨a',f',h1,h2⟩)⟩
  obtain⟨c,hc,hB⟩:=hI.blocks id blk hid
  refine⟨c,hc,?_⟩
  by_cases hgi:id=g
  ·subst hgi
   rw[hd] at hc
   simp only[Option.some.injEq] at hc
   subst hc
   rw[hg] at hid
   simp only[Option.some.injEq] at hid
   subst hid
   refine⟨hlo,hds,.inr ⟨hpos,arr,_,self,q2,q3,?_,q5⟩⟩
   split
   ·exact .inr (by simp)
   ·rename_i hne
    rcases q4 with h|h
    ·exact absurd (by simpa using h) hne
    ·exact .inr (by simp only[Nat.zero_add];omega)
  ·refine hB.mono' (fun _ _ h=>h) (fun b k _=>hcell b k) (Nat.le_refl n) (fun _ _ _ h=>h) (fun a el f h=>?_) (fun b k v _ hv=>by rw[hcell];exact hv) (fun es ck _ h=>hmap _ _ h (fun a e f hx=>by subst hx;cases ck))
   obtain⟨a',f',k1,k2,k3⟩:=hshape _ _ _ _ h
   refine⟨a',f',k1,k2,k3.imp (fun h=>h) fun hx k hk hck=>?_⟩
   refine hgi (hI.inj id g c d c.blk k hc hd hck ?_)
   rw[hx.1]
   exact hhas k (by omega)
 ·have refl:Ext I β n H w I β n H w:=Ext.refl _ _ _ _ _ hI.fresh
  refine⟨?_,?_,?_,by rw[z1a];exact Nat.le_refl _,fun b hb hn=>?_,fun b k v hv _=>by rw[hcell];exact hv,fun b a el f h=>?_,fun b es ck h _=>hmap _ _ h (fun a e f hx=>by subst hx;cases ck),refl.imm,refl.immNew,refl.old,refl.new,refl.dom,refl.le⟩
  ·unfold World.freeze;split<;>rfl
  ·unfold World.freeze;split<;>exact⟨rfl,fun _=>Nat.le_refl _⟩
  ·unfold World.freeze;split<;>rfl
  ·exact uj fun hx=>hn g d 0 hd hgne ⟨hx.symm,by omega,hpos⟩
  ·obtain⟨a',f',k1,k2,k3⟩:=hshape _ _ _ _ h
   refine⟨a',f',k1,k2,k3.imp (fun h=>h) fun hx k hk=>⟨g,d,hd,hgne,?_⟩⟩
   rw[hx.1]
   exact hhas k (by omega)
theorem zq5(hI:Inv I β n H w):Inv I β n H w.drew∧Ext I β n H w I β n H w.drew:=by
 have refl:Ext I β n H w I β n H w:=Ext.refl _ _ _ _ _ hI.fresh
 exact⟨hI.of_heap (show w.drew.heap=w.heap from rfl),⟨rfl,⟨rfl,fun _=>Nat.le_succ _⟩,rfl,Nat.le_refl _,fun _ _ _=>rfl,fun _ _ _ h _=>h,fun _ arr _ fr h=>⟨arr,fr,h,rfl,.inl rfl⟩,fun _ _ _ h _=>h,refl.imm,refl.immNew,refl.old,refl.new,refl.dom,refl.le⟩⟩
theorem zgr{f:FuncId}{T e:TypeId}(hS:BStr P f T e){b g:Id}{bs:List UInt8}{K:AVal→AHeap→Nat→Prop}(hb:H.get b=some (.bld T g))(hg:H.get g=some (.buf e bs))
 (hlen:bs.length≤9223372036854775807) (hk:K (.str bs) H n):ACalls P f [.ptr b 0 0] H n K:=by
 refine⟨hS.ok,fun I β w vs hI hl hr=>?_⟩
 match vs,hl with
 |[vp],_=>
 have r1:=hr 0 _ _ rfl rfl
 obtain⟨c,hc,hB⟩:=hI.blocks b _ hb
 obtain⟨d,hd,hD⟩:=hI.blocks g _ hg
 obtain⟨hlo,hbase,hsize,hgn,p,v,hheap,hp,hv⟩:=hB
 have hds:d.s=bs.length:=hD.2.1
 have hvd:=hv d hd
 rw[hds] at hvd
 obtain⟨a,rfl,ha⟩:∃a,vp=.pointer (some a)∧a=⟨c.blk,0,none⟩:=by
  cases r1 with
  |imm _ _ h=>cases h
  |ptr _ _ _ a h1 h2=>exact⟨a,rfl,by rw[h2 c hc,hbase];simp⟩
 subst ha
 obtain⟨g1,g2⟩:=zq5 hI
 have hre:∀ (l:List UInt8) (w':World),Rep I β n w' (.str l) (.string ⟨l.toArray⟩):=fun l w'=>.imm _ _ (.str l)
 have hz2:d.size=0→bs.length=0:=fun hz=>by
  obtain⟨_,_,⟨_,h⟩|⟨h,_⟩⟩:=hD
  ·rw[h];rfl
  ·omega
 rcases hvd with⟨z1,rfl⟩|⟨z1,rfl⟩
 ·have hbs:bs=[]:=List.length_eq_zero_iff.1 (hz2 z1)
  subst hbs
  refine(hS.nil _ _ _ hheap).mono ?_
  rintro ee w' ⟨rfl,rfl⟩
  exact⟨_,_,_,_,I,β,rfl,hk,g1,hre [] _,g2⟩
 ·by_cases hbs:bs=[]
  ·subst hbs
   refine(hS.zero _ _ _ _ _ hheap (by omega)).mono ?_
   rintro ee w' ⟨rfl,rfl⟩
   exact⟨_,_,_,_,I,β,rfl,hk,g1,hre [] _,g2⟩
  ·obtain⟨_,_,⟨h,_⟩|⟨_,arr,fr,q1,q2,q3,q4,q5⟩⟩:=hD
   ·omega
   refine(hS.full _ _ _ bs _ _ arr fr hheap hbs (by omega) q3 hlen q1 q5).mono ?_
   rintro ee w' ⟨rfl,rfl⟩
   obtain⟨k1,k2⟩:=zhc g1 hg hd z1 hbs
   exact⟨_,_,_,_,I,β,rfl,hk,k1,hre bs _,g2.trans k2⟩
end
end Go.Fx
