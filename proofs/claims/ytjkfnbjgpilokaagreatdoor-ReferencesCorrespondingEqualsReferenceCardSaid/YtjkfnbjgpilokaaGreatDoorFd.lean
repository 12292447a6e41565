/-
  Own framework.
-/
import Derived.Test.YtjkfnbjgpilokaaGreatDoorFc
import Derived.Test.YtjkfnbjgpilokaaGreatDoorFb
import Derived.RangeFuncRecord
import Derived.RangeFuncIn
import Derived.Shelf.Small.Strs
import Derived.Sort.Grow
import Derived.Shelf.Unicode.ValidAny
import Derived.Lib.LaidTab
import Derived.Shelf.Strings.Count
import Derived.Shelf.Strings.Fields
set_option linter.unusedVariables false
set_option linter.unusedSimpArgs false
open Array renaming getElem?_eq_none→pC
open Bool renaming and_eq_true→p4,false_eq_true→pE
open List renaming all_eq_true→p9,getElem?_cons_zero→pB,getElem?_cons_succ→pF,getElem?_eq_none→pH,length_append→pI,getElem?_eq_getElem→pL,getElem?_map→pM,mem_map→pO,getElem?_toArray→pP,mem_cons_of_mem→pQ,mem_of_getElem?→pR,mem_cons_self→pU
open Nat renaming beq→p5,ble→p6,eq_of_beq_eq_true→p7,le_refl→p8,ne_of_beq_eq_false→pG,le_of_ble_eq_true→pJ,lt_or_ge→pT
open Option renaming map_some→pK
open Option.some renaming injEq→p0
open Prod.mk renaming injEq→pA
open Go.Result renaming andThen_ok→pD
open Go.Sem renaming run_bind→pN,run_pure→pS
open Go.World renaming cell?→pV
namespace Go.Fx
open Go
section
variable {P:Program} {I:Nat→Nat→Prop} {β:Id→Option CLoc} {n:Nat} {H:AHeap} {w:World}
structure BWrite(P:Program)(f:FuncId)(T e tb ts:TypeId):Prop where
 ok:Xp P f
 ht:P.underlying tb=some (.slice e)
 hu:P.underlying ts=some .string
 hz:∃zs,x4 P e=some zs
 hsz:x5 P e=some 1
 hby:Ze P e=some 1
 used:∀ (b:Nat) (s:ByteArray) (v v2:Value) (w w2:World),w.heap[b]?=some (.cells #[.pointer (some ⟨b,0,none⟩),v] T (0,0)) →
  (Builtin.append_ #[tb,ts] tb #[v,.string s]).run P w=.ok v2 w2→(∃a l c,v2=.slice a l c)→w2.heap[b]?=some (.cells #[.pointer (some ⟨b,0,none⟩),v] T (0,0)) →
  Calls P f #[.pointer (some ⟨b,0,none⟩),.string s] w fun e w'=>e=.returned (.tuple #[.int .i64 s.size,.nilIface])∧w'=w2.setCell ⟨b,1,none⟩ v2
 fresh:∀ (b:Nat) (s:ByteArray) (v v2:Value) (w w2:World),w.heap[b]?=some (.cells #[.pointer none,v] T (0,0)) →
  (Builtin.append_ #[tb,ts] tb #[v,.string s]).run P (w.setCell ⟨b,0,none⟩ (.pointer (some ⟨b,0,none⟩)))=.ok v2 w2→(∃a l c,v2=.slice a l c)→w2.heap[b]?=some (.cells #[.pointer (some ⟨b,0,none⟩),v] T (0,0)) →
  Calls P f #[.pointer (some ⟨b,0,none⟩),.string s] w fun e w'=>e=.returned (.tuple #[.int .i64 s.size,.nilIface])∧w'=w2.setCell ⟨b,1,none⟩ v2
structure BStr(P:Program)(f:FuncId)(T e:TypeId):Prop where
 ok:Xp P f
 nil:∀ (b:Nat) (p:Value) (w:World),w.heap[b]?=some (.cells #[p,.slice none 0 0] T (0,0)) →
  Calls P f #[.pointer (some ⟨b,0,none⟩)] w fun e w'=>e=.returned (.string ⟨#[]⟩)∧w'=w.drew
 zero:∀ (b g cap:Nat) (p:Value) (w:World),w.heap[b]?=some (.cells #[p,.slice (some ⟨g,0,none⟩) 0 cap] T (0,0))→cap≠0 →
  Calls P f #[.pointer (some ⟨b,0,none⟩)] w fun e w'=>e=.returned (.string ⟨#[]⟩)∧w'=w.drew
 full:∀ (b g cap:Nat) (l:List UInt8) (p:Value) (w:World) (cur:Array Value) (fr:Nat×Nat),w.heap[b]?=some (.cells #[p,.slice (some ⟨g,0,none⟩) l.length cap] T (0,0))→l≠[]→cap≠0→l.length≤cur.size→l.length≤9223372036854775807 →
  w.heap[g]?=some (.cells cur e fr)→(∀ (j:Nat) (x:UInt8),l[j]?=some x→cur[j]?=some (Value.int .u8 (x.toNat:Int))) →
  Calls P f #[.pointer (some ⟨b,0,none⟩)] w fun e w'=>e=.returned (.string ⟨l.toArray⟩)∧w'=w.drew.freeze ⟨g,0,none⟩ l.length
theorem uo{b k:Nat}{arr:Array Value}{el:TypeId}{fr:Nat×Nat}(h:w.heap[b]?=some (.cells arr el fr))(v:Value):(w.setCell ⟨b,k,none⟩ v).heap[b]?=some (.cells (arr.setIfInBounds k v) el fr):=by
 simp[World.setCell,Array.getElem?_modify,h]
theorem Xd{b k x:Nat}(hx:x≠b)(v:Value):(w.setCell ⟨b,k,none⟩ v).heap[x]?=w.heap[x]?:=by
 simp only[World.setCell,Array.getElem?_modify]
 rw[if_neg (fun h=>hx h.symm)]
theorem z3i(hI:Inv I β n H w){w':World}{b g:Id}{T e:TypeId}{bs bs2:List UInt8}{c d d2:CLoc}(hb:H.get b=some (.bld T g))(hg:H.get g=some (.buf e bs))(hc:β b=some c)(hd:β g=some d)
 (hC:Chg w w' (fun x k=>c.has x k∨d.has x k)) (hd2:∀x k,d2.has x k→x<w'.heap.size∧(d.has x k∨w.heap.size≤x))
 (hB1:RepB I (upd (upd β g none) (n,0) (some d2)) (n+1) w' c (.bld T (n,0))) (hB2:RepB I (upd (upd β g none) (n,0) (some d2)) (n+1) w' d2 (.buf e bs2)) :
 Inv I (upd (upd β g none) (n,0) (some d2)) (n+1) (((n,0),.buf e bs2)::(H.set b (.bld T (n,0))).del g) w' ∧
 Ext I β n H w I (upd (upd β g none) (n,0) (some d2)) (n+1) (((n,0),.buf e bs2)::(H.set b (.bld T (n,0))).del g) w':=by
 have hbg:b≠g:=by rintro rfl;rw[hb] at hg;cases hg
 have hbn:=k8 hI hc
 have hgn:=k8 hI hd
 refine jd hI hC (Nat.le_succ n) ?_ (fun _ _ h=>h) (fun _ _ h h'=>absurd h h') ?_ ?_ ?_ ?_ ?_ ?_ ?_
 ·rintro x k (h|h)
  ·exact⟨b,c,hc,by rw[hb];simp,h⟩
  ·exact⟨g,d,hd,by rw[hg];simp,h⟩
 ·intro id hid
  by_cases h:id=g
  ·subst h;exact .inr ⟨by rw[zj _ _ (wa hid),qi],by rw[hg];simp⟩
  ·exact .inl (by rw[zj _ _ (wa hid),zj _ _ h])
 ·intro id q x k hid hq hk
  rcases u3 hq hI.fresh with⟨_,rfl⟩|⟨h,_⟩
  ·obtain⟨h1,h2⟩:=hd2 x k hk
   refine⟨h1,?_⟩
   rcases h2 with h2|h2
   ·exact .inr ⟨g,d,hd,by rw[hg];simp,h2⟩
   ·exact .inl h2
  ·omega
 ·intro id hid
  rw[zj _ _ (fun h=>by subst h;exact absurd hid (Nat.not_succ_le_self n)),zj _ _ (fun h=>by subst h;omega)]
  exact hI.fresh id (by omega)
 ·intro i j q q' x k hi hj hq hq' hj'
  rcases u3 hj hI.fresh with⟨rfl,rfl⟩|⟨h,_⟩
  ·rcases u3 hi hI.fresh with⟨rfl,_⟩|⟨_,h1,h2⟩
   ·rfl
   ·rcases(hd2 x k hq').2 with h|h
    ·exact absurd (hI.inj i g q d x k h2 hd hq h) h1
    ·exact(Yj hI h2 hq h).elim
  ·omega
 ·intro i q x k hi hq h;exact h
 ·intro id hid h
  rw[AHeap.get_cons_other _ _ (wa hid).symm,AHeap.get_del] at h
  split at h
  ·exact absurd rfl h
  ·exact(Y3 id).1 h
 ·intro id blk hid
  by_cases h:(n,0)=id
  ·subst h
   rw[AHeap.get_cons_same] at hid
   simp only[p0] at hid
   subst hid
   exact .inr ⟨d2,qi _ _ _,hB2⟩
  ·rw[AHeap.get_cons_other _ _ h,AHeap.get_del] at hid
   split at hid
   ·cases hid
   ·rename_i hne
    have hβ:upd (upd β g none) (n,0) (some d2) id=β id:=by rw[zj _ _ (fun h'=>h h'.symm),zj _ _ (fun h'=>hne h'.symm)]
    rw[AHeap.get_set] at hid
    by_cases hbi:b=id
    ·subst hbi
     rw[if_pos rfl,hb] at hid
     simp only[pK,p0] at hid
     subst hid
     exact .inr ⟨c,hβ.trans hc,hB1⟩
    ·rw[if_neg hbi] at hid
     refine .inl ⟨hid,hβ,fun q x k hq hk hw=>?_⟩
     rcases hw with hw|hw
     ·exact hbi (hI.inj b id c q x k hc hq hw hk)
     ·exact hne (hI.inj g id d q x k hd hq hw hk)
def jp(l:List UInt8):Array Value:=(l.map fun x=>Value.int .u8 (x.toNat:Int)).toArray
theorem xq(l:List UInt8):(jp l).size=l.length:=by simp[jp]
theorem Y1(l:List UInt8)(i:Nat)(x:UInt8)(h:l[i]?=some x):(jp l)[i]?=some (Value.int .u8 (x.toNat:Int)):=by
 simp only[jp,pP,pM,h];rfl
theorem zcu(s:List UInt8)(w:World):(Builtin.firstCells 1 s.length (.string ⟨⟨s⟩⟩)).run P w=.ok (jp s) w:=by
 have h:(Builtin.firstCells 1 s.length (.string ⟨⟨s⟩⟩))=(pure ((ByteArray.extract ⟨⟨s⟩⟩ 0 s.length).data.map fun b=>Value.int .u8 b.toNat):Sem (Array Value)):=rfl
 rw[h,pS]
 congr 1
 apply Array.toList_inj.1
 have h2:(ByteArray.extract ⟨⟨s⟩⟩ 0 s.length).data=⟨s⟩:=by
  rw[ByteArray.data_extract]
  apply Array.toList_inj.1
  simp
 rw[h2]
 simp[jp]
theorem z9t{t u c rt:TypeId}{z:Nat}(ht:P.underlying t=some (.slice c))(hu:(∃c',P.underlying u=some (.slice c'))∨P.underlying u=some .string)(hsz:x5 P c=some z)(w:World)(base:Option Addr)(len cap:Nat)(h:len≤cap){vy:Value}
 (hly:(Builtin.lenOf vy).run P w=.ok 0 w) (f2:(Builtin.firstCells z 0 vy).run P w=.ok #[] w) :
 (Builtin.append_ #[t,u] rt #[.slice base len cap,vy]).run P w=.ok (.slice base len cap) w:=by
 rcases hu with⟨c2,hu⟩|hu
 ·unfold Builtin.append_
  simp only[pP,pB,pF,pN,zb ht,zb hu,pD,yq hsz,pS,hly,pE,if_false,Bool.not_false,if_true,Nat.add_zero]
  rw[if_pos h]
  simp only[pN,f2,pD]
  cases base<;>simp[storeCells]
 ·unfold Builtin.append_
  simp only[pP,pB,pF,pN,zb ht,zb hu,pD,yq hsz,pS,hly,pE,if_false,Bool.not_false,if_true,Nat.add_zero]
  rw[if_pos h]
  simp only[pN,f2,pD]
  cases base<;>simp[storeCells]
theorem zae{t u c rt:TypeId}{z:Nat}(ht:P.underlying t=some (.slice c))(hu:(∃c',P.underlying u=some (.slice c'))∨P.underlying u=some .string)(hsz:x5 P c=some z)(w w':World)(b len cap m:Nat)(h:len+m≤cap){vy:Value}{a2:Array Value}
 (hly:(Builtin.lenOf vy).run P w=.ok m w) (f2:(Builtin.firstCells z m vy).run P w=.ok a2 w)
 (hst:(storeCells ⟨b,0+len*z,none⟩ a2.toList 0).run P w=.ok () w') :
 (Builtin.append_ #[t,u] rt #[.slice (some ⟨b,0,none⟩) len cap,vy]).run P w=.ok (.slice (some ⟨b,0,none⟩) (len+m) cap) w':=by
 rcases hu with⟨c2,hu⟩|hu
 ·unfold Builtin.append_
  simp only[pP,pB,pF,pN,zb ht,zb hu,pD,yq hsz,pS,hly,pE,if_false,Bool.not_false,if_true]
  rw[if_pos h]
  simp only[pN,f2,pD,qx,hst,pS]
 ·unfold Builtin.append_
  simp only[pP,pB,pF,pN,zb ht,zb hu,pD,yq hsz,pS,hly,pE,if_false,Bool.not_false,if_true]
  rw[if_pos h]
  simp only[pN,f2,pD,qx,hst,pS]
theorem zem(w:World)(b:Nat)(l:List UInt8)(h:∀ (j:Nat) (x:UInt8),l[j]?=some x→w.cell? ⟨b,j,none⟩=some (Value.int .u8 (x.toNat:Int))):(loadCells ⟨b,0,none⟩ (l.length*1)).run P w=.ok (jp l) w:=by
 rw[Nat.mul_one,Z7 (fun j=>Value.int .u8 ((l.getD j 0).toNat:Int)) l.length (fun j hj=>by
  rw[Nat.zero_add];exact h j _ (by rw[List.getD_eq_getElem?_getD,pL hj];rfl))]
 congr 1
 apply Array.toList_inj.1
 simp only[jp]
 apply List.ext_getElem?
 intro j
 simp only[pM]
 by_cases hj:j<l.length
 ·rw[List.getElem?_range hj,pL hj];simp[List.getD_eq_getElem?_getD,pL hj]
 ·rw[pH (by simpa using hj),pH (by omega)];rfl
theorem zca{w w':World}{c:CLoc}{arr:Array Value}{el:TypeId}{fr:Nat×Nat}(h:Wrote w w' c.blk)(hheap:w.heap[c.blk]?=some (.cells arr el fr))(hlo:c.lo=0)(hpos:0<c.size)(hsz:arr.size≤c.size):Chg w w' c.has:=by
 refine⟨h.os,h.tape,h.output,by rw[h.size];exact p8 _,fun b _ hb=>?_,fun b k _ hb=>?_,fun b a e f hb=>?_,fun b es ck hb _=>?_⟩
 ·refine h.other b fun hx=>?_
  subst hx
  exact hb 0 ⟨rfl,by omega,hpos⟩
 ·by_cases hx:b=c.blk
  ·subst hx
   obtain⟨arr',h1,h2⟩:=h.shape _ _ _ hheap
   have hk:c.size≤k:=by
    rcases pT k c.size with h|h
    ·exact absurd ⟨rfl,by omega,h⟩ hb
    ·exact h
   unfold pV
   simp only[hheap,h1]
   rw[pC (by omega),pC (by omega)]
  ·exact cell?_of_heap (h.other b hx)
 ·by_cases hx:b=c.blk
  ·subst hx;exact h.shape _ _ _ hb
  ·exact⟨a,by rw[h.other b hx];exact hb,rfl⟩
 ·by_cases hx:b=c.blk
  ·subst hx;exact h.mapsAt _ ck hb
  ·rw[h.other b hx];exact hb
theorem zf3{T e tb ts:TypeId}{vy:Value}(ht:P.underlying tb=some (.slice e))(hu:(∃c',P.underlying ts=some (.slice c'))∨P.underlying ts=some .string)(hz0:∃zs,x4 P e=some zs)(hsz:x5 P e=some 1)(hby:Ze P e=some 1)
 {b g:Id} {bs s:List UInt8} (hb:H.get b=some (.bld T g)) (hg:H.get g=some (.buf e bs)) (hlen:bs.length+s.length≤140737488355328) (hI:Inv I β n H w) {c:CLoc} (hc:β b=some c) {p v:Value}
 (hheap:w.heap[c.blk]?=some (.cells #[p,v] T (0,0))) {w1:World} (hw1:Wrote w w1 c.blk) (hw1b:w1.heap[c.blk]?=some (.cells #[.pointer (some ⟨c.blk,0,none⟩),v] T (0,0)))
 (hsl:∀wx:World,wx.heap=w1.heap→(Builtin.lenOf vy).run P wx=.ok s.length wx) (hfc:∀wx:World,wx.heap=w1.heap→(Builtin.firstCells 1 s.length vy).run P wx=.ok (jp s) wx) :
 ∃ (v2:Value) (w2:World) (β':Id→Option CLoc),(Builtin.append_ #[tb,ts] tb #[v,vy]).run P w1=.ok v2 w2∧(∃a l c,v2=.slice a l c)∧w2.heap[c.blk]?=some (.cells #[.pointer (some ⟨c.blk,0,none⟩),v] T (0,0)) ∧
  Inv I β' (n+1) (((n,0),.buf e (bs++s))::(H.set b (.bld T (n,0))).del g) (w2.setCell ⟨c.blk,1,none⟩ v2)∧Ext I β n H w I β' (n+1) (((n,0),.buf e (bs++s))::(H.set b (.bld T (n,0))).del g) (w2.setCell ⟨c.blk,1,none⟩ v2):=by
 obtain⟨c',hc',hB⟩:=hI.blocks b _ hb
 rw[hc] at hc'
 simp only[p0] at hc'
 subst hc'
 obtain⟨d,hd,hD⟩:=hI.blocks g _ hg
 obtain⟨hlo,hbase,hsize,hgn,p',v',hheap',hp,hv⟩:=hB
 rw[hheap] at hheap'
 simp only[p0,Obj.cells.injEq,and_true] at hheap'
 obtain⟨rfl,rfl⟩:p=p'∧v=v':=by simpa using hheap'
 have hds:d.s=bs.length:=hD.2.1
 have hvd:=hv d hd
 rw[hds] at hvd
 have hbg:b≠g:=by rintro rfl;rw[hb] at hg;cases hg
 have hblt:c.blk<w.heap.size:=by
  rcases pT c.blk w.heap.size with h|h
  ·exact h
  ·rw[pC h] at hheap;cases hheap
 have other:∀x,x≠c.blk→w1.heap[x]?=w.heap[x]?:=hw1.other
 have hdc:0<d.size→d.blk≠c.blk:=by
  intro hp0 h
  have hdlo:d.lo=0:=hD.1
  exact hbg (hI.inj b g c d c.blk 0 hc hd ⟨rfl,by omega,by omega⟩ ⟨h,by omega,hp0⟩)
 -- what is appended
 obtain⟨zs,hz⟩:=hz0
 have hwsz:w1.heap.size=w.heap.size:=hw1.size
 have grow:∀ (base:Option Addr) (cap:Nat) (a1:Array Value),v=.slice base bs.length cap→(Builtin.firstCells 1 bs.length (.slice base bs.length cap)).run P { w1 with drawn:=w1.drawn+1 }=.ok a1 { w1 with drawn:=w1.drawn+1 }→a1=jp bs→cap<bs.length+s.length →
  ∃ (v2:Value) (w2:World) (d2:CLoc),(Builtin.append_ #[tb,ts] tb #[v,vy]).run P w1=.ok v2 w2∧(∃a l c,v2=.slice a l c)∧Chg w1 w2 d.has∧(∀x k,d2.has x k→x<w2.heap.size∧(d.has x k∨w.heap.size≤x))∧d2.lo=0∧d2.s=(bs++s).length ∧
   ((d2.size=0∧bs++s=[]∧v2=.slice none 0 0)∨(0<d2.size∧d2.blk≠c.blk∧v2=.slice (some ⟨d2.blk,0,none⟩) (bs++s).length d2.size∧∃arr fr,w2.heap[d2.blk]?=some (.cells arr e fr)∧d2.size=arr.size∧(bs++s).length≤arr.size∧(fr.1=fr.2∨fr.2≤(bs++s).length) ∧
    ∀ (i:Nat) (x:UInt8),(bs++s)[i]?=some x→arr[i]?=some (.int .u8 (x.toNat:Int)))):=by
  intro base cap a1 hv1 hf1 ha1 hcap
  subst hv1
  subst ha1
  obtain⟨m,w',a3,k1,k2,k3,k4⟩:=z04 (P:=P) (rt:=tb) (w:=w1) ht hu hz hsz hby Nat.one_pos (wd:={ w1 with drawn:=w1.drawn+1 }) rfl (hsl w1 rfl) hf1 (hfc _ rfl) hcap (by omega) (by simp[xq]) (by simp[xq])
  have hsz':w'.heap.size=w1.heap.size+1:=by rw[k3.heap];simp
  refine⟨_,w',⟨w1.heap.size,0,m,0,(bs++s).length⟩,k1,⟨_,_,_,rfl⟩,k3.chg.mono (fun _ _ h=>h.elim),fun x k h=>?_,rfl,rfl,.inr ⟨by simp only;omega,by simp only;omega,by rw[pI],_,_,k3.new,by rw[k4];simp,by rw[k4,pI];omega,.inl rfl,fun i x hi=>?_⟩⟩
  ·have hx:w1.heap.size=x:=h.1
   exact⟨by omega,.inr (by omega)⟩
  ·have hlt:i<bs.length+s.length:=by
    rcases pT i (bs++s).length with h|h
    ·rwa [pI] at h
    ·rw[pH h] at hi;cases hi
   rw[Array.getElem?_append_left (by simp only[Array.size_append,xq];exact hlt)]
   by_cases hib:i<bs.length
   ·rw[Array.getElem?_append_left (by rw[xq];exact hib)]
    rw[List.getElem?_append_left hib] at hi
    exact Y1 _ _ _ hi
   ·rw[Array.getElem?_append_right (by rw[xq];omega),xq]
    rw[List.getElem?_append_right (by omega)] at hi
    exact Y1 _ _ _ hi
 obtain⟨v2,w2,d2,hrun,hv2,hC2,hd2,hlo2,hs2,hfin⟩:∃ (v2:Value) (w2:World) (d2:CLoc),(Builtin.append_ #[tb,ts] tb #[v,vy]).run P w1=.ok v2 w2∧(∃a l c,v2=.slice a l c)∧Chg w1 w2 d.has∧(∀x k,d2.has x k→x<w2.heap.size∧(d.has x k∨w.heap.size≤x))∧d2.lo=0∧d2.s=(bs++s).length ∧
  ((d2.size=0∧bs++s=[]∧v2=.slice none 0 0)∨(0<d2.size∧d2.blk≠c.blk∧v2=.slice (some ⟨d2.blk,0,none⟩) (bs++s).length d2.size∧∃arr fr,w2.heap[d2.blk]?=some (.cells arr e fr)∧d2.size=arr.size∧(bs++s).length≤arr.size∧(fr.1=fr.2∨fr.2≤(bs++s).length) ∧
   ∀ (i:Nat) (x:UInt8),(bs++s)[i]?=some x→arr[i]?=some (.int .u8 (x.toNat:Int)))):=by
  have hz2:d.size=0→bs.length=0:=fun hz=>by
   obtain⟨_,_,⟨_,h⟩|⟨h,_⟩⟩:=hD
   ·rw[h];rfl
   ·omega
  rcases hvd with⟨z1,rfl⟩|⟨z1,rfl⟩
  ·have hbs:bs=[]:=List.length_eq_zero_iff.1 (hz2 z1)
   subst hbs
   by_cases hs0:s=[]
   ·subst hs0
    exact⟨_,w1,{ d with s:=(([]:List UInt8)++[]).length },z9t ht hu hsz w1 none 0 0 (p8 _) (hsl w1 rfl) (hfc w1 rfl),⟨_,_,_,rfl⟩,Chg.refl _ _,fun x k h=>absurd (show k<d.size from h.2.2) (by omega),hD.1,rfl,.inl ⟨z1,rfl,rfl⟩⟩
   ·exact grow none 0 #[] rfl rfl rfl (by have:=List.length_pos_iff.2 hs0;simpa using this)
  ·obtain⟨_,_,⟨h,_⟩|⟨_,arr,fr,q1,q2,q3,q4,q5⟩⟩:=hD
   ·omega
   have q1':w1.heap[d.blk]?=some (.cells arr e fr):=by rw[other _ (hdc z1)];exact q1
   by_cases hin:bs.length+s.length≤d.size
   ·have hun:∀k,bs.length≤k→w1.frozen? ⟨d.blk,k,none⟩=false:=by
     intro k hk
     unfold World.frozen?
     simp only[q1']
     rcases q4 with h|h
     ·simp only[Bool.and_eq_false_iff,decide_eq_false_iff_not];omega
     ·simp only[Bool.and_eq_false_iff,decide_eq_false_iff_not];omega
    obtain⟨w',t1,t2,t3,t4⟩:=js (P:=P) (vs:=(jp s).toList) (w:=w1) (b:=d.blk) (o:=0+bs.length*1)
     (fun j hj=>by
      simp only[Array.length_toList,xq] at hj
      have hlt:0+bs.length*1+j<arr.size:=by omega
      exact⟨arr[0+bs.length*1+j],by unfold pV;simp[q1']⟩)
     (fun j hj=>hun _ (by omega)) (fun u hu=>by
      simp only[jp,pO] at hu
      obtain⟨y,_,rfl⟩:=hu;rfl)
    simp only[Array.length_toList,xq] at t2 t4
    obtain⟨arr',g1,g2⟩:=t2.shape _ _ _ _ q1'
    have hdlt:d.blk<w1.heap.size:=by
     rcases pT d.blk w1.heap.size with h|h
     ·exact h
     ·rw[pC h] at q1';cases q1'
    have cellA:∀k,w'.cell? ⟨d.blk,k,none⟩=arr'[k]?:=fun k=>by unfold pV;simp[g1]
    refine⟨_,w',{ d with s:=(bs++s).length },zae ht hu hsz w1 w' d.blk bs.length d.size s.length hin (hsl w1 rfl) (hfc w1 rfl) t1,⟨_,_,_,rfl⟩,t2.mono (fun b' k h=>⟨h.1.symm,by omega,by omega⟩),fun x k h=>?_,by assumption,rfl,.inr ⟨z1,hdc z1,by rw[pI],arr',fr,g1,(by show d.size=arr'.size;omega),by rw[pI];omega,?_,fun i x hi=>?_⟩⟩
    ·have hx:d.blk=x:=h.1
     exact⟨by rw[t3];omega,.inl h⟩
    ·rcases q4 with h|h
     ·exact .inl h
     ·exact .inr (by rw[pI];omega)
    ·have hlt:i<bs.length+s.length:=by
      rcases pT i (bs++s).length with h|h
      ·rwa [pI] at h
      ·rw[pH h] at hi;cases hi
     rw[←cellA]
     by_cases hib:i<bs.length
     ·rw[List.getElem?_append_left hib] at hi
      rw[t2.cell d.blk i hdlt (fun h=>by omega)]
      unfold pV
      simp only[q1']
      simpa using q5 i x hi
     ·rw[List.getElem?_append_right (by omega)] at hi
      have:=t4 (i-bs.length) (by omega)
      rw[show 0+bs.length*1+(i-bs.length)=i by omega] at this
      rw[this,Array.getElem?_toList]
      exact Y1 _ _ _ hi
   ·refine grow (some ⟨d.blk,0,none⟩) d.size (jp bs) rfl ?_ rfl (by omega)
    have:(Builtin.firstCells 1 bs.length (.slice (some ⟨d.blk,0,none⟩) bs.length d.size))=loadCells ⟨d.blk,0,none⟩ (bs.length*1):=rfl
    rw[this]
    refine zem _ _ _ fun j x hx=>?_
    unfold pV
    simp only[q1']
    simpa using q5 j x hx
 have hnd:∀k,¬d.has c.blk k:=fun k h=>hdc (by have:=h.2;have:=hD.1;omega) h.1
 have hw2b:w2.heap[c.blk]?=some (.cells #[.pointer (some ⟨c.blk,0,none⟩),v] T (0,0)):=by
  rw[hC2.block c.blk (by omega) hnd];exact hw1b
 have hw3b:(w2.setCell ⟨c.blk,1,none⟩ v2).heap[c.blk]?=some (.cells #[.pointer (some ⟨c.blk,0,none⟩),v2] T (0,0)):=by rw[uo hw2b];rfl
 have hsz3:(w2.setCell ⟨c.blk,1,none⟩ v2).heap.size=w2.heap.size:=by simp
 have hCh:Chg w (w2.setCell ⟨c.blk,1,none⟩ v2) (fun x k=>c.has x k∨d.has x k):=
  ((zca hw1 hheap hlo (by omega) (by simp;omega)).mono (fun _ _ h=>.inl h)).trans
   ((hC2.mono (fun _ _ h=>.inr h)).trans ((zca (Wrote.setCell w2 ⟨c.blk,1,none⟩ v2) hw2b hlo (by omega) (by simp;omega)).mono (fun _ _ h=>.inl h)))
 obtain⟨r3,r4⟩:=z3i (bs2:=bs++s) (w':=w2.setCell ⟨c.blk,1,none⟩ v2) (d2:=d2) hI hb hg hc hd hCh (fun x k h=>by rw[hsz3];exact hd2 x k h)
  ⟨hlo,hbase,hsize,Nat.lt_succ_self n,_,v2,hw3b,.inr rfl,fun d' hd'=>by
   rw[qi] at hd'
   simp only[p0] at hd'
   subst hd'
   rcases hfin with⟨g1,g2,g3⟩|⟨g1,_,g2,_⟩
   ·exact .inl ⟨g1,g3⟩
   ·exact .inr ⟨g1,by rw[hs2];exact g2⟩⟩
  ⟨hlo2,hs2,by
   rcases hfin with⟨g1,g2,g3⟩|⟨g1,g2,_,arr,fr,g3,g4,g5,g6,g7⟩
   ·exact .inl ⟨g1,g2⟩
   ·exact .inr ⟨g1,arr,fr,by rw[Xd g2];exact g3,g4,g5,g6,g7⟩⟩
 exact⟨v2,w2,_,hrun,hv2,hw2b,r3,r4⟩
theorem zh3{b:Id}{T:TypeId}{g:Id}{vp:Value}{c:CLoc}(hc:β b=some c)(hB:RepB I β n w c (.bld T g))(r1:Rep I β n w (.ptr b 0 0) vp):vp=.pointer (some ⟨c.blk,0,none⟩):=by
 obtain⟨hlo,hbase,_⟩:=hB
 cases r1 with
 |imm _ _ h=>cases h
 |ptr _ _ _ a h1 h2=>rw[h2 c hc,hbase];simp
set_option maxHeartbeats 1000000 in
theorem zac{f:FuncId}{T e tb ts:TypeId}(hW:BWrite P f T e tb ts){b g:Id}{bs s:List UInt8}{K:AVal→AHeap→Nat→Prop}(hb:H.get b=some (.bld T g))(hg:H.get g=some (.buf e bs))
 (hlen:bs.length+s.length≤140737488355328) (hk:K (.tup [.int .i64 (s.length:Int),.val .nilIface]) (((n,0),.buf e (bs++s))::(H.set b (.bld T (n,0))).del g) (n+1)) :
 ACalls P f [.ptr b 0 0,.str s] H n K:=by
 refine⟨hW.ok,fun I β w vs hI hl hr=>?_⟩
 match vs,hl with
 |[vp,vs'],_=>
 have r1:=hr 0 _ _ rfl rfl
 have r2:=hr 1 _ _ rfl rfl
 rw[r2.str_inv]
 obtain⟨c,hc,hB⟩:=hI.blocks b _ hb
 rw[zh3 hc hB r1]
 obtain⟨hlo,hbase,hsize,hgn,p,v,hheap,hp,hv⟩:=hB
 obtain⟨w1,hw1,hw1b,hcalls⟩:∃w1:World,Wrote w w1 c.blk∧w1.heap[c.blk]?=some (.cells #[.pointer (some ⟨c.blk,0,none⟩),v] T (0,0))∧∀v2 w2,(Builtin.append_ #[tb,ts] tb #[v,.string ⟨⟨s⟩⟩]).run P w1=.ok v2 w2→(∃a l c,v2=.slice a l c) →
  w2.heap[c.blk]?=some (.cells #[.pointer (some ⟨c.blk,0,none⟩),v] T (0,0)) →
  Calls P f #[.pointer (some ⟨c.blk,0,none⟩),.string ⟨⟨s⟩⟩] w fun e w'=>e=.returned (.tuple #[.int .i64 (⟨⟨s⟩⟩:ByteArray).size,.nilIface])∧w'=w2.setCell ⟨c.blk,1,none⟩ v2:=by
  rcases hp with rfl|rfl
  ·exact⟨w.setCell ⟨c.blk,0,none⟩ (.pointer (some ⟨c.blk,0,none⟩)),Wrote.setCell w ⟨c.blk,0,none⟩ _,by rw[uo hheap];rfl,fun v2 w2 h1 h2 h3=>hW.fresh _ _ _ _ _ _ hheap h1 h2 h3⟩
  ·exact⟨w,Wrote.refl w _,hheap,fun v2 w2 h1 h2 h3=>hW.used _ _ _ _ _ _ hheap h1 h2 h3⟩
 obtain⟨v2,w2,β',hrun,hv2,hw2b,r3,r4⟩:=zf3 hW.ht (.inr hW.hu) hW.hz hW.hsz hW.hby hb hg hlen hI hc hheap hw1 hw1b (vy:=.string ⟨⟨s⟩⟩) (fun _ _=>rfl) (fun _ _=>zcu s _)
 refine(hcalls v2 w2 hrun hv2 hw2b).mono ?_
 rintro ee w' ⟨rfl,rfl⟩
 refine⟨_,_,_,_,I,_,rfl,hk,r3,?_,r4⟩
 refine .tup _ _ rfl fun i x u hx hu=>?_
 match i,hx,hu with
 |0,hx,hu=>simp at hx hu;subst hx;subst hu;exact .imm _ _ (.int _ _)
 |1,hx,hu=>simp at hx hu;subst hx;subst hu;exact .imm _ _ (.val _ rfl)
 |i+2,hx,hu=>simp at hx
theorem Jy{b m:Nat}{arr:Array Value}{el:TypeId}{fr:Nat×Nat}(h:w.heap[b]?=some (.cells arr el fr))(hm:m≠0) :
 (w.freeze ⟨b,0,none⟩ m).heap[b]?=some (.cells arr el (if fr.1==fr.2 then(0,0+m) else(min fr.1 0,max fr.2 (0+m)))):=by
 unfold World.freeze
 rw[if_neg hm]
 simp[Array.getElem?_modify,h]
theorem jo{b m x:Nat}(hx:x≠b):(w.freeze ⟨b,0,none⟩ m).heap[x]?=w.heap[x]?:=by
 unfold World.freeze
 split
 ·rfl
 ·simp only[Array.getElem?_modify]
  rw[if_neg (fun h=>hx h.symm)]
theorem Vp{b m:Nat}:(w.freeze ⟨b,0,none⟩ m).heap.size=w.heap.size:=by
 unfold World.freeze
 split<;>simp
theorem z7f(hI:Inv I β n H w){g:Id}{e:TypeId}{bs:List UInt8}{d:CLoc}(hg:H.get g=some (.buf e bs))(hd:β g=some d)(hpos:0<d.size)(hbs:bs≠[]) :
 Inv I β n H (w.freeze ⟨d.blk,0,none⟩ bs.length)∧Ext I β n H w I β n H (w.freeze ⟨d.blk,0,none⟩ bs.length):=by
 have hm:bs.length≠0:=fun h=>hbs (List.length_eq_zero_iff.1 h)
 have hgne:H.get g≠none:=by rw[hg];simp
 obtain⟨d',hd',hD⟩:=hI.blocks g _ hg
 rw[hd] at hd'
 simp only[p0] at hd'
 subst hd'
 obtain⟨hlo,hds,⟨h,_⟩|⟨_,arr,fr,q1,q2,q3,q4,q5⟩⟩:=hD
 ·omega
 have self:=Jy q1 hm
 have hcell:∀b k,(w.freeze ⟨d.blk,0,none⟩ bs.length).cell? ⟨b,k,none⟩=w.cell? ⟨b,k,none⟩:=by
  intro b k
  by_cases hb:b=d.blk
  ·subst hb
   unfold pV
   simp only[self,q1]
  ·exact cell?_of_heap (jo hb)
 have hhas:∀k,k<arr.size→d.has d.blk k:=fun k hk=>⟨rfl,by omega,by omega⟩
 have hmap:∀ (b:Nat) (o:Obj),w.heap[b]?=some o→(∀a e f,o≠.cells a e f)→(w.freeze ⟨d.blk,0,none⟩ bs.length).heap[b]?=some o:=by
  intro b o hb hne
  have:b≠d.blk:=by rintro rfl;rw[q1] at hb;simp only[p0] at hb;exact hne _ _ _ hb.symm
  rw[jo this];exact hb
 have hshape:∀ (b:Nat) (a:Array Value) (el:TypeId) (f:Nat×Nat),w.heap[b]?=some (.cells a el f)→∃a' f',(w.freeze ⟨d.blk,0,none⟩ bs.length).heap[b]?=some (.cells a' el f')∧a'.size=a.size∧(f'=f∨(b=d.blk∧a.size=arr.size)):=by
  intro b a el f hb
  by_cases hx:b=d.blk
  ·subst hx
   rw[q1] at hb
   simp only[p0,Obj.cells.injEq] at hb
   obtain⟨rfl,rfl,rfl⟩:=hb
   exact⟨_,_,self,rfl,.inr ⟨rfl,rfl⟩⟩
  ·exact⟨a,f,by rw[jo hx];exact hb,rfl,.inl rfl⟩
 constructor
 ·refine⟨fun id blk hid=>?_,hI.inj,fun i c b k hi hc=>by rw[Vp];exact hI.own i c b k hi hc,fun b k hb=>by rw[hcell];exact hI.imm b k hb,hI.fresh,hI.glob.mono (fun _ _ h=>h) (fun b k _=>by rw[hcell]) (fun b a el f hb=>by obtain⟨a',f',h1,h2,_⟩:=hshape b a el f hb;exact⟨a',f',h1,h2⟩)⟩
  obtain⟨c,hc,hB⟩:=hI.blocks id blk hid
  refine⟨c,hc,?_⟩
  by_cases hgi:id=g
  ·subst hgi
   rw[hd] at hc
   simp only[p0] at hc
   subst hc
   rw[hg] at hid
   simp only[p0] at hid
   subst hid
   refine⟨hlo,hds,.inr ⟨hpos,arr,_,self,q2,q3,?_,q5⟩⟩
   split
   ·exact .inr (by simp)
   ·rename_i hne
    rcases q4 with h|h
    ·exact absurd (by simpa using h) hne
    ·exact .inr (by simp only[Nat.zero_add];omega)
  ·refine hB.mono' (fun _ _ h=>h) (fun b k _=>hcell b k) (p8 n) (fun _ _ _ h=>h) (fun a el f h=>?_) (fun b k v _ hv=>by rw[hcell];exact hv) (fun es ck _ h=>hmap _ _ h (fun a e f hx=>by subst hx;cases ck))
   obtain⟨a',f',k1,k2,k3⟩:=hshape _ _ _ _ h
   refine⟨a',f',k1,k2,k3.imp (fun h=>h) fun hx k hk hck=>?_⟩
   refine hgi (hI.inj id g c d c.blk k hc hd hck ?_)
   rw[hx.1]
   exact hhas k (by omega)
 ·have refl:Ext I β n H w I β n H w:=Ext.refl _ _ _ _ _ hI.fresh
  refine⟨?_,?_,?_,by rw[Vp];exact p8 _,fun b hb hn=>?_,fun b k v hv _=>by rw[hcell];exact hv,fun b a el f h=>?_,fun b es ck h _=>hmap _ _ h (fun a e f hx=>by subst hx;cases ck),refl.imm,refl.immNew,refl.old,refl.new,refl.dom,refl.le⟩
  ·unfold World.freeze;split<;>rfl
  ·unfold World.freeze;split<;>exact⟨rfl,fun _=>p8 _⟩
  ·unfold World.freeze;split<;>rfl
  ·exact jo fun hx=>hn g d 0 hd hgne ⟨hx.symm,by omega,hpos⟩
  ·obtain⟨a',f',k1,k2,k3⟩:=hshape _ _ _ _ h
   refine⟨a',f',k1,k2,k3.imp (fun h=>h) fun hx k hk=>⟨g,d,hd,hgne,?_⟩⟩
   rw[hx.1]
   exact hhas k (by omega)
theorem ze3(hI:Inv I β n H w):Inv I β n H w.drew∧Ext I β n H w I β n H w.drew:=by
 have refl:Ext I β n H w I β n H w:=Ext.refl _ _ _ _ _ hI.fresh
 exact⟨hI.of_heap (show w.drew.heap=w.heap from rfl),⟨rfl,⟨rfl,fun _=>Nat.le_succ _⟩,rfl,p8 _,fun _ _ _=>rfl,fun _ _ _ h _=>h,fun _ arr _ fr h=>⟨arr,fr,h,rfl,.inl rfl⟩,fun _ _ _ h _=>h,refl.imm,refl.immNew,refl.old,refl.new,refl.dom,refl.le⟩⟩
theorem z87{f:FuncId}{T e:TypeId}(hS:BStr P f T e){b g:Id}{bs:List UInt8}{K:AVal→AHeap→Nat→Prop}(hb:H.get b=some (.bld T g))(hg:H.get g=some (.buf e bs))
 (hlen:bs.length≤9223372036854775807) (hk:K (.str bs) H n):ACalls P f [.ptr b 0 0] H n K:=by
 refine⟨hS.ok,fun I β w vs hI hl hr=>?_⟩
 match vs,hl with
 |[vp],_=>
 have r1:=hr 0 _ _ rfl rfl
 obtain⟨c,hc,hB⟩:=hI.blocks b _ hb
 obtain⟨d,hd,hD⟩:=hI.blocks g _ hg
 obtain⟨hlo,hbase,hsize,hgn,p,v,hheap,hp,hv⟩:=hB
 have hds:d.s=bs.length:=hD.2.1
 have hvd:=hv d hd
 rw[hds] at hvd
 obtain⟨a,rfl,ha⟩:∃a,vp=.pointer (some a)∧a=⟨c.blk,0,none⟩:=by
  cases r1 with
  |imm _ _ h=>cases h
  |ptr _ _ _ a h1 h2=>exact⟨a,rfl,by rw[h2 c hc,hbase];simp⟩
 subst ha
 obtain⟨g1,g2⟩:=ze3 hI
 have hre:∀ (l:List UInt8) (w':World),Rep I β n w' (.str l) (.string ⟨l.toArray⟩):=fun l w'=>.imm _ _ (.str l)
 have hz2:d.size=0→bs.length=0:=fun hz=>by
  obtain⟨_,_,⟨_,h⟩|⟨h,_⟩⟩:=hD
  ·rw[h];rfl
  ·omega
 rcases hvd with⟨z1,rfl⟩|⟨z1,rfl⟩
 ·have hbs:bs=[]:=List.length_eq_zero_iff.1 (hz2 z1)
  subst hbs
  refine(hS.nil _ _ _ hheap).mono ?_
  rintro ee w' ⟨rfl,rfl⟩
  exact⟨_,_,_,_,I,β,rfl,hk,g1,hre [] _,g2⟩
 ·by_cases hbs:bs=[]
  ·subst hbs
   refine(hS.zero _ _ _ _ _ hheap (by omega)).mono ?_
   rintro ee w' ⟨rfl,rfl⟩
   exact⟨_,_,_,_,I,β,rfl,hk,g1,hre [] _,g2⟩
  ·obtain⟨_,_,⟨h,_⟩|⟨_,arr,fr,q1,q2,q3,q4,q5⟩⟩:=hD
   ·omega
   refine(hS.full _ _ _ bs _ _ arr fr hheap hbs (by omega) q3 hlen q1 q5).mono ?_
   rintro ee w' ⟨rfl,rfl⟩
   obtain⟨k1,k2⟩:=z7f g1 hg hd z1 hbs
   exact⟨_,_,_,_,I,β,rfl,hk,k1,hre bs _,g2.trans k2⟩
end
end Go.Fx
namespace Go.Fx
variable {P:Program} {I:Nat→Nat→Prop} {β:Id→Option CLoc} {n:Nat} {H:AHeap} {w:World}
structure BByte(P:Program)(f:FuncId)(T e tb:TypeId):Prop where
 ok:Xp P f
 ht:P.underlying tb=some (.slice e)
 hz:∃zs,x4 P e=some zs
 hsz:x5 P e=some 1
 hby:Ze P e=some 1
 used:∀ (b:Nat) (c:Int) (v v2:Value) (w w2:World),w.heap[b]?=some (.cells #[.pointer (some ⟨b,0,none⟩),v] T (0,0)) →
  (Builtin.append_ #[tb,tb] tb #[v,.slice (some ⟨w.heap.size,0,none⟩) 1 1]).run P (w.alloc (.cells #[.int .u8 c] e))=.ok v2 w2→(∃a l c,v2=.slice a l c)→w2.heap[b]?=some (.cells #[.pointer (some ⟨b,0,none⟩),v] T (0,0)) →
  Calls P f #[.pointer (some ⟨b,0,none⟩),.int .u8 c] w fun e w'=>e=.returned .nilIface∧w'=w2.setCell ⟨b,1,none⟩ v2
 fresh:∀ (b:Nat) (c:Int) (v v2:Value) (w w2:World),w.heap[b]?=some (.cells #[.pointer none,v] T (0,0)) →
  (Builtin.append_ #[tb,tb] tb #[v,.slice (some ⟨w.heap.size,0,none⟩) 1 1]).run P ((w.setCell ⟨b,0,none⟩ (.pointer (some ⟨b,0,none⟩))).alloc (.cells #[.int .u8 c] e))=.ok v2 w2→(∃a l c,v2=.slice a l c)→w2.heap[b]?=some (.cells #[.pointer (some ⟨b,0,none⟩),v] T (0,0)) →
  Calls P f #[.pointer (some ⟨b,0,none⟩),.int .u8 c] w fun e w'=>e=.returned .nilIface∧w'=w2.setCell ⟨b,1,none⟩ v2
structure BLen(P:Program)(f:FuncId)(T:TypeId):Prop where
 ok:Xp P f
 run:∀ (b l cp:Nat) (p:Value) (a:Option Addr) (w:World),w.heap[b]?=some (.cells #[p,.slice a l cp] T (0,0))→Calls P f #[.pointer (some ⟨b,0,none⟩)] w fun e w'=>e=.returned (.int .i64 (l:Int))∧w'=w
end Go.Fx
namespace Go.Fx
section
variable {P:Program} {I:Nat→Nat→Prop} {β:Id→Option CLoc} {n:Nat} {H:AHeap} {w:World}
theorem z7i(hI:Inv I β n H w){r:Loop}{e:Env}(hE:∀t,Rep I β n w (Env.get e t) (r.tmps.getD t undef)) :
 Inv I (upd β (n,0) (some ⟨w.heap.size,0,1,0,0⟩)) (n+1) (((n,0),.lrec w.heap.size r e)::H) (w.alloc (.loop r))∧Ext I β n H w I (upd β (n,0) (some ⟨w.heap.size,0,1,0,0⟩)) (n+1) (((n,0),.lrec w.heap.size r e)::H) (w.alloc (.loop r)):=by
 have hp:Pushed w (w.alloc (.loop r)) (.loop r):=⟨rfl,⟨rfl,fun _=>p8 _⟩,rfl,rfl⟩
 have hsz:(w.alloc (.loop r)).heap.size=w.heap.size+1:=by rw[hp.heap];simp
 have hfr:∀id:Id,n≤id.1→β id=none:=hI.fresh
 have hcI:∀b k,I b k→(w.alloc (.loop r)).cell? ⟨b,k,none⟩=w.cell? ⟨b,k,none⟩:=fun b k hb=>by
  obtain⟨v,hv⟩:=hI.imm b k hb
  exact hp.chg.cell b k (jn hv) (fun h=>h.elim)
 refine jd hI hp.chg (Nat.le_succ n) (fun _ _ h=>h.elim) (fun _ _ h=>h) (fun _ _ h h'=>absurd h h') (fun id hid=>.inl (zj _ _ (wa hid))) ?_ ?_ ?_ (fun _ _ _ _ _ _ h=>h) ?_ ?_
 ·intro id c b k hid hc hk
  rcases xh hc hI.fresh with⟨_,rfl⟩|⟨h,_⟩
  ·have hb:w.heap.size=b:=hk.1
   exact⟨by omega,.inl (by omega)⟩
  ·omega
 ·intro id hid
  rw[zj _ _ (fun h=>by subst h;exact absurd hid (Nat.not_succ_le_self n))]
  exact hI.fresh id (by omega)
 ·intro i j c d b k hi hj hc hd hj'
  rcases xh hj hI.fresh with⟨rfl,rfl⟩|⟨h,_⟩
  ·rcases xh hi hI.fresh with⟨rfl,_⟩|⟨_,h⟩
   ·rfl
   ·exact(Yj hI h hc (by rw[←hd.1];exact p8 _)).elim
  ·omega
 ·intro id hid hg
  rwa [AHeap.get_cons_other _ _ (wa hid).symm] at hg
 ·intro id blk hid
  by_cases h:(n,0)=id
  ·subst h
   rw[AHeap.get_cons_same] at hid
   simp only[p0] at hid
   subst hid
   refine .inr ⟨⟨w.heap.size,0,1,0,0⟩,qi _ _ _,rfl,Nat.one_pos,rfl,hp.new,fun t=>(hE t).mono' (fun _ _ h=>h) hcI (Nat.le_succ n) (fun id c hid h=>?_)⟩
   rwa [zj _ _ (wa hid)] at h
  ·rw[AHeap.get_cons_other _ _ h] at hid
   exact .inl ⟨hid,zj _ _ (fun h'=>h h'.symm),fun _ _ _ _ _ h=>h⟩
theorem V7(hI:Inv I β n H w){k:Id}{l:Nat}{r r':Loop}{e:Env}(hk:H.get k=some (.lrec l r e))(ht:r'.tmps=r.tmps) :
 Inv I β n (H.set k (.lrec l r' e)) (w.putObj l (.loop r'))∧Ext I β n H w I β n (H.set k (.lrec l r' e)) (w.putObj l (.loop r'))∧w.heap[l]?=some (.loop r):=by
 obtain⟨c,hc,h0,h1,h2,h3,h4⟩:=hI.blocks k _ hk
 subst h2
 have hlt:c.blk<w.heap.size:=by
  rcases pT c.blk w.heap.size with h|h
  ·exact h
  ·rw[pC h] at h3;cases h3
 have hne:H.get k≠none:=by rw[hk];simp
 have hother:∀b,b≠c.blk→(w.putObj c.blk (.loop r')).heap[b]?=w.heap[b]?:=fun b hb=>World.putObj_heap_other hb
 have hcell:∀b j,(w.putObj c.blk (.loop r')).cell? ⟨b,j,none⟩=w.cell? ⟨b,j,none⟩:=by
  intro b j
  by_cases hb:b=c.blk
  ·subst hb
   unfold pV
   simp only[World.putObj_heap_same hlt,h3]
  ·exact cell?_of_heap (hother b hb)
 have hchg:Chg w (w.putObj c.blk (.loop r')) (fun b j=>b=c.blk∧j=0):=by
  refine⟨rfl,⟨rfl,fun _=>p8 _⟩,rfl,by simp,fun b _ hb=>hother b (fun h=>hb 0 ⟨h,rfl⟩),fun b j _ _=>hcell b j,fun b arr2 el fr hb=>?_,fun b o ho hb hn=>?_⟩
  ·have:b≠c.blk:=fun h=>by subst h;rw[h3] at hb;cases hb
   exact⟨arr2,by rw[hother b this];exact hb,rfl⟩
  ·rw[hother b (fun h=>hn ⟨h,rfl⟩)];exact hb
 have hhas:c.has c.blk 0:=⟨rfl,by omega,h1⟩
 have:=jd (β':=β) (n':=n) (I':=I) (H':=H.set k (.lrec c.blk r' e)) hI hchg (p8 n) (fun b' j h=>⟨k,c,hc,hne,by obtain⟨rfl,rfl⟩:=h;exact hhas⟩) (fun _ _ h=>h) (fun _ _ h h'=>absurd h h') (fun id hid=>.inl rfl)
  (fun id d b' j hid hd _=>by rw[hI.fresh id hid] at hd;cases hd) hI.fresh (fun i j d d' b' q hi hj h h' _=>hI.inj i j d d' b' q hi hj h h') (fun _ _ _ _ _ _ h=>h) (fun t _ ht=>by
   rw[AHeap.get_set] at ht
   split at ht
   ·intro h;rw[h] at ht;simp at ht
   ·exact ht) (fun id blk hid=>by
   rw[AHeap.get_set] at hid
   split at hid
   ·rename_i hkk
    subst hkk
    rw[hk] at hid
    simp only[pK,p0] at hid
    subst hid
    exact .inr ⟨c,hc,h0,h1,rfl,World.putObj_heap_same hlt,fun t=>by
     rw[ht];exact(h4 t).mono' (fun _ _ h=>h) (fun b j _=>hcell b j) (p8 n) (fun _ _ _ h=>h)⟩
   ·rename_i hkk
    refine .inl ⟨hid,rfl,fun d b j hd hh hw=>?_⟩
    obtain⟨rfl,rfl⟩:=hw
    exact hkk (hI.inj k id c d _ _ hc hd hhas hh))
 exact⟨this.1,this.2,h3⟩
theorem zc6(hI:Inv I β n H w)(o:Obj):Inv I β n H (w.alloc o)∧Ext I β n H w I β n H (w.alloc o):=by
 have hp:Pushed w (w.alloc o) o:=⟨rfl,⟨rfl,fun _=>p8 _⟩,rfl,rfl⟩
 exact jd hI hp.chg (p8 n) (fun _ _ h=>h.elim) (fun _ _ h=>h) (fun _ _ h h'=>absurd h h') (fun id hid=>.inl rfl) (fun id c b k hid hc _=>by rw[hI.fresh id hid] at hc;cases hc) hI.fresh
  (fun i j c d b k hi hj h h' _=>hI.inj i j c d b k hi hj h h') (fun _ _ _ _ _ _ h=>h) (fun _ _ h=>h) (fun id blk hid=>.inl ⟨hid,rfl,fun _ _ _ _ _ h=>h⟩)
structure RecOf(P:Program)(N:Lay)(ps:List Nat)(a b:LCode)(r:Loop):Prop where
 st:r.state=.ready
 pe:r.pending=none
 pa:r.params.toList=ps
 la:zh P (zda N) r.assign=some a
 lb:zh P (zda N) r.body=some b
 sz:r.tmps.size=N.n
def busy(r:Loop):Loop:={ r with state:=.busy }
def zoj(k:Id)(l:Nat)(r:Loop)(P:Program)(N:Lay)(n0:Nat)(b:LCode)(Q2:Exit→Env→AHeap→Nat→Prop):Exit→Env→AHeap→Nat→Prop:=
 fun ex e1 H1 n1=>ex=.normal∧∃e1',H1.get k=some (.lrec l r e1')∧LWp P (zda N) n0 b Q2 e1 (H1.set k (.lrec l (busy r) e1')) n1
def zp0(k:Id)(l:Nat)(r:Loop)(K:AVal→AHeap→Nat→Prop):Exit→Env→AHeap→Nat→Prop:=
 fun ex e2 H2 n2=>ex=.normal∧∃e2',H2.get k=some (.lrec l (busy r) e2')∧K (.bool true) (H2.set k (.lrec l r e2')) n2
def za5:Env→List Nat→List AVal→Env
 |e,p::ps,x::xs=>za5 (e.put (some p) x) ps xs
 |e,_,_=>e
theorem z18:∀ {ps:List Nat} {xs:List AVal} {vs:List Value} {e:Env} {tm:Array Value},(∀p∈ps,p<tm.size)→xs.length=ps.length→vs.length=ps.length→(∀t,Rep I β n w (e.get t) (tm.getD t undef)) →
 (∀ (i:Nat) (x:AVal) (v:Value),xs[i]?=some x→vs[i]?=some v→Rep I β n w x v)→∀t,Rep I β n w ((za5 e ps xs).get t) (((ps.zip vs).foldl (fun t p=>t.setIfInBounds p.1 p.2) tm).getD t undef)
 |[],[],[],e,tm,_,_,_,he,_=>he
 |p::ps,x::xs,v::vs,e,tm,hp,h1,h2,he,hr=>by
  simp only[za5,List.zip_cons_cons,List.foldl_cons]
  have hE:RepEnv I β n w e { tmps:=tm,defers:=[] }:=he
  have hx:=hr 0 x v rfl rfl
  have:=hE.put (d:=some p) (fun t ht=>by cases ht;exact hp p (pU ..)) hx
  exact z18 (fun q hq=>by rw[Array.size_setIfInBounds];exact hp q (pQ _ hq)) (by simpa using h1) (by simpa using h2) this (fun i x v hx hv=>hr (i+1) x v (by simpa using hx) (by simpa using hv))
 |[],x::xs,_,_,_,_,h1,_,_,_=>by simp at h1
 |[],[],v::vs,_,_,_,_,h2,_,_=>by simp at h2
 |p::ps,[],_,_,_,_,h1,_,_,_=>by simp at h1
 |p::ps,x::xs,[],_,_,_,_,h2,_,_=>by simp at h2
theorem Xg(ps:Array Tmp)(vs:Array Value)(tm:Array Value):(ps.zip vs).foldl (fun tmps (x:Tmp×Value)=>tmps.setIfInBounds x.1 x.2) tm=(ps.toList.zip vs.toList).foldl (fun t p=>t.setIfInBounds p.1 p.2) tm:=by
 rw[←Array.foldl_toList,Array.toList_zip]
theorem Ys:∀ (l:List (Nat×Value)) (tm:Array Value),(l.foldl (fun t p=>t.setIfInBounds p.1 p.2) tm).size=tm.size
 |[],_=>rfl
 |p::r,tm=>by rw[List.foldl_cons,Ys r,Array.size_setIfInBounds]
def SubE:Env→Env→Prop
 |[],_=>True
 |(k,x)::r,e=>e.get k=x∧SubE r e
theorem SubE.get:∀ {e1 e:Env},SubE e1 e→∀t,e1.get t=.any∨e1.get t=e.get t
 |[],_,_,t=>.inl rfl
 |(k,x)::r,e,h,t=>by
  simp only[Env.get]
  split
  ·rename_i hk;subst hk;exact .inr h.1.symm
  ·exact SubE.get h.2 t
end
def EnvVw(F:Id→Bool)(H:AHeap)(ρ:Id→Option Id)(n:Nat):Env→Env→Prop
 |[],[]=>True
 |(k,x)::r,(k',y)::r'=>(k=k'∧Vw F H ρ n x y)∧EnvVw F H ρ n r r'
 |_,_=>False
theorem EnvVw.get{F:Id→Bool}{H:AHeap}{ρ:Id→Option Id}{n:Nat}:∀ {e e':Env},EnvVw F H ρ n e e'→∀t,Vw F H ρ n (e.get t) (e'.get t)
 |[],[],_,t=>.any _
 |(k,x)::r,(k',y)::r',h,t=>by
  obtain⟨⟨rfl,h1⟩,h2⟩:=h
  simp only[Env.get]
  split
  ·exact h1
  ·exact EnvVw.get h2 t
 |[],_::_,h,_=>h.elim
 |_::_,[],h,_=>h.elim
end Go.Fx
namespace Go.Fx
section
variable {P:Program} {I:Nat→Nat→Prop} {β:Id→Option CLoc} {n:Nat} {H:AHeap} {w:World}
def zcy:Exit→Option Code
 |.ret=>some .ret
 |.exit id=>some (.exit id)
 |_=>none
def zd9(r:Loop)(code:Code):Loop:={ r with state:=.done,pending:=some code }
def zn7(k:Id)(l:Nat)(r:Loop)(K:AVal→AHeap→Nat→Prop):Exit→Env→AHeap→Nat→Prop:=
 fun ex e2 H2 n2=>(∃code,zcy ex=some code∧∃e2',H2.get k=some (.lrec l (busy r) e2')∧K (.bool false) (H2.set k (.lrec l (zd9 r code) e2')) n2)∨(ex=.normal∧∃e2',H2.get k=some (.lrec l (busy r) e2')∧K (.bool true) (H2.set k (.lrec l r e2')) n2)
theorem z7s{N:Lay}{ps:List Nat}{a b:LCode}{r:Loop}{e:Env}{l:Nat}{k:Id}{args:List AVal}{K:AVal→AHeap→Nat→Prop}(hr:RecOf P N ps a b r)(hk:H.get k=some (.lrec l r e))(hps:(ps.all fun p=>Nat.blt p N.n)=true)(hlen:args.length=ps.length)
 (h:LWp P (zda N) n a (zoj k l r P N n b (zn7 k l r K)) (za5 e ps args) H n) :
 ACalls P (.yield l) args H n K:=by
 refine⟨trivial,fun I β w vs hI hl hrep=>?_⟩
 obtain⟨c,hc,h0,h1,h2,h3,h4⟩:=hI.blocks k _ hk
 rw[h2] at h3
 have hpl:r.params.size=ps.length:=by rw[←hr.pa,Array.length_toList]
 have hlt:∀p∈ps,p<r.tmps.size:=fun p hp=>by
  rw[hr.sz]
  rw[p9] at hps
  have:=hps p hp
  rwa [Nat.blt_eq] at this
 refine⟨r.fn,_,r.assign,r.body,run_yield h3 (by simp only[List.size_toArray];omega),roundIn_of_wpIn trivial ?_⟩
 refine h r.assign hr.la (some l) (fun h=>by cases h) I β H w I β w _ (Ext.refl I β n H w hI.fresh) hI ?_ ?_ (Dfr.nil _ _ _) _ ?_
 ·have:=z18 (n:=n) (w:=w) (I:=I) (β:=β) hlt hlen (by rw[hl,hlen]) h4 hrep
  intro t
  have h5:=Xg r.params vs.toArray r.tmps
  rw[hr.pa] at h5
  show Rep I β n w _ (((r.params.zip vs.toArray).foldl (fun tmps (x:Tmp×Value)=>tmps.setIfInBounds x.1 x.2) r.tmps).getD t undef)
  rw[h5]
  exact this t
 ·show((r.params.zip vs.toArray).foldl (fun tmps (x:Tmp×Value)=>tmps.setIfInBounds x.1 x.2) r.tmps).size=N.n
  rw[Xg,Ys]
  exact hr.sz
 intro ex e1 H1 n1 I1 β1 w1 a1 hq hI1 hE1 hN1 hD1 hX1
 obtain⟨rfl,e1',hk1,hb⟩:=hq
 obtain⟨q1,q2,q3⟩:=V7 (r':=busy r) hI1 hk1 rfl
 refine⟨_,run_beginRound q3 hr.st,?_⟩
 refine hb r.body hr.lb (some l) (fun h=>by cases h) I β H w I1 β1 _ a1 (hX1.trans q2) q1 (fun t=>(hE1 t).mono q2 hI1) hN1 (hD1.mono hI1 q2) _ ?_
 intro ex e2 H2 n2 I2 β2 w2 a2 hq hI2 hE2 hN2 hD2 hX2
 rcases hq with⟨code,hj,e2',hk2,hK⟩|⟨rfl,e2',hk2,hK⟩
 ·obtain⟨p1,p2,p3⟩:=V7 (r':=zd9 r code) hI2 hk2 rfl
  have hrr:({ busy r with state:=if(some code).isNone then LoopState.ready else .done,pending:=some code }:Loop)=zd9 r code:=by
   cases r
   simp[busy,zd9]
  have hrun:=run_endRound (P:=P) (some code) p3
  rw[hrr] at hrun
  cases ex with
  |ret=>cases hj;exact⟨_,_,hrun,.bool false,.bool false,_,n2,I2,β2,rfl,hK,p1,.imm _ _ (.bool false),hX2.trans p2⟩
  |exit id=>cases hj;exact⟨_,_,hrun,.bool false,.bool false,_,n2,I2,β2,rfl,hK,p1,.imm _ _ (.bool false),hX2.trans p2⟩
  |_=>cases hj
 obtain⟨p1,p2,p3⟩:=V7 (r':=r) hI2 hk2 rfl
 have hrr:({ busy r with state:=if(none:Option Code).isNone then LoopState.ready else .done,pending:=none }:Loop)=r:=by
  have:=hr.st
  have:=hr.pe
  cases r
  simp_all [busy]
 have hrun:=run_endRound (P:=P) none p3
 rw[hrr] at hrun
 exact⟨_,_,hrun,.bool true,.bool true,_,n2,I2,β2,rfl,hK,p1,.imm _ _ (.bool true),hX2.trans p2⟩
theorem ze6{N:Lay}{n0:Nat}{g:LOpd}{ps:List Nat}{a b:LCode}{e:Env}(e1:Env){Q:Exit→Env→AHeap→Nat→Prop}{gf:FuncId}{lb:List AVal}(hg:g.ev e=.fn (.func gf) [] lb)(hn:g.need e)(hs:SubE e1 e)
 (hcall:∀ (l:Nat) (r:Loop),RecOf P N ps a b r→ACalls P (.func gf) (.fn (.yield l) [] []::lb) (((n,0),.lrec l r e1)::H) (n+1) (fun _ H' n'=>∃k e',(H'.get k=some (.lrec l r e')∧Q .normal e' (H'.del k) n')∨∃ex code,zcy ex=some code∧H'.get k=some (.lrec l (zd9 r code) e')∧Q ex e' (H'.del k) n')) :
 LWp P N n0 (.rng g ps a b) Q e H n:=by
 intro c hc ro hro I0 β0 H0 w0 I β w aa hX hI hE hN hD QQ hQ
 cases c with
 |rangeFunc g' ps' x y=>
  simp only[zh] at hc
  split at hc<;>try (cases hc;done)
  rename_i g2 a2 b2 hrd hgl hal hbl
  simp only[p0,LCode.rng.injEq] at hc
  obtain⟨rfl,hps,rfl,rfl⟩:=hc
  obtain rfl:=hro hrd
  have hrg:=zr hE hgl hn
  rw[hg] at hrg
  obtain⟨cs,hf,k2,k4⟩:∃cs:Array Value,aa.eval g'=.func (.func gf) #[] cs∧cs.size=lb.length∧(∀ (i:Nat) (x:AVal) (v:Value),lb[i]?=some x→cs[i]?=some v→Rep I β n w x v):=by
   revert hrg
   generalize aa.eval g'=fv
   intro hr
   cases hr with
   |fn _ _ _ fs cs h1 h2 h3 h4=>
    have:fs=#[]:=Array.size_eq_zero_iff.1 (by simpa using h1)
    subst this
    exact⟨cs,rfl,h2,h4⟩
   |imm _ _ hr=>
    cases hr with
    |fn _ _ _ fs cs h1 h2 h3 h4=>
     have:fs=#[]:=Array.size_eq_zero_iff.1 (by simpa using h1)
     subst this
     exact⟨cs,rfl,h2,fun i x v p q=>.imm _ _ (h4 i x v p q)⟩
  refine wpIn_rangeFunc (fun fn _=>?_)
  obtain⟨r,hrec⟩:∃r:Loop,r={ state:=.ready,pending:=none,fn,tmps:=aa.tmps,params:=ps',assign:=x,body:=y,defers:=w.heap.size }:=⟨_,rfl⟩
  have hR:RecOf P N ps a2 b2 r:=by subst hrec;exact⟨rfl,rfl,hps,hal,hbl,hN⟩
  have htm:r.tmps=aa.tmps:=by subst hrec;rfl
  obtain⟨i0,x0⟩:=zc6 hI (.deferred (some []))
  have hE0:∀t,Rep I β n (w.alloc (.deferred (some []))) (Env.get e1 t) (r.tmps.getD t undef):=fun t=>by
   rw[htm]
   rcases hs.get t with h|h
   ·rw[h];exact .any _
   ·rw[h];exact(hE t).mono x0 hI
  obtain⟨i1,x1⟩:=z7i i0 (r:=r) hE0
  have hsz:(w.alloc (.deferred (some []))).heap.size=w.heap.size+1:=by simp
  rw[hsz] at i1 x1
  have hc:=hcall (w.heap.size+1) r hR
  obtain⟨f0,g1,g2,g3⟩:=hc.1
  have hD1:Dfr P w0.heap.size (w.alloc (.deferred (some []))) ({ target:=.collected w.heap.size,args:=#[] }::aa.defers):=by
   refine⟨List.pairwise_cons.2 ⟨fun d' hm=>.inl fun he=>?_,hD.1⟩,fun d hd=>?_⟩
   ·subst he
    rcases hD.2 _ hm with hid|⟨q,h1,h2,h3⟩
    ·obtain⟨_,_,_,_,h,_⟩:=hid w;cases h
    simp only[Deferred.mk.injEq,Target.collected.injEq,and_true] at h1
    subst h1
    rw[pC (p8 _)] at h3
    cases h3
   ·rcases List.mem_cons.1 hd with rfl|hd
    ·exact .inr ⟨w.heap.size,rfl,hX.size,World.alloc_heap_new w _⟩
    ·exact(hD.mono hI x0).2 d hd
  refine⟨w.heap.size+1,[{ target:=.collected w.heap.size,args:=#[] }],(w.alloc (.deferred (some []))).alloc (.loop r),{ target:=.fn (.func gf) cs,args:=#[.func (.yield (w.heap.size+1)) #[] #[]] },(w.alloc (.deferred (some []))).alloc (.loop r),gf,
   #[.func (.yield (w.heap.size+1)) #[] #[]]++cs,(w.alloc (.deferred (some []))).alloc (.loop r),?_,?_,fun _ _=>trivial,?_,fun h=>(by cases h),?_⟩
  ·rw[hrec];exact run_enterLoop_outer _ _ _ _ _
  ·simp only[resolve,hf]
   simp[go_sem]
  ·have g4:f0.body.isNone=false:=by cases hb:f0.body<;>simp[hb] at g2 ⊢
   simp only[invoke]
   unfold callFunc
   simp only[pN,run_program,pD,g1,g3,g4,pE,if_false,pS]
  ·refine(z4y (ro:=none)).2 ?_
   have hq:=hc.2 I _ _ (#[Value.func (.yield (w.heap.size+1)) #[] #[]]++cs).toList i1 (by simp;omega) (fun(i:Nat) (u:AVal) (v:Value) hu hv=>by
    cases i with
    |zero=>
     simp only[Array.toList_append,List.cons_append,List.nil_append,pB,p0] at hu hv
     subst hu;subst hv
     exact Rep.fn (.yield (w.heap.size+1)) [] [] #[] #[] rfl rfl (fun i x v h=>by cases i<;>cases h) (fun i x v h=>by cases i<;>cases h)
    |succ i=>
     simp only[Array.toList_append,List.cons_append,List.nil_append,pF] at hu hv
     exact((k4 i u v hu (by rw[←Array.getElem?_toList];exact hv)).mono x0 hI).mono x1 i0)
   rw[Array.toArray_toList] at hq
   refine Calls.mono hq ?_
   rintro ee w3 ⟨rv,v,H',n',I',β',rfl,⟨k,e',hk⟩,hI',hr',hx'⟩
   rcases hk with⟨hk,hK⟩|⟨ex,code,hj,hk,hK⟩
   ·obtain⟨cl,hcl,h0,h1,h2,h3,h4⟩:=hI'.blocks k _ hk
    rw[h2] at h3
    have hend:=run_endLoop (P:=P) h3 (by rw[hR.st];simp)
    obtain⟨rx,hrx⟩:∃rx:Loop,rx={ r with state:=.exhausted }:=⟨_,rfl⟩
    rw[←hrx,hR.pe] at hend
    obtain⟨q1,q2,_⟩:=V7 (r':=rx) hI' hk (by rw[hrx])
    refine⟨none,_,hend,?_⟩
    have hsub:∀id blk,(H'.del k).get id=some blk→(H'.set k (.lrec (w.heap.size+1) rx e')).get id=some blk:=by
     intro id blk hid
     rw[AHeap.get_del] at hid
     rw[AHeap.get_set]
     split at hid
     ·cases hid
     ·rename_i hne;rw[if_neg hne];exact hid
    refine hQ .normal e' (H'.del k) n' I' β' _ _ hK (q1.sub hsub) (fun t=>?_) hN ?_ ((((((hX.trans x0).trans x1).trans hx').trans q2).sub hsub))
    ·have:=(h4 t).mono q2 hI'
     rw[htm] at this
     exact this
    ·exact(((hD1.mono i0 x1).mono i1 hx').mono hI' q2)
   ·obtain⟨cl,hcl,h0,h1,h2,h3,h4⟩:=hI'.blocks k _ hk
    rw[h2] at h3
    have hend:=run_endLoop (P:=P) h3 (by simp[zd9])
    obtain⟨rx,hrx⟩:∃rx:Loop,rx={ zd9 r code with state:=.exhausted }:=⟨_,rfl⟩
    rw[←hrx,show(zd9 r code).pending=some code from rfl] at hend
    obtain⟨q1,q2,_⟩:=V7 (r':=rx) hI' hk (by rw[hrx])
    refine⟨some code,_,hend,?_⟩
    have hsub:∀id blk,(H'.del k).get id=some blk→(H'.set k (.lrec (w.heap.size+1) rx e')).get id=some blk:=by
     intro id blk hid
     rw[AHeap.get_del] at hid
     rw[AHeap.get_set]
     split at hid
     ·cases hid
     ·rename_i hne;rw[if_neg hne];exact hid
    have fin:QQ ex { aa with defers:={ target:=.collected w.heap.size,args:=#[] }::aa.defers } _:=hQ ex e' (H'.del k) n' I' β' _ _ hK (q1.sub hsub) (fun t=>by
     have:=(h4 t).mono q2 hI'
     rw[show(zd9 r code).tmps=aa.tmps from htm] at this
     exact this) hN (((hD1.mono i0 x1).mono i1 hx').mono hI' q2) ((((((hX.trans x0).trans x1).trans hx').trans q2).sub hsub))
    cases ex with
    |ret=>cases hj;exact wpIn_ret fin
    |exit id=>cases hj;exact wpIn_exit fin
    |_=>cases hj
 |skip=>simp[zh] at hc
 |region id ops draw=>simp only[zh] at hc;split at hc<;>(try split at hc)<;>(try split at hc)<;>(try split at hc)<;>(try split at hc)<;>(first|(simp at hc;done)|(rcases j9 hc with⟨_,h⟩|⟨_,_,_,h⟩<;>cases h))
 |seq a b=>simp only[zh] at hc;split at hc<;>simp at hc
 |cond c a b=>simp only[zh] at hc;split at hc<;>simp at hc
 |block id c=>simp[zh] at hc
 |loop c=>simp[zh] at hc
 |exit id=>simp[zh] at hc
 |ret=>simp[zh] at hc
 |_=>cases hc
end
end Go.Fx
namespace Go.Fx
inductive Tr(α:Type) where
 |nil
 |nd (v:Option α) (l r:Tr α)
namespace Tr
variable {α:Type}
def get:Tr α→Nat→Option α
 |.nil,_=>none
 |.nd v l r,k=>match p5 k 0 with
  |true=>v
  |false=>match p5 (k % 2) 1 with
   |true=>get l (k / 2)
   |false=>get r (k / 2-1)
def put:Nat→Tr α→Nat→Option α→Option (Tr α)
 |0,_,_,_=>none
 |d+1,.nil,k,x=>match p5 k 0 with
  |true=>some (.nd x .nil .nil)
  |false=>match p5 (k % 2) 1 with
   |true=>match put d .nil (k / 2) x with|some l=>some (.nd none l .nil)|none=>none
   |false=>match put d .nil (k / 2-1) x with|some r=>some (.nd none .nil r)|none=>none
 |d+1,.nd v l r,k,x=>match p5 k 0 with
  |true=>some (.nd x l r)
  |false=>match p5 (k % 2) 1 with
   |true=>match put d l (k / 2) x with|some l=>some (.nd v l r)|none=>none
   |false=>match put d r (k / 2-1) x with|some r=>some (.nd v l r)|none=>none
end Tr
def ikn:IntKind→Nat
 |.i8=>0|.i16=>1|.i32=>2|.i64=>3|.u8=>4|.u16=>5|.u32=>6|.u64=>7
def Ka(a b:IntKind):Bool:=p5 (ikn a) (ikn b)
def ck(p:Bool)(v:AVal):Option AVal:=match p with|true=>some v|false=>none
def ile(a b:Int):Bool:=decide (a≤b)
def ilt(a b:Int):Bool:=decide (a<b)
def znb(op:BinOp):AVal→AVal→Option AVal
 |.int k a,.int k' b=>match op with
  |.add=>ck (Ka k k') (.int k (k.wrap (a+b)))
  |.sub=>ck (Ka k k') (.int k (k.wrap (a-b)))
  |.mul=>ck (Ka k k') (.int k (k.wrap (a*b)))
  |.quo=>ck (Ka k k'&&!(decide (b=0))) (.int k (k.wrap (a.tdiv b)))
  |.rem=>ck (Ka k k'&&!(decide (b=0))) (.int k (a.tmod b))
  |.and=>ck (Ka k k') (.int k (Qh .and k a b))
  |.or=>ck (Ka k k') (.int k (Qh .or k a b))
  |.xor=>ck (Ka k k') (.int k (Qh .xor k a b))
  |.andNot=>ck (Ka k k') (.int k (Qh .andNot k a b))
  |.shl=>ck (ile 0 b) (.int k (k.wrap (a*2 ^ (min b.toNat k.bits))))
  |.shr=>ck (ile 0 b) (.int k (a.fdiv (2 ^ (min b.toNat k.bits))))
  |.eql=>ck (Ka k k') (.bool (a==b))
  |.neq=>ck (Ka k k') (.bool (a != b))
  |.lss=>ck (Ka k k') (.bool (decide (a<b)))
  |.leq=>ck (Ka k k') (.bool (decide (a≤b)))
  |.gtr=>ck (Ka k k') (.bool (decide (a > b)))
  |.geq=>ck (Ka k k') (.bool (decide (a≥b)))
 |.str a,.str b=>match op with
  |.add=>ck (ile ((a.length+b.length:Nat):Int) 9223372036854775807) (.str (a++b))
  |.eql=>some (.bool (a==b))
  |.neq=>some (.bool (!(a==b)))
  |.lss=>some (.bool (Op.bytesLess a b))
  |.leq=>some (.bool (Op.bytesLess a b || a==b))
  |.gtr=>some (.bool (!(Op.bytesLess a b || a==b)))
  |.geq=>some (.bool (!(Op.bytesLess a b)))
  |_=>none
 |_,_=>none
def bun(op:UnOp):AVal→Option AVal
 |.bool b=>match op with
  |.not=>some (.bool (!b))
  |_=>none
 |.int k n=>match op with
  |.neg=>some (.int k (k.wrap (0-n)))
  |.xor=>some (.int k (Qh .xor k (if k.signed then -1 else k.max) n))
  |_=>none
 |_=>none
def zgd:AVal→AVal→Option Bool
 |.val (.pointer none),.val (.pointer none)=>some true
 |.val (.pointer none),.ptr _ _ _=>some false
 |.ptr _ _ _,.val (.pointer none)=>some false
 |.val (.pointer none),.iptr _ _ _ _=>some false
 |.iptr _ _ _ _,.val (.pointer none)=>some false
 |_,_=>none
def ziq:AVal→AVal→Option Bool
 |.val (.slice none 0 0),.val (.slice none 0 0)=>some true
 |.val (.slice none 0 0),.msl _ _ _ len _=>match p5 len 0 with|true=>none|false=>some false
 |.msl _ _ _ len _,.val (.slice none 0 0)=>match p5 len 0 with|true=>none|false=>some false
 |.val (.slice none 0 0),.isl _ es _=>match es with|[]=>none|_::_=>some false
 |.isl _ es _,.val (.slice none 0 0)=>match es with|[]=>none|_::_=>some false
 |_,_=>none
def zgg:AVal→AVal→Option Bool
 |.val (.map none),.val (.map none)=>some true
 |.val (.map none),.map _=>some false
 |.map _,.val (.map none)=>some false
 |_,_=>none
def z52:CK→AVal→AVal→Option Bool
 |.int,.int k a,.int k' b=>match Ka k k' with|true=>some (a==b)|false=>none
 |.str,.str a,.str b=>some (a==b)
 |.bool,.bool a,.bool b=>some (a==b)
 |_,_,_=>none
def vr:List CK→List AVal→List AVal→Option Bool
 |[],[],[]=>some true
 |k::ks,x::xs,y::ys=>match z52 k x y with
  |some a=>match vr ks xs ys with
   |some b=>some (a&&b)
   |none=>none
  |none=>none
 |_,_,_=>none
def zbk:AVal→AVal→Option Bool
 |.val .nilIface,.val .nilIface=>some true
 |.ifc _ _,.val .nilIface=>some false
 |_,_=>none
def zbl:AVal→AVal→Option Bool
 |.val .nilFunc,.val .nilFunc=>some true
 |.fn _ _ _,.val .nilFunc=>some false
 |_,_=>none
def zmq(k:EqK)(x y:AVal):Option Bool:=
 match k with
 |.bool=>match x,y with
  |.bool a,.bool b=>some (a==b)
  |_,_=>none
 |.ptr=>zgd x y
 |.slice=>ziq x.rd y.rd
 |.map=>zgg x y
 |.agg ks=>match x,y with
  |.agg cs,.agg ds=>vr ks cs ds
  |_,_=>none
 |.ifc=>zbk x y
 |.fnc=>zbl x y
 |_=>none
def zmp(neg:Bool)(k:EqK)(x y:AVal):Option AVal:=match zmq k x y with
 |some b=>some (.bool (if neg then !b else b))
 |none=>none
abbrev Hp:=Id→Option ABlock
def Kk(agg:Bool)(n:Nat)(h:Hp):AVal→Option AVal
 |.iptr s es i off=>ck (p6 (i+1) es.length&&p6 (off+n) s) (yw agg n off (es.getD i []))
 |.ptr b i off=>match h b with
  |some (.rows s es)=>ck (p6 (i+1) es.length&&p6 (off+n) s) (yw agg n off (es.getD i []))
  |some (.one cs)=>ck (p5 i 0&&p6 (off+n) cs.length) (yw agg n off cs)
  |_=>none
 |_=>none
def zd3(off:Nat):AVal→Option AVal
 |.iptr s es i o=>some (.iptr s es i (o+off))
 |.ptr b i o=>some (.ptr b i (o+off))
 |_=>none
def zb0(agg:Bool)(n off:Nat):AVal→Option AVal
 |.agg cs=>ck (p6 (off+n) cs.length) (yw agg n off cs)
 |_=>none
def z6s(s:Nat):AVal→AVal→Option AVal
 |.isl s' es _,.int _ j=>ck (p5 s s'&&ile 0 j&&ilt j (es.length:Int)) (.iptr s' es j.toNat 0)
 |.msl b s' off len _,.int _ j=>ck (p5 s s'&&ile 0 j&&ilt j (len:Int)) (.ptr b (off+j.toNat) 0)
 |_,_=>none
def z3l(len s:Nat):AVal→AVal→Option AVal
 |.iptr s' es i o,.int _ j=>ck (ile 0 j&&ilt j (len:Int)) (.iptr s' es i (o+j.toNat * s))
 |.ptr b i o,.int _ j=>ck (ile 0 j&&ilt j (len:Int)) (.ptr b i (o+j.toNat * s))
 |_,_=>none
def Xr(len s:Nat)(h:Hp):AVal→AVal→Option AVal
 |.ptr b i 0,.int _ j=>match h b with
  |some (.rows s' _)=>ck (p5 s s'&&ile 0 j&&ilt j (len:Int)) (.ptr b (i+j.toNat) 0)
  |_=>none
 |_,_=>none
def z7l(len s:Nat)(h:Hp):AVal→Option AVal
 |.ptr b i 0=>match h b with
  |some (.rows s' es)=>ck (p5 s s'&&p6 (i+len) es.length) (.msl b s i len true)
  |_=>none
 |_=>none
def zgx:AVal→AVal→Option AVal
 |.str l,.int _ j=>ck (ile 0 j&&ilt j (l.length:Int)) (.int .u8 ((l.getD j.toNat 0).toNat:Int))
 |_,_=>none
def zgk(len s:Nat)(agg:Bool):AVal→AVal→Option AVal
 |.agg cs,.int _ j=>ck (ile 0 j&&ilt j (len:Int)&&p6 ((j.toNat * s)+s) cs.length) (yw agg s (j.toNat * s) cs)
 |_,_=>none
def znj(k:Nat):AVal→Option AVal
 |.tup cs=>ck (p6 (k+1) cs.length) (cs.getD k .any)
 |_=>none
def zhs:AVal→Option AVal
 |.str l=>some (.int .i64 (l.length:Int))
 |_=>none
def zdf:AVal→Option AVal
 |.isl _ es _=>some (.int .i64 (es.length:Int))
 |.msl _ _ _ len _=>some (.int .i64 (len:Int))
 |.val (.slice none 0 0)=>some (.int .i64 0)
 |_=>none
def z9s:AVal→Option AVal
 |.iptr s es i o=>some (.iptr s es i o)
 |.ptr b i o=>some (.ptr b i o)
 |.fn (.func f) a c=>some (.fn (.func f) a c)
 |_=>none
def jy(g:Nat→AVal):LOpd→Option AVal
 |.t i=>match g i with
  |.cnd true v=>some v
  |.cnd false _=>none
  |v=>some v
 |.c v=>some v
def Ur(g:Nat→AVal):List LOpd→Option (List AVal)
 |[]=>some []
 |x::r=>match jy g x with
  |some a=>match Ur g r with
   |some l=>some (a::l)
   |none=>none
  |none=>none
def ui(g:Nat→AVal)(d:Nat):Option LOpd→Option Int
 |none=>some d
 |some x=>match jy g x with
  |some (.int _ j)=>some j
  |_=>none
def zc4(g:Nat→AVal)(lo hi:Option LOpd):AVal→Option AVal
 |.str l=>match ui g 0 lo,ui g l.length hi with
  |some a,some b=>ck (ile 0 a&&ile a b&&ile b (l.length:Int)) (.str ((l.take b.toNat).drop a.toNat))
  |_,_=>none
 |_=>none
def ziu(g:Nat→AVal)(s:Nat)(lo hi mx:Option LOpd):AVal→Option AVal
 |.isl s' es f=>match ui g 0 lo,ui g es.length hi with
  |some a,some b=>match mx with
   |none=>ck (p5 s s'&&ile 0 a&&ile a b&&ile b (es.length:Int)) (.isl s' ((es.take b.toNat).drop a.toNat) (f&&decide (b=(es.length:Int))))
   |some m=>match ui g 0 (some m) with
    |some m=>ck (p5 s s'&&ile 0 a&&ile a b&&ile b m&&ile m (es.length:Int)) (.isl s' ((es.take b.toNat).drop a.toNat) (decide (m=b)))
    |none=>none
  |_,_=>none
 |.msl id s' off len f=>match ui g 0 lo,ui g len hi with
  |some a,some b=>match mx with
   |none=>ck (p5 s s'&&ile 0 a&&ile a b&&ile b (len:Int)) (.msl id s' (off+a.toNat) (b.toNat-a.toNat) (f&&decide (b=(len:Int))))
   |some m=>match ui g 0 (some m) with
    |some m=>ck (p5 s s'&&ile 0 a&&ile a b&&ile b m&&ile m (len:Int)) (.msl id s' (off+a.toNat) (b.toNat-a.toNat) (decide (m=b)))
    |none=>none
  |_,_=>none
 |.val (.slice none 0 0)=>match ui g 0 lo,ui g 0 hi,mx with
  |some a,some b,none=>ck (decide (a=0)&&decide (b=0)) (.val (.slice none 0 0))
  |_,_,_=>none
 |_=>none
def z29(cells:List AVal):List (Nat×Nat×AVal)→Option AVal
 |[]=>some (.agg cells)
 |(off,n,x)::r=>match x.cells? with
  |some cs=>match p5 cs.length n&&p6 (off+n) cells.length with
   |true=>z29 (xr cells off cs) r
   |false=>none
  |none=>none
def z3d(g:Nat→AVal):List (Nat×Nat×LOpd)→Option (List (Nat×Nat×AVal))
 |[]=>some []
 |(o,n,x)::r=>match jy g x with
  |some a=>match z3d g r with
   |some l=>some ((o,n,a)::l)
   |none=>none
  |none=>none
def zib(isMax:Bool):AVal→List AVal→Option AVal
 |v,[]=>some v
 |.int k a,.int k' b::r=>match Ka k k' with
  |true=>zib isMax (.int k (if isMax then(if b > a then b else a) else(if b<a then b else a))) r
  |false=>none
 |_,_=>none
def zi4(isMax:Bool):List AVal→Option AVal
 |.int k a::r=>zib isMax (.int k a) r
 |_=>none
def Ub(ks:List CK)(ka:Bool)(k:AVal):Bool:=(match ka,jt k with|true,true=>true|false,false=>true|_,_=>false)&&(vr ks (qb k) (qb k)).isSome
def z2o(ks:List CK)(k k':AVal):Option Bool:=match jt k,jt k' with
 |true,true=>vr ks (qb k) (qb k')
 |false,false=>vr ks (qb k) (qb k')
 |_,_=>none
def z69(ks:List CK)(k:AVal):List (AVal×AVal)→Option (Option AVal)
 |[]=>some none
 |(k',x)::r=>match z2o ks k k' with
  |some true=>some (some x)
  |some false=>z69 ks k r
  |none=>none
def zfc(ks:List CK)(k x:AVal):List (AVal×AVal)→Option (List (AVal×AVal))
 |[]=>some [(k,x)]
 |(k',y)::r=>match z2o ks k k' with
  |some true=>some ((k,x)::r)
  |some false=>match zfc ks k x r with|some l=>some ((k',y)::l)|none=>none
  |none=>none
def z6t(ks:List CK)(k:AVal):List (AVal×AVal)→Option (List (AVal×AVal))
 |[]=>some []
 |(k',y)::r=>match z2o ks k k' with
  |some true=>some r
  |some false=>match z6t ks k r with|some l=>some ((k',y)::l)|none=>none
  |none=>none
def U8(ks:List CK)(ka g ok:Bool)(zs:List AVal)(h:Hp)(k:AVal):AVal→Option AVal
 |.val (.map none)=>ck (Ub ks ka k) (zfn g ok zs none)
 |.map b=>match h b with
  |some (.amap es)=>match Ub ks ka k with
   |true=>match z69 ks k es with
    |some r=>some (zfn g ok zs r)
    |none=>none
   |false=>none
  |_=>none
 |_=>none
def z8a(h:Hp):AVal→Option AVal
 |.val (.map none)=>some (.int .i64 0)
 |.map b=>match h b with
  |some (.amap es)=>some (.int .i64 (es.length:Int))
  |_=>none
 |_=>none
def z43(g:Nat→AVal)(h:Hp):LOp→Option AVal
 |.mv x=>jy g x
 |.pick c a b=>match jy g c with
  |some (.bool true)=>jy g a
  |some (.bool false)=>jy g b
  |_=>none
 |.build zs parts=>(z3d g parts).bind (z29 zs)
 |.load ag n a=>(jy g a).bind (Kk ag n h)
 |.nilck x=>(jy g x).bind z9s
 |.bin op x y=>(jy g x).bind fun a=>(jy g y).bind fun b=>znb op a b
 |.eq neg k x y=>(jy g x).bind fun a=>(jy g y).bind fun b=>zmp neg k a b
 |.un op x=>(jy g x).bind (bun op)
 |.conv (.int k) x=>match jy g x with
  |some (.int _ n)=>some (.int k (k.wrap n))
  |_=>none
 |.conv .same x=>match jy g x with
  |some (.str l)=>some (.str l)
  |_=>none
 |.mkfn f a c=>(Ur g a).bind fun a=>(Ur g c).bind fun c=>some (.fn f a c)
 |.slStr x lo hi=>(jy g x).bind (zc4 g lo hi)
 |.slSl s x lo hi mx=>(jy g x).bind (ziu g s lo hi mx)
 |.slAr n s x=>(jy g x).bind (z7l n s h)
 |.faddr off x=>(jy g x).bind (zd3 off)
 |.field ag n off x=>(jy g x).bind (zb0 ag n off)
 |.iaddr s x i=>(jy g x).bind fun a=>(jy g i).bind fun b=>z6s s a.rd b
 |.iaddrA n s x i=>(jy g x).bind fun a=>(jy g i).bind fun b=>z3l n s a b
 |.iaddrR n s x i=>(jy g x).bind fun a=>(jy g i).bind fun b=>Xr n s h a b
 |.idxS x i=>(jy g x).bind fun a=>(jy g i).bind fun b=>zgx a b
 |.idxA n s ag x i=>(jy g x).bind fun a=>(jy g i).bind fun b=>zgk n s ag a b
 |.ext k x=>(jy g x).bind (znj k)
 |.len true x=>(jy g x).bind zhs
 |.len false x=>(jy g x).bind fun a=>zdf a.rd
 |.mnx m args=>(Ur g args).bind (zi4 m)
 |.mlook ks ka ag ok zs x k=>(jy g x).bind fun a=>(jy g k).bind fun b=>U8 ks ka ag ok zs h b a
 |.mlen x=>(jy g x).bind (z8a h)
 |_=>none
structure Sh where
 t:Tr ABlock
 n:Nat
def hix(id:Id):Option Nat:=match id.2 with
 |0=>some (2*id.1)
 |1=>some (2*id.1+1)
 |_=>none
def Tr.at(t:Tr ABlock):Hp:=fun id=>match hix id with
 |some k=>t.get k
 |none=>none
def Tr.sat(t:Tr ABlock)(id:Id)(b:Option ABlock):Option (Tr ABlock):=match hix id with
 |some k=>Tr.put 60 t k b
 |none=>none
def Sh.upd(S:Sh)(id:Id)(b:ABlock):Option Sh:=match S.t.sat id (some b) with
 |some t=>some ⟨t,S.n⟩
 |none=>none
def Sh.cut(S:Sh)(id:Id):Option Sh:=match S.t.sat id none with
 |some t=>some ⟨t,S.n⟩
 |none=>none
def Sh.new(S:Sh)(b:ABlock):Option Sh:=match S.t.sat (S.n,0) (some b) with
 |some t=>some ⟨t,S.n+1⟩
 |none=>none
def Sh.new2(S:Sh)(b c:ABlock):Option Sh:=match S.t.sat (S.n,0) (some b) with
 |some t=>match t.sat (S.n,1) (some c) with
  |some t=>some ⟨t,S.n+1⟩
  |none=>none
 |none=>none
abbrev Rs:=Option (AVal×Sh)
def kv(v:AVal):Option Sh→Rs
 |some S=>some (v,S)
 |none=>none
def Zt(h:Hp)(s:Nat):AVal→Option (List (List AVal))
 |.isl s' es _=>match p5 s' s with|true=>some es|false=>none
 |.osl _ s' es=>match p5 s' s with|true=>some es|false=>none
 |.msl b s' off len _=>match h b with
  |some (.rows s'' es)=>match p5 s' s&&p5 s'' s&&p6 (off+len) es.length with
   |true=>some ((es.drop off).take len)
   |false=>none
  |_=>none
 |.val (.slice none 0 0)=>some []
 |.str l=>match p5 s 1 with
  |true=>some (l.map fun c=>[.int .u8 (c.toNat:Int)])
  |false=>none
 |_=>none
def Xy:List (List AVal)→List (Nat×AVal)→Option (List (List AVal))
 |rows,[]=>some rows
 |rows,(i,x)::r=>match x.cells? with
  |some cs=>match p5 cs.length ((rows.getD i []).length)&&p6 (i+1) rows.length with
   |true=>Xy (rows.set i cs) r
   |false=>none
  |none=>none
def zj4(g:Nat→AVal):List (Nat×LOpd)→Option (List (Nat×AVal))
 |[]=>some []
 |(i,x)::r=>match jy g x with
  |some a=>match zj4 g r with
   |some l=>some ((i,a)::l)
   |none=>none
  |none=>none
def z0j:List (List AVal)→Bool
 |[]=>true
 |[.int k _]::r=>Ka k .u8&&z0j r
 |_=>false
def zn9(s bytes:Nat)(S:Sh)(x:AVal)(rows2:List (List AVal)):Rs:=
 match x with
 |.val (.slice none 0 0)=>match rows2 with
  |[]=>some (.val (.slice none 0 0),S)
  |_=>match p6 (rows2.length*bytes) 140737488355328 with
   |true=>kv (.msl (S.n,0) s 0 rows2.length false) (S.new (.rows s rows2))
   |false=>none
 |.isl s' es f=>match p5 s' s with
  |true=>match rows2 with
   |[]=>some (.isl s' es f,S)
   |_=>match f&&p6 ((es.length+rows2.length)*bytes) 140737488355328 with
    |true=>kv (.msl (S.n,0) s 0 (es.length+rows2.length) false) (S.new (.rows s (es++rows2)))
    |false=>none
  |false=>none
 |.msl b s' off len f=>match S.t.at b with
  |some (.rows s'' es)=>match p5 s' s&&p5 s'' s&&p6 (off+len) es.length&&p6 ((len+rows2.length)*bytes) 140737488355328 with
   |true=>match f,rows2 with
    |true,[]=>some (.msl b s' off len f,S)
    |true,_=>kv (.msl (S.n,0) s 0 (len+rows2.length) false) (S.new (.rows s ((es.drop off).take len++rows2)))
    |false,_=>match S.cut b with
     |some S=>kv (.msl (S.n,0) s 0 (len+rows2.length) false) (S.new (.rows s ((es.drop off).take len++rows2)))
     |none=>none
   |false=>none
  |_=>none
 |_=>none
def zmc(C:Nat→List AVal→Sh→Rs)(g:Nat→AVal)(S:Sh):LOp→Rs
 |.alloc zs=>kv (.ptr (S.n,0) 0 0) (S.new (.one zs))
 |.allocR s zs=>kv (.ptr (S.n,0) 0 0) (S.new (.rows s (Y0 s (zs.length / s) zs)))
 |.allocB T el=>kv (.ptr (S.n,0) 0 0) (S.new2 (.bld T (S.n,1)) (.buf el []))
 |.box x=>match jy g x with
  |some a=>match a.cells? with
   |some cs=>kv (.ptr (S.n,0) 0 0) (S.new (.one cs))
   |none=>none
  |none=>none
 |.mkSl false s zs len parts=>match zj4 g parts with
  |some ps=>match Xy (List.replicate len zs) ps with
   |some rows=>match p5 zs.length s with
    |true=>kv (.msl (S.n,0) s 0 len true) (S.new (.rows s rows))
    |false=>none
   |none=>none
  |none=>none
 |.mkSl true s zs len parts=>match zj4 g parts with
  |some ps=>match Xy (List.replicate len zs) ps with
   |some rows=>match jc rows with
    |some rows'=>match p5 zs.length s with
     |true=>some (.isl s (rows'.map (x6 zs)) true,S)
     |false=>none
    |none=>none
   |none=>none
  |none=>none
 |.store m a x=>match jy g a with
  |some (.ptr b i off)=>match jy g x with
   |some y=>match y.cells? with
    |some cs=>match S.t.at b with
     |some (.rows s es)=>match p5 cs.length m&&p6 (i+1) es.length&&p6 (off+m) s with
      |true=>kv .any (S.upd b (.rows s (es.set i (xr (es.getD i []) off cs))))
      |false=>none
     |some (.one rs)=>match p5 cs.length m&&p5 i 0&&p6 (off+m) rs.length with
      |true=>kv .any (S.upd b (.one (xr rs off cs)))
      |false=>none
     |_=>none
    |none=>none
   |none=>none
  |_=>none
 |.conv (.s2b false) x=>match jy g x with
  |some (.str l)=>kv (.msl (S.n,0) 1 0 l.length false) (S.new (.rows 1 (l.map fun c=>[.int .u8 (c.toNat:Int)])))
  |_=>none
 |.conv .b2s x=>match jy g x with
  |some (.str _)=>none
  |some a=>match Zt S.t.at 1 a with
   |some rows=>match z0j rows with
    |true=>some (.str (rows.map J1),S)
    |false=>none
   |none=>none
  |none=>none
 |.mkslice false s bytes zs l c=>match jy g l,jy g c with
  |some (.int .i64 l'),some (.int .i64 c')=>match ile 0 l'&&ile l' c'&&ile (c'*bytes) 140737488355328 with
   |true=>kv (.msl (S.n,0) s 0 l'.toNat (decide (c'=l'))) (S.new (.rows s (List.replicate l'.toNat zs)))
   |false=>none
  |_,_=>none
 |.call f args=>match Ur g args with
  |some aq=>C f aq S
  |none=>none
 |.callv x args=>match jy g x with
  |some (.fn (.func f) first caps)=>match Ur g args with
   |some aq=>C f (first++aq++caps) S
   |none=>none
  |_=>none
 |.app false s bytes x y=>match jy g y with
  |some b=>match Zt S.t.at s b with
   |some rows2=>match jy g x with
    |some a=>zn9 s bytes S a rows2
    |none=>none
   |none=>none
  |none=>none
 |.copy s x y=>match jy g x with
  |some (.msl b s' off len _)=>match jy g y with
   |some y=>match Zt S.t.at s y with
    |some rows2=>match S.t.at b with
     |some (.rows s'' es)=>match p5 s' s&&p5 s'' s&&p6 (off+len) es.length with
      |true=>kv (.int .i64 ((min rows2.length len:Nat):Int)) (S.upd b (.rows s (es.take off++rows2.take len++es.drop (off+min rows2.length len))))
      |false=>none
     |_=>none
    |none=>none
   |none=>none
  |_=>none
 |.mkmap none=>kv (.map (S.n,0)) (S.new (.amap []))
 |.mset ks ka ag zs m k x=>match jy g m with
  |some (.map b)=>match jy g x with
   |some x=>match zjb ag zs x with
    |some y=>match S.t.at b with
     |some (.amap es)=>match jy g k with
      |some k=>match zfc ks k y es with
       |some es'=>match Ub ks ka k with
        |true=>kv .any (S.upd b (.amap es'))
        |false=>none
       |none=>none
      |none=>none
     |_=>none
    |none=>none
   |none=>none
  |_=>none
 |.mdel ks ka m k=>match jy g m with
  |some (.map b)=>match S.t.at b with
   |some (.amap es)=>match jy g k with
    |some k=>match z6t ks k es with
     |some es'=>match Ub ks ka k with
      |true=>kv .any (S.upd b (.amap es'))
      |false=>none
     |none=>none
    |none=>none
   |_=>none
  |_=>none
 |_=>none
-- equality of values, where it is seen at once
mutual
def zke:AVal→AVal→Bool
 |.bool a,.bool b=>a==b
 |.int k a,.int k' b=>Ka k k'&&decide (a=b)
 |.str a,.str b=>a==b
 |.ptr b i o,.ptr b' i' o'=>p5 b.1 b'.1&&p5 b.2 b'.2&&p5 i i'&&p5 o o'
 |.msl b s o l f,.msl b' s' o' l' f'=>p5 b.1 b'.1&&p5 b.2 b'.2&&p5 s s'&&p5 o o'&&p5 l l'&&(f==f')
 |.map b,.map b'=>p5 b.1 b'.1&&p5 b.2 b'.2
 |.agg cs,.agg ds=>z7c cs ds
 |.tup cs,.tup ds=>z7c cs ds
 |.val (.pointer none),.val (.pointer none)=>true
 |.val (.slice none 0 0),.val (.slice none 0 0)=>true
 |.val (.map none),.val (.map none)=>true
 |.val (.nilIface),.val (.nilIface)=>true
 |.cnd p x,.cnd p' y=>(p==p')&&zke x y
 |.isl s es f,.isl s' es' f'=>p5 s s'&&(f==f')&&z6h es es'
 |_,_=>false
def z7c:List AVal→List AVal→Bool
 |[],[]=>true
 |x::xs,y::ys=>zke x y&&z7c xs ys
 |_,_=>false
def z6h:List (List AVal)→List (List AVal)→Bool
 |[],[]=>true
 |x::xs,y::ys=>z7c x y&&z6h xs ys
 |_,_=>false
end
def z0z(a:AVal)(want:Bool):Option Bool:=wg a want
abbrev Ev:=Tr AVal
def Ev.g(e:Ev)(t:Nat):AVal:=match Tr.get e t with|some v=>v|none=>.any
def Ev.p(e:Ev)(d:Option Nat)(v:AVal):Option Ev:=match d with
 |some d=>Tr.put 60 e d (some v)
 |none=>some e
def Yo(g:Nat→AVal)(h:Hp)(lo:LOper):Option AVal:=
 match lo.guard with
 |none=>z43 g h lo.op
 |some (q,want)=>match z0z (g q) want with
  |some true=>match z43 g h lo.op with
   |some v=>some (.cnd true v)
   |none=>none
  |some false=>some (.tup [])
  |none=>none
def zf7(C:Nat→List AVal→Sh→Rs)(g:Nat→AVal)(S:Sh)(lo:LOper):Rs:=
 match lo.guard with
 |none=>zmc C g S lo.op
 |some (q,want)=>match z0z (g q) want with
  |some true=>zmc C g S lo.op
  |some false=>some (.tup [],S)
  |none=>none
abbrev Es:=Option (Ev×Sh)
def zio(C:Nat→List AVal→Sh→Rs):List LOper→Ev→Sh→Es
 |[],e,S=>some (e,S)
 |lo::os,e,S=>match x7 lo.op with
  |true=>match Yo e.g S.t.at lo with
   |some v=>match e.p lo.dst v with
    |some e=>zio C os e S
    |none=>none
   |none=>none
  |false=>match zf7 C e.g S lo with
   |some (v,S)=>match e.p lo.dst v with
    |some e=>zio C os e S
    |none=>none
   |none=>none
def LOper.bsees(lo:LOper)(e:Ev):Env:=lo.looks.map fun t=>(t,e.g t)
def Vd(h:Hp)(loose:List Nat):List (Nat×LOper×Env×AVal)→Bool
 |[]=>true
 |(p,lo,e,v)::r=>(match loose.contains p with
  |true=>match Yo e.get h lo with
   |some u=>zke u v
   |none=>false
  |false=>true)&&Vd h loose r
def z4a(C:Nat→List AVal→Sh→Rs):List DItem→Nat→List (Nat×LOper×Env×AVal)→Ev→Sh→Es
 |[],_,_,e,S=>some (e,S)
 |it::rest,p,done,e,S=>match x7 it.lo.op with
  |true=>match Yo (it.lo.bsees e).get S.t.at it.lo with
   |some v=>match e.p it.lo.dst v with
    |some e'=>z4a C rest (p+1) (if wn it.lo.op then(p,it.lo,it.lo.bsees e,v)::done else done) e' S
    |none=>none
   |none=>none
  |false=>match zf7 C (it.lo.bsees e).get S it.lo with
   |some (v,S)=>match Vd S.t.at it.loose done with
    |true=>match e.p it.lo.dst v with
     |some e=>z4a C rest (p+1) done e S
     |none=>none
    |false=>none
   |none=>none
abbrev Cs:=Option (Exit×Ev×Sh)
def zlu:Es→Cs
 |some (e,S)=>some (.normal,e,S)
 |none=>none
def zfw:Option AVal→Option AVal→Bool
 |some (.ptr b _ _),some (.ptr c _ _)=>!(p5 b.1 c.1&&p5 b.2 c.2)
 |_,_=>false
def zji:List Nat→List AVal→Ev→Option Ev
 |[],[],e=>some e
 |p::ps,x::xs,e=>match e.p (some p) x with
  |some e=>zji ps xs e
  |none=>none
 |_,_,_=>none
def z2b:AVal→Bool
 |.cnd _ _=>false
 |_=>true
def zkc(A R:Ev→Sh→Cs)(ps:List Nat)(ag:Bool)(s:Nat)(bx:Id)(e:Ev):Nat→Sh→Cs
 |0,S=>some (.normal,e,S)
 |i+1,S=>match Kk false 1 S.t.at (.ptr bx 0 0) with
  |some sl=>match z6s s sl.rd (.int .i64 (i:Int)) with
   |some p=>match Kk ag s S.t.at p with
    |some el=>match z2b sl&&z2b p&&z2b el&&p6 i 4611686018427387903 with
     |true=>match zji ps [.int .i64 (i:Int),el] e with
      |some e1=>match A e1 S with
       |some (.normal,e2,S2)=>match R e2 S2 with
        |some (.normal,_,S3)=>zkc A R ps ag s bx e i S3
        |some (.ret,_,S3)=>some (.ret,e,S3)
        |some (.exit id,_,S3)=>some (.exit id,e,S3)
        |_=>none
       |_=>none
      |none=>none
     |false=>none
    |none=>none
   |none=>none
  |none=>none
def vt(C:Nat→List AVal→Sh→Rs)(L:LCode→Ev→Sh→Cs)(B:Nat→Option (Bool×Nat)):LCode→Ev→Sh→Cs
 |.skip,e,S=>some (.normal,e,S)
 |.region ops,e,S=>zlu (zio C ops e S)
 |.quiet ops,e,S=>match ops.all (fun lo=>x7 lo.op) with
  |true=>zlu (zio C ops e S)
  |false=>none
 |.draw items,e,S=>zlu (z4a C items 0 [] e S)
 |.draw2 a b items,e,S=>match z4a C items 0 [] e S with
  |some (e,S)=>match zfw (jy e.g a) (jy e.g b) with
   |true=>some (.normal,e,S)
   |false=>none
  |none=>none
 |.seq a b,e,S=>match vt C L B a e S with
  |some (.normal,e,S)=>vt C L B b e S
  |x=>x
 |.cond c a b,e,S=>match jy e.g c with
  |some (.bool true)=>vt C L B a e S
  |some (.bool false)=>vt C L B b e S
  |_=>none
 |.block id c,e,S=>match vt C L B c e S with
  |some (.exit i,e,S)=>match p5 i id with
   |true=>some (.normal,e,S)
   |false=>some (.exit i,e,S)
  |x=>x
 |.loop c,e,S=>L c e S
 |.rng g ps a b,e,S=>match jy e.g g with
  |some (.fn (.func gf) [] [.ptr bx 0 0])=>match B gf with
   |some (ag,s)=>match Kk false 1 S.t.at (.ptr bx 0 0) with
    |some sl=>match zdf sl.rd with
     |some (.int .i64 z)=>match z2b sl&&ile 0 z&&ile z 4611686018427387904,S.t.at (S.n,0) with
      |true,none=>zkc (vt C L B a) (vt C L B b) ps ag s bx e z.toNat ⟨S.t,S.n+1⟩
      |_,_=>none
     |_=>none
    |none=>none
   |none=>none
  |_=>none
 |.dfr _ t,e,S=>match e.p (some t) .any with|some e=>some (.normal,e,S)|none=>none
 |.exit id,e,S=>some (.exit id,e,S)
 |.ret,e,S=>some (.ret,e,S)
def z45:Nat→List AVal→Ev→Option Ev
 |_,[],e=>some e
 |k,x::r,e=>match e.p (some k) x with
  |some e=>z45 (k+1) r e
  |none=>none
def zim(e:Ev)(h:Hp):LRes→Option AVal
 |.t i=>jy e.g (.t i)
 |.cell i ag n=>match jy e.g (.t i) with
  |some a=>Kk ag n h a
  |none=>none
def z7p(e:Ev)(h:Hp):List LRes→Option (List AVal)
 |[]=>some []
 |r::rs=>match zim e h r with
  |some v=>match z7p e h rs with
   |some l=>some (v::l)
   |none=>none
  |none=>none
def zmd(res:List LRes):Cs→Rs
 |some (.normal,e,S)=>match z7p e S.t.at res with|some l=>some (z27 l,S)|none=>none
 |some (.ret,e,S)=>match z7p e S.t.at res with|some l=>some (z27 l,S)|none=>none
 |_=>none
def ev(F:Nat→Option LFn)(X:Nat→List AVal→Sh→Option Rs)(B:Nat→Option (Bool×Nat)):Nat→(Nat→List AVal→Sh→Rs)×(LCode→Ev→Sh→Cs)
 |0=>(fun _ _ _=>none,fun _ _ _=>none)
 |m+1=>(fun f args S=>match X f args S with
  |some r=>r
  |none=>match F f with
   |some fn=>match p6 args.length fn.lay.n with
    |true=>match z45 0 args .nil with
     |some e=>zmd fn.res (vt (ev F X B m).1 (ev F X B m).2 B fn.body e S)
     |none=>none
    |false=>none
   |none=>none,
  fun c e S=>match vt (ev F X B m).1 (ev F X B m).2 B c e S with
   |some (.normal,e,S)=>(ev F X B m).2 c e S
   |x=>x)
end Go.Fx
namespace Go.Fx
namespace Tr
variable {α:Type}
theorem Vc(v:Option α)(l r:Tr α)(j:Nat):(Tr.nd v l r).get j=if j=0 then v else if j % 2=1 then l.get (j / 2) else r.get (j / 2-1):=by
 show(match p5 j 0 with
  |true=>v
  |false=>match p5 (j % 2) 1 with
   |true=>get l (j / 2)
   |false=>get r (j / 2-1))=_
 by_cases h:j=0
 ·subst h;rfl
 ·rw[if_neg h]
  have h0:p5 j 0=false:=Bool.eq_false_iff.2 fun h'=>h (p7 h')
  rw[h0]
  simp only
  by_cases h1:j % 2=1
  ·rw[if_pos h1,h1]
  ·rw[if_neg h1]
   have:j % 2=0:=by omega
   rw[this]
theorem put_get:∀ (d:Nat) (t:Tr α) (k:Nat) (x:Option α) (t':Tr α),put d t k x=some t'→∀j,t'.get j=if j=k then x else t.get j
 |0,_,_,_,_,h=>by simp[put] at h
 |d+1,t,k,x,t',h=>by
  have key:∀ (v:Option α) (l r:Tr α),(match p5 k 0 with
   |true=>some (Tr.nd x l r)
   |false=>match p5 (k % 2) 1 with
    |true=>match put d l (k / 2) x with|some l=>some (.nd v l r)|none=>none
    |false=>match put d r (k / 2-1) x with|some r=>some (.nd v l r)|none=>none)=some t'→∀j,t'.get j=if j=k then x else(Tr.nd v l r).get j:=by
   intro v l r h j
   split at h
   ·rename_i hk
    have hk:=p7 hk
    simp only[p0] at h
    subst h hk
    rw[Vc,Vc]
    by_cases hj:j=0
    ·rw[if_pos hj,if_pos hj]
    ·rw[if_neg hj,if_neg hj,if_neg hj]
   ·rename_i hk
    have hk:=pG hk
    split at h
    ·rename_i hk1
     have hk1:=p7 hk1
     split at h<;>simp only[p0,reduceCtorEq] at h
     rename_i l' hl
     subst h
     have ih:=put_get d l (k / 2) x l' hl
     rw[Vc,Vc,ih]
     by_cases hj:j=k
     ·subst hj;rw[if_neg hk,if_pos hk1,if_pos rfl,if_pos rfl]
     ·rw[if_neg hj]
      by_cases h0:j=0
      ·rw[if_pos h0,if_pos h0]
      ·rw[if_neg h0,if_neg h0]
       by_cases h1:j % 2=1
       ·rw[if_pos h1,if_pos h1,if_neg (by omega)]
       ·rw[if_neg h1,if_neg h1]
    ·rename_i hk1
     have hk1:=pG hk1
     split at h<;>simp only[p0,reduceCtorEq] at h
     rename_i r' hr
     subst h
     have ih:=put_get d r (k / 2-1) x r' hr
     rw[Vc,Vc,ih]
     by_cases hj:j=k
     ·subst hj;rw[if_neg hk,if_neg hk1,if_pos rfl,if_pos rfl]
     ·rw[if_neg hj]
      by_cases h0:j=0
      ·rw[if_pos h0,if_pos h0]
      ·rw[if_neg h0,if_neg h0]
       by_cases h1:j % 2=1
       ·rw[if_pos h1,if_pos h1]
       ·rw[if_neg h1,if_neg h1,if_neg (by omega)]
  cases t with
  |nil=>
   intro j
   have hn:(Tr.nil:Tr α).get j=(Tr.nd none .nil .nil).get j:=by rw[Vc];simp[get]
   rw[hn]
   exact key none .nil .nil (by unfold put at h;exact h) j
  |nd v l r=>exact key v l r (by unfold put at h;exact h)
end Tr
theorem zij{i j:Id}{k:Nat}(hi:hix i=some k)(hj:hix j=some k):i=j:=by
 obtain⟨a,b⟩:=i
 obtain⟨c,d⟩:=j
 unfold hix at hi hj
 simp only at hi hj
 split at hi<;>split at hj<;>simp only[p0,reduceCtorEq] at hi hj
 all_goals first|(exfalso;omega)|(have:a=c:=(by omega);subst this;rfl)
theorem uj{t t':Tr ABlock}{id:Id}{b:Option ABlock}(h:t.sat id b=some t')(j:Id):t'.at j=if j=id then b else t.at j:=by
 unfold Tr.sat at h
 split at h<;>try (cases h;done)
 rename_i k hk
 have hp:=Tr.put_get _ _ _ _ _ h
 unfold Tr.at
 by_cases hj:j=id
 ·subst hj
  rw[hk,if_pos rfl]
  simp only
  rw[hp,if_pos rfl]
 ·rw[if_neg hj]
  cases hx:hix j with
  |none=>rfl
  |some k'=>
   simp only
   rw[hp,if_neg]
   rintro rfl
   exact hj (zij hx hk)
structure StR(D:Id→Option ABlock)(H:AHeap)(nn:Nat)(S:Sh):Prop where
 n:nn=S.n
 h:∀id b,S.t.at id=some b→H.get id=some b
 d:∀id b,D id=some b→H.get id=some b∧S.t.at id=none∧id.1<nn
variable {D:Id→Option ABlock} {H:AHeap} {n:Nat} {S S':Sh}
theorem StR.new{b:ABlock}(h:StR D H n S)(hs:S.new b=some S'):StR D (((n,0),b)::H) (n+1) S':=by
 unfold Sh.new at hs
 split at hs<;>simp only[p0,reduceCtorEq] at hs
 rename_i t ht
 subst hs
 refine⟨by simp[h.n],fun id c hc=>?_,fun id c hc=>?_⟩
 ·simp only at hc
  rw[uj ht] at hc
  by_cases hj:(n,0)=id
  ·subst hj;rw[AHeap.get_cons_same];rw[if_pos (by rw[h.n])] at hc;exact hc
  ·rw[AHeap.get_cons_other _ _ hj];rw[if_neg (by rw[←h.n];exact fun e=>hj e.symm)] at hc;exact h.h _ _ hc
 ·obtain⟨g1,g2,g3⟩:=h.d id c hc
  have hj:(n,0)≠id:=fun e=>by subst e;exact absurd g3 (Nat.lt_irrefl _)
  simp only
  rw[uj ht,AHeap.get_cons_other _ _ hj,if_neg (by rw[←h.n];exact fun e=>hj e.symm)]
  exact⟨g1,g2,by omega⟩
theorem StR.new2{b c:ABlock}(h:StR D H n S)(hs:S.new2 b c=some S'):StR D (((n,0),b)::((n,1),c)::H) (n+1) S':=by
 unfold Sh.new2 at hs
 split at hs<;>try (cases hs;done)
 rename_i t ht
 split at hs<;>simp only[p0,reduceCtorEq] at hs
 rename_i t' ht'
 subst hs
 refine⟨by simp[h.n],fun id u hu=>?_,fun id u hu=>?_⟩
 ·simp only at hu
  rw[uj ht',uj ht,←h.n] at hu
  by_cases hj:(n,0)=id
  ·subst hj;rw[AHeap.get_cons_same];rw[if_neg (by simp),if_pos rfl] at hu;exact hu
  ·rw[AHeap.get_cons_other _ _ hj]
   by_cases hj1:(n,1)=id
   ·subst hj1;rw[AHeap.get_cons_same];rw[if_pos rfl] at hu;exact hu
   ·rw[AHeap.get_cons_other _ _ hj1];rw[if_neg (fun e=>hj1 e.symm),if_neg (fun e=>hj e.symm)] at hu;exact h.h _ _ hu
 ·obtain⟨g1,g2,g3⟩:=h.d id u hu
  have hj:(n,0)≠id:=fun e=>by subst e;exact absurd g3 (Nat.lt_irrefl _)
  have hj1:(n,1)≠id:=fun e=>by subst e;exact absurd g3 (Nat.lt_irrefl _)
  simp only
  rw[uj ht',uj ht,←h.n,AHeap.get_cons_other _ _ hj,AHeap.get_cons_other _ _ hj1,if_neg (fun e=>hj1 e.symm),if_neg (fun e=>hj e.symm)]
  exact⟨g1,g2,by omega⟩
theorem StR.upd{id:Id}{b b0:ABlock}(h:StR D H n S)(h0:S.t.at id=some b0)(hs:S.upd id b=some S'):StR D (H.set id b) n S':=by
 unfold Sh.upd at hs
 split at hs<;>simp only[p0,reduceCtorEq] at hs
 rename_i t ht
 subst hs
 refine⟨h.n,fun j c hc=>?_,fun j c hc=>?_⟩
 ·simp only at hc
  rw[uj ht] at hc
  rw[AHeap.get_set]
  by_cases hj:id=j
  ·subst hj;rw[if_pos rfl] at hc ⊢;rw[h.h _ _ h0];exact hc
  ·rw[if_neg hj];rw[if_neg (fun e=>hj e.symm)] at hc;exact h.h _ _ hc
 ·obtain⟨g1,g2,g3⟩:=h.d j c hc
  have hj:id≠j:=fun e=>by subst e;rw[h0] at g2;cases g2
  simp only
  rw[uj ht,AHeap.get_set,if_neg hj,if_neg (fun e=>hj e.symm)]
  exact⟨g1,g2,g3⟩
theorem StR.cut{id:Id}{b0:ABlock}(h:StR D H n S)(h0:S.t.at id=some b0)(hs:S.cut id=some S'):StR D (H.del id) n S':=by
 unfold Sh.cut at hs
 split at hs<;>simp only[p0,reduceCtorEq] at hs
 rename_i t ht
 subst hs
 refine⟨h.n,fun j c hc=>?_,fun j c hc=>?_⟩
 ·simp only at hc
  rw[uj ht] at hc
  rw[AHeap.get_del]
  by_cases hj:id=j
  ·subst hj;rw[if_pos rfl] at hc;cases hc
  ·rw[if_neg hj];rw[if_neg (fun e=>hj e.symm)] at hc;exact h.h _ _ hc
 ·obtain⟨g1,g2,g3⟩:=h.d j c hc
  have hj:id≠j:=fun e=>by subst e;rw[h0] at g2;cases g2
  simp only
  rw[uj ht,AHeap.get_del,if_neg hj,if_neg (fun e=>hj e.symm)]
  exact⟨g1,g2,g3⟩
theorem Sh.upd_at{id j:Id}{b c:ABlock}(hs:S.upd id b=some S')(hj:S.t.at j=some c):∃c',S'.t.at j=some c':=by
 unfold Sh.upd at hs
 split at hs<;>simp only[p0,reduceCtorEq] at hs
 rename_i t ht
 subst hs
 simp only
 rw[uj ht]
 split
 ·exact⟨_,rfl⟩
 ·exact⟨_,hj⟩
def HLe(h h':Hp):Prop:=∀id b,h id=some b→h' id=some b
theorem k7{h h':Hp}(hl:HLe h h'){ag:Bool}{n:Nat}:∀ {x v:AVal},Kk ag n h x=some v→Kk ag n h' x=some v:=by
 intro x v hx
 unfold Kk at hx ⊢
 split at hx
 ·exact hx
 ·rename_i b i off
  cases hb:h b with
  |none=>rw[hb] at hx;cases hx
  |some blk=>rw[hb] at hx;simp only[hl _ _ hb];exact hx
 ·cases hx
theorem z2l{h h':Hp}(hl:HLe h h'){len s:Nat}{x y v:AVal}(hx:Xr len s h x y=some v):Xr len s h' x y=some v:=by
 unfold Xr at hx ⊢
 split at hx
 ·rename_i b i k j
  cases hb:h b with
  |none=>rw[hb] at hx;cases hx
  |some blk=>rw[hb] at hx;simp only[hl _ _ hb];exact hx
 ·cases hx
theorem Kt{h h':Hp}(hl:HLe h h'){len s:Nat}{x v:AVal}(hx:z7l len s h x=some v):z7l len s h' x=some v:=by
 unfold z7l at hx ⊢
 split at hx
 ·rename_i b i
  cases hb:h b with
  |none=>rw[hb] at hx;cases hx
  |some blk=>rw[hb] at hx;simp only[hl _ _ hb];exact hx
 ·cases hx
theorem z3y{h h':Hp}(hl:HLe h h'){ks:List CK}{ka g ok:Bool}{zs:List AVal}{k x v:AVal}(hx:U8 ks ka g ok zs h k x=some v):U8 ks ka g ok zs h' k x=some v:=by
 unfold U8 at hx ⊢
 split at hx
 ·exact hx
 ·rename_i b
  cases hb:h b with
  |none=>rw[hb] at hx;cases hx
  |some blk=>rw[hb] at hx;simp only[hl _ _ hb];exact hx
 ·cases hx
theorem z8e{h h':Hp}(hl:HLe h h'){x v:AVal}(hx:z8a h x=some v):z8a h' x=some v:=by
 unfold z8a at hx ⊢
 split at hx
 ·exact hx
 ·rename_i b
  cases hb:h b with
  |none=>rw[hb] at hx;cases hx
  |some blk=>rw[hb] at hx;simp only[hl _ _ hb];exact hx
 ·cases hx
theorem Zy{h h':Hp}(hl:HLe h h'){s:Nat}{x:AVal}{v:List (List AVal)}(hx:Zt h s x=some v):Zt h' s x=some v:=by
 unfold Zt at hx ⊢
 split at hx
 case h_3 b s' off len f=>
  cases hb:h b with
  |none=>rw[hb] at hx;cases hx
  |some blk=>rw[hb] at hx;simp only[hl _ _ hb];exact hx
 all_goals first|exact hx|cases hx
theorem wm{α β:Type}{o:Option α}{f f':α→Option β}{v:β}(hx:o.bind f=some v)(hf:∀a,f a=some v→f' a=some v):o.bind f'=some v:=by
 cases o with
 |none=>cases hx
 |some a=>exact hf a hx
theorem Uj{h h':Hp}(hl:HLe h h'){g:Nat→AVal}{op:LOp}{v:AVal}(hx:z43 g h op=some v):z43 g h' op=some v:=by
 unfold z43 at hx ⊢
 split at hx
 case h_4=>exact wm hx fun a h=>k7 hl h
 case h_14=>exact wm hx fun a h=>Kt hl h
 all_goals first
  |exact hx
  |exact wm hx fun a h=>z8e hl h
  |exact wm hx fun a h=>wm h fun b h=>z2l hl h
  |exact wm hx fun a h=>wm h fun b h=>z3y hl h
  |exact wm hx fun a h=>k7 hl h
  |exact wm hx fun a h=>Kt hl h
  |cases hx
theorem Yz{h h':Hp}(hl:HLe h h'){g:Nat→AVal}{lo:LOper}{v:AVal}(hx:Yo g h lo=some v):Yo g h' lo=some v:=by
 unfold Yo at hx ⊢
 split at hx
 ·exact Uj hl hx
 ·split at hx
  ·split at hx<;>try (cases hx;done)
   rename_i v' hv
   rw[Uj hl hv]
   exact hx
  ·exact hx
  ·cases hx
theorem Wu{h h':Hp}(hl:HLe h h'){lo:List Nat}:∀ {d:List (Nat×LOper×Env×AVal)},Vd h lo d=true→Vd h' lo d=true
 |[],_=>rfl
 |(p,o,e,v)::r,hx=>by
  unfold Vd at hx ⊢
  simp only[p4] at hx ⊢
  refine⟨?_,Wu hl hx.2⟩
  have h1:=hx.1
  split at h1
  ·split at h1
   ·rename_i u hu
    rw[Yz hl hu]
    exact h1
   ·cases h1
  ·rfl
theorem zbt{h h':Hp}(hl:HLe h h'){e:Ev}{r:LRes}{v:AVal}(hx:zim e h r=some v):zim e h' r=some v:=by
 unfold zim at hx ⊢
 split at hx
 ·exact hx
 ·split at hx
  ·exact k7 hl hx
  ·cases hx
theorem Z5{a b:IntKind}:Ka a b=true↔a=b:=by cases a<;>cases b<;>decide
theorem wh{a b:Int}:ile a b=true↔a≤b:=by simp[ile]
theorem Wp{a b:Int}:ilt a b=true↔a<b:=by simp[ilt]
theorem zl{a b:Nat}:p5 a b=true↔a=b:=⟨p7,fun h=>by subst h;exact Nat.beq_refl a⟩
theorem x3{a b:Nat}:p6 a b=true↔a≤b:=by rw[Nat.ble_eq]
theorem ug{p:Bool}{v y:AVal}(h:ck p v=some y):p=true∧v=y:=by
 unfold ck at h
 split at h<;>simp only[p0,reduceCtorEq] at h
 exact⟨rfl,h⟩
def XOk(x:XR)(y:AVal):Prop:=∃s,x=.ok s y∧s
theorem XOk.of{x:XR}{s:Prop}{y:AVal}(h:x=.ok s y)(hs:s):XOk x y:=⟨s,h,hs⟩
theorem XOk.and{x:XR}{p:Prop}{y:AVal}(h:XOk x y)(hp:p):XOk (x.and p) y:=by
 obtain⟨s,rfl,hs⟩:=h
 exact⟨p∧s,rfl,hp,hs⟩
theorem zh6{op:BinOp}{a b y:AVal}(h:znb op a b=some y):XOk (za3 op a b) y:=by
 unfold znb at h
 split at h
 ·unfold za3
  cases op<;>simp only at h ⊢<;>(obtain⟨h1,rfl⟩:=ug h;refine⟨_,rfl,?_⟩) <;>
   simp only[p4,Z5,wh,Bool.not_eq_true',decide_eq_false_iff_not] at h1<;>exact h1
 ·unfold za3
  cases op<;>first
   |(cases h;done)
   |(obtain⟨h1,rfl⟩:=ug h;exact⟨_,rfl,wh.1 h1⟩)
   |(simp only[p0] at h;subst h;exact⟨_,rfl,trivial⟩)
 ·cases h
theorem zki{op:UnOp}{a y:AVal}(h:bun op a=some y):XOk (xun op a) y:=by
 unfold bun at h
 split at h
 ·unfold xun
  split at h<;>simp only[p0,reduceCtorEq] at h
  subst h;exact⟨_,rfl,trivial⟩
 ·unfold xun
  split at h<;>simp only[p0,reduceCtorEq] at h<;>(subst h;exact⟨_,rfl,trivial⟩)
 ·cases h
theorem z7r{k:CK}{x y:AVal}{b:Bool}(h:z52 k x y=some b):u5 k x y=some b:=by
 unfold z52 at h
 split at h
 ·split at h<;>simp only[p0,reduceCtorEq] at h
  rename_i hk
  subst h
  simp[u5,Z5.1 hk]
 ·simpa[u5] using h
 ·simpa[u5] using h
 ·cases h
theorem kf:∀ {ks:List CK} {xs ys:List AVal} {b:Bool},vr ks xs ys=some b→y6 ks xs ys=some b
 |[],[],[],b,h=>by simpa[vr,y6] using h
 |k::ks,x::xs,y::ys,b,h=>by
  unfold vr at h
  split at h<;>try (cases h;done)
  rename_i a ha
  split at h<;>try (cases h;done)
  rename_i c hc
  unfold y6
  rw[z7r ha,kf hc]
  exact h
 |[],[],_::_,_,h=>by cases h
 |[],_::_,_,_,h=>by cases h
 |_::_,[],_,_,h=>by cases h
 |_::_,_::_,[],_,h=>by cases h
theorem zdh{x y:AVal}{b:Bool}(h:ziq x y=some b):XOk (J9 x y) (.bool b):=by
 unfold ziq at h
 split at h
 ·simp only[p0] at h;subst h;exact⟨_,rfl,trivial⟩
 ·rename_i len _
  cases hz:p5 len 0<;>rw[hz] at h<;>simp only[p0,reduceCtorEq] at h
  subst h;exact⟨_,rfl,pG hz⟩
 ·rename_i len _
  cases hz:p5 len 0<;>rw[hz] at h<;>simp only[p0,reduceCtorEq] at h
  subst h;exact⟨_,rfl,pG hz⟩
 ·rename_i es _
  cases es<;>simp only[p0,reduceCtorEq] at h
  subst h;exact⟨_,rfl,by simp⟩
 ·rename_i es _
  cases es<;>simp only[p0,reduceCtorEq] at h
  subst h;exact⟨_,rfl,by simp⟩
 ·cases h
theorem zgz{k:EqK}{x y:AVal}{b:Bool}(h:zmq k x y=some b):XOk (zbw k x y) (.bool b):=by
 unfold zmq at h
 unfold zbw
 split at h
 ·split at h<;>simp only[p0,reduceCtorEq] at h
  subst h;exact⟨_,rfl,trivial⟩
 ·simp only
  unfold zgd at h
  split at h<;>simp only[p0,reduceCtorEq] at h<;>(subst h;exact⟨_,rfl,trivial⟩)
 ·simp only
  exact zdh h
 ·simp only
  unfold zgg at h
  split at h<;>simp only[p0,reduceCtorEq] at h<;>(subst h;exact⟨_,rfl,trivial⟩)
 ·simp only
  split at h<;>try (cases h;done)
  simp only[za2,kf h]
  exact⟨_,rfl,trivial⟩
 ·simp only
  unfold zbk at h
  split at h<;>simp only[p0,reduceCtorEq] at h<;>(subst h;exact⟨_,rfl,trivial⟩)
 ·simp only
  unfold zbl at h
  split at h<;>simp only[p0,reduceCtorEq] at h<;>(subst h;exact⟨_,rfl,trivial⟩)
 ·cases h
theorem zhu{neg:Bool}{k:EqK}{x y z:AVal}(h:zmp neg k x y=some z):XOk (xeq neg k x y) z:=by
 unfold zmp at h
 split at h<;>simp only[p0,reduceCtorEq] at h
 rename_i b hb
 obtain⟨s,h1,h2⟩:=zgz hb
 unfold xeq
 subst h
 cases neg with
 |true=>simp only[if_true,h1,XR.neg];exact⟨_,rfl,h2⟩
 |false=>simp only[pE,if_false,h1];exact⟨_,rfl,h2⟩
theorem Xm{ag:Bool}{m:Nat}{x y:AVal}(h:Kk ag m H.get x=some y):XOk (Jv ag m H x) y:=by
 unfold Kk at h
 unfold Jv
 split at h
 ·obtain⟨h1,rfl⟩:=ug h
  simp only[p4,x3] at h1
  exact⟨_,rfl,h1⟩
 ·rename_i b i off
  simp only
  split at h<;>try (cases h;done)
  ·rename_i hg
   obtain⟨h1,rfl⟩:=ug h
   simp only[p4,x3] at h1
   rw[hg]
   exact⟨_,rfl,h1⟩
  ·rename_i hg
   obtain⟨h1,rfl⟩:=ug h
   simp only[p4,x3,zl] at h1
   rw[hg]
   exact⟨_,rfl,h1⟩
 ·cases h
theorem zbh{off:Nat}{x y:AVal}(h:zd3 off x=some y):XOk (U7 off x) y:=by
 unfold zd3 at h
 split at h<;>simp only[p0,reduceCtorEq] at h<;>(subst h;exact⟨_,rfl,trivial⟩)
theorem z8p{ag:Bool}{m off:Nat}{x y:AVal}(h:zb0 ag m off x=some y):XOk (U3 ag m off x) y:=by
 unfold zb0 at h
 split at h<;>try (cases h;done)
 obtain⟨h1,rfl⟩:=ug h
 exact⟨_,rfl,x3.1 h1⟩
theorem z10{s:Nat}{x i y:AVal}(h:z6s s x i=some y):XOk (Va s x i) y:=by
 unfold z6s at h
 split at h<;>try (cases h;done)
 all_goals
  obtain⟨h1,rfl⟩:=ug h
  simp only[p4,zl,wh,Wp,and_assoc] at h1
  exact⟨_,rfl,h1⟩
theorem z7w{len s:Nat}{x i y:AVal}(h:z3l len s x i=some y):XOk (Wj len s x i) y:=by
 unfold z3l at h
 split at h<;>try (cases h;done)
 all_goals
  obtain⟨h1,rfl⟩:=ug h
  simp only[p4,wh,Wp] at h1
  exact⟨_,rfl,h1⟩
theorem z8b{len s:Nat}{x i y:AVal}(h:Xr len s H.get x i=some y):XOk (Q1 len s H x i) y:=by
 unfold Xr at h
 split at h<;>try (cases h;done)
 split at h<;>try (cases h;done)
 rename_i hg
 obtain⟨h1,rfl⟩:=ug h
 simp only[p4,zl,wh,Wp,and_assoc] at h1
 simp only[Q1,hg]
 exact⟨_,rfl,h1⟩
theorem zdu{len s:Nat}{x y:AVal}(h:z7l len s H.get x=some y):XOk (z84 len s H x) y:=by
 unfold z7l at h
 split at h<;>try (cases h;done)
 split at h<;>try (cases h;done)
 rename_i hg
 obtain⟨h1,rfl⟩:=ug h
 simp only[p4,zl,x3] at h1
 simp only[z84,hg]
 exact⟨_,rfl,h1⟩
theorem zel{x i y:AVal}(h:zgx x i=some y):XOk (z9y x i) y:=by
 unfold zgx at h
 split at h<;>try (cases h;done)
 obtain⟨h1,rfl⟩:=ug h
 simp only[p4,wh,Wp] at h1
 exact⟨_,rfl,h1⟩
theorem zeo{len s:Nat}{ag:Bool}{x i y:AVal}(h:zgk len s ag x i=some y):XOk (zbu len s ag x i) y:=by
 unfold zgk at h
 split at h<;>try (cases h;done)
 obtain⟨h1,rfl⟩:=ug h
 simp only[p4,wh,Wp,x3,and_assoc] at h1
 exact⟨_,rfl,h1⟩
theorem zhx{k:Nat}{x y:AVal}(h:znj k x=some y):XOk (zja k x) y:=by
 unfold znj at h
 split at h<;>try (cases h;done)
 obtain⟨h1,rfl⟩:=ug h
 exact⟨_,rfl,x3.1 h1⟩
theorem ze1{x y:AVal}(h:zhs x=some y):XOk (z83 x) y:=by
 unfold zhs at h
 split at h<;>simp only[p0,reduceCtorEq] at h
 subst h;exact⟨_,rfl,trivial⟩
theorem z62{x y:AVal}(h:zdf x=some y):XOk (z3j x) y:=by
 unfold zdf at h
 split at h<;>simp only[p0,reduceCtorEq] at h<;>(subst h;exact⟨_,rfl,trivial⟩)
theorem zcg{x y:AVal}(h:z9s x=some y):XOk (Ky x) y:=by
 unfold z9s at h
 split at h<;>simp only[p0,reduceCtorEq] at h<;>(subst h;exact⟨_,rfl,trivial⟩)
variable {e:Env}
theorem zm{x:LOpd}{v:AVal}(h:jy e.get x=some v):x.ev e=v∧x.need e:=by
 cases x with
 |c u=>simp only[jy,p0] at h;exact⟨h,trivial⟩
 |t i=>
  simp only[jy] at h
  show(e.get i).strip=v∧(e.get i).need
  split at h
  ·rename_i u hu
   simp only[p0] at h
   rw[hu]
   exact⟨h,rfl⟩
  ·cases h
  ·rename_i h1 h2
   simp only[p0] at h
   cases hg:e.get i with
   |cnd p u=>
    cases p with
    |true=>exact absurd hg (h1 u)
    |false=>exact absurd hg (h2 u)
   |_=>rw[hg] at h;subst h;exact⟨rfl,trivial⟩
theorem Yb:∀ {xs:List LOpd} {vs:List AVal},Ur e.get xs=some vs→evs e xs=vs∧Xj e xs
 |[],vs,h=>by simp only[Ur,p0] at h;exact⟨h,trivial⟩
 |x::xs,vs,h=>by
  unfold Ur at h
  split at h<;>try (cases h;done)
  rename_i a ha
  split at h<;>simp only[p0,reduceCtorEq] at h
  rename_i l hl
  obtain⟨h1,h2⟩:=zm ha
  obtain⟨h3,h4⟩:=Yb hl
  exact⟨by unfold evs;rw[h1,h3];exact h,h2,h4⟩
theorem jq{d:Nat}{o:Option LOpd}{j:Int}(h:ui e.get d o=some j):qv e d o=some j∧ku e o:=by
 cases o with
 |none=>simp only[ui,p0] at h;exact⟨by simp[qv,h],trivial⟩
 |some x=>
  simp only[ui] at h
  split at h<;>simp only[p0,reduceCtorEq] at h
  rename_i k z hx
  obtain⟨h1,h2⟩:=zm hx
  subst h
  exact⟨by simp only[qv,h1],h2⟩
theorem zbd{lo hi:Option LOpd}{x y:AVal}(h:zc4 e.get lo hi x=some y):XOk (Kp (fun d=>qv e d lo) (fun d=>qv e d hi) x) y∧ku e lo∧ku e hi:=by
 unfold zc4 at h
 split at h<;>try (cases h;done)
 split at h<;>try (cases h;done)
 rename_i a b ha hb
 obtain⟨h1,rfl⟩:=ug h
 obtain⟨ha1,ha2⟩:=jq ha
 obtain⟨hb1,hb2⟩:=jq hb
 simp only[p4,wh,and_assoc] at h1
 refine⟨?_,ha2,hb2⟩
 simp only[Kp,ha1,hb1]
 exact⟨_,rfl,h1⟩
theorem zf2{s:Nat}{lo hi mx:Option LOpd}{x y:AVal}(h:ziu e.get s lo hi mx x=some y)(kp:Bool):XOk (zd4 s (fun d=>qv e d lo) (fun d=>qv e d hi) (z0y e mx) kp x) y∧ku e lo∧ku e hi∧ku e mx:=by
 unfold ziu at h
 split at h
 ·split at h<;>try (cases h;done)
  rename_i a b ha hb
  obtain⟨ha1,ha2⟩:=jq ha
  obtain⟨hb1,hb2⟩:=jq hb
  split at h
  ·obtain⟨h1,rfl⟩:=ug h
   simp only[p4,zl,wh,and_assoc] at h1
   refine⟨?_,ha2,hb2,trivial⟩
   simp only[zd4,Up,ha1,hb1,z0y]
   exact⟨_,rfl,h1⟩
  ·split at h<;>try (cases h;done)
   rename_i z hz
   obtain⟨hz1,hz2⟩:=jq hz
   obtain⟨h1,rfl⟩:=ug h
   simp only[p4,zl,wh,and_assoc] at h1
   refine⟨?_,ha2,hb2,hz2⟩
   simp only[zd4,Up,ha1,hb1,z0y,hz1]
   exact⟨_,rfl,h1⟩
 ·split at h<;>try (cases h;done)
  rename_i a b ha hb
  obtain⟨ha1,ha2⟩:=jq ha
  obtain⟨hb1,hb2⟩:=jq hb
  split at h
  ·obtain⟨h1,rfl⟩:=ug h
   simp only[p4,zl,wh,and_assoc] at h1
   refine⟨?_,ha2,hb2,trivial⟩
   simp only[zd4,Up,ha1,hb1,z0y]
   exact⟨_,rfl,h1⟩
  ·split at h<;>try (cases h;done)
   rename_i z hz
   obtain⟨hz1,hz2⟩:=jq hz
   obtain⟨h1,rfl⟩:=ug h
   simp only[p4,zl,wh,and_assoc] at h1
   refine⟨?_,ha2,hb2,hz2⟩
   simp only[zd4,Up,ha1,hb1,z0y,hz1]
   exact⟨_,rfl,h1⟩
 ·split at h<;>try (cases h;done)
  rename_i a b ha hb
  obtain⟨ha1,ha2⟩:=jq ha
  obtain⟨hb1,hb2⟩:=jq hb
  obtain⟨h1,rfl⟩:=ug h
  simp only[p4,decide_eq_true_eq] at h1
  refine⟨?_,ha2,hb2,trivial⟩
  simp only[zd4,Up,ha1,hb1,z0y]
  exact⟨_,rfl,h1⟩
 ·cases h
theorem z1k:∀ {ps:List (Nat×Nat×AVal)} {cells:List AVal} {y:AVal},z29 cells ps=some y→XOk (u0 cells ps) y
 |[],cells,y,h=>by simp only[z29,p0] at h;subst h;exact⟨_,rfl,trivial⟩
 |(off,m,x)::r,cells,y,h=>by
  unfold z29 at h
  split at h<;>try (cases h;done)
  rename_i cs hc
  split at h<;>try (cases h;done)
  rename_i hb
  simp only[p4,zl,x3] at hb
  obtain⟨s,h1,h2⟩:=z1k h
  simp only[u0,hc,h1]
  exact⟨_,rfl,hb.1,hb.2,h2⟩
theorem z1j:∀ {ps:List (Nat×Nat×LOpd)} {l:List (Nat×Nat×AVal)},z3d e.get ps=some l→jk e ps=l∧j7 e ps
 |[],l,h=>by simp only[z3d,p0] at h;exact⟨h,trivial⟩
 |(o,m,x)::r,l,h=>by
  unfold z3d at h
  split at h<;>try (cases h;done)
  rename_i a ha
  split at h<;>simp only[p0,reduceCtorEq] at h
  rename_i l' hl
  obtain⟨h1,h2⟩:=zm ha
  obtain⟨h3,h4⟩:=z1j hl
  exact⟨by unfold jk;rw[h1,h3];exact h,h2,h4⟩
theorem zbg{mx:Bool}:∀ {l:List AVal} {v y:AVal},zib mx v l=some y→XOk (z8v mx v l) y
 |[],v,y,h=>by
  cases v<;>simp only[zib,p0] at h<;>(subst h;exact⟨_,rfl,trivial⟩)
 |x::r,v,y,h=>by
  cases v<;>try (simp[zib] at h;done)
  cases x<;>try (simp[zib] at h;done)
  simp only[zib] at h
  split at h<;>try (cases h;done)
  rename_i hk
  obtain⟨s,h1,h2⟩:=zbg h
  simp only[z8v,h1]
  exact⟨_,rfl,Z5.1 hk,h2⟩
theorem zes{mx:Bool}{l:List AVal}{y:AVal}(h:zi4 mx l=some y):XOk (z99 mx l) y:=by
 unfold zi4 at h
 split at h<;>try (cases h;done)
 exact zbg h
theorem Xk{ks:List CK}{ka:Bool}{k:AVal}(h:Ub ks ka k=true):Zm ks ka k=true:=by
 unfold Ub at h
 unfold Zm
 simp only[p4] at h ⊢
 refine⟨h.1,?_⟩
 cases hc:vr ks (qb k) (qb k) with
 |none=>rw[hc] at h;cases h.2
 |some b=>rw[kf hc];rfl
theorem u9{ks:List CK}{k k':AVal}{b:Bool}(h:z2o ks k k'=some b):W1 ks k k'=some b:=by
 unfold z2o at h
 unfold W1
 split at h<;>try (cases h;done)
 ·rename_i h1 h2;rw[h1,h2];exact kf h
 ·rename_i h1 h2;rw[h1,h2];exact kf h
theorem z23{ks:List CK}{k:AVal}:∀ {es:List (AVal×AVal)} {r:Option AVal},z69 ks k es=some r→Ki ks k es=some r
 |[],r,h=>h
 |(k',x)::es,r,h=>by
  unfold z69 at h
  unfold Ki
  split at h<;>try (cases h;done)
  ·rename_i hk;rw[u9 hk];exact h
  ·rename_i hk;rw[u9 hk];exact z23 h
theorem z6n{ks:List CK}{k x:AVal}:∀ {es r:List (AVal×AVal)},zfc ks k x es=some r→zeq ks k x es=some r
 |[],r,h=>h
 |(k',y)::es,r,h=>by
  unfold zfc at h
  unfold zeq
  split at h<;>try (cases h;done)
  ·rename_i hk;rw[u9 hk];exact h
  ·rename_i hk
   rw[u9 hk]
   split at h<;>simp only[p0,reduceCtorEq] at h
   rename_i l hl
   subst h
   simp only[z6n hl,pK]
theorem z36{ks:List CK}{k:AVal}:∀ {es r:List (AVal×AVal)},z6t ks k es=some r→z0x ks k es=some r
 |[],r,h=>h
 |(k',y)::es,r,h=>by
  unfold z6t at h
  unfold z0x
  split at h<;>try (cases h;done)
  ·rename_i hk;rw[u9 hk];exact h
  ·rename_i hk
   rw[u9 hk]
   split at h<;>simp only[p0,reduceCtorEq] at h
   rename_i l hl
   subst h
   simp only[z36 hl,pK]
theorem zah{ks:List CK}{ka ag ok:Bool}{zs:List AVal}{k x y:AVal}(h:U8 ks ka ag ok zs H.get k x=some y):XOk (Ji ks ka ag ok zs H k x) y:=by
 unfold U8 at h
 split at h
 ·obtain⟨h1,rfl⟩:=ug h
  simp only[Ji,Xk h1,if_true]
  exact⟨_,rfl,trivial⟩
 ·split at h<;>try (cases h;done)
  rename_i hg
  split at h<;>try (cases h;done)
  rename_i hk
  split at h<;>simp only[p0,reduceCtorEq] at h
  rename_i r hr
  subst h
  simp only[Ji,hg,Xk hk,if_true,z23 hr]
  exact⟨_,rfl,rfl⟩
 ·cases h
theorem zdj{x y:AVal}(h:z8a H.get x=some y):XOk (z41 H x) y:=by
 unfold z8a at h
 split at h
 ·simp only[p0] at h;subst h;exact⟨_,rfl,trivial⟩
 ·split at h<;>simp only[p0,reduceCtorEq] at h
  rename_i hg
  subst h
  simp only[z41,hg]
  exact⟨_,rfl,trivial⟩
 ·cases h
theorem ju{α γ:Type}{x:Option α}{f:α→Option γ}{o:γ}(h:x.bind f=some o):∃r,x=some r∧f r=some o:=by
 cases x with
 |none=>cases h
 |some r=>exact⟨r,rfl,h⟩
theorem W8{op:LOp}{v:AVal}(h:z43 e.get H.get op=some v):XOk (ji e H op) v:=by
 cases op<;>simp only[z43,reduceCtorEq] at h<;>simp only[ji]
 case mv x=>obtain⟨h1,h2⟩:=zm h;rw[h1];exact⟨_,rfl,h2⟩
 case pick c a b=>
  split at h<;>try (cases h;done)
  ·rename_i hc
   obtain⟨c1,c2⟩:=zm hc
   obtain⟨a1,a2⟩:=zm h
   rw[c1]
   subst a1;exact XOk.and (XOk.of rfl ⟨fun _=>a2,fun h=>by cases h⟩) c2
  ·rename_i hc
   obtain⟨c1,c2⟩:=zm hc
   obtain⟨a1,a2⟩:=zm h
   rw[c1]
   subst a1;exact XOk.and (XOk.of rfl ⟨fun h=>(by cases h),fun _=>a2⟩) c2
 case build zs parts=>
  obtain⟨ps,h1,h2⟩:=ju h
  obtain⟨p1,p2⟩:=z1j h1
  rw[p1]
  exact(z1k h2).and p2
 case load ag m a=>obtain⟨x,h1,h2⟩:=ju h;obtain⟨p1,p2⟩:=zm h1;rw[p1];exact(Xm h2).and p2
 case nilck a=>obtain⟨x,h1,h2⟩:=ju h;obtain⟨p1,p2⟩:=zm h1;rw[p1];exact(zcg h2).and p2
 case bin op x y=>obtain⟨a,h1,h2⟩:=ju h;obtain⟨b,h3,h4⟩:=ju h2;obtain⟨p1,p2⟩:=zm h1;obtain⟨q1,q2⟩:=zm h3;rw[p1,q1];exact(zh6 h4).and ⟨p2,q2⟩
 case eq neg k x y=>obtain⟨a,h1,h2⟩:=ju h;obtain⟨b,h3,h4⟩:=ju h2;obtain⟨p1,p2⟩:=zm h1;obtain⟨q1,q2⟩:=zm h3;rw[p1,q1];exact(zhu h4).and ⟨p2,q2⟩
 case un op x=>obtain⟨a,h1,h2⟩:=ju h;obtain⟨p1,p2⟩:=zm h1;rw[p1];exact(zki h2).and p2
 case conv k x=>
  cases k with
  |int k=>
   simp only at h ⊢
   split at h<;>simp only[p0,reduceCtorEq] at h
   rename_i hx
   obtain⟨p1,p2⟩:=zm hx
   subst h
   simp only[p1]
   exact⟨_,rfl,p2⟩
  |same=>
   simp only at h ⊢
   split at h<;>simp only[p0,reduceCtorEq] at h
   rename_i hx
   obtain⟨p1,p2⟩:=zm hx
   subst h
   simp only[p1]
   exact⟨_,rfl,p2⟩
  |s2b vm=>cases h
  |b2s=>cases h
 case mkfn f a c=>
  obtain⟨aq,h1,h2⟩:=ju h
  obtain⟨cs,h3,h4⟩:=ju h2
  obtain⟨p1,p2⟩:=Yb h1
  obtain⟨q1,q2⟩:=Yb h3
  simp only[p0] at h4
  subst h4
  rw[p1,q1]
  exact⟨_,rfl,p2,q2⟩
 case slStr x lo hi=>obtain⟨a,h1,h2⟩:=ju h;obtain⟨p1,p2⟩:=zm h1;obtain⟨q1,q2⟩:=zbd h2;rw[p1];exact q1.and ⟨p2,q2⟩
 case slSl s x lo hi mx=>obtain⟨a,h1,h2⟩:=ju h;obtain⟨p1,p2⟩:=zm h1;obtain⟨q1,q2⟩:=zf2 h2 (hi.isNone&&mx.isNone);rw[p1];exact q1.and ⟨p2,q2⟩
 case slAr m s x=>obtain⟨a,h1,h2⟩:=ju h;obtain⟨p1,p2⟩:=zm h1;rw[p1];exact(zdu h2).and p2
 case faddr off x=>obtain⟨a,h1,h2⟩:=ju h;obtain⟨p1,p2⟩:=zm h1;rw[p1];exact(zbh h2).and p2
 case field ag m off x=>obtain⟨a,h1,h2⟩:=ju h;obtain⟨p1,p2⟩:=zm h1;rw[p1];exact(z8p h2).and p2
 case iaddr s x i=>obtain⟨a,h1,h2⟩:=ju h;obtain⟨b,h3,h4⟩:=ju h2;obtain⟨p1,p2⟩:=zm h1;obtain⟨q1,q2⟩:=zm h3;rw[p1,q1];exact(z10 h4).and ⟨p2,q2⟩
 case iaddrA m s x i=>obtain⟨a,h1,h2⟩:=ju h;obtain⟨b,h3,h4⟩:=ju h2;obtain⟨p1,p2⟩:=zm h1;obtain⟨q1,q2⟩:=zm h3;rw[p1,q1];exact(z7w h4).and ⟨p2,q2⟩
 case iaddrR m s x i=>obtain⟨a,h1,h2⟩:=ju h;obtain⟨b,h3,h4⟩:=ju h2;obtain⟨p1,p2⟩:=zm h1;obtain⟨q1,q2⟩:=zm h3;rw[p1,q1];exact(z8b h4).and ⟨p2,q2⟩
 case idxS x i=>obtain⟨a,h1,h2⟩:=ju h;obtain⟨b,h3,h4⟩:=ju h2;obtain⟨p1,p2⟩:=zm h1;obtain⟨q1,q2⟩:=zm h3;rw[p1,q1];exact(zel h4).and ⟨p2,q2⟩
 case idxA m s ag x i=>obtain⟨a,h1,h2⟩:=ju h;obtain⟨b,h3,h4⟩:=ju h2;obtain⟨p1,p2⟩:=zm h1;obtain⟨q1,q2⟩:=zm h3;rw[p1,q1];exact(zeo h4).and ⟨p2,q2⟩
 case ext k x=>obtain⟨a,h1,h2⟩:=ju h;obtain⟨p1,p2⟩:=zm h1;rw[p1];exact(zhx h2).and p2
 case len st x=>
  cases st with
  |true=>simp only at h ⊢;obtain⟨a,h1,h2⟩:=ju h;obtain⟨p1,p2⟩:=zm h1;rw[p1];exact(ze1 h2).and p2
  |false=>simp only at h ⊢;obtain⟨a,h1,h2⟩:=ju h;obtain⟨p1,p2⟩:=zm h1;rw[p1];exact(z62 h2).and p2
 case mnx m args=>obtain⟨a,h1,h2⟩:=ju h;obtain⟨p1,p2⟩:=Yb h1;rw[p1];exact(zes h2).and p2
 case mlook ks ka ag ok zs x k=>obtain⟨a,h1,h2⟩:=ju h;obtain⟨b,h3,h4⟩:=ju h2;obtain⟨p1,p2⟩:=zm h1;obtain⟨q1,q2⟩:=zm h3;rw[p1,q1];exact(zah h4).and ⟨p2,q2⟩
 case mlen x=>obtain⟨a,h1,h2⟩:=ju h;obtain⟨p1,p2⟩:=zm h1;rw[p1];exact(zdj h2).and p2
end Go.Fx
namespace Go.Fx
variable {P:Program}
section
variable {N:Lay}
theorem z1v{ι:Type}{n0:Nat}(pre:ι→Prop)(env:ι→Env)(L:ι→AHeap)(nn μ:ι→Nat){Q:Exit→Env→AHeap→Nat→Prop}{body:LCode}
 (round:∀x,pre x→LWp P N n0 body (fun ex e H n=>match ex with|.normal=>∃y,pre y∧μ y<μ x∧env y=e∧L y=H∧nn y=n|ex=>Q ex e H n) (env x) (L x) (nn x)) :
 ∀x,pre x→LWp P N n0 (.loop body) Q (env x) (L x) (nn x):=by
 intro x0 hx0 c hc ro hro J0 γ0 G0 w0 I β w a hX hI hE hN hD QQ hQ
 cases c with
 |loop c=>
  simp only[zh,Option.map_eq_some_iff] at hc
  obtain⟨b',hb,hc⟩:=hc
  simp only[LCode.loop.injEq] at hc
  subst hc
  let Inside:Nat→Act→World→Prop:=fun m a w=>∃x I β,μ x=m∧pre x∧Ext J0 γ0 n0 G0 w0 I β (nn x) (L x) w∧Inv I β (nn x) (L x) w∧RepEnv I β (nn x) w (env x) a∧a.tmps.size=N.n∧Dfr P w0.heap.size w a.defers
  let mu:Act→World→Nat:=fun a w=>by
   classical
   exact if h:∃m,Inside m a w then Classical.choose (w7 _ h) else 0
  have mu_spec:∀a w,(∃m,Inside m a w)→Inside (mu a w) a w∧∀k,k<mu a w→¬Inside k a w:=by
   intro a w h
   have:mu a w=Classical.choose (w7 _ h):=by simp only[mu];rw[dif_pos h]
   rw[this]
   exact Classical.choose_spec (w7 _ h)
  refine wpIn_loop (fun a w=>∃m,Inside m a w) mu ⟨_,x0,I,β,rfl,hx0,hX,hI,hE,hN,hD⟩ ?_
  intro a w h
  obtain⟨⟨x,I,β,hm,hp,k1,k2,k3,k4,k5⟩,_⟩:=mu_spec a w h
  refine round x hp c hb ro hro J0 γ0 G0 w0 I β w a k1 k2 k3 k4 k5 _ ?_
  intro ex e' H' n' I' β' w' a' g1 g2 g3 g4 g5 g6
  cases ex with
  |normal=>
   obtain⟨y,hy,hlt,rfl,rfl,rfl⟩:=g1
   have hin:Inside (μ y) a' w':=⟨y,_,_,rfl,hy,g6,g2,g3,g4,g5⟩
   refine⟨⟨_,hin⟩,?_⟩
   obtain⟨_,hleast⟩:=mu_spec a' w' ⟨_,hin⟩
   have:¬μ y<mu a' w':=fun h=>hleast _ h hin
   omega
  |_=>exact hQ _ _ _ _ _ _ _ _ g1 g2 g3 g4 g5 g6
 |skip=>cases hc
 |region id ops draw=>simp only[zh] at hc;split at hc<;>(try split at hc)<;>(try split at hc)<;>(try split at hc)<;>(try split at hc)<;>(first|(simp at hc;done)|(rcases j9 hc with⟨_,h⟩|⟨_,_,_,h⟩<;>cases h))
 |seq a b=>simp only[zh] at hc;split at hc<;>simp at hc
 |cond c a b=>simp only[zh] at hc;split at hc<;>simp at hc
 |block id c=>simp[zh] at hc
 |exit id=>cases hc
 |ret=>cases hc
 |rangeFunc g ps x y=>simp only[zh] at hc;split at hc<;>simp at hc
 |_=>cases hc
end
def Wc(ag:Bool)(s:Nat):LCode:=
 .seq (.region [⟨some 4,.load false 1 (.t 1),none⟩,⟨some 5,.len false (.t 4),none⟩,⟨some 6,.bin .sub (.t 5) (.c (.int .i64 1)),none⟩,⟨some 3,.mv (.t 6),none⟩])
 (.block 0 (.loop (.seq
  (.seq (.region [⟨some 7,.mv (.t 3),none⟩,⟨some 8,.bin .geq (.t 7) (.c (.int .i64 0)),none⟩]) (.cond (.t 8) .skip (.exit 0)))
  (.seq (.block 1 (.seq (.region [⟨some 11,.mv (.t 0),none⟩,⟨some 12,.mv (.t 3),none⟩,⟨some 13,.load false 1 (.t 1),none⟩,⟨some 14,.mv (.t 3),none⟩,⟨some 15,.iaddr s (.t 13) (.t 14),none⟩,⟨some 16,.load ag s (.t 15),none⟩,⟨some 17,.callv (.t 11) [.t 12,.t 16],none⟩,⟨some 18,.un .not (.t 17),none⟩])
   (.cond (.t 18) .ret .skip)))
   (.region [⟨some 9,.mv (.t 3),none⟩,⟨some 10,.bin .sub (.t 9) (.c (.int .i64 1)),none⟩,⟨some 3,.mv (.t 10),none⟩])))))
def AVal.plain(x:AVal):Prop:=x.strip=x∧x.need
theorem zjd{i:Nat}(h:i≤4611686018427387904):IntKind.i64.wrap ((i:Int)-1)=(i:Int)-1:=W2 (by omega) (by omega)
theorem Qv(k:IntKind)(z:Int):(AVal.int k z).strip=.int k z:=rfl
theorem z2q(b:Id)(i o:Nat):(AVal.ptr b i o).strip=.ptr b i o:=rfl
theorem zds(f:Fn)(a c:List AVal):(AVal.fn f a c).strip=.fn f a c:=rfl
theorem k9(b:Bool):(AVal.bool b).strip=.bool b:=rfl
theorem W9(k:IntKind)(z:Int):(AVal.int k z).need=True:=rfl
theorem z6y(b:Id)(i o:Nat):(AVal.ptr b i o).need=True:=rfl
theorem zhi(f:Fn)(a c:List AVal):(AVal.fn f a c).need=True:=rfl
theorem ua(b:Bool):(AVal.bool b).need=True:=rfl
theorem z8c{f:FuncId}{bm:List Nat}{L:LFn}(hL:ve P bm f=some L)(hok:Xp P f)(hn:2≤L.lay.n){ag:Bool}{s:Nat}(hb:L.body=Wc ag s)(hr:L.res=[]){l:Nat}{bx:Id}{K:AHeap→Nat→Prop}(G:Nat→AHeap→Nat→Prop)
 (hstep:∀i H n,G (i+1) H n→i<4611686018427387904∧∃sl p el,sl.plain∧p.plain∧el.plain∧XOk (Jv false 1 H (.ptr bx 0 0)) sl∧XOk (Va s sl.rd (.int .i64 (i:Int))) p∧XOk (Jv ag s H p) el ∧
  ACalls P (.yield l) [.int .i64 (i:Int),el] H n (fun v H' n'=>(v=.bool true∧G i H' n')∨(v=.bool false∧K H' n')))
 (hend:∀H n,G 0 H n→K H n) {len:Nat} {H:AHeap} {n:Nat} (hG:G len H n) (hlen:len≤4611686018427387904) {sl:AVal} (h1:sl.plain) (h2:XOk (Jv false 1 H (.ptr bx 0 0)) sl) (h3:XOk (z3j sl.rd) (.int .i64 (len:Int))) :
 ACalls P (.func f) [.fn (.yield l) [] [],.ptr bx 0 0] H n (fun _ H' n'=>K H' n'):=by
 refine ACalls.ofFnW hL hok (by simpa using hn) ?_
 rw[hb,hr]
 unfold Wc
 refine uz (ya (.region _) _ _ _ _ ?_)
 obtain⟨s1,e1,d1⟩:=h2
 obtain⟨s2,e2,d2⟩:=h3
 have h1a:=h1.1
 have h1b:=h1.2
 simp[Yi,Q7,x7,ji,LOpd.ev,LOpd.need,Env.get,Env.put,xm,Qv,z2q,W9,z6y,e1,XR.and,h1a,h1b,e2,za3,d1,d2]
 rw[zjd hlen]
 refine uc ?_
 refine z1v (ι:=Nat×Env×AHeap×Nat) (fun y=>y.1≤4611686018427387904∧G y.1 y.2.2.1 y.2.2.2∧y.2.1.get 3=.int .i64 ((y.1:Int)-1)∧y.2.1.get 0=.fn (.yield l) [] []∧y.2.1.get 1=.ptr bx 0 0) (fun y=>y.2.1) (fun y=>y.2.2.1) (fun y=>y.2.2.2) (fun y=>y.1) ?_ (len,_,H,n) ⟨hlen,hG,by simp[Env.get],by simp[Env.get],by simp[Env.get]⟩
 rintro⟨i,e,H,n⟩ ⟨hi,hG,q3,q0,q1⟩
 simp only at hi hG q3 q0 q1 ⊢
 refine uz (uz (ya (.region _) _ _ _ _ ?_))
 simp[Yi,Q7,x7,ji,LOpd.ev,LOpd.need,Env.get,Env.put,Qv,W9,XR.and,za3,q3]
 cases i with
 |zero=>
  refine kx (v:=false) (by simp[LOpd.ev,Env.get,k9]) (by simp[LOpd.need,Env.get,ua]) (fun h=>by cases h) (fun _=>ya (.exit 0) _ _ _ _ ?_)
  simp only[Q7,if_true]
  exact hend _ _ hG
 |succ i=>
  obtain⟨hi2,sl,p,el,hsl,hp,hel,⟨t1,k1,c1⟩,⟨t2,k2,c2⟩,⟨t3,k3,c3⟩,hcall⟩:=hstep _ _ _ hG
  refine kx (v:=true) (by simp[LOpd.ev,Env.get,k9];omega) (by simp[LOpd.need,Env.get,ua]) (fun _=>ya .skip _ _ _ _ ?_) (fun h=>by cases h)
  simp only[Q7]
  have a1:=hsl.1
  have a2:=hsl.2
  have a3:=hp.1
  have a4:=hp.2
  have a5:=hel.1
  have a6:=hel.2
  have hcast:((i+1:Nat):Int)-1=(i:Int):=by omega
  rw[hcast] at q3 ⊢
  refine uz (uc (uz (ya (.region _) _ _ _ _ ?_)))
  simp[Yi,Q7,x7,ji,jw,evs,Xj,LOpd.ev,LOpd.need,Env.get,Env.put,Qv,W9,z2q,z6y,zds,zhi,XR.and,q3,q0,q1,k1,c1,k2,c2,k3,c3,a1,a2,a3,a4,a5,a6]
  refine ACallsC.mono (f:=.yield l) (first:=[]) (caps:=[]) ⟨rfl,by simpa using hcall⟩ ?_
  rintro v H' n' (⟨rfl,hG'⟩|⟨rfl,hK⟩)
  ·simp[k9,ua,xun]
   refine kx (v:=false) (by simp[LOpd.ev,Env.get,k9]) (by simp[LOpd.need,Env.get,ua]) (fun h=>by cases h) (fun _=>ya .skip _ _ _ _ ?_)
   simp only[Q7]
   refine ya (.region _) _ _ _ _ ?_
   simp[Yi,Q7,x7,ji,LOpd.ev,LOpd.need,Env.get,Env.put,Qv,W9,XR.and,za3,q3]
   exact⟨i,_,_,_,⟨by omega,hG',by simp[Env.get];exact zjd (by omega),by simp[Env.get,q0],by simp[Env.get,q1]⟩,by omega,rfl,rfl,rfl⟩
  ·simp[k9,ua,xun]
   refine kx (v:=true) (by simp[LOpd.ev,Env.get,k9]) (by simp[LOpd.need,Env.get,ua]) (fun _=>ya .ret _ _ _ _ ?_) (fun h=>by cases h)
   simp only[Q7]
   exact hK
end Go.Fx
namespace Go.Fx
variable {D:Id→Option ABlock} {P:Program} {H:AHeap} {n:Nat} {S S':Sh} {e:Env}
abbrev KS(D:Id→Option ABlock)(v:AVal)(S':Sh):AVal→AHeap→Nat→Prop:=fun r H' n'=>r=v∧StR D H' n' S'
def Yl(P:Program)(C:Nat→List AVal→Sh→Rs):Prop:=
 ∀ (f:Nat) aq S r S',C f aq S=some (r,S')→∀ {D:Id→Option ABlock} H n,StR D H n S→ACalls P (.func f) aq H n (KS D r S')
theorem xg{v r:AVal}{o:Option Sh}(h:kv v o=some (r,S')):r=v∧o=some S':=by
 cases o with
 |none=>cases h
 |some S0=>
  simp only[kv,p0,pA] at h
  exact⟨h.1.symm,by rw[h.2]⟩
theorem StR.le(hs:StR D H n S):HLe S.t.at H.get:=hs.h
theorem J8{s:Nat}{x:AVal}{rows:List (List AVal)}(h:Zt H.get s x=some rows):∃p,vn H s x=some (p,rows)∧p:=by
 unfold Zt at h
 split at h
 ·split at h<;>simp only[p0,reduceCtorEq] at h
  rename_i hb
  subst h
  exact⟨_,rfl,zl.1 hb⟩
 ·split at h<;>simp only[p0,reduceCtorEq] at h
  rename_i hb
  subst h
  exact⟨_,rfl,zl.1 hb⟩
 ·split at h<;>try (cases h;done)
  rename_i hg
  split at h<;>simp only[p0,reduceCtorEq] at h
  rename_i hb
  subst h
  simp only[p4,zl,x3,and_assoc] at hb
  simp only[vn,hg]
  exact⟨_,rfl,hb⟩
 ·simp only[p0] at h
  subst h
  exact⟨_,rfl,trivial⟩
 ·split at h<;>simp only[p0,reduceCtorEq] at h
  rename_i hb
  subst h
  exact⟨_,rfl,zl.1 hb⟩
 ·cases h
theorem Jg:∀ {ps:List (Nat×AVal)} {rows rs:List (List AVal)},Xy rows ps=some rs→∃p,Zv rows ps=some (p,rs)∧p
 |[],rows,rs,h=>by simp only[Xy,p0] at h;subst h;exact⟨_,rfl,trivial⟩
 |(i,x)::r,rows,rs,h=>by
  unfold Xy at h
  split at h<;>try (cases h;done)
  rename_i cs hc
  split at h<;>try (cases h;done)
  rename_i hb
  simp only[p4,zl,x3] at hb
  obtain⟨p,h1,h2⟩:=Jg h
  simp only[Zv,hc,h1]
  exact⟨_,rfl,hb.1,hb.2,h2⟩
theorem z3h:∀ {ps:List (Nat×LOpd)} {l:List (Nat×AVal)},zj4 e.get ps=some l→evI e ps=l∧Kb e ps
 |[],l,h=>by simp only[zj4,p0] at h;exact⟨h,trivial⟩
 |(i,x)::r,l,h=>by
  unfold zj4 at h
  split at h<;>try (cases h;done)
  rename_i a ha
  split at h<;>simp only[p0,reduceCtorEq] at h
  rename_i l' hl
  obtain⟨h1,h2⟩:=zm ha
  obtain⟨h3,h4⟩:=z3h hl
  exact⟨by unfold evI;rw[h1,h3];exact h,h2,h4⟩
theorem Kz:∀ {rows:List (List AVal)},z0j rows=true→∀r∈rows,∃m,r=[.int .u8 m]
 |[],_,r,hr=>by cases hr
 |x::rows,h,r,hr=>by
  unfold z0j at h
  split at h
  ·cases ‹_::_=[]›
  ·rename_i k m r' heq
   simp only[List.cons.injEq] at heq
   obtain⟨rfl,rfl⟩:=heq
   simp only[p4,Z5] at h
   obtain⟨rfl,h2⟩:=h
   cases hr with
   |head=>exact⟨m,rfl⟩
   |tail _ hr=>exact Kz h2 r hr
  ·cases h
theorem zhv{s bytes:Nat}{x v:AVal}{rows2:List (List AVal)}(hs:StR D H n S)(h:zn9 s bytes S x rows2=some (v,S')):zdb s bytes H n (KS D v S') x rows2:=by
 unfold zn9 at h
 unfold zdb
 split at h
 ·simp only
  split at h
  ·simp only[p0,pA] at h
   obtain⟨rfl,rfl⟩:=h
   exact⟨fun _=>⟨rfl,hs⟩,fun hne=>absurd rfl hne⟩
  ·rename_i hne
   split at h<;>try (cases h;done)
   rename_i hb
   obtain⟨rfl,hw⟩:=xg h
   refine⟨fun he=>absurd he hne,fun _=>⟨x3.1 hb,by rw[hs.n],hs.new hw⟩⟩
 ·simp only
  split at h<;>try (cases h;done)
  rename_i he
  refine⟨zl.1 he,?_⟩
  split at h
  ·simp only[p0,pA] at h
   obtain⟨rfl,rfl⟩:=h
   exact⟨fun _=>⟨rfl,hs⟩,fun hne=>absurd rfl hne⟩
  ·rename_i hne
   split at h<;>try (cases h;done)
   rename_i hb
   simp only[p4,x3] at hb
   obtain⟨rfl,hw⟩:=xg h
   exact⟨fun he=>absurd he hne,fun _=>⟨hb.1,hb.2,by rw[hs.n],hs.new hw⟩⟩
 ·simp only
  split at h<;>try (cases h;done)
  rename_i hg
  rw[hs.h _ _ hg]
  simp only
  split at h<;>try (cases h;done)
  rename_i hb
  simp only[p4,zl,x3,and_assoc] at hb
  obtain⟨b1,b2,b3,b4⟩:=hb
  refine⟨b1,b2,b3,?_⟩
  split at h
  ·simp only[p0,pA] at h
   obtain⟨rfl,rfl⟩:=h
   exact⟨fun _ _=>⟨rfl,hs⟩,fun hne=>absurd rfl (hne rfl)⟩
  ·rename_i hne
   obtain⟨rfl,hw⟩:=xg h
   refine⟨fun _ he=>absurd he hne,fun _=>⟨b4,by rw[hs.n],?_⟩⟩
   rw[if_pos rfl]
   exact hs.new hw
  ·split at h<;>try (cases h;done)
   rename_i S1 hc
   obtain⟨rfl,hw⟩:=xg h
   have h1:=hs.cut hg hc
   refine⟨fun he=>(by cases he),fun _=>⟨b4,by rw[h1.n],?_⟩⟩
   rw[if_neg (by simp)]
   exact h1.new hw
 ·cases h
theorem zab{C:Nat→List AVal→Sh→Rs}(hC:Yl P C){op:LOp}{v:AVal}(hs:StR D H n S)(h:zmc C e.get S op=some (v,S')):jw P e H n (KS D v S') op:=by
 have hn:=hs.n
 unfold zmc at h
 split at h
 ·obtain⟨rfl,hw⟩:=xg h;exact⟨by rw[hn],hs.new hw⟩
 ·obtain⟨rfl,hw⟩:=xg h;exact⟨by rw[hn],hs.new hw⟩
 ·obtain⟨rfl,hw⟩:=xg h;rw[←hn] at hw;exact⟨by rw[hn],hs.new2 hw⟩
 ·split at h<;>try (cases h;done)
  rename_i a ha
  split at h<;>try (cases h;done)
  rename_i cs hc
  obtain⟨h1,h2⟩:=zm ha
  obtain⟨rfl,hw⟩:=xg h
  simp only[jw,h1,hc]
  exact⟨h2,by rw[hn],hs.new hw⟩
 ·split at h<;>try (cases h;done)
  rename_i ps hps
  split at h<;>try (cases h;done)
  rename_i rows hr
  split at h<;>try (cases h;done)
  rename_i hz
  obtain⟨rfl,hw⟩:=xg h
  obtain⟨h1,h2⟩:=z3h hps
  obtain⟨p,h3,h4⟩:=Jg hr
  simp only[jw,h1,h3]
  exact⟨zl.1 hz,h2,h4,_,.inr rfl,by rw[hn],hs.new hw⟩
 ·split at h<;>try (cases h;done)
  rename_i ps hps
  split at h<;>try (cases h;done)
  rename_i rows hr
  split at h<;>try (cases h;done)
  rename_i rows' him
  split at h<;>try (cases h;done)
  rename_i hz
  simp only[p0,pA] at h
  obtain⟨rfl,rfl⟩:=h
  obtain⟨h1,h2⟩:=z3h hps
  obtain⟨p,h3,h4⟩:=Jg hr
  simp only[jw,h1,h3,him]
  exact⟨zl.1 hz,h2,h4,rfl,hs⟩
 ·split at h<;>try (cases h;done)
  rename_i b i off ha
  split at h<;>try (cases h;done)
  rename_i y hy
  split at h<;>try (cases h;done)
  rename_i cs hc
  obtain⟨h1,h2⟩:=zm ha
  obtain⟨h3,h4⟩:=zm hy
  simp only[jw,h1,h3,hc]
  split at h<;>try (cases h;done)
  ·rename_i hg
   split at h<;>try (cases h;done)
   rename_i hb
   simp only[p4,zl,x3,and_assoc] at hb
   obtain⟨rfl,hw⟩:=xg h
   have hg':=hs.h _ _ hg
   simp only[hg']
   exact⟨h2,h4,hb.1,hb.2.1,hb.2.2,rfl,hs.upd hg hw⟩
  ·rename_i hg
   split at h<;>try (cases h;done)
   rename_i hb
   simp only[p4,zl,x3,and_assoc] at hb
   obtain⟨rfl,hw⟩:=xg h
   have hg':=hs.h _ _ hg
   simp only[hg']
   exact⟨h2,h4,hb.1,hb.2.1,hb.2.2,rfl,hs.upd hg hw⟩
 ·split at h<;>try (cases h;done)
  rename_i l ha
  obtain⟨h1,h2⟩:=zm ha
  obtain⟨rfl,hw⟩:=xg h
  simp only[jw,h1]
  exact⟨h2,by rw[hn],hs.new hw⟩
 ·split at h<;>try (cases h;done)
  rename_i a ha hne
  split at h<;>try (cases h;done)
  rename_i rows hr
  replace hr:=Zy hs.le hr
  split at h<;>simp only[p0,pA,reduceCtorEq] at h
  rename_i hb
  obtain⟨rfl,rfl⟩:=h
  obtain⟨h1,h2⟩:=zm hne
  obtain⟨p,h3,h4⟩:=J8 hr
  simp only[jw,h1,h3]
  refine⟨h2,fun l hl=>?_,h4,Kz hb,rfl,hs⟩
  subst hl
  exact ha l rfl
 ·split at h<;>try (cases h;done)
  rename_i l' c' hl hc
  split at h<;>try (cases h;done)
  rename_i hb
  simp only[p4,wh,and_assoc] at hb
  obtain⟨h1,h2⟩:=zm hl
  obtain⟨h3,h4⟩:=zm hc
  obtain⟨rfl,hw⟩:=xg h
  simp only[jw,h1,h3]
  exact⟨h2,h4,hb.1,hb.2.1,hb.2.2,_,.inr rfl,by rw[hn],hs.new hw⟩
 ·split at h<;>try (cases h;done)
  rename_i aq ha
  obtain⟨h1,h2⟩:=Yb ha
  simp only[jw,h1]
  exact⟨h2,hC _ _ _ _ _ h H n hs⟩
 ·split at h<;>try (cases h;done)
  rename_i f first caps hx
  split at h<;>try (cases h;done)
  rename_i aq ha
  obtain⟨h1,h2⟩:=zm hx
  obtain⟨h3,h4⟩:=Yb ha
  simp only[jw,h1,h3]
  exact⟨h2,h4,hC _ _ _ _ _ h H n hs⟩
 ·split at h<;>try (cases h;done)
  rename_i b hb
  split at h<;>try (cases h;done)
  rename_i rows2 hr
  replace hr:=Zy hs.le hr
  split at h<;>try (cases h;done)
  rename_i a ha
  obtain⟨h1,h2⟩:=zm hb
  obtain⟨h3,h4⟩:=zm ha
  obtain⟨p,h5,h6⟩:=J8 hr
  simp only[jw,h1,h3,h5]
  exact⟨h4,h2,h6,zhv hs h⟩
 ·split at h<;>try (cases h;done)
  rename_i b s' off len f hx
  split at h<;>try (cases h;done)
  rename_i y hy
  split at h<;>try (cases h;done)
  rename_i rows2 hr
  split at h<;>try (cases h;done)
  rename_i s'' es hg
  split at h<;>try (cases h;done)
  rename_i hb
  replace hr:=Zy hs.le hr
  simp only[p4,zl,x3,and_assoc] at hb
  obtain⟨h1,h2⟩:=zm hx
  obtain⟨h3,h4⟩:=zm hy
  obtain⟨p,h5,h6⟩:=J8 hr
  obtain⟨rfl,hw⟩:=xg h
  have hg':=hs.h _ _ hg
  simp only[jw,h1,h3,h5,hg']
  exact⟨h2,h4,h6,hb.1,hb.2.1,hb.2.2,rfl,hs.upd hg hw⟩
 ·obtain⟨rfl,hw⟩:=xg h;exact⟨by rw[hn],hs.new hw⟩
 ·split at h<;>try (cases h;done)
  rename_i b hm
  split at h<;>try (cases h;done)
  rename_i x hx
  split at h<;>try (cases h;done)
  rename_i y hy
  split at h<;>try (cases h;done)
  rename_i es hg
  split at h<;>try (cases h;done)
  rename_i k hk
  split at h<;>try (cases h;done)
  rename_i es' he
  split at h<;>try (cases h;done)
  rename_i ho
  obtain⟨h1,h2⟩:=zm hm
  obtain⟨h3,h4⟩:=zm hx
  obtain⟨h5,h6⟩:=zm hk
  obtain⟨rfl,hw⟩:=xg h
  have hg':=hs.h _ _ hg
  simp only[jw,h1,h3,hy,h5,hg',z6n he]
  exact⟨h2,h6,h4,Xk ho,rfl,hs.upd hg hw⟩
 ·split at h<;>try (cases h;done)
  rename_i b hm
  split at h<;>try (cases h;done)
  rename_i es hg
  split at h<;>try (cases h;done)
  rename_i k hk
  split at h<;>try (cases h;done)
  rename_i es' he
  split at h<;>try (cases h;done)
  rename_i ho
  obtain⟨h1,h2⟩:=zm hm
  obtain⟨h5,h6⟩:=zm hk
  obtain⟨rfl,hw⟩:=xg h
  have hg':=hs.h _ _ hg
  simp only[jw,h1,h5,hg',z36 he]
  exact⟨h2,h6,Xk ho,rfl,hs.upd hg hw⟩
 ·cases h
theorem z19{lo:LOper}{v:AVal}(h:Yo e.get H.get lo=some v):(Zp e H lo).gives v:=by
 unfold Yo at h
 unfold Zp
 cases hg:lo.guard with
 |none=>
  rw[hg] at h
  obtain⟨s,h1,h2⟩:=W8 h
  simp only[h1]
  exact⟨h2,.inl rfl⟩
 |some g=>
  obtain⟨q,want⟩:=g
  rw[hg] at h
  simp only[z0z] at h ⊢
  split at h
  ·rename_i hp
   simp only[hp]
   split at h<;>simp only[p0,reduceCtorEq] at h
   rename_i u hu
   subst h
   obtain⟨s,h1,h2⟩:=W8 hu
   rw[h1]
   exact⟨fun _=>h2,.inl rfl⟩
  ·rename_i hp
   simp only[hp]
   simp only[p0] at h
   subst h
   cases ji e H lo.op with
   |ok s u=>exact⟨fun h=>(by cases h),.inr (.inl ⟨.inr ⟨_,rfl⟩,.inl rfl⟩)⟩
   |bad=>exact⟨trivial,.inl rfl⟩
  ·cases h
theorem z6m{C:Nat→List AVal→Sh→Rs}(hC:Yl P C){lo:LOper}{v:AVal}(hs:StR D H n S)(h:zf7 C e.get S lo=some (v,S')):Wh P e H n (KS D v S') lo:=by
 unfold zf7 at h
 unfold Wh
 cases hg:lo.guard with
 |none=>
  rw[hg] at h
  exact zab hC hs h
 |some g=>
  obtain⟨q,want⟩:=g
  rw[hg] at h
  simp only[z0z] at h ⊢
  split at h
  ·rename_i hp
   simp only[hp]
   exact .inr ⟨fun _=>zab hC hs h,fun h=>by cases h⟩
  ·rename_i hp
   simp only[hp]
   simp only[p0,pA] at h
   obtain⟨rfl,rfl⟩:=h
   exact .inr ⟨fun h=>(by cases h),fun _=>⟨_,.inl rfl,rfl,hs⟩⟩
  ·cases h
def EnR(e:Env)(E:Ev):Prop:=∀t,e.get t=E.g t
theorem EnR.get{E:Ev}(h:EnR e E):E.g=e.get:=funext fun t=>(h t).symm
theorem EnR.put{E E':Ev}{d:Option Nat}{v:AVal}(h:EnR e E)(hp:E.p d v=some E'):EnR (e.put d v) E':=by
 cases d with
 |none=>simp only[Ev.p,p0] at hp;subst hp;exact h
 |some d=>
  simp only[Ev.p] at hp
  have hg:=Tr.put_get _ _ _ _ _ hp
  intro t
  unfold Ev.g
  rw[hg]
  by_cases hd:t=d
  ·subst hd;rw[if_pos rfl,Env.get_put_same]
  ·rw[if_neg hd,Env.get_put_other _ _ (fun he=>hd he.symm)];exact h t
theorem z4k{lo:LOper}{v:AVal}(h:Yo e.get H.get lo=some v):∀ {K:Env→Prop},K (e.put lo.dst v) →
 match lo.guard with
 |none=>(match ji e H lo.op with|.ok side u=>side∧K (e.put lo.dst u)|.bad=>False)
 |some (g,want)=>match wg (e.get g) want with
  |some p=>(match ji e H lo.op with
   |.ok side v=>(∃u,(p=true→side∧v=u)∧K (e.put lo.dst (.cnd p u)))∨(p=false∧K (e.put lo.dst (.tup [])))
   |.bad=>p=false∧K (e.put lo.dst (.tup [])))
  |none=>False:=by
 intro K hK
 unfold Yo at h
 cases hg:lo.guard with
 |none=>
  rw[hg] at h
  obtain⟨s,h1,h2⟩:=W8 h
  simp only[h1]
  exact⟨h2,hK⟩
 |some g=>
  obtain⟨q,want⟩:=g
  rw[hg] at h
  simp only[z0z] at h ⊢
  split at h
  ·rename_i hp
   simp only[hp]
   split at h<;>simp only[p0,reduceCtorEq] at h
   rename_i u hu
   subst h
   obtain⟨s,h1,h2⟩:=W8 hu
   simp only[h1]
   exact .inl ⟨_,fun _=>⟨h2,rfl⟩,hK⟩
  ·rename_i hp
   simp only[hp]
   simp only[p0] at h
   subst h
   cases ji e H lo.op with
   |ok s u=>exact .inr ⟨trivial,hK⟩
   |bad=>exact⟨trivial,hK⟩
  ·cases h
theorem Jj{p:Bool}{H:AHeap}{n:Nat}{E:(AVal→AHeap→Nat→Prop)→Prop}{K K':AVal→AHeap→Nat→Prop}(hE:∀ {K K'},E K→(∀r H n,K r H n→K' r H n)→E K')(h:Js p H n E K)(hk:∀r H n,K r H n→K' r H n):Js p H n E K':=by
 rcases h with⟨R,h1,h2⟩|⟨h1,h2⟩
 ·exact .inl ⟨R,h1,hk _ _ _ h2⟩
 ·exact .inr ⟨fun h=>hE (h1 h) hk,fun h=>by obtain⟨u,a,b⟩:=h2 h;exact⟨u,a,hk _ _ _ b⟩⟩
theorem z0s{C:Nat→List AVal→Sh→Rs}(hC:Yl P C){Q:Env→AHeap→Nat→Prop}{E':Ev}{S':Sh}(hQ:∀e H n,EnR e E'→StR D H n S'→Q e H n):∀ {os:List LOper} {E:Ev} {S:Sh} {e:Env} {H:AHeap} {n:Nat},zio C os E S=some (E',S')→EnR e E→StR D H n S→Yi P os Q e H n
 |[],E,S,e,H,n,h,hE,hs=>by
  simp only[zio,p0,pA] at h
  obtain⟨rfl,rfl⟩:=h
  exact hQ _ _ _ hE hs
 |lo::os,E,S,e,H,n,h,hE,hs=>by
  unfold zio at h
  split at h
  ·rename_i hp
   split at h<;>try (cases h;done)
   rename_i v hv
   split at h<;>try (cases h;done)
   rename_i E1 hE1
   rw[hE.get] at hv
   replace hv:=Yz hs.le hv
   have ih:=z0s hC hQ h (hE.put hE1) hs
   have:=z4k (K:=fun e=>Yi P os Q e H n) hv ih
   obtain⟨d,op,g⟩:=lo
   cases g with
   |none=>simp only[Yi,hp];exact this
   |some g=>
    obtain⟨g,want⟩:=g
    simp only[Yi]
    simp only at this
    cases hgp:wg (e.get g) want with
    |none=>rw[hgp] at this;exact this
    |some p=>
     rw[hgp] at this
     simp only[hp]
     exact this
  ·rename_i hp
   split at h<;>try (cases h;done)
   rename_i v S1 hv
   split at h<;>try (cases h;done)
   rename_i E1 hE1
   rw[hE.get] at hv
   have heff:=z6m hC hs hv
   have key:∀r H' n',KS D v S1 r H' n'→Yi P os Q (e.put lo.dst r) H' n':=by
    rintro r H' n' ⟨rfl,hs'⟩
    exact z0s hC hQ h (hE.put hE1) hs'
   obtain⟨d,op,g⟩:=lo
   cases g with
   |none=>simp only[Yi,hp];exact Qy key heff
   |some g=>
    obtain⟨g,want⟩:=g
    simp only[Yi]
    unfold Wh at heff
    simp only at heff
    cases hgp:wg (e.get g) want with
    |none=>rw[hgp] at heff;exact heff
    |some p=>
     rw[hgp] at heff
     simp only[hp]
     exact Jj (fun h hk=>Qy hk h) heff key
mutual
theorem z53(x y:AVal)(h:zke x y=true):x=y:=by
 unfold zke at h
 split at h
 ·simp only[beq_iff_eq] at h;rw[h]
 ·simp only[p4,Z5,decide_eq_true_eq] at h;rw[h.1,h.2]
 ·simp only[beq_iff_eq] at h;rw[h]
 ·simp only[p4,zl] at h
  obtain⟨⟨⟨h1,h2⟩,rfl⟩,rfl⟩:=h
  congr 1
  exact Prod.ext h1 h2
 ·simp only[p4,zl,beq_iff_eq] at h
  obtain⟨⟨⟨⟨⟨h1,h2⟩,rfl⟩,rfl⟩,rfl⟩,rfl⟩:=h
  congr 1
  exact Prod.ext h1 h2
 ·simp only[p4,zl] at h
  congr 1
  exact Prod.ext h.1 h.2
 ·rw[We _ _ h]
 ·rw[We _ _ h]
 ·rfl
 ·rfl
 ·rfl
 ·rfl
 ·simp only[p4,beq_iff_eq] at h
  rw[h.1,z53 _ _ h.2]
 ·simp only[p4,zl,beq_iff_eq] at h
  rw[h.1.1,h.1.2,z3c _ _ h.2]
 ·cases h
termination_by SizeOf.sizeOf x
theorem We(xs ys:List AVal)(h:z7c xs ys=true):xs=ys:=by
 unfold z7c at h
 split at h
 ·rfl
 ·simp only[p4] at h
  rw[z53 _ _ h.1,We _ _ h.2]
 ·cases h
termination_by SizeOf.sizeOf xs
theorem z3c(xs ys:List (List AVal))(h:z6h xs ys=true):xs=ys:=by
 unfold z6h at h
 split at h
 ·rfl
 ·simp only[p4] at h
  rw[We _ _ h.1,z3c _ _ h.2]
 ·cases h
termination_by SizeOf.sizeOf xs
end
theorem zez{lo:LOper}{E:Ev}(h:EnR e E):lo.bsees E=lo.sees e:=by
 unfold LOper.bsees LOper.sees
 apply List.map_congr_left
 intro t _
 rw[h t]
theorem z1y{loose:List Nat}:∀ {done:List (Nat×LOper×Env×AVal)},Vd H.get loose done=true→∀x∈done,x.1∈loose→(Zp x.2.2.1 H x.2.1).gives x.2.2.2
 |[],_,x,hx,_=>by cases hx
 |(p,lo,e,v)::r,h,x,hx,hl=>by
  unfold Vd at h
  simp only[p4] at h
  cases hx with
  |tail _ hx=>exact z1y h.2 x hx hl
  |head=>
   have h1:=h.1
   rw[List.contains_iff_mem.2 hl] at h1
   simp only at h1
   split at h1<;>try (cases h1;done)
   rename_i u hu
   have:=z19 hu
   rw[z53 _ _ h1] at this
   exact this
theorem zax{lo:LOper}{K K':AVal→AHeap→Nat→Prop}(h:Wh P e H n K lo)(hk:∀r H n,K r H n→K' r H n):Wh P e H n K' lo:=by
 unfold Wh at h ⊢
 cases hg:lo.guard with
 |none=>rw[hg] at h;exact Qy hk h
 |some g=>
  obtain⟨q,want⟩:=g
  rw[hg] at h
  simp only at h ⊢
  cases hp:wg (e.get q) want with
  |none=>rw[hp] at h;exact h.elim
  |some p=>
   rw[hp] at h
   exact Jj (fun h hk=>Qy hk h) h hk
theorem W7{C:Nat→List AVal→Sh→Rs}(hC:Yl P C){Q:Env→AHeap→Nat→Prop}{E':Ev}{S':Sh}(hQ:∀e H n,EnR e E'→StR D H n S'→Q e H n):∀ {items:List DItem} {p:Nat} {done:List (Nat×LOper×Env×AVal)} {E:Ev} {S:Sh} {e:Env} {H:AHeap} {n:Nat},z4a C items p done E S=some (E',S')→EnR e E→StR D H n S→xd P items p done Q e H n
 |[],p,done,E,S,e,H,n,h,hE,hs=>by
  simp only[z4a,p0,pA] at h
  obtain⟨rfl,rfl⟩:=h
  exact hQ _ _ _ hE hs
 |it::rest,p,done,E,S,e,H,n,h,hE,hs=>by
  unfold z4a at h
  unfold xd
  rw[zez hE] at h
  split at h
  ·rename_i hp
   simp only[hp]
   split at h<;>try (cases h;done)
   rename_i v hv
   split at h<;>try (cases h;done)
   rename_i E1 hE1
   replace hv:=Yz hs.le hv
   exact⟨v,z19 hv,W7 hC hQ h (hE.put hE1) hs⟩
  ·rename_i hp
   simp only[hp]
   split at h<;>try (cases h;done)
   rename_i v S1 hv
   split at h<;>try (cases h;done)
   rename_i hl
   split at h<;>try (cases h;done)
   rename_i E1 hE1
   refine zax (z6m hC hs hv) ?_
   rintro r H' n' ⟨rfl,hs'⟩
   replace hl:=Wu hs'.le hl
   exact⟨z1y hl,W7 hC hQ h (hE.put hE1) hs'⟩
theorem Qd{Q:Env→AHeap→Nat→Prop}:∀ {os:List LOper} {e:Env} {H:AHeap} {n:Nat},(∀lo∈os,x7 lo.op=true)→Yi P os Q e H n→xqs os Q e H n
 |[],e,H,n,_,h=>h
 |⟨d,op,none⟩::os,e,H,n,hp,h=>by
  have h0:x7 op=true:=hp _ (pU ..)
  simp only[Yi,h0] at h
  simp only[xqs]
  split at h<;>try (exact h.elim)
  exact⟨h.1,Qd (fun lo hl=>hp lo (pQ _ hl)) h.2⟩
 |⟨d,op,some (g,want)⟩::os,e,H,n,hp,h=>by
  have h0:x7 op=true:=hp _ (pU ..)
  simp only[Yi,h0] at h
  simp only[xqs]
  split at h<;>try (exact h.elim)
  have ih:∀ {e},Yi P os Q e H n→xqs os Q e H n:=fun h=>Qd (fun lo hl=>hp lo (pQ _ hl)) h
  split at h
  ·rcases h with⟨u,h1,h2⟩|⟨h1,h2⟩
   ·exact .inl ⟨u,h1,ih h2⟩
   ·exact .inr ⟨h1,ih h2⟩
  ·exact⟨h.1,ih h.2⟩
abbrev KX(D:Id→Option ABlock)(x:Exit×Ev×Sh):Exit→Env→AHeap→Nat→Prop:=fun ex e H n=>ex=x.1∧EnR e x.2.1∧StR D H n x.2.2
def uh(P:Program)(n:Nat):LCode→Prop
 |.seq a b=>uh P n a∧uh P n b
 |.cond _ a b=>uh P n a∧uh P n b
 |.block _ c=>uh P n c
 |.loop c=>uh P n c
 |.rng _ ps a b=>(ps.all fun p=>Nat.blt p n)=true∧uh P n a∧uh P n b
 |.dfr f _=>z4r P f
 |_=>True
def ky(l:List Nat)(n:Nat):LCode→Bool
 |.seq a b=>ky l n a&&ky l n b
 |.cond _ a b=>ky l n a&&ky l n b
 |.block _ c=>ky l n c
 |.loop c=>ky l n c
 |.rng _ ps a b=>(ps.all fun p=>Nat.blt p n)&&(ky l n a&&ky l n b)
 |.dfr f _=>l.any fun i=>p5 i f
 |_=>true
theorem wk{P:Program}{l:List Nat}{n:Nat}(hl:∀f∈l,z4r P f):∀ {c:LCode},ky l n c=true→uh P n c
 |.skip,_|.region _,_|.quiet _,_|.draw _,_|.draw2 _ _ _,_|.exit _,_|.ret,_=>trivial
 |.seq a b,h=>by
  simp only[ky,p4] at h
  exact⟨wk hl h.1,wk hl h.2⟩
 |.cond _ a b,h=>by
  simp only[ky,p4] at h
  exact⟨wk hl h.1,wk hl h.2⟩
 |.rng _ ps a b,h=>by
  simp only[ky,p4] at h
  exact⟨h.1,wk hl h.2.1,wk hl h.2.2⟩
 |.block _ c,h=>wk (c:=c) hl h
 |.loop c,h=>wk (c:=c) hl h
 |.dfr f _,h=>by
  simp only[ky,List.any_eq_true] at h
  obtain⟨i,h1,h2⟩:=h
  exact hl f (p7 h2▸h1)
def z5b(P:Program)(L:LCode→Ev→Sh→Cs):Prop:=
 ∀c E S x,L c E S=some x→∀ {D:Id→Option ABlock} (N:Lay) (n0:Nat) e H n,uh P N.n c→EnR e E→StR D H n S→LWp P N n0 (.loop c) (KX D x) e H n
def z39(P:Program)(B:Nat→Option (Bool×Nat)):Prop:=
 ∀f ag s,B f=some (ag,s)→∃bm fn,ve P bm f=some fn∧Xp P f∧2≤fn.lay.n∧fn.body=Wc ag s∧fn.res=[]
def Yq(e:Env):Env:=e.map fun x=>(x.1,e.get x.1)
theorem z89(e:Env)(t:Nat):(Yq e).get t=e.get t:=by
 have:∀ (l:Env),Env.get (l.map fun x=>(x.1,e.get x.1)) t=if(∃y∈l,y.1=t) then e.get t else .any:=by
  intro l
  induction l with
  |nil=>simp[Env.get]
  |cons y r ih=>
   simp only[List.map_cons,Env.get]
   by_cases hy:y.1=t
   ·rw[if_pos hy,if_pos ⟨y,pU ..,hy⟩,hy]
   ·rw[if_neg hy,ih]
    by_cases hr:∃z∈r,z.1=t
    ·obtain⟨z,hz,hzt⟩:=hr
     rw[if_pos ⟨z,hz,hzt⟩,if_pos ⟨z,pQ _ hz,hzt⟩]
    ·rw[if_neg hr,if_neg]
     rintro⟨z,hz,hzt⟩
     rcases List.mem_cons.1 hz with rfl|hz
     ·exact hy hzt
     ·exact hr ⟨z,hz,hzt⟩
 unfold Yq
 rw[this]
 split
 ·rfl
 ·rename_i hn
  have:∀ (l:Env),(¬∃y∈l,y.1=t)→Env.get l t=.any:=by
   intro l
   induction l with
   |nil=>intro _;rfl
   |cons y r ih=>
    intro h
    simp only[Env.get]
    rw[if_neg (fun hy=>h ⟨y,pU ..,hy⟩)]
    exact ih fun⟨z,hz,hzt⟩=>h ⟨z,pQ _ hz,hzt⟩
  exact(this e hn).symm
theorem z7o(e:Env):SubE (Yq e) e:=by
 have:∀ (l:Env),SubE (l.map fun x=>(x.1,e.get x.1)) e:=by
  intro l
  induction l with
  |nil=>trivial
  |cons y r ih=>exact⟨rfl,ih⟩
 exact this e
theorem z9p:∀ {ps:List Nat} {xs:List AVal} {e:Env} {E E':Ev},zji ps xs E=some E'→EnR e E→EnR (za5 e ps xs) E'∧xs.length=ps.length
 |[],[],e,E,E',h,hE=>by simp only[zji,p0] at h;subst h;exact⟨hE,rfl⟩
 |[],_::_,e,E,E',h,hE=>by cases h
 |_::_,[],e,E,E',h,hE=>by cases h
 |p::ps,x::xs,e,E,E',h,hE=>by
  unfold zji at h
  split at h<;>try (cases h;done)
  rename_i E1 h1
  obtain⟨g1,g2⟩:=z9p h (hE.put h1)
  exact⟨g1,by simp[g2]⟩
theorem Xo{x:AVal}(h:z2b x=true):x.plain:=by
 cases x with
 |cnd p y=>cases h
 |_=>exact⟨rfl,trivial⟩
def Qw(D:Id→Option ABlock)(k:Id)(b:ABlock)(id:Id):Option ABlock:=if id=k then some b else D id
theorem StR.hide(h:StR D H n S){b:ABlock}(h0:S.t.at (S.n,0)=none):StR (Qw D (n,0) b) (((n,0),b)::H) (n+1) ⟨S.t,S.n+1⟩:=by
 refine⟨by simp[h.n],fun id c hc=>?_,fun id c hc=>?_⟩
 ·simp only at hc
  have hj:(n,0)≠id:=fun e=>by subst e;rw[h.n,h0] at hc;cases hc
  rw[AHeap.get_cons_other _ _ hj];exact h.h _ _ hc
 ·unfold Qw at hc
  split at hc
  ·rename_i hk;subst hk;cases hc
   exact⟨AHeap.get_cons_same _ _ _,by simp only;rw[h.n];exact h0,Nat.lt_succ_self _⟩
  ·rename_i hk
   obtain⟨g1,g2,g3⟩:=h.d id c hc
   exact⟨by rw[AHeap.get_cons_other _ _ (fun e=>hk e.symm)];exact g1,g2,by omega⟩
theorem StR.hidden{k:Id}{b:ABlock}(h:StR (Qw D k b) H n S):H.get k=some b:=(h.d k b (by simp[Qw])).1
theorem StR.turn{k:Id}{b b':ABlock}(h:StR (Qw D k b) H n S):StR (Qw D k b') (H.set k b') n S:=by
 have hk:=h.hidden
 refine⟨h.n,fun id c hc=>?_,fun id c hc=>?_⟩
 ·have hj:k≠id:=fun e=>by subst e;rw[(h.d k b (by simp[Qw])).2.1] at hc;cases hc
  rw[AHeap.get_set,if_neg hj];exact h.h _ _ hc
 ·unfold Qw at hc
  split at hc
  ·rename_i he;subst he;cases hc
   obtain⟨_,g2,g3⟩:=h.d id b (by simp[Qw])
   exact⟨by rw[AHeap.get_set,if_pos rfl,hk];rfl,g2,g3⟩
  ·rename_i he
   obtain⟨g1,g2,g3⟩:=h.d id c (by simp[Qw,he];exact hc)
   exact⟨by rw[AHeap.get_set,if_neg (fun e=>he e.symm)];exact g1,g2,g3⟩
theorem StR.unhide{k:Id}{b:ABlock}(h:StR (Qw D k b) H n S)(hk:D k=none):StR D (H.del k) n S:=by
 refine⟨h.n,fun id c hc=>?_,fun id c hc=>?_⟩
 ·have hj:k≠id:=fun e=>by subst e;rw[(h.d k b (by simp[Qw])).2.1] at hc;cases hc
  rw[AHeap.get_del,if_neg hj];exact h.h _ _ hc
 ·have hj:id≠k:=fun e=>by subst e;rw[hk] at hc;cases hc
  obtain⟨g1,g2,g3⟩:=h.d id c (by simp[Qw,hj];exact hc)
  exact⟨by rw[AHeap.get_del,if_neg (fun e=>hj e.symm)];exact g1,g2,g3⟩
theorem z4n{o:Es}{x:Exit×Ev×Sh}(h:zlu o=some x):∃E S,o=some (E,S)∧x=(.normal,E,S):=by
 cases o with
 |none=>cases h
 |some y=>obtain⟨E,S⟩:=y;simp only[zlu,p0] at h;exact⟨E,S,rfl,h.symm⟩
theorem je{C:Nat→List AVal→Sh→Rs}{L:LCode→Ev→Sh→Cs}{B:Nat→Option (Bool×Nat)}(hC:Yl P C)(hL:z5b P L)(hB:z39 P B):∀ (lc:LCode) {D:Id→Option ABlock} (N:Lay) (n0:Nat) {E:Ev} {S:Sh} {x:Exit×Ev×Sh} {e:Env} {H:AHeap} {n:Nat},vt C L B lc E S=some x→uh P N.n lc→EnR e E→StR D H n S→LWp P N n0 lc (KX D x) e H n
 |.skip,D,N,n0,E,S,x,e,H,n,h,hi,hE,hs=>by
  simp only[vt,p0] at h
  subst h
  exact ya .skip _ e H n ⟨rfl,hE,hs⟩
 |.region ops,D,N,n0,E,S,x,e,H,n,h,hi,hE,hs=>by
  obtain⟨E1,S1,h1,rfl⟩:=z4n h
  refine ya (.region ops) _ e H n (z0s hC (fun e H n hE hs=>?_) h1 hE hs)
  exact⟨rfl,hE,hs⟩
 |.quiet ops,D,N,n0,E,S,x,e,H,n,h,hi,hE,hs=>by
  simp only[vt] at h
  split at h<;>try (cases h;done)
  rename_i hp
  obtain⟨E1,S1,h1,rfl⟩:=z4n h
  refine ya (.quiet ops) _ e H n (Qd (P:=P) (fun lo hl=>p9.1 hp lo hl) (z0s hC (fun e H n hE hs=>?_) h1 hE hs))
  exact⟨rfl,hE,hs⟩
 |.draw items,D,N,n0,E,S,x,e,H,n,h,hi,hE,hs=>by
  obtain⟨E1,S1,h1,rfl⟩:=z4n h
  refine ya (.draw items) _ e H n (W7 hC (fun e H n hE hs=>?_) h1 hE hs)
  exact⟨rfl,hE,hs⟩
 |.draw2 a b items,D,N,n0,E,S,x,e,H,n,h,hi,hE,hs=>by
  simp only[vt] at h
  split at h<;>try (cases h;done)
  rename_i E1 S1 h1
  split at h<;>try (cases h;done)
  rename_i ha
  simp only[p0] at h
  subst h
  refine ya (.draw2 a b items) _ e H n (W7 hC (fun e H n hE hs=>⟨?_,rfl,hE,hs⟩) h1 hE hs)
  rw[hE.get] at ha
  unfold zfw at ha
  split at ha<;>try (cases ha;done)
  rename_i b1 i1 o1 c1 i2 o2 q1 q2
  rw[(zm q1).1,(zm q2).1]
  simp only[z2h]
  intro he
  rw[he] at ha
  simp at ha
 |.seq a b,D,N,n0,E,S,x,e,H,n,h,hi,hE,hs=>by
  unfold vt at h
  split at h
  ·rename_i E1 S1 h1
   refine uz ((je hC hL hB a N n0 h1 hi.1 hE hs).mono ?_)
   rintro ex e' H' n' ⟨rfl,hE',hs'⟩
   exact je hC hL hB b N n0 h hi.2 hE' hs'
  ·rename_i hne
   refine uz ((je hC hL hB a N n0 h hi.1 hE hs).mono ?_)
   rintro ex e' H' n' ⟨rfl,hE',hs'⟩
   obtain⟨ex,E1,S1⟩:=x
   cases ex with
   |normal=>exact absurd h (hne _ _)
   |_=>exact⟨rfl,hE',hs'⟩
 |.cond c a b,D,N,n0,E,S,x,e,H,n,h,hi,hE,hs=>by
  unfold vt at h
  rw[hE.get] at h
  split at h<;>try (cases h;done)
  ·rename_i hc
   obtain⟨h1,h2⟩:=zm hc
   exact kx h1 h2 (fun _=>je hC hL hB a N n0 h hi.1 hE hs) (fun h=>by cases h)
  ·rename_i hc
   obtain⟨h1,h2⟩:=zm hc
   exact kx h1 h2 (fun h=>by cases h) (fun _=>je hC hL hB b N n0 h hi.2 hE hs)
 |.block id c,D,N,n0,E,S,x,e,H,n,h,hi,hE,hs=>by
  unfold vt at h
  split at h
  ·rename_i i E1 S1 h1
   refine uc ((je hC hL hB c N n0 h1 hi hE hs).mono ?_)
   rintro ex e' H' n' ⟨rfl,hE',hs'⟩
   simp only
   split at h
   ·rename_i hi
    rw[if_pos (zl.1 hi)]
    simp only[p0] at h
    subst h
    exact⟨rfl,hE',hs'⟩
   ·rename_i hi
    rw[if_neg (pG hi)]
    simp only[p0] at h
    subst h
    exact⟨rfl,hE',hs'⟩
  ·rename_i hne
   refine uc ((je hC hL hB c N n0 h hi hE hs).mono ?_)
   rintro ex e' H' n' ⟨rfl,hE',hs'⟩
   obtain⟨ex,E1,S1⟩:=x
   cases ex with
   |exit i=>exact absurd h (hne _ _ _)
   |_=>exact⟨rfl,hE',hs'⟩
 |.loop c,D,N,n0,E,S,x,e,H,n,h,hi,hE,hs=>hL c E S x h N n0 e H n hi hE hs
 |.rng g ps a b,D,N,n0,E,S,x,e,H,n,h,hi,hE,hs=>by
  unfold vt at h
  rw[hE.get] at h
  split at h<;>try (cases h;done)
  rename_i gf bx hg
  split at h<;>try (cases h;done)
  rename_i ag s hBf
  split at h<;>try (cases h;done)
  rename_i sl hsl
  split at h<;>try (cases h;done)
  rename_i z hz
  split at h<;>try (cases h;done)
  rename_i hb h0
  simp only[p4,wh] at hb
  obtain⟨bm,L',hL',hok,hn2,hbody,hres⟩:=hB gf ag s hBf
  obtain⟨hg1,hg2⟩:=zm hg
  obtain⟨hps,hia,hib⟩:=hi
  have hDn:D (n,0)=none:=by
   cases hd:D (n,0) with
   |none=>rfl
   |some c=>exact absurd (hs.d _ _ hd).2.2 (Nat.lt_irrefl _)
  have hEc:EnR (Yq e) E:=fun t=>by rw[z89];exact hE t
  refine ze6 (Yq e) hg1 hg2 (z7o e) (fun l r hR=>?_)
  have hst:=hs.hide (b:=.lrec l r (Yq e)) h0
  obtain⟨k,hk⟩:∃k:Nat,z=k:=Int.eq_ofNat_of_zero_le hb.1.2
  subst hk
  refine z8c hL' hok hn2 hbody hres (K:=fun H' n'=>∃k e',(H'.get k=some (.lrec l r e')∧KX D x .normal e' (H'.del k) n')∨∃ex code,zcy ex=some code∧H'.get k=some (.lrec l (zd9 r code) e')∧KX D x ex e' (H'.del k) n')
   (fun i H' n'=>∃S',zkc (vt C L B a) (vt C L B b) ps ag s bx E i S'=some x∧StR (Qw D (n,0) (.lrec l r (Yq e))) H' n' S') ?_ ?_ (len:=k) ⟨_,h,hst⟩ (by omega) (Xo hb.1.1) (Xm (k7 hst.le hsl)) (z62 hz)
  ·rintro i H' n' ⟨S',hr,hst'⟩
   unfold zkc at hr
   split at hr<;>try (cases hr;done)
   rename_i sl' hsl'
   split at hr<;>try (cases hr;done)
   rename_i p hp
   split at hr<;>try (cases hr;done)
   rename_i el hel
   split at hr<;>try (cases hr;done)
   rename_i hpl
   split at hr<;>try (cases hr;done)
   rename_i e1 he1
   split at hr<;>try (cases hr;done)
   rename_i e2 S2 hA
   simp only[p4,x3] at hpl
   refine⟨by omega,sl',p,el,Xo hpl.1.1.1,Xo hpl.1.1.2,Xo hpl.1.2,Xm (k7 hst'.le hsl'),z10 hp,Xm (k7 hst'.le hel),?_⟩
   obtain⟨hEp,hlen⟩:=z9p he1 hEc
   refine z7s hR hst'.hidden hps hlen ?_
   refine(je hC hL hB a (zda N) n' hA hia hEp hst').mono ?_
   rintro ex e' H'' n'' ⟨rfl,hE',hs'⟩
   refine⟨rfl,_,hs'.hidden,?_⟩
   split at hr<;>try (cases hr;done)
   ·rename_i E3 S3 hRb
    refine(je hC hL hB b (zda N) n' hRb hib hE' (hs'.turn (b':=.lrec l (busy r) (Yq e)))).mono ?_
    rintro ex e3 H3 n3 ⟨rfl,hE3,hs3⟩
    exact .inr ⟨rfl,_,hs3.hidden,.inl ⟨rfl,S3,hr,hs3.turn⟩⟩
   ·rename_i E3 S3 hRb
    refine(je hC hL hB b (zda N) n' hRb hib hE' (hs'.turn (b':=.lrec l (busy r) (Yq e)))).mono ?_
    rintro ex e3 H3 n3 ⟨rfl,hE3,hs3⟩
    simp only[p0] at hr
    subst hr
    exact .inl ⟨_,rfl,_,hs3.hidden,.inr ⟨rfl,(n,0),_,.inr ⟨.ret,_,rfl,(hs3.turn).hidden,rfl,hEc,(hs3.turn).unhide hDn⟩⟩⟩
   ·rename_i id E3 S3 hRb
    refine(je hC hL hB b (zda N) n' hRb hib hE' (hs'.turn (b':=.lrec l (busy r) (Yq e)))).mono ?_
    rintro ex e3 H3 n3 ⟨rfl,hE3,hs3⟩
    simp only[p0] at hr
    subst hr
    exact .inl ⟨_,rfl,_,hs3.hidden,.inr ⟨rfl,(n,0),_,.inr ⟨.exit id,_,rfl,(hs3.turn).hidden,rfl,hEc,(hs3.turn).unhide hDn⟩⟩⟩
  ·rintro H' n' ⟨S',hr,hst'⟩
   simp only[zkc,p0] at hr
   subst hr
   exact⟨(n,0),_,.inl ⟨hst'.hidden,rfl,hEc,hst'.unhide hDn⟩⟩
 |.dfr f t,D,N,n0,E,S,x,e,H,n,h,hi,hE,hs=>by
  simp only[vt] at h
  split at h<;>try (cases h;done)
  rename_i E1 h1
  simp only[p0] at h
  subst h
  exact ya (.dfr f t) _ e H n ⟨hi,rfl,hE.put h1,hs⟩
 |.exit id,D,N,n0,E,S,x,e,H,n,h,hi,hE,hs=>by
  simp only[vt,p0] at h
  subst h
  exact ya (.exit id) _ e H n ⟨rfl,hE,hs⟩
 |.ret,D,N,n0,E,S,x,e,H,n,h,hi,hE,hs=>by
  simp only[vt,p0] at h
  subst h
  exact ya .ret _ e H n ⟨rfl,hE,hs⟩
end Go.Fx
namespace Go.Fx
variable {D:Id→Option ABlock} {P:Program} {N:Lay}
theorem z1h:∀ (l:List AVal) (k:Nat) (E0 E:Ev),z45 k l E0=some E→∀t,E.g t=if k≤t∧t<k+l.length then(l[t-k]?).getD .any else E0.g t
 |[],k,E0,E,h,t=>by
  simp only[z45,p0] at h
  subst h
  rw[if_neg (by simp)]
 |x::l,k,E0,E,h,t=>by
  unfold z45 at h
  split at h<;>try (cases h;done)
  rename_i E1 h1
  rw[z1h l (k+1) E1 E h t]
  have h1g:E1.g t=if t=k then x else E0.g t:=by
   simp only[Ev.p] at h1
   unfold Ev.g
   rw[Tr.put_get _ _ _ _ _ h1]
   by_cases ht:t=k
   ·rw[if_pos ht,if_pos ht]
   ·rw[if_neg ht,if_neg ht]
  rw[h1g]
  by_cases ht:t=k
  ·subst ht
   rw[if_neg (by omega),if_pos rfl,if_pos (by simp)]
   simp
  ·rw[if_neg ht]
   by_cases h2:k+1≤t∧t<k+1+l.length
   ·rw[if_pos h2,if_pos (by simp only[List.length_cons];omega)]
    have:t-k=(t-(k+1))+1:=by omega
    rw[this,pF]
   ·rw[if_neg h2,if_neg (by simp only[List.length_cons];omega)]
theorem ze9{args:List AVal}{E:Ev}(h:z45 0 args .nil=some E):EnR (xm 0 args) E:=by
 intro t
 rw[z1h _ _ _ _ h t,Q3]
 rw[if_pos (Nat.zero_le _)]
 by_cases ht:t<args.length
 ·rw[if_pos ⟨Nat.zero_le _,by omega⟩]
 ·rw[if_neg (by omega),pH (by omega)];rfl
variable {e:Env} {H:AHeap} {n:Nat} {S S':Sh}
theorem zif{E:Ev}(hE:EnR e E)(hs:StR D H n S){r:LRes}{v:AVal}(h:zim E S.t.at r=some v):XOk (zj6 e H r) v:=by
 replace h:=zbt hs.le h
 cases r with
 |t i=>
  simp only[zim] at h
  rw[hE.get] at h
  obtain⟨h1,h2⟩:=zm h
  exact⟨_,by simp only[zj6];exact congrArg _ h1,h2⟩
 |cell i ag m=>
  simp only[zim] at h
  rw[hE.get] at h
  split at h<;>try (cases h;done)
  rename_i a ha
  obtain⟨h1,h2⟩:=zm ha
  have h3:=Xm h
  simp only[zj6]
  have h1':(e.get i).strip=a:=h1
  rw[h1']
  exact h3.and h2
theorem Uq{E:Ev}(hE:EnR e E)(hs:StR D H n S):∀ {rs:List LRes} {l:List AVal} {k:List AVal→Prop},z7p E S.t.at rs=some l→k l→z06 e H rs k
 |[],l,k,h,hk=>by simp only[z7p,p0] at h;subst h;exact hk
 |r::rs,l,k,h,hk=>by
  unfold z7p at h
  split at h<;>try (cases h;done)
  rename_i v hv
  split at h<;>simp only[p0,reduceCtorEq] at h
  rename_i l' hl
  subst h
  obtain⟨s,h1,h2⟩:=zif hE hs hv
  unfold z06
  rw[h1]
  exact⟨h2,Uq hE hs hl hk⟩
theorem zi3{res:List LRes}{x:Cs}{v:AVal}(h:zmd res x=some (v,S')):∃y,x=some y∧∀ex e H n,KX D y ex e H n→z1w res (KS D v S') ex e H n:=by
 unfold zmd at h
 split at h
 ·split at h<;>simp only[p0,pA,reduceCtorEq] at h
  rename_i l hl
  obtain⟨rfl,rfl⟩:=h
  refine⟨_,rfl,?_⟩
  rintro ex e H n ⟨rfl,hE,hs⟩
  exact Uq hE hs hl ⟨rfl,hs⟩
 ·split at h<;>simp only[p0,pA,reduceCtorEq] at h
  rename_i l hl
  obtain⟨rfl,rfl⟩:=h
  refine⟨_,rfl,?_⟩
  rintro ex e H n ⟨rfl,hE,hs⟩
  exact Uq hE hs hl ⟨rfl,hs⟩
 ·cases h
def z66(P:Program)(F:Nat→Option LFn):Prop:=∀f fn,F f=some fn→(∃bm,ve P bm f=some fn)∧Xp P f∧uh P fn.lay.n fn.body
def xa(P:Program)(X:Nat→List AVal→Sh→Option Rs):Prop:=
 ∀ (f:Nat) aq S r S',X f aq S=some (some (r,S'))→∀ {D:Id→Option ABlock} H n,StR D H n S→ACalls P (.func f) aq H n (KS D r S')
variable {F:Nat→Option LFn} {X:Nat→List AVal→Sh→Option Rs} {B:Nat→Option (Bool×Nat)}
theorem zis(hB:z39 P B)(m:Nat)(hC:∀j,j<m→Yl P (ev F X B j).1∧z5b P (ev F X B j).2):z5b P (ev F X B m).2:=by
 intro c E S x h D N n0 e H n hi hE hs
 refine z1v (ι:=Nat×Ev×Sh×Env×AHeap×Nat) (fun y=>y.1≤m∧(ev F X B y.1).2 c y.2.1 y.2.2.1=some x∧EnR y.2.2.2.1 y.2.1∧StR D y.2.2.2.2.1 y.2.2.2.2.2 y.2.2.1) (fun y=>y.2.2.2.1) (fun y=>y.2.2.2.2.1) (fun y=>y.2.2.2.2.2) (fun y=>y.1) ?_ (m,E,S,e,H,n) ⟨p8 _,h,hE,hs⟩
 rintro⟨k,E,S,e,H,n⟩ ⟨hk,h,hE,hs⟩
 simp only at hk h hE hs ⊢
 cases k with
 |zero=>cases h
 |succ j=>
  have h:(match vt (ev F X B j).1 (ev F X B j).2 B c E S with
   |some (.normal,e,S)=>(ev F X B j).2 c e S
   |x=>x)=some x:=h
  obtain⟨hc,hl⟩:=hC j (by omega)
  split at h
  ·rename_i E1 S1 h1
   refine(je hc hl hB c N n0 h1 hi hE hs).mono ?_
   rintro ex e' H' n' ⟨rfl,hE',hs'⟩
   exact⟨(j,E1,S1,e',H',n'),⟨by simp only;omega,h,hE',hs'⟩,Nat.lt_succ_self _,rfl,rfl,rfl⟩
  ·rename_i hne
   refine(je hc hl hB c N n0 h hi hE hs).mono ?_
   rintro ex e' H' n' ⟨rfl,hE',hs'⟩
   obtain⟨ex,E1,S1⟩:=x
   cases ex with
   |normal=>exact absurd h (hne _ _)
   |_=>exact⟨rfl,hE',hs'⟩
theorem qu(hF:z66 P F)(hX:xa P X)(hB:z39 P B):∀m,Yl P (ev F X B m).1∧z5b P (ev F X B m).2:=by
 intro m
 induction m using Nat.strongRecOn with
 |ind m ih=>
  refine⟨?_,zis hB m ih⟩
  cases m with
  |zero=>intro f aq S r S' h;cases h
  |succ j=>
   intro f aq S r S' h D H n hs
   obtain⟨hc,hl⟩:=ih j (Nat.lt_succ_self _)
   have h:(match X f aq S with
    |some r=>r
    |none=>match F f with
     |some fn=>match p6 aq.length fn.lay.n with
      |true=>match z45 0 aq .nil with
       |some e=>zmd fn.res (vt (ev F X B j).1 (ev F X B j).2 B fn.body e S)
       |none=>none
      |false=>none
     |none=>none)=some (r,S'):=h
   split at h
   ·rename_i hx
    rw[h] at hx
    exact hX f aq S r S' hx H n hs
   ·split at h<;>try (cases h;done)
    rename_i fn hfn
    split at h<;>try (cases h;done)
    rename_i hlen
    split at h<;>try (cases h;done)
    rename_i E hE
    obtain⟨⟨bm,h1⟩,h2,h3⟩:=hF f fn hfn
    obtain⟨y,hy,hfin⟩:=zi3 h
    exact ACalls.ofFnW h1 h2 (x3.1 hlen) ((je hc hl hB fn.body fn.lay n hy h3 (ze9 hE) hs).mono hfin)
theorem StR.empty:StR (fun _=>none) [] 0 ⟨.nil,0⟩:=⟨rfl,fun id b h=>(by
 simp only[Tr.at] at h
 split at h
 ·cases h
 ·cases h),fun id b h=>by cases h⟩
theorem zgy(hF:z66 P F)(hX:xa P X)(hB:z39 P B){m f:Nat}{aq:List AVal}{R:AVal}(hR:R.nid=true)(h:((ev F X B m).1 f aq ⟨.nil,0⟩).map (·.1)=some R):PFn P f aq R:=by
 cases hx:(ev F X B m).1 f aq ⟨.nil,0⟩ with
 |none=>rw[hx] at h;cases h
 |some y=>
  obtain⟨r,S'⟩:=y
  rw[hx] at h
  simp only[pK,p0] at h
  subst h
  have hc:=(qu hF hX hB m).1 f aq _ _ _ hx [] 0 StR.empty
  refine⟨hR,0,(hc.mono fun r' H' n' hk=>?_).fin⟩
  obtain⟨rfl,hs⟩:=hk
  exact⟨fun _=>false,fun _=>none,⟨fun i j k h=>(by cases h),fun i k h=>(by cases h),fun i h=>absurd h (Nat.not_lt_zero _),fun i k _ h=>(by cases h),p8 _⟩,.same _ (hR),fun id blk h=>by cases h⟩
def noB:Nat→Option (Bool×Nat):=fun _=>none
end Go.Fx
namespace Go.Fx
def eqI:Int→Int→Bool
 |.ofNat a,.ofNat b=>p5 a b
 |.negSucc a,.negSucc b=>p5 a b
 |_,_=>false
theorem zgc{a b:Int}(h:eqI a b=true):a=b:=by
 cases a<;>cases b<;>simp only[eqI,pE] at h<;>exact congrArg _ (p7 h)
def zhl:List UInt8→List UInt8→Bool
 |[],[]=>true
 |a::r,b::s=>p5 a.toNat b.toNat&&zhl r s
 |_,_=>false
theorem Wy:∀ {a b:List UInt8},zhl a b=true→a=b
 |[],[],_=>rfl
 |a::r,b::s,h=>by
  simp only[zhl,p4] at h
  rw[UInt8.toNat_inj.1 (p7 h.1),Wy h.2]
 |[],_::_,h=>by cases h
 |_::_,[],h=>by cases h
def z3s(a b:Id):Bool:=p5 a.1 b.1&&p5 a.2 b.2
theorem u6{a b:Id}(h:z3s a b=true):a=b:=by
 simp only[z3s,p4] at h
 exact Prod.ext (p7 h.1) (p7 h.2)
def zdn:Value→Value→Bool
 |.pointer none,.pointer none=>true
 |.slice none 0 0,.slice none 0 0=>true
 |.map none,.map none=>true
 |.nilFunc,.nilFunc=>true
 |.nilIface,.nilIface=>true
 |_,_=>false
theorem z5j{a b:Value}(h:zdn a b=true):a=b:=by
 unfold zdn at h
 split at h<;>first|rfl|cases h
mutual
def eqA:AVal→AVal→Bool
 |.any,.any=>true
 |.bool a,.bool b=>a==b
 |.int k a,.int k' b=>Ka k k'&&eqI a b
 |.str l,.str l'=>zhl l l'
 |.val v,.val v'=>zdn v v'
 |.agg l,.agg l'=>eqL l l'
 |.tup l,.tup l'=>eqL l l'
 |.isl s es f,.isl s' es' f'=>p5 s s'&&zga es es'&&(f==f')
 |.ptr b i o,.ptr b' i' o'=>z3s b b'&&p5 i i'&&p5 o o'
 |.msl b s o l f,.msl b' s' o' l' f'=>z3s b b'&&p5 s s'&&p5 o o'&&p5 l l'&&(f==f')
 |.map b,.map b'=>z3s b b'
 |.fn (.func f) a c,.fn (.func f') a' c'=>p5 f f'&&eqL a a'&&eqL c c'
 |.ifc t v,.ifc t' v'=>p5 t t'&&eqA v v'
 |.cnd p x,.cnd p' x'=>(p==p')&&eqA x x'
 |_,_=>false
def eqL:List AVal→List AVal→Bool
 |[],[]=>true
 |x::r,y::s=>eqA x y&&eqL r s
 |_,_=>false
def zga:List (List AVal)→List (List AVal)→Bool
 |[],[]=>true
 |x::r,y::s=>eqL x y&&zga r s
 |_,_=>false
end
mutual
theorem Jr:∀ {x y:AVal},eqA x y=true→x=y:=by
 intro x y h
 unfold eqA at h
 split at h
 case h_1=>rfl
 case h_2=>rw[eq_of_beq h]
 case h_3=>simp only[p4,Z5] at h;rw[h.1,zgc h.2]
 case h_4=>rw[Wy h]
 case h_5=>rw[z5j h]
 case h_6=>rw[Wk h]
 case h_7=>rw[Wk h]
 case h_8=>simp only[p4,zl] at h;rw[h.1.1,z0w h.1.2,eq_of_beq h.2]
 case h_9=>simp only[p4,zl] at h;rw[u6 h.1.1,h.1.2,h.2]
 case h_10=>simp only[p4,zl] at h;rw[u6 h.1.1.1.1,h.1.1.1.2,h.1.1.2,h.1.2,eq_of_beq h.2]
 case h_11=>rw[u6 h]
 case h_12=>simp only[p4,zl] at h;rw[h.1.1,Wk h.1.2,Wk h.2]
 case h_13=>simp only[p4,zl] at h;rw[h.1,Jr h.2]
 case h_14=>simp only[p4] at h;rw[eq_of_beq h.1,Jr h.2]
 case h_15=>cases h
theorem Wk:∀ {x y:List AVal},eqL x y=true→x=y
 |[],[],_=>rfl
 |a::r,b::s,h=>by
  simp only[eqL,p4] at h
  rw[Jr h.1,Wk h.2]
 |[],_::_,h=>by simp[eqL] at h
 |_::_,[],h=>by simp[eqL] at h
theorem z0w:∀ {x y:List (List AVal)},zga x y=true→x=y
 |[],[],_=>rfl
 |a::r,b::s,h=>by
  simp only[zga,p4] at h
  rw[Wk h.1,z0w h.2]
 |[],_::_,h=>by simp[zga] at h
 |_::_,[],h=>by simp[zga] at h
end
def eqM:List (AVal×AVal)→List (AVal×AVal)→Bool
 |[],[]=>true
 |x::r,y::s=>eqA x.1 y.1&&eqA x.2 y.2&&eqM r s
 |_,_=>false
theorem zfy:∀ {x y:List (AVal×AVal)},eqM x y=true→x=y
 |[],[],_=>rfl
 |a::r,b::s,h=>by
  simp only[eqM,p4] at h
  rw[Prod.ext (Jr h.1.1) (Jr h.1.2),zfy h.2]
 |[],_::_,h=>by cases h
 |_::_,[],h=>by cases h
def eqB:ABlock→ABlock→Bool
 |.rows s es,.rows s' es'=>p5 s s'&&zga es es'
 |.one l,.one l'=>eqL l l'
 |.amap l,.amap l'=>eqM l l'
 |.tok,.tok=>true
 |.bld T g,.bld T' g'=>p5 T T'&&z3s g g'
 |.buf e l,.buf e' l'=>p5 e e'&&zhl l l'
 |_,_=>false
theorem zkk{x y:ABlock}(h:eqB x y=true):x=y:=by
 unfold eqB at h
 split at h
 case h_1=>simp only[p4,zl] at h;rw[h.1,z0w h.2]
 case h_2=>rw[Wk h]
 case h_3=>rw[zfy h]
 case h_4=>rfl
 case h_5=>simp only[p4,zl] at h;rw[h.1,u6 h.2]
 case h_6=>simp only[p4,zl] at h;rw[h.1,Wy h.2]
 case h_7=>cases h
def eqO:Option ABlock→Option ABlock→Bool
 |none,none=>true
 |some a,some b=>eqB a b
 |_,_=>false
def eqT:Tr ABlock→Tr ABlock→Bool
 |.nil,.nil=>true
 |.nd v l r,.nd v' l' r'=>eqO v v'&&eqT l l'&&eqT r r'
 |_,_=>false
def zod(f0:Nat)(args0:List AVal)(S0:Sh)(r:AVal)(S1:Sh)(f:Nat)(xs:List AVal)(S:Sh):Option Rs:=
 match p5 f f0 with
 |true=>match p5 S.n S0.n&&eqL xs args0&&eqT S.t S0.t with
  |true=>some (some (r,S1))
  |false=>none
 |false=>none
variable {P:Program}
end Go.Fx
namespace Go.Fx
def zno(y:AVal):Bool:=match y.imm with
 |some z=>eqA z y
 |none=>false
theorem zig{y:AVal}(h:zno y=true):y.imm=some y:=by
 unfold zno at h
 split at h
 ·rename_i z hz;rw[hz,Jr h]
 ·cases h
mutual
def zj2(F K:Id→Bool)(h:Hp):AVal→AVal→Bool
 |_,.any=>true
 |.bool a,.bool b=>a==b
 |.int k a,.int k' b=>Ka k k'&&eqI a b
 |.str l,.str l'=>zhl l l'
 |.val v,.val v'=>zdn v v'
 |.agg l,.agg l'=>z9d F K h l l'
 |.tup l,.tup l'=>z9d F K h l l'
 |.isl s es f,.isl s' es' f'=>p5 s s'&&zga es es'&&(f==f')
 |.msl b s o l f,.isl s' es' f'=>F b&&(match h b with
  |some (.rows s2 es)=>p5 s s'&&p5 s2 s&&p6 (o+l) es.length&&p5 es'.length l&&(!f' || f)&&zaq F K h ((es.drop o).take l) es'&&es'.all (fun r=>r.all zno)
  |_=>false)
 |.ptr b i o,.ptr b' i' o'=>z3s b b'&&K b&&p5 i i'&&p5 o o'
 |.msl b s o l f,.msl b' s' o' l' f'=>z3s b b'&&K b&&p5 s s'&&p5 o o'&&p5 l l'&&(f==f')
 |.map b,.map b'=>z3s b b'&&K b
 |.fn (.func f) a c,.fn (.func f') a' c'=>p5 f f'&&z9d F K h a a'&&z9d F K h c c'
 |.ifc t v,.ifc t' v'=>p5 t t'&&zj2 F K h v v'
 |_,_=>false
def z9d(F K:Id→Bool)(h:Hp):List AVal→List AVal→Bool
 |[],[]=>true
 |x::r,y::s=>zj2 F K h x y&&z9d F K h r s
 |_,_=>false
def zaq(F K:Id→Bool)(h:Hp):List (List AVal)→List (List AVal)→Bool
 |[],[]=>true
 |x::r,y::s=>z9d F K h x y&&zaq F K h r s
 |_,_=>false
end
section
variable {F K:Id→Bool} {h:Hp} {H:AHeap} {ρ:Id→Option Id} {n:Nat} (hle:∀id b,h id=some b→H.get id=some b) (hρ:∀id,K id=true→ρ id=some id)
include hle hρ
mutual
theorem z0r(x y:AVal)(hc:zj2 F K h x y=true):Vw F H ρ n x y:=by
 unfold zj2 at hc
 split at hc
 ·exact .any _
 ·rw[eq_of_beq hc];exact .same _ rfl
 ·simp only[p4,Z5] at hc;rw[hc.1,zgc hc.2];exact .same _ rfl
 ·rw[Wy hc];exact .same _ rfl
 ·rw[z5j hc];exact .same _ rfl
 ·obtain⟨h1,h2⟩:=Z8 _ _ hc
  exact .agg _ _ h1 h2
 ·obtain⟨h1,h2⟩:=Z8 _ _ hc
  exact .tup _ _ h1 h2
 ·simp only[p4,zl] at hc
  rw[hc.1.1,z0w hc.1.2,eq_of_beq hc.2];exact .same _ rfl
 ·rename_i b s o l f s' es' f'
  simp only[p4] at hc
  obtain⟨hF,hc⟩:=hc
  split at hc<;>try (cases hc;done)
  rename_i s2 es hb
  simp only[p4,zl,p9] at hc
  obtain⟨⟨⟨⟨⟨⟨rfl,rfl⟩,h3⟩,rfl⟩,h5⟩,h6⟩,h7⟩:=hc
  have h3:=pJ h3
  obtain⟨g1,g2⟩:=z07 _ _ h6
  have hat:∀i r',es'[i]?=some r'→((es.drop o).take es'.length)[i]?=es[o+i]?:=fun i r' hr=>by
   have hi:i<es'.length:=by
    rcases pT i es'.length with h|h
    ·exact h
    ·rw[pH h] at hr;cases hr
   rw[List.getElem?_take_of_lt hi,List.getElem?_drop]
  refine .frz b _ o _ f f' es es' (fun e=>?_) hF (hle _ _ hb) h3 rfl (fun i r r' h1 h2=>?_) (fun i r r' j x y h1 h2 hx hy=>?_) (fun r' hr y hy=>zig (h7 r' hr y hy))
  ·subst e;simpa using h5
  ·exact(g2 i r r' (by rw[hat i r' h2];exact h1) h2).1
  ·exact(g2 i r r' (by rw[hat i r' h2];exact h1) h2).2 j x y hx hy
 ·simp only[p4,zl] at hc
  obtain⟨⟨⟨h1,h2⟩,rfl⟩,rfl⟩:=hc
  have:=u6 h1
  subst this
  exact .ptr _ _ _ _ (hρ _ h2)
 ·simp only[p4,zl] at hc
  obtain⟨⟨⟨⟨⟨h1,h2⟩,rfl⟩,rfl⟩,rfl⟩,h3⟩:=hc
  have:=u6 h1
  subst this
  have:=eq_of_beq h3
  subst this
  exact .msl _ _ _ _ _ _ (hρ _ h2)
 ·simp only[p4] at hc
  have:=u6 hc.1
  subst this
  exact .map _ _ (hρ _ hc.2)
 ·simp only[p4,zl] at hc
  obtain⟨⟨rfl,h1⟩,h2⟩:=hc
  obtain⟨a1,a2⟩:=Z8 _ _ h1
  obtain⟨c1,c2⟩:=Z8 _ _ h2
  exact .fn _ _ _ _ _ a1 c1 a2 c2
 ·simp only[p4,zl] at hc
  obtain⟨rfl,h1⟩:=hc
  exact .ifc _ _ _ (z0r _ _ h1)
 ·cases hc
termination_by SizeOf.sizeOf y
theorem Z8(xs ys:List AVal)(hc:z9d F K h xs ys=true):xs.length=ys.length∧∀ (i:Nat) (x y:AVal),xs[i]?=some x→ys[i]?=some y→Vw F H ρ n x y:=by
 have _:=hle
 have _:=hρ
 unfold z9d at hc
 split at hc
 ·exact⟨rfl,fun i x y h1=>by cases h1⟩
 ·simp only[p4] at hc
  have g:=z0r _ _ hc.1
  obtain⟨g1,g2⟩:=Z8 _ _ hc.2
  refine⟨by simp[g1],fun i x y h1 h2=>?_⟩
  cases i with
  |zero=>simp only[pB,p0] at h1 h2;rw[←h1,←h2];exact g
  |succ i=>exact g2 i x y (by simpa using h1) (by simpa using h2)
 ·cases hc
termination_by SizeOf.sizeOf ys
theorem z07(xs ys:List (List AVal))(hc:zaq F K h xs ys=true):xs.length=ys.length∧∀ (i:Nat) (r r':List AVal),xs[i]?=some r→ys[i]?=some r'→r.length=r'.length∧∀ (j:Nat) (x y:AVal),r[j]?=some x→r'[j]?=some y→Vw F H ρ n x y:=by
 have _:=hle
 have _:=hρ
 unfold zaq at hc
 split at hc
 ·exact⟨rfl,fun i x y h1=>by cases h1⟩
 ·simp only[p4] at hc
  have g:=Z8 _ _ hc.1
  obtain⟨g1,g2⟩:=z07 _ _ hc.2
  refine⟨by simp[g1],fun i x y h1 h2=>?_⟩
  cases i with
  |zero=>simp only[pB,p0] at h1 h2;rw[←h1,←h2];exact g
  |succ i=>exact g2 i x y (by simpa using h1) (by simpa using h2)
 ·cases hc
termination_by SizeOf.sizeOf ys
end
end
def zeu(F K:Id→Bool)(h:Hp):List (AVal×AVal)→List (AVal×AVal)→Bool
 |[],[]=>true
 |x::r,y::s=>eqA x.1 y.1&&zj2 F K h x.2 y.2&&zeu F K h r s
 |_,_=>false
def zmj(F K:Id→Bool)(h:Hp):ABlock→ABlock→Bool
 |.rows s es,.rows s' es'=>p5 s s'&&zaq F K h es es'
 |.one l,.one l'=>z9d F K h l l'
 |.amap l,.amap l'=>zeu F K h l l'
 |.bld T g,.bld T' g'=>p5 T T'&&z3s g g'&&K g
 |.buf e l,.buf e' l'=>p5 e e'&&zhl l l'
 |.tok,.tok=>true
 |_,_=>false
section
variable {F K:Id→Bool} {h:Hp} {H:AHeap} {ρ:Id→Option Id} {n:Nat} (hle:∀id b,h id=some b→H.get id=some b) (hρ:∀id,K id=true→ρ id=some id)
include hle hρ
theorem z6r:∀ {xs ys:List (AVal×AVal)},zeu F K h xs ys=true→xs.length=ys.length∧∀ (i:Nat) (k x k' y:AVal),xs[i]?=some (k,x)→ys[i]?=some (k',y)→k=k'∧Vw F H ρ n x y
 |[],[],_=>⟨rfl,fun i k x k' y h1=>by cases h1⟩
 |a::r,b::s,hc=>by
  simp only[zeu,p4] at hc
  obtain⟨g1,g2⟩:=z6r hc.2
  refine⟨by simp[g1],fun i k x k' y h1 h2=>?_⟩
  cases i with
  |zero=>
   simp only[pB,p0] at h1 h2
   subst h1;subst h2
   exact⟨Jr hc.1.1,z0r hle hρ _ _ hc.1.2⟩
  |succ i=>exact g2 i k x k' y (by simpa using h1) (by simpa using h2)
 |[],_::_,hc=>by cases hc
 |_::_,[],hc=>by cases hc
theorem zir{b b':ABlock}(hc:zmj F K h b b'=true):BVw F H ρ n b b':=by
 unfold zmj at hc
 split at hc
 ·simp only[p4,zl] at hc
  obtain⟨rfl,hc⟩:=hc
  obtain⟨g1,g2⟩:=z07 hle hρ _ _ hc
  exact .rows _ _ _ g1 g2
 ·obtain⟨g1,g2⟩:=Z8 hle hρ _ _ hc
  exact .one _ _ g1 g2
 ·obtain⟨g1,g2⟩:=z6r hle hρ hc
  exact .amapV _ _ g1 g2
 ·simp only[p4,zl] at hc
  obtain⟨⟨rfl,h1⟩,h2⟩:=hc
  have:=u6 h1
  subst this
  exact .bld _ _ _ (hρ _ h2)
 ·simp only[p4,zl] at hc
  rw[hc.1,Wy hc.2]
  exact .buf _ _
 ·exact .tok
 ·cases hc
end
mutual
theorem V5:∀ (x:AVal),x.ren (fun i=>i)=x
 |.any=>rfl
 |.bool _=>rfl
 |.int _ _=>rfl
 |.str _=>rfl
 |.val _=>rfl
 |.isl _ _ _=>rfl
 |.iptr _ _ _ _=>rfl
 |.osl t _ _=>rfl
 |.ptr t _ _=>rfl
 |.msl t _ _ _ _=>rfl
 |.map t=>rfl
 |.optp t=>rfl
 |.tup cs=>by simp only[AVal.ren];rw[Xw cs]
 |.agg cs=>by simp only[AVal.ren];rw[Xw cs]
 |.fn f a c=>by simp only[AVal.ren];rw[Xw a,Xw c]
 |.ifc t x=>by simp only[AVal.ren];rw[V5 x]
 |.cnd q x=>by simp only[AVal.ren];rw[V5 x]
theorem Xw:∀ (cs:List AVal),AVal.ren.renL (fun i=>i) cs=cs
 |[]=>rfl
 |x::r=>by simp only[AVal.ren.renL];rw[V5 x,Xw r]
end
def okB(p:Id→Bool):ABlock→Bool
 |.rows _ es=>es.all (AVal.inP.inPL p)
 |.one cs=>AVal.inP.inPL p cs
 |.amap es=>es.all fun x=>x.1.inP p&&x.2.inP p
 |.tok=>true
 |.bld _ g=>p g
 |.buf _ _=>true
 |_=>false
section
variable {p:Id→Bool} {g:Id→Id} (hg:∀id:Id,p id=true→g id=id)
include hg
theorem Us(x:AVal)(hx:x.inP p=true):x.ren g=x:=(wb (h:=fun i=>i) hg x hx).trans (V5 x)
theorem z5r(x:List AVal)(hx:AVal.inP.inPL p x=true):AVal.ren.renL g x=x:=(w8 (h:=fun i=>i) hg x hx).trans (Xw x)
theorem z5q{b:ABlock}(hb:okB p b=true):b.ren g=b:=by
 unfold okB at hb
 split at hb
 ·rename_i s es
  simp only[p9] at hb
  have:es.map (AVal.ren.renL g)=es:=by
   refine List.ext_getElem? fun i=>?_
   rw[pM]
   cases h:es[i]? with
   |none=>rfl
   |some r=>simp only[pK];rw[z5r hg r (hb r (pR h))]
  show ABlock.rows s (es.map (AVal.ren.renL g))=_
  rw[this]
 ·rename_i cs
  show ABlock.one (AVal.ren.renL g cs)=_
  rw[z5r hg cs hb]
 ·rename_i es
  simp only[p9,p4] at hb
  have:es.map (fun x=>(x.1.ren g,x.2.ren g))=es:=by
   refine List.ext_getElem? fun i=>?_
   rw[pM]
   cases h:es[i]? with
   |none=>rfl
   |some r=>simp only[pK];rw[Us hg r.1 (hb r (pR h)).1,Us hg r.2 (hb r (pR h)).2]
  show ABlock.amap (es.map (fun x=>(x.1.ren g,x.2.ren g)))=_
  rw[this]
 ·rfl
 ·rename_i T q
  show ABlock.bld T (g q)=_
  rw[hg q hb]
 ·rfl
 ·cases hb
end
theorem zh9{p:Id→Bool}{b:ABlock}(hb:okB p b=true):b.inP p=true:=by
 unfold okB at hb
 split at hb<;>first|exact hb|rfl|(cases hb;done)
def zj3:AHeap→Sh→Option Sh
 |[],S=>some S
 |(id,b)::r,S=>match S.upd id b with
  |some S'=>zj3 r S'
  |none=>none
def zj5:List Id→Sh→Option Sh
 |[],S=>some S
 |id::r,S=>match S.cut id with
  |some S'=>zj5 r S'
  |none=>none
theorem zhe{S S':Sh}{id:Id}{b:ABlock}(h:S.upd id b=some S'):S'.n=S.n∧∀j,S'.t.at j=if j=id then some b else S.t.at j:=by
 unfold Sh.upd at h
 split at h<;>simp only[p0,reduceCtorEq] at h
 rename_i t ht
 subst h
 exact⟨rfl,fun j=>uj ht j⟩
theorem zia{S S':Sh}{id:Id}(h:S.cut id=some S'):S'.n=S.n∧∀j,S'.t.at j=if j=id then none else S.t.at j:=by
 unfold Sh.cut at h
 split at h<;>simp only[p0,reduceCtorEq] at h
 rename_i t ht
 subst h
 exact⟨rfl,fun j=>uj ht j⟩
def zls:List Id→Bool
 |[]=>true
 |x::r=>!(r.any (z3s x))&&zls r
theorem z3u:∀ {l:List Id},zls l=true→l.Nodup
 |[],_=>List.nodup_nil
 |x::r,h=>by
  simp only[zls,p4,Bool.not_eq_true',List.any_eq_false] at h
  refine List.nodup_cons.2 ⟨fun hx=>?_,z3u h.2⟩
  exact h.1 x hx (by simp[z3s])
theorem z4v{L:AHeap}{id:Id}(h:id∉L.map (·.1)):L.get id=none:=by
 cases hg:L.get id with
 |none=>rfl
 |some b=>exact absurd (pO.2 ⟨_,vh hg,rfl⟩) h
theorem z44:∀ {L:AHeap} {S S':Sh},zj3 L S=some S'→(L.map (·.1)).Nodup→S'.n=S.n∧∀j,S'.t.at j=match L.get j with|some b=>some b|none=>S.t.at j
 |[],S,S',h,_=>by simp only[zj3,p0] at h;subst h;exact⟨rfl,fun j=>rfl⟩
 |(id,b)::r,S,S',h,hn=>by
  simp only[zj3] at h
  split at h<;>try (cases h;done)
  rename_i S2 h2
  simp only[List.map_cons,List.nodup_cons] at hn
  obtain⟨g1,g2⟩:=zhe h2
  obtain⟨k1,k2⟩:=z44 h hn.2
  refine⟨k1.trans g1,fun j=>?_⟩
  rw[k2 j,g2 j]
  by_cases hj:id=j
  ·subst hj
   rw[AHeap.get_cons_same,z4v hn.1,if_pos rfl]
  ·rw[AHeap.get_cons_other _ _ hj,if_neg (fun e=>hj e.symm)]
theorem z3g:∀ {L:List Id} {S S':Sh},zj5 L S=some S'→S'.n=S.n∧∀j,S'.t.at j=if j∈L then none else S.t.at j
 |[],S,S',h=>by simp only[zj5,p0] at h;subst h;exact⟨rfl,fun j=>by simp⟩
 |id::r,S,S',h=>by
  simp only[zj5] at h
  split at h<;>try (cases h;done)
  rename_i S2 h2
  obtain⟨g1,g2⟩:=zia h2
  obtain⟨k1,k2⟩:=z3g h
  refine⟨k1.trans g1,fun j=>?_⟩
  rw[k2 j,g2 j]
  by_cases hj:j=id
  ·subst hj;simp
  ·by_cases hr:j∈r<;>simp[hj,hr]
def inT(t:Tr ABlock)(L:AHeap):Bool:=L.all fun x=>match t.at x.1 with
 |some b=>eqB b x.2
 |none=>false
def inF(Fs:List Id)(id:Id):Bool:=Fs.any (z3s id)
def inK(L:AHeap)(id:Id):Bool:=L.any fun x=>z3s x.1 id
theorem Xs{Fs:List Id}{id:Id}(h:inF Fs id=true):id∈Fs:=by
 obtain⟨x,h1,h2⟩:=List.any_eq_true.1 h
 rwa [u6 h2]
theorem Wg{L:AHeap}{id:Id}(h:inK L id=true):id∈L.map (·.1):=by
 obtain⟨x,h1,h2⟩:=List.any_eq_true.1 h
 rw[←u6 h2]
 exact pO.2 ⟨x,h1,rfl⟩
theorem zid{L:AHeap}{id:Id}(h:id∈L.map (·.1)):inK L id=true:=by
 obtain⟨x,h1,rfl⟩:=pO.1 h
 exact List.any_eq_true.2 ⟨x,h1,by simp[z3s]⟩
variable {P:Program} {F:Nat→Option LFn} {X:Nat→List AVal→Sh→Option Rs} {B:Nat→Option (Bool×Nat)}
def zns(C:Nat→List AVal→Sh→Rs)(f:Nat)(args0:List AVal)(L0:AHeap)(n0:Nat)(r:AVal)(L1:AHeap)(d:Nat):Bool:=
 match zj3 L0 ⟨.nil,n0⟩ with
 |some S0=>match C f args0 S0 with
  |some (r',S1)=>eqA r' r&&p5 S1.n (n0+d)&&inT S1.t L1
  |none=>false
 |none=>false
def znv(L0:AHeap)(n0:Nat)(r:AVal)(L1:AHeap)(d:Nat):Bool:=
 zls (L0.map (·.1))&&zls (L1.map (·.1))&&(L0.all fun x=>p6 (x.1.1+1) n0)&&(r.inP fun id=>(p6 n0 id.1&&p6 (id.1+1) (n0+d)) || inK L0 id) &&
  (L1.all fun x=>((p6 n0 x.1.1&&p6 (x.1.1+1) (n0+d)) || inK L0 x.1)&&okB (fun id=>(p6 n0 id.1&&p6 (id.1+1) (n0+d)) || inK L0 id) x.2)
section
variable {L0 L1:AHeap} {n0 d:Nat} {r:AVal}
def K7(L0:AHeap)(n0 d:Nat)(id:Id):Bool:=(p6 n0 id.1&&p6 (id.1+1) (n0+d)) || inK L0 id
structure Sta(L0:AHeap)(n0:Nat)(r:AVal)(L1:AHeap)(d:Nat):Prop where
 n1:(L0.map (·.1)).Nodup
 n2:(L1.map (·.1)).Nodup
 lt:∀x∈L0,x.1.1<n0
 r:r.inP (K7 L0 n0 d)=true
 l:∀x∈L1,K7 L0 n0 d x.1=true∧okB (K7 L0 n0 d) x.2=true
theorem zh1(h:znv L0 n0 r L1 d=true):Sta L0 n0 r L1 d:=by
 unfold znv at h
 simp only[p4] at h
 obtain⟨⟨⟨⟨h1,h2⟩,h3⟩,h4⟩,h5⟩:=h
 refine⟨z3u h1,z3u h2,fun x hx=>pJ (p9.1 h3 x hx),h4,fun x hx=>?_⟩
 have:=p9.1 h5 x hx
 simp only[p4] at this
 exact this
theorem Xb(hs:∀x∈L0,x.1.1<n0){id:Id}(h:K7 L0 n0 d id=true):id.1<n0+d:=by
 unfold K7 at h
 simp only[Bool.or_eq_true,p4] at h
 rcases h with h|h
 ·exact pJ h.2
 ·obtain⟨x,h1,rfl⟩:=pO.1 (Wg h)
  exact Nat.lt_of_lt_of_le (hs x h1) (Nat.le_add_right _ _)
theorem zbs{C:Nat→List AVal→Sh→Rs}(hC:Yl P C){f:Nat}{args0:List AVal}(h:zns C f args0 L0 n0 r L1 d=true)(hs:Sta L0 n0 r L1 d):ACalls P (.func f) args0 L0 n0 (V2 (n0+d) r L1):=by
 unfold zns at h
 split at h<;>try (cases h;done)
 rename_i S0 hS0
 split at h<;>try (cases h;done)
 rename_i r' S1 hrun
 simp only[p4,zl] at h
 obtain⟨⟨h1,h2⟩,h3⟩:=h
 have:=Jr h1
 subst this
 obtain⟨g1,g2⟩:=z44 hS0 hs.n1
 have hst:StR (fun _=>none) L0 n0 S0:=by
  refine⟨g1.symm,fun id b hb=>?_,fun id b hb=>by cases hb⟩
  rw[g2 id] at hb
  cases hg:AHeap.get L0 id with
  |some c=>rw[hg] at hb;exact hb
  |none=>
   rw[hg] at hb
   have:(⟨.nil,n0⟩:Sh).t.at id=none:=by
    show Tr.at .nil id=none
    unfold Tr.at
    split
    ·rename_i k _;rfl
    ·rfl
   simp only at hb
   rw[this] at hb;cases hb
 refine((hC f args0 S0 _ _ hrun L0 n0 hst).mono fun r'' H' n' hk=>?_).fin
 obtain⟨rfl,hst1⟩:=hk
 have hfix:∀id:Id,K7 L0 n0 d id=true→(fun i:Id=>i) id=id:=fun _ _=>rfl
 refine⟨fun _=>false,fun id=>if id.1<n0+d then some id else none,⟨fun i j k hi hj=>?_,fun i k hi=>?_,fun i hi=>?_,fun i k hi hk=>?_,Nat.le_add_right _ _⟩,?_,fun id blk hb=>?_⟩
 ·have hi:(if i.1<n0+d then some i else none)=some k:=hi
  have hj:(if j.1<n0+d then some j else none)=some k:=hj
  split at hi<;>simp only[p0,reduceCtorEq] at hi
  split at hj<;>simp only[p0,reduceCtorEq] at hj
  rw[hi,hj]
 ·have hi:(if i.1<n0+d then some i else none)=some k:=hi
  split at hi<;>simp only[p0,reduceCtorEq] at hi
  subst hi;assumption
 ·exact .inl ⟨if_pos (by omega),rfl⟩
 ·have hk:(if i.1<n0+d then some i else none)=some k:=hk
  split at hk<;>simp only[p0,reduceCtorEq] at hk
  subst hk;exact .inl hi
 ·have:=Vw.mov (F:=fun _=>false) (H:=H') (ρ:=fun id:Id=>if id.1<n0+d then some id else none) (n:=n0+d) (K7 L0 n0 d) (fun i=>i) r'' hs.r (fun id hid=>⟨Xb hs.lt hid,if_pos (Xb hs.lt hid)⟩)
  rwa [V5] at this
 ·obtain⟨q1,q2⟩:=hs.l _ (vh hb)
  have hlt:=Xb hs.lt q1
  have hin:=p9.1 h3 _ (vh hb)
  simp only at hin
  split at hin<;>try (cases hin;done)
  rename_i b hb2
  have hH:=hst1.h _ _ hb2
  have e:=zkk hin
  subst e
  have hlt:id.1<n0+d:=hlt
  unfold Yr
  simp only[hlt,if_true,hH]
  refine⟨trivial,?_⟩
  have:=BVw.mov (F:=fun _=>false) (H:=H') (ρ:=fun id:Id=>if id.1<n0+d then some id else none) (n:=n0+d) (K7 L0 n0 d) (fun i=>i) b (zh9 q2) (fun id hid=>⟨Xb hs.lt hid,if_pos (Xb hs.lt hid)⟩)
  rwa [z5q hfix q2] at this
end
def z6j(f0:Nat)(Fs:List Id)(args0:List AVal)(L0:AHeap)(n0:Nat)(r:AVal)(L1:AHeap)(d:Nat)(f:Nat)(xs:List AVal)(S:Sh):Option Rs:=
 match p5 f f0 with
 |true=>match p5 S.n n0&&Fs.all (fun id=>match S.t.at id with|some _=>true|none=>false)&&(L0.all fun x=>match S.t.at x.1 with|some b=>!(inF Fs x.1)&&zmj (inF Fs) (inK L0) S.t.at b x.2|none=>false)&&z9d (inF Fs) (inK L0) S.t.at xs args0 with
  |true=>match zj5 (Fs++L0.map (·.1)) S with
   |some S2=>match zj3 L1 S2 with
    |some S3=>some (some (r,⟨S3.t,n0+d+1⟩))
    |none=>none
   |none=>none
  |false=>none
 |false=>none
theorem vl{C:Nat→List AVal→Sh→Rs}(hC:Yl P C){f0:Nat}{Fs:List Id}{args0:List AVal}{L0 L1:AHeap}{n0 d:Nat}{r:AVal}(hrun:zns C f0 args0 L0 n0 r L1 d=true)(hsta:znv L0 n0 r L1 d=true):xa P (z6j f0 Fs args0 L0 n0 r L1 d):=by
 have hs:=zh1 hsta
 have hcall:=zbs hC hrun hs
 intro f xs S r' S' h D H n hst
 unfold z6j at h
 split at h<;>try (cases h;done)
 rename_i hf
 split at h<;>try (cases h;done)
 rename_i hc
 split at h<;>try (cases h;done)
 rename_i S2 hS2
 split at h<;>try (cases h;done)
 rename_i S3 hS3
 simp only[p0,pA] at h
 obtain⟨rfl,rfl⟩:=h
 have e1:=p7 hf
 subst e1
 simp only[p4,zl] at hc
 obtain⟨⟨⟨hn,hFs⟩,hL0⟩,hargs⟩:=hc
 have hnn:n=n0:=hst.n.trans hn
 subst hnn
 have hFs':∀id∈Fs,∃b,S.t.at id=some b:=fun id hid=>by
  have:=p9.1 hFs id hid
  split at this
  ·rename_i b hb;exact⟨b,hb⟩
  ·cases this
 have hL0':∀x∈L0,∃b,S.t.at x.1=some b∧inF Fs x.1=false∧zmj (inF Fs) (inK L0) S.t.at b x.2=true:=fun x hx=>by
  have:=p9.1 hL0 x hx
  split at this
  ·rename_i b hb
   simp only[p4,Bool.not_eq_true'] at this
   exact⟨b,hb,this.1,this.2⟩
  ·cases this
 let ρ:Id→Option Id:=fun id=>if inK L0 id=true then some id else none
 have hρ:∀id,inK L0 id=true→ρ id=some id:=fun id h=>if_pos h
 have hρ':∀ {i x},ρ i=some x→x=i∧inK L0 i=true:=fun {i x} h=>by
  simp only[ρ] at h
  split at h<;>simp only[p0,reduceCtorEq] at h
  exact⟨h.symm,by assumption⟩
 have hup:∀id:Id,K7 L0 n d id=true→Jb ρ n n d id=id:=fun id hid=>by
  unfold Jb
  unfold K7 at hid
  simp only[Bool.or_eq_true,p4] at hid
  rcases hid with hid|hid
  ·have:=pJ hid.1
   rw[if_neg (by omega)]
   exact Prod.ext (by simp only;omega) rfl
  ·obtain⟨x,h1,h2⟩:=pO.1 (Wg hid)
   have:=hs.lt x h1
   rw[h2] at this
   rw[if_pos this,hρ id hid];rfl
 obtain⟨c1,c2⟩:=z3g hS2
 obtain⟨p1,p2⟩:=z44 hS3 hs.n2
 refine ACalls.frame (k:=n) (m:=d) (F:=inF Fs) (ρ:=ρ) (H0:=L0) hcall (fun i j x hi hj=>?_) (fun i x hi=>?_) (fun x hx=>?_) ?_ (fun i b hb=>?_) (fun x=>inF Fs x || inK L0 x) (fun x=>?_) hs.n2 ?_
 ·exact(hρ' hi).1.symm.trans (hρ' hj).1
 ·obtain⟨rfl,hk⟩:=hρ' hi
  obtain⟨y,h1,rfl⟩:=pO.1 (Wg hk)
  obtain⟨b,_,h3,_⟩:=hL0' y h1
  exact⟨hs.lt y h1,hs.lt y h1,h3⟩
 ·obtain⟨b,hb⟩:=hFs' x (Xs hx)
  rw[hst.h _ _ hb];nofun
 ·have:=Z8 (F:=inF Fs) (K:=inK L0) (h:=S.t.at) (H:=H) (ρ:=ρ) (n:=n) hst.h hρ xs args0 hargs
  clear hargs hcall hrun
  obtain⟨g1,g2⟩:=this
  revert g1 g2
  generalize args0=ys
  induction xs generalizing ys with
  |nil=>
   intro g1 _
   cases ys with
   |nil=>trivial
   |cons=>simp at g1
  |cons x xs ih=>
   intro g1 g2
   cases ys with
   |nil=>simp at g1
   |cons y ys=>exact⟨g2 0 x y rfl rfl,ih ys (by simpa using g1) (fun i a b h1 h2=>g2 (i+1) a b (by simpa using h1) (by simpa using h2))⟩
 ·obtain⟨b',hb',_,hck⟩:=hL0' _ (vh hb)
  exact⟨i,b',hρ i (zid (pO.2 ⟨_,vh hb,rfl⟩)),hst.h _ _ hb',zir hst.h hρ hck⟩
 ·simp only[Bool.or_eq_true]
  constructor
  ·rintro(h|h)
   ·exact .inl h
   ·exact .inr ⟨x,hρ x h⟩
  ·rintro(h|⟨i,hi⟩)
   ·exact .inl h
   ·obtain⟨rfl,hk⟩:=hρ' hi;exact .inr hk
 ·have hren:AHeap.renamed (Jb ρ n n d) L1=L1:=by
   unfold AHeap.renamed
   refine List.ext_getElem? fun i=>?_
   rw[pM]
   cases h:L1[i]? with
   |none=>rfl
   |some x=>
    obtain⟨q1,q2⟩:=hs.l x (pR h)
    simp only[pK]
    rw[hup _ q1,z5q hup q2]
  rw[hren,Us hup r hs.r]
  refine⟨rfl,rfl,fun id b hb=>?_,fun id b hb=>?_⟩
  ·rw[p2 id] at hb
   rw[AHeap.get_append]
   cases hg:AHeap.get L1 id with
   |some c=>rw[hg] at hb;simpa using hb
   |none=>
    rw[hg] at hb
    simp only at hb
    rw[c2 id] at hb
    split at hb
    ·cases hb
    ·rename_i hni
     rw[Option.none_or,AHeap.get_without,if_neg (fun hx=>hni ?_)]
     ·exact hst.h _ _ hb
     ·simp only[Bool.or_eq_true] at hx
      rcases hx with hx|hx
      ·exact List.mem_append_left _ (Xs hx)
      ·exact List.mem_append_right _ (Wg hx)
  ·obtain⟨d1,d2,d3⟩:=hst.d _ _ hb
   have hnF:inF Fs id=false:=by
    cases hx:inF Fs id with
    |false=>rfl
    |true=>obtain⟨b',hb'⟩:=hFs' id (Xs hx);rw[d2] at hb';cases hb'
   have hnK:inK L0 id=false:=by
    cases hx:inK L0 id with
    |false=>rfl
    |true=>
     obtain⟨y,h1,h2⟩:=pO.1 (Wg hx)
     obtain⟨b',hb',_⟩:=hL0' y h1
     rw[h2,d2] at hb';cases hb'
   have hn1:AHeap.get L1 id=none:=by
    cases hg:AHeap.get L1 id with
    |none=>rfl
    |some c=>
     have:=(hs.l _ (vh hg)).1
     unfold K7 at this
     simp only[Bool.or_eq_true,p4,hnK,pE,or_false] at this
     have:=pJ this.1
     omega
   refine⟨?_,?_,by omega⟩
   ·rw[AHeap.get_append,hn1,Option.none_or,AHeap.get_without,if_neg (by simp[hnF,hnK])]
    exact d1
   ·rw[p2 id,hn1]
    simp only
    rw[c2 id]
    split
    ·rfl
    ·exact d2
def z5z(f0:Nat)(Fs:Nat→List Id)(args0:List AVal)(R:AVal)(f:Nat)(xs:List AVal)(S:Sh):Option Rs:=
 match p5 f f0 with
 |true=>match (Fs S.n).all (fun id=>match S.t.at id with|some _=>true|none=>false)&&z9d (inF (Fs S.n)) (fun _=>false) S.t.at xs args0 with
  |true=>match zj5 (Fs S.n) S with
   |some S2=>some (some (R,S2))
   |none=>none
  |false=>none
 |false=>none
theorem vj{f0:Nat}{Fs:Nat→List Id}{args0:List AVal}{R:AVal}(hP:PFn P f0 args0 R):xa P (z5z f0 Fs args0 R):=by
 intro f xs S r' S' h D H n hst
 unfold z5z at h
 split at h<;>try (cases h;done)
 rename_i hf
 split at h<;>try (cases h;done)
 rename_i hc
 split at h<;>try (cases h;done)
 rename_i S2 hS2
 simp only[p0,pA] at h
 obtain⟨rfl,rfl⟩:=h
 have e1:=p7 hf
 subst e1
 simp only[p4] at hc
 obtain⟨hFs,hargs⟩:=hc
 have hFs':∀id∈Fs S.n,∃b,S.t.at id=some b:=fun id hid=>by
  have:=p9.1 hFs id hid
  split at this
  ·rename_i b hb;exact⟨b,hb⟩
  ·cases this
 obtain⟨c1,c2⟩:=z3g hS2
 refine PFn.use hP (F:=inF (Fs S.n)) ?_ (fun x hx=>?_) ⟨rfl,hst.n.trans c1.symm,fun id b hb=>?_,fun id b hb=>?_⟩
 ·have:=Z8 (F:=inF (Fs S.n)) (K:=fun _=>false) (h:=S.t.at) (H:=H) (ρ:=fun _=>none) (n:=0) hst.h (fun _ h=>by cases h) xs args0 hargs
  clear hargs hP
  obtain⟨g1,g2⟩:=this
  revert g1 g2
  generalize args0=ys
  induction xs generalizing ys with
  |nil=>
   intro g1 _
   cases ys with
   |nil=>trivial
   |cons=>simp at g1
  |cons x xs ih=>
   intro g1 g2
   cases ys with
   |nil=>simp at g1
   |cons y ys=>exact⟨g2 0 x y rfl rfl,ih ys (by simpa using g1) (fun i a b h1 h2=>g2 (i+1) a b (by simpa using h1) (by simpa using h2))⟩
 ·obtain⟨b,hb⟩:=hFs' x (Xs hx)
  rw[hst.h _ _ hb];nofun
 ·rw[c2 id] at hb
  split at hb
  ·cases hb
  ·rename_i hni
   rw[AHeap.get_without,if_neg (fun hx=>hni (Xs hx))]
   exact hst.h _ _ hb
 ·obtain⟨d1,d2,d3⟩:=hst.d _ _ hb
  refine⟨?_,?_,d3⟩
  ·rw[AHeap.get_without,if_neg (fun hx=>?_)]
   ·exact d1
   ·obtain⟨b',hb'⟩:=hFs' id (Xs hx);rw[d2] at hb';cases hb'
  ·rw[c2 id]
   split
   ·rfl
   ·exact d2
def zo3(C:Nat→List AVal→Sh→Rs)(f:Nat)(aq:List AVal)(R:AVal):Bool:=match C f aq ⟨.nil,0⟩ with
 |some (r,S1)=>zj2 (fun _=>true) (fun _=>false) S1.t.at r R
 |none=>false
theorem jx{C:Nat→List AVal→Sh→Rs}(hC:Yl P C){f:Nat}{aq:List AVal}{R:AVal}(hR:R.nid=true)(h:zo3 C f aq R=true):PFn P f aq R:=by
 unfold zo3 at h
 split at h<;>try (cases h;done)
 rename_i r S1 hx
 refine⟨hR,0,((hC f aq _ _ _ hx [] 0 StR.empty).mono fun r' H' n' hk=>?_).fin⟩
 obtain⟨rfl,hs⟩:=hk
 exact⟨fun _=>true,fun _=>none,⟨fun i j k h=>(by cases h),fun i k h=>(by cases h),fun i h=>absurd h (Nat.not_lt_zero _),fun i k _ h=>(by cases h),p8 _⟩,z0r hs.h (fun _ h=>by cases h) _ _ h,fun id blk h=>by cases h⟩
end Go.Fx
namespace Go.Fx
variable {P:Program}
def K9(l:List Nat):Option LFn→Option LFn
 |some fn=>match ky l fn.lay.n fn.body with
  |true=>some fn
  |false=>none
 |none=>none
theorem z95{l:List Nat}(hl:∀f∈l,z4r P f){o:Option LFn}{fn:LFn}(h:K9 l o=some fn):o=some fn∧uh P fn.lay.n fn.body:=by
 cases o with
 |none=>cases h
 |some g=>
  simp only[K9] at h
  split at h<;>try (cases h;done)
  rename_i hc
  cases h
  exact⟨rfl,wk hl hc⟩
def mkF(P:Program)(f:Nat):Option LFn:=match P.funcs[f]? with
 |some fn=>match fn.body.isSome&&!(fn.name=="runtime.NumGoroutine") with
  |true=>K9 [] (ve P (List.range fn.ntmps) f)
  |false=>none
 |none=>none
def noX:Nat→List AVal→Sh→Option Rs:=fun _ _ _=>none
def zml(fw fs:Nat)(T e:TypeId)(f:Nat)(aq:List AVal)(S:Sh):Option Rs:=
 match p5 f fw with
 |true=>match aq with
  |[.ptr b 0 0,.str s]=>match S.t.at b with
   |some (.bld T' g)=>match S.t.at g with
    |some (.buf e' bs)=>match p5 T' T&&p5 e' e&&p6 (bs.length+s.length) 140737488355328 with
     |true=>match S.upd b (.bld T (S.n,0)) with
      |some S1=>match S1.cut g with
       |some S2=>some (kv (.tup [.int .i64 (s.length:Int),.val .nilIface]) (S2.new (.buf e (bs++s))))
       |none=>some none
      |none=>some none
     |false=>some none
    |_=>some none
   |_=>some none
  |_=>some none
 |false=>match p5 f fs with
  |true=>match aq with
   |[.ptr b 0 0]=>match S.t.at b with
    |some (.bld T' g)=>match S.t.at g with
     |some (.buf e' bs)=>match p5 T' T&&p5 e' e&&p6 bs.length 9223372036854775807 with
      |true=>some (some (.str bs,S))
      |false=>some none
     |_=>some none
    |_=>some none
   |_=>some none
  |false=>none
theorem zin{fw fs:Nat}{T e tb ts:TypeId}(hW:BWrite P fw T e tb ts)(hS:BStr P fs T e):xa P (zml fw fs T e):=by
 intro f aq S r S' h D H n hs
 unfold zml at h
 split at h
 ·rename_i hf
  have hf:=zl.1 hf
  subst hf
  split at h<;>try (cases h;done)
  rename_i b s
  split at h<;>try (cases h;done)
  rename_i T' g hb
  split at h<;>try (cases h;done)
  rename_i e' bs hg
  split at h<;>try (cases h;done)
  rename_i hc
  simp only[p4,zl,x3] at hc
  obtain⟨⟨rfl,rfl⟩,hlen⟩:=hc
  split at h<;>try (cases h;done)
  rename_i S1 h1
  split at h<;>try (cases h;done)
  rename_i S2 h2
  simp only[p0] at h
  obtain⟨rfl,hw⟩:=xg h
  have r1:=hs.upd hb h1
  obtain⟨gc,hgc⟩:=Sh.upd_at h1 hg
  have r2:=r1.cut hgc h2
  have r3:=r2.new hw
  replace hb:=hs.h _ _ hb
  replace hg:=hs.h _ _ hg
  rw[←hs.n] at r3
  exact zac hW hb hg hlen ⟨rfl,r3⟩
 ·split at h<;>try (cases h;done)
  rename_i hf
  have hf:=zl.1 hf
  subst hf
  split at h<;>try (cases h;done)
  rename_i b
  split at h<;>try (cases h;done)
  rename_i T' g hb
  split at h<;>try (cases h;done)
  rename_i e' bs hg
  split at h<;>try (cases h;done)
  rename_i hc
  simp only[p4,zl,x3] at hc
  obtain⟨⟨rfl,rfl⟩,hlen⟩:=hc
  simp only[p0,pA] at h
  obtain⟨rfl,rfl⟩:=h
  replace hb:=hs.h _ _ hb
  replace hg:=hs.h _ _ hg
  exact z87 hS hb hg hlen ⟨rfl,hs⟩
end Go.Fx
namespace Go.Fx
noncomputable def zos{ρ:Type}(l:List Nat)(F:Nat→Option ρ):Option ρ:=match l with
 |[]=>none
 |[j]=>F j
 |l=>by classical exact if h:∃r,∀j∈l,F j=some r then some (Classical.choose h) else none
section
variable {σ ρ:Type} (N:Nat) (b:Nat→σ→Option (σ ⊕ ρ)) (d:σ→Option (σ ⊕ ρ))
def znl(seen:List Nat):List Nat:=(List.range N).filter fun j=>!seen.contains j
noncomputable def zkr:Nat→List Nat→σ→Option ρ
 |0,_,_=>none
 |k+1,seen,s=>match znl N seen with
  |[]=>(d s).bind fun o=>match o with
   |.inl _=>none
   |.inr r=>some r
  |l=>zos l fun j=>(b j s).bind fun o=>match o with
   |.inl s'=>zkr k (j::seen) s'
   |.inr r=>some r
def zjh:List Nat→σ→Option ρ
 |[],s=>(d s).bind fun o=>match o with
  |.inl _=>none
  |.inr r=>some r
 |j::l,s=>(b j s).bind fun o=>match o with
  |.inl s'=>zjh l s'
  |.inr r=>some r
variable {N b d}
end
variable {P:Program} {N:Lay} {n0:Nat}
def zo9{σ ρ:Type}(n0 nL:Nat)(F:Nat→List Nat→σ→Option ρ)(env:List Nat→σ→Env)(hp:List Nat→σ→AHeap)(QX:ρ→Exit→Env→AHeap→Nat→Prop)(k:Nat)(r:ρ):Exit→Env→AHeap→Nat→Prop:=fun ex e H n=>
 (ex=.normal∧∃seen s,F k seen s=some r∧Sim n0 e H n (env seen s) (hp seen s) nL)∨(ex≠.normal∧QX r ex e H n)
end Go.Fx
namespace Go.Fx
open Go.Shelf Go.RowKit Go.Lib Go.Sort Go.Proofs
def zj7:AVal→Value
 |.bool b=>.bool b
 |.int k n=>.int k n
 |.str l=>.string ⟨⟨l⟩⟩
 |_=>.nilFunc
def z1m:AVal→Bool
 |.bool _=>true
 |.int _ _=>true
 |.str _=>true
 |_=>false
section
variable {I:Nat→Nat→Prop} {β:Id→Option CLoc} {n:Nat} {H:AHeap} {w w':World}
theorem z5k{x:AVal}(h:z1m x=true){v:Value}(hr:Rep I β n w x v):v=zj7 x:=by
 cases x with
 |bool b=>exact hr.bool_inv
 |int k m=>exact hr.int_inv
 |str l=>exact hr.str_inv
 |_=>cases h
theorem znq{x:AVal}(h:z1m x=true):RepI I w x (zj7 x):=by
 cases x with
 |bool b=>exact .bool b
 |int k m=>exact .int k m
 |str l=>exact .str l
 |_=>cases h
theorem zf6{x:AVal}(h:z1m x=true):x.nid=true:=by
 cases x with
 |bool b=>rfl
 |int k m=>rfl
 |str l=>rfl
 |_=>cases h
theorem zdl(hI:Inv I β n H w)(hc:Chg w w' fun _ _=>False):Inv I β n H w'∧Ext I β n H w I β n H w':=
 jd hI hc (p8 n) (fun _ _ h=>h.elim) (fun _ _ h=>h) (fun _ _ h h'=>absurd h h') (fun id hid=>.inl rfl)
  (fun id d b' k hid hd _=>by rw[hI.fresh id hid] at hd;cases hd) hI.fresh (fun i j d d' b' k hi hj h h' _=>hI.inj i j d d' b' k hi hj h h') (fun _ _ _ _ _ _ h=>h) (fun _ _ h=>h) (fun id blk h=>.inl ⟨h,rfl,fun _ _ _ _ _ h=>h⟩)
theorem zex(n:Nat)(os:Array Obj):Chg w (grow (w.drewN n) os) fun _ _=>False:=by
 refine⟨rfl,⟨rfl,fun _=>Nat.le_add_right _ _⟩,rfl,by simp,fun b hb _=>heap_grow_old _ os hb,fun b k hb _=>?_,fun b arr el fr h=>⟨arr,?_,rfl⟩,fun b o ho h _=>?_⟩
 ·exact cell?_of_heap (heap_grow_old (w.drewN n) os hb)
 all_goals
  have hlt:b<w.heap.size:=by
   rcases pT b w.heap.size with h'|h'
   ·exact h'
   ·rw[pC h'] at h;cases h
  rw[show(grow (w.drewN n) os).heap[b]?=w.heap[b]? from heap_grow_old (w.drewN n) os hlt];exact h
theorem PFn.lib{P:Program}{f:FuncId}{args:List AVal}{R:AVal}(hok:Xp P f)(ha:args.all z1m=true)(hR:z1m R=true)
 (h:∀w,Calls P f (args.map zj7).toArray w fun e w'=>e=.returned (zj7 R)∧∃n os,w'=grow (w.drewN n) os):PFn P f args R:=by
 refine⟨zf6 hR,0,hok,fun I β w vs hI hl hr=>?_⟩
 have hvs:vs=args.map zj7:=by
  refine List.ext_getElem (by rw[List.length_map];exact hl) fun i h1 h2=>?_
  have h3:i<args.length:=by omega
  have:=hr i args[i] vs[i] (pL h3) (pL h1)
  rw[List.getElem_map]
  exact z5k (p9.1 ha _ (List.getElem_mem h3)) this
 subst hvs
 refine(h w).mono ?_
 rintro e w' ⟨rfl,q,os,rfl⟩
 obtain⟨g1,g2⟩:=zdl hI (zex q os)
 exact⟨R,_,[],0,I,β,rfl,⟨rfl,rfl,rfl⟩,g1,.imm _ _ (znq hR),g2⟩
theorem z9b{w w':World}(h:w'=w):∃n os,w'=grow (w.drewN n) os:=⟨0,#[],by rw[h,grow_empty];rfl⟩
end
end Go.Fx
namespace Go.Fx
open Go.Shelf Go.RowKit Go.Lib Go.Sort Go.Proofs
def zo1:List Value:=(List.range 256).map fun c=>.int .u8 (firstT c)
def zmu:List Value:=(List.range 32).map fun j=>.int .u8 (if j % 2=0 then accLo (j / 2) else accHi (j / 2))
def zj9(k:IntKind)(zs:List Int):List Value:=zs.map fun z=>.int k z
theorem zde{P:Program}{g:Nat}{nm:String}{k:IntKind}{zs:List Int}(hg:P.globalNamed nm=some g){w:World}(h:Lib.TabIs P w nm k zs) :
 (∃arr el fr,w.heap[g]?=some (.cells arr el fr)∧arr.size=(zj9 k zs).length)∧∀ (i:Nat) (v:Value),(zj9 k zs)[i]?=some v→(∃v,w.cell? ⟨g,i,none⟩=some v)∧w.cell? ⟨g,i,none⟩=some v:=by
 unfold Lib.TabIs World.var? at h
 rw[hg,Option.bind_some] at h
 split at h<;>try (cases h;done)
 rename_i cs el fr hw
 simp only[p0] at h
 subst h
 refine⟨⟨_,_,_,hw,by simp[zj9]⟩,fun i v hv=>?_⟩
 have:w.cell? ⟨g,i,none⟩=some v:=by
  unfold pV
  simp only[hw]
  rw[←hv]
  simp[zj9]
 exact⟨⟨_,this⟩,this⟩
end Go.Fx
namespace Go.Fx
open Go.Shelf
variable {P:Program}
def orX(X1 X2:Nat→List AVal→Sh→Option Rs):Nat→List AVal→Sh→Option Rs:=fun f xs S=>match X1 f xs S with
 |some r=>some r
 |none=>X2 f xs S
theorem j0{X1 X2:Nat→List AVal→Sh→Option Rs}(h1:xa P X1)(h2:xa P X2):xa P (orX X1 X2):=by
 intro f xs S r S' h
 unfold orX at h
 split at h
 ·rename_i h'
  simp only[p0] at h
  subst h
  exact h1 f xs S r S' h'
 ·exact h2 f xs S r S' h
def zou(fb fl:Nat)(T e:TypeId)(f:Nat)(xs:List AVal)(S:Sh):Option Rs:=
 match p5 f fb with
 |true=>match xs with
  |[.ptr b 0 0,.int .u8 (.ofNat k)]=>match S.t.at b with
   |some (.bld T' g)=>match S.t.at g with
    |some (.buf e' bs)=>match p5 T' T&&p5 e' e&&p6 (bs.length+1) 140737488355328&&p6 k 255 with
     |true=>match S.upd b (.bld T (S.n,0)) with
      |some S1=>match S1.cut g with
       |some S2=>some (kv (.val .nilIface) (S2.new (.buf e (bs++[UInt8.ofNat k]))))
       |none=>some none
      |none=>some none
     |false=>some none
    |_=>some none
   |_=>some none
  |_=>some none
 |false=>match p5 f fl with
  |true=>match xs with
   |[.ptr b 0 0]=>match S.t.at b with
    |some (.bld T' g)=>match S.t.at g with
     |some (.buf _ bs)=>match p5 T' T with
      |true=>some (some (.int .i64 (bs.length:Int),S))
      |false=>some none
     |_=>some none
    |_=>some none
   |_=>some none
  |false=>none
def zn2(fc s:Nat)(f:Nat)(xs:List AVal)(S:Sh):Option Rs:=
 match p5 f fc with
 |true=>match xs with
  |[.isl s' [] _]=>match p5 s' s with
   |true=>some (some (.isl s [] false,S))
   |false=>none
  |[.val (.slice none 0 0)]=>some (some (.isl s [] false,S))
  |[.msl _ _ _ 0 _]=>some (some (.isl s [] false,S))
  |_=>none
 |false=>none
def zkv:List UInt8→Bool
 |[]=>true
 |b::r=>match p6 b.toNat 127 with
  |true=>zkv r
  |false=>false
def znz(fv:Nat)(f:Nat)(xs:List AVal)(S:Sh):Option Rs:=
 match p5 f fv with
 |true=>match xs with
  |[.str s]=>match zkv s&&p6 s.length 9223372036854775807 with
   |true=>some (some (.bool true,S))
   |false=>match p6 s.length 9223372036854775807 with
    |true=>some (some (.bool (Lib.validD s),S))
    |false=>none
  |_=>none
 |false=>none
def zdi(c:Nat):List UInt8→Bool
 |[]=>true
 |b::r=>match p5 b.toNat c with
  |true=>false
  |false=>zdi c r
theorem z5s{c:Nat}(hc:c≤255):∀ {l:List UInt8},zdi c l=true→Lib.indexByte l c.toUInt8=-1
 |[],_=>rfl
 |b::r,h=>by
  unfold zdi at h
  split at h<;>try (cases h;done)
  rename_i hb
  have hb:=pG hb
  unfold Lib.indexByte
  rw[z5s hc h]
  have:(b==c.toUInt8)=false:=by
   rw[beq_eq_false_iff_ne]
   intro he
   apply hb
   rw[he]
   simp[Nat.toUInt8]
   omega
  rw[this]
  rfl
def z8w(fi:Nat)(f:Nat)(xs:List AVal)(S:Sh):Option Rs:=
 match p5 f fi with
 |true=>match xs with
  |[.str s,.int .u8 (.ofNat k)]=>match zdi k s&&p6 k 255 with
   |true=>some (some (.int .i64 (-1),S))
   |false=>some (some (.int .i64 (Lib.indexByte s k.toUInt8),S))
  |_=>none
 |false=>none
theorem za8{fi:Nat}(h0:∀ (s:List UInt8) (c:Int),PFn P fi [.str s,.int .u8 c] (.int .i64 (Lib.indexByte s c.toNat.toUInt8))):xa P (z8w fi):=by
 intro f xs S r S' h D H n hs
 unfold z8w at h
 split at h<;>try (cases h;done)
 rename_i hf
 have hf:=zl.1 hf
 subst hf
 split at h<;>try (cases h;done)
 rename_i s k
 have h1:=h0 s (.ofNat k)
 split at h
 ·rename_i hc
  simp only[p4,x3] at hc
  simp only[p0,pA] at h
  obtain⟨rfl,rfl⟩:=h
  have h2:=z5s hc.2 hc.1
  rw[show(Int.ofNat k).toNat=k from rfl,h2] at h1
  exact PFn.call h1 (And.intro (Vw.same _ rfl) (And.intro (Vw.same _ rfl) trivial)) ⟨rfl,hs⟩
 ·simp only[p0,pA] at h
  obtain⟨rfl,rfl⟩:=h
  exact PFn.call h1 (And.intro (Vw.same _ rfl) (And.intro (Vw.same _ rfl) trivial)) ⟨rfl,hs⟩
theorem zat{P:Program}{ρ:Ren}(L:Proofs.Lays.n137 P ρ){f:FuncId}(hf:ρ.f 137=f)(hok:Xp P f)(s:List UInt8)(c:Int) :
 PFn P f [.str s,.int .u8 c] (.int .i64 (Lib.indexByte s c.toNat.toUInt8)):=by
 subst hf
 exact PFn.lib hok rfl rfl fun w=>(Proofs.Any.strings_IndexByte L ⟨⟨s⟩⟩ c w).mono fun e w' h=>⟨h.1,z9b h.2⟩
def zp1(P:Program)(l:List Nat)(f:Nat):Option LFn:=match l.any fun i=>p5 i f with
 |false=>mkF P f
 |true=>match P.funcs[f]? with
  |some fn=>match fn.body.isSome&&!(fn.name=="runtime.NumGoroutine") with
   |true=>K9 [] (ve P [] f)
   |false=>none
  |none=>none
def zp4(P:Program)(z l:List Nat)(f:Nat):Option LFn:=match P.funcs[f]? with
 |some fn=>match fn.body.isSome&&!(fn.name=="runtime.NumGoroutine") with
  |true=>match l.any fun i=>p5 i f with
   |true=>K9 z (ve P [] f)
   |false=>K9 z (ve P (List.range fn.ntmps) f)
  |false=>none
 |none=>none
def zef(u:List (Nat×List Nat))(f:Nat):List Nat:=match u.find? (fun x=>p5 x.1 f) with
 |some x=>x.2
 |none=>[]
def zhp(u:List (Nat×List Nat))(f n:Nat):List Nat:=match zef u f with
 |[]=>List.range n
 |l=>(List.range n).filter fun i=>!(l.any fun j=>p5 j i)
def znu(P:Program)(z:List Nat)(u:List (Nat×List Nat))(f:Nat):Option LFn:=match P.funcs[f]? with
 |some fn=>match fn.body.isSome&&!(fn.name=="runtime.NumGoroutine") with
  |true=>K9 z (ve P (zhp u f fn.ntmps) f)
  |false=>none
 |none=>none
theorem zhg{P:Program}{z:List Nat}{u:List (Nat×List Nat)}(hz:∀f∈z,z4r P f):z66 P (znu P z u):=by
 intro f fn h
 unfold znu at h
 split at h<;>try (cases h;done)
 rename_i g hg
 split at h<;>try (cases h;done)
 rename_i hb
 simp only[p4,Bool.not_eq_true'] at hb
 obtain⟨h,hi⟩:=z95 hz h
 exact⟨⟨_,h⟩,⟨g,hg,hb.1,hb.2⟩,hi⟩
end Go.Fx
namespace Go.Fx
open Go.Shelf
variable {P:Program}
def zo4(fc:Nat)(f:Nat)(xs:List AVal)(S:Sh):Option Rs:=
 match p5 f fc with
 |true=>match xs with
  |[.str s,.str [c]]=>some (some (.int .i64 (Lib.countByte s c),S))
  |_=>none
 |false=>none
end Go.Fx
namespace Go.Fx
open Go.Shelf Go.RowKit Go.Lib Go.Proofs
variable {P:Program}
def z2m:List Value:=(List.range 256).map fun c=>.int .u8 (if Lib.isSp (UInt8.ofNat c) then 1 else 0)
theorem z1d{ρ:Ren}(L:Lays.n157 P ρ)(hi9:(P.info? (ρ.t 9)).map (fun i=>(i.zero,i.size,i.bytes))=some (some (.string ByteArray.empty),1,16)){f:FuncId}(hf:ρ.f 157=f)(hok:Xp P f)(hg:(ρ.g 0,z2m)∈GL){s:List UInt8}(hs:s.length<4294967281)
 (ha:s.all (fun b=>decide (b.toNat<128))=true) {H:AHeap} {n:Nat} {K:AVal→AHeap→Nat→Prop} (hk:K (.msl (n,0) 1 0 (Lib.fields s).length true) (((n,0),.rows 1 ((Lib.fields s).map fun l=>[.str l]))::H) (n+1)):ACalls P f [.str s] H n K:=by
 subst hf
 refine⟨hok,fun I β w vs hI hl hr=>?_⟩
 obtain⟨v,rfl⟩:∃v,vs=[v]:=by
  match vs,hl with
  |[v],_=>exact⟨v,rfl⟩
 have hv:v=zj7 (.str s):=z5k rfl (hr 0 _ v rfl rfl)
 subst hv
 have hT:∀c:Nat,c<256→w.cell? ⟨ρ.g 0,c,none⟩=some (.int .u8 (if Lib.isSp (UInt8.ofNat c) then 1 else 0)):=fun c hc=>((hI.glob.1 _ hg).2 c _ (by simp[z2m,hc])).2
 refine(Any.strings_Fields_core L hi9 ⟨⟨s⟩⟩ w (by simpa[ByteArray.size] using hs) (fun j b hb=>by simpa using p9.1 ha b (pR hb)) hT).mono ?_
 rintro e w' ⟨rfl,rfl⟩
 have hrows:RowsIn I β n w 1 0 ((Lib.fields s).map fun l=>[.str l]) ((Lib.fields s).map fun l=>Value.string ⟨l.toArray⟩).toArray:=by
  refine⟨by simp,fun i r hi=>?_,fun i r j x hi hj=>?_⟩
  ·simp only[pM,Option.map_eq_some_iff] at hi
   obtain⟨l,_,rfl⟩:=hi
   rfl
  ·simp only[pM,Option.map_eq_some_iff] at hi
   obtain⟨l,hl,rfl⟩:=hi
   cases j with
   |zero=>
    simp only[pB,p0] at hj
    subst hj
    exact⟨.string ⟨l.toArray⟩,by simp[hl],rfl,.imm _ _ (.str _)⟩
   |succ j=>simp at hj
 obtain⟨r,H',n',I',β',g1,g2,g3,g4⟩:=Qz (K:=K) hI (el:=ρ.t 9) (fr:=(0,0)) (xk w _) (fun k h=>vu k _ h) EndOk.zero hrows hk (ko (cap:=(Lib.fields s).length) _ (p8 _) (fun _=>rfl) (by simp))
 exact⟨r,_,H',n',I',β',rfl,g1,g2,g3,g4⟩
def z4e(ff:Nat)(f:Nat)(xs:List AVal)(S:Sh):Option Rs:=
 match p5 f ff with
 |true=>match xs with
  |[.str s]=>match zkv s&&p6 s.length 4294967280 with
   |true=>some (kv (.msl (S.n,0) 1 0 (Lib.fields s).length true) (S.new (.rows 1 ((Lib.fields s).map fun l=>[.str l]))))
   |false=>none
  |_=>none
 |false=>none
theorem z5c:∀ {l:List UInt8},zkv l=true→l.all (fun b=>decide (b.toNat<128))=true
 |[],_=>rfl
 |b::r,h=>by
  unfold zkv at h
  split at h<;>try (cases h;done)
  rename_i hb
  have hb:=x3.1 hb
  simp only[List.all_cons,p4,decide_eq_true_eq]
  exact⟨by omega,z5c h⟩
theorem z8i{ff:Nat}(h0:∀ {s:List UInt8},s.length<4294967281→s.all (fun b=>decide (b.toNat<128))=true→∀ {H:AHeap} {n:Nat} {K:AVal→AHeap→Nat→Prop},K (.msl (n,0) 1 0 (Lib.fields s).length true) (((n,0),.rows 1 ((Lib.fields s).map fun l=>[.str l]))::H) (n+1)→ACalls P ff [.str s] H n K):xa P (z4e ff):=by
 intro f xs S r S' h D H n hs
 unfold z4e at h
 split at h<;>try (cases h;done)
 rename_i hf
 have hf:=zl.1 hf
 subst hf
 split at h<;>try (cases h;done)
 rename_i s
 split at h<;>try (cases h;done)
 rename_i hc
 simp only[p4,x3] at hc
 simp only[p0] at h
 obtain⟨rfl,hw⟩:=xg h
 exact h0 (by omega) (z5c hc.1) ⟨by rw[hs.n],hs.new hw⟩
end Go.Fx
namespace Go.Fx
universe u
theorem TT:True:=True.intro
theorem AI{a b:Prop}(x:a)(y:b):a∧b:=⟨x,y⟩
theorem VS{F:Id→Bool}{H:AHeap}{ρ:Id→Option Id}{n:Nat}{x:AVal}(h:x.nid=true):Vw F H ρ n x x:=.same x h
theorem NB{a b:Nat}(h:p6 a b=true):a≤b:=pJ h
theorem EX{α:Sort u}{p:α→Prop}(w:α)(h:p w):Exists p:=⟨w,h⟩
theorem S2{F:Id→Bool}{H:AHeap}{ρ:Id→Option Id}{n:Nat}{a b:AVal}{R:Prop}(h1:a.nid=true)(h2:b.nid=true)(r:R):Vw F H ρ n a a∧Vw F H ρ n b b∧R:=⟨VS h1,VS h2,r⟩
theorem S4{F:Id→Bool}{H:AHeap}{ρ:Id→Option Id}{n:Nat}{a b c d:AVal}{R:Prop}(h1:a.nid=true)(h2:b.nid=true)(h3:c.nid=true)(h4:d.nid=true)(r:R):Vw F H ρ n a a∧Vw F H ρ n b b∧Vw F H ρ n c c∧Vw F H ρ n d d∧R:=⟨VS h1,VS h2,VS h3,VS h4,r⟩
theorem SP{F:Id→Bool}{H:AHeap}{ρ:Id→Option Id}{n:Nat}{b b':Id}{i o:Nat}{R:Prop}(h:ρ b'=some b)(r:R):Vw F H ρ n (.ptr b i o) (.ptr b' i o)∧R:=⟨.ptr _ _ _ _ h,r⟩
theorem VL{F:Id→Bool}{H:AHeap}{ρ:Id→Option Id}{n:Nat}:∀ {l:List AVal},AVal.nid.nidL l=true→VwL F H ρ n l l
 |[],_=>trivial
 |x::l,h=>by
  simp only[AVal.nid.nidL,p4] at h
  exact⟨VS h.1,VL h.2⟩
theorem OL{F:Id→Bool}{H:AHeap}{ρ:Id→Option Id}{n:Nat}{l:List AVal}(h:AVal.nid.nidL l=true):BVw F H ρ n (.one l) (.one l):=BVw.oneL (VL h)
abbrev Qo(d:Nat)(o:LOp):LOper:=⟨some d,o,none⟩
abbrev Qg(d:Nat)(o:LOp)(g:Nat×Bool):LOper:=⟨some d,o,some g⟩
abbrev Qm(d s:Nat):LOper:=⟨some d,.mv (.t s),none⟩
abbrev Qn(d s:Nat)(g:Nat×Bool):LOper:=⟨some d,.mv (.t s),some g⟩
abbrev Qf(d k s:Nat):LOper:=⟨some d,.faddr k (.t s),none⟩
abbrev Qe(d k s:Nat)(g:Nat×Bool):LOper:=⟨some d,.faddr k (.t s),some g⟩
abbrev Ql(d n s:Nat):LOper:=⟨some d,.load false n (.t s),none⟩
abbrev Qk(d n s:Nat)(g:Nat×Bool):LOper:=⟨some d,.load false n (.t s),some g⟩
abbrev Qt(d n s:Nat):LOper:=⟨some d,.load true n (.t s),none⟩
abbrev Qp(d a b:Nat):LOper:=⟨some d,.pick (.t a) (.t b) (.c (.bool false)),none⟩
abbrev Qi(d:Nat)(n:Int):LOper:=⟨some d,.mv (.c (.int .i64 n)),none⟩
abbrev Qb(d:Nat):LOper:=⟨some d,.mv (.c (.bool false)),none⟩
abbrev Qc(d f s:Nat):LOper:=⟨some d,.call f [(.t s)],none⟩
abbrev i6(n:Int):AVal:=.int .i64 n
end Go.Fx
namespace Go.Fx
def inR(x:Int):Prop:=-9223372036854775808≤x∧x≤9223372036854775807
theorem zjs{x:Int}(h:inR x):W x=x:=W2 h.1 h.2
theorem zme(z:Int):W z=Int.bmod z 18446744073709551616:=by
 show(if(true&&decide (z % 18446744073709551616≥9223372036854775808))=true then z % 18446744073709551616-18446744073709551616 else z % 18446744073709551616)=_
 unfold Int.bmod
 by_cases h:z % 18446744073709551616≥9223372036854775808
 ·rw[if_pos (by simpa using h)];simp only;split<;>omega
 ·rw[if_neg (by simpa using h)];simp only;split<;>omega
theorem zkp(a b:Int):W (W a+b)=W (a+b):=by simp only[zme,Int.bmod_add_bmod]
theorem zao(a b:Int):W (a+W b)=W (a+b):=by simp only[zme,Int.add_bmod_bmod]
theorem zlx(a b:Int):W (W a-b)=W (a-b):=by simp only[zme,Int.bmod_sub_bmod]
theorem zka(a b:Int):W (a-W b)=W (a-b):=by simp only[zme,Int.sub_bmod_bmod]
theorem z5h{σ ρ:Type}(b:σ→Option (σ ⊕ ρ))(s:σ):Zf none b s=match b s with
 |none=>none
 |some (.inl s')=>Zf none b s'
 |some (.inr r)=>some r:=zee b s
theorem xz{σ ρ:Type}{b:σ→Option (σ ⊕ ρ)}{s s':σ}(h:b s=some (.inl s')):Zf none b s=Zf none b s':=by rw[z5h,h]
theorem qt{σ ρ:Type}{b:σ→Option (σ ⊕ ρ)}{s:σ}{x:Option ρ}(h:b s=x.map .inr):Zf none b s=x:=by rw[z5h,h];cases x<;>rfl
end Go.Fx
