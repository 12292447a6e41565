/-
  Own framework.
-/
import Derived.Test.YtjkfnbjgpilokaaGreatDoorFc
import Derived.Test.YtjkfnbjgpilokaaGreatDoorFb
import Derived.RangeFuncRecord
import Derived.RangeFuncIn
import Derived.Shelf.Small.Strs
import Derived.Sort.Grow
import Derived.Shelf.Unicode.ValidAny
import Derived.Lib.LaidTab
import Derived.Shelf.Strings.Count
import Derived.Shelf.Strings.Fields
set_option linter.unusedVariables false
set_option linter.unusedSimpArgs false
open Array renaming getElem?_eq_none→pF
open Bool renaming and_eq_true→p4,false_eq_true→pI
open Go.DataW renaming trod→pY
open List renaming getElem?_eq_getElem→p7,all_eq_true→pB,getElem?_cons_zero→pC,getElem?_map→pD,length_append→pE,getElem?_eq_none→pH,getElem?_cons_succ→pJ,getD_eq_getElem?_getD→pM,mem_map→pR,getElem?_toArray→pS,mem_cons_of_mem→pT,mem_of_getElem?→pU,mem_cons_self→pW,range→pX
open Nat renaming beq→p5,ble→p6,le_refl→p8,eq_of_beq_eq_true→pA,ne_of_beq_eq_false→pL,le_of_ble_eq_true→pN,lt_or_ge→pQ
open Option renaming map_some→pK,map_eq_some_iff→pO
open Option.some renaming injEq→p0
open Prod.mk renaming injEq→p9
open Go.Result renaming andThen_ok→pG
open Go.Sem renaming run_bind→pP,run_pure→pV
open Go.World renaming cell?→pZ
namespace Go.Fx
open Go
section
variable {P:Program} {I:Nat→Nat→Prop} {β:Id→Option CLoc} {n:Nat} {H:AHeap} {w:World}
structure BWrite(P:Program)(f:FuncId)(T e tb ts:TypeId):Prop where
 ok:Xv P f
 ht:P.underlying tb=some (.slice e)
 hu:P.underlying ts=some .string
 hz:∃zs,yq P e=some zs
 hsz:yv P e=some 1
 hby:ua P e=some 1
 used:∀ (b:Nat) (s:ByteArray) (v v2:Value) (w w2:World),w.heap[b]?=some (.cells #[.pointer (some ⟨b,0,none⟩),v] T (0,0)) →
  (Builtin.append_ #[tb,ts] tb #[v,.string s]).run P w=.ok v2 w2→(∃a l c,v2=.slice a l c)→w2.heap[b]?=some (.cells #[.pointer (some ⟨b,0,none⟩),v] T (0,0)) →
  Calls P f #[.pointer (some ⟨b,0,none⟩),.string s] w fun e w'=>e=.returned (.tuple #[.int .i64 s.size,.nilIface])∧w'=w2.setCell ⟨b,1,none⟩ v2
 fresh:∀ (b:Nat) (s:ByteArray) (v v2:Value) (w w2:World),w.heap[b]?=some (.cells #[.pointer none,v] T (0,0)) →
  (Builtin.append_ #[tb,ts] tb #[v,.string s]).run P (w.setCell ⟨b,0,none⟩ (.pointer (some ⟨b,0,none⟩)))=.ok v2 w2→(∃a l c,v2=.slice a l c)→w2.heap[b]?=some (.cells #[.pointer (some ⟨b,0,none⟩),v] T (0,0)) →
  Calls P f #[.pointer (some ⟨b,0,none⟩),.string s] w fun e w'=>e=.returned (.tuple #[.int .i64 s.size,.nilIface])∧w'=w2.setCell ⟨b,1,none⟩ v2
structure BStr(P:Program)(f:FuncId)(T e:TypeId):Prop where
 ok:Xv P f
 nil:∀ (b:Nat) (p:Value) (w:World),w.heap[b]?=some (.cells #[p,.slice none 0 0] T (0,0)) →
  Calls P f #[.pointer (some ⟨b,0,none⟩)] w fun e w'=>e=.returned (.string ⟨#[]⟩)∧w'=w.drew
 zero:∀ (b g cap:Nat) (p:Value) (w:World),w.heap[b]?=some (.cells #[p,.slice (some ⟨g,0,none⟩) 0 cap] T (0,0))→cap≠0 →
  Calls P f #[.pointer (some ⟨b,0,none⟩)] w fun e w'=>e=.returned (.string ⟨#[]⟩)∧w'=w.drew
 full:∀ (b g cap:Nat) (l:List UInt8) (p:Value) (w:World) (cur:Array Value) (fr:Nat×Nat),w.heap[b]?=some (.cells #[p,.slice (some ⟨g,0,none⟩) l.length cap] T (0,0))→l≠[]→cap≠0→l.length≤cur.size→l.length≤9223372036854775807 →
  w.heap[g]?=some (.cells cur e fr)→(∀ (j:Nat) (x:UInt8),l[j]?=some x→cur[j]?=some (Value.int .u8 (x.toNat:Int))) →
  Calls P f #[.pointer (some ⟨b,0,none⟩)] w fun e w'=>e=.returned (.string ⟨l.toArray⟩)∧w'=w.drew.freeze ⟨g,0,none⟩ l.length
theorem k8{b k:Nat}{arr:Array Value}{el:TypeId}{fr:Nat×Nat}(h:w.heap[b]?=some (.cells arr el fr))(v:Value):(w.setCell ⟨b,k,none⟩ v).heap[b]?=some (.cells (arr.setIfInBounds k v) el fr):=by
 simp[World.setCell,Array.getElem?_modify,h]
theorem Q1{b k x:Nat}(hx:x≠b)(v:Value):(w.setCell ⟨b,k,none⟩ v).heap[x]?=w.heap[x]?:=by
 simp only[World.setCell,Array.getElem?_modify]
 rw[if_neg (fun h=>hx h.symm)]
theorem z2m(hI:Inv I β n H w){w':World}{b g:Id}{T e:TypeId}{bs bs2:List UInt8}{c d d2:CLoc}(hb:H.get b=some (.bld T g))(hg:H.get g=some (.buf e bs))(hc:β b=some c)(hd:β g=some d)
 (hC:Chg w w' (fun x k=>c.has x k∨d.has x k)) (hd2:∀x k,d2.has x k→x<w'.heap.size∧(d.has x k∨w.heap.size≤x))
 (hB1:RepB I (upd (upd β g none) (n,0) (some d2)) (n+1) w' c (.bld T (n,0))) (hB2:RepB I (upd (upd β g none) (n,0) (some d2)) (n+1) w' d2 (.buf e bs2)) :
 Inv I (upd (upd β g none) (n,0) (some d2)) (n+1) (((n,0),.buf e bs2)::(H.set b (.bld T (n,0))).del g) w' ∧
 Ext I β n H w I (upd (upd β g none) (n,0) (some d2)) (n+1) (((n,0),.buf e bs2)::(H.set b (.bld T (n,0))).del g) w':=by
 have hbg:b≠g:=by rintro rfl;rw[hb] at hg;cases hg
 have hbn:=wa hI hc
 have hgn:=wa hI hd
 refine x9 hI hC (Nat.le_succ n) ?_ (fun _ _ h=>h) (fun _ _ h h'=>absurd h h') ?_ ?_ ?_ ?_ ?_ ?_ ?_
 ·rintro x k (h|h)
  ·exact⟨b,c,hc,by rw[hb];simp,h⟩
  ·exact⟨g,d,hd,by rw[hg];simp,h⟩
 ·intro id hid
  by_cases h:id=g
  ·subst h;exact .inr ⟨by rw[zh _ _ (j8 hid),yf],by rw[hg];simp⟩
  ·exact .inl (by rw[zh _ _ (j8 hid),zh _ _ h])
 ·intro id q x k hid hq hk
  rcases vd hq hI.fresh with⟨_,rfl⟩|⟨h,_⟩
  ·obtain⟨h1,h2⟩:=hd2 x k hk
   refine⟨h1,?_⟩
   rcases h2 with h2|h2
   ·exact .inr ⟨g,d,hd,by rw[hg];simp,h2⟩
   ·exact .inl h2
  ·omega
 ·intro id hid
  rw[zh _ _ (fun h=>by subst h;exact absurd hid (Nat.not_succ_le_self n)),zh _ _ (fun h=>by subst h;omega)]
  exact hI.fresh id (by omega)
 ·intro i j q q' x k hi hj hq hq' hj'
  rcases vd hj hI.fresh with⟨rfl,rfl⟩|⟨h,_⟩
  ·rcases vd hi hI.fresh with⟨rfl,_⟩|⟨_,h1,h2⟩
   ·rfl
   ·rcases(hd2 x k hq').2 with h|h
    ·exact absurd (hI.inj i g q d x k h2 hd hq h) h1
    ·exact(Zi hI h2 hq h).elim
  ·omega
 ·intro i q x k hi hq h;exact h
 ·intro id hid h
  rw[AHeap.get_cons_other _ _ (j8 hid).symm,AHeap.get_del] at h
  split at h
  ·exact absurd rfl h
  ·exact(Za id).1 h
 ·intro id blk hid
  by_cases h:(n,0)=id
  ·subst h
   rw[AHeap.get_cons_same] at hid
   simp only[p0] at hid
   subst hid
   exact .inr ⟨d2,yf _ _ _,hB2⟩
  ·rw[AHeap.get_cons_other _ _ h,AHeap.get_del] at hid
   split at hid
   ·cases hid
   ·rename_i hne
    have hβ:upd (upd β g none) (n,0) (some d2) id=β id:=by rw[zh _ _ (fun h'=>h h'.symm),zh _ _ (fun h'=>hne h'.symm)]
    rw[AHeap.get_set] at hid
    by_cases hbi:b=id
    ·subst hbi
     rw[if_pos rfl,hb] at hid
     simp only[pK,p0] at hid
     subst hid
     exact .inr ⟨c,hβ.trans hc,hB1⟩
    ·rw[if_neg hbi] at hid
     refine .inl ⟨hid,hβ,fun q x k hq hk hw=>?_⟩
     rcases hw with hw|hw
     ·exact hbi (hI.inj b id c q x k hc hq hw hk)
     ·exact hne (hI.inj g id d q x k hd hq hw hk)
def xl(l:List UInt8):Array Value:=(l.map fun x=>Value.int .u8 (x.toNat:Int)).toArray
theorem qu(l:List UInt8):(xl l).size=l.length:=by simp[xl]
theorem uf(l:List UInt8)(i:Nat)(x:UInt8)(h:l[i]?=some x):(xl l)[i]?=some (Value.int .u8 (x.toNat:Int)):=by
 simp only[xl,pS,pD,h];rfl
theorem z92(s:List UInt8)(w:World):(Builtin.firstCells 1 s.length (.string ⟨⟨s⟩⟩)).run P w=.ok (xl s) w:=by
 have h:(Builtin.firstCells 1 s.length (.string ⟨⟨s⟩⟩))=(pure ((ByteArray.extract ⟨⟨s⟩⟩ 0 s.length).data.map fun b=>Value.int .u8 b.toNat):Sem (Array Value)):=rfl
 rw[h,pV]
 congr 1
 apply Array.toList_inj.1
 have h2:(ByteArray.extract ⟨⟨s⟩⟩ 0 s.length).data=⟨s⟩:=by
  rw[ByteArray.data_extract]
  apply Array.toList_inj.1
  simp
 rw[h2]
 simp[xl]
theorem z5x{t u c rt:TypeId}{z:Nat}(ht:P.underlying t=some (.slice c))(hu:(∃c',P.underlying u=some (.slice c'))∨P.underlying u=some .string)(hsz:yv P c=some z)(w:World)(base:Option Addr)(len cap:Nat)(h:len≤cap){vy:Value}
 (hly:(Builtin.lenOf vy).run P w=.ok 0 w) (f2:(Builtin.firstCells z 0 vy).run P w=.ok #[] w) :
 (Builtin.append_ #[t,u] rt #[.slice base len cap,vy]).run P w=.ok (.slice base len cap) w:=by
 rcases hu with⟨c2,hu⟩|hu
 ·unfold Builtin.append_
  simp only[pS,pC,pJ,pP,z8 ht,z8 hu,pG,y3 hsz,pV,hly,pI,if_false,Bool.not_false,if_true,Nat.add_zero]
  rw[if_pos h]
  simp only[pP,f2,pG]
  cases base<;>simp[storeCells]
 ·unfold Builtin.append_
  simp only[pS,pC,pJ,pP,z8 ht,z8 hu,pG,y3 hsz,pV,hly,pI,if_false,Bool.not_false,if_true,Nat.add_zero]
  rw[if_pos h]
  simp only[pP,f2,pG]
  cases base<;>simp[storeCells]
theorem z7x{t u c rt:TypeId}{z:Nat}(ht:P.underlying t=some (.slice c))(hu:(∃c',P.underlying u=some (.slice c'))∨P.underlying u=some .string)(hsz:yv P c=some z)(w w':World)(b len cap m:Nat)(h:len+m≤cap){vy:Value}{a2:Array Value}
 (hly:(Builtin.lenOf vy).run P w=.ok m w) (f2:(Builtin.firstCells z m vy).run P w=.ok a2 w)
 (hst:(storeCells ⟨b,0+len*z,none⟩ a2.toList 0).run P w=.ok () w') :
 (Builtin.append_ #[t,u] rt #[.slice (some ⟨b,0,none⟩) len cap,vy]).run P w=.ok (.slice (some ⟨b,0,none⟩) (len+m) cap) w':=by
 rcases hu with⟨c2,hu⟩|hu
 ·unfold Builtin.append_
  simp only[pS,pC,pJ,pP,z8 ht,z8 hu,pG,y3 hsz,pV,hly,pI,if_false,Bool.not_false,if_true]
  rw[if_pos h]
  simp only[pP,f2,pG,yb,hst,pV]
 ·unfold Builtin.append_
  simp only[pS,pC,pJ,pP,z8 ht,z8 hu,pG,y3 hsz,pV,hly,pI,if_false,Bool.not_false,if_true]
  rw[if_pos h]
  simp only[pP,f2,pG,yb,hst,pV]
theorem zbg(w:World)(b:Nat)(l:List UInt8)(h:∀ (j:Nat) (x:UInt8),l[j]?=some x→w.cell? ⟨b,j,none⟩=some (Value.int .u8 (x.toNat:Int))):(loadCells ⟨b,0,none⟩ (l.length*1)).run P w=.ok (xl l) w:=by
 rw[Nat.mul_one,u3 (fun j=>Value.int .u8 ((l.getD j 0).toNat:Int)) l.length (fun j hj=>by
  rw[Nat.zero_add];exact h j _ (by rw[pM,p7 hj];rfl))]
 congr 1
 apply Array.toList_inj.1
 simp only[xl]
 apply List.ext_getElem?
 intro j
 simp only[pD]
 by_cases hj:j<l.length
 ·rw[List.getElem?_range hj,p7 hj];simp[pM,p7 hj]
 ·rw[pH (by simpa using hj),pH (by omega)];rfl
theorem z8o{w w':World}{c:CLoc}{arr:Array Value}{el:TypeId}{fr:Nat×Nat}(h:Wrote w w' c.blk)(hheap:w.heap[c.blk]?=some (.cells arr el fr))(hlo:c.lo=0)(hpos:0<c.size)(hsz:arr.size≤c.size):Chg w w' c.has:=by
 refine⟨h.os,h.tape,h.output,by rw[h.size];exact p8 _,fun b _ hb=>?_,fun b k _ hb=>?_,fun b a e f hb=>?_,fun b es ck hb _=>?_⟩
 ·refine h.other b fun hx=>?_
  subst hx
  exact hb 0 ⟨rfl,by omega,hpos⟩
 ·by_cases hx:b=c.blk
  ·subst hx
   obtain⟨arr',h1,h2⟩:=h.shape _ _ _ hheap
   have hk:c.size≤k:=by
    rcases pQ k c.size with h|h
    ·exact absurd ⟨rfl,by omega,h⟩ hb
    ·exact h
   unfold pZ
   simp only[hheap,h1]
   rw[pF (by omega),pF (by omega)]
  ·exact cell?_of_heap (h.other b hx)
 ·by_cases hx:b=c.blk
  ·subst hx;exact h.shape _ _ _ hb
  ·exact⟨a,by rw[h.other b hx];exact hb,rfl⟩
 ·by_cases hx:b=c.blk
  ·subst hx;exact h.mapsAt _ ck hb
  ·rw[h.other b hx];exact hb
theorem zal{T e tb ts:TypeId}{vy:Value}(ht:P.underlying tb=some (.slice e))(hu:(∃c',P.underlying ts=some (.slice c'))∨P.underlying ts=some .string)(hz0:∃zs,yq P e=some zs)(hsz:yv P e=some 1)(hby:ua P e=some 1)
 {b g:Id} {bs s:List UInt8} (hb:H.get b=some (.bld T g)) (hg:H.get g=some (.buf e bs)) (hlen:bs.length+s.length≤140737488355328) (hI:Inv I β n H w) {c:CLoc} (hc:β b=some c) {p v:Value}
 (hheap:w.heap[c.blk]?=some (.cells #[p,v] T (0,0))) {w1:World} (hw1:Wrote w w1 c.blk) (hw1b:w1.heap[c.blk]?=some (.cells #[.pointer (some ⟨c.blk,0,none⟩),v] T (0,0)))
 (hsl:∀wx:World,wx.heap=w1.heap→(Builtin.lenOf vy).run P wx=.ok s.length wx) (hfc:∀wx:World,wx.heap=w1.heap→(Builtin.firstCells 1 s.length vy).run P wx=.ok (xl s) wx) :
 ∃ (v2:Value) (w2:World) (β':Id→Option CLoc),(Builtin.append_ #[tb,ts] tb #[v,vy]).run P w1=.ok v2 w2∧(∃a l c,v2=.slice a l c)∧w2.heap[c.blk]?=some (.cells #[.pointer (some ⟨c.blk,0,none⟩),v] T (0,0)) ∧
  Inv I β' (n+1) (((n,0),.buf e (bs++s))::(H.set b (.bld T (n,0))).del g) (w2.setCell ⟨c.blk,1,none⟩ v2)∧Ext I β n H w I β' (n+1) (((n,0),.buf e (bs++s))::(H.set b (.bld T (n,0))).del g) (w2.setCell ⟨c.blk,1,none⟩ v2):=by
 obtain⟨c',hc',hB⟩:=hI.blocks b _ hb
 rw[hc] at hc'
 simp only[p0] at hc'
 subst hc'
 obtain⟨d,hd,hD⟩:=hI.blocks g _ hg
 obtain⟨hlo,hbase,hsize,hgn,p',v',hheap',hp,hv⟩:=hB
 rw[hheap] at hheap'
 simp only[p0,Obj.cells.injEq,and_true] at hheap'
 obtain⟨rfl,rfl⟩:p=p'∧v=v':=by simpa using hheap'
 have hds:d.s=bs.length:=hD.2.1
 have hvd:=hv d hd
 rw[hds] at hvd
 have hbg:b≠g:=by rintro rfl;rw[hb] at hg;cases hg
 have hblt:c.blk<w.heap.size:=by
  rcases pQ c.blk w.heap.size with h|h
  ·exact h
  ·rw[pF h] at hheap;cases hheap
 have other:∀x,x≠c.blk→w1.heap[x]?=w.heap[x]?:=hw1.other
 have hdc:0<d.size→d.blk≠c.blk:=by
  intro hp0 h
  have hdlo:d.lo=0:=hD.1
  exact hbg (hI.inj b g c d c.blk 0 hc hd ⟨rfl,by omega,by omega⟩ ⟨h,by omega,hp0⟩)
 -- what is appended
 obtain⟨zs,hz⟩:=hz0
 have hwsz:w1.heap.size=w.heap.size:=hw1.size
 have grow:∀ (base:Option Addr) (cap:Nat) (a1:Array Value),v=.slice base bs.length cap→(Builtin.firstCells 1 bs.length (.slice base bs.length cap)).run P { w1 with drawn:=w1.drawn+1 }=.ok a1 { w1 with drawn:=w1.drawn+1 }→a1=xl bs→cap<bs.length+s.length →
  ∃ (v2:Value) (w2:World) (d2:CLoc),(Builtin.append_ #[tb,ts] tb #[v,vy]).run P w1=.ok v2 w2∧(∃a l c,v2=.slice a l c)∧Chg w1 w2 d.has∧(∀x k,d2.has x k→x<w2.heap.size∧(d.has x k∨w.heap.size≤x))∧d2.lo=0∧d2.s=(bs++s).length ∧
   ((d2.size=0∧bs++s=[]∧v2=.slice none 0 0)∨(0<d2.size∧d2.blk≠c.blk∧v2=.slice (some ⟨d2.blk,0,none⟩) (bs++s).length d2.size∧∃arr fr,w2.heap[d2.blk]?=some (.cells arr e fr)∧d2.size=arr.size∧(bs++s).length≤arr.size∧(fr.1=fr.2∨fr.2≤(bs++s).length) ∧
    ∀ (i:Nat) (x:UInt8),(bs++s)[i]?=some x→arr[i]?=some (.int .u8 (x.toNat:Int)))):=by
  intro base cap a1 hv1 hf1 ha1 hcap
  subst hv1
  subst ha1
  obtain⟨m,w',a3,k1,k2,k3,k4⟩:=U5 (P:=P) (rt:=tb) (w:=w1) ht hu hz hsz hby Nat.one_pos (wd:={ w1 with drawn:=w1.drawn+1 }) rfl (hsl w1 rfl) hf1 (hfc _ rfl) hcap (by omega) (by simp[qu]) (by simp[qu])
  have hsz':w'.heap.size=w1.heap.size+1:=by rw[k3.heap];simp
  refine⟨_,w',⟨w1.heap.size,0,m,0,(bs++s).length⟩,k1,⟨_,_,_,rfl⟩,k3.chg.mono (fun _ _ h=>h.elim),fun x k h=>?_,rfl,rfl,.inr ⟨by simp only;omega,by simp only;omega,by rw[pE],_,_,k3.new,by rw[k4];simp,by rw[k4,pE];omega,.inl rfl,fun i x hi=>?_⟩⟩
  ·have hx:w1.heap.size=x:=h.1
   exact⟨by omega,.inr (by omega)⟩
  ·have hlt:i<bs.length+s.length:=by
    rcases pQ i (bs++s).length with h|h
    ·rwa [pE] at h
    ·rw[pH h] at hi;cases hi
   rw[Array.getElem?_append_left (by simp only[Array.size_append,qu];exact hlt)]
   by_cases hib:i<bs.length
   ·rw[Array.getElem?_append_left (by rw[qu];exact hib)]
    rw[List.getElem?_append_left hib] at hi
    exact uf _ _ _ hi
   ·rw[Array.getElem?_append_right (by rw[qu];omega),qu]
    rw[List.getElem?_append_right (by omega)] at hi
    exact uf _ _ _ hi
 obtain⟨v2,w2,d2,hrun,hv2,hC2,hd2,hlo2,hs2,hfin⟩:∃ (v2:Value) (w2:World) (d2:CLoc),(Builtin.append_ #[tb,ts] tb #[v,vy]).run P w1=.ok v2 w2∧(∃a l c,v2=.slice a l c)∧Chg w1 w2 d.has∧(∀x k,d2.has x k→x<w2.heap.size∧(d.has x k∨w.heap.size≤x))∧d2.lo=0∧d2.s=(bs++s).length ∧
  ((d2.size=0∧bs++s=[]∧v2=.slice none 0 0)∨(0<d2.size∧d2.blk≠c.blk∧v2=.slice (some ⟨d2.blk,0,none⟩) (bs++s).length d2.size∧∃arr fr,w2.heap[d2.blk]?=some (.cells arr e fr)∧d2.size=arr.size∧(bs++s).length≤arr.size∧(fr.1=fr.2∨fr.2≤(bs++s).length) ∧
   ∀ (i:Nat) (x:UInt8),(bs++s)[i]?=some x→arr[i]?=some (.int .u8 (x.toNat:Int)))):=by
  have hz2:d.size=0→bs.length=0:=fun hz=>by
   obtain⟨_,_,⟨_,h⟩|⟨h,_⟩⟩:=hD
   ·rw[h];rfl
   ·omega
  rcases hvd with⟨z1,rfl⟩|⟨z1,rfl⟩
  ·have hbs:bs=[]:=List.length_eq_zero_iff.1 (hz2 z1)
   subst hbs
   by_cases hs0:s=[]
   ·subst hs0
    exact⟨_,w1,{ d with s:=(([]:List UInt8)++[]).length },z5x ht hu hsz w1 none 0 0 (p8 _) (hsl w1 rfl) (hfc w1 rfl),⟨_,_,_,rfl⟩,Chg.refl _ _,fun x k h=>absurd (show k<d.size from h.2.2) (by omega),hD.1,rfl,.inl ⟨z1,rfl,rfl⟩⟩
   ·exact grow none 0 #[] rfl rfl rfl (by have:=List.length_pos_iff.2 hs0;simpa using this)
  ·obtain⟨_,_,⟨h,_⟩|⟨_,arr,fr,q1,q2,q3,q4,q5⟩⟩:=hD
   ·omega
   have q1':w1.heap[d.blk]?=some (.cells arr e fr):=by rw[other _ (hdc z1)];exact q1
   by_cases hin:bs.length+s.length≤d.size
   ·have hun:∀k,bs.length≤k→w1.frozen? ⟨d.blk,k,none⟩=false:=by
     intro k hk
     unfold World.frozen?
     simp only[q1']
     rcases q4 with h|h
     ·simp only[Bool.and_eq_false_iff,decide_eq_false_iff_not];omega
     ·simp only[Bool.and_eq_false_iff,decide_eq_false_iff_not];omega
    obtain⟨w',t1,t2,t3,t4⟩:=xq (P:=P) (vs:=(xl s).toList) (w:=w1) (b:=d.blk) (o:=0+bs.length*1)
     (fun j hj=>by
      simp only[Array.length_toList,qu] at hj
      have hlt:0+bs.length*1+j<arr.size:=by omega
      exact⟨arr[0+bs.length*1+j],by unfold pZ;simp[q1']⟩)
     (fun j hj=>hun _ (by omega)) (fun u hu=>by
      simp only[xl,pR] at hu
      obtain⟨y,_,rfl⟩:=hu;rfl)
    simp only[Array.length_toList,qu] at t2 t4
    obtain⟨arr',g1,g2⟩:=t2.shape _ _ _ _ q1'
    have hdlt:d.blk<w1.heap.size:=by
     rcases pQ d.blk w1.heap.size with h|h
     ·exact h
     ·rw[pF h] at q1';cases q1'
    have cellA:∀k,w'.cell? ⟨d.blk,k,none⟩=arr'[k]?:=fun k=>by unfold pZ;simp[g1]
    refine⟨_,w',{ d with s:=(bs++s).length },z7x ht hu hsz w1 w' d.blk bs.length d.size s.length hin (hsl w1 rfl) (hfc w1 rfl) t1,⟨_,_,_,rfl⟩,t2.mono (fun b' k h=>⟨h.1.symm,by omega,by omega⟩),fun x k h=>?_,by assumption,rfl,.inr ⟨z1,hdc z1,by rw[pE],arr',fr,g1,(by show d.size=arr'.size;omega),by rw[pE];omega,?_,fun i x hi=>?_⟩⟩
    ·have hx:d.blk=x:=h.1
     exact⟨by rw[t3];omega,.inl h⟩
    ·rcases q4 with h|h
     ·exact .inl h
     ·exact .inr (by rw[pE];omega)
    ·have hlt:i<bs.length+s.length:=by
      rcases pQ i (bs++s).length with h|h
      ·rwa [pE] at h
      ·rw[pH h] at hi;cases hi
     rw[←cellA]
     by_cases hib:i<bs.length
     ·rw[List.getElem?_append_left hib] at hi
      rw[t2.cell d.blk i hdlt (fun h=>by omega)]
      unfold pZ
      simp only[q1']
      simpa using q5 i x hi
     ·rw[List.getElem?_append_right (by omega)] at hi
      have:=t4 (i-bs.length) (by omega)
      rw[show 0+bs.length*1+(i-bs.length)=i by omega] at this
      rw[this,Array.getElem?_toList]
      exact uf _ _ _ hi
   ·refine grow (some ⟨d.blk,0,none⟩) d.size (xl bs) rfl ?_ rfl (by omega)
    have:(Builtin.firstCells 1 bs.length (.slice (some ⟨d.blk,0,none⟩) bs.length d.size))=loadCells ⟨d.blk,0,none⟩ (bs.length*1):=rfl
    rw[this]
    refine zbg _ _ _ fun j x hx=>?_
    unfold pZ
    simp only[q1']
    simpa using q5 j x hx
 have hnd:∀k,¬d.has c.blk k:=fun k h=>hdc (by have:=h.2;have:=hD.1;omega) h.1
 have hw2b:w2.heap[c.blk]?=some (.cells #[.pointer (some ⟨c.blk,0,none⟩),v] T (0,0)):=by
  rw[hC2.block c.blk (by omega) hnd];exact hw1b
 have hw3b:(w2.setCell ⟨c.blk,1,none⟩ v2).heap[c.blk]?=some (.cells #[.pointer (some ⟨c.blk,0,none⟩),v2] T (0,0)):=by rw[k8 hw2b];rfl
 have hsz3:(w2.setCell ⟨c.blk,1,none⟩ v2).heap.size=w2.heap.size:=by simp
 have hCh:Chg w (w2.setCell ⟨c.blk,1,none⟩ v2) (fun x k=>c.has x k∨d.has x k):=
  ((z8o hw1 hheap hlo (by omega) (by simp;omega)).mono (fun _ _ h=>.inl h)).trans
   ((hC2.mono (fun _ _ h=>.inr h)).trans ((z8o (Wrote.setCell w2 ⟨c.blk,1,none⟩ v2) hw2b hlo (by omega) (by simp;omega)).mono (fun _ _ h=>.inl h)))
 obtain⟨r3,r4⟩:=z2m (bs2:=bs++s) (w':=w2.setCell ⟨c.blk,1,none⟩ v2) (d2:=d2) hI hb hg hc hd hCh (fun x k h=>by rw[hsz3];exact hd2 x k h)
  ⟨hlo,hbase,hsize,Nat.lt_succ_self n,_,v2,hw3b,.inr rfl,fun d' hd'=>by
   rw[yf] at hd'
   simp only[p0] at hd'
   subst hd'
   rcases hfin with⟨g1,g2,g3⟩|⟨g1,_,g2,_⟩
   ·exact .inl ⟨g1,g3⟩
   ·exact .inr ⟨g1,by rw[hs2];exact g2⟩⟩
  ⟨hlo2,hs2,by
   rcases hfin with⟨g1,g2,g3⟩|⟨g1,g2,_,arr,fr,g3,g4,g5,g6,g7⟩
   ·exact .inl ⟨g1,g2⟩
   ·exact .inr ⟨g1,arr,fr,by rw[Q1 g2];exact g3,g4,g5,g6,g7⟩⟩
 exact⟨v2,w2,_,hrun,hv2,hw2b,r3,r4⟩
theorem zeg{b:Id}{T:TypeId}{g:Id}{vp:Value}{c:CLoc}(hc:β b=some c)(hB:RepB I β n w c (.bld T g))(r1:Rep I β n w (.ptr b 0 0) vp):vp=.pointer (some ⟨c.blk,0,none⟩):=by
 obtain⟨hlo,hbase,_⟩:=hB
 cases r1 with
 |imm _ _ h=>cases h
 |ptr _ _ _ a h1 h2=>rw[h2 c hc,hbase];simp
set_option maxHeartbeats 1000000 in
theorem z6l{f:FuncId}{T e tb ts:TypeId}(hW:BWrite P f T e tb ts){b g:Id}{bs s:List UInt8}{K:AVal→AHeap→Nat→Prop}(hb:H.get b=some (.bld T g))(hg:H.get g=some (.buf e bs))
 (hlen:bs.length+s.length≤140737488355328) (hk:K (.tup [.int .i64 (s.length:Int),.val .nilIface]) (((n,0),.buf e (bs++s))::(H.set b (.bld T (n,0))).del g) (n+1)) :
 ACalls P f [.ptr b 0 0,.str s] H n K:=by
 refine⟨hW.ok,fun I β w vs hI hl hr=>?_⟩
 match vs,hl with
 |[vp,vs'],_=>
 have r1:=hr 0 _ _ rfl rfl
 have r2:=hr 1 _ _ rfl rfl
 rw[r2.str_inv]
 obtain⟨c,hc,hB⟩:=hI.blocks b _ hb
 rw[zeg hc hB r1]
 obtain⟨hlo,hbase,hsize,hgn,p,v,hheap,hp,hv⟩:=hB
 obtain⟨w1,hw1,hw1b,hcalls⟩:∃w1:World,Wrote w w1 c.blk∧w1.heap[c.blk]?=some (.cells #[.pointer (some ⟨c.blk,0,none⟩),v] T (0,0))∧∀v2 w2,(Builtin.append_ #[tb,ts] tb #[v,.string ⟨⟨s⟩⟩]).run P w1=.ok v2 w2→(∃a l c,v2=.slice a l c) →
  w2.heap[c.blk]?=some (.cells #[.pointer (some ⟨c.blk,0,none⟩),v] T (0,0)) →
  Calls P f #[.pointer (some ⟨c.blk,0,none⟩),.string ⟨⟨s⟩⟩] w fun e w'=>e=.returned (.tuple #[.int .i64 (⟨⟨s⟩⟩:ByteArray).size,.nilIface])∧w'=w2.setCell ⟨c.blk,1,none⟩ v2:=by
  rcases hp with rfl|rfl
  ·exact⟨w.setCell ⟨c.blk,0,none⟩ (.pointer (some ⟨c.blk,0,none⟩)),Wrote.setCell w ⟨c.blk,0,none⟩ _,by rw[k8 hheap];rfl,fun v2 w2 h1 h2 h3=>hW.fresh _ _ _ _ _ _ hheap h1 h2 h3⟩
  ·exact⟨w,Wrote.refl w _,hheap,fun v2 w2 h1 h2 h3=>hW.used _ _ _ _ _ _ hheap h1 h2 h3⟩
 obtain⟨v2,w2,β',hrun,hv2,hw2b,r3,r4⟩:=zal hW.ht (.inr hW.hu) hW.hz hW.hsz hW.hby hb hg hlen hI hc hheap hw1 hw1b (vy:=.string ⟨⟨s⟩⟩) (fun _ _=>rfl) (fun _ _=>z92 s _)
 refine(hcalls v2 w2 hrun hv2 hw2b).mono ?_
 rintro ee w' ⟨rfl,rfl⟩
 refine⟨_,_,_,_,I,_,rfl,hk,r3,?_,r4⟩
 refine .tup _ _ rfl fun i x u hx hu=>?_
 match i,hx,hu with
 |0,hx,hu=>simp at hx hu;subst hx;subst hu;exact .imm _ _ (.int _ _)
 |1,hx,hu=>simp at hx hu;subst hx;subst hu;exact .imm _ _ (.val _ rfl)
 |i+2,hx,hu=>simp at hx
theorem Xk{b m:Nat}{arr:Array Value}{el:TypeId}{fr:Nat×Nat}(h:w.heap[b]?=some (.cells arr el fr))(hm:m≠0) :
 (w.freeze ⟨b,0,none⟩ m).heap[b]?=some (.cells arr el (if fr.1==fr.2 then(0,0+m) else(min fr.1 0,max fr.2 (0+m)))):=by
 unfold World.freeze
 rw[if_neg hm]
 simp[Array.getElem?_modify,h]
theorem xn{b m x:Nat}(hx:x≠b):(w.freeze ⟨b,0,none⟩ m).heap[x]?=w.heap[x]?:=by
 unfold World.freeze
 split
 ·rfl
 ·simp only[Array.getElem?_modify]
  rw[if_neg (fun h=>hx h.symm)]
theorem W0{b m:Nat}:(w.freeze ⟨b,0,none⟩ m).heap.size=w.heap.size:=by
 unfold World.freeze
 split<;>simp
theorem z50(hI:Inv I β n H w){g:Id}{e:TypeId}{bs:List UInt8}{d:CLoc}(hg:H.get g=some (.buf e bs))(hd:β g=some d)(hpos:0<d.size)(hbs:bs≠[]) :
 Inv I β n H (w.freeze ⟨d.blk,0,none⟩ bs.length)∧Ext I β n H w I β n H (w.freeze ⟨d.blk,0,none⟩ bs.length):=by
 have hm:bs.length≠0:=fun h=>hbs (List.length_eq_zero_iff.1 h)
 have hgne:H.get g≠none:=by rw[hg];simp
 obtain⟨d',hd',hD⟩:=hI.blocks g _ hg
 rw[hd] at hd'
 simp only[p0] at hd'
 subst hd'
 obtain⟨hlo,hds,⟨h,_⟩|⟨_,arr,fr,q1,q2,q3,q4,q5⟩⟩:=hD
 ·omega
 have self:=Xk q1 hm
 have hcell:∀b k,(w.freeze ⟨d.blk,0,none⟩ bs.length).cell? ⟨b,k,none⟩=w.cell? ⟨b,k,none⟩:=by
  intro b k
  by_cases hb:b=d.blk
  ·subst hb
   unfold pZ
   simp only[self,q1]
  ·exact cell?_of_heap (xn hb)
 have hhas:∀k,k<arr.size→d.has d.blk k:=fun k hk=>⟨rfl,by omega,by omega⟩
 have hmap:∀ (b:Nat) (o:Obj),w.heap[b]?=some o→(∀a e f,o≠.cells a e f)→(w.freeze ⟨d.blk,0,none⟩ bs.length).heap[b]?=some o:=by
  intro b o hb hne
  have:b≠d.blk:=by rintro rfl;rw[q1] at hb;simp only[p0] at hb;exact hne _ _ _ hb.symm
  rw[xn this];exact hb
 have hshape:∀ (b:Nat) (a:Array Value) (el:TypeId) (f:Nat×Nat),w.heap[b]?=some (.cells a el f)→∃a' f',(w.freeze ⟨d.blk,0,none⟩ bs.length).heap[b]?=some (.cells a' el f')∧a'.size=a.size∧(f'=f∨(b=d.blk∧a.size=arr.size)):=by
  intro b a el f hb
  by_cases hx:b=d.blk
  ·subst hx
   rw[q1] at hb
   simp only[p0,Obj.cells.injEq] at hb
   obtain⟨rfl,rfl,rfl⟩:=hb
   exact⟨_,_,self,rfl,.inr ⟨rfl,rfl⟩⟩
  ·exact⟨a,f,by rw[xn hx];exact hb,rfl,.inl rfl⟩
 constructor
 ·refine⟨fun id blk hid=>?_,hI.inj,fun i c b k hi hc=>by rw[W0];exact hI.own i c b k hi hc,fun b k hb=>by rw[hcell];exact hI.imm b k hb,hI.fresh,hI.glob.mono (fun _ _ h=>h) (fun b k _=>by rw[hcell]) (fun b a el f hb=>by obtain⟨a',f',h1,h2,_⟩:=hshape b a el f hb;exact⟨a',f',h1,h2⟩)⟩
  obtain⟨c,hc,hB⟩:=hI.blocks id blk hid
  refine⟨c,hc,?_⟩
  by_cases hgi:id=g
  ·subst hgi
   rw[hd] at hc
   simp only[p0] at hc
   subst hc
   rw[hg] at hid
   simp only[p0] at hid
   subst hid
   refine⟨hlo,hds,.inr ⟨hpos,arr,_,self,q2,q3,?_,q5⟩⟩
   split
   ·exact .inr (by simp)
   ·rename_i hne
    rcases q4 with h|h
    ·exact absurd (by simpa using h) hne
    ·exact .inr (by simp only[Nat.zero_add];omega)
  ·refine hB.mono' (fun _ _ h=>h) (fun b k _=>hcell b k) (p8 n) (fun _ _ _ h=>h) (fun a el f h=>?_) (fun b k v _ hv=>by rw[hcell];exact hv) (fun es ck _ h=>hmap _ _ h (fun a e f hx=>by subst hx;cases ck))
   obtain⟨a',f',k1,k2,k3⟩:=hshape _ _ _ _ h
   refine⟨a',f',k1,k2,k3.imp (fun h=>h) fun hx k hk hck=>?_⟩
   refine hgi (hI.inj id g c d c.blk k hc hd hck ?_)
   rw[hx.1]
   exact hhas k (by omega)
 ·have refl:Ext I β n H w I β n H w:=Ext.refl _ _ _ _ _ hI.fresh
  refine⟨?_,?_,?_,by rw[W0];exact p8 _,fun b hb hn=>?_,fun b k v hv _=>by rw[hcell];exact hv,fun b a el f h=>?_,fun b es ck h _=>hmap _ _ h (fun a e f hx=>by subst hx;cases ck),refl.imm,refl.immNew,refl.old,refl.new,refl.dom,refl.le⟩
  ·unfold World.freeze;split<;>rfl
  ·unfold World.freeze;split<;>exact⟨rfl,fun _=>p8 _⟩
  ·unfold World.freeze;split<;>rfl
  ·exact xn fun hx=>hn g d 0 hd hgne ⟨hx.symm,by omega,hpos⟩
  ·obtain⟨a',f',k1,k2,k3⟩:=hshape _ _ _ _ h
   refine⟨a',f',k1,k2,k3.imp (fun h=>h) fun hx k hk=>⟨g,d,hd,hgne,?_⟩⟩
   rw[hx.1]
   exact hhas k (by omega)
theorem za1(hI:Inv I β n H w):Inv I β n H w.drew∧Ext I β n H w I β n H w.drew:=by
 have refl:Ext I β n H w I β n H w:=Ext.refl _ _ _ _ _ hI.fresh
 exact⟨hI.of_heap (show w.drew.heap=w.heap from rfl),⟨rfl,⟨rfl,fun _=>Nat.le_succ _⟩,rfl,p8 _,fun _ _ _=>rfl,fun _ _ _ h _=>h,fun _ arr _ fr h=>⟨arr,fr,h,rfl,.inl rfl⟩,fun _ _ _ h _=>h,refl.imm,refl.immNew,refl.old,refl.new,refl.dom,refl.le⟩⟩
theorem z5b{f:FuncId}{T e:TypeId}(hS:BStr P f T e){b g:Id}{bs:List UInt8}{K:AVal→AHeap→Nat→Prop}(hb:H.get b=some (.bld T g))(hg:H.get g=some (.buf e bs))
 (hlen:bs.length≤9223372036854775807) (hk:K (.str bs) H n):ACalls P f [.ptr b 0 0] H n K:=by
 refine⟨hS.ok,fun I β w vs hI hl hr=>?_⟩
 match vs,hl with
 |[vp],_=>
 have r1:=hr 0 _ _ rfl rfl
 obtain⟨c,hc,hB⟩:=hI.blocks b _ hb
 obtain⟨d,hd,hD⟩:=hI.blocks g _ hg
 obtain⟨hlo,hbase,hsize,hgn,p,v,hheap,hp,hv⟩:=hB
 have hds:d.s=bs.length:=hD.2.1
 have hvd:=hv d hd
 rw[hds] at hvd
 obtain⟨a,rfl,ha⟩:∃a,vp=.pointer (some a)∧a=⟨c.blk,0,none⟩:=by
  cases r1 with
  |imm _ _ h=>cases h
  |ptr _ _ _ a h1 h2=>exact⟨a,rfl,by rw[h2 c hc,hbase];simp⟩
 subst ha
 obtain⟨g1,g2⟩:=za1 hI
 have hre:∀ (l:List UInt8) (w':World),Rep I β n w' (.str l) (.string ⟨l.toArray⟩):=fun l w'=>.imm _ _ (.str l)
 have hz2:d.size=0→bs.length=0:=fun hz=>by
  obtain⟨_,_,⟨_,h⟩|⟨h,_⟩⟩:=hD
  ·rw[h];rfl
  ·omega
 rcases hvd with⟨z1,rfl⟩|⟨z1,rfl⟩
 ·have hbs:bs=[]:=List.length_eq_zero_iff.1 (hz2 z1)
  subst hbs
  refine(hS.nil _ _ _ hheap).mono ?_
  rintro ee w' ⟨rfl,rfl⟩
  exact⟨_,_,_,_,I,β,rfl,hk,g1,hre [] _,g2⟩
 ·by_cases hbs:bs=[]
  ·subst hbs
   refine(hS.zero _ _ _ _ _ hheap (by omega)).mono ?_
   rintro ee w' ⟨rfl,rfl⟩
   exact⟨_,_,_,_,I,β,rfl,hk,g1,hre [] _,g2⟩
  ·obtain⟨_,_,⟨h,_⟩|⟨_,arr,fr,q1,q2,q3,q4,q5⟩⟩:=hD
   ·omega
   refine(hS.full _ _ _ bs _ _ arr fr hheap hbs (by omega) q3 hlen q1 q5).mono ?_
   rintro ee w' ⟨rfl,rfl⟩
   obtain⟨k1,k2⟩:=z50 g1 hg hd z1 hbs
   exact⟨_,_,_,_,I,β,rfl,hk,k1,hre bs _,g2.trans k2⟩
end
end Go.Fx
namespace Go.Fx
variable {P:Program} {I:Nat→Nat→Prop} {β:Id→Option CLoc} {n:Nat} {H:AHeap} {w:World}
structure BByte(P:Program)(f:FuncId)(T e tb:TypeId):Prop where
 ok:Xv P f
 ht:P.underlying tb=some (.slice e)
 hz:∃zs,yq P e=some zs
 hsz:yv P e=some 1
 hby:ua P e=some 1
 used:∀ (b:Nat) (c:Int) (v v2:Value) (w w2:World),w.heap[b]?=some (.cells #[.pointer (some ⟨b,0,none⟩),v] T (0,0)) →
  (Builtin.append_ #[tb,tb] tb #[v,.slice (some ⟨w.heap.size,0,none⟩) 1 1]).run P (w.alloc (.cells #[.int .u8 c] e))=.ok v2 w2→(∃a l c,v2=.slice a l c)→w2.heap[b]?=some (.cells #[.pointer (some ⟨b,0,none⟩),v] T (0,0)) →
  Calls P f #[.pointer (some ⟨b,0,none⟩),.int .u8 c] w fun e w'=>e=.returned .nilIface∧w'=w2.setCell ⟨b,1,none⟩ v2
 fresh:∀ (b:Nat) (c:Int) (v v2:Value) (w w2:World),w.heap[b]?=some (.cells #[.pointer none,v] T (0,0)) →
  (Builtin.append_ #[tb,tb] tb #[v,.slice (some ⟨w.heap.size,0,none⟩) 1 1]).run P ((w.setCell ⟨b,0,none⟩ (.pointer (some ⟨b,0,none⟩))).alloc (.cells #[.int .u8 c] e))=.ok v2 w2→(∃a l c,v2=.slice a l c)→w2.heap[b]?=some (.cells #[.pointer (some ⟨b,0,none⟩),v] T (0,0)) →
  Calls P f #[.pointer (some ⟨b,0,none⟩),.int .u8 c] w fun e w'=>e=.returned .nilIface∧w'=w2.setCell ⟨b,1,none⟩ v2
structure BLen(P:Program)(f:FuncId)(T:TypeId):Prop where
 ok:Xv P f
 run:∀ (b l cp:Nat) (p:Value) (a:Option Addr) (w:World),w.heap[b]?=some (.cells #[p,.slice a l cp] T (0,0))→Calls P f #[.pointer (some ⟨b,0,none⟩)] w fun e w'=>e=.returned (.int .i64 (l:Int))∧w'=w
end Go.Fx
namespace Go.Fx
section
variable {P:Program} {I:Nat→Nat→Prop} {β:Id→Option CLoc} {n:Nat} {H:AHeap} {w:World}
theorem z55(hI:Inv I β n H w){r:Loop}{e:Env}(hE:∀t,Rep I β n w (Env.get e t) (r.tmps.getD t undef)) :
 Inv I (upd β (n,0) (some ⟨w.heap.size,0,1,0,0⟩)) (n+1) (((n,0),.lrec w.heap.size r e)::H) (w.alloc (.loop r))∧Ext I β n H w I (upd β (n,0) (some ⟨w.heap.size,0,1,0,0⟩)) (n+1) (((n,0),.lrec w.heap.size r e)::H) (w.alloc (.loop r)):=by
 have hp:Pushed w (w.alloc (.loop r)) (.loop r):=⟨rfl,⟨rfl,fun _=>p8 _⟩,rfl,rfl⟩
 have hsz:(w.alloc (.loop r)).heap.size=w.heap.size+1:=by rw[hp.heap];simp
 have hfr:∀id:Id,n≤id.1→β id=none:=hI.fresh
 have hcI:∀b k,I b k→(w.alloc (.loop r)).cell? ⟨b,k,none⟩=w.cell? ⟨b,k,none⟩:=fun b k hb=>by
  obtain⟨v,hv⟩:=hI.imm b k hb
  exact hp.chg.cell b k (xm hv) (fun h=>h.elim)
 refine x9 hI hp.chg (Nat.le_succ n) (fun _ _ h=>h.elim) (fun _ _ h=>h) (fun _ _ h h'=>absurd h h') (fun id hid=>.inl (zh _ _ (j8 hid))) ?_ ?_ ?_ (fun _ _ _ _ _ _ h=>h) ?_ ?_
 ·intro id c b k hid hc hk
  rcases qe hc hI.fresh with⟨_,rfl⟩|⟨h,_⟩
  ·have hb:w.heap.size=b:=hk.1
   exact⟨by omega,.inl (by omega)⟩
  ·omega
 ·intro id hid
  rw[zh _ _ (fun h=>by subst h;exact absurd hid (Nat.not_succ_le_self n))]
  exact hI.fresh id (by omega)
 ·intro i j c d b k hi hj hc hd hj'
  rcases qe hj hI.fresh with⟨rfl,rfl⟩|⟨h,_⟩
  ·rcases qe hi hI.fresh with⟨rfl,_⟩|⟨_,h⟩
   ·rfl
   ·exact(Zi hI h hc (by rw[←hd.1];exact p8 _)).elim
  ·omega
 ·intro id hid hg
  rwa [AHeap.get_cons_other _ _ (j8 hid).symm] at hg
 ·intro id blk hid
  by_cases h:(n,0)=id
  ·subst h
   rw[AHeap.get_cons_same] at hid
   simp only[p0] at hid
   subst hid
   refine .inr ⟨⟨w.heap.size,0,1,0,0⟩,yf _ _ _,rfl,Nat.one_pos,rfl,hp.new,fun t=>(hE t).mono' (fun _ _ h=>h) hcI (Nat.le_succ n) (fun id c hid h=>?_)⟩
   rwa [zh _ _ (j8 hid)] at h
  ·rw[AHeap.get_cons_other _ _ h] at hid
   exact .inl ⟨hid,zh _ _ (fun h'=>h h'.symm),fun _ _ _ _ _ h=>h⟩
theorem W7(hI:Inv I β n H w){k:Id}{l:Nat}{r r':Loop}{e:Env}(hk:H.get k=some (.lrec l r e))(ht:r'.tmps=r.tmps) :
 Inv I β n (H.set k (.lrec l r' e)) (w.putObj l (.loop r'))∧Ext I β n H w I β n (H.set k (.lrec l r' e)) (w.putObj l (.loop r'))∧w.heap[l]?=some (.loop r):=by
 obtain⟨c,hc,h0,h1,h2,h3,h4⟩:=hI.blocks k _ hk
 subst h2
 have hlt:c.blk<w.heap.size:=by
  rcases pQ c.blk w.heap.size with h|h
  ·exact h
  ·rw[pF h] at h3;cases h3
 have hne:H.get k≠none:=by rw[hk];simp
 have hother:∀b,b≠c.blk→(w.putObj c.blk (.loop r')).heap[b]?=w.heap[b]?:=fun b hb=>World.putObj_heap_other hb
 have hcell:∀b j,(w.putObj c.blk (.loop r')).cell? ⟨b,j,none⟩=w.cell? ⟨b,j,none⟩:=by
  intro b j
  by_cases hb:b=c.blk
  ·subst hb
   unfold pZ
   simp only[World.putObj_heap_same hlt,h3]
  ·exact cell?_of_heap (hother b hb)
 have hchg:Chg w (w.putObj c.blk (.loop r')) (fun b j=>b=c.blk∧j=0):=by
  refine⟨rfl,⟨rfl,fun _=>p8 _⟩,rfl,by simp,fun b _ hb=>hother b (fun h=>hb 0 ⟨h,rfl⟩),fun b j _ _=>hcell b j,fun b arr2 el fr hb=>?_,fun b o ho hb hn=>?_⟩
  ·have:b≠c.blk:=fun h=>by subst h;rw[h3] at hb;cases hb
   exact⟨arr2,by rw[hother b this];exact hb,rfl⟩
  ·rw[hother b (fun h=>hn ⟨h,rfl⟩)];exact hb
 have hhas:c.has c.blk 0:=⟨rfl,by omega,h1⟩
 have:=x9 (β':=β) (n':=n) (I':=I) (H':=H.set k (.lrec c.blk r' e)) hI hchg (p8 n) (fun b' j h=>⟨k,c,hc,hne,by obtain⟨rfl,rfl⟩:=h;exact hhas⟩) (fun _ _ h=>h) (fun _ _ h h'=>absurd h h') (fun id hid=>.inl rfl)
  (fun id d b' j hid hd _=>by rw[hI.fresh id hid] at hd;cases hd) hI.fresh (fun i j d d' b' q hi hj h h' _=>hI.inj i j d d' b' q hi hj h h') (fun _ _ _ _ _ _ h=>h) (fun t _ ht=>by
   rw[AHeap.get_set] at ht
   split at ht
   ·intro h;rw[h] at ht;simp at ht
   ·exact ht) (fun id blk hid=>by
   rw[AHeap.get_set] at hid
   split at hid
   ·rename_i hkk
    subst hkk
    rw[hk] at hid
    simp only[pK,p0] at hid
    subst hid
    exact .inr ⟨c,hc,h0,h1,rfl,World.putObj_heap_same hlt,fun t=>by
     rw[ht];exact(h4 t).mono' (fun _ _ h=>h) (fun b j _=>hcell b j) (p8 n) (fun _ _ _ h=>h)⟩
   ·rename_i hkk
    refine .inl ⟨hid,rfl,fun d b j hd hh hw=>?_⟩
    obtain⟨rfl,rfl⟩:=hw
    exact hkk (hI.inj k id c d _ _ hc hd hhas hh))
 exact⟨this.1,this.2,h3⟩
theorem z7f(hI:Inv I β n H w)(o:Obj):Inv I β n H (w.alloc o)∧Ext I β n H w I β n H (w.alloc o):=by
 have hp:Pushed w (w.alloc o) o:=⟨rfl,⟨rfl,fun _=>p8 _⟩,rfl,rfl⟩
 exact x9 hI hp.chg (p8 n) (fun _ _ h=>h.elim) (fun _ _ h=>h) (fun _ _ h h'=>absurd h h') (fun id hid=>.inl rfl) (fun id c b k hid hc _=>by rw[hI.fresh id hid] at hc;cases hc) hI.fresh
  (fun i j c d b k hi hj h h' _=>hI.inj i j c d b k hi hj h h') (fun _ _ _ _ _ _ h=>h) (fun _ _ h=>h) (fun id blk hid=>.inl ⟨hid,rfl,fun _ _ _ _ _ h=>h⟩)
structure RecOf(P:Program)(N:Lay)(ps:List Nat)(a b:LCode)(r:Loop):Prop where
 st:r.state=.ready
 pe:r.pending=none
 pa:r.params.toList=ps
 la:zf P (z9k N) r.assign=some a
 lb:zf P (z9k N) r.body=some b
 sz:r.tmps.size=N.n
def busy(r:Loop):Loop:={ r with state:=.busy }
def zjw(k:Id)(l:Nat)(r:Loop)(P:Program)(N:Lay)(n0:Nat)(b:LCode)(Q2:Exit→Env→AHeap→Nat→Prop):Exit→Env→AHeap→Nat→Prop:=
 fun ex e1 H1 n1=>ex=.normal∧∃e1',H1.get k=some (.lrec l r e1')∧LWp P (z9k N) n0 b Q2 e1 (H1.set k (.lrec l (busy r) e1')) n1
def zkj(k:Id)(l:Nat)(r:Loop)(K:AVal→AHeap→Nat→Prop):Exit→Env→AHeap→Nat→Prop:=
 fun ex e2 H2 n2=>ex=.normal∧∃e2',H2.get k=some (.lrec l (busy r) e2')∧K (.bool true) (H2.set k (.lrec l r e2')) n2
def z6r:Env→List Nat→List AVal→Env
 |e,p::ps,x::xs=>z6r (e.put (some p) x) ps xs
 |e,_,_=>e
theorem z0m:∀ {ps:List Nat} {xs:List AVal} {vs:List Value} {e:Env} {tm:Array Value},(∀p∈ps,p<tm.size)→xs.length=ps.length→vs.length=ps.length→(∀t,Rep I β n w (e.get t) (tm.getD t undef)) →
 (∀ (i:Nat) (x:AVal) (v:Value),xs[i]?=some x→vs[i]?=some v→Rep I β n w x v)→∀t,Rep I β n w ((z6r e ps xs).get t) (((ps.zip vs).foldl (fun t p=>t.setIfInBounds p.1 p.2) tm).getD t undef)
 |[],[],[],e,tm,_,_,_,he,_=>he
 |p::ps,x::xs,v::vs,e,tm,hp,h1,h2,he,hr=>by
  simp only[z6r,List.zip_cons_cons,List.foldl_cons]
  have hE:RepEnv I β n w e { tmps:=tm,defers:=[] }:=he
  have hx:=hr 0 x v rfl rfl
  have:=hE.put (d:=some p) (fun t ht=>by cases ht;exact hp p (pW ..)) hx
  exact z0m (fun q hq=>by rw[Array.size_setIfInBounds];exact hp q (pT _ hq)) (by simpa using h1) (by simpa using h2) this (fun i x v hx hv=>hr (i+1) x v (by simpa using hx) (by simpa using hv))
 |[],x::xs,_,_,_,_,h1,_,_,_=>by simp at h1
 |[],[],v::vs,_,_,_,_,h2,_,_=>by simp at h2
 |p::ps,[],_,_,_,_,h1,_,_,_=>by simp at h1
 |p::ps,x::xs,[],_,_,_,_,h2,_,_=>by simp at h2
theorem Yu(ps:Array Tmp)(vs:Array Value)(tm:Array Value):(ps.zip vs).foldl (fun tmps (x:Tmp×Value)=>tmps.setIfInBounds x.1 x.2) tm=(ps.toList.zip vs.toList).foldl (fun t p=>t.setIfInBounds p.1 p.2) tm:=by
 rw[←Array.foldl_toList,Array.toList_zip]
theorem Zf:∀ (l:List (Nat×Value)) (tm:Array Value),(l.foldl (fun t p=>t.setIfInBounds p.1 p.2) tm).size=tm.size
 |[],_=>rfl
 |p::r,tm=>by rw[List.foldl_cons,Zf r,Array.size_setIfInBounds]
def SubE:Env→Env→Prop
 |[],_=>True
 |(k,x)::r,e=>e.get k=x∧SubE r e
theorem SubE.get:∀ {e1 e:Env},SubE e1 e→∀t,e1.get t=.any∨e1.get t=e.get t
 |[],_,_,t=>.inl rfl
 |(k,x)::r,e,h,t=>by
  simp only[Env.get]
  split
  ·rename_i hk;subst hk;exact .inr h.1.symm
  ·exact SubE.get h.2 t
end
def EnvVw(F:Id→Bool)(H:AHeap)(ρ:Id→Option Id)(n:Nat):Env→Env→Prop
 |[],[]=>True
 |(k,x)::r,(k',y)::r'=>(k=k'∧Vw F H ρ n x y)∧EnvVw F H ρ n r r'
 |_,_=>False
theorem EnvVw.get{F:Id→Bool}{H:AHeap}{ρ:Id→Option Id}{n:Nat}:∀ {e e':Env},EnvVw F H ρ n e e'→∀t,Vw F H ρ n (e.get t) (e'.get t)
 |[],[],_,t=>.any _
 |(k,x)::r,(k',y)::r',h,t=>by
  obtain⟨⟨rfl,h1⟩,h2⟩:=h
  simp only[Env.get]
  split
  ·exact h1
  ·exact EnvVw.get h2 t
 |[],_::_,h,_=>h.elim
 |_::_,[],h,_=>h.elim
end Go.Fx
namespace Go.Fx
section
variable {P:Program} {I:Nat→Nat→Prop} {β:Id→Option CLoc} {n:Nat} {H:AHeap} {w:World}
def z79:Exit→Option Code
 |.ret=>some .ret
 |.exit id=>some (.exit id)
 |_=>none
def z9n(r:Loop)(code:Code):Loop:={ r with state:=.done,pending:=some code }
def zjh(k:Id)(l:Nat)(r:Loop)(K:AVal→AHeap→Nat→Prop):Exit→Env→AHeap→Nat→Prop:=
 fun ex e2 H2 n2=>(∃code,z79 ex=some code∧∃e2',H2.get k=some (.lrec l (busy r) e2')∧K (.bool false) (H2.set k (.lrec l (z9n r code) e2')) n2)∨(ex=.normal∧∃e2',H2.get k=some (.lrec l (busy r) e2')∧K (.bool true) (H2.set k (.lrec l r e2')) n2)
theorem z4h{N:Lay}{ps:List Nat}{a b:LCode}{r:Loop}{e:Env}{l:Nat}{k:Id}{args:List AVal}{K:AVal→AHeap→Nat→Prop}(hr:RecOf P N ps a b r)(hk:H.get k=some (.lrec l r e))(hps:(ps.all fun p=>Nat.blt p N.n)=true)(hlen:args.length=ps.length)
 (h:LWp P (z9k N) n a (zjw k l r P N n b (zjh k l r K)) (z6r e ps args) H n) :
 ACalls P (.yield l) args H n K:=by
 refine⟨trivial,fun I β w vs hI hl hrep=>?_⟩
 obtain⟨c,hc,h0,h1,h2,h3,h4⟩:=hI.blocks k _ hk
 rw[h2] at h3
 have hpl:r.params.size=ps.length:=by rw[←hr.pa,Array.length_toList]
 have hlt:∀p∈ps,p<r.tmps.size:=fun p hp=>by
  rw[hr.sz]
  rw[pB] at hps
  have:=hps p hp
  rwa [Nat.blt_eq] at this
 refine⟨r.fn,_,r.assign,r.body,run_yield h3 (by simp only[List.size_toArray];omega),roundIn_of_wpIn trivial ?_⟩
 refine h r.assign hr.la (some l) (fun h=>by cases h) I β H w I β w _ (Ext.refl I β n H w hI.fresh) hI ?_ ?_ (Dfr.nil _ _ _) _ ?_
 ·have:=z0m (n:=n) (w:=w) (I:=I) (β:=β) hlt hlen (by rw[hl,hlen]) h4 hrep
  intro t
  have h5:=Yu r.params vs.toArray r.tmps
  rw[hr.pa] at h5
  show Rep I β n w _ (((r.params.zip vs.toArray).foldl (fun tmps (x:Tmp×Value)=>tmps.setIfInBounds x.1 x.2) r.tmps).getD t undef)
  rw[h5]
  exact this t
 ·show((r.params.zip vs.toArray).foldl (fun tmps (x:Tmp×Value)=>tmps.setIfInBounds x.1 x.2) r.tmps).size=N.n
  rw[Yu,Zf]
  exact hr.sz
 intro ex e1 H1 n1 I1 β1 w1 a1 hq hI1 hE1 hN1 hD1 hX1
 obtain⟨rfl,e1',hk1,hb⟩:=hq
 obtain⟨q1,q2,q3⟩:=W7 (r':=busy r) hI1 hk1 rfl
 refine⟨_,run_beginRound q3 hr.st,?_⟩
 refine hb r.body hr.lb (some l) (fun h=>by cases h) I β H w I1 β1 _ a1 (hX1.trans q2) q1 (fun t=>(hE1 t).mono q2 hI1) hN1 (hD1.mono hI1 q2) _ ?_
 intro ex e2 H2 n2 I2 β2 w2 a2 hq hI2 hE2 hN2 hD2 hX2
 rcases hq with⟨code,hj,e2',hk2,hK⟩|⟨rfl,e2',hk2,hK⟩
 ·obtain⟨p1,p2,p3⟩:=W7 (r':=z9n r code) hI2 hk2 rfl
  have hrr:({ busy r with state:=if(some code).isNone then LoopState.ready else .done,pending:=some code }:Loop)=z9n r code:=by
   cases r
   simp[busy,z9n]
  have hrun:=run_endRound (P:=P) (some code) p3
  rw[hrr] at hrun
  cases ex with
  |ret=>cases hj;exact⟨_,_,hrun,.bool false,.bool false,_,n2,I2,β2,rfl,hK,p1,.imm _ _ (.bool false),hX2.trans p2⟩
  |exit id=>cases hj;exact⟨_,_,hrun,.bool false,.bool false,_,n2,I2,β2,rfl,hK,p1,.imm _ _ (.bool false),hX2.trans p2⟩
  |_=>cases hj
 obtain⟨p1,p2,p3⟩:=W7 (r':=r) hI2 hk2 rfl
 have hrr:({ busy r with state:=if(none:Option Code).isNone then LoopState.ready else .done,pending:=none }:Loop)=r:=by
  have:=hr.st
  have:=hr.pe
  cases r
  simp_all [busy]
 have hrun:=run_endRound (P:=P) none p3
 rw[hrr] at hrun
 exact⟨_,_,hrun,.bool true,.bool true,_,n2,I2,β2,rfl,hK,p1,.imm _ _ (.bool true),hX2.trans p2⟩
theorem z9u{N:Lay}{n0:Nat}{g:LOpd}{ps:List Nat}{a b:LCode}{e:Env}(e1:Env){Q:Exit→Env→AHeap→Nat→Prop}{gf:FuncId}{lb:List AVal}(hg:g.ev e=.fn (.func gf) [] lb)(hn:g.need e)(hs:SubE e1 e)
 (hcall:∀ (l:Nat) (r:Loop),RecOf P N ps a b r→ACalls P (.func gf) (.fn (.yield l) [] []::lb) (((n,0),.lrec l r e1)::H) (n+1) (fun _ H' n'=>∃k e',(H'.get k=some (.lrec l r e')∧Q .normal e' (H'.del k) n')∨∃ex code,z79 ex=some code∧H'.get k=some (.lrec l (z9n r code) e')∧Q ex e' (H'.del k) n')) :
 LWp P N n0 (.rng g ps a b) Q e H n:=by
 intro c hc ro hro I0 β0 H0 w0 I β w aa hX hI hE hN hD QQ hQ
 cases c with
 |rangeFunc g' ps' x y=>
  simp only[zf] at hc
  split at hc<;>try (cases hc;done)
  rename_i g2 a2 b2 hrd hgl hal hbl
  simp only[p0,LCode.rng.injEq] at hc
  obtain⟨rfl,hps,rfl,rfl⟩:=hc
  obtain rfl:=hro hrd
  have hrg:=zm hE hgl hn
  rw[hg] at hrg
  obtain⟨cs,hf,k2,k4⟩:∃cs:Array Value,aa.eval g'=.func (.func gf) #[] cs∧cs.size=lb.length∧(∀ (i:Nat) (x:AVal) (v:Value),lb[i]?=some x→cs[i]?=some v→Rep I β n w x v):=by
   revert hrg
   generalize aa.eval g'=fv
   intro hr
   cases hr with
   |fn _ _ _ fs cs h1 h2 h3 h4=>
    have:fs=#[]:=Array.size_eq_zero_iff.1 (by simpa using h1)
    subst this
    exact⟨cs,rfl,h2,h4⟩
   |imm _ _ hr=>
    cases hr with
    |fn _ _ _ fs cs h1 h2 h3 h4=>
     have:fs=#[]:=Array.size_eq_zero_iff.1 (by simpa using h1)
     subst this
     exact⟨cs,rfl,h2,fun i x v p q=>.imm _ _ (h4 i x v p q)⟩
  refine wpIn_rangeFunc (fun fn _=>?_)
  obtain⟨r,hrec⟩:∃r:Loop,r={ state:=.ready,pending:=none,fn,tmps:=aa.tmps,params:=ps',assign:=x,body:=y,defers:=w.heap.size }:=⟨_,rfl⟩
  have hR:RecOf P N ps a2 b2 r:=by subst hrec;exact⟨rfl,rfl,hps,hal,hbl,hN⟩
  have htm:r.tmps=aa.tmps:=by subst hrec;rfl
  obtain⟨i0,x0⟩:=z7f hI (.deferred (some []))
  have hE0:∀t,Rep I β n (w.alloc (.deferred (some []))) (Env.get e1 t) (r.tmps.getD t undef):=fun t=>by
   rw[htm]
   rcases hs.get t with h|h
   ·rw[h];exact .any _
   ·rw[h];exact(hE t).mono x0 hI
  obtain⟨i1,x1⟩:=z55 i0 (r:=r) hE0
  have hsz:(w.alloc (.deferred (some []))).heap.size=w.heap.size+1:=by simp
  rw[hsz] at i1 x1
  have hc:=hcall (w.heap.size+1) r hR
  obtain⟨f0,g1,g2,g3⟩:=hc.1
  have hD1:Dfr P w0.heap.size (w.alloc (.deferred (some []))) ({ target:=.collected w.heap.size,args:=#[] }::aa.defers):=by
   refine⟨List.pairwise_cons.2 ⟨fun d' hm=>.inl fun he=>?_,hD.1⟩,fun d hd=>?_⟩
   ·subst he
    rcases hD.2 _ hm with hid|⟨q,h1,h2,h3⟩
    ·obtain⟨_,_,_,_,h,_⟩:=hid w;cases h
    simp only[Deferred.mk.injEq,Target.collected.injEq,and_true] at h1
    subst h1
    rw[pF (p8 _)] at h3
    cases h3
   ·rcases List.mem_cons.1 hd with rfl|hd
    ·exact .inr ⟨w.heap.size,rfl,hX.size,World.alloc_heap_new w _⟩
    ·exact(hD.mono hI x0).2 d hd
  refine⟨w.heap.size+1,[{ target:=.collected w.heap.size,args:=#[] }],(w.alloc (.deferred (some []))).alloc (.loop r),{ target:=.fn (.func gf) cs,args:=#[.func (.yield (w.heap.size+1)) #[] #[]] },(w.alloc (.deferred (some []))).alloc (.loop r),gf,
   #[.func (.yield (w.heap.size+1)) #[] #[]]++cs,(w.alloc (.deferred (some []))).alloc (.loop r),?_,?_,fun _ _=>trivial,?_,fun h=>(by cases h),?_⟩
  ·rw[hrec];exact run_enterLoop_outer _ _ _ _ _
  ·simp only[resolve,hf]
   simp[go_sem]
  ·have g4:f0.body.isNone=false:=by cases hb:f0.body<;>simp[hb] at g2 ⊢
   simp only[invoke]
   unfold callFunc
   simp only[pP,run_program,pG,g1,g3,g4,pI,if_false,pV]
  ·refine(z1p (ro:=none)).2 ?_
   have hq:=hc.2 I _ _ (#[Value.func (.yield (w.heap.size+1)) #[] #[]]++cs).toList i1 (by simp;omega) (fun(i:Nat) (u:AVal) (v:Value) hu hv=>by
    cases i with
    |zero=>
     simp only[Array.toList_append,List.cons_append,List.nil_append,pC,p0] at hu hv
     subst hu;subst hv
     exact Rep.fn (.yield (w.heap.size+1)) [] [] #[] #[] rfl rfl (fun i x v h=>by cases i<;>cases h) (fun i x v h=>by cases i<;>cases h)
    |succ i=>
     simp only[Array.toList_append,List.cons_append,List.nil_append,pJ] at hu hv
     exact((k4 i u v hu (by rw[←Array.getElem?_toList];exact hv)).mono x0 hI).mono x1 i0)
   rw[Array.toArray_toList] at hq
   refine Calls.mono hq ?_
   rintro ee w3 ⟨rv,v,H',n',I',β',rfl,⟨k,e',hk⟩,hI',hr',hx'⟩
   rcases hk with⟨hk,hK⟩|⟨ex,code,hj,hk,hK⟩
   ·obtain⟨cl,hcl,h0,h1,h2,h3,h4⟩:=hI'.blocks k _ hk
    rw[h2] at h3
    have hend:=run_endLoop (P:=P) h3 (by rw[hR.st];simp)
    obtain⟨rx,hrx⟩:∃rx:Loop,rx={ r with state:=.exhausted }:=⟨_,rfl⟩
    rw[←hrx,hR.pe] at hend
    obtain⟨q1,q2,_⟩:=W7 (r':=rx) hI' hk (by rw[hrx])
    refine⟨none,_,hend,?_⟩
    have hsub:∀id blk,(H'.del k).get id=some blk→(H'.set k (.lrec (w.heap.size+1) rx e')).get id=some blk:=by
     intro id blk hid
     rw[AHeap.get_del] at hid
     rw[AHeap.get_set]
     split at hid
     ·cases hid
     ·rename_i hne;rw[if_neg hne];exact hid
    refine hQ .normal e' (H'.del k) n' I' β' _ _ hK (q1.sub hsub) (fun t=>?_) hN ?_ ((((((hX.trans x0).trans x1).trans hx').trans q2).sub hsub))
    ·have:=(h4 t).mono q2 hI'
     rw[htm] at this
     exact this
    ·exact(((hD1.mono i0 x1).mono i1 hx').mono hI' q2)
   ·obtain⟨cl,hcl,h0,h1,h2,h3,h4⟩:=hI'.blocks k _ hk
    rw[h2] at h3
    have hend:=run_endLoop (P:=P) h3 (by simp[z9n])
    obtain⟨rx,hrx⟩:∃rx:Loop,rx={ z9n r code with state:=.exhausted }:=⟨_,rfl⟩
    rw[←hrx,show(z9n r code).pending=some code from rfl] at hend
    obtain⟨q1,q2,_⟩:=W7 (r':=rx) hI' hk (by rw[hrx])
    refine⟨some code,_,hend,?_⟩
    have hsub:∀id blk,(H'.del k).get id=some blk→(H'.set k (.lrec (w.heap.size+1) rx e')).get id=some blk:=by
     intro id blk hid
     rw[AHeap.get_del] at hid
     rw[AHeap.get_set]
     split at hid
     ·cases hid
     ·rename_i hne;rw[if_neg hne];exact hid
    have fin:QQ ex { aa with defers:={ target:=.collected w.heap.size,args:=#[] }::aa.defers } _:=hQ ex e' (H'.del k) n' I' β' _ _ hK (q1.sub hsub) (fun t=>by
     have:=(h4 t).mono q2 hI'
     rw[show(z9n r code).tmps=aa.tmps from htm] at this
     exact this) hN (((hD1.mono i0 x1).mono i1 hx').mono hI' q2) ((((((hX.trans x0).trans x1).trans hx').trans q2).sub hsub))
    cases ex with
    |ret=>cases hj;exact wpIn_ret fin
    |exit id=>cases hj;exact wpIn_exit fin
    |_=>cases hj
 |skip=>simp[zf] at hc
 |region id ops draw=>simp only[zf] at hc;split at hc<;>(try split at hc)<;>(try split at hc)<;>(try split at hc)<;>(try split at hc)<;>(first|(simp at hc;done)|(rcases x5 hc with⟨_,h⟩|⟨_,_,_,h⟩<;>cases h))
 |seq a b=>simp only[zf] at hc;split at hc<;>simp at hc
 |cond c a b=>simp only[zf] at hc;split at hc<;>simp at hc
 |block id c=>simp[zf] at hc
 |loop c=>simp[zf] at hc
 |exit id=>simp[zf] at hc
 |ret=>simp[zf] at hc
 |_=>cases hc
end
end Go.Fx
namespace Go.Fx
inductive Tr(α:Type) where
 |nil
 |nd (v:Option α) (l r:Tr α)
namespace Tr
variable {α:Type}
def get:Tr α→Nat→Option α
 |.nil,_=>none
 |.nd v l r,k=>match p5 k 0 with
  |true=>v
  |false=>match p5 (k % 2) 1 with
   |true=>get l (k / 2)
   |false=>get r (k / 2-1)
def put:Nat→Tr α→Nat→Option α→Option (Tr α)
 |0,_,_,_=>none
 |d+1,.nil,k,x=>match p5 k 0 with
  |true=>some (.nd x .nil .nil)
  |false=>match p5 (k % 2) 1 with
   |true=>match put d .nil (k / 2) x with|some l=>some (.nd none l .nil)|none=>none
   |false=>match put d .nil (k / 2-1) x with|some r=>some (.nd none .nil r)|none=>none
 |d+1,.nd v l r,k,x=>match p5 k 0 with
  |true=>some (.nd x l r)
  |false=>match p5 (k % 2) 1 with
   |true=>match put d l (k / 2) x with|some l=>some (.nd v l r)|none=>none
   |false=>match put d r (k / 2-1) x with|some r=>some (.nd v l r)|none=>none
end Tr
def ikn:IntKind→Nat
 |.i8=>0|.i16=>1|.i32=>2|.i64=>3|.u8=>4|.u16=>5|.u32=>6|.u64=>7
def Wq(a b:IntKind):Bool:=p5 (ikn a) (ikn b)
def ck(p:Bool)(v:AVal):Option AVal:=match p with|true=>some v|false=>none
def ile(a b:Int):Bool:=decide (a≤b)
def ilt(a b:Int):Bool:=decide (a<b)
def zih(op:BinOp):AVal→AVal→Option AVal
 |.int k a,.int k' b=>match op with
  |.add=>ck (Wq k k') (.int k (k.wrap (a+b)))
  |.sub=>ck (Wq k k') (.int k (k.wrap (a-b)))
  |.mul=>ck (Wq k k') (.int k (k.wrap (a*b)))
  |.quo=>ck (Wq k k'&&!(decide (b=0))) (.int k (k.wrap (a.tdiv b)))
  |.rem=>ck (Wq k k'&&!(decide (b=0))) (.int k (a.tmod b))
  |.and=>ck (Wq k k') (.int k (Zu .and k a b))
  |.or=>ck (Wq k k') (.int k (Zu .or k a b))
  |.xor=>ck (Wq k k') (.int k (Zu .xor k a b))
  |.andNot=>ck (Wq k k') (.int k (Zu .andNot k a b))
  |.shl=>ck (ile 0 b) (.int k (k.wrap (a*2 ^ (min b.toNat k.bits))))
  |.shr=>ck (ile 0 b) (.int k (a.fdiv (2 ^ (min b.toNat k.bits))))
  |.eql=>ck (Wq k k') (.bool (a==b))
  |.neq=>ck (Wq k k') (.bool (a != b))
  |.lss=>ck (Wq k k') (.bool (decide (a<b)))
  |.leq=>ck (Wq k k') (.bool (decide (a≤b)))
  |.gtr=>ck (Wq k k') (.bool (decide (a > b)))
  |.geq=>ck (Wq k k') (.bool (decide (a≥b)))
 |.str a,.str b=>match op with
  |.add=>ck (ile ((a.length+b.length:Nat):Int) 9223372036854775807) (.str (a++b))
  |.eql=>some (.bool (a==b))
  |.neq=>some (.bool (!(a==b)))
  |.lss=>some (.bool (Op.bytesLess a b))
  |.leq=>some (.bool (Op.bytesLess a b || a==b))
  |.gtr=>some (.bool (!(Op.bytesLess a b || a==b)))
  |.geq=>some (.bool (!(Op.bytesLess a b)))
  |_=>none
 |_,_=>none
def bun(op:UnOp):AVal→Option AVal
 |.bool b=>match op with
  |.not=>some (.bool (!b))
  |_=>none
 |.int k n=>match op with
  |.neg=>some (.int k (k.wrap (0-n)))
  |.xor=>some (.int k (Zu .xor k (if k.signed then -1 else k.max) n))
  |_=>none
 |_=>none
def zbw:AVal→AVal→Option Bool
 |.val (.pointer none),.val (.pointer none)=>some true
 |.val (.pointer none),.ptr _ _ _=>some false
 |.ptr _ _ _,.val (.pointer none)=>some false
 |.val (.pointer none),.iptr _ _ _ _=>some false
 |.iptr _ _ _ _,.val (.pointer none)=>some false
 |_,_=>none
def zcl:AVal→AVal→Option Bool
 |.val (.slice none 0 0),.val (.slice none 0 0)=>some true
 |.val (.slice none 0 0),.msl _ _ _ len _=>match p5 len 0 with|true=>none|false=>some false
 |.msl _ _ _ len _,.val (.slice none 0 0)=>match p5 len 0 with|true=>none|false=>some false
 |.val (.slice none 0 0),.isl _ es _=>match es with|[]=>none|_::_=>some false
 |.isl _ es _,.val (.slice none 0 0)=>match es with|[]=>none|_::_=>some false
 |_,_=>none
def zc6:AVal→AVal→Option Bool
 |.val (.map none),.val (.map none)=>some true
 |.val (.map none),.map _=>some false
 |.map _,.val (.map none)=>some false
 |_,_=>none
def z27:CK→AVal→AVal→Option Bool
 |.int,.int k a,.int k' b=>match Wq k k' with|true=>some (a==b)|false=>none
 |.str,.str a,.str b=>some (a==b)
 |.bool,.bool a,.bool b=>some (a==b)
 |_,_,_=>none
def jz:List CK→List AVal→List AVal→Option Bool
 |[],[],[]=>some true
 |k::ks,x::xs,y::ys=>match z27 k x y with
  |some a=>match jz ks xs ys with
   |some b=>some (a&&b)
   |none=>none
  |none=>none
 |_,_,_=>none
def z84:AVal→AVal→Option Bool
 |.val .nilIface,.val .nilIface=>some true
 |.ifc _ _,.val .nilIface=>some false
 |_,_=>none
def z7y:AVal→AVal→Option Bool
 |.val .nilFunc,.val .nilFunc=>some true
 |.fn _ _ _,.val .nilFunc=>some false
 |_,_=>none
def zji(k:EqK)(x y:AVal):Option Bool:=
 match k with
 |.bool=>match x,y with
  |.bool a,.bool b=>some (a==b)
  |_,_=>none
 |.ptr=>zbw x y
 |.slice=>zcl x.rd y.rd
 |.map=>zc6 x y
 |.agg ks=>match x,y with
  |.agg cs,.agg ds=>jz ks cs ds
  |_,_=>none
 |.ifc=>z84 x y
 |.fnc=>z7y x y
 |_=>none
def zic(neg:Bool)(k:EqK)(x y:AVal):Option AVal:=match zji k x y with
 |some b=>some (.bool (if neg then !b else b))
 |none=>none
abbrev Hp:=Id→Option ABlock
def V1(agg:Bool)(n:Nat)(h:Hp):AVal→Option AVal
 |.iptr s es i off=>ck (p6 (i+1) es.length&&p6 (off+n) s) (y5 agg n off (es.getD i []))
 |.ptr b i off=>match h b with
  |some (.rows s es)=>ck (p6 (i+1) es.length&&p6 (off+n) s) (y5 agg n off (es.getD i []))
  |some (.one cs)=>ck (p5 i 0&&p6 (off+n) cs.length) (y5 agg n off cs)
  |_=>none
 |_=>none
def z6v(off:Nat):AVal→Option AVal
 |.iptr s es i o=>some (.iptr s es i (o+off))
 |.ptr b i o=>some (.ptr b i (o+off))
 |_=>none
def z9a(agg:Bool)(n off:Nat):AVal→Option AVal
 |.agg cs=>ck (p6 (off+n) cs.length) (y5 agg n off cs)
 |_=>none
def z3i(s:Nat):AVal→AVal→Option AVal
 |.isl s' es _,.int _ j=>ck (p5 s s'&&ile 0 j&&ilt j (es.length:Int)) (.iptr s' es j.toNat 0)
 |.msl b s' off len _,.int _ j=>ck (p5 s s'&&ile 0 j&&ilt j (len:Int)) (.ptr b (off+j.toNat) 0)
 |_,_=>none
def z24(len s:Nat):AVal→AVal→Option AVal
 |.iptr s' es i o,.int _ j=>ck (ile 0 j&&ilt j (len:Int)) (.iptr s' es i (o+j.toNat * s))
 |.ptr b i o,.int _ j=>ck (ile 0 j&&ilt j (len:Int)) (.ptr b i (o+j.toNat * s))
 |_,_=>none
def Qz(len s:Nat)(h:Hp):AVal→AVal→Option AVal
 |.ptr b i 0,.int _ j=>match h b with
  |some (.rows s' _)=>ck (p5 s s'&&ile 0 j&&ilt j (len:Int)) (.ptr b (i+j.toNat) 0)
  |_=>none
 |_,_=>none
def z4v(len s:Nat)(h:Hp):AVal→Option AVal
 |.ptr b i 0=>match h b with
  |some (.rows s' es)=>ck (p5 s s'&&p6 (i+len) es.length) (.msl b s i len true)
  |_=>none
 |_=>none
def zcq:AVal→AVal→Option AVal
 |.str l,.int _ j=>ck (ile 0 j&&ilt j (l.length:Int)) (.int .u8 ((l.getD j.toNat 0).toNat:Int))
 |_,_=>none
def ze1(len s:Nat)(agg:Bool):AVal→AVal→Option AVal
 |.agg cs,.int _ j=>ck (ile 0 j&&ilt j (len:Int)&&p6 ((j.toNat * s)+s) cs.length) (y5 agg s (j.toNat * s) cs)
 |_,_=>none
def zhy(k:Nat):AVal→Option AVal
 |.tup cs=>ck (p6 (k+1) cs.length) (cs.getD k .any)
 |_=>none
def ze4:AVal→Option AVal
 |.str l=>some (.int .i64 (l.length:Int))
 |_=>none
def zbb:AVal→Option AVal
 |.isl _ es _=>some (.int .i64 (es.length:Int))
 |.msl _ _ _ len _=>some (.int .i64 (len:Int))
 |.val (.slice none 0 0)=>some (.int .i64 0)
 |_=>none
def z78:AVal→Option AVal
 |.iptr s es i o=>some (.iptr s es i o)
 |.ptr b i o=>some (.ptr b i o)
 |.fn (.func f) a c=>some (.fn (.func f) a c)
 |_=>none
def xx(g:Nat→AVal):LOpd→Option AVal
 |.t i=>match g i with
  |.cnd true v=>some v
  |.cnd false _=>none
  |v=>some v
 |.c v=>some v
def Kr(g:Nat→AVal):List LOpd→Option (List AVal)
 |[]=>some []
 |x::r=>match xx g x with
  |some a=>match Kr g r with
   |some l=>some (a::l)
   |none=>none
  |none=>none
def kj(g:Nat→AVal)(d:Nat):Option LOpd→Option Int
 |none=>some d
 |some x=>match xx g x with
  |some (.int _ j)=>some j
  |_=>none
def z7l(g:Nat→AVal)(lo hi:Option LOpd):AVal→Option AVal
 |.str l=>match kj g 0 lo,kj g l.length hi with
  |some a,some b=>ck (ile 0 a&&ile a b&&ile b (l.length:Int)) (.str ((l.take b.toNat).drop a.toNat))
  |_,_=>none
 |_=>none
def zei(g:Nat→AVal)(s:Nat)(lo hi mx:Option LOpd):AVal→Option AVal
 |.isl s' es f=>match kj g 0 lo,kj g es.length hi with
  |some a,some b=>match mx with
   |none=>ck (p5 s s'&&ile 0 a&&ile a b&&ile b (es.length:Int)) (.isl s' ((es.take b.toNat).drop a.toNat) (f&&decide (b=(es.length:Int))))
   |some m=>match kj g 0 (some m) with
    |some m=>ck (p5 s s'&&ile 0 a&&ile a b&&ile b m&&ile m (es.length:Int)) (.isl s' ((es.take b.toNat).drop a.toNat) (decide (m=b)))
    |none=>none
  |_,_=>none
 |.msl id s' off len f=>match kj g 0 lo,kj g len hi with
  |some a,some b=>match mx with
   |none=>ck (p5 s s'&&ile 0 a&&ile a b&&ile b (len:Int)) (.msl id s' (off+a.toNat) (b.toNat-a.toNat) (f&&decide (b=(len:Int))))
   |some m=>match kj g 0 (some m) with
    |some m=>ck (p5 s s'&&ile 0 a&&ile a b&&ile b m&&ile m (len:Int)) (.msl id s' (off+a.toNat) (b.toNat-a.toNat) (decide (m=b)))
    |none=>none
  |_,_=>none
 |.val (.slice none 0 0)=>match kj g 0 lo,kj g 0 hi,mx with
  |some a,some b,none=>ck (decide (a=0)&&decide (b=0)) (.val (.slice none 0 0))
  |_,_,_=>none
 |_=>none
def Uw(cells:List AVal):List (Nat×Nat×AVal)→Option AVal
 |[]=>some (.agg cells)
 |(off,n,x)::r=>match x.cells? with
  |some cs=>match p5 cs.length n&&p6 (off+n) cells.length with
   |true=>Uw (qt cells off cs) r
   |false=>none
  |none=>none
def z06(g:Nat→AVal):List (Nat×Nat×LOpd)→Option (List (Nat×Nat×AVal))
 |[]=>some []
 |(o,n,x)::r=>match xx g x with
  |some a=>match z06 g r with
   |some l=>some ((o,n,a)::l)
   |none=>none
  |none=>none
def zcj(isMax:Bool):AVal→List AVal→Option AVal
 |v,[]=>some v
 |.int k a,.int k' b::r=>match Wq k k' with
  |true=>zcj isMax (.int k (if isMax then(if b > a then b else a) else(if b<a then b else a))) r
  |false=>none
 |_,_=>none
def zem(isMax:Bool):List AVal→Option AVal
 |.int k a::r=>zcj isMax (.int k a) r
 |_=>none
def V3(ks:List CK)(ka:Bool)(k:AVal):Bool:=(match ka,xv k with|true,true=>true|false,false=>true|_,_=>false)&&(jz ks (ya k) (ya k)).isSome
def Uq(ks:List CK)(k k':AVal):Option Bool:=match xv k,xv k' with
 |true,true=>jz ks (ya k) (ya k')
 |false,false=>jz ks (ya k) (ya k')
 |_,_=>none
def z2x(ks:List CK)(k:AVal):List (AVal×AVal)→Option (Option AVal)
 |[]=>some none
 |(k',x)::r=>match Uq ks k k' with
  |some true=>some (some x)
  |some false=>z2x ks k r
  |none=>none
def zac(ks:List CK)(k x:AVal):List (AVal×AVal)→Option (List (AVal×AVal))
 |[]=>some [(k,x)]
 |(k',y)::r=>match Uq ks k k' with
  |some true=>some ((k,x)::r)
  |some false=>match zac ks k x r with|some l=>some ((k',y)::l)|none=>none
  |none=>none
def z3e(ks:List CK)(k:AVal):List (AVal×AVal)→Option (List (AVal×AVal))
 |[]=>some []
 |(k',y)::r=>match Uq ks k k' with
  |some true=>some r
  |some false=>match z3e ks k r with|some l=>some ((k',y)::l)|none=>none
  |none=>none
def V6(ks:List CK)(ka g ok:Bool)(zs:List AVal)(h:Hp)(k:AVal):AVal→Option AVal
 |.val (.map none)=>ck (V3 ks ka k) (zc4 g ok zs none)
 |.map b=>match h b with
  |some (.amap es)=>match V3 ks ka k with
   |true=>match z2x ks k es with
    |some r=>some (zc4 g ok zs r)
    |none=>none
   |false=>none
  |_=>none
 |_=>none
def z4n(h:Hp):AVal→Option AVal
 |.val (.map none)=>some (.int .i64 0)
 |.map b=>match h b with
  |some (.amap es)=>some (.int .i64 (es.length:Int))
  |_=>none
 |_=>none
def z1m(g:Nat→AVal)(h:Hp):LOp→Option AVal
 |.mv x=>xx g x
 |.pick c a b=>match xx g c with
  |some (.bool true)=>xx g a
  |some (.bool false)=>xx g b
  |_=>none
 |.build zs parts=>(z06 g parts).bind (Uw zs)
 |.load ag n a=>(xx g a).bind (V1 ag n h)
 |.nilck x=>(xx g x).bind z78
 |.bin op x y=>(xx g x).bind fun a=>(xx g y).bind fun b=>zih op a b
 |.eq neg k x y=>(xx g x).bind fun a=>(xx g y).bind fun b=>zic neg k a b
 |.un op x=>(xx g x).bind (bun op)
 |.conv (.int k) x=>match xx g x with
  |some (.int _ n)=>some (.int k (k.wrap n))
  |_=>none
 |.conv .same x=>match xx g x with
  |some (.str l)=>some (.str l)
  |_=>none
 |.mkfn f a c=>(Kr g a).bind fun a=>(Kr g c).bind fun c=>some (.fn f a c)
 |.slStr x lo hi=>(xx g x).bind (z7l g lo hi)
 |.slSl s x lo hi mx=>(xx g x).bind (zei g s lo hi mx)
 |.slAr n s x=>(xx g x).bind (z4v n s h)
 |.faddr off x=>(xx g x).bind (z6v off)
 |.field ag n off x=>(xx g x).bind (z9a ag n off)
 |.iaddr s x i=>(xx g x).bind fun a=>(xx g i).bind fun b=>z3i s a.rd b
 |.iaddrA n s x i=>(xx g x).bind fun a=>(xx g i).bind fun b=>z24 n s a b
 |.iaddrR n s x i=>(xx g x).bind fun a=>(xx g i).bind fun b=>Qz n s h a b
 |.idxS x i=>(xx g x).bind fun a=>(xx g i).bind fun b=>zcq a b
 |.idxA n s ag x i=>(xx g x).bind fun a=>(xx g i).bind fun b=>ze1 n s ag a b
 |.ext k x=>(xx g x).bind (zhy k)
 |.len true x=>(xx g x).bind ze4
 |.len false x=>(xx g x).bind fun a=>zbb a.rd
 |.mnx m args=>(Kr g args).bind (zem m)
 |.mlook ks ka ag ok zs x k=>(xx g x).bind fun a=>(xx g k).bind fun b=>V6 ks ka ag ok zs h b a
 |.mlen x=>(xx g x).bind (z4n h)
 |_=>none
structure Sh where
 t:Tr ABlock
 n:Nat
def hix(id:Id):Option Nat:=match id.2 with
 |0=>some (2*id.1)
 |1=>some (2*id.1+1)
 |_=>none
def Tr.at(t:Tr ABlock):Hp:=fun id=>match hix id with
 |some k=>t.get k
 |none=>none
def Tr.sat(t:Tr ABlock)(id:Id)(b:Option ABlock):Option (Tr ABlock):=match hix id with
 |some k=>Tr.put 60 t k b
 |none=>none
def Sh.upd(S:Sh)(id:Id)(b:ABlock):Option Sh:=match S.t.sat id (some b) with
 |some t=>some ⟨t,S.n⟩
 |none=>none
def Sh.cut(S:Sh)(id:Id):Option Sh:=match S.t.sat id none with
 |some t=>some ⟨t,S.n⟩
 |none=>none
def Sh.new(S:Sh)(b:ABlock):Option Sh:=match S.t.sat (S.n,0) (some b) with
 |some t=>some ⟨t,S.n+1⟩
 |none=>none
def Sh.new2(S:Sh)(b c:ABlock):Option Sh:=match S.t.sat (S.n,0) (some b) with
 |some t=>match t.sat (S.n,1) (some c) with
  |some t=>some ⟨t,S.n+1⟩
  |none=>none
 |none=>none
abbrev Rs:=Option (AVal×Sh)
def wv(v:AVal):Option Sh→Rs
 |some S=>some (v,S)
 |none=>none
def uc(h:Hp)(s:Nat):AVal→Option (List (List AVal))
 |.isl s' es _=>match p5 s' s with|true=>some es|false=>none
 |.osl _ s' es=>match p5 s' s with|true=>some es|false=>none
 |.msl b s' off len _=>match h b with
  |some (.rows s'' es)=>match p5 s' s&&p5 s'' s&&p6 (off+len) es.length with
   |true=>some ((es.drop off).take len)
   |false=>none
  |_=>none
 |.val (.slice none 0 0)=>some []
 |.str l=>match p5 s 1 with
  |true=>some (l.map fun c=>[.int .u8 (c.toNat:Int)])
  |false=>none
 |_=>none
def Q7:List (List AVal)→List (Nat×AVal)→Option (List (List AVal))
 |rows,[]=>some rows
 |rows,(i,x)::r=>match x.cells? with
  |some cs=>match p5 cs.length ((rows.getD i []).length)&&p6 (i+1) rows.length with
   |true=>Q7 (rows.set i cs) r
   |false=>none
  |none=>none
def zf3(g:Nat→AVal):List (Nat×LOpd)→Option (List (Nat×AVal))
 |[]=>some []
 |(i,x)::r=>match xx g x with
  |some a=>match zf3 g r with
   |some l=>some ((i,a)::l)
   |none=>none
  |none=>none
def K7:List (List AVal)→Bool
 |[]=>true
 |[.int k _]::r=>Wq k .u8&&K7 r
 |_=>false
def zjf(s bytes:Nat)(S:Sh)(x:AVal)(rows2:List (List AVal)):Rs:=
 match x with
 |.val (.slice none 0 0)=>match rows2 with
  |[]=>some (.val (.slice none 0 0),S)
  |_=>match p6 (rows2.length*bytes) 140737488355328 with
   |true=>wv (.msl (S.n,0) s 0 rows2.length false) (S.new (.rows s rows2))
   |false=>none
 |.isl s' es f=>match p5 s' s with
  |true=>match rows2 with
   |[]=>some (.isl s' es f,S)
   |_=>match f&&p6 ((es.length+rows2.length)*bytes) 140737488355328 with
    |true=>wv (.msl (S.n,0) s 0 (es.length+rows2.length) false) (S.new (.rows s (es++rows2)))
    |false=>none
  |false=>none
 |.msl b s' off len f=>match S.t.at b with
  |some (.rows s'' es)=>match p5 s' s&&p5 s'' s&&p6 (off+len) es.length&&p6 ((len+rows2.length)*bytes) 140737488355328 with
   |true=>match f,rows2 with
    |true,[]=>some (.msl b s' off len f,S)
    |true,_=>wv (.msl (S.n,0) s 0 (len+rows2.length) false) (S.new (.rows s ((es.drop off).take len++rows2)))
    |false,_=>match S.cut b with
     |some S=>wv (.msl (S.n,0) s 0 (len+rows2.length) false) (S.new (.rows s ((es.drop off).take len++rows2)))
     |none=>none
   |false=>none
  |_=>none
 |_=>none
def zhv(C:Nat→List AVal→Sh→Rs)(g:Nat→AVal)(S:Sh):LOp→Rs
 |.alloc zs=>wv (.ptr (S.n,0) 0 0) (S.new (.one zs))
 |.allocR s zs=>wv (.ptr (S.n,0) 0 0) (S.new (.rows s (uw s (zs.length / s) zs)))
 |.allocB T el=>wv (.ptr (S.n,0) 0 0) (S.new2 (.bld T (S.n,1)) (.buf el []))
 |.box x=>match xx g x with
  |some a=>match a.cells? with
   |some cs=>wv (.ptr (S.n,0) 0 0) (S.new (.one cs))
   |none=>none
  |none=>none
 |.mkSl false s zs len parts=>match zf3 g parts with
  |some ps=>match Q7 (List.replicate len zs) ps with
   |some rows=>match p5 zs.length s with
    |true=>wv (.msl (S.n,0) s 0 len true) (S.new (.rows s rows))
    |false=>none
   |none=>none
  |none=>none
 |.mkSl true s zs len parts=>match zf3 g parts with
  |some ps=>match Q7 (List.replicate len zs) ps with
   |some rows=>match x7 rows with
    |some rows'=>match p5 zs.length s with
     |true=>some (.isl s (rows'.map (yy zs)) true,S)
     |false=>none
    |none=>none
   |none=>none
  |none=>none
 |.store m a x=>match xx g a with
  |some (.ptr b i off)=>match xx g x with
   |some y=>match y.cells? with
    |some cs=>match S.t.at b with
     |some (.rows s es)=>match p5 cs.length m&&p6 (i+1) es.length&&p6 (off+m) s with
      |true=>wv .any (S.upd b (.rows s (es.set i (qt (es.getD i []) off cs))))
      |false=>none
     |some (.one rs)=>match p5 cs.length m&&p5 i 0&&p6 (off+m) rs.length with
      |true=>wv .any (S.upd b (.one (qt rs off cs)))
      |false=>none
     |_=>none
    |none=>none
   |none=>none
  |_=>none
 |.conv (.s2b false) x=>match xx g x with
  |some (.str l)=>wv (.msl (S.n,0) 1 0 l.length false) (S.new (.rows 1 (l.map fun c=>[.int .u8 (c.toNat:Int)])))
  |_=>none
 |.conv .b2s x=>match xx g x with
  |some (.str _)=>none
  |some a=>match uc S.t.at 1 a with
   |some rows=>match K7 rows with
    |true=>some (.str (rows.map Qv),S)
    |false=>none
   |none=>none
  |none=>none
 |.mkslice false s bytes zs l c=>match xx g l,xx g c with
  |some (.int .i64 l'),some (.int .i64 c')=>match ile 0 l'&&ile l' c'&&ile (c'*bytes) 140737488355328 with
   |true=>wv (.msl (S.n,0) s 0 l'.toNat (decide (c'=l'))) (S.new (.rows s (List.replicate l'.toNat zs)))
   |false=>none
  |_,_=>none
 |.call f args=>match Kr g args with
  |some aq=>C f aq S
  |none=>none
 |.callv x args=>match xx g x with
  |some (.fn (.func f) first caps)=>match Kr g args with
   |some aq=>C f (first++aq++caps) S
   |none=>none
  |_=>none
 |.app false s bytes x y=>match xx g y with
  |some b=>match uc S.t.at s b with
   |some rows2=>match xx g x with
    |some a=>zjf s bytes S a rows2
    |none=>none
   |none=>none
  |none=>none
 |.copy s x y=>match xx g x with
  |some (.msl b s' off len _)=>match xx g y with
   |some y=>match uc S.t.at s y with
    |some rows2=>match S.t.at b with
     |some (.rows s'' es)=>match p5 s' s&&p5 s'' s&&p6 (off+len) es.length with
      |true=>wv (.int .i64 ((min rows2.length len:Nat):Int)) (S.upd b (.rows s (es.take off++rows2.take len++es.drop (off+min rows2.length len))))
      |false=>none
     |_=>none
    |none=>none
   |none=>none
  |_=>none
 |.mkmap none=>wv (.map (S.n,0)) (S.new (.amap []))
 |.mset ks ka ag zs m k x=>match xx g m with
  |some (.map b)=>match xx g x with
   |some x=>match zex ag zs x with
    |some y=>match S.t.at b with
     |some (.amap es)=>match xx g k with
      |some k=>match zac ks k y es with
       |some es'=>match V3 ks ka k with
        |true=>wv .any (S.upd b (.amap es'))
        |false=>none
       |none=>none
      |none=>none
     |_=>none
    |none=>none
   |none=>none
  |_=>none
 |.mdel ks ka m k=>match xx g m with
  |some (.map b)=>match S.t.at b with
   |some (.amap es)=>match xx g k with
    |some k=>match z3e ks k es with
     |some es'=>match V3 ks ka k with
      |true=>wv .any (S.upd b (.amap es'))
      |false=>none
     |none=>none
    |none=>none
   |_=>none
  |_=>none
 |_=>none
-- equality of values, where it is seen at once
mutual
def zfw:AVal→AVal→Bool
 |.bool a,.bool b=>a==b
 |.int k a,.int k' b=>Wq k k'&&decide (a=b)
 |.str a,.str b=>a==b
 |.ptr b i o,.ptr b' i' o'=>p5 b.1 b'.1&&p5 b.2 b'.2&&p5 i i'&&p5 o o'
 |.msl b s o l f,.msl b' s' o' l' f'=>p5 b.1 b'.1&&p5 b.2 b'.2&&p5 s s'&&p5 o o'&&p5 l l'&&(f==f')
 |.map b,.map b'=>p5 b.1 b'.1&&p5 b.2 b'.2
 |.agg cs,.agg ds=>z4f cs ds
 |.tup cs,.tup ds=>z4f cs ds
 |.val (.pointer none),.val (.pointer none)=>true
 |.val (.slice none 0 0),.val (.slice none 0 0)=>true
 |.val (.map none),.val (.map none)=>true
 |.val (.nilIface),.val (.nilIface)=>true
 |.cnd p x,.cnd p' y=>(p==p')&&zfw x y
 |.isl s es f,.isl s' es' f'=>p5 s s'&&(f==f')&&z41 es es'
 |_,_=>false
def z4f:List AVal→List AVal→Bool
 |[],[]=>true
 |x::xs,y::ys=>zfw x y&&z4f xs ys
 |_,_=>false
def z41:List (List AVal)→List (List AVal)→Bool
 |[],[]=>true
 |x::xs,y::ys=>z4f x y&&z41 xs ys
 |_,_=>false
end
def Ua(a:AVal)(want:Bool):Option Bool:=jd a want
abbrev Ev:=Tr AVal
def Ev.g(e:Ev)(t:Nat):AVal:=match Tr.get e t with|some v=>v|none=>.any
def Ev.p(e:Ev)(d:Option Nat)(v:AVal):Option Ev:=match d with
 |some d=>Tr.put 60 e d (some v)
 |none=>some e
def Zm(g:Nat→AVal)(h:Hp)(lo:LOper):Option AVal:=
 match lo.guard with
 |none=>z1m g h lo.op
 |some (q,want)=>match Ua (g q) want with
  |some true=>match z1m g h lo.op with
   |some v=>some (.cnd true v)
   |none=>none
  |some false=>some (.tup [])
  |none=>none
def zb3(C:Nat→List AVal→Sh→Rs)(g:Nat→AVal)(S:Sh)(lo:LOper):Rs:=
 match lo.guard with
 |none=>zhv C g S lo.op
 |some (q,want)=>match Ua (g q) want with
  |some true=>zhv C g S lo.op
  |some false=>some (.tup [],S)
  |none=>none
abbrev Es:=Option (Ev×Sh)
def zel(C:Nat→List AVal→Sh→Rs):List LOper→Ev→Sh→Es
 |[],e,S=>some (e,S)
 |lo::os,e,S=>match yx lo.op with
  |true=>match Zm e.g S.t.at lo with
   |some v=>match e.p lo.dst v with
    |some e=>zel C os e S
    |none=>none
   |none=>none
  |false=>match zb3 C e.g S lo with
   |some (v,S)=>match e.p lo.dst v with
    |some e=>zel C os e S
    |none=>none
   |none=>none
def LOper.bsees(lo:LOper)(e:Ev):Env:=lo.looks.map fun t=>(t,e.g t)
def Jf(h:Hp)(loose:List Nat):List (Nat×LOper×Env×AVal)→Bool
 |[]=>true
 |(p,lo,e,v)::r=>(match loose.contains p with
  |true=>match Zm e.get h lo with
   |some u=>zfw u v
   |none=>false
  |false=>true)&&Jf h loose r
def z1y(C:Nat→List AVal→Sh→Rs):List DItem→Nat→List (Nat×LOper×Env×AVal)→Ev→Sh→Es
 |[],_,_,e,S=>some (e,S)
 |it::rest,p,done,e,S=>match yx it.lo.op with
  |true=>match Zm (it.lo.bsees e).get S.t.at it.lo with
   |some v=>match e.p it.lo.dst v with
    |some e'=>z1y C rest (p+1) (if jf it.lo.op then(p,it.lo,it.lo.bsees e,v)::done else done) e' S
    |none=>none
   |none=>none
  |false=>match zb3 C (it.lo.bsees e).get S it.lo with
   |some (v,S)=>match Jf S.t.at it.loose done with
    |true=>match e.p it.lo.dst v with
     |some e=>z1y C rest (p+1) done e S
     |none=>none
    |false=>none
   |none=>none
abbrev Cs:=Option (Exit×Ev×Sh)
def zgk:Es→Cs
 |some (e,S)=>some (.normal,e,S)
 |none=>none
def zcc:Option AVal→Option AVal→Bool
 |some (.ptr b _ _),some (.ptr c _ _)=>!(p5 b.1 c.1&&p5 b.2 c.2)
 |_,_=>false
def zgf:List Nat→List AVal→Ev→Option Ev
 |[],[],e=>some e
 |p::ps,x::xs,e=>match e.p (some p) x with
  |some e=>zgf ps xs e
  |none=>none
 |_,_,_=>none
def z07:AVal→Bool
 |.cnd _ _=>false
 |_=>true
def zfg(A R:Ev→Sh→Cs)(ps:List Nat)(ag:Bool)(s:Nat)(bx:Id)(e:Ev):Nat→Sh→Cs
 |0,S=>some (.normal,e,S)
 |i+1,S=>match V1 false 1 S.t.at (.ptr bx 0 0) with
  |some sl=>match z3i s sl.rd (.int .i64 (i:Int)) with
   |some p=>match V1 ag s S.t.at p with
    |some el=>match z07 sl&&z07 p&&z07 el&&p6 i 4611686018427387903 with
     |true=>match zgf ps [.int .i64 (i:Int),el] e with
      |some e1=>match A e1 S with
       |some (.normal,e2,S2)=>match R e2 S2 with
        |some (.normal,_,S3)=>zfg A R ps ag s bx e i S3
        |some (.ret,_,S3)=>some (.ret,e,S3)
        |some (.exit id,_,S3)=>some (.exit id,e,S3)
        |_=>none
       |_=>none
      |none=>none
     |false=>none
    |none=>none
   |none=>none
  |none=>none
def w5(C:Nat→List AVal→Sh→Rs)(L:LCode→Ev→Sh→Cs)(B:Nat→Option (Bool×Nat)):LCode→Ev→Sh→Cs
 |.skip,e,S=>some (.normal,e,S)
 |.region ops,e,S=>zgk (zel C ops e S)
 |.quiet ops,e,S=>match ops.all (fun lo=>yx lo.op) with
  |true=>zgk (zel C ops e S)
  |false=>none
 |.draw items,e,S=>zgk (z1y C items 0 [] e S)
 |.draw2 a b items,e,S=>match z1y C items 0 [] e S with
  |some (e,S)=>match zcc (xx e.g a) (xx e.g b) with
   |true=>some (.normal,e,S)
   |false=>none
  |none=>none
 |.seq a b,e,S=>match w5 C L B a e S with
  |some (.normal,e,S)=>w5 C L B b e S
  |x=>x
 |.cond c a b,e,S=>match xx e.g c with
  |some (.bool true)=>w5 C L B a e S
  |some (.bool false)=>w5 C L B b e S
  |_=>none
 |.block id c,e,S=>match w5 C L B c e S with
  |some (.exit i,e,S)=>match p5 i id with
   |true=>some (.normal,e,S)
   |false=>some (.exit i,e,S)
  |x=>x
 |.loop c,e,S=>L c e S
 |.rng g ps a b,e,S=>match xx e.g g with
  |some (.fn (.func gf) [] [.ptr bx 0 0])=>match B gf with
   |some (ag,s)=>match V1 false 1 S.t.at (.ptr bx 0 0) with
    |some sl=>match zbb sl.rd with
     |some (.int .i64 z)=>match z07 sl&&ile 0 z&&ile z 4611686018427387904,S.t.at (S.n,0) with
      |true,none=>zfg (w5 C L B a) (w5 C L B b) ps ag s bx e z.toNat ⟨S.t,S.n+1⟩
      |_,_=>none
     |_=>none
    |none=>none
   |none=>none
  |_=>none
 |.dfr _ t,e,S=>match e.p (some t) .any with|some e=>some (.normal,e,S)|none=>none
 |.exit id,e,S=>some (.exit id,e,S)
 |.ret,e,S=>some (.ret,e,S)
def z2j:Nat→List AVal→Ev→Option Ev
 |_,[],e=>some e
 |k,x::r,e=>match e.p (some k) x with
  |some e=>z2j (k+1) r e
  |none=>none
def zeh(e:Ev)(h:Hp):LRes→Option AVal
 |.t i=>xx e.g (.t i)
 |.cell i ag n=>match xx e.g (.t i) with
  |some a=>V1 ag n h a
  |none=>none
def z4e(e:Ev)(h:Hp):List LRes→Option (List AVal)
 |[]=>some []
 |r::rs=>match zeh e h r with
  |some v=>match z4e e h rs with
   |some l=>some (v::l)
   |none=>none
  |none=>none
def zhs(res:List LRes):Cs→Rs
 |some (.normal,e,S)=>match z4e e S.t.at res with|some l=>some (z0v l,S)|none=>none
 |some (.ret,e,S)=>match z4e e S.t.at res with|some l=>some (z0v l,S)|none=>none
 |_=>none
def ev(F:Nat→Option LFn)(X:Nat→List AVal→Sh→Option Rs)(B:Nat→Option (Bool×Nat)):Nat→(Nat→List AVal→Sh→Rs)×(LCode→Ev→Sh→Cs)
 |0=>(fun _ _ _=>none,fun _ _ _=>none)
 |m+1=>(fun f args S=>match X f args S with
  |some r=>r
  |none=>match F f with
   |some fn=>match p6 args.length fn.lay.n with
    |true=>match z2j 0 args .nil with
     |some e=>zhs fn.res (w5 (ev F X B m).1 (ev F X B m).2 B fn.body e S)
     |none=>none
    |false=>none
   |none=>none,
  fun c e S=>match w5 (ev F X B m).1 (ev F X B m).2 B c e S with
   |some (.normal,e,S)=>(ev F X B m).2 c e S
   |x=>x)
end Go.Fx
namespace Go.Fx
namespace Tr
variable {α:Type}
theorem Ju(v:Option α)(l r:Tr α)(j:Nat):(Tr.nd v l r).get j=if j=0 then v else if j % 2=1 then l.get (j / 2) else r.get (j / 2-1):=by
 show(match p5 j 0 with
  |true=>v
  |false=>match p5 (j % 2) 1 with
   |true=>get l (j / 2)
   |false=>get r (j / 2-1))=_
 by_cases h:j=0
 ·subst h;rfl
 ·rw[if_neg h]
  have h0:p5 j 0=false:=Bool.eq_false_iff.2 fun h'=>h (pA h')
  rw[h0]
  simp only
  by_cases h1:j % 2=1
  ·rw[if_pos h1,h1]
  ·rw[if_neg h1]
   have:j % 2=0:=by omega
   rw[this]
theorem put_get:∀ (d:Nat) (t:Tr α) (k:Nat) (x:Option α) (t':Tr α),put d t k x=some t'→∀j,t'.get j=if j=k then x else t.get j
 |0,_,_,_,_,h=>by simp[put] at h
 |d+1,t,k,x,t',h=>by
  have key:∀ (v:Option α) (l r:Tr α),(match p5 k 0 with
   |true=>some (Tr.nd x l r)
   |false=>match p5 (k % 2) 1 with
    |true=>match put d l (k / 2) x with|some l=>some (.nd v l r)|none=>none
    |false=>match put d r (k / 2-1) x with|some r=>some (.nd v l r)|none=>none)=some t'→∀j,t'.get j=if j=k then x else(Tr.nd v l r).get j:=by
   intro v l r h j
   split at h
   ·rename_i hk
    have hk:=pA hk
    simp only[p0] at h
    subst h hk
    rw[Ju,Ju]
    by_cases hj:j=0
    ·rw[if_pos hj,if_pos hj]
    ·rw[if_neg hj,if_neg hj,if_neg hj]
   ·rename_i hk
    have hk:=pL hk
    split at h
    ·rename_i hk1
     have hk1:=pA hk1
     split at h<;>simp only[p0,reduceCtorEq] at h
     rename_i l' hl
     subst h
     have ih:=put_get d l (k / 2) x l' hl
     rw[Ju,Ju,ih]
     by_cases hj:j=k
     ·subst hj;rw[if_neg hk,if_pos hk1,if_pos rfl,if_pos rfl]
     ·rw[if_neg hj]
      by_cases h0:j=0
      ·rw[if_pos h0,if_pos h0]
      ·rw[if_neg h0,if_neg h0]
       by_cases h1:j % 2=1
       ·rw[if_pos h1,if_pos h1,if_neg (by omega)]
       ·rw[if_neg h1,if_neg h1]
    ·rename_i hk1
     have hk1:=pL hk1
     split at h<;>simp only[p0,reduceCtorEq] at h
     rename_i r' hr
     subst h
     have ih:=put_get d r (k / 2-1) x r' hr
     rw[Ju,Ju,ih]
     by_cases hj:j=k
     ·subst hj;rw[if_neg hk,if_neg hk1,if_pos rfl,if_pos rfl]
     ·rw[if_neg hj]
      by_cases h0:j=0
      ·rw[if_pos h0,if_pos h0]
      ·rw[if_neg h0,if_neg h0]
       by_cases h1:j % 2=1
       ·rw[if_pos h1,if_pos h1]
       ·rw[if_neg h1,if_neg h1,if_neg (by omega)]
  cases t with
  |nil=>
   intro j
   have hn:(Tr.nil:Tr α).get j=(Tr.nd none .nil .nil).get j:=by rw[Ju];simp[get]
   rw[hn]
   exact key none .nil .nil (by unfold put at h;exact h) j
  |nd v l r=>exact key v l r (by unfold put at h;exact h)
end Tr
theorem zep{i j:Id}{k:Nat}(hi:hix i=some k)(hj:hix j=some k):i=j:=by
 obtain⟨a,b⟩:=i
 obtain⟨c,d⟩:=j
 unfold hix at hi hj
 simp only at hi hj
 split at hi<;>split at hj<;>simp only[p0,reduceCtorEq] at hi hj
 all_goals first|(exfalso;omega)|(have:a=c:=(by omega);subst this;rfl)
theorem vu{t t':Tr ABlock}{id:Id}{b:Option ABlock}(h:t.sat id b=some t')(j:Id):t'.at j=if j=id then b else t.at j:=by
 unfold Tr.sat at h
 split at h<;>try (cases h;done)
 rename_i k hk
 have hp:=Tr.put_get _ _ _ _ _ h
 unfold Tr.at
 by_cases hj:j=id
 ·subst hj
  rw[hk,if_pos rfl]
  simp only
  rw[hp,if_pos rfl]
 ·rw[if_neg hj]
  cases hx:hix j with
  |none=>rfl
  |some k'=>
   simp only
   rw[hp,if_neg]
   rintro rfl
   exact hj (zep hx hk)
structure StR(D:Id→Option ABlock)(H:AHeap)(nn:Nat)(S:Sh):Prop where
 n:nn=S.n
 h:∀id b,S.t.at id=some b→H.get id=some b
 d:∀id b,D id=some b→H.get id=some b∧S.t.at id=none∧id.1<nn
variable {D:Id→Option ABlock} {H:AHeap} {n:Nat} {S S':Sh}
theorem StR.new{b:ABlock}(h:StR D H n S)(hs:S.new b=some S'):StR D (((n,0),b)::H) (n+1) S':=by
 unfold Sh.new at hs
 split at hs<;>simp only[p0,reduceCtorEq] at hs
 rename_i t ht
 subst hs
 refine⟨by simp[h.n],fun id c hc=>?_,fun id c hc=>?_⟩
 ·simp only at hc
  rw[vu ht] at hc
  by_cases hj:(n,0)=id
  ·subst hj;rw[AHeap.get_cons_same];rw[if_pos (by rw[h.n])] at hc;exact hc
  ·rw[AHeap.get_cons_other _ _ hj];rw[if_neg (by rw[←h.n];exact fun e=>hj e.symm)] at hc;exact h.h _ _ hc
 ·obtain⟨g1,g2,g3⟩:=h.d id c hc
  have hj:(n,0)≠id:=fun e=>by subst e;exact absurd g3 (Nat.lt_irrefl _)
  simp only
  rw[vu ht,AHeap.get_cons_other _ _ hj,if_neg (by rw[←h.n];exact fun e=>hj e.symm)]
  exact⟨g1,g2,by omega⟩
theorem StR.new2{b c:ABlock}(h:StR D H n S)(hs:S.new2 b c=some S'):StR D (((n,0),b)::((n,1),c)::H) (n+1) S':=by
 unfold Sh.new2 at hs
 split at hs<;>try (cases hs;done)
 rename_i t ht
 split at hs<;>simp only[p0,reduceCtorEq] at hs
 rename_i t' ht'
 subst hs
 refine⟨by simp[h.n],fun id u hu=>?_,fun id u hu=>?_⟩
 ·simp only at hu
  rw[vu ht',vu ht,←h.n] at hu
  by_cases hj:(n,0)=id
  ·subst hj;rw[AHeap.get_cons_same];rw[if_neg (by simp),if_pos rfl] at hu;exact hu
  ·rw[AHeap.get_cons_other _ _ hj]
   by_cases hj1:(n,1)=id
   ·subst hj1;rw[AHeap.get_cons_same];rw[if_pos rfl] at hu;exact hu
   ·rw[AHeap.get_cons_other _ _ hj1];rw[if_neg (fun e=>hj1 e.symm),if_neg (fun e=>hj e.symm)] at hu;exact h.h _ _ hu
 ·obtain⟨g1,g2,g3⟩:=h.d id u hu
  have hj:(n,0)≠id:=fun e=>by subst e;exact absurd g3 (Nat.lt_irrefl _)
  have hj1:(n,1)≠id:=fun e=>by subst e;exact absurd g3 (Nat.lt_irrefl _)
  simp only
  rw[vu ht',vu ht,←h.n,AHeap.get_cons_other _ _ hj,AHeap.get_cons_other _ _ hj1,if_neg (fun e=>hj1 e.symm),if_neg (fun e=>hj e.symm)]
  exact⟨g1,g2,by omega⟩
theorem StR.upd{id:Id}{b b0:ABlock}(h:StR D H n S)(h0:S.t.at id=some b0)(hs:S.upd id b=some S'):StR D (H.set id b) n S':=by
 unfold Sh.upd at hs
 split at hs<;>simp only[p0,reduceCtorEq] at hs
 rename_i t ht
 subst hs
 refine⟨h.n,fun j c hc=>?_,fun j c hc=>?_⟩
 ·simp only at hc
  rw[vu ht] at hc
  rw[AHeap.get_set]
  by_cases hj:id=j
  ·subst hj;rw[if_pos rfl] at hc ⊢;rw[h.h _ _ h0];exact hc
  ·rw[if_neg hj];rw[if_neg (fun e=>hj e.symm)] at hc;exact h.h _ _ hc
 ·obtain⟨g1,g2,g3⟩:=h.d j c hc
  have hj:id≠j:=fun e=>by subst e;rw[h0] at g2;cases g2
  simp only
  rw[vu ht,AHeap.get_set,if_neg hj,if_neg (fun e=>hj e.symm)]
  exact⟨g1,g2,g3⟩
theorem StR.cut{id:Id}{b0:ABlock}(h:StR D H n S)(h0:S.t.at id=some b0)(hs:S.cut id=some S'):StR D (H.del id) n S':=by
 unfold Sh.cut at hs
 split at hs<;>simp only[p0,reduceCtorEq] at hs
 rename_i t ht
 subst hs
 refine⟨h.n,fun j c hc=>?_,fun j c hc=>?_⟩
 ·simp only at hc
  rw[vu ht] at hc
  rw[AHeap.get_del]
  by_cases hj:id=j
  ·subst hj;rw[if_pos rfl] at hc;cases hc
  ·rw[if_neg hj];rw[if_neg (fun e=>hj e.symm)] at hc;exact h.h _ _ hc
 ·obtain⟨g1,g2,g3⟩:=h.d j c hc
  have hj:id≠j:=fun e=>by subst e;rw[h0] at g2;cases g2
  simp only
  rw[vu ht,AHeap.get_del,if_neg hj,if_neg (fun e=>hj e.symm)]
  exact⟨g1,g2,g3⟩
theorem Sh.upd_at{id j:Id}{b c:ABlock}(hs:S.upd id b=some S')(hj:S.t.at j=some c):∃c',S'.t.at j=some c':=by
 unfold Sh.upd at hs
 split at hs<;>simp only[p0,reduceCtorEq] at hs
 rename_i t ht
 subst hs
 simp only
 rw[vu ht]
 split
 ·exact⟨_,rfl⟩
 ·exact⟨_,hj⟩
def HLe(h h':Hp):Prop:=∀id b,h id=some b→h' id=some b
theorem w8{h h':Hp}(hl:HLe h h'){ag:Bool}{n:Nat}:∀ {x v:AVal},V1 ag n h x=some v→V1 ag n h' x=some v:=by
 intro x v hx
 unfold V1 at hx ⊢
 split at hx
 ·exact hx
 ·rename_i b i off
  cases hb:h b with
  |none=>rw[hb] at hx;cases hx
  |some blk=>rw[hb] at hx;simp only[hl _ _ hb];exact hx
 ·cases hx
theorem Ut{h h':Hp}(hl:HLe h h'){len s:Nat}{x y v:AVal}(hx:Qz len s h x y=some v):Qz len s h' x y=some v:=by
 unfold Qz at hx ⊢
 split at hx
 ·rename_i b i k j
  cases hb:h b with
  |none=>rw[hb] at hx;cases hx
  |some blk=>rw[hb] at hx;simp only[hl _ _ hb];exact hx
 ·cases hx
theorem Vl{h h':Hp}(hl:HLe h h'){len s:Nat}{x v:AVal}(hx:z4v len s h x=some v):z4v len s h' x=some v:=by
 unfold z4v at hx ⊢
 split at hx
 ·rename_i b i
  cases hb:h b with
  |none=>rw[hb] at hx;cases hx
  |some blk=>rw[hb] at hx;simp only[hl _ _ hb];exact hx
 ·cases hx
theorem z26{h h':Hp}(hl:HLe h h'){ks:List CK}{ka g ok:Bool}{zs:List AVal}{k x v:AVal}(hx:V6 ks ka g ok zs h k x=some v):V6 ks ka g ok zs h' k x=some v:=by
 unfold V6 at hx ⊢
 split at hx
 ·exact hx
 ·rename_i b
  cases hb:h b with
  |none=>rw[hb] at hx;cases hx
  |some blk=>rw[hb] at hx;simp only[hl _ _ hb];exact hx
 ·cases hx
theorem z5p{h h':Hp}(hl:HLe h h'){x v:AVal}(hx:z4n h x=some v):z4n h' x=some v:=by
 unfold z4n at hx ⊢
 split at hx
 ·exact hx
 ·rename_i b
  cases hb:h b with
  |none=>rw[hb] at hx;cases hx
  |some blk=>rw[hb] at hx;simp only[hl _ _ hb];exact hx
 ·cases hx
theorem ur{h h':Hp}(hl:HLe h h'){s:Nat}{x:AVal}{v:List (List AVal)}(hx:uc h s x=some v):uc h' s x=some v:=by
 unfold uc at hx ⊢
 split at hx
 case h_3 b s' off len f=>
  cases hb:h b with
  |none=>rw[hb] at hx;cases hx
  |some blk=>rw[hb] at hx;simp only[hl _ _ hb];exact hx
 all_goals first|exact hx|cases hx
theorem ja{α β:Type}{o:Option α}{f f':α→Option β}{v:β}(hx:o.bind f=some v)(hf:∀a,f a=some v→f' a=some v):o.bind f'=some v:=by
 cases o with
 |none=>cases hx
 |some a=>exact hf a hx
theorem Ve{h h':Hp}(hl:HLe h h'){g:Nat→AVal}{op:LOp}{v:AVal}(hx:z1m g h op=some v):z1m g h' op=some v:=by
 unfold z1m at hx ⊢
 split at hx
 case h_4=>exact ja hx fun a h=>w8 hl h
 case h_14=>exact ja hx fun a h=>Vl hl h
 all_goals first
  |exact hx
  |exact ja hx fun a h=>z5p hl h
  |exact ja hx fun a h=>ja h fun b h=>Ut hl h
  |exact ja hx fun a h=>ja h fun b h=>z26 hl h
  |exact ja hx fun a h=>w8 hl h
  |exact ja hx fun a h=>Vl hl h
  |cases hx
theorem Zy{h h':Hp}(hl:HLe h h'){g:Nat→AVal}{lo:LOper}{v:AVal}(hx:Zm g h lo=some v):Zm g h' lo=some v:=by
 unfold Zm at hx ⊢
 split at hx
 ·exact Ve hl hx
 ·split at hx
  ·split at hx<;>try (cases hx;done)
   rename_i v' hv
   rw[Ve hl hv]
   exact hx
  ·exact hx
  ·cases hx
theorem Je{h h':Hp}(hl:HLe h h'){lo:List Nat}:∀ {d:List (Nat×LOper×Env×AVal)},Jf h lo d=true→Jf h' lo d=true
 |[],_=>rfl
 |(p,o,e,v)::r,hx=>by
  unfold Jf at hx ⊢
  simp only[p4] at hx ⊢
  refine⟨?_,Je hl hx.2⟩
  have h1:=hx.1
  split at h1
  ·split at h1
   ·rename_i u hu
    rw[Zy hl hu]
    exact h1
   ·cases h1
  ·rfl
theorem z7o{h h':Hp}(hl:HLe h h'){e:Ev}{r:LRes}{v:AVal}(hx:zeh e h r=some v):zeh e h' r=some v:=by
 unfold zeh at hx ⊢
 split at hx
 ·exact hx
 ·split at hx
  ·exact w8 hl hx
  ·cases hx
theorem ko{a b:IntKind}:Wq a b=true↔a=b:=by cases a<;>cases b<;>decide
theorem jj{a b:Int}:ile a b=true↔a≤b:=by simp[ile]
theorem J5{a b:Int}:ilt a b=true↔a<b:=by simp[ilt]
theorem zk{a b:Nat}:p5 a b=true↔a=b:=⟨pA,fun h=>by subst h;exact Nat.beq_refl a⟩
theorem yr{a b:Nat}:p6 a b=true↔a≤b:=by rw[Nat.ble_eq]
theorem vr{p:Bool}{v y:AVal}(h:ck p v=some y):p=true∧v=y:=by
 unfold ck at h
 split at h<;>simp only[p0,reduceCtorEq] at h
 exact⟨rfl,h⟩
def XOk(x:XR)(y:AVal):Prop:=∃s,x=.ok s y∧s
theorem XOk.of{x:XR}{s:Prop}{y:AVal}(h:x=.ok s y)(hs:s):XOk x y:=⟨s,h,hs⟩
theorem XOk.and{x:XR}{p:Prop}{y:AVal}(h:XOk x y)(hp:p):XOk (x.and p) y:=by
 obtain⟨s,rfl,hs⟩:=h
 exact⟨p∧s,rfl,hp,hs⟩
theorem zeq{op:BinOp}{a b y:AVal}(h:zih op a b=some y):XOk (z8d op a b) y:=by
 unfold zih at h
 split at h
 ·unfold z8d
  cases op<;>simp only at h ⊢<;>(obtain⟨h1,rfl⟩:=vr h;refine⟨_,rfl,?_⟩) <;>
   simp only[p4,ko,jj,Bool.not_eq_true',decide_eq_false_iff_not] at h1<;>exact h1
 ·unfold z8d
  cases op<;>first
   |(cases h;done)
   |(obtain⟨h1,rfl⟩:=vr h;exact⟨_,rfl,jj.1 h1⟩)
   |(simp only[p0] at h;subst h;exact⟨_,rfl,trivial⟩)
 ·cases h
theorem zgc{op:UnOp}{a y:AVal}(h:bun op a=some y):XOk (xun op a) y:=by
 unfold bun at h
 split at h
 ·unfold xun
  split at h<;>simp only[p0,reduceCtorEq] at h
  subst h;exact⟨_,rfl,trivial⟩
 ·unfold xun
  split at h<;>simp only[p0,reduceCtorEq] at h<;>(subst h;exact⟨_,rfl,trivial⟩)
 ·cases h
theorem z5i{k:CK}{x y:AVal}{b:Bool}(h:z27 k x y=some b):ww k x y=some b:=by
 unfold z27 at h
 split at h
 ·split at h<;>simp only[p0,reduceCtorEq] at h
  rename_i hk
  subst h
  simp[ww,ko.1 hk]
 ·simpa[ww] using h
 ·simpa[ww] using h
 ·cases h
theorem wg:∀ {ks:List CK} {xs ys:List AVal} {b:Bool},jz ks xs ys=some b→zr ks xs ys=some b
 |[],[],[],b,h=>by simpa[jz,zr] using h
 |k::ks,x::xs,y::ys,b,h=>by
  unfold jz at h
  split at h<;>try (cases h;done)
  rename_i a ha
  split at h<;>try (cases h;done)
  rename_i c hc
  unfold zr
  rw[z5i ha,wg hc]
  exact h
 |[],[],_::_,_,h=>by cases h
 |[],_::_,_,_,h=>by cases h
 |_::_,[],_,_,h=>by cases h
 |_::_,_::_,[],_,h=>by cases h
theorem zah{x y:AVal}{b:Bool}(h:zcl x y=some b):XOk (Qw x y) (.bool b):=by
 unfold zcl at h
 split at h
 ·simp only[p0] at h;subst h;exact⟨_,rfl,trivial⟩
 ·rename_i len _
  cases hz:p5 len 0<;>rw[hz] at h<;>simp only[p0,reduceCtorEq] at h
  subst h;exact⟨_,rfl,pL hz⟩
 ·rename_i len _
  cases hz:p5 len 0<;>rw[hz] at h<;>simp only[p0,reduceCtorEq] at h
  subst h;exact⟨_,rfl,pL hz⟩
 ·rename_i es _
  cases es<;>simp only[p0,reduceCtorEq] at h
  subst h;exact⟨_,rfl,by simp⟩
 ·rename_i es _
  cases es<;>simp only[p0,reduceCtorEq] at h
  subst h;exact⟨_,rfl,by simp⟩
 ·cases h
theorem zdj{k:EqK}{x y:AVal}{b:Bool}(h:zji k x y=some b):XOk (z8g k x y) (.bool b):=by
 unfold zji at h
 unfold z8g
 split at h
 ·split at h<;>simp only[p0,reduceCtorEq] at h
  subst h;exact⟨_,rfl,trivial⟩
 ·simp only
  unfold zbw at h
  split at h<;>simp only[p0,reduceCtorEq] at h<;>(subst h;exact⟨_,rfl,trivial⟩)
 ·simp only
  exact zah h
 ·simp only
  unfold zc6 at h
  split at h<;>simp only[p0,reduceCtorEq] at h<;>(subst h;exact⟨_,rfl,trivial⟩)
 ·simp only
  split at h<;>try (cases h;done)
  simp only[z8l,wg h]
  exact⟨_,rfl,trivial⟩
 ·simp only
  unfold z84 at h
  split at h<;>simp only[p0,reduceCtorEq] at h<;>(subst h;exact⟨_,rfl,trivial⟩)
 ·simp only
  unfold z7y at h
  split at h<;>simp only[p0,reduceCtorEq] at h<;>(subst h;exact⟨_,rfl,trivial⟩)
 ·cases h
theorem zcy{neg:Bool}{k:EqK}{x y z:AVal}(h:zic neg k x y=some z):XOk (xeq neg k x y) z:=by
 unfold zic at h
 split at h<;>simp only[p0,reduceCtorEq] at h
 rename_i b hb
 obtain⟨s,h1,h2⟩:=zdj hb
 unfold xeq
 subst h
 cases neg with
 |true=>simp only[if_true,h1,XR.neg];exact⟨_,rfl,h2⟩
 |false=>simp only[pI,if_false,h1];exact⟨_,rfl,h2⟩
theorem Yb{ag:Bool}{m:Nat}{x y:AVal}(h:V1 ag m H.get x=some y):XOk (Xn ag m H x) y:=by
 unfold V1 at h
 unfold Xn
 split at h
 ·obtain⟨h1,rfl⟩:=vr h
  simp only[p4,yr] at h1
  exact⟨_,rfl,h1⟩
 ·rename_i b i off
  simp only
  split at h<;>try (cases h;done)
  ·rename_i hg
   obtain⟨h1,rfl⟩:=vr h
   simp only[p4,yr] at h1
   rw[hg]
   exact⟨_,rfl,h1⟩
  ·rename_i hg
   obtain⟨h1,rfl⟩:=vr h
   simp only[p4,yr,zk] at h1
   rw[hg]
   exact⟨_,rfl,h1⟩
 ·cases h
theorem z69{off:Nat}{x y:AVal}(h:z6v off x=some y):XOk (Vx off x) y:=by
 unfold z6v at h
 split at h<;>simp only[p0,reduceCtorEq] at h<;>(subst h;exact⟨_,rfl,trivial⟩)
theorem z8q{ag:Bool}{m off:Nat}{x y:AVal}(h:z9a ag m off x=some y):XOk (Vm ag m off x) y:=by
 unfold z9a at h
 split at h<;>try (cases h;done)
 obtain⟨h1,rfl⟩:=vr h
 exact⟨_,rfl,yr.1 h1⟩
theorem Ud{s:Nat}{x i y:AVal}(h:z3i s x i=some y):XOk (Jt s x i) y:=by
 unfold z3i at h
 split at h<;>try (cases h;done)
 all_goals
  obtain⟨h1,rfl⟩:=vr h
  simp only[p4,zk,jj,J5,and_assoc] at h1
  exact⟨_,rfl,h1⟩
theorem z5n{len s:Nat}{x i y:AVal}(h:z24 len s x i=some y):XOk (Jq len s x i) y:=by
 unfold z24 at h
 split at h<;>try (cases h;done)
 all_goals
  obtain⟨h1,rfl⟩:=vr h
  simp only[p4,jj,J5] at h1
  exact⟨_,rfl,h1⟩
theorem z5c{len s:Nat}{x i y:AVal}(h:Qz len s H.get x i=some y):XOk (Zx len s H x i) y:=by
 unfold Qz at h
 split at h<;>try (cases h;done)
 split at h<;>try (cases h;done)
 rename_i hg
 obtain⟨h1,rfl⟩:=vr h
 simp only[p4,zk,jj,J5,and_assoc] at h1
 simp only[Zx,hg]
 exact⟨_,rfl,h1⟩
theorem z9y{len s:Nat}{x y:AVal}(h:z4v len s H.get x=some y):XOk (z5l len s H x) y:=by
 unfold z4v at h
 split at h<;>try (cases h;done)
 split at h<;>try (cases h;done)
 rename_i hg
 obtain⟨h1,rfl⟩:=vr h
 simp only[p4,zk,yr] at h1
 simp only[z5l,hg]
 exact⟨_,rfl,h1⟩
theorem zb4{x i y:AVal}(h:zcq x i=some y):XOk (z8p x i) y:=by
 unfold zcq at h
 split at h<;>try (cases h;done)
 obtain⟨h1,rfl⟩:=vr h
 simp only[p4,jj,J5] at h1
 exact⟨_,rfl,h1⟩
theorem zay{len s:Nat}{ag:Bool}{x i y:AVal}(h:ze1 len s ag x i=some y):XOk (z9i len s ag x i) y:=by
 unfold ze1 at h
 split at h<;>try (cases h;done)
 obtain⟨h1,rfl⟩:=vr h
 simp only[p4,jj,J5,yr,and_assoc] at h1
 exact⟨_,rfl,h1⟩
theorem zew{k:Nat}{x y:AVal}(h:zhy k x=some y):XOk (zez k x) y:=by
 unfold zhy at h
 split at h<;>try (cases h;done)
 obtain⟨h1,rfl⟩:=vr h
 exact⟨_,rfl,yr.1 h1⟩
theorem zai{x y:AVal}(h:ze4 x=some y):XOk (z4p x) y:=by
 unfold ze4 at h
 split at h<;>simp only[p0,reduceCtorEq] at h
 subst h;exact⟨_,rfl,trivial⟩
theorem z2z{x y:AVal}(h:zbb x=some y):XOk (z1g x) y:=by
 unfold zbb at h
 split at h<;>simp only[p0,reduceCtorEq] at h<;>(subst h;exact⟨_,rfl,trivial⟩)
theorem z7z{x y:AVal}(h:z78 x=some y):XOk (Vb x) y:=by
 unfold z78 at h
 split at h<;>simp only[p0,reduceCtorEq] at h<;>(subst h;exact⟨_,rfl,trivial⟩)
variable {e:Env}
theorem zl{x:LOpd}{v:AVal}(h:xx e.get x=some v):x.ev e=v∧x.need e:=by
 cases x with
 |c u=>simp only[xx,p0] at h;exact⟨h,trivial⟩
 |t i=>
  simp only[xx] at h
  show(e.get i).strip=v∧(e.get i).need
  split at h
  ·rename_i u hu
   simp only[p0] at h
   rw[hu]
   exact⟨h,rfl⟩
  ·cases h
  ·rename_i h1 h2
   simp only[p0] at h
   cases hg:e.get i with
   |cnd p u=>
    cases p with
    |true=>exact absurd hg (h1 u)
    |false=>exact absurd hg (h2 u)
   |_=>rw[hg] at h;subst h;exact⟨rfl,trivial⟩
theorem Z5:∀ {xs:List LOpd} {vs:List AVal},Kr e.get xs=some vs→evs e xs=vs∧Yf e xs
 |[],vs,h=>by simp only[Kr,p0] at h;exact⟨h,trivial⟩
 |x::xs,vs,h=>by
  unfold Kr at h
  split at h<;>try (cases h;done)
  rename_i a ha
  split at h<;>simp only[p0,reduceCtorEq] at h
  rename_i l hl
  obtain⟨h1,h2⟩:=zl ha
  obtain⟨h3,h4⟩:=Z5 hl
  exact⟨by unfold evs;rw[h1,h3];exact h,h2,h4⟩
theorem xu{d:Nat}{o:Option LOpd}{j:Int}(h:kj e.get d o=some j):ym e d o=some j∧wt e o:=by
 cases o with
 |none=>simp only[kj,p0] at h;exact⟨by simp[ym,h],trivial⟩
 |some x=>
  simp only[kj] at h
  split at h<;>simp only[p0,reduceCtorEq] at h
  rename_i k z hx
  obtain⟨h1,h2⟩:=zl hx
  subst h
  exact⟨by simp only[ym,h1],h2⟩
theorem z91{lo hi:Option LOpd}{x y:AVal}(h:z7l e.get lo hi x=some y):XOk (V7 (fun d=>ym e d lo) (fun d=>ym e d hi) x) y∧wt e lo∧wt e hi:=by
 unfold z7l at h
 split at h<;>try (cases h;done)
 split at h<;>try (cases h;done)
 rename_i a b ha hb
 obtain⟨h1,rfl⟩:=vr h
 obtain⟨ha1,ha2⟩:=xu ha
 obtain⟨hb1,hb2⟩:=xu hb
 simp only[p4,jj,and_assoc] at h1
 refine⟨?_,ha2,hb2⟩
 simp only[V7,ha1,hb1]
 exact⟨_,rfl,h1⟩
theorem za8{s:Nat}{lo hi mx:Option LOpd}{x y:AVal}(h:zei e.get s lo hi mx x=some y)(kp:Bool):XOk (z9f s (fun d=>ym e d lo) (fun d=>ym e d hi) (U8 e mx) kp x) y∧wt e lo∧wt e hi∧wt e mx:=by
 unfold zei at h
 split at h
 ·split at h<;>try (cases h;done)
  rename_i a b ha hb
  obtain⟨ha1,ha2⟩:=xu ha
  obtain⟨hb1,hb2⟩:=xu hb
  split at h
  ·obtain⟨h1,rfl⟩:=vr h
   simp only[p4,zk,jj,and_assoc] at h1
   refine⟨?_,ha2,hb2,trivial⟩
   simp only[z9f,Kw,ha1,hb1,U8]
   exact⟨_,rfl,h1⟩
  ·split at h<;>try (cases h;done)
   rename_i z hz
   obtain⟨hz1,hz2⟩:=xu hz
   obtain⟨h1,rfl⟩:=vr h
   simp only[p4,zk,jj,and_assoc] at h1
   refine⟨?_,ha2,hb2,hz2⟩
   simp only[z9f,Kw,ha1,hb1,U8,hz1]
   exact⟨_,rfl,h1⟩
 ·split at h<;>try (cases h;done)
  rename_i a b ha hb
  obtain⟨ha1,ha2⟩:=xu ha
  obtain⟨hb1,hb2⟩:=xu hb
  split at h
  ·obtain⟨h1,rfl⟩:=vr h
   simp only[p4,zk,jj,and_assoc] at h1
   refine⟨?_,ha2,hb2,trivial⟩
   simp only[z9f,Kw,ha1,hb1,U8]
   exact⟨_,rfl,h1⟩
  ·split at h<;>try (cases h;done)
   rename_i z hz
   obtain⟨hz1,hz2⟩:=xu hz
   obtain⟨h1,rfl⟩:=vr h
   simp only[p4,zk,jj,and_assoc] at h1
   refine⟨?_,ha2,hb2,hz2⟩
   simp only[z9f,Kw,ha1,hb1,U8,hz1]
   exact⟨_,rfl,h1⟩
 ·split at h<;>try (cases h;done)
  rename_i a b ha hb
  obtain⟨ha1,ha2⟩:=xu ha
  obtain⟨hb1,hb2⟩:=xu hb
  obtain⟨h1,rfl⟩:=vr h
  simp only[p4,decide_eq_true_eq] at h1
  refine⟨?_,ha2,hb2,trivial⟩
  simp only[z9f,Kw,ha1,hb1,U8]
  exact⟨_,rfl,h1⟩
 ·cases h
theorem z0u:∀ {ps:List (Nat×Nat×AVal)} {cells:List AVal} {y:AVal},Uw cells ps=some y→XOk (vg cells ps) y
 |[],cells,y,h=>by simp only[Uw,p0] at h;subst h;exact⟨_,rfl,trivial⟩
 |(off,m,x)::r,cells,y,h=>by
  unfold Uw at h
  split at h<;>try (cases h;done)
  rename_i cs hc
  split at h<;>try (cases h;done)
  rename_i hb
  simp only[p4,zk,yr] at hb
  obtain⟨s,h1,h2⟩:=z0u h
  simp only[vg,hc,h1]
  exact⟨_,rfl,hb.1,hb.2,h2⟩
theorem U9:∀ {ps:List (Nat×Nat×LOpd)} {l:List (Nat×Nat×AVal)},z06 e.get ps=some l→xi e ps=l∧x3 e ps
 |[],l,h=>by simp only[z06,p0] at h;exact⟨h,trivial⟩
 |(o,m,x)::r,l,h=>by
  unfold z06 at h
  split at h<;>try (cases h;done)
  rename_i a ha
  split at h<;>simp only[p0,reduceCtorEq] at h
  rename_i l' hl
  obtain⟨h1,h2⟩:=zl ha
  obtain⟨h3,h4⟩:=U9 hl
  exact⟨by unfold xi;rw[h1,h3];exact h,h2,h4⟩
theorem z68{mx:Bool}:∀ {l:List AVal} {v y:AVal},zcj mx v l=some y→XOk (z62 mx v l) y
 |[],v,y,h=>by
  cases v<;>simp only[zcj,p0] at h<;>(subst h;exact⟨_,rfl,trivial⟩)
 |x::r,v,y,h=>by
  cases v<;>try (simp[zcj] at h;done)
  cases x<;>try (simp[zcj] at h;done)
  simp only[zcj] at h
  split at h<;>try (cases h;done)
  rename_i hk
  obtain⟨s,h1,h2⟩:=z68 h
  simp only[z62,h1]
  exact⟨_,rfl,ko.1 hk,h2⟩
theorem zaq{mx:Bool}{l:List AVal}{y:AVal}(h:zem mx l=some y):XOk (z89 mx l) y:=by
 unfold zem at h
 split at h<;>try (cases h;done)
 exact z68 h
theorem Y6{ks:List CK}{ka:Bool}{k:AVal}(h:V3 ks ka k=true):ue ks ka k=true:=by
 unfold V3 at h
 unfold ue
 simp only[p4] at h ⊢
 refine⟨h.1,?_⟩
 cases hc:jz ks (ya k) (ya k) with
 |none=>rw[hc] at h;cases h.2
 |some b=>rw[wg hc];rfl
theorem kh{ks:List CK}{k k':AVal}{b:Bool}(h:Uq ks k k'=some b):Xl ks k k'=some b:=by
 unfold Uq at h
 unfold Xl
 split at h<;>try (cases h;done)
 ·rename_i h1 h2;rw[h1,h2];exact wg h
 ·rename_i h1 h2;rw[h1,h2];exact wg h
theorem z0p{ks:List CK}{k:AVal}:∀ {es:List (AVal×AVal)} {r:Option AVal},z2x ks k es=some r→Wz ks k es=some r
 |[],r,h=>h
 |(k',x)::es,r,h=>by
  unfold z2x at h
  unfold Wz
  split at h<;>try (cases h;done)
  ·rename_i hk;rw[kh hk];exact h
  ·rename_i hk;rw[kh hk];exact z0p h
theorem z3m{ks:List CK}{k x:AVal}:∀ {es r:List (AVal×AVal)},zac ks k x es=some r→zbm ks k x es=some r
 |[],r,h=>h
 |(k',y)::es,r,h=>by
  unfold zac at h
  unfold zbm
  split at h<;>try (cases h;done)
  ·rename_i hk;rw[kh hk];exact h
  ·rename_i hk
   rw[kh hk]
   split at h<;>simp only[p0,reduceCtorEq] at h
   rename_i l hl
   subst h
   simp only[z3m hl,pK]
theorem z0a{ks:List CK}{k:AVal}:∀ {es r:List (AVal×AVal)},z3e ks k es=some r→Ki ks k es=some r
 |[],r,h=>h
 |(k',y)::es,r,h=>by
  unfold z3e at h
  unfold Ki
  split at h<;>try (cases h;done)
  ·rename_i hk;rw[kh hk];exact h
  ·rename_i hk
   rw[kh hk]
   split at h<;>simp only[p0,reduceCtorEq] at h
   rename_i l hl
   subst h
   simp only[z0a hl,pK]
theorem z6a{ks:List CK}{ka ag ok:Bool}{zs:List AVal}{k x y:AVal}(h:V6 ks ka ag ok zs H.get k x=some y):XOk (Xc ks ka ag ok zs H k x) y:=by
 unfold V6 at h
 split at h
 ·obtain⟨h1,rfl⟩:=vr h
  simp only[Xc,Y6 h1,if_true]
  exact⟨_,rfl,trivial⟩
 ·split at h<;>try (cases h;done)
  rename_i hg
  split at h<;>try (cases h;done)
  rename_i hk
  split at h<;>simp only[p0,reduceCtorEq] at h
  rename_i r hr
  subst h
  simp only[Xc,hg,Y6 hk,if_true,z0p hr]
  exact⟨_,rfl,rfl⟩
 ·cases h
theorem zat{x y:AVal}(h:z4n H.get x=some y):XOk (z2q H x) y:=by
 unfold z4n at h
 split at h
 ·simp only[p0] at h;subst h;exact⟨_,rfl,trivial⟩
 ·split at h<;>simp only[p0,reduceCtorEq] at h
  rename_i hg
  subst h
  simp only[z2q,hg]
  exact⟨_,rfl,trivial⟩
 ·cases h
theorem xt{α γ:Type}{x:Option α}{f:α→Option γ}{o:γ}(h:x.bind f=some o):∃r,x=some r∧f r=some o:=by
 cases x with
 |none=>cases h
 |some r=>exact⟨r,rfl,h⟩
theorem J1{op:LOp}{v:AVal}(h:z1m e.get H.get op=some v):XOk (xe e H op) v:=by
 cases op<;>simp only[z1m,reduceCtorEq] at h<;>simp only[xe]
 case mv x=>obtain⟨h1,h2⟩:=zl h;rw[h1];exact⟨_,rfl,h2⟩
 case pick c a b=>
  split at h<;>try (cases h;done)
  ·rename_i hc
   obtain⟨c1,c2⟩:=zl hc
   obtain⟨a1,a2⟩:=zl h
   rw[c1]
   subst a1;exact XOk.and (XOk.of rfl ⟨fun _=>a2,fun h=>by cases h⟩) c2
  ·rename_i hc
   obtain⟨c1,c2⟩:=zl hc
   obtain⟨a1,a2⟩:=zl h
   rw[c1]
   subst a1;exact XOk.and (XOk.of rfl ⟨fun h=>(by cases h),fun _=>a2⟩) c2
 case build zs parts=>
  obtain⟨ps,h1,h2⟩:=xt h
  obtain⟨p1,p2⟩:=U9 h1
  rw[p1]
  exact(z0u h2).and p2
 case load ag m a=>obtain⟨x,h1,h2⟩:=xt h;obtain⟨p1,p2⟩:=zl h1;rw[p1];exact(Yb h2).and p2
 case nilck a=>obtain⟨x,h1,h2⟩:=xt h;obtain⟨p1,p2⟩:=zl h1;rw[p1];exact(z7z h2).and p2
 case bin op x y=>obtain⟨a,h1,h2⟩:=xt h;obtain⟨b,h3,h4⟩:=xt h2;obtain⟨p1,p2⟩:=zl h1;obtain⟨q1,q2⟩:=zl h3;rw[p1,q1];exact(zeq h4).and ⟨p2,q2⟩
 case eq neg k x y=>obtain⟨a,h1,h2⟩:=xt h;obtain⟨b,h3,h4⟩:=xt h2;obtain⟨p1,p2⟩:=zl h1;obtain⟨q1,q2⟩:=zl h3;rw[p1,q1];exact(zcy h4).and ⟨p2,q2⟩
 case un op x=>obtain⟨a,h1,h2⟩:=xt h;obtain⟨p1,p2⟩:=zl h1;rw[p1];exact(zgc h2).and p2
 case conv k x=>
  cases k with
  |int k=>
   simp only at h ⊢
   split at h<;>simp only[p0,reduceCtorEq] at h
   rename_i hx
   obtain⟨p1,p2⟩:=zl hx
   subst h
   simp only[p1]
   exact⟨_,rfl,p2⟩
  |same=>
   simp only at h ⊢
   split at h<;>simp only[p0,reduceCtorEq] at h
   rename_i hx
   obtain⟨p1,p2⟩:=zl hx
   subst h
   simp only[p1]
   exact⟨_,rfl,p2⟩
  |s2b vm=>cases h
  |b2s=>cases h
 case mkfn f a c=>
  obtain⟨aq,h1,h2⟩:=xt h
  obtain⟨cs,h3,h4⟩:=xt h2
  obtain⟨p1,p2⟩:=Z5 h1
  obtain⟨q1,q2⟩:=Z5 h3
  simp only[p0] at h4
  subst h4
  rw[p1,q1]
  exact⟨_,rfl,p2,q2⟩
 case slStr x lo hi=>obtain⟨a,h1,h2⟩:=xt h;obtain⟨p1,p2⟩:=zl h1;obtain⟨q1,q2⟩:=z91 h2;rw[p1];exact q1.and ⟨p2,q2⟩
 case slSl s x lo hi mx=>obtain⟨a,h1,h2⟩:=xt h;obtain⟨p1,p2⟩:=zl h1;obtain⟨q1,q2⟩:=za8 h2 (hi.isNone&&mx.isNone);rw[p1];exact q1.and ⟨p2,q2⟩
 case slAr m s x=>obtain⟨a,h1,h2⟩:=xt h;obtain⟨p1,p2⟩:=zl h1;rw[p1];exact(z9y h2).and p2
 case faddr off x=>obtain⟨a,h1,h2⟩:=xt h;obtain⟨p1,p2⟩:=zl h1;rw[p1];exact(z69 h2).and p2
 case field ag m off x=>obtain⟨a,h1,h2⟩:=xt h;obtain⟨p1,p2⟩:=zl h1;rw[p1];exact(z8q h2).and p2
 case iaddr s x i=>obtain⟨a,h1,h2⟩:=xt h;obtain⟨b,h3,h4⟩:=xt h2;obtain⟨p1,p2⟩:=zl h1;obtain⟨q1,q2⟩:=zl h3;rw[p1,q1];exact(Ud h4).and ⟨p2,q2⟩
 case iaddrA m s x i=>obtain⟨a,h1,h2⟩:=xt h;obtain⟨b,h3,h4⟩:=xt h2;obtain⟨p1,p2⟩:=zl h1;obtain⟨q1,q2⟩:=zl h3;rw[p1,q1];exact(z5n h4).and ⟨p2,q2⟩
 case iaddrR m s x i=>obtain⟨a,h1,h2⟩:=xt h;obtain⟨b,h3,h4⟩:=xt h2;obtain⟨p1,p2⟩:=zl h1;obtain⟨q1,q2⟩:=zl h3;rw[p1,q1];exact(z5c h4).and ⟨p2,q2⟩
 case idxS x i=>obtain⟨a,h1,h2⟩:=xt h;obtain⟨b,h3,h4⟩:=xt h2;obtain⟨p1,p2⟩:=zl h1;obtain⟨q1,q2⟩:=zl h3;rw[p1,q1];exact(zb4 h4).and ⟨p2,q2⟩
 case idxA m s ag x i=>obtain⟨a,h1,h2⟩:=xt h;obtain⟨b,h3,h4⟩:=xt h2;obtain⟨p1,p2⟩:=zl h1;obtain⟨q1,q2⟩:=zl h3;rw[p1,q1];exact(zay h4).and ⟨p2,q2⟩
 case ext k x=>obtain⟨a,h1,h2⟩:=xt h;obtain⟨p1,p2⟩:=zl h1;rw[p1];exact(zew h2).and p2
 case len st x=>
  cases st with
  |true=>simp only at h ⊢;obtain⟨a,h1,h2⟩:=xt h;obtain⟨p1,p2⟩:=zl h1;rw[p1];exact(zai h2).and p2
  |false=>simp only at h ⊢;obtain⟨a,h1,h2⟩:=xt h;obtain⟨p1,p2⟩:=zl h1;rw[p1];exact(z2z h2).and p2
 case mnx m args=>obtain⟨a,h1,h2⟩:=xt h;obtain⟨p1,p2⟩:=Z5 h1;rw[p1];exact(zaq h2).and p2
 case mlook ks ka ag ok zs x k=>obtain⟨a,h1,h2⟩:=xt h;obtain⟨b,h3,h4⟩:=xt h2;obtain⟨p1,p2⟩:=zl h1;obtain⟨q1,q2⟩:=zl h3;rw[p1,q1];exact(z6a h4).and ⟨p2,q2⟩
 case mlen x=>obtain⟨a,h1,h2⟩:=xt h;obtain⟨p1,p2⟩:=zl h1;rw[p1];exact(zat h2).and p2
end Go.Fx
namespace Go.Fx
variable {P:Program}
section
variable {N:Lay}
theorem Ub{ι:Type}{n0:Nat}(pre:ι→Prop)(env:ι→Env)(L:ι→AHeap)(nn μ:ι→Nat){Q:Exit→Env→AHeap→Nat→Prop}{body:LCode}
 (round:∀x,pre x→LWp P N n0 body (fun ex e H n=>match ex with|.normal=>∃y,pre y∧μ y<μ x∧env y=e∧L y=H∧nn y=n|ex=>Q ex e H n) (env x) (L x) (nn x)) :
 ∀x,pre x→LWp P N n0 (.loop body) Q (env x) (L x) (nn x):=by
 intro x0 hx0 c hc ro hro J0 γ0 G0 w0 I β w a hX hI hE hN hD QQ hQ
 cases c with
 |loop c=>
  simp only[zf,pO] at hc
  obtain⟨b',hb,hc⟩:=hc
  simp only[LCode.loop.injEq] at hc
  subst hc
  let Inside:Nat→Act→World→Prop:=fun m a w=>∃x I β,μ x=m∧pre x∧Ext J0 γ0 n0 G0 w0 I β (nn x) (L x) w∧Inv I β (nn x) (L x) w∧RepEnv I β (nn x) w (env x) a∧a.tmps.size=N.n∧Dfr P w0.heap.size w a.defers
  let mu:Act→World→Nat:=fun a w=>by
   classical
   exact if h:∃m,Inside m a w then Classical.choose (j5 _ h) else 0
  have mu_spec:∀a w,(∃m,Inside m a w)→Inside (mu a w) a w∧∀k,k<mu a w→¬Inside k a w:=by
   intro a w h
   have:mu a w=Classical.choose (j5 _ h):=by simp only[mu];rw[dif_pos h]
   rw[this]
   exact Classical.choose_spec (j5 _ h)
  refine wpIn_loop (fun a w=>∃m,Inside m a w) mu ⟨_,x0,I,β,rfl,hx0,hX,hI,hE,hN,hD⟩ ?_
  intro a w h
  obtain⟨⟨x,I,β,hm,hp,k1,k2,k3,k4,k5⟩,_⟩:=mu_spec a w h
  refine round x hp c hb ro hro J0 γ0 G0 w0 I β w a k1 k2 k3 k4 k5 _ ?_
  intro ex e' H' n' I' β' w' a' g1 g2 g3 g4 g5 g6
  cases ex with
  |normal=>
   obtain⟨y,hy,hlt,rfl,rfl,rfl⟩:=g1
   have hin:Inside (μ y) a' w':=⟨y,_,_,rfl,hy,g6,g2,g3,g4,g5⟩
   refine⟨⟨_,hin⟩,?_⟩
   obtain⟨_,hleast⟩:=mu_spec a' w' ⟨_,hin⟩
   have:¬μ y<mu a' w':=fun h=>hleast _ h hin
   omega
  |_=>exact hQ _ _ _ _ _ _ _ _ g1 g2 g3 g4 g5 g6
 |skip=>cases hc
 |region id ops draw=>simp only[zf] at hc;split at hc<;>(try split at hc)<;>(try split at hc)<;>(try split at hc)<;>(try split at hc)<;>(first|(simp at hc;done)|(rcases x5 hc with⟨_,h⟩|⟨_,_,_,h⟩<;>cases h))
 |seq a b=>simp only[zf] at hc;split at hc<;>simp at hc
 |cond c a b=>simp only[zf] at hc;split at hc<;>simp at hc
 |block id c=>simp[zf] at hc
 |exit id=>cases hc
 |ret=>cases hc
 |rangeFunc g ps x y=>simp only[zf] at hc;split at hc<;>simp at hc
 |_=>cases hc
end
def Xx(ag:Bool)(s:Nat):LCode:=
 .seq (.region [⟨some 4,.load false 1 (.t 1),none⟩,⟨some 5,.len false (.t 4),none⟩,⟨some 6,.bin .sub (.t 5) (.c (.int .i64 1)),none⟩,⟨some 3,.mv (.t 6),none⟩])
 (.block 0 (.loop (.seq
  (.seq (.region [⟨some 7,.mv (.t 3),none⟩,⟨some 8,.bin .geq (.t 7) (.c (.int .i64 0)),none⟩]) (.cond (.t 8) .skip (.exit 0)))
  (.seq (.block 1 (.seq (.region [⟨some 11,.mv (.t 0),none⟩,⟨some 12,.mv (.t 3),none⟩,⟨some 13,.load false 1 (.t 1),none⟩,⟨some 14,.mv (.t 3),none⟩,⟨some 15,.iaddr s (.t 13) (.t 14),none⟩,⟨some 16,.load ag s (.t 15),none⟩,⟨some 17,.callv (.t 11) [.t 12,.t 16],none⟩,⟨some 18,.un .not (.t 17),none⟩])
   (.cond (.t 18) .ret .skip)))
   (.region [⟨some 9,.mv (.t 3),none⟩,⟨some 10,.bin .sub (.t 9) (.c (.int .i64 1)),none⟩,⟨some 3,.mv (.t 10),none⟩])))))
def AVal.plain(x:AVal):Prop:=x.strip=x∧x.need
theorem zfx{i:Nat}(h:i≤4611686018427387904):IntKind.i64.wrap ((i:Int)-1)=(i:Int)-1:=Xw (by omega) (by omega)
theorem Ye(k:IntKind)(z:Int):(AVal.int k z).strip=.int k z:=rfl
theorem Uk(b:Id)(i o:Nat):(AVal.ptr b i o).strip=.ptr b i o:=rfl
theorem z9s(f:Fn)(a c:List AVal):(AVal.fn f a c).strip=.fn f a c:=rfl
theorem w7(b:Bool):(AVal.bool b).strip=.bool b:=rfl
theorem J2(k:IntKind)(z:Int):(AVal.int k z).need=True:=rfl
theorem z3y(b:Id)(i o:Nat):(AVal.ptr b i o).need=True:=rfl
theorem zef(f:Fn)(a c:List AVal):(AVal.fn f a c).need=True:=rfl
theorem k9(b:Bool):(AVal.bool b).need=True:=rfl
theorem z5g{f:FuncId}{bm:List Nat}{L:LFn}(hL:wu P bm f=some L)(hok:Xv P f)(hn:2≤L.lay.n){ag:Bool}{s:Nat}(hb:L.body=Xx ag s)(hr:L.res=[]){l:Nat}{bx:Id}{K:AHeap→Nat→Prop}(G:Nat→AHeap→Nat→Prop)
 (hstep:∀i H n,G (i+1) H n→i<4611686018427387904∧∃sl p el,sl.plain∧p.plain∧el.plain∧XOk (Xn false 1 H (.ptr bx 0 0)) sl∧XOk (Jt s sl.rd (.int .i64 (i:Int))) p∧XOk (Xn ag s H p) el ∧
  ACalls P (.yield l) [.int .i64 (i:Int),el] H n (fun v H' n'=>(v=.bool true∧G i H' n')∨(v=.bool false∧K H' n')))
 (hend:∀H n,G 0 H n→K H n) {len:Nat} {H:AHeap} {n:Nat} (hG:G len H n) (hlen:len≤4611686018427387904) {sl:AVal} (h1:sl.plain) (h2:XOk (Xn false 1 H (.ptr bx 0 0)) sl) (h3:XOk (z1g sl.rd) (.int .i64 (len:Int))) :
 ACalls P (.func f) [.fn (.yield l) [] [],.ptr bx 0 0] H n (fun _ H' n'=>K H' n'):=by
 refine ACalls.ofFnW hL hok (by simpa using hn) ?_
 rw[hb,hr]
 unfold Xx
 refine kx (zy (.region _) _ _ _ _ ?_)
 obtain⟨s1,e1,d1⟩:=h2
 obtain⟨s2,e2,d2⟩:=h3
 have h1a:=h1.1
 have h1b:=h1.2
 simp[Zn,Zw,yx,xe,LOpd.ev,LOpd.need,Env.get,Env.put,qz,Ye,Uk,J2,z3y,e1,XR.and,h1a,h1b,e2,z8d,d1,d2]
 rw[zfx hlen]
 refine kf ?_
 refine Ub (ι:=Nat×Env×AHeap×Nat) (fun y=>y.1≤4611686018427387904∧G y.1 y.2.2.1 y.2.2.2∧y.2.1.get 3=.int .i64 ((y.1:Int)-1)∧y.2.1.get 0=.fn (.yield l) [] []∧y.2.1.get 1=.ptr bx 0 0) (fun y=>y.2.1) (fun y=>y.2.2.1) (fun y=>y.2.2.2) (fun y=>y.1) ?_ (len,_,H,n) ⟨hlen,hG,by simp[Env.get],by simp[Env.get],by simp[Env.get]⟩
 rintro⟨i,e,H,n⟩ ⟨hi,hG,q3,q0,q1⟩
 simp only at hi hG q3 q0 q1 ⊢
 refine kx (kx (zy (.region _) _ _ _ _ ?_))
 simp[Zn,Zw,yx,xe,LOpd.ev,LOpd.need,Env.get,Env.put,Ye,J2,XR.and,z8d,q3]
 cases i with
 |zero=>
  refine ve (v:=false) (by simp[LOpd.ev,Env.get,w7]) (by simp[LOpd.need,Env.get,k9]) (fun h=>by cases h) (fun _=>zy (.exit 0) _ _ _ _ ?_)
  simp only[Zw,if_true]
  exact hend _ _ hG
 |succ i=>
  obtain⟨hi2,sl,p,el,hsl,hp,hel,⟨t1,k1,c1⟩,⟨t2,k2,c2⟩,⟨t3,k3,c3⟩,hcall⟩:=hstep _ _ _ hG
  refine ve (v:=true) (by simp[LOpd.ev,Env.get,w7];omega) (by simp[LOpd.need,Env.get,k9]) (fun _=>zy .skip _ _ _ _ ?_) (fun h=>by cases h)
  simp only[Zw]
  have a1:=hsl.1
  have a2:=hsl.2
  have a3:=hp.1
  have a4:=hp.2
  have a5:=hel.1
  have a6:=hel.2
  have hcast:((i+1:Nat):Int)-1=(i:Int):=by omega
  rw[hcast] at q3 ⊢
  refine kx (kf (kx (zy (.region _) _ _ _ _ ?_)))
  simp[Zn,Zw,yx,xe,xw,evs,Yf,LOpd.ev,LOpd.need,Env.get,Env.put,Ye,J2,Uk,z3y,z9s,zef,XR.and,q3,q0,q1,k1,c1,k2,c2,k3,c3,a1,a2,a3,a4,a5,a6]
  refine ACallsC.mono (f:=.yield l) (first:=[]) (caps:=[]) ⟨rfl,by simpa using hcall⟩ ?_
  rintro v H' n' (⟨rfl,hG'⟩|⟨rfl,hK⟩)
  ·simp[w7,k9,xun]
   refine ve (v:=false) (by simp[LOpd.ev,Env.get,w7]) (by simp[LOpd.need,Env.get,k9]) (fun h=>by cases h) (fun _=>zy .skip _ _ _ _ ?_)
   simp only[Zw]
   refine zy (.region _) _ _ _ _ ?_
   simp[Zn,Zw,yx,xe,LOpd.ev,LOpd.need,Env.get,Env.put,Ye,J2,XR.and,z8d,q3]
   exact⟨i,_,_,_,⟨by omega,hG',by simp[Env.get];exact zfx (by omega),by simp[Env.get,q0],by simp[Env.get,q1]⟩,by omega,rfl,rfl,rfl⟩
  ·simp[w7,k9,xun]
   refine ve (v:=true) (by simp[LOpd.ev,Env.get,w7]) (by simp[LOpd.need,Env.get,k9]) (fun _=>zy .ret _ _ _ _ ?_) (fun h=>by cases h)
   simp only[Zw]
   exact hK
end Go.Fx
namespace Go.Fx
variable {D:Id→Option ABlock} {P:Program} {H:AHeap} {n:Nat} {S S':Sh} {e:Env}
abbrev KS(D:Id→Option ABlock)(v:AVal)(S':Sh):AVal→AHeap→Nat→Prop:=fun r H' n'=>r=v∧StR D H' n' S'
def Zj(P:Program)(C:Nat→List AVal→Sh→Rs):Prop:=
 ∀ (f:Nat) aq S r S',C f aq S=some (r,S')→∀ {D:Id→Option ABlock} H n,StR D H n S→ACalls P (.func f) aq H n (KS D r S')
theorem qh{v r:AVal}{o:Option Sh}(h:wv v o=some (r,S')):r=v∧o=some S':=by
 cases o with
 |none=>cases h
 |some S0=>
  simp only[wv,p0,p9] at h
  exact⟨h.1.symm,by rw[h.2]⟩
theorem StR.le(hs:StR D H n S):HLe S.t.at H.get:=hs.h
theorem X4{s:Nat}{x:AVal}{rows:List (List AVal)}(h:uc H.get s x=some rows):∃p,jw H s x=some (p,rows)∧p:=by
 unfold uc at h
 split at h
 ·split at h<;>simp only[p0,reduceCtorEq] at h
  rename_i hb
  subst h
  exact⟨_,rfl,zk.1 hb⟩
 ·split at h<;>simp only[p0,reduceCtorEq] at h
  rename_i hb
  subst h
  exact⟨_,rfl,zk.1 hb⟩
 ·split at h<;>try (cases h;done)
  rename_i hg
  split at h<;>simp only[p0,reduceCtorEq] at h
  rename_i hb
  subst h
  simp only[p4,zk,yr,and_assoc] at hb
  simp only[jw,hg]
  exact⟨_,rfl,hb⟩
 ·simp only[p0] at h
  subst h
  exact⟨_,rfl,trivial⟩
 ·split at h<;>simp only[p0,reduceCtorEq] at h
  rename_i hb
  subst h
  exact⟨_,rfl,zk.1 hb⟩
 ·cases h
theorem Qu:∀ {ps:List (Nat×AVal)} {rows rs:List (List AVal)},Q7 rows ps=some rs→∃p,ug rows ps=some (p,rs)∧p
 |[],rows,rs,h=>by simp only[Q7,p0] at h;subst h;exact⟨_,rfl,trivial⟩
 |(i,x)::r,rows,rs,h=>by
  unfold Q7 at h
  split at h<;>try (cases h;done)
  rename_i cs hc
  split at h<;>try (cases h;done)
  rename_i hb
  simp only[p4,zk,yr] at hb
  obtain⟨p,h1,h2⟩:=Qu h
  simp only[ug,hc,h1]
  exact⟨_,rfl,hb.1,hb.2,h2⟩
theorem z2r:∀ {ps:List (Nat×LOpd)} {l:List (Nat×AVal)},zf3 e.get ps=some l→evI e ps=l∧Wx e ps
 |[],l,h=>by simp only[zf3,p0] at h;exact⟨h,trivial⟩
 |(i,x)::r,l,h=>by
  unfold zf3 at h
  split at h<;>try (cases h;done)
  rename_i a ha
  split at h<;>simp only[p0,reduceCtorEq] at h
  rename_i l' hl
  obtain⟨h1,h2⟩:=zl ha
  obtain⟨h3,h4⟩:=z2r hl
  exact⟨by unfold evI;rw[h1,h3];exact h,h2,h4⟩
theorem Vt:∀ {rows:List (List AVal)},K7 rows=true→∀r∈rows,∃m,r=[.int .u8 m]
 |[],_,r,hr=>by cases hr
 |x::rows,h,r,hr=>by
  unfold K7 at h
  split at h
  ·cases ‹_::_=[]›
  ·rename_i k m r' heq
   simp only[List.cons.injEq] at heq
   obtain⟨rfl,rfl⟩:=heq
   simp only[p4,ko] at h
   obtain⟨rfl,h2⟩:=h
   cases hr with
   |head=>exact⟨m,rfl⟩
   |tail _ hr=>exact Vt h2 r hr
  ·cases h
theorem zd4{s bytes:Nat}{x v:AVal}{rows2:List (List AVal)}(hs:StR D H n S)(h:zjf s bytes S x rows2=some (v,S')):z9m s bytes H n (KS D v S') x rows2:=by
 unfold zjf at h
 unfold z9m
 split at h
 ·simp only
  split at h
  ·simp only[p0,p9] at h
   obtain⟨rfl,rfl⟩:=h
   exact⟨fun _=>⟨rfl,hs⟩,fun hne=>absurd rfl hne⟩
  ·rename_i hne
   split at h<;>try (cases h;done)
   rename_i hb
   obtain⟨rfl,hw⟩:=qh h
   refine⟨fun he=>absurd he hne,fun _=>⟨yr.1 hb,by rw[hs.n],hs.new hw⟩⟩
 ·simp only
  split at h<;>try (cases h;done)
  rename_i he
  refine⟨zk.1 he,?_⟩
  split at h
  ·simp only[p0,p9] at h
   obtain⟨rfl,rfl⟩:=h
   exact⟨fun _=>⟨rfl,hs⟩,fun hne=>absurd rfl hne⟩
  ·rename_i hne
   split at h<;>try (cases h;done)
   rename_i hb
   simp only[p4,yr] at hb
   obtain⟨rfl,hw⟩:=qh h
   exact⟨fun he=>absurd he hne,fun _=>⟨hb.1,hb.2,by rw[hs.n],hs.new hw⟩⟩
 ·simp only
  split at h<;>try (cases h;done)
  rename_i hg
  rw[hs.h _ _ hg]
  simp only
  split at h<;>try (cases h;done)
  rename_i hb
  simp only[p4,zk,yr,and_assoc] at hb
  obtain⟨b1,b2,b3,b4⟩:=hb
  refine⟨b1,b2,b3,?_⟩
  split at h
  ·simp only[p0,p9] at h
   obtain⟨rfl,rfl⟩:=h
   exact⟨fun _ _=>⟨rfl,hs⟩,fun hne=>absurd rfl (hne rfl)⟩
  ·rename_i hne
   obtain⟨rfl,hw⟩:=qh h
   refine⟨fun _ he=>absurd he hne,fun _=>⟨b4,by rw[hs.n],?_⟩⟩
   rw[if_pos rfl]
   exact hs.new hw
  ·split at h<;>try (cases h;done)
   rename_i S1 hc
   obtain⟨rfl,hw⟩:=qh h
   have h1:=hs.cut hg hc
   refine⟨fun he=>(by cases he),fun _=>⟨b4,by rw[h1.n],?_⟩⟩
   rw[if_neg (by simp)]
   exact h1.new hw
 ·cases h
theorem z7v{C:Nat→List AVal→Sh→Rs}(hC:Zj P C){op:LOp}{v:AVal}(hs:StR D H n S)(h:zhv C e.get S op=some (v,S')):xw P e H n (KS D v S') op:=by
 have hn:=hs.n
 unfold zhv at h
 split at h
 ·obtain⟨rfl,hw⟩:=qh h;exact⟨by rw[hn],hs.new hw⟩
 ·obtain⟨rfl,hw⟩:=qh h;exact⟨by rw[hn],hs.new hw⟩
 ·obtain⟨rfl,hw⟩:=qh h;rw[←hn] at hw;exact⟨by rw[hn],hs.new2 hw⟩
 ·split at h<;>try (cases h;done)
  rename_i a ha
  split at h<;>try (cases h;done)
  rename_i cs hc
  obtain⟨h1,h2⟩:=zl ha
  obtain⟨rfl,hw⟩:=qh h
  simp only[xw,h1,hc]
  exact⟨h2,by rw[hn],hs.new hw⟩
 ·split at h<;>try (cases h;done)
  rename_i ps hps
  split at h<;>try (cases h;done)
  rename_i rows hr
  split at h<;>try (cases h;done)
  rename_i hz
  obtain⟨rfl,hw⟩:=qh h
  obtain⟨h1,h2⟩:=z2r hps
  obtain⟨p,h3,h4⟩:=Qu hr
  simp only[xw,h1,h3]
  exact⟨zk.1 hz,h2,h4,_,.inr rfl,by rw[hn],hs.new hw⟩
 ·split at h<;>try (cases h;done)
  rename_i ps hps
  split at h<;>try (cases h;done)
  rename_i rows hr
  split at h<;>try (cases h;done)
  rename_i rows' him
  split at h<;>try (cases h;done)
  rename_i hz
  simp only[p0,p9] at h
  obtain⟨rfl,rfl⟩:=h
  obtain⟨h1,h2⟩:=z2r hps
  obtain⟨p,h3,h4⟩:=Qu hr
  simp only[xw,h1,h3,him]
  exact⟨zk.1 hz,h2,h4,rfl,hs⟩
 ·split at h<;>try (cases h;done)
  rename_i b i off ha
  split at h<;>try (cases h;done)
  rename_i y hy
  split at h<;>try (cases h;done)
  rename_i cs hc
  obtain⟨h1,h2⟩:=zl ha
  obtain⟨h3,h4⟩:=zl hy
  simp only[xw,h1,h3,hc]
  split at h<;>try (cases h;done)
  ·rename_i hg
   split at h<;>try (cases h;done)
   rename_i hb
   simp only[p4,zk,yr,and_assoc] at hb
   obtain⟨rfl,hw⟩:=qh h
   have hg':=hs.h _ _ hg
   simp only[hg']
   exact⟨h2,h4,hb.1,hb.2.1,hb.2.2,rfl,hs.upd hg hw⟩
  ·rename_i hg
   split at h<;>try (cases h;done)
   rename_i hb
   simp only[p4,zk,yr,and_assoc] at hb
   obtain⟨rfl,hw⟩:=qh h
   have hg':=hs.h _ _ hg
   simp only[hg']
   exact⟨h2,h4,hb.1,hb.2.1,hb.2.2,rfl,hs.upd hg hw⟩
 ·split at h<;>try (cases h;done)
  rename_i l ha
  obtain⟨h1,h2⟩:=zl ha
  obtain⟨rfl,hw⟩:=qh h
  simp only[xw,h1]
  exact⟨h2,by rw[hn],hs.new hw⟩
 ·split at h<;>try (cases h;done)
  rename_i a ha hne
  split at h<;>try (cases h;done)
  rename_i rows hr
  replace hr:=ur hs.le hr
  split at h<;>simp only[p0,p9,reduceCtorEq] at h
  rename_i hb
  obtain⟨rfl,rfl⟩:=h
  obtain⟨h1,h2⟩:=zl hne
  obtain⟨p,h3,h4⟩:=X4 hr
  simp only[xw,h1,h3]
  refine⟨h2,fun l hl=>?_,h4,Vt hb,rfl,hs⟩
  subst hl
  exact ha l rfl
 ·split at h<;>try (cases h;done)
  rename_i l' c' hl hc
  split at h<;>try (cases h;done)
  rename_i hb
  simp only[p4,jj,and_assoc] at hb
  obtain⟨h1,h2⟩:=zl hl
  obtain⟨h3,h4⟩:=zl hc
  obtain⟨rfl,hw⟩:=qh h
  simp only[xw,h1,h3]
  exact⟨h2,h4,hb.1,hb.2.1,hb.2.2,_,.inr rfl,by rw[hn],hs.new hw⟩
 ·split at h<;>try (cases h;done)
  rename_i aq ha
  obtain⟨h1,h2⟩:=Z5 ha
  simp only[xw,h1]
  exact⟨h2,hC _ _ _ _ _ h H n hs⟩
 ·split at h<;>try (cases h;done)
  rename_i f first caps hx
  split at h<;>try (cases h;done)
  rename_i aq ha
  obtain⟨h1,h2⟩:=zl hx
  obtain⟨h3,h4⟩:=Z5 ha
  simp only[xw,h1,h3]
  exact⟨h2,h4,hC _ _ _ _ _ h H n hs⟩
 ·split at h<;>try (cases h;done)
  rename_i b hb
  split at h<;>try (cases h;done)
  rename_i rows2 hr
  replace hr:=ur hs.le hr
  split at h<;>try (cases h;done)
  rename_i a ha
  obtain⟨h1,h2⟩:=zl hb
  obtain⟨h3,h4⟩:=zl ha
  obtain⟨p,h5,h6⟩:=X4 hr
  simp only[xw,h1,h3,h5]
  exact⟨h4,h2,h6,zd4 hs h⟩
 ·split at h<;>try (cases h;done)
  rename_i b s' off len f hx
  split at h<;>try (cases h;done)
  rename_i y hy
  split at h<;>try (cases h;done)
  rename_i rows2 hr
  split at h<;>try (cases h;done)
  rename_i s'' es hg
  split at h<;>try (cases h;done)
  rename_i hb
  replace hr:=ur hs.le hr
  simp only[p4,zk,yr,and_assoc] at hb
  obtain⟨h1,h2⟩:=zl hx
  obtain⟨h3,h4⟩:=zl hy
  obtain⟨p,h5,h6⟩:=X4 hr
  obtain⟨rfl,hw⟩:=qh h
  have hg':=hs.h _ _ hg
  simp only[xw,h1,h3,h5,hg']
  exact⟨h2,h4,h6,hb.1,hb.2.1,hb.2.2,rfl,hs.upd hg hw⟩
 ·obtain⟨rfl,hw⟩:=qh h;exact⟨by rw[hn],hs.new hw⟩
 ·split at h<;>try (cases h;done)
  rename_i b hm
  split at h<;>try (cases h;done)
  rename_i x hx
  split at h<;>try (cases h;done)
  rename_i y hy
  split at h<;>try (cases h;done)
  rename_i es hg
  split at h<;>try (cases h;done)
  rename_i k hk
  split at h<;>try (cases h;done)
  rename_i es' he
  split at h<;>try (cases h;done)
  rename_i ho
  obtain⟨h1,h2⟩:=zl hm
  obtain⟨h3,h4⟩:=zl hx
  obtain⟨h5,h6⟩:=zl hk
  obtain⟨rfl,hw⟩:=qh h
  have hg':=hs.h _ _ hg
  simp only[xw,h1,h3,hy,h5,hg',z3m he]
  exact⟨h2,h6,h4,Y6 ho,rfl,hs.upd hg hw⟩
 ·split at h<;>try (cases h;done)
  rename_i b hm
  split at h<;>try (cases h;done)
  rename_i es hg
  split at h<;>try (cases h;done)
  rename_i k hk
  split at h<;>try (cases h;done)
  rename_i es' he
  split at h<;>try (cases h;done)
  rename_i ho
  obtain⟨h1,h2⟩:=zl hm
  obtain⟨h5,h6⟩:=zl hk
  obtain⟨rfl,hw⟩:=qh h
  have hg':=hs.h _ _ hg
  simp only[xw,h1,h5,hg',z0a he]
  exact⟨h2,h6,Y6 ho,rfl,hs.upd hg hw⟩
 ·cases h
theorem z0f{lo:LOper}{v:AVal}(h:Zm e.get H.get lo=some v):(uk e H lo).gives v:=by
 unfold Zm at h
 unfold uk
 cases hg:lo.guard with
 |none=>
  rw[hg] at h
  obtain⟨s,h1,h2⟩:=J1 h
  simp only[h1]
  exact⟨h2,.inl rfl⟩
 |some g=>
  obtain⟨q,want⟩:=g
  rw[hg] at h
  simp only[Ua] at h ⊢
  split at h
  ·rename_i hp
   simp only[hp]
   split at h<;>simp only[p0,reduceCtorEq] at h
   rename_i u hu
   subst h
   obtain⟨s,h1,h2⟩:=J1 hu
   rw[h1]
   exact⟨fun _=>h2,.inl rfl⟩
  ·rename_i hp
   simp only[hp]
   simp only[p0] at h
   subst h
   cases xe e H lo.op with
   |ok s u=>exact⟨fun h=>(by cases h),.inr (.inl ⟨.inr ⟨_,rfl⟩,.inl rfl⟩)⟩
   |bad=>exact⟨trivial,.inl rfl⟩
  ·cases h
theorem z3z{C:Nat→List AVal→Sh→Rs}(hC:Zj P C){lo:LOper}{v:AVal}(hs:StR D H n S)(h:zb3 C e.get S lo=some (v,S')):Jk P e H n (KS D v S') lo:=by
 unfold zb3 at h
 unfold Jk
 cases hg:lo.guard with
 |none=>
  rw[hg] at h
  exact z7v hC hs h
 |some g=>
  obtain⟨q,want⟩:=g
  rw[hg] at h
  simp only[Ua] at h ⊢
  split at h
  ·rename_i hp
   simp only[hp]
   exact .inr ⟨fun _=>z7v hC hs h,fun h=>by cases h⟩
  ·rename_i hp
   simp only[hp]
   simp only[p0,p9] at h
   obtain⟨rfl,rfl⟩:=h
   exact .inr ⟨fun h=>(by cases h),fun _=>⟨_,.inl rfl,rfl,hs⟩⟩
  ·cases h
def EnR(e:Env)(E:Ev):Prop:=∀t,e.get t=E.g t
theorem EnR.get{E:Ev}(h:EnR e E):E.g=e.get:=funext fun t=>(h t).symm
theorem EnR.put{E E':Ev}{d:Option Nat}{v:AVal}(h:EnR e E)(hp:E.p d v=some E'):EnR (e.put d v) E':=by
 cases d with
 |none=>simp only[Ev.p,p0] at hp;subst hp;exact h
 |some d=>
  simp only[Ev.p] at hp
  have hg:=Tr.put_get _ _ _ _ _ hp
  intro t
  unfold Ev.g
  rw[hg]
  by_cases hd:t=d
  ·subst hd;rw[if_pos rfl,Env.get_put_same]
  ·rw[if_neg hd,Env.get_put_other _ _ (fun he=>hd he.symm)];exact h t
theorem z2i{lo:LOper}{v:AVal}(h:Zm e.get H.get lo=some v):∀ {K:Env→Prop},K (e.put lo.dst v) →
 match lo.guard with
 |none=>(match xe e H lo.op with|.ok side u=>side∧K (e.put lo.dst u)|.bad=>False)
 |some (g,want)=>match jd (e.get g) want with
  |some p=>(match xe e H lo.op with
   |.ok side v=>(∃u,(p=true→side∧v=u)∧K (e.put lo.dst (.cnd p u)))∨(p=false∧K (e.put lo.dst (.tup [])))
   |.bad=>p=false∧K (e.put lo.dst (.tup [])))
  |none=>False:=by
 intro K hK
 unfold Zm at h
 cases hg:lo.guard with
 |none=>
  rw[hg] at h
  obtain⟨s,h1,h2⟩:=J1 h
  simp only[h1]
  exact⟨h2,hK⟩
 |some g=>
  obtain⟨q,want⟩:=g
  rw[hg] at h
  simp only[Ua] at h ⊢
  split at h
  ·rename_i hp
   simp only[hp]
   split at h<;>simp only[p0,reduceCtorEq] at h
   rename_i u hu
   subst h
   obtain⟨s,h1,h2⟩:=J1 hu
   simp only[h1]
   exact .inl ⟨_,fun _=>⟨h2,rfl⟩,hK⟩
  ·rename_i hp
   simp only[hp]
   simp only[p0] at h
   subst h
   cases xe e H lo.op with
   |ok s u=>exact .inr ⟨trivial,hK⟩
   |bad=>exact⟨trivial,hK⟩
  ·cases h
theorem Xf{p:Bool}{H:AHeap}{n:Nat}{E:(AVal→AHeap→Nat→Prop)→Prop}{K K':AVal→AHeap→Nat→Prop}(hE:∀ {K K'},E K→(∀r H n,K r H n→K' r H n)→E K')(h:Xi p H n E K)(hk:∀r H n,K r H n→K' r H n):Xi p H n E K':=by
 rcases h with⟨R,h1,h2⟩|⟨h1,h2⟩
 ·exact .inl ⟨R,h1,hk _ _ _ h2⟩
 ·exact .inr ⟨fun h=>hE (h1 h) hk,fun h=>by obtain⟨u,a,b⟩:=h2 h;exact⟨u,a,hk _ _ _ b⟩⟩
theorem Kq{C:Nat→List AVal→Sh→Rs}(hC:Zj P C){Q:Env→AHeap→Nat→Prop}{E':Ev}{S':Sh}(hQ:∀e H n,EnR e E'→StR D H n S'→Q e H n):∀ {os:List LOper} {E:Ev} {S:Sh} {e:Env} {H:AHeap} {n:Nat},zel C os E S=some (E',S')→EnR e E→StR D H n S→Zn P os Q e H n
 |[],E,S,e,H,n,h,hE,hs=>by
  simp only[zel,p0,p9] at h
  obtain⟨rfl,rfl⟩:=h
  exact hQ _ _ _ hE hs
 |lo::os,E,S,e,H,n,h,hE,hs=>by
  unfold zel at h
  split at h
  ·rename_i hp
   split at h<;>try (cases h;done)
   rename_i v hv
   split at h<;>try (cases h;done)
   rename_i E1 hE1
   rw[hE.get] at hv
   replace hv:=Zy hs.le hv
   have ih:=Kq hC hQ h (hE.put hE1) hs
   have:=z2i (K:=fun e=>Zn P os Q e H n) hv ih
   obtain⟨d,op,g⟩:=lo
   cases g with
   |none=>simp only[Zn,hp];exact this
   |some g=>
    obtain⟨g,want⟩:=g
    simp only[Zn]
    simp only at this
    cases hgp:jd (e.get g) want with
    |none=>rw[hgp] at this;exact this
    |some p=>
     rw[hgp] at this
     simp only[hp]
     exact this
  ·rename_i hp
   split at h<;>try (cases h;done)
   rename_i v S1 hv
   split at h<;>try (cases h;done)
   rename_i E1 hE1
   rw[hE.get] at hv
   have heff:=z3z hC hs hv
   have key:∀r H' n',KS D v S1 r H' n'→Zn P os Q (e.put lo.dst r) H' n':=by
    rintro r H' n' ⟨rfl,hs'⟩
    exact Kq hC hQ h (hE.put hE1) hs'
   obtain⟨d,op,g⟩:=lo
   cases g with
   |none=>simp only[Zn,hp];exact Yv key heff
   |some g=>
    obtain⟨g,want⟩:=g
    simp only[Zn]
    unfold Jk at heff
    simp only at heff
    cases hgp:jd (e.get g) want with
    |none=>rw[hgp] at heff;exact heff
    |some p=>
     rw[hgp] at heff
     simp only[hp]
     exact Xf (fun h hk=>Yv hk h) heff key
mutual
theorem z29(x y:AVal)(h:zfw x y=true):x=y:=by
 unfold zfw at h
 split at h
 ·simp only[beq_iff_eq] at h;rw[h]
 ·simp only[p4,ko,decide_eq_true_eq] at h;rw[h.1,h.2]
 ·simp only[beq_iff_eq] at h;rw[h]
 ·simp only[p4,zk] at h
  obtain⟨⟨⟨h1,h2⟩,rfl⟩,rfl⟩:=h
  congr 1
  exact Prod.ext h1 h2
 ·simp only[p4,zk,beq_iff_eq] at h
  obtain⟨⟨⟨⟨⟨h1,h2⟩,rfl⟩,rfl⟩,rfl⟩,rfl⟩:=h
  congr 1
  exact Prod.ext h1 h2
 ·simp only[p4,zk] at h
  congr 1
  exact Prod.ext h.1 h.2
 ·rw[Xq _ _ h]
 ·rw[Xq _ _ h]
 ·rfl
 ·rfl
 ·rfl
 ·rfl
 ·simp only[p4,beq_iff_eq] at h
  rw[h.1,z29 _ _ h.2]
 ·simp only[p4,zk,beq_iff_eq] at h
  rw[h.1.1,h.1.2,z0j _ _ h.2]
 ·cases h
termination_by SizeOf.sizeOf x
theorem Xq(xs ys:List AVal)(h:z4f xs ys=true):xs=ys:=by
 unfold z4f at h
 split at h
 ·rfl
 ·simp only[p4] at h
  rw[z29 _ _ h.1,Xq _ _ h.2]
 ·cases h
termination_by SizeOf.sizeOf xs
theorem z0j(xs ys:List (List AVal))(h:z41 xs ys=true):xs=ys:=by
 unfold z41 at h
 split at h
 ·rfl
 ·simp only[p4] at h
  rw[Xq _ _ h.1,z0j _ _ h.2]
 ·cases h
termination_by SizeOf.sizeOf xs
end
theorem zbn{lo:LOper}{E:Ev}(h:EnR e E):lo.bsees E=lo.sees e:=by
 unfold LOper.bsees LOper.sees
 apply List.map_congr_left
 intro t _
 rw[h t]
theorem z0g{loose:List Nat}:∀ {done:List (Nat×LOper×Env×AVal)},Jf H.get loose done=true→∀x∈done,x.1∈loose→(uk x.2.2.1 H x.2.1).gives x.2.2.2
 |[],_,x,hx,_=>by cases hx
 |(p,lo,e,v)::r,h,x,hx,hl=>by
  unfold Jf at h
  simp only[p4] at h
  cases hx with
  |tail _ hx=>exact z0g h.2 x hx hl
  |head=>
   have h1:=h.1
   rw[List.contains_iff_mem.2 hl] at h1
   simp only at h1
   split at h1<;>try (cases h1;done)
   rename_i u hu
   have:=z0f hu
   rw[z29 _ _ h1] at this
   exact this
theorem z5y{lo:LOper}{K K':AVal→AHeap→Nat→Prop}(h:Jk P e H n K lo)(hk:∀r H n,K r H n→K' r H n):Jk P e H n K' lo:=by
 unfold Jk at h ⊢
 cases hg:lo.guard with
 |none=>rw[hg] at h;exact Yv hk h
 |some g=>
  obtain⟨q,want⟩:=g
  rw[hg] at h
  simp only at h ⊢
  cases hp:jd (e.get q) want with
  |none=>rw[hp] at h;exact h.elim
  |some p=>
   rw[hp] at h
   exact Xf (fun h hk=>Yv hk h) h hk
theorem Xt{C:Nat→List AVal→Sh→Rs}(hC:Zj P C){Q:Env→AHeap→Nat→Prop}{E':Ev}{S':Sh}(hQ:∀e H n,EnR e E'→StR D H n S'→Q e H n):∀ {items:List DItem} {p:Nat} {done:List (Nat×LOper×Env×AVal)} {E:Ev} {S:Sh} {e:Env} {H:AHeap} {n:Nat},z1y C items p done E S=some (E',S')→EnR e E→StR D H n S→xd P items p done Q e H n
 |[],p,done,E,S,e,H,n,h,hE,hs=>by
  simp only[z1y,p0,p9] at h
  obtain⟨rfl,rfl⟩:=h
  exact hQ _ _ _ hE hs
 |it::rest,p,done,E,S,e,H,n,h,hE,hs=>by
  unfold z1y at h
  unfold xd
  rw[zbn hE] at h
  split at h
  ·rename_i hp
   simp only[hp]
   split at h<;>try (cases h;done)
   rename_i v hv
   split at h<;>try (cases h;done)
   rename_i E1 hE1
   replace hv:=Zy hs.le hv
   exact⟨v,z0f hv,Xt hC hQ h (hE.put hE1) hs⟩
  ·rename_i hp
   simp only[hp]
   split at h<;>try (cases h;done)
   rename_i v S1 hv
   split at h<;>try (cases h;done)
   rename_i hl
   split at h<;>try (cases h;done)
   rename_i E1 hE1
   refine z5y (z3z hC hs hv) ?_
   rintro r H' n' ⟨rfl,hs'⟩
   replace hl:=Je hs'.le hl
   exact⟨z0g hl,Xt hC hQ h (hE.put hE1) hs'⟩
theorem Zq{Q:Env→AHeap→Nat→Prop}:∀ {os:List LOper} {e:Env} {H:AHeap} {n:Nat},(∀lo∈os,yx lo.op=true)→Zn P os Q e H n→xqs os Q e H n
 |[],e,H,n,_,h=>h
 |⟨d,op,none⟩::os,e,H,n,hp,h=>by
  have h0:yx op=true:=hp _ (pW ..)
  simp only[Zn,h0] at h
  simp only[xqs]
  split at h<;>try (exact h.elim)
  exact⟨h.1,Zq (fun lo hl=>hp lo (pT _ hl)) h.2⟩
 |⟨d,op,some (g,want)⟩::os,e,H,n,hp,h=>by
  have h0:yx op=true:=hp _ (pW ..)
  simp only[Zn,h0] at h
  simp only[xqs]
  split at h<;>try (exact h.elim)
  have ih:∀ {e},Zn P os Q e H n→xqs os Q e H n:=fun h=>Zq (fun lo hl=>hp lo (pT _ hl)) h
  split at h
  ·rcases h with⟨u,h1,h2⟩|⟨h1,h2⟩
   ·exact .inl ⟨u,h1,ih h2⟩
   ·exact .inr ⟨h1,ih h2⟩
  ·exact⟨h.1,ih h.2⟩
abbrev KX(D:Id→Option ABlock)(x:Exit×Ev×Sh):Exit→Env→AHeap→Nat→Prop:=fun ex e H n=>ex=x.1∧EnR e x.2.1∧StR D H n x.2.2
def kc(P:Program)(n:Nat):LCode→Prop
 |.seq a b=>kc P n a∧kc P n b
 |.cond _ a b=>kc P n a∧kc P n b
 |.block _ c=>kc P n c
 |.loop c=>kc P n c
 |.rng _ ps a b=>(ps.all fun p=>Nat.blt p n)=true∧kc P n a∧kc P n b
 |.dfr f _=>z1i P f
 |_=>True
def vh(l:List Nat)(n:Nat):LCode→Bool
 |.seq a b=>vh l n a&&vh l n b
 |.cond _ a b=>vh l n a&&vh l n b
 |.block _ c=>vh l n c
 |.loop c=>vh l n c
 |.rng _ ps a b=>(ps.all fun p=>Nat.blt p n)&&(vh l n a&&vh l n b)
 |.dfr f _=>l.any fun i=>p5 i f
 |_=>true
theorem ji{P:Program}{l:List Nat}{n:Nat}(hl:∀f∈l,z1i P f):∀ {c:LCode},vh l n c=true→kc P n c
 |.skip,_|.region _,_|.quiet _,_|.draw _,_|.draw2 _ _ _,_|.exit _,_|.ret,_=>trivial
 |.seq a b,h=>by
  simp only[vh,p4] at h
  exact⟨ji hl h.1,ji hl h.2⟩
 |.cond _ a b,h=>by
  simp only[vh,p4] at h
  exact⟨ji hl h.1,ji hl h.2⟩
 |.rng _ ps a b,h=>by
  simp only[vh,p4] at h
  exact⟨h.1,ji hl h.2.1,ji hl h.2.2⟩
 |.block _ c,h=>ji (c:=c) hl h
 |.loop c,h=>ji (c:=c) hl h
 |.dfr f _,h=>by
  simp only[vh,List.any_eq_true] at h
  obtain⟨i,h1,h2⟩:=h
  exact hl f (pA h2▸h1)
def z3l(P:Program)(L:LCode→Ev→Sh→Cs):Prop:=
 ∀c E S x,L c E S=some x→∀ {D:Id→Option ABlock} (N:Lay) (n0:Nat) e H n,kc P N.n c→EnR e E→StR D H n S→LWp P N n0 (.loop c) (KX D x) e H n
def Us(P:Program)(B:Nat→Option (Bool×Nat)):Prop:=
 ∀f ag s,B f=some (ag,s)→∃bm fn,wu P bm f=some fn∧Xv P f∧2≤fn.lay.n∧fn.body=Xx ag s∧fn.res=[]
def Zd(e:Env):Env:=e.map fun x=>(x.1,e.get x.1)
theorem z4z(e:Env)(t:Nat):(Zd e).get t=e.get t:=by
 have:∀ (l:Env),Env.get (l.map fun x=>(x.1,e.get x.1)) t=if(∃y∈l,y.1=t) then e.get t else .any:=by
  intro l
  induction l with
  |nil=>simp[Env.get]
  |cons y r ih=>
   simp only[List.map_cons,Env.get]
   by_cases hy:y.1=t
   ·rw[if_pos hy,if_pos ⟨y,pW ..,hy⟩,hy]
   ·rw[if_neg hy,ih]
    by_cases hr:∃z∈r,z.1=t
    ·obtain⟨z,hz,hzt⟩:=hr
     rw[if_pos ⟨z,hz,hzt⟩,if_pos ⟨z,pT _ hz,hzt⟩]
    ·rw[if_neg hr,if_neg]
     rintro⟨z,hz,hzt⟩
     rcases List.mem_cons.1 hz with rfl|hz
     ·exact hy hzt
     ·exact hr ⟨z,hz,hzt⟩
 unfold Zd
 rw[this]
 split
 ·rfl
 ·rename_i hn
  have:∀ (l:Env),(¬∃y∈l,y.1=t)→Env.get l t=.any:=by
   intro l
   induction l with
   |nil=>intro _;rfl
   |cons y r ih=>
    intro h
    simp only[Env.get]
    rw[if_neg (fun hy=>h ⟨y,pW ..,hy⟩)]
    exact ih fun⟨z,hz,hzt⟩=>h ⟨z,pT _ hz,hzt⟩
  exact(this e hn).symm
theorem z4u(e:Env):SubE (Zd e) e:=by
 have:∀ (l:Env),SubE (l.map fun x=>(x.1,e.get x.1)) e:=by
  intro l
  induction l with
  |nil=>trivial
  |cons y r ih=>exact⟨rfl,ih⟩
 exact this e
theorem z6y:∀ {ps:List Nat} {xs:List AVal} {e:Env} {E E':Ev},zgf ps xs E=some E'→EnR e E→EnR (z6r e ps xs) E'∧xs.length=ps.length
 |[],[],e,E,E',h,hE=>by simp only[zgf,p0] at h;subst h;exact⟨hE,rfl⟩
 |[],_::_,e,E,E',h,hE=>by cases h
 |_::_,[],e,E,E',h,hE=>by cases h
 |p::ps,x::xs,e,E,E',h,hE=>by
  unfold zgf at h
  split at h<;>try (cases h;done)
  rename_i E1 h1
  obtain⟨g1,g2⟩:=z6y h (hE.put h1)
  exact⟨g1,by simp[g2]⟩
theorem Yk{x:AVal}(h:z07 x=true):x.plain:=by
 cases x with
 |cnd p y=>cases h
 |_=>exact⟨rfl,trivial⟩
def Y7(D:Id→Option ABlock)(k:Id)(b:ABlock)(id:Id):Option ABlock:=if id=k then some b else D id
theorem StR.hide(h:StR D H n S){b:ABlock}(h0:S.t.at (S.n,0)=none):StR (Y7 D (n,0) b) (((n,0),b)::H) (n+1) ⟨S.t,S.n+1⟩:=by
 refine⟨by simp[h.n],fun id c hc=>?_,fun id c hc=>?_⟩
 ·simp only at hc
  have hj:(n,0)≠id:=fun e=>by subst e;rw[h.n,h0] at hc;cases hc
  rw[AHeap.get_cons_other _ _ hj];exact h.h _ _ hc
 ·unfold Y7 at hc
  split at hc
  ·rename_i hk;subst hk;cases hc
   exact⟨AHeap.get_cons_same _ _ _,by simp only;rw[h.n];exact h0,Nat.lt_succ_self _⟩
  ·rename_i hk
   obtain⟨g1,g2,g3⟩:=h.d id c hc
   exact⟨by rw[AHeap.get_cons_other _ _ (fun e=>hk e.symm)];exact g1,g2,by omega⟩
theorem StR.hidden{k:Id}{b:ABlock}(h:StR (Y7 D k b) H n S):H.get k=some b:=(h.d k b (by simp[Y7])).1
theorem StR.turn{k:Id}{b b':ABlock}(h:StR (Y7 D k b) H n S):StR (Y7 D k b') (H.set k b') n S:=by
 have hk:=h.hidden
 refine⟨h.n,fun id c hc=>?_,fun id c hc=>?_⟩
 ·have hj:k≠id:=fun e=>by subst e;rw[(h.d k b (by simp[Y7])).2.1] at hc;cases hc
  rw[AHeap.get_set,if_neg hj];exact h.h _ _ hc
 ·unfold Y7 at hc
  split at hc
  ·rename_i he;subst he;cases hc
   obtain⟨_,g2,g3⟩:=h.d id b (by simp[Y7])
   exact⟨by rw[AHeap.get_set,if_pos rfl,hk];rfl,g2,g3⟩
  ·rename_i he
   obtain⟨g1,g2,g3⟩:=h.d id c (by simp[Y7,he];exact hc)
   exact⟨by rw[AHeap.get_set,if_neg (fun e=>he e.symm)];exact g1,g2,g3⟩
theorem StR.unhide{k:Id}{b:ABlock}(h:StR (Y7 D k b) H n S)(hk:D k=none):StR D (H.del k) n S:=by
 refine⟨h.n,fun id c hc=>?_,fun id c hc=>?_⟩
 ·have hj:k≠id:=fun e=>by subst e;rw[(h.d k b (by simp[Y7])).2.1] at hc;cases hc
  rw[AHeap.get_del,if_neg hj];exact h.h _ _ hc
 ·have hj:id≠k:=fun e=>by subst e;rw[hk] at hc;cases hc
  obtain⟨g1,g2,g3⟩:=h.d id c (by simp[Y7,hj];exact hc)
  exact⟨by rw[AHeap.get_del,if_neg (fun e=>hj e.symm)];exact g1,g2,g3⟩
theorem z1f{o:Es}{x:Exit×Ev×Sh}(h:zgk o=some x):∃E S,o=some (E,S)∧x=(.normal,E,S):=by
 cases o with
 |none=>cases h
 |some y=>obtain⟨E,S⟩:=y;simp only[zgk,p0] at h;exact⟨E,S,rfl,h.symm⟩
theorem xc{C:Nat→List AVal→Sh→Rs}{L:LCode→Ev→Sh→Cs}{B:Nat→Option (Bool×Nat)}(hC:Zj P C)(hL:z3l P L)(hB:Us P B):∀ (lc:LCode) {D:Id→Option ABlock} (N:Lay) (n0:Nat) {E:Ev} {S:Sh} {x:Exit×Ev×Sh} {e:Env} {H:AHeap} {n:Nat},w5 C L B lc E S=some x→kc P N.n lc→EnR e E→StR D H n S→LWp P N n0 lc (KX D x) e H n
 |.skip,D,N,n0,E,S,x,e,H,n,h,hi,hE,hs=>by
  simp only[w5,p0] at h
  subst h
  exact zy .skip _ e H n ⟨rfl,hE,hs⟩
 |.region ops,D,N,n0,E,S,x,e,H,n,h,hi,hE,hs=>by
  obtain⟨E1,S1,h1,rfl⟩:=z1f h
  refine zy (.region ops) _ e H n (Kq hC (fun e H n hE hs=>?_) h1 hE hs)
  exact⟨rfl,hE,hs⟩
 |.quiet ops,D,N,n0,E,S,x,e,H,n,h,hi,hE,hs=>by
  simp only[w5] at h
  split at h<;>try (cases h;done)
  rename_i hp
  obtain⟨E1,S1,h1,rfl⟩:=z1f h
  refine zy (.quiet ops) _ e H n (Zq (P:=P) (fun lo hl=>pB.1 hp lo hl) (Kq hC (fun e H n hE hs=>?_) h1 hE hs))
  exact⟨rfl,hE,hs⟩
 |.draw items,D,N,n0,E,S,x,e,H,n,h,hi,hE,hs=>by
  obtain⟨E1,S1,h1,rfl⟩:=z1f h
  refine zy (.draw items) _ e H n (Xt hC (fun e H n hE hs=>?_) h1 hE hs)
  exact⟨rfl,hE,hs⟩
 |.draw2 a b items,D,N,n0,E,S,x,e,H,n,h,hi,hE,hs=>by
  simp only[w5] at h
  split at h<;>try (cases h;done)
  rename_i E1 S1 h1
  split at h<;>try (cases h;done)
  rename_i ha
  simp only[p0] at h
  subst h
  refine zy (.draw2 a b items) _ e H n (Xt hC (fun e H n hE hs=>⟨?_,rfl,hE,hs⟩) h1 hE hs)
  rw[hE.get] at ha
  unfold zcc at ha
  split at ha<;>try (cases ha;done)
  rename_i b1 i1 o1 c1 i2 o2 q1 q2
  rw[(zl q1).1,(zl q2).1]
  simp only[z0y]
  intro he
  rw[he] at ha
  simp at ha
 |.seq a b,D,N,n0,E,S,x,e,H,n,h,hi,hE,hs=>by
  unfold w5 at h
  split at h
  ·rename_i E1 S1 h1
   refine kx ((xc hC hL hB a N n0 h1 hi.1 hE hs).mono ?_)
   rintro ex e' H' n' ⟨rfl,hE',hs'⟩
   exact xc hC hL hB b N n0 h hi.2 hE' hs'
  ·rename_i hne
   refine kx ((xc hC hL hB a N n0 h hi.1 hE hs).mono ?_)
   rintro ex e' H' n' ⟨rfl,hE',hs'⟩
   obtain⟨ex,E1,S1⟩:=x
   cases ex with
   |normal=>exact absurd h (hne _ _)
   |_=>exact⟨rfl,hE',hs'⟩
 |.cond c a b,D,N,n0,E,S,x,e,H,n,h,hi,hE,hs=>by
  unfold w5 at h
  rw[hE.get] at h
  split at h<;>try (cases h;done)
  ·rename_i hc
   obtain⟨h1,h2⟩:=zl hc
   exact ve h1 h2 (fun _=>xc hC hL hB a N n0 h hi.1 hE hs) (fun h=>by cases h)
  ·rename_i hc
   obtain⟨h1,h2⟩:=zl hc
   exact ve h1 h2 (fun h=>by cases h) (fun _=>xc hC hL hB b N n0 h hi.2 hE hs)
 |.block id c,D,N,n0,E,S,x,e,H,n,h,hi,hE,hs=>by
  unfold w5 at h
  split at h
  ·rename_i i E1 S1 h1
   refine kf ((xc hC hL hB c N n0 h1 hi hE hs).mono ?_)
   rintro ex e' H' n' ⟨rfl,hE',hs'⟩
   simp only
   split at h
   ·rename_i hi
    rw[if_pos (zk.1 hi)]
    simp only[p0] at h
    subst h
    exact⟨rfl,hE',hs'⟩
   ·rename_i hi
    rw[if_neg (pL hi)]
    simp only[p0] at h
    subst h
    exact⟨rfl,hE',hs'⟩
  ·rename_i hne
   refine kf ((xc hC hL hB c N n0 h hi hE hs).mono ?_)
   rintro ex e' H' n' ⟨rfl,hE',hs'⟩
   obtain⟨ex,E1,S1⟩:=x
   cases ex with
   |exit i=>exact absurd h (hne _ _ _)
   |_=>exact⟨rfl,hE',hs'⟩
 |.loop c,D,N,n0,E,S,x,e,H,n,h,hi,hE,hs=>hL c E S x h N n0 e H n hi hE hs
 |.rng g ps a b,D,N,n0,E,S,x,e,H,n,h,hi,hE,hs=>by
  unfold w5 at h
  rw[hE.get] at h
  split at h<;>try (cases h;done)
  rename_i gf bx hg
  split at h<;>try (cases h;done)
  rename_i ag s hBf
  split at h<;>try (cases h;done)
  rename_i sl hsl
  split at h<;>try (cases h;done)
  rename_i z hz
  split at h<;>try (cases h;done)
  rename_i hb h0
  simp only[p4,jj] at hb
  obtain⟨bm,L',hL',hok,hn2,hbody,hres⟩:=hB gf ag s hBf
  obtain⟨hg1,hg2⟩:=zl hg
  obtain⟨hps,hia,hib⟩:=hi
  have hDn:D (n,0)=none:=by
   cases hd:D (n,0) with
   |none=>rfl
   |some c=>exact absurd (hs.d _ _ hd).2.2 (Nat.lt_irrefl _)
  have hEc:EnR (Zd e) E:=fun t=>by rw[z4z];exact hE t
  refine z9u (Zd e) hg1 hg2 (z4u e) (fun l r hR=>?_)
  have hst:=hs.hide (b:=.lrec l r (Zd e)) h0
  obtain⟨k,hk⟩:∃k:Nat,z=k:=Int.eq_ofNat_of_zero_le hb.1.2
  subst hk
  refine z5g hL' hok hn2 hbody hres (K:=fun H' n'=>∃k e',(H'.get k=some (.lrec l r e')∧KX D x .normal e' (H'.del k) n')∨∃ex code,z79 ex=some code∧H'.get k=some (.lrec l (z9n r code) e')∧KX D x ex e' (H'.del k) n')
   (fun i H' n'=>∃S',zfg (w5 C L B a) (w5 C L B b) ps ag s bx E i S'=some x∧StR (Y7 D (n,0) (.lrec l r (Zd e))) H' n' S') ?_ ?_ (len:=k) ⟨_,h,hst⟩ (by omega) (Yk hb.1.1) (Yb (w8 hst.le hsl)) (z2z hz)
  ·rintro i H' n' ⟨S',hr,hst'⟩
   unfold zfg at hr
   split at hr<;>try (cases hr;done)
   rename_i sl' hsl'
   split at hr<;>try (cases hr;done)
   rename_i p hp
   split at hr<;>try (cases hr;done)
   rename_i el hel
   split at hr<;>try (cases hr;done)
   rename_i hpl
   split at hr<;>try (cases hr;done)
   rename_i e1 he1
   split at hr<;>try (cases hr;done)
   rename_i e2 S2 hA
   simp only[p4,yr] at hpl
   refine⟨by omega,sl',p,el,Yk hpl.1.1.1,Yk hpl.1.1.2,Yk hpl.1.2,Yb (w8 hst'.le hsl'),Ud hp,Yb (w8 hst'.le hel),?_⟩
   obtain⟨hEp,hlen⟩:=z6y he1 hEc
   refine z4h hR hst'.hidden hps hlen ?_
   refine(xc hC hL hB a (z9k N) n' hA hia hEp hst').mono ?_
   rintro ex e' H'' n'' ⟨rfl,hE',hs'⟩
   refine⟨rfl,_,hs'.hidden,?_⟩
   split at hr<;>try (cases hr;done)
   ·rename_i E3 S3 hRb
    refine(xc hC hL hB b (z9k N) n' hRb hib hE' (hs'.turn (b':=.lrec l (busy r) (Zd e)))).mono ?_
    rintro ex e3 H3 n3 ⟨rfl,hE3,hs3⟩
    exact .inr ⟨rfl,_,hs3.hidden,.inl ⟨rfl,S3,hr,hs3.turn⟩⟩
   ·rename_i E3 S3 hRb
    refine(xc hC hL hB b (z9k N) n' hRb hib hE' (hs'.turn (b':=.lrec l (busy r) (Zd e)))).mono ?_
    rintro ex e3 H3 n3 ⟨rfl,hE3,hs3⟩
    simp only[p0] at hr
    subst hr
    exact .inl ⟨_,rfl,_,hs3.hidden,.inr ⟨rfl,(n,0),_,.inr ⟨.ret,_,rfl,(hs3.turn).hidden,rfl,hEc,(hs3.turn).unhide hDn⟩⟩⟩
   ·rename_i id E3 S3 hRb
    refine(xc hC hL hB b (z9k N) n' hRb hib hE' (hs'.turn (b':=.lrec l (busy r) (Zd e)))).mono ?_
    rintro ex e3 H3 n3 ⟨rfl,hE3,hs3⟩
    simp only[p0] at hr
    subst hr
    exact .inl ⟨_,rfl,_,hs3.hidden,.inr ⟨rfl,(n,0),_,.inr ⟨.exit id,_,rfl,(hs3.turn).hidden,rfl,hEc,(hs3.turn).unhide hDn⟩⟩⟩
  ·rintro H' n' ⟨S',hr,hst'⟩
   simp only[zfg,p0] at hr
   subst hr
   exact⟨(n,0),_,.inl ⟨hst'.hidden,rfl,hEc,hst'.unhide hDn⟩⟩
 |.dfr f t,D,N,n0,E,S,x,e,H,n,h,hi,hE,hs=>by
  simp only[w5] at h
  split at h<;>try (cases h;done)
  rename_i E1 h1
  simp only[p0] at h
  subst h
  exact zy (.dfr f t) _ e H n ⟨hi,rfl,hE.put h1,hs⟩
 |.exit id,D,N,n0,E,S,x,e,H,n,h,hi,hE,hs=>by
  simp only[w5,p0] at h
  subst h
  exact zy (.exit id) _ e H n ⟨rfl,hE,hs⟩
 |.ret,D,N,n0,E,S,x,e,H,n,h,hi,hE,hs=>by
  simp only[w5,p0] at h
  subst h
  exact zy .ret _ e H n ⟨rfl,hE,hs⟩
end Go.Fx
namespace Go.Fx
variable {D:Id→Option ABlock} {P:Program} {N:Lay}
theorem Up:∀ (l:List AVal) (k:Nat) (E0 E:Ev),z2j k l E0=some E→∀t,E.g t=if k≤t∧t<k+l.length then(l[t-k]?).getD .any else E0.g t
 |[],k,E0,E,h,t=>by
  simp only[z2j,p0] at h
  subst h
  rw[if_neg (by simp)]
 |x::l,k,E0,E,h,t=>by
  unfold z2j at h
  split at h<;>try (cases h;done)
  rename_i E1 h1
  rw[Up l (k+1) E1 E h t]
  have h1g:E1.g t=if t=k then x else E0.g t:=by
   simp only[Ev.p] at h1
   unfold Ev.g
   rw[Tr.put_get _ _ _ _ _ h1]
   by_cases ht:t=k
   ·rw[if_pos ht,if_pos ht]
   ·rw[if_neg ht,if_neg ht]
  rw[h1g]
  by_cases ht:t=k
  ·subst ht
   rw[if_neg (by omega),if_pos rfl,if_pos (by simp)]
   simp
  ·rw[if_neg ht]
   by_cases h2:k+1≤t∧t<k+1+l.length
   ·rw[if_pos h2,if_pos (by simp only[List.length_cons];omega)]
    have:t-k=(t-(k+1))+1:=by omega
    rw[this,pJ]
   ·rw[if_neg h2,if_neg (by simp only[List.length_cons];omega)]
theorem zae{args:List AVal}{E:Ev}(h:z2j 0 args .nil=some E):EnR (qz 0 args) E:=by
 intro t
 rw[Up _ _ _ _ h t,Zr]
 rw[if_pos (Nat.zero_le _)]
 by_cases ht:t<args.length
 ·rw[if_pos ⟨Nat.zero_le _,by omega⟩]
 ·rw[if_neg (by omega),pH (by omega)];rfl
variable {e:Env} {H:AHeap} {n:Nat} {S S':Sh}
theorem zea{E:Ev}(hE:EnR e E)(hs:StR D H n S){r:LRes}{v:AVal}(h:zeh E S.t.at r=some v):XOk (zf0 e H r) v:=by
 replace h:=z7o hs.le h
 cases r with
 |t i=>
  simp only[zeh] at h
  rw[hE.get] at h
  obtain⟨h1,h2⟩:=zl h
  exact⟨_,by simp only[zf0];exact congrArg _ h1,h2⟩
 |cell i ag m=>
  simp only[zeh] at h
  rw[hE.get] at h
  split at h<;>try (cases h;done)
  rename_i a ha
  obtain⟨h1,h2⟩:=zl ha
  have h3:=Yb h
  simp only[zf0]
  have h1':(e.get i).strip=a:=h1
  rw[h1']
  exact h3.and h2
theorem Kg{E:Ev}(hE:EnR e E)(hs:StR D H n S):∀ {rs:List LRes} {l:List AVal} {k:List AVal→Prop},z4e E S.t.at rs=some l→k l→Km e H rs k
 |[],l,k,h,hk=>by simp only[z4e,p0] at h;subst h;exact hk
 |r::rs,l,k,h,hk=>by
  unfold z4e at h
  split at h<;>try (cases h;done)
  rename_i v hv
  split at h<;>simp only[p0,reduceCtorEq] at h
  rename_i l' hl
  subst h
  obtain⟨s,h1,h2⟩:=zea hE hs hv
  unfold Km
  rw[h1]
  exact⟨h2,Kg hE hs hl hk⟩
theorem ze2{res:List LRes}{x:Cs}{v:AVal}(h:zhs res x=some (v,S')):∃y,x=some y∧∀ex e H n,KX D y ex e H n→z36 res (KS D v S') ex e H n:=by
 unfold zhs at h
 split at h
 ·split at h<;>simp only[p0,p9,reduceCtorEq] at h
  rename_i l hl
  obtain⟨rfl,rfl⟩:=h
  refine⟨_,rfl,?_⟩
  rintro ex e H n ⟨rfl,hE,hs⟩
  exact Kg hE hs hl ⟨rfl,hs⟩
 ·split at h<;>simp only[p0,p9,reduceCtorEq] at h
  rename_i l hl
  obtain⟨rfl,rfl⟩:=h
  refine⟨_,rfl,?_⟩
  rintro ex e H n ⟨rfl,hE,hs⟩
  exact Kg hE hs hl ⟨rfl,hs⟩
 ·cases h
def z48(P:Program)(F:Nat→Option LFn):Prop:=∀f fn,F f=some fn→(∃bm,wu P bm f=some fn)∧Xv P f∧kc P fn.lay.n fn.body
def qr(P:Program)(X:Nat→List AVal→Sh→Option Rs):Prop:=
 ∀ (f:Nat) aq S r S',X f aq S=some (some (r,S'))→∀ {D:Id→Option ABlock} H n,StR D H n S→ACalls P (.func f) aq H n (KS D r S')
variable {F:Nat→Option LFn} {X:Nat→List AVal→Sh→Option Rs} {B:Nat→Option (Bool×Nat)}
theorem zd3(hB:Us P B)(m:Nat)(hC:∀j,j<m→Zj P (ev F X B j).1∧z3l P (ev F X B j).2):z3l P (ev F X B m).2:=by
 intro c E S x h D N n0 e H n hi hE hs
 refine Ub (ι:=Nat×Ev×Sh×Env×AHeap×Nat) (fun y=>y.1≤m∧(ev F X B y.1).2 c y.2.1 y.2.2.1=some x∧EnR y.2.2.2.1 y.2.1∧StR D y.2.2.2.2.1 y.2.2.2.2.2 y.2.2.1) (fun y=>y.2.2.2.1) (fun y=>y.2.2.2.2.1) (fun y=>y.2.2.2.2.2) (fun y=>y.1) ?_ (m,E,S,e,H,n) ⟨p8 _,h,hE,hs⟩
 rintro⟨k,E,S,e,H,n⟩ ⟨hk,h,hE,hs⟩
 simp only at hk h hE hs ⊢
 cases k with
 |zero=>cases h
 |succ j=>
  have h:(match w5 (ev F X B j).1 (ev F X B j).2 B c E S with
   |some (.normal,e,S)=>(ev F X B j).2 c e S
   |x=>x)=some x:=h
  obtain⟨hc,hl⟩:=hC j (by omega)
  split at h
  ·rename_i E1 S1 h1
   refine(xc hc hl hB c N n0 h1 hi hE hs).mono ?_
   rintro ex e' H' n' ⟨rfl,hE',hs'⟩
   exact⟨(j,E1,S1,e',H',n'),⟨by simp only;omega,h,hE',hs'⟩,Nat.lt_succ_self _,rfl,rfl,rfl⟩
  ·rename_i hne
   refine(xc hc hl hB c N n0 h hi hE hs).mono ?_
   rintro ex e' H' n' ⟨rfl,hE',hs'⟩
   obtain⟨ex,E1,S1⟩:=x
   cases ex with
   |normal=>exact absurd h (hne _ _)
   |_=>exact⟨rfl,hE',hs'⟩
theorem qf(hF:z48 P F)(hX:qr P X)(hB:Us P B):∀m,Zj P (ev F X B m).1∧z3l P (ev F X B m).2:=by
 intro m
 induction m using Nat.strongRecOn with
 |ind m ih=>
  refine⟨?_,zd3 hB m ih⟩
  cases m with
  |zero=>intro f aq S r S' h;cases h
  |succ j=>
   intro f aq S r S' h D H n hs
   obtain⟨hc,hl⟩:=ih j (Nat.lt_succ_self _)
   have h:(match X f aq S with
    |some r=>r
    |none=>match F f with
     |some fn=>match p6 aq.length fn.lay.n with
      |true=>match z2j 0 aq .nil with
       |some e=>zhs fn.res (w5 (ev F X B j).1 (ev F X B j).2 B fn.body e S)
       |none=>none
      |false=>none
     |none=>none)=some (r,S'):=h
   split at h
   ·rename_i hx
    rw[h] at hx
    exact hX f aq S r S' hx H n hs
   ·split at h<;>try (cases h;done)
    rename_i fn hfn
    split at h<;>try (cases h;done)
    rename_i hlen
    split at h<;>try (cases h;done)
    rename_i E hE
    obtain⟨⟨bm,h1⟩,h2,h3⟩:=hF f fn hfn
    obtain⟨y,hy,hfin⟩:=ze2 h
    exact ACalls.ofFnW h1 h2 (yr.1 hlen) ((xc hc hl hB fn.body fn.lay n hy h3 (zae hE) hs).mono hfin)
theorem StR.empty:StR (fun _=>none) [] 0 ⟨.nil,0⟩:=⟨rfl,fun id b h=>(by
 simp only[Tr.at] at h
 split at h
 ·cases h
 ·cases h),fun id b h=>by cases h⟩
theorem zec(hF:z48 P F)(hX:qr P X)(hB:Us P B){m f:Nat}{aq:List AVal}{R:AVal}(hR:R.nid=true)(h:((ev F X B m).1 f aq ⟨.nil,0⟩).map (·.1)=some R):PFn P f aq R:=by
 cases hx:(ev F X B m).1 f aq ⟨.nil,0⟩ with
 |none=>rw[hx] at h;cases h
 |some y=>
  obtain⟨r,S'⟩:=y
  rw[hx] at h
  simp only[pK,p0] at h
  subst h
  have hc:=(qf hF hX hB m).1 f aq _ _ _ hx [] 0 StR.empty
  refine⟨hR,0,(hc.mono fun r' H' n' hk=>?_).fin⟩
  obtain⟨rfl,hs⟩:=hk
  exact⟨fun _=>false,fun _=>none,⟨fun i j k h=>(by cases h),fun i k h=>(by cases h),fun i h=>absurd h (Nat.not_lt_zero _),fun i k _ h=>(by cases h),p8 _⟩,.same _ (hR),fun id blk h=>by cases h⟩
def noB:Nat→Option (Bool×Nat):=fun _=>none
end Go.Fx
namespace Go.Fx
def eqI:Int→Int→Bool
 |.ofNat a,.ofNat b=>p5 a b
 |.negSucc a,.negSucc b=>p5 a b
 |_,_=>false
theorem zbu{a b:Int}(h:eqI a b=true):a=b:=by
 cases a<;>cases b<;>simp only[eqI,pI] at h<;>exact congrArg _ (pA h)
def ze6:List UInt8→List UInt8→Bool
 |[],[]=>true
 |a::r,b::s=>p5 a.toNat b.toNat&&ze6 r s
 |_,_=>false
theorem Wh:∀ {a b:List UInt8},ze6 a b=true→a=b
 |[],[],_=>rfl
 |a::r,b::s,h=>by
  simp only[ze6,p4] at h
  rw[UInt8.toNat_inj.1 (pA h.1),Wh h.2]
 |[],_::_,h=>by cases h
 |_::_,[],h=>by cases h
def z1a(a b:Id):Bool:=p5 a.1 b.1&&p5 a.2 b.2
theorem vn{a b:Id}(h:z1a a b=true):a=b:=by
 simp only[z1a,p4] at h
 exact Prod.ext (pA h.1) (pA h.2)
def zbe:Value→Value→Bool
 |.pointer none,.pointer none=>true
 |.slice none 0 0,.slice none 0 0=>true
 |.map none,.map none=>true
 |.nilFunc,.nilFunc=>true
 |.nilIface,.nilIface=>true
 |_,_=>false
theorem z2w{a b:Value}(h:zbe a b=true):a=b:=by
 unfold zbe at h
 split at h<;>first|rfl|cases h
mutual
def eqA:AVal→AVal→Bool
 |.any,.any=>true
 |.bool a,.bool b=>a==b
 |.int k a,.int k' b=>Wq k k'&&eqI a b
 |.str l,.str l'=>ze6 l l'
 |.val v,.val v'=>zbe v v'
 |.agg l,.agg l'=>eqL l l'
 |.tup l,.tup l'=>eqL l l'
 |.isl s es f,.isl s' es' f'=>p5 s s'&&zc1 es es'&&(f==f')
 |.ptr b i o,.ptr b' i' o'=>z1a b b'&&p5 i i'&&p5 o o'
 |.msl b s o l f,.msl b' s' o' l' f'=>z1a b b'&&p5 s s'&&p5 o o'&&p5 l l'&&(f==f')
 |.map b,.map b'=>z1a b b'
 |.fn (.func f) a c,.fn (.func f') a' c'=>p5 f f'&&eqL a a'&&eqL c c'
 |.ifc t v,.ifc t' v'=>p5 t t'&&eqA v v'
 |.cnd p x,.cnd p' x'=>(p==p')&&eqA x x'
 |_,_=>false
def eqL:List AVal→List AVal→Bool
 |[],[]=>true
 |x::r,y::s=>eqA x y&&eqL r s
 |_,_=>false
def zc1:List (List AVal)→List (List AVal)→Bool
 |[],[]=>true
 |x::r,y::s=>eqL x y&&zc1 r s
 |_,_=>false
end
mutual
theorem Xa:∀ {x y:AVal},eqA x y=true→x=y:=by
 intro x y h
 unfold eqA at h
 split at h
 case h_1=>rfl
 case h_2=>rw[eq_of_beq h]
 case h_3=>simp only[p4,ko] at h;rw[h.1,zbu h.2]
 case h_4=>rw[Wh h]
 case h_5=>rw[z2w h]
 case h_6=>rw[Wp h]
 case h_7=>rw[Wp h]
 case h_8=>simp only[p4,zk] at h;rw[h.1.1,Kb h.1.2,eq_of_beq h.2]
 case h_9=>simp only[p4,zk] at h;rw[vn h.1.1,h.1.2,h.2]
 case h_10=>simp only[p4,zk] at h;rw[vn h.1.1.1.1,h.1.1.1.2,h.1.1.2,h.1.2,eq_of_beq h.2]
 case h_11=>rw[vn h]
 case h_12=>simp only[p4,zk] at h;rw[h.1.1,Wp h.1.2,Wp h.2]
 case h_13=>simp only[p4,zk] at h;rw[h.1,Xa h.2]
 case h_14=>simp only[p4] at h;rw[eq_of_beq h.1,Xa h.2]
 case h_15=>cases h
theorem Wp:∀ {x y:List AVal},eqL x y=true→x=y
 |[],[],_=>rfl
 |a::r,b::s,h=>by
  simp only[eqL,p4] at h
  rw[Xa h.1,Wp h.2]
 |[],_::_,h=>by simp[eqL] at h
 |_::_,[],h=>by simp[eqL] at h
theorem Kb:∀ {x y:List (List AVal)},zc1 x y=true→x=y
 |[],[],_=>rfl
 |a::r,b::s,h=>by
  simp only[zc1,p4] at h
  rw[Wp h.1,Kb h.2]
 |[],_::_,h=>by simp[zc1] at h
 |_::_,[],h=>by simp[zc1] at h
end
def eqM:List (AVal×AVal)→List (AVal×AVal)→Bool
 |[],[]=>true
 |x::r,y::s=>eqA x.1 y.1&&eqA x.2 y.2&&eqM r s
 |_,_=>false
theorem zcb:∀ {x y:List (AVal×AVal)},eqM x y=true→x=y
 |[],[],_=>rfl
 |a::r,b::s,h=>by
  simp only[eqM,p4] at h
  rw[Prod.ext (Xa h.1.1) (Xa h.1.2),zcb h.2]
 |[],_::_,h=>by cases h
 |_::_,[],h=>by cases h
def eqB:ABlock→ABlock→Bool
 |.rows s es,.rows s' es'=>p5 s s'&&zc1 es es'
 |.one l,.one l'=>eqL l l'
 |.amap l,.amap l'=>eqM l l'
 |.tok,.tok=>true
 |.bld T g,.bld T' g'=>p5 T T'&&z1a g g'
 |.buf e l,.buf e' l'=>p5 e e'&&ze6 l l'
 |_,_=>false
theorem zfu{x y:ABlock}(h:eqB x y=true):x=y:=by
 unfold eqB at h
 split at h
 case h_1=>simp only[p4,zk] at h;rw[h.1,Kb h.2]
 case h_2=>rw[Wp h]
 case h_3=>rw[zcb h]
 case h_4=>rfl
 case h_5=>simp only[p4,zk] at h;rw[h.1,vn h.2]
 case h_6=>simp only[p4,zk] at h;rw[h.1,Wh h.2]
 case h_7=>cases h
def eqO:Option ABlock→Option ABlock→Bool
 |none,none=>true
 |some a,some b=>eqB a b
 |_,_=>false
def eqT:Tr ABlock→Tr ABlock→Bool
 |.nil,.nil=>true
 |.nd v l r,.nd v' l' r'=>eqO v v'&&eqT l l'&&eqT r r'
 |_,_=>false
def zkc(f0:Nat)(args0:List AVal)(S0:Sh)(r:AVal)(S1:Sh)(f:Nat)(xs:List AVal)(S:Sh):Option Rs:=
 match p5 f f0 with
 |true=>match p5 S.n S0.n&&eqL xs args0&&eqT S.t S0.t with
  |true=>some (some (r,S1))
  |false=>none
 |false=>none
variable {P:Program}
end Go.Fx
namespace Go.Fx
def zj6(y:AVal):Bool:=match y.imm with
 |some z=>eqA z y
 |none=>false
theorem zeu{y:AVal}(h:zj6 y=true):y.imm=some y:=by
 unfold zj6 at h
 split at h
 ·rename_i z hz;rw[hz,Xa h]
 ·cases h
mutual
def zey(F K:Id→Bool)(h:Hp):AVal→AVal→Bool
 |_,.any=>true
 |.bool a,.bool b=>a==b
 |.int k a,.int k' b=>Wq k k'&&eqI a b
 |.str l,.str l'=>ze6 l l'
 |.val v,.val v'=>zbe v v'
 |.agg l,.agg l'=>z7p F K h l l'
 |.tup l,.tup l'=>z7p F K h l l'
 |.isl s es f,.isl s' es' f'=>p5 s s'&&zc1 es es'&&(f==f')
 |.msl b s o l f,.isl s' es' f'=>F b&&(match h b with
  |some (.rows s2 es)=>p5 s s'&&p5 s2 s&&p6 (o+l) es.length&&p5 es'.length l&&(!f' || f)&&z6t F K h ((es.drop o).take l) es'&&es'.all (fun r=>r.all zj6)
  |_=>false)
 |.ptr b i o,.ptr b' i' o'=>z1a b b'&&K b&&p5 i i'&&p5 o o'
 |.msl b s o l f,.msl b' s' o' l' f'=>z1a b b'&&K b&&p5 s s'&&p5 o o'&&p5 l l'&&(f==f')
 |.map b,.map b'=>z1a b b'&&K b
 |.fn (.func f) a c,.fn (.func f') a' c'=>p5 f f'&&z7p F K h a a'&&z7p F K h c c'
 |.ifc t v,.ifc t' v'=>p5 t t'&&zey F K h v v'
 |_,_=>false
def z7p(F K:Id→Bool)(h:Hp):List AVal→List AVal→Bool
 |[],[]=>true
 |x::r,y::s=>zey F K h x y&&z7p F K h r s
 |_,_=>false
def z6t(F K:Id→Bool)(h:Hp):List (List AVal)→List (List AVal)→Bool
 |[],[]=>true
 |x::r,y::s=>z7p F K h x y&&z6t F K h r s
 |_,_=>false
end
section
variable {F K:Id→Bool} {h:Hp} {H:AHeap} {ρ:Id→Option Id} {n:Nat} (hle:∀id b,h id=some b→H.get id=some b) (hρ:∀id,K id=true→ρ id=some id)
include hle hρ
mutual
theorem Kz(x y:AVal)(hc:zey F K h x y=true):Vw F H ρ n x y:=by
 unfold zey at hc
 split at hc
 ·exact .any _
 ·rw[eq_of_beq hc];exact .same _ rfl
 ·simp only[p4,ko] at hc;rw[hc.1,zbu hc.2];exact .same _ rfl
 ·rw[Wh hc];exact .same _ rfl
 ·rw[z2w hc];exact .same _ rfl
 ·obtain⟨h1,h2⟩:=u6 _ _ hc
  exact .agg _ _ h1 h2
 ·obtain⟨h1,h2⟩:=u6 _ _ hc
  exact .tup _ _ h1 h2
 ·simp only[p4,zk] at hc
  rw[hc.1.1,Kb hc.1.2,eq_of_beq hc.2];exact .same _ rfl
 ·rename_i b s o l f s' es' f'
  simp only[p4] at hc
  obtain⟨hF,hc⟩:=hc
  split at hc<;>try (cases hc;done)
  rename_i s2 es hb
  simp only[p4,zk,pB] at hc
  obtain⟨⟨⟨⟨⟨⟨rfl,rfl⟩,h3⟩,rfl⟩,h5⟩,h6⟩,h7⟩:=hc
  have h3:=pN h3
  obtain⟨g1,g2⟩:=Kx _ _ h6
  have hat:∀i r',es'[i]?=some r'→((es.drop o).take es'.length)[i]?=es[o+i]?:=fun i r' hr=>by
   have hi:i<es'.length:=by
    rcases pQ i es'.length with h|h
    ·exact h
    ·rw[pH h] at hr;cases hr
   rw[List.getElem?_take_of_lt hi,List.getElem?_drop]
  refine .frz b _ o _ f f' es es' (fun e=>?_) hF (hle _ _ hb) h3 rfl (fun i r r' h1 h2=>?_) (fun i r r' j x y h1 h2 hx hy=>?_) (fun r' hr y hy=>zeu (h7 r' hr y hy))
  ·subst e;simpa using h5
  ·exact(g2 i r r' (by rw[hat i r' h2];exact h1) h2).1
  ·exact(g2 i r r' (by rw[hat i r' h2];exact h1) h2).2 j x y hx hy
 ·simp only[p4,zk] at hc
  obtain⟨⟨⟨h1,h2⟩,rfl⟩,rfl⟩:=hc
  have:=vn h1
  subst this
  exact .ptr _ _ _ _ (hρ _ h2)
 ·simp only[p4,zk] at hc
  obtain⟨⟨⟨⟨⟨h1,h2⟩,rfl⟩,rfl⟩,rfl⟩,h3⟩:=hc
  have:=vn h1
  subst this
  have:=eq_of_beq h3
  subst this
  exact .msl _ _ _ _ _ _ (hρ _ h2)
 ·simp only[p4] at hc
  have:=vn hc.1
  subst this
  exact .map _ _ (hρ _ hc.2)
 ·simp only[p4,zk] at hc
  obtain⟨⟨rfl,h1⟩,h2⟩:=hc
  obtain⟨a1,a2⟩:=u6 _ _ h1
  obtain⟨c1,c2⟩:=u6 _ _ h2
  exact .fn _ _ _ _ _ a1 c1 a2 c2
 ·simp only[p4,zk] at hc
  obtain⟨rfl,h1⟩:=hc
  exact .ifc _ _ _ (Kz _ _ h1)
 ·cases hc
termination_by SizeOf.sizeOf y
theorem u6(xs ys:List AVal)(hc:z7p F K h xs ys=true):xs.length=ys.length∧∀ (i:Nat) (x y:AVal),xs[i]?=some x→ys[i]?=some y→Vw F H ρ n x y:=by
 have _:=hle
 have _:=hρ
 unfold z7p at hc
 split at hc
 ·exact⟨rfl,fun i x y h1=>by cases h1⟩
 ·simp only[p4] at hc
  have g:=Kz _ _ hc.1
  obtain⟨g1,g2⟩:=u6 _ _ hc.2
  refine⟨by simp[g1],fun i x y h1 h2=>?_⟩
  cases i with
  |zero=>simp only[pC,p0] at h1 h2;rw[←h1,←h2];exact g
  |succ i=>exact g2 i x y (by simpa using h1) (by simpa using h2)
 ·cases hc
termination_by SizeOf.sizeOf ys
theorem Kx(xs ys:List (List AVal))(hc:z6t F K h xs ys=true):xs.length=ys.length∧∀ (i:Nat) (r r':List AVal),xs[i]?=some r→ys[i]?=some r'→r.length=r'.length∧∀ (j:Nat) (x y:AVal),r[j]?=some x→r'[j]?=some y→Vw F H ρ n x y:=by
 have _:=hle
 have _:=hρ
 unfold z6t at hc
 split at hc
 ·exact⟨rfl,fun i x y h1=>by cases h1⟩
 ·simp only[p4] at hc
  have g:=u6 _ _ hc.1
  obtain⟨g1,g2⟩:=Kx _ _ hc.2
  refine⟨by simp[g1],fun i x y h1 h2=>?_⟩
  cases i with
  |zero=>simp only[pC,p0] at h1 h2;rw[←h1,←h2];exact g
  |succ i=>exact g2 i x y (by simpa using h1) (by simpa using h2)
 ·cases hc
termination_by SizeOf.sizeOf ys
end
end
def za0(F K:Id→Bool)(h:Hp):List (AVal×AVal)→List (AVal×AVal)→Bool
 |[],[]=>true
 |x::r,y::s=>eqA x.1 y.1&&zey F K h x.2 y.2&&za0 F K h r s
 |_,_=>false
def zhr(F K:Id→Bool)(h:Hp):ABlock→ABlock→Bool
 |.rows s es,.rows s' es'=>p5 s s'&&z6t F K h es es'
 |.one l,.one l'=>z7p F K h l l'
 |.amap l,.amap l'=>za0 F K h l l'
 |.bld T g,.bld T' g'=>p5 T T'&&z1a g g'&&K g
 |.buf e l,.buf e' l'=>p5 e e'&&ze6 l l'
 |.tok,.tok=>true
 |_,_=>false
section
variable {F K:Id→Bool} {h:Hp} {H:AHeap} {ρ:Id→Option Id} {n:Nat} (hle:∀id b,h id=some b→H.get id=some b) (hρ:∀id,K id=true→ρ id=some id)
include hle hρ
theorem z3r:∀ {xs ys:List (AVal×AVal)},za0 F K h xs ys=true→xs.length=ys.length∧∀ (i:Nat) (k x k' y:AVal),xs[i]?=some (k,x)→ys[i]?=some (k',y)→k=k'∧Vw F H ρ n x y
 |[],[],_=>⟨rfl,fun i k x k' y h1=>by cases h1⟩
 |a::r,b::s,hc=>by
  simp only[za0,p4] at hc
  obtain⟨g1,g2⟩:=z3r hc.2
  refine⟨by simp[g1],fun i k x k' y h1 h2=>?_⟩
  cases i with
  |zero=>
   simp only[pC,p0] at h1 h2
   subst h1;subst h2
   exact⟨Xa hc.1.1,Kz hle hρ _ _ hc.1.2⟩
  |succ i=>exact g2 i k x k' y (by simpa using h1) (by simpa using h2)
 |[],_::_,hc=>by cases hc
 |_::_,[],hc=>by cases hc
theorem zdz{b b':ABlock}(hc:zhr F K h b b'=true):BVw F H ρ n b b':=by
 unfold zhr at hc
 split at hc
 ·simp only[p4,zk] at hc
  obtain⟨rfl,hc⟩:=hc
  obtain⟨g1,g2⟩:=Kx hle hρ _ _ hc
  exact .rows _ _ _ g1 g2
 ·obtain⟨g1,g2⟩:=u6 hle hρ _ _ hc
  exact .one _ _ g1 g2
 ·obtain⟨g1,g2⟩:=z3r hle hρ hc
  exact .amapV _ _ g1 g2
 ·simp only[p4,zk] at hc
  obtain⟨⟨rfl,h1⟩,h2⟩:=hc
  have:=vn h1
  subst this
  exact .bld _ _ _ (hρ _ h2)
 ·simp only[p4,zk] at hc
  rw[hc.1,Wh hc.2]
  exact .buf _ _
 ·exact .tok
 ·cases hc
end
mutual
theorem Wd:∀ (x:AVal),x.ren (fun i=>i)=x
 |.any=>rfl
 |.bool _=>rfl
 |.int _ _=>rfl
 |.str _=>rfl
 |.val _=>rfl
 |.isl _ _ _=>rfl
 |.iptr _ _ _ _=>rfl
 |.osl t _ _=>rfl
 |.ptr t _ _=>rfl
 |.msl t _ _ _ _=>rfl
 |.map t=>rfl
 |.optp t=>rfl
 |.tup cs=>by simp only[AVal.ren];rw[Qx cs]
 |.agg cs=>by simp only[AVal.ren];rw[Qx cs]
 |.fn f a c=>by simp only[AVal.ren];rw[Qx a,Qx c]
 |.ifc t x=>by simp only[AVal.ren];rw[Wd x]
 |.cnd q x=>by simp only[AVal.ren];rw[Wd x]
theorem Qx:∀ (cs:List AVal),AVal.ren.renL (fun i=>i) cs=cs
 |[]=>rfl
 |x::r=>by simp only[AVal.ren.renL];rw[Wd x,Qx r]
end
def okB(p:Id→Bool):ABlock→Bool
 |.rows _ es=>es.all (AVal.inP.inPL p)
 |.one cs=>AVal.inP.inPL p cs
 |.amap es=>es.all fun x=>x.1.inP p&&x.2.inP p
 |.tok=>true
 |.bld _ g=>p g
 |.buf _ _=>true
 |_=>false
section
variable {p:Id→Bool} {g:Id→Id} (hg:∀id:Id,p id=true→g id=id)
include hg
theorem Kh(x:AVal)(hx:x.inP p=true):x.ren g=x:=(jc (h:=fun i=>i) hg x hx).trans (Wd x)
theorem z3n(x:List AVal)(hx:AVal.inP.inPL p x=true):AVal.ren.renL g x=x:=(j7 (h:=fun i=>i) hg x hx).trans (Qx x)
theorem z3o{b:ABlock}(hb:okB p b=true):b.ren g=b:=by
 unfold okB at hb
 split at hb
 ·rename_i s es
  simp only[pB] at hb
  have:es.map (AVal.ren.renL g)=es:=by
   refine List.ext_getElem? fun i=>?_
   rw[pD]
   cases h:es[i]? with
   |none=>rfl
   |some r=>simp only[pK];rw[z3n hg r (hb r (pU h))]
  show ABlock.rows s (es.map (AVal.ren.renL g))=_
  rw[this]
 ·rename_i cs
  show ABlock.one (AVal.ren.renL g cs)=_
  rw[z3n hg cs hb]
 ·rename_i es
  simp only[pB,p4] at hb
  have:es.map (fun x=>(x.1.ren g,x.2.ren g))=es:=by
   refine List.ext_getElem? fun i=>?_
   rw[pD]
   cases h:es[i]? with
   |none=>rfl
   |some r=>simp only[pK];rw[Kh hg r.1 (hb r (pU h)).1,Kh hg r.2 (hb r (pU h)).2]
  show ABlock.amap (es.map (fun x=>(x.1.ren g,x.2.ren g)))=_
  rw[this]
 ·rfl
 ·rename_i T q
  show ABlock.bld T (g q)=_
  rw[hg q hb]
 ·rfl
 ·cases hb
end
theorem zdf{p:Id→Bool}{b:ABlock}(hb:okB p b=true):b.inP p=true:=by
 unfold okB at hb
 split at hb<;>first|exact hb|rfl|(cases hb;done)
def zf6:AHeap→Sh→Option Sh
 |[],S=>some S
 |(id,b)::r,S=>match S.upd id b with
  |some S'=>zf6 r S'
  |none=>none
def zf4:List Id→Sh→Option Sh
 |[],S=>some S
 |id::r,S=>match S.cut id with
  |some S'=>zf4 r S'
  |none=>none
theorem ze9{S S':Sh}{id:Id}{b:ABlock}(h:S.upd id b=some S'):S'.n=S.n∧∀j,S'.t.at j=if j=id then some b else S.t.at j:=by
 unfold Sh.upd at h
 split at h<;>simp only[p0,reduceCtorEq] at h
 rename_i t ht
 subst h
 exact⟨rfl,fun j=>vu ht j⟩
theorem zci{S S':Sh}{id:Id}(h:S.cut id=some S'):S'.n=S.n∧∀j,S'.t.at j=if j=id then none else S.t.at j:=by
 unfold Sh.cut at h
 split at h<;>simp only[p0,reduceCtorEq] at h
 rename_i t ht
 subst h
 exact⟨rfl,fun j=>vu ht j⟩
def zft:List Id→Bool
 |[]=>true
 |x::r=>!(r.any (z1a x))&&zft r
theorem z1w:∀ {l:List Id},zft l=true→l.Nodup
 |[],_=>List.nodup_nil
 |x::r,h=>by
  simp only[zft,p4,Bool.not_eq_true',List.any_eq_false] at h
  refine List.nodup_cons.2 ⟨fun hx=>?_,z1w h.2⟩
  exact h.1 x hx (by simp[z1a])
theorem z1o{L:AHeap}{id:Id}(h:id∉L.map (·.1)):L.get id=none:=by
 cases hg:L.get id with
 |none=>rfl
 |some b=>exact absurd (pR.2 ⟨_,wk hg,rfl⟩) h
theorem z20:∀ {L:AHeap} {S S':Sh},zf6 L S=some S'→(L.map (·.1)).Nodup→S'.n=S.n∧∀j,S'.t.at j=match L.get j with|some b=>some b|none=>S.t.at j
 |[],S,S',h,_=>by simp only[zf6,p0] at h;subst h;exact⟨rfl,fun j=>rfl⟩
 |(id,b)::r,S,S',h,hn=>by
  simp only[zf6] at h
  split at h<;>try (cases h;done)
  rename_i S2 h2
  simp only[List.map_cons,List.nodup_cons] at hn
  obtain⟨g1,g2⟩:=ze9 h2
  obtain⟨k1,k2⟩:=z20 h hn.2
  refine⟨k1.trans g1,fun j=>?_⟩
  rw[k2 j,g2 j]
  by_cases hj:id=j
  ·subst hj
   rw[AHeap.get_cons_same,z1o hn.1,if_pos rfl]
  ·rw[AHeap.get_cons_other _ _ hj,if_neg (fun e=>hj e.symm)]
theorem z18:∀ {L:List Id} {S S':Sh},zf4 L S=some S'→S'.n=S.n∧∀j,S'.t.at j=if j∈L then none else S.t.at j
 |[],S,S',h=>by simp only[zf4,p0] at h;subst h;exact⟨rfl,fun j=>by simp⟩
 |id::r,S,S',h=>by
  simp only[zf4] at h
  split at h<;>try (cases h;done)
  rename_i S2 h2
  obtain⟨g1,g2⟩:=zci h2
  obtain⟨k1,k2⟩:=z18 h
  refine⟨k1.trans g1,fun j=>?_⟩
  rw[k2 j,g2 j]
  by_cases hj:j=id
  ·subst hj;simp
  ·by_cases hr:j∈r<;>simp[hj,hr]
def inT(t:Tr ABlock)(L:AHeap):Bool:=L.all fun x=>match t.at x.1 with
 |some b=>eqB b x.2
 |none=>false
def inF(Fs:List Id)(id:Id):Bool:=Fs.any (z1a id)
def inK(L:AHeap)(id:Id):Bool:=L.any fun x=>z1a x.1 id
theorem Q8{Fs:List Id}{id:Id}(h:inF Fs id=true):id∈Fs:=by
 obtain⟨x,h1,h2⟩:=List.any_eq_true.1 h
 rwa [vn h2]
theorem Jd{L:AHeap}{id:Id}(h:inK L id=true):id∈L.map (·.1):=by
 obtain⟨x,h1,h2⟩:=List.any_eq_true.1 h
 rw[←vn h2]
 exact pR.2 ⟨x,h1,rfl⟩
theorem zda{L:AHeap}{id:Id}(h:id∈L.map (·.1)):inK L id=true:=by
 obtain⟨x,h1,rfl⟩:=pR.1 h
 exact List.any_eq_true.2 ⟨x,h1,by simp[z1a]⟩
variable {P:Program} {F:Nat→Option LFn} {X:Nat→List AVal→Sh→Option Rs} {B:Nat→Option (Bool×Nat)}
def zhx(C:Nat→List AVal→Sh→Rs)(f:Nat)(args0:List AVal)(L0:AHeap)(n0:Nat)(r:AVal)(L1:AHeap)(d:Nat):Bool:=
 match zf6 L0 ⟨.nil,n0⟩ with
 |some S0=>match C f args0 S0 with
  |some (r',S1)=>eqA r' r&&p5 S1.n (n0+d)&&inT S1.t L1
  |none=>false
 |none=>false
def zi5(L0:AHeap)(n0:Nat)(r:AVal)(L1:AHeap)(d:Nat):Bool:=
 zft (L0.map (·.1))&&zft (L1.map (·.1))&&(L0.all fun x=>p6 (x.1.1+1) n0)&&(r.inP fun id=>(p6 n0 id.1&&p6 (id.1+1) (n0+d)) || inK L0 id) &&
  (L1.all fun x=>((p6 n0 x.1.1&&p6 (x.1.1+1) (n0+d)) || inK L0 x.1)&&okB (fun id=>(p6 n0 id.1&&p6 (id.1+1) (n0+d)) || inK L0 id) x.2)
section
variable {L0 L1:AHeap} {n0 d:Nat} {r:AVal}
def Jl(L0:AHeap)(n0 d:Nat)(id:Id):Bool:=(p6 n0 id.1&&p6 (id.1+1) (n0+d)) || inK L0 id
structure Sta(L0:AHeap)(n0:Nat)(r:AVal)(L1:AHeap)(d:Nat):Prop where
 n1:(L0.map (·.1)).Nodup
 n2:(L1.map (·.1)).Nodup
 lt:∀x∈L0,x.1.1<n0
 r:r.inP (Jl L0 n0 d)=true
 l:∀x∈L1,Jl L0 n0 d x.1=true∧okB (Jl L0 n0 d) x.2=true
theorem zen(h:zi5 L0 n0 r L1 d=true):Sta L0 n0 r L1 d:=by
 unfold zi5 at h
 simp only[p4] at h
 obtain⟨⟨⟨⟨h1,h2⟩,h3⟩,h4⟩,h5⟩:=h
 refine⟨z1w h1,z1w h2,fun x hx=>pN (pB.1 h3 x hx),h4,fun x hx=>?_⟩
 have:=pB.1 h5 x hx
 simp only[p4] at this
 exact this
theorem Ym(hs:∀x∈L0,x.1.1<n0){id:Id}(h:Jl L0 n0 d id=true):id.1<n0+d:=by
 unfold Jl at h
 simp only[Bool.or_eq_true,p4] at h
 rcases h with h|h
 ·exact pN h.2
 ·obtain⟨x,h1,rfl⟩:=pR.1 (Jd h)
  exact Nat.lt_of_lt_of_le (hs x h1) (Nat.le_add_right _ _)
theorem z7h{C:Nat→List AVal→Sh→Rs}(hC:Zj P C){f:Nat}{args0:List AVal}(h:zhx C f args0 L0 n0 r L1 d=true)(hs:Sta L0 n0 r L1 d):ACalls P (.func f) args0 L0 n0 (Xp (n0+d) r L1):=by
 unfold zhx at h
 split at h<;>try (cases h;done)
 rename_i S0 hS0
 split at h<;>try (cases h;done)
 rename_i r' S1 hrun
 simp only[p4,zk] at h
 obtain⟨⟨h1,h2⟩,h3⟩:=h
 have:=Xa h1
 subst this
 obtain⟨g1,g2⟩:=z20 hS0 hs.n1
 have hst:StR (fun _=>none) L0 n0 S0:=by
  refine⟨g1.symm,fun id b hb=>?_,fun id b hb=>by cases hb⟩
  rw[g2 id] at hb
  cases hg:AHeap.get L0 id with
  |some c=>rw[hg] at hb;exact hb
  |none=>
   rw[hg] at hb
   have:(⟨.nil,n0⟩:Sh).t.at id=none:=by
    show Tr.at .nil id=none
    unfold Tr.at
    split
    ·rename_i k _;rfl
    ·rfl
   simp only at hb
   rw[this] at hb;cases hb
 refine((hC f args0 S0 _ _ hrun L0 n0 hst).mono fun r'' H' n' hk=>?_).fin
 obtain⟨rfl,hst1⟩:=hk
 have hfix:∀id:Id,Jl L0 n0 d id=true→(fun i:Id=>i) id=id:=fun _ _=>rfl
 refine⟨fun _=>false,fun id=>if id.1<n0+d then some id else none,⟨fun i j k hi hj=>?_,fun i k hi=>?_,fun i hi=>?_,fun i k hi hk=>?_,Nat.le_add_right _ _⟩,?_,fun id blk hb=>?_⟩
 ·have hi:(if i.1<n0+d then some i else none)=some k:=hi
  have hj:(if j.1<n0+d then some j else none)=some k:=hj
  split at hi<;>simp only[p0,reduceCtorEq] at hi
  split at hj<;>simp only[p0,reduceCtorEq] at hj
  rw[hi,hj]
 ·have hi:(if i.1<n0+d then some i else none)=some k:=hi
  split at hi<;>simp only[p0,reduceCtorEq] at hi
  subst hi;assumption
 ·exact .inl ⟨if_pos (by omega),rfl⟩
 ·have hk:(if i.1<n0+d then some i else none)=some k:=hk
  split at hk<;>simp only[p0,reduceCtorEq] at hk
  subst hk;exact .inl hi
 ·have:=Vw.mov (F:=fun _=>false) (H:=H') (ρ:=fun id:Id=>if id.1<n0+d then some id else none) (n:=n0+d) (Jl L0 n0 d) (fun i=>i) r'' hs.r (fun id hid=>⟨Ym hs.lt hid,if_pos (Ym hs.lt hid)⟩)
  rwa [Wd] at this
 ·obtain⟨q1,q2⟩:=hs.l _ (wk hb)
  have hlt:=Ym hs.lt q1
  have hin:=pB.1 h3 _ (wk hb)
  simp only at hin
  split at hin<;>try (cases hin;done)
  rename_i b hb2
  have hH:=hst1.h _ _ hb2
  have e:=zfu hin
  subst e
  have hlt:id.1<n0+d:=hlt
  unfold Xh
  simp only[hlt,if_true,hH]
  refine⟨trivial,?_⟩
  have:=BVw.mov (F:=fun _=>false) (H:=H') (ρ:=fun id:Id=>if id.1<n0+d then some id else none) (n:=n0+d) (Jl L0 n0 d) (fun i=>i) b (zdf q2) (fun id hid=>⟨Ym hs.lt hid,if_pos (Ym hs.lt hid)⟩)
  rwa [z3o hfix q2] at this
end
def z5t(f0:Nat)(Fs:List Id)(args0:List AVal)(L0:AHeap)(n0:Nat)(r:AVal)(L1:AHeap)(d:Nat)(f:Nat)(xs:List AVal)(S:Sh):Option Rs:=
 match p5 f f0 with
 |true=>match p5 S.n n0&&Fs.all (fun id=>match S.t.at id with|some _=>true|none=>false)&&(L0.all fun x=>match S.t.at x.1 with|some b=>!(inF Fs x.1)&&zhr (inF Fs) (inK L0) S.t.at b x.2|none=>false)&&z7p (inF Fs) (inK L0) S.t.at xs args0 with
  |true=>match zf4 (Fs++L0.map (·.1)) S with
   |some S2=>match zf6 L1 S2 with
    |some S3=>some (some (r,⟨S3.t,n0+d+1⟩))
    |none=>none
   |none=>none
  |false=>none
 |false=>none
theorem vl{C:Nat→List AVal→Sh→Rs}(hC:Zj P C){f0:Nat}{Fs:List Id}{args0:List AVal}{L0 L1:AHeap}{n0 d:Nat}{r:AVal}(hrun:zhx C f0 args0 L0 n0 r L1 d=true)(hsta:zi5 L0 n0 r L1 d=true):qr P (z5t f0 Fs args0 L0 n0 r L1 d):=by
 have hs:=zen hsta
 have hcall:=z7h hC hrun hs
 intro f xs S r' S' h D H n hst
 unfold z5t at h
 split at h<;>try (cases h;done)
 rename_i hf
 split at h<;>try (cases h;done)
 rename_i hc
 split at h<;>try (cases h;done)
 rename_i S2 hS2
 split at h<;>try (cases h;done)
 rename_i S3 hS3
 simp only[p0,p9] at h
 obtain⟨rfl,rfl⟩:=h
 have e1:=pA hf
 subst e1
 simp only[p4,zk] at hc
 obtain⟨⟨⟨hn,hFs⟩,hL0⟩,hargs⟩:=hc
 have hnn:n=n0:=hst.n.trans hn
 subst hnn
 have hFs':∀id∈Fs,∃b,S.t.at id=some b:=fun id hid=>by
  have:=pB.1 hFs id hid
  split at this
  ·rename_i b hb;exact⟨b,hb⟩
  ·cases this
 have hL0':∀x∈L0,∃b,S.t.at x.1=some b∧inF Fs x.1=false∧zhr (inF Fs) (inK L0) S.t.at b x.2=true:=fun x hx=>by
  have:=pB.1 hL0 x hx
  split at this
  ·rename_i b hb
   simp only[p4,Bool.not_eq_true'] at this
   exact⟨b,hb,this.1,this.2⟩
  ·cases this
 let ρ:Id→Option Id:=fun id=>if inK L0 id=true then some id else none
 have hρ:∀id,inK L0 id=true→ρ id=some id:=fun id h=>if_pos h
 have hρ':∀ {i x},ρ i=some x→x=i∧inK L0 i=true:=fun {i x} h=>by
  simp only[ρ] at h
  split at h<;>simp only[p0,reduceCtorEq] at h
  exact⟨h.symm,by assumption⟩
 have hup:∀id:Id,Jl L0 n d id=true→Q4 ρ n n d id=id:=fun id hid=>by
  unfold Q4
  unfold Jl at hid
  simp only[Bool.or_eq_true,p4] at hid
  rcases hid with hid|hid
  ·have:=pN hid.1
   rw[if_neg (by omega)]
   exact Prod.ext (by simp only;omega) rfl
  ·obtain⟨x,h1,h2⟩:=pR.1 (Jd hid)
   have:=hs.lt x h1
   rw[h2] at this
   rw[if_pos this,hρ id hid];rfl
 obtain⟨c1,c2⟩:=z18 hS2
 obtain⟨p1,p2⟩:=z20 hS3 hs.n2
 refine ACalls.frame (k:=n) (m:=d) (F:=inF Fs) (ρ:=ρ) (H0:=L0) hcall (fun i j x hi hj=>?_) (fun i x hi=>?_) (fun x hx=>?_) ?_ (fun i b hb=>?_) (fun x=>inF Fs x || inK L0 x) (fun x=>?_) hs.n2 ?_
 ·exact(hρ' hi).1.symm.trans (hρ' hj).1
 ·obtain⟨rfl,hk⟩:=hρ' hi
  obtain⟨y,h1,rfl⟩:=pR.1 (Jd hk)
  obtain⟨b,_,h3,_⟩:=hL0' y h1
  exact⟨hs.lt y h1,hs.lt y h1,h3⟩
 ·obtain⟨b,hb⟩:=hFs' x (Q8 hx)
  rw[hst.h _ _ hb];nofun
 ·have:=u6 (F:=inF Fs) (K:=inK L0) (h:=S.t.at) (H:=H) (ρ:=ρ) (n:=n) hst.h hρ xs args0 hargs
  clear hargs hcall hrun
  obtain⟨g1,g2⟩:=this
  revert g1 g2
  generalize args0=ys
  induction xs generalizing ys with
  |nil=>
   intro g1 _
   cases ys with
   |nil=>trivial
   |cons=>simp at g1
  |cons x xs ih=>
   intro g1 g2
   cases ys with
   |nil=>simp at g1
   |cons y ys=>exact⟨g2 0 x y rfl rfl,ih ys (by simpa using g1) (fun i a b h1 h2=>g2 (i+1) a b (by simpa using h1) (by simpa using h2))⟩
 ·obtain⟨b',hb',_,hck⟩:=hL0' _ (wk hb)
  exact⟨i,b',hρ i (zda (pR.2 ⟨_,wk hb,rfl⟩)),hst.h _ _ hb',zdz hst.h hρ hck⟩
 ·simp only[Bool.or_eq_true]
  constructor
  ·rintro(h|h)
   ·exact .inl h
   ·exact .inr ⟨x,hρ x h⟩
  ·rintro(h|⟨i,hi⟩)
   ·exact .inl h
   ·obtain⟨rfl,hk⟩:=hρ' hi;exact .inr hk
 ·have hren:AHeap.renamed (Q4 ρ n n d) L1=L1:=by
   unfold AHeap.renamed
   refine List.ext_getElem? fun i=>?_
   rw[pD]
   cases h:L1[i]? with
   |none=>rfl
   |some x=>
    obtain⟨q1,q2⟩:=hs.l x (pU h)
    simp only[pK]
    rw[hup _ q1,z3o hup q2]
  rw[hren,Kh hup r hs.r]
  refine⟨rfl,rfl,fun id b hb=>?_,fun id b hb=>?_⟩
  ·rw[p2 id] at hb
   rw[AHeap.get_append]
   cases hg:AHeap.get L1 id with
   |some c=>rw[hg] at hb;simpa using hb
   |none=>
    rw[hg] at hb
    simp only at hb
    rw[c2 id] at hb
    split at hb
    ·cases hb
    ·rename_i hni
     rw[Option.none_or,AHeap.get_without,if_neg (fun hx=>hni ?_)]
     ·exact hst.h _ _ hb
     ·simp only[Bool.or_eq_true] at hx
      rcases hx with hx|hx
      ·exact List.mem_append_left _ (Q8 hx)
      ·exact List.mem_append_right _ (Jd hx)
  ·obtain⟨d1,d2,d3⟩:=hst.d _ _ hb
   have hnF:inF Fs id=false:=by
    cases hx:inF Fs id with
    |false=>rfl
    |true=>obtain⟨b',hb'⟩:=hFs' id (Q8 hx);rw[d2] at hb';cases hb'
   have hnK:inK L0 id=false:=by
    cases hx:inK L0 id with
    |false=>rfl
    |true=>
     obtain⟨y,h1,h2⟩:=pR.1 (Jd hx)
     obtain⟨b',hb',_⟩:=hL0' y h1
     rw[h2,d2] at hb';cases hb'
   have hn1:AHeap.get L1 id=none:=by
    cases hg:AHeap.get L1 id with
    |none=>rfl
    |some c=>
     have:=(hs.l _ (wk hg)).1
     unfold Jl at this
     simp only[Bool.or_eq_true,p4,hnK,pI,or_false] at this
     have:=pN this.1
     omega
   refine⟨?_,?_,by omega⟩
   ·rw[AHeap.get_append,hn1,Option.none_or,AHeap.get_without,if_neg (by simp[hnF,hnK])]
    exact d1
   ·rw[p2 id,hn1]
    simp only
    rw[c2 id]
    split
    ·rfl
    ·exact d2
def z9l(f0:Nat)(Fs:Nat→List Id)(args0:List AVal)(R:AVal)(f:Nat)(xs:List AVal)(S:Sh):Option Rs:=
 match p5 f f0 with
 |true=>match (Fs S.n).all (fun id=>match S.t.at id with|some _=>true|none=>false)&&z7p (inF (Fs S.n)) (fun _=>false) S.t.at xs args0 with
  |true=>match zf4 (Fs S.n) S with
   |some S2=>some (some (R,S2))
   |none=>none
  |false=>none
 |false=>none
theorem ud{f0:Nat}{Fs:Nat→List Id}{args0:List AVal}{R:AVal}(hP:PFn P f0 args0 R):qr P (z9l f0 Fs args0 R):=by
 intro f xs S r' S' h D H n hst
 unfold z9l at h
 split at h<;>try (cases h;done)
 rename_i hf
 split at h<;>try (cases h;done)
 rename_i hc
 split at h<;>try (cases h;done)
 rename_i S2 hS2
 simp only[p0,p9] at h
 obtain⟨rfl,rfl⟩:=h
 have e1:=pA hf
 subst e1
 simp only[p4] at hc
 obtain⟨hFs,hargs⟩:=hc
 have hFs':∀id∈Fs S.n,∃b,S.t.at id=some b:=fun id hid=>by
  have:=pB.1 hFs id hid
  split at this
  ·rename_i b hb;exact⟨b,hb⟩
  ·cases this
 obtain⟨c1,c2⟩:=z18 hS2
 refine PFn.use hP (F:=inF (Fs S.n)) ?_ (fun x hx=>?_) ⟨rfl,hst.n.trans c1.symm,fun id b hb=>?_,fun id b hb=>?_⟩
 ·have:=u6 (F:=inF (Fs S.n)) (K:=fun _=>false) (h:=S.t.at) (H:=H) (ρ:=fun _=>none) (n:=0) hst.h (fun _ h=>by cases h) xs args0 hargs
  clear hargs hP
  obtain⟨g1,g2⟩:=this
  revert g1 g2
  generalize args0=ys
  induction xs generalizing ys with
  |nil=>
   intro g1 _
   cases ys with
   |nil=>trivial
   |cons=>simp at g1
  |cons x xs ih=>
   intro g1 g2
   cases ys with
   |nil=>simp at g1
   |cons y ys=>exact⟨g2 0 x y rfl rfl,ih ys (by simpa using g1) (fun i a b h1 h2=>g2 (i+1) a b (by simpa using h1) (by simpa using h2))⟩
 ·obtain⟨b,hb⟩:=hFs' x (Q8 hx)
  rw[hst.h _ _ hb];nofun
 ·rw[c2 id] at hb
  split at hb
  ·cases hb
  ·rename_i hni
   rw[AHeap.get_without,if_neg (fun hx=>hni (Q8 hx))]
   exact hst.h _ _ hb
 ·obtain⟨d1,d2,d3⟩:=hst.d _ _ hb
  refine⟨?_,?_,d3⟩
  ·rw[AHeap.get_without,if_neg (fun hx=>?_)]
   ·exact d1
   ·obtain⟨b',hb'⟩:=hFs' id (Q8 hx);rw[d2] at hb';cases hb'
  ·rw[c2 id]
   split
   ·rfl
   ·exact d2
def zjq(C:Nat→List AVal→Sh→Rs)(f:Nat)(aq:List AVal)(R:AVal):Bool:=match C f aq ⟨.nil,0⟩ with
 |some (r,S1)=>zey (fun _=>true) (fun _=>false) S1.t.at r R
 |none=>false
theorem wz{C:Nat→List AVal→Sh→Rs}(hC:Zj P C){f:Nat}{aq:List AVal}{R:AVal}(hR:R.nid=true)(h:zjq C f aq R=true):PFn P f aq R:=by
 unfold zjq at h
 split at h<;>try (cases h;done)
 rename_i r S1 hx
 refine⟨hR,0,((hC f aq _ _ _ hx [] 0 StR.empty).mono fun r' H' n' hk=>?_).fin⟩
 obtain⟨rfl,hs⟩:=hk
 exact⟨fun _=>true,fun _=>none,⟨fun i j k h=>(by cases h),fun i k h=>(by cases h),fun i h=>absurd h (Nat.not_lt_zero _),fun i k _ h=>(by cases h),p8 _⟩,Kz hs.h (fun _ h=>by cases h) _ _ h,fun id blk h=>by cases h⟩
end Go.Fx
namespace Go.Fx
variable {P:Program}
def Jn(l:List Nat):Option LFn→Option LFn
 |some fn=>match vh l fn.lay.n fn.body with
  |true=>some fn
  |false=>none
 |none=>none
theorem z8k{l:List Nat}(hl:∀f∈l,z1i P f){o:Option LFn}{fn:LFn}(h:Jn l o=some fn):o=some fn∧kc P fn.lay.n fn.body:=by
 cases o with
 |none=>cases h
 |some g=>
  simp only[Jn] at h
  split at h<;>try (cases h;done)
  rename_i hc
  cases h
  exact⟨rfl,ji hl hc⟩
def mkF(P:Program)(f:Nat):Option LFn:=match P.funcs[f]? with
 |some fn=>match fn.body.isSome&&!(fn.name=="runtime.NumGoroutine") with
  |true=>Jn [] (wu P (pX fn.ntmps) f)
  |false=>none
 |none=>none
def noX:Nat→List AVal→Sh→Option Rs:=fun _ _ _=>none
def zjg(fw fs:Nat)(T e:TypeId)(f:Nat)(aq:List AVal)(S:Sh):Option Rs:=
 match p5 f fw with
 |true=>match aq with
  |[.ptr b 0 0,.str s]=>match S.t.at b with
   |some (.bld T' g)=>match S.t.at g with
    |some (.buf e' bs)=>match p5 T' T&&p5 e' e&&p6 (bs.length+s.length) 140737488355328 with
     |true=>match S.upd b (.bld T (S.n,0)) with
      |some S1=>match S1.cut g with
       |some S2=>some (wv (.tup [.int .i64 (s.length:Int),.val .nilIface]) (S2.new (.buf e (bs++s))))
       |none=>some none
      |none=>some none
     |false=>some none
    |_=>some none
   |_=>some none
  |_=>some none
 |false=>match p5 f fs with
  |true=>match aq with
   |[.ptr b 0 0]=>match S.t.at b with
    |some (.bld T' g)=>match S.t.at g with
     |some (.buf e' bs)=>match p5 T' T&&p5 e' e&&p6 bs.length 9223372036854775807 with
      |true=>some (some (.str bs,S))
      |false=>some none
     |_=>some none
    |_=>some none
   |_=>some none
  |false=>none
theorem zcn{fw fs:Nat}{T e tb ts:TypeId}(hW:BWrite P fw T e tb ts)(hS:BStr P fs T e):qr P (zjg fw fs T e):=by
 intro f aq S r S' h D H n hs
 unfold zjg at h
 split at h
 ·rename_i hf
  have hf:=zk.1 hf
  subst hf
  split at h<;>try (cases h;done)
  rename_i b s
  split at h<;>try (cases h;done)
  rename_i T' g hb
  split at h<;>try (cases h;done)
  rename_i e' bs hg
  split at h<;>try (cases h;done)
  rename_i hc
  simp only[p4,zk,yr] at hc
  obtain⟨⟨rfl,rfl⟩,hlen⟩:=hc
  split at h<;>try (cases h;done)
  rename_i S1 h1
  split at h<;>try (cases h;done)
  rename_i S2 h2
  simp only[p0] at h
  obtain⟨rfl,hw⟩:=qh h
  have r1:=hs.upd hb h1
  obtain⟨gc,hgc⟩:=Sh.upd_at h1 hg
  have r2:=r1.cut hgc h2
  have r3:=r2.new hw
  replace hb:=hs.h _ _ hb
  replace hg:=hs.h _ _ hg
  rw[←hs.n] at r3
  exact z6l hW hb hg hlen ⟨rfl,r3⟩
 ·split at h<;>try (cases h;done)
  rename_i hf
  have hf:=zk.1 hf
  subst hf
  split at h<;>try (cases h;done)
  rename_i b
  split at h<;>try (cases h;done)
  rename_i T' g hb
  split at h<;>try (cases h;done)
  rename_i e' bs hg
  split at h<;>try (cases h;done)
  rename_i hc
  simp only[p4,zk,yr] at hc
  obtain⟨⟨rfl,rfl⟩,hlen⟩:=hc
  simp only[p0,p9] at h
  obtain⟨rfl,rfl⟩:=h
  replace hb:=hs.h _ _ hb
  replace hg:=hs.h _ _ hg
  exact z5b hS hb hg hlen ⟨rfl,hs⟩
end Go.Fx
namespace Go.Fx
noncomputable def zk1{ρ:Type}(l:List Nat)(F:Nat→Option ρ):Option ρ:=match l with
 |[]=>none
 |[j]=>F j
 |l=>by classical exact if h:∃r,∀j∈l,F j=some r then some (Classical.choose h) else none
section
variable {σ ρ:Type} (N:Nat) (b:Nat→σ→Option (σ ⊕ ρ)) (d:σ→Option (σ ⊕ ρ))
def zid(seen:List Nat):List Nat:=(pX N).filter fun j=>!seen.contains j
noncomputable def zg0:Nat→List Nat→σ→Option ρ
 |0,_,_=>none
 |k+1,seen,s=>match zid N seen with
  |[]=>(d s).bind fun o=>match o with
   |.inl _=>none
   |.inr r=>some r
  |l=>zk1 l fun j=>(b j s).bind fun o=>match o with
   |.inl s'=>zg0 k (j::seen) s'
   |.inr r=>some r
def zgm:List Nat→σ→Option ρ
 |[],s=>(d s).bind fun o=>match o with
  |.inl _=>none
  |.inr r=>some r
 |j::l,s=>(b j s).bind fun o=>match o with
  |.inl s'=>zgm l s'
  |.inr r=>some r
variable {N b d}
end
variable {P:Program} {N:Lay} {n0:Nat}
def zjz{σ ρ:Type}(n0 nL:Nat)(F:Nat→List Nat→σ→Option ρ)(env:List Nat→σ→Env)(hp:List Nat→σ→AHeap)(QX:ρ→Exit→Env→AHeap→Nat→Prop)(k:Nat)(r:ρ):Exit→Env→AHeap→Nat→Prop:=fun ex e H n=>
 (ex=.normal∧∃seen s,F k seen s=some r∧Sim n0 e H n (env seen s) (hp seen s) nL)∨(ex≠.normal∧QX r ex e H n)
end Go.Fx
namespace Go.Fx
open Go.Shelf Go.RowKit Go.Lib Go.Sort Go.Proofs
def zf8:AVal→Value
 |.bool b=>.bool b
 |.int k n=>.int k n
 |.str l=>.string ⟨⟨l⟩⟩
 |_=>.nilFunc
def z12:AVal→Bool
 |.bool _=>true
 |.int _ _=>true
 |.str _=>true
 |_=>false
section
variable {I:Nat→Nat→Prop} {β:Id→Option CLoc} {n:Nat} {H:AHeap} {w w':World}
theorem z3u{x:AVal}(h:z12 x=true){v:Value}(hr:Rep I β n w x v):v=zf8 x:=by
 cases x with
 |bool b=>exact hr.bool_inv
 |int k m=>exact hr.int_inv
 |str l=>exact hr.str_inv
 |_=>cases h
theorem zj3{x:AVal}(h:z12 x=true):RepI I w x (zf8 x):=by
 cases x with
 |bool b=>exact .bool b
 |int k m=>exact .int k m
 |str l=>exact .str l
 |_=>cases h
theorem zbd{x:AVal}(h:z12 x=true):x.nid=true:=by
 cases x with
 |bool b=>rfl
 |int k m=>rfl
 |str l=>rfl
 |_=>cases h
theorem zb6(hI:Inv I β n H w)(hc:Chg w w' fun _ _=>False):Inv I β n H w'∧Ext I β n H w I β n H w':=
 x9 hI hc (p8 n) (fun _ _ h=>h.elim) (fun _ _ h=>h) (fun _ _ h h'=>absurd h h') (fun id hid=>.inl rfl)
  (fun id d b' k hid hd _=>by rw[hI.fresh id hid] at hd;cases hd) hI.fresh (fun i j d d' b' k hi hj h h' _=>hI.inj i j d d' b' k hi hj h h') (fun _ _ _ _ _ _ h=>h) (fun _ _ h=>h) (fun id blk h=>.inl ⟨h,rfl,fun _ _ _ _ _ h=>h⟩)
theorem zbi(n:Nat)(os:Array Obj):Chg w (grow (w.drewN n) os) fun _ _=>False:=by
 refine⟨rfl,⟨rfl,fun _=>Nat.le_add_right _ _⟩,rfl,by simp,fun b hb _=>heap_grow_old _ os hb,fun b k hb _=>?_,fun b arr el fr h=>⟨arr,?_,rfl⟩,fun b o ho h _=>?_⟩
 ·exact cell?_of_heap (heap_grow_old (w.drewN n) os hb)
 all_goals
  have hlt:b<w.heap.size:=by
   rcases pQ b w.heap.size with h'|h'
   ·exact h'
   ·rw[pF h'] at h;cases h
  rw[show(grow (w.drewN n) os).heap[b]?=w.heap[b]? from heap_grow_old (w.drewN n) os hlt];exact h
theorem PFn.lib{P:Program}{f:FuncId}{args:List AVal}{R:AVal}(hok:Xv P f)(ha:args.all z12=true)(hR:z12 R=true)
 (h:∀w,Calls P f (args.map zf8).toArray w fun e w'=>e=.returned (zf8 R)∧∃n os,w'=grow (w.drewN n) os):PFn P f args R:=by
 refine⟨zbd hR,0,hok,fun I β w vs hI hl hr=>?_⟩
 have hvs:vs=args.map zf8:=by
  refine List.ext_getElem (by rw[List.length_map];exact hl) fun i h1 h2=>?_
  have h3:i<args.length:=by omega
  have:=hr i args[i] vs[i] (p7 h3) (p7 h1)
  rw[List.getElem_map]
  exact z3u (pB.1 ha _ (List.getElem_mem h3)) this
 subst hvs
 refine(h w).mono ?_
 rintro e w' ⟨rfl,q,os,rfl⟩
 obtain⟨g1,g2⟩:=zb6 hI (zbi q os)
 exact⟨R,_,[],0,I,β,rfl,⟨rfl,rfl,rfl⟩,g1,.imm _ _ (zj3 hR),g2⟩
theorem z6p{w w':World}(h:w'=w):∃n os,w'=grow (w.drewN n) os:=⟨0,#[],by rw[h,grow_empty];rfl⟩
end
end Go.Fx
namespace Go.Fx
open Go.Shelf Go.RowKit Go.Lib Go.Sort Go.Proofs
def zjs:List Value:=(pX 256).map fun c=>.int .u8 (firstT c)
def zi1:List Value:=(pX 32).map fun j=>.int .u8 (if j % 2=0 then accLo (j / 2) else accHi (j / 2))
def zf2(k:IntKind)(zs:List Int):List Value:=zs.map fun z=>.int k z
theorem zbh{P:Program}{g:Nat}{nm:String}{k:IntKind}{zs:List Int}(hg:P.globalNamed nm=some g){w:World}(h:Lib.TabIs P w nm k zs) :
 (∃arr el fr,w.heap[g]?=some (.cells arr el fr)∧arr.size=(zf2 k zs).length)∧∀ (i:Nat) (v:Value),(zf2 k zs)[i]?=some v→(∃v,w.cell? ⟨g,i,none⟩=some v)∧w.cell? ⟨g,i,none⟩=some v:=by
 unfold Lib.TabIs World.var? at h
 rw[hg,Option.bind_some] at h
 split at h<;>try (cases h;done)
 rename_i cs el fr hw
 simp only[p0] at h
 subst h
 refine⟨⟨_,_,_,hw,by simp[zf2]⟩,fun i v hv=>?_⟩
 have:w.cell? ⟨g,i,none⟩=some v:=by
  unfold pZ
  simp only[hw]
  rw[←hv]
  simp[zf2]
 exact⟨⟨_,this⟩,this⟩
end Go.Fx
namespace Go.Fx
open Go.Shelf
variable {P:Program}
def orX(X1 X2:Nat→List AVal→Sh→Option Rs):Nat→List AVal→Sh→Option Rs:=fun f xs S=>match X1 f xs S with
 |some r=>some r
 |none=>X2 f xs S
theorem xp{X1 X2:Nat→List AVal→Sh→Option Rs}(h1:qr P X1)(h2:qr P X2):qr P (orX X1 X2):=by
 intro f xs S r S' h
 unfold orX at h
 split at h
 ·rename_i h'
  simp only[p0] at h
  subst h
  exact h1 f xs S r S' h'
 ·exact h2 f xs S r S' h
def zjv(fb fl:Nat)(T e:TypeId)(f:Nat)(xs:List AVal)(S:Sh):Option Rs:=
 match p5 f fb with
 |true=>match xs with
  |[.ptr b 0 0,.int .u8 (.ofNat k)]=>match S.t.at b with
   |some (.bld T' g)=>match S.t.at g with
    |some (.buf e' bs)=>match p5 T' T&&p5 e' e&&p6 (bs.length+1) 140737488355328&&p6 k 255 with
     |true=>match S.upd b (.bld T (S.n,0)) with
      |some S1=>match S1.cut g with
       |some S2=>some (wv (.val .nilIface) (S2.new (.buf e (bs++[UInt8.ofNat k]))))
       |none=>some none
      |none=>some none
     |false=>some none
    |_=>some none
   |_=>some none
  |_=>some none
 |false=>match p5 f fl with
  |true=>match xs with
   |[.ptr b 0 0]=>match S.t.at b with
    |some (.bld T' g)=>match S.t.at g with
     |some (.buf _ bs)=>match p5 T' T with
      |true=>some (some (.int .i64 (bs.length:Int),S))
      |false=>some none
     |_=>some none
    |_=>some none
   |_=>some none
  |false=>none
def zib(fc s:Nat)(f:Nat)(xs:List AVal)(S:Sh):Option Rs:=
 match p5 f fc with
 |true=>match xs with
  |[.isl s' [] _]=>match p5 s' s with
   |true=>some (some (.isl s [] false,S))
   |false=>none
  |[.val (.slice none 0 0)]=>some (some (.isl s [] false,S))
  |[.msl _ _ _ 0 _]=>some (some (.isl s [] false,S))
  |_=>none
 |false=>none
def zg9:List UInt8→Bool
 |[]=>true
 |b::r=>match p6 b.toNat 127 with
  |true=>zg9 r
  |false=>false
def zjl(fv:Nat)(f:Nat)(xs:List AVal)(S:Sh):Option Rs:=
 match p5 f fv with
 |true=>match xs with
  |[.str s]=>match zg9 s&&p6 s.length 9223372036854775807 with
   |true=>some (some (.bool true,S))
   |false=>match p6 s.length 9223372036854775807 with
    |true=>some (some (.bool (Lib.validD s),S))
    |false=>none
  |_=>none
 |false=>none
def za9(c:Nat):List UInt8→Bool
 |[]=>true
 |b::r=>match p5 b.toNat c with
  |true=>false
  |false=>za9 c r
theorem z3s{c:Nat}(hc:c≤255):∀ {l:List UInt8},za9 c l=true→Lib.indexByte l c.toUInt8=-1
 |[],_=>rfl
 |b::r,h=>by
  unfold za9 at h
  split at h<;>try (cases h;done)
  rename_i hb
  have hb:=pL hb
  unfold Lib.indexByte
  rw[z3s hc h]
  have:(b==c.toUInt8)=false:=by
   rw[beq_eq_false_iff_ne]
   intro he
   apply hb
   rw[he]
   simp[Nat.toUInt8]
   omega
  rw[this]
  rfl
def z7e(fi:Nat)(f:Nat)(xs:List AVal)(S:Sh):Option Rs:=
 match p5 f fi with
 |true=>match xs with
  |[.str s,.int .u8 (.ofNat k)]=>match za9 k s&&p6 k 255 with
   |true=>some (some (.int .i64 (-1),S))
   |false=>some (some (.int .i64 (Lib.indexByte s k.toUInt8),S))
  |_=>none
 |false=>none
theorem z80{fi:Nat}(h0:∀ (s:List UInt8) (c:Int),PFn P fi [.str s,.int .u8 c] (.int .i64 (Lib.indexByte s c.toNat.toUInt8))):qr P (z7e fi):=by
 intro f xs S r S' h D H n hs
 unfold z7e at h
 split at h<;>try (cases h;done)
 rename_i hf
 have hf:=zk.1 hf
 subst hf
 split at h<;>try (cases h;done)
 rename_i s k
 have h1:=h0 s (.ofNat k)
 split at h
 ·rename_i hc
  simp only[p4,yr] at hc
  simp only[p0,p9] at h
  obtain⟨rfl,rfl⟩:=h
  have h2:=z3s hc.2 hc.1
  rw[show(Int.ofNat k).toNat=k from rfl,h2] at h1
  exact PFn.call h1 (And.intro (Vw.same _ rfl) (And.intro (Vw.same _ rfl) trivial)) ⟨rfl,hs⟩
 ·simp only[p0,p9] at h
  obtain⟨rfl,rfl⟩:=h
  exact PFn.call h1 (And.intro (Vw.same _ rfl) (And.intro (Vw.same _ rfl) trivial)) ⟨rfl,hs⟩
theorem z9e{P:Program}{ρ:Ren}(L:Proofs.Lays.n137 P ρ){f:FuncId}(hf:ρ.f 137=f)(hok:Xv P f)(s:List UInt8)(c:Int) :
 PFn P f [.str s,.int .u8 c] (.int .i64 (Lib.indexByte s c.toNat.toUInt8)):=by
 subst hf
 exact PFn.lib hok rfl rfl fun w=>(Proofs.Any.strings_IndexByte L ⟨⟨s⟩⟩ c w).mono fun e w' h=>⟨h.1,z6p h.2⟩
def zkl(P:Program)(l:List Nat)(f:Nat):Option LFn:=match l.any fun i=>p5 i f with
 |false=>mkF P f
 |true=>match P.funcs[f]? with
  |some fn=>match fn.body.isSome&&!(fn.name=="runtime.NumGoroutine") with
   |true=>Jn [] (wu P [] f)
   |false=>none
  |none=>none
def zkg(P:Program)(z l:List Nat)(f:Nat):Option LFn:=match P.funcs[f]? with
 |some fn=>match fn.body.isSome&&!(fn.name=="runtime.NumGoroutine") with
  |true=>match l.any fun i=>p5 i f with
   |true=>Jn z (wu P [] f)
   |false=>Jn z (wu P (pX fn.ntmps) f)
  |false=>none
 |none=>none
def zax(u:List (Nat×List Nat))(f:Nat):List Nat:=match u.find? (fun x=>p5 x.1 f) with
 |some x=>x.2
 |none=>[]
def zdv(u:List (Nat×List Nat))(f n:Nat):List Nat:=match zax u f with
 |[]=>pX n
 |l=>(pX n).filter fun i=>!(l.any fun j=>p5 j i)
def zj4(P:Program)(z:List Nat)(u:List (Nat×List Nat))(f:Nat):Option LFn:=match P.funcs[f]? with
 |some fn=>match fn.body.isSome&&!(fn.name=="runtime.NumGoroutine") with
  |true=>Jn z (wu P (zdv u f fn.ntmps) f)
  |false=>none
 |none=>none
theorem zdx{P:Program}{z:List Nat}{u:List (Nat×List Nat)}(hz:∀f∈z,z1i P f):z48 P (zj4 P z u):=by
 intro f fn h
 unfold zj4 at h
 split at h<;>try (cases h;done)
 rename_i g hg
 split at h<;>try (cases h;done)
 rename_i hb
 simp only[p4,Bool.not_eq_true'] at hb
 obtain⟨h,hi⟩:=z8k hz h
 exact⟨⟨_,h⟩,⟨g,hg,hb.1,hb.2⟩,hi⟩
end Go.Fx
namespace Go.Fx
open Go.Shelf
variable {P:Program}
def zjm(fc:Nat)(f:Nat)(xs:List AVal)(S:Sh):Option Rs:=
 match p5 f fc with
 |true=>match xs with
  |[.str s,.str [c]]=>some (some (.int .i64 (Lib.countByte s c),S))
  |_=>none
 |false=>none
end Go.Fx
namespace Go.Fx
open Go.Shelf Go.RowKit Go.Lib Go.Proofs
variable {P:Program}
def Uo:List Value:=(pX 256).map fun c=>.int .u8 (if Lib.isSp (UInt8.ofNat c) then 1 else 0)
theorem Uu{ρ:Ren}(L:Lays.n157 P ρ)(hi9:(P.info? (ρ.t 9)).map (fun i=>(i.zero,i.size,i.bytes))=some (some (.string ByteArray.empty),1,16)){f:FuncId}(hf:ρ.f 157=f)(hok:Xv P f)(hg:(ρ.g 0,Uo)∈GL){s:List UInt8}(hs:s.length<4294967281)
 (ha:s.all (fun b=>decide (b.toNat<128))=true) {H:AHeap} {n:Nat} {K:AVal→AHeap→Nat→Prop} (hk:K (.msl (n,0) 1 0 (Lib.fields s).length true) (((n,0),.rows 1 ((Lib.fields s).map fun l=>[.str l]))::H) (n+1)):ACalls P f [.str s] H n K:=by
 subst hf
 refine⟨hok,fun I β w vs hI hl hr=>?_⟩
 obtain⟨v,rfl⟩:∃v,vs=[v]:=by
  match vs,hl with
  |[v],_=>exact⟨v,rfl⟩
 have hv:v=zf8 (.str s):=z3u rfl (hr 0 _ v rfl rfl)
 subst hv
 have hT:∀c:Nat,c<256→w.cell? ⟨ρ.g 0,c,none⟩=some (.int .u8 (if Lib.isSp (UInt8.ofNat c) then 1 else 0)):=fun c hc=>((hI.glob.1 _ hg).2 c _ (by simp[Uo,hc])).2
 refine(Any.strings_Fields_core L hi9 ⟨⟨s⟩⟩ w (by simpa[ByteArray.size] using hs) (fun j b hb=>by simpa using pB.1 ha b (pU hb)) hT).mono ?_
 rintro e w' ⟨rfl,rfl⟩
 have hrows:RowsIn I β n w 1 0 ((Lib.fields s).map fun l=>[.str l]) ((Lib.fields s).map fun l=>Value.string ⟨l.toArray⟩).toArray:=by
  refine⟨by simp,fun i r hi=>?_,fun i r j x hi hj=>?_⟩
  ·simp only[pD,pO] at hi
   obtain⟨l,_,rfl⟩:=hi
   rfl
  ·simp only[pD,pO] at hi
   obtain⟨l,hl,rfl⟩:=hi
   cases j with
   |zero=>
    simp only[pC,p0] at hj
    subst hj
    exact⟨.string ⟨l.toArray⟩,by simp[hl],rfl,.imm _ _ (.str _)⟩
   |succ j=>simp at hj
 obtain⟨r,H',n',I',β',g1,g2,g3,g4⟩:=Yr (K:=K) hI (el:=ρ.t 9) (fr:=(0,0)) (qj w _) (fun k h=>w6 k _ h) EndOk.zero hrows hk (wh (cap:=(Lib.fields s).length) _ (p8 _) (fun _=>rfl) (by simp))
 exact⟨r,_,H',n',I',β',rfl,g1,g2,g3,g4⟩
def z1t(ff:Nat)(f:Nat)(xs:List AVal)(S:Sh):Option Rs:=
 match p5 f ff with
 |true=>match xs with
  |[.str s]=>match zg9 s&&p6 s.length 4294967280 with
   |true=>some (wv (.msl (S.n,0) 1 0 (Lib.fields s).length true) (S.new (.rows 1 ((Lib.fields s).map fun l=>[.str l]))))
   |false=>none
  |_=>none
 |false=>none
theorem z3j:∀ {l:List UInt8},zg9 l=true→l.all (fun b=>decide (b.toNat<128))=true
 |[],_=>rfl
 |b::r,h=>by
  unfold zg9 at h
  split at h<;>try (cases h;done)
  rename_i hb
  have hb:=yr.1 hb
  simp only[List.all_cons,p4,decide_eq_true_eq]
  exact⟨by omega,z3j h⟩
theorem z4x{ff:Nat}(h0:∀ {s:List UInt8},s.length<4294967281→s.all (fun b=>decide (b.toNat<128))=true→∀ {H:AHeap} {n:Nat} {K:AVal→AHeap→Nat→Prop},K (.msl (n,0) 1 0 (Lib.fields s).length true) (((n,0),.rows 1 ((Lib.fields s).map fun l=>[.str l]))::H) (n+1)→ACalls P ff [.str s] H n K):qr P (z1t ff):=by
 intro f xs S r S' h D H n hs
 unfold z1t at h
 split at h<;>try (cases h;done)
 rename_i hf
 have hf:=zk.1 hf
 subst hf
 split at h<;>try (cases h;done)
 rename_i s
 split at h<;>try (cases h;done)
 rename_i hc
 simp only[p4,yr] at hc
 simp only[p0] at h
 obtain⟨rfl,hw⟩:=qh h
 exact h0 (by omega) (z3j hc.1) ⟨by rw[hs.n],hs.new hw⟩
end Go.Fx
namespace Go.Fx
universe u
theorem TT:True:=True.intro
theorem AI{a b:Prop}(x:a)(y:b):a∧b:=⟨x,y⟩
theorem VS{F:Id→Bool}{H:AHeap}{ρ:Id→Option Id}{n:Nat}{x:AVal}(h:x.nid=true):Vw F H ρ n x x:=.same x h
theorem NB{a b:Nat}(h:p6 a b=true):a≤b:=pN h
theorem EX{α:Sort u}{p:α→Prop}(w:α)(h:p w):Exists p:=⟨w,h⟩
theorem S2{F:Id→Bool}{H:AHeap}{ρ:Id→Option Id}{n:Nat}{a b:AVal}{R:Prop}(h1:a.nid=true)(h2:b.nid=true)(r:R):Vw F H ρ n a a∧Vw F H ρ n b b∧R:=⟨VS h1,VS h2,r⟩
theorem S4{F:Id→Bool}{H:AHeap}{ρ:Id→Option Id}{n:Nat}{a b c d:AVal}{R:Prop}(h1:a.nid=true)(h2:b.nid=true)(h3:c.nid=true)(h4:d.nid=true)(r:R):Vw F H ρ n a a∧Vw F H ρ n b b∧Vw F H ρ n c c∧Vw F H ρ n d d∧R:=⟨VS h1,VS h2,VS h3,VS h4,r⟩
theorem SP{F:Id→Bool}{H:AHeap}{ρ:Id→Option Id}{n:Nat}{b b':Id}{i o:Nat}{R:Prop}(h:ρ b'=some b)(r:R):Vw F H ρ n (.ptr b i o) (.ptr b' i o)∧R:=⟨.ptr _ _ _ _ h,r⟩
theorem VL{F:Id→Bool}{H:AHeap}{ρ:Id→Option Id}{n:Nat}:∀ {l:List AVal},AVal.nid.nidL l=true→VwL F H ρ n l l
 |[],_=>trivial
 |x::l,h=>by
  simp only[AVal.nid.nidL,p4] at h
  exact⟨VS h.1,VL h.2⟩
theorem OL{F:Id→Bool}{H:AHeap}{ρ:Id→Option Id}{n:Nat}{l:List AVal}(h:AVal.nid.nidL l=true):BVw F H ρ n (.one l) (.one l):=BVw.oneL (VL h)
abbrev Qo(d:Nat)(o:LOp):LOper:=⟨some d,o,none⟩
abbrev Qg(d:Nat)(o:LOp)(g:Nat×Bool):LOper:=⟨some d,o,some g⟩
abbrev Qm(d s:Nat):LOper:=⟨some d,.mv (.t s),none⟩
abbrev Qn(d s:Nat)(g:Nat×Bool):LOper:=⟨some d,.mv (.t s),some g⟩
abbrev Qf(d k s:Nat):LOper:=⟨some d,.faddr k (.t s),none⟩
abbrev Qe(d k s:Nat)(g:Nat×Bool):LOper:=⟨some d,.faddr k (.t s),some g⟩
abbrev Ql(d n s:Nat):LOper:=⟨some d,.load false n (.t s),none⟩
abbrev Qk(d n s:Nat)(g:Nat×Bool):LOper:=⟨some d,.load false n (.t s),some g⟩
abbrev Qt(d n s:Nat):LOper:=⟨some d,.load true n (.t s),none⟩
abbrev Qp(d a b:Nat):LOper:=⟨some d,.pick (.t a) (.t b) (.c (.bool false)),none⟩
abbrev Qi(d:Nat)(n:Int):LOper:=⟨some d,.mv (.c (.int .i64 n)),none⟩
abbrev Qb(d:Nat):LOper:=⟨some d,.mv (.c (.bool false)),none⟩
abbrev Qc(d f s:Nat):LOper:=⟨some d,.call f [(.t s)],none⟩
abbrev i6(n:Int):AVal:=.int .i64 n
end Go.Fx
namespace Go.Fx
def inR(x:Int):Prop:=-9223372036854775808≤x∧x≤9223372036854775807
theorem zk4{x:Int}(h:inR x):W x=x:=Xw h.1 h.2
theorem z38{σ ρ:Type}(b:σ→Option (σ ⊕ ρ))(s:σ):Wy none b s=match b s with
 |none=>none
 |some (.inl s')=>Wy none b s'
 |some (.inr r)=>some r:=z9z b s
theorem Q3{σ ρ:Type}{b:σ→Option (σ ⊕ ρ)}{s s':σ}(h:b s=some (.inl s')):Wy none b s=Wy none b s':=by rw[z38,h]
theorem vw{σ ρ:Type}{b:σ→Option (σ ⊕ ρ)}{s:σ}{x:Option ρ}(h:b s=x.map .inr):Wy none b s=x:=by rw[z38,h];cases x<;>rfl
end Go.Fx
namespace Go.Fx
mutual
def sz{H:Type}:DataW H→Nat
 |.lit (.string bytes)=>bytes.length+1
 |.lit _=>1
 |.nil=>1
 |.ptr d=>sz d+1
 |.slice es sp=>szL es+szL sp+1
 |.agg ds=>szL ds+1
 |.iface _ d=>sz d+1
 |.map _=>1
 |.held _=>1
def szL{H:Type}:List (DataW H)→Nat
 |[]=>0
 |d::r=>sz d+szL r
end
theorem zc9{H:Type}:∀ (l:List (DataW H×List MemPlace)),szL (l.map (·.1))=(l.map fun z=>sz z.1).sum
 |[]=>rfl
 |x::l=>by simp only[List.map_cons,szL,List.sum_cons,zc9 l]
structure RB(P:Program)(F:Nat)(t:TypeId)(α:Type)(e:α→List AVal)(ok:α→Nat→Prop):Prop where
 size:∀x,(e x).length=P.cellsOf t
 reads:∀ {H:Type} {enc:TypeId×Value→H} {w:World} {fuel:Nat} {cs:List Value} {d:DataW H} {ps:List MemPlace},fuel≤F→pY enc P w 0 (fun _=>true) true fuel t cs=some (d,ps)→(∀n∈d.weights P t,n≤reachBytes)→∃x,ok x (sz d)∧J8 (old w) w (e x) cs
variable {P:Program}
theorem RB.of{F:Nat}{t:TypeId}{α:Type}{e:α→List AVal}{ok:α→Prop}(h:RA P t α e ok):RB P F t α e (fun x _=>ok x):=
 ⟨h.size,fun _ hd hw=>h.reads hd hw⟩
theorem RB.string{F:Nat}{t:TypeId}(ht:P.underlying t=some .string)(hs:P.cellsOf t=1):RB P F t (List UInt8) (fun l=>[.str l]) (fun l k=>l.length+1≤k):=by
 refine⟨fun _=>hs.symm,fun {H enc w fuel cs d ps} _ h hw=>?_⟩
 cases fuel with
 |zero=>cases h
 |succ fuel=>
  unfold pY at h
  simp only[ht] at h
  split at h<;>try (simp at *;done)
  rename_i s _
  split at h<;>try (cases h;done)
  simp only[p0,p9] at h
  obtain⟨rfl,_⟩:=h
  refine⟨s.data.toList,?_,ju ?_ rfl⟩
  ·simp[sz]
  ·exact .str s.data.toList
theorem RB.map{F:Nat}{t:TypeId}{α γ:Type}{e:α→List AVal}{ok:α→Nat→Prop}(h:RB P F t α e ok)(g:α→γ){e':γ→List AVal}{ok':γ→Nat→Prop}(hs:∀x,(e' x).length=P.cellsOf t)(hg:∀x k,ok x k→ok' (g x) k∧e' (g x)=e x):RB P F t γ e' ok':=
 ⟨hs,fun hF hd hw=>by
  obtain⟨x,h1,h2⟩:=h.reads hF hd hw
  obtain⟨h3,h4⟩:=hg x _ h1
  exact⟨g x,h3,by rw[h4];exact h2⟩⟩
theorem RB.zero{t:TypeId}{α:Type}{e:α→List AVal}{ok:α→Nat→Prop}(hs:∀x,(e x).length=P.cellsOf t):RB P 0 t α e ok:=
 ⟨hs,fun hF hd _=>by
  obtain rfl:=Nat.le_zero.1 hF
  cases hd⟩
def OkL{α:Type}(b:Nat)(ok:α→Nat→Prop)(l:List α)(k:Nat):Prop:=
 l.length≤maxLen∧l.length*b≤reachBytes∧∃ks:List Nat,ks.length=l.length∧(∀ (i:Nat) (x:α) (m:Nat),l[i]?=some x→ks[i]?=some m→ok x m)∧ks.sum≤k
theorem RB.slice{F:Nat}{t c:TypeId}{α:Type}{e:α→List AVal}{ok:α→Nat→Prop}(ht:P.underlying t=some (.slice c))(hs:P.cellsOf t=1)(hc:0<P.cellsOf c)(h:RB P F c α e ok) :
 RB P (F+1) t (List α) (fun l=>[.isl (P.cellsOf c) (l.map e) false]) (OkL (P.bytesOf c) ok):=by
 refine⟨fun _=>hs.symm,fun {H enc w fuel cs d ps} hF hd hw=>?_⟩
 cases fuel with
 |zero=>cases hd
 |succ fuel=>
  unfold pY at hd
  rcases cs with _|⟨v,_|⟨v2,r⟩⟩
  ·simp[ht] at hd
  ·cases v<;>simp only[ht] at hd<;>try (cases hd;done)
   rename_i ad len cap
   cases ad with
   |none=>
    rcases len with _|len<;>rcases cap with _|cap<;>simp only at hd<;>try (cases hd;done)
    exact⟨[],⟨Nat.zero_le _,by simp,[],rfl,by simp,Nat.zero_le _⟩,ju (.islNil _ _) rfl⟩
   |some ad=>
    simp only at hd
    split at hd<;>try (cases hd;done)
    rename_i hcond
    obtain⟨_,hlc,hcm⟩:=hcond
    cases hel:(pX len).mapM (fun i=>(w.cells? 0 (ad.add (i*P.cellsOf c)) (P.cellsOf c)).bind (pY enc P w 0 (fun _=>true) true fuel c)) with
    |none=>rw[hel] at hd;cases hd
    |some elems=>
     rw[hel] at hd
     simp only[Option.bind_some,if_true,pO,p9] at hd
     obtain⟨rest,hrest,hd1,_⟩:=hd
     obtain⟨k1,k2⟩:=k6 hel
     obtain⟨k3,_⟩:=k6 hrest
     subst hd1
     have hw1:(elems.length+rest.length)*P.bytesOf c≤reachBytes:=by
      have:=hw ((elems.length+rest.length)*P.bytesOf c) (by simp[DataW.weights,ht])
      exact this
     have hle:len*P.bytesOf c≤reachBytes:=by
      have:len*P.bytesOf c≤(elems.length+rest.length)*P.bytesOf c:=Nat.mul_le_mul_right _ (by rw[k1];simp)
      omega
     -- every element reads
     have each:∀i,i<len→∃x,ok x ((elems.map fun z=>sz z.1).getD i 0)∧∃cs',w.cells? 0 (ad.add (i*P.cellsOf c)) (P.cellsOf c)=some cs'∧J8 (old w) w (e x) cs':=by
      intro i hi
      have hli:i<elems.length:=by rw[k1];simpa using hi
      have hget:=k2 i i elems[i] (List.getElem?_range hi) (p7 hli)
      cases hcs:w.cells? 0 (ad.add (i*P.cellsOf c)) (P.cellsOf c) with
      |none=>rw[hcs] at hget;cases hget
      |some cs'=>
       rw[hcs] at hget
       simp only[Option.bind_some] at hget
       obtain⟨x,hx1,hx2⟩:=h.reads (d:=elems[i].1) (ps:=elems[i].2) (by omega) hget (fun m hm=>hw m (by
        simp only[DataW.weights,ht,List.mem_cons,List.mem_append]
        exact .inr (.inl (vo (List.mem_map_of_mem (List.getElem_mem hli)) m hm))))
       refine⟨x,?_,cs',rfl,hx2⟩
       rw[pM,pD,p7 hli];exact hx1
     obtain⟨l,hl1,hl2⟩:=Zt (fun i x=>ok x ((elems.map fun z=>sz z.1).getD i 0)∧∃cs',w.cells? 0 (ad.add (i*P.cellsOf c)) (P.cellsOf c)=some cs'∧J8 (old w) w (e x) cs') len each
     subst hl1
     have hel':elems.length=l.length:=by simpa using k1
     refine⟨l,⟨by omega,hle,elems.map fun z=>sz z.1,by simp[hel'],fun i x k hx hk=>?_,?_⟩,ju ?_ rfl⟩
     ·have:=(hl2 i x hx).1
      rwa [pM,hk] at this
     ·rw[←zc9]
      simp only[sz]
      omega
     ·by_cases h0:l=[]
      ·subst h0
       exact .islEmpty _ _ _ _ (fun h=>by cases h)
      ·have hpos:0<l.length:=List.length_pos_iff.2 h0
       -- the block
       obtain⟨_,cs0,hcs0,hcell0⟩:=hl2 0 l[0] (p7 hpos)
       obtain⟨hn0,hg0⟩:=cells?_get hcs0
       have hc0:=hg0 0 cs0[0] (p7 (by omega))
       have hsp:=World.cell?_spot hc0
       obtain⟨b,o,sp⟩:=ad
       have hsp:sp=none:=by simpa[Addr.add] using hsp
       subst hsp
       have hb:b<w.heap.size:=by
        have:=World.block_lt_of_cell? _ _ hc0
        rwa [yb,yb] at this
       let vf:Nat→Nat→Value:=fun i j=>((w.cells? 0 ((⟨b,o,none⟩:Addr).add (i*P.cellsOf c)) (P.cellsOf c)).getD []).getD j default
       have key:∀i r j x,(l.map e)[i]?=some r→r[j]?=some x→w.cell? ⟨b,o+i*P.cellsOf c+j,none⟩=some (vf i j)∧y7 (vf i j)=true∧RepI (old w) w x (vf i j):=by
        intro i r j x hr hx
        rw[pD] at hr
        cases hli:l[i]? with
        |none=>rw[hli] at hr;cases hr
        |some y=>
         rw[hli] at hr
         simp only[pK,p0] at hr
         subst hr
         obtain⟨_,cs',hcs',hl3,hl4,hl5⟩:=hl2 i y hli
         obtain⟨hn,hg⟩:=cells?_get hcs'
         have hj:j<cs'.length:=by
          rw[hl3]
          rcases pQ j (e y).length with h|h
          ·exact h
          ·rw[pH h] at hx;cases hx
         have hv:vf i j=cs'[j]:=by simp only[vf,hcs',Option.getD_some,pM,p7 hj]
         have:=hg j cs'[j] (p7 hj)
         rw[yb,yb] at this
         rw[hv]
         exact⟨this,hl4 _ (List.getElem_mem hj),hl5 j x _ hx (p7 hj)⟩
       have:=RepI.isl (I:=old w) (w:=w) (P.cellsOf c) (l.map e) false b o cap vf (fun i r j x h1 h2=>⟨_,(key i r j x h1 h2).1⟩) (by simpa using hlc) (fun h=>by cases h)
        (fun i r hr=>by
         rw[pD] at hr
         cases hli:l[i]? with
         |none=>rw[hli] at hr;cases hr
         |some y=>rw[hli] at hr;simp at hr;rw[←hr];exact h.size y)
        (fun i r j x h1 h2=>(key i r j x h1 h2).1) (fun i r j x h1 h2=>(key i r j x h1 h2).2.1) (fun i r j x h1 h2=>(key i r j x h1 h2).2.2)
       simpa using this
  ·simp[ht] at hd
structure RG(P:Program)(F:Nat)(fs:List Field)(off tot:Nat)(α:Type)(e:α→List AVal)(ok:α→Nat→Prop):Prop where
 size:∀x,(e x).length=tot
 reads:∀ {H:Type} {enc:TypeId×Value→H} {w:World} {fuel:Nat} {cs:List Value} {xs:List (DataW H×List MemPlace)},fuel≤F→fs.mapM (fun f=>pY enc P w 0 (fun _=>true) true fuel f.type ((cs.drop f.offset).take (P.cellsOf f.type)))=some xs →
  (∀n∈DataW.weightsEach P (fs.map (·.type)) (xs.map (·.1)),n≤reachBytes)→∃x,ok x (szL (xs.map (·.1)))∧J8 (old w) w (e x) ((cs.drop off).take tot)
theorem RG.nil{F:Nat}(off:Nat):RG P F [] off 0 Unit (fun _=>[]) (fun _ _=>True):=
 ⟨fun _=>rfl,fun _ _ _=>⟨(),trivial,by simp[J8]⟩⟩
theorem RG.cons{F:Nat}{f:Field}{fs:List Field}{off tot m:Nat}{α γ:Type}{e:α→List AVal}{ok:α→Nat→Prop}{e':γ→List AVal}{ok':γ→Nat→Prop}(ho:f.offset=off)(hm:P.cellsOf f.type=m)(h:RB P F f.type α e ok)(h':RG P F fs (off+m) tot γ e' ok') :
 RG P F (f::fs) off (m+tot) (α×γ) (fun x=>e x.1++e' x.2) (fun x k=>∃k1 k2,ok x.1 k1∧ok' x.2 k2∧k1+k2≤k):=by
 refine⟨fun x=>by rw[pE,h.size,h'.size,hm],fun {H enc w fuel cs xs} hF hd hw=>?_⟩
 rw[List.mapM_cons] at hd
 cases h1:pY enc P w 0 (fun _=>true) true fuel f.type ((cs.drop f.offset).take (P.cellsOf f.type)) with
 |none=>rw[h1] at hd;cases hd
 |some y=>
  rw[h1] at hd
  cases h2:fs.mapM (fun f=>pY enc P w 0 (fun _=>true) true fuel f.type ((cs.drop f.offset).take (P.cellsOf f.type))) with
  |none=>rw[h2] at hd;cases hd
  |some ys=>
   rw[h2] at hd
   simp at hd
   subst hd
   simp only[List.map_cons,DataW.weightsEach,List.mem_append] at hw
   obtain⟨x,hx1,hx2,hx3,hx4⟩:=h.reads (d:=y.1) (ps:=y.2) hF h1 (fun n hn=>hw n (.inl hn))
   obtain⟨z,hz1,hz2,hz3,hz4⟩:=h'.reads hF h2 (fun n hn=>hw n (.inr hn))
   refine⟨(x,z),⟨_,_,hx1,hz1,by simp only[List.map_cons,szL];exact p8 _⟩,?_⟩
   subst ho
   have e1:(cs.drop f.offset).take (m+tot)=(cs.drop f.offset).take m++(cs.drop (f.offset+m)).take tot:=by
    rw[List.take_add,List.drop_drop]
   rw[e1]
   rw[hm] at hx2 hx3 hx4
   refine⟨by simp only[pE,hx2,hz2],fun v hv=>?_,fun i a v ha hv=>?_⟩
   ·rcases List.mem_append.1 hv with h|h
    ·exact hx3 v h
    ·exact hz3 v h
   ·rw[List.getElem?_append] at ha hv
    rw[hx2] at hv
    split at ha
    ·rename_i hlt
     rw[if_pos hlt] at hv
     exact hx4 i a v ha hv
    ·rename_i hlt
     rw[if_neg hlt] at hv
     exact hz4 _ a v ha hv
theorem RB.struct{F:Nat}{t:TypeId}{fs:Array Field}{α:Type}{e:α→List AVal}{ok:α→Nat→Prop}(ht:P.underlying t=some (.struct fs))(h:RG P F fs.toList 0 (P.cellsOf t) α e ok):RB P (F+1) t α e (fun x k=>∃k0,ok x k0∧k0+1≤k):=by
 refine⟨h.size,fun {H enc w fuel cs d ps} hF hd hw=>?_⟩
 cases fuel with
 |zero=>cases hd
 |succ fuel=>
  unfold pY at hd
  have hd:(if cs.length=P.cellsOf t then(fs.toList.mapM fun f=>pY enc P w 0 (fun _=>true) true fuel f.type ((cs.drop f.offset).take (P.cellsOf f.type))).map (fun xs=>(DataW.agg (xs.map (·.1)),xs.flatMap (·.2))) else none)=some (d,ps):=by
   rw[ht] at hd
   rcases cs with _|⟨v,_|⟨v2,r⟩⟩<;>simpa using hd
  split at hd<;>try (cases hd;done)
  rename_i hlen
  simp only[pO,p9] at hd
  obtain⟨xs,hxs,rfl,_⟩:=hd
  obtain⟨x,hx1,hx2⟩:=h.reads (by omega) hxs (fun n hn=>hw n (by simp only[DataW.weights,ht];exact hn))
  refine⟨x,⟨_,hx1,by simp only[sz];omega⟩,?_⟩
  rw[List.drop_zero,←hlen,List.take_length] at hx2
  exact hx2
theorem RB.structN{F:Nat}{t:TypeId}{fs:Array Field}{m:Nat}{α:Type}{e:α→List AVal}{ok:α→Nat→Prop}(ht:P.underlying t=some (.struct fs))(hm:P.cellsOf t=m)(h:RG P F fs.toList 0 m α e ok):RB P (F+1) t α e (fun x k=>∃k0,ok x k0∧k0+1≤k):=by
 subst hm
 exact RB.struct ht h
end Go.Fx
namespace Go.Fx
open Go.ChangeShapes Go.WideShapes Go.ChangeAt Go.RowKit
variable {P:Program}
def RVB(P:Program)(t:TypeId)(α:Type)(e:α→AVal)(ok:α→Nat→Prop):Prop:=
 ∀ {H:Type} {enc:TypeId×Value→H} {w:World} {v:Value} {d:DataW H} {ps:List MemPlace} {base:Nat},Value.okWide P w .any base t v→DataW.Trod enc P w 0 (fun _=>true) true t v d ps→(∀n∈d.weights P t,n≤reachBytes)→∃x,ok x (sz d)∧RepI (old w) w (e x) v
theorem RVB.of{t:TypeId}{α:Type}{e:α→AVal}{ok:α→Prop}(h:RV P t α e ok):RVB P t α e (fun x _=>ok x):=fun hv hd hw=>h hv hd hw
theorem RVB.struct{t:TypeId}{fs:Array Field}{α:Type}{e:α→List AVal}{ok:α→Nat→Prop}(ht:P.underlying t=some (.struct fs))(h:∀F,RB P F t α e ok):RVB P t α (fun x=>.agg (e x)) ok:=by
 intro H enc w v d ps base hv hd hw
 obtain⟨cs,rfl,hsz⟩:=okWide_struct ht hv
 obtain⟨fuel,hd⟩:=hd
 obtain⟨x,h1,h2,h3,h4⟩:=(h fuel).reads (p8 _) hd hw
 have e1:(Value.agg cs).cells.toList=cs.toList:=rfl
 rw[e1] at h2 h3 h4
 refine⟨x,h1,.agg _ cs (by rw[←Array.length_toList];exact h2) h3 (fun i y u hy hu=>h4 i y u hy (by rw[Array.getElem?_toList];exact hu))⟩
theorem RVB.cell{t:TypeId}{α:Type}{e:α→AVal}{ok:α→Nat→Prop}(hc:∀ {w:World} {v:Value} {base:Nat},Value.okWide P w .any base t v→v.cells=#[v])(h:∀F,RB P F t α (fun x=>[e x]) ok):RVB P t α e ok:=by
 intro H enc w v d ps base hv hd hw
 obtain⟨fuel,hd⟩:=hd
 obtain⟨x,h1,h2,h3,h4⟩:=(h fuel).reads (p8 _) hd hw
 rw[hc hv] at h2 h3 h4
 exact⟨x,h1,h4 0 _ v rfl rfl⟩
theorem RVB.string{t:TypeId}(ht:P.underlying t=some .string)(hs:P.cellsOf t=1):RVB P t (List UInt8) (fun l=>.str l) (fun l k=>l.length+1≤k):=
 RVB.cell (fun hv=>by obtain⟨s,rfl⟩:=okWide_string ht hv;rfl) fun F=>RB.string ht hs
theorem RVB.slice{t el:TypeId}{α:Type}{e:α→AVal}{ok:α→Nat→Prop}(ht:P.underlying t=some (.slice el))(h:∀F,RB P F t α (fun x=>[e x]) ok):RVB P t α e ok:=
 RVB.cell (fun hv=>by obtain⟨a,l,c,rfl⟩:=okWide_slice ht hv;rfl) h
def RVsB(P:Program)(ts:List TypeId)(α:Type)(e:α→List AVal)(ok:α→Nat→Prop):Prop:=
 ∀ {H:Type} {enc:TypeId×Value→H} {w:World} {vs:List Value} {ds:List (DataW H)} {ps:List MemPlace} {base:Nat},(∀ (j:Nat) t v,ts[j]?=some t→vs[j]?=some v→Value.okWide P w .any base t v) →
  DataW.TrodAll enc P w 0 (fun _=>true) true ts vs ds ps→(∀n∈DataW.weightsEach P ts ds,n≤reachBytes)→∃x,ok x (szL ds)∧vs.length=(e x).length∧∀ (i:Nat) (a:AVal) (v:Value),(e x)[i]?=some a→vs[i]?=some v→RepI (old w) w a v
theorem RVsB.nil:RVsB P [] Unit (fun _=>[]) (fun _ _=>True):=by
 intro H enc w vs ds ps base _ h _
 obtain⟨rfl,rfl,rfl⟩:=trodAll_nil h
 exact⟨(),trivial,rfl,by simp⟩
theorem RVsB.cons{t:TypeId}{ts:List TypeId}{α γ:Type}{e:α→AVal}{e':γ→List AVal}{ok:α→Nat→Prop}{ok':γ→Nat→Prop}(h:RVB P t α e ok)(h':RVsB P ts γ e' ok') :
 RVsB P (t::ts) (α×γ) (fun x=>e x.1::e' x.2) (fun x k=>∃k1 k2,ok x.1 k1∧ok' x.2 k2∧k1+k2≤k):=by
 intro H enc w vs ds ps base hv hd hw
 obtain⟨v,vs',d,ds',p,q,rfl,rfl,rfl,h1,h2⟩:=trodAll_cons hd
 simp only[DataW.weightsEach,List.mem_append] at hw
 obtain⟨x,hx1,hx2⟩:=h (hv 0 t v rfl rfl) h1 (fun n hn=>hw n (.inl hn))
 obtain⟨y,hy1,hy2,hy3⟩:=h' (fun j t' v' ht hv'=>hv (j+1) t' v' (by simpa using ht) (by simpa using hv')) h2 (fun n hn=>hw n (.inr hn))
 refine⟨(x,y),⟨_,_,hx1,hy1,by simp only[szL];exact p8 _⟩,by simp[hy2],fun i a u ha hu=>?_⟩
 cases i with
 |zero=>simp at ha hu;subst ha;subst hu;exact hx2
 |succ i=>exact hy3 i a u (by simpa using ha) (by simpa using hu)
end Go.Fx
