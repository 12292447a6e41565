/-
  Own framework.
-/
import Derived.Test.YtjkfnbjgpilokaaGreatDoorFc
import Derived.Below
import Derived.Carry
import Derived.ChangeSame
import Derived.Test.YtjkfnbjgpilokaaGreatDoorFb
import Derived.RangeFuncRecord
import Derived.RangeFuncIn
import Derived.Shelf.Small.Strs
import Derived.Sort.Grow
import Derived.Shelf.Unicode.ValidAny
import Derived.Lib.LaidTab
import Derived.Shelf.Strings.Count
import Derived.Shelf.Strings.Fields
import Derived.Shelf.Spec.SlicesInsertGrow
set_option linter.unusedVariables false
set_option linter.unusedSimpArgs false
open Array renaming getElem?_eq_none→pQ,getElem?_toList→pZ
open Bool renaming and_eq_true→p9,false_eq_true→pR
open Go.DataW renaming weightsEach→qF
open List renaming getElem?_cons_zero→pC,all_eq_true→pF,mem_map→pK,getElem?_map→pL,getElem?_eq_getElem→pM,getElem?_eq_none→pN,getD_eq_getElem?_getD→pP,mem_cons_of_mem→pS,getElem?_cons_succ→pT,length_append→pV,mem_cons_self→pW,replicate→pX,getElem?_toArray→q6,length_map→q7,map→q8,mem_of_getElem?→q9,length_eq_zero_iff→qB,range→qC
open Nat renaming beq→pA,ble→pB,le_of_ble_eq_true→pE,le_refl→pG,eq_of_beq_eq_true→pH,ne_of_beq_eq_false→pU,lt_or_ge→pY
open Option renaming map_some→pJ,map_eq_some_iff→qE
open Option.some renaming injEq→p0
open Prod.mk renaming injEq→pD
open Go.Result renaming andThen_ok→pI
open Go.Sem renaming run_bind→pO,run_pure→qA
open Go.World renaming cell?→qD
namespace Go.Fx
open Go.ChangeShapes Go.WideShapes Go.ChangeAt Go.RowKit
variable {P:Program}
def RV(P:Program)(t:TypeId)(α:Type)(e:α→AVal)(ok:α→Prop):Prop:=
 ∀ {H:Type} {enc:TypeId×Value→H} {w:World} {v:Value} {d:DataW H} {ps:List MemPlace} {base:Nat},Value.okWide P w .any base t v→DataW.Trod enc P w 0 (fun _=>true) true t v d ps→(∀n∈d.weights P t,n≤reachBytes)→∃x,ok x∧RepI (old w) w (e x) v
theorem RV.cell{t:TypeId}{α:Type}{e:α→AVal}{ok:α→Prop}(h:RA P t α (fun x=>[e x]) ok)(hc:∀ (w:World) (base:Nat) (v:Value),Value.okWide P w .any base t v→qm v=true):RV P t α e ok:=by
 intro H enc w v d ps base hv hd hw
 obtain⟨x,a,h1,h2,h3⟩:=h.arg (hc w base v hv) hd hw
 simp only[List.cons.injEq,and_true] at h2
 exact⟨x,h1,by rw[h2];exact h3⟩
theorem RV.bool{t:TypeId}(ht:P.underlying t=some .bool)(hs:P.cellsOf t=1):RV P t Bool (fun b=>.bool b) (fun _=>True):=
 RV.cell (RA.bool ht hs) (fun w base v h=>by obtain⟨b,rfl⟩:=okWide_bool ht h;rfl)
theorem RV.int{t:TypeId}{k:IntKind}(ht:P.underlying t=some (.int k))(hs:P.cellsOf t=1):RV P t Int (fun n=>.int k n) (fun n=>k.min≤n∧n≤k.max):=
 RV.cell (RA.int ht hs) (fun w base v h=>by obtain⟨b,rfl⟩:=okWide_int ht h;rfl)
theorem RV.string{t:TypeId}(ht:P.underlying t=some .string)(hs:P.cellsOf t=1):RV P t (List UInt8) (fun l=>.str l) (fun l=>l.length≤reachBytes):=
 RV.cell (RA.string ht hs) (fun w base v h=>by obtain⟨b,rfl⟩:=okWide_string ht h;rfl)
theorem RV.slice{t c:TypeId}{α:Type}{e:α→List AVal}{ok:α→Prop}(ht:P.underlying t=some (.slice c))(hs:P.cellsOf t=1)(hc:0<P.cellsOf c)(h:RA P c α e ok) :
 RV P t (List α) (fun l=>.isl (P.cellsOf c) (l.map e) false) (fun l=>l.length≤maxLen∧l.length*P.bytesOf c≤reachBytes∧∀x∈l,ok x):=
 RV.cell (RA.slice ht hs hc h) (fun w base v h=>by obtain⟨a,l,c,rfl⟩:=okWide_slice ht h;rfl)
theorem RV.struct{t:TypeId}{fs:Array Field}{α:Type}{e:α→List AVal}{ok:α→Prop}(ht:P.underlying t=some (.struct fs))(h:RA P t α e ok):RV P t α (fun x=>.agg (e x)) ok:=by
 intro H enc w v d ps base hv hd hw
 obtain⟨cs,rfl,hsz⟩:=okWide_struct ht hv
 obtain⟨fuel,hd⟩:=hd
 obtain⟨x,h1,h2,h3,h4⟩:=h.reads hd hw
 have e1:(Value.agg cs).cells.toList=cs.toList:=rfl
 rw[e1] at h2 h3 h4
 refine⟨x,h1,.agg _ cs (by rw[←Array.length_toList];exact h2) h3 (fun i y u hy hu=>h4 i y u hy (by rw[pZ];exact hu))⟩
def RVs(P:Program)(ts:List TypeId)(α:Type)(e:α→List AVal)(ok:α→Prop):Prop:=
 ∀ {H:Type} {enc:TypeId×Value→H} {w:World} {vs:List Value} {ds:List (DataW H)} {ps:List MemPlace} {base:Nat},(∀ (j:Nat) t v,ts[j]?=some t→vs[j]?=some v→Value.okWide P w .any base t v) →
  DataW.TrodAll enc P w 0 (fun _=>true) true ts vs ds ps→(∀n∈qF P ts ds,n≤reachBytes)→∃x,ok x∧vs.length=(e x).length∧∀ (i:Nat) (a:AVal) (v:Value),(e x)[i]?=some a→vs[i]?=some v→RepI (old w) w a v
theorem RVs.nil:RVs P [] Unit (fun _=>[]) (fun _=>True):=by
 intro H enc w vs ds ps base _ h _
 obtain⟨rfl,rfl,rfl⟩:=trodAll_nil h
 exact⟨(),trivial,rfl,by simp⟩
theorem RVs.cons{t:TypeId}{ts:List TypeId}{α γ:Type}{e:α→AVal}{e':γ→List AVal}{ok:α→Prop}{ok':γ→Prop}(h:RV P t α e ok)(h':RVs P ts γ e' ok'):RVs P (t::ts) (α×γ) (fun x=>e x.1::e' x.2) (fun x=>ok x.1∧ok' x.2):=by
 intro H enc w vs ds ps base hv hd hw
 obtain⟨v,vs',d,ds',p,q,rfl,rfl,rfl,h1,h2⟩:=trodAll_cons hd
 simp only[qF,List.mem_append] at hw
 obtain⟨x,hx1,hx2⟩:=h (hv 0 t v rfl rfl) h1 (fun n hn=>hw n (.inl hn))
 obtain⟨y,hy1,hy2,hy3⟩:=h' (fun j t' v' ht hv'=>hv (j+1) t' v' (by simpa using ht) (by simpa using hv')) h2 (fun n hn=>hw n (.inr hn))
 refine⟨(x,y),⟨hx1,hy1⟩,by simp[hy2],fun i a u ha hu=>?_⟩
 cases i with
 |zero=>simp at ha hu;subst ha;subst hu;exact hx2
 |succ i=>exact hy3 i a u (by simpa using ha) (by simpa using hu)
theorem Inv.empty(w:World)(hg:GlobOk (old w) w):Inv (old w) (fun _=>none) 0 [] w:=
 { blocks:=fun id blk h=>by simp[AHeap.get] at h
   inj:=fun i j c d b k h=>by simp at h
   own:=fun i c b k h=>by simp at h
   imm:=fun b k h=>h
   fresh:=fun id _=>rfl
   glob:=hg }
theorem z0h{H:Type}{enc:TypeId×Value→H}{w:World}{base:Nat}{spare:Nat→Bool}{held:Bool}:∀ {ts:List TypeId} {vs:List Value} {ds:List (DataW H)} {p:List MemPlace},DataW.TrodAll enc P w base spare held ts vs ds p→ds.length=ts.length
 |[],_,_,_,h=>by obtain⟨rfl,rfl,rfl⟩:=trodAll_nil h;rfl
 |t::ts,_,_,_,h=>by
  obtain⟨v,vs',d,ds',p1,q1,rfl,rfl,rfl,k1,k2⟩:=trodAll_cons h
  simp[z0h k2]
theorem z29{f:FuncId}{fn:Func}{s:ChangeSpec}{tb:TypeId}(hl:laidOutB P=true)(ts:List TypeId)(hts:fn.params.toList=ts)(hvars:s.vars=[])(hres:fn.resultTypes=#[tb])(hb:P.underlying tb=some .bool)
 (hrd:ts.all (fun t=>P.readableRec t&&decide (t<P.types.size))=true)
 {H:Type} {enc:TypeId×Value→H} {W:World} {base:Nat} {args:Array Value} {ds gs:List (DataW H)} {before:List MemPlace}
 (hfn:∀ds:List (DataW H),ds.length=ts.length→(s.fn H (ds++[])).results=[.lit (.bool true)]∧(s.fn H (ds++[])).args=ds∧(s.fn H (ds++[])).vars=[])
 (hval:∀ (j:Nat) t v,fn.params[j]?=some t→args[j]?=some v→Value.okWide P W .any base t v)
 (hW:DataW.Whole enc P fn.params.toList s.vars false W args.toList ds gs before)
 (hsz:(qF P (fn.params.toList++s.plain.varTypes P) (ds++gs)).all (·≤reachBytes)=true) (hg:GlobOk (old W) W)
 (hr:∀ {ps:List MemPlace},(∀ (j:Nat) t v,ts[j]?=some t→args.toList[j]?=some v→Value.okWide P W .any base t v)→DataW.TrodAll enc P W 0 (fun _=>true) true ts args.toList ds ps→(∀n∈qF P ts ds,n≤reachBytes) →
  ∃xs:List AVal,PFn P f xs (.bool true)∧args.toList.length=xs.length∧∀ (i:Nat) (a:AVal) (v:Value),xs[i]?=some a→args.toList[i]?=some v→RepI (old W) W a v) :
 Calls P f args W fun e W'=>∃v,e=.returned v∧s.post enc P fn false true false false W args v W':=by
 subst hts
 have hW':=hW
 obtain⟨p,q,hA0,hV,rfl,_,_⟩:=hW
 have hfn:=hfn ds (z0h hA0)
 rw[hvars] at hV
 obtain⟨rfl,rfl⟩:=trodVars_none hV
 have hvt:s.plain.varTypes P=[]:=by
  show s.vars.filterMap _=[]
  rw[hvars];rfl
 rw[hvt] at hsz
 simp only[List.append_nil] at hsz hW' hfn
 obtain⟨xs,hA,hlen,hrep⟩:=hr (fun j t v ht hv=>hval j t v (by rw[←pZ];exact ht) (by rw[←pZ];exact hv)) hA0 (fun n hn=>of_decide_eq_true (pF.1 hsz n hn))
 obtain⟨_,m,hA⟩:=hA
 have hc:=hA.2 (old W) (fun _=>none) W args.toList (Inv.empty W hg) hlen (fun i a v h1 h2=>.imm a v (hrep i a v h1 h2))
 rw[show args.toList.toArray=args from by simp] at hc
 refine hc.mono fun e W' ⟨r,v,H',n',I',β',h1,h2,h3,h4,h5⟩=>?_
 subst h1
 obtain⟨rfl,_,_⟩:=h2
 have hv:v=.bool true:=by
  cases h4 with
  |imm _ _ h=>cases h;rfl
 subst hv
 have hbel:Below W.heap.size W W':=⟨h5.os,h5.tape.eq,h5.output,h5.size,fun k hk=>h5.frame k hk (fun id c q hc=>by cases hc)⟩
 have hlt:∀x∈p,x.block<W.heap.size:=fun x hx=>by simpa using hW'.lt x hx
 have hargs:∀ (ts:List TypeId) (vs:List Value) (ds:List (DataW H)) (p:List MemPlace),DataW.TrodAll enc P W 0 (fun _=>true) true ts vs ds p→(ts.all (fun t=>P.readableRec t&&decide (t<P.types.size))=true)→(∀x∈p,x.block<W.heap.size)→DataW.TrodAll enc P W' 0 (fun b=>decide (b<W.heap.size)) true ts vs ds p:=by
  intro ts
  induction ts with
  |nil=>
   intro vs ds p h _ _
   obtain⟨rfl,rfl,rfl⟩:=trodAll_nil h
   exact trodAll_mk0
  |cons t ts ih=>
   intro vs ds p h hall hp
   obtain⟨v,vs',d,ds',p1,q1,rfl,rfl,rfl,k1,k2⟩:=trodAll_cons h
   simp only[List.all_cons,p9,decide_eq_true_eq] at hall
   exact trodAll_cons_mk (Below.trod hl hall.1.1 hall.1.2 k1 hbel (fun x hx=>hp x (List.mem_append_left _ hx))) (ih _ _ _ k2 hall.2 (fun x hx=>hp x (List.mem_append_right _ hx)))
 refine⟨_,rfl,ds,[],p,[],p,[],by simpa using hW',?_,?_,?_,hbel.frame _,fun h=>by cases h⟩
 ·rw[List.append_nil,hfn.1,hres]
  exact trodAll_mk1 (shut_bool hb true)
 ·rw[List.append_nil,hfn.2.1]
  exact hargs _ _ _ _ hA0 hrd hlt
 ·rw[List.append_nil,hfn.2.2,hvars]
  rfl
theorem z6c{f:FuncId}{fn:Func}{s:ChangeSpec}{tb:TypeId}{α:Type}{e:α→List AVal}{ok:α→Prop}(hl:laidOutB P=true)(ts:List TypeId)(hts:fn.params.toList=ts)(hvars:s.vars=[])(hres:fn.resultTypes=#[tb])(hb:P.underlying tb=some .bool)
 (hrd:ts.all (fun t=>P.readableRec t&&decide (t<P.types.size))=true)
 (hr:RVs P ts α e ok) (hA:∀x,ok x→PFn P f (e x) (.bool true))
 {H:Type} {enc:TypeId×Value→H} {W:World} {base:Nat} {args:Array Value} {ds gs:List (DataW H)} {before:List MemPlace}
 (hfn:∀ds:List (DataW H),ds.length=ts.length→(s.fn H (ds++[])).results=[.lit (.bool true)]∧(s.fn H (ds++[])).args=ds∧(s.fn H (ds++[])).vars=[])
 (hval:∀ (j:Nat) t v,fn.params[j]?=some t→args[j]?=some v→Value.okWide P W .any base t v)
 (hW:DataW.Whole enc P fn.params.toList s.vars false W args.toList ds gs before)
 (hsz:(qF P (fn.params.toList++s.plain.varTypes P) (ds++gs)).all (·≤reachBytes)=true) (hg:GlobOk (old W) W:=by exact⟨(fun _ hx=>nomatch hx),(fun _ hx=>nomatch hx)⟩) :
 Calls P f args W fun e W'=>∃v,e=.returned v∧s.post enc P fn false true false false W args v W':=
 z29 hl ts hts hvars hres hb hrd hfn hval hW hsz hg fun h1 h2 h3=>by
  obtain⟨x,hx,hlen,hrep⟩:=hr h1 h2 h3
  exact⟨e x,hA x hx,hlen,hrep⟩
end Go.Fx
namespace Go.Fx
open Go
section
variable {P:Program} {I:Nat→Nat→Prop} {β:Id→Option CLoc} {n:Nat} {H:AHeap} {w:World}
theorem zcq{t c:TypeId}(h:P.underlying t=some (.slice c))(a:Addr)(k q:Nat)(xo yo:Operand)(w:World) :
 (do eqGuard .eql t xo yo (.slice (some a) k q) (.slice none 0 0);binOp .eql t (.slice (some a) k q) (.slice none 0 0):Sem Value).run P w=.ok (.bool false) w:=by
 have h1:(eqGuard .eql t xo yo (.slice (some a) k q) (.slice none 0 0)).run P w=.ok () w:=rfl
 have h2:binOp .eql t (.slice (some a) k q) (.slice none 0 0)=(do pure (.bool (←Op.equal t (.slice (some a) k q) (.slice none 0 0))):Sem Value):=rfl
 have h3:(Op.equal t (.slice (some a) k q) (.slice none 0 0)).run P w=.ok false w:=Yj h 9999 _ _ _ _ _
 rw[pO,h1,pI,h2,pO,h3,pI]
 rfl
theorem z77{t c:TypeId}(h:P.underlying t=some (.slice c))(xo yo:Operand)(w:World) :
 (do eqGuard .eql t xo yo (.slice none 0 0) (.slice none 0 0);binOp .eql t (.slice none 0 0) (.slice none 0 0):Sem Value).run P w=.ok (.bool true) w:=by
 have h1:(eqGuard .eql t xo yo (.slice none 0 0) (.slice none 0 0)).run P w=.ok () w:=rfl
 have h2:binOp .eql t (.slice none 0 0) (.slice none 0 0)=(do pure (.bool (←Op.equal t (.slice none 0 0) (.slice none 0 0))):Sem Value):=rfl
 have h3:(Op.equal t (.slice none 0 0) (.slice none 0 0)).run P w=.ok true w:=ul h 9999 _ _ _ _ _
 rw[pO,h1,pI,h2,pO,h3,pI]
 rfl
def zni(fn:Func)(t:TypeId):Prop:=∃ (tB t0 t1 t2 t3 t4 t5 t6:TypeId) (p1 p2 p3 p4 p5 p6 p7 p8:String) (a1 a2 a3 a4 a5 a6 a7 a8:Array Edge) (i0 i1 i2 i3:Nat),
 fn.ntmps=8∧fn.results=#[.tmp 2] ∧
  fn.body=some (.seq (.region i0 #[⟨some 2,.assign (.const (.slice none 0 0)),t0,p1,a1,none⟩] false)
   (.seq (.seq (.region i1 #[⟨some 3,.move (.tmp 0),t1,p2,a2,none⟩,⟨some 4,.binOp .eql t (.tmp 3) (.const (.slice none 0 0)) t,tB,p3,a3,none⟩] false)
    (.cond (.tmp 4) (.seq (.region i2 #[⟨some 2,.assign (.const (.slice none 0 0)),t2,p4,a4,none⟩] false) .ret) .skip))
   (.seq (.region i3 #[⟨some 5,.buildSlice t 0 #[],t3,p5,a5,none⟩,⟨some 6,.move (.tmp 0),t4,p6,a6,none⟩,⟨some 7,.call { callee:=.builtin .append,args:=#[.tmp 5,.tmp 6],argTypes:=#[t,t] },t5,p7,a7,none⟩,⟨some 2,.assign (.tmp 7),t6,p8,a8,none⟩] false) .ret)))
end
noncomputable def zys{α:Type}(m:Option Nat)(f:Nat→Option α):Option α:=match m with
 |some k=>f k
 |none=>open Classical in if h:∃k,(f k).isSome=true then f (Classical.choose h) else none
end Go.Fx
namespace Go.Fx
open Go
section
variable {P:Program} {I:Nat→Nat→Prop} {β:Id→Option CLoc} {n:Nat} {H:AHeap} {w:World}
structure BWrite(P:Program)(f:FuncId)(T e tb ts:TypeId):Prop where
 ok:uc P f
 ht:P.underlying tb=some (.slice e)
 hu:P.underlying ts=some .string
 hz:∃zs,xf P e=some zs
 hsz:xl P e=some 1
 hby:Zk P e=some 1
 used:∀ (b:Nat) (s:ByteArray) (v v2:Value) (w w2:World),w.heap[b]?=some (.cells #[.pointer (some ⟨b,0,none⟩),v] T (0,0)) →
  (Builtin.append_ #[tb,ts] tb #[v,.string s]).run P w=.ok v2 w2→(∃a l c,v2=.slice a l c)→w2.heap[b]?=some (.cells #[.pointer (some ⟨b,0,none⟩),v] T (0,0)) →
  Calls P f #[.pointer (some ⟨b,0,none⟩),.string s] w fun e w'=>e=.returned (.tuple #[.int .i64 s.size,.nilIface])∧w'=w2.setCell ⟨b,1,none⟩ v2
 fresh:∀ (b:Nat) (s:ByteArray) (v v2:Value) (w w2:World),w.heap[b]?=some (.cells #[.pointer none,v] T (0,0)) →
  (Builtin.append_ #[tb,ts] tb #[v,.string s]).run P (w.setCell ⟨b,0,none⟩ (.pointer (some ⟨b,0,none⟩)))=.ok v2 w2→(∃a l c,v2=.slice a l c)→w2.heap[b]?=some (.cells #[.pointer (some ⟨b,0,none⟩),v] T (0,0)) →
  Calls P f #[.pointer (some ⟨b,0,none⟩),.string s] w fun e w'=>e=.returned (.tuple #[.int .i64 s.size,.nilIface])∧w'=w2.setCell ⟨b,1,none⟩ v2
structure BStr(P:Program)(f:FuncId)(T e:TypeId):Prop where
 ok:uc P f
 nil:∀ (b:Nat) (p:Value) (w:World),w.heap[b]?=some (.cells #[p,.slice none 0 0] T (0,0)) →
  Calls P f #[.pointer (some ⟨b,0,none⟩)] w fun e w'=>e=.returned (.string ⟨#[]⟩)∧w'=w.drew
 zero:∀ (b g cap:Nat) (p:Value) (w:World),w.heap[b]?=some (.cells #[p,.slice (some ⟨g,0,none⟩) 0 cap] T (0,0))→cap≠0 →
  Calls P f #[.pointer (some ⟨b,0,none⟩)] w fun e w'=>e=.returned (.string ⟨#[]⟩)∧w'=w.drew
 full:∀ (b g cap:Nat) (l:List UInt8) (p:Value) (w:World) (cur:Array Value) (fr:Nat×Nat),w.heap[b]?=some (.cells #[p,.slice (some ⟨g,0,none⟩) l.length cap] T (0,0))→l≠[]→cap≠0→l.length≤cur.size→l.length≤9223372036854775807 →
  w.heap[g]?=some (.cells cur e fr)→(∀ (j:Nat) (x:UInt8),l[j]?=some x→cur[j]?=some (Value.int .u8 (x.toNat:Int))) →
  Calls P f #[.pointer (some ⟨b,0,none⟩)] w fun e w'=>e=.returned (.string ⟨l.toArray⟩)∧w'=w.drew.freeze ⟨g,0,none⟩ l.length
theorem Y6{b k:Nat}{arr:Array Value}{el:TypeId}{fr:Nat×Nat}(h:w.heap[b]?=some (.cells arr el fr))(v:Value):(w.setCell ⟨b,k,none⟩ v).heap[b]?=some (.cells (arr.setIfInBounds k v) el fr):=by
 simp[World.setCell,Array.getElem?_modify,h]
theorem W9{b k x:Nat}(hx:x≠b)(v:Value):(w.setCell ⟨b,k,none⟩ v).heap[x]?=w.heap[x]?:=by
 simp only[World.setCell,Array.getElem?_modify]
 rw[if_neg (fun h=>hx h.symm)]
theorem z8g(hI:Inv I β n H w){w':World}{b g:Id}{T e:TypeId}{bs bs2:List UInt8}{c d d2:CLoc}(hb:H.get b=some (.bld T g))(hg:H.get g=some (.buf e bs))(hc:β b=some c)(hd:β g=some d)
 (hC:Chg w w' (fun x k=>c.has x k∨d.has x k)) (hd2:∀x k,d2.has x k→x<w'.heap.size∧(d.has x k∨w.heap.size≤x))
 (hB1:RepB I (upd (upd β g none) (n,0) (some d2)) (n+1) w' c (.bld T (n,0))) (hB2:RepB I (upd (upd β g none) (n,0) (some d2)) (n+1) w' d2 (.buf e bs2)) :
 Inv I (upd (upd β g none) (n,0) (some d2)) (n+1) (((n,0),.buf e bs2)::(H.set b (.bld T (n,0))).del g) w' ∧
 Ext I β n H w I (upd (upd β g none) (n,0) (some d2)) (n+1) (((n,0),.buf e bs2)::(H.set b (.bld T (n,0))).del g) w':=by
 have hbg:b≠g:=by rintro rfl;rw[hb] at hg;cases hg
 have hbn:=uy hI hc
 have hgn:=uy hI hd
 refine wk hI hC (Nat.le_succ n) ?_ (fun _ _ h=>h) (fun _ _ h h'=>absurd h h') ?_ ?_ ?_ ?_ ?_ ?_ ?_
 ·rintro x k (h|h)
  ·exact⟨b,c,hc,by rw[hb];simp,h⟩
  ·exact⟨g,d,hd,by rw[hg];simp,h⟩
 ·intro id hid
  by_cases h:id=g
  ·subst h;exact .inr ⟨by rw[ze _ _ (vn hid),qr],by rw[hg];simp⟩
  ·exact .inl (by rw[ze _ _ (vn hid),ze _ _ h])
 ·intro id q x k hid hq hk
  rcases Zm hq hI.fresh with⟨_,rfl⟩|⟨h,_⟩
  ·obtain⟨h1,h2⟩:=hd2 x k hk
   refine⟨h1,?_⟩
   rcases h2 with h2|h2
   ·exact .inr ⟨g,d,hd,by rw[hg];simp,h2⟩
   ·exact .inl h2
  ·omega
 ·intro id hid
  rw[ze _ _ (fun h=>by subst h;exact absurd hid (Nat.not_succ_le_self n)),ze _ _ (fun h=>by subst h;omega)]
  exact hI.fresh id (by omega)
 ·intro i j q q' x k hi hj hq hq' hj'
  rcases Zm hj hI.fresh with⟨rfl,rfl⟩|⟨h,_⟩
  ·rcases Zm hi hI.fresh with⟨rfl,_⟩|⟨_,h1,h2⟩
   ·rfl
   ·rcases(hd2 x k hq').2 with h|h
    ·exact absurd (hI.inj i g q d x k h2 hd hq h) h1
    ·exact(Xu hI h2 hq h).elim
  ·omega
 ·intro i q x k hi hq h;exact h
 ·intro id hid h
  rw[AHeap.get_cons_other _ _ (vn hid).symm,AHeap.get_del] at h
  split at h
  ·exact absurd rfl h
  ·exact(Xj id).1 h
 ·intro id blk hid
  by_cases h:(n,0)=id
  ·subst h
   rw[AHeap.get_cons_same] at hid
   simp only[p0] at hid
   subst hid
   exact .inr ⟨d2,qr _ _ _,hB2⟩
  ·rw[AHeap.get_cons_other _ _ h,AHeap.get_del] at hid
   split at hid
   ·cases hid
   ·rename_i hne
    have hβ:upd (upd β g none) (n,0) (some d2) id=β id:=by rw[ze _ _ (fun h'=>h h'.symm),ze _ _ (fun h'=>hne h'.symm)]
    rw[AHeap.get_set] at hid
    by_cases hbi:b=id
    ·subst hbi
     rw[if_pos rfl,hb] at hid
     simp only[pJ,p0] at hid
     subst hid
     exact .inr ⟨c,hβ.trans hc,hB1⟩
    ·rw[if_neg hbi] at hid
     refine .inl ⟨hid,hβ,fun q x k hq hk hw=>?_⟩
     rcases hw with hw|hw
     ·exact hbi (hI.inj b id c q x k hc hq hw hk)
     ·exact hne (hI.inj g id d q x k hd hq hw hk)
def vg(l:List UInt8):Array Value:=(l.map fun x=>Value.int .u8 (x.toNat:Int)).toArray
theorem w7(l:List UInt8):(vg l).size=l.length:=by simp[vg]
theorem Q4(l:List UInt8)(i:Nat)(x:UInt8)(h:l[i]?=some x):(vg l)[i]?=some (Value.int .u8 (x.toNat:Int)):=by
 simp only[vg,q6,pL,h];rfl
theorem zik(s:List UInt8)(w:World):(Builtin.firstCells 1 s.length (.string ⟨⟨s⟩⟩)).run P w=.ok (vg s) w:=by
 have h:(Builtin.firstCells 1 s.length (.string ⟨⟨s⟩⟩))=(pure ((ByteArray.extract ⟨⟨s⟩⟩ 0 s.length).data.map fun b=>Value.int .u8 b.toNat):Sem (Array Value)):=rfl
 rw[h,qA]
 congr 1
 apply Array.toList_inj.1
 have h2:(ByteArray.extract ⟨⟨s⟩⟩ 0 s.length).data=⟨s⟩:=by
  rw[ByteArray.data_extract]
  apply Array.toList_inj.1
  simp
 rw[h2]
 simp[vg]
theorem zdn{t u c rt:TypeId}{z:Nat}(ht:P.underlying t=some (.slice c))(hu:(∃c',P.underlying u=some (.slice c'))∨P.underlying u=some .string)(hsz:xl P c=some z)(w:World)(base:Option Addr)(len cap:Nat)(h:len≤cap){vy:Value}
 (hly:(Builtin.lenOf vy).run P w=.ok 0 w) (f2:(Builtin.firstCells z 0 vy).run P w=.ok #[] w) :
 (Builtin.append_ #[t,u] rt #[.slice base len cap,vy]).run P w=.ok (.slice base len cap) w:=by
 rcases hu with⟨c2,hu⟩|hu
 ·unfold Builtin.append_
  simp only[q6,pC,pT,pO,za ht,za hu,pI,yu hsz,qA,hly,pR,if_false,Bool.not_false,if_true,Nat.add_zero]
  rw[if_pos h]
  simp only[pO,f2,pI]
  cases base<;>simp[storeCells]
 ·unfold Builtin.append_
  simp only[q6,pC,pT,pO,za ht,za hu,pI,yu hsz,qA,hly,pR,if_false,Bool.not_false,if_true,Nat.add_zero]
  rw[if_pos h]
  simp only[pO,f2,pI]
  cases base<;>simp[storeCells]
theorem zdx{t u c rt:TypeId}{z:Nat}(ht:P.underlying t=some (.slice c))(hu:(∃c',P.underlying u=some (.slice c'))∨P.underlying u=some .string)(hsz:xl P c=some z)(w w':World)(b len cap m:Nat)(h:len+m≤cap){vy:Value}{a2:Array Value}
 (hly:(Builtin.lenOf vy).run P w=.ok m w) (f2:(Builtin.firstCells z m vy).run P w=.ok a2 w)
 (hst:(storeCells ⟨b,0+len*z,none⟩ a2.toList 0).run P w=.ok () w') :
 (Builtin.append_ #[t,u] rt #[.slice (some ⟨b,0,none⟩) len cap,vy]).run P w=.ok (.slice (some ⟨b,0,none⟩) (len+m) cap) w':=by
 rcases hu with⟨c2,hu⟩|hu
 ·unfold Builtin.append_
  simp only[q6,pC,pT,pO,za ht,za hu,pI,yu hsz,qA,hly,pR,if_false,Bool.not_false,if_true]
  rw[if_pos h]
  simp only[pO,f2,pI,xg,hst,qA]
 ·unfold Builtin.append_
  simp only[q6,pC,pT,pO,za ht,za hu,pI,yu hsz,qA,hly,pR,if_false,Bool.not_false,if_true]
  rw[if_pos h]
  simp only[pO,f2,pI,xg,hst,qA]
theorem zmg(w:World)(b:Nat)(l:List UInt8)(h:∀ (j:Nat) (x:UInt8),l[j]?=some x→w.cell? ⟨b,j,none⟩=some (Value.int .u8 (x.toNat:Int))):(loadCells ⟨b,0,none⟩ (l.length*1)).run P w=.ok (vg l) w:=by
 rw[Nat.mul_one,Yo (fun j=>Value.int .u8 ((l.getD j 0).toNat:Int)) l.length (fun j hj=>by
  rw[Nat.zero_add];exact h j _ (by rw[pP,pM hj];rfl))]
 congr 1
 apply Array.toList_inj.1
 simp only[vg]
 apply List.ext_getElem?
 intro j
 simp only[pL]
 by_cases hj:j<l.length
 ·rw[List.getElem?_range hj,pM hj];simp[pP,pM hj]
 ·rw[pN (by simpa using hj),pN (by omega)];rfl
theorem zea{w w':World}{c:CLoc}{arr:Array Value}{el:TypeId}{fr:Nat×Nat}(h:Wrote w w' c.blk)(hheap:w.heap[c.blk]?=some (.cells arr el fr))(hlo:c.lo=0)(hpos:0<c.size)(hsz:arr.size≤c.size):Chg w w' c.has:=by
 refine⟨h.os,h.tape,h.output,by rw[h.size];exact pG _,fun b _ hb=>?_,fun b k _ hb=>?_,fun b a e f hb=>?_,fun b es ck hb _=>?_⟩
 ·refine h.other b fun hx=>?_
  subst hx
  exact hb 0 ⟨rfl,by omega,hpos⟩
 ·by_cases hx:b=c.blk
  ·subst hx
   obtain⟨arr',h1,h2⟩:=h.shape _ _ _ hheap
   have hk:c.size≤k:=by
    rcases pY k c.size with h|h
    ·exact absurd ⟨rfl,by omega,h⟩ hb
    ·exact h
   unfold qD
   simp only[hheap,h1]
   rw[pQ (by omega),pQ (by omega)]
  ·exact cell?_of_heap (h.other b hx)
 ·by_cases hx:b=c.blk
  ·subst hx;exact h.shape _ _ _ hb
  ·exact⟨a,by rw[h.other b hx];exact hb,rfl⟩
 ·by_cases hx:b=c.blk
  ·subst hx;exact h.mapsAt _ ck hb
  ·rw[h.other b hx];exact hb
theorem zm7{T e tb ts:TypeId}{vy:Value}(ht:P.underlying tb=some (.slice e))(hu:(∃c',P.underlying ts=some (.slice c'))∨P.underlying ts=some .string)(hz0:∃zs,xf P e=some zs)(hsz:xl P e=some 1)(hby:Zk P e=some 1)
 {b g:Id} {bs s:List UInt8} (hb:H.get b=some (.bld T g)) (hg:H.get g=some (.buf e bs)) (hlen:bs.length+s.length≤140737488355328) (hI:Inv I β n H w) {c:CLoc} (hc:β b=some c) {p v:Value}
 (hheap:w.heap[c.blk]?=some (.cells #[p,v] T (0,0))) {w1:World} (hw1:Wrote w w1 c.blk) (hw1b:w1.heap[c.blk]?=some (.cells #[.pointer (some ⟨c.blk,0,none⟩),v] T (0,0)))
 (hsl:∀wx:World,wx.heap=w1.heap→(Builtin.lenOf vy).run P wx=.ok s.length wx) (hfc:∀wx:World,wx.heap=w1.heap→(Builtin.firstCells 1 s.length vy).run P wx=.ok (vg s) wx) :
 ∃ (v2:Value) (w2:World) (β':Id→Option CLoc),(Builtin.append_ #[tb,ts] tb #[v,vy]).run P w1=.ok v2 w2∧(∃a l c,v2=.slice a l c)∧w2.heap[c.blk]?=some (.cells #[.pointer (some ⟨c.blk,0,none⟩),v] T (0,0)) ∧
  Inv I β' (n+1) (((n,0),.buf e (bs++s))::(H.set b (.bld T (n,0))).del g) (w2.setCell ⟨c.blk,1,none⟩ v2)∧Ext I β n H w I β' (n+1) (((n,0),.buf e (bs++s))::(H.set b (.bld T (n,0))).del g) (w2.setCell ⟨c.blk,1,none⟩ v2):=by
 obtain⟨c',hc',hB⟩:=hI.blocks b _ hb
 rw[hc] at hc'
 simp only[p0] at hc'
 subst hc'
 obtain⟨d,hd,hD⟩:=hI.blocks g _ hg
 obtain⟨hlo,hbase,hsize,hgn,p',v',hheap',hp,hv⟩:=hB
 rw[hheap] at hheap'
 simp only[p0,Obj.cells.injEq,and_true] at hheap'
 obtain⟨rfl,rfl⟩:p=p'∧v=v':=by simpa using hheap'
 have hds:d.s=bs.length:=hD.2.1
 have hvd:=hv d hd
 rw[hds] at hvd
 have hbg:b≠g:=by rintro rfl;rw[hb] at hg;cases hg
 have hblt:c.blk<w.heap.size:=by
  rcases pY c.blk w.heap.size with h|h
  ·exact h
  ·rw[pQ h] at hheap;cases hheap
 have other:∀x,x≠c.blk→w1.heap[x]?=w.heap[x]?:=hw1.other
 have hdc:0<d.size→d.blk≠c.blk:=by
  intro hp0 h
  have hdlo:d.lo=0:=hD.1
  exact hbg (hI.inj b g c d c.blk 0 hc hd ⟨rfl,by omega,by omega⟩ ⟨h,by omega,hp0⟩)
 -- what is appended
 obtain⟨zs,hz⟩:=hz0
 have hwsz:w1.heap.size=w.heap.size:=hw1.size
 have grow:∀ (base:Option Addr) (cap:Nat) (a1:Array Value),v=.slice base bs.length cap→(Builtin.firstCells 1 bs.length (.slice base bs.length cap)).run P { w1 with drawn:=w1.drawn+1 }=.ok a1 { w1 with drawn:=w1.drawn+1 }→a1=vg bs→cap<bs.length+s.length →
  ∃ (v2:Value) (w2:World) (d2:CLoc),(Builtin.append_ #[tb,ts] tb #[v,vy]).run P w1=.ok v2 w2∧(∃a l c,v2=.slice a l c)∧Chg w1 w2 d.has∧(∀x k,d2.has x k→x<w2.heap.size∧(d.has x k∨w.heap.size≤x))∧d2.lo=0∧d2.s=(bs++s).length ∧
   ((d2.size=0∧bs++s=[]∧v2=.slice none 0 0)∨(0<d2.size∧d2.blk≠c.blk∧v2=.slice (some ⟨d2.blk,0,none⟩) (bs++s).length d2.size∧∃arr fr,w2.heap[d2.blk]?=some (.cells arr e fr)∧d2.size=arr.size∧(bs++s).length≤arr.size∧(fr.1=fr.2∨fr.2≤(bs++s).length) ∧
    ∀ (i:Nat) (x:UInt8),(bs++s)[i]?=some x→arr[i]?=some (.int .u8 (x.toNat:Int)))):=by
  intro base cap a1 hv1 hf1 ha1 hcap
  subst hv1
  subst ha1
  obtain⟨m,w',a3,k1,k2,k3,k4⟩:=z3k (P:=P) (rt:=tb) (w:=w1) ht hu hz hsz hby Nat.one_pos (wd:={ w1 with drawn:=w1.drawn+1 }) rfl (hsl w1 rfl) hf1 (hfc _ rfl) hcap (by omega) (by simp[w7]) (by simp[w7])
  have hsz':w'.heap.size=w1.heap.size+1:=by rw[k3.heap];simp
  refine⟨_,w',⟨w1.heap.size,0,m,0,(bs++s).length⟩,k1,⟨_,_,_,rfl⟩,k3.chg.mono (fun _ _ h=>h.elim),fun x k h=>?_,rfl,rfl,.inr ⟨by simp only;omega,by simp only;omega,by rw[pV],_,_,k3.new,by rw[k4];simp,by rw[k4,pV];omega,.inl rfl,fun i x hi=>?_⟩⟩
  ·have hx:w1.heap.size=x:=h.1
   exact⟨by omega,.inr (by omega)⟩
  ·have hlt:i<bs.length+s.length:=by
    rcases pY i (bs++s).length with h|h
    ·rwa [pV] at h
    ·rw[pN h] at hi;cases hi
   rw[Array.getElem?_append_left (by simp only[Array.size_append,w7];exact hlt)]
   by_cases hib:i<bs.length
   ·rw[Array.getElem?_append_left (by rw[w7];exact hib)]
    rw[List.getElem?_append_left hib] at hi
    exact Q4 _ _ _ hi
   ·rw[Array.getElem?_append_right (by rw[w7];omega),w7]
    rw[List.getElem?_append_right (by omega)] at hi
    exact Q4 _ _ _ hi
 obtain⟨v2,w2,d2,hrun,hv2,hC2,hd2,hlo2,hs2,hfin⟩:∃ (v2:Value) (w2:World) (d2:CLoc),(Builtin.append_ #[tb,ts] tb #[v,vy]).run P w1=.ok v2 w2∧(∃a l c,v2=.slice a l c)∧Chg w1 w2 d.has∧(∀x k,d2.has x k→x<w2.heap.size∧(d.has x k∨w.heap.size≤x))∧d2.lo=0∧d2.s=(bs++s).length ∧
  ((d2.size=0∧bs++s=[]∧v2=.slice none 0 0)∨(0<d2.size∧d2.blk≠c.blk∧v2=.slice (some ⟨d2.blk,0,none⟩) (bs++s).length d2.size∧∃arr fr,w2.heap[d2.blk]?=some (.cells arr e fr)∧d2.size=arr.size∧(bs++s).length≤arr.size∧(fr.1=fr.2∨fr.2≤(bs++s).length) ∧
   ∀ (i:Nat) (x:UInt8),(bs++s)[i]?=some x→arr[i]?=some (.int .u8 (x.toNat:Int)))):=by
  have hz2:d.size=0→bs.length=0:=fun hz=>by
   obtain⟨_,_,⟨_,h⟩|⟨h,_⟩⟩:=hD
   ·rw[h];rfl
   ·omega
  rcases hvd with⟨z1,rfl⟩|⟨z1,rfl⟩
  ·have hbs:bs=[]:=qB.1 (hz2 z1)
   subst hbs
   by_cases hs0:s=[]
   ·subst hs0
    exact⟨_,w1,{ d with s:=(([]:List UInt8)++[]).length },zdn ht hu hsz w1 none 0 0 (pG _) (hsl w1 rfl) (hfc w1 rfl),⟨_,_,_,rfl⟩,Chg.refl _ _,fun x k h=>absurd (show k<d.size from h.2.2) (by omega),hD.1,rfl,.inl ⟨z1,rfl,rfl⟩⟩
   ·exact grow none 0 #[] rfl rfl rfl (by have:=List.length_pos_iff.2 hs0;simpa using this)
  ·obtain⟨_,_,⟨h,_⟩|⟨_,arr,fr,q1,q2,q3,q4,q5⟩⟩:=hD
   ·omega
   have q1':w1.heap[d.blk]?=some (.cells arr e fr):=by rw[other _ (hdc z1)];exact q1
   by_cases hin:bs.length+s.length≤d.size
   ·have hun:∀k,bs.length≤k→w1.frozen? ⟨d.blk,k,none⟩=false:=by
     intro k hk
     unfold World.frozen?
     simp only[q1']
     rcases q4 with h|h
     ·simp only[Bool.and_eq_false_iff,decide_eq_false_iff_not];omega
     ·simp only[Bool.and_eq_false_iff,decide_eq_false_iff_not];omega
    obtain⟨w',t1,t2,t3,t4⟩:=vq (P:=P) (vs:=(vg s).toList) (w:=w1) (b:=d.blk) (o:=0+bs.length*1)
     (fun j hj=>by
      simp only[Array.length_toList,w7] at hj
      have hlt:0+bs.length*1+j<arr.size:=by omega
      exact⟨arr[0+bs.length*1+j],by unfold qD;simp[q1']⟩)
     (fun j hj=>hun _ (by omega)) (fun u hu=>by
      simp only[vg,pK] at hu
      obtain⟨y,_,rfl⟩:=hu;rfl)
    simp only[Array.length_toList,w7] at t2 t4
    obtain⟨arr',g1,g2⟩:=t2.shape _ _ _ _ q1'
    have hdlt:d.blk<w1.heap.size:=by
     rcases pY d.blk w1.heap.size with h|h
     ·exact h
     ·rw[pQ h] at q1';cases q1'
    have cellA:∀k,w'.cell? ⟨d.blk,k,none⟩=arr'[k]?:=fun k=>by unfold qD;simp[g1]
    refine⟨_,w',{ d with s:=(bs++s).length },zdx ht hu hsz w1 w' d.blk bs.length d.size s.length hin (hsl w1 rfl) (hfc w1 rfl) t1,⟨_,_,_,rfl⟩,t2.mono (fun b' k h=>⟨h.1.symm,by omega,by omega⟩),fun x k h=>?_,by assumption,rfl,.inr ⟨z1,hdc z1,by rw[pV],arr',fr,g1,(by show d.size=arr'.size;omega),by rw[pV];omega,?_,fun i x hi=>?_⟩⟩
    ·have hx:d.blk=x:=h.1
     exact⟨by rw[t3];omega,.inl h⟩
    ·rcases q4 with h|h
     ·exact .inl h
     ·exact .inr (by rw[pV];omega)
    ·have hlt:i<bs.length+s.length:=by
      rcases pY i (bs++s).length with h|h
      ·rwa [pV] at h
      ·rw[pN h] at hi;cases hi
     rw[←cellA]
     by_cases hib:i<bs.length
     ·rw[List.getElem?_append_left hib] at hi
      rw[t2.cell d.blk i hdlt (fun h=>by omega)]
      unfold qD
      simp only[q1']
      simpa using q5 i x hi
     ·rw[List.getElem?_append_right (by omega)] at hi
      have:=t4 (i-bs.length) (by omega)
      rw[show 0+bs.length*1+(i-bs.length)=i by omega] at this
      rw[this,pZ]
      exact Q4 _ _ _ hi
   ·refine grow (some ⟨d.blk,0,none⟩) d.size (vg bs) rfl ?_ rfl (by omega)
    have:(Builtin.firstCells 1 bs.length (.slice (some ⟨d.blk,0,none⟩) bs.length d.size))=loadCells ⟨d.blk,0,none⟩ (bs.length*1):=rfl
    rw[this]
    refine zmg _ _ _ fun j x hx=>?_
    unfold qD
    simp only[q1']
    simpa using q5 j x hx
 have hnd:∀k,¬d.has c.blk k:=fun k h=>hdc (by have:=h.2;have:=hD.1;omega) h.1
 have hw2b:w2.heap[c.blk]?=some (.cells #[.pointer (some ⟨c.blk,0,none⟩),v] T (0,0)):=by
  rw[hC2.block c.blk (by omega) hnd];exact hw1b
 have hw3b:(w2.setCell ⟨c.blk,1,none⟩ v2).heap[c.blk]?=some (.cells #[.pointer (some ⟨c.blk,0,none⟩),v2] T (0,0)):=by rw[Y6 hw2b];rfl
 have hsz3:(w2.setCell ⟨c.blk,1,none⟩ v2).heap.size=w2.heap.size:=by simp
 have hCh:Chg w (w2.setCell ⟨c.blk,1,none⟩ v2) (fun x k=>c.has x k∨d.has x k):=
  ((zea hw1 hheap hlo (by omega) (by simp;omega)).mono (fun _ _ h=>.inl h)).trans
   ((hC2.mono (fun _ _ h=>.inr h)).trans ((zea (Wrote.setCell w2 ⟨c.blk,1,none⟩ v2) hw2b hlo (by omega) (by simp;omega)).mono (fun _ _ h=>.inl h)))
 obtain⟨r3,r4⟩:=z8g (bs2:=bs++s) (w':=w2.setCell ⟨c.blk,1,none⟩ v2) (d2:=d2) hI hb hg hc hd hCh (fun x k h=>by rw[hsz3];exact hd2 x k h)
  ⟨hlo,hbase,hsize,Nat.lt_succ_self n,_,v2,hw3b,.inr rfl,fun d' hd'=>by
   rw[qr] at hd'
   simp only[p0] at hd'
   subst hd'
   rcases hfin with⟨g1,g2,g3⟩|⟨g1,_,g2,_⟩
   ·exact .inl ⟨g1,g3⟩
   ·exact .inr ⟨g1,by rw[hs2];exact g2⟩⟩
  ⟨hlo2,hs2,by
   rcases hfin with⟨g1,g2,g3⟩|⟨g1,g2,_,arr,fr,g3,g4,g5,g6,g7⟩
   ·exact .inl ⟨g1,g2⟩
   ·exact .inr ⟨g1,arr,fr,by rw[W9 g2];exact g3,g4,g5,g6,g7⟩⟩
 exact⟨v2,w2,_,hrun,hv2,hw2b,r3,r4⟩
theorem zpo{b:Id}{T:TypeId}{g:Id}{vp:Value}{c:CLoc}(hc:β b=some c)(hB:RepB I β n w c (.bld T g))(r1:Rep I β n w (.ptr b 0 0) vp):vp=.pointer (some ⟨c.blk,0,none⟩):=by
 obtain⟨hlo,hbase,_⟩:=hB
 cases r1 with
 |imm _ _ h=>cases h
 |ptr _ _ _ a h1 h2=>rw[h2 c hc,hbase];simp
set_option maxHeartbeats 1000000 in
theorem z0a{f:FuncId}{T e tb ts:TypeId}(hW:BWrite P f T e tb ts){b g:Id}{bs s:List UInt8}{K:AVal→AHeap→Nat→Prop}(hb:H.get b=some (.bld T g))(hg:H.get g=some (.buf e bs))
 (hlen:bs.length+s.length≤140737488355328) (hk:K (.tup [.int .i64 (s.length:Int),.val .nilIface]) (((n,0),.buf e (bs++s))::(H.set b (.bld T (n,0))).del g) (n+1)) :
 ACalls P f [.ptr b 0 0,.str s] H n K:=by
 refine⟨hW.ok,fun I β w vs hI hl hr=>?_⟩
 match vs,hl with
 |[vp,vs'],_=>
 have r1:=hr 0 _ _ rfl rfl
 have r2:=hr 1 _ _ rfl rfl
 rw[r2.str_inv]
 obtain⟨c,hc,hB⟩:=hI.blocks b _ hb
 rw[zpo hc hB r1]
 obtain⟨hlo,hbase,hsize,hgn,p,v,hheap,hp,hv⟩:=hB
 obtain⟨w1,hw1,hw1b,hcalls⟩:∃w1:World,Wrote w w1 c.blk∧w1.heap[c.blk]?=some (.cells #[.pointer (some ⟨c.blk,0,none⟩),v] T (0,0))∧∀v2 w2,(Builtin.append_ #[tb,ts] tb #[v,.string ⟨⟨s⟩⟩]).run P w1=.ok v2 w2→(∃a l c,v2=.slice a l c) →
  w2.heap[c.blk]?=some (.cells #[.pointer (some ⟨c.blk,0,none⟩),v] T (0,0)) →
  Calls P f #[.pointer (some ⟨c.blk,0,none⟩),.string ⟨⟨s⟩⟩] w fun e w'=>e=.returned (.tuple #[.int .i64 (⟨⟨s⟩⟩:ByteArray).size,.nilIface])∧w'=w2.setCell ⟨c.blk,1,none⟩ v2:=by
  rcases hp with rfl|rfl
  ·exact⟨w.setCell ⟨c.blk,0,none⟩ (.pointer (some ⟨c.blk,0,none⟩)),Wrote.setCell w ⟨c.blk,0,none⟩ _,by rw[Y6 hheap];rfl,fun v2 w2 h1 h2 h3=>hW.fresh _ _ _ _ _ _ hheap h1 h2 h3⟩
  ·exact⟨w,Wrote.refl w _,hheap,fun v2 w2 h1 h2 h3=>hW.used _ _ _ _ _ _ hheap h1 h2 h3⟩
 obtain⟨v2,w2,β',hrun,hv2,hw2b,r3,r4⟩:=zm7 hW.ht (.inr hW.hu) hW.hz hW.hsz hW.hby hb hg hlen hI hc hheap hw1 hw1b (vy:=.string ⟨⟨s⟩⟩) (fun _ _=>rfl) (fun _ _=>zik s _)
 refine(hcalls v2 w2 hrun hv2 hw2b).mono ?_
 rintro ee w' ⟨rfl,rfl⟩
 refine⟨_,_,_,_,I,_,rfl,hk,r3,?_,r4⟩
 refine .tup _ _ rfl fun i x u hx hu=>?_
 match i,hx,hu with
 |0,hx,hu=>simp at hx hu;subst hx;subst hu;exact .imm _ _ (.int _ _)
 |1,hx,hu=>simp at hx hu;subst hx;subst hu;exact .imm _ _ (.val _ rfl)
 |i+2,hx,hu=>simp at hx
theorem Vu{b m:Nat}{arr:Array Value}{el:TypeId}{fr:Nat×Nat}(h:w.heap[b]?=some (.cells arr el fr))(hm:m≠0) :
 (w.freeze ⟨b,0,none⟩ m).heap[b]?=some (.cells arr el (if fr.1==fr.2 then(0,0+m) else(min fr.1 0,max fr.2 (0+m)))):=by
 unfold World.freeze
 rw[if_neg hm]
 simp[Array.getElem?_modify,h]
theorem vd{b m x:Nat}(hx:x≠b):(w.freeze ⟨b,0,none⟩ m).heap[x]?=w.heap[x]?:=by
 unfold World.freeze
 split
 ·rfl
 ·simp only[Array.getElem?_modify]
  rw[if_neg (fun h=>hx h.symm)]
theorem Ks{b m:Nat}:(w.freeze ⟨b,0,none⟩ m).heap.size=w.heap.size:=by
 unfold World.freeze
 split<;>simp
theorem zc0(hI:Inv I β n H w){g:Id}{e:TypeId}{bs:List UInt8}{d:CLoc}(hg:H.get g=some (.buf e bs))(hd:β g=some d)(hpos:0<d.size)(hbs:bs≠[]) :
 Inv I β n H (w.freeze ⟨d.blk,0,none⟩ bs.length)∧Ext I β n H w I β n H (w.freeze ⟨d.blk,0,none⟩ bs.length):=by
 have hm:bs.length≠0:=fun h=>hbs (qB.1 h)
 have hgne:H.get g≠none:=by rw[hg];simp
 obtain⟨d',hd',hD⟩:=hI.blocks g _ hg
 rw[hd] at hd'
 simp only[p0] at hd'
 subst hd'
 obtain⟨hlo,hds,⟨h,_⟩|⟨_,arr,fr,q1,q2,q3,q4,q5⟩⟩:=hD
 ·omega
 have self:=Vu q1 hm
 have hcell:∀b k,(w.freeze ⟨d.blk,0,none⟩ bs.length).cell? ⟨b,k,none⟩=w.cell? ⟨b,k,none⟩:=by
  intro b k
  by_cases hb:b=d.blk
  ·subst hb
   unfold qD
   simp only[self,q1]
  ·exact cell?_of_heap (vd hb)
 have hhas:∀k,k<arr.size→d.has d.blk k:=fun k hk=>⟨rfl,by omega,by omega⟩
 have hmap:∀ (b:Nat) (o:Obj),w.heap[b]?=some o→(∀a e f,o≠.cells a e f)→(w.freeze ⟨d.blk,0,none⟩ bs.length).heap[b]?=some o:=by
  intro b o hb hne
  have:b≠d.blk:=by rintro rfl;rw[q1] at hb;simp only[p0] at hb;exact hne _ _ _ hb.symm
  rw[vd this];exact hb
 have hshape:∀ (b:Nat) (a:Array Value) (el:TypeId) (f:Nat×Nat),w.heap[b]?=some (.cells a el f)→∃a' f',(w.freeze ⟨d.blk,0,none⟩ bs.length).heap[b]?=some (.cells a' el f')∧a'.size=a.size∧(f'=f∨(b=d.blk∧a.size=arr.size)):=by
  intro b a el f hb
  by_cases hx:b=d.blk
  ·subst hx
   rw[q1] at hb
   simp only[p0,Obj.cells.injEq] at hb
   obtain⟨rfl,rfl,rfl⟩:=hb
   exact⟨_,_,self,rfl,.inr ⟨rfl,rfl⟩⟩
  ·exact⟨a,f,by rw[vd hx];exact hb,rfl,.inl rfl⟩
 constructor
 ·refine⟨fun id blk hid=>?_,hI.inj,fun i c b k hi hc=>by rw[Ks];exact hI.own i c b k hi hc,fun b k hb=>by rw[hcell];exact hI.imm b k hb,hI.fresh,hI.glob.mono (fun _ _ h=>h) (fun b k _=>by rw[hcell]) (fun b a el f hb=>by obtain⟨a',f',h1,h2,_⟩:=hshape b a el f hb;exact⟨a',f',h1,h2⟩)⟩
  obtain⟨c,hc,hB⟩:=hI.blocks id blk hid
  refine⟨c,hc,?_⟩
  by_cases hgi:id=g
  ·subst hgi
   rw[hd] at hc
   simp only[p0] at hc
   subst hc
   rw[hg] at hid
   simp only[p0] at hid
   subst hid
   refine⟨hlo,hds,.inr ⟨hpos,arr,_,self,q2,q3,?_,q5⟩⟩
   split
   ·exact .inr (by simp)
   ·rename_i hne
    rcases q4 with h|h
    ·exact absurd (by simpa using h) hne
    ·exact .inr (by simp only[Nat.zero_add];omega)
  ·refine hB.mono' (fun _ _ h=>h) (fun b k _=>hcell b k) (pG n) (fun _ _ _ h=>h) (fun a el f h=>?_) (fun b k v _ hv=>by rw[hcell];exact hv) (fun es ck _ h=>hmap _ _ h (fun a e f hx=>by subst hx;cases ck))
   obtain⟨a',f',k1,k2,k3⟩:=hshape _ _ _ _ h
   refine⟨a',f',k1,k2,k3.imp (fun h=>h) fun hx k hk hck=>?_⟩
   refine hgi (hI.inj id g c d c.blk k hc hd hck ?_)
   rw[hx.1]
   exact hhas k (by omega)
 ·have refl:Ext I β n H w I β n H w:=Ext.refl _ _ _ _ _ hI.fresh
  refine⟨?_,?_,?_,by rw[Ks];exact pG _,fun b hb hn=>?_,fun b k v hv _=>by rw[hcell];exact hv,fun b a el f h=>?_,fun b es ck h _=>hmap _ _ h (fun a e f hx=>by subst hx;cases ck),refl.imm,refl.immNew,refl.old,refl.new,refl.dom,refl.le⟩
  ·unfold World.freeze;split<;>rfl
  ·unfold World.freeze;split<;>exact⟨rfl,fun _=>pG _⟩
  ·unfold World.freeze;split<;>rfl
  ·exact vd fun hx=>hn g d 0 hd hgne ⟨hx.symm,by omega,hpos⟩
  ·obtain⟨a',f',k1,k2,k3⟩:=hshape _ _ _ _ h
   refine⟨a',f',k1,k2,k3.imp (fun h=>h) fun hx k hk=>⟨g,d,hd,hgne,?_⟩⟩
   rw[hx.1]
   exact hhas k (by omega)
theorem zmi(hI:Inv I β n H w):Inv I β n H w.drew∧Ext I β n H w I β n H w.drew:=by
 have refl:Ext I β n H w I β n H w:=Ext.refl _ _ _ _ _ hI.fresh
 exact⟨hI.of_heap (show w.drew.heap=w.heap from rfl),⟨rfl,⟨rfl,fun _=>Nat.le_succ _⟩,rfl,pG _,fun _ _ _=>rfl,fun _ _ _ h _=>h,fun _ arr _ fr h=>⟨arr,fr,h,rfl,.inl rfl⟩,fun _ _ _ h _=>h,refl.imm,refl.immNew,refl.old,refl.new,refl.dom,refl.le⟩⟩
theorem z1v{f:FuncId}{T e:TypeId}(hS:BStr P f T e){b g:Id}{bs:List UInt8}{K:AVal→AHeap→Nat→Prop}(hb:H.get b=some (.bld T g))(hg:H.get g=some (.buf e bs))
 (hlen:bs.length≤9223372036854775807) (hk:K (.str bs) H n):ACalls P f [.ptr b 0 0] H n K:=by
 refine⟨hS.ok,fun I β w vs hI hl hr=>?_⟩
 match vs,hl with
 |[vp],_=>
 have r1:=hr 0 _ _ rfl rfl
 obtain⟨c,hc,hB⟩:=hI.blocks b _ hb
 obtain⟨d,hd,hD⟩:=hI.blocks g _ hg
 obtain⟨hlo,hbase,hsize,hgn,p,v,hheap,hp,hv⟩:=hB
 have hds:d.s=bs.length:=hD.2.1
 have hvd:=hv d hd
 rw[hds] at hvd
 obtain⟨a,rfl,ha⟩:∃a,vp=.pointer (some a)∧a=⟨c.blk,0,none⟩:=by
  cases r1 with
  |imm _ _ h=>cases h
  |ptr _ _ _ a h1 h2=>exact⟨a,rfl,by rw[h2 c hc,hbase];simp⟩
 subst ha
 obtain⟨g1,g2⟩:=zmi hI
 have hre:∀ (l:List UInt8) (w':World),Rep I β n w' (.str l) (.string ⟨l.toArray⟩):=fun l w'=>.imm _ _ (.str l)
 have hz2:d.size=0→bs.length=0:=fun hz=>by
  obtain⟨_,_,⟨_,h⟩|⟨h,_⟩⟩:=hD
  ·rw[h];rfl
  ·omega
 rcases hvd with⟨z1,rfl⟩|⟨z1,rfl⟩
 ·have hbs:bs=[]:=qB.1 (hz2 z1)
  subst hbs
  refine(hS.nil _ _ _ hheap).mono ?_
  rintro ee w' ⟨rfl,rfl⟩
  exact⟨_,_,_,_,I,β,rfl,hk,g1,hre [] _,g2⟩
 ·by_cases hbs:bs=[]
  ·subst hbs
   refine(hS.zero _ _ _ _ _ hheap (by omega)).mono ?_
   rintro ee w' ⟨rfl,rfl⟩
   exact⟨_,_,_,_,I,β,rfl,hk,g1,hre [] _,g2⟩
  ·obtain⟨_,_,⟨h,_⟩|⟨_,arr,fr,q1,q2,q3,q4,q5⟩⟩:=hD
   ·omega
   refine(hS.full _ _ _ bs _ _ arr fr hheap hbs (by omega) q3 hlen q1 q5).mono ?_
   rintro ee w' ⟨rfl,rfl⟩
   obtain⟨k1,k2⟩:=zc0 g1 hg hd z1 hbs
   exact⟨_,_,_,_,I,β,rfl,hk,k1,hre bs _,g2.trans k2⟩
end
end Go.Fx
namespace Go.Fx
variable {P:Program} {I:Nat→Nat→Prop} {β:Id→Option CLoc} {n:Nat} {H:AHeap} {w:World}
structure BByte(P:Program)(f:FuncId)(T e tb:TypeId):Prop where
 ok:uc P f
 ht:P.underlying tb=some (.slice e)
 hz:∃zs,xf P e=some zs
 hsz:xl P e=some 1
 hby:Zk P e=some 1
 used:∀ (b:Nat) (c:Int) (v v2:Value) (w w2:World),w.heap[b]?=some (.cells #[.pointer (some ⟨b,0,none⟩),v] T (0,0)) →
  (Builtin.append_ #[tb,tb] tb #[v,.slice (some ⟨w.heap.size,0,none⟩) 1 1]).run P (w.alloc (.cells #[.int .u8 c] e))=.ok v2 w2→(∃a l c,v2=.slice a l c)→w2.heap[b]?=some (.cells #[.pointer (some ⟨b,0,none⟩),v] T (0,0)) →
  Calls P f #[.pointer (some ⟨b,0,none⟩),.int .u8 c] w fun e w'=>e=.returned .nilIface∧w'=w2.setCell ⟨b,1,none⟩ v2
 fresh:∀ (b:Nat) (c:Int) (v v2:Value) (w w2:World),w.heap[b]?=some (.cells #[.pointer none,v] T (0,0)) →
  (Builtin.append_ #[tb,tb] tb #[v,.slice (some ⟨w.heap.size,0,none⟩) 1 1]).run P ((w.setCell ⟨b,0,none⟩ (.pointer (some ⟨b,0,none⟩))).alloc (.cells #[.int .u8 c] e))=.ok v2 w2→(∃a l c,v2=.slice a l c)→w2.heap[b]?=some (.cells #[.pointer (some ⟨b,0,none⟩),v] T (0,0)) →
  Calls P f #[.pointer (some ⟨b,0,none⟩),.int .u8 c] w fun e w'=>e=.returned .nilIface∧w'=w2.setCell ⟨b,1,none⟩ v2
structure BLen(P:Program)(f:FuncId)(T:TypeId):Prop where
 ok:uc P f
 run:∀ (b l cp:Nat) (p:Value) (a:Option Addr) (w:World),w.heap[b]?=some (.cells #[p,.slice a l cp] T (0,0))→Calls P f #[.pointer (some ⟨b,0,none⟩)] w fun e w'=>e=.returned (.int .i64 (l:Int))∧w'=w
end Go.Fx
namespace Go.Fx
section
variable {P:Program} {I:Nat→Nat→Prop} {β:Id→Option CLoc} {n:Nat} {H:AHeap} {w:World}
theorem zbp(hI:Inv I β n H w){r:Loop}{e:Env}(hE:∀t,Rep I β n w (Env.get e t) (r.tmps.getD t undef)) :
 Inv I (upd β (n,0) (some ⟨w.heap.size,0,1,0,0⟩)) (n+1) (((n,0),.lrec w.heap.size r e)::H) (w.alloc (.loop r))∧Ext I β n H w I (upd β (n,0) (some ⟨w.heap.size,0,1,0,0⟩)) (n+1) (((n,0),.lrec w.heap.size r e)::H) (w.alloc (.loop r)):=by
 have hp:Pushed w (w.alloc (.loop r)) (.loop r):=⟨rfl,⟨rfl,fun _=>pG _⟩,rfl,rfl⟩
 have hsz:(w.alloc (.loop r)).heap.size=w.heap.size+1:=by rw[hp.heap];simp
 have hfr:∀id:Id,n≤id.1→β id=none:=hI.fresh
 have hcI:∀b k,I b k→(w.alloc (.loop r)).cell? ⟨b,k,none⟩=w.cell? ⟨b,k,none⟩:=fun b k hb=>by
  obtain⟨v,hv⟩:=hI.imm b k hb
  exact hp.chg.cell b k (ve hv) (fun h=>h.elim)
 refine wk hI hp.chg (Nat.le_succ n) (fun _ _ h=>h.elim) (fun _ _ h=>h) (fun _ _ h h'=>absurd h h') (fun id hid=>.inl (ze _ _ (vn hid))) ?_ ?_ ?_ (fun _ _ _ _ _ _ h=>h) ?_ ?_
 ·intro id c b k hid hc hk
  rcases j6 hc hI.fresh with⟨_,rfl⟩|⟨h,_⟩
  ·have hb:w.heap.size=b:=hk.1
   exact⟨by omega,.inl (by omega)⟩
  ·omega
 ·intro id hid
  rw[ze _ _ (fun h=>by subst h;exact absurd hid (Nat.not_succ_le_self n))]
  exact hI.fresh id (by omega)
 ·intro i j c d b k hi hj hc hd hj'
  rcases j6 hj hI.fresh with⟨rfl,rfl⟩|⟨h,_⟩
  ·rcases j6 hi hI.fresh with⟨rfl,_⟩|⟨_,h⟩
   ·rfl
   ·exact(Xu hI h hc (by rw[←hd.1];exact pG _)).elim
  ·omega
 ·intro id hid hg
  rwa [AHeap.get_cons_other _ _ (vn hid).symm] at hg
 ·intro id blk hid
  by_cases h:(n,0)=id
  ·subst h
   rw[AHeap.get_cons_same] at hid
   simp only[p0] at hid
   subst hid
   refine .inr ⟨⟨w.heap.size,0,1,0,0⟩,qr _ _ _,rfl,Nat.one_pos,rfl,hp.new,fun t=>(hE t).mono' (fun _ _ h=>h) hcI (Nat.le_succ n) (fun id c hid h=>?_)⟩
   rwa [ze _ _ (vn hid)] at h
  ·rw[AHeap.get_cons_other _ _ h] at hid
   exact .inl ⟨hid,ze _ _ (fun h'=>h h'.symm),fun _ _ _ _ _ h=>h⟩
theorem U7(hI:Inv I β n H w){k:Id}{l:Nat}{r r':Loop}{e:Env}(hk:H.get k=some (.lrec l r e))(ht:r'.tmps=r.tmps) :
 Inv I β n (H.set k (.lrec l r' e)) (w.putObj l (.loop r'))∧Ext I β n H w I β n (H.set k (.lrec l r' e)) (w.putObj l (.loop r'))∧w.heap[l]?=some (.loop r):=by
 obtain⟨c,hc,h0,h1,h2,h3,h4⟩:=hI.blocks k _ hk
 subst h2
 have hlt:c.blk<w.heap.size:=by
  rcases pY c.blk w.heap.size with h|h
  ·exact h
  ·rw[pQ h] at h3;cases h3
 have hne:H.get k≠none:=by rw[hk];simp
 have hother:∀b,b≠c.blk→(w.putObj c.blk (.loop r')).heap[b]?=w.heap[b]?:=fun b hb=>World.putObj_heap_other hb
 have hcell:∀b j,(w.putObj c.blk (.loop r')).cell? ⟨b,j,none⟩=w.cell? ⟨b,j,none⟩:=by
  intro b j
  by_cases hb:b=c.blk
  ·subst hb
   unfold qD
   simp only[World.putObj_heap_same hlt,h3]
  ·exact cell?_of_heap (hother b hb)
 have hchg:Chg w (w.putObj c.blk (.loop r')) (fun b j=>b=c.blk∧j=0):=by
  refine⟨rfl,⟨rfl,fun _=>pG _⟩,rfl,by simp,fun b _ hb=>hother b (fun h=>hb 0 ⟨h,rfl⟩),fun b j _ _=>hcell b j,fun b arr2 el fr hb=>?_,fun b o ho hb hn=>?_⟩
  ·have:b≠c.blk:=fun h=>by subst h;rw[h3] at hb;cases hb
   exact⟨arr2,by rw[hother b this];exact hb,rfl⟩
  ·rw[hother b (fun h=>hn ⟨h,rfl⟩)];exact hb
 have hhas:c.has c.blk 0:=⟨rfl,by omega,h1⟩
 have:=wk (β':=β) (n':=n) (I':=I) (H':=H.set k (.lrec c.blk r' e)) hI hchg (pG n) (fun b' j h=>⟨k,c,hc,hne,by obtain⟨rfl,rfl⟩:=h;exact hhas⟩) (fun _ _ h=>h) (fun _ _ h h'=>absurd h h') (fun id hid=>.inl rfl)
  (fun id d b' j hid hd _=>by rw[hI.fresh id hid] at hd;cases hd) hI.fresh (fun i j d d' b' q hi hj h h' _=>hI.inj i j d d' b' q hi hj h h') (fun _ _ _ _ _ _ h=>h) (fun t _ ht=>by
   rw[AHeap.get_set] at ht
   split at ht
   ·intro h;rw[h] at ht;simp at ht
   ·exact ht) (fun id blk hid=>by
   rw[AHeap.get_set] at hid
   split at hid
   ·rename_i hkk
    subst hkk
    rw[hk] at hid
    simp only[pJ,p0] at hid
    subst hid
    exact .inr ⟨c,hc,h0,h1,rfl,World.putObj_heap_same hlt,fun t=>by
     rw[ht];exact(h4 t).mono' (fun _ _ h=>h) (fun b j _=>hcell b j) (pG n) (fun _ _ _ h=>h)⟩
   ·rename_i hkk
    refine .inl ⟨hid,rfl,fun d b j hd hh hw=>?_⟩
    obtain⟨rfl,rfl⟩:=hw
    exact hkk (hI.inj k id c d _ _ hc hd hhas hh))
 exact⟨this.1,this.2,h3⟩
theorem zi9(hI:Inv I β n H w)(o:Obj):Inv I β n H (w.alloc o)∧Ext I β n H w I β n H (w.alloc o):=by
 have hp:Pushed w (w.alloc o) o:=⟨rfl,⟨rfl,fun _=>pG _⟩,rfl,rfl⟩
 exact wk hI hp.chg (pG n) (fun _ _ h=>h.elim) (fun _ _ h=>h) (fun _ _ h h'=>absurd h h') (fun id hid=>.inl rfl) (fun id c b k hid hc _=>by rw[hI.fresh id hid] at hc;cases hc) hI.fresh
  (fun i j c d b k hi hj h h' _=>hI.inj i j c d b k hi hj h h') (fun _ _ _ _ _ _ h=>h) (fun _ _ h=>h) (fun id blk hid=>.inl ⟨hid,rfl,fun _ _ _ _ _ h=>h⟩)
structure RecOf(P:Program)(N:Lay)(ps:List Nat)(a b:LCode)(r:Loop):Prop where
 st:r.state=.ready
 pe:r.pending=none
 pa:r.params.toList=ps
 la:zj P (zjm N) r.assign=some a
 lb:zj P (zjm N) r.body=some b
 sz:r.tmps.size=N.n
def busy(r:Loop):Loop:={ r with state:=.busy }
def zyl(k:Id)(l:Nat)(r:Loop)(P:Program)(N:Lay)(n0:Nat)(b:LCode)(Q2:Exit→Env→AHeap→Nat→Prop):Exit→Env→AHeap→Nat→Prop:=
 fun ex e1 H1 n1=>ex=.normal∧∃e1',H1.get k=some (.lrec l r e1')∧LWp P (zjm N) n0 b Q2 e1 (H1.set k (.lrec l (busy r) e1')) n1
def zyq(k:Id)(l:Nat)(r:Loop)(K:AVal→AHeap→Nat→Prop):Exit→Env→AHeap→Nat→Prop:=
 fun ex e2 H2 n2=>ex=.normal∧∃e2',H2.get k=some (.lrec l (busy r) e2')∧K (.bool true) (H2.set k (.lrec l r e2')) n2
def zhj:Env→List Nat→List AVal→Env
 |e,p::ps,x::xs=>zhj (e.put (some p) x) ps xs
 |e,_,_=>e
theorem z66:∀ {ps:List Nat} {xs:List AVal} {vs:List Value} {e:Env} {tm:Array Value},(∀p∈ps,p<tm.size)→xs.length=ps.length→vs.length=ps.length→(∀t,Rep I β n w (e.get t) (tm.getD t undef)) →
 (∀ (i:Nat) (x:AVal) (v:Value),xs[i]?=some x→vs[i]?=some v→Rep I β n w x v)→∀t,Rep I β n w ((zhj e ps xs).get t) (((ps.zip vs).foldl (fun t p=>t.setIfInBounds p.1 p.2) tm).getD t undef)
 |[],[],[],e,tm,_,_,_,he,_=>he
 |p::ps,x::xs,v::vs,e,tm,hp,h1,h2,he,hr=>by
  simp only[zhj,List.zip_cons_cons,List.foldl_cons]
  have hE:RepEnv I β n w e { tmps:=tm,defers:=[] }:=he
  have hx:=hr 0 x v rfl rfl
  have:=hE.put (d:=some p) (fun t ht=>by cases ht;exact hp p (pW ..)) hx
  exact z66 (fun q hq=>by rw[Array.size_setIfInBounds];exact hp q (pS _ hq)) (by simpa using h1) (by simpa using h2) this (fun i x v hx hv=>hr (i+1) x v (by simpa using hx) (by simpa using hv))
 |[],x::xs,_,_,_,_,h1,_,_,_=>by simp at h1
 |[],[],v::vs,_,_,_,_,h2,_,_=>by simp at h2
 |p::ps,[],_,_,_,_,h1,_,_,_=>by simp at h1
 |p::ps,x::xs,[],_,_,_,_,h2,_,_=>by simp at h2
theorem Jq(ps:Array Tmp)(vs:Array Value)(tm:Array Value):(ps.zip vs).foldl (fun tmps (x:Tmp×Value)=>tmps.setIfInBounds x.1 x.2) tm=(ps.toList.zip vs.toList).foldl (fun t p=>t.setIfInBounds p.1 p.2) tm:=by
 rw[←Array.foldl_toList,Array.toList_zip]
theorem Xs:∀ (l:List (Nat×Value)) (tm:Array Value),(l.foldl (fun t p=>t.setIfInBounds p.1 p.2) tm).size=tm.size
 |[],_=>rfl
 |p::r,tm=>by rw[List.foldl_cons,Xs r,Array.size_setIfInBounds]
def SubE:Env→Env→Prop
 |[],_=>True
 |(k,x)::r,e=>e.get k=x∧SubE r e
theorem SubE.get:∀ {e1 e:Env},SubE e1 e→∀t,e1.get t=.any∨e1.get t=e.get t
 |[],_,_,t=>.inl rfl
 |(k,x)::r,e,h,t=>by
  simp only[Env.get]
  split
  ·rename_i hk;subst hk;exact .inr h.1.symm
  ·exact SubE.get h.2 t
end
def EnvVw(F:Id→Bool)(H:AHeap)(ρ:Id→Option Id)(n:Nat):Env→Env→Prop
 |[],[]=>True
 |(k,x)::r,(k',y)::r'=>(k=k'∧Vw F H ρ n x y)∧EnvVw F H ρ n r r'
 |_,_=>False
theorem EnvVw.get{F:Id→Bool}{H:AHeap}{ρ:Id→Option Id}{n:Nat}:∀ {e e':Env},EnvVw F H ρ n e e'→∀t,Vw F H ρ n (e.get t) (e'.get t)
 |[],[],_,t=>.any _
 |(k,x)::r,(k',y)::r',h,t=>by
  obtain⟨⟨rfl,h1⟩,h2⟩:=h
  simp only[Env.get]
  split
  ·exact h1
  ·exact EnvVw.get h2 t
 |[],_::_,h,_=>h.elim
 |_::_,[],h,_=>h.elim
end Go.Fx
namespace Go.Fx
section
variable {P:Program} {I:Nat→Nat→Prop} {β:Id→Option CLoc} {n:Nat} {H:AHeap} {w:World}
def zez:Exit→Option Code
 |.ret=>some .ret
 |.exit id=>some (.exit id)
 |_=>none
def zjp(r:Loop)(code:Code):Loop:={ r with state:=.done,pending:=some code }
def zwn(k:Id)(l:Nat)(r:Loop)(K:AVal→AHeap→Nat→Prop):Exit→Env→AHeap→Nat→Prop:=
 fun ex e2 H2 n2=>(∃code,zez ex=some code∧∃e2',H2.get k=some (.lrec l (busy r) e2')∧K (.bool false) (H2.set k (.lrec l (zjp r code) e2')) n2)∨(ex=.normal∧∃e2',H2.get k=some (.lrec l (busy r) e2')∧K (.bool true) (H2.set k (.lrec l r e2')) n2)
theorem zcm{N:Lay}{ps:List Nat}{a b:LCode}{r:Loop}{e:Env}{l:Nat}{k:Id}{args:List AVal}{K:AVal→AHeap→Nat→Prop}(hr:RecOf P N ps a b r)(hk:H.get k=some (.lrec l r e))(hps:(ps.all fun p=>Nat.blt p N.n)=true)(hlen:args.length=ps.length)
 (h:LWp P (zjm N) n a (zyl k l r P N n b (zwn k l r K)) (zhj e ps args) H n) :
 ACalls P (.yield l) args H n K:=by
 refine⟨trivial,fun I β w vs hI hl hrep=>?_⟩
 obtain⟨c,hc,h0,h1,h2,h3,h4⟩:=hI.blocks k _ hk
 rw[h2] at h3
 have hpl:r.params.size=ps.length:=by rw[←hr.pa,Array.length_toList]
 have hlt:∀p∈ps,p<r.tmps.size:=fun p hp=>by
  rw[hr.sz]
  rw[pF] at hps
  have:=hps p hp
  rwa [Nat.blt_eq] at this
 refine⟨r.fn,_,r.assign,r.body,run_yield h3 (by simp only[List.size_toArray];omega),roundIn_of_wpIn trivial ?_⟩
 refine h r.assign hr.la (some l) (fun h=>by cases h) I β H w I β w _ (Ext.refl I β n H w hI.fresh) hI ?_ ?_ (Dfr.nil _ _ _) _ ?_
 ·have:=z66 (n:=n) (w:=w) (I:=I) (β:=β) hlt hlen (by rw[hl,hlen]) h4 hrep
  intro t
  have h5:=Jq r.params vs.toArray r.tmps
  rw[hr.pa] at h5
  show Rep I β n w _ (((r.params.zip vs.toArray).foldl (fun tmps (x:Tmp×Value)=>tmps.setIfInBounds x.1 x.2) r.tmps).getD t undef)
  rw[h5]
  exact this t
 ·show((r.params.zip vs.toArray).foldl (fun tmps (x:Tmp×Value)=>tmps.setIfInBounds x.1 x.2) r.tmps).size=N.n
  rw[Jq,Xs]
  exact hr.sz
 intro ex e1 H1 n1 I1 β1 w1 a1 hq hI1 hE1 hN1 hD1 hX1
 obtain⟨rfl,e1',hk1,hb⟩:=hq
 obtain⟨q1,q2,q3⟩:=U7 (r':=busy r) hI1 hk1 rfl
 refine⟨_,run_beginRound q3 hr.st,?_⟩
 refine hb r.body hr.lb (some l) (fun h=>by cases h) I β H w I1 β1 _ a1 (hX1.trans q2) q1 (fun t=>(hE1 t).mono q2 hI1) hN1 (hD1.mono hI1 q2) _ ?_
 intro ex e2 H2 n2 I2 β2 w2 a2 hq hI2 hE2 hN2 hD2 hX2
 rcases hq with⟨code,hj,e2',hk2,hK⟩|⟨rfl,e2',hk2,hK⟩
 ·obtain⟨p1,p2,p3⟩:=U7 (r':=zjp r code) hI2 hk2 rfl
  have hrr:({ busy r with state:=if(some code).isNone then LoopState.ready else .done,pending:=some code }:Loop)=zjp r code:=by
   cases r
   simp[busy,zjp]
  have hrun:=run_endRound (P:=P) (some code) p3
  rw[hrr] at hrun
  cases ex with
  |ret=>cases hj;exact⟨_,_,hrun,.bool false,.bool false,_,n2,I2,β2,rfl,hK,p1,.imm _ _ (.bool false),hX2.trans p2⟩
  |exit id=>cases hj;exact⟨_,_,hrun,.bool false,.bool false,_,n2,I2,β2,rfl,hK,p1,.imm _ _ (.bool false),hX2.trans p2⟩
  |_=>cases hj
 obtain⟨p1,p2,p3⟩:=U7 (r':=r) hI2 hk2 rfl
 have hrr:({ busy r with state:=if(none:Option Code).isNone then LoopState.ready else .done,pending:=none }:Loop)=r:=by
  have:=hr.st
  have:=hr.pe
  cases r
  simp_all [busy]
 have hrun:=run_endRound (P:=P) none p3
 rw[hrr] at hrun
 exact⟨_,_,hrun,.bool true,.bool true,_,n2,I2,β2,rfl,hK,p1,.imm _ _ (.bool true),hX2.trans p2⟩
theorem zka{N:Lay}{n0:Nat}{g:LOpd}{ps:List Nat}{a b:LCode}{e:Env}(e1:Env){Q:Exit→Env→AHeap→Nat→Prop}{gf:FuncId}{lb:List AVal}(hg:g.ev e=.fn (.func gf) [] lb)(hn:g.need e)(hs:SubE e1 e)
 (hcall:∀ (l:Nat) (r:Loop),RecOf P N ps a b r→ACalls P (.func gf) (.fn (.yield l) [] []::lb) (((n,0),.lrec l r e1)::H) (n+1) (fun _ H' n'=>∃k e',(H'.get k=some (.lrec l r e')∧Q .normal e' (H'.del k) n')∨∃ex code,zez ex=some code∧H'.get k=some (.lrec l (zjp r code) e')∧Q ex e' (H'.del k) n')) :
 LWp P N n0 (.rng g ps a b) Q e H n:=by
 intro c hc ro hro I0 β0 H0 w0 I β w aa hX hI hE hN hD QQ hQ
 cases c with
 |rangeFunc g' ps' x y=>
  simp only[zj] at hc
  split at hc<;>try (cases hc;done)
  rename_i g2 a2 b2 hrd hgl hal hbl
  simp only[p0,LCode.rng.injEq] at hc
  obtain⟨rfl,hps,rfl,rfl⟩:=hc
  obtain rfl:=hro hrd
  have hrg:=zu hE hgl hn
  rw[hg] at hrg
  obtain⟨cs,hf,k2,k4⟩:∃cs:Array Value,aa.eval g'=.func (.func gf) #[] cs∧cs.size=lb.length∧(∀ (i:Nat) (x:AVal) (v:Value),lb[i]?=some x→cs[i]?=some v→Rep I β n w x v):=by
   revert hrg
   generalize aa.eval g'=fv
   intro hr
   cases hr with
   |fn _ _ _ fs cs h1 h2 h3 h4=>
    have:fs=#[]:=Array.size_eq_zero_iff.1 (by simpa using h1)
    subst this
    exact⟨cs,rfl,h2,h4⟩
   |imm _ _ hr=>
    cases hr with
    |fn _ _ _ fs cs h1 h2 h3 h4=>
     have:fs=#[]:=Array.size_eq_zero_iff.1 (by simpa using h1)
     subst this
     exact⟨cs,rfl,h2,fun i x v p q=>.imm _ _ (h4 i x v p q)⟩
  refine wpIn_rangeFunc (fun fn _=>?_)
  obtain⟨r,hrec⟩:∃r:Loop,r={ state:=.ready,pending:=none,fn,tmps:=aa.tmps,params:=ps',assign:=x,body:=y,defers:=w.heap.size }:=⟨_,rfl⟩
  have hR:RecOf P N ps a2 b2 r:=by subst hrec;exact⟨rfl,rfl,hps,hal,hbl,hN⟩
  have htm:r.tmps=aa.tmps:=by subst hrec;rfl
  obtain⟨i0,x0⟩:=zi9 hI (.deferred (some []))
  have hE0:∀t,Rep I β n (w.alloc (.deferred (some []))) (Env.get e1 t) (r.tmps.getD t undef):=fun t=>by
   rw[htm]
   rcases hs.get t with h|h
   ·rw[h];exact .any _
   ·rw[h];exact(hE t).mono x0 hI
  obtain⟨i1,x1⟩:=zbp i0 (r:=r) hE0
  have hsz:(w.alloc (.deferred (some []))).heap.size=w.heap.size+1:=by simp
  rw[hsz] at i1 x1
  have hc:=hcall (w.heap.size+1) r hR
  obtain⟨f0,g1,g2,g3⟩:=hc.1
  have hD1:Dfr P w0.heap.size (w.alloc (.deferred (some []))) ({ target:=.collected w.heap.size,args:=#[] }::aa.defers):=by
   refine⟨List.pairwise_cons.2 ⟨fun d' hm=>.inl fun he=>?_,hD.1⟩,fun d hd=>?_⟩
   ·subst he
    rcases hD.2 _ hm with hid|⟨q,h1,h2,h3⟩
    ·obtain⟨_,_,_,_,h,_⟩:=hid w;cases h
    simp only[Deferred.mk.injEq,Target.collected.injEq,and_true] at h1
    subst h1
    rw[pQ (pG _)] at h3
    cases h3
   ·rcases List.mem_cons.1 hd with rfl|hd
    ·exact .inr ⟨w.heap.size,rfl,hX.size,World.alloc_heap_new w _⟩
    ·exact(hD.mono hI x0).2 d hd
  refine⟨w.heap.size+1,[{ target:=.collected w.heap.size,args:=#[] }],(w.alloc (.deferred (some []))).alloc (.loop r),{ target:=.fn (.func gf) cs,args:=#[.func (.yield (w.heap.size+1)) #[] #[]] },(w.alloc (.deferred (some []))).alloc (.loop r),gf,
   #[.func (.yield (w.heap.size+1)) #[] #[]]++cs,(w.alloc (.deferred (some []))).alloc (.loop r),?_,?_,fun _ _=>trivial,?_,fun h=>(by cases h),?_⟩
  ·rw[hrec];exact run_enterLoop_outer _ _ _ _ _
  ·simp only[resolve,hf]
   simp[go_sem]
  ·have g4:f0.body.isNone=false:=by cases hb:f0.body<;>simp[hb] at g2 ⊢
   simp only[invoke]
   unfold callFunc
   simp only[pO,run_program,pI,g1,g3,g4,pR,if_false,qA]
  ·refine(z6w (ro:=none)).2 ?_
   have hq:=hc.2 I _ _ (#[Value.func (.yield (w.heap.size+1)) #[] #[]]++cs).toList i1 (by simp;omega) (fun(i:Nat) (u:AVal) (v:Value) hu hv=>by
    cases i with
    |zero=>
     simp only[Array.toList_append,List.cons_append,List.nil_append,pC,p0] at hu hv
     subst hu;subst hv
     exact Rep.fn (.yield (w.heap.size+1)) [] [] #[] #[] rfl rfl (fun i x v h=>by cases i<;>cases h) (fun i x v h=>by cases i<;>cases h)
    |succ i=>
     simp only[Array.toList_append,List.cons_append,List.nil_append,pT] at hu hv
     exact((k4 i u v hu (by rw[←pZ];exact hv)).mono x0 hI).mono x1 i0)
   rw[Array.toArray_toList] at hq
   refine Calls.mono hq ?_
   rintro ee w3 ⟨rv,v,H',n',I',β',rfl,⟨k,e',hk⟩,hI',hr',hx'⟩
   rcases hk with⟨hk,hK⟩|⟨ex,code,hj,hk,hK⟩
   ·obtain⟨cl,hcl,h0,h1,h2,h3,h4⟩:=hI'.blocks k _ hk
    rw[h2] at h3
    have hend:=run_endLoop (P:=P) h3 (by rw[hR.st];simp)
    obtain⟨rx,hrx⟩:∃rx:Loop,rx={ r with state:=.exhausted }:=⟨_,rfl⟩
    rw[←hrx,hR.pe] at hend
    obtain⟨q1,q2,_⟩:=U7 (r':=rx) hI' hk (by rw[hrx])
    refine⟨none,_,hend,?_⟩
    have hsub:∀id blk,(H'.del k).get id=some blk→(H'.set k (.lrec (w.heap.size+1) rx e')).get id=some blk:=by
     intro id blk hid
     rw[AHeap.get_del] at hid
     rw[AHeap.get_set]
     split at hid
     ·cases hid
     ·rename_i hne;rw[if_neg hne];exact hid
    refine hQ .normal e' (H'.del k) n' I' β' _ _ hK (q1.sub hsub) (fun t=>?_) hN ?_ ((((((hX.trans x0).trans x1).trans hx').trans q2).sub hsub))
    ·have:=(h4 t).mono q2 hI'
     rw[htm] at this
     exact this
    ·exact(((hD1.mono i0 x1).mono i1 hx').mono hI' q2)
   ·obtain⟨cl,hcl,h0,h1,h2,h3,h4⟩:=hI'.blocks k _ hk
    rw[h2] at h3
    have hend:=run_endLoop (P:=P) h3 (by simp[zjp])
    obtain⟨rx,hrx⟩:∃rx:Loop,rx={ zjp r code with state:=.exhausted }:=⟨_,rfl⟩
    rw[←hrx,show(zjp r code).pending=some code from rfl] at hend
    obtain⟨q1,q2,_⟩:=U7 (r':=rx) hI' hk (by rw[hrx])
    refine⟨some code,_,hend,?_⟩
    have hsub:∀id blk,(H'.del k).get id=some blk→(H'.set k (.lrec (w.heap.size+1) rx e')).get id=some blk:=by
     intro id blk hid
     rw[AHeap.get_del] at hid
     rw[AHeap.get_set]
     split at hid
     ·cases hid
     ·rename_i hne;rw[if_neg hne];exact hid
    have fin:QQ ex { aa with defers:={ target:=.collected w.heap.size,args:=#[] }::aa.defers } _:=hQ ex e' (H'.del k) n' I' β' _ _ hK (q1.sub hsub) (fun t=>by
     have:=(h4 t).mono q2 hI'
     rw[show(zjp r code).tmps=aa.tmps from htm] at this
     exact this) hN (((hD1.mono i0 x1).mono i1 hx').mono hI' q2) ((((((hX.trans x0).trans x1).trans hx').trans q2).sub hsub))
    cases ex with
    |ret=>cases hj;exact wpIn_ret fin
    |exit id=>cases hj;exact wpIn_exit fin
    |_=>cases hj
 |skip=>simp[zj] at hc
 |region id ops draw=>simp only[zj] at hc;split at hc<;>(try split at hc)<;>(try split at hc)<;>(try split at hc)<;>(try split at hc)<;>(first|(simp at hc;done)|(rcases wo hc with⟨_,h⟩|⟨_,_,_,h⟩<;>cases h))
 |seq a b=>simp only[zj] at hc;split at hc<;>simp at hc
 |cond c a b=>simp only[zj] at hc;split at hc<;>simp at hc
 |block id c=>simp[zj] at hc
 |loop c=>simp[zj] at hc
 |exit id=>simp[zj] at hc
 |ret=>simp[zj] at hc
 |_=>cases hc
end
end Go.Fx
namespace Go.Fx
inductive Tr(α:Type) where
 |nil
 |nd (v:Option α) (l r:Tr α)
namespace Tr
variable {α:Type}
def get:Tr α→Nat→Option α
 |.nil,_=>none
 |.nd v l r,k=>match pA k 0 with
  |true=>v
  |false=>match pA (k % 2) 1 with
   |true=>get l (k / 2)
   |false=>get r (k / 2-1)
def put:Nat→Tr α→Nat→Option α→Option (Tr α)
 |0,_,_,_=>none
 |d+1,.nil,k,x=>match pA k 0 with
  |true=>some (.nd x .nil .nil)
  |false=>match pA (k % 2) 1 with
   |true=>match put d .nil (k / 2) x with|some l=>some (.nd none l .nil)|none=>none
   |false=>match put d .nil (k / 2-1) x with|some r=>some (.nd none .nil r)|none=>none
 |d+1,.nd v l r,k,x=>match pA k 0 with
  |true=>some (.nd x l r)
  |false=>match pA (k % 2) 1 with
   |true=>match put d l (k / 2) x with|some l=>some (.nd v l r)|none=>none
   |false=>match put d r (k / 2-1) x with|some r=>some (.nd v l r)|none=>none
end Tr
def ikn:IntKind→Nat
 |.i8=>0|.i16=>1|.i32=>2|.i64=>3|.u8=>4|.u16=>5|.u32=>6|.u64=>7
def z0k(a b:IntKind):Bool:=pA (ikn a) (ikn b)
def ck(p:Bool)(v:AVal):Option AVal:=match p with|true=>some v|false=>none
def ile(a b:Int):Bool:=decide (a≤b)
def ilt(a b:Int):Bool:=decide (a<b)
def zx2(op:BinOp):AVal→AVal→Option AVal
 |.int k a,.int k' b=>match op with
  |.add=>ck (z0k k k') (.int k (k.wrap (a+b)))
  |.sub=>ck (z0k k k') (.int k (k.wrap (a-b)))
  |.mul=>ck (z0k k k') (.int k (k.wrap (a*b)))
  |.quo=>ck (z0k k k'&&!(decide (b=0))) (.int k (k.wrap (a.tdiv b)))
  |.rem=>ck (z0k k k'&&!(decide (b=0))) (.int k (a.tmod b))
  |.and=>ck (z0k k k') (.int k (Xz .and k a b))
  |.or=>ck (z0k k k') (.int k (Xz .or k a b))
  |.xor=>ck (z0k k k') (.int k (Xz .xor k a b))
  |.andNot=>ck (z0k k k') (.int k (Xz .andNot k a b))
  |.shl=>ck (ile 0 b) (.int k (k.wrap (a*2 ^ (min b.toNat k.bits))))
  |.shr=>ck (ile 0 b) (.int k (a.fdiv (2 ^ (min b.toNat k.bits))))
  |.eql=>ck (z0k k k') (.bool (a==b))
  |.neq=>ck (z0k k k') (.bool (a != b))
  |.lss=>ck (z0k k k') (.bool (decide (a<b)))
  |.leq=>ck (z0k k k') (.bool (decide (a≤b)))
  |.gtr=>ck (z0k k k') (.bool (decide (a > b)))
  |.geq=>ck (z0k k k') (.bool (decide (a≥b)))
 |.str a,.str b=>match op with
  |.add=>ck (ile ((a.length+b.length:Nat):Int) 9223372036854775807) (.str (a++b))
  |.eql=>some (.bool (a==b))
  |.neq=>some (.bool (!(a==b)))
  |.lss=>some (.bool (Op.bytesLess a b))
  |.leq=>some (.bool (Op.bytesLess a b || a==b))
  |.gtr=>some (.bool (!(Op.bytesLess a b || a==b)))
  |.geq=>some (.bool (!(Op.bytesLess a b)))
  |_=>none
 |_,_=>none
def bun(op:UnOp):AVal→Option AVal
 |.bool b=>match op with
  |.not=>some (.bool (!b))
  |_=>none
 |.int k n=>match op with
  |.neg=>some (.int k (k.wrap (0-n)))
  |.xor=>some (.int k (Xz .xor k (if k.signed then -1 else k.max) n))
  |_=>none
 |_=>none
def znv:AVal→AVal→Option Bool
 |.val (.pointer none),.val (.pointer none)=>some true
 |.val (.pointer none),.ptr _ _ _=>some false
 |.ptr _ _ _,.val (.pointer none)=>some false
 |.val (.pointer none),.iptr _ _ _ _=>some false
 |.iptr _ _ _ _,.val (.pointer none)=>some false
 |_,_=>none
def zr9:AVal→AVal→Option Bool
 |.val (.slice none 0 0),.val (.slice none 0 0)=>some true
 |.val (.slice none 0 0),.msl _ _ _ len _=>match pA len 0 with|true=>none|false=>some false
 |.msl _ _ _ len _,.val (.slice none 0 0)=>match pA len 0 with|true=>none|false=>some false
 |.val (.slice none 0 0),.isl _ es _=>match es with|[]=>none|_::_=>some false
 |.isl _ es _,.val (.slice none 0 0)=>match es with|[]=>none|_::_=>some false
 |_,_=>none
def znd:AVal→AVal→Option Bool
 |.val (.map none),.val (.map none)=>some true
 |.val (.map none),.map _=>some false
 |.map _,.val (.map none)=>some false
 |_,_=>none
def z80:CK→AVal→AVal→Option Bool
 |.int,.int k a,.int k' b=>match z0k k k' with|true=>some (a==b)|false=>none
 |.str,.str a,.str b=>some (a==b)
 |.bool,.bool a,.bool b=>some (a==b)
 |_,_,_=>none
def ut:List CK→List AVal→List AVal→Option Bool
 |[],[],[]=>some true
 |k::ks,x::xs,y::ys=>match z80 k x y with
  |some a=>match ut ks xs ys with
   |some b=>some (a&&b)
   |none=>none
  |none=>none
 |_,_,_=>none
def zg5:AVal→AVal→Option Bool
 |.val .nilIface,.val .nilIface=>some true
 |.ifc _ _,.val .nilIface=>some false
 |_,_=>none
def zgp:AVal→AVal→Option Bool
 |.val .nilFunc,.val .nilFunc=>some true
 |.fn _ _ _,.val .nilFunc=>some false
 |_,_=>none
def zx5(k:EqK)(x y:AVal):Option Bool:=
 match k with
 |.bool=>match x,y with
  |.bool a,.bool b=>some (a==b)
  |_,_=>none
 |.ptr=>znv x y
 |.slice=>zr9 x.rd y.rd
 |.map=>znd x y
 |.agg ks=>match x,y with
  |.agg cs,.agg ds=>ut ks cs ds
  |_,_=>none
 |.ifc=>zg5 x y
 |.fnc=>zgp x y
 |_=>none
def zx9(neg:Bool)(k:EqK)(x y:AVal):Option AVal:=match zx5 k x y with
 |some b=>some (.bool (if neg then !b else b))
 |none=>none
abbrev Hp:=Id→Option ABlock
def z0v(agg:Bool)(n:Nat)(h:Hp):AVal→Option AVal
 |.iptr s es i off=>ck (pB (i+1) es.length&&pB (off+n) s) (yn agg n off (es.getD i []))
 |.ptr b i off=>match h b with
  |some (.rows s es)=>ck (pB (i+1) es.length&&pB (off+n) s) (yn agg n off (es.getD i []))
  |some (.one cs)=>ck (pA i 0&&pB (off+n) cs.length) (yn agg n off cs)
  |_=>none
 |_=>none
def zgh(off:Nat):AVal→Option AVal
 |.iptr s es i o=>some (.iptr s es i (o+off))
 |.ptr b i o=>some (.ptr b i (o+off))
 |_=>none
def zgd(agg:Bool)(n off:Nat):AVal→Option AVal
 |.agg cs=>ck (pB (off+n) cs.length) (yn agg n off cs)
 |_=>none
def zal(s:Nat):AVal→AVal→Option AVal
 |.isl s' es _,.int _ j=>ck (pA s s'&&ile 0 j&&ilt j (es.length:Int)) (.iptr s' es j.toNat 0)
 |.msl b s' off len _,.int _ j=>ck (pA s s'&&ile 0 j&&ilt j (len:Int)) (.ptr b (off+j.toNat) 0)
 |_,_=>none
def z8j(len s:Nat):AVal→AVal→Option AVal
 |.iptr s' es i o,.int _ j=>ck (ile 0 j&&ilt j (len:Int)) (.iptr s' es i (o+j.toNat * s))
 |.ptr b i o,.int _ j=>ck (ile 0 j&&ilt j (len:Int)) (.ptr b i (o+j.toNat * s))
 |_,_=>none
def Va(len s:Nat)(h:Hp):AVal→AVal→Option AVal
 |.ptr b i 0,.int _ j=>match h b with
  |some (.rows s' _)=>ck (pA s s'&&ile 0 j&&ilt j (len:Int)) (.ptr b (i+j.toNat) 0)
  |_=>none
 |_,_=>none
def zd2(len s:Nat)(h:Hp):AVal→Option AVal
 |.ptr b i 0=>match h b with
  |some (.rows s' es)=>ck (pA s s'&&pB (i+len) es.length) (.msl b s i len true)
  |_=>none
 |_=>none
def zrb:AVal→AVal→Option AVal
 |.str l,.int _ j=>ck (ile 0 j&&ilt j (l.length:Int)) (.int .u8 ((l.getD j.toNat 0).toNat:Int))
 |_,_=>none
def zon(len s:Nat)(agg:Bool):AVal→AVal→Option AVal
 |.agg cs,.int _ j=>ck (ile 0 j&&ilt j (len:Int)&&pB ((j.toNat * s)+s) cs.length) (yn agg s (j.toNat * s) cs)
 |_,_=>none
def zvw(k:Nat):AVal→Option AVal
 |.tup cs=>ck (pB (k+1) cs.length) (cs.getD k .any)
 |_=>none
def zqo:AVal→Option AVal
 |.str l=>some (.int .i64 (l.length:Int))
 |_=>none
def zmh:AVal→Option AVal
 |.isl _ es _=>some (.int .i64 (es.length:Int))
 |.msl _ _ _ len _=>some (.int .i64 (len:Int))
 |.val (.slice none 0 0)=>some (.int .i64 0)
 |_=>none
def zgr:AVal→Option AVal
 |.iptr s es i o=>some (.iptr s es i o)
 |.ptr b i o=>some (.ptr b i o)
 |.fn (.func f) a c=>some (.fn (.func f) a c)
 |_=>none
def vw(g:Nat→AVal):LOpd→Option AVal
 |.t i=>match g i with
  |.cnd true v=>some v
  |.cnd false _=>none
  |v=>some v
 |.c v=>some v
def z2i(g:Nat→AVal):List LOpd→Option (List AVal)
 |[]=>some []
 |x::r=>match vw g x with
  |some a=>match z2i g r with
   |some l=>some (a::l)
   |none=>none
  |none=>none
def Y1(g:Nat→AVal)(d:Nat):Option LOpd→Option Int
 |none=>some d
 |some x=>match vw g x with
  |some (.int _ j)=>some j
  |_=>none
def zhf(g:Nat→AVal)(lo hi:Option LOpd):AVal→Option AVal
 |.str l=>match Y1 g 0 lo,Y1 g l.length hi with
  |some a,some b=>ck (ile 0 a&&ile a b&&ile b (l.length:Int)) (.str ((l.take b.toNat).drop a.toNat))
  |_,_=>none
 |_=>none
def zp4(g:Nat→AVal)(s:Nat)(lo hi mx:Option LOpd):AVal→Option AVal
 |.isl s' es f=>match Y1 g 0 lo,Y1 g es.length hi with
  |some a,some b=>match mx with
   |none=>ck (pA s s'&&ile 0 a&&ile a b&&ile b (es.length:Int)) (.isl s' ((es.take b.toNat).drop a.toNat) (f&&decide (b=(es.length:Int))))
   |some m=>match Y1 g 0 (some m) with
    |some m=>ck (pA s s'&&ile 0 a&&ile a b&&ile b m&&ile m (es.length:Int)) (.isl s' ((es.take b.toNat).drop a.toNat) (decide (m=b)))
    |none=>none
  |_,_=>none
 |.msl id s' off len f=>match Y1 g 0 lo,Y1 g len hi with
  |some a,some b=>match mx with
   |none=>ck (pA s s'&&ile 0 a&&ile a b&&ile b (len:Int)) (.msl id s' (off+a.toNat) (b.toNat-a.toNat) (f&&decide (b=(len:Int))))
   |some m=>match Y1 g 0 (some m) with
    |some m=>ck (pA s s'&&ile 0 a&&ile a b&&ile b m&&ile m (len:Int)) (.msl id s' (off+a.toNat) (b.toNat-a.toNat) (decide (m=b)))
    |none=>none
  |_,_=>none
 |.val (.slice none 0 0)=>match Y1 g 0 lo,Y1 g 0 hi,mx with
  |some a,some b,none=>ck (decide (a=0)&&decide (b=0)) (.val (.slice none 0 0))
  |_,_,_=>none
 |_=>none
def z3z(cells:List AVal):List (Nat×Nat×AVal)→Option AVal
 |[]=>some (.agg cells)
 |(off,n,x)::r=>match x.cells? with
  |some cs=>match pA cs.length n&&pB (off+n) cells.length with
   |true=>z3z (jp cells off cs) r
   |false=>none
  |none=>none
def z4k(g:Nat→AVal):List (Nat×Nat×LOpd)→Option (List (Nat×Nat×AVal))
 |[]=>some []
 |(o,n,x)::r=>match vw g x with
  |some a=>match z4k g r with
   |some l=>some ((o,n,a)::l)
   |none=>none
  |none=>none
def zqr(isMax:Bool):AVal→List AVal→Option AVal
 |v,[]=>some v
 |.int k a,.int k' b::r=>match z0k k k' with
  |true=>zqr isMax (.int k (if isMax then(if b > a then b else a) else(if b<a then b else a))) r
  |false=>none
 |_,_=>none
def zr2(isMax:Bool):List AVal→Option AVal
 |.int k a::r=>zqr isMax (.int k a) r
 |_=>none
def z1m(ks:List CK)(ka:Bool)(k:AVal):Bool:=(match ka,vo k with|true,true=>true|false,false=>true|_,_=>false)&&(ut ks (qp k) (qp k)).isSome
def z43(ks:List CK)(k k':AVal):Option Bool:=match vo k,vo k' with
 |true,true=>ut ks (qp k) (qp k')
 |false,false=>ut ks (qp k) (qp k')
 |_,_=>none
def zag(ks:List CK)(k:AVal):List (AVal×AVal)→Option (Option AVal)
 |[]=>some none
 |(k',x)::r=>match z43 ks k k' with
  |some true=>some (some x)
  |some false=>zag ks k r
  |none=>none
def zm6(ks:List CK)(k x:AVal):List (AVal×AVal)→Option (List (AVal×AVal))
 |[]=>some [(k,x)]
 |(k',y)::r=>match z43 ks k k' with
  |some true=>some ((k,x)::r)
  |some false=>match zm6 ks k x r with|some l=>some ((k',y)::l)|none=>none
  |none=>none
def z94(ks:List CK)(k:AVal):List (AVal×AVal)→Option (List (AVal×AVal))
 |[]=>some []
 |(k',y)::r=>match z43 ks k k' with
  |some true=>some r
  |some false=>match z94 ks k r with|some l=>some ((k',y)::l)|none=>none
  |none=>none
def z1x(ks:List CK)(ka g ok:Bool)(zs:List AVal)(h:Hp)(k:AVal):AVal→Option AVal
 |.val (.map none)=>ck (z1m ks ka k) (zn9 g ok zs none)
 |.map b=>match h b with
  |some (.amap es)=>match z1m ks ka k with
   |true=>match zag ks k es with
    |some r=>some (zn9 g ok zs r)
    |none=>none
   |false=>none
  |_=>none
 |_=>none
def zcz(h:Hp):AVal→Option AVal
 |.val (.map none)=>some (.int .i64 0)
 |.map b=>match h b with
  |some (.amap es)=>some (.int .i64 (es.length:Int))
  |_=>none
 |_=>none
def z86(g:Nat→AVal)(h:Hp):LOp→Option AVal
 |.mv x=>vw g x
 |.pick c a b=>match vw g c with
  |some (.bool true)=>vw g a
  |some (.bool false)=>vw g b
  |_=>none
 |.build zs parts=>(z4k g parts).bind (z3z zs)
 |.load ag n a=>(vw g a).bind (z0v ag n h)
 |.nilck x=>(vw g x).bind zgr
 |.bin op x y=>(vw g x).bind fun a=>(vw g y).bind fun b=>zx2 op a b
 |.eq neg k x y=>(vw g x).bind fun a=>(vw g y).bind fun b=>zx9 neg k a b
 |.un op x=>(vw g x).bind (bun op)
 |.conv (.int k) x=>match vw g x with
  |some (.int _ n)=>some (.int k (k.wrap n))
  |_=>none
 |.conv .same x=>match vw g x with
  |some (.str l)=>some (.str l)
  |_=>none
 |.mkfn f a c=>(z2i g a).bind fun a=>(z2i g c).bind fun c=>some (.fn f a c)
 |.slStr x lo hi=>(vw g x).bind (zhf g lo hi)
 |.slSl s x lo hi mx=>(vw g x).bind (zp4 g s lo hi mx)
 |.slAr n s x=>(vw g x).bind (zd2 n s h)
 |.faddr off x=>(vw g x).bind (zgh off)
 |.field ag n off x=>(vw g x).bind (zgd ag n off)
 |.iaddr s x i=>(vw g x).bind fun a=>(vw g i).bind fun b=>zal s a.rd b
 |.iaddrA n s x i=>(vw g x).bind fun a=>(vw g i).bind fun b=>z8j n s a b
 |.iaddrR n s x i=>(vw g x).bind fun a=>(vw g i).bind fun b=>Va n s h a b
 |.idxS x i=>(vw g x).bind fun a=>(vw g i).bind fun b=>zrb a b
 |.idxA n s ag x i=>(vw g x).bind fun a=>(vw g i).bind fun b=>zon n s ag a b
 |.ext k x=>(vw g x).bind (zvw k)
 |.len true x=>(vw g x).bind zqo
 |.len false x=>(vw g x).bind fun a=>zmh a.rd
 |.mnx m args=>(z2i g args).bind (zr2 m)
 |.mlook ks ka ag ok zs x k=>(vw g x).bind fun a=>(vw g k).bind fun b=>z1x ks ka ag ok zs h b a
 |.mlen x=>(vw g x).bind (zcz h)
 |_=>none
structure Sh where
 t:Tr ABlock
 n:Nat
def hix(id:Id):Option Nat:=match id.2 with
 |0=>some (2*id.1)
 |1=>some (2*id.1+1)
 |_=>none
def Tr.at(t:Tr ABlock):Hp:=fun id=>match hix id with
 |some k=>t.get k
 |none=>none
def Tr.sat(t:Tr ABlock)(id:Id)(b:Option ABlock):Option (Tr ABlock):=match hix id with
 |some k=>Tr.put 60 t k b
 |none=>none
def Sh.upd(S:Sh)(id:Id)(b:ABlock):Option Sh:=match S.t.sat id (some b) with
 |some t=>some ⟨t,S.n⟩
 |none=>none
def Sh.cut(S:Sh)(id:Id):Option Sh:=match S.t.sat id none with
 |some t=>some ⟨t,S.n⟩
 |none=>none
def Sh.new(S:Sh)(b:ABlock):Option Sh:=match S.t.sat (S.n,0) (some b) with
 |some t=>some ⟨t,S.n+1⟩
 |none=>none
def Sh.new2(S:Sh)(b c:ABlock):Option Sh:=match S.t.sat (S.n,0) (some b) with
 |some t=>match t.sat (S.n,1) (some c) with
  |some t=>some ⟨t,S.n+1⟩
  |none=>none
 |none=>none
abbrev Rs:=Option (AVal×Sh)
def Zh(v:AVal):Option Sh→Rs
 |some S=>some (v,S)
 |none=>none
def Q9(h:Hp)(s:Nat):AVal→Option (List (List AVal))
 |.isl s' es _=>match pA s' s with|true=>some es|false=>none
 |.osl _ s' es=>match pA s' s with|true=>some es|false=>none
 |.msl b s' off len _=>match h b with
  |some (.rows s'' es)=>match pA s' s&&pA s'' s&&pB (off+len) es.length with
   |true=>some ((es.drop off).take len)
   |false=>none
  |_=>none
 |.val (.slice none 0 0)=>some []
 |.str l=>match pA s 1 with
  |true=>some (l.map fun c=>[.int .u8 (c.toNat:Int)])
  |false=>none
 |_=>none
def Wp:List (List AVal)→List (Nat×AVal)→Option (List (List AVal))
 |rows,[]=>some rows
 |rows,(i,x)::r=>match x.cells? with
  |some cs=>match pA cs.length ((rows.getD i []).length)&&pB (i+1) rows.length with
   |true=>Wp (rows.set i cs) r
   |false=>none
  |none=>none
def zs3(g:Nat→AVal):List (Nat×LOpd)→Option (List (Nat×AVal))
 |[]=>some []
 |(i,x)::r=>match vw g x with
  |some a=>match zs3 g r with
   |some l=>some ((i,a)::l)
   |none=>none
  |none=>none
def z39:List (List AVal)→Bool
 |[]=>true
 |[.int k _]::r=>z0k k .u8&&z39 r
 |_=>false
def zwf(s bytes:Nat)(S:Sh)(x:AVal)(rows2:List (List AVal)):Rs:=
 match x with
 |.val (.slice none 0 0)=>match rows2 with
  |[]=>some (.val (.slice none 0 0),S)
  |_=>match pB (rows2.length*bytes) 140737488355328 with
   |true=>Zh (.msl (S.n,0) s 0 rows2.length false) (S.new (.rows s rows2))
   |false=>none
 |.isl s' es f=>match pA s' s with
  |true=>match rows2 with
   |[]=>some (.isl s' es f,S)
   |_=>match f&&pB ((es.length+rows2.length)*bytes) 140737488355328 with
    |true=>Zh (.msl (S.n,0) s 0 (es.length+rows2.length) false) (S.new (.rows s (es++rows2)))
    |false=>none
  |false=>none
 |.msl b s' off len f=>match S.t.at b with
  |some (.rows s'' es)=>match pA s' s&&pA s'' s&&pB (off+len) es.length&&pB ((len+rows2.length)*bytes) 140737488355328 with
   |true=>match f,rows2 with
    |true,[]=>some (.msl b s' off len f,S)
    |true,_=>Zh (.msl (S.n,0) s 0 (len+rows2.length) false) (S.new (.rows s ((es.drop off).take len++rows2)))
    |false,_=>match S.cut b with
     |some S=>Zh (.msl (S.n,0) s 0 (len+rows2.length) false) (S.new (.rows s ((es.drop off).take len++rows2)))
     |none=>none
   |false=>none
  |_=>none
 |_=>none
def zvv(C:Nat→List AVal→Sh→Rs)(g:Nat→AVal)(S:Sh):LOp→Rs
 |.alloc zs=>Zh (.ptr (S.n,0) 0 0) (S.new (.one zs))
 |.allocR s zs=>Zh (.ptr (S.n,0) 0 0) (S.new (.rows s (Qx s (zs.length / s) zs)))
 |.allocB T el=>Zh (.ptr (S.n,0) 0 0) (S.new2 (.bld T (S.n,1)) (.buf el []))
 |.box x=>match vw g x with
  |some a=>match a.cells? with
   |some cs=>Zh (.ptr (S.n,0) 0 0) (S.new (.one cs))
   |none=>none
  |none=>none
 |.mkSl false s zs len parts=>match zs3 g parts with
  |some ps=>match Wp (pX len zs) ps with
   |some rows=>match pA zs.length s with
    |true=>Zh (.msl (S.n,0) s 0 len true) (S.new (.rows s rows))
    |false=>none
   |none=>none
  |none=>none
 |.mkSl true s zs len parts=>match zs3 g parts with
  |some ps=>match Wp (pX len zs) ps with
   |some rows=>match wq rows with
    |some rows'=>match pA zs.length s with
     |true=>some (.isl s (rows'.map (xz zs)) true,S)
     |false=>none
    |none=>none
   |none=>none
  |none=>none
 |.store m a x=>match vw g a with
  |some (.ptr b i off)=>match vw g x with
   |some y=>match y.cells? with
    |some cs=>match S.t.at b with
     |some (.rows s es)=>match pA cs.length m&&pB (i+1) es.length&&pB (off+m) s with
      |true=>Zh .any (S.upd b (.rows s (es.set i (jp (es.getD i []) off cs))))
      |false=>none
     |some (.one rs)=>match pA cs.length m&&pA i 0&&pB (off+m) rs.length with
      |true=>Zh .any (S.upd b (.one (jp rs off cs)))
      |false=>none
     |_=>none
    |none=>none
   |none=>none
  |_=>none
 |.conv (.s2b false) x=>match vw g x with
  |some (.str l)=>Zh (.msl (S.n,0) 1 0 l.length false) (S.new (.rows 1 (l.map fun c=>[.int .u8 (c.toNat:Int)])))
  |_=>none
 |.conv .b2s x=>match vw g x with
  |some (.str _)=>none
  |some a=>match Q9 S.t.at 1 a with
   |some rows=>match z39 rows with
    |true=>some (.str (rows.map Wt),S)
    |false=>none
   |none=>none
  |none=>none
 |.mkslice false s bytes zs l c=>match vw g l,vw g c with
  |some (.int .i64 l'),some (.int .i64 c')=>match ile 0 l'&&ile l' c'&&ile (c'*bytes) 140737488355328 with
   |true=>Zh (.msl (S.n,0) s 0 l'.toNat (decide (c'=l'))) (S.new (.rows s (pX l'.toNat zs)))
   |false=>none
  |_,_=>none
 |.call f args=>match z2i g args with
  |some aq=>C f aq S
  |none=>none
 |.callv x args=>match vw g x with
  |some (.fn (.func f) first caps)=>match z2i g args with
   |some aq=>C f (first++aq++caps) S
   |none=>none
  |_=>none
 |.app false s bytes x y=>match vw g y with
  |some b=>match Q9 S.t.at s b with
   |some rows2=>match vw g x with
    |some a=>zwf s bytes S a rows2
    |none=>none
   |none=>none
  |none=>none
 |.copy s x y=>match vw g x with
  |some (.msl b s' off len _)=>match vw g y with
   |some y=>match Q9 S.t.at s y with
    |some rows2=>match S.t.at b with
     |some (.rows s'' es)=>match pA s' s&&pA s'' s&&pB (off+len) es.length with
      |true=>Zh (.int .i64 ((min rows2.length len:Nat):Int)) (S.upd b (.rows s (es.take off++rows2.take len++es.drop (off+min rows2.length len))))
      |false=>none
     |_=>none
    |none=>none
   |none=>none
  |_=>none
 |.mkmap none=>Zh (.map (S.n,0)) (S.new (.amap []))
 |.mset ks ka ag zs m k x=>match vw g m with
  |some (.map b)=>match vw g x with
   |some x=>match zru ag zs x with
    |some y=>match S.t.at b with
     |some (.amap es)=>match vw g k with
      |some k=>match zm6 ks k y es with
       |some es'=>match z1m ks ka k with
        |true=>Zh .any (S.upd b (.amap es'))
        |false=>none
       |none=>none
      |none=>none
     |_=>none
    |none=>none
   |none=>none
  |_=>none
 |.mdel ks ka m k=>match vw g m with
  |some (.map b)=>match S.t.at b with
   |some (.amap es)=>match vw g k with
    |some k=>match z94 ks k es with
     |some es'=>match z1m ks ka k with
      |true=>Zh .any (S.upd b (.amap es'))
      |false=>none
     |none=>none
    |none=>none
   |_=>none
  |_=>none
 |_=>none
-- equality of values, where it is seen at once
mutual
def zti:AVal→AVal→Bool
 |.bool a,.bool b=>a==b
 |.int k a,.int k' b=>z0k k k'&&decide (a=b)
 |.str a,.str b=>a==b
 |.ptr b i o,.ptr b' i' o'=>pA b.1 b'.1&&pA b.2 b'.2&&pA i i'&&pA o o'
 |.msl b s o l f,.msl b' s' o' l' f'=>pA b.1 b'.1&&pA b.2 b'.2&&pA s s'&&pA o o'&&pA l l'&&(f==f')
 |.map b,.map b'=>pA b.1 b'.1&&pA b.2 b'.2
 |.agg cs,.agg ds=>zd7 cs ds
 |.tup cs,.tup ds=>zd7 cs ds
 |.val (.pointer none),.val (.pointer none)=>true
 |.val (.slice none 0 0),.val (.slice none 0 0)=>true
 |.val (.map none),.val (.map none)=>true
 |.val (.nilIface),.val (.nilIface)=>true
 |.cnd p x,.cnd p' y=>(p==p')&&zti x y
 |.isl s es f,.isl s' es' f'=>pA s s'&&(f==f')&&z97 es es'
 |_,_=>false
def zd7:List AVal→List AVal→Bool
 |[],[]=>true
 |x::xs,y::ys=>zti x y&&zd7 xs ys
 |_,_=>false
def z97:List (List AVal)→List (List AVal)→Bool
 |[],[]=>true
 |x::xs,y::ys=>zd7 x y&&z97 xs ys
 |_,_=>false
end
def z6a(a:AVal)(want:Bool):Option Bool:=kc a want
abbrev Ev:=Tr AVal
def Ev.g(e:Ev)(t:Nat):AVal:=match Tr.get e t with|some v=>v|none=>.any
def Ev.p(e:Ev)(d:Option Nat)(v:AVal):Option Ev:=match d with
 |some d=>Tr.put 60 e d (some v)
 |none=>some e
def Xr(g:Nat→AVal)(h:Hp)(lo:LOper):Option AVal:=
 match lo.guard with
 |none=>z86 g h lo.op
 |some (q,want)=>match z6a (g q) want with
  |some true=>match z86 g h lo.op with
   |some v=>some (.cnd true v)
   |none=>none
  |some false=>some (.tup [])
  |none=>none
def zkd(C:Nat→List AVal→Sh→Rs)(g:Nat→AVal)(S:Sh)(lo:LOper):Rs:=
 match lo.guard with
 |none=>zvv C g S lo.op
 |some (q,want)=>match z6a (g q) want with
  |some true=>zvv C g S lo.op
  |some false=>some (.tup [],S)
  |none=>none
abbrev Es:=Option (Ev×Sh)
def zqw(C:Nat→List AVal→Sh→Rs):List LOper→Ev→Sh→Es
 |[],e,S=>some (e,S)
 |lo::os,e,S=>match xy lo.op with
  |true=>match Xr e.g S.t.at lo with
   |some v=>match e.p lo.dst v with
    |some e=>zqw C os e S
    |none=>none
   |none=>none
  |false=>match zkd C e.g S lo with
   |some (v,S)=>match e.p lo.dst v with
    |some e=>zqw C os e S
    |none=>none
   |none=>none
def LOper.bsees(lo:LOper)(e:Ev):Env:=lo.looks.map fun t=>(t,e.g t)
def Ur(h:Hp)(loose:List Nat):List (Nat×LOper×Env×AVal)→Bool
 |[]=>true
 |(p,lo,e,v)::r=>(match loose.contains p with
  |true=>match Xr e.get h lo with
   |some u=>zti u v
   |none=>false
  |false=>true)&&Ur h loose r
def z8d(C:Nat→List AVal→Sh→Rs):List DItem→Nat→List (Nat×LOper×Env×AVal)→Ev→Sh→Es
 |[],_,_,e,S=>some (e,S)
 |it::rest,p,done,e,S=>match xy it.lo.op with
  |true=>match Xr (it.lo.bsees e).get S.t.at it.lo with
   |some v=>match e.p it.lo.dst v with
    |some e'=>z8d C rest (p+1) (if kw it.lo.op then(p,it.lo,it.lo.bsees e,v)::done else done) e' S
    |none=>none
   |none=>none
  |false=>match zkd C (it.lo.bsees e).get S it.lo with
   |some (v,S)=>match Ur S.t.at it.loose done with
    |true=>match e.p it.lo.dst v with
     |some e=>z8d C rest (p+1) done e S
     |none=>none
    |false=>none
   |none=>none
abbrev Cs:=Option (Exit×Ev×Sh)
def zvd:Es→Cs
 |some (e,S)=>some (.normal,e,S)
 |none=>none
def zo2:Option AVal→Option AVal→Bool
 |some (.ptr b _ _),some (.ptr c _ _)=>!(pA b.1 c.1&&pA b.2 c.2)
 |_,_=>false
def zv4:List Nat→List AVal→Ev→Option Ev
 |[],[],e=>some e
 |p::ps,x::xs,e=>match e.p (some p) x with
  |some e=>zv4 ps xs e
  |none=>none
 |_,_,_=>none
def z5h:AVal→Bool
 |.cnd _ _=>false
 |_=>true
def zui(A R:Ev→Sh→Cs)(ps:List Nat)(ag:Bool)(s:Nat)(bx:Id)(e:Ev):Nat→Sh→Cs
 |0,S=>some (.normal,e,S)
 |i+1,S=>match z0v false 1 S.t.at (.ptr bx 0 0) with
  |some sl=>match zal s sl.rd (.int .i64 (i:Int)) with
   |some p=>match z0v ag s S.t.at p with
    |some el=>match z5h sl&&z5h p&&z5h el&&pB i 4611686018427387903 with
     |true=>match zv4 ps [.int .i64 (i:Int),el] e with
      |some e1=>match A e1 S with
       |some (.normal,e2,S2)=>match R e2 S2 with
        |some (.normal,_,S3)=>zui A R ps ag s bx e i S3
        |some (.ret,_,S3)=>some (.ret,e,S3)
        |some (.exit id,_,S3)=>some (.exit id,e,S3)
        |_=>none
       |_=>none
      |none=>none
     |false=>none
    |none=>none
   |none=>none
  |none=>none
def uo(C:Nat→List AVal→Sh→Rs)(L:LCode→Ev→Sh→Cs)(B:Nat→Option (Bool×Nat)):LCode→Ev→Sh→Cs
 |.skip,e,S=>some (.normal,e,S)
 |.region ops,e,S=>zvd (zqw C ops e S)
 |.quiet ops,e,S=>match ops.all (fun lo=>xy lo.op) with
  |true=>zvd (zqw C ops e S)
  |false=>none
 |.draw items,e,S=>zvd (z8d C items 0 [] e S)
 |.draw2 a b items,e,S=>match z8d C items 0 [] e S with
  |some (e,S)=>match zo2 (vw e.g a) (vw e.g b) with
   |true=>some (.normal,e,S)
   |false=>none
  |none=>none
 |.seq a b,e,S=>match uo C L B a e S with
  |some (.normal,e,S)=>uo C L B b e S
  |x=>x
 |.cond c a b,e,S=>match vw e.g c with
  |some (.bool true)=>uo C L B a e S
  |some (.bool false)=>uo C L B b e S
  |_=>none
 |.block id c,e,S=>match uo C L B c e S with
  |some (.exit i,e,S)=>match pA i id with
   |true=>some (.normal,e,S)
   |false=>some (.exit i,e,S)
  |x=>x
 |.loop c,e,S=>L c e S
 |.rng g ps a b,e,S=>match vw e.g g with
  |some (.fn (.func gf) [] [.ptr bx 0 0])=>match B gf with
   |some (ag,s)=>match z0v false 1 S.t.at (.ptr bx 0 0) with
    |some sl=>match zmh sl.rd with
     |some (.int .i64 z)=>match z5h sl&&ile 0 z&&ile z 4611686018427387904,S.t.at (S.n,0) with
      |true,none=>zui (uo C L B a) (uo C L B b) ps ag s bx e z.toNat ⟨S.t,S.n+1⟩
      |_,_=>none
     |_=>none
    |none=>none
   |none=>none
  |_=>none
 |.dfr _ t,e,S=>match e.p (some t) .any with|some e=>some (.normal,e,S)|none=>none
 |.exit id,e,S=>some (.exit id,e,S)
 |.ret,e,S=>some (.ret,e,S)
def z8l:Nat→List AVal→Ev→Option Ev
 |_,[],e=>some e
 |k,x::r,e=>match e.p (some k) x with
  |some e=>z8l (k+1) r e
  |none=>none
def zr7(e:Ev)(h:Hp):LRes→Option AVal
 |.t i=>vw e.g (.t i)
 |.cell i ag n=>match vw e.g (.t i) with
  |some a=>z0v ag n h a
  |none=>none
def zco(e:Ev)(h:Hp):List LRes→Option (List AVal)
 |[]=>some []
 |r::rs=>match zr7 e h r with
  |some v=>match zco e h rs with
   |some l=>some (v::l)
   |none=>none
  |none=>none
def zvo(res:List LRes):Cs→Rs
 |some (.normal,e,S)=>match zco e S.t.at res with|some l=>some (z6l l,S)|none=>none
 |some (.ret,e,S)=>match zco e S.t.at res with|some l=>some (z6l l,S)|none=>none
 |_=>none
def ev(F:Nat→Option LFn)(X:Nat→List AVal→Sh→Option Rs)(B:Nat→Option (Bool×Nat)):Nat→(Nat→List AVal→Sh→Rs)×(LCode→Ev→Sh→Cs)
 |0=>(fun _ _ _=>none,fun _ _ _=>none)
 |m+1=>(fun f args S=>match X f args S with
  |some r=>r
  |none=>match F f with
   |some fn=>match pB args.length fn.lay.n with
    |true=>match z8l 0 args .nil with
     |some e=>zvo fn.res (uo (ev F X B m).1 (ev F X B m).2 B fn.body e S)
     |none=>none
    |false=>none
   |none=>none,
  fun c e S=>match uo (ev F X B m).1 (ev F X B m).2 B c e S with
   |some (.normal,e,S)=>(ev F X B m).2 c e S
   |x=>x)
end Go.Fx
namespace Go.Fx
namespace Tr
variable {α:Type}
theorem z0c(v:Option α)(l r:Tr α)(j:Nat):(Tr.nd v l r).get j=if j=0 then v else if j % 2=1 then l.get (j / 2) else r.get (j / 2-1):=by
 show(match pA j 0 with
  |true=>v
  |false=>match pA (j % 2) 1 with
   |true=>get l (j / 2)
   |false=>get r (j / 2-1))=_
 by_cases h:j=0
 ·subst h;rfl
 ·rw[if_neg h]
  have h0:pA j 0=false:=Bool.eq_false_iff.2 fun h'=>h (pH h')
  rw[h0]
  simp only
  by_cases h1:j % 2=1
  ·rw[if_pos h1,h1]
  ·rw[if_neg h1]
   have:j % 2=0:=by omega
   rw[this]
theorem put_get:∀ (d:Nat) (t:Tr α) (k:Nat) (x:Option α) (t':Tr α),put d t k x=some t'→∀j,t'.get j=if j=k then x else t.get j
 |0,_,_,_,_,h=>by simp[put] at h
 |d+1,t,k,x,t',h=>by
  have key:∀ (v:Option α) (l r:Tr α),(match pA k 0 with
   |true=>some (Tr.nd x l r)
   |false=>match pA (k % 2) 1 with
    |true=>match put d l (k / 2) x with|some l=>some (.nd v l r)|none=>none
    |false=>match put d r (k / 2-1) x with|some r=>some (.nd v l r)|none=>none)=some t'→∀j,t'.get j=if j=k then x else(Tr.nd v l r).get j:=by
   intro v l r h j
   split at h
   ·rename_i hk
    have hk:=pH hk
    simp only[p0] at h
    subst h hk
    rw[z0c,z0c]
    by_cases hj:j=0
    ·rw[if_pos hj,if_pos hj]
    ·rw[if_neg hj,if_neg hj,if_neg hj]
   ·rename_i hk
    have hk:=pU hk
    split at h
    ·rename_i hk1
     have hk1:=pH hk1
     split at h<;>simp only[p0,reduceCtorEq] at h
     rename_i l' hl
     subst h
     have ih:=put_get d l (k / 2) x l' hl
     rw[z0c,z0c,ih]
     by_cases hj:j=k
     ·subst hj;rw[if_neg hk,if_pos hk1,if_pos rfl,if_pos rfl]
     ·rw[if_neg hj]
      by_cases h0:j=0
      ·rw[if_pos h0,if_pos h0]
      ·rw[if_neg h0,if_neg h0]
       by_cases h1:j % 2=1
       ·rw[if_pos h1,if_pos h1,if_neg (by omega)]
       ·rw[if_neg h1,if_neg h1]
    ·rename_i hk1
     have hk1:=pU hk1
     split at h<;>simp only[p0,reduceCtorEq] at h
     rename_i r' hr
     subst h
     have ih:=put_get d r (k / 2-1) x r' hr
     rw[z0c,z0c,ih]
     by_cases hj:j=k
     ·subst hj;rw[if_neg hk,if_neg hk1,if_pos rfl,if_pos rfl]
     ·rw[if_neg hj]
      by_cases h0:j=0
      ·rw[if_pos h0,if_pos h0]
      ·rw[if_neg h0,if_neg h0]
       by_cases h1:j % 2=1
       ·rw[if_pos h1,if_pos h1]
       ·rw[if_neg h1,if_neg h1,if_neg (by omega)]
  cases t with
  |nil=>
   intro j
   have hn:(Tr.nil:Tr α).get j=(Tr.nd none .nil .nil).get j:=by rw[z0c];simp[get]
   rw[hn]
   exact key none .nil .nil (by unfold put at h;exact h) j
  |nd v l r=>exact key v l r (by unfold put at h;exact h)
end Tr
theorem zpn{i j:Id}{k:Nat}(hi:hix i=some k)(hj:hix j=some k):i=j:=by
 obtain⟨a,b⟩:=i
 obtain⟨c,d⟩:=j
 unfold hix at hi hj
 simp only at hi hj
 split at hi<;>split at hj<;>simp only[p0,reduceCtorEq] at hi hj
 all_goals first|(exfalso;omega)|(have:a=c:=(by omega);subst this;rfl)
theorem Y8{t t':Tr ABlock}{id:Id}{b:Option ABlock}(h:t.sat id b=some t')(j:Id):t'.at j=if j=id then b else t.at j:=by
 unfold Tr.sat at h
 split at h<;>try (cases h;done)
 rename_i k hk
 have hp:=Tr.put_get _ _ _ _ _ h
 unfold Tr.at
 by_cases hj:j=id
 ·subst hj
  rw[hk,if_pos rfl]
  simp only
  rw[hp,if_pos rfl]
 ·rw[if_neg hj]
  cases hx:hix j with
  |none=>rfl
  |some k'=>
   simp only
   rw[hp,if_neg]
   rintro rfl
   exact hj (zpn hx hk)
structure StR(D:Id→Option ABlock)(H:AHeap)(nn:Nat)(S:Sh):Prop where
 n:nn=S.n
 h:∀id b,S.t.at id=some b→H.get id=some b
 d:∀id b,D id=some b→H.get id=some b∧S.t.at id=none∧id.1<nn
variable {D:Id→Option ABlock} {H:AHeap} {n:Nat} {S S':Sh}
theorem StR.new{b:ABlock}(h:StR D H n S)(hs:S.new b=some S'):StR D (((n,0),b)::H) (n+1) S':=by
 unfold Sh.new at hs
 split at hs<;>simp only[p0,reduceCtorEq] at hs
 rename_i t ht
 subst hs
 refine⟨by simp[h.n],fun id c hc=>?_,fun id c hc=>?_⟩
 ·simp only at hc
  rw[Y8 ht] at hc
  by_cases hj:(n,0)=id
  ·subst hj;rw[AHeap.get_cons_same];rw[if_pos (by rw[h.n])] at hc;exact hc
  ·rw[AHeap.get_cons_other _ _ hj];rw[if_neg (by rw[←h.n];exact fun e=>hj e.symm)] at hc;exact h.h _ _ hc
 ·obtain⟨g1,g2,g3⟩:=h.d id c hc
  have hj:(n,0)≠id:=fun e=>by subst e;exact absurd g3 (Nat.lt_irrefl _)
  simp only
  rw[Y8 ht,AHeap.get_cons_other _ _ hj,if_neg (by rw[←h.n];exact fun e=>hj e.symm)]
  exact⟨g1,g2,by omega⟩
theorem StR.new2{b c:ABlock}(h:StR D H n S)(hs:S.new2 b c=some S'):StR D (((n,0),b)::((n,1),c)::H) (n+1) S':=by
 unfold Sh.new2 at hs
 split at hs<;>try (cases hs;done)
 rename_i t ht
 split at hs<;>simp only[p0,reduceCtorEq] at hs
 rename_i t' ht'
 subst hs
 refine⟨by simp[h.n],fun id u hu=>?_,fun id u hu=>?_⟩
 ·simp only at hu
  rw[Y8 ht',Y8 ht,←h.n] at hu
  by_cases hj:(n,0)=id
  ·subst hj;rw[AHeap.get_cons_same];rw[if_neg (by simp),if_pos rfl] at hu;exact hu
  ·rw[AHeap.get_cons_other _ _ hj]
   by_cases hj1:(n,1)=id
   ·subst hj1;rw[AHeap.get_cons_same];rw[if_pos rfl] at hu;exact hu
   ·rw[AHeap.get_cons_other _ _ hj1];rw[if_neg (fun e=>hj1 e.symm),if_neg (fun e=>hj e.symm)] at hu;exact h.h _ _ hu
 ·obtain⟨g1,g2,g3⟩:=h.d id u hu
  have hj:(n,0)≠id:=fun e=>by subst e;exact absurd g3 (Nat.lt_irrefl _)
  have hj1:(n,1)≠id:=fun e=>by subst e;exact absurd g3 (Nat.lt_irrefl _)
  simp only
  rw[Y8 ht',Y8 ht,←h.n,AHeap.get_cons_other _ _ hj,AHeap.get_cons_other _ _ hj1,if_neg (fun e=>hj1 e.symm),if_neg (fun e=>hj e.symm)]
  exact⟨g1,g2,by omega⟩
theorem StR.upd{id:Id}{b b0:ABlock}(h:StR D H n S)(h0:S.t.at id=some b0)(hs:S.upd id b=some S'):StR D (H.set id b) n S':=by
 unfold Sh.upd at hs
 split at hs<;>simp only[p0,reduceCtorEq] at hs
 rename_i t ht
 subst hs
 refine⟨h.n,fun j c hc=>?_,fun j c hc=>?_⟩
 ·simp only at hc
  rw[Y8 ht] at hc
  rw[AHeap.get_set]
  by_cases hj:id=j
  ·subst hj;rw[if_pos rfl] at hc ⊢;rw[h.h _ _ h0];exact hc
  ·rw[if_neg hj];rw[if_neg (fun e=>hj e.symm)] at hc;exact h.h _ _ hc
 ·obtain⟨g1,g2,g3⟩:=h.d j c hc
  have hj:id≠j:=fun e=>by subst e;rw[h0] at g2;cases g2
  simp only
  rw[Y8 ht,AHeap.get_set,if_neg hj,if_neg (fun e=>hj e.symm)]
  exact⟨g1,g2,g3⟩
theorem StR.cut{id:Id}{b0:ABlock}(h:StR D H n S)(h0:S.t.at id=some b0)(hs:S.cut id=some S'):StR D (H.del id) n S':=by
 unfold Sh.cut at hs
 split at hs<;>simp only[p0,reduceCtorEq] at hs
 rename_i t ht
 subst hs
 refine⟨h.n,fun j c hc=>?_,fun j c hc=>?_⟩
 ·simp only at hc
  rw[Y8 ht] at hc
  rw[AHeap.get_del]
  by_cases hj:id=j
  ·subst hj;rw[if_pos rfl] at hc;cases hc
  ·rw[if_neg hj];rw[if_neg (fun e=>hj e.symm)] at hc;exact h.h _ _ hc
 ·obtain⟨g1,g2,g3⟩:=h.d j c hc
  have hj:id≠j:=fun e=>by subst e;rw[h0] at g2;cases g2
  simp only
  rw[Y8 ht,AHeap.get_del,if_neg hj,if_neg (fun e=>hj e.symm)]
  exact⟨g1,g2,g3⟩
theorem Sh.upd_at{id j:Id}{b c:ABlock}(hs:S.upd id b=some S')(hj:S.t.at j=some c):∃c',S'.t.at j=some c':=by
 unfold Sh.upd at hs
 split at hs<;>simp only[p0,reduceCtorEq] at hs
 rename_i t ht
 subst hs
 simp only
 rw[Y8 ht]
 split
 ·exact⟨_,rfl⟩
 ·exact⟨_,hj⟩
def HLe(h h':Hp):Prop:=∀id b,h id=some b→h' id=some b
theorem ux{h h':Hp}(hl:HLe h h'){ag:Bool}{n:Nat}:∀ {x v:AVal},z0v ag n h x=some v→z0v ag n h' x=some v:=by
 intro x v hx
 unfold z0v at hx ⊢
 split at hx
 ·exact hx
 ·rename_i b i off
  cases hb:h b with
  |none=>rw[hb] at hx;cases hx
  |some blk=>rw[hb] at hx;simp only[hl _ _ hb];exact hx
 ·cases hx
theorem z6b{h h':Hp}(hl:HLe h h'){len s:Nat}{x y v:AVal}(hx:Va len s h x y=some v):Va len s h' x y=some v:=by
 unfold Va at hx ⊢
 split at hx
 ·rename_i b i k j
  cases hb:h b with
  |none=>rw[hb] at hx;cases hx
  |some blk=>rw[hb] at hx;simp only[hl _ _ hb];exact hx
 ·cases hx
theorem z1y{h h':Hp}(hl:HLe h h'){len s:Nat}{x v:AVal}(hx:zd2 len s h x=some v):zd2 len s h' x=some v:=by
 unfold zd2 at hx ⊢
 split at hx
 ·rename_i b i
  cases hb:h b with
  |none=>rw[hb] at hx;cases hx
  |some blk=>rw[hb] at hx;simp only[hl _ _ hb];exact hx
 ·cases hx
theorem z7d{h h':Hp}(hl:HLe h h'){ks:List CK}{ka g ok:Bool}{zs:List AVal}{k x v:AVal}(hx:z1x ks ka g ok zs h k x=some v):z1x ks ka g ok zs h' k x=some v:=by
 unfold z1x at hx ⊢
 split at hx
 ·exact hx
 ·rename_i b
  cases hb:h b with
  |none=>rw[hb] at hx;cases hx
  |some blk=>rw[hb] at hx;simp only[hl _ _ hb];exact hx
 ·cases hx
theorem zbj{h h':Hp}(hl:HLe h h'){x v:AVal}(hx:zcz h x=some v):zcz h' x=some v:=by
 unfold zcz at hx ⊢
 split at hx
 ·exact hx
 ·rename_i b
  cases hb:h b with
  |none=>rw[hb] at hx;cases hx
  |some blk=>rw[hb] at hx;simp only[hl _ _ hb];exact hx
 ·cases hx
theorem Q7{h h':Hp}(hl:HLe h h'){s:Nat}{x:AVal}{v:List (List AVal)}(hx:Q9 h s x=some v):Q9 h' s x=some v:=by
 unfold Q9 at hx ⊢
 split at hx
 case h_3 b s' off len f=>
  cases hb:h b with
  |none=>rw[hb] at hx;cases hx
  |some blk=>rw[hb] at hx;simp only[hl _ _ hb];exact hx
 all_goals first|exact hx|cases hx
theorem kj{α β:Type}{o:Option α}{f f':α→Option β}{v:β}(hx:o.bind f=some v)(hf:∀a,f a=some v→f' a=some v):o.bind f'=some v:=by
 cases o with
 |none=>cases hx
 |some a=>exact hf a hx
theorem z1b{h h':Hp}(hl:HLe h h'){g:Nat→AVal}{op:LOp}{v:AVal}(hx:z86 g h op=some v):z86 g h' op=some v:=by
 unfold z86 at hx ⊢
 split at hx
 case h_4=>exact kj hx fun a h=>ux hl h
 case h_14=>exact kj hx fun a h=>z1y hl h
 all_goals first
  |exact hx
  |exact kj hx fun a h=>zbj hl h
  |exact kj hx fun a h=>kj h fun b h=>z6b hl h
  |exact kj hx fun a h=>kj h fun b h=>z7d hl h
  |exact kj hx fun a h=>ux hl h
  |exact kj hx fun a h=>z1y hl h
  |cases hx
theorem J7{h h':Hp}(hl:HLe h h'){g:Nat→AVal}{lo:LOper}{v:AVal}(hx:Xr g h lo=some v):Xr g h' lo=some v:=by
 unfold Xr at hx ⊢
 split at hx
 ·exact z1b hl hx
 ·split at hx
  ·split at hx<;>try (cases hx;done)
   rename_i v' hv
   rw[z1b hl hv]
   exact hx
  ·exact hx
  ·cases hx
theorem z07{h h':Hp}(hl:HLe h h'){lo:List Nat}:∀ {d:List (Nat×LOper×Env×AVal)},Ur h lo d=true→Ur h' lo d=true
 |[],_=>rfl
 |(p,o,e,v)::r,hx=>by
  unfold Ur at hx ⊢
  simp only[p9] at hx ⊢
  refine⟨?_,z07 hl hx.2⟩
  have h1:=hx.1
  split at h1
  ·split at h1
   ·rename_i u hu
    rw[J7 hl hu]
    exact h1
   ·cases h1
  ·rfl
theorem zef{h h':Hp}(hl:HLe h h'){e:Ev}{r:LRes}{v:AVal}(hx:zr7 e h r=some v):zr7 e h' r=some v:=by
 unfold zr7 at hx ⊢
 split at hx
 ·exact hx
 ·split at hx
  ·exact ux hl hx
  ·cases hx
theorem Yd{a b:IntKind}:z0k a b=true↔a=b:=by cases a<;>cases b<;>decide
theorem kh{a b:Int}:ile a b=true↔a≤b:=by simp[ile]
theorem Ux{a b:Int}:ilt a b=true↔a<b:=by simp[ilt]
theorem zq{a b:Nat}:pA a b=true↔a=b:=⟨pH,fun h=>by subst h;exact Nat.beq_refl a⟩
theorem xp{a b:Nat}:pB a b=true↔a≤b:=by rw[Nat.ble_eq]
theorem Yb{p:Bool}{v y:AVal}(h:ck p v=some y):p=true∧v=y:=by
 unfold ck at h
 split at h<;>simp only[p0,reduceCtorEq] at h
 exact⟨rfl,h⟩
def XOk(x:XR)(y:AVal):Prop:=∃s,x=.ok s y∧s
theorem XOk.of{x:XR}{s:Prop}{y:AVal}(h:x=.ok s y)(hs:s):XOk x y:=⟨s,h,hs⟩
theorem XOk.and{x:XR}{p:Prop}{y:AVal}(h:XOk x y)(hp:p):XOk (x.and p) y:=by
 obtain⟨s,rfl,hs⟩:=h
 exact⟨p∧s,rfl,hp,hs⟩
theorem zq1{op:BinOp}{a b y:AVal}(h:zx2 op a b=some y):XOk (zi8 op a b) y:=by
 unfold zx2 at h
 split at h
 ·unfold zi8
  cases op<;>simp only at h ⊢<;>(obtain⟨h1,rfl⟩:=Yb h;refine⟨_,rfl,?_⟩) <;>
   simp only[p9,Yd,kh,Bool.not_eq_true',decide_eq_false_iff_not] at h1<;>exact h1
 ·unfold zi8
  cases op<;>first
   |(cases h;done)
   |(obtain⟨h1,rfl⟩:=Yb h;exact⟨_,rfl,kh.1 h1⟩)
   |(simp only[p0] at h;subst h;exact⟨_,rfl,trivial⟩)
 ·cases h
theorem zun{op:UnOp}{a y:AVal}(h:bun op a=some y):XOk (xun op a) y:=by
 unfold bun at h
 split at h
 ·unfold xun
  split at h<;>simp only[p0,reduceCtorEq] at h
  subst h;exact⟨_,rfl,trivial⟩
 ·unfold xun
  split at h<;>simp only[p0,reduceCtorEq] at h<;>(subst h;exact⟨_,rfl,trivial⟩)
 ·cases h
theorem zbx{k:CK}{x y:AVal}{b:Bool}(h:z80 k x y=some b):Zp k x y=some b:=by
 unfold z80 at h
 split at h
 ·split at h<;>simp only[p0,reduceCtorEq] at h
  rename_i hk
  subst h
  simp[Zp,Yd.1 hk]
 ·simpa[Zp] using h
 ·simpa[Zp] using h
 ·cases h
theorem Z3:∀ {ks:List CK} {xs ys:List AVal} {b:Bool},ut ks xs ys=some b→ya ks xs ys=some b
 |[],[],[],b,h=>by simpa[ut,ya] using h
 |k::ks,x::xs,y::ys,b,h=>by
  unfold ut at h
  split at h<;>try (cases h;done)
  rename_i a ha
  split at h<;>try (cases h;done)
  rename_i c hc
  unfold ya
  rw[zbx ha,Z3 hc]
  exact h
 |[],[],_::_,_,h=>by cases h
 |[],_::_,_,_,h=>by cases h
 |_::_,[],_,_,h=>by cases h
 |_::_,_::_,[],_,h=>by cases h
theorem zlp{x y:AVal}{b:Bool}(h:zr9 x y=some b):XOk (Wo x y) (.bool b):=by
 unfold zr9 at h
 split at h
 ·simp only[p0] at h;subst h;exact⟨_,rfl,trivial⟩
 ·rename_i len _
  cases hz:pA len 0<;>rw[hz] at h<;>simp only[p0,reduceCtorEq] at h
  subst h;exact⟨_,rfl,pU hz⟩
 ·rename_i len _
  cases hz:pA len 0<;>rw[hz] at h<;>simp only[p0,reduceCtorEq] at h
  subst h;exact⟨_,rfl,pU hz⟩
 ·rename_i es _
  cases es<;>simp only[p0,reduceCtorEq] at h
  subst h;exact⟨_,rfl,by simp⟩
 ·rename_i es _
  cases es<;>simp only[p0,reduceCtorEq] at h
  subst h;exact⟨_,rfl,by simp⟩
 ·cases h
theorem zqq{k:EqK}{x y:AVal}{b:Bool}(h:zx5 k x y=some b):XOk (zf3 k x y) (.bool b):=by
 unfold zx5 at h
 unfold zf3
 split at h
 ·split at h<;>simp only[p0,reduceCtorEq] at h
  subst h;exact⟨_,rfl,trivial⟩
 ·simp only
  unfold znv at h
  split at h<;>simp only[p0,reduceCtorEq] at h<;>(subst h;exact⟨_,rfl,trivial⟩)
 ·simp only
  exact zlp h
 ·simp only
  unfold znd at h
  split at h<;>simp only[p0,reduceCtorEq] at h<;>(subst h;exact⟨_,rfl,trivial⟩)
 ·simp only
  split at h<;>try (cases h;done)
  simp only[zeg,Z3 h]
  exact⟨_,rfl,trivial⟩
 ·simp only
  unfold zg5 at h
  split at h<;>simp only[p0,reduceCtorEq] at h<;>(subst h;exact⟨_,rfl,trivial⟩)
 ·simp only
  unfold zgp at h
  split at h<;>simp only[p0,reduceCtorEq] at h<;>(subst h;exact⟨_,rfl,trivial⟩)
 ·cases h
theorem zpq{neg:Bool}{k:EqK}{x y z:AVal}(h:zx9 neg k x y=some z):XOk (xeq neg k x y) z:=by
 unfold zx9 at h
 split at h<;>simp only[p0,reduceCtorEq] at h
 rename_i b hb
 obtain⟨s,h1,h2⟩:=zqq hb
 unfold xeq
 subst h
 cases neg with
 |true=>simp only[if_true,h1,XR.neg];exact⟨_,rfl,h2⟩
 |false=>simp only[pR,if_false,h1];exact⟨_,rfl,h2⟩
theorem We{ag:Bool}{m:Nat}{x y:AVal}(h:z0v ag m H.get x=some y):XOk (Vx ag m H x) y:=by
 unfold z0v at h
 unfold Vx
 split at h
 ·obtain⟨h1,rfl⟩:=Yb h
  simp only[p9,xp] at h1
  exact⟨_,rfl,h1⟩
 ·rename_i b i off
  simp only
  split at h<;>try (cases h;done)
  ·rename_i hg
   obtain⟨h1,rfl⟩:=Yb h
   simp only[p9,xp] at h1
   rw[hg]
   exact⟨_,rfl,h1⟩
  ·rename_i hg
   obtain⟨h1,rfl⟩:=Yb h
   simp only[p9,xp,zq] at h1
   rw[hg]
   exact⟨_,rfl,h1⟩
 ·cases h
theorem zih{off:Nat}{x y:AVal}(h:zgh off x=some y):XOk (z1n off x) y:=by
 unfold zgh at h
 split at h<;>simp only[p0,reduceCtorEq] at h<;>(subst h;exact⟨_,rfl,trivial⟩)
theorem ze8{ag:Bool}{m off:Nat}{x y:AVal}(h:zgd ag m off x=some y):XOk (z0y ag m off x) y:=by
 unfold zgd at h
 split at h<;>try (cases h;done)
 obtain⟨h1,rfl⟩:=Yb h
 exact⟨_,rfl,xp.1 h1⟩
theorem z54{s:Nat}{x i y:AVal}(h:zal s x i=some y):XOk (Ub s x i) y:=by
 unfold zal at h
 split at h<;>try (cases h;done)
 all_goals
  obtain⟨h1,rfl⟩:=Yb h
  simp only[p9,zq,kh,Ux,and_assoc] at h1
  exact⟨_,rfl,h1⟩
theorem zcj{len s:Nat}{x i y:AVal}(h:z8j len s x i=some y):XOk (Uu len s x i) y:=by
 unfold z8j at h
 split at h<;>try (cases h;done)
 all_goals
  obtain⟨h1,rfl⟩:=Yb h
  simp only[p9,kh,Ux] at h1
  exact⟨_,rfl,h1⟩
theorem zbq{len s:Nat}{x i y:AVal}(h:Va len s H.get x i=some y):XOk (Jg len s H x i) y:=by
 unfold Va at h
 split at h<;>try (cases h;done)
 split at h<;>try (cases h;done)
 rename_i hg
 obtain⟨h1,rfl⟩:=Yb h
 simp only[p9,zq,kh,Ux,and_assoc] at h1
 simp only[Jg,hg]
 exact⟨_,rfl,h1⟩
theorem zjw{len s:Nat}{x y:AVal}(h:zd2 len s H.get x=some y):XOk (zcp len s H x) y:=by
 unfold zd2 at h
 split at h<;>try (cases h;done)
 split at h<;>try (cases h;done)
 rename_i hg
 obtain⟨h1,rfl⟩:=Yb h
 simp only[p9,zq,xp] at h1
 simp only[zcp,hg]
 exact⟨_,rfl,h1⟩
theorem zle{x i y:AVal}(h:zrb x i=some y):XOk (zh6 x i) y:=by
 unfold zrb at h
 split at h<;>try (cases h;done)
 obtain⟨h1,rfl⟩:=Yb h
 simp only[p9,kh,Ux] at h1
 exact⟨_,rfl,h1⟩
theorem zlk{len s:Nat}{ag:Bool}{x i y:AVal}(h:zon len s ag x i=some y):XOk (zf6 len s ag x i) y:=by
 unfold zon at h
 split at h<;>try (cases h;done)
 obtain⟨h1,rfl⟩:=Yb h
 simp only[p9,kh,Ux,xp,and_assoc] at h1
 exact⟨_,rfl,h1⟩
theorem zqc{k:Nat}{x y:AVal}(h:zvw k x=some y):XOk (zrv k x) y:=by
 unfold zvw at h
 split at h<;>try (cases h;done)
 obtain⟨h1,rfl⟩:=Yb h
 exact⟨_,rfl,xp.1 h1⟩
theorem zlu{x y:AVal}(h:zqo x=some y):XOk (zc5 x) y:=by
 unfold zqo at h
 split at h<;>simp only[p0,reduceCtorEq] at h
 subst h;exact⟨_,rfl,trivial⟩
theorem z9n{x y:AVal}(h:zmh x=some y):XOk (z6y x) y:=by
 unfold zmh at h
 split at h<;>simp only[p0,reduceCtorEq] at h<;>(subst h;exact⟨_,rfl,trivial⟩)
theorem zfg{x y:AVal}(h:zgr x=some y):XOk (z1s x) y:=by
 unfold zgr at h
 split at h<;>simp only[p0,reduceCtorEq] at h<;>(subst h;exact⟨_,rfl,trivial⟩)
variable {e:Env}
theorem zr{x:LOpd}{v:AVal}(h:vw e.get x=some v):x.ev e=v∧x.need e:=by
 cases x with
 |c u=>simp only[vw,p0] at h;exact⟨h,trivial⟩
 |t i=>
  simp only[vw] at h
  show(e.get i).strip=v∧(e.get i).need
  split at h
  ·rename_i u hu
   simp only[p0] at h
   rw[hu]
   exact⟨h,rfl⟩
  ·cases h
  ·rename_i h1 h2
   simp only[p0] at h
   cases hg:e.get i with
   |cnd p u=>
    cases p with
    |true=>exact absurd hg (h1 u)
    |false=>exact absurd hg (h2 u)
   |_=>rw[hg] at h;subst h;exact⟨rfl,trivial⟩
theorem X9:∀ {xs:List LOpd} {vs:List AVal},z2i e.get xs=some vs→evs e xs=vs∧Q3 e xs
 |[],vs,h=>by simp only[z2i,p0] at h;exact⟨h,trivial⟩
 |x::xs,vs,h=>by
  unfold z2i at h
  split at h<;>try (cases h;done)
  rename_i a ha
  split at h<;>simp only[p0,reduceCtorEq] at h
  rename_i l hl
  obtain⟨h1,h2⟩:=zr ha
  obtain⟨h3,h4⟩:=X9 hl
  exact⟨by unfold evs;rw[h1,h3];exact h,h2,h4⟩
theorem vr{d:Nat}{o:Option LOpd}{j:Int}(h:Y1 e.get d o=some j):xb e d o=some j∧ud e o:=by
 cases o with
 |none=>simp only[Y1,p0] at h;exact⟨by simp[xb,h],trivial⟩
 |some x=>
  simp only[Y1] at h
  split at h<;>simp only[p0,reduceCtorEq] at h
  rename_i k z hx
  obtain⟨h1,h2⟩:=zr hx
  subst h
  exact⟨by simp only[xb,h1],h2⟩
theorem zdg{lo hi:Option LOpd}{x y:AVal}(h:zhf e.get lo hi x=some y):XOk (z1i (fun d=>xb e d lo) (fun d=>xb e d hi) x) y∧ud e lo∧ud e hi:=by
 unfold zhf at h
 split at h<;>try (cases h;done)
 split at h<;>try (cases h;done)
 rename_i a b ha hb
 obtain⟨h1,rfl⟩:=Yb h
 obtain⟨ha1,ha2⟩:=vr ha
 obtain⟨hb1,hb2⟩:=vr hb
 simp only[p9,kh,and_assoc] at h1
 refine⟨?_,ha2,hb2⟩
 simp only[z1i,ha1,hb1]
 exact⟨_,rfl,h1⟩
theorem zml{s:Nat}{lo hi mx:Option LOpd}{x y:AVal}(h:zp4 e.get s lo hi mx x=some y)(kp:Bool):XOk (zgy s (fun d=>xb e d lo) (fun d=>xb e d hi) (z0r e mx) kp x) y∧ud e lo∧ud e hi∧ud e mx:=by
 unfold zp4 at h
 split at h
 ·split at h<;>try (cases h;done)
  rename_i a b ha hb
  obtain⟨ha1,ha2⟩:=vr ha
  obtain⟨hb1,hb2⟩:=vr hb
  split at h
  ·obtain⟨h1,rfl⟩:=Yb h
   simp only[p9,zq,kh,and_assoc] at h1
   refine⟨?_,ha2,hb2,trivial⟩
   simp only[zgy,z2a,ha1,hb1,z0r]
   exact⟨_,rfl,h1⟩
  ·split at h<;>try (cases h;done)
   rename_i z hz
   obtain⟨hz1,hz2⟩:=vr hz
   obtain⟨h1,rfl⟩:=Yb h
   simp only[p9,zq,kh,and_assoc] at h1
   refine⟨?_,ha2,hb2,hz2⟩
   simp only[zgy,z2a,ha1,hb1,z0r,hz1]
   exact⟨_,rfl,h1⟩
 ·split at h<;>try (cases h;done)
  rename_i a b ha hb
  obtain⟨ha1,ha2⟩:=vr ha
  obtain⟨hb1,hb2⟩:=vr hb
  split at h
  ·obtain⟨h1,rfl⟩:=Yb h
   simp only[p9,zq,kh,and_assoc] at h1
   refine⟨?_,ha2,hb2,trivial⟩
   simp only[zgy,z2a,ha1,hb1,z0r]
   exact⟨_,rfl,h1⟩
  ·split at h<;>try (cases h;done)
   rename_i z hz
   obtain⟨hz1,hz2⟩:=vr hz
   obtain⟨h1,rfl⟩:=Yb h
   simp only[p9,zq,kh,and_assoc] at h1
   refine⟨?_,ha2,hb2,hz2⟩
   simp only[zgy,z2a,ha1,hb1,z0r,hz1]
   exact⟨_,rfl,h1⟩
 ·split at h<;>try (cases h;done)
  rename_i a b ha hb
  obtain⟨ha1,ha2⟩:=vr ha
  obtain⟨hb1,hb2⟩:=vr hb
  obtain⟨h1,rfl⟩:=Yb h
  simp only[p9,decide_eq_true_eq] at h1
  refine⟨?_,ha2,hb2,trivial⟩
  simp only[zgy,z2a,ha1,hb1,z0r]
  exact⟨_,rfl,h1⟩
 ·cases h
theorem z47:∀ {ps:List (Nat×Nat×AVal)} {cells:List AVal} {y:AVal},z3z cells ps=some y→XOk (Zq cells ps) y
 |[],cells,y,h=>by simp only[z3z,p0] at h;subst h;exact⟨_,rfl,trivial⟩
 |(off,m,x)::r,cells,y,h=>by
  unfold z3z at h
  split at h<;>try (cases h;done)
  rename_i cs hc
  split at h<;>try (cases h;done)
  rename_i hb
  simp only[p9,zq,xp] at hb
  obtain⟨s,h1,h2⟩:=z47 h
  simp only[Zq,hc,h1]
  exact⟨_,rfl,hb.1,hb.2,h2⟩
theorem z4n:∀ {ps:List (Nat×Nat×LOpd)} {l:List (Nat×Nat×AVal)},z4k e.get ps=some l→wb e ps=l∧jy e ps
 |[],l,h=>by simp only[z4k,p0] at h;exact⟨h,trivial⟩
 |(o,m,x)::r,l,h=>by
  unfold z4k at h
  split at h<;>try (cases h;done)
  rename_i a ha
  split at h<;>simp only[p0,reduceCtorEq] at h
  rename_i l' hl
  obtain⟨h1,h2⟩:=zr ha
  obtain⟨h3,h4⟩:=z4n hl
  exact⟨by unfold wb;rw[h1,h3];exact h,h2,h4⟩
theorem zjl{mx:Bool}:∀ {l:List AVal} {v y:AVal},zqr mx v l=some y→XOk (zg8 mx v l) y
 |[],v,y,h=>by
  cases v<;>simp only[zqr,p0] at h<;>(subst h;exact⟨_,rfl,trivial⟩)
 |x::r,v,y,h=>by
  cases v<;>try (simp[zqr] at h;done)
  cases x<;>try (simp[zqr] at h;done)
  simp only[zqr] at h
  split at h<;>try (cases h;done)
  rename_i hk
  obtain⟨s,h1,h2⟩:=zjl h
  simp only[zg8,h1]
  exact⟨_,rfl,Yd.1 hk,h2⟩
theorem zks{mx:Bool}{l:List AVal}{y:AVal}(h:zr2 mx l=some y):XOk (zeo mx l) y:=by
 unfold zr2 at h
 split at h<;>try (cases h;done)
 exact zjl h
theorem W7{ks:List CK}{ka:Bool}{k:AVal}(h:z1m ks ka k=true):Qv ks ka k=true:=by
 unfold z1m at h
 unfold Qv
 simp only[p9] at h ⊢
 refine⟨h.1,?_⟩
 cases hc:ut ks (qp k) (qp k) with
 |none=>rw[hc] at h;cases h.2
 |some b=>rw[Z3 hc];rfl
theorem Y5{ks:List CK}{k k':AVal}{b:Bool}(h:z43 ks k k'=some b):Vy ks k k'=some b:=by
 unfold z43 at h
 unfold Vy
 split at h<;>try (cases h;done)
 ·rename_i h1 h2;rw[h1,h2];exact Z3 h
 ·rename_i h1 h2;rw[h1,h2];exact Z3 h
theorem z5c{ks:List CK}{k:AVal}:∀ {es:List (AVal×AVal)} {r:Option AVal},zag ks k es=some r→z0t ks k es=some r
 |[],r,h=>h
 |(k',x)::es,r,h=>by
  unfold zag at h
  unfold z0t
  split at h<;>try (cases h;done)
  ·rename_i hk;rw[Y5 hk];exact h
  ·rename_i hk;rw[Y5 hk];exact z5c h
theorem zb7{ks:List CK}{k x:AVal}:∀ {es r:List (AVal×AVal)},zm6 ks k x es=some r→zkv ks k x es=some r
 |[],r,h=>h
 |(k',y)::es,r,h=>by
  unfold zm6 at h
  unfold zkv
  split at h<;>try (cases h;done)
  ·rename_i hk;rw[Y5 hk];exact h
  ·rename_i hk
   rw[Y5 hk]
   split at h<;>simp only[p0,reduceCtorEq] at h
   rename_i l hl
   subst h
   simp only[zb7 hl,pJ]
theorem z5j{ks:List CK}{k:AVal}:∀ {es r:List (AVal×AVal)},z94 ks k es=some r→z30 ks k es=some r
 |[],r,h=>h
 |(k',y)::es,r,h=>by
  unfold z94 at h
  unfold z30
  split at h<;>try (cases h;done)
  ·rename_i hk;rw[Y5 hk];exact h
  ·rename_i hk
   rw[Y5 hk]
   split at h<;>simp only[p0,reduceCtorEq] at h
   rename_i l hl
   subst h
   simp only[z5j hl,pJ]
theorem zie{ks:List CK}{ka ag ok:Bool}{zs:List AVal}{k x y:AVal}(h:z1x ks ka ag ok zs H.get k x=some y):XOk (Vk ks ka ag ok zs H k x) y:=by
 unfold z1x at h
 split at h
 ·obtain⟨h1,rfl⟩:=Yb h
  simp only[Vk,W7 h1,if_true]
  exact⟨_,rfl,trivial⟩
 ·split at h<;>try (cases h;done)
  rename_i hg
  split at h<;>try (cases h;done)
  rename_i hk
  split at h<;>simp only[p0,reduceCtorEq] at h
  rename_i r hr
  subst h
  simp only[Vk,hg,W7 hk,if_true,z5c hr]
  exact⟨_,rfl,rfl⟩
 ·cases h
theorem zmn{x y:AVal}(h:zcz H.get x=some y):XOk (z8h H x) y:=by
 unfold zcz at h
 split at h
 ·simp only[p0] at h;subst h;exact⟨_,rfl,trivial⟩
 ·split at h<;>simp only[p0,reduceCtorEq] at h
  rename_i hg
  subst h
  simp only[z8h,hg]
  exact⟨_,rfl,trivial⟩
 ·cases h
theorem vt{α γ:Type}{x:Option α}{f:α→Option γ}{o:γ}(h:x.bind f=some o):∃r,x=some r∧f r=some o:=by
 cases x with
 |none=>cases h
 |some r=>exact⟨r,rfl,h⟩
theorem Kc{op:LOp}{v:AVal}(h:z86 e.get H.get op=some v):XOk (xh e H op) v:=by
 cases op<;>simp only[z86,reduceCtorEq] at h<;>simp only[xh]
 case mv x=>obtain⟨h1,h2⟩:=zr h;rw[h1];exact⟨_,rfl,h2⟩
 case pick c a b=>
  split at h<;>try (cases h;done)
  ·rename_i hc
   obtain⟨c1,c2⟩:=zr hc
   obtain⟨a1,a2⟩:=zr h
   rw[c1]
   subst a1;exact XOk.and (XOk.of rfl ⟨fun _=>a2,fun h=>by cases h⟩) c2
  ·rename_i hc
   obtain⟨c1,c2⟩:=zr hc
   obtain⟨a1,a2⟩:=zr h
   rw[c1]
   subst a1;exact XOk.and (XOk.of rfl ⟨fun h=>(by cases h),fun _=>a2⟩) c2
 case build zs parts=>
  obtain⟨ps,h1,h2⟩:=vt h
  obtain⟨p1,p2⟩:=z4n h1
  rw[p1]
  exact(z47 h2).and p2
 case load ag m a=>obtain⟨x,h1,h2⟩:=vt h;obtain⟨p1,p2⟩:=zr h1;rw[p1];exact(We h2).and p2
 case nilck a=>obtain⟨x,h1,h2⟩:=vt h;obtain⟨p1,p2⟩:=zr h1;rw[p1];exact(zfg h2).and p2
 case bin op x y=>obtain⟨a,h1,h2⟩:=vt h;obtain⟨b,h3,h4⟩:=vt h2;obtain⟨p1,p2⟩:=zr h1;obtain⟨q1,q2⟩:=zr h3;rw[p1,q1];exact(zq1 h4).and ⟨p2,q2⟩
 case eq neg k x y=>obtain⟨a,h1,h2⟩:=vt h;obtain⟨b,h3,h4⟩:=vt h2;obtain⟨p1,p2⟩:=zr h1;obtain⟨q1,q2⟩:=zr h3;rw[p1,q1];exact(zpq h4).and ⟨p2,q2⟩
 case un op x=>obtain⟨a,h1,h2⟩:=vt h;obtain⟨p1,p2⟩:=zr h1;rw[p1];exact(zun h2).and p2
 case conv k x=>
  cases k with
  |int k=>
   simp only at h ⊢
   split at h<;>simp only[p0,reduceCtorEq] at h
   rename_i hx
   obtain⟨p1,p2⟩:=zr hx
   subst h
   simp only[p1]
   exact⟨_,rfl,p2⟩
  |same=>
   simp only at h ⊢
   split at h<;>simp only[p0,reduceCtorEq] at h
   rename_i hx
   obtain⟨p1,p2⟩:=zr hx
   subst h
   simp only[p1]
   exact⟨_,rfl,p2⟩
  |s2b vm=>cases h
  |b2s=>cases h
 case mkfn f a c=>
  obtain⟨aq,h1,h2⟩:=vt h
  obtain⟨cs,h3,h4⟩:=vt h2
  obtain⟨p1,p2⟩:=X9 h1
  obtain⟨q1,q2⟩:=X9 h3
  simp only[p0] at h4
  subst h4
  rw[p1,q1]
  exact⟨_,rfl,p2,q2⟩
 case slStr x lo hi=>obtain⟨a,h1,h2⟩:=vt h;obtain⟨p1,p2⟩:=zr h1;obtain⟨q1,q2⟩:=zdg h2;rw[p1];exact q1.and ⟨p2,q2⟩
 case slSl s x lo hi mx=>obtain⟨a,h1,h2⟩:=vt h;obtain⟨p1,p2⟩:=zr h1;obtain⟨q1,q2⟩:=zml h2 (hi.isNone&&mx.isNone);rw[p1];exact q1.and ⟨p2,q2⟩
 case slAr m s x=>obtain⟨a,h1,h2⟩:=vt h;obtain⟨p1,p2⟩:=zr h1;rw[p1];exact(zjw h2).and p2
 case faddr off x=>obtain⟨a,h1,h2⟩:=vt h;obtain⟨p1,p2⟩:=zr h1;rw[p1];exact(zih h2).and p2
 case field ag m off x=>obtain⟨a,h1,h2⟩:=vt h;obtain⟨p1,p2⟩:=zr h1;rw[p1];exact(ze8 h2).and p2
 case iaddr s x i=>obtain⟨a,h1,h2⟩:=vt h;obtain⟨b,h3,h4⟩:=vt h2;obtain⟨p1,p2⟩:=zr h1;obtain⟨q1,q2⟩:=zr h3;rw[p1,q1];exact(z54 h4).and ⟨p2,q2⟩
 case iaddrA m s x i=>obtain⟨a,h1,h2⟩:=vt h;obtain⟨b,h3,h4⟩:=vt h2;obtain⟨p1,p2⟩:=zr h1;obtain⟨q1,q2⟩:=zr h3;rw[p1,q1];exact(zcj h4).and ⟨p2,q2⟩
 case iaddrR m s x i=>obtain⟨a,h1,h2⟩:=vt h;obtain⟨b,h3,h4⟩:=vt h2;obtain⟨p1,p2⟩:=zr h1;obtain⟨q1,q2⟩:=zr h3;rw[p1,q1];exact(zbq h4).and ⟨p2,q2⟩
 case idxS x i=>obtain⟨a,h1,h2⟩:=vt h;obtain⟨b,h3,h4⟩:=vt h2;obtain⟨p1,p2⟩:=zr h1;obtain⟨q1,q2⟩:=zr h3;rw[p1,q1];exact(zle h4).and ⟨p2,q2⟩
 case idxA m s ag x i=>obtain⟨a,h1,h2⟩:=vt h;obtain⟨b,h3,h4⟩:=vt h2;obtain⟨p1,p2⟩:=zr h1;obtain⟨q1,q2⟩:=zr h3;rw[p1,q1];exact(zlk h4).and ⟨p2,q2⟩
 case ext k x=>obtain⟨a,h1,h2⟩:=vt h;obtain⟨p1,p2⟩:=zr h1;rw[p1];exact(zqc h2).and p2
 case len st x=>
  cases st with
  |true=>simp only at h ⊢;obtain⟨a,h1,h2⟩:=vt h;obtain⟨p1,p2⟩:=zr h1;rw[p1];exact(zlu h2).and p2
  |false=>simp only at h ⊢;obtain⟨a,h1,h2⟩:=vt h;obtain⟨p1,p2⟩:=zr h1;rw[p1];exact(z9n h2).and p2
 case mnx m args=>obtain⟨a,h1,h2⟩:=vt h;obtain⟨p1,p2⟩:=X9 h1;rw[p1];exact(zks h2).and p2
 case mlook ks ka ag ok zs x k=>obtain⟨a,h1,h2⟩:=vt h;obtain⟨b,h3,h4⟩:=vt h2;obtain⟨p1,p2⟩:=zr h1;obtain⟨q1,q2⟩:=zr h3;rw[p1,q1];exact(zie h4).and ⟨p2,q2⟩
 case mlen x=>obtain⟨a,h1,h2⟩:=vt h;obtain⟨p1,p2⟩:=zr h1;rw[p1];exact(zmn h2).and p2
end Go.Fx
namespace Go.Fx
variable {P:Program}
section
variable {N:Lay}
theorem z5u{ι:Type}{n0:Nat}(pre:ι→Prop)(env:ι→Env)(L:ι→AHeap)(nn μ:ι→Nat){Q:Exit→Env→AHeap→Nat→Prop}{body:LCode}
 (round:∀x,pre x→LWp P N n0 body (fun ex e H n=>match ex with|.normal=>∃y,pre y∧μ y<μ x∧env y=e∧L y=H∧nn y=n|ex=>Q ex e H n) (env x) (L x) (nn x)) :
 ∀x,pre x→LWp P N n0 (.loop body) Q (env x) (L x) (nn x):=by
 intro x0 hx0 c hc ro hro J0 γ0 G0 w0 I β w a hX hI hE hN hD QQ hQ
 cases c with
 |loop c=>
  simp only[zj,qE] at hc
  obtain⟨b',hb,hc⟩:=hc
  simp only[LCode.loop.injEq] at hc
  subst hc
  let Inside:Nat→Act→World→Prop:=fun m a w=>∃x I β,μ x=m∧pre x∧Ext J0 γ0 n0 G0 w0 I β (nn x) (L x) w∧Inv I β (nn x) (L x) w∧RepEnv I β (nn x) w (env x) a∧a.tmps.size=N.n∧Dfr P w0.heap.size w a.defers
  let mu:Act→World→Nat:=fun a w=>by
   classical
   exact if h:∃m,Inside m a w then Classical.choose (ke _ h) else 0
  have mu_spec:∀a w,(∃m,Inside m a w)→Inside (mu a w) a w∧∀k,k<mu a w→¬Inside k a w:=by
   intro a w h
   have:mu a w=Classical.choose (ke _ h):=by simp only[mu];rw[dif_pos h]
   rw[this]
   exact Classical.choose_spec (ke _ h)
  refine wpIn_loop (fun a w=>∃m,Inside m a w) mu ⟨_,x0,I,β,rfl,hx0,hX,hI,hE,hN,hD⟩ ?_
  intro a w h
  obtain⟨⟨x,I,β,hm,hp,k1,k2,k3,k4,k5⟩,_⟩:=mu_spec a w h
  refine round x hp c hb ro hro J0 γ0 G0 w0 I β w a k1 k2 k3 k4 k5 _ ?_
  intro ex e' H' n' I' β' w' a' g1 g2 g3 g4 g5 g6
  cases ex with
  |normal=>
   obtain⟨y,hy,hlt,rfl,rfl,rfl⟩:=g1
   have hin:Inside (μ y) a' w':=⟨y,_,_,rfl,hy,g6,g2,g3,g4,g5⟩
   refine⟨⟨_,hin⟩,?_⟩
   obtain⟨_,hleast⟩:=mu_spec a' w' ⟨_,hin⟩
   have:¬μ y<mu a' w':=fun h=>hleast _ h hin
   omega
  |_=>exact hQ _ _ _ _ _ _ _ _ g1 g2 g3 g4 g5 g6
 |skip=>cases hc
 |region id ops draw=>simp only[zj] at hc;split at hc<;>(try split at hc)<;>(try split at hc)<;>(try split at hc)<;>(try split at hc)<;>(first|(simp at hc;done)|(rcases wo hc with⟨_,h⟩|⟨_,_,_,h⟩<;>cases h))
 |seq a b=>simp only[zj] at hc;split at hc<;>simp at hc
 |cond c a b=>simp only[zj] at hc;split at hc<;>simp at hc
 |block id c=>simp[zj] at hc
 |exit id=>cases hc
 |ret=>cases hc
 |rangeFunc g ps x y=>simp only[zj] at hc;split at hc<;>simp at hc
 |_=>cases hc
end
def Kd(ag:Bool)(s:Nat):LCode:=
 .seq (.region [⟨some 4,.load false 1 (.t 1),none⟩,⟨some 5,.len false (.t 4),none⟩,⟨some 6,.bin .sub (.t 5) (.c (.int .i64 1)),none⟩,⟨some 3,.mv (.t 6),none⟩])
 (.block 0 (.loop (.seq
  (.seq (.region [⟨some 7,.mv (.t 3),none⟩,⟨some 8,.bin .geq (.t 7) (.c (.int .i64 0)),none⟩]) (.cond (.t 8) .skip (.exit 0)))
  (.seq (.block 1 (.seq (.region [⟨some 11,.mv (.t 0),none⟩,⟨some 12,.mv (.t 3),none⟩,⟨some 13,.load false 1 (.t 1),none⟩,⟨some 14,.mv (.t 3),none⟩,⟨some 15,.iaddr s (.t 13) (.t 14),none⟩,⟨some 16,.load ag s (.t 15),none⟩,⟨some 17,.callv (.t 11) [.t 12,.t 16],none⟩,⟨some 18,.un .not (.t 17),none⟩])
   (.cond (.t 18) .ret .skip)))
   (.region [⟨some 9,.mv (.t 3),none⟩,⟨some 10,.bin .sub (.t 9) (.c (.int .i64 1)),none⟩,⟨some 3,.mv (.t 10),none⟩])))))
def AVal.plain(x:AVal):Prop:=x.strip=x∧x.need
theorem zuk{i:Nat}(h:i≤4611686018427387904):IntKind.i64.wrap ((i:Int)-1)=(i:Int)-1:=K7 (by omega) (by omega)
theorem Jy(k:IntKind)(z:Int):(AVal.int k z).strip=.int k z:=rfl
theorem z3t(b:Id)(i o:Nat):(AVal.ptr b i o).strip=.ptr b i o:=rfl
theorem zm3(f:Fn)(a c:List AVal):(AVal.fn f a c).strip=.fn f a c:=rfl
theorem Z1(b:Bool):(AVal.bool b).strip=.bool b:=rfl
theorem Ka(k:IntKind)(z:Int):(AVal.int k z).need=True:=rfl
theorem z8z(b:Id)(i o:Nat):(AVal.ptr b i o).need=True:=rfl
theorem zrd(f:Fn)(a c:List AVal):(AVal.fn f a c).need=True:=rfl
theorem Zy(b:Bool):(AVal.bool b).need=True:=rfl
theorem zbs{f:FuncId}{bm:List Nat}{L:LFn}(hL:w4 P bm f=some L)(hok:uc P f)(hn:2≤L.lay.n){ag:Bool}{s:Nat}(hb:L.body=Kd ag s)(hr:L.res=[]){l:Nat}{bx:Id}{K:AHeap→Nat→Prop}(G:Nat→AHeap→Nat→Prop)
 (hstep:∀i H n,G (i+1) H n→i<4611686018427387904∧∃sl p el,sl.plain∧p.plain∧el.plain∧XOk (Vx false 1 H (.ptr bx 0 0)) sl∧XOk (Ub s sl.rd (.int .i64 (i:Int))) p∧XOk (Vx ag s H p) el ∧
  ACalls P (.yield l) [.int .i64 (i:Int),el] H n (fun v H' n'=>(v=.bool true∧G i H' n')∨(v=.bool false∧K H' n')))
 (hend:∀H n,G 0 H n→K H n) {len:Nat} {H:AHeap} {n:Nat} (hG:G len H n) (hlen:len≤4611686018427387904) {sl:AVal} (h1:sl.plain) (h2:XOk (Vx false 1 H (.ptr bx 0 0)) sl) (h3:XOk (z6y sl.rd) (.int .i64 (len:Int))) :
 ACalls P (.func f) [.fn (.yield l) [] [],.ptr bx 0 0] H n (fun _ H' n'=>K H' n'):=by
 refine ACalls.ofFnW hL hok (by simpa using hn) ?_
 rw[hb,hr]
 unfold Kd
 refine Yn (y9 (.region _) _ _ _ _ ?_)
 obtain⟨s1,e1,d1⟩:=h2
 obtain⟨s2,e2,d2⟩:=h3
 have h1a:=h1.1
 have h1b:=h1.2
 simp[X3,Jm,xy,xh,LOpd.ev,LOpd.need,Env.get,Env.put,yi,Jy,z3t,Ka,z8z,e1,XR.and,h1a,h1b,e2,zi8,d1,d2]
 rw[zuk hlen]
 refine Y0 ?_
 refine z5u (ι:=Nat×Env×AHeap×Nat) (fun y=>y.1≤4611686018427387904∧G y.1 y.2.2.1 y.2.2.2∧y.2.1.get 3=.int .i64 ((y.1:Int)-1)∧y.2.1.get 0=.fn (.yield l) [] []∧y.2.1.get 1=.ptr bx 0 0) (fun y=>y.2.1) (fun y=>y.2.2.1) (fun y=>y.2.2.2) (fun y=>y.1) ?_ (len,_,H,n) ⟨hlen,hG,by simp[Env.get],by simp[Env.get],by simp[Env.get]⟩
 rintro⟨i,e,H,n⟩ ⟨hi,hG,q3,q0,q1⟩
 simp only at hi hG q3 q0 q1 ⊢
 refine Yn (Yn (y9 (.region _) _ _ _ _ ?_))
 simp[X3,Jm,xy,xh,LOpd.ev,LOpd.need,Env.get,Env.put,Jy,Ka,XR.and,zi8,q3]
 cases i with
 |zero=>
  refine Zo (v:=false) (by simp[LOpd.ev,Env.get,Z1]) (by simp[LOpd.need,Env.get,Zy]) (fun h=>by cases h) (fun _=>y9 (.exit 0) _ _ _ _ ?_)
  simp only[Jm,if_true]
  exact hend _ _ hG
 |succ i=>
  obtain⟨hi2,sl,p,el,hsl,hp,hel,⟨t1,k1,c1⟩,⟨t2,k2,c2⟩,⟨t3,k3,c3⟩,hcall⟩:=hstep _ _ _ hG
  refine Zo (v:=true) (by simp[LOpd.ev,Env.get,Z1];omega) (by simp[LOpd.need,Env.get,Zy]) (fun _=>y9 .skip _ _ _ _ ?_) (fun h=>by cases h)
  simp only[Jm]
  have a1:=hsl.1
  have a2:=hsl.2
  have a3:=hp.1
  have a4:=hp.2
  have a5:=hel.1
  have a6:=hel.2
  have hcast:((i+1:Nat):Int)-1=(i:Int):=by omega
  rw[hcast] at q3 ⊢
  refine Yn (Y0 (Yn (y9 (.region _) _ _ _ _ ?_)))
  simp[X3,Jm,xy,xh,wh,evs,Q3,LOpd.ev,LOpd.need,Env.get,Env.put,Jy,Ka,z3t,z8z,zm3,zrd,XR.and,q3,q0,q1,k1,c1,k2,c2,k3,c3,a1,a2,a3,a4,a5,a6]
  refine ACallsC.mono (f:=.yield l) (first:=[]) (caps:=[]) ⟨rfl,by simpa using hcall⟩ ?_
  rintro v H' n' (⟨rfl,hG'⟩|⟨rfl,hK⟩)
  ·simp[Z1,Zy,xun]
   refine Zo (v:=false) (by simp[LOpd.ev,Env.get,Z1]) (by simp[LOpd.need,Env.get,Zy]) (fun h=>by cases h) (fun _=>y9 .skip _ _ _ _ ?_)
   simp only[Jm]
   refine y9 (.region _) _ _ _ _ ?_
   simp[X3,Jm,xy,xh,LOpd.ev,LOpd.need,Env.get,Env.put,Jy,Ka,XR.and,zi8,q3]
   exact⟨i,_,_,_,⟨by omega,hG',by simp[Env.get];exact zuk (by omega),by simp[Env.get,q0],by simp[Env.get,q1]⟩,by omega,rfl,rfl,rfl⟩
  ·simp[Z1,Zy,xun]
   refine Zo (v:=true) (by simp[LOpd.ev,Env.get,Z1]) (by simp[LOpd.need,Env.get,Zy]) (fun _=>y9 .ret _ _ _ _ ?_) (fun h=>by cases h)
   simp only[Jm]
   exact hK
end Go.Fx
namespace Go.Fx
variable {D:Id→Option ABlock} {P:Program} {H:AHeap} {n:Nat} {S S':Sh} {e:Env}
abbrev KS(D:Id→Option ABlock)(v:AVal)(S':Sh):AVal→AHeap→Nat→Prop:=fun r H' n'=>r=v∧StR D H' n' S'
def Xx(P:Program)(C:Nat→List AVal→Sh→Rs):Prop:=
 ∀ (f:Nat) aq S r S',C f aq S=some (r,S')→∀ {D:Id→Option ABlock} H n,StR D H n S→ACalls P (.func f) aq H n (KS D r S')
theorem jn{v r:AVal}{o:Option Sh}(h:Zh v o=some (r,S')):r=v∧o=some S':=by
 cases o with
 |none=>cases h
 |some S0=>
  simp only[Zh,p0,pD] at h
  exact⟨h.1.symm,by rw[h.2]⟩
theorem StR.le(hs:StR D H n S):HLe S.t.at H.get:=hs.h
theorem V5{s:Nat}{x:AVal}{rows:List (List AVal)}(h:Q9 H.get s x=some rows):∃p,ui H s x=some (p,rows)∧p:=by
 unfold Q9 at h
 split at h
 ·split at h<;>simp only[p0,reduceCtorEq] at h
  rename_i hb
  subst h
  exact⟨_,rfl,zq.1 hb⟩
 ·split at h<;>simp only[p0,reduceCtorEq] at h
  rename_i hb
  subst h
  exact⟨_,rfl,zq.1 hb⟩
 ·split at h<;>try (cases h;done)
  rename_i hg
  split at h<;>simp only[p0,reduceCtorEq] at h
  rename_i hb
  subst h
  simp only[p9,zq,xp,and_assoc] at hb
  simp only[ui,hg]
  exact⟨_,rfl,hb⟩
 ·simp only[p0] at h
  subst h
  exact⟨_,rfl,trivial⟩
 ·split at h<;>simp only[p0,reduceCtorEq] at h
  rename_i hb
  subst h
  exact⟨_,rfl,zq.1 hb⟩
 ·cases h
theorem Wn:∀ {ps:List (Nat×AVal)} {rows rs:List (List AVal)},Wp rows ps=some rs→∃p,X8 rows ps=some (p,rs)∧p
 |[],rows,rs,h=>by simp only[Wp,p0] at h;subst h;exact⟨_,rfl,trivial⟩
 |(i,x)::r,rows,rs,h=>by
  unfold Wp at h
  split at h<;>try (cases h;done)
  rename_i cs hc
  split at h<;>try (cases h;done)
  rename_i hb
  simp only[p9,zq,xp] at hb
  obtain⟨p,h1,h2⟩:=Wn h
  simp only[X8,hc,h1]
  exact⟨_,rfl,hb.1,hb.2,h2⟩
theorem z8s:∀ {ps:List (Nat×LOpd)} {l:List (Nat×AVal)},zs3 e.get ps=some l→evI e ps=l∧Wy e ps
 |[],l,h=>by simp only[zs3,p0] at h;exact⟨h,trivial⟩
 |(i,x)::r,l,h=>by
  unfold zs3 at h
  split at h<;>try (cases h;done)
  rename_i a ha
  split at h<;>simp only[p0,reduceCtorEq] at h
  rename_i l' hl
  obtain⟨h1,h2⟩:=zr ha
  obtain⟨h3,h4⟩:=z8s hl
  exact⟨by unfold evI;rw[h1,h3];exact h,h2,h4⟩
theorem z1q:∀ {rows:List (List AVal)},z39 rows=true→∀r∈rows,∃m,r=[.int .u8 m]
 |[],_,r,hr=>by cases hr
 |x::rows,h,r,hr=>by
  unfold z39 at h
  split at h
  ·cases ‹_::_=[]›
  ·rename_i k m r' heq
   simp only[List.cons.injEq] at heq
   obtain⟨rfl,rfl⟩:=heq
   simp only[p9,Yd] at h
   obtain⟨rfl,h2⟩:=h
   cases hr with
   |head=>exact⟨m,rfl⟩
   |tail _ hr=>exact z1q h2 r hr
  ·cases h
theorem zpx{s bytes:Nat}{x v:AVal}{rows2:List (List AVal)}(hs:StR D H n S)(h:zwf s bytes S x rows2=some (v,S')):zjn s bytes H n (KS D v S') x rows2:=by
 unfold zwf at h
 unfold zjn
 split at h
 ·simp only
  split at h
  ·simp only[p0,pD] at h
   obtain⟨rfl,rfl⟩:=h
   exact⟨fun _=>⟨rfl,hs⟩,fun hne=>absurd rfl hne⟩
  ·rename_i hne
   split at h<;>try (cases h;done)
   rename_i hb
   obtain⟨rfl,hw⟩:=jn h
   refine⟨fun he=>absurd he hne,fun _=>⟨xp.1 hb,by rw[hs.n],hs.new hw⟩⟩
 ·simp only
  split at h<;>try (cases h;done)
  rename_i he
  refine⟨zq.1 he,?_⟩
  split at h
  ·simp only[p0,pD] at h
   obtain⟨rfl,rfl⟩:=h
   exact⟨fun _=>⟨rfl,hs⟩,fun hne=>absurd rfl hne⟩
  ·rename_i hne
   split at h<;>try (cases h;done)
   rename_i hb
   simp only[p9,xp] at hb
   obtain⟨rfl,hw⟩:=jn h
   exact⟨fun he=>absurd he hne,fun _=>⟨hb.1,hb.2,by rw[hs.n],hs.new hw⟩⟩
 ·simp only
  split at h<;>try (cases h;done)
  rename_i hg
  rw[hs.h _ _ hg]
  simp only
  split at h<;>try (cases h;done)
  rename_i hb
  simp only[p9,zq,xp,and_assoc] at hb
  obtain⟨b1,b2,b3,b4⟩:=hb
  refine⟨b1,b2,b3,?_⟩
  split at h
  ·simp only[p0,pD] at h
   obtain⟨rfl,rfl⟩:=h
   exact⟨fun _ _=>⟨rfl,hs⟩,fun hne=>absurd rfl (hne rfl)⟩
  ·rename_i hne
   obtain⟨rfl,hw⟩:=jn h
   refine⟨fun _ he=>absurd he hne,fun _=>⟨b4,by rw[hs.n],?_⟩⟩
   rw[if_pos rfl]
   exact hs.new hw
  ·split at h<;>try (cases h;done)
   rename_i S1 hc
   obtain⟨rfl,hw⟩:=jn h
   have h1:=hs.cut hg hc
   refine⟨fun he=>(by cases he),fun _=>⟨b4,by rw[h1.n],?_⟩⟩
   rw[if_neg (by simp)]
   exact h1.new hw
 ·cases h
theorem zdt{C:Nat→List AVal→Sh→Rs}(hC:Xx P C){op:LOp}{v:AVal}(hs:StR D H n S)(h:zvv C e.get S op=some (v,S')):wh P e H n (KS D v S') op:=by
 have hn:=hs.n
 unfold zvv at h
 split at h
 ·obtain⟨rfl,hw⟩:=jn h;exact⟨by rw[hn],hs.new hw⟩
 ·obtain⟨rfl,hw⟩:=jn h;exact⟨by rw[hn],hs.new hw⟩
 ·obtain⟨rfl,hw⟩:=jn h;rw[←hn] at hw;exact⟨by rw[hn],hs.new2 hw⟩
 ·split at h<;>try (cases h;done)
  rename_i a ha
  split at h<;>try (cases h;done)
  rename_i cs hc
  obtain⟨h1,h2⟩:=zr ha
  obtain⟨rfl,hw⟩:=jn h
  simp only[wh,h1,hc]
  exact⟨h2,by rw[hn],hs.new hw⟩
 ·split at h<;>try (cases h;done)
  rename_i ps hps
  split at h<;>try (cases h;done)
  rename_i rows hr
  split at h<;>try (cases h;done)
  rename_i hz
  obtain⟨rfl,hw⟩:=jn h
  obtain⟨h1,h2⟩:=z8s hps
  obtain⟨p,h3,h4⟩:=Wn hr
  simp only[wh,h1,h3]
  exact⟨zq.1 hz,h2,h4,_,.inr rfl,by rw[hn],hs.new hw⟩
 ·split at h<;>try (cases h;done)
  rename_i ps hps
  split at h<;>try (cases h;done)
  rename_i rows hr
  split at h<;>try (cases h;done)
  rename_i rows' him
  split at h<;>try (cases h;done)
  rename_i hz
  simp only[p0,pD] at h
  obtain⟨rfl,rfl⟩:=h
  obtain⟨h1,h2⟩:=z8s hps
  obtain⟨p,h3,h4⟩:=Wn hr
  simp only[wh,h1,h3,him]
  exact⟨zq.1 hz,h2,h4,rfl,hs⟩
 ·split at h<;>try (cases h;done)
  rename_i b i off ha
  split at h<;>try (cases h;done)
  rename_i y hy
  split at h<;>try (cases h;done)
  rename_i cs hc
  obtain⟨h1,h2⟩:=zr ha
  obtain⟨h3,h4⟩:=zr hy
  simp only[wh,h1,h3,hc]
  split at h<;>try (cases h;done)
  ·rename_i hg
   split at h<;>try (cases h;done)
   rename_i hb
   simp only[p9,zq,xp,and_assoc] at hb
   obtain⟨rfl,hw⟩:=jn h
   have hg':=hs.h _ _ hg
   simp only[hg']
   exact⟨h2,h4,hb.1,hb.2.1,hb.2.2,rfl,hs.upd hg hw⟩
  ·rename_i hg
   split at h<;>try (cases h;done)
   rename_i hb
   simp only[p9,zq,xp,and_assoc] at hb
   obtain⟨rfl,hw⟩:=jn h
   have hg':=hs.h _ _ hg
   simp only[hg']
   exact⟨h2,h4,hb.1,hb.2.1,hb.2.2,rfl,hs.upd hg hw⟩
 ·split at h<;>try (cases h;done)
  rename_i l ha
  obtain⟨h1,h2⟩:=zr ha
  obtain⟨rfl,hw⟩:=jn h
  simp only[wh,h1]
  exact⟨h2,by rw[hn],hs.new hw⟩
 ·split at h<;>try (cases h;done)
  rename_i a ha hne
  split at h<;>try (cases h;done)
  rename_i rows hr
  replace hr:=Q7 hs.le hr
  split at h<;>simp only[p0,pD,reduceCtorEq] at h
  rename_i hb
  obtain⟨rfl,rfl⟩:=h
  obtain⟨h1,h2⟩:=zr hne
  obtain⟨p,h3,h4⟩:=V5 hr
  simp only[wh,h1,h3]
  refine⟨h2,fun l hl=>?_,h4,z1q hb,rfl,hs⟩
  subst hl
  exact ha l rfl
 ·split at h<;>try (cases h;done)
  rename_i l' c' hl hc
  split at h<;>try (cases h;done)
  rename_i hb
  simp only[p9,kh,and_assoc] at hb
  obtain⟨h1,h2⟩:=zr hl
  obtain⟨h3,h4⟩:=zr hc
  obtain⟨rfl,hw⟩:=jn h
  simp only[wh,h1,h3]
  exact⟨h2,h4,hb.1,hb.2.1,hb.2.2,_,.inr rfl,by rw[hn],hs.new hw⟩
 ·split at h<;>try (cases h;done)
  rename_i aq ha
  obtain⟨h1,h2⟩:=X9 ha
  simp only[wh,h1]
  exact⟨h2,hC _ _ _ _ _ h H n hs⟩
 ·split at h<;>try (cases h;done)
  rename_i f first caps hx
  split at h<;>try (cases h;done)
  rename_i aq ha
  obtain⟨h1,h2⟩:=zr hx
  obtain⟨h3,h4⟩:=X9 ha
  simp only[wh,h1,h3]
  exact⟨h2,h4,hC _ _ _ _ _ h H n hs⟩
 ·split at h<;>try (cases h;done)
  rename_i b hb
  split at h<;>try (cases h;done)
  rename_i rows2 hr
  replace hr:=Q7 hs.le hr
  split at h<;>try (cases h;done)
  rename_i a ha
  obtain⟨h1,h2⟩:=zr hb
  obtain⟨h3,h4⟩:=zr ha
  obtain⟨p,h5,h6⟩:=V5 hr
  simp only[wh,h1,h3,h5]
  exact⟨h4,h2,h6,zpx hs h⟩
 ·split at h<;>try (cases h;done)
  rename_i b s' off len f hx
  split at h<;>try (cases h;done)
  rename_i y hy
  split at h<;>try (cases h;done)
  rename_i rows2 hr
  split at h<;>try (cases h;done)
  rename_i s'' es hg
  split at h<;>try (cases h;done)
  rename_i hb
  replace hr:=Q7 hs.le hr
  simp only[p9,zq,xp,and_assoc] at hb
  obtain⟨h1,h2⟩:=zr hx
  obtain⟨h3,h4⟩:=zr hy
  obtain⟨p,h5,h6⟩:=V5 hr
  obtain⟨rfl,hw⟩:=jn h
  have hg':=hs.h _ _ hg
  simp only[wh,h1,h3,h5,hg']
  exact⟨h2,h4,h6,hb.1,hb.2.1,hb.2.2,rfl,hs.upd hg hw⟩
 ·obtain⟨rfl,hw⟩:=jn h;exact⟨by rw[hn],hs.new hw⟩
 ·split at h<;>try (cases h;done)
  rename_i b hm
  split at h<;>try (cases h;done)
  rename_i x hx
  split at h<;>try (cases h;done)
  rename_i y hy
  split at h<;>try (cases h;done)
  rename_i es hg
  split at h<;>try (cases h;done)
  rename_i k hk
  split at h<;>try (cases h;done)
  rename_i es' he
  split at h<;>try (cases h;done)
  rename_i ho
  obtain⟨h1,h2⟩:=zr hm
  obtain⟨h3,h4⟩:=zr hx
  obtain⟨h5,h6⟩:=zr hk
  obtain⟨rfl,hw⟩:=jn h
  have hg':=hs.h _ _ hg
  simp only[wh,h1,h3,hy,h5,hg',zb7 he]
  exact⟨h2,h6,h4,W7 ho,rfl,hs.upd hg hw⟩
 ·split at h<;>try (cases h;done)
  rename_i b hm
  split at h<;>try (cases h;done)
  rename_i es hg
  split at h<;>try (cases h;done)
  rename_i k hk
  split at h<;>try (cases h;done)
  rename_i es' he
  split at h<;>try (cases h;done)
  rename_i ho
  obtain⟨h1,h2⟩:=zr hm
  obtain⟨h5,h6⟩:=zr hk
  obtain⟨rfl,hw⟩:=jn h
  have hg':=hs.h _ _ hg
  simp only[wh,h1,h5,hg',z5j he]
  exact⟨h2,h6,W7 ho,rfl,hs.upd hg hw⟩
 ·cases h
theorem z60{lo:LOper}{v:AVal}(h:Xr e.get H.get lo=some v):(Yh e H lo).gives v:=by
 unfold Xr at h
 unfold Yh
 cases hg:lo.guard with
 |none=>
  rw[hg] at h
  obtain⟨s,h1,h2⟩:=Kc h
  simp only[h1]
  exact⟨h2,.inl rfl⟩
 |some g=>
  obtain⟨q,want⟩:=g
  rw[hg] at h
  simp only[z6a] at h ⊢
  split at h
  ·rename_i hp
   simp only[hp]
   split at h<;>simp only[p0,reduceCtorEq] at h
   rename_i u hu
   subst h
   obtain⟨s,h1,h2⟩:=Kc hu
   rw[h1]
   exact⟨fun _=>h2,.inl rfl⟩
  ·rename_i hp
   simp only[hp]
   simp only[p0] at h
   subst h
   cases xh e H lo.op with
   |ok s u=>exact⟨fun h=>(by cases h),.inr (.inl ⟨.inr ⟨_,rfl⟩,.inl rfl⟩)⟩
   |bad=>exact⟨trivial,.inl rfl⟩
  ·cases h
theorem z9b{C:Nat→List AVal→Sh→Rs}(hC:Xx P C){lo:LOper}{v:AVal}(hs:StR D H n S)(h:zkd C e.get S lo=some (v,S')):Vv P e H n (KS D v S') lo:=by
 unfold zkd at h
 unfold Vv
 cases hg:lo.guard with
 |none=>
  rw[hg] at h
  exact zdt hC hs h
 |some g=>
  obtain⟨q,want⟩:=g
  rw[hg] at h
  simp only[z6a] at h ⊢
  split at h
  ·rename_i hp
   simp only[hp]
   exact .inr ⟨fun _=>zdt hC hs h,fun h=>by cases h⟩
  ·rename_i hp
   simp only[hp]
   simp only[p0,pD] at h
   obtain⟨rfl,rfl⟩:=h
   exact .inr ⟨fun h=>(by cases h),fun _=>⟨_,.inl rfl,rfl,hs⟩⟩
  ·cases h
def EnR(e:Env)(E:Ev):Prop:=∀t,e.get t=E.g t
theorem EnR.get{E:Ev}(h:EnR e E):E.g=e.get:=funext fun t=>(h t).symm
theorem EnR.put{E E':Ev}{d:Option Nat}{v:AVal}(h:EnR e E)(hp:E.p d v=some E'):EnR (e.put d v) E':=by
 cases d with
 |none=>simp only[Ev.p,p0] at hp;subst hp;exact h
 |some d=>
  simp only[Ev.p] at hp
  have hg:=Tr.put_get _ _ _ _ _ hp
  intro t
  unfold Ev.g
  rw[hg]
  by_cases hd:t=d
  ·subst hd;rw[if_pos rfl,Env.get_put_same]
  ·rw[if_neg hd,Env.get_put_other _ _ (fun he=>hd he.symm)];exact h t
theorem z72{lo:LOper}{v:AVal}(h:Xr e.get H.get lo=some v):∀ {K:Env→Prop},K (e.put lo.dst v) →
 match lo.guard with
 |none=>(match xh e H lo.op with|.ok side u=>side∧K (e.put lo.dst u)|.bad=>False)
 |some (g,want)=>match kc (e.get g) want with
  |some p=>(match xh e H lo.op with
   |.ok side v=>(∃u,(p=true→side∧v=u)∧K (e.put lo.dst (.cnd p u)))∨(p=false∧K (e.put lo.dst (.tup [])))
   |.bad=>p=false∧K (e.put lo.dst (.tup [])))
  |none=>False:=by
 intro K hK
 unfold Xr at h
 cases hg:lo.guard with
 |none=>
  rw[hg] at h
  obtain⟨s,h1,h2⟩:=Kc h
  simp only[h1]
  exact⟨h2,hK⟩
 |some g=>
  obtain⟨q,want⟩:=g
  rw[hg] at h
  simp only[z6a] at h ⊢
  split at h
  ·rename_i hp
   simp only[hp]
   split at h<;>simp only[p0,reduceCtorEq] at h
   rename_i u hu
   subst h
   obtain⟨s,h1,h2⟩:=Kc hu
   simp only[h1]
   exact .inl ⟨_,fun _=>⟨h2,rfl⟩,hK⟩
  ·rename_i hp
   simp only[hp]
   simp only[p0] at h
   subst h
   cases xh e H lo.op with
   |ok s u=>exact .inr ⟨trivial,hK⟩
   |bad=>exact⟨trivial,hK⟩
  ·cases h
theorem Vo{p:Bool}{H:AHeap}{n:Nat}{E:(AVal→AHeap→Nat→Prop)→Prop}{K K':AVal→AHeap→Nat→Prop}(hE:∀ {K K'},E K→(∀r H n,K r H n→K' r H n)→E K')(h:Vf p H n E K)(hk:∀r H n,K r H n→K' r H n):Vf p H n E K':=by
 rcases h with⟨R,h1,h2⟩|⟨h1,h2⟩
 ·exact .inl ⟨R,h1,hk _ _ _ h2⟩
 ·exact .inr ⟨fun h=>hE (h1 h) hk,fun h=>by obtain⟨u,a,b⟩:=h2 h;exact⟨u,a,hk _ _ _ b⟩⟩
theorem z2g{C:Nat→List AVal→Sh→Rs}(hC:Xx P C){Q:Env→AHeap→Nat→Prop}{E':Ev}{S':Sh}(hQ:∀e H n,EnR e E'→StR D H n S'→Q e H n):∀ {os:List LOper} {E:Ev} {S:Sh} {e:Env} {H:AHeap} {n:Nat},zqw C os E S=some (E',S')→EnR e E→StR D H n S→X3 P os Q e H n
 |[],E,S,e,H,n,h,hE,hs=>by
  simp only[zqw,p0,pD] at h
  obtain⟨rfl,rfl⟩:=h
  exact hQ _ _ _ hE hs
 |lo::os,E,S,e,H,n,h,hE,hs=>by
  unfold zqw at h
  split at h
  ·rename_i hp
   split at h<;>try (cases h;done)
   rename_i v hv
   split at h<;>try (cases h;done)
   rename_i E1 hE1
   rw[hE.get] at hv
   replace hv:=J7 hs.le hv
   have ih:=z2g hC hQ h (hE.put hE1) hs
   have:=z72 (K:=fun e=>X3 P os Q e H n) hv ih
   obtain⟨d,op,g⟩:=lo
   cases g with
   |none=>simp only[X3,hp];exact this
   |some g=>
    obtain⟨g,want⟩:=g
    simp only[X3]
    simp only at this
    cases hgp:kc (e.get g) want with
    |none=>rw[hgp] at this;exact this
    |some p=>
     rw[hgp] at this
     simp only[hp]
     exact this
  ·rename_i hp
   split at h<;>try (cases h;done)
   rename_i v S1 hv
   split at h<;>try (cases h;done)
   rename_i E1 hE1
   rw[hE.get] at hv
   have heff:=z9b hC hs hv
   have key:∀r H' n',KS D v S1 r H' n'→X3 P os Q (e.put lo.dst r) H' n':=by
    rintro r H' n' ⟨rfl,hs'⟩
    exact z2g hC hQ h (hE.put hE1) hs'
   obtain⟨d,op,g⟩:=lo
   cases g with
   |none=>simp only[X3,hp];exact Zz key heff
   |some g=>
    obtain⟨g,want⟩:=g
    simp only[X3]
    unfold Vv at heff
    simp only at heff
    cases hgp:kc (e.get g) want with
    |none=>rw[hgp] at heff;exact heff
    |some p=>
     rw[hgp] at heff
     simp only[hp]
     exact Vo (fun h hk=>Zz hk h) heff key
mutual
theorem z7g(x y:AVal)(h:zti x y=true):x=y:=by
 unfold zti at h
 split at h
 ·simp only[beq_iff_eq] at h;rw[h]
 ·simp only[p9,Yd,decide_eq_true_eq] at h;rw[h.1,h.2]
 ·simp only[beq_iff_eq] at h;rw[h]
 ·simp only[p9,zq] at h
  obtain⟨⟨⟨h1,h2⟩,rfl⟩,rfl⟩:=h
  congr 1
  exact Prod.ext h1 h2
 ·simp only[p9,zq,beq_iff_eq] at h
  obtain⟨⟨⟨⟨⟨h1,h2⟩,rfl⟩,rfl⟩,rfl⟩,rfl⟩:=h
  congr 1
  exact Prod.ext h1 h2
 ·simp only[p9,zq] at h
  congr 1
  exact Prod.ext h.1 h.2
 ·rw[Ki _ _ h]
 ·rw[Ki _ _ h]
 ·rfl
 ·rfl
 ·rfl
 ·rfl
 ·simp only[p9,beq_iff_eq] at h
  rw[h.1,z7g _ _ h.2]
 ·simp only[p9,zq,beq_iff_eq] at h
  rw[h.1.1,h.1.2,z4h _ _ h.2]
 ·cases h
termination_by SizeOf.sizeOf x
theorem Ki(xs ys:List AVal)(h:zd7 xs ys=true):xs=ys:=by
 unfold zd7 at h
 split at h
 ·rfl
 ·simp only[p9] at h
  rw[z7g _ _ h.1,Ki _ _ h.2]
 ·cases h
termination_by SizeOf.sizeOf xs
theorem z4h(xs ys:List (List AVal))(h:z97 xs ys=true):xs=ys:=by
 unfold z97 at h
 split at h
 ·rfl
 ·simp only[p9] at h
  rw[Ki _ _ h.1,z4h _ _ h.2]
 ·cases h
termination_by SizeOf.sizeOf xs
end
theorem zla{lo:LOper}{E:Ev}(h:EnR e E):lo.bsees E=lo.sees e:=by
 unfold LOper.bsees LOper.sees
 apply List.map_congr_left
 intro t _
 rw[h t]
theorem z6h{loose:List Nat}:∀ {done:List (Nat×LOper×Env×AVal)},Ur H.get loose done=true→∀x∈done,x.1∈loose→(Yh x.2.2.1 H x.2.1).gives x.2.2.2
 |[],_,x,hx,_=>by cases hx
 |(p,lo,e,v)::r,h,x,hx,hl=>by
  unfold Ur at h
  simp only[p9] at h
  cases hx with
  |tail _ hx=>exact z6h h.2 x hx hl
  |head=>
   have h1:=h.1
   rw[List.contains_iff_mem.2 hl] at h1
   simp only at h1
   split at h1<;>try (cases h1;done)
   rename_i u hu
   have:=z60 hu
   rw[z7g _ _ h1] at this
   exact this
theorem zj9{lo:LOper}{K K':AVal→AHeap→Nat→Prop}(h:Vv P e H n K lo)(hk:∀r H n,K r H n→K' r H n):Vv P e H n K' lo:=by
 unfold Vv at h ⊢
 cases hg:lo.guard with
 |none=>rw[hg] at h;exact Zz hk h
 |some g=>
  obtain⟨q,want⟩:=g
  rw[hg] at h
  simp only at h ⊢
  cases hp:kc (e.get q) want with
  |none=>rw[hp] at h;exact h.elim
  |some p=>
   rw[hp] at h
   exact Vo (fun h hk=>Zz hk h) h hk
theorem K8{C:Nat→List AVal→Sh→Rs}(hC:Xx P C){Q:Env→AHeap→Nat→Prop}{E':Ev}{S':Sh}(hQ:∀e H n,EnR e E'→StR D H n S'→Q e H n):∀ {items:List DItem} {p:Nat} {done:List (Nat×LOper×Env×AVal)} {E:Ev} {S:Sh} {e:Env} {H:AHeap} {n:Nat},z8d C items p done E S=some (E',S')→EnR e E→StR D H n S→xd P items p done Q e H n
 |[],p,done,E,S,e,H,n,h,hE,hs=>by
  simp only[z8d,p0,pD] at h
  obtain⟨rfl,rfl⟩:=h
  exact hQ _ _ _ hE hs
 |it::rest,p,done,E,S,e,H,n,h,hE,hs=>by
  unfold z8d at h
  unfold xd
  rw[zla hE] at h
  split at h
  ·rename_i hp
   simp only[hp]
   split at h<;>try (cases h;done)
   rename_i v hv
   split at h<;>try (cases h;done)
   rename_i E1 hE1
   replace hv:=J7 hs.le hv
   exact⟨v,z60 hv,K8 hC hQ h (hE.put hE1) hs⟩
  ·rename_i hp
   simp only[hp]
   split at h<;>try (cases h;done)
   rename_i v S1 hv
   split at h<;>try (cases h;done)
   rename_i hl
   split at h<;>try (cases h;done)
   rename_i E1 hE1
   refine zj9 (z9b hC hs hv) ?_
   rintro r H' n' ⟨rfl,hs'⟩
   replace hl:=z07 hs'.le hl
   exact⟨z6h hl,K8 hC hQ h (hE.put hE1) hs'⟩
theorem Ja{Q:Env→AHeap→Nat→Prop}:∀ {os:List LOper} {e:Env} {H:AHeap} {n:Nat},(∀lo∈os,xy lo.op=true)→X3 P os Q e H n→xqs os Q e H n
 |[],e,H,n,_,h=>h
 |⟨d,op,none⟩::os,e,H,n,hp,h=>by
  have h0:xy op=true:=hp _ (pW ..)
  simp only[X3,h0] at h
  simp only[xqs]
  split at h<;>try (exact h.elim)
  exact⟨h.1,Ja (fun lo hl=>hp lo (pS _ hl)) h.2⟩
 |⟨d,op,some (g,want)⟩::os,e,H,n,hp,h=>by
  have h0:xy op=true:=hp _ (pW ..)
  simp only[X3,h0] at h
  simp only[xqs]
  split at h<;>try (exact h.elim)
  have ih:∀ {e},X3 P os Q e H n→xqs os Q e H n:=fun h=>Ja (fun lo hl=>hp lo (pS _ hl)) h
  split at h
  ·rcases h with⟨u,h1,h2⟩|⟨h1,h2⟩
   ·exact .inl ⟨u,h1,ih h2⟩
   ·exact .inr ⟨h1,ih h2⟩
  ·exact⟨h.1,ih h.2⟩
abbrev KX(D:Id→Option ABlock)(x:Exit×Ev×Sh):Exit→Env→AHeap→Nat→Prop:=fun ex e H n=>ex=x.1∧EnR e x.2.1∧StR D H n x.2.2
def Ya(P:Program)(n:Nat):LCode→Prop
 |.seq a b=>Ya P n a∧Ya P n b
 |.cond _ a b=>Ya P n a∧Ya P n b
 |.block _ c=>Ya P n c
 |.loop c=>Ya P n c
 |.rng _ ps a b=>(ps.all fun p=>Nat.blt p n)=true∧Ya P n a∧Ya P n b
 |.dfr f _=>z88 P f
 |_=>True
def Zt(l:List Nat)(n:Nat):LCode→Bool
 |.seq a b=>Zt l n a&&Zt l n b
 |.cond _ a b=>Zt l n a&&Zt l n b
 |.block _ c=>Zt l n c
 |.loop c=>Zt l n c
 |.rng _ ps a b=>(ps.all fun p=>Nat.blt p n)&&(Zt l n a&&Zt l n b)
 |.dfr f _=>l.any fun i=>pA i f
 |_=>true
theorem ku{P:Program}{l:List Nat}{n:Nat}(hl:∀f∈l,z88 P f):∀ {c:LCode},Zt l n c=true→Ya P n c
 |.skip,_|.region _,_|.quiet _,_|.draw _,_|.draw2 _ _ _,_|.exit _,_|.ret,_=>trivial
 |.seq a b,h=>by
  simp only[Zt,p9] at h
  exact⟨ku hl h.1,ku hl h.2⟩
 |.cond _ a b,h=>by
  simp only[Zt,p9] at h
  exact⟨ku hl h.1,ku hl h.2⟩
 |.rng _ ps a b,h=>by
  simp only[Zt,p9] at h
  exact⟨h.1,ku hl h.2.1,ku hl h.2.2⟩
 |.block _ c,h=>ku (c:=c) hl h
 |.loop c,h=>ku (c:=c) hl h
 |.dfr f _,h=>by
  simp only[Zt,List.any_eq_true] at h
  obtain⟨i,h1,h2⟩:=h
  exact hl f (pH h2▸h1)
def zb4(P:Program)(L:LCode→Ev→Sh→Cs):Prop:=
 ∀c E S x,L c E S=some x→∀ {D:Id→Option ABlock} (N:Lay) (n0:Nat) e H n,Ya P N.n c→EnR e E→StR D H n S→LWp P N n0 (.loop c) (KX D x) e H n
def z4m(P:Program)(B:Nat→Option (Bool×Nat)):Prop:=
 ∀f ag s,B f=some (ag,s)→∃bm fn,w4 P bm f=some fn∧uc P f∧2≤fn.lay.n∧fn.body=Kd ag s∧fn.res=[]
def Xt(e:Env):Env:=e.map fun x=>(x.1,e.get x.1)
theorem zd6(e:Env)(t:Nat):(Xt e).get t=e.get t:=by
 have:∀ (l:Env),Env.get (l.map fun x=>(x.1,e.get x.1)) t=if(∃y∈l,y.1=t) then e.get t else .any:=by
  intro l
  induction l with
  |nil=>simp[Env.get]
  |cons y r ih=>
   simp only[List.map_cons,Env.get]
   by_cases hy:y.1=t
   ·rw[if_pos hy,if_pos ⟨y,pW ..,hy⟩,hy]
   ·rw[if_neg hy,ih]
    by_cases hr:∃z∈r,z.1=t
    ·obtain⟨z,hz,hzt⟩:=hr
     rw[if_pos ⟨z,hz,hzt⟩,if_pos ⟨z,pS _ hz,hzt⟩]
    ·rw[if_neg hr,if_neg]
     rintro⟨z,hz,hzt⟩
     rcases List.mem_cons.1 hz with rfl|hz
     ·exact hy hzt
     ·exact hr ⟨z,hz,hzt⟩
 unfold Xt
 rw[this]
 split
 ·rfl
 ·rename_i hn
  have:∀ (l:Env),(¬∃y∈l,y.1=t)→Env.get l t=.any:=by
   intro l
   induction l with
   |nil=>intro _;rfl
   |cons y r ih=>
    intro h
    simp only[Env.get]
    rw[if_neg (fun hy=>h ⟨y,pW ..,hy⟩)]
    exact ih fun⟨z,hz,hzt⟩=>h ⟨z,pS _ hz,hzt⟩
  exact(this e hn).symm
theorem zcd(e:Env):SubE (Xt e) e:=by
 have:∀ (l:Env),SubE (l.map fun x=>(x.1,e.get x.1)) e:=by
  intro l
  induction l with
  |nil=>trivial
  |cons y r ih=>exact⟨rfl,ih⟩
 exact this e
theorem zfa:∀ {ps:List Nat} {xs:List AVal} {e:Env} {E E':Ev},zv4 ps xs E=some E'→EnR e E→EnR (zhj e ps xs) E'∧xs.length=ps.length
 |[],[],e,E,E',h,hE=>by simp only[zv4,p0] at h;subst h;exact⟨hE,rfl⟩
 |[],_::_,e,E,E',h,hE=>by cases h
 |_::_,[],e,E,E',h,hE=>by cases h
 |p::ps,x::xs,e,E,E',h,hE=>by
  unfold zv4 at h
  split at h<;>try (cases h;done)
  rename_i E1 h1
  obtain⟨g1,g2⟩:=zfa h (hE.put h1)
  exact⟨g1,by simp[g2]⟩
theorem Jn{x:AVal}(h:z5h x=true):x.plain:=by
 cases x with
 |cnd p y=>cases h
 |_=>exact⟨rfl,trivial⟩
def W5(D:Id→Option ABlock)(k:Id)(b:ABlock)(id:Id):Option ABlock:=if id=k then some b else D id
theorem StR.hide(h:StR D H n S){b:ABlock}(h0:S.t.at (S.n,0)=none):StR (W5 D (n,0) b) (((n,0),b)::H) (n+1) ⟨S.t,S.n+1⟩:=by
 refine⟨by simp[h.n],fun id c hc=>?_,fun id c hc=>?_⟩
 ·simp only at hc
  have hj:(n,0)≠id:=fun e=>by subst e;rw[h.n,h0] at hc;cases hc
  rw[AHeap.get_cons_other _ _ hj];exact h.h _ _ hc
 ·unfold W5 at hc
  split at hc
  ·rename_i hk;subst hk;cases hc
   exact⟨AHeap.get_cons_same _ _ _,by simp only;rw[h.n];exact h0,Nat.lt_succ_self _⟩
  ·rename_i hk
   obtain⟨g1,g2,g3⟩:=h.d id c hc
   exact⟨by rw[AHeap.get_cons_other _ _ (fun e=>hk e.symm)];exact g1,g2,by omega⟩
theorem StR.hidden{k:Id}{b:ABlock}(h:StR (W5 D k b) H n S):H.get k=some b:=(h.d k b (by simp[W5])).1
theorem StR.turn{k:Id}{b b':ABlock}(h:StR (W5 D k b) H n S):StR (W5 D k b') (H.set k b') n S:=by
 have hk:=h.hidden
 refine⟨h.n,fun id c hc=>?_,fun id c hc=>?_⟩
 ·have hj:k≠id:=fun e=>by subst e;rw[(h.d k b (by simp[W5])).2.1] at hc;cases hc
  rw[AHeap.get_set,if_neg hj];exact h.h _ _ hc
 ·unfold W5 at hc
  split at hc
  ·rename_i he;subst he;cases hc
   obtain⟨_,g2,g3⟩:=h.d id b (by simp[W5])
   exact⟨by rw[AHeap.get_set,if_pos rfl,hk];rfl,g2,g3⟩
  ·rename_i he
   obtain⟨g1,g2,g3⟩:=h.d id c (by simp[W5,he];exact hc)
   exact⟨by rw[AHeap.get_set,if_neg (fun e=>he e.symm)];exact g1,g2,g3⟩
theorem StR.unhide{k:Id}{b:ABlock}(h:StR (W5 D k b) H n S)(hk:D k=none):StR D (H.del k) n S:=by
 refine⟨h.n,fun id c hc=>?_,fun id c hc=>?_⟩
 ·have hj:k≠id:=fun e=>by subst e;rw[(h.d k b (by simp[W5])).2.1] at hc;cases hc
  rw[AHeap.get_del,if_neg hj];exact h.h _ _ hc
 ·have hj:id≠k:=fun e=>by subst e;rw[hk] at hc;cases hc
  obtain⟨g1,g2,g3⟩:=h.d id c (by simp[W5,hj];exact hc)
  exact⟨by rw[AHeap.get_del,if_neg (fun e=>hj e.symm)];exact g1,g2,g3⟩
theorem z7f{o:Es}{x:Exit×Ev×Sh}(h:zvd o=some x):∃E S,o=some (E,S)∧x=(.normal,E,S):=by
 cases o with
 |none=>cases h
 |some y=>obtain⟨E,S⟩:=y;simp only[zvd,p0] at h;exact⟨E,S,rfl,h.symm⟩
theorem wt{C:Nat→List AVal→Sh→Rs}{L:LCode→Ev→Sh→Cs}{B:Nat→Option (Bool×Nat)}(hC:Xx P C)(hL:zb4 P L)(hB:z4m P B):∀ (lc:LCode) {D:Id→Option ABlock} (N:Lay) (n0:Nat) {E:Ev} {S:Sh} {x:Exit×Ev×Sh} {e:Env} {H:AHeap} {n:Nat},uo C L B lc E S=some x→Ya P N.n lc→EnR e E→StR D H n S→LWp P N n0 lc (KX D x) e H n
 |.skip,D,N,n0,E,S,x,e,H,n,h,hi,hE,hs=>by
  simp only[uo,p0] at h
  subst h
  exact y9 .skip _ e H n ⟨rfl,hE,hs⟩
 |.region ops,D,N,n0,E,S,x,e,H,n,h,hi,hE,hs=>by
  obtain⟨E1,S1,h1,rfl⟩:=z7f h
  refine y9 (.region ops) _ e H n (z2g hC (fun e H n hE hs=>?_) h1 hE hs)
  exact⟨rfl,hE,hs⟩
 |.quiet ops,D,N,n0,E,S,x,e,H,n,h,hi,hE,hs=>by
  simp only[uo] at h
  split at h<;>try (cases h;done)
  rename_i hp
  obtain⟨E1,S1,h1,rfl⟩:=z7f h
  refine y9 (.quiet ops) _ e H n (Ja (P:=P) (fun lo hl=>pF.1 hp lo hl) (z2g hC (fun e H n hE hs=>?_) h1 hE hs))
  exact⟨rfl,hE,hs⟩
 |.draw items,D,N,n0,E,S,x,e,H,n,h,hi,hE,hs=>by
  obtain⟨E1,S1,h1,rfl⟩:=z7f h
  refine y9 (.draw items) _ e H n (K8 hC (fun e H n hE hs=>?_) h1 hE hs)
  exact⟨rfl,hE,hs⟩
 |.draw2 a b items,D,N,n0,E,S,x,e,H,n,h,hi,hE,hs=>by
  simp only[uo] at h
  split at h<;>try (cases h;done)
  rename_i E1 S1 h1
  split at h<;>try (cases h;done)
  rename_i ha
  simp only[p0] at h
  subst h
  refine y9 (.draw2 a b items) _ e H n (K8 hC (fun e H n hE hs=>⟨?_,rfl,hE,hs⟩) h1 hE hs)
  rw[hE.get] at ha
  unfold zo2 at ha
  split at ha<;>try (cases ha;done)
  rename_i b1 i1 o1 c1 i2 o2 q1 q2
  rw[(zr q1).1,(zr q2).1]
  simp only[z6i]
  intro he
  rw[he] at ha
  simp at ha
 |.seq a b,D,N,n0,E,S,x,e,H,n,h,hi,hE,hs=>by
  unfold uo at h
  split at h
  ·rename_i E1 S1 h1
   refine Yn ((wt hC hL hB a N n0 h1 hi.1 hE hs).mono ?_)
   rintro ex e' H' n' ⟨rfl,hE',hs'⟩
   exact wt hC hL hB b N n0 h hi.2 hE' hs'
  ·rename_i hne
   refine Yn ((wt hC hL hB a N n0 h hi.1 hE hs).mono ?_)
   rintro ex e' H' n' ⟨rfl,hE',hs'⟩
   obtain⟨ex,E1,S1⟩:=x
   cases ex with
   |normal=>exact absurd h (hne _ _)
   |_=>exact⟨rfl,hE',hs'⟩
 |.cond c a b,D,N,n0,E,S,x,e,H,n,h,hi,hE,hs=>by
  unfold uo at h
  rw[hE.get] at h
  split at h<;>try (cases h;done)
  ·rename_i hc
   obtain⟨h1,h2⟩:=zr hc
   exact Zo h1 h2 (fun _=>wt hC hL hB a N n0 h hi.1 hE hs) (fun h=>by cases h)
  ·rename_i hc
   obtain⟨h1,h2⟩:=zr hc
   exact Zo h1 h2 (fun h=>by cases h) (fun _=>wt hC hL hB b N n0 h hi.2 hE hs)
 |.block id c,D,N,n0,E,S,x,e,H,n,h,hi,hE,hs=>by
  unfold uo at h
  split at h
  ·rename_i i E1 S1 h1
   refine Y0 ((wt hC hL hB c N n0 h1 hi hE hs).mono ?_)
   rintro ex e' H' n' ⟨rfl,hE',hs'⟩
   simp only
   split at h
   ·rename_i hi
    rw[if_pos (zq.1 hi)]
    simp only[p0] at h
    subst h
    exact⟨rfl,hE',hs'⟩
   ·rename_i hi
    rw[if_neg (pU hi)]
    simp only[p0] at h
    subst h
    exact⟨rfl,hE',hs'⟩
  ·rename_i hne
   refine Y0 ((wt hC hL hB c N n0 h hi hE hs).mono ?_)
   rintro ex e' H' n' ⟨rfl,hE',hs'⟩
   obtain⟨ex,E1,S1⟩:=x
   cases ex with
   |exit i=>exact absurd h (hne _ _ _)
   |_=>exact⟨rfl,hE',hs'⟩
 |.loop c,D,N,n0,E,S,x,e,H,n,h,hi,hE,hs=>hL c E S x h N n0 e H n hi hE hs
 |.rng g ps a b,D,N,n0,E,S,x,e,H,n,h,hi,hE,hs=>by
  unfold uo at h
  rw[hE.get] at h
  split at h<;>try (cases h;done)
  rename_i gf bx hg
  split at h<;>try (cases h;done)
  rename_i ag s hBf
  split at h<;>try (cases h;done)
  rename_i sl hsl
  split at h<;>try (cases h;done)
  rename_i z hz
  split at h<;>try (cases h;done)
  rename_i hb h0
  simp only[p9,kh] at hb
  obtain⟨bm,L',hL',hok,hn2,hbody,hres⟩:=hB gf ag s hBf
  obtain⟨hg1,hg2⟩:=zr hg
  obtain⟨hps,hia,hib⟩:=hi
  have hDn:D (n,0)=none:=by
   cases hd:D (n,0) with
   |none=>rfl
   |some c=>exact absurd (hs.d _ _ hd).2.2 (Nat.lt_irrefl _)
  have hEc:EnR (Xt e) E:=fun t=>by rw[zd6];exact hE t
  refine zka (Xt e) hg1 hg2 (zcd e) (fun l r hR=>?_)
  have hst:=hs.hide (b:=.lrec l r (Xt e)) h0
  obtain⟨k,hk⟩:∃k:Nat,z=k:=Int.eq_ofNat_of_zero_le hb.1.2
  subst hk
  refine zbs hL' hok hn2 hbody hres (K:=fun H' n'=>∃k e',(H'.get k=some (.lrec l r e')∧KX D x .normal e' (H'.del k) n')∨∃ex code,zez ex=some code∧H'.get k=some (.lrec l (zjp r code) e')∧KX D x ex e' (H'.del k) n')
   (fun i H' n'=>∃S',zui (uo C L B a) (uo C L B b) ps ag s bx E i S'=some x∧StR (W5 D (n,0) (.lrec l r (Xt e))) H' n' S') ?_ ?_ (len:=k) ⟨_,h,hst⟩ (by omega) (Jn hb.1.1) (We (ux hst.le hsl)) (z9n hz)
  ·rintro i H' n' ⟨S',hr,hst'⟩
   unfold zui at hr
   split at hr<;>try (cases hr;done)
   rename_i sl' hsl'
   split at hr<;>try (cases hr;done)
   rename_i p hp
   split at hr<;>try (cases hr;done)
   rename_i el hel
   split at hr<;>try (cases hr;done)
   rename_i hpl
   split at hr<;>try (cases hr;done)
   rename_i e1 he1
   split at hr<;>try (cases hr;done)
   rename_i e2 S2 hA
   simp only[p9,xp] at hpl
   refine⟨by omega,sl',p,el,Jn hpl.1.1.1,Jn hpl.1.1.2,Jn hpl.1.2,We (ux hst'.le hsl'),z54 hp,We (ux hst'.le hel),?_⟩
   obtain⟨hEp,hlen⟩:=zfa he1 hEc
   refine zcm hR hst'.hidden hps hlen ?_
   refine(wt hC hL hB a (zjm N) n' hA hia hEp hst').mono ?_
   rintro ex e' H'' n'' ⟨rfl,hE',hs'⟩
   refine⟨rfl,_,hs'.hidden,?_⟩
   split at hr<;>try (cases hr;done)
   ·rename_i E3 S3 hRb
    refine(wt hC hL hB b (zjm N) n' hRb hib hE' (hs'.turn (b':=.lrec l (busy r) (Xt e)))).mono ?_
    rintro ex e3 H3 n3 ⟨rfl,hE3,hs3⟩
    exact .inr ⟨rfl,_,hs3.hidden,.inl ⟨rfl,S3,hr,hs3.turn⟩⟩
   ·rename_i E3 S3 hRb
    refine(wt hC hL hB b (zjm N) n' hRb hib hE' (hs'.turn (b':=.lrec l (busy r) (Xt e)))).mono ?_
    rintro ex e3 H3 n3 ⟨rfl,hE3,hs3⟩
    simp only[p0] at hr
    subst hr
    exact .inl ⟨_,rfl,_,hs3.hidden,.inr ⟨rfl,(n,0),_,.inr ⟨.ret,_,rfl,(hs3.turn).hidden,rfl,hEc,(hs3.turn).unhide hDn⟩⟩⟩
   ·rename_i id E3 S3 hRb
    refine(wt hC hL hB b (zjm N) n' hRb hib hE' (hs'.turn (b':=.lrec l (busy r) (Xt e)))).mono ?_
    rintro ex e3 H3 n3 ⟨rfl,hE3,hs3⟩
    simp only[p0] at hr
    subst hr
    exact .inl ⟨_,rfl,_,hs3.hidden,.inr ⟨rfl,(n,0),_,.inr ⟨.exit id,_,rfl,(hs3.turn).hidden,rfl,hEc,(hs3.turn).unhide hDn⟩⟩⟩
  ·rintro H' n' ⟨S',hr,hst'⟩
   simp only[zui,p0] at hr
   subst hr
   exact⟨(n,0),_,.inl ⟨hst'.hidden,rfl,hEc,hst'.unhide hDn⟩⟩
 |.dfr f t,D,N,n0,E,S,x,e,H,n,h,hi,hE,hs=>by
  simp only[uo] at h
  split at h<;>try (cases h;done)
  rename_i E1 h1
  simp only[p0] at h
  subst h
  exact y9 (.dfr f t) _ e H n ⟨hi,rfl,hE.put h1,hs⟩
 |.exit id,D,N,n0,E,S,x,e,H,n,h,hi,hE,hs=>by
  simp only[uo,p0] at h
  subst h
  exact y9 (.exit id) _ e H n ⟨rfl,hE,hs⟩
 |.ret,D,N,n0,E,S,x,e,H,n,h,hi,hE,hs=>by
  simp only[uo,p0] at h
  subst h
  exact y9 .ret _ e H n ⟨rfl,hE,hs⟩
end Go.Fx
namespace Go.Fx
variable {D:Id→Option ABlock} {P:Program} {N:Lay}
theorem z4a:∀ (l:List AVal) (k:Nat) (E0 E:Ev),z8l k l E0=some E→∀t,E.g t=if k≤t∧t<k+l.length then(l[t-k]?).getD .any else E0.g t
 |[],k,E0,E,h,t=>by
  simp only[z8l,p0] at h
  subst h
  rw[if_neg (by simp)]
 |x::l,k,E0,E,h,t=>by
  unfold z8l at h
  split at h<;>try (cases h;done)
  rename_i E1 h1
  rw[z4a l (k+1) E1 E h t]
  have h1g:E1.g t=if t=k then x else E0.g t:=by
   simp only[Ev.p] at h1
   unfold Ev.g
   rw[Tr.put_get _ _ _ _ _ h1]
   by_cases ht:t=k
   ·rw[if_pos ht,if_pos ht]
   ·rw[if_neg ht,if_neg ht]
  rw[h1g]
  by_cases ht:t=k
  ·subst ht
   rw[if_neg (by omega),if_pos rfl,if_pos (by simp)]
   simp
  ·rw[if_neg ht]
   by_cases h2:k+1≤t∧t<k+1+l.length
   ·rw[if_pos h2,if_pos (by simp only[List.length_cons];omega)]
    have:t-k=(t-(k+1))+1:=by omega
    rw[this,pT]
   ·rw[if_neg h2,if_neg (by simp only[List.length_cons];omega)]
theorem zkk{args:List AVal}{E:Ev}(h:z8l 0 args .nil=some E):EnR (yi 0 args) E:=by
 intro t
 rw[z4a _ _ _ _ h t,J2]
 rw[if_pos (Nat.zero_le _)]
 by_cases ht:t<args.length
 ·rw[if_pos ⟨Nat.zero_le _,by omega⟩]
 ·rw[if_neg (by omega),pN (by omega)];rfl
variable {e:Env} {H:AHeap} {n:Nat} {S S':Sh}
theorem zq8{E:Ev}(hE:EnR e E)(hs:StR D H n S){r:LRes}{v:AVal}(h:zr7 E S.t.at r=some v):XOk (zrr e H r) v:=by
 replace h:=zef hs.le h
 cases r with
 |t i=>
  simp only[zr7] at h
  rw[hE.get] at h
  obtain⟨h1,h2⟩:=zr h
  exact⟨_,by simp only[zrr];exact congrArg _ h1,h2⟩
 |cell i ag m=>
  simp only[zr7] at h
  rw[hE.get] at h
  split at h<;>try (cases h;done)
  rename_i a ha
  obtain⟨h1,h2⟩:=zr ha
  have h3:=We h
  simp only[zrr]
  have h1':(e.get i).strip=a:=h1
  rw[h1']
  exact h3.and h2
theorem z2c{E:Ev}(hE:EnR e E)(hs:StR D H n S):∀ {rs:List LRes} {l:List AVal} {k:List AVal→Prop},zco E S.t.at rs=some l→k l→z2z e H rs k
 |[],l,k,h,hk=>by simp only[zco,p0] at h;subst h;exact hk
 |r::rs,l,k,h,hk=>by
  unfold zco at h
  split at h<;>try (cases h;done)
  rename_i v hv
  split at h<;>simp only[p0,reduceCtorEq] at h
  rename_i l' hl
  subst h
  obtain⟨s,h1,h2⟩:=zq8 hE hs hv
  unfold z2z
  rw[h1]
  exact⟨h2,z2c hE hs hl hk⟩
theorem zqu{res:List LRes}{x:Cs}{v:AVal}(h:zvo res x=some (v,S')):∃y,x=some y∧∀ex e H n,KX D y ex e H n→Q0 res (KS D v S') ex e H n:=by
 unfold zvo at h
 split at h
 ·split at h<;>simp only[p0,pD,reduceCtorEq] at h
  rename_i l hl
  obtain⟨rfl,rfl⟩:=h
  refine⟨_,rfl,?_⟩
  rintro ex e H n ⟨rfl,hE,hs⟩
  exact z2c hE hs hl ⟨rfl,hs⟩
 ·split at h<;>simp only[p0,pD,reduceCtorEq] at h
  rename_i l hl
  obtain⟨rfl,rfl⟩:=h
  refine⟨_,rfl,?_⟩
  rintro ex e H n ⟨rfl,hE,hs⟩
  exact z2c hE hs hl ⟨rfl,hs⟩
 ·cases h
def za6(P:Program)(F:Nat→Option LFn):Prop:=∀f fn,F f=some fn→(∃bm,w4 P bm f=some fn)∧uc P f∧Ya P fn.lay.n fn.body
def j7(P:Program)(X:Nat→List AVal→Sh→Option Rs):Prop:=
 ∀ (f:Nat) aq S r S',X f aq S=some (some (r,S'))→∀ {D:Id→Option ABlock} H n,StR D H n S→ACalls P (.func f) aq H n (KS D r S')
variable {F:Nat→Option LFn} {X:Nat→List AVal→Sh→Option Rs} {B:Nat→Option (Bool×Nat)}
theorem zps(hB:z4m P B)(m:Nat)(hC:∀j,j<m→Xx P (ev F X B j).1∧zb4 P (ev F X B j).2):zb4 P (ev F X B m).2:=by
 intro c E S x h D N n0 e H n hi hE hs
 refine z5u (ι:=Nat×Ev×Sh×Env×AHeap×Nat) (fun y=>y.1≤m∧(ev F X B y.1).2 c y.2.1 y.2.2.1=some x∧EnR y.2.2.2.1 y.2.1∧StR D y.2.2.2.2.1 y.2.2.2.2.2 y.2.2.1) (fun y=>y.2.2.2.1) (fun y=>y.2.2.2.2.1) (fun y=>y.2.2.2.2.2) (fun y=>y.1) ?_ (m,E,S,e,H,n) ⟨pG _,h,hE,hs⟩
 rintro⟨k,E,S,e,H,n⟩ ⟨hk,h,hE,hs⟩
 simp only at hk h hE hs ⊢
 cases k with
 |zero=>cases h
 |succ j=>
  have h:(match uo (ev F X B j).1 (ev F X B j).2 B c E S with
   |some (.normal,e,S)=>(ev F X B j).2 c e S
   |x=>x)=some x:=h
  obtain⟨hc,hl⟩:=hC j (by omega)
  split at h
  ·rename_i E1 S1 h1
   refine(wt hc hl hB c N n0 h1 hi hE hs).mono ?_
   rintro ex e' H' n' ⟨rfl,hE',hs'⟩
   exact⟨(j,E1,S1,e',H',n'),⟨by simp only;omega,h,hE',hs'⟩,Nat.lt_succ_self _,rfl,rfl,rfl⟩
  ·rename_i hne
   refine(wt hc hl hB c N n0 h hi hE hs).mono ?_
   rintro ex e' H' n' ⟨rfl,hE',hs'⟩
   obtain⟨ex,E1,S1⟩:=x
   cases ex with
   |normal=>exact absurd h (hne _ _)
   |_=>exact⟨rfl,hE',hs'⟩
theorem x7(hF:za6 P F)(hX:j7 P X)(hB:z4m P B):∀m,Xx P (ev F X B m).1∧zb4 P (ev F X B m).2:=by
 intro m
 induction m using Nat.strongRecOn with
 |ind m ih=>
  refine⟨?_,zps hB m ih⟩
  cases m with
  |zero=>intro f aq S r S' h;cases h
  |succ j=>
   intro f aq S r S' h D H n hs
   obtain⟨hc,hl⟩:=ih j (Nat.lt_succ_self _)
   have h:(match X f aq S with
    |some r=>r
    |none=>match F f with
     |some fn=>match pB aq.length fn.lay.n with
      |true=>match z8l 0 aq .nil with
       |some e=>zvo fn.res (uo (ev F X B j).1 (ev F X B j).2 B fn.body e S)
       |none=>none
      |false=>none
     |none=>none)=some (r,S'):=h
   split at h
   ·rename_i hx
    rw[h] at hx
    exact hX f aq S r S' hx H n hs
   ·split at h<;>try (cases h;done)
    rename_i fn hfn
    split at h<;>try (cases h;done)
    rename_i hlen
    split at h<;>try (cases h;done)
    rename_i E hE
    obtain⟨⟨bm,h1⟩,h2,h3⟩:=hF f fn hfn
    obtain⟨y,hy,hfin⟩:=zqu h
    exact ACalls.ofFnW h1 h2 (xp.1 hlen) ((wt hc hl hB fn.body fn.lay n hy h3 (zkk hE) hs).mono hfin)
theorem StR.empty:StR (fun _=>none) [] 0 ⟨.nil,0⟩:=⟨rfl,fun id b h=>(by
 simp only[Tr.at] at h
 split at h
 ·cases h
 ·cases h),fun id b h=>by cases h⟩
theorem zp8(hF:za6 P F)(hX:j7 P X)(hB:z4m P B){m f:Nat}{aq:List AVal}{R:AVal}(hR:R.nid=true)(h:((ev F X B m).1 f aq ⟨.nil,0⟩).map (·.1)=some R):PFn P f aq R:=by
 cases hx:(ev F X B m).1 f aq ⟨.nil,0⟩ with
 |none=>rw[hx] at h;cases h
 |some y=>
  obtain⟨r,S'⟩:=y
  rw[hx] at h
  simp only[pJ,p0] at h
  subst h
  have hc:=(x7 hF hX hB m).1 f aq _ _ _ hx [] 0 StR.empty
  refine⟨hR,0,(hc.mono fun r' H' n' hk=>?_).fin⟩
  obtain⟨rfl,hs⟩:=hk
  exact⟨fun _=>false,fun _=>none,⟨fun i j k h=>(by cases h),fun i k h=>(by cases h),fun i h=>absurd h (Nat.not_lt_zero _),fun i k _ h=>(by cases h),pG _⟩,.same _ (hR),fun id blk h=>by cases h⟩
def noB:Nat→Option (Bool×Nat):=fun _=>none
end Go.Fx
namespace Go.Fx
def eqI:Int→Int→Bool
 |.ofNat a,.ofNat b=>pA a b
 |.negSucc a,.negSucc b=>pA a b
 |_,_=>false
theorem zna{a b:Int}(h:eqI a b=true):a=b:=by
 cases a<;>cases b<;>simp only[eqI,pR] at h<;>exact congrArg _ (pH h)
def zr5:List UInt8→List UInt8→Bool
 |[],[]=>true
 |a::r,b::s=>pA a.toNat b.toNat&&zr5 r s
 |_,_=>false
theorem Kn:∀ {a b:List UInt8},zr5 a b=true→a=b
 |[],[],_=>rfl
 |a::r,b::s,h=>by
  simp only[zr5,p9] at h
  rw[UInt8.toNat_inj.1 (pH h.1),Kn h.2]
 |[],_::_,h=>by cases h
 |_::_,[],h=>by cases h
def z7w(a b:Id):Bool:=pA a.1 b.1&&pA a.2 b.2
theorem Zu{a b:Id}(h:z7w a b=true):a=b:=by
 simp only[z7w,p9] at h
 exact Prod.ext (pH h.1) (pH h.2)
def zl6:Value→Value→Bool
 |.pointer none,.pointer none=>true
 |.slice none 0 0,.slice none 0 0=>true
 |.map none,.map none=>true
 |.nilFunc,.nilFunc=>true
 |.nilIface,.nilIface=>true
 |_,_=>false
theorem zat{a b:Value}(h:zl6 a b=true):a=b:=by
 unfold zl6 at h
 split at h<;>first|rfl|cases h
mutual
def eqA:AVal→AVal→Bool
 |.any,.any=>true
 |.bool a,.bool b=>a==b
 |.int k a,.int k' b=>z0k k k'&&eqI a b
 |.str l,.str l'=>zr5 l l'
 |.val v,.val v'=>zl6 v v'
 |.agg l,.agg l'=>eqL l l'
 |.tup l,.tup l'=>eqL l l'
 |.isl s es f,.isl s' es' f'=>pA s s'&&zo3 es es'&&(f==f')
 |.ptr b i o,.ptr b' i' o'=>z7w b b'&&pA i i'&&pA o o'
 |.msl b s o l f,.msl b' s' o' l' f'=>z7w b b'&&pA s s'&&pA o o'&&pA l l'&&(f==f')
 |.map b,.map b'=>z7w b b'
 |.fn (.func f) a c,.fn (.func f') a' c'=>pA f f'&&eqL a a'&&eqL c c'
 |.ifc t v,.ifc t' v'=>pA t t'&&eqA v v'
 |.cnd p x,.cnd p' x'=>(p==p')&&eqA x x'
 |_,_=>false
def eqL:List AVal→List AVal→Bool
 |[],[]=>true
 |x::r,y::s=>eqA x y&&eqL r s
 |_,_=>false
def zo3:List (List AVal)→List (List AVal)→Bool
 |[],[]=>true
 |x::r,y::s=>eqL x y&&zo3 r s
 |_,_=>false
end
mutual
theorem Vr:∀ {x y:AVal},eqA x y=true→x=y:=by
 intro x y h
 unfold eqA at h
 split at h
 case h_1=>rfl
 case h_2=>rw[eq_of_beq h]
 case h_3=>simp only[p9,Yd] at h;rw[h.1,zna h.2]
 case h_4=>rw[Kn h]
 case h_5=>rw[zat h]
 case h_6=>rw[Ug h]
 case h_7=>rw[Ug h]
 case h_8=>simp only[p9,zq] at h;rw[h.1.1,z2b h.1.2,eq_of_beq h.2]
 case h_9=>simp only[p9,zq] at h;rw[Zu h.1.1,h.1.2,h.2]
 case h_10=>simp only[p9,zq] at h;rw[Zu h.1.1.1.1,h.1.1.1.2,h.1.1.2,h.1.2,eq_of_beq h.2]
 case h_11=>rw[Zu h]
 case h_12=>simp only[p9,zq] at h;rw[h.1.1,Ug h.1.2,Ug h.2]
 case h_13=>simp only[p9,zq] at h;rw[h.1,Vr h.2]
 case h_14=>simp only[p9] at h;rw[eq_of_beq h.1,Vr h.2]
 case h_15=>cases h
theorem Ug:∀ {x y:List AVal},eqL x y=true→x=y
 |[],[],_=>rfl
 |a::r,b::s,h=>by
  simp only[eqL,p9] at h
  rw[Vr h.1,Ug h.2]
 |[],_::_,h=>by simp[eqL] at h
 |_::_,[],h=>by simp[eqL] at h
theorem z2b:∀ {x y:List (List AVal)},zo3 x y=true→x=y
 |[],[],_=>rfl
 |a::r,b::s,h=>by
  simp only[zo3,p9] at h
  rw[Ug h.1,z2b h.2]
 |[],_::_,h=>by simp[zo3] at h
 |_::_,[],h=>by simp[zo3] at h
end
def eqM:List (AVal×AVal)→List (AVal×AVal)→Bool
 |[],[]=>true
 |x::r,y::s=>eqA x.1 y.1&&eqA x.2 y.2&&eqM r s
 |_,_=>false
theorem znl:∀ {x y:List (AVal×AVal)},eqM x y=true→x=y
 |[],[],_=>rfl
 |a::r,b::s,h=>by
  simp only[eqM,p9] at h
  rw[Prod.ext (Vr h.1.1) (Vr h.1.2),znl h.2]
 |[],_::_,h=>by cases h
 |_::_,[],h=>by cases h
def eqB:ABlock→ABlock→Bool
 |.rows s es,.rows s' es'=>pA s s'&&zo3 es es'
 |.one l,.one l'=>eqL l l'
 |.amap l,.amap l'=>eqM l l'
 |.tok,.tok=>true
 |.bld T g,.bld T' g'=>pA T T'&&z7w g g'
 |.buf e l,.buf e' l'=>pA e e'&&zr5 l l'
 |_,_=>false
theorem zt9{x y:ABlock}(h:eqB x y=true):x=y:=by
 unfold eqB at h
 split at h
 case h_1=>simp only[p9,zq] at h;rw[h.1,z2b h.2]
 case h_2=>rw[Ug h]
 case h_3=>rw[znl h]
 case h_4=>rfl
 case h_5=>simp only[p9,zq] at h;rw[h.1,Zu h.2]
 case h_6=>simp only[p9,zq] at h;rw[h.1,Kn h.2]
 case h_7=>cases h
def eqO:Option ABlock→Option ABlock→Bool
 |none,none=>true
 |some a,some b=>eqB a b
 |_,_=>false
def eqT:Tr ABlock→Tr ABlock→Bool
 |.nil,.nil=>true
 |.nd v l r,.nd v' l' r'=>eqO v v'&&eqT l l'&&eqT r r'
 |_,_=>false
def zy8(f0:Nat)(args0:List AVal)(S0:Sh)(r:AVal)(S1:Sh)(f:Nat)(xs:List AVal)(S:Sh):Option Rs:=
 match pA f f0 with
 |true=>match pA S.n S0.n&&eqL xs args0&&eqT S.t S0.t with
  |true=>some (some (r,S1))
  |false=>none
 |false=>none
variable {P:Program}
end Go.Fx
namespace Go.Fx
def zw4(y:AVal):Bool:=match y.imm with
 |some z=>eqA z y
 |none=>false
theorem zr8{y:AVal}(h:zw4 y=true):y.imm=some y:=by
 unfold zw4 at h
 split at h
 ·rename_i z hz;rw[hz,Vr h]
 ·cases h
mutual
def zrz(F K:Id→Bool)(h:Hp):AVal→AVal→Bool
 |_,.any=>true
 |.bool a,.bool b=>a==b
 |.int k a,.int k' b=>z0k k k'&&eqI a b
 |.str l,.str l'=>zr5 l l'
 |.val v,.val v'=>zl6 v v'
 |.agg l,.agg l'=>zfj F K h l l'
 |.tup l,.tup l'=>zfj F K h l l'
 |.isl s es f,.isl s' es' f'=>pA s s'&&zo3 es es'&&(f==f')
 |.msl b s o l f,.isl s' es' f'=>F b&&(match h b with
  |some (.rows s2 es)=>pA s s'&&pA s2 s&&pB (o+l) es.length&&pA es'.length l&&(!f' || f)&&zed F K h ((es.drop o).take l) es'&&es'.all (fun r=>r.all zw4)
  |_=>false)
 |.ptr b i o,.ptr b' i' o'=>z7w b b'&&K b&&pA i i'&&pA o o'
 |.msl b s o l f,.msl b' s' o' l' f'=>z7w b b'&&K b&&pA s s'&&pA o o'&&pA l l'&&(f==f')
 |.map b,.map b'=>z7w b b'&&K b
 |.fn (.func f) a c,.fn (.func f') a' c'=>pA f f'&&zfj F K h a a'&&zfj F K h c c'
 |.ifc t v,.ifc t' v'=>pA t t'&&zrz F K h v v'
 |_,_=>false
def zfj(F K:Id→Bool)(h:Hp):List AVal→List AVal→Bool
 |[],[]=>true
 |x::r,y::s=>zrz F K h x y&&zfj F K h r s
 |_,_=>false
def zed(F K:Id→Bool)(h:Hp):List (List AVal)→List (List AVal)→Bool
 |[],[]=>true
 |x::r,y::s=>zfj F K h x y&&zed F K h r s
 |_,_=>false
end
section
variable {F K:Id→Bool} {h:Hp} {H:AHeap} {ρ:Id→Option Id} {n:Nat} (hle:∀id b,h id=some b→H.get id=some b) (hρ:∀id,K id=true→ρ id=some id)
include hle hρ
mutual
theorem z2d(x y:AVal)(hc:zrz F K h x y=true):Vw F H ρ n x y:=by
 unfold zrz at hc
 split at hc
 ·exact .any _
 ·rw[eq_of_beq hc];exact .same _ rfl
 ·simp only[p9,Yd] at hc;rw[hc.1,zna hc.2];exact .same _ rfl
 ·rw[Kn hc];exact .same _ rfl
 ·rw[zat hc];exact .same _ rfl
 ·obtain⟨h1,h2⟩:=Yi _ _ hc
  exact .agg _ _ h1 h2
 ·obtain⟨h1,h2⟩:=Yi _ _ hc
  exact .tup _ _ h1 h2
 ·simp only[p9,zq] at hc
  rw[hc.1.1,z2b hc.1.2,eq_of_beq hc.2];exact .same _ rfl
 ·rename_i b s o l f s' es' f'
  simp only[p9] at hc
  obtain⟨hF,hc⟩:=hc
  split at hc<;>try (cases hc;done)
  rename_i s2 es hb
  simp only[p9,zq,pF] at hc
  obtain⟨⟨⟨⟨⟨⟨rfl,rfl⟩,h3⟩,rfl⟩,h5⟩,h6⟩,h7⟩:=hc
  have h3:=pE h3
  obtain⟨g1,g2⟩:=z2x _ _ h6
  have hat:∀i r',es'[i]?=some r'→((es.drop o).take es'.length)[i]?=es[o+i]?:=fun i r' hr=>by
   have hi:i<es'.length:=by
    rcases pY i es'.length with h|h
    ·exact h
    ·rw[pN h] at hr;cases hr
   rw[List.getElem?_take_of_lt hi,List.getElem?_drop]
  refine .frz b _ o _ f f' es es' (fun e=>?_) hF (hle _ _ hb) h3 rfl (fun i r r' h1 h2=>?_) (fun i r r' j x y h1 h2 hx hy=>?_) (fun r' hr y hy=>zr8 (h7 r' hr y hy))
  ·subst e;simpa using h5
  ·exact(g2 i r r' (by rw[hat i r' h2];exact h1) h2).1
  ·exact(g2 i r r' (by rw[hat i r' h2];exact h1) h2).2 j x y hx hy
 ·simp only[p9,zq] at hc
  obtain⟨⟨⟨h1,h2⟩,rfl⟩,rfl⟩:=hc
  have:=Zu h1
  subst this
  exact .ptr _ _ _ _ (hρ _ h2)
 ·simp only[p9,zq] at hc
  obtain⟨⟨⟨⟨⟨h1,h2⟩,rfl⟩,rfl⟩,rfl⟩,h3⟩:=hc
  have:=Zu h1
  subst this
  have:=eq_of_beq h3
  subst this
  exact .msl _ _ _ _ _ _ (hρ _ h2)
 ·simp only[p9] at hc
  have:=Zu hc.1
  subst this
  exact .map _ _ (hρ _ hc.2)
 ·simp only[p9,zq] at hc
  obtain⟨⟨rfl,h1⟩,h2⟩:=hc
  obtain⟨a1,a2⟩:=Yi _ _ h1
  obtain⟨c1,c2⟩:=Yi _ _ h2
  exact .fn _ _ _ _ _ a1 c1 a2 c2
 ·simp only[p9,zq] at hc
  obtain⟨rfl,h1⟩:=hc
  exact .ifc _ _ _ (z2d _ _ h1)
 ·cases hc
termination_by SizeOf.sizeOf y
theorem Yi(xs ys:List AVal)(hc:zfj F K h xs ys=true):xs.length=ys.length∧∀ (i:Nat) (x y:AVal),xs[i]?=some x→ys[i]?=some y→Vw F H ρ n x y:=by
 have _:=hle
 have _:=hρ
 unfold zfj at hc
 split at hc
 ·exact⟨rfl,fun i x y h1=>by cases h1⟩
 ·simp only[p9] at hc
  have g:=z2d _ _ hc.1
  obtain⟨g1,g2⟩:=Yi _ _ hc.2
  refine⟨by simp[g1],fun i x y h1 h2=>?_⟩
  cases i with
  |zero=>simp only[pC,p0] at h1 h2;rw[←h1,←h2];exact g
  |succ i=>exact g2 i x y (by simpa using h1) (by simpa using h2)
 ·cases hc
termination_by SizeOf.sizeOf ys
theorem z2x(xs ys:List (List AVal))(hc:zed F K h xs ys=true):xs.length=ys.length∧∀ (i:Nat) (r r':List AVal),xs[i]?=some r→ys[i]?=some r'→r.length=r'.length∧∀ (j:Nat) (x y:AVal),r[j]?=some x→r'[j]?=some y→Vw F H ρ n x y:=by
 have _:=hle
 have _:=hρ
 unfold zed at hc
 split at hc
 ·exact⟨rfl,fun i x y h1=>by cases h1⟩
 ·simp only[p9] at hc
  have g:=Yi _ _ hc.1
  obtain⟨g1,g2⟩:=z2x _ _ hc.2
  refine⟨by simp[g1],fun i x y h1 h2=>?_⟩
  cases i with
  |zero=>simp only[pC,p0] at h1 h2;rw[←h1,←h2];exact g
  |succ i=>exact g2 i x y (by simpa using h1) (by simpa using h2)
 ·cases hc
termination_by SizeOf.sizeOf ys
end
end
def zkb(F K:Id→Bool)(h:Hp):List (AVal×AVal)→List (AVal×AVal)→Bool
 |[],[]=>true
 |x::r,y::s=>eqA x.1 y.1&&zrz F K h x.2 y.2&&zkb F K h r s
 |_,_=>false
def zvm(F K:Id→Bool)(h:Hp):ABlock→ABlock→Bool
 |.rows s es,.rows s' es'=>pA s s'&&zed F K h es es'
 |.one l,.one l'=>zfj F K h l l'
 |.amap l,.amap l'=>zkb F K h l l'
 |.bld T g,.bld T' g'=>pA T T'&&z7w g g'&&K g
 |.buf e l,.buf e' l'=>pA e e'&&zr5 l l'
 |.tok,.tok=>true
 |_,_=>false
section
variable {F K:Id→Bool} {h:Hp} {H:AHeap} {ρ:Id→Option Id} {n:Nat} (hle:∀id b,h id=some b→H.get id=some b) (hρ:∀id,K id=true→ρ id=some id)
include hle hρ
theorem z9a:∀ {xs ys:List (AVal×AVal)},zkb F K h xs ys=true→xs.length=ys.length∧∀ (i:Nat) (k x k' y:AVal),xs[i]?=some (k,x)→ys[i]?=some (k',y)→k=k'∧Vw F H ρ n x y
 |[],[],_=>⟨rfl,fun i k x k' y h1=>by cases h1⟩
 |a::r,b::s,hc=>by
  simp only[zkb,p9] at hc
  obtain⟨g1,g2⟩:=z9a hc.2
  refine⟨by simp[g1],fun i k x k' y h1 h2=>?_⟩
  cases i with
  |zero=>
   simp only[pC,p0] at h1 h2
   subst h1;subst h2
   exact⟨Vr hc.1.1,z2d hle hρ _ _ hc.1.2⟩
  |succ i=>exact g2 i k x k' y (by simpa using h1) (by simpa using h2)
 |[],_::_,hc=>by cases hc
 |_::_,[],hc=>by cases hc
theorem zou{b b':ABlock}(hc:zvm F K h b b'=true):BVw F H ρ n b b':=by
 unfold zvm at hc
 split at hc
 ·simp only[p9,zq] at hc
  obtain⟨rfl,hc⟩:=hc
  obtain⟨g1,g2⟩:=z2x hle hρ _ _ hc
  exact .rows _ _ _ g1 g2
 ·obtain⟨g1,g2⟩:=Yi hle hρ _ _ hc
  exact .one _ _ g1 g2
 ·obtain⟨g1,g2⟩:=z9a hle hρ hc
  exact .amapV _ _ g1 g2
 ·simp only[p9,zq] at hc
  obtain⟨⟨rfl,h1⟩,h2⟩:=hc
  have:=Zu h1
  subst this
  exact .bld _ _ _ (hρ _ h2)
 ·simp only[p9,zq] at hc
  rw[hc.1,Kn hc.2]
  exact .buf _ _
 ·exact .tok
 ·cases hc
end
mutual
theorem z0j:∀ (x:AVal),x.ren (fun i=>i)=x
 |.any=>rfl
 |.bool _=>rfl
 |.int _ _=>rfl
 |.str _=>rfl
 |.val _=>rfl
 |.isl _ _ _=>rfl
 |.iptr _ _ _ _=>rfl
 |.osl t _ _=>rfl
 |.ptr t _ _=>rfl
 |.msl t _ _ _ _=>rfl
 |.map t=>rfl
 |.optp t=>rfl
 |.tup cs=>by simp only[AVal.ren];rw[Wz cs]
 |.agg cs=>by simp only[AVal.ren];rw[Wz cs]
 |.fn f a c=>by simp only[AVal.ren];rw[Wz a,Wz c]
 |.ifc t x=>by simp only[AVal.ren];rw[z0j x]
 |.cnd q x=>by simp only[AVal.ren];rw[z0j x]
theorem Wz:∀ (cs:List AVal),AVal.ren.renL (fun i=>i) cs=cs
 |[]=>rfl
 |x::r=>by simp only[AVal.ren.renL];rw[z0j x,Wz r]
end
def okB(p:Id→Bool):ABlock→Bool
 |.rows _ es=>es.all (AVal.inP.inPL p)
 |.one cs=>AVal.inP.inPL p cs
 |.amap es=>es.all fun x=>x.1.inP p&&x.2.inP p
 |.tok=>true
 |.bld _ g=>p g
 |.buf _ _=>true
 |_=>false
section
variable {p:Id→Bool} {g:Id→Id} (hg:∀id:Id,p id=true→g id=id)
include hg
theorem z3m(x:AVal)(hx:x.inP p=true):x.ren g=x:=(kl (h:=fun i=>i) hg x hx).trans (z0j x)
theorem z9y(x:List AVal)(hx:AVal.inP.inPL p x=true):AVal.ren.renL g x=x:=(kb (h:=fun i=>i) hg x hx).trans (Wz x)
theorem zb9{b:ABlock}(hb:okB p b=true):b.ren g=b:=by
 unfold okB at hb
 split at hb
 ·rename_i s es
  simp only[pF] at hb
  have:es.map (AVal.ren.renL g)=es:=by
   refine List.ext_getElem? fun i=>?_
   rw[pL]
   cases h:es[i]? with
   |none=>rfl
   |some r=>simp only[pJ];rw[z9y hg r (hb r (q9 h))]
  show ABlock.rows s (es.map (AVal.ren.renL g))=_
  rw[this]
 ·rename_i cs
  show ABlock.one (AVal.ren.renL g cs)=_
  rw[z9y hg cs hb]
 ·rename_i es
  simp only[pF,p9] at hb
  have:es.map (fun x=>(x.1.ren g,x.2.ren g))=es:=by
   refine List.ext_getElem? fun i=>?_
   rw[pL]
   cases h:es[i]? with
   |none=>rfl
   |some r=>simp only[pJ];rw[z3m hg r.1 (hb r (q9 h)).1,z3m hg r.2 (hb r (q9 h)).2]
  show ABlock.amap (es.map (fun x=>(x.1.ren g,x.2.ren g)))=_
  rw[this]
 ·rfl
 ·rename_i T q
  show ABlock.bld T (g q)=_
  rw[hg q hb]
 ·rfl
 ·cases hb
end
theorem zof{p:Id→Bool}{b:ABlock}(hb:okB p b=true):b.inP p=true:=by
 unfold okB at hb
 split at hb<;>first|exact hb|rfl|(cases hb;done)
def zrs:AHeap→Sh→Option Sh
 |[],S=>some S
 |(id,b)::r,S=>match S.upd id b with
  |some S'=>zrs r S'
  |none=>none
def zrx:List Id→Sh→Option Sh
 |[],S=>some S
 |id::r,S=>match S.cut id with
  |some S'=>zrx r S'
  |none=>none
theorem zok{S S':Sh}{id:Id}{b:ABlock}(h:S.upd id b=some S'):S'.n=S.n∧∀j,S'.t.at j=if j=id then some b else S.t.at j:=by
 unfold Sh.upd at h
 split at h<;>simp only[p0,reduceCtorEq] at h
 rename_i t ht
 subst h
 exact⟨rfl,fun j=>Y8 ht j⟩
theorem zpr{S S':Sh}{id:Id}(h:S.cut id=some S'):S'.n=S.n∧∀j,S'.t.at j=if j=id then none else S.t.at j:=by
 unfold Sh.cut at h
 split at h<;>simp only[p0,reduceCtorEq] at h
 rename_i t ht
 subst h
 exact⟨rfl,fun j=>Y8 ht j⟩
def ztf:List Id→Bool
 |[]=>true
 |x::r=>!(r.any (z7w x))&&ztf r
theorem z73:∀ {l:List Id},ztf l=true→l.Nodup
 |[],_=>List.nodup_nil
 |x::r,h=>by
  simp only[ztf,p9,Bool.not_eq_true',List.any_eq_false] at h
  refine List.nodup_cons.2 ⟨fun hx=>?_,z73 h.2⟩
  exact h.1 x hx (by simp[z7w])
theorem z7y{L:AHeap}{id:Id}(h:id∉L.map (·.1)):L.get id=none:=by
 cases hg:L.get id with
 |none=>rfl
 |some b=>exact absurd (pK.2 ⟨_,u5 hg,rfl⟩) h
theorem z7c:∀ {L:AHeap} {S S':Sh},zrs L S=some S'→(L.map (·.1)).Nodup→S'.n=S.n∧∀j,S'.t.at j=match L.get j with|some b=>some b|none=>S.t.at j
 |[],S,S',h,_=>by simp only[zrs,p0] at h;subst h;exact⟨rfl,fun j=>rfl⟩
 |(id,b)::r,S,S',h,hn=>by
  simp only[zrs] at h
  split at h<;>try (cases h;done)
  rename_i S2 h2
  simp only[List.map_cons,List.nodup_cons] at hn
  obtain⟨g1,g2⟩:=zok h2
  obtain⟨k1,k2⟩:=z7c h hn.2
  refine⟨k1.trans g1,fun j=>?_⟩
  rw[k2 j,g2 j]
  by_cases hj:id=j
  ·subst hj
   rw[AHeap.get_cons_same,z7y hn.1,if_pos rfl]
  ·rw[AHeap.get_cons_other _ _ hj,if_neg (fun e=>hj e.symm)]
theorem z7e:∀ {L:List Id} {S S':Sh},zrx L S=some S'→S'.n=S.n∧∀j,S'.t.at j=if j∈L then none else S.t.at j
 |[],S,S',h=>by simp only[zrx,p0] at h;subst h;exact⟨rfl,fun j=>by simp⟩
 |id::r,S,S',h=>by
  simp only[zrx] at h
  split at h<;>try (cases h;done)
  rename_i S2 h2
  obtain⟨g1,g2⟩:=zpr h2
  obtain⟨k1,k2⟩:=z7e h
  refine⟨k1.trans g1,fun j=>?_⟩
  rw[k2 j,g2 j]
  by_cases hj:j=id
  ·subst hj;simp
  ·by_cases hr:j∈r<;>simp[hj,hr]
def inT(t:Tr ABlock)(L:AHeap):Bool:=L.all fun x=>match t.at x.1 with
 |some b=>eqB b x.2
 |none=>false
def inF(Fs:List Id)(id:Id):Bool:=Fs.any (z7w id)
def inK(L:AHeap)(id:Id):Bool:=L.any fun x=>z7w x.1 id
theorem Wk{Fs:List Id}{id:Id}(h:inF Fs id=true):id∈Fs:=by
 obtain⟨x,h1,h2⟩:=List.any_eq_true.1 h
 rwa [Zu h2]
theorem Ut{L:AHeap}{id:Id}(h:inK L id=true):id∈L.map (·.1):=by
 obtain⟨x,h1,h2⟩:=List.any_eq_true.1 h
 rw[←Zu h2]
 exact pK.2 ⟨x,h1,rfl⟩
theorem zoe{L:AHeap}{id:Id}(h:id∈L.map (·.1)):inK L id=true:=by
 obtain⟨x,h1,rfl⟩:=pK.1 h
 exact List.any_eq_true.2 ⟨x,h1,by simp[z7w]⟩
variable {P:Program} {F:Nat→Option LFn} {X:Nat→List AVal→Sh→Option Rs} {B:Nat→Option (Bool×Nat)}
def zwy(C:Nat→List AVal→Sh→Rs)(f:Nat)(args0:List AVal)(L0:AHeap)(n0:Nat)(r:AVal)(L1:AHeap)(d:Nat):Bool:=
 match zrs L0 ⟨.nil,n0⟩ with
 |some S0=>match C f args0 S0 with
  |some (r',S1)=>eqA r' r&&pA S1.n (n0+d)&&inT S1.t L1
  |none=>false
 |none=>false
def zwp(L0:AHeap)(n0:Nat)(r:AVal)(L1:AHeap)(d:Nat):Bool:=
 ztf (L0.map (·.1))&&ztf (L1.map (·.1))&&(L0.all fun x=>pB (x.1.1+1) n0)&&(r.inP fun id=>(pB n0 id.1&&pB (id.1+1) (n0+d)) || inK L0 id) &&
  (L1.all fun x=>((pB n0 x.1.1&&pB (x.1.1+1) (n0+d)) || inK L0 x.1)&&okB (fun id=>(pB n0 id.1&&pB (id.1+1) (n0+d)) || inK L0 id) x.2)
section
variable {L0 L1:AHeap} {n0 d:Nat} {r:AVal}
def z06(L0:AHeap)(n0 d:Nat)(id:Id):Bool:=(pB n0 id.1&&pB (id.1+1) (n0+d)) || inK L0 id
structure Sta(L0:AHeap)(n0:Nat)(r:AVal)(L1:AHeap)(d:Nat):Prop where
 n1:(L0.map (·.1)).Nodup
 n2:(L1.map (·.1)).Nodup
 lt:∀x∈L0,x.1.1<n0
 r:r.inP (z06 L0 n0 d)=true
 l:∀x∈L1,z06 L0 n0 d x.1=true∧okB (z06 L0 n0 d) x.2=true
theorem zqb(h:zwp L0 n0 r L1 d=true):Sta L0 n0 r L1 d:=by
 unfold zwp at h
 simp only[p9] at h
 obtain⟨⟨⟨⟨h1,h2⟩,h3⟩,h4⟩,h5⟩:=h
 refine⟨z73 h1,z73 h2,fun x hx=>pE (pF.1 h3 x hx),h4,fun x hx=>?_⟩
 have:=pF.1 h5 x hx
 simp only[p9] at this
 exact this
theorem Jt(hs:∀x∈L0,x.1.1<n0){id:Id}(h:z06 L0 n0 d id=true):id.1<n0+d:=by
 unfold z06 at h
 simp only[Bool.or_eq_true,p9] at h
 rcases h with h|h
 ·exact pE h.2
 ·obtain⟨x,h1,rfl⟩:=pK.1 (Ut h)
  exact Nat.lt_of_lt_of_le (hs x h1) (Nat.le_add_right _ _)
theorem zee{C:Nat→List AVal→Sh→Rs}(hC:Xx P C){f:Nat}{args0:List AVal}(h:zwy C f args0 L0 n0 r L1 d=true)(hs:Sta L0 n0 r L1 d):ACalls P (.func f) args0 L0 n0 (Z6 (n0+d) r L1):=by
 unfold zwy at h
 split at h<;>try (cases h;done)
 rename_i S0 hS0
 split at h<;>try (cases h;done)
 rename_i r' S1 hrun
 simp only[p9,zq] at h
 obtain⟨⟨h1,h2⟩,h3⟩:=h
 have:=Vr h1
 subst this
 obtain⟨g1,g2⟩:=z7c hS0 hs.n1
 have hst:StR (fun _=>none) L0 n0 S0:=by
  refine⟨g1.symm,fun id b hb=>?_,fun id b hb=>by cases hb⟩
  rw[g2 id] at hb
  cases hg:AHeap.get L0 id with
  |some c=>rw[hg] at hb;exact hb
  |none=>
   rw[hg] at hb
   have:(⟨.nil,n0⟩:Sh).t.at id=none:=by
    show Tr.at .nil id=none
    unfold Tr.at
    split
    ·rename_i k _;rfl
    ·rfl
   simp only at hb
   rw[this] at hb;cases hb
 refine((hC f args0 S0 _ _ hrun L0 n0 hst).mono fun r'' H' n' hk=>?_).fin
 obtain⟨rfl,hst1⟩:=hk
 have hfix:∀id:Id,z06 L0 n0 d id=true→(fun i:Id=>i) id=id:=fun _ _=>rfl
 refine⟨fun _=>false,fun id=>if id.1<n0+d then some id else none,⟨fun i j k hi hj=>?_,fun i k hi=>?_,fun i hi=>?_,fun i k hi hk=>?_,Nat.le_add_right _ _⟩,?_,fun id blk hb=>?_⟩
 ·have hi:(if i.1<n0+d then some i else none)=some k:=hi
  have hj:(if j.1<n0+d then some j else none)=some k:=hj
  split at hi<;>simp only[p0,reduceCtorEq] at hi
  split at hj<;>simp only[p0,reduceCtorEq] at hj
  rw[hi,hj]
 ·have hi:(if i.1<n0+d then some i else none)=some k:=hi
  split at hi<;>simp only[p0,reduceCtorEq] at hi
  subst hi;assumption
 ·exact .inl ⟨if_pos (by omega),rfl⟩
 ·have hk:(if i.1<n0+d then some i else none)=some k:=hk
  split at hk<;>simp only[p0,reduceCtorEq] at hk
  subst hk;exact .inl hi
 ·have:=Vw.mov (F:=fun _=>false) (H:=H') (ρ:=fun id:Id=>if id.1<n0+d then some id else none) (n:=n0+d) (z06 L0 n0 d) (fun i=>i) r'' hs.r (fun id hid=>⟨Jt hs.lt hid,if_pos (Jt hs.lt hid)⟩)
  rwa [z0j] at this
 ·obtain⟨q1,q2⟩:=hs.l _ (u5 hb)
  have hlt:=Jt hs.lt q1
  have hin:=pF.1 h3 _ (u5 hb)
  simp only at hin
  split at hin<;>try (cases hin;done)
  rename_i b hb2
  have hH:=hst1.h _ _ hb2
  have e:=zt9 hin
  subst e
  have hlt:id.1<n0+d:=hlt
  unfold Yx
  simp only[hlt,if_true,hH]
  refine⟨trivial,?_⟩
  have:=BVw.mov (F:=fun _=>false) (H:=H') (ρ:=fun id:Id=>if id.1<n0+d then some id else none) (n:=n0+d) (z06 L0 n0 d) (fun i=>i) b (zof q2) (fun id hid=>⟨Jt hs.lt hid,if_pos (Jt hs.lt hid)⟩)
  rwa [zb9 hfix q2] at this
end
def zar(f0:Nat)(Fs:List Id)(args0:List AVal)(L0:AHeap)(n0:Nat)(r:AVal)(L1:AHeap)(d:Nat)(f:Nat)(xs:List AVal)(S:Sh):Option Rs:=
 match pA f f0 with
 |true=>match pA S.n n0&&Fs.all (fun id=>match S.t.at id with|some _=>true|none=>false)&&(L0.all fun x=>match S.t.at x.1 with|some b=>!(inF Fs x.1)&&zvm (inF Fs) (inK L0) S.t.at b x.2|none=>false)&&zfj (inF Fs) (inK L0) S.t.at xs args0 with
  |true=>match zrx (Fs++L0.map (·.1)) S with
   |some S2=>match zrs L1 S2 with
    |some S3=>some (some (r,⟨S3.t,n0+d+1⟩))
    |none=>none
   |none=>none
  |false=>none
 |false=>none
theorem ue{C:Nat→List AVal→Sh→Rs}(hC:Xx P C){f0:Nat}{Fs:List Id}{args0:List AVal}{L0 L1:AHeap}{n0 d:Nat}{r:AVal}(hrun:zwy C f0 args0 L0 n0 r L1 d=true)(hsta:zwp L0 n0 r L1 d=true):j7 P (zar f0 Fs args0 L0 n0 r L1 d):=by
 have hs:=zqb hsta
 have hcall:=zee hC hrun hs
 intro f xs S r' S' h D H n hst
 unfold zar at h
 split at h<;>try (cases h;done)
 rename_i hf
 split at h<;>try (cases h;done)
 rename_i hc
 split at h<;>try (cases h;done)
 rename_i S2 hS2
 split at h<;>try (cases h;done)
 rename_i S3 hS3
 simp only[p0,pD] at h
 obtain⟨rfl,rfl⟩:=h
 have e1:=pH hf
 subst e1
 simp only[p9,zq] at hc
 obtain⟨⟨⟨hn,hFs⟩,hL0⟩,hargs⟩:=hc
 have hnn:n=n0:=hst.n.trans hn
 subst hnn
 have hFs':∀id∈Fs,∃b,S.t.at id=some b:=fun id hid=>by
  have:=pF.1 hFs id hid
  split at this
  ·rename_i b hb;exact⟨b,hb⟩
  ·cases this
 have hL0':∀x∈L0,∃b,S.t.at x.1=some b∧inF Fs x.1=false∧zvm (inF Fs) (inK L0) S.t.at b x.2=true:=fun x hx=>by
  have:=pF.1 hL0 x hx
  split at this
  ·rename_i b hb
   simp only[p9,Bool.not_eq_true'] at this
   exact⟨b,hb,this.1,this.2⟩
  ·cases this
 let ρ:Id→Option Id:=fun id=>if inK L0 id=true then some id else none
 have hρ:∀id,inK L0 id=true→ρ id=some id:=fun id h=>if_pos h
 have hρ':∀ {i x},ρ i=some x→x=i∧inK L0 i=true:=fun {i x} h=>by
  simp only[ρ] at h
  split at h<;>simp only[p0,reduceCtorEq] at h
  exact⟨h.symm,by assumption⟩
 have hup:∀id:Id,z06 L0 n d id=true→Wu ρ n n d id=id:=fun id hid=>by
  unfold Wu
  unfold z06 at hid
  simp only[Bool.or_eq_true,p9] at hid
  rcases hid with hid|hid
  ·have:=pE hid.1
   rw[if_neg (by omega)]
   exact Prod.ext (by simp only;omega) rfl
  ·obtain⟨x,h1,h2⟩:=pK.1 (Ut hid)
   have:=hs.lt x h1
   rw[h2] at this
   rw[if_pos this,hρ id hid];rfl
 obtain⟨c1,c2⟩:=z7e hS2
 obtain⟨p1,p2⟩:=z7c hS3 hs.n2
 refine ACalls.frame (k:=n) (m:=d) (F:=inF Fs) (ρ:=ρ) (H0:=L0) hcall (fun i j x hi hj=>?_) (fun i x hi=>?_) (fun x hx=>?_) ?_ (fun i b hb=>?_) (fun x=>inF Fs x || inK L0 x) (fun x=>?_) hs.n2 ?_
 ·exact(hρ' hi).1.symm.trans (hρ' hj).1
 ·obtain⟨rfl,hk⟩:=hρ' hi
  obtain⟨y,h1,rfl⟩:=pK.1 (Ut hk)
  obtain⟨b,_,h3,_⟩:=hL0' y h1
  exact⟨hs.lt y h1,hs.lt y h1,h3⟩
 ·obtain⟨b,hb⟩:=hFs' x (Wk hx)
  rw[hst.h _ _ hb];nofun
 ·have:=Yi (F:=inF Fs) (K:=inK L0) (h:=S.t.at) (H:=H) (ρ:=ρ) (n:=n) hst.h hρ xs args0 hargs
  clear hargs hcall hrun
  obtain⟨g1,g2⟩:=this
  revert g1 g2
  generalize args0=ys
  induction xs generalizing ys with
  |nil=>
   intro g1 _
   cases ys with
   |nil=>trivial
   |cons=>simp at g1
  |cons x xs ih=>
   intro g1 g2
   cases ys with
   |nil=>simp at g1
   |cons y ys=>exact⟨g2 0 x y rfl rfl,ih ys (by simpa using g1) (fun i a b h1 h2=>g2 (i+1) a b (by simpa using h1) (by simpa using h2))⟩
 ·obtain⟨b',hb',_,hck⟩:=hL0' _ (u5 hb)
  exact⟨i,b',hρ i (zoe (pK.2 ⟨_,u5 hb,rfl⟩)),hst.h _ _ hb',zou hst.h hρ hck⟩
 ·simp only[Bool.or_eq_true]
  constructor
  ·rintro(h|h)
   ·exact .inl h
   ·exact .inr ⟨x,hρ x h⟩
  ·rintro(h|⟨i,hi⟩)
   ·exact .inl h
   ·obtain⟨rfl,hk⟩:=hρ' hi;exact .inr hk
 ·have hren:AHeap.renamed (Wu ρ n n d) L1=L1:=by
   unfold AHeap.renamed
   refine List.ext_getElem? fun i=>?_
   rw[pL]
   cases h:L1[i]? with
   |none=>rfl
   |some x=>
    obtain⟨q1,q2⟩:=hs.l x (q9 h)
    simp only[pJ]
    rw[hup _ q1,zb9 hup q2]
  rw[hren,z3m hup r hs.r]
  refine⟨rfl,rfl,fun id b hb=>?_,fun id b hb=>?_⟩
  ·rw[p2 id] at hb
   rw[AHeap.get_append]
   cases hg:AHeap.get L1 id with
   |some c=>rw[hg] at hb;simpa using hb
   |none=>
    rw[hg] at hb
    simp only at hb
    rw[c2 id] at hb
    split at hb
    ·cases hb
    ·rename_i hni
     rw[Option.none_or,AHeap.get_without,if_neg (fun hx=>hni ?_)]
     ·exact hst.h _ _ hb
     ·simp only[Bool.or_eq_true] at hx
      rcases hx with hx|hx
      ·exact List.mem_append_left _ (Wk hx)
      ·exact List.mem_append_right _ (Ut hx)
  ·obtain⟨d1,d2,d3⟩:=hst.d _ _ hb
   have hnF:inF Fs id=false:=by
    cases hx:inF Fs id with
    |false=>rfl
    |true=>obtain⟨b',hb'⟩:=hFs' id (Wk hx);rw[d2] at hb';cases hb'
   have hnK:inK L0 id=false:=by
    cases hx:inK L0 id with
    |false=>rfl
    |true=>
     obtain⟨y,h1,h2⟩:=pK.1 (Ut hx)
     obtain⟨b',hb',_⟩:=hL0' y h1
     rw[h2,d2] at hb';cases hb'
   have hn1:AHeap.get L1 id=none:=by
    cases hg:AHeap.get L1 id with
    |none=>rfl
    |some c=>
     have:=(hs.l _ (u5 hg)).1
     unfold z06 at this
     simp only[Bool.or_eq_true,p9,hnK,pR,or_false] at this
     have:=pE this.1
     omega
   refine⟨?_,?_,by omega⟩
   ·rw[AHeap.get_append,hn1,Option.none_or,AHeap.get_without,if_neg (by simp[hnF,hnK])]
    exact d1
   ·rw[p2 id,hn1]
    simp only
    rw[c2 id]
    split
    ·rfl
    ·exact d2
def z9o(f0:Nat)(Fs:Nat→List Id)(args0:List AVal)(R:AVal)(f:Nat)(xs:List AVal)(S:Sh):Option Rs:=
 match pA f f0 with
 |true=>match (Fs S.n).all (fun id=>match S.t.at id with|some _=>true|none=>false)&&zfj (inF (Fs S.n)) (fun _=>false) S.t.at xs args0 with
  |true=>match zrx (Fs S.n) S with
   |some S2=>some (some (R,S2))
   |none=>none
  |false=>none
 |false=>none
theorem uh{f0:Nat}{Fs:Nat→List Id}{args0:List AVal}{R:AVal}(hP:PFn P f0 args0 R):j7 P (z9o f0 Fs args0 R):=by
 intro f xs S r' S' h D H n hst
 unfold z9o at h
 split at h<;>try (cases h;done)
 rename_i hf
 split at h<;>try (cases h;done)
 rename_i hc
 split at h<;>try (cases h;done)
 rename_i S2 hS2
 simp only[p0,pD] at h
 obtain⟨rfl,rfl⟩:=h
 have e1:=pH hf
 subst e1
 simp only[p9] at hc
 obtain⟨hFs,hargs⟩:=hc
 have hFs':∀id∈Fs S.n,∃b,S.t.at id=some b:=fun id hid=>by
  have:=pF.1 hFs id hid
  split at this
  ·rename_i b hb;exact⟨b,hb⟩
  ·cases this
 obtain⟨c1,c2⟩:=z7e hS2
 refine PFn.use hP (F:=inF (Fs S.n)) ?_ (fun x hx=>?_) ⟨rfl,hst.n.trans c1.symm,fun id b hb=>?_,fun id b hb=>?_⟩
 ·have:=Yi (F:=inF (Fs S.n)) (K:=fun _=>false) (h:=S.t.at) (H:=H) (ρ:=fun _=>none) (n:=0) hst.h (fun _ h=>by cases h) xs args0 hargs
  clear hargs hP
  obtain⟨g1,g2⟩:=this
  revert g1 g2
  generalize args0=ys
  induction xs generalizing ys with
  |nil=>
   intro g1 _
   cases ys with
   |nil=>trivial
   |cons=>simp at g1
  |cons x xs ih=>
   intro g1 g2
   cases ys with
   |nil=>simp at g1
   |cons y ys=>exact⟨g2 0 x y rfl rfl,ih ys (by simpa using g1) (fun i a b h1 h2=>g2 (i+1) a b (by simpa using h1) (by simpa using h2))⟩
 ·obtain⟨b,hb⟩:=hFs' x (Wk hx)
  rw[hst.h _ _ hb];nofun
 ·rw[c2 id] at hb
  split at hb
  ·cases hb
  ·rename_i hni
   rw[AHeap.get_without,if_neg (fun hx=>hni (Wk hx))]
   exact hst.h _ _ hb
 ·obtain⟨d1,d2,d3⟩:=hst.d _ _ hb
  refine⟨?_,?_,d3⟩
  ·rw[AHeap.get_without,if_neg (fun hx=>?_)]
   ·exact d1
   ·obtain⟨b',hb'⟩:=hFs' id (Wk hx);rw[d2] at hb';cases hb'
  ·rw[c2 id]
   split
   ·rfl
   ·exact d2
def zxu(C:Nat→List AVal→Sh→Rs)(f:Nat)(aq:List AVal)(R:AVal):Bool:=match C f aq ⟨.nil,0⟩ with
 |some (r,S1)=>zrz (fun _=>true) (fun _=>false) S1.t.at r R
 |none=>false
theorem ws{C:Nat→List AVal→Sh→Rs}(hC:Xx P C){f:Nat}{aq:List AVal}{R:AVal}(hR:R.nid=true)(h:zxu C f aq R=true):PFn P f aq R:=by
 unfold zxu at h
 split at h<;>try (cases h;done)
 rename_i r S1 hx
 refine⟨hR,0,((hC f aq _ _ _ hx [] 0 StR.empty).mono fun r' H' n' hk=>?_).fin⟩
 obtain⟨rfl,hs⟩:=hk
 exact⟨fun _=>true,fun _=>none,⟨fun i j k h=>(by cases h),fun i k h=>(by cases h),fun i h=>absurd h (Nat.not_lt_zero _),fun i k _ h=>(by cases h),pG _⟩,z2d hs.h (fun _ h=>by cases h) _ _ h,fun id blk h=>by cases h⟩
end Go.Fx
namespace Go.Fx
variable {P:Program}
def z0g(l:List Nat):Option LFn→Option LFn
 |some fn=>match Zt l fn.lay.n fn.body with
  |true=>some fn
  |false=>none
 |none=>none
theorem zir{l:List Nat}(hl:∀f∈l,z88 P f){o:Option LFn}{fn:LFn}(h:z0g l o=some fn):o=some fn∧Ya P fn.lay.n fn.body:=by
 cases o with
 |none=>cases h
 |some g=>
  simp only[z0g] at h
  split at h<;>try (cases h;done)
  rename_i hc
  cases h
  exact⟨rfl,ku hl hc⟩
def mkF(P:Program)(f:Nat):Option LFn:=match P.funcs[f]? with
 |some fn=>match fn.body.isSome&&!(fn.name=="runtime.NumGoroutine") with
  |true=>z0g [] (w4 P (qC fn.ntmps) f)
  |false=>none
 |none=>none
def noX:Nat→List AVal→Sh→Option Rs:=fun _ _ _=>none
def zxm(fw fs:Nat)(T e:TypeId)(f:Nat)(aq:List AVal)(S:Sh):Option Rs:=
 match pA f fw with
 |true=>match aq with
  |[.ptr b 0 0,.str s]=>match S.t.at b with
   |some (.bld T' g)=>match S.t.at g with
    |some (.buf e' bs)=>match pA T' T&&pA e' e&&pB (bs.length+s.length) 140737488355328 with
     |true=>match S.upd b (.bld T (S.n,0)) with
      |some S1=>match S1.cut g with
       |some S2=>some (Zh (.tup [.int .i64 (s.length:Int),.val .nilIface]) (S2.new (.buf e (bs++s))))
       |none=>some none
      |none=>some none
     |false=>some none
    |_=>some none
   |_=>some none
  |_=>some none
 |false=>match pA f fs with
  |true=>match aq with
   |[.ptr b 0 0]=>match S.t.at b with
    |some (.bld T' g)=>match S.t.at g with
     |some (.buf e' bs)=>match pA T' T&&pA e' e&&pB bs.length 9223372036854775807 with
      |true=>some (some (.str bs,S))
      |false=>some none
     |_=>some none
    |_=>some none
   |_=>some none
  |false=>none
theorem zoz{fw fs:Nat}{T e tb ts:TypeId}(hW:BWrite P fw T e tb ts)(hS:BStr P fs T e):j7 P (zxm fw fs T e):=by
 intro f aq S r S' h D H n hs
 unfold zxm at h
 split at h
 ·rename_i hf
  have hf:=zq.1 hf
  subst hf
  split at h<;>try (cases h;done)
  rename_i b s
  split at h<;>try (cases h;done)
  rename_i T' g hb
  split at h<;>try (cases h;done)
  rename_i e' bs hg
  split at h<;>try (cases h;done)
  rename_i hc
  simp only[p9,zq,xp] at hc
  obtain⟨⟨rfl,rfl⟩,hlen⟩:=hc
  split at h<;>try (cases h;done)
  rename_i S1 h1
  split at h<;>try (cases h;done)
  rename_i S2 h2
  simp only[p0] at h
  obtain⟨rfl,hw⟩:=jn h
  have r1:=hs.upd hb h1
  obtain⟨gc,hgc⟩:=Sh.upd_at h1 hg
  have r2:=r1.cut hgc h2
  have r3:=r2.new hw
  replace hb:=hs.h _ _ hb
  replace hg:=hs.h _ _ hg
  rw[←hs.n] at r3
  exact z0a hW hb hg hlen ⟨rfl,r3⟩
 ·split at h<;>try (cases h;done)
  rename_i hf
  have hf:=zq.1 hf
  subst hf
  split at h<;>try (cases h;done)
  rename_i b
  split at h<;>try (cases h;done)
  rename_i T' g hb
  split at h<;>try (cases h;done)
  rename_i e' bs hg
  split at h<;>try (cases h;done)
  rename_i hc
  simp only[p9,zq,xp] at hc
  obtain⟨⟨rfl,rfl⟩,hlen⟩:=hc
  simp only[p0,pD] at h
  obtain⟨rfl,rfl⟩:=h
  replace hb:=hs.h _ _ hb
  replace hg:=hs.h _ _ hg
  exact z1v hS hb hg hlen ⟨rfl,hs⟩
end Go.Fx
namespace Go.Fx
noncomputable def zyk{ρ:Type}(l:List Nat)(F:Nat→Option ρ):Option ρ:=match l with
 |[]=>none
 |[j]=>F j
 |l=>by classical exact if h:∃r,∀j∈l,F j=some r then some (Classical.choose h) else none
section
variable {σ ρ:Type} (N:Nat) (b:Nat→σ→Option (σ ⊕ ρ)) (d:σ→Option (σ ⊕ ρ))
def zw8(seen:List Nat):List Nat:=(qC N).filter fun j=>!seen.contains j
noncomputable def ztd:Nat→List Nat→σ→Option ρ
 |0,_,_=>none
 |k+1,seen,s=>match zw8 N seen with
  |[]=>(d s).bind fun o=>match o with
   |.inl _=>none
   |.inr r=>some r
  |l=>zyk l fun j=>(b j s).bind fun o=>match o with
   |.inl s'=>ztd k (j::seen) s'
   |.inr r=>some r
def zsi:List Nat→σ→Option ρ
 |[],s=>(d s).bind fun o=>match o with
  |.inl _=>none
  |.inr r=>some r
 |j::l,s=>(b j s).bind fun o=>match o with
  |.inl s'=>zsi l s'
  |.inr r=>some r
variable {N b d}
end
variable {P:Program} {N:Lay} {n0:Nat}
def zyj{σ ρ:Type}(n0 nL:Nat)(F:Nat→List Nat→σ→Option ρ)(env:List Nat→σ→Env)(hp:List Nat→σ→AHeap)(QX:ρ→Exit→Env→AHeap→Nat→Prop)(k:Nat)(r:ρ):Exit→Env→AHeap→Nat→Prop:=fun ex e H n=>
 (ex=.normal∧∃seen s,F k seen s=some r∧Sim n0 e H n (env seen s) (hp seen s) nL)∨(ex≠.normal∧QX r ex e H n)
end Go.Fx
namespace Go.Fx
open Go.Shelf Go.RowKit Go.Lib Go.Sort Go.Proofs
def zs2:AVal→Value
 |.bool b=>.bool b
 |.int k n=>.int k n
 |.str l=>.string ⟨⟨l⟩⟩
 |_=>.nilFunc
def z5f:AVal→Bool
 |.bool _=>true
 |.int _ _=>true
 |.str _=>true
 |_=>false
section
variable {I:Nat→Nat→Prop} {β:Id→Option CLoc} {n:Nat} {H:AHeap} {w w':World}
theorem zaa{x:AVal}(h:z5f x=true){v:Value}(hr:Rep I β n w x v):v=zs2 x:=by
 cases x with
 |bool b=>exact hr.bool_inv
 |int k m=>exact hr.int_inv
 |str l=>exact hr.str_inv
 |_=>cases h
theorem zx0{x:AVal}(h:z5f x=true):RepI I w x (zs2 x):=by
 cases x with
 |bool b=>exact .bool b
 |int k m=>exact .int k m
 |str l=>exact .str l
 |_=>cases h
theorem zlr{x:AVal}(h:z5f x=true):x.nid=true:=by
 cases x with
 |bool b=>rfl
 |int k m=>rfl
 |str l=>rfl
 |_=>cases h
theorem zke(hI:Inv I β n H w)(hc:Chg w w' fun _ _=>False):Inv I β n H w'∧Ext I β n H w I β n H w':=
 wk hI hc (pG n) (fun _ _ h=>h.elim) (fun _ _ h=>h) (fun _ _ h h'=>absurd h h') (fun id hid=>.inl rfl)
  (fun id d b' k hid hd _=>by rw[hI.fresh id hid] at hd;cases hd) hI.fresh (fun i j d d' b' k hi hj h h' _=>hI.inj i j d d' b' k hi hj h h') (fun _ _ _ _ _ _ h=>h) (fun _ _ h=>h) (fun id blk h=>.inl ⟨h,rfl,fun _ _ _ _ _ h=>h⟩)
theorem zm5(n:Nat)(os:Array Obj):Chg w (grow (w.drewN n) os) fun _ _=>False:=by
 refine⟨rfl,⟨rfl,fun _=>Nat.le_add_right _ _⟩,rfl,by simp,fun b hb _=>heap_grow_old _ os hb,fun b k hb _=>?_,fun b arr el fr h=>⟨arr,?_,rfl⟩,fun b o ho h _=>?_⟩
 ·exact cell?_of_heap (heap_grow_old (w.drewN n) os hb)
 all_goals
  have hlt:b<w.heap.size:=by
   rcases pY b w.heap.size with h'|h'
   ·exact h'
   ·rw[pQ h'] at h;cases h
  rw[show(grow (w.drewN n) os).heap[b]?=w.heap[b]? from heap_grow_old (w.drewN n) os hlt];exact h
theorem PFn.lib{P:Program}{f:FuncId}{args:List AVal}{R:AVal}(hok:uc P f)(ha:args.all z5f=true)(hR:z5f R=true)
 (h:∀w,Calls P f (args.map zs2).toArray w fun e w'=>e=.returned (zs2 R)∧∃n os,w'=grow (w.drewN n) os):PFn P f args R:=by
 refine⟨zlr hR,0,hok,fun I β w vs hI hl hr=>?_⟩
 have hvs:vs=args.map zs2:=by
  refine List.ext_getElem (by rw[q7];exact hl) fun i h1 h2=>?_
  have h3:i<args.length:=by omega
  have:=hr i args[i] vs[i] (pM h3) (pM h1)
  rw[List.getElem_map]
  exact zaa (pF.1 ha _ (List.getElem_mem h3)) this
 subst hvs
 refine(h w).mono ?_
 rintro e w' ⟨rfl,q,os,rfl⟩
 obtain⟨g1,g2⟩:=zke hI (zm5 q os)
 exact⟨R,_,[],0,I,β,rfl,⟨rfl,rfl,rfl⟩,g1,.imm _ _ (zx0 hR),g2⟩
theorem zfw{w w':World}(h:w'=w):∃n os,w'=grow (w.drewN n) os:=⟨0,#[],by rw[h,grow_empty];rfl⟩
end
end Go.Fx
namespace Go.Fx
open Go.Shelf Go.RowKit Go.Lib Go.Sort Go.Proofs
def zxx:List Value:=(qC 256).map fun c=>.int .u8 (firstT c)
def zws:List Value:=(qC 32).map fun j=>.int .u8 (if j % 2=0 then accLo (j / 2) else accHi (j / 2))
def zs0(k:IntKind)(zs:List Int):List Value:=zs.map fun z=>.int k z
theorem zkc{P:Program}{g:Nat}{nm:String}{k:IntKind}{zs:List Int}(hg:P.globalNamed nm=some g){w:World}(h:Lib.TabIs P w nm k zs) :
 (∃arr el fr,w.heap[g]?=some (.cells arr el fr)∧arr.size=(zs0 k zs).length)∧∀ (i:Nat) (v:Value),(zs0 k zs)[i]?=some v→(∃v,w.cell? ⟨g,i,none⟩=some v)∧w.cell? ⟨g,i,none⟩=some v:=by
 unfold Lib.TabIs World.var? at h
 rw[hg,Option.bind_some] at h
 split at h<;>try (cases h;done)
 rename_i cs el fr hw
 simp only[p0] at h
 subst h
 refine⟨⟨_,_,_,hw,by simp[zs0]⟩,fun i v hv=>?_⟩
 have:w.cell? ⟨g,i,none⟩=some v:=by
  unfold qD
  simp only[hw]
  rw[←hv]
  simp[zs0]
 exact⟨⟨_,this⟩,this⟩
end Go.Fx
namespace Go.Fx
open Go.Shelf
variable {P:Program}
def orX(X1 X2:Nat→List AVal→Sh→Option Rs):Nat→List AVal→Sh→Option Rs:=fun f xs S=>match X1 f xs S with
 |some r=>some r
 |none=>X2 f xs S
theorem wi{X1 X2:Nat→List AVal→Sh→Option Rs}(h1:j7 P X1)(h2:j7 P X2):j7 P (orX X1 X2):=by
 intro f xs S r S' h
 unfold orX at h
 split at h
 ·rename_i h'
  simp only[p0] at h
  subst h
  exact h1 f xs S r S' h'
 ·exact h2 f xs S r S' h
def zyc(fb fl:Nat)(T e:TypeId)(f:Nat)(xs:List AVal)(S:Sh):Option Rs:=
 match pA f fb with
 |true=>match xs with
  |[.ptr b 0 0,.int .u8 (.ofNat k)]=>match S.t.at b with
   |some (.bld T' g)=>match S.t.at g with
    |some (.buf e' bs)=>match pA T' T&&pA e' e&&pB (bs.length+1) 140737488355328&&pB k 255 with
     |true=>match S.upd b (.bld T (S.n,0)) with
      |some S1=>match S1.cut g with
       |some S2=>some (Zh (.val .nilIface) (S2.new (.buf e (bs++[UInt8.ofNat k]))))
       |none=>some none
      |none=>some none
     |false=>some none
    |_=>some none
   |_=>some none
  |_=>some none
 |false=>match pA f fl with
  |true=>match xs with
   |[.ptr b 0 0]=>match S.t.at b with
    |some (.bld T' g)=>match S.t.at g with
     |some (.buf _ bs)=>match pA T' T with
      |true=>some (some (.int .i64 (bs.length:Int),S))
      |false=>some none
     |_=>some none
    |_=>some none
   |_=>some none
  |false=>none
def zx3(fc s:Nat)(f:Nat)(xs:List AVal)(S:Sh):Option Rs:=
 match pA f fc with
 |true=>match xs with
  |[.isl s' [] _]=>match pA s' s with
   |true=>some (some (.isl s [] false,S))
   |false=>none
  |[.val (.slice none 0 0)]=>some (some (.isl s [] false,S))
  |[.msl _ _ _ 0 _]=>some (some (.isl s [] false,S))
  |_=>none
 |false=>none
def zuo:List UInt8→Bool
 |[]=>true
 |b::r=>match pB b.toNat 127 with
  |true=>zuo r
  |false=>false
def zy1(fv:Nat)(f:Nat)(xs:List AVal)(S:Sh):Option Rs:=
 match pA f fv with
 |true=>match xs with
  |[.str s]=>match zuo s&&pB s.length 9223372036854775807 with
   |true=>some (some (.bool true,S))
   |false=>match pB s.length 9223372036854775807 with
    |true=>some (some (.bool (Lib.validD s),S))
    |false=>none
  |_=>none
 |false=>none
def zk8(c:Nat):List UInt8→Bool
 |[]=>true
 |b::r=>match pA b.toNat c with
  |true=>false
  |false=>zk8 c r
theorem z8u{c:Nat}(hc:c≤255):∀ {l:List UInt8},zk8 c l=true→Lib.indexByte l c.toUInt8=-1
 |[],_=>rfl
 |b::r,h=>by
  unfold zk8 at h
  split at h<;>try (cases h;done)
  rename_i hb
  have hb:=pU hb
  unfold Lib.indexByte
  rw[z8u hc h]
  have:(b==c.toUInt8)=false:=by
   rw[beq_eq_false_iff_ne]
   intro he
   apply hb
   rw[he]
   simp[Nat.toUInt8]
   omega
  rw[this]
  rfl
def zfb(fi:Nat)(f:Nat)(xs:List AVal)(S:Sh):Option Rs:=
 match pA f fi with
 |true=>match xs with
  |[.str s,.int .u8 (.ofNat k)]=>match zk8 k s&&pB k 255 with
   |true=>some (some (.int .i64 (-1),S))
   |false=>some (some (.int .i64 (Lib.indexByte s k.toUInt8),S))
  |_=>none
 |false=>none
theorem zeq{fi:Nat}(h0:∀ (s:List UInt8) (c:Int),PFn P fi [.str s,.int .u8 c] (.int .i64 (Lib.indexByte s c.toNat.toUInt8))):j7 P (zfb fi):=by
 intro f xs S r S' h D H n hs
 unfold zfb at h
 split at h<;>try (cases h;done)
 rename_i hf
 have hf:=zq.1 hf
 subst hf
 split at h<;>try (cases h;done)
 rename_i s k
 have h1:=h0 s (.ofNat k)
 split at h
 ·rename_i hc
  simp only[p9,xp] at hc
  simp only[p0,pD] at h
  obtain⟨rfl,rfl⟩:=h
  have h2:=z8u hc.2 hc.1
  rw[show(Int.ofNat k).toNat=k from rfl,h2] at h1
  exact PFn.call h1 (And.intro (Vw.same _ rfl) (And.intro (Vw.same _ rfl) trivial)) ⟨rfl,hs⟩
 ·simp only[p0,pD] at h
  obtain⟨rfl,rfl⟩:=h
  exact PFn.call h1 (And.intro (Vw.same _ rfl) (And.intro (Vw.same _ rfl) trivial)) ⟨rfl,hs⟩
theorem z5m{P:Program}{ρ:Ren}(L:Proofs.Lays.n137 P ρ){f:FuncId}(hf:ρ.f 137=f)(hok:uc P f)(s:List UInt8)(c:Int) :
 PFn P f [.str s,.int .u8 c] (.int .i64 (Lib.indexByte s c.toNat.toUInt8)):=by
 subst hf
 exact PFn.lib hok rfl rfl fun w=>(Proofs.Any.strings_IndexByte L ⟨⟨s⟩⟩ c w).mono fun e w' h=>⟨h.1,zfw h.2⟩
def zyr(P:Program)(l:List Nat)(f:Nat):Option LFn:=match l.any fun i=>pA i f with
 |false=>mkF P f
 |true=>match P.funcs[f]? with
  |some fn=>match fn.body.isSome&&!(fn.name=="runtime.NumGoroutine") with
   |true=>z0g [] (w4 P [] f)
   |false=>none
  |none=>none
def zyp(P:Program)(z l:List Nat)(f:Nat):Option LFn:=match P.funcs[f]? with
 |some fn=>match fn.body.isSome&&!(fn.name=="runtime.NumGoroutine") with
  |true=>match l.any fun i=>pA i f with
   |true=>z0g z (w4 P [] f)
   |false=>z0g z (w4 P (qC fn.ntmps) f)
  |false=>none
 |none=>none
def zlx(u:List (Nat×List Nat))(f:Nat):List Nat:=match u.find? (fun x=>pA x.1 f) with
 |some x=>x.2
 |none=>[]
def zoy(u:List (Nat×List Nat))(f n:Nat):List Nat:=match zlx u f with
 |[]=>qC n
 |l=>(qC n).filter fun i=>!(l.any fun j=>pA j i)
def zw0(P:Program)(z:List Nat)(u:List (Nat×List Nat))(f:Nat):Option LFn:=match P.funcs[f]? with
 |some fn=>match fn.body.isSome&&!(fn.name=="runtime.NumGoroutine") with
  |true=>z0g z (w4 P (zoy u f fn.ntmps) f)
  |false=>none
 |none=>none
theorem zoo{P:Program}{z:List Nat}{u:List (Nat×List Nat)}(hz:∀f∈z,z88 P f):za6 P (zw0 P z u):=by
 intro f fn h
 unfold zw0 at h
 split at h<;>try (cases h;done)
 rename_i g hg
 split at h<;>try (cases h;done)
 rename_i hb
 simp only[p9,Bool.not_eq_true'] at hb
 obtain⟨h,hi⟩:=zir hz h
 exact⟨⟨_,h⟩,⟨g,hg,hb.1,hb.2⟩,hi⟩
end Go.Fx
namespace Go.Fx
open Go.Shelf
variable {P:Program}
def zxz(fc:Nat)(f:Nat)(xs:List AVal)(S:Sh):Option Rs:=
 match pA f fc with
 |true=>match xs with
  |[.str s,.str [c]]=>some (some (.int .i64 (Lib.countByte s c),S))
  |_=>none
 |false=>none
end Go.Fx
namespace Go.Fx
open Go.Shelf Go.RowKit Go.Lib Go.Proofs
variable {P:Program}
def z3p:List Value:=(qC 256).map fun c=>.int .u8 (if Lib.isSp (UInt8.ofNat c) then 1 else 0)
theorem z68{ρ:Ren}(L:Lays.n157 P ρ)(hi9:(P.info? (ρ.t 9)).map (fun i=>(i.zero,i.size,i.bytes))=some (some (.string ByteArray.empty),1,16)){f:FuncId}(hf:ρ.f 157=f)(hok:uc P f)(hg:(ρ.g 0,z3p)∈GL){s:List UInt8}(hs:s.length<4294967281)
 (ha:s.all (fun b=>decide (b.toNat<128))=true) {H:AHeap} {n:Nat} {K:AVal→AHeap→Nat→Prop} (hk:K (.msl (n,0) 1 0 (Lib.fields s).length true) (((n,0),.rows 1 ((Lib.fields s).map fun l=>[.str l]))::H) (n+1)):ACalls P f [.str s] H n K:=by
 subst hf
 refine⟨hok,fun I β w vs hI hl hr=>?_⟩
 obtain⟨v,rfl⟩:∃v,vs=[v]:=by
  match vs,hl with
  |[v],_=>exact⟨v,rfl⟩
 have hv:v=zs2 (.str s):=zaa rfl (hr 0 _ v rfl rfl)
 subst hv
 have hT:∀c:Nat,c<256→w.cell? ⟨ρ.g 0,c,none⟩=some (.int .u8 (if Lib.isSp (UInt8.ofNat c) then 1 else 0)):=fun c hc=>((hI.glob.1 _ hg).2 c _ (by simp[z3p,hc])).2
 refine(Any.strings_Fields_core L hi9 ⟨⟨s⟩⟩ w (by simpa[ByteArray.size] using hs) (fun j b hb=>by simpa using pF.1 ha b (q9 hb)) hT).mono ?_
 rintro e w' ⟨rfl,rfl⟩
 have hrows:RowsIn I β n w 1 0 ((Lib.fields s).map fun l=>[.str l]) ((Lib.fields s).map fun l=>Value.string ⟨l.toArray⟩).toArray:=by
  refine⟨by simp,fun i r hi=>?_,fun i r j x hi hj=>?_⟩
  ·simp only[pL,qE] at hi
   obtain⟨l,_,rfl⟩:=hi
   rfl
  ·simp only[pL,qE] at hi
   obtain⟨l,hl,rfl⟩:=hi
   cases j with
   |zero=>
    simp only[pC,p0] at hj
    subst hj
    exact⟨.string ⟨l.toArray⟩,by simp[hl],rfl,.imm _ _ (.str _)⟩
   |succ j=>simp at hj
 obtain⟨r,H',n',I',β',g1,g2,g3,g4⟩:=Jz (K:=K) hI (el:=ρ.t 9) (fr:=(0,0)) (jo w _) (fun k h=>uq k _ h) EndOk.zero hrows hk (Z4 (cap:=(Lib.fields s).length) _ (pG _) (fun _=>rfl) (by simp))
 exact⟨r,_,H',n',I',β',rfl,g1,g2,g3,g4⟩
def z6r(ff:Nat)(f:Nat)(xs:List AVal)(S:Sh):Option Rs:=
 match pA f ff with
 |true=>match xs with
  |[.str s]=>match zuo s&&pB s.length 4294967280 with
   |true=>some (Zh (.msl (S.n,0) 1 0 (Lib.fields s).length true) (S.new (.rows 1 ((Lib.fields s).map fun l=>[.str l]))))
   |false=>none
  |_=>none
 |false=>none
theorem z8w:∀ {l:List UInt8},zuo l=true→l.all (fun b=>decide (b.toNat<128))=true
 |[],_=>rfl
 |b::r,h=>by
  unfold zuo at h
  split at h<;>try (cases h;done)
  rename_i hb
  have hb:=xp.1 hb
  simp only[List.all_cons,p9,decide_eq_true_eq]
  exact⟨by omega,z8w h⟩
theorem zbo{ff:Nat}(h0:∀ {s:List UInt8},s.length<4294967281→s.all (fun b=>decide (b.toNat<128))=true→∀ {H:AHeap} {n:Nat} {K:AVal→AHeap→Nat→Prop},K (.msl (n,0) 1 0 (Lib.fields s).length true) (((n,0),.rows 1 ((Lib.fields s).map fun l=>[.str l]))::H) (n+1)→ACalls P ff [.str s] H n K):j7 P (z6r ff):=by
 intro f xs S r S' h D H n hs
 unfold z6r at h
 split at h<;>try (cases h;done)
 rename_i hf
 have hf:=zq.1 hf
 subst hf
 split at h<;>try (cases h;done)
 rename_i s
 split at h<;>try (cases h;done)
 rename_i hc
 simp only[p9,xp] at hc
 simp only[p0] at h
 obtain⟨rfl,hw⟩:=jn h
 exact h0 (by omega) (z8w hc.1) ⟨by rw[hs.n],hs.new hw⟩
end Go.Fx
namespace Go.Fx
def V3(q s:Nat)(es:List (List (List AVal))):List (List AVal):=es.mapIdx fun j r=>[.osl (q,j) s r]
def z12(q s:Nat)(es:List (List (List AVal)))(i:Nat)(t:Id)(r:List (List AVal)):List (List AVal):=(V3 q s es).set i [.osl t s r]
def fam(q N:Nat)(h:Option Nat):AHeap:=((qC N).filter fun j=>!(h==some j)).map fun j=>((q,j),.tok)
theorem Zj(q s:Nat)(es:List (List (List AVal))):(V3 q s es).length=es.length:=by simp[V3]
theorem Xe(q s:Nat)(es:List (List (List AVal)))(j:Nat):(V3 q s es)[j]?=es[j]?.map fun r=>[.osl (q,j) s r]:=by simp[V3]
theorem z2j(q s:Nat)(es:List (List (List AVal)))(i:Nat)(t:Id)(r:List (List AVal)):(z12 q s es i t r).length=es.length:=by simp[z12,Zj]
theorem z3e(q s:Nat)(es:List (List (List AVal)))(i:Nat)(t:Id)(r:List (List AVal))(j:Nat):(z12 q s es i t r)[j]?=es[j]?.map fun r'=>if j=i then [.osl t s r] else [.osl (q,j) s r']:=by
 unfold z12
 rw[List.getElem?_set]
 by_cases h:i=j
 ·subst h
  rw[if_pos rfl,Zj]
  by_cases hl:i<es.length
  ·rw[if_pos hl,pM hl];simp
  ·rw[if_neg hl,pN (by omega)];rfl
 ·rw[if_neg h,Xe]
  have:¬j=i:=fun e=>h e.symm
  simp[this]
theorem zmo{q s:Nat}{es:List (List (List AVal))}{i:Nat}{t:Id}{r:List (List AVal)}(h:i<es.length):(z12 q s es i t r).getD i []=[.osl t s r]:=by
 rw[pP,z3e,pM h];simp
theorem zky{q s:Nat}{es:List (List (List AVal))}{i:Nat}{t t':Id}{r r':List (List AVal)}:(z12 q s es i t r).set i [.osl t' s r']=z12 q s es i t' r':=by
 unfold z12;rw[List.set_set]
theorem zho:∀ {L:AHeap} {k:Id},(∀x∈L,x.2=.tok)→k∈L.map (·.1)→L.get k=some .tok
 |[],k,_,h=>by cases h
 |(a,b)::r,k,h,hk=>by
  by_cases e:a=k
  ·subst e
   have:b=.tok:=h (a,b) (pW ..)
   rw[this,AHeap.get_cons_same]
  ·rw[AHeap.get_cons_other _ _ e]
   refine zho (fun x hx=>h x (pS _ hx)) ?_
   simp only[List.map_cons,List.mem_cons] at hk
   rcases hk with rfl|hk
   ·exact absurd rfl e
   ·exact hk
theorem zow{q N j:Nat}{h:Option Nat}(hj:j<N)(hh:h≠some j):(fam q N h).get (q,j)=some .tok:=by
 refine zho (fun x hx=>?_) ?_
 ·unfold fam at hx
  obtain⟨j,_,rfl⟩:=pK.1 hx
  rfl
 ·unfold fam
  rw[List.map_map]
  refine pK.2 ⟨j,List.mem_filter.2 ⟨List.mem_range.2 hj,by simpa using hh⟩,rfl⟩
theorem zt3{q N:Nat}{h:Option Nat}{id:Id}{b:ABlock}(hg:(fam q N h).get id=some b):b=.tok∧id.1=q∧id.2<N∧h≠some id.2:=by
 have:=u5 hg
 unfold fam at this
 obtain⟨j,hj,he⟩:=pK.1 this
 simp only[pD] at he
 obtain⟨rfl,rfl⟩:=he
 obtain⟨h1,h2⟩:=List.mem_filter.1 hj
 exact⟨rfl,rfl,List.mem_range.1 h1,by simpa using h2⟩
def IsFam(q N:Nat)(h:Option Nat)(T:AHeap):Prop:=∀j,j<N→h≠some j→T.get (q,j)=some .tok
theorem IsFam.base{q N:Nat}{h:Option Nat}:IsFam q N h (fam q N h):=fun j=>zow
theorem IsFam.del{q N:Nat}{h:Option Nat}{T:AHeap}{x:Id}(hx:x.1≠q)(a:IsFam q N h T):IsFam q N h (T.del x):=fun j h1 h2=>by
 rw[AHeap.get_del,if_neg (fun e=>hx (by rw[e]))];exact a j h1 h2
theorem IsFam.without{q N:Nat}{h:Option Nat}{T:AHeap}{p:Id→Bool}(hp:∀j,p (q,j)=false)(a:IsFam q N h T):IsFam q N h (AHeap.without p T):=fun j h1 h2=>by
 rw[AHeap.get_without,hp j];exact a j h1 h2
theorem IsFam.app{q N:Nat}{h:Option Nat}{lit T:AHeap}(hl:noR q lit=true)(a:IsFam q N h T){j:Nat}(h1:j<N)(h2:h≠some j):AHeap.get (lit++T) (q,j)=some .tok:=by
 rw[AHeap.get_append,Qw hl rfl,Option.none_or];exact a j h1 h2
theorem zhl{α:Type}{l:List α}{i:Nat}{a:α}(h:l[i]?=some a):i<l.length:=by
 rcases pY i l.length with h'|h'
 ·exact h'
 ·rw[pN h'] at h;cases h
def Uv(n0 q':Nat)(f:Nat→Option Id)(m:Id)(g:Option Id)(M:List (Id×Id))(id:Id):Option Id:=if id.1=q' then f id.2 else if id=m then g else rho n0 M id
def zp7(n0 n q q':Nat)(m t:Id)(lit':AHeap)(M:List (Id×Id)):Bool:=
 pB n0 q&&pB n0 q'&&pB (q'+1) n&&pB n0 m.1&&pB (m.1+1) n&&pB n0 t.1&&Jp n0 n lit' M&&M.all (fun x=>!(pA x.2.1 q)&&!(decide (x.2=t)))&&noR q lit'
structure ChkG(n0 n q q':Nat)(m t:Id)(lit':AHeap)(M:List (Id×Id)):Prop where
 q0:n0≤q
 q1:n0≤q'
 q2:q'<n
 m1:n0≤m.1
 m2:m.1<n
 t1:n0≤t.1
 rc:RhoChk n0 n lit' M
 all:∀x∈M,x.2.1≠q∧x.2≠t
 no:noR q lit'=true
theorem z08{n0 n q q':Nat}{m t:Id}{lit':AHeap}{M:List (Id×Id)}(h:zp7 n0 n q q' m t lit' M=true):ChkG n0 n q q' m t lit' M:=by
 unfold zp7 at h
 simp only[p9,pF] at h
 obtain⟨⟨⟨⟨⟨⟨⟨⟨h1,h2⟩,h3⟩,h4⟩,h5⟩,h6⟩,h7⟩,h8⟩,h9⟩:=h
 exact⟨pE h1,pE h2,pE h3,pE h4,pE h5,pE h6,Uz h7,fun x hx=>⟨Vi (h8 x hx).1,by simpa using(h8 x hx).2⟩,h9⟩
section
variable {n0 n n' q q' N:Nat} {h:Option Nat} {f:Nat→Option Id} {m t:Id} {g:Option Id} {M:List (Id×Id)} {e' e:Env} {lit' T lit:AHeap}
theorem zr4{F:Id→Bool}(hc:ChkG n0 n q q' m t lit' M)(hF:∀i:Id,i.1<n0→F i=false)(hf1:∀j k,f j=some k→k.1=q∨k=t)(hf2:∀i j k,f i=some k→f j=some k→i=j)(hg1:∀k,g=some k→k.1=q)(hfg:∀j k,f j=some k→g≠some k) :
 RhoOk n0 n F (lit'++T) (Uv n0 q' f m g M):=by
 have base:∀ {i k:Id},Uv n0 q' f m g M i=some k→(i.1=q'∧f i.2=some k)∨(i.1≠q'∧i=m∧g=some k)∨(i.1≠q'∧i≠m∧rho n0 M i=some k):=by
  intro i k hi
  unfold Uv at hi
  split at hi
  ·rename_i h3;exact .inl ⟨h3,hi⟩
  ·rename_i h3
   split at hi
   ·rename_i h4;exact .inr (.inl ⟨h3,h4,hi⟩)
   ·rename_i h4;exact .inr (.inr ⟨h3,h4,hi⟩)
 have vals:∀ {i k:Id},rho n0 M i=some k→k.1≠q∧k≠t:=by
  intro i k hi
  rcases kg hi with g|⟨g1,g2,_⟩
  ·exact hc.all _ g
  ·subst g2
   exact⟨fun e=>by have:=hc.q0;omega,fun e=>by have:=hc.t1;subst e;omega⟩
 have hr:RhoOk n0 n F (lit'++T) (rho n0 M):=by
  have hc':RhoChk n0 n (lit'++T) M:=⟨hc.rc.le,fun x hx=>⟨(hc.rc.all x hx).1,(hc.rc.all x hx).2.1,(hc.rc.all x hx).2.2.imp id z9x⟩,hc.rc.nd⟩
  refine⟨fun i j k hi hj=>?_,fun i k hi=>?_,fun i hi=>?_,fun i k hi hk=>?_,hc'.le⟩
  ·rcases kg hi with g1|⟨g1,g1',g1''⟩<;>rcases kg hj with g2|⟨g2,g2',g2''⟩
   ·exact Qu hc'.nd g1 g2
   ·exact absurd (pK.2 ⟨_,g1,rfl⟩) g2''
   ·exact absurd (pK.2 ⟨_,g2,rfl⟩) g1''
   ·rw[←g1',←g2']
  ·rcases kg hi with g|⟨g,g',_⟩
   ·exact(hc'.all _ g).2.1
   ·have:=hc'.le;omega
  ·rcases z7t hc' hi with g|g
   ·exact .inl ⟨g,hF i hi⟩
   ·exact .inr g
  ·rcases kg hk with g|⟨g,g',_⟩
   ·exact(hc'.all _ g).2.2
   ·omega
 have nf:∀ {j:Nat} {k i:Id},f j=some k→rho n0 M i=some k→False:=fun h1 h2=>by
  rcases hf1 _ _ h1 with h|h
  ·exact(vals h2).1 h
  ·exact(vals h2).2 h
 refine⟨fun i j k hi hj=>?_,fun i k hi=>?_,fun i hi=>?_,fun i k hi hk=>?_,hr.le⟩
 ·rcases base hi with⟨a1,a2⟩|⟨a1,a2,a3⟩|⟨a1,a2,a3⟩<;>rcases base hj with⟨b1,b2⟩|⟨b1,b2,b3⟩|⟨b1,b2,b3⟩
  ·ext
   ·omega
   ·exact hf2 _ _ _ a2 b2
  ·exact absurd b3 (hfg _ _ a2)
  ·exact(nf a2 b3).elim
  ·exact absurd a3 (hfg _ _ b2)
  ·rw[a2,b2]
  ·exact absurd (hg1 _ a3) (vals b3).1
  ·exact(nf b2 a3).elim
  ·exact absurd (hg1 _ b3) (vals a3).1
  ·exact hr.inj i j k a3 b3
 ·rcases base hi with⟨a1,a2⟩|⟨a1,a2,a3⟩|⟨a1,a2,a3⟩
  ·have:=hc.q2;omega
  ·subst a2;exact hc.m2
  ·exact hr.dom i k a3
 ·have:Uv n0 q' f m g M i=rho n0 M i:=by
   unfold Uv
   rw[if_neg (by have:=hc.q1;omega),if_neg (fun e=>by have:=hc.m1;subst e;omega)]
  rw[this];exact hr.low i hi
 ·rcases base hk with⟨a1,a2⟩|⟨a1,a2,a3⟩|⟨a1,a2,a3⟩
  ·left
   rcases hf1 _ _ a2 with h|h
   ·have:=hc.q0;omega
   ·subst h;exact hc.t1
  ·left;have:=hg1 _ a3;have:=hc.q0;omega
  ·exact hr.high i k hi a3
theorem zvp(hc:zp7 n0 n q q' m t lit' M=true)(hf1:∀j k,f j=some k→k.1=q∨k=t)(hf2:∀i j k,f i=some k→f j=some k→i=j)(hg1:∀k,g=some k→k.1=q)(hfg:∀j k,f j=some k→g≠some k)
 (hfam:∀j,j<N→h≠some j→f j=none∨∃k,f j=some k∧AHeap.get (lit'++T) k=some .tok)
 (hE:EnvTo (fun _=>false) (lit'++T) (Uv n0 q' f m g M) n e' e) (hH:HeapTo (fun _=>false) (lit'++T) (Uv n0 q' f m g M) n0 n lit):Sim n0 e' (lit'++T) n' e (lit++fam q' N h) n:=by
 have hk:=z08 hc
 refine Sim.of ⟨_,_,zr4 hk (fun _ _=>rfl) hf1 hf2 hg1 hfg,hE,fun id blk hg=>?_⟩
 rw[AHeap.get_append] at hg
 cases hl:lit.get id with
 |some b=>
  rw[hl] at hg
  simp only[Option.some_or,p0] at hg
  subst hg
  exact hH.get id b hl
 |none=>
  rw[hl] at hg
  simp only[Option.none_or] at hg
  obtain⟨rfl,g2,g3,g4⟩:=zt3 hg
  have hat:Uv n0 q' f m g M id=f id.2:=by unfold Uv;rw[if_pos g2]
  unfold Yx
  rw[hat]
  rcases hfam id.2 g3 g4 with h1|⟨k,h1,h2⟩
  ·rw[h1];exact⟨rfl,by have:=hk.q1;omega,by have:=hk.q2;omega⟩
  ·rw[h1]
   simp only
   rw[h2]
   exact⟨trivial,.tok⟩
theorem zvn(hc:zp7 n0 n q q' (q',0) (q,0) lit' M=true)(hT:IsFam q N none T)
 (hE:EnvTo (fun _=>false) (lit'++T) (Uv n0 q' (fun j=>some (q,j)) (q',0) none M) n e' e) (hH:HeapTo (fun _=>false) (lit'++T) (Uv n0 q' (fun j=>some (q,j)) (q',0) none M) n0 n lit):Sim n0 e' (lit'++T) n' e (lit++fam q' N none) n:=
 zvp hc (fun j k h=>by simp only[p0] at h;subst h;exact .inl rfl) (fun i j k h1 h2=>by simp only[p0] at h1 h2;subst h1;simp only[pD,true_and] at h2;exact h2.symm) (fun k h=>by cases h) (fun j k _ h=>by cases h)
  (fun j h1 h2=>.inr ⟨_,rfl,hT.app (z08 hc).no h1 h2⟩) hE hH
theorem zuy(hc:zp7 n0 n q q' (q',0) (q,0) lit' M=true)
 (hE:EnvTo (fun _=>false) (lit'++T) (Uv n0 q' (fun _=>none) (q',0) none M) n e' e) (hH:HeapTo (fun _=>false) (lit'++T) (Uv n0 q' (fun _=>none) (q',0) none M) n0 n lit):Sim n0 e' (lit'++T) n' e (lit++fam q' N none) n:=
 zvp hc (fun j k h=>by cases h) (fun i j k h1 h2=>by cases h1) (fun k h=>by cases h) (fun j k h=>by cases h) (fun j h1 h2=>.inl rfl) hE hH
def zrq(n0 q q' N i:Nat)(m:Id)(M:List (Id×Id)):Id→Option Id:=Uv n0 q' (fun j=>if j=i then none else some (q,j)) m (if i<N then some (q,i) else none) M
theorem zye{i:Nat}(hc:zp7 n0 n q q' m (q,0) lit' M=true)(hm:m.1≠q')(hT:IsFam q N none T)
 (hE:EnvTo (fun _=>false) (lit'++T) (zrq n0 q q' N i m M) n e' e) (hH:HeapTo (fun _=>false) (lit'++T) (zrq n0 q q' N i m M) n0 n lit):Sim n0 e' (lit'++T) n' e ((m,.tok)::lit++fam q' N (some i)) n:=by
 refine zvp (lit:=(m,.tok)::lit) hc (fun j k h=>?_) (fun a b k h1 h2=>?_) (fun k h=>?_) (fun j k h h2=>?_) (fun j h1 h2=>?_) hE ⟨?_,hH⟩
 ·skip
  split at h
  ·cases h
  ·simp only[p0] at h;subst h;exact .inl rfl
 ·skip
  split at h1<;>split at h2<;>try (first|(cases h1;done)|(cases h2;done))
  simp only[p0] at h1 h2
  subst h1
  simp only[pD,true_and] at h2
  exact h2.symm
 ·split at h
  ·simp only[p0] at h;subst h;rfl
  ·cases h
 ·skip
  split at h
  ·cases h
  ·rename_i hne
   split at h2
   ·simp only[p0] at h h2
    subst h
    simp only[pD,true_and] at h2
    exact hne h2.symm
   ·cases h2
 ·have:j≠i:=fun e=>h2 (by rw[e])
  rw[if_neg this]
  exact .inr ⟨_,rfl,hT.app (z08 hc).no h1 (by simp)⟩
 ·have hk:=z08 hc
  have:Uv n0 q' (fun j=>if j=i then none else some (q,j)) m (if i<N then some (q,i) else none) M m=if i<N then some (q,i) else none:=by
   unfold Uv;rw[if_neg hm,if_pos rfl]
  unfold Yx
  rw[this]
  by_cases hi:i<N
  ·rw[if_pos hi]
   simp only
   rw[hT.app hk.no hi (by simp)]
   exact⟨trivial,.tok⟩
  ·rw[if_neg hi]
   exact⟨rfl,hk.m1,hk.m2⟩
def zrt(n0 q q' i:Nat)(t:Id)(M:List (Id×Id)):Id→Option Id:=Uv n0 q' (fun j=>if j=i then some t else some (q,j)) (q',0) none M
theorem zyb{i:Nat}(hc:zp7 n0 n q q' (q',0) t lit' M=true)(ht:t.1≠q)(hg:AHeap.get (lit'++T) t=some .tok)(hT:IsFam q N (some i) T)
 (hE:EnvTo (fun _=>false) (lit'++T) (zrt n0 q q' i t M) n e' e) (hH:HeapTo (fun _=>false) (lit'++T) (zrt n0 q q' i t M) n0 n lit):Sim n0 e' (lit'++T) n' e (lit++fam q' N none) n:=by
 refine zvp hc (fun j k h=>?_) (fun a b k h1 h2=>?_) (fun k h=>by cases h) (fun j k _ h=>by cases h) (fun j h1 h2=>?_) hE hH
 ·skip
  split at h<;>(simp only[p0] at h;subst h)
  ·exact .inr rfl
  ·exact .inl rfl
 ·skip
  split at h1<;>split at h2<;>simp only[p0] at h1 h2
  ·omega
  ·subst h1;exact absurd (by rw[←h2]) ht
  ·subst h2;exact absurd (by rw[←h1]) ht
  ·subst h1
   simp only[pD,true_and] at h2
   exact h2.symm
 ·skip
  by_cases hj:j=i
  ·rw[if_pos hj];exact .inr ⟨_,rfl,hg⟩
  ·rw[if_neg hj];exact .inr ⟨_,rfl,hT.app (z08 hc).no h1 (fun e=>hj (by simpa using e.symm))⟩
theorem zry{x y:AVal}{F:Id→Bool}{H:AHeap}{ρ:Id→Option Id}(h:Vw F H ρ n x y):([x]:List AVal).length=[y].length∧∀ (j:Nat) (a b:AVal),[x][j]?=some a→[y][j]?=some b→Vw F H ρ n a b:=by
 refine⟨rfl,fun j a b ha hb=>?_⟩
 cases j with
 |zero=>simp only[pC,p0] at ha hb;subst ha;subst hb;exact h
 |succ j=>simp at ha
section
variable {F:Id→Bool} {H:AHeap} {s:Nat} {es:List (List (List AVal))}
theorem BVw.grJ:BVw F H (Uv n0 q' (fun j=>some (q,j)) m none M) n (.rows 1 (V3 q s es)) (.rows 1 (V3 q' s es)):=by
 refine .rows 1 _ _ (by rw[Zj,Zj]) fun i r r' h1 h2=>?_
 rw[Xe] at h1 h2
 cases he:es[i]? with
 |none=>rw[he] at h1;cases h1
 |some a=>
  rw[he] at h1 h2
  simp only[pJ,p0] at h1 h2
  subst h1;subst h2
  exact zry (.osl _ _ _ _ (by unfold Uv;rw[if_pos rfl]))
theorem BVw.grNew{ρ':Id→Option Id}{k:Nat}(hq:q'<n):BVw F H ρ' n (.rows 1 (pX k [.isl s [] true])) (.rows 1 (V3 q' s (pX k []))):=by
 refine .rows 1 _ _ (by rw[Zj];simp) fun i r r' h1 h2=>?_
 rw[Xe] at h2
 rw[List.getElem?_replicate] at h1 h2
 split at h1
 ·rename_i hi
  rw[if_pos hi] at h2
  simp only[pJ,p0] at h1 h2
  subst h1;subst h2
  exact zry (.islO _ _ _ hq)
 ·cases h1
theorem BVw.grF{i:Nat}(hm:m.1≠q')(hi:N=es.length):BVw F H (zrq n0 q q' N i m M) n (.rows 1 (V3 q s es)) (.rows 1 (z12 q' s es i m (es.getD i []))):=by
 refine .rows 1 _ _ (by rw[Zj,z2j]) fun j r r' h1 h2=>?_
 rw[Xe] at h1
 rw[z3e] at h2
 cases he:es[j]? with
 |none=>rw[he] at h1;cases h1
 |some a=>
  rw[he] at h1 h2
  simp only[pJ,p0] at h1 h2
  subst h1;subst h2
  have hlt:j<es.length:=zhl he
  by_cases hj:j=i
  ·subst hj
   rw[if_pos rfl]
   have:es.getD j []=a:=by rw[pP,he];rfl
   rw[this]
   refine zry (.osl _ _ _ _ ?_)
   unfold zrq Uv
   rw[if_neg hm,if_pos rfl,if_pos (by omega)]
  ·rw[if_neg hj]
   refine zry (.osl _ _ _ _ ?_)
   unfold zrq Uv
   rw[if_pos rfl]
   simp only
   rw[if_neg hj]
theorem BVw.grU{i:Nat}{r0:List (List AVal)}:BVw F H (zrt n0 q q' i t M) n (.rows 1 (z12 q s es i t r0)) (.rows 1 (V3 q' s (es.set i r0))):=by
 refine .rows 1 _ _ (by rw[Zj,z2j,List.length_set]) fun j r r' h1 h2=>?_
 rw[z3e] at h1
 rw[Xe,List.getElem?_set] at h2
 cases he:es[j]? with
 |none=>rw[he] at h1;cases h1
 |some a=>
  have hlt:j<es.length:=zhl he
  rw[he] at h1 h2
  by_cases hj:j=i
  ·subst hj
   simp only[if_pos,hlt,pJ,p0] at h1 h2
   subst h1;subst h2
   refine zry (.osl _ _ _ _ ?_)
   unfold zrt Uv
   rw[if_pos rfl]
   simp
  ·have hj':¬i=j:=fun e=>hj e.symm
   simp only[if_neg hj,if_neg hj',pJ,p0] at h1 h2
   subst h1;subst h2
   refine zry (.osl _ _ _ _ ?_)
   unfold zrt Uv
   rw[if_pos rfl]
   simp only
   rw[if_neg hj]
theorem BVw.grNewE{α:Type}(f:α→List AVal){ρ':Id→Option Id}{k:Nat}(hq:q'<n):BVw F H ρ' n (.rows 1 (pX k [.isl s [] true])) (.rows 1 (V3 q' s ((pX k ([]:List α)).map (q8 f)))):=by
 rw[List.map_replicate];exact BVw.grNew hq
theorem zqa{α:Type}(f:α→List AVal)(l:List (List α))(i:Nat):(l.map (q8 f)).getD i []=(l.getD i default).map f:=by
 rw[pP,pP,pL]
 cases l[i]?<;>rfl
theorem BVw.grFE{α:Type}(f:α→List AVal){l:List (List α)}{i:Nat}(hm:m.1≠q')(hi:N=l.length):BVw F H (zrq n0 q q' N i m M) n (.rows 1 (V3 q s (l.map (q8 f)))) (.rows 1 (z12 q' s (l.map (q8 f)) i m ((l.getD i default).map f))):=by
 rw[←zqa];exact BVw.grF hm (by rw[q7];exact hi)
theorem BVw.grUE{α:Type}(f:α→List AVal){l:List (List α)}{i:Nat}{r:List α}:BVw F H (zrt n0 q q' i t M) n (.rows 1 (z12 q s (l.map (q8 f)) i t (r.map f))) (.rows 1 (V3 q' s ((l.set i r).map (q8 f)))):=by
 rw[List.map_set];exact BVw.grU
end
end
section
variable {α:Type} (f:α→List AVal) {q s:Nat} {l:List (List α)} {i:Nat} {t t':Id}
theorem z4y{r:List (List AVal)}(h:i<l.length):(z12 q s (l.map (q8 f)) i t r).getD i []=[.osl t s r]:=zmo (by rw[q7];exact h)
theorem zay{r:List (List AVal)}(h:i<l.length):i<(z12 q s (l.map (q8 f)) i t r).length:=by rw[z2j,q7];exact h
theorem zdu{r r':List (List AVal)}(h:i<l.length):(z12 q s (l.map (q8 f)) i t r).set i (jp ((z12 q s (l.map (q8 f)) i t r).getD i []) 0 [.osl t' s r'])=z12 q s (l.map (q8 f)) i t' r':=by
 rw[z4y f h]
 exact zky
end
theorem IsFam.cast{q N N':Nat}{h:Option Nat}{T:AHeap}(e:N'=N)(a:IsFam q N h T):IsFam q N' h T:=by subst e;exact a
theorem IsFam.hole{q N:Nat}{h:Option Nat}{T:AHeap}(a:IsFam q N none T):IsFam q N h T:=fun j h1 _=>a j h1 (by simp)
def InQ(q:Nat)(T:AHeap):Prop:=∀x∈T,x.1.1=q
theorem InQ.base{q N:Nat}{h:Option Nat}:InQ q (fam q N h):=fun x hx=>by
 unfold fam at hx
 obtain⟨j,_,rfl⟩:=pK.1 hx
 rfl
theorem InQ.del{q:Nat}{y:Id}:∀ {T:AHeap},InQ q T→InQ q (T.del y)
 |[],_=>fun x hx=>by cases hx
 |(k,b)::r,h=>by
  have hr:InQ q r:=fun x hx=>h x (pS _ hx)
  unfold AHeap.del
  split
  ·exact InQ.del hr
  ·intro x hx
   rcases List.mem_cons.1 hx with rfl|hx
   ·exact h _ (pW ..)
   ·exact InQ.del hr x hx
variable {P:Program}
end Go.Fx
namespace Go.Fx
def zec{α:Type}(e:α→List AVal)(l:List α)(i:Nat)(c:AVal):List (List AVal):=(l.map e).set i [c]
section
variable {α:Type} {e:α→List AVal} {l:List α} {i j:Nat} {c c':AVal}
theorem za3:(zec e l i c).length=l.length:=by simp[zec]
section
variable {F:Id→Bool} {H:AHeap} {ρ:Id→Option Id} {n:Nat}
theorem BVw.hole(he:∀x,AVal.nid.nidL (e x)=true)(hc:Vw F H ρ n c c'):BVw F H ρ n (.rows 1 (zec e l i c)) (.rows 1 (zec e l i c')):=by
 refine .rows 1 _ _ (by rw[za3,za3]) fun k r r' h1 h2=>?_
 unfold zec at h1 h2
 rw[List.getElem?_set] at h1 h2
 by_cases hk:i=k
 ·subst hk
  rw[if_pos rfl] at h1 h2
  split at h1
  ·rename_i hl
   rw[if_pos hl] at h2
   simp only[p0] at h1 h2
   subst h1;subst h2
   exact⟨rfl,fun j x y hx hy=>by
    cases j with
    |zero=>simp only[pC,p0] at hx hy;subst hx;subst hy;exact hc
    |succ j=>simp at hx⟩
  ·cases h1
 ·rw[if_neg hk] at h1 h2
  rw[h1] at h2
  simp only[p0] at h2
  subst h2
  rw[pL] at h1
  obtain⟨z,_,hz⟩:=qE.1 h1
  subst hz
  exact⟨rfl,fun j x y hx hy=>Kj (he z) j x y hx hy⟩
end
end
theorem Vw.frzG{F:Id→Bool}{H:AHeap}{ρ:Id→Option Id}{n:Nat}{α:Type}(f:α→List AVal){b:Id}{q s len:Nat}{fl fl':Bool}{l:List (List α)}(hff:fl'=true→fl=true)(hF:F b=true)(hg:H.get b=some (.rows 1 (V3 q s (l.map (q8 f)))))(hl:len=l.length) :
 Vw F H ρ n (.msl b 1 0 len fl) (.isl 1 (l.map fun x=>[AVal.isl s (x.map f) false]) fl'):=by
 have hrow:∀ (i:Nat) (r r':List AVal),(V3 q s (l.map (q8 f)))[0+i]?=some r→(l.map fun x=>[AVal.isl s (x.map f) false])[i]?=some r'→∃x:List α,r=[.osl (q,i) s (x.map f)]∧r'=[.isl s (x.map f) false]:=fun i r r' h h'=>by
  rw[Nat.zero_add,Xe,pL] at h
  rw[pL] at h'
  cases hx:l[i]? with
  |none=>rw[hx] at h';cases h'
  |some x=>
   rw[hx] at h h'
   simp only[pJ,p0] at h h'
   exact⟨x,h.symm,h'.symm⟩
 refine .frz b 1 0 len fl fl' _ _ hff hF hg (by rw[Zj,q7];omega) (by rw[q7];exact hl.symm) (fun i r r' h h'=>?_) (fun i r r' j x y h h' hx hy=>?_) (fun r' hr y hy=>?_)
 ·obtain⟨x,rfl,rfl⟩:=hrow i r r' h h';rfl
 ·obtain⟨z,rfl,rfl⟩:=hrow i r r' h h'
  cases j with
  |zero=>simp only[pC,p0] at hx hy;subst hx;subst hy;exact .oslI _ _ _
  |succ j=>simp at hx
 ·obtain⟨x,_,rfl⟩:=pK.1 hr
  rw[List.mem_singleton] at hy
  subst hy;rfl
end Go.Fx
namespace Go.Fx
open Go.Shelf Go.RowKit Go.Lib Go.Proofs
set_option linter.unusedSimpArgs false
variable {P:Program}
structure InsL(P:Program)(ρ:Ren):Prop where
 mixed:P.follows .mixedOrders=true
 f22:∃nm,P.funcs[ρ.f 22]?=some { Body2.n22 ρ with name:=nm }
 f29:∃nm,P.funcs[ρ.f 29]?=some { Body2.n29 ρ with name:=nm }∧(nm=="runtime.NumGoroutine")=false∧Extern.findNext { Body2.n29 ρ with name:=nm }=none∧Extern.find { Body2.n29 ρ with name:=nm }=some (Extern.SlicesOverlaps.overlaps #[(ρ.t 24),(ρ.t 24)] #[(ρ.t 4)])
 t0:P.underlying (ρ.t 0)=some (TypeDesc.tuple #[])
 a0:∀w,(isAgg (ρ.t 0)).run P w=.ok false w
 z0:∀w,(Go.sizeOf (ρ.t 0)).run P w=.ok 1 w
 v0:∀w,(zeroValue (ρ.t 0)).run P w=.ok (Value.tuple #[]) w
 t3:P.underlying (ρ.t 3)=some (TypeDesc.int IntKind.i64)
 a3:∀w,(isAgg (ρ.t 3)).run P w=.ok false w
 z3:∀w,(Go.sizeOf (ρ.t 3)).run P w=.ok 1 w
 v3:∀w,(zeroValue (ρ.t 3)).run P w=.ok (Value.int IntKind.i64 0) w
 t4:P.underlying (ρ.t 4)=some (TypeDesc.bool)
 a4:∀w,(isAgg (ρ.t 4)).run P w=.ok false w
 z4:∀w,(Go.sizeOf (ρ.t 4)).run P w=.ok 1 w
 v4:∀w,(zeroValue (ρ.t 4)).run P w=.ok (Value.bool false) w
 t24:P.underlying (ρ.t 24)=some (TypeDesc.slice (ρ.t 9))
 a24:∀w,(isAgg (ρ.t 24)).run P w=.ok false w
 z24:∀w,(Go.sizeOf (ρ.t 24)).run P w=.ok 1 w
 v24:∀w,(zeroValue (ρ.t 24)).run P w=.ok (Value.slice none 0 0) w
section
variable {ρ:Ren} {s:Nat}
end
end Go.Fx
namespace Go.Fx
open Go.Shelf Go.RowKit Go.Lib Go.Proofs
variable {P:Program} {ρ:Ren}
section
variable {I:Nat→Nat→Prop} {β:Id→Option CLoc} {n:Nat} {H:AHeap} {w:World}
theorem Goes.mono{H:AHeap}{n:Nat}{K K':AVal→AHeap→Nat→Prop}{v:Value}{w':World}(h:Goes I β n H w K v w')(hk:∀r H' n',K r H' n'→K' r H' n'):Goes I β n H w K' v w':=by
 obtain⟨r,H',n',I',β',h1,h2,h3,h4⟩:=h
 exact⟨r,H',n',I',β',hk _ _ _ h1,h2,h3,h4⟩
end
section
variable {s b:Nat} {zs:List AVal}
end
end Go.Fx
namespace Go.Fx
open Go.Shelf Go.RowKit Go.Lib Go.Proofs
set_option linter.unusedSimpArgs false
variable {P:Program} {ρ:Ren}
set_option maxHeartbeats 2000000 in
theorem zbh{f:FuncId}{fn:Func}{t c:TypeId}{s b:Nat}{zs:List AVal}(hok:uc P f)(hfn:P.funcs[f]?=some fn)(hS:zni fn t)(ht:P.underlying t=some (.slice c))(hz:xf P c=some zs)(hsz:xl P c=some s)(hby:Zk P c=some b)(hs:0<s)(hb:0<b)(hzs:zs.length=s)
 {es:List (List AVal)} (hbig:es.length*b≤140737488355328) (fv:Bool):ACalls P f [.isl s es fv] [] 3 (Z6 4 (.msl (3,0) s 0 es.length false) [((3,0),.rows s es)]):=by
 refine⟨hok,fun I β w vs hI hl hr=>?_⟩
 obtain⟨tB,t0,t1,t2,t3,t4,t5,t6,p1,p2,p3,p4,p5,p6,p7,p8,a1,a2,a3,a4,a5,a6,a7,a8,i0,i1,i2,i3,hnt,hres,hbody⟩:=hS
 match vs,hl with
 |[v],_=>
  have h1:=hr 0 _ _ rfl rfl
  obtain⟨ad,cap,rfl,hlc,_⟩:=h1.isl_inv
  have ht8:∀u:Value,(#[u]++Array.replicate (8-(#[u]:Array Value).size) undef)=#[u,undef,undef,undef,undef,undef,undef,undef]:=fun u=>by simp[Array.replicate,pX]
  cases ad with
  |none=>
   have hv:Value.slice none es.length cap=.slice none 0 0∧es=[]:=by
    cases h1 with
    |imm _ _ h=>cases h;exact⟨rfl,rfl⟩
   obtain⟨hv,rfl⟩:=hv
   rw[hv]
   change Calls P f #[.slice none 0 0] w _
   refine calls_of_wp hfn hbody (wp_seq (wp_region_list (wpList_plain rfl fun K0 hK0=>?_)))
   rw[hnt]
   rw[ht8]
   refine hK0 _ _ (wpList_nil ?_)
   refine wp_seq (wp_seq (wp_region_list (wpList_plain rfl fun K1 hK1=>hK1 _ _ (wpList_plain rfl fun K2 hK2=>?_))))
   refine za4 (s:=do eqGuard .eql t (.tmp 3) (.const (.slice none 0 0)) (.slice none 0 0) (.slice none 0 0);binOp .eql t (.slice none 0 0) (.slice none 0 0)) rfl (z77 ht _ _ w) (hK2 _ _ (wpList_nil ?_))
   refine wp_cond_true rfl (wp_seq (wp_region_list (wpList_plain rfl fun K3 hK3=>hK3 _ _ (wpList_nil (wp_ret ⟨rfl,.slice none 0 0,?_,?_⟩)))))
   ·refine J3 (vs:=[.slice none 0 0]) ?_
    rw[hres]
    rfl
   ·obtain⟨β',g1,g2,_⟩:=U0 hI s
    have hβ:=g1.blocks (3,0) _ rfl
    obtain⟨c',hc',hB⟩:=hβ
    refine⟨_,_,_,_,I,β',rfl,⟨rfl,rfl,rfl⟩,g1,?_,g2⟩
    refine .msl _ _ _ _ _ none 0 (by decide) ⟨pG _,fun _=>rfl⟩ (fun h=>by cases h) fun d hd=>?_
    rw[hc'] at hd
    simp only[p0] at hd
    subst hd
    exact⟨hB.1,fun h=>absurd rfl h⟩
  |some ad=>
   change Calls P f #[.slice (some ad) es.length cap] w _
   refine calls_of_wp hfn hbody (wp_seq (wp_region_list (wpList_plain rfl fun K0 hK0=>?_)))
   rw[hnt,ht8]
   refine hK0 _ _ (wpList_nil ?_)
   refine wp_seq (wp_seq (wp_region_list (wpList_plain rfl fun K1 hK1=>hK1 _ _ (wpList_plain rfl fun K2 hK2=>?_))))
   refine za4 (s:=do eqGuard .eql t (.tmp 3) (.const (.slice none 0 0)) (.slice (some ad) es.length cap) (.slice none 0 0);binOp .eql t (.slice (some ad) es.length cap) (.slice none 0 0)) rfl (zcq ht _ _ _ _ _ w) (hK2 _ _ (wpList_nil ?_))
   refine wp_cond_false rfl (wp_skip ?_)
   obtain⟨arr',k1,k2,k3,k4⟩:=z3a (P:=P) (e:=[]) (a:=⟨#[],[]⟩) (parts:=#[]) (len:=0) hI (fun t=>.any _) ht hz hsz rfl hs (by omega) hzs trivial rfl trivial
   obtain⟨r1,H1,n1,I1,β1,⟨e1,e2,e3⟩,g1,g2,g3⟩:=z9j (K:=fun r H' n'=>r=.isl s [] true∧H'=[]∧n'=3) (rows':=[]) (zs:=zs) hI k4 k3 (by rw[qB.1 k3];rfl) ⟨rfl,rfl,rfl⟩
   subst e1 e2 e3
   obtain⟨v2,w2,q1,hg⟩:=zhi (K:=fun r H' n'=>(es=[]∧r=.isl s [] true∧H'=[]∧n'=3)∨(r=.msl (3,0) s 0 es.length false∧H'=[((3,0),.rows s es)]∧n'=4)) (rt:=t5) g1 ht (.inl ⟨_,ht⟩) hz hsz hby hs hb g2 (h1.mono g3 hI) rfl rfl
    ⟨rfl,fun h=>.inl ⟨h,rfl,rfl,rfl⟩,fun h=>⟨rfl,by simpa using hbig,.inr ⟨by simp,rfl,rfl⟩⟩⟩
   refine wp_seq (wp_region_list (wpList_plain rfl fun K3 hK3=>?_))
   have k1':(Instr.buildSlice t 0 #[]).run P w=.ok (.slice (some ⟨w.heap.size,0,none⟩) 0 0) (w.alloc (.cells arr' c)):=by simpa using k1
   refine za4 (s:=Instr.buildSlice t 0 #[]) (by simp only[execOp,List.map_toArray,List.map_nil]) k1' (hK3 _ _ (wpList_plain rfl fun K4 hK4=>hK4 _ _ (wpList_plain rfl fun K5 hK5=>?_)))
   have e1:∀ρ:Operand→Value,(#[.tmp 5,.tmp 6]:Array Operand).map ρ=#[ρ (.tmp 5),ρ (.tmp 6)]:=fun ρ=>by simp
   refine za4 (s:=Builtin.append_ #[t,t] t5 ((#[.tmp 5,.tmp 6]:Array Operand).map (Act.eval _))) rfl (by rw[e1];exact q1) (hK5 _ _ (wpList_plain rfl fun K6 hK6=>hK6 _ _ (wpList_nil ?_)))
   refine wp_ret ⟨rfl,v2,?_,?_⟩
   ·refine J3 (vs:=[v2]) ?_
    rw[hres]
    rfl
   ·obtain⟨r2,H2,n2,I2,β2,hk,q2,q3,q4⟩:=hg
    rcases hk with⟨rfl,rfl,rfl,rfl⟩|⟨rfl,rfl,rfl⟩
    ·obtain⟨β',u1,u2,u3⟩:=U0 q2 s
     obtain⟨c',hc',hB⟩:=u1.blocks (3,0) _ rfl
     refine⟨_,_,_,_,I2,β',rfl,⟨rfl,rfl,rfl⟩,u1,?_,(g3.trans q4).trans u2⟩
     obtain⟨a2,cap2,rfl,_,hfull,_⟩:=q3.isl_inv
     have hc0:=hfull rfl
     subst hc0
     refine .msl _ _ _ _ _ a2 0 (by decide) ⟨pG _,fun _=>rfl⟩ (fun h=>by cases h) fun d hd=>?_
     rw[hc'] at hd
     simp only[p0] at hd
     subst hd
     exact⟨hB.1,fun h=>absurd rfl h⟩
    ·exact⟨_,_,_,_,_,_,rfl,⟨rfl,rfl,rfl⟩,q2,q3,g3.trans q4⟩
end Go.Fx
namespace Go.Fx
open Go.Shelf Go.RowKit Go.Lib Go.Proofs
set_option linter.unusedSimpArgs false
variable {P:Program} {ρ:Ren}
structure DelL(P:Program)(ρ:Ren):Prop where
 mixed:P.follows .mixedOrders=true
 f24:∃nm,P.funcs[ρ.f 24]?=some { Body2.n24 ρ with name:=nm }
 t0:P.underlying (ρ.t 0)=some (TypeDesc.tuple #[])
 a0:∀w,(isAgg (ρ.t 0)).run P w=.ok false w
 z0:∀w,(Go.sizeOf (ρ.t 0)).run P w=.ok 1 w
 v0:∀w,(zeroValue (ρ.t 0)).run P w=.ok (Value.tuple #[]) w
 t3:P.underlying (ρ.t 3)=some (TypeDesc.int IntKind.i64)
 a3:∀w,(isAgg (ρ.t 3)).run P w=.ok false w
 z3:∀w,(Go.sizeOf (ρ.t 3)).run P w=.ok 1 w
 v3:∀w,(zeroValue (ρ.t 3)).run P w=.ok (Value.int IntKind.i64 0) w
 t4:P.underlying (ρ.t 4)=some (TypeDesc.bool)
 a4:∀w,(isAgg (ρ.t 4)).run P w=.ok false w
 z4:∀w,(Go.sizeOf (ρ.t 4)).run P w=.ok 1 w
 v4:∀w,(zeroValue (ρ.t 4)).run P w=.ok (Value.bool false) w
 t24:P.underlying (ρ.t 24)=some (TypeDesc.slice (ρ.t 9))
 a24:∀w,(isAgg (ρ.t 24)).run P w=.ok false w
 z24:∀w,(Go.sizeOf (ρ.t 24)).run P w=.ok 1 w
 v24:∀w,(zeroValue (ρ.t 24)).run P w=.ok (Value.slice none 0 0) w
section
variable {s:Nat}
end
section
variable {s b:Nat} {zs:List AVal}
end
end Go.Fx
namespace Go.Fx
open Go.Shelf Go.Proofs
variable {P:Program} {ρ:Ren} {α:Type}
def zyo(b:Nat)(l:List α)(i:Int)(vs:List α):Option (List α):=match vs with
 |[x]=>if 0≤i∧i.toNat≤l.length∧(l.length+1)*b≤140737488355328 then some (l.take i.toNat++x::l.drop i.toNat) else none
 |_=>none
def zyu(l:List α)(i j:Int):Option (List α):=if 0≤i∧j=i+1∧i.toNat<l.length∧l.length<4611686018427387904 then some (l.take i.toNat++l.drop (i.toNat+1)) else none
def zto(b:Nat)(l:List α):Option (List α):=if l.length*b≤140737488355328 then some l else none
theorem z7b{f:FuncId}{fn:Func}{t c:TypeId}{s b:Nat}{zs:List AVal}(e:α→List AVal)(hok:uc P f)(hfn:P.funcs[f]?=some fn)(hS:zni fn t)(ht:P.underlying t=some (.slice c))(hz:xf P c=some zs)(hsz:xl P c=some s)(hby:Zk P c=some b)(hs:0<s)(hb:0<b)(hzs:zs.length=s)
 {l o:List α} (h:zto b l=some o) (fv:Bool):ACalls P f [.isl s (l.map e) fv] [] 3 (Z6 4 (.msl (3,0) s 0 o.length false) [((3,0),.rows s (o.map e))]):=by
 unfold zto at h
 split at h
 ·rename_i hc
  simp only[p0] at h
  subst h
  simpa only[q7] using zbh hok hfn hS ht hz hsz hby hs hb hzs (es:=l.map e) (by simpa using hc) fv
 ·cases h
end Go.Fx
namespace Go.Fx
universe u
theorem TT:True:=True.intro
theorem AI{a b:Prop}(x:a)(y:b):a∧b:=⟨x,y⟩
theorem VS{F:Id→Bool}{H:AHeap}{ρ:Id→Option Id}{n:Nat}{x:AVal}(h:x.nid=true):Vw F H ρ n x x:=.same x h
theorem NB{a b:Nat}(h:pB a b=true):a≤b:=pE h
theorem EX{α:Sort u}{p:α→Prop}(w:α)(h:p w):Exists p:=⟨w,h⟩
theorem S2{F:Id→Bool}{H:AHeap}{ρ:Id→Option Id}{n:Nat}{a b:AVal}{R:Prop}(h1:a.nid=true)(h2:b.nid=true)(r:R):Vw F H ρ n a a∧Vw F H ρ n b b∧R:=⟨VS h1,VS h2,r⟩
theorem S4{F:Id→Bool}{H:AHeap}{ρ:Id→Option Id}{n:Nat}{a b c d:AVal}{R:Prop}(h1:a.nid=true)(h2:b.nid=true)(h3:c.nid=true)(h4:d.nid=true)(r:R):Vw F H ρ n a a∧Vw F H ρ n b b∧Vw F H ρ n c c∧Vw F H ρ n d d∧R:=⟨VS h1,VS h2,VS h3,VS h4,r⟩
theorem SP{F:Id→Bool}{H:AHeap}{ρ:Id→Option Id}{n:Nat}{b b':Id}{i o:Nat}{R:Prop}(h:ρ b'=some b)(r:R):Vw F H ρ n (.ptr b i o) (.ptr b' i o)∧R:=⟨.ptr _ _ _ _ h,r⟩
theorem VL{F:Id→Bool}{H:AHeap}{ρ:Id→Option Id}{n:Nat}:∀ {l:List AVal},AVal.nid.nidL l=true→VwL F H ρ n l l
 |[],_=>trivial
 |x::l,h=>by
  simp only[AVal.nid.nidL,p9] at h
  exact⟨VS h.1,VL h.2⟩
theorem OL{F:Id→Bool}{H:AHeap}{ρ:Id→Option Id}{n:Nat}{l:List AVal}(h:AVal.nid.nidL l=true):BVw F H ρ n (.one l) (.one l):=BVw.oneL (VL h)
abbrev Qo(d:Nat)(o:LOp):LOper:=⟨some d,o,none⟩
abbrev Qg(d:Nat)(o:LOp)(g:Nat×Bool):LOper:=⟨some d,o,some g⟩
abbrev Qm(d s:Nat):LOper:=⟨some d,.mv (.t s),none⟩
abbrev Qn(d s:Nat)(g:Nat×Bool):LOper:=⟨some d,.mv (.t s),some g⟩
abbrev Qf(d k s:Nat):LOper:=⟨some d,.faddr k (.t s),none⟩
abbrev Qe(d k s:Nat)(g:Nat×Bool):LOper:=⟨some d,.faddr k (.t s),some g⟩
abbrev Ql(d n s:Nat):LOper:=⟨some d,.load false n (.t s),none⟩
abbrev Qk(d n s:Nat)(g:Nat×Bool):LOper:=⟨some d,.load false n (.t s),some g⟩
abbrev Qt(d n s:Nat):LOper:=⟨some d,.load true n (.t s),none⟩
abbrev Qp(d a b:Nat):LOper:=⟨some d,.pick (.t a) (.t b) (.c (.bool false)),none⟩
abbrev Qi(d:Nat)(n:Int):LOper:=⟨some d,.mv (.c (.int .i64 n)),none⟩
abbrev Qb(d:Nat):LOper:=⟨some d,.mv (.c (.bool false)),none⟩
abbrev Qc(d f s:Nat):LOper:=⟨some d,.call f [(.t s)],none⟩
abbrev i6(n:Int):AVal:=.int .i64 n
end Go.Fx
namespace Go.Fx
def inR(x:Int):Prop:=-9223372036854775808≤x∧x≤9223372036854775807
theorem zp0{x:Int}(h:inR x):W x=x:=K7 h.1 h.2
theorem zvs(z:Int):W z=Int.bmod z 18446744073709551616:=by
 show(if(true&&decide (z % 18446744073709551616≥9223372036854775808))=true then z % 18446744073709551616-18446744073709551616 else z % 18446744073709551616)=_
 unfold Int.bmod
 by_cases h:z % 18446744073709551616≥9223372036854775808
 ·rw[if_pos (by simpa using h)];simp only;split<;>omega
 ·rw[if_neg (by simpa using h)];simp only;split<;>omega
theorem zxe(a b:Int):W (W a+b)=W (a+b):=by simp only[zvs,Int.bmod_add_bmod]
theorem zte(a b:Int):W (a+W b)=W (a+b):=by simp only[zvs,Int.add_bmod_bmod]
theorem zwt(a b:Int):W (W a-b)=W (a-b):=by simp only[zvs,Int.bmod_sub_bmod]
theorem zsr(a b:Int):W (a-W b)=W (a-b):=by simp only[zvs,Int.sub_bmod_bmod]
theorem z99{σ ρ:Type}(b:σ→Option (σ ⊕ ρ))(s:σ):Zf none b s=match b s with
 |none=>none
 |some (.inl s')=>Zf none b s'
 |some (.inr r)=>some r:=zlz b s
theorem xu{σ ρ:Type}{b:σ→Option (σ ⊕ ρ)}{s s':σ}(h:b s=some (.inl s')):Zf none b s=Zf none b s':=by rw[z99,h]
theorem qb{σ ρ:Type}{b:σ→Option (σ ⊕ ρ)}{s:σ}{x:Option ρ}(h:b s=x.map .inr):Zf none b s=x:=by rw[z99,h];cases x<;>rfl
end Go.Fx
