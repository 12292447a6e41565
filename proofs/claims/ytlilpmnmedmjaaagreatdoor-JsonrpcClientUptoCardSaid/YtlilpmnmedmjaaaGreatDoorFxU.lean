/-
  Own framework.
-/
import Derived.Test.YtlilpmnmedmjaaaGreatDoorFxT
import Derived.Below
import Derived.Carry
import Derived.ChangeSame
namespace Go.Fx
set_option linter.unusedVariables false
open Go.ChangeShapes Go.WideShapes Go.ChangeAt Go.RowKit
variable {P:Program}
def RV(P:Program)(t:TypeId)(α:Type)(e:α→AVal)(ok:α→Prop):Prop:=
 ∀ {H:Type} {enc:TypeId×Value→H} {w:World} {v:Value} {d:DataW H} {ps:List MemPlace} {base:Nat},Value.okWide P w .any base t v→DataW.Trod enc P w 0 (fun _=>true) true t v d ps→(∀n∈d.weights P t,n≤reachBytes)→∃x,ok x∧RepI (old w) w (e x) v
theorem RV.cell{t:TypeId}{α:Type}{e:α→AVal}{ok:α→Prop}(h:RA P t α (fun x=>[e x]) ok)(hc:∀ (w:World) (base:Nat) (v:Value),Value.okWide P w .any base t v→xp v=true):RV P t α e ok:=by
 intro H enc w v d ps base hv hd hw
 obtain⟨x,a,h1,h2,h3⟩:=h.arg (hc w base v hv) hd hw
 simp only[List.cons.injEq,and_true] at h2
 exact⟨x,h1,by rw[h2];exact h3⟩
theorem RV.bool{t:TypeId}(ht:P.underlying t=some .bool)(hs:P.cellsOf t=1):RV P t Bool (fun b=>.bool b) (fun _=>True):=
 RV.cell (RA.bool ht hs) (fun w base v h=>by obtain⟨b,rfl⟩:=okWide_bool ht h;rfl)
theorem RV.int{t:TypeId}{k:IntKind}(ht:P.underlying t=some (.int k))(hs:P.cellsOf t=1):RV P t Int (fun n=>.int k n) (fun n=>k.min≤n∧n≤k.max):=
 RV.cell (RA.int ht hs) (fun w base v h=>by obtain⟨b,rfl⟩:=okWide_int ht h;rfl)
theorem RV.string{t:TypeId}(ht:P.underlying t=some .string)(hs:P.cellsOf t=1):RV P t (List UInt8) (fun l=>.str l) (fun l=>l.length≤reachBytes):=
 RV.cell (RA.string ht hs) (fun w base v h=>by obtain⟨b,rfl⟩:=okWide_string ht h;rfl)
theorem RV.slice{t c:TypeId}{α:Type}{e:α→List AVal}{ok:α→Prop}(ht:P.underlying t=some (.slice c))(hs:P.cellsOf t=1)(hc:0<P.cellsOf c)(h:RA P c α e ok) :
 RV P t (List α) (fun l=>.isl (P.cellsOf c) (l.map e) false) (fun l=>l.length≤maxLen∧l.length*P.bytesOf c≤reachBytes∧∀x∈l,ok x):=
 RV.cell (RA.slice ht hs hc h) (fun w base v h=>by obtain⟨a,l,c,rfl⟩:=okWide_slice ht h;rfl)
theorem RV.struct{t:TypeId}{fs:Array Field}{α:Type}{e:α→List AVal}{ok:α→Prop}(ht:P.underlying t=some (.struct fs))(h:RA P t α e ok):RV P t α (fun x=>.agg (e x)) ok:=by
 intro H enc w v d ps base hv hd hw
 obtain⟨cs,rfl,hsz⟩:=okWide_struct ht hv
 obtain⟨fuel,hd⟩:=hd
 obtain⟨x,h1,h2,h3,h4⟩:=h.reads hd hw
 have e1:(Value.agg cs).cells.toList=cs.toList:=rfl
 rw[e1] at h2 h3 h4
 refine⟨x,h1,.agg _ cs (by rw[←Array.length_toList];exact h2) h3 (fun i y u hy hu=>h4 i y u hy (by rw[Array.getElem?_toList];exact hu))⟩
def RVs(P:Program)(ts:List TypeId)(α:Type)(e:α→List AVal)(ok:α→Prop):Prop:=
 ∀ {H:Type} {enc:TypeId×Value→H} {w:World} {vs:List Value} {ds:List (DataW H)} {ps:List MemPlace} {base:Nat},(∀ (j:Nat) t v,ts[j]?=some t→vs[j]?=some v→Value.okWide P w .any base t v) →
  DataW.TrodAll enc P w 0 (fun _=>true) true ts vs ds ps→(∀n∈DataW.weightsEach P ts ds,n≤reachBytes)→∃x,ok x∧vs.length=(e x).length∧∀ (i:Nat) (a:AVal) (v:Value),(e x)[i]?=some a→vs[i]?=some v→RepI (old w) w a v
theorem RVs.nil:RVs P [] Unit (fun _=>[]) (fun _=>True):=by
 intro H enc w vs ds ps base _ h _
 obtain⟨rfl,rfl,rfl⟩:=trodAll_nil h
 exact⟨(),trivial,rfl,by simp⟩
theorem RVs.cons{t:TypeId}{ts:List TypeId}{α γ:Type}{e:α→AVal}{e':γ→List AVal}{ok:α→Prop}{ok':γ→Prop}(h:RV P t α e ok)(h':RVs P ts γ e' ok'):RVs P (t::ts) (α×γ) (fun x=>e x.1::e' x.2) (fun x=>ok x.1∧ok' x.2):=by
 intro H enc w vs ds ps base hv hd hw
 obtain⟨v,vs',d,ds',p,q,rfl,rfl,rfl,h1,h2⟩:=trodAll_cons hd
 simp only[DataW.weightsEach,List.mem_append] at hw
 obtain⟨x,hx1,hx2⟩:=h (hv 0 t v rfl rfl) h1 (fun n hn=>hw n (.inl hn))
 obtain⟨y,hy1,hy2,hy3⟩:=h' (fun j t' v' ht hv'=>hv (j+1) t' v' (by simpa using ht) (by simpa using hv')) h2 (fun n hn=>hw n (.inr hn))
 refine⟨(x,y),⟨hx1,hy1⟩,by simp[hy2],fun i a u ha hu=>?_⟩
 cases i with
 |zero=>simp at ha hu;subst ha;subst hu;exact hx2
 |succ i=>exact hy3 i a u (by simpa using ha) (by simpa using hu)
theorem Inv.empty(w:World)(hg:GlobOk (old w) w):Inv (old w) (fun _=>none) 0 [] w:=
 { blocks:=fun id blk h=>by simp[AHeap.get] at h
   inj:=fun i j c d b k h=>by simp at h
   own:=fun i c b k h=>by simp at h
   imm:=fun b k h=>h
   fresh:=fun id _=>rfl
   glob:=hg }
theorem z1n{H:Type}{enc:TypeId×Value→H}{w:World}{base:Nat}{spare:Nat→Bool}{held:Bool}:∀ {ts:List TypeId} {vs:List Value} {ds:List (DataW H)} {p:List MemPlace},DataW.TrodAll enc P w base spare held ts vs ds p→ds.length=ts.length
 |[],_,_,_,h=>by obtain⟨rfl,rfl,rfl⟩:=trodAll_nil h;rfl
 |t::ts,_,_,_,h=>by
  obtain⟨v,vs',d,ds',p1,q1,rfl,rfl,rfl,k1,k2⟩:=trodAll_cons h
  simp[z1n k2]
theorem z5i{f:FuncId}{fn:Func}{s:ChangeSpec}{tb:TypeId}(hl:laidOutB P=true)(ts:List TypeId)(hts:fn.params.toList=ts)(hvars:s.vars=[])(hres:fn.resultTypes=#[tb])(hb:P.underlying tb=some .bool)
 (hrd:ts.all (fun t=>P.readableRec t&&decide (t<P.types.size))=true)
 {H:Type} {enc:TypeId×Value→H} {W:World} {base:Nat} {args:Array Value} {ds gs:List (DataW H)} {before:List MemPlace}
 (hfn:∀ds:List (DataW H),ds.length=ts.length→(s.fn H (ds++[])).results=[.lit (.bool true)]∧(s.fn H (ds++[])).args=ds∧(s.fn H (ds++[])).vars=[])
 (hval:∀ (j:Nat) t v,fn.params[j]?=some t→args[j]?=some v→Value.okWide P W .any base t v)
 (hW:DataW.Whole enc P fn.params.toList s.vars false W args.toList ds gs before)
 (hsz:(DataW.weightsEach P (fn.params.toList++s.plain.varTypes P) (ds++gs)).all (·≤reachBytes)=true) (hg:GlobOk (old W) W)
 (hr:∀ {ps:List MemPlace},(∀ (j:Nat) t v,ts[j]?=some t→args.toList[j]?=some v→Value.okWide P W .any base t v)→DataW.TrodAll enc P W 0 (fun _=>true) true ts args.toList ds ps→(∀n∈DataW.weightsEach P ts ds,n≤reachBytes) →
  ∃xs:List AVal,PFn P f xs (.bool true)∧args.toList.length=xs.length∧∀ (i:Nat) (a:AVal) (v:Value),xs[i]?=some a→args.toList[i]?=some v→RepI (old W) W a v) :
 Calls P f args W fun e W'=>∃v,e=.returned v∧s.post enc P fn false true false false W args v W':=by
 subst hts
 have hW':=hW
 obtain⟨p,q,hA0,hV,rfl,_,_⟩:=hW
 have hfn:=hfn ds (z1n hA0)
 rw[hvars] at hV
 obtain⟨rfl,rfl⟩:=trodVars_none hV
 have hvt:s.plain.varTypes P=[]:=by
  show s.vars.filterMap _=[]
  rw[hvars];rfl
 rw[hvt] at hsz
 simp only[List.append_nil] at hsz hW' hfn
 obtain⟨xs,hA,hlen,hrep⟩:=hr (fun j t v ht hv=>hval j t v (by rw[←Array.getElem?_toList];exact ht) (by rw[←Array.getElem?_toList];exact hv)) hA0 (fun n hn=>of_decide_eq_true (List.all_eq_true.1 hsz n hn))
 obtain⟨_,m,hA⟩:=hA
 have hc:=hA.2 (old W) (fun _=>none) W args.toList (Inv.empty W hg) hlen (fun i a v h1 h2=>.imm a v (hrep i a v h1 h2))
 rw[show args.toList.toArray=args from by simp] at hc
 refine hc.mono fun e W' ⟨r,v,H',n',I',β',h1,h2,h3,h4,h5⟩=>?_
 subst h1
 obtain⟨rfl,_,_⟩:=h2
 have hv:v=.bool true:=by
  cases h4 with
  |imm _ _ h=>cases h;rfl
 subst hv
 have hbel:Below W.heap.size W W':=⟨h5.os,h5.tape.eq,h5.output,h5.size,fun k hk=>h5.frame k hk (fun id c q hc=>by cases hc)⟩
 have hlt:∀x∈p,x.block<W.heap.size:=fun x hx=>by simpa using hW'.lt x hx
 have hargs:∀ (ts:List TypeId) (vs:List Value) (ds:List (DataW H)) (p:List MemPlace),DataW.TrodAll enc P W 0 (fun _=>true) true ts vs ds p→(ts.all (fun t=>P.readableRec t&&decide (t<P.types.size))=true)→(∀x∈p,x.block<W.heap.size)→DataW.TrodAll enc P W' 0 (fun b=>decide (b<W.heap.size)) true ts vs ds p:=by
  intro ts
  induction ts with
  |nil=>
   intro vs ds p h _ _
   obtain⟨rfl,rfl,rfl⟩:=trodAll_nil h
   exact trodAll_mk0
  |cons t ts ih=>
   intro vs ds p h hall hp
   obtain⟨v,vs',d,ds',p1,q1,rfl,rfl,rfl,k1,k2⟩:=trodAll_cons h
   simp only[List.all_cons,Bool.and_eq_true,decide_eq_true_eq] at hall
   exact trodAll_cons_mk (Below.trod hl hall.1.1 hall.1.2 k1 hbel (fun x hx=>hp x (List.mem_append_left _ hx))) (ih _ _ _ k2 hall.2 (fun x hx=>hp x (List.mem_append_right _ hx)))
 refine⟨_,rfl,ds,[],p,[],p,[],by simpa using hW',?_,?_,?_,hbel.frame _,fun h=>by cases h⟩
 ·rw[List.append_nil,hfn.1,hres]
  exact trodAll_mk1 (shut_bool hb true)
 ·rw[List.append_nil,hfn.2.1]
  exact hargs _ _ _ _ hA0 hrd hlt
 ·rw[List.append_nil,hfn.2.2,hvars]
  rfl
end Go.Fx
