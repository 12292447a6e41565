/-
  Own framework.
-/
import Derived.Test.YtlilpmnmedmjaaaGreatDoorFxTr
import Derived.Test.YtlilpmnmedmjaaaGreatDoorFxU
namespace Go.Fx
set_option linter.unusedVariables false
open Go.ChangeShapes Go.WideShapes Go.ChangeAt Go.RowKit
variable {P:Program}
def RVB(P:Program)(t:TypeId)(α:Type)(e:α→AVal)(ok:α→Nat→Prop):Prop:=
 ∀ {H:Type} {enc:TypeId×Value→H} {w:World} {v:Value} {d:DataW H} {ps:List MemPlace} {base:Nat},Value.okWide P w .any base t v→DataW.Trod enc P w 0 (fun _=>true) true t v d ps→(∀n∈d.weights P t,n≤reachBytes)→∃x,ok x (sz d)∧RepI (old w) w (e x) v
theorem RVB.of{t:TypeId}{α:Type}{e:α→AVal}{ok:α→Prop}(h:RV P t α e ok):RVB P t α e (fun x _=>ok x):=fun hv hd hw=>h hv hd hw
theorem RVB.struct{t:TypeId}{fs:Array Field}{α:Type}{e:α→List AVal}{ok:α→Nat→Prop}(ht:P.underlying t=some (.struct fs))(h:∀F,RB P F t α e ok):RVB P t α (fun x=>.agg (e x)) ok:=by
 intro H enc w v d ps base hv hd hw
 obtain⟨cs,rfl,hsz⟩:=okWide_struct ht hv
 obtain⟨fuel,hd⟩:=hd
 obtain⟨x,h1,h2,h3,h4⟩:=(h fuel).reads (Nat.le_refl _) hd hw
 have e1:(Value.agg cs).cells.toList=cs.toList:=rfl
 rw[e1] at h2 h3 h4
 refine⟨x,h1,.agg _ cs (by rw[←Array.length_toList];exact h2) h3 (fun i y u hy hu=>h4 i y u hy (by rw[Array.getElem?_toList];exact hu))⟩
theorem RVB.cell{t:TypeId}{α:Type}{e:α→AVal}{ok:α→Nat→Prop}(hc:∀ {w:World} {v:Value} {base:Nat},Value.okWide P w .any base t v→v.cells=#[v])(h:∀F,RB P F t α (fun x=>[e x]) ok):RVB P t α e ok:=by
 intro H enc w v d ps base hv hd hw
 obtain⟨fuel,hd⟩:=hd
 obtain⟨x,h1,h2,h3,h4⟩:=(h fuel).reads (Nat.le_refl _) hd hw
 rw[hc hv] at h2 h3 h4
 exact⟨x,h1,h4 0 _ v rfl rfl⟩
theorem RVB.string{t:TypeId}(ht:P.underlying t=some .string)(hs:P.cellsOf t=1):RVB P t (List UInt8) (fun l=>.str l) (fun l k=>l.length+1≤k):=
 RVB.cell (fun hv=>by obtain⟨s,rfl⟩:=okWide_string ht hv;rfl) fun F=>RB.string ht hs
theorem RVB.slice{t el:TypeId}{α:Type}{e:α→AVal}{ok:α→Nat→Prop}(ht:P.underlying t=some (.slice el))(h:∀F,RB P F t α (fun x=>[e x]) ok):RVB P t α e ok:=
 RVB.cell (fun hv=>by obtain⟨a,l,c,rfl⟩:=okWide_slice ht hv;rfl) h
def RVsB(P:Program)(ts:List TypeId)(α:Type)(e:α→List AVal)(ok:α→Nat→Prop):Prop:=
 ∀ {H:Type} {enc:TypeId×Value→H} {w:World} {vs:List Value} {ds:List (DataW H)} {ps:List MemPlace} {base:Nat},(∀ (j:Nat) t v,ts[j]?=some t→vs[j]?=some v→Value.okWide P w .any base t v) →
  DataW.TrodAll enc P w 0 (fun _=>true) true ts vs ds ps→(∀n∈DataW.weightsEach P ts ds,n≤reachBytes)→∃x,ok x (szL ds)∧vs.length=(e x).length∧∀ (i:Nat) (a:AVal) (v:Value),(e x)[i]?=some a→vs[i]?=some v→RepI (old w) w a v
theorem RVsB.nil:RVsB P [] Unit (fun _=>[]) (fun _ _=>True):=by
 intro H enc w vs ds ps base _ h _
 obtain⟨rfl,rfl,rfl⟩:=trodAll_nil h
 exact⟨(),trivial,rfl,by simp⟩
theorem RVsB.cons{t:TypeId}{ts:List TypeId}{α γ:Type}{e:α→AVal}{e':γ→List AVal}{ok:α→Nat→Prop}{ok':γ→Nat→Prop}(h:RVB P t α e ok)(h':RVsB P ts γ e' ok') :
 RVsB P (t::ts) (α×γ) (fun x=>e x.1::e' x.2) (fun x k=>∃k1 k2,ok x.1 k1∧ok' x.2 k2∧k1+k2≤k):=by
 intro H enc w vs ds ps base hv hd hw
 obtain⟨v,vs',d,ds',p,q,rfl,rfl,rfl,h1,h2⟩:=trodAll_cons hd
 simp only[DataW.weightsEach,List.mem_append] at hw
 obtain⟨x,hx1,hx2⟩:=h (hv 0 t v rfl rfl) h1 (fun n hn=>hw n (.inl hn))
 obtain⟨y,hy1,hy2,hy3⟩:=h' (fun j t' v' ht hv'=>hv (j+1) t' v' (by simpa using ht) (by simpa using hv')) h2 (fun n hn=>hw n (.inr hn))
 refine⟨(x,y),⟨_,_,hx1,hy1,by simp only[szL];exact Nat.le_refl _⟩,by simp[hy2],fun i a u ha hu=>?_⟩
 cases i with
 |zero=>simp at ha hu;subst ha;subst hu;exact hx2
 |succ i=>exact hy3 i a u (by simpa using ha) (by simpa using hu)
end Go.Fx
