/-
  Own framework.
-/
import Derived.Test.YtlilpmnmedmjaaaGreatDoorFxN
namespace Go.Fx
set_option linter.unusedVariables false
noncomputable def y3t{ρ:Type}(l:List Nat)(F:Nat→Option ρ):Option ρ:=match l with
 |[]=>none
 |[j]=>F j
 |l=>by classical exact if h:∃r,∀j∈l,F j=some r then some (Classical.choose h) else none
section
variable {σ ρ:Type} (N:Nat) (b:Nat→σ→Option (σ ⊕ ρ)) (d:σ→Option (σ ⊕ ρ))
def y36(seen:List Nat):List Nat:=(List.range N).filter fun j=>!seen.contains j
noncomputable def y18:Nat→List Nat→σ→Option ρ
 |0,_,_=>none
 |k+1,seen,s=>match y36 N seen with
  |[]=>(d s).bind fun o=>match o with
   |.inl _=>none
   |.inr r=>some r
  |l=>y3t l fun j=>(b j s).bind fun o=>match o with
   |.inl s'=>y18 k (j::seen) s'
   |.inr r=>some r
def zzq:List Nat→σ→Option ρ
 |[],s=>(d s).bind fun o=>match o with
  |.inl _=>none
  |.inr r=>some r
 |j::l,s=>(b j s).bind fun o=>match o with
  |.inl s'=>zzq l s'
  |.inr r=>some r
variable {N b d}
end
variable {P:Program} {N:Lay} {n0:Nat}
def y3p{σ ρ:Type}(n0 nL:Nat)(F:Nat→List Nat→σ→Option ρ)(env:List Nat→σ→Env)(hp:List Nat→σ→AHeap)(QX:ρ→Exit→Env→AHeap→Nat→Prop)(k:Nat)(r:ρ):Exit→Env→AHeap→Nat→Prop:=fun ex e H n=>
 (ex=.normal∧∃seen s,F k seen s=some r∧Sim n0 e H n (env seen s) (hp seen s) nL)∨(ex≠.normal∧QX r ex e H n)
end Go.Fx
