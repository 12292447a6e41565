/-
  Own framework.
-/
import Derived.Test.YtejfgjggcoemeaaFxN
import Derived.RangeFuncRecord
import Derived.RangeFuncIn
namespace Go.Fx
set_option linter.unusedVariables false
section
variable {P:Program} {I:Nat→Nat→Prop} {β:Id→Option CLoc} {n:Nat} {H:AHeap} {w:World}
structure RecOf(P:Program)(N:Lay)(ps:List Nat)(a b:LCode)(r:Loop):Prop where
 st:r.state=.ready
 pe:r.pending=none
 pa:r.params.toList=ps
 la:ya P (zrr N) r.assign=some a
 lb:ya P (zrr N) r.body=some b
 sz:r.tmps.size=N.n
def busy(r:Loop):Loop:={ r with state:=.busy }
def zut(k:Id)(l:Nat)(r:Loop)(P:Program)(N:Lay)(n0:Nat)(b:LCode)(Q2:Exit→Env→AHeap→Nat→Prop):Exit→Env→AHeap→Nat→Prop:=
 fun ex e1 H1 n1=>ex=.normal∧∃e1',H1.get k=some (.lrec l r e1')∧LWp P (zrr N) n0 b Q2 e1 (H1.set k (.lrec l (busy r) e1')) n1
def zum(k:Id)(l:Nat)(r:Loop)(K:AVal→AHeap→Nat→Prop):Exit→Env→AHeap→Nat→Prop:=
 fun ex e2 H2 n2=>ex=.normal∧∃e2',H2.get k=some (.lrec l (busy r) e2')∧K (.bool true) (H2.set k (.lrec l r e2')) n2
def zta:Env→List Nat→List AVal→Env
 |e,p::ps,x::xs=>zta (e.put (some p) x) ps xs
 |e,_,_=>e
def SubE:Env→Env→Prop
 |[],_=>True
 |(k,x)::r,e=>e.get k=x∧SubE r e
theorem SubE.get:∀ {e1 e:Env},SubE e1 e→∀t,e1.get t=.any∨e1.get t=e.get t
 |[],_,_,t=>.inl rfl
 |(k,x)::r,e,h,t=>by
  simp only[Env.get]
  split
  ·rename_i hk;subst hk;exact .inr h.1.symm
  ·exact SubE.get h.2 t
end
def EnvVw(F:Id→Bool)(H:AHeap)(ρ:Id→Option Id)(n:Nat):Env→Env→Prop
 |[],[]=>True
 |(k,x)::r,(k',y)::r'=>(k=k'∧Vw F H ρ n x y)∧EnvVw F H ρ n r r'
 |_,_=>False
theorem EnvVw.get{F:Id→Bool}{H:AHeap}{ρ:Id→Option Id}{n:Nat}:∀ {e e':Env},EnvVw F H ρ n e e'→∀t,Vw F H ρ n (e.get t) (e'.get t)
 |[],[],_,t=>.any _
 |(k,x)::r,(k',y)::r',h,t=>by
  obtain⟨⟨rfl,h1⟩,h2⟩:=h
  simp only[Env.get]
  split
  ·exact h1
  ·exact EnvVw.get h2 t
 |[],_::_,h,_=>h.elim
 |_::_,[],h,_=>h.elim
end Go.Fx
