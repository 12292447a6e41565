/-
  Own framework.
-/
import Derived.Test.YtlilpmnmedmjaaaGreatDoorFxN
import Derived.Test.YtlilpmnmedmjaaaGreatDoorFxMb
import Derived.Test.YtlilpmnmedmjaaaGreatDoorFxMg
import Derived.Laws.Externs
import Derived.Tactics
/-! maps.Clone, said of abstract values -/
namespace Go.Fx
open Go
section
variable {P:Program} {I:Nat→Nat→Prop} {β:Id→Option CLoc} {n:Nat} {H:AHeap} {w:World}
def y3a(P:Program)(f:FuncId):Prop:=∀ (b:Nat) (es:Array MapEntry) (ck:Nat) (w:World),w.heap[b]?=some (.map es ck) →
 Calls P f #[.map (some b)] w fun e w'=>e=.returned (.map (some w.heap.size))∧w'=w.alloc (.map es ck)
theorem zea{o:Oper}{a:Act}{w w':World}{next:Act→World→Prop}{Q:Exit→Act→World→Prop}{s:Sem Value}{v:Value}(he:execOp a.eval o=(do pure (.value (←s)):Sem Next))(hs:s.run P w=.ok v w')(h:next (a.put o.dst v) w'):o.wp P a w next Q:=by
 unfold Oper.wp
 rw[he,Sem.run_bind,hs]
 exact h
end
end Go.Fx
