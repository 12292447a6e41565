/-
  Own framework.
-/
import Derived.Test.YtlilpmnmedmjaaaGreatDoorFxN
import Derived.Test.YtlilpmnmedmjaaaGreatDoorFxMb
import Derived.Laws.Externs
import Derived.Tactics
/-! maps.Clone, said of abstract values -/
namespace Go.Fx
open Go
section
variable {P:Program} {I:Nat→Nat→Prop} {β:Id→Option CLoc} {n:Nat} {H:AHeap} {w:World}
end
end Go.Fx
