/-
  Own framework.
-/
import Derived.Test.YtbinocieebfpiaaDoorFxN
import Derived.Test.YtbinocieebfpiaaDoorFxMb
import Derived.Test.YtbinocieebfpiaaDoorFxMg
import Derived.Laws.Externs
import Derived.Tactics
/-! maps.Clone, said of abstract values -/
namespace Go.Fx
open Go
section
variable {P : Program} {I : Nat → Nat → Prop} {β : Id → Option CLoc} {n : Nat} {H : AHeap} {w : World}
def zgw (P : Program) (f : FuncId) : Prop := ∀ (b : Nat) (es : Array MapEntry) (ck : Nat) (w : World), w.heap[b]? = some (.map es ck) →
 Calls P f #[.map (some b)] w fun e w' => e = .returned (.map (some w.heap.size)) ∧ w' = w.alloc (.map es ck)
end
end Go.Fx
