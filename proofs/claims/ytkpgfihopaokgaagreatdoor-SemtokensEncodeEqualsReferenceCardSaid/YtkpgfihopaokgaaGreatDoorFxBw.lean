/-
  Own framework.
-/
import Derived.Test.YtkpgfihopaokgaaGreatDoorFxBd
import Derived.Test.YtkpgfihopaokgaaGreatDoorFxX
namespace Go.Fx
set_option linter.unusedVariables false
variable {P : Program} {I : Nat → Nat → Prop} {β : Id → Option CLoc} {n : Nat} {H : AHeap} {w : World}
structure BByte (P : Program) (f : FuncId) (T e tb : TypeId) : Prop where
 ok : Qh P f
 ht : P.underlying tb = some (.slice e)
 hz : ∃ zs, xb P e = some zs
 hsz : xm P e = some 1
 hby : Zj P e = some 1
 used : ∀ (b : Nat) (c : Int) (v v2 : Value) (w w2 : World), w.heap[b]? = some (.cells #[.pointer (some ⟨b, 0, none⟩), v] T (0, 0)) →
  (Builtin.append_ #[tb, tb] tb #[v, .slice (some ⟨w.heap.size, 0, none⟩) 1 1]).run P (w.alloc (.cells #[.int .u8 c] e)) = .ok v2 w2 → (∃ a l c, v2 = .slice a l c) → w2.heap[b]? = some (.cells #[.pointer (some ⟨b, 0, none⟩), v] T (0, 0)) →
  Calls P f #[.pointer (some ⟨b, 0, none⟩), .int .u8 c] w fun e w' => e = .returned .nilIface ∧ w' = w2.setCell ⟨b, 1, none⟩ v2
 fresh : ∀ (b : Nat) (c : Int) (v v2 : Value) (w w2 : World), w.heap[b]? = some (.cells #[.pointer none, v] T (0, 0)) →
  (Builtin.append_ #[tb, tb] tb #[v, .slice (some ⟨w.heap.size, 0, none⟩) 1 1]).run P ((w.setCell ⟨b, 0, none⟩ (.pointer (some ⟨b, 0, none⟩))).alloc (.cells #[.int .u8 c] e)) = .ok v2 w2 → (∃ a l c, v2 = .slice a l c) → w2.heap[b]? = some (.cells #[.pointer (some ⟨b, 0, none⟩), v] T (0, 0)) →
  Calls P f #[.pointer (some ⟨b, 0, none⟩), .int .u8 c] w fun e w' => e = .returned .nilIface ∧ w' = w2.setCell ⟨b, 1, none⟩ v2
structure BLen (P : Program) (f : FuncId) (T : TypeId) : Prop where
 ok : Qh P f
 run : ∀ (b l cp : Nat) (p : Value) (a : Option Addr) (w : World), w.heap[b]? = some (.cells #[p, .slice a l cp] T (0, 0)) → Calls P f #[.pointer (some ⟨b, 0, none⟩)] w fun e w' => e = .returned (.int .i64 (l : Int)) ∧ w' = w
end Go.Fx
