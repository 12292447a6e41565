/-
  Own framework.
-/
import Derived.Test.YtkpgfihopaokgaaGreatDoorFxMd
namespace Go.Fx
open Go
set_option linter.unusedVariables false
section
variable {P : Program} {I : Nat → Nat → Prop} {β : Id → Option CLoc} {n : Nat} {H : AHeap} {w : World}
structure BWrite (P : Program) (f : FuncId) (T e tb ts : TypeId) : Prop where
 ok : Qh P f
 ht : P.underlying tb = some (.slice e)
 hu : P.underlying ts = some .string
 hz : ∃ zs, xb P e = some zs
 hsz : xm P e = some 1
 hby : Zj P e = some 1
 used : ∀ (b : Nat) (s : ByteArray) (v v2 : Value) (w w2 : World), w.heap[b]? = some (.cells #[.pointer (some ⟨b, 0, none⟩), v] T (0, 0)) →
  (Builtin.append_ #[tb, ts] tb #[v, .string s]).run P w = .ok v2 w2 → (∃ a l c, v2 = .slice a l c) → w2.heap[b]? = some (.cells #[.pointer (some ⟨b, 0, none⟩), v] T (0, 0)) →
  Calls P f #[.pointer (some ⟨b, 0, none⟩), .string s] w fun e w' => e = .returned (.tuple #[.int .i64 s.size, .nilIface]) ∧ w' = w2.setCell ⟨b, 1, none⟩ v2
 fresh : ∀ (b : Nat) (s : ByteArray) (v v2 : Value) (w w2 : World), w.heap[b]? = some (.cells #[.pointer none, v] T (0, 0)) →
  (Builtin.append_ #[tb, ts] tb #[v, .string s]).run P (w.setCell ⟨b, 0, none⟩ (.pointer (some ⟨b, 0, none⟩))) = .ok v2 w2 → (∃ a l c, v2 = .slice a l c) → w2.heap[b]? = some (.cells #[.pointer (some ⟨b, 0, none⟩), v] T (0, 0)) →
  Calls P f #[.pointer (some ⟨b, 0, none⟩), .string s] w fun e w' => e = .returned (.tuple #[.int .i64 s.size, .nilIface]) ∧ w' = w2.setCell ⟨b, 1, none⟩ v2
structure BStr (P : Program) (f : FuncId) (T e : TypeId) : Prop where
 ok : Qh P f
 nil : ∀ (b : Nat) (p : Value) (w : World), w.heap[b]? = some (.cells #[p, .slice none 0 0] T (0, 0)) →
  Calls P f #[.pointer (some ⟨b, 0, none⟩)] w fun e w' => e = .returned (.string ⟨#[]⟩) ∧ w' = w.drew
 zero : ∀ (b g cap : Nat) (p : Value) (w : World), w.heap[b]? = some (.cells #[p, .slice (some ⟨g, 0, none⟩) 0 cap] T (0, 0)) → cap ≠ 0 →
  Calls P f #[.pointer (some ⟨b, 0, none⟩)] w fun e w' => e = .returned (.string ⟨#[]⟩) ∧ w' = w.drew
 full : ∀ (b g cap : Nat) (l : List UInt8) (p : Value) (w : World) (cur : Array Value) (fr : Nat × Nat), w.heap[b]? = some (.cells #[p, .slice (some ⟨g, 0, none⟩) l.length cap] T (0, 0)) → l ≠ [] → cap ≠ 0 → l.length ≤ cur.size → l.length ≤ 9223372036854775807 →
  w.heap[g]? = some (.cells cur e fr) → (∀ (j : Nat) (x : UInt8), l[j]? = some x → cur[j]? = some (Value.int .u8 (x.toNat : Int))) →
  Calls P f #[.pointer (some ⟨b, 0, none⟩)] w fun e w' => e = .returned (.string ⟨l.toArray⟩) ∧ w' = w.drew.freeze ⟨g, 0, none⟩ l.length
def znk (l : List UInt8) : Array Value := (l.map fun x => Value.int .u8 (x.toNat : Int)).toArray
end
end Go.Fx
