/-
  Own framework.
-/
import Derived.Test.YtbinocieebfpiaaDoorFxS
namespace Go.Fx
set_option linter.unusedVariables false
def inR (x : Int) : Prop := -9223372036854775808 ≤ x ∧ x ≤ 9223372036854775807
theorem z7v {x : Int} (h : inR x) : W x = x := W2 h.1 h.2
theorem z0u {σ ρ : Type} (b : σ → Option (σ ⊕ ρ)) (s : σ) : vi none b s = match b s with
 | none => none
 | some (.inl s') => vi none b s'
 | some (.inr r) => some r := z9j b s
theorem xf {σ ρ : Type} {b : σ → Option (σ ⊕ ρ)} {s s' : σ} (h : b s = some (.inl s')) : vi none b s = vi none b s' := by rw [z0u, h]
theorem zx {σ ρ : Type} {b : σ → Option (σ ⊕ ρ)} {s : σ} {x : Option ρ} (h : b s = x.map .inr) : vi none b s = x := by rw [z0u, h]; cases x <;> rfl
end Go.Fx
