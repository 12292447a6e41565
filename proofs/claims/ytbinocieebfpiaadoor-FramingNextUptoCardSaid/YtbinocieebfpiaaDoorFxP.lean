/-
  Own framework.
-/
import Derived.Test.YtbinocieebfpiaaDoorFxS
namespace Go.Fx
set_option linter.unusedVariables false
def inR (x : Int) : Prop := -9223372036854775808 ≤ x ∧ x ≤ 9223372036854775807
theorem z2s {x : Int} (h : inR x) : W x = x := Jk h.1 h.2
theorem z0n {σ ρ : Type} (b : σ → Option (σ ⊕ ρ)) (s : σ) : vb none b s = match b s with
 | none => none
 | some (.inl s') => vb none b s'
 | some (.inr r) => some r := z7u b s
theorem xe {σ ρ : Type} {b : σ → Option (σ ⊕ ρ)} {s s' : σ} (h : b s = some (.inl s')) : vb none b s = vb none b s' := by rw [z0n, h]
theorem zw {σ ρ : Type} {b : σ → Option (σ ⊕ ρ)} {s : σ} {x : Option ρ} (h : b s = x.map .inr) : vb none b s = x := by rw [z0n, h]; cases x <;> rfl
end Go.Fx
