/-
  Own framework.
-/
import Derived.Test.YtlfdchgaeeadjaaDoorFxS
namespace Go.Fx
set_option linter.unusedVariables false
def inR (x : Int) : Prop := -9223372036854775808 ≤ x ∧ x ≤ 9223372036854775807
theorem zpc {x : Int} (h : inR x) : W x = x := z25 h.1 h.2
theorem z17 {σ ρ : Type} (b : σ → Option (σ ⊕ ρ)) (s : σ) : Zc none b s = match b s with
 | none => none
 | some (.inl s') => Zc none b s'
 | some (.inr r) => some r := zkb b s
theorem wa {σ ρ : Type} {b : σ → Option (σ ⊕ ρ)} {s s' : σ} (h : b s = some (.inl s')) : Zc none b s = Zc none b s' := by rw [z17, h]
theorem x5 {σ ρ : Type} {b : σ → Option (σ ⊕ ρ)} {s : σ} {x : Option ρ} (h : b s = x.map .inr) : Zc none b s = x := by rw [z17, h]; cases x <;> rfl
end Go.Fx
