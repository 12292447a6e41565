/-
  Own framework.
-/
import Derived.Test.YtdgkalljlomjnaaDoorFxS
namespace Go.Fx
set_option linter.unusedVariables false
def inR (x : Int) : Prop := -9223372036854775808 ≤ x ∧ x ≤ 9223372036854775807
theorem zrc {x : Int} (h : inR x) : W x = x := z3s h.1 h.2
theorem z4d {σ ρ : Type} (b : σ → Option (σ ⊕ ρ)) (s : σ) : uq none b s = match b s with
 | none => none
 | some (.inl s') => uq none b s'
 | some (.inr r) => some r := zkz b s
theorem xv {σ ρ : Type} {b : σ → Option (σ ⊕ ρ)} {s s' : σ} (h : b s = some (.inl s')) : uq none b s = uq none b s' := by rw [z4d, h]
theorem ye {σ ρ : Type} {b : σ → Option (σ ⊕ ρ)} {s : σ} {x : Option ρ} (h : b s = x.map .inr) : uq none b s = x := by rw [z4d, h]; cases x <;> rfl
end Go.Fx
