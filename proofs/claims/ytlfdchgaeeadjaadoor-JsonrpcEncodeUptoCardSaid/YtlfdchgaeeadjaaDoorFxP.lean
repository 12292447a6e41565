/-
  Own framework.
-/
import Derived.Test.YtlfdchgaeeadjaaDoorFxS
namespace Go.Fx
set_option linter.unusedVariables false
def inR (x : Int) : Prop := -9223372036854775808 ≤ x ∧ x ≤ 9223372036854775807
theorem zp6 {x : Int} (h : inR x) : W x = x := z2c h.1 h.2
theorem z24 {σ ρ : Type} (b : σ → Option (σ ⊕ ρ)) (s : σ) : Z8 none b s = match b s with
 | none => none
 | some (.inl s') => Z8 none b s'
 | some (.inr r) => some r := zj7 b s
theorem w9 {σ ρ : Type} {b : σ → Option (σ ⊕ ρ)} {s s' : σ} (h : b s = some (.inl s')) : Z8 none b s = Z8 none b s' := by rw [z24, h]
theorem x5 {σ ρ : Type} {b : σ → Option (σ ⊕ ρ)} {s : σ} {x : Option ρ} (h : b s = x.map .inr) : Z8 none b s = x := by rw [z24, h]; cases x <;> rfl
end Go.Fx
