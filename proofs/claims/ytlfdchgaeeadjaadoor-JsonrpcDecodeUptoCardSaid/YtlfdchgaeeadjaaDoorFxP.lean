/-
  Own framework.
-/
import Derived.Test.YtlfdchgaeeadjaaDoorFxS
namespace Go.Fx
set_option linter.unusedVariables false
def inR (x : Int) : Prop := -9223372036854775808 ≤ x ∧ x ≤ 9223372036854775807
theorem zio {x : Int} (h : inR x) : W x = x := z57 h.1 h.2
theorem z4u {σ ρ : Type} (b : σ → Option (σ ⊕ ρ)) (s : σ) : Zu none b s = match b s with
 | none => none
 | some (.inl s') => Zu none b s'
 | some (.inr r) => some r := zo9 b s
theorem wk {σ ρ : Type} {b : σ → Option (σ ⊕ ρ)} {s s' : σ} (h : b s = some (.inl s')) : Zu none b s = Zu none b s' := by rw [z4u, h]
theorem qi {σ ρ : Type} {b : σ → Option (σ ⊕ ρ)} {s : σ} {x : Option ρ} (h : b s = x.map .inr) : Zu none b s = x := by rw [z4u, h]; cases x <;> rfl
end Go.Fx
