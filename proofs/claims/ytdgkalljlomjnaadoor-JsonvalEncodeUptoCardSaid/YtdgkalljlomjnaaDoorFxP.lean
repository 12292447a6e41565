/-
  Own framework.
-/
import Derived.Test.YtdgkalljlomjnaaDoorFxS
namespace Go.Fx
set_option linter.unusedVariables false
def inR (x : Int) : Prop := -9223372036854775808 ≤ x ∧ x ≤ 9223372036854775807
theorem zlh {x : Int} (h : inR x) : W x = x := z1z h.1 h.2
theorem z21 {σ ρ : Type} (b : σ → Option (σ ⊕ ρ)) (s : σ) : Zg none b s = match b s with
 | none => none
 | some (.inl s') => Zg none b s'
 | some (.inr r) => some r := zjp b s
theorem jy {σ ρ : Type} {b : σ → Option (σ ⊕ ρ)} {s s' : σ} (h : b s = some (.inl s')) : Zg none b s = Zg none b s' := by rw [z21, h]
theorem x9 {σ ρ : Type} {b : σ → Option (σ ⊕ ρ)} {s : σ} {x : Option ρ} (h : b s = x.map .inr) : Zg none b s = x := by rw [z21, h]; cases x <;> rfl
end Go.Fx
