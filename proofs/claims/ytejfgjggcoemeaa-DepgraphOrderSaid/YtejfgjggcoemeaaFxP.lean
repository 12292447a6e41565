/-
  Own framework.
-/
import Derived.Test.YtejfgjggcoemeaaFxS
namespace Go.Fx
set_option linter.unusedVariables false
def inR (x : Int) : Prop := -9223372036854775808 ≤ x ∧ x ≤ 9223372036854775807
theorem zo4 {x : Int} (h : inR x) : W x = x := wrap_i64 h.1 h.2
theorem z7o {σ ρ : Type} (b : σ → Option (σ ⊕ ρ)) (s : σ) : kw none b s = match b s with
 | none => none
 | some (.inl s') => kw none b s'
 | some (.inr r) => some r := zgp b s
theorem qm {σ ρ : Type} {b : σ → Option (σ ⊕ ρ)} {s s' : σ} (h : b s = some (.inl s')) : kw none b s = kw none b s' := by rw [z7o, h]
theorem yp {σ ρ : Type} {b : σ → Option (σ ⊕ ρ)} {s : σ} {x : Option ρ} (h : b s = x.map .inr) : kw none b s = x := by rw [z7o, h]; cases x <;> rfl
end Go.Fx
