/-
  Own framework.
-/
import Derived.Test.YtejfgjggcoemeaaFxS
namespace Go.Fx
set_option linter.unusedVariables false
def inR (x : Int) : Prop := -9223372036854775808 ≤ x ∧ x ≤ 9223372036854775807
theorem zii {x : Int} (h : inR x) : W x = x := wrap_i64 h.1 h.2
theorem z59 {σ ρ : Type} (b : σ → Option (σ ⊕ ρ)) (s : σ) : um none b s = match b s with
 | none => none
 | some (.inl s') => um none b s'
 | some (.inr r) => some r := zd3 b s
theorem x7 {σ ρ : Type} {b : σ → Option (σ ⊕ ρ)} {s s' : σ} (h : b s = some (.inl s')) : um none b s = um none b s' := by rw [z59, h]
theorem x5 {σ ρ : Type} {b : σ → Option (σ ⊕ ρ)} {s : σ} {x : Option ρ} (h : b s = x.map .inr) : um none b s = x := by rw [z59, h]; cases x <;> rfl
end Go.Fx
