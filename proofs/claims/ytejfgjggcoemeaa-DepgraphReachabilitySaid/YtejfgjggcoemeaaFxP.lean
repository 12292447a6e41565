/-
  Own framework.
-/
import Derived.Test.YtejfgjggcoemeaaFxS
namespace Go.Fx
set_option linter.unusedVariables false
def inR (x : Int) : Prop := -9223372036854775808 ≤ x ∧ x ≤ 9223372036854775807
theorem zin {x : Int} (h : inR x) : W x = x := wrap_i64 h.1 h.2
theorem z3s {σ ρ : Type} (b : σ → Option (σ ⊕ ρ)) (s : σ) : uv none b s = match b s with
 | none => none
 | some (.inl s') => uv none b s'
 | some (.inr r) => some r := zbl b s
theorem x6 {σ ρ : Type} {b : σ → Option (σ ⊕ ρ)} {s s' : σ} (h : b s = some (.inl s')) : uv none b s = uv none b s' := by rw [z3s, h]
theorem x5 {σ ρ : Type} {b : σ → Option (σ ⊕ ρ)} {s : σ} {x : Option ρ} (h : b s = x.map .inr) : uv none b s = x := by rw [z3s, h]; cases x <;> rfl
end Go.Fx
