/-
  Own framework.
-/
import Derived.Test.YtejfgjggcoemeaaFxS
namespace Go.Fx
set_option linter.unusedVariables false
def inR (x : Int) : Prop := -9223372036854775808 ≤ x ∧ x ≤ 9223372036854775807
theorem zpb {x : Int} (h : inR x) : W x = x := wrap_i64 h.1 h.2
theorem z92 {σ ρ : Type} (b : σ → Option (σ ⊕ ρ)) (s : σ) : u5 none b s = match b s with
 | none => none
 | some (.inl s') => u5 none b s'
 | some (.inr r) => some r := ziq b s
theorem yx {σ ρ : Type} {b : σ → Option (σ ⊕ ρ)} {s s' : σ} (h : b s = some (.inl s')) : u5 none b s = u5 none b s' := by rw [z92, h]
theorem yq {σ ρ : Type} {b : σ → Option (σ ⊕ ρ)} {s : σ} {x : Option ρ} (h : b s = x.map .inr) : u5 none b s = x := by rw [z92, h]; cases x <;> rfl
end Go.Fx
