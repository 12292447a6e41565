/-
  Own text Ok of this claim: what functions of the given program compute, in plain Lean, and the proof; no condition.
-/
import Derived.Test.YtejfgjggcoemeaaGenC
namespace Go.Proofs.Ytejfgjggcoemeaa
open Go.Fx
set_option linter.unusedVariables false
def z6p (x : G_QKey) : Prop := (IntKind.min .i64 ≤ x.f_Kind ∧ x.f_Kind ≤ IntKind.max .i64) ∧ (IntKind.min .i64 ≤ x.f_A ∧ x.f_A ≤ IntKind.max .i64) ∧ (IntKind.min .i64 ≤ x.f_B ∧ x.f_B ≤ IntKind.max .i64)
def z1p (x : G_QEdge) : Prop := z6p x.f_From ∧ z6p x.f_To
def z6c (x : List G_QEdge) : Prop := (x.length ≤ maxLen ∧ x.length * 48 ≤ reachBytes ∧ ∀ y ∈ x, z1p y)
def zok (x : Int) : Prop := (IntKind.min .i64 ≤ x ∧ x ≤ IntKind.max .i64)
def zre (a0 : List G_QEdge) : Prop := ((a0.length ≤ maxLen ∧ a0.length * 48 ≤ reachBytes ∧ ∀ y ∈ a0, z1p y))
end Go.Proofs.Ytejfgjggcoemeaa
