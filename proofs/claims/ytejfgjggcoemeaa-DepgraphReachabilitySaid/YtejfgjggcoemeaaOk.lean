/-
  Own text Ok of this claim: what functions of the given program compute, in plain Lean, and the proof; no condition.
-/
import Derived.Test.YtejfgjggcoemeaaGenB
namespace Go.Proofs.Ytejfgjggcoemeaa
open Go.Fx
set_option linter.unusedVariables false
def Jy (x : G_QKey) : Prop := (IntKind.min .i64 ≤ x.f_Kind ∧ x.f_Kind ≤ IntKind.max .i64) ∧ (IntKind.min .i64 ≤ x.f_A ∧ x.f_A ≤ IntKind.max .i64) ∧ (IntKind.min .i64 ≤ x.f_B ∧ x.f_B ≤ IntKind.max .i64)
def Um (x : G_QEdge) : Prop := Jy x.f_From ∧ Jy x.f_To
def z37 (x : List G_QEdge) : Prop := (x.length ≤ maxLen ∧ x.length * 48 ≤ reachBytes ∧ ∀ y ∈ x, Um y)
def zh2 (x : Int) : Prop := (IntKind.min .i64 ≤ x ∧ x ≤ IntKind.max .i64)
def zju (a0 : List G_QEdge) (a1 : G_QKey) : Prop := ((a0.length ≤ maxLen ∧ a0.length * 48 ≤ reachBytes ∧ ∀ y ∈ a0, Um y)) ∧ (Jy a1)
end Go.Proofs.Ytejfgjggcoemeaa
