/-
  Own text Ok of this claim: what functions of the given program compute, in plain Lean, and the proof; no condition.
-/
import Derived.Test.YtjcckmpeflflbaaGenB
namespace Go.Proofs.Ytjcckmpeflflbaa
open Go.Fx
set_option linter.unusedVariables false
def ok_i64 (x : Int) : Prop := (IntKind.min .i64 ≤ x ∧ x ≤ IntKind.max .i64)
def ok_QRule (x : G_QRule) : Prop := (IntKind.min .i64 ≤ x.f_Mask ∧ x.f_Mask ≤ IntKind.max .i64) ∧ (x.f_All.length ≤ maxLen ∧ x.f_All.length * 8 ≤ reachBytes ∧ ∀ y ∈ x.f_All, ok_i64 y)
def ok_sl_QRule (x : List G_QRule) : Prop := (x.length ≤ maxLen ∧ x.length * 32 ≤ reachBytes ∧ ∀ y ∈ x, ok_QRule y)
def ok_sl_sl_QRule (x : List (List G_QRule)) : Prop := (x.length ≤ maxLen ∧ x.length * 24 ≤ reachBytes ∧ ∀ y ∈ x, ok_sl_QRule y)
def ok_sl_i64 (x : List Int) : Prop := (x.length ≤ maxLen ∧ x.length * 8 ≤ reachBytes ∧ ∀ y ∈ x, ok_i64 y)
/-- what is known of the arguments -/
def okA3 (a0 : List (List G_QRule)) : Prop := ((a0.length ≤ maxLen ∧ a0.length * 24 ≤ reachBytes ∧ ∀ y ∈ a0, ok_sl_QRule y))
end Go.Proofs.Ytjcckmpeflflbaa
