/-
  Own text Ok of this claim: what functions of the given program compute, in plain Lean, and the proof; no condition.
-/
import Derived.Test.YtcllpgaaoiccgaaGen
namespace Go.Proofs.Ytcllpgaaoiccgaa
open Go.Fx
set_option linter.unusedVariables false
def ok_i64 (x : Int) : Prop := (IntKind.min .i64 ≤ x ∧ x ≤ IntKind.max .i64)
def ok_sl_i64 (x : List Int) : Prop := (x.length ≤ maxLen ∧ x.length * 8 ≤ reachBytes ∧ ∀ y ∈ x, ok_i64 y)
/-- what is known of the arguments -/
def okA3 (a0 : Int) (a1 : List Int) (a2 : Int) (a3 : Int) (a4 : Int) : Prop := ((IntKind.min .i64 ≤ a0 ∧ a0 ≤ IntKind.max .i64)) ∧ ((a1.length ≤ maxLen ∧ a1.length * 8 ≤ reachBytes ∧ ∀ y ∈ a1, ok_i64 y)) ∧ ((IntKind.min .i64 ≤ a2 ∧ a2 ≤ IntKind.max .i64)) ∧ ((IntKind.min .i64 ≤ a3 ∧ a3 ≤ IntKind.max .i64)) ∧ ((IntKind.min .i64 ≤ a4 ∧ a4 ≤ IntKind.max .i64))
end Go.Proofs.Ytcllpgaaoiccgaa
