/-
  Own text OkT of this claim: what functions of the given program compute, in plain Lean, and the proof; no condition.
-/
import Derived.Test.YtnmhihopnidbcaaGenB
namespace Go.Proofs.Ytnmhihopnidbcaa
open Go.Fx
set_option linter.unusedVariables false
def ok_TextEdit (x : G_TextEdit) : Prop := (IntKind.min .i64 ≤ x.f_Start ∧ x.f_Start ≤ IntKind.max .i64) ∧ (IntKind.min .i64 ≤ x.f_End ∧ x.f_End ≤ IntKind.max .i64) ∧ x.f_NewText.length ≤ reachBytes
def ok_sl_TextEdit (x : List G_TextEdit) : Prop := (x.length ≤ maxLen ∧ x.length * 32 ≤ reachBytes ∧ ∀ y ∈ x, ok_TextEdit y)
def ok_i64 (x : Int) : Prop := (IntKind.min .i64 ≤ x ∧ x ≤ IntKind.max .i64)
def ok_str (x : List UInt8) : Prop := x.length ≤ reachBytes
/-- what is known of the arguments -/
def okA5 (a0 : List UInt8) (a1 : List G_TextEdit) (a2 : List G_TextEdit) : Prop := (a0.length ≤ reachBytes) ∧ ((a1.length ≤ maxLen ∧ a1.length * 32 ≤ reachBytes ∧ ∀ y ∈ a1, ok_TextEdit y)) ∧ ((a2.length ≤ maxLen ∧ a2.length * 32 ≤ reachBytes ∧ ∀ y ∈ a2, ok_TextEdit y))
end Go.Proofs.Ytnmhihopnidbcaa
