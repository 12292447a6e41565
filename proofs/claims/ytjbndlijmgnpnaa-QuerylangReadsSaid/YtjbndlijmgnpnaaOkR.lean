/-
  Own text OkR of this claim: what functions of the given program compute, in plain Lean, and the proof; no condition.
-/
import Derived.Test.YtjbndlijmgnpnaaGenB
namespace Go.Proofs.Ytjbndlijmgnpnaa
open Go.Fx
set_option linter.unusedVariables false
def ok_QOp (x : G_QOp) : Prop := (IntKind.min .i64 ≤ x.f_Op ∧ x.f_Op ≤ IntKind.max .i64) ∧ (IntKind.min .i64 ≤ x.f_A ∧ x.f_A ≤ IntKind.max .i64) ∧ (IntKind.min .i64 ≤ x.f_B ∧ x.f_B ≤ IntKind.max .i64)
def ok_sl_QOp (x : List G_QOp) : Prop := (x.length ≤ maxLen ∧ x.length * 24 ≤ reachBytes ∧ ∀ y ∈ x, ok_QOp y)
def ok_QProgram (x : G_QProgram) : Prop := (IntKind.min .i64 ≤ x.f_Inputs ∧ x.f_Inputs ≤ IntKind.max .i64) ∧ (x.f_Queries.length ≤ maxLen ∧ x.f_Queries.length * 24 ≤ reachBytes ∧ ∀ y ∈ x.f_Queries, ok_sl_QOp y)
def ok_i64 (x : Int) : Prop := (IntKind.min .i64 ≤ x ∧ x ≤ IntKind.max .i64)
def ok_sl_sl_QOp (x : List (List G_QOp)) : Prop := (x.length ≤ maxLen ∧ x.length * 24 ≤ reachBytes ∧ ∀ y ∈ x, ok_sl_QOp y)
def ok_sl_i64 (x : List Int) : Prop := (x.length ≤ maxLen ∧ x.length * 8 ≤ reachBytes ∧ ∀ y ∈ x, ok_i64 y)
/-- what is known of the arguments -/
def okA5 (a0 : G_QProgram) (a1 : List Int) (a2 : Int) : Prop := (ok_QProgram a0) ∧ ((a1.length ≤ maxLen ∧ a1.length * 8 ≤ reachBytes ∧ ∀ y ∈ a1, ok_i64 y)) ∧ ((IntKind.min .i64 ≤ a2 ∧ a2 ≤ IntKind.max .i64))
end Go.Proofs.Ytjbndlijmgnpnaa
