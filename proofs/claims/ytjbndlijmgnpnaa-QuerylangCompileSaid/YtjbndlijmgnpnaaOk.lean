/-
  Own text Ok of this claim: what functions of the given program compute, in plain Lean, and the proof; no condition.
-/
import Derived.Test.YtjbndlijmgnpnaaGenB
namespace Go.Proofs.Ytjbndlijmgnpnaa
open Go.Fx
set_option linter.unusedVariables false
def ok_QOp (x : G_QOp) : Prop := (IntKind.min .i64 ≤ x.f_Op ∧ x.f_Op ≤ IntKind.max .i64) ∧ (IntKind.min .i64 ≤ x.f_A ∧ x.f_A ≤ IntKind.max .i64) ∧ (IntKind.min .i64 ≤ x.f_B ∧ x.f_B ≤ IntKind.max .i64)
def ok_sl_QOp (x : List G_QOp) : Prop := (x.length ≤ maxLen ∧ x.length * 24 ≤ reachBytes ∧ ∀ y ∈ x, ok_QOp y)
def ok_QProgram (x : G_QProgram) : Prop := (IntKind.min .i64 ≤ x.f_Inputs ∧ x.f_Inputs ≤ IntKind.max .i64) ∧ (x.f_Queries.length ≤ maxLen ∧ x.f_Queries.length * 24 ≤ reachBytes ∧ ∀ y ∈ x.f_Queries, ok_sl_QOp y)
def ok_QKey (x : G_QKey) : Prop := (IntKind.min .i64 ≤ x.f_Kind ∧ x.f_Kind ≤ IntKind.max .i64) ∧ (IntKind.min .i64 ≤ x.f_A ∧ x.f_A ≤ IntKind.max .i64) ∧ (IntKind.min .i64 ≤ x.f_B ∧ x.f_B ≤ IntKind.max .i64)
def ok_i64 (x : Int) : Prop := (IntKind.min .i64 ≤ x ∧ x ≤ IntKind.max .i64)
def ok_QValue (x : G_QValue) : Prop := (x.f_Nums.length ≤ maxLen ∧ x.f_Nums.length * 8 ≤ reachBytes ∧ ∀ y ∈ x.f_Nums, ok_i64 y) ∧ x.f_Text.length ≤ reachBytes
def ok_sl_sl_QOp (x : List (List G_QOp)) : Prop := (x.length ≤ maxLen ∧ x.length * 24 ≤ reachBytes ∧ ∀ y ∈ x, ok_sl_QOp y)
def ok_sl_QValue (x : List G_QValue) : Prop := (x.length ≤ maxLen ∧ x.length * 40 ≤ reachBytes ∧ ∀ y ∈ x, ok_QValue y)
def ok_sl_i64 (x : List Int) : Prop := (x.length ≤ maxLen ∧ x.length * 8 ≤ reachBytes ∧ ∀ y ∈ x, ok_i64 y)
def ok_str (x : List UInt8) : Prop := x.length ≤ reachBytes
/-- what is known of the arguments -/
def okA6 (a0 : G_QProgram) (a1 : G_QKey) (a2 : List G_QValue) : Prop := (ok_QProgram a0) ∧ (ok_QKey a1) ∧ ((a2.length ≤ maxLen ∧ a2.length * 40 ≤ reachBytes ∧ ∀ y ∈ a2, ok_QValue y))
end Go.Proofs.Ytjbndlijmgnpnaa
