/-
  Own text Ok of this claim.
-/
import Derived.Test.YtjcckmpeflflbaaGenC
namespace Go.Proofs.Ytjcckmpeflflbaa
open Go.Fx
set_option linter.unusedVariables false
def ok_i64 (x : Int) : Prop := (IntKind.min .i64 ≤ x ∧ x ≤ IntKind.max .i64)
def ok_QRule (x : G_QRule) : Prop := (IntKind.min .i64 ≤ x.f_Mask ∧ x.f_Mask ≤ IntKind.max .i64) ∧ (x.f_All.length ≤ maxLen ∧ x.f_All.length * 8 ≤ reachBytes ∧ ∀ y ∈ x.f_All, ok_i64 y)
def ok_sl_QRule (x : List G_QRule) : Prop := (x.length ≤ maxLen ∧ x.length * 32 ≤ reachBytes ∧ ∀ y ∈ x, ok_QRule y)
def ok_QDerivation (x : G_QDerivation) : Prop := (IntKind.min .i64 ≤ x.f_Set ∧ x.f_Set ≤ IntKind.max .i64) ∧ (IntKind.min .i64 ≤ x.f_Rule ∧ x.f_Rule ≤ IntKind.max .i64) ∧ (IntKind.min .i64 ≤ x.f_Element ∧ x.f_Element ≤ IntKind.max .i64)
def ok_sl_sl_QRule (x : List (List G_QRule)) : Prop := (x.length ≤ maxLen ∧ x.length * 24 ≤ reachBytes ∧ ∀ y ∈ x, ok_sl_QRule y)
def ok_sl_i64 (x : List Int) : Prop := (x.length ≤ maxLen ∧ x.length * 8 ≤ reachBytes ∧ ∀ y ∈ x, ok_i64 y)
def ok_sl_QDerivation (x : List G_QDerivation) : Prop := (x.length ≤ maxLen ∧ x.length * 24 ≤ reachBytes ∧ ∀ y ∈ x, ok_QDerivation y)
def okA5 (a0 : List (List G_QRule)) (a1 : Int) (a2 : Int) (a3 : List G_QDerivation) : Prop := ((a0.length ≤ maxLen ∧ a0.length * 24 ≤ reachBytes ∧ ∀ y ∈ a0, ok_sl_QRule y)) ∧ ((IntKind.min .i64 ≤ a1 ∧ a1 ≤ IntKind.max .i64)) ∧ ((IntKind.min .i64 ≤ a2 ∧ a2 ≤ IntKind.max .i64)) ∧ ((a3.length ≤ maxLen ∧ a3.length * 24 ≤ reachBytes ∧ ∀ y ∈ a3, ok_QDerivation y))
end Go.Proofs.Ytjcckmpeflflbaa
