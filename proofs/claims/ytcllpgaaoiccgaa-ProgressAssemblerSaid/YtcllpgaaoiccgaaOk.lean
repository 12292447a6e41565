/-
  Own text Ok of this claim: what functions of the given program compute, in plain Lean, and the proof; no condition.
-/
import Derived.Test.YtcllpgaaoiccgaaGenB
namespace Go.Proofs.Ytcllpgaaoiccgaa
open Go.Fx
set_option linter.unusedVariables false
def ok_i64 (x : Int) : Prop := (IntKind.min .i64 ≤ x ∧ x ≤ IntKind.max .i64)
def ok_QChunk (x : G_QChunk) : Prop := (IntKind.min .i64 ≤ x.f_Token ∧ x.f_Token ≤ IntKind.max .i64) ∧ (IntKind.min .i64 ≤ x.f_Seq ∧ x.f_Seq ≤ IntKind.max .i64) ∧ True ∧ (x.f_Items.length ≤ maxLen ∧ x.f_Items.length * 8 ≤ reachBytes ∧ ∀ y ∈ x.f_Items, ok_i64 y)
def ok_sl_QChunk (x : List G_QChunk) : Prop := (x.length ≤ maxLen ∧ x.length * 48 ≤ reachBytes ∧ ∀ y ∈ x, ok_QChunk y)
def ok_bool (x : Bool) : Prop := True
def ok_sl_i64 (x : List Int) : Prop := (x.length ≤ maxLen ∧ x.length * 8 ≤ reachBytes ∧ ∀ y ∈ x, ok_i64 y)
def okA4 (a0 : List G_QChunk) (a1 : Int) : Prop := ((a0.length ≤ maxLen ∧ a0.length * 48 ≤ reachBytes ∧ ∀ y ∈ a0, ok_QChunk y)) ∧ ((IntKind.min .i64 ≤ a1 ∧ a1 ≤ IntKind.max .i64))
end Go.Proofs.Ytcllpgaaoiccgaa
