/-
  Own text Ok of this claim: what functions of the given program compute, in plain Lean, and the proof; no condition.
-/
import Derived.Test.YteepckliibfnkaaGenB
namespace Go.Proofs.Yteepckliibfnkaa
open Go.Fx
set_option linter.unusedVariables false
def ok_QDocument (x : G_QDocument) : Prop := x.f_Name.length ≤ reachBytes ∧ (IntKind.min .i64 ≤ x.f_Version ∧ x.f_Version ≤ IntKind.max .i64) ∧ x.f_Text.length ≤ reachBytes
def ok_sl_QDocument (x : List G_QDocument) : Prop := (x.length ≤ maxLen ∧ x.length * 40 ≤ reachBytes ∧ ∀ y ∈ x, ok_QDocument y)
def ok_str (x : List UInt8) : Prop := x.length ≤ reachBytes
def ok_i64 (x : Int) : Prop := (IntKind.min .i64 ≤ x ∧ x ≤ IntKind.max .i64)
def okA3 (a0 : List G_QDocument) (a1 : List UInt8) : Prop := ((a0.length ≤ maxLen ∧ a0.length * 40 ≤ reachBytes ∧ ∀ y ∈ a0, ok_QDocument y)) ∧ (a1.length ≤ reachBytes)
end Go.Proofs.Yteepckliibfnkaa
