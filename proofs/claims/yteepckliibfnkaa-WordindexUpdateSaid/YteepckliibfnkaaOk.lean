/-
  Own text Ok of this claim: what functions of the given program compute, in plain Lean, and the proof; no condition.
-/
import Derived.Test.YteepckliibfnkaaGenB
namespace Go.Proofs.Yteepckliibfnkaa
open Go.Fx
set_option linter.unusedVariables false
def ok_str (x : List UInt8) : Prop := x.length ≤ reachBytes
def ok_QIndexEntry (x : G_QIndexEntry) : Prop := x.f_Name.length ≤ reachBytes ∧ (IntKind.min .u32 ≤ x.f_Sum ∧ x.f_Sum ≤ IntKind.max .u32) ∧ (x.f_Words.length ≤ maxLen ∧ x.f_Words.length * 16 ≤ reachBytes ∧ ∀ y ∈ x.f_Words, ok_str y)
def ok_QDocument (x : G_QDocument) : Prop := x.f_Name.length ≤ reachBytes ∧ (IntKind.min .i64 ≤ x.f_Version ∧ x.f_Version ≤ IntKind.max .i64) ∧ x.f_Text.length ≤ reachBytes
def ok_sl_QIndexEntry (x : List G_QIndexEntry) : Prop := (x.length ≤ maxLen ∧ x.length * 48 ≤ reachBytes ∧ ∀ y ∈ x, ok_QIndexEntry y)
def ok_u32 (x : Int) : Prop := (IntKind.min .u32 ≤ x ∧ x ≤ IntKind.max .u32)
def ok_sl_str (x : List (List UInt8)) : Prop := (x.length ≤ maxLen ∧ x.length * 16 ≤ reachBytes ∧ ∀ y ∈ x, ok_str y)
def ok_i64 (x : Int) : Prop := (IntKind.min .i64 ≤ x ∧ x ≤ IntKind.max .i64)
def okA5 (a0 : List G_QIndexEntry) (a1 : G_QDocument) (a2 : List UInt8) (a3 : List UInt8) : Prop := ((a0.length ≤ maxLen ∧ a0.length * 48 ≤ reachBytes ∧ ∀ y ∈ a0, ok_QIndexEntry y)) ∧ (ok_QDocument a1) ∧ (a2.length ≤ reachBytes) ∧ (a3.length ≤ reachBytes)
end Go.Proofs.Yteepckliibfnkaa
