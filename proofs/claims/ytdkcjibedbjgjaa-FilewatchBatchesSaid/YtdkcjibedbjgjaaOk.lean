/-
  Own text Ok of this claim: what functions of the given program compute, in plain Lean, and the proof; no condition.
-/
import Derived.Test.YtdkcjibedbjgjaaGenB
namespace Go.Proofs.Ytdkcjibedbjgjaa
open Go.Fx
set_option linter.unusedVariables false
def ok_QFileEvent (x : G_QFileEvent) : Prop := (IntKind.min .i64 ≤ x.f_Time ∧ x.f_Time ≤ IntKind.max .i64) ∧ x.f_Path.length ≤ reachBytes ∧ (IntKind.min .i64 ≤ x.f_Kind ∧ x.f_Kind ≤ IntKind.max .i64)
def ok_str (x : List UInt8) : Prop := x.length ≤ reachBytes
def ok_sl_QFileEvent (x : List G_QFileEvent) : Prop := (x.length ≤ maxLen ∧ x.length * 32 ≤ reachBytes ∧ ∀ y ∈ x, ok_QFileEvent y)
def ok_i64 (x : Int) : Prop := (IntKind.min .i64 ≤ x ∧ x ≤ IntKind.max .i64)
def ok_sl_str (x : List (List UInt8)) : Prop := (x.length ≤ maxLen ∧ x.length * 16 ≤ reachBytes ∧ ∀ y ∈ x, ok_str y)
def okA3 (a0 : List G_QFileEvent) (a1 : Int) (a2 : List (List UInt8)) (a3 : Int) (a4 : Int) : Prop := ((a0.length ≤ maxLen ∧ a0.length * 32 ≤ reachBytes ∧ ∀ y ∈ a0, ok_QFileEvent y)) ∧ ((IntKind.min .i64 ≤ a1 ∧ a1 ≤ IntKind.max .i64)) ∧ ((a2.length ≤ maxLen ∧ a2.length * 16 ≤ reachBytes ∧ ∀ y ∈ a2, ok_str y)) ∧ ((IntKind.min .i64 ≤ a3 ∧ a3 ≤ IntKind.max .i64)) ∧ ((IntKind.min .i64 ≤ a4 ∧ a4 ≤ IntKind.max .i64))
end Go.Proofs.Ytdkcjibedbjgjaa
