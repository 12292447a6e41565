/-
  Own text Ok of this claim: what functions of the given program compute, in plain Lean, and the proof; no condition.
-/
import Derived.Test.YtdkcjibedbjgjaaGenB
namespace Go.Proofs.Ytdkcjibedbjgjaa
open Go.Fx
set_option linter.unusedVariables false
def ok_QFileEvent (x : G_QFileEvent) : Prop := (IntKind.min .i64 ≤ x.f_Time ∧ x.f_Time ≤ IntKind.max .i64) ∧ x.f_Path.length ≤ reachBytes ∧ (IntKind.min .i64 ≤ x.f_Kind ∧ x.f_Kind ≤ IntKind.max .i64)
def ok_sl_QFileEvent (x : List G_QFileEvent) : Prop := (x.length ≤ maxLen ∧ x.length * 32 ≤ reachBytes ∧ ∀ y ∈ x, ok_QFileEvent y)
def ok_i64 (x : Int) : Prop := (IntKind.min .i64 ≤ x ∧ x ≤ IntKind.max .i64)
def ok_str (x : List UInt8) : Prop := x.length ≤ reachBytes
def okA4 (a0 : Int) (a1 : List G_QFileEvent) : Prop := ((IntKind.min .i64 ≤ a0 ∧ a0 ≤ IntKind.max .i64)) ∧ ((a1.length ≤ maxLen ∧ a1.length * 32 ≤ reachBytes ∧ ∀ y ∈ a1, ok_QFileEvent y))
end Go.Proofs.Ytdkcjibedbjgjaa
