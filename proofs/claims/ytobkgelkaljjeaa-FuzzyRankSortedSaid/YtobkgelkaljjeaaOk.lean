/-
  Own text Ok of this claim: what functions of the given program compute, in plain Lean, and the proof; no condition.
-/
import Derived.Test.YtobkgelkaljjeaaGenB
namespace Go.Proofs.Ytobkgelkaljjeaa
open Go.Fx
set_option linter.unusedVariables false
def ok_str (x : List UInt8) : Prop := x.length ≤ reachBytes
def ok_sl_str (x : List (List UInt8)) : Prop := (x.length ≤ maxLen ∧ x.length * 16 ≤ reachBytes ∧ ∀ y ∈ x, ok_str y)
def okA4 (a0 : List UInt8) (a1 : List (List UInt8)) : Prop := (a0.length ≤ reachBytes) ∧ ((a1.length ≤ maxLen ∧ a1.length * 16 ≤ reachBytes ∧ ∀ y ∈ a1, ok_str y))
end Go.Proofs.Ytobkgelkaljjeaa
