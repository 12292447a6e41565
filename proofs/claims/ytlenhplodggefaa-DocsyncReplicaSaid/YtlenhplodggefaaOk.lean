/-
  Own text Ok of this claim: what functions of the given program compute, in plain Lean, and the proof; no condition.
-/
import Derived.Test.YtlenhplodggefaaGen
namespace Go.Proofs.Ytlenhplodggefaa
open Go.Fx
set_option linter.unusedVariables false
def ok_QDocument (x : G_QDocument) : Prop := x.f_Name.length ≤ reachBytes ∧ (IntKind.min .i64 ≤ x.f_Version ∧ x.f_Version ≤ IntKind.max .i64) ∧ x.f_Text.length ≤ reachBytes
def ok_TextEdit (x : G_TextEdit) : Prop := (IntKind.min .i64 ≤ x.f_Start ∧ x.f_Start ≤ IntKind.max .i64) ∧ (IntKind.min .i64 ≤ x.f_End ∧ x.f_End ≤ IntKind.max .i64) ∧ x.f_NewText.length ≤ reachBytes
def ok_QUpdate (x : G_QUpdate) : Prop := (IntKind.min .i64 ≤ x.f_To ∧ x.f_To ≤ IntKind.max .i64) ∧ (IntKind.min .i64 ≤ x.f_From ∧ x.f_From ≤ IntKind.max .i64) ∧ x.f_Name.length ≤ reachBytes ∧ (IntKind.min .i64 ≤ x.f_Version ∧ x.f_Version ≤ IntKind.max .i64) ∧ (x.f_Edits.length ≤ maxLen ∧ x.f_Edits.length * 32 ≤ reachBytes ∧ ∀ y ∈ x.f_Edits, ok_TextEdit y)
def ok_sl_TextEdit (x : List G_TextEdit) : Prop := (x.length ≤ maxLen ∧ x.length * 32 ≤ reachBytes ∧ ∀ y ∈ x, ok_TextEdit y)
def ok_str (x : List UInt8) : Prop := x.length ≤ reachBytes
def ok_i64 (x : Int) : Prop := (IntKind.min .i64 ≤ x ∧ x ≤ IntKind.max .i64)
def ok_sl_QUpdate (x : List G_QUpdate) : Prop := (x.length ≤ maxLen ∧ x.length * 64 ≤ reachBytes ∧ ∀ y ∈ x, ok_QUpdate y)
def ok_sl_sl_TextEdit (x : List (List G_TextEdit)) : Prop := (x.length ≤ maxLen ∧ x.length * 24 ≤ reachBytes ∧ ∀ y ∈ x, ok_sl_TextEdit y)
def okA3 (a0 : G_QDocument) (a1 : List G_QUpdate) (a2 : List (List G_TextEdit)) : Prop := (ok_QDocument a0) ∧ ((a1.length ≤ maxLen ∧ a1.length * 64 ≤ reachBytes ∧ ∀ y ∈ a1, ok_QUpdate y)) ∧ ((a2.length ≤ maxLen ∧ a2.length * 24 ≤ reachBytes ∧ ∀ y ∈ a2, ok_sl_TextEdit y))
end Go.Proofs.Ytlenhplodggefaa
