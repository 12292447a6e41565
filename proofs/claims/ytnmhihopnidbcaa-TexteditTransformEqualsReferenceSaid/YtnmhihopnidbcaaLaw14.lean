/-
  Own text Law14 of this claim: what functions of the given program compute, in plain Lean, and the proof; no condition.
-/
import Derived.Test.YtnmhihopnidbcaaLaw13
namespace Go.Proofs.Ytnmhihopnidbcaa
open Go.Fx
set_option linter.unusedVariables false
/-- the edits that a merger still has at a place: those that do not end before it -/
def rst (i : Int) (es : List G_TextEdit) : List G_TextEdit := dropE (i - 1) es
theorem insH_late {n : Int} {i : Int} : ∀ (es : List G_TextEdit) (p : Int), Ok n p es → insH i (dropE (i - 1) es) = insA es i
  | [], p, h => rfl
  | e :: r, p, h => by
    obtain ⟨g1, g2, g3, g4⟩ := h
    rw [dropE, insA]
    by_cases hc : e.f_End ≤ i - 1
    · rw [if_pos hc, if_neg (by omega)]
      exact insH_late r e.f_End g4
    · rw [if_neg hc, insH]
      by_cases hs : e.f_Start = i
      · rw [if_pos hs, if_pos hs]
      · rw [if_neg hs, if_neg hs, (late (i := i) r e.f_End g4 (by omega)).1]
theorem hdS_del {n : Int} {i : Int} : ∀ (es : List G_TextEdit) (p : Int), Ok n p es → hdS i (dropE i es) = delB es i
  | [], p, h => rfl
  | e :: r, p, h => by
    obtain ⟨g1, g2, g3, g4⟩ := h
    rw [dropE, delB]
    by_cases hc : e.f_End ≤ i
    · rw [if_pos hc, decide_eq_false (by omega), Bool.false_or]
      exact hdS_del r e.f_End g4
    · rw [if_neg hc, hdS, (late (i := i) r e.f_End g4 (by omega)).2, Bool.or_false]
      congr 1; simp; omega
theorem dropE_dropE {i : Int} : ∀ (es : List G_TextEdit), dropE i (dropE (i - 1) es) = dropE i es
  | [] => rfl
  | e :: r => by
    by_cases hc : e.f_End ≤ i - 1
    · rw [dropE, if_pos hc, dropE_dropE r]
      conv => rhs; rw [dropE, if_pos (by omega)]
    · rw [show dropE (i - 1) (e :: r) = e :: r by rw [dropE, if_neg hc]]
end Go.Proofs.Ytnmhihopnidbcaa
