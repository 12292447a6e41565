/-
  Own text Law10 of this claim: what functions of the given program compute, in plain Lean, and the proof; no condition.
-/
import Derived.Test.YtnmhihopnidbcaaLaw8
namespace Go.Proofs.Ytnmhihopnidbcaa
open Go.Fx
set_option linter.unusedVariables false
theorem can21_eq (n : Int) (b : List G_tracedByte) : S_textedit_canonical_21 none n b = S_textedit_canonical none n b := by
  unfold S_textedit_canonical_21 S_textedit_canonical S_textedit_canonical_21_l1 S_textedit_canonical_l1
  congr 1
  funext s
  obtain ⟨i, pd, st, out⟩ := s
  dsimp only
  unfold S_textedit_canonical_21_b1 S_textedit_canonical_b1
  by_cases h : i < (b.length : Int)
  · simp only [List.length_map, decide_eq_true h, if_true]
    by_cases h0 : 0 ≤ i
    · simp only [h0, h, and_self, if_true, Nat.zero_add]
      rw [if_pos (show i.toNat < b.length by omega)]
      rfl
    · simp [h0]
  · simp only [List.length_map, decide_eq_false h]
    rfl
end Go.Proofs.Ytnmhihopnidbcaa
