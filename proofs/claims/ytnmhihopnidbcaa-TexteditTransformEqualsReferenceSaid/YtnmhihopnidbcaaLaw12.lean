/-
  Own text Law12 of this claim: what functions of the given program compute, in plain Lean, and the proof; no condition.
-/
import Derived.Test.YtnmhihopnidbcaaLaw11
namespace Go.Proofs.Ytnmhihopnidbcaa
open Go.Fx
set_option linter.unusedVariables false
/-- the edits that do not end before a place -/
def dropE (i : Int) : List G_TextEdit → List G_TextEdit
  | [] => []
  | e :: r => if e.f_End ≤ i then dropE i r else e :: r
def hdS (i : Int) : List G_TextEdit → Bool
  | [] => false
  | e :: _ => decide (e.f_Start ≤ i)
theorem mdel_loop (i a2 : Int) (a3 : List G_tracedByte) (es : List G_TextEdit) : S_textedit_merger_deletes_l1 none i a2 a3 es = some (hdS i (dropE i es), dropE i es) := by
  induction es with
  | nil =>
    unfold S_textedit_merger_deletes_l1
    rw [loopM_out (x := some (false, [])) ?_]
    · rfl
    · unfold S_textedit_merger_deletes_b1
      rw [if_pos (by simp), if_neg (by simp)]
      unfold S_textedit_merger_deletes_j1
      rw [if_pos (by simp)]
      simp
  | cons e r ih =>
    have hg : (e :: r).getD ((0 : Int).toNat) default = e := rfl
    unfold S_textedit_merger_deletes_l1 at ih ⊢
    rw [dropE]
    by_cases hc : e.f_End ≤ i
    · rw [if_pos hc, loopM_inl (s' := r) ?_]
      · exact ih
      · unfold S_textedit_merger_deletes_b1
        simp only [hg]
        rw [if_pos (by intro _; first | (simp; done) | (simp; omega)), if_pos (by first | (simp; done) | (simp; omega)), if_pos (by first | (simp; done) | (simp; omega))]
        rfl
    · rw [if_neg hc, loopM_out (x := some (hdS i (e :: r), e :: r)) ?_]
      unfold S_textedit_merger_deletes_b1
      simp only [hg]
      rw [if_pos (by intro _; first | (simp; done) | (simp; omega)), if_neg (by first | (simp; done) | (simp; omega))]
      unfold S_textedit_merger_deletes_j1
      simp only [hg]
      rw [if_pos (by intro _; first | (simp; done) | (simp; omega))]
      simp [hdS]
theorem mdel_eq (i a2 : Int) (a3 : List G_tracedByte) (es : List G_TextEdit) : S_textedit_merger_deletes none i es a2 a3 = some (hdS i (dropE i es), dropE i es) := mdel_loop i a2 a3 es
end Go.Proofs.Ytnmhihopnidbcaa
