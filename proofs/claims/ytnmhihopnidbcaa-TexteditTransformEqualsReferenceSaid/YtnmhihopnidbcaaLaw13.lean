/-
  Own text Law13 of this claim: what functions of the given program compute, in plain Lean, and the proof; no condition.
-/
import Derived.Test.YtnmhihopnidbcaaLaw12
namespace Go.Proofs.Ytnmhihopnidbcaa
open Go.Fx
set_option linter.unusedVariables false
/-- what the first edit puts in at a place -/
def insH (i : Int) : List G_TextEdit → List UInt8
  | [] => []
  | e :: _ => if e.f_Start = i then e.f_NewText else []
theorem minsert_eq {i a2 a4 : Int} {es a3 : List G_TextEdit} {m o : List G_tracedByte} (h1 : (insH i es).length ≤ 100000) (h2 : m.length + (insH i es).length ≤ 1000000) (h3 : o.length + (insH i es).length ≤ 1000000) (h4 : 0 ≤ a2) (h5 : a2 + (insH i es).length ≤ 1000000) :
    S_textedit_merger_insert none i es a2 a3 a4 m o = some (a2 + (insH i es).length, m ++ sq a2 (insH i es), o ++ (insH i es).map ins) := by
  unfold S_textedit_merger_insert
  cases es with
  | nil =>
    rw [if_pos (by simp), if_pos (by simp)]
    simp [insH, sq]
  | cons e r =>
    have hg : (e :: r).getD ((0 : Int).toNat) default = e := rfl
    simp only [hg]
    rw [if_pos (by intro _; first | (simp; done) | (simp; omega))]
    by_cases hc : e.f_Start = i
    · simp only [insH, if_pos hc] at h1 h2 h3 h5 ⊢
      rw [if_neg (by simp [hc]; omega), if_pos (by first | (simp; done) | (simp; omega))]
      have := mins_loop (e := e) (r := r) (a3 := a3) (a4 := a4) e.f_NewText.length 0 a2 m o (by omega) h1 h2 h3 h4 h5
      simpa using this
    · simp only [insH, if_neg hc]
      rw [if_pos (by simp; right; exact hc)]
      simp [sq]
end Go.Proofs.Ytnmhihopnidbcaa
