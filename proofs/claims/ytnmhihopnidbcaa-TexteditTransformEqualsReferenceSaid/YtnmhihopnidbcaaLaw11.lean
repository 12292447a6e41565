/-
  Own text Law11 of this claim: what functions of the given program compute, in plain Lean, and the proof; no condition.
-/
import Derived.Test.YtnmhihopnidbcaaLaw10
namespace Go.Proofs.Ytnmhihopnidbcaa
open Go.Fx
set_option linter.unusedVariables false
/-- bytes that are put in, with rising origins -/
def sq : Int → List UInt8 → List G_tracedByte
  | _, [] => []
  | off, b :: r => ⟨(b.toNat : Int), off⟩ :: sq (off + 1) r
theorem sq_len : ∀ (t : List UInt8) (off : Int), (sq off t).length = t.length
  | [], _ => rfl
  | b :: r, off => by simp [sq, sq_len r]
theorem mins_loop {e : G_TextEdit} {r a3 : List G_TextEdit} {a4 : Int} : ∀ (k j : Nat) (off : Int) (m o : List G_tracedByte), j + k = e.f_NewText.length → e.f_NewText.length ≤ 100000 → m.length + k ≤ 1000000 → o.length + k ≤ 1000000 → 0 ≤ off → off + k ≤ 1000000 →
    S_textedit_merger_insert_l1 none (e :: r) a3 a4 off (j : Int) m o = some (off + k, m ++ sq off (e.f_NewText.drop j), o ++ (e.f_NewText.drop j).map ins)
  | 0, j, off, m, o, h, h1, h2, h3, h4, h5 => by
    have : j = e.f_NewText.length := by omega
    subst this
    unfold S_textedit_merger_insert_l1
    rw [loopM_out (x := some (off, m, o)) ?_]
    · simp [sq]
    · unfold S_textedit_merger_insert_b1
      rw [if_neg (by simp)]
  | k + 1, j, off, m, o, h, h1, h2, h3, h4, h5 => by
    have hj : j < e.f_NewText.length := by omega
    have hj2 : j < (e.f_NewText.map ofU8).length := by simpa using hj
    have ih := mins_loop (r := r) (a3 := a3) (a4 := a4) k (j + 1) (off + 1) (m ++ [⟨(e.f_NewText[j].toNat : Int), off⟩]) (o ++ [ins e.f_NewText[j]]) (by omega) h1 (by simp; omega) (by simp; omega) (by omega) (by omega)
    have e1 := Wi (show j ≤ 4611686018427387904 by omega)
    have e2 : W (off + 1) = off + 1 := W_in (by unfold inR; omega)
    unfold S_textedit_merger_insert_l1 at ih ⊢
    rw [loopM_inl (s' := (off + 1, ((j + 1 : Nat) : Int), m ++ [⟨(e.f_NewText[j].toNat : Int), off⟩], o ++ [ins e.f_NewText[j]])) ?_]
    · rw [ih, List.drop_eq_getElem_cons hj]
      simp only [List.map_cons, sq, List.append_assoc, List.cons_append, List.nil_append]
      congr 2
      omega
    · unfold S_textedit_merger_insert_b1
      have hg : (e :: r).getD ((0 : Int).toNat) default = e := rfl
      simp only [hg, Int.toNat_natCast, getD_at hj2, e1, e2]
      rw [if_pos (by simpa using hj), if_pos (by simpa using hj), if_pos (by simp; omega), if_pos (by simp; omega)]
      simp [ins, ofU8]
end Go.Proofs.Ytnmhihopnidbcaa
