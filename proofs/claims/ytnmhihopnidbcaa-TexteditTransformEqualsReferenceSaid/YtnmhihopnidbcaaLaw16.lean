/-
  Own text Law16 of this claim: what functions of the given program compute, in plain Lean, and the proof; no condition.
-/
import Derived.Test.YtnmhihopnidbcaaLaw15
namespace Go.Proofs.Ytnmhihopnidbcaa
open Go.Fx
set_option linter.unusedVariables false
theorem mg_bytes {a0 : List UInt8} {a1 a2 v1 : List G_TextEdit} {a3 : Bool} {v45 v100 : Int} {t : List UInt8} : ∀ (k j : Nat) (off : Int) (out : List G_TracedByte), j + k = t.length → t.length ≤ 100000 → out.length + k ≤ 1000000 → 0 ≤ off → off + k ≤ 1000000 →
    S_glossatorref4_MergeEdits_l13 none a0 a1 a2 a3 v1 v45 v100 t out off (j : Int) = some (.inl (out ++ txt G_TracedByte.mk ((v100 == 0) == a3) off (t.drop j), off + (if ((v100 == 0) == a3) = true then (k : Int) else 0), W (v100 + 1)))
  | 0, j, off, out, h, h1, h2, h3, h4 => by
    have : j = t.length := by omega
    subst this
    unfold S_glossatorref4_MergeEdits_l13
    rw [loopM_out (x := some (.inl (out, off, W (v100 + 1)))) ?_]
    · unfold txt
      cases ((v100 == 0) == a3) <;> simp [sqG]
    · unfold S_glossatorref4_MergeEdits_b13
      rw [if_neg (by simp)]
      rfl
  | k + 1, j, off, out, h, h1, h2, h3, h4 => by
    have hj : j < t.length := by omega
    have e1 := Wi (show j ≤ 4611686018427387904 by omega)
    have e2 : W (off + 1) = off + 1 := W_in (by unfold inR; omega)
    have hg : t.getD j 0 = t[j] := by simp [List.getD_eq_getElem?_getD, hj]
    by_cases hw : ((v100 == 0) == a3) = true
    · have ih := mg_bytes (a0 := a0) (a1 := a1) (a2 := a2) (v1 := v1) (a3 := a3) (v45 := v45) (v100 := v100) (t := t) k (j + 1) (off + 1) (out ++ [⟨(t[j].toNat : Int), off⟩]) (by omega) h1 (by simp; omega) (by omega) (by omega)
      unfold S_glossatorref4_MergeEdits_l13 at ih ⊢
      rw [loopM_inl (s' := (out ++ [⟨(t[j].toNat : Int), off⟩], off + 1, ((j + 1 : Nat) : Int))) ?_]
      · rw [ih, List.drop_eq_getElem_cons hj, if_pos hw, if_pos hw]
        simp only [txt, hw, if_true, sqG, List.append_assoc, List.cons_append, List.nil_append]
        congr 3
        congr 1
        omega
      · unfold S_glossatorref4_MergeEdits_b13
        rw [if_pos (by simpa using hj), if_pos hw, if_pos (by simpa using hj), if_pos (by simp; omega)]
        unfold S_glossatorref4_MergeEdits_j51
        simp only [Int.toNat_natCast, hg, e1, e2]
    · have ih := mg_bytes (a0 := a0) (a1 := a1) (a2 := a2) (v1 := v1) (a3 := a3) (v45 := v45) (v100 := v100) (t := t) k (j + 1) off (out ++ [⟨(t[j].toNat : Int), -1⟩]) (by omega) h1 (by simp; omega) (by omega) (by omega)
      unfold S_glossatorref4_MergeEdits_l13 at ih ⊢
      rw [loopM_inl (s' := (out ++ [⟨(t[j].toNat : Int), -1⟩], off, ((j + 1 : Nat) : Int))) ?_]
      · rw [ih, List.drop_eq_getElem_cons hj, if_neg hw, if_neg hw]
        simp only [txt, if_neg hw, List.map_cons, List.append_assoc, List.cons_append, List.nil_append]
      · unfold S_glossatorref4_MergeEdits_b13
        rw [if_pos (by simpa using hj), if_neg hw, if_pos (by simpa using hj), if_pos (by simp; omega)]
        unfold S_glossatorref4_MergeEdits_j51
        simp only [Int.toNat_natCast, hg, e1]
end Go.Proofs.Ytnmhihopnidbcaa
