/-
  Own text Law20 of this claim: what functions of the given program compute, in plain Lean, and the proof; no condition.
-/
import Derived.Test.YtnmhihopnidbcaaLaw19
import Derived.Test.YtnmhihopnidbcaaOkT
namespace Go.Proofs.Ytnmhihopnidbcaa
open Go.Fx
set_option linter.unusedVariables false
section
variable {s : List UInt8} {a1 a2 : List G_TextEdit} (h1 : Sz a1) (h2 : Sz a2)
theorem j3T_same (w : Int) (x y : List G_TextEdit) (hx : x.length ≤ 50) (hy : y.length ≤ 50) : S_glossatorlaw4_TexteditTransformEqualsReference_j3 none (x, y, w) w x y = some true := by
  unfold S_glossatorlaw4_TexteditTransformEqualsReference_j3
  dsimp only
  rw [equal_eq (x := x) (by omega)]
  simp only [Option.bind_some]
  rw [if_pos (by simp), equal_eq (x := y) (by omega)]
  simp
include h1 h2
theorem tf_eq (hv : VE s a1 = 0) (hw : VE s a2 = 0) : S_textedit_Transform none s a1 a2 = some (Tf s a1 a2) := by
  obtain ⟨b1, b2, b3, b4⟩ := valid_of h1 hv
  obtain ⟨c1, c2, c3, c4⟩ := valid_of h2 hw
  unfold S_textedit_Transform
  rw [apply_eq h1]
  simp only [Option.bind_some, if_pos hv]
  rw [if_neg (by simp), apply_eq h2]
  simp only [Option.bind_some, if_pos hw]
  rw [if_neg (by simp)]
  have := tf_loop b3 c3 b1 b4 c4 s.length 0 (by omega)
  have r1 : rst ((0 : Nat) : Int) a1 = a1 := by
    unfold rst
    cases a1 with
    | nil => rfl
    | cons e r => obtain ⟨g1, g2, g3, g4⟩ := b3; rw [dropE, if_neg (by omega)]
  have r2 : rst ((0 : Nat) : Int) a2 = a2 := by
    unfold rst
    cases a2 with
    | nil => rfl
    | cons e r => obtain ⟨g1, g2, g3, g4⟩ := c3; rw [dropE, if_neg (by omega)]
  rw [r1, r2] at this
  exact this
theorem tf_bad1 (hv : ¬ VE s a1 = 0) : S_textedit_Transform none s a1 a2 = some ([], [], VE s a1) := by
  have _ := h2
  unfold S_textedit_Transform
  rw [apply_eq h1]
  simp only [Option.bind_some, if_neg hv]
  rw [if_pos (by simpa using hv)]
theorem tf_bad2 (hv : VE s a1 = 0) (hw : ¬ VE s a2 = 0) : S_textedit_Transform none s a1 a2 = some ([], [], VE s a2) := by
  unfold S_textedit_Transform
  rw [apply_eq h1]
  simp only [Option.bind_some, if_pos hv]
  rw [if_neg (by simp), apply_eq h2]
  simp only [Option.bind_some, if_neg hw]
  rw [if_pos (by simpa using hw)]
theorem lawT_j1 : S_glossatorlaw4_TexteditTransformEqualsReference_j1 none a1 a2 s = some true := by
  unfold S_glossatorlaw4_TexteditTransformEqualsReference_j1
  by_cases hv : VE s a1 = 0
  · by_cases hw : VE s a2 = 0
    · obtain ⟨b1, b2, b3, b4⟩ := valid_of h1 hv
      obtain ⟨c1, c2, c3, c4⟩ := valid_of h2 hw
      rw [tf_eq h1 h2 hv hw, rvalidate_eq]
      simp only [Option.bind_some]
      rw [if_pos (by simpa using hv), rvalidate_eq]
      simp only [Option.bind_some]
      unfold S_glossatorlaw4_TexteditTransformEqualsReference_j2
      have hA := A_len a1 0 (-1) b3 (by omega) (by omega)
      have hB := A_len a2 0 (-1) c3 (by omega) (by omega)
      have e1 : ((A s 0 a1).length : Int) = s.length + D a1 := by omega
      have e2 : ((A s 0 a2).length : Int) = s.length + D a2 := by omega
      have ma : prR (Mg G_TracedByte.mk true s a1 a2).1 = (Mg Prod.mk true s a1 a2).1 := Mg_map _ _ _ _ _ _
      have mb : prR (Mg G_TracedByte.mk false s a1 a2).1 = (Mg Prod.mk false s a1 a2).1 := Mg_map _ _ _ _ _ _
      have la : (Mg G_TracedByte.mk true s a1 a2).1.length = (Mg Prod.mk true s a1 a2).1.length := by rw [← ma]; simp [prR]
      have n1 := Mg_len (mk := G_TracedByte.mk) b3 c3 true
      have n2 := Mg_len (mk := G_TracedByte.mk) b3 c3 false
      have i1 := Inc_Mg b3 c3 true
      have i2 := Inc_Mg b3 c3 false
      rw [if_pos (by simpa using hw), rmerge_eq false b3 c3 b1 b2 c2 b4 c4]
      simp only [Option.bind_some]
      rw [rmerge_eq true b3 c3 b1 b2 c2 b4 c4]
      simp only [Option.bind_some]
      rw [rapply_eq h2 c1 c2 c3]
      simp only [Option.bind_some]
      rw [rcanonical_eq (by omega) (by omega) (by omega) (by rw [mb, e2]; exact i2), mb, e2]
      simp only [Option.bind_some]
      rw [rapply_eq h1 b1 b2 b3]
      simp only [Option.bind_some]
      rw [rcanonical_eq (by omega) (by omega) (by omega) (by rw [ma, e1]; exact i1), ma, e1]
      simp only [Option.bind_some, List.length_map, la]
      unfold Tf
      dsimp only
      by_cases k1 : (Mg Prod.mk true s a1 a2).1.length > 2000
      · rw [if_pos k1, if_pos (by simp; omega)]
        exact j3T_same 2 [] [] (by simp) (by simp)
      · rw [if_neg k1]
        unfold finR
        by_cases k2 : (Cn (s.length + D a2) 0 [] [] (Mg Prod.mk false s a1 a2).1).length > 50
        · rw [if_pos k2, if_pos k2, if_pos (by simp)]
          exact j3T_same 2 [] [] (by simp) (by simp)
        · rw [if_neg k2, if_neg k2]
          by_cases k3 : (Cn (s.length + D a1) 0 [] [] (Mg Prod.mk true s a1 a2).1).length > 50
          · rw [if_pos k3, if_pos k3, if_pos (by simp)]
            exact j3T_same 2 [] [] (by simp) (by simp)
          · rw [if_neg k3, if_neg k3, if_neg (by simp; omega), hw]
            exact j3T_same 0 _ _ (by omega) (by omega)
    · rw [tf_bad2 h1 h2 hv hw, rvalidate_eq]
      simp only [Option.bind_some]
      rw [if_pos (by simpa using hv), rvalidate_eq]
      simp only [Option.bind_some]
      unfold S_glossatorlaw4_TexteditTransformEqualsReference_j2
      rw [if_neg (by simpa using hw)]
      exact j3T_same _ [] [] (by simp) (by simp)
  · rw [tf_bad1 h1 h2 hv, rvalidate_eq]
    simp only [Option.bind_some]
    rw [if_neg (by simpa using hv)]
    unfold S_glossatorlaw4_TexteditTransformEqualsReference_j2
    rw [if_neg (by simpa using hv)]
    exact j3T_same _ [] [] (by simp) (by simp)
end
theorem law_transform {a0 : List UInt8} {a1 a2 : List G_TextEdit} (h1 : Sz a1) (h2 : Sz a2) : S_glossatorlaw4_TexteditTransformEqualsReference none a0 a1 a2 = some true := by
  unfold S_glossatorlaw4_TexteditTransformEqualsReference
  rw [examples_ok]
  simp only [Option.bind_some, Bool.not_true, Bool.false_eq_true, if_false]
  split
  · rw [if_pos (by split <;> omega)]
    exact lawT_j1 h1 h2
  · exact lawT_j1 h1 h2
theorem lawT {a0 : List UInt8} {a1 a2 : List G_TextEdit} (h : okA5 a0 a1 a2) : S_glossatorlaw4_TexteditTransformEqualsReference none a0 a1 a2 = some true := by
  refine law_transform (fun e he => ?_) (fun e he => ?_)
  · have := h.2.1.2.2 e he
    unfold ok_TextEdit reachBytes at this
    omega
  · have := h.2.2.2.2 e he
    unfold ok_TextEdit reachBytes at this
    omega
end Go.Proofs.Ytnmhihopnidbcaa
