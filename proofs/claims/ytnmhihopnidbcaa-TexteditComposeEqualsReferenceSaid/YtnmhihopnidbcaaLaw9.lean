/-
  Own text Law9 of this claim: what functions of the given program compute, in plain Lean, and the proof; no condition.
-/
import Derived.Test.YtnmhihopnidbcaaLaw8
import Derived.Test.YtnmhihopnidbcaaOkC
namespace Go.Proofs.Ytnmhihopnidbcaa
open Go.Fx
set_option linter.unusedVariables false
def tbR (a0 : List UInt8) (j : Nat) : G_TracedByte := ⟨((a0.getD j 0).toNat : Int), (j : Int)⟩
def TR (a0 : List UInt8) : List G_TracedByte := (List.range a0.length).map (tbR a0)
theorem TR_len (a0 : List UInt8) : (TR a0).length = a0.length := by simp [TR]
theorem cm_loop {a0 : List UInt8} (a1 a2 : List G_TextEdit) (hn : a0.length ≤ 2000) : ∀ (k i : Nat), i + k = a0.length →
    S_glossatorref4_ComposeEdits_l1 none a0 a1 a2 ((TR a0).take i) (i : Int) = S_glossatorref4_ComposeEdits_j1 none a0 a1 a2 (TR a0)
  | 0, i, h => by
    have : i = a0.length := by omega
    subst this
    unfold S_glossatorref4_ComposeEdits_l1
    refine loopM_out ?_
    unfold S_glossatorref4_ComposeEdits_b1
    rw [if_neg (by simp)]
    rw [List.take_of_length_le (by rw [TR_len]; omega)]
  | k + 1, i, h => by
    have hi : i < a0.length := by omega
    have ih := cm_loop a1 a2 hn k (i + 1) (by omega)
    have e1 := Wi (show i ≤ 4611686018427387904 by omega)
    have hT : i < (TR a0).length := by rw [TR_len]; exact hi
    unfold S_glossatorref4_ComposeEdits_l1 at ih ⊢
    rw [loopM_inl (s' := ((TR a0).take (i + 1), ((i + 1 : Nat) : Int))) ?_]
    · exact ih
    · unfold S_glossatorref4_ComposeEdits_b1
      rw [if_pos (by simpa using hi), if_pos (by simpa using hi), if_pos (by simp; omega), List.take_succ_eq_append_getElem hT, e1]
      simp [TR, tbR]
theorem AT_pr (s : List UInt8) (a1 a2 : List G_TextEdit) : prR (AT insR (AT insR (TR s) 0 a1) 0 a2) = prC (AT ins (AT ins (T s) 0 a1) 0 a2) := by
  unfold prR prC
  rw [AT_map, AT_map, AT_map, AT_map]
  have h1 : (TR s).map (fun x => (x.f_Value, x.f_Origin)) = (T s).map (fun x => (x.f_value, x.f_origin)) := by
    unfold TR T; rw [List.map_map, List.map_map]; rfl
  rw [h1]
  rfl
section
variable {s : List UInt8} {a1 a2 : List G_TextEdit} (h1 : Sz a1) (h2 : Sz a2)
theorem cmp_ok (h1 : Sz a1) (hv : VE s a1 = 0) : S_textedit_Compose none s a1 a2 = S_textedit_Compose_j1 none s a1 a2 (VE (A s 0 a1) a2) := by
  unfold S_textedit_Compose
  rw [apply_eq h1]
  simp only [Option.bind_some, if_pos hv]
  rw [if_pos (by simp), validate_eq]
  rfl
theorem cmp_bad (h1 : Sz a1) (hv : ¬ VE s a1 = 0) : S_textedit_Compose none s a1 a2 = S_textedit_Compose_j1 none s a1 a2 (VE s a1) := by
  unfold S_textedit_Compose
  rw [apply_eq h1]
  simp only [Option.bind_some, if_neg hv]
  rw [if_neg (by simpa using hv)]
theorem cj1_bad (w : Int) (hw : ¬ w = 0) : S_textedit_Compose_j1 none s a1 a2 w = some ([], w) := by
  unfold S_textedit_Compose_j1
  rw [if_pos (by simpa using hw)]
theorem j3_same (w : Int) (l : List G_TextEdit) (hl : l.length ≤ 50) : S_glossatorlaw4_TexteditComposeEqualsReference_j3 none (l, w) w l = some true := by
  unfold S_glossatorlaw4_TexteditComposeEqualsReference_j3
  simp [equal_eq (x := l) (by omega)]
include h1 h2
theorem lawC_j1 : S_glossatorlaw4_TexteditComposeEqualsReference_j1 none a1 a2 s = some true := by
  unfold S_glossatorlaw4_TexteditComposeEqualsReference_j1
  by_cases hv : VE s a1 = 0
  · obtain ⟨b1, b2, b3, b4⟩ := valid_of h1 hv
    by_cases hw : VE (A s 0 a1) a2 = 0
    · obtain ⟨c1, c2, c3, c4⟩ := valid_of h2 hw
      have hA := A_len a1 0 (-1) b3 (by omega) (by omega)
      have hT1 := AT_len (g := ins) (src := T s) a1 0 (-1) (by rw [T_len]; exact b3) (by omega) (by omega)
      have hR1 := AT_len (g := insR) (src := TR s) a1 0 (-1) (by rw [TR_len]; exact b3) (by omega) (by omega)
      rw [T_len] at hT1
      rw [TR_len] at hR1
      have hTe : (AT ins (T s) 0 a1).length = (A s 0 a1).length := by omega
      have hRe : (AT insR (TR s) 0 a1).length = (A s 0 a1).length := by omega
      have hT2 := AT_len (g := ins) (src := AT ins (T s) 0 a1) a2 0 (-1) (by rw [hTe]; exact c3) (by omega) (by omega)
      have hR2 := AT_len (g := insR) (src := AT insR (TR s) 0 a1) a2 0 (-1) (by rw [hRe]; exact c3) (by omega) (by omega)
      have hinc := Inc_AT (a0 := s) b3 (e2 := a2) (by rw [hTe]; exact c3)
      have hj : S_textedit_Compose_j1 none s a1 a2 (VE (A s 0 a1) a2) = some (fin (Cn s.length 0 [] [] (prC (AT ins (AT ins (T s) 0 a1) 0 a2)))) := by
        unfold S_textedit_Compose_j1
        rw [if_neg (by simp [hw]), trace_eq b1]
        simp only [Option.bind_some]
        rw [applyTraced_eq (by rw [T_len]; exact b1) b2 (by rw [T_len]; exact b3) (by omega)]
        simp only [Option.bind_some]
        rw [applyTraced_eq (by omega) c2 (by rw [hTe]; exact c3) (by omega)]
        simp only [Option.bind_some]
        rw [canonical_eq (by omega) (by omega) (by omega) hinc]
        rfl
      have hce : S_glossatorref4_ComposeEdits none s a1 a2 = some (finR (Cn s.length 0 [] [] (prC (AT ins (AT ins (T s) 0 a1) 0 a2)))) := by
        have := cm_loop a1 a2 b1 s.length 0 (by omega)
        unfold S_glossatorref4_ComposeEdits
        rw [List.take_zero, show ((0 : Nat) : Int) = 0 from rfl] at this
        rw [this]
        unfold S_glossatorref4_ComposeEdits_j1
        rw [rapplyTrace_eq b2 (by rw [TR_len]; exact b1) (by rw [TR_len]; exact b3) (by omega)]
        simp only [Option.bind_some]
        rw [rapplyTrace_eq c2 (by omega) (by rw [hRe]; exact c3) (by omega)]
        simp only [Option.bind_some]
        rw [rcanonical_eq (by omega) (by omega) (by omega) (by rw [AT_pr]; exact hinc), AT_pr]
        rfl
      rw [cmp_ok h1 hv, hj, rvalidate_eq]
      simp only [Option.bind_some]
      rw [if_pos (by simpa using hv), rapply_eq h1 b1 b2 b3]
      simp only [Option.bind_some]
      rw [rvalidate_eq]
      simp only [Option.bind_some]
      unfold S_glossatorlaw4_TexteditComposeEqualsReference_j2
      rw [if_pos (by simpa using hw), hce]
      simp only [Option.bind_some]
      unfold fin finR
      by_cases hl : (Cn s.length 0 [] [] (prC (AT ins (AT ins (T s) 0 a1) 0 a2))).length > 50
      · rw [if_pos hl, if_pos hl, if_pos (by simp)]
        exact j3_same 2 [] (by simp)
      · rw [if_neg hl, if_neg hl, if_neg (by simp), hw]
        exact j3_same 0 _ (by omega)
    · rw [cmp_ok h1 hv, cj1_bad _ hw, rvalidate_eq]
      simp only [Option.bind_some]
      rw [if_pos (by simpa using hv), rapply_eq h1 b1 b2 b3]
      simp only [Option.bind_some]
      rw [rvalidate_eq]
      simp only [Option.bind_some]
      unfold S_glossatorlaw4_TexteditComposeEqualsReference_j2
      rw [if_neg (by simpa using hw)]
      exact j3_same _ [] (by simp)
  · rw [cmp_bad h1 hv, cj1_bad _ hv, rvalidate_eq]
    simp only [Option.bind_some]
    rw [if_neg (by simpa using hv)]
    unfold S_glossatorlaw4_TexteditComposeEqualsReference_j2
    rw [if_neg (by simpa using hv)]
    exact j3_same _ [] (by simp)
end
theorem law_compose {a0 : List UInt8} {a1 a2 : List G_TextEdit} (h1 : Sz a1) (h2 : Sz a2) : S_glossatorlaw4_TexteditComposeEqualsReference none a0 a1 a2 = some true := by
  unfold S_glossatorlaw4_TexteditComposeEqualsReference
  rw [examples_ok]
  simp only [Option.bind_some, Bool.not_true, Bool.false_eq_true, if_false]
  split
  · rw [if_pos (by split <;> omega)]
    exact lawC_j1 h1 h2
  · exact lawC_j1 h1 h2
theorem lawC {a0 : List UInt8} {a1 a2 : List G_TextEdit} (h : okA4 a0 a1 a2) : S_glossatorlaw4_TexteditComposeEqualsReference none a0 a1 a2 = some true := by
  refine law_compose (fun e he => ?_) (fun e he => ?_)
  · have := h.2.1.2.2 e he
    unfold ok_TextEdit reachBytes at this
    omega
  · have := h.2.2.2.2 e he
    unfold ok_TextEdit reachBytes at this
    omega
end Go.Proofs.Ytnmhihopnidbcaa
