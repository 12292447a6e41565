/-
  Own text Law3 of this claim: what functions of the given program compute, in plain Lean, and the proof; no condition.
-/
import Derived.Test.YtnmhihopnidbcaaLaw2
namespace Go.Proofs.Ytnmhihopnidbcaa
open Go.Fx
set_option linter.unusedVariables false
/-- the edit that takes edit i back -/
noncomputable def ent (src : List UInt8) (es : List G_TextEdit) (i : Nat) : G_TextEdit :=
  ⟨W ((es.getD i default).f_Start + D (es.take i)), W (W ((es.getD i default).f_Start + D (es.take i)) + ((es.getD i default).f_NewText.length : Int)), (src.take (es.getD i default).f_End.toNat).drop (es.getD i default).f_Start.toNat⟩
noncomputable def Iv (src : List UInt8) (es : List G_TextEdit) (i : Nat) : List G_TextEdit := (List.range i).map (ent src es)
theorem Iv_succ (src : List UInt8) (es : List G_TextEdit) (i : Nat) : Iv src es (i + 1) = Iv src es i ++ [ent src es i] := by
  unfold Iv; rw [List.range_succ, List.map_append]; rfl
theorem Iv_len (src : List UInt8) (es : List G_TextEdit) (i : Nat) : (Iv src es i).length = i := by simp [Iv]

section
variable {a0 : List UInt8} {a1 : List G_TextEdit} (hz : Sz a1) (hn : a0.length ≤ 2000) (hl : a1.length ≤ 50) (hok : Ok a0.length (-1) a1)
include hz hn hl hok
theorem inv_loop : ∀ (k i : Nat), i + k = a1.length → S_textedit_Invert_l1 none a0 a1 (Iv a0 a1 i) (W (D (a1.take i))) (i : Int) = some (Iv a0 a1 a1.length, 0)
  | 0, i, h => by
    have _ := hz
    have _ := hn
    have : i = a1.length := by omega
    subst this
    unfold S_textedit_Invert_l1
    rw [loopM_out (x := some (Iv a0 a1 a1.length, 0)) ?_]
    unfold S_textedit_Invert_b1
    rw [if_neg (by simp)]
    rfl
  | k + 1, i, h => by
    have hi : i < a1.length := by omega
    have ih := inv_loop k (i + 1) (by omega)
    obtain ⟨g1, g2, g3, g4⟩ := Ok.at a1 (-1) i (by omega) hok hi
    have e1 := Wi (show i ≤ 4611686018427387904 by omega)
    unfold S_textedit_Invert_l1 at ih ⊢
    rw [loopM_inl (s' := (Iv a0 a1 (i + 1), W (D (a1.take (i + 1))), ((i + 1 : Nat) : Int))) ?_]
    · exact ih
    · unfold S_textedit_Invert_b1
      rw [if_pos (by simpa using hi), if_pos (by simpa using hi)]
      simp only [Int.toNat_natCast, e1]
      have e3 : a1.getD i default = a1[i] := getD_at hi
      rw [if_pos (by rw [e3]; omega), if_pos (by simp only [List.length_map, List.length_append, Iv_len, List.length_cons, List.length_nil]; omega)]
      rw [Iv_succ, D_take a1 i hi]
      unfold ent
      have e4 : W (W (D (a1.take i)) + W ((a1[i].f_NewText.length : Int) - W (a1[i].f_End - a1[i].f_Start))) = W (D (a1.take i) + dl a1[i]) := by rw [W_sub', W_add', W_add]; rfl
      rw [e3, e4, W_add']
theorem rinv_loop : ∀ (k i : Nat), i + k = a1.length → S_glossatorref4_InvertEdits_l1 none a0 a1 (Iv a0 a1 i) (i : Int) = some (Iv a0 a1 a1.length)
  | 0, i, h => by
    have : i = a1.length := by omega
    subst this
    unfold S_glossatorref4_InvertEdits_l1
    rw [loopM_out (x := some (Iv a0 a1 a1.length)) ?_]
    unfold S_glossatorref4_InvertEdits_b1
    rw [if_neg (by simp)]
    rfl
  | k + 1, i, h => by
    have hi : i < a1.length := by omega
    have ih := rinv_loop k (i + 1) (by omega)
    obtain ⟨g1, g2, g3, g4⟩ := Ok.at a1 (-1) i (by omega) hok hi
    obtain ⟨t1, t2⟩ := Ok.take a1 (-1) i hok hi
    have e1 := Wi (show i ≤ 4611686018427387904 by omega)
    have hS : (a0.take a1[i].f_Start.toNat).length = a1[i].f_Start.toNat := by rw [List.length_take]; omega
    have t2' : Ok ((a0.take a1[i].f_Start.toNat).length : Int) (-1) (a1.take i) := by
      rw [hS, show ((a1[i].f_Start.toNat : Nat) : Int) = a1[i].f_Start by omega]; exact t2
    have hzt : Sz (a1.take i) := fun x hx => hz x (List.mem_of_mem_take hx)
    have hlt : (a1.take i).length ≤ 50 := by rw [List.length_take]; omega
    have hap := rapply_eq hzt (src := a0.take a1[i].f_Start.toNat) (by rw [hS]; omega) hlt t2'
    have hlen := A_len (src := a0.take a1[i].f_Start.toNat) (a1.take i) 0 (-1) t2' (by omega) (by omega)
    have hD := D_bound (n := ((a0.take a1[i].f_Start.toNat).length : Int)) (by rw [hS]; omega) (a1.take i) (-1) (by omega) t2'
    have hL := Ln_le hzt
    rw [hS] at hlen
    have hst : ((A (a0.take a1[i].f_Start.toNat) 0 (a1.take i)).length : Int) = W (a1[i].f_Start + D (a1.take i)) := by
      rw [W_in (by unfold inR; omega)]; omega
    unfold S_glossatorref4_InvertEdits_l1 at ih ⊢
    rw [loopM_inl (s' := (Iv a0 a1 (i + 1), ((i + 1 : Nat) : Int))) ?_]
    · exact ih
    · unfold S_glossatorref4_InvertEdits_b1
      rw [if_pos (by simpa using hi), if_pos (by simpa using hi)]
      simp only [Int.toNat_natCast, e1]
      have e3 : a1.getD i default = a1[i] := getD_at hi
      simp only [e3]
      rw [if_pos (by omega), if_pos (by simp; omega), List.drop_zero, hap]
      simp only [Option.bind_some]
      rw [if_pos (by omega), if_pos (by simp only [List.length_map, List.length_append, Iv_len, List.length_cons, List.length_nil]; omega)]
      rw [hst, Iv_succ]
      unfold ent
      rw [e3]
end
theorem eq_loop {x : List G_TextEdit} (hl : x.length ≤ 4611686018427387904) : ∀ (k i : Nat), i + k = x.length → S_glossatorref4_EqualEdits_l1 none x x (i : Int) = some true
  | 0, i, h => by
    have : i = x.length := by omega
    subst this
    unfold S_glossatorref4_EqualEdits_l1
    rw [loopM_out (x := some true) ?_]
    unfold S_glossatorref4_EqualEdits_b1
    rw [if_neg (by simp)]
    rfl
  | k + 1, i, h => by
    have hi : i < x.length := by omega
    have ih := eq_loop hl k (i + 1) (by omega)
    have e1 := Wi (show i ≤ 4611686018427387904 by omega)
    unfold S_glossatorref4_EqualEdits_l1 at ih ⊢
    rw [loopM_inl (s' := ((i + 1 : Nat) : Int)) ?_]
    · exact ih
    · unfold S_glossatorref4_EqualEdits_b1
      rw [if_pos (by simpa using hi), if_pos (by simpa using hi), if_pos (by simpa using hi), if_neg (by simp), e1]
theorem equal_eq {x : List G_TextEdit} (hl : x.length ≤ 4611686018427387904) : S_glossatorref4_EqualEdits none x x = some true := by
  unfold S_glossatorref4_EqualEdits
  rw [if_neg (by simp)]
  exact eq_loop hl x.length 0 (by omega)

/-- what is applied where the edits are valid -/
theorem valid_of {a0 : List UInt8} {a1 : List G_TextEdit} (hz : Sz a1) (h : VE a0 a1 = 0) : a0.length ≤ 2000 ∧ a1.length ≤ 50 ∧ Ok a0.length (-1) a1 ∧ (a0.length : Int) + D a1 ≤ 2000 := by
  unfold VE at h
  split at h
  · cases h
  · rename_i hc
    have hL := Ln_le hz
    obtain ⟨g1, g2⟩ := V_ok (n := (a0.length : Int)) (by omega) a1 (-1) a0.length (by omega) (by omega) (by omega) h
    exact ⟨by omega, by omega, g1, g2⟩
theorem apply_eq {a0 : List UInt8} {a1 : List G_TextEdit} (hz : Sz a1) : S_textedit_Apply none a0 a1 = some (if VE a0 a1 = 0 then (A a0 0 a1, 0) else ([], VE a0 a1)) := by
  unfold S_textedit_Apply
  rw [validate_eq]
  simp only [Option.bind_some]
  by_cases h : VE a0 a1 = 0
  · obtain ⟨h1, h2, h3, h4⟩ := valid_of hz h
    have hlen := A_len a1 0 (-1) h3 (by omega) (by omega)
    rw [if_neg (by simp [h]), if_pos h]
    have := ap_loop h1 h2 a1.length 0 0 (-1) [] (by omega) (by omega) h3 (by omega) (by omega) (by simp only [List.drop_zero, List.length_nil]; omega)
    simpa using this
  · rw [if_pos (by simpa using h), if_neg h]
theorem invert_eq {a0 : List UInt8} {a1 : List G_TextEdit} (hz : Sz a1) : S_textedit_Invert none a0 a1 = some (if VE a0 a1 = 0 then (Iv a0 a1 a1.length, 0) else ([], VE a0 a1)) := by
  unfold S_textedit_Invert
  rw [validate_eq]
  simp only [Option.bind_some]
  by_cases h : VE a0 a1 = 0
  · obtain ⟨h1, h2, h3, h4⟩ := valid_of hz h
    rw [if_neg (by simp [h]), if_pos h]
    have := inv_loop hz h1 h2 h3 a1.length 0 (by omega)
    have w0 : W 0 = 0 := W_in (by unfold inR; omega)
    simpa [Iv, D, w0] using this
  · rw [if_pos (by simpa using h), if_neg h]
theorem law_apply {a0 : List UInt8} {a1 : List G_TextEdit} (hz : Sz a1) : S_glossatorlaw4_TexteditApplyEqualsReference none a0 a1 = some true := by
  unfold S_glossatorlaw4_TexteditApplyEqualsReference
  rw [examples_ok, apply_eq hz, invert_eq hz, rvalidate_eq]
  simp only [Option.bind_some, Bool.not_true, Bool.false_eq_true, if_false]
  by_cases h : VE a0 a1 = 0
  · obtain ⟨h1, h2, h3, h4⟩ := valid_of hz h
    have hr : S_glossatorref4_InvertEdits none a0 a1 = some (Iv a0 a1 a1.length) := by
      have := rinv_loop hz h1 h2 h3 a1.length 0 (by omega)
      unfold S_glossatorref4_InvertEdits
      simpa [Iv] using this
    rw [if_pos (by simp [h]), rapply_eq hz h1 h2 h3, hr]
    simp only [Option.bind_some, if_pos h]
    unfold S_glossatorlaw4_TexteditApplyEqualsReference_j1
    rw [validate_eq]
    simp [h, equal_eq (x := Iv a0 a1 a1.length) (by rw [Iv_len]; omega)]
  · rw [if_neg (by simpa using h)]
    simp only [if_neg h]
    unfold S_glossatorlaw4_TexteditApplyEqualsReference_j1
    rw [validate_eq]
    simp [equal_eq (x := []) (by simp)]
end Go.Proofs.Ytnmhihopnidbcaa
