/-
  Own text Law1 of this claim: what functions of the given program compute, in plain Lean, and the proof; no condition.
-/
import Derived.Test.YtnmhihopnidbcaaGenB
import Derived.Test.YtnmhihopnidbcaaFxP
namespace Go.Proofs.Ytnmhihopnidbcaa
open Go.Fx
set_option linter.unusedVariables false
theorem Wi {i : Nat} (h : i ≤ 4611686018427387904) : W ((i : Int) + 1) = ((i + 1 : Nat) : Int) := by rw [W_in (by unfold inR; omega)]; omega
theorem getD_at {α : Type} [Inhabited α] {l : List α} {i : Nat} (h : i < l.length) : l.getD i default = l[i] := by
  simp [List.getD_eq_getElem?_getD, h]

/-- by how much an edit makes the text longer -/
def dl (e : G_TextEdit) : Int := (e.f_NewText.length : Int) - (e.f_End - e.f_Start)
/-- the texts are no longer than a text can be -/
def Sz (es : List G_TextEdit) : Prop := ∀ e ∈ es, e.f_NewText.length ≤ 140737488355328
/-- what Validate says, from the end of the edit before on -/
def V (n : Int) : Int → Int → List G_TextEdit → Int
  | p, L, [] => if L > 2000 then 2 else 0
  | p, L, e :: r => if e.f_Start ≤ p ∨ e.f_End < e.f_Start ∨ e.f_End > n then 3 else V n e.f_End (W (L + dl e)) r
def VE (src : List UInt8) (es : List G_TextEdit) : Int := if src.length > 2000 ∨ es.length > 50 then 2 else V src.length (-1) src.length es

theorem val_loop {a0 : List UInt8} {a1 : List G_TextEdit} (hl : a1.length ≤ 50) : ∀ (k i : Nat) (p L : Int), i + k = a1.length → 
    S_textedit_Validate_l1 none a0 a1 p L (i : Int) = some (V a0.length p L (a1.drop i))
  | 0, i, p, L, h => by
    have : i = a1.length := by omega
    subst this
    unfold S_textedit_Validate_l1
    rw [loopM_out (x := some (V a0.length p L [])) ?_]
    · rw [List.drop_length]
    · unfold S_textedit_Validate_b1
      rw [if_neg (by simp)]
      unfold S_textedit_Validate_j1 V
      by_cases h : L > 2000 <;> simp [h]
  | k + 1, i, p, L, h => by
    have hi : i < a1.length := by omega
    have ih := val_loop (a0 := a0) hl k (i + 1)
    unfold S_textedit_Validate_l1 at ih ⊢
    rw [List.drop_eq_getElem_cons hi]
    have e1 := Wi (show i ≤ 4611686018427387904 by omega)
    have hb : S_textedit_Validate_b1 none a0 a1 p L (i : Int) = if a1[i].f_Start ≤ p ∨ a1[i].f_End < a1[i].f_Start ∨ a1[i].f_End > (a0.length : Int) then some (.inr 3) else some (.inl (a1[i].f_End, W (L + dl a1[i]), ((i + 1 : Nat) : Int))) := by
      unfold S_textedit_Validate_b1
      rw [if_pos (by simpa using hi), if_pos (by simpa using hi)]
      simp only [Int.toNat_natCast, getD_at hi, e1]
      by_cases hc : a1[i].f_Start ≤ p ∨ a1[i].f_End < a1[i].f_Start ∨ a1[i].f_End > (a0.length : Int)
      · rw [if_pos (by simp; omega), if_pos hc]; rfl
      · rw [if_neg (by simp; omega), if_neg hc]
        rw [W_sub', W_add']
        rfl
    rw [V]
    by_cases hc : a1[i].f_Start ≤ p ∨ a1[i].f_End < a1[i].f_Start ∨ a1[i].f_End > (a0.length : Int)
    · rw [loopM_out (x := some 3) (by rw [hb, if_pos hc]; rfl), if_pos hc]
    · rw [loopM_inl (s' := (a1[i].f_End, W (L + dl a1[i]), ((i + 1 : Nat) : Int))) (by rw [hb, if_neg hc]), if_neg hc]
      exact ih _ _ (by omega)
theorem validate_eq (a0 : List UInt8) (a1 : List G_TextEdit) : S_textedit_Validate none a0 a1 = some (VE a0 a1) := by
  unfold S_textedit_Validate VE
  by_cases h : a0.length > 2000 ∨ a1.length > 50
  · rw [if_pos (by simp; omega), if_pos h]
  · rw [if_neg (by simp; omega), if_neg h]
    exact val_loop (by omega) a1.length 0 _ _ (by omega)

/-- the end of the edit before -/
def prevE (a1 : List G_TextEdit) : Nat → Int
  | 0 => -1
  | i + 1 => (a1.getD i default).f_End
theorem rval_loop {a0 : List UInt8} {a1 : List G_TextEdit} (hl : a1.length ≤ 50) : ∀ (k i : Nat) (L : Int), i + k = a1.length → -1 ≤ prevE a1 i →
    S_glossatorref4_ValidateEdits_l1 none a0 a1 L (i : Int) = some (V a0.length (prevE a1 i) L (a1.drop i))
  | 0, i, L, h, h1 => by
    have : i = a1.length := by omega
    subst this
    unfold S_glossatorref4_ValidateEdits_l1
    rw [loopM_out (x := some (V a0.length (prevE a1 a1.length) L [])) ?_]
    · rw [List.drop_length]
    · unfold S_glossatorref4_ValidateEdits_b1
      rw [if_neg (by simp)]
      unfold S_glossatorref4_ValidateEdits_j4 V
      by_cases h : L > 2000 <;> simp [h]
  | k + 1, i, L, h, h1 => by
    have hi : i < a1.length := by omega
    have ih := rval_loop (a0 := a0) hl k (i + 1)
    unfold S_glossatorref4_ValidateEdits_l1 at ih ⊢
    rw [List.drop_eq_getElem_cons hi]
    have e1 := Wi (show i ≤ 4611686018427387904 by omega)
    have hp : prevE a1 (i + 1) = a1[i].f_End := by
      show (a1.getD i default).f_End = _
      rw [getD_at hi]
    have hj : S_glossatorref4_ValidateEdits_j3 none a0 a1 L (i : Int) (prevE a1 i) = if a1[i].f_Start ≤ prevE a1 i ∨ a1[i].f_End < a1[i].f_Start ∨ a1[i].f_End > (a0.length : Int) then some (.inr 3) else some (.inl (W (L + dl a1[i]), ((i + 1 : Nat) : Int))) := by
      unfold S_glossatorref4_ValidateEdits_j3
      rw [if_pos (by simpa using hi)]
      simp only [Int.toNat_natCast, getD_at hi, e1]
      by_cases hc : a1[i].f_Start ≤ prevE a1 i ∨ a1[i].f_End < a1[i].f_Start ∨ a1[i].f_End > (a0.length : Int)
      · rw [if_pos (by simp; omega), if_pos hc]; rfl
      · rw [if_neg (by simp; omega), if_neg hc]
        rw [W_add, W_sub]
        unfold dl
        congr 4
        omega
    have hb : S_glossatorref4_ValidateEdits_b1 none a0 a1 L (i : Int) = S_glossatorref4_ValidateEdits_j3 none a0 a1 L (i : Int) (prevE a1 i) := by
      unfold S_glossatorref4_ValidateEdits_b1
      rw [if_pos (by simpa using hi)]
      cases i with
      | zero => rw [if_neg (by simp)]; rfl
      | succ j =>
        have e2 : W (((j + 1 : Nat) : Int) - 1) = (j : Int) := by rw [W_in (by unfold inR; omega)]; omega
        rw [if_pos (by first | (simp; done) | (simp; omega)), e2, if_pos (by first | (simp; done) | (simp; omega))]
        rfl
    rw [V]
    by_cases hc : a1[i].f_Start ≤ prevE a1 i ∨ a1[i].f_End < a1[i].f_Start ∨ a1[i].f_End > (a0.length : Int)
    · rw [loopM_out (x := some 3) (by rw [hb, hj, if_pos hc]; rfl), if_pos hc]
    · rw [loopM_inl (s' := (W (L + dl a1[i]), ((i + 1 : Nat) : Int))) (by rw [hb, hj, if_neg hc]), if_neg hc]
      rw [← hp]
      exact ih _ (by omega) (by omega)
theorem rvalidate_eq (a0 : List UInt8) (a1 : List G_TextEdit) : S_glossatorref4_ValidateEdits none a0 a1 = some (VE a0 a1) := by
  unfold S_glossatorref4_ValidateEdits VE
  by_cases h : a0.length > 2000 ∨ a1.length > 50
  · rw [if_pos (by simp; omega), if_pos h]
  · rw [if_neg (by simp; omega), if_neg h]
    have := rval_loop (a0 := a0) (a1 := a1) (by omega) a1.length 0 a0.length (by omega) (by simp [prevE])
    simpa [prevE] using this
end Go.Proofs.Ytnmhihopnidbcaa
