/-
  Own text Law1 of this claim: what functions of the given program compute, in plain Lean, and the proof; no condition.
-/
import Derived.Test.YtlenhplodggefaaGen
import Derived.Test.YtlenhplodggefaaFxP
namespace Go.Proofs.Ytlenhplodggefaa
open Go.Fx
set_option linter.unusedVariables false
theorem Wi {i : Nat} (h : i ≤ 4611686018427387904) : W ((i : Int) + 1) = ((i + 1 : Nat) : Int) := by rw [W_in (by unfold inR; omega)]; omega
theorem getD_at {α : Type} [Inhabited α] {l : List α} {i : Nat} (h : i < l.length) : l.getD i default = l[i] := by
  simp [List.getD_eq_getElem?_getD, h]

def dl (e : G_TextEdit) : Int := (e.f_NewText.length : Int) - (e.f_End - e.f_Start)
def Sz (es : List G_TextEdit) : Prop := ∀ e ∈ es, e.f_NewText.length ≤ 140737488355328
def V (n : Int) : Int → Int → List G_TextEdit → Int
  | p, L, [] => if L > 2000 then 2 else 0
  | p, L, e :: r => if e.f_Start ≤ p ∨ e.f_End < e.f_Start ∨ e.f_End > n then 3 else V n e.f_End (W (L + dl e)) r
def VE (src : List UInt8) (es : List G_TextEdit) : Int := if src.length > 2000 ∨ es.length > 50 then 2 else V src.length (-1) src.length es

theorem val_loop {a0 : List UInt8} {a1 : List G_TextEdit} (hl : a1.length ≤ 50) : ∀ (k i : Nat) (p L : Int), i + k = a1.length → 
    S_textedit_Validate_l1 none a0 a1 p L (i : Int) = some (V a0.length p L (a1.drop i))
  | 0, i, p, L, h => by
    have : i = a1.length := by omega
    subst this
    unfold S_textedit_Validate_l1
    rw [loopM_out (x := some (V a0.length p L [])) ?_]
    · rw [List.drop_length]
    · unfold S_textedit_Validate_b1
      rw [if_neg (by simp)]
      unfold S_textedit_Validate_j1 V
      by_cases h : L > 2000 <;> simp [h]
  | k + 1, i, p, L, h => by
    have hi : i < a1.length := by omega
    have ih := val_loop (a0 := a0) hl k (i + 1)
    unfold S_textedit_Validate_l1 at ih ⊢
    rw [List.drop_eq_getElem_cons hi]
    have e1 := Wi (show i ≤ 4611686018427387904 by omega)
    have hb : S_textedit_Validate_b1 none a0 a1 p L (i : Int) = if a1[i].f_Start ≤ p ∨ a1[i].f_End < a1[i].f_Start ∨ a1[i].f_End > (a0.length : Int) then some (.inr 3) else some (.inl (a1[i].f_End, W (L + dl a1[i]), ((i + 1 : Nat) : Int))) := by
      unfold S_textedit_Validate_b1
      rw [if_pos (by simpa using hi), if_pos (by simpa using hi)]
      simp only [Int.toNat_natCast, getD_at hi, e1]
      by_cases hc : a1[i].f_Start ≤ p ∨ a1[i].f_End < a1[i].f_Start ∨ a1[i].f_End > (a0.length : Int)
      · rw [if_pos (by simp; omega), if_pos hc]; rfl
      · rw [if_neg (by simp; omega), if_neg hc]
        rw [W_sub', W_add']
        rfl
    rw [V]
    by_cases hc : a1[i].f_Start ≤ p ∨ a1[i].f_End < a1[i].f_Start ∨ a1[i].f_End > (a0.length : Int)
    · rw [loopM_out (x := some 3) (by rw [hb, if_pos hc]; rfl), if_pos hc]
    · rw [loopM_inl (s' := (a1[i].f_End, W (L + dl a1[i]), ((i + 1 : Nat) : Int))) (by rw [hb, if_neg hc]), if_neg hc]
      exact ih _ _ (by omega)
theorem validate_eq (a0 : List UInt8) (a1 : List G_TextEdit) : S_textedit_Validate none a0 a1 = some (VE a0 a1) := by
  unfold S_textedit_Validate VE
  by_cases h : a0.length > 2000 ∨ a1.length > 50
  · rw [if_pos (by simp; omega), if_pos h]
  · rw [if_neg (by simp; omega), if_neg h]
    exact val_loop (by omega) a1.length 0 _ _ (by omega)

def Ok (n : Int) : Int → List G_TextEdit → Prop
  | _, [] => True
  | p, e :: r => p < e.f_Start ∧ e.f_Start ≤ e.f_End ∧ e.f_End ≤ n ∧ Ok n e.f_End r
def D : List G_TextEdit → Int
  | [] => 0
  | e :: r => dl e + D r
def Ln : List G_TextEdit → Int
  | [] => 0
  | e :: r => (e.f_NewText.length : Int) + Ln r
theorem Sz.tail {e : G_TextEdit} {r : List G_TextEdit} (h : Sz (e :: r)) : Sz r := fun x hx => h x (List.mem_cons_of_mem _ hx)
theorem Sz.drop {es : List G_TextEdit} (h : Sz es) (i : Nat) : Sz (es.drop i) := fun x hx => h x (List.mem_of_mem_drop hx)
theorem Ln_le {es : List G_TextEdit} (h : Sz es) : Ln es ≤ (es.length : Int) * 140737488355328 := by
  induction es with
  | nil => simp [Ln]
  | cons e r ih =>
    have h1 := ih h.tail
    have h2 := h e (List.mem_cons_self ..)
    simp only [Ln, List.length_cons]
    omega
theorem Ln_pos : ∀ (es : List G_TextEdit), 0 ≤ Ln es
  | [] => by simp [Ln]
  | e :: r => by have := Ln_pos r; simp only [Ln]; omega
theorem V_ok {n : Int} (hn : n ≤ 2000) (es : List G_TextEdit) : ∀ (p L : Int), -1 ≤ p → Ln es + L ≤ 4611686018427387904 → -4611686018427387904 + 2000 * (es.length : Int) ≤ L → V n p L es = 0 → Ok n p es ∧ L + D es ≤ 2000 := by
  induction es with
  | nil =>
    intro p L h1 h2 h3 h4
    refine ⟨trivial, ?_⟩
    unfold V at h4
    split at h4
    · cases h4
    · simp only [D]; omega
  | cons e r ih =>
    intro p L h1 h2 h3 h4
    unfold V at h4
    split at h4
    · cases h4
    · rename_i hc
      have hp := Ln_pos r
      simp only [Ln, List.length_cons] at h2 h3
      have hw : W (L + dl e) = L + dl e := W_in (by unfold inR dl; omega)
      rw [hw] at h4
      obtain ⟨g1, g2⟩ := ih e.f_End (L + dl e) (by omega) (by unfold dl; omega) (by unfold dl; omega) h4
      exact ⟨⟨by omega, by omega, by omega, g1⟩, by simp only [D]; omega⟩
theorem D_bound {n : Int} (hn : n ≤ 2000) : ∀ (es : List G_TextEdit) (p : Int), -1 ≤ p → Ok n p es → D es ≤ Ln es
  | [], p, _, _ => by simp [D, Ln]
  | e :: r, p, hp, h => by
    obtain ⟨h1, h2, h3, h4⟩ := h
    have := D_bound hn r e.f_End (by omega) h4
    simp only [D, Ln]; unfold dl; omega
theorem Ok.drop {n : Int} : ∀ (es : List G_TextEdit) (p : Int), -1 ≤ p → Ok n p es → ∀ i, ∃ p', -1 ≤ p' ∧ Ok n p' (es.drop i)
  | es, p, hp, h, 0 => ⟨p, hp, h⟩
  | [], p, hp, h, i + 1 => ⟨p, hp, trivial⟩
  | e :: r, p, hp, h, i + 1 => Ok.drop r e.f_End (by have := h.1; have := h.2.1; omega) h.2.2.2 i
theorem Ok.take {n : Int} : ∀ (es : List G_TextEdit) (p : Int) (i : Nat), Ok n p es → (hi : i < es.length) → p < es[i].f_Start ∧ Ok (es[i].f_Start) p (es.take i)
  | [], p, i, h, hi => by simp at hi
  | e :: r, p, 0, h, hi => ⟨h.1, trivial⟩
  | e :: r, p, i + 1, h, hi => by
    obtain ⟨h1, h2, h3, h4⟩ := h
    obtain ⟨g1, g2⟩ := Ok.take r e.f_End i h4 (by simpa using hi)
    refine ⟨?_, ?_⟩
    · simp only [List.getElem_cons_succ]; omega
    · simp only [List.getElem_cons_succ, List.take_succ_cons]
      exact ⟨h1, h2, by omega, g2⟩
theorem Ok.at {n : Int} : ∀ (es : List G_TextEdit) (p : Int) (i : Nat), -1 ≤ p → Ok n p es → (hi : i < es.length) → 0 ≤ es[i].f_Start ∧ es[i].f_Start ≤ es[i].f_End ∧ es[i].f_End ≤ n ∧ Ok n es[i].f_End (es.drop (i + 1))
  | [], p, i, hp, h, hi => by simp at hi
  | e :: r, p, 0, hp, h, hi => ⟨by have := h.1; simp only [List.getElem_cons_zero]; omega, h.2.1, h.2.2.1, h.2.2.2⟩
  | e :: r, p, i + 1, hp, h, hi => by
    have := Ok.at r e.f_End i (by have := h.1; have := h.2.1; omega) h.2.2.2 (by simpa using hi)
    simpa using this
theorem D_take : ∀ (es : List G_TextEdit) (i : Nat) (hi : i < es.length), D (es.take (i + 1)) = D (es.take i) + dl es[i]
  | [], i, hi => by simp at hi
  | e :: r, 0, hi => by simp [D]
  | e :: r, i + 1, hi => by
    have := D_take r i (by simpa using hi)
    simp only [List.take_succ_cons, D, List.getElem_cons_succ] at this ⊢
    omega

def A (src : List UInt8) : Nat → List G_TextEdit → List UInt8
  | off, [] => src.drop off
  | off, e :: r => (src.take e.f_Start.toNat).drop off ++ (e.f_NewText ++ A src e.f_End.toNat r)
theorem A_len {src : List UInt8} : ∀ (es : List G_TextEdit) (off : Nat) (p : Int), Ok src.length p es → (off : Int) ≤ p + 1 → off ≤ src.length → ((A src off es).length : Int) = src.length - off + D es
  | [], off, p, h, h1, h2 => by simp only [A, D, List.length_drop]; omega
  | e :: r, off, p, h, h1, h2 => by
    obtain ⟨g1, g2, g3, g4⟩ := h
    have := A_len r e.f_End.toNat e.f_End g4 (by omega) (by omega)
    simp only [A, D, List.length_append, List.length_drop, List.length_take]
    unfold dl
    omega
theorem A_split {src : List UInt8} : ∀ (es : List G_TextEdit) (E : Nat) (p : Int), Ok src.length p es → (E : Int) ≤ p + 1 → E ≤ src.length → A src 0 es = src.take E ++ A src E es
  | [], E, p, _, _, _ => by simp only [A, List.drop_zero, List.take_append_drop]
  | e :: r, E, p, h, h1, h2 => by
    obtain ⟨g1, g2, g3, g4⟩ := h
    simp only [A, List.drop_zero]
    rw [← List.append_assoc (src.take E)]
    congr 1
    have : (src.take e.f_Start.toNat).take E = src.take E := by rw [List.take_take]; congr 1; omega
    rw [← this, List.take_append_drop]

theorem ap_loop {a0 : List UInt8} {a1 : List G_TextEdit} (hn : a0.length ≤ 2000) (hl : a1.length ≤ 50) : ∀ (k i off : Nat) (p : Int) (acc : List UInt8), i + k = a1.length → -1 ≤ p → Ok a0.length p (a1.drop i) → (off : Int) ≤ p + 1 → off ≤ a0.length →
    acc.length + (A a0 off (a1.drop i)).length ≤ 2000 → S_textedit_Apply_l1 none a0 a1 (off : Int) (i : Int) acc = some (acc ++ A a0 off (a1.drop i), 0)
  | 0, i, off, p, acc, h, hp, h1, h2, h3, h4 => by
    have : i = a1.length := by omega
    subst this
    rw [List.drop_length] at h4 ⊢
    simp only [A] at h4 ⊢
    unfold S_textedit_Apply_l1
    rw [loopM_out (x := some (acc ++ a0.drop off, 0)) ?_]
    unfold S_textedit_Apply_b1
    rw [if_neg (by simp)]
    unfold S_textedit_Apply_j1
    dsimp only
    rw [List.take_length, Int.toNat_natCast, if_pos (by omega), if_pos (by omega), if_pos (by rw [List.length_append]; omega)]
  | k + 1, i, off, p, acc, h, hp, h1, h2, h3, h4 => by
    have hi : i < a1.length := by omega
    have ih := ap_loop hn hl k (i + 1)
    rw [List.drop_eq_getElem_cons hi] at h1 h4 ⊢
    obtain ⟨g1, g2, g3, g4⟩ := h1
    have e1 := Wi (show i ≤ 4611686018427387904 by omega)
    simp only [A, List.length_append] at h4
    unfold S_textedit_Apply_l1 at ih ⊢
    rw [loopM_inl (s' := (a1[i].f_End, ((i + 1 : Nat) : Int), acc ++ ((a0.take a1[i].f_Start.toNat).drop off ++ a1[i].f_NewText))) ?_]
    · have := ih a1[i].f_End.toNat a1[i].f_End (acc ++ ((a0.take a1[i].f_Start.toNat).drop off ++ a1[i].f_NewText)) (by omega) (by omega) g4 (by omega) (by omega) (by simp only [List.length_append]; omega)
      rw [show ((a1[i].f_End.toNat : Nat) : Int) = a1[i].f_End by omega] at this
      rw [this]
      simp only [A, List.append_assoc]
    · unfold S_textedit_Apply_b1
      rw [if_pos (by simpa using hi), if_pos (by simpa using hi)]
      simp only [Int.toNat_natCast, getD_at hi, e1]
      rw [if_pos (by omega), if_pos (by omega), if_pos (by simp only [List.length_append]; omega)]
theorem valid_of {a0 : List UInt8} {a1 : List G_TextEdit} (hz : Sz a1) (h : VE a0 a1 = 0) : a0.length ≤ 2000 ∧ a1.length ≤ 50 ∧ Ok a0.length (-1) a1 ∧ (a0.length : Int) + D a1 ≤ 2000 := by
  unfold VE at h
  split at h
  · cases h
  · rename_i hc
    have hL := Ln_le hz
    obtain ⟨g1, g2⟩ := V_ok (n := (a0.length : Int)) (by omega) a1 (-1) a0.length (by omega) (by omega) (by omega) h
    exact ⟨by omega, by omega, g1, g2⟩
theorem apply_eq {a0 : List UInt8} {a1 : List G_TextEdit} (hz : Sz a1) : S_textedit_Apply none a0 a1 = some (if VE a0 a1 = 0 then (A a0 0 a1, 0) else ([], VE a0 a1)) := by
  unfold S_textedit_Apply
  rw [validate_eq]
  simp only [Option.bind_some]
  by_cases h : VE a0 a1 = 0
  · obtain ⟨h1, h2, h3, h4⟩ := valid_of hz h
    have hlen := A_len a1 0 (-1) h3 (by omega) (by omega)
    rw [if_neg (by simp [h]), if_pos h]
    have := ap_loop h1 h2 a1.length 0 0 (-1) [] (by omega) (by omega) h3 (by omega) (by omega) (by simp only [List.drop_zero, List.length_nil]; omega)
    simpa using this
  · rw [if_pos (by simpa using h), if_neg h]
end Go.Proofs.Ytlenhplodggefaa
