/-
  Own text Law2 of this claim: what functions of the given program compute, in plain Lean, and the proof; no condition.
-/
import Derived.Test.YtnmhihopnidbcaaLaw1
namespace Go.Proofs.Ytnmhihopnidbcaa
open Go.Fx
set_option linter.unusedVariables false
theorem examples_ok : S_glossatorlaw4_texteditExamples (some 4096) = some true := by kernel_rfl

/-- the edits follow each other -/
def Ok (n : Int) : Int → List G_TextEdit → Prop
  | _, [] => True
  | p, e :: r => p < e.f_Start ∧ e.f_Start ≤ e.f_End ∧ e.f_End ≤ n ∧ Ok n e.f_End r
def D : List G_TextEdit → Int
  | [] => 0
  | e :: r => dl e + D r
def Ln : List G_TextEdit → Int
  | [] => 0
  | e :: r => (e.f_NewText.length : Int) + Ln r
theorem Sz.tail {e : G_TextEdit} {r : List G_TextEdit} (h : Sz (e :: r)) : Sz r := fun x hx => h x (List.mem_cons_of_mem _ hx)
theorem Sz.drop {es : List G_TextEdit} (h : Sz es) (i : Nat) : Sz (es.drop i) := fun x hx => h x (List.mem_of_mem_drop hx)
theorem Ln_le {es : List G_TextEdit} (h : Sz es) : Ln es ≤ (es.length : Int) * 140737488355328 := by
  induction es with
  | nil => simp [Ln]
  | cons e r ih =>
    have h1 := ih h.tail
    have h2 := h e (List.mem_cons_self ..)
    simp only [Ln, List.length_cons]
    omega
theorem Ln_pos : ∀ (es : List G_TextEdit), 0 ≤ Ln es
  | [] => by simp [Ln]
  | e :: r => by have := Ln_pos r; simp only [Ln]; omega
theorem V_ok {n : Int} (hn : n ≤ 2000) (es : List G_TextEdit) : ∀ (p L : Int), -1 ≤ p → Ln es + L ≤ 4611686018427387904 → -4611686018427387904 + 2000 * (es.length : Int) ≤ L → V n p L es = 0 → Ok n p es ∧ L + D es ≤ 2000 := by
  induction es with
  | nil =>
    intro p L h1 h2 h3 h4
    refine ⟨trivial, ?_⟩
    unfold V at h4
    split at h4
    · cases h4
    · simp only [D]; omega
  | cons e r ih =>
    intro p L h1 h2 h3 h4
    unfold V at h4
    split at h4
    · cases h4
    · rename_i hc
      have hp := Ln_pos r
      simp only [Ln, List.length_cons] at h2 h3
      have hw : W (L + dl e) = L + dl e := W_in (by unfold inR dl; omega)
      rw [hw] at h4
      obtain ⟨g1, g2⟩ := ih e.f_End (L + dl e) (by omega) (by unfold dl; omega) (by unfold dl; omega) h4
      exact ⟨⟨by omega, by omega, by omega, g1⟩, by simp only [D]; omega⟩
theorem D_bound {n : Int} (hn : n ≤ 2000) : ∀ (es : List G_TextEdit) (p : Int), -1 ≤ p → Ok n p es → D es ≤ Ln es
  | [], p, _, _ => by simp [D, Ln]
  | e :: r, p, hp, h => by
    obtain ⟨h1, h2, h3, h4⟩ := h
    have := D_bound hn r e.f_End (by omega) h4
    simp only [D, Ln]; unfold dl; omega
theorem Ok.drop {n : Int} : ∀ (es : List G_TextEdit) (p : Int), -1 ≤ p → Ok n p es → ∀ i, ∃ p', -1 ≤ p' ∧ Ok n p' (es.drop i)
  | es, p, hp, h, 0 => ⟨p, hp, h⟩
  | [], p, hp, h, i + 1 => ⟨p, hp, trivial⟩
  | e :: r, p, hp, h, i + 1 => Ok.drop r e.f_End (by have := h.1; have := h.2.1; omega) h.2.2.2 i
theorem Ok.take {n : Int} : ∀ (es : List G_TextEdit) (p : Int) (i : Nat), Ok n p es → (hi : i < es.length) → p < es[i].f_Start ∧ Ok (es[i].f_Start) p (es.take i)
  | [], p, i, h, hi => by simp at hi
  | e :: r, p, 0, h, hi => ⟨h.1, trivial⟩
  | e :: r, p, i + 1, h, hi => by
    obtain ⟨h1, h2, h3, h4⟩ := h
    obtain ⟨g1, g2⟩ := Ok.take r e.f_End i h4 (by simpa using hi)
    refine ⟨?_, ?_⟩
    · simp only [List.getElem_cons_succ]; omega
    · simp only [List.getElem_cons_succ, List.take_succ_cons]
      exact ⟨h1, h2, by omega, g2⟩
theorem Ok.at {n : Int} : ∀ (es : List G_TextEdit) (p : Int) (i : Nat), -1 ≤ p → Ok n p es → (hi : i < es.length) → 0 ≤ es[i].f_Start ∧ es[i].f_Start ≤ es[i].f_End ∧ es[i].f_End ≤ n ∧ Ok n es[i].f_End (es.drop (i + 1))
  | [], p, i, hp, h, hi => by simp at hi
  | e :: r, p, 0, hp, h, hi => ⟨by have := h.1; simp only [List.getElem_cons_zero]; omega, h.2.1, h.2.2.1, h.2.2.2⟩
  | e :: r, p, i + 1, hp, h, hi => by
    have := Ok.at r e.f_End i (by have := h.1; have := h.2.1; omega) h.2.2.2 (by simpa using hi)
    simpa using this
theorem D_take : ∀ (es : List G_TextEdit) (i : Nat) (hi : i < es.length), D (es.take (i + 1)) = D (es.take i) + dl es[i]
  | [], i, hi => by simp at hi
  | e :: r, 0, hi => by simp [D]
  | e :: r, i + 1, hi => by
    have := D_take r i (by simpa using hi)
    simp only [List.take_succ_cons, D, List.getElem_cons_succ] at this ⊢
    omega

/-- the text with the edits applied, from a place on -/
def A (src : List UInt8) : Nat → List G_TextEdit → List UInt8
  | off, [] => src.drop off
  | off, e :: r => (src.take e.f_Start.toNat).drop off ++ (e.f_NewText ++ A src e.f_End.toNat r)
theorem A_len {src : List UInt8} : ∀ (es : List G_TextEdit) (off : Nat) (p : Int), Ok src.length p es → (off : Int) ≤ p + 1 → off ≤ src.length → ((A src off es).length : Int) = src.length - off + D es
  | [], off, p, h, h1, h2 => by simp only [A, D, List.length_drop]; omega
  | e :: r, off, p, h, h1, h2 => by
    obtain ⟨g1, g2, g3, g4⟩ := h
    have := A_len r e.f_End.toNat e.f_End g4 (by omega) (by omega)
    simp only [A, D, List.length_append, List.length_drop, List.length_take]
    unfold dl
    omega
theorem A_split {src : List UInt8} : ∀ (es : List G_TextEdit) (E : Nat) (p : Int), Ok src.length p es → (E : Int) ≤ p + 1 → E ≤ src.length → A src 0 es = src.take E ++ A src E es
  | [], E, p, _, _, _ => by simp only [A, List.drop_zero, List.take_append_drop]
  | e :: r, E, p, h, h1, h2 => by
    obtain ⟨g1, g2, g3, g4⟩ := h
    simp only [A, List.drop_zero]
    rw [← List.append_assoc (src.take E)]
    congr 1
    have : (src.take e.f_Start.toNat).take E = src.take E := by rw [List.take_take]; congr 1; omega
    rw [← this, List.take_append_drop]

theorem ap_loop {a0 : List UInt8} {a1 : List G_TextEdit} (hn : a0.length ≤ 2000) (hl : a1.length ≤ 50) : ∀ (k i off : Nat) (p : Int) (acc : List UInt8), i + k = a1.length → -1 ≤ p → Ok a0.length p (a1.drop i) → (off : Int) ≤ p + 1 → off ≤ a0.length →
    acc.length + (A a0 off (a1.drop i)).length ≤ 2000 → S_textedit_Apply_l1 none a0 a1 (off : Int) (i : Int) acc = some (acc ++ A a0 off (a1.drop i), 0)
  | 0, i, off, p, acc, h, hp, h1, h2, h3, h4 => by
    have : i = a1.length := by omega
    subst this
    rw [List.drop_length] at h4 ⊢
    simp only [A] at h4 ⊢
    unfold S_textedit_Apply_l1
    rw [loopM_out (x := some (acc ++ a0.drop off, 0)) ?_]
    unfold S_textedit_Apply_b1
    rw [if_neg (by simp)]
    unfold S_textedit_Apply_j1
    dsimp only
    rw [List.take_length, Int.toNat_natCast, if_pos (by omega), if_pos (by omega), if_pos (by rw [List.length_append]; omega)]
  | k + 1, i, off, p, acc, h, hp, h1, h2, h3, h4 => by
    have hi : i < a1.length := by omega
    have ih := ap_loop hn hl k (i + 1)
    rw [List.drop_eq_getElem_cons hi] at h1 h4 ⊢
    obtain ⟨g1, g2, g3, g4⟩ := h1
    have e1 := Wi (show i ≤ 4611686018427387904 by omega)
    simp only [A, List.length_append] at h4
    unfold S_textedit_Apply_l1 at ih ⊢
    rw [loopM_inl (s' := (a1[i].f_End, ((i + 1 : Nat) : Int), acc ++ ((a0.take a1[i].f_Start.toNat).drop off ++ a1[i].f_NewText))) ?_]
    · have := ih a1[i].f_End.toNat a1[i].f_End (acc ++ ((a0.take a1[i].f_Start.toNat).drop off ++ a1[i].f_NewText)) (by omega) (by omega) g4 (by omega) (by omega) (by simp only [List.length_append]; omega)
      rw [show ((a1[i].f_End.toNat : Nat) : Int) = a1[i].f_End by omega] at this
      rw [this]
      simp only [A, List.append_assoc]
    · unfold S_textedit_Apply_b1
      rw [if_pos (by simpa using hi), if_pos (by simpa using hi)]
      simp only [Int.toNat_natCast, getD_at hi, e1]
      rw [if_pos (by omega), if_pos (by omega), if_pos (by simp only [List.length_append]; omega)]
theorem ra_loop {src : List UInt8} {es : List G_TextEdit} (hz : Sz es) (hn : src.length ≤ 2000) (hl : es.length ≤ 50) (hok : Ok src.length (-1) es) : ∀ (i : Nat), i ≤ es.length →
    S_glossatorref4_ApplyEdits_l1 none es (A src 0 (es.drop i)) ((i : Int) - 1) = some (A src 0 es)
  | 0, _ => by
    unfold S_glossatorref4_ApplyEdits_l1
    rw [loopM_out (x := some (A src 0 es)) ?_]
    unfold S_glossatorref4_ApplyEdits_b1
    rw [if_neg (by simp)]
    rfl
  | i + 1, h => by
    have hi : i < es.length := by omega
    have ih := ra_loop hz hn hl hok i (by omega)
    obtain ⟨g1, g2, g3, g4⟩ := Ok.at es (-1) i (by omega) hok hi
    have hlen := A_len (es.drop (i + 1)) 0 es[i].f_End g4 (by omega) (by omega)
    have hD := D_bound (by omega) (es.drop (i + 1)) es[i].f_End (by omega) g4
    have hL := Ln_le (hz.drop (i + 1))
    have hz1 := hz es[i] (List.getElem_mem hi)
    have hdl : (es.drop (i + 1)).length ≤ 50 := by rw [List.length_drop]; omega
    have hsp := A_split (es.drop (i + 1)) es[i].f_End.toNat es[i].f_End g4 (by omega) (by omega)
    have hv1 : (A src 0 (es.drop (i + 1))).take es[i].f_Start.toNat = src.take es[i].f_Start.toNat := by
      rw [hsp, List.take_append_of_le_length (by rw [List.length_take]; omega), List.take_take]; congr 1; omega
    have hv2 : (A src 0 (es.drop (i + 1))).drop es[i].f_End.toNat = A src es[i].f_End.toNat (es.drop (i + 1)) := by
      rw [hsp, List.drop_append_of_le_length (by rw [List.length_take]; omega)]
      rw [List.drop_of_length_le (by rw [List.length_take]; omega)]; rfl
    have hge : es[i].f_End.toNat ≤ (A src 0 (es.drop (i + 1))).length := by
      rw [hsp, List.length_append, List.length_take]; omega
    unfold S_glossatorref4_ApplyEdits_l1 at ih ⊢
    rw [loopM_inl (s' := (A src 0 (es.drop i), ((i : Int) - 1))) ?_]
    · exact ih
    · have e1 : (((i + 1 : Nat) : Int) - 1) = (i : Int) := by omega
      have e2 : W ((i : Int) - 1) = (i : Int) - 1 := W_in (by unfold inR; omega)
      unfold S_glossatorref4_ApplyEdits_b1
      simp only [e1]
      rw [if_pos (by simp), if_pos (by simpa using hi)]
      simp only [Int.toNat_natCast, getD_at hi, e2]
      rw [if_pos (by omega), if_pos (by simpa using hi), hv1, if_pos (by simp only [List.length_drop, List.length_take]; omega), if_pos (by simpa using hi), if_pos (by omega), List.take_length, hv2]
      have hl2 : ((A src es[i].f_End.toNat (es.drop (i + 1))).length : Int) ≤ 2000 + 50 * 140737488355328 := by
        have := A_len (es.drop (i + 1)) es[i].f_End.toNat es[i].f_End g4 (by omega) (by omega)
        omega
      rw [if_pos (by simp only [List.length_drop, List.length_take, List.length_append]; omega), List.drop_eq_getElem_cons hi]
      simp only [A, List.append_assoc]
theorem rapply_eq {src : List UInt8} {es : List G_TextEdit} (hz : Sz es) (hn : src.length ≤ 2000) (hl : es.length ≤ 50) (hok : Ok src.length (-1) es) : S_glossatorref4_ApplyEdits none src es = some (A src 0 es) := by
  have := ra_loop hz hn hl hok es.length (Nat.le_refl _)
  unfold S_glossatorref4_ApplyEdits
  rw [List.length_map, W_in (by unfold inR; omega)]
  rw [List.drop_length] at this
  simpa [A] using this
end Go.Proofs.Ytnmhihopnidbcaa
