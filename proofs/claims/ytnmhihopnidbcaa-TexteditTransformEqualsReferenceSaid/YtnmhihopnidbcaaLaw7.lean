/-
  Own text Law7 of this claim: what functions of the given program compute, in plain Lean, and the proof; no condition.
-/
import Derived.Test.YtnmhihopnidbcaaLaw6
namespace Go.Proofs.Ytnmhihopnidbcaa
open Go.Fx
set_option linter.unusedVariables false
theorem Inc_of {n : Int} : ∀ (l : List G_tracedByte) (s : Int), (∀ x ∈ l, x.f_origin = -1 ∨ (s ≤ x.f_origin ∧ x.f_origin < n)) → (l.filter (fun x => x.f_origin != -1)).Pairwise (fun x y => x.f_origin < y.f_origin) → Inc n s (prC l)
  | [], s, _, _ => trivial
  | x :: r, s, h1, h2 => by
    simp only [prC, List.map_cons, Inc]
    by_cases ho : x.f_origin = -1
    · rw [List.filter_cons_of_neg (by simp [ho])] at h2
      exact .inl ⟨ho, Inc_of r s (fun y hy => h1 y (List.mem_cons_of_mem _ hy)) h2⟩
    · rw [List.filter_cons_of_pos (by simpa using ho), List.pairwise_cons] at h2
      have hx := (h1 x (List.mem_cons_self ..)).resolve_left ho
      refine .inr ⟨hx.1, hx.2, Inc_of r _ (fun y hy => ?_) h2.2⟩
      by_cases hy' : y.f_origin = -1
      · exact .inl hy'
      · have := h2.1 y (List.mem_filter.2 ⟨hy, by simpa using hy'⟩)
        have := (h1 y (List.mem_cons_of_mem _ hy)).resolve_left hy'
        exact .inr ⟨by omega, this.2⟩
theorem AT_mem {α : Type} {g : UInt8 → α} {src : List α} : ∀ (es : List G_TextEdit) (off : Nat) (x : α), x ∈ AT g src off es → (∃ b, x = g b) ∨ x ∈ src
  | [], off, x, h => .inr (List.mem_of_mem_drop h)
  | e :: r, off, x, h => by
    simp only [AT, List.mem_append, List.mem_map] at h
    rcases h with h | ⟨b, _, h⟩ | h
    · exact .inr (List.mem_of_mem_take (List.mem_of_mem_drop h))
    · exact .inl ⟨b, h.symm⟩
    · exact AT_mem r _ x h
theorem drop_split {α : Type} (src : List α) {off S : Nat} (h1 : off ≤ S) (h2 : S ≤ src.length) : src.drop off = (src.take S).drop off ++ src.drop S := by
  conv => lhs; rw [← List.take_append_drop S src]
  rw [List.drop_append_of_le_length (by rw [List.length_take]; omega)]
theorem AT_sub {α : Type} {g : UInt8 → α} {q : α → Bool} (hq : ∀ b, q (g b) = false) {src : List α} : ∀ (es : List G_TextEdit) (off : Nat) (p : Int), Ok src.length p es → (off : Int) ≤ p + 1 → ((AT g src off es).filter q).Sublist ((src.drop off).filter q)
  | [], off, p, h, h1 => by simp only [AT]; exact List.Sublist.refl _
  | e :: r, off, p, h, h1 => by
    obtain ⟨g1, g2, g3, g4⟩ := h
    have ih := AT_sub hq r e.f_End.toNat e.f_End g4 (by omega)
    rw [drop_split src (S := e.f_Start.toNat) (off := off) (by omega) (by omega)]
    simp only [AT, List.filter_append]
    have h0 : (e.f_NewText.map g).filter q = [] := by
      rw [List.filter_eq_nil_iff]
      intro a ha
      obtain ⟨b, _, rfl⟩ := List.mem_map.1 ha
      simp [hq b]
    rw [h0, List.nil_append]
    refine List.Sublist.append (List.Sublist.refl _) (ih.trans ?_)
    refine List.Sublist.filter q ?_
    rw [show e.f_End.toNat = e.f_Start.toNat + (e.f_End.toNat - e.f_Start.toNat) by omega, ← List.drop_drop]
    exact List.drop_sublist _ _
theorem T_inc (a0 : List UInt8) : (T a0).Pairwise (fun x y => x.f_origin < y.f_origin) := by
  unfold T
  rw [List.pairwise_map]
  refine List.Pairwise.imp (fun {x y} h => ?_) (List.pairwise_lt_range (n := a0.length))
  simp only [tb]; omega
theorem T_mem {a0 : List UInt8} {x : G_tracedByte} (h : x ∈ T a0) : 0 ≤ x.f_origin ∧ x.f_origin < a0.length := by
  unfold T at h
  obtain ⟨j, hj, rfl⟩ := List.mem_map.1 h
  have := List.mem_range.1 hj
  simp only [tb]; omega
theorem Inc_AT {a0 : List UInt8} {e1 e2 : List G_TextEdit} (h1 : Ok a0.length (-1) e1) (h2 : Ok (AT ins (T a0) 0 e1).length (-1) e2) : Inc a0.length 0 (prC (AT ins (AT ins (T a0) 0 e1) 0 e2)) := by
  refine Inc_of _ _ (fun x hx => ?_) ?_
  · rcases AT_mem _ _ _ hx with ⟨b, rfl⟩ | hx
    · exact .inl rfl
    · rcases AT_mem _ _ _ hx with ⟨b, rfl⟩ | hx
      · exact .inl rfl
      · have := T_mem hx; exact .inr this
  · have s1 := AT_sub (g := ins) (q := fun x => x.f_origin != -1) (fun b => by simp [ins]) e2 0 (-1) h2 (by omega)
    have s2 := AT_sub (g := ins) (q := fun x => x.f_origin != -1) (fun b => by simp [ins]) (src := T a0) e1 0 (-1) (by rw [T_len]; exact h1) (by omega)
    rw [List.drop_zero] at s1 s2
    exact ((T_inc a0).sublist List.filter_sublist).sublist (s1.trans s2)

/-! the reference: position by position -/
def insA : List G_TextEdit → Int → List UInt8
  | [], _ => []
  | e :: r, i => if e.f_Start = i then e.f_NewText else insA r i
def delB : List G_TextEdit → Int → Bool
  | [], _ => false
  | e :: r, i => decide (e.f_Start ≤ i ∧ i < e.f_End) || delB r i
theorem ins_loop {es : List G_TextEdit} (hl : es.length ≤ 50) (i : Int) : ∀ (k j : Nat), j + k = es.length → S_glossatorref4_InsertedAt_l1 none es i (j : Int) = some (insA (es.drop j) i)
  | 0, j, h => by
    have : j = es.length := by omega
    subst this
    unfold S_glossatorref4_InsertedAt_l1
    rw [loopM_out (x := some []) ?_]
    · rw [List.drop_length]; rfl
    · unfold S_glossatorref4_InsertedAt_b1
      rw [if_neg (by simp)]
      rfl
  | k + 1, j, h => by
    have hj : j < es.length := by omega
    have ih := ins_loop hl i k (j + 1) (by omega)
    have e1 := Wi (show j ≤ 4611686018427387904 by omega)
    have hx : S_glossatorref4_InsertedAt_b1 none es i (j : Int) = if es[j].f_Start = i then some (.inr es[j].f_NewText) else some (.inl ((j + 1 : Nat) : Int)) := by
      unfold S_glossatorref4_InsertedAt_b1
      rw [if_pos (by simpa using hj), if_pos (by simpa using hj)]
      simp only [Int.toNat_natCast, getD_at hj, e1]
      by_cases hc : es[j].f_Start = i
      · rw [if_pos (by simpa using hc), if_pos hc, if_pos (by simpa using hj)]; rfl
      · rw [if_neg (by simpa using hc), if_neg hc]
    rw [List.drop_eq_getElem_cons hj, insA]
    unfold S_glossatorref4_InsertedAt_l1 at ih ⊢
    by_cases hc : es[j].f_Start = i
    · rw [loopM_out (x := some es[j].f_NewText) (by rw [hx, if_pos hc]; rfl), if_pos hc]
    · rw [loopM_inl (s' := ((j + 1 : Nat) : Int)) (by rw [hx, if_neg hc]), if_neg hc, ih]
theorem insAt_eq {es : List G_TextEdit} (hl : es.length ≤ 50) (i : Int) : S_glossatorref4_InsertedAt none es i = some (insA es i) := by
  have := ins_loop hl i es.length 0 (by omega)
  unfold S_glossatorref4_InsertedAt
  simpa using this
theorem del_loop {es : List G_TextEdit} (hl : es.length ≤ 50) (i : Int) : ∀ (k j : Nat), j + k = es.length → S_glossatorref4_DeletesByte_l1 none es i (j : Int) = some (delB (es.drop j) i)
  | 0, j, h => by
    have : j = es.length := by omega
    subst this
    unfold S_glossatorref4_DeletesByte_l1
    rw [loopM_out (x := some false) ?_]
    · rw [List.drop_length]; rfl
    · unfold S_glossatorref4_DeletesByte_b1
      rw [if_neg (by simp)]
      rfl
  | k + 1, j, h => by
    have hj : j < es.length := by omega
    have ih := del_loop hl i k (j + 1) (by omega)
    have e1 := Wi (show j ≤ 4611686018427387904 by omega)
    have hx : S_glossatorref4_DeletesByte_b1 none es i (j : Int) = if es[j].f_Start ≤ i ∧ i < es[j].f_End then some (.inr true) else some (.inl ((j + 1 : Nat) : Int)) := by
      unfold S_glossatorref4_DeletesByte_b1
      rw [if_pos (by simpa using hj), if_pos (by simpa using hj), if_pos (by intro _; simpa using hj)]
      simp only [Int.toNat_natCast, getD_at hj, e1]
      by_cases hc : es[j].f_Start ≤ i ∧ i < es[j].f_End
      · rw [if_pos (by simpa using hc), if_pos hc]; rfl
      · rw [if_neg (by simpa using hc), if_neg hc]
    rw [List.drop_eq_getElem_cons hj, delB]
    unfold S_glossatorref4_DeletesByte_l1 at ih ⊢
    by_cases hc : es[j].f_Start ≤ i ∧ i < es[j].f_End
    · rw [loopM_out (x := some true) (by rw [hx, if_pos hc]; rfl), decide_eq_true hc]; rfl
    · rw [loopM_inl (s' := ((j + 1 : Nat) : Int)) (by rw [hx, if_neg hc]), decide_eq_false hc, ih]; rfl
theorem delAt_eq {es : List G_TextEdit} (hl : es.length ≤ 50) (i : Int) : S_glossatorref4_DeletesByte none es i = some (delB es i) := by
  have := del_loop hl i es.length 0 (by omega)
  unfold S_glossatorref4_DeletesByte
  simpa using this
theorem insA_app {i : Int} : ∀ {pre rest : List G_TextEdit}, (∀ e ∈ pre, e.f_Start ≠ i) → insA (pre ++ rest) i = insA rest i
  | [], rest, _ => rfl
  | e :: r, rest, h => by
    rw [List.cons_append, insA, if_neg (h e (List.mem_cons_self ..))]
    exact insA_app fun x hx => h x (List.mem_cons_of_mem _ hx)
theorem delB_app {i : Int} : ∀ (pre rest : List G_TextEdit), delB (pre ++ rest) i = (delB pre i || delB rest i)
  | [], rest => by simp [delB]
  | e :: r, rest => by rw [List.cons_append, delB, delB, delB_app r rest, Bool.or_assoc]
theorem late {n : Int} {i : Int} : ∀ (es : List G_TextEdit) (p : Int), Ok n p es → i ≤ p → insA es i = [] ∧ delB es i = false
  | [], p, _, _ => ⟨rfl, rfl⟩
  | e :: r, p, h, hi => by
    obtain ⟨g1, g2, g3, g4⟩ := h
    obtain ⟨k1, k2⟩ := late (i := i) r e.f_End g4 (by omega)
    exact ⟨by rw [insA, if_neg (by omega), k1], by rw [delB, k2, decide_eq_false (by omega)]; rfl⟩
/-- the end of the last edit -/
def lastE : Int → List G_TextEdit → Int
  | p, [] => p
  | _, e :: r => lastE e.f_End r
theorem early {n : Int} {i : Int} : ∀ (pre : List G_TextEdit) (p : Int), Ok n p pre → p ≤ i → (∀ e ∈ pre, e.f_Start < i) → delB pre i = decide (i < lastE p pre)
  | [], p, _, hp, _ => (decide_eq_false (show ¬ i < p by omega)).symm
  | e :: r, p, h, hp, hs => by
    obtain ⟨g1, g2, g3, g4⟩ := h
    have he := hs e (List.mem_cons_self ..)
    simp only [delB, lastE]
    by_cases hE : e.f_End ≤ i
    · rw [decide_eq_false (by omega), Bool.false_or]
      exact early r e.f_End g4 hE fun x hx => hs x (List.mem_cons_of_mem _ hx)
    · match r, g4, hs with
      | [], _, _ => simp only [delB, lastE, Bool.or_false]; congr 1; simp; omega
      | e2 :: r2, g4, hs =>
        have := hs e2 (by simp)
        have := g4.1
        omega
end Go.Proofs.Ytnmhihopnidbcaa
