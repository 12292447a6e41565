/-
  Own text Law8 of this claim: what functions of the given program compute, in plain Lean, and the proof; no condition.
-/
import Derived.Test.YtnmhihopnidbcaaLaw7
namespace Go.Proofs.Ytnmhihopnidbcaa
open Go.Fx
set_option linter.unusedVariables false
def insR (b : UInt8) : G_TracedByte := ⟨(b.toNat : Int), -1⟩
theorem Ok_split {n : Int} : ∀ (es : List G_TextEdit) (p : Int) (j : Nat), Ok n p es → Ok n p (es.take j) ∧ Ok n (lastE p (es.take j)) (es.drop j)
  | es, p, 0, h => ⟨trivial, h⟩
  | [], p, j + 1, h => ⟨trivial, trivial⟩
  | e :: r, p, j + 1, h => by
    obtain ⟨g1, g2, g3, g4⟩ := h
    obtain ⟨k1, k2⟩ := Ok_split r e.f_End j g4
    exact ⟨⟨g1, g2, g3, k1⟩, k2⟩
theorem lastE_take : ∀ (es : List G_TextEdit) (p : Int) (j : Nat) (h : j < es.length), lastE p (es.take (j + 1)) = es[j].f_End
  | [], p, j, h => by simp at h
  | e :: r, p, 0, h => rfl
  | e :: r, p, j + 1, h => by
    simp only [List.take_succ_cons, lastE, List.getElem_cons_succ]
    exact lastE_take r e.f_End j (by simpa using h)
theorem AT_step {α : Type} {g : UInt8 → α} {x : List α} {off : Nat} (h : off < x.length) : ∀ (es : List G_TextEdit), Ok x.length off es → AT g x off es = x[off] :: AT g x (off + 1) es
  | [], _ => by simp only [AT]; exact List.drop_eq_getElem_cons h
  | e :: r, ho => by
    obtain ⟨g1, g2, g3, g4⟩ := ho
    have hl : off < (x.take e.f_Start.toNat).length := by rw [List.length_take]; omega
    simp only [AT]
    rw [List.drop_eq_getElem_cons hl, List.getElem_take, List.cons_append]
theorem Ok_end {n : Int} : ∀ (es : List G_TextEdit), Ok n n es → es = []
  | [], _ => rfl
  | e :: r, h => by obtain ⟨g1, g2, g3, g4⟩ := h; omega
theorem Ok_mono {n p q : Int} : ∀ {es : List G_TextEdit}, Ok n p es → (∀ e ∈ es.head?, q < e.f_Start) → Ok n q es
  | [], _, _ => trivial
  | e :: r, h, hq => ⟨hq e rfl, h.2⟩

section
variable {x : List G_TracedByte} {es : List G_TextEdit} (hl : es.length ≤ 50) (hn : x.length ≤ 2000)
include hl hn
theorem rj5 (i : Nat) (acc : List G_TracedByte) (hi : i ≤ x.length) (ha : acc.length ≤ 1000000) :
    S_glossatorref4_applyToTrace_j5 none x es (i : Int) acc = some (.inl (acc ++ (if i < x.length ∧ delB es i = false then [x.getD i default] else []), ((i + 1 : Nat) : Int))) := by
  have e1 := Wi (show i ≤ 4611686018427387904 by omega)
  unfold S_glossatorref4_applyToTrace_j5 S_glossatorref4_applyToTrace_j6
  by_cases hin : i < x.length
  · rw [if_pos (by simpa using hin), delAt_eq hl]
    simp only [Option.bind_some]
    by_cases hd : delB es i = false
    · rw [if_pos (by simp [hd]; exact hin), if_pos (by simpa using hin), if_pos (by simp; omega), if_pos ⟨hin, hd⟩, e1]
      simp only [Int.toNat_natCast]
    · rw [if_neg (by simp [hd]), if_neg (fun h => hd h.2), e1, List.append_nil]
  · rw [if_neg (by simpa using hin)]
    simp only [Option.bind_some]
    rw [if_neg (by simp; omega), if_neg (fun h => hin h.1), e1, List.append_nil]
theorem rin (v7 : Int) (t : List UInt8) : ∀ (k j : Nat) (acc : List G_TracedByte), j + k = t.length → t.length ≤ 1000000 → acc.length + k ≤ 1000000 →
    S_glossatorref4_applyToTrace_l4 none x es v7 t acc (j : Int) = S_glossatorref4_applyToTrace_j5 none x es v7 (acc ++ (t.drop j).map insR)
  | 0, j, acc, h, h1, h2 => by
    have _ := hl
    have _ := hn
    have : j = t.length := by omega
    subst this
    rw [List.drop_length, List.map_nil, List.append_nil]
    unfold S_glossatorref4_applyToTrace_l4
    refine loopM_out ?_
    unfold S_glossatorref4_applyToTrace_b4
    rw [if_neg (by simp)]
  | k + 1, j, acc, h, h1, h2 => by
    have hj : j < t.length := by omega
    have ih := rin v7 t k (j + 1) (acc ++ [insR t[j]]) (by omega) h1 (by simp; omega)
    have e1 := Wi (show j ≤ 4611686018427387904 by omega)
    unfold S_glossatorref4_applyToTrace_l4 at ih ⊢
    rw [loopM_inl (s' := (acc ++ [insR t[j]], ((j + 1 : Nat) : Int))) ?_]
    · rw [ih, List.drop_eq_getElem_cons hj]; simp only [List.map_cons, List.append_assoc, List.cons_append, List.nil_append]
    · unfold S_glossatorref4_applyToTrace_b4
      rw [if_pos (by simpa using hj), if_pos (by simpa using hj), if_pos (by simp; omega)]
      simp [e1, insR, hj]
theorem rat_loop (hok : Ok x.length (-1) es) : ∀ (k i j : Nat) (acc : List G_TracedByte), i + k = x.length + 1 → j ≤ es.length → (∀ e ∈ es.take j, e.f_Start < i) → (∀ e ∈ (es.drop j).head?, (i : Int) ≤ e.f_Start) →
    (acc ++ AT insR x (max i (lastE (-1) (es.take j)).toNat) (es.drop j)).length ≤ 1000000 →
    S_glossatorref4_applyToTrace_l3 none x es acc (i : Int) = some (acc ++ AT insR x (max i (lastE (-1) (es.take j)).toNat) (es.drop j))
  | 0, i, j, acc, h, hj, hp, hr, hb => by
    obtain ⟨k1, k2⟩ := Ok_split es (-1) j hok
    have hd : es.drop j = [] := Ok_end (n := (x.length : Int)) _ (Ok_mono k2 fun e he => by have := hr e he; omega)
    rw [hd]
    simp only [AT]
    rw [List.drop_of_length_le (by omega), List.append_nil]
    unfold S_glossatorref4_applyToTrace_l3
    rw [loopM_out (x := some acc) ?_]
    unfold S_glossatorref4_applyToTrace_b3
    rw [if_neg (by simp; omega)]
    rfl
  | k + 1, i, j, acc, h, hj, hp, hr, hb => by
    have hi : i ≤ x.length := by omega
    obtain ⟨k1, k2⟩ := Ok_split es (-1) j hok
    have hsp : es.take j ++ es.drop j = es := List.take_append_drop j es
    have hea := early (i := (i : Int)) (es.take j) (-1) k1 (by omega) hp
    have hins : insA es i = insA (es.drop j) i := by
      conv => lhs; rw [← hsp]
      exact insA_app fun e he => by have := hp e he; omega
    have hdel : delB es i = (decide ((i : Int) < lastE (-1) (es.take j)) || delB (es.drop j) i) := by
      conv => lhs; rw [← hsp]
      rw [delB_app, hea]
    -- one round
    have round : ∀ (acc' : List G_TracedByte) (j' : Nat), acc ++ ((insA es i).map insR ++ (if i < x.length ∧ delB es i = false then [x.getD i default] else [])) = acc' → j' ≤ es.length → (∀ e ∈ es.take j', e.f_Start < (i + 1 : Nat)) → (∀ e ∈ (es.drop j').head?, ((i + 1 : Nat) : Int) ≤ e.f_Start) →
        acc' ++ AT insR x (max (i + 1) (lastE (-1) (es.take j')).toNat) (es.drop j') = acc ++ AT insR x (max i (lastE (-1) (es.take j)).toNat) (es.drop j) →
        S_glossatorref4_applyToTrace_l3 none x es acc (i : Int) = some (acc ++ AT insR x (max i (lastE (-1) (es.take j)).toNat) (es.drop j)) := by
      intro acc' j' ha hj' hp' hr' heq
      have ih := rat_loop hok k (i + 1) j' acc' (by omega) hj' hp' hr' (by rw [heq]; exact hb)
      rw [heq] at ih
      rw [← heq, List.length_append] at hb
      have hla : acc.length + (insA es i).length ≤ 1000000 := by
        have : acc'.length ≤ 1000000 := by omega
        rw [← ha] at this
        simp only [List.length_append, List.length_map] at this
        omega
      unfold S_glossatorref4_applyToTrace_l3 at ih ⊢
      rw [loopM_inl (s' := (acc', ((i + 1 : Nat) : Int))) ?_]
      · exact ih
      · unfold S_glossatorref4_applyToTrace_b3
        rw [if_pos (by simp; omega), insAt_eq hl]
        simp only [Option.bind_some]
        have := rin hl hn (i : Int) (insA es i) (insA es i).length 0 acc (by omega) (by omega) (by omega)
        rw [show ((0 : Nat) : Int) = 0 from rfl] at this
        rw [this, List.drop_zero, rj5 hl hn i _ hi (by simp; omega), List.append_assoc, ha]
    by_cases hc : ∃ hjl : j < es.length, es[j].f_Start = (i : Int)
    · obtain ⟨hjl, hs⟩ := hc
      have hdj := List.drop_eq_getElem_cons hjl
      rw [hdj] at k2
      obtain ⟨g1, g2, g3, g4⟩ := k2
      obtain ⟨l1, l2⟩ := late (i := (i : Int)) (es.drop (j + 1)) es[j].f_End g4 (by omega)
      have hI : insA es i = es[j].f_NewText := by rw [hins, hdj, insA, if_pos hs]
      have hDl : delB es i = decide ((i : Int) < es[j].f_End) := by
        rw [hdel, hdj, delB, l2, decide_eq_false (by omega), Bool.or_false, Bool.false_or]
        congr 1; simp; omega
      refine round _ (j + 1) rfl (by omega) (fun e he => ?_) (fun e he => ?_) ?_
      · rw [List.take_succ_eq_append_getElem hjl, List.mem_append] at he
        rcases he with he | he
        · have := hp e he; omega
        · rw [List.mem_singleton.1 he]; omega
      · match hd2 : es.drop (j + 1), g4, he with
        | [], _, he => simp at he
        | e2 :: r2, g4, he =>
          simp only [List.head?_cons, Option.mem_def, Option.some.injEq] at he
          subst he
          have := g4.1; omega
      · rw [lastE_take es (-1) j hjl, hdj, hI, hDl, show max i (lastE (-1) (es.take j)).toNat = i by omega]
        simp only [AT]
        have hz0 : (x.take es[j].f_Start.toNat).drop i = [] := List.drop_of_length_le (by rw [List.length_take]; omega)
        rw [hz0, List.nil_append, List.append_assoc, List.append_assoc]
        congr 2
        by_cases hE : (i : Int) < es[j].f_End
        · rw [if_neg (by simp [hE]), show max (i + 1) es[j].f_End.toNat = es[j].f_End.toNat by omega]; rfl
        · have hEi : es[j].f_End.toNat = i := by omega
          rw [hEi, show max (i + 1) i = i + 1 by omega]
          by_cases hin : i < x.length
          · rw [if_pos ⟨hin, decide_eq_false hE⟩, AT_step hin _ (by rw [show ((i : Nat) : Int) = es[j].f_End by omega]; exact g4), getD_at hin]; rfl
          · have hr0 : es.drop (j + 1) = [] := Ok_end (n := (x.length : Int)) _ (by rw [show es[j].f_End = (x.length : Int) by omega] at g4; exact g4)
            rw [if_neg (fun h => hin h.1), hr0]
            simp only [AT]
            rw [List.drop_of_length_le (by omega), List.drop_of_length_le (by omega)]; rfl
    · have hgt : ∀ e ∈ (es.drop j).head?, (i : Int) < e.f_Start := by
        intro e he
        have h1 := hr e he
        have h2 : e.f_Start ≠ i := by
          rintro h2
          rw [List.head?_drop] at he
          have hjl : j < es.length := by
            rcases Nat.lt_or_ge j es.length with h | h
            · exact h
            · rw [List.getElem?_eq_none h] at he; cases he
          rw [List.getElem?_eq_getElem hjl] at he
          simp only [Option.mem_def, Option.some.injEq] at he
          exact hc ⟨hjl, by rw [he]; exact h2⟩
        omega
      have hoi : Ok x.length i (es.drop j) := Ok_mono k2 hgt
      obtain ⟨l1, l2⟩ := late (i := (i : Int)) (es.drop j) i hoi (by omega)
      refine round _ j rfl hj (fun e he => by have := hp e he; omega) (fun e he => by have := hgt e he; omega) ?_
      rw [hins, l1, hdel, l2, Bool.or_false, List.map_nil, List.nil_append, List.append_assoc]
      congr 1
      by_cases hE : (i : Int) < lastE (-1) (es.take j)
      · rw [if_neg (by simp [hE]), show max (i + 1) (lastE (-1) (es.take j)).toNat = max i (lastE (-1) (es.take j)).toNat by omega]; rfl
      · rw [show max (i + 1) (lastE (-1) (es.take j)).toNat = i + 1 by omega, show max i (lastE (-1) (es.take j)).toNat = i by omega]
        by_cases hin : i < x.length
        · rw [if_pos ⟨hin, decide_eq_false hE⟩, AT_step hin _ hoi, getD_at hin]; rfl
        · have hr0 : es.drop j = [] := Ok_end (n := (x.length : Int)) _ (by rw [show ((i : Nat) : Int) = (x.length : Int) by omega] at hoi; exact hoi)
          rw [if_neg (fun h => hin h.1), hr0]
          simp only [AT]
          rw [List.drop_of_length_le (by omega), List.drop_of_length_le (by omega)]; rfl
theorem rapplyTrace_eq (hok : Ok x.length (-1) es) (hb : (AT insR x 0 es).length ≤ 1000000) : S_glossatorref4_applyToTrace none x es = some (AT insR x 0 es) := by
  have := rat_loop hl hn hok (x.length + 1) 0 0 [] (by omega) (by omega) (fun e he => by simp at he) (fun e he => by
    match es, hok, he with
    | [], _, he => simp at he
    | e2 :: r2, hok, he =>
      simp only [List.drop_zero, List.head?_cons, Option.mem_def, Option.some.injEq] at he
      subst he
      have := hok.1; omega) (by simpa [lastE] using hb)
  unfold S_glossatorref4_applyToTrace
  simpa [lastE] using this
end
end Go.Proofs.Ytnmhihopnidbcaa
