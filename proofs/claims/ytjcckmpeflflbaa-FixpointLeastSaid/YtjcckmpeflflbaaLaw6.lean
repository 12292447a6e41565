/-
  Own text Law6 of this claim: what functions of the given program compute, in plain Lean, and the proof; no condition.
-/
import Derived.Test.YtjcckmpeflflbaaLaw5
namespace Go.Proofs.Ytjcckmpeflflbaa
open Go.Fx
set_option linter.unusedVariables false
/-! ### whether a slice holds a number -/
theorem idx_loop {l : List Int} {x : Int} (hl : l.length ≤ BB) : ∀ (k i : Nat), i + k = l.length → ∃ j : Int, S_slices_Index_int_l1 none l x (i : Int) = some j ∧ (decide (j ≥ 0) = decide (x ∈ l.drop i))
  | 0, i, h => by
    have : i = l.length := by omega
    subst this
    refine ⟨-1, ?_, by simp⟩
    unfold S_slices_Index_int_l1
    rw [loopM_out (x := some (-1)) ?_]
    unfold S_slices_Index_int_b1
    rw [if_neg (by simp)]
    rfl
  | k + 1, i, h => by
    have hi : i < l.length := by omega
    obtain ⟨j, h1, h2⟩ := idx_loop (x := x) hl k (i + 1) (by omega)
    unfold S_slices_Index_int_l1 at h1 ⊢
    have hd := List.drop_eq_getElem_cons hi
    have hb : S_slices_Index_int_b1 none l x (i : Int) = if x = l[i] then some (.inr (i : Int)) else some (.inl ((i + 1 : Nat) : Int)) := by
      unfold S_slices_Index_int_b1
      rw [if_pos (by simpa using hi), if_pos (by simpa using hi)]
      simp only [Int.toNat_natCast, getD_at hi, Wi (show i ≤ BB by unfold BB at *; omega), beq_iff_eq]
      split <;> rfl
    by_cases h : x = l[i]
    · exact ⟨i, by rw [loopM_out (x := some (i : Int)) (by rw [hb, if_pos h]; rfl)], by rw [hd]; simp only [List.mem_cons, h, true_or]; simp⟩
    · exact ⟨j, by rw [loopM_inl (s' := ((i + 1 : Nat) : Int)) (by rw [hb, if_neg h]), h1], by rw [h2, hd]; simp only [List.mem_cons, h, false_or]⟩
theorem has_ok {l : List Int} {x : Int} (hl : l.length ≤ BB) : S_slices_Contains_int none l x = some (decide (x ∈ l)) := by
  obtain ⟨j, h1, h2⟩ := idx_loop (x := x) hl _ 0 (Nat.zero_add _)
  unfold S_slices_Contains_int S_slices_Index_int
  rw [show ((0 : Int)) = ((0 : Nat) : Int) from rfl, h1, Option.bind_some, show (((0 : Nat) : Int)) = (0 : Int) from rfl, h2, List.drop_zero]
/-- the part of a slice -/
def Wn (off len : Nat) (l : List Int) : List Int := (l.drop off).take len
theorem Wn_len {off len : Nat} {l : List Int} (h : off + len ≤ l.length) : (Wn off len l).length = len := by
  unfold Wn; rw [List.length_take, List.length_drop]; omega
theorem Wn_at {off len i : Nat} {l : List Int} (h : off + len ≤ l.length) (hi : i < len) : (Wn off len l)[i]? = l[off + i]? := by
  unfold Wn; rw [List.getElem?_take_of_lt hi, List.getElem?_drop]
theorem idxW_loop {l : List Int} {x : Int} {off len : Nat} (hl : len ≤ BB) (hw : off + len ≤ l.length) : ∀ (k i : Nat), i + k = len → ∃ j : Int, S_slices_Index_int_53_2_l1 none off len x l (i : Int) = some j ∧ (decide (j ≥ 0) = decide (x ∈ (Wn off len l).drop i))
  | 0, i, h => by
    have : i = len := by omega
    subst this
    refine ⟨-1, ?_, by rw [List.drop_eq_nil_of_le (by rw [Wn_len hw]; exact Nat.le_refl _)]; simp⟩
    unfold S_slices_Index_int_53_2_l1
    rw [loopM_out (x := some (-1)) ?_]
    unfold S_slices_Index_int_53_2_b1
    rw [if_neg (by simp)]
    rfl
  | k + 1, i, h => by
    have hi : i < len := by omega
    have hi' : i < (Wn off len l).length := by rw [Wn_len hw]; exact hi
    have hoi : off + i < l.length := by omega
    obtain ⟨j, h1, h2⟩ := idxW_loop (x := x) hl hw k (i + 1) (by omega)
    unfold S_slices_Index_int_53_2_l1 at h1 ⊢
    have hd := List.drop_eq_getElem_cons hi'
    have he : (Wn off len l)[i] = l[off + i] := by
      have := Wn_at hw hi
      rw [List.getElem?_eq_getElem hi', List.getElem?_eq_getElem hoi] at this
      simpa using this
    rw [he] at hd
    have hb : S_slices_Index_int_53_2_b1 none off len x l (i : Int) = if x = l[off + i] then some (.inr (i : Int)) else some (.inl ((i + 1 : Nat) : Int)) := by
      unfold S_slices_Index_int_53_2_b1
      rw [if_pos (by simpa using hi), if_pos (by simpa using hi)]
      simp only [Int.toNat_natCast, getD_at hoi, Wi (show i ≤ BB by unfold BB at *; omega), beq_iff_eq]
      rw [if_pos hoi]
      split <;> rfl
    by_cases h : x = l[off + i]
    · exact ⟨i, by rw [loopM_out (x := some (i : Int)) (by rw [hb, if_pos h]; rfl)], by rw [hd]; simp only [List.mem_cons, h, true_or]; simp⟩
    · exact ⟨j, by rw [loopM_inl (s' := ((i + 1 : Nat) : Int)) (by rw [hb, if_neg h]), h1], by rw [h2, hd]; simp only [List.mem_cons, h, false_or]⟩
theorem hasW_ok {l : List Int} {x : Int} {off len : Nat} (hl : len ≤ BB) (hw : off + len ≤ l.length) : S_slices_Contains_int_44_2 none off len x l = some (decide (x ∈ Wn off len l)) := by
  obtain ⟨j, h1, h2⟩ := idxW_loop (x := x) hl hw _ 0 (Nat.zero_add _)
  unfold S_slices_Contains_int_44_2 S_slices_Index_int_53_2
  rw [show ((0 : Int)) = ((0 : Nat) : Int) from rfl, h1, Option.bind_some, show (((0 : Nat) : Int)) = (0 : Int) from rfl, h2, List.drop_zero]

/-! ### who reads a set -/
structure Rd (n i : Nat) (R : List (List Int)) : Prop where
  len : R.length = n
  val : ∀ j, j < n → ∀ x ∈ R.getD j default, 0 ≤ x ∧ x < (n : Int)
  sz : ∀ j, j < n → (R.getD j default).length ≤ i ∨ ((R.getD j default).length ≤ i + 1 ∧ (i : Int) ∈ R.getD j default)
def Grow (n : Nat) (R R' : List (List Int)) : Prop := ∀ j, j < n → ∀ x ∈ R.getD j default, x ∈ R'.getD j default
theorem Grow.refl (n : Nat) (R : List (List Int)) : Grow n R R := fun _ _ _ h => h
theorem Grow.trans {n : Nat} {A B C : List (List Int)} (h : Grow n A B) (h' : Grow n B C) : Grow n A C := fun j hj x hx => h' j hj x (h j hj x hx)
theorem getD_set {α : Type} [Inhabited α] (l : List α) (i j : Nat) (x : α) (hi : i < l.length) : (l.set i x).getD j default = if j = i then x else l.getD j default := by
  rw [List.getD_eq_getElem?_getD, List.getElem?_set]
  by_cases h : i = j
  · subst h; simp [hi]
  · have : ¬ j = i := fun e => h e.symm
    rw [if_neg h, if_neg this, List.getD_eq_getElem?_getD]
section
variable {p : Rules} (hv : Valid p) {a1 a2 : List Int}
include hv
theorem rd_all {i j : Nat} (hi : i < p.length) (hj : j < p[i].length) : ∀ (k q : Nat) (R : List (List Int)), q + k = p[i][j].f_All.length → Rd p.length i R →
    ∃ R', S_fixpoint_propagate_25_l13 none p a1 a2 (i : Int) (j : Int) (q : Int) R = some (.inl (((j + 1 : Nat) : Int), R')) ∧ Rd p.length i R' ∧ Grow p.length R R' ∧ ∀ x ∈ p[i][j].f_All.drop q, (i : Int) ∈ R'.getD x.toNat default
  | 0, q, R, h, hR => by
    have h20 := hv.l20 _ (List.getElem_mem hi)
    have : q = p[i][j].f_All.length := by omega
    subst this
    refine ⟨R, ?_, hR, Grow.refl _ _, by simp⟩
    unfold S_fixpoint_propagate_25_l13
    rw [loopM_out (x := some (.inl (((j + 1 : Nat) : Int), R))) ?_]
    unfold S_fixpoint_propagate_25_b13 S_fixpoint_propagate_25_j38
    simp only [Int.toNat_natCast, getD_at hi, getD_at hj]
    rw [if_neg (by simp), Wi (by omega)]
  | k + 1, q, R, h, hR => by
    have h60 := hv.n60
    have hr := hv.ok _ (List.getElem_mem hi) _ (List.getElem_mem hj)
    have h61 := hr.2.1
    have hq : q < p[i][j].f_All.length := by omega
    obtain ⟨g1, g2⟩ := hr.2.2 _ (List.getElem_mem hq)
    have hx : p[i][j].f_All[q].toNat < p.length := by omega
    have hxR : p[i][j].f_All[q].toNat < R.length := by rw [hR.len]; exact hx
    have hlen := hR.len
    have hsz := hR.sz _ hx
    have hrow : (R.getD p[i][j].f_All[q].toNat default).length ≤ 61 := by omega
    have hd := List.drop_eq_getElem_cons hq
    have hb : S_fixpoint_propagate_25_b13 none p a1 a2 (i : Int) (j : Int) (q : Int) R = if (i : Int) ∈ R.getD p[i][j].f_All[q].toNat default then some (.inl (((q + 1 : Nat) : Int), R)) else some (.inl (((q + 1 : Nat) : Int), R.set p[i][j].f_All[q].toNat (R.getD p[i][j].f_All[q].toNat default ++ [(i : Int)]))) := by
      unfold S_fixpoint_propagate_25_b13 S_fixpoint_propagate_25_j37
      simp only [Int.toNat_natCast, getD_at hi, getD_at hj, getD_at hq, Nat.zero_add]
      rw [if_pos (by simpa using hq), if_pos (by simpa using hq), if_pos (by omega), if_pos (by omega), has_ok (by unfold BB; omega), Option.bind_some, Wi (by omega)]
      by_cases hm : (i : Int) ∈ R.getD p[i][j].f_All[q].toNat default
      · rw [if_neg (by rw [decide_eq_true hm]; decide), if_pos hm]
      · rw [if_pos (by rw [decide_eq_false hm]; rfl), if_neg hm, if_pos (by omega), if_pos (by omega), if_pos (by rw [List.length_map, List.length_append, List.length_singleton]; omega), if_pos (by omega), if_pos (by omega)]
    unfold S_fixpoint_propagate_25_l13
    by_cases hm : (i : Int) ∈ R.getD p[i][j].f_All[q].toNat default
    · obtain ⟨R', q1, q2, q3, q4⟩ := rd_all hi hj k (q + 1) R (by omega) hR
      unfold S_fixpoint_propagate_25_l13 at q1
      refine ⟨R', by rw [loopM_inl (s' := (((q + 1 : Nat) : Int), R)) (by rw [hb, if_pos hm]), q1], q2, q3, ?_⟩
      rw [hd]
      intro x hx'
      rcases List.mem_cons.1 hx' with rfl | hx'
      · exact q3 _ hx _ hm
      · exact q4 x hx'
    · have hset := fun y => getD_set R p[i][j].f_All[q].toNat y (R.getD p[i][j].f_All[q].toNat default ++ [(i : Int)]) hxR
      have hR2 : Rd p.length i (R.set p[i][j].f_All[q].toNat (R.getD p[i][j].f_All[q].toNat default ++ [(i : Int)])) := by
        refine ⟨by simpa using hlen, fun y hy x hxy => ?_, fun y hy => ?_⟩
        · rw [hset] at hxy
          split at hxy
          · rcases List.mem_append.1 hxy with h | h
            · exact hR.val _ hx x h
            · have : x = (i : Int) := by simpa using h
              subst this; omega
          · exact hR.val y hy x hxy
        · rw [hset]
          split
          · right
            rw [List.length_append]
            refine ⟨?_, by simp⟩
            rcases hsz with h | h
            · rw [List.length_singleton]; omega
            · exact absurd h.2 hm
          · exact hR.sz y hy
      have hG : Grow p.length R (R.set p[i][j].f_All[q].toNat (R.getD p[i][j].f_All[q].toNat default ++ [(i : Int)])) := by
        intro y hy x hxy
        rw [hset]
        split
        · rename_i e; subst e; exact List.mem_append_left _ hxy
        · exact hxy
      obtain ⟨R', q1, q2, q3, q4⟩ := rd_all hi hj k (q + 1) _ (by omega) hR2
      unfold S_fixpoint_propagate_25_l13 at q1
      refine ⟨R', by rw [loopM_inl (s' := (((q + 1 : Nat) : Int), R.set p[i][j].f_All[q].toNat (R.getD p[i][j].f_All[q].toNat default ++ [(i : Int)]))) (by rw [hb, if_neg hm]), q1], q2, hG.trans q3, ?_⟩
      rw [hd]
      intro x hx'
      rcases List.mem_cons.1 hx' with rfl | hx'
      · exact q3 _ hx _ (by rw [hset, if_pos rfl]; simp)
      · exact q4 x hx'
theorem rd_list {i : Nat} (hi : i < p.length) : ∀ (k j : Nat) (R : List (List Int)), j + k = p[i].length → Rd p.length i R →
    ∃ R', S_fixpoint_propagate_25_l12 none p a1 a2 (i : Int) (j : Int) R = some (.inl (((i + 1 : Nat) : Int), R')) ∧ Rd p.length i R' ∧ Grow p.length R R' ∧ ∀ r ∈ p[i].drop j, ∀ x ∈ r.f_All, (i : Int) ∈ R'.getD x.toNat default
  | 0, j, R, h, hR => by
    have h60 := hv.n60
    have : j = p[i].length := by omega
    subst this
    refine ⟨R, ?_, hR, Grow.refl _ _, by simp⟩
    unfold S_fixpoint_propagate_25_l12
    rw [loopM_out (x := some (.inl (((i + 1 : Nat) : Int), R))) ?_]
    unfold S_fixpoint_propagate_25_b12 S_fixpoint_propagate_25_j39
    simp only [Int.toNat_natCast, getD_at hi]
    rw [if_neg (by simp), Wi (by omega)]
  | k + 1, j, R, h, hR => by
    have hj : j < p[i].length := by omega
    obtain ⟨R1, q1, q2, q3, q4⟩ := rd_all hv (a1 := a1) (a2 := a2) hi hj _ 0 R (Nat.zero_add _) hR
    obtain ⟨R2, w1, w2, w3, w4⟩ := rd_list hi k (j + 1) R1 (by omega) q2
    unfold S_fixpoint_propagate_25_l12 at w1 ⊢
    refine ⟨R2, ?_, w2, q3.trans w3, ?_⟩
    · rw [loopM_inl (s' := (((j + 1 : Nat) : Int), R1)) ?_, w1]
      unfold S_fixpoint_propagate_25_b12
      simp only [Int.toNat_natCast, getD_at hi]
      rw [if_pos (by simpa using hj), if_pos (by simpa using hj)]
      rw [show (((0 : Nat) : Int)) = 0 from rfl] at q1
      rw [q1]
    · rw [List.drop_eq_getElem_cons hj]
      intro r hr x hx
      rcases List.mem_cons.1 hr with rfl | hr
      · have := (hv.ok _ (List.getElem_mem hi) _ (List.getElem_mem hj)).2.2 x hx
        exact w3 _ (by omega) _ (q4 x (by simpa using hx))
      · exact w4 r hr x hx
theorem rd_out : ∀ (k i : Nat) (R : List (List Int)), i + k = p.length → R.length = p.length → (∀ j, j < p.length → (∀ x ∈ R.getD j default, 0 ≤ x ∧ x < (p.length : Int)) ∧ (R.getD j default).length ≤ i) →
    ∃ R', S_fixpoint_propagate_25_l9 none p a1 a2 (i : Int) R = S_fixpoint_propagate_25_j40 none p a1 a2 R' ∧ R'.length = p.length ∧ Grow p.length R R' ∧ (∀ j, j < p.length → (∀ x ∈ R'.getD j default, 0 ≤ x ∧ x < (p.length : Int)) ∧ (R'.getD j default).length ≤ p.length) ∧
      ∀ i', i ≤ i' → (h : i' < p.length) → ∀ r ∈ p[i'], ∀ x ∈ r.f_All, (i' : Int) ∈ R'.getD x.toNat default
  | 0, i, R, h, hl, hR => by
    have : i = p.length := by omega
    subst this
    refine ⟨R, ?_, hl, Grow.refl _ _, hR, fun i' h1 h2 => by omega⟩
    unfold S_fixpoint_propagate_25_l9
    rw [loopM_out (x := S_fixpoint_propagate_25_j40 none p a1 a2 R) ?_]
    unfold S_fixpoint_propagate_25_b9
    rw [if_neg (by simp)]
  | k + 1, i, R, h, hl, hR => by
    have hi : i < p.length := by omega
    obtain ⟨R1, q1, q2, q3, q4⟩ := rd_list hv (a1 := a1) (a2 := a2) hi _ 0 R (Nat.zero_add _) ⟨hl, fun j hj => (hR j hj).1, fun j hj => .inl (hR j hj).2⟩
    obtain ⟨R2, w1, w2, w3, w4, w5⟩ := rd_out k (i + 1) R1 (by omega) q2.len (fun j hj => ⟨q2.val j hj, by rcases q2.sz j hj with h | h <;> omega⟩)
    unfold S_fixpoint_propagate_25_l9 at w1 ⊢
    refine ⟨R2, ?_, w2, q3.trans w3, w4, fun i' h1 h2 r hr x hx => ?_⟩
    · rw [← w1]
      refine loopM_inl ?_
      unfold S_fixpoint_propagate_25_b9
      rw [if_pos (by simpa using hi), if_pos (by simpa using hi)]
      rw [show (((0 : Nat) : Int)) = 0 from rfl] at q1
      rw [q1]
    · by_cases e : i' = i
      · subst e
        have := (hv.ok _ (List.getElem_mem hi) r hr).2.2 x hx
        exact w3 _ (by omega) _ (q4 r (by simpa using hr) x hx)
      · exact w5 i' (by omega) h2 r hr x hx
end
end Go.Proofs.Ytjcckmpeflflbaa
