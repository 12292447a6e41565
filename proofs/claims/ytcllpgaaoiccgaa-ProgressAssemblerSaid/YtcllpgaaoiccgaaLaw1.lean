/-
  Own text Law1 of this claim: what functions of the given program compute, in plain Lean, and the proof; no condition.
-/
import Derived.Test.YtcllpgaaoiccgaaGenB
import Derived.Test.YtcllpgaaoiccgaaFxP
namespace Go.Proofs.Ytcllpgaaoiccgaa
open Go.Fx
set_option linter.unusedVariables false
theorem Wi {i : Nat} (h : i ≤ 4611686018427387904) : W ((i : Int) + 1) = ((i + 1 : Nat) : Int) := by rw [W_in (by unfold inR; omega)]; omega
theorem getD_at {α : Type} [Inhabited α] {l : List α} {i : Nat} (h : i < l.length) : l.getD i default = l[i] := by
  simp [List.getD_eq_getElem?_getD, h]
theorem clone_eq (l : List Int) (h : l.length ≤ 1000) : S_slices_Clone_intE none l = some l := by
  cases l with
  | nil => rfl
  | cons x r =>
    show S_slices_Clone_int none (x :: r) = some (x :: r)
    unfold S_slices_Clone_int
    rw [if_pos (by simp), if_pos (by simp at h ⊢; omega)]
    rfl
theorem eqS_loop (x y : List Int) (hx : x.length ≤ 100000) (hl : x.length = y.length) : ∀ (k i : Nat), i + k = x.length → S_slices_Equal_int_l1 none x y (i : Int) = some (decide (x.drop i = y.drop i))
  | 0, i, h => by
    unfold S_slices_Equal_int_l1
    have h1 : x.drop i = [] := List.drop_eq_nil_iff.2 (by omega)
    have h2 : y.drop i = [] := List.drop_eq_nil_iff.2 (by omega)
    rw [h1, h2]
    refine loopM_out ?_
    unfold S_slices_Equal_int_b1
    rw [if_neg (by simp; omega)]
    rfl
  | k + 1, i, h => by
    have hi : i < x.length := by omega
    have hj : i < y.length := by omega
    have ih := eqS_loop x y hx hl k (i + 1) (by omega)
    rw [List.drop_eq_getElem_cons hi, List.drop_eq_getElem_cons hj]
    unfold S_slices_Equal_int_l1 at ih ⊢
    by_cases he : x[i] = y[i]
    · rw [loopM_inl (s' := ((i + 1 : Nat) : Int)), ih]
      · simp only [he, List.cons.injEq, true_and]
      · unfold S_slices_Equal_int_b1
        simp only [List.length_map, Int.toNat_natCast, getD_at hi, getD_at hj]
        rw [if_pos (by simpa using hi), if_pos (by omega), if_pos (by omega), if_neg (by simp [he]), Wi (by omega)]
    · rw [show decide (x[i] :: x.drop (i + 1) = y[i] :: y.drop (i + 1)) = false by simp only [List.cons.injEq, he, false_and, decide_false]]
      refine loopM_out ?_
      unfold S_slices_Equal_int_b1
      simp only [List.length_map, Int.toNat_natCast, getD_at hi, getD_at hj]
      rw [if_pos (by simpa using hi), if_pos (by omega), if_pos (by omega), if_pos (by simpa using he)]
theorem eqS {x y : List Int} (hx : x.length ≤ 100000) : S_slices_Equal_int none x y = some (decide (x = y)) := by
  unfold S_slices_Equal_int
  by_cases hl : x.length = y.length
  · rw [if_neg (by simp [hl])]
    have := eqS_loop x y hx hl x.length 0 (by omega)
    simpa using this
  · rw [if_pos (by simp; omega), show decide (x = y) = false by simp only [decide_eq_false_iff_not]; intro e; exact hl (by rw [e])]
theorem eqR_loop (x y : List Int) (hx : x.length ≤ 1000000000) (hl : x.length = y.length) : ∀ (k i : Nat), i + k = x.length → S_glossatorref3_Equal_int_l1 none x y (i : Int) = some (decide (x.drop i = y.drop i))
  | 0, i, h => by
    unfold S_glossatorref3_Equal_int_l1
    have h1 : x.drop i = [] := List.drop_eq_nil_iff.2 (by omega)
    have h2 : y.drop i = [] := List.drop_eq_nil_iff.2 (by omega)
    rw [h1, h2]
    refine loopM_out ?_
    unfold S_glossatorref3_Equal_int_b1
    rw [if_neg (by simp; omega)]
    rfl
  | k + 1, i, h => by
    have hi : i < x.length := by omega
    have hj : i < y.length := by omega
    have ih := eqR_loop x y hx hl k (i + 1) (by omega)
    rw [List.drop_eq_getElem_cons hi, List.drop_eq_getElem_cons hj]
    unfold S_glossatorref3_Equal_int_l1 at ih ⊢
    by_cases he : x[i] = y[i]
    · rw [loopM_inl (s' := ((i + 1 : Nat) : Int)), ih]
      · simp only [he, List.cons.injEq, true_and]
      · unfold S_glossatorref3_Equal_int_b1
        simp only [List.length_map, Int.toNat_natCast, getD_at hi, getD_at hj]
        rw [if_pos (by simpa using hi), if_pos (by omega), if_pos (by omega), if_neg (by simp [he]), Wi (by omega)]
    · rw [show decide (x[i] :: x.drop (i + 1) = y[i] :: y.drop (i + 1)) = false by simp only [List.cons.injEq, he, false_and, decide_false]]
      refine loopM_out ?_
      unfold S_glossatorref3_Equal_int_b1
      simp only [List.length_map, Int.toNat_natCast, getD_at hi, getD_at hj]
      rw [if_pos (by simpa using hi), if_pos (by omega), if_pos (by omega), if_pos (by simpa using he)]
theorem eqR {x y : List Int} (hx : x.length ≤ 1000000000) : S_glossatorref3_Equal_int none x y = some (decide (x = y)) := by
  unfold S_glossatorref3_Equal_int
  by_cases hl : x.length = y.length
  · rw [if_neg (by simp [hl])]
    have := eqR_loop x y hx hl x.length 0 (by omega)
    simpa using this
  · rw [if_pos (by simp; omega), show decide (x = y) = false by simp only [decide_eq_false_iff_not]; intro e; exact hl (by rw [e])]
theorem eqC1 {s c : G_QChunk} (h1 : s.f_Token = c.f_Token) (h2 : s.f_Seq = c.f_Seq) (hs : s.f_Items.length ≤ 100000) : S_glossatorref3_EqualChunks none [s] [c] = some (decide (s.f_Last = c.f_Last ∧ s.f_Items = c.f_Items)) := by
  have hb : S_glossatorref3_EqualChunks_b1 none [s] [c] 0 = if s.f_Last = c.f_Last ∧ s.f_Items = c.f_Items then some (.inl 1) else some (.inr false) := by
    unfold S_glossatorref3_EqualChunks_b1
    simp only [List.map_cons, List.map_nil, List.length_cons, List.length_nil]
    rw [if_pos (by decide), if_pos (by decide), if_pos (by decide), if_pos (fun _ => by decide), if_pos (fun _ => by decide), if_pos (fun _ => by decide)]
    simp only [Int.toNat_zero, List.getD_cons_zero, h1, h2]
    by_cases hL : s.f_Last = c.f_Last
    · rw [if_pos (by simp [hL]), eqR (by omega), Option.bind_some]
      by_cases hI : s.f_Items = c.f_Items
      · rw [if_neg (by simp [hL, hI]), if_pos ⟨hL, hI⟩]; rfl
      · rw [if_pos (by simp [hL, hI]), if_neg (fun h => hI h.2)]; rfl
    · rw [if_neg (by simp [hL]), Option.bind_some, if_pos (by simp), if_neg (fun h => hL h.1)]; rfl
  unfold S_glossatorref3_EqualChunks
  rw [if_neg (by simp)]
  unfold S_glossatorref3_EqualChunks_l1
  by_cases h : s.f_Last = c.f_Last ∧ s.f_Items = c.f_Items
  · rw [if_pos h] at hb
    rw [loopM_inl hb, decide_eq_true h]
    refine loopM_out ?_
    unfold S_glossatorref3_EqualChunks_b1
    rw [if_neg (by simp)]
    rfl
  · rw [if_neg h] at hb
    rw [decide_eq_false h]
    exact loopM_out hb
theorem q_iff {x y : Int} : q_i64 x y = true ↔ x = y := by simp [q_i64]
section
variable {α : Type}
theorem lk_none {l : List (Int × α)} {k : Int} : lk q_i64 l k = none ↔ ∀ p ∈ l, p.1 ≠ k := by
  induction l with
  | nil => simp [lk]
  | cons e l ih =>
    obtain ⟨k', v'⟩ := e
    simp only [lk, q_iff]
    by_cases h : k = k'
    · subst h; simp
    · rw [if_neg h, ih]
      simp only [List.mem_cons, forall_eq_or_imp]
      exact ⟨fun h1 => ⟨fun e => h e.symm, h1⟩, fun h1 => h1.2⟩
theorem lk_mem {l : List (Int × α)} {k : Int} {v : α} (h : lk q_i64 l k = some v) : (k, v) ∈ l := by
  induction l with
  | nil => cases h
  | cons e l ih =>
    obtain ⟨k', v'⟩ := e
    simp only [lk, q_iff] at h
    by_cases hk : k = k'
    · subst hk; simp only [if_true, Option.some.injEq] at h; subst h; exact List.mem_cons_self ..
    · rw [if_neg hk] at h; exact List.mem_cons_of_mem _ (ih h)
theorem lk_some {l : List (Int × α)} (hn : (l.map (·.1)).Nodup) {k : Int} {v : α} (h : (k, v) ∈ l) : lk q_i64 l k = some v := by
  induction l with
  | nil => cases h
  | cons e l ih =>
    obtain ⟨k', v'⟩ := e
    simp only [List.map_cons, List.nodup_cons] at hn
    simp only [lk, q_iff]
    rcases List.mem_cons.1 h with e | h
    · simp only [Prod.mk.injEq] at e; obtain ⟨rfl, rfl⟩ := e; rw [if_pos rfl]
    · rw [if_neg (fun e => hn.1 (List.mem_map.2 ⟨_, h, e⟩)), ih hn.2 h]
theorem mp_new {l : List (Int × α)} {k : Int} {v : α} (h : lk q_i64 l k = none) : mp q_i64 l k v = l ++ [(k, v)] := by
  induction l with
  | nil => rfl
  | cons e l ih =>
    obtain ⟨k', v'⟩ := e
    simp only [lk, q_iff] at h
    by_cases hk : k = k'
    · rw [if_pos hk] at h; cases h
    · rw [if_neg hk] at h
      unfold mp
      rw [if_neg (fun e => hk (q_iff.1 e)), ih h]; rfl
theorem lk_at : ∀ {l : List (Int × α)} {i : Nat} {k : Int} {v : α}, (∀ j p, j < i → l[j]? = some p → p.1 ≠ k) → l[i]? = some (k, v) → lk q_i64 l k = some v
  | [], i, k, v, _, h => by simp at h
  | (k', v') :: r, 0, k, v, _, h => by
    simp only [List.getElem?_cons_zero, Option.some.injEq, Prod.mk.injEq] at h
    obtain ⟨rfl, rfl⟩ := h
    simp only [lk, q_iff, if_true]
  | (k', v') :: r, i + 1, k, v, hj, h => by
    have h0 := hj 0 (k', v') (by omega) rfl
    simp only [lk, q_iff]
    rw [if_neg (fun e => h0 e.symm)]
    exact lk_at (fun j p hlt hp => hj (j + 1) p (Nat.succ_lt_succ hlt) (by simpa using hp)) (by simpa using h)
end
theorem ixA_some {S : SAsm} {k : Int} {p : Int × List (Int × G_QChunk)} (h : S[ixA k S]? = some p) : p.1 = k ∧ ∀ j q, j < ixA k S → S[j]? = some q → q.1 ≠ k := by
  obtain ⟨hlt, he⟩ := List.getElem?_eq_some_iff.1 h
  unfold ixA at hlt he ⊢
  have h1 := List.findIdx_getElem (w := hlt)
  rw [he] at h1
  refine ⟨(q_iff.1 h1).symm, fun j q hj hq => ?_⟩
  have h2 := List.not_of_lt_findIdx hj
  obtain ⟨_, e⟩ := List.getElem?_eq_some_iff.1 hq
  rw [e] at h2
  intro e2
  rw [e2] at h2
  simp [q_i64] at h2
theorem ixA_none {S : SAsm} {k : Int} (h : S[ixA k S]? = none) : ∀ p ∈ S, p.1 ≠ k := by
  intro p hp e
  rw [List.getElem?_eq_none_iff] at h
  unfold ixA at h
  have := List.findIdx_lt_length_of_exists (p := fun p => q_i64 k p.1) (xs := S) ⟨p, hp, q_iff.2 e.symm⟩
  omega
theorem lk_refs {S : SAsm} {k : Int} {p : Int × List (Int × G_QChunk)} (h : S[ixA k S]? = some p) : lk q_i64 (refs (ixA k S) S) k = some .foc := by
  obtain ⟨h1, h2⟩ := ixA_some h
  refine lk_at (i := ixA k S) (fun j q hj hq => ?_) ?_
  · unfold refs at hq
    rw [List.getElem?_mapIdx] at hq
    obtain ⟨r, hr, rfl⟩ := Option.map_eq_some_iff.1 hq
    exact h2 j r hj hr
  · unfold refs
    rw [List.getElem?_mapIdx, h, Option.map_some, if_pos rfl, h1]
theorem lk_refsN {S : SAsm} {k : Int} (h : S[ixA k S]? = none) : lk q_i64 (refsN S) k = none := by
  refine lk_none.2 fun p hp => ?_
  unfold refsN at hp
  obtain ⟨j, hj, rfl⟩ := List.mem_mapIdx.1 hp
  exact ixA_none h _ (List.getElem_mem hj)
theorem noFoc_refsN (S : SAsm) : noFoc (refsN S) = true := by
  unfold noFoc
  rw [List.all_eq_true]
  intro p hp
  unfold refsN at hp
  obtain ⟨j, hj, rfl⟩ := List.mem_mapIdx.1 hp
  simp
end Go.Proofs.Ytcllpgaaoiccgaa
