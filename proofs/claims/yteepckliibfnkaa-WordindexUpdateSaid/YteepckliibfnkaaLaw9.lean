/-
  Own text Law9 of this claim: what functions of the given program compute, in plain Lean, and the proof; no condition.
-/
import Derived.Test.YteepckliibfnkaaLaw8
import Derived.Test.YteepckliibfnkaaOk
namespace Go.Proofs.Yteepckliibfnkaa
open Go.Fx Go.Sort
set_option linter.unusedVariables false

theorem rx_loop {l : List (List UInt8)} {x : List UInt8} (hl : l.length ≤ 8796093022208) : ∀ (k i : Nat), i + k = l.length →
    ∃ r : Int, S_glossatorref3_Index_string_l1 none l x (i : Int) = some r ∧ decide (r ≥ 0) = decide (x ∈ l.drop i)
  | 0, i, h => by
    have hi : i = l.length := by omega
    subst hi
    refine ⟨-1, ?_, by rw [List.drop_length]; simp⟩
    unfold S_glossatorref3_Index_string_l1
    refine loopM_out ?_
    unfold S_glossatorref3_Index_string_b1
    rw [if_neg (by simp)]
    rfl
  | k + 1, i, h => by
    have hi : i < l.length := by omega
    unfold S_glossatorref3_Index_string_l1
    rw [List.drop_eq_getElem_cons hi]
    by_cases hx : x = l[i]
    · refine ⟨i, ?_, by rw [hx, decide_eq_true (List.mem_cons_self ..)]; simp⟩
      refine loopM_out ?_
      unfold S_glossatorref3_Index_string_b1
      simp only [List.length_map, Int.toNat_natCast, getD_at hi]
      rw [if_pos (by simp; omega), if_pos (by omega), if_pos (by simpa using hx)]
    · obtain ⟨r, h1, h2⟩ := rx_loop (x := x) hl k (i + 1) (by omega)
      refine ⟨r, ?_, by rw [h2, Bool.eq_iff_iff, decide_eq_true_eq, decide_eq_true_eq, List.mem_cons]; exact ⟨.inr, fun h => h.resolve_left hx⟩⟩
      rw [loopM_inl (s' := ((i + 1 : Nat) : Int)) ?_]
      · exact h1
      · unfold S_glossatorref3_Index_string_b1
        simp only [List.length_map, Int.toNat_natCast, getD_at hi]
        rw [if_pos (by simp; omega), if_pos (by omega), if_neg (by simpa using hx), Wi (by omega)]
theorem rcontains_eq {l : List (List UInt8)} {x : List UInt8} (hl : l.length ≤ 8796093022208) : S_glossatorref3_Contains_string none l x = some (decide (x ∈ l)) := by
  unfold S_glossatorref3_Contains_string S_glossatorref3_Index_string
  obtain ⟨r, h1, h2⟩ := rx_loop (x := x) hl l.length 0 (by omega)
  rw [show (0 : Int) = ((0 : Nat) : Int) from rfl, h1, Option.bind_some]
  rw [List.drop_zero] at h2
  exact congrArg some h2

section
variable {l : List En} {d : Do} {nm w : List UInt8}
theorem end_true {v2 v3 : List En × Int} {v24 v25 : Int} {v26 v27 : List En} (hl : l.length ≤ 8796093022208) (hb : ∀ b ∈ l, b.f_Words.length ≤ 8796093022208) (h2 : v2 = (v26, v24)) (h3 : v3 = (v27, v25)) (g2 : v26.length ≤ 1000 ∧ ∀ b ∈ v26, b.f_Words.length ≤ 1000) (g3 : v27.length ≤ 1000 ∧ ∀ b ∈ v27, b.f_Words.length ≤ 1000) :
    S_glossatorlaw3_WordindexUpdate_j9 none l w v2 v3 (namesOf w l) v24 v25 v26 v27 = some true := by
  subst h2
  subst h3
  have hn : (namesOf w l).length ≤ 8796093022208 := by
    unfold namesOf
    rw [List.length_map]
    exact Nat.le_trans (List.length_filter_le _ _) hl
  unfold S_glossatorlaw3_WordindexUpdate_j9
  rw [example_true, Option.bind_some]
  simp only [beq_self_eq_true, Bool.and_true, Bool.true_and, if_true]
  rw [equalX (by omega) (fun b hb' => Nat.le_trans (g2.2 b hb') (by omega)), Option.bind_some]
  simp only [beq_self_eq_true, Bool.true_and, if_true]
  rw [equalX (by omega) (fun b hb' => Nat.le_trans (g3.2 b hb') (by omega)), Option.bind_some]
  simp only [beq_self_eq_true, Bool.true_and, if_true]
  rw [find_eq hl hb, Option.bind_some]
  rw [equalS hn, Option.bind_some]
def found (nm : List UInt8) (l : List En) : Bool := l.any fun x => x.f_Name == nm
theorem ie_words {e : En} (he : e.f_Words.length ≤ 1000) : ∀ (l : List En) (b : Bool), (∀ x ∈ l, x.f_Words.length ≤ 1000) → ∀ x ∈ ie e b l, x.f_Words.length ≤ 1000
  | [], b, _, x, hx => by
    unfold ie at hx
    split at hx
    · cases hx
    · rw [List.mem_singleton] at hx; subst hx; exact he
  | y :: r, b, h, x, hx => by
    unfold ie at hx
    rw [List.mem_append, List.mem_append] at hx
    rcases hx with hx | hx | hx
    · split at hx
      · rw [List.mem_singleton] at hx; subst hx; exact he
      · cases hx
    · split at hx
      · cases hx
      · rw [List.mem_singleton] at hx; subst hx; exact h _ (List.mem_cons_self ..)
    · exact ie_words he r _ (fun z hz => h z (List.mem_cons_of_mem _ hz)) x hx
theorem done_true (hl : l.length * 48 ≤ 140737488355328) (ho : ∀ e ∈ l, OkE e) (hb : ∀ b ∈ l, b.f_Words.length ≤ 8796093022208) :
    S_glossatorlaw3_WordindexUpdate_j7 none l d w (upd0 l d) (rem0 l nm) (if found nm l = true then 0 else 5) (rest nm l) (namesOf w l) = some true := by
  have hl' : l.length ≤ 8796093022208 := by omega
  have nil0 : ([] : List En).length ≤ 1000 ∧ ∀ b ∈ ([] : List En), b.f_Words.length ≤ 1000 := ⟨by simp, fun b hb => by cases hb⟩
  unfold S_glossatorlaw3_WordindexUpdate_j7
  rw [rvalid_eq (by omega) ho, Option.bind_some]
  by_cases hv : vX l = true
  · obtain ⟨hv1, hv2, hv3⟩ := vX_info hv
    have hr3 : (rest nm l).length ≤ 1000 ∧ ∀ b ∈ rest nm l, b.f_Words.length ≤ 1000 := by
      unfold rest
      exact ⟨Nat.le_trans (List.length_filter_le _ _) (by omega), fun b hb' => Nat.le_trans (hv3 b (List.mem_filter.1 hb').1) (by omega)⟩
    have hj8 : ∀ (v24 : Int) (v26 : List En), upd0 l d = (v26, v24) → (v26.length ≤ 1000 ∧ ∀ b ∈ v26, b.f_Words.length ≤ 1000) →
        S_glossatorlaw3_WordindexUpdate_j8 none l w (upd0 l d) (rem0 l nm) (rest nm l) (namesOf w l) v24 (if found nm l = true then 0 else 5) v26 = some true := by
      intro v24 v26 h1 h2
      unfold S_glossatorlaw3_WordindexUpdate_j8
      by_cases hf : found nm l = true
      · rw [if_pos hf, if_neg (by decide)]
        exact end_true hl' hb h1 (by unfold rem0; rw [if_pos hv, if_pos (show (l.any fun x => x.f_Name == nm) = true from hf)]) h2 hr3
      · rw [if_neg hf, if_pos (by decide)]
        exact end_true hl' hb h1 (by unfold rem0; rw [if_pos hv, if_neg (show ¬ (l.any fun x => x.f_Name == nm) = true from hf)]) h2 nil0
    rw [if_neg (by simp [hv]), check_eq (by simp), Option.bind_some]
    by_cases hc : chk [d] = 0
    · obtain ⟨_, hc2, _⟩ := chk_ok hc
      rw [if_pos (by simp [hc]), entry_ref (Nat.le_trans (hc2 d (List.mem_singleton.2 rfl)) (by omega)), Option.bind_some, insert_eq (by omega), Option.bind_some]
      have hw : (entryOf d).f_Words.length ≤ 1000 := Nat.le_trans (words_len _) (by omega)
      have hlen := (ie_len (e := entryOf d) l).2
      by_cases h20 : (ie (entryOf d) false l).length > 20
      · rw [if_pos (by simp; omega)]
        exact hj8 _ _ (by unfold upd0; rw [if_pos hv, if_pos hc, if_pos h20]) nil0
      · rw [if_neg (by simp; omega)]
        exact hj8 _ _ (by unfold upd0; rw [if_pos hv, if_pos hc, if_neg h20, hc]) ⟨by omega, ie_words hw l false fun x hx => Nat.le_trans (hv3 x hx) (by omega)⟩
    · rw [if_neg (by simpa using hc)]
      exact hj8 _ _ (by unfold upd0; rw [if_pos hv, if_neg hc]) nil0
  · rw [if_pos (by simp [hv])]
    unfold S_glossatorlaw3_WordindexUpdate_j8
    rw [if_pos (by decide)]
    exact end_true hl' hb (by unfold upd0; rw [if_neg hv]) (by unfold rem0; rw [if_neg hv]) nil0 nil0
theorem law_loop (hl : l.length * 48 ≤ 140737488355328) (ho : ∀ e ∈ l, OkE e) (hb : ∀ b ∈ l, b.f_Words.length ≤ 8796093022208) : ∀ (k i : Nat), i + k = l.length →
    S_glossatorlaw3_WordindexUpdate_l1 none l d nm w (upd0 l d) (rem0 l nm) (if found nm (l.take i) = true then 0 else 5) (rest nm (l.take i)) (namesOf w (l.take i)) (i : Int) = some true
  | 0, i, h => by
    have hi : i = l.length := by omega
    subst hi
    unfold S_glossatorlaw3_WordindexUpdate_l1
    refine loopM_out ?_
    unfold S_glossatorlaw3_WordindexUpdate_b1
    rw [if_neg (by simp), List.take_length, done_true hl ho hb]
  | k + 1, i, h => by
    have hi : i < l.length := by omega
    have ht : l.take (i + 1) = l.take i ++ [l[i]] := by rw [List.take_add_one, List.getElem?_eq_getElem hi]; rfl
    have ih := law_loop hl ho hb k (i + 1) (by omega)
    rw [ht] at ih
    have f1 : found nm (l.take i ++ [l[i]]) = (found nm (l.take i) || (l[i].f_Name == nm)) := by unfold found; rw [List.any_append, List.any_cons, List.any_nil, Bool.or_false]
    have r1 : rest nm (l.take i ++ [l[i]]) = rest nm (l.take i) ++ (if (l[i].f_Name == nm) = true then [] else [l[i]]) := by
      unfold rest
      rw [List.filter_append]
      cases hx : (l[i].f_Name == nm) <;> simp [hx]
    have n1 : namesOf w (l.take i ++ [l[i]]) = namesOf w (l.take i) ++ (if w ∈ l[i].f_Words then [l[i].f_Name] else []) := by
      unfold namesOf
      rw [List.filter_append, List.map_append]
      by_cases hx : w ∈ l[i].f_Words <;> simp [hx]
    rw [f1, r1, n1] at ih
    have lr : (rest nm (l.take i)).length ≤ i := by unfold rest; exact Nat.le_trans (List.length_filter_le _ _) (by simp; omega)
    have ln : (namesOf w (l.take i)).length ≤ i := by unfold namesOf; rw [List.length_map]; exact Nat.le_trans (List.length_filter_le _ _) (by simp; omega)
    unfold S_glossatorlaw3_WordindexUpdate_l1
    refine (loopM_inl ?_).trans ih
    unfold S_glossatorlaw3_WordindexUpdate_b1
    simp only [List.length_map, Int.toNat_natCast, getD_at hi]
    rw [if_pos (by simp; omega), if_pos (by omega)]
    have tail : ∀ (v16 : Int) (v17 : List En), S_glossatorlaw3_WordindexUpdate_j5 none l d nm w (upd0 l d) (rem0 l nm) (namesOf w (l.take i)) (i : Int) v16 v17 = some (.inl (v16, v17, namesOf w (l.take i) ++ (if w ∈ l[i].f_Words then [l[i].f_Name] else []), ((i + 1 : Nat) : Int))) := by
      intro v16 v17
      unfold S_glossatorlaw3_WordindexUpdate_j5 S_glossatorlaw3_WordindexUpdate_j6
      simp only [List.length_map, Int.toNat_natCast, getD_at hi]
      rw [rcontains_eq (hb _ (List.getElem_mem hi)), Option.bind_some]
      by_cases hx : w ∈ l[i].f_Words
      · rw [if_pos (by simpa using hx), if_pos hx, if_pos (by rw [List.length_append]; simp only [List.length_singleton]; omega), Wi (by omega)]
      · rw [if_neg (by simpa using hx), if_neg hx, List.append_nil, Wi (by omega)]
    cases hx : (l[i].f_Name == nm) with
    | true => rw [if_pos rfl, tail, Bool.or_true, if_pos rfl, if_pos rfl, List.append_nil]
    | false =>
      rw [if_neg (by simp), if_pos (by rw [List.length_append]; simp only [List.length_singleton]; omega), tail, Bool.or_false, if_neg (show ¬ (false = true) by simp)]
end
theorem lawU {a0 : List G_QIndexEntry} {a1 : G_QDocument} {a2 a3 : List UInt8} (h : okA5 a0 a1 a2 a3) : S_glossatorlaw3_WordindexUpdate none a0 a1 a2 a3 = some true := by
  obtain ⟨⟨_, hl, hE⟩, _⟩ := h
  unfold reachBytes at hl
  have hb : ∀ b ∈ a0, b.f_Words.length ≤ 8796093022208 := fun e he => by
    obtain ⟨_, _, _, h3, _⟩ := hE e he
    unfold reachBytes at h3
    omega
  have ho : ∀ e ∈ a0, OkE e := fun e he => by
    obtain ⟨_, ⟨h1, h2⟩, _, h3, h4⟩ := hE e he
    unfold reachBytes at h3
    refine ⟨by omega, fun w hw => ?_, h1, ?_⟩
    · have := h4 w hw
      unfold ok_str reachBytes at this
      omega
    · have : IntKind.max .u32 = 4294967295 := by decide
      omega
  unfold S_glossatorlaw3_WordindexUpdate
  rw [example_true, Option.bind_some, if_neg (by simp), update_eq (by omega) ho, Option.bind_some, remove_eq (by omega) ho, Option.bind_some]
  have := law_loop (d := a1) (nm := a2) (w := a3) (by omega) ho hb a0.length 0 (by omega)
  exact this
end Go.Proofs.Yteepckliibfnkaa
