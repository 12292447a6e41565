/-
  Own text Law4 of this claim: what functions of the given program compute, in plain Lean, and the proof; no condition.
-/
import Derived.Test.YtdkcjibedbjgjaaLaw3
namespace Go.Proofs.Ytdkcjibedbjgjaa
open Go.Fx Go.Sort
set_option linter.unusedVariables false

def kOk (l : List Ev) : Bool := l.all fun e => V e.f_Kind
def tO : Int → List Ev → Bool
  | _, [] => true
  | t, e :: l => !(decide (e.f_Time < t) || decide (e.f_Time > 1000000000000)) && tO e.f_Time l
def vld (l : List Ev) (d : Int) : Int := if (decide (d < 0) || decide (d > 1000000)) = true then 1 else if 1000 < l.length then 2 else if kOk l = false then 7 else if tO 0 l = true then 0 else 3
theorem if_idx {l : List Ev} (hl : l.length ≤ 100000) : ∀ (k i : Nat), i + k = l.length →
    ∃ r : Int, S_slices_IndexFunc_api_QFileEvent_l1 (fun (s : Unit) (x : G_QFileEvent) => (S_filewatch_validate_1c none x).map fun o => (o, ())) none l (i : Int) () = some (r, ()) ∧ decide (r ≥ 0) = !kOk (l.drop i)
  | 0, i, h => by
    have hi : i = l.length := by omega
    subst hi
    refine ⟨-1, ?_, by rw [List.drop_length]; rfl⟩
    unfold S_slices_IndexFunc_api_QFileEvent_l1
    refine loopM_out ?_
    unfold S_slices_IndexFunc_api_QFileEvent_b1
    rw [if_neg (by simp)]
    rfl
  | k + 1, i, h => by
    have hi : i < l.length := by omega
    have hd : kOk (l.drop i) = (V l[i].f_Kind && kOk (l.drop (i + 1))) := by rw [List.drop_eq_getElem_cons hi]; rfl
    unfold S_slices_IndexFunc_api_QFileEvent_l1
    cases hv : V l[i].f_Kind with
    | false =>
      refine ⟨i, ?_, by rw [hd, hv]; simp⟩
      refine loopM_out ?_
      unfold S_slices_IndexFunc_api_QFileEvent_b1
      simp only [List.length_map, Int.toNat_natCast, getD_at hi]
      rw [if_pos (by simp; omega), if_pos (by omega)]
      unfold S_filewatch_validate_1c
      simp only [vk_eq, Option.bind_some, Option.map_some, hv, Bool.not_false, if_true]
    | true =>
      obtain ⟨r, h1, h2⟩ := if_idx hl k (i + 1) (by omega)
      refine ⟨r, ?_, by rw [hd, hv, Bool.true_and]; exact h2⟩
      rw [loopM_inl (s' := (((i + 1 : Nat) : Int), ())) ?_]
      · exact h1
      · unfold S_slices_IndexFunc_api_QFileEvent_b1
        simp only [List.length_map, Int.toNat_natCast, getD_at hi]
        rw [if_pos (by simp; omega), if_pos (by omega)]
        unfold S_filewatch_validate_1c
        simp only [vk_eq, Option.bind_some, Option.map_some, hv, Bool.not_true, if_false, Bool.false_eq_true]
        rw [Wi (by omega)]
theorem tO_drop {l : List Ev} {i : Nat} (hi : i < l.length) (t : Int) : tO t (l.drop i) = (!(decide (l[i].f_Time < t) || decide (l[i].f_Time > 1000000000000)) && tO l[i].f_Time (l.drop (i + 1))) := by
  rw [List.drop_eq_getElem_cons hi]; rfl
def lastT (l : List Ev) (i : Nat) : Int := if i = 0 then 0 else (l.getD (i - 1) default).f_Time
theorem va_time {l : List Ev} (hl : l.length ≤ 100000) : ∀ (k i : Nat), i + k = l.length → 0 ≤ lastT l i →
    S_filewatch_validate_l1 none l (i : Int) = some (if tO (lastT l i) (l.drop i) = true then 0 else 3)
  | 0, i, h, h0 => by
    have hi : i = l.length := by omega
    subst hi
    unfold S_filewatch_validate_l1
    rw [List.drop_length]
    refine loopM_out ?_
    unfold S_filewatch_validate_b1
    rw [if_neg (by simp)]
    rfl
  | k + 1, i, h, h0 => by
    have hi : i < l.length := by omega
    unfold S_filewatch_validate_l1
    rw [tO_drop hi]
    have hlast : lastT l (i + 1) = l[i].f_Time := by unfold lastT; rw [if_neg (by omega), Nat.add_sub_cancel, getD_at hi]
    have hc : ((decide (l[i].f_Time < 0) || decide (l[i].f_Time > 1000000000000)) || (decide ((i : Int) > 0) && decide (l[i].f_Time < (l.getD (W ((i : Int) - 1)).toNat default).f_Time))) = (decide (l[i].f_Time < lastT l i) || decide (l[i].f_Time > 1000000000000)) := by
      rw [Bool.eq_iff_iff]
      simp only [Bool.or_eq_true, Bool.and_eq_true, decide_eq_true_eq]
      unfold lastT at h0 ⊢
      by_cases hz : i = 0
      · subst hz
        rw [if_pos rfl]
        simp only [Int.natCast_zero, gt_iff_lt, Int.lt_irrefl, false_and, or_false]
      · rw [if_neg hz] at h0 ⊢
        have hw : (W ((i : Int) - 1)).toNat = i - 1 := by rw [W_in (by unfold inR; omega)]; omega
        rw [hw]
        omega
    by_cases hb : (decide (l[i].f_Time < lastT l i) || decide (l[i].f_Time > 1000000000000)) = true
    · rw [hb]
      refine loopM_out ?_
      unfold S_filewatch_validate_b1
      simp only [List.length_map, Int.toNat_natCast, getD_at hi]
      rw [if_pos (by simp; omega), if_pos (by omega), if_pos (by intro h2; simp only [Bool.and_eq_true, beq_iff_eq, decide_eq_true_eq] at h2; rw [W_in (by unfold inR; omega)]; omega), if_pos (by rw [hc]; exact hb)]
      rfl
    · have hb' := Bool.eq_false_iff.2 hb
      rw [loopM_inl (s' := ((i + 1 : Nat) : Int)) ?_]
      · have ht : 0 ≤ lastT l (i + 1) := by
          rw [hlast]
          simp only [Bool.or_eq_false_iff, decide_eq_false_iff_not] at hb'
          omega
        have ih := va_time hl k (i + 1) (by omega) ht
        rw [hb', Bool.not_false, Bool.true_and]
        rw [hlast] at ih
        exact ih
      · unfold S_filewatch_validate_b1
        simp only [List.length_map, Int.toNat_natCast, getD_at hi]
        rw [if_pos (by simp; omega), if_pos (by omega), if_pos (by intro h2; simp only [Bool.and_eq_true, beq_iff_eq, decide_eq_true_eq] at h2; rw [W_in (by unfold inR; omega)]; omega), if_neg (by rw [hc]; exact hb), Wi (by omega)]
theorem validate_eq {l : List Ev} {d : Int} (hl : l.length ≤ 100000) : S_filewatch_validate none l d = some (vld l d) := by
  unfold S_filewatch_validate vld
  split
  · rfl
  · simp only [List.length_map]
    by_cases h1 : 1000 < l.length
    · rw [if_pos (by simp; omega), if_pos h1]
    · rw [if_neg (by simp; omega), if_neg h1]
      unfold S_slices_ContainsFunc_api_QFileEvent S_slices_IndexFunc_api_QFileEvent
      obtain ⟨r, h2, h3⟩ := if_idx hl l.length 0 (by omega)
      rw [show (0 : Int) = ((0 : Nat) : Int) from rfl, h2]
      simp only [Option.bind_some]
      rw [List.drop_zero] at h3
      rw [show ((0 : Nat) : Int) = 0 from rfl, h3]
      cases hk : kOk l with
      | false => simp
      | true =>
        simp only [Bool.not_true, Bool.false_eq_true, if_false]
        have := va_time hl l.length 0 (by omega) (by unfold lastT; rw [if_pos rfl]; exact Int.le_refl _)
        rw [List.drop_zero] at this
        exact this
theorem prog_batches {a0 : List Ev} {d : Int} (ha : a0.length ≤ 100000) (hp : ∀ e ∈ a0, e.f_Path.length ≤ maxLen) :
    S_filewatch_Batches none a0 d = some (if vld a0 d = 0 then (bs a0 d a0.length 0 0 [], 0) else ([], vld a0 d)) := by
  unfold S_filewatch_Batches
  rw [validate_eq ha, Option.bind_some]
  by_cases h : vld a0 d = 0
  · rw [if_neg (by simp [h]), if_pos h]
    exact pr_loop ha hp a0.length 0 0 [] (by omega) (by omega) (by simp)
  · rw [if_pos (by simp [h]), if_neg h]

end Go.Proofs.Ytdkcjibedbjgjaa
