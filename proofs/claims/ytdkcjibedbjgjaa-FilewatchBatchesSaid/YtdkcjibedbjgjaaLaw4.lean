/-
  Own text Law4 of this claim: what functions of the given program compute, in plain Lean, and the proof; no condition.
-/
import Derived.Test.YtdkcjibedbjgjaaLaw3
namespace Go.Proofs.Ytdkcjibedbjgjaa
open Go.Fx Go.Sort
set_option linter.unusedVariables false

def kOk (l : List Ev) : Bool := l.all fun e => V e.f_Kind
def tO : Int → List Ev → Bool
  | _, [] => true
  | t, e :: l => !(decide (e.f_Time < t) || decide (e.f_Time > 1000000000000)) && tO e.f_Time l
def vld (l : List Ev) (d : Int) : Int := if (decide (d < 0) || decide (d > 1000000)) = true then 1 else if 1000 < l.length then 2 else if kOk l = false then 7 else if tO 0 l = true then 0 else 3
theorem if_idx {l : List Ev} (hl : l.length ≤ 100000) : ∀ (k i : Nat), i + k = l.length →
    ∃ r : Int, S_slices_IndexFunc_api_QFileEvent_l1 (fun (s : Unit) (x : G_QFileEvent) => (S_filewatch_validate_1c none x).map fun o => (o, ())) none l (i : Int) () = some (r, ()) ∧ decide (r ≥ 0) = !kOk (l.drop i)
  | 0, i, h => by
    have hi : i = l.length := by omega
    subst hi
    refine ⟨-1, ?_, by rw [List.drop_length]; rfl⟩
    unfold S_slices_IndexFunc_api_QFileEvent_l1
    refine loopM_out ?_
    unfold S_slices_IndexFunc_api_QFileEvent_b1
    rw [if_neg (by simp)]
    rfl
  | k + 1, i, h => by
    have hi : i < l.length := by omega
    have hd : kOk (l.drop i) = (V l[i].f_Kind && kOk (l.drop (i + 1))) := by rw [List.drop_eq_getElem_cons hi]; rfl
    unfold S_slices_IndexFunc_api_QFileEvent_l1
    cases hv : V l[i].f_Kind with
    | false =>
      refine ⟨i, ?_, by rw [hd, hv]; simp⟩
      refine loopM_out ?_
      unfold S_slices_IndexFunc_api_QFileEvent_b1
      simp only [List.length_map, Int.toNat_natCast, getD_at hi]
      rw [if_pos (by simp; omega), if_pos (by omega)]
      unfold S_filewatch_validate_1c
      simp only [vk_eq, Option.bind_some, Option.map_some, hv, Bool.not_false, if_true]
    | true =>
      obtain ⟨r, h1, h2⟩ := if_idx hl k (i + 1) (by omega)
      refine ⟨r, ?_, by rw [hd, hv, Bool.true_and]; exact h2⟩
      rw [loopM_inl (s' := (((i + 1 : Nat) : Int), ())) ?_]
      · exact h1
      · unfold S_slices_IndexFunc_api_QFileEvent_b1
        simp only [List.length_map, Int.toNat_natCast, getD_at hi]
        rw [if_pos (by simp; omega), if_pos (by omega)]
        unfold S_filewatch_validate_1c
        simp only [vk_eq, Option.bind_some, Option.map_some, hv, Bool.not_true, if_false, Bool.false_eq_true]
        rw [Wi (by omega)]
theorem tO_drop {l : List Ev} {i : Nat} (hi : i < l.length) (t : Int) : tO t (l.drop i) = (!(decide (l[i].f_Time < t) || decide (l[i].f_Time > 1000000000000)) && tO l[i].f_Time (l.drop (i + 1))) := by
  rw [List.drop_eq_getElem_cons hi]; rfl
def lastT (l : List Ev) (i : Nat) : Int := if i = 0 then 0 else (l.getD (i - 1) default).f_Time
theorem va_time {l : List Ev} (hl : l.length ≤ 100000) : ∀ (k i : Nat), i + k = l.length → 0 ≤ lastT l i →
    S_filewatch_validate_l1 none l (i : Int) = some (if tO (lastT l i) (l.drop i) = true then 0 else 3)
  | 0, i, h, h0 => by
    have hi : i = l.length := by omega
    subst hi
    unfold S_filewatch_validate_l1
    rw [List.drop_length]
    refine loopM_out ?_
    unfold S_filewatch_validate_b1
    rw [if_neg (by simp)]
    rfl
  | k + 1, i, h, h0 => by
    have hi : i < l.length := by omega
    unfold S_filewatch_validate_l1
    rw [tO_drop hi]
    have hlast : lastT l (i + 1) = l[i].f_Time := by unfold lastT; rw [if_neg (by omega), Nat.add_sub_cancel, getD_at hi]
    have hc : ((decide (l[i].f_Time < 0) || decide (l[i].f_Time > 1000000000000)) || (decide ((i : Int) > 0) && decide (l[i].f_Time < (l.getD (W ((i : Int) - 1)).toNat default).f_Time))) = (decide (l[i].f_Time < lastT l i) || decide (l[i].f_Time > 1000000000000)) := by
      rw [Bool.eq_iff_iff]
      simp only [Bool.or_eq_true, Bool.and_eq_true, decide_eq_true_eq]
      unfold lastT at h0 ⊢
      by_cases hz : i = 0
      · subst hz
        rw [if_pos rfl]
        simp only [Int.natCast_zero, gt_iff_lt, Int.lt_irrefl, false_and, or_false]
      · rw [if_neg hz] at h0 ⊢
        have hw : (W ((i : Int) - 1)).toNat = i - 1 := by rw [W_in (by unfold inR; omega)]; omega
        rw [hw]
        omega
    by_cases hb : (decide (l[i].f_Time < lastT l i) || decide (l[i].f_Time > 1000000000000)) = true
    · rw [hb]
      refine loopM_out ?_
      unfold S_filewatch_validate_b1
      simp only [List.length_map, Int.toNat_natCast, getD_at hi]
      rw [if_pos (by simp; omega), if_pos (by omega), if_pos (by intro h2; simp only [Bool.and_eq_true, beq_iff_eq, decide_eq_true_eq] at h2; rw [W_in (by unfold inR; omega)]; omega), if_pos (by rw [hc]; exact hb)]
      rfl
    · have hb' := Bool.eq_false_iff.2 hb
      rw [loopM_inl (s' := ((i + 1 : Nat) : Int)) ?_]
      · have ht : 0 ≤ lastT l (i + 1) := by
          rw [hlast]
          simp only [Bool.or_eq_false_iff, decide_eq_false_iff_not] at hb'
          omega
        have ih := va_time hl k (i + 1) (by omega) ht
        rw [hb', Bool.not_false, Bool.true_and]
        rw [hlast] at ih
        exact ih
      · unfold S_filewatch_validate_b1
        simp only [List.length_map, Int.toNat_natCast, getD_at hi]
        rw [if_pos (by simp; omega), if_pos (by omega), if_pos (by intro h2; simp only [Bool.and_eq_true, beq_iff_eq, decide_eq_true_eq] at h2; rw [W_in (by unfold inR; omega)]; omega), if_neg (by rw [hc]; exact hb), Wi (by omega)]
theorem validate_eq {l : List Ev} {d : Int} (hl : l.length ≤ 100000) : S_filewatch_validate none l d = some (vld l d) := by
  unfold S_filewatch_validate vld
  split
  · rfl
  · simp only [List.length_map]
    by_cases h1 : 1000 < l.length
    · rw [if_pos (by simp; omega), if_pos h1]
    · rw [if_neg (by simp; omega), if_neg h1]
      unfold S_slices_ContainsFunc_api_QFileEvent S_slices_IndexFunc_api_QFileEvent
      obtain ⟨r, h2, h3⟩ := if_idx hl l.length 0 (by omega)
      rw [show (0 : Int) = ((0 : Nat) : Int) from rfl, h2]
      simp only [Option.bind_some]
      rw [List.drop_zero] at h3
      rw [show ((0 : Nat) : Int) = 0 from rfl, h3]
      cases hk : kOk l with
      | false => simp
      | true =>
        simp only [Bool.not_true, Bool.false_eq_true, if_false]
        have := va_time hl l.length 0 (by omega) (by unfold lastT; rw [if_pos rfl]; exact Int.le_refl _)
        rw [List.drop_zero] at this
        exact this
theorem ce_time {l : List Ev} (hl : l.length ≤ 100000) : ∀ (k i : Nat) (t : Int), i + k = l.length →
    S_glossatorref3_CheckEvents_l2 none l t (i : Int) = some (if tO t (l.drop i) = true then 0 else 3)
  | 0, i, t, h => by
    have hi : i = l.length := by omega
    subst hi
    unfold S_glossatorref3_CheckEvents_l2
    rw [List.drop_length]
    refine loopM_out ?_
    unfold S_glossatorref3_CheckEvents_b2
    rw [if_neg (by simp)]
    rfl
  | k + 1, i, t, h => by
    have hi : i < l.length := by omega
    unfold S_glossatorref3_CheckEvents_l2
    rw [tO_drop hi]
    by_cases hb : (decide (l[i].f_Time < t) || decide (l[i].f_Time > 1000000000000)) = true
    · rw [hb]
      refine loopM_out ?_
      unfold S_glossatorref3_CheckEvents_b2
      simp only [List.length_map, Int.toNat_natCast, getD_at hi]
      rw [if_pos (by simp; omega), if_pos (by omega), if_pos hb]
      rfl
    · rw [loopM_inl (s' := (l[i].f_Time, ((i + 1 : Nat) : Int))) ?_]
      · rw [Bool.eq_false_iff.2 hb, Bool.not_false, Bool.true_and]
        exact ce_time hl k (i + 1) _ (by omega)
      · unfold S_glossatorref3_CheckEvents_b2
        simp only [List.length_map, Int.toNat_natCast, getD_at hi]
        rw [if_pos (by simp; omega), if_pos (by omega), if_neg hb, Wi (by omega)]
theorem nV (a : Int) : (decide (a < 1) || decide (a > 3)) = !V a := by
  rw [Bool.eq_iff_iff]; simp only [V, Bool.or_eq_true, Bool.not_eq_true', Bool.and_eq_false_iff, decide_eq_true_eq, decide_eq_false_iff_not]; omega
theorem ce_kind {l : List Ev} (hl : l.length ≤ 100000) : ∀ (k i : Nat), i + k = l.length →
    S_glossatorref3_CheckEvents_l1 none l (i : Int) = if kOk (l.drop i) = true then S_glossatorref3_CheckEvents_j1 none l else some 7
  | 0, i, h => by
    have hi : i = l.length := by omega
    subst hi
    unfold S_glossatorref3_CheckEvents_l1
    rw [List.drop_length]
    refine loopM_out ?_
    unfold S_glossatorref3_CheckEvents_b1
    rw [if_neg (by simp)]
    rfl
  | k + 1, i, h => by
    have hi : i < l.length := by omega
    have hd : kOk (l.drop i) = (V l[i].f_Kind && kOk (l.drop (i + 1))) := by rw [List.drop_eq_getElem_cons hi]; rfl
    unfold S_glossatorref3_CheckEvents_l1
    rw [hd]
    cases hv : V l[i].f_Kind with
    | false =>
      refine loopM_out ?_
      unfold S_glossatorref3_CheckEvents_b1
      simp only [List.length_map, Int.toNat_natCast, getD_at hi]
      rw [if_pos (by simp; omega), if_pos (by omega), if_pos (by rw [nV, hv]; rfl)]
      rfl
    | true =>
      rw [loopM_inl (s' := ((i + 1 : Nat) : Int)) ?_]
      · rw [Bool.true_and]
        exact ce_kind hl k (i + 1) (by omega)
      · unfold S_glossatorref3_CheckEvents_b1
        simp only [List.length_map, Int.toNat_natCast, getD_at hi]
        rw [if_pos (by simp; omega), if_pos (by omega), if_neg (by rw [nV, hv]; simp), Wi (by omega)]
theorem check_eq {l : List Ev} {d : Int} (hl : l.length ≤ 100000) : S_glossatorref3_CheckEvents none l d = some (vld l d) := by
  unfold S_glossatorref3_CheckEvents vld
  split
  · rfl
  · simp only [List.length_map]
    by_cases h1 : 1000 < l.length
    · rw [if_pos (by simp; omega), if_pos h1]
    · rw [if_neg (by simp; omega), if_neg h1]
      have h2 := ce_kind hl l.length 0 (by omega)
      rw [List.drop_zero] at h2
      rw [show (0 : Int) = ((0 : Nat) : Int) from rfl, h2]
      cases hk : kOk l with
      | false => simp
      | true =>
        simp only [if_true]
        unfold S_glossatorref3_CheckEvents_j1
        have := ce_time hl l.length 0 0 (by omega)
        rw [List.drop_zero] at this
        exact this
theorem prog_batches {a0 : List Ev} {d : Int} (ha : a0.length ≤ 100000) (hp : ∀ e ∈ a0, e.f_Path.length ≤ maxLen) :
    S_filewatch_Batches none a0 d = some (if vld a0 d = 0 then (bs a0 d a0.length 0 0 [], 0) else ([], vld a0 d)) := by
  unfold S_filewatch_Batches
  rw [validate_eq ha, Option.bind_some]
  by_cases h : vld a0 d = 0
  · rw [if_neg (by simp [h]), if_pos h]
    exact pr_loop ha hp a0.length 0 0 [] (by omega) (by omega) (by simp)
  · rw [if_pos (by simp [h]), if_neg h]

def isUp (e : Ev) : Bool := e.f_Kind == 1 || e.f_Kind == 2
def stp (x : List UInt8) (b : Bool) (e : Ev) : Bool := if isUp e = true then b || decide (x = e.f_Path) else if e.f_Kind = 3 then b && !decide (x = e.f_Path) else b
def memF (fs : List (List UInt8)) (es : List Ev) (x : List UInt8) : Bool := es.foldl (stp x) (decide (x ∈ fs))
theorem memF_from {fs : List (List UInt8)} {x : List UInt8} : ∀ {es : List Ev} {b : Bool}, es.foldl (stp x) b = true → b = true ∨ ∃ e ∈ es, x = e.f_Path
  | [], b, h => .inl h
  | e :: es, b, h => by
    rw [List.foldl_cons] at h
    rcases memF_from (fs := fs) h with h1 | ⟨e', he, hx⟩
    · unfold stp at h1
      split at h1
      · rw [Bool.or_eq_true, decide_eq_true_eq] at h1
        rcases h1 with h1 | h1
        · exact .inl h1
        · exact .inr ⟨e, List.mem_cons_self .., h1⟩
      · split at h1
        · rw [Bool.and_eq_true] at h1; exact .inl h1.1
        · exact .inl h1
    · exact .inr ⟨e', List.mem_cons_of_mem _ he, hx⟩
abbrev FM := List (List UInt8 × Int)
def updA (M : FM) (e : Ev) : FM := if isUp e = true then mp q_str M e.f_Path 1 else if e.f_Kind = 3 then md q_str M e.f_Path else M
def fillF (M : FM) (f : List UInt8) : FM := mp q_str M f 1
theorem fill_inv : ∀ (l : List (List UInt8)) (M : FM), (M.map (·.1)).Nodup → ((l.foldl fillF M).map (·.1)).Nodup ∧ (l.foldl fillF M).length ≤ M.length + l.length ∧ (∀ j, j ∈ (l.foldl fillF M).map (·.1) ↔ j ∈ M.map (·.1) ∨ j ∈ l) ∧ ∀ j, lk q_str (l.foldl fillF M) j = if j ∈ l then some 1 else lk q_str M j
  | [], M, h => ⟨h, Nat.le_refl _, fun j => by simp, fun j => by simp⟩
  | f :: l, M, h => by
    obtain ⟨i1, i2, i3, i4⟩ := fill_inv l (fillF M f) (mpN (hq := q_str_iff) h)
    have := mpL (q := q_str) (M := M) (k := f) (v := (1 : Int))
    refine ⟨i1, by rw [List.foldl_cons, List.length_cons]; unfold fillF at i2 ⊢; omega, fun j => ?_, fun j => ?_⟩
    · rw [List.foldl_cons, i3, List.mem_cons]
      unfold fillF
      rw [mpKm (hq := q_str_iff), or_assoc]
    · rw [List.foldl_cons, i4]
      unfold fillF
      rw [lkM (hq := q_str_iff)]
      by_cases hj : j ∈ l
      · rw [if_pos hj, if_pos (List.mem_cons.2 (.inr hj))]
      · rw [if_neg hj]
        by_cases he : f = j
        · rw [if_pos he, if_pos (List.mem_cons.2 (.inl he.symm))]
        · rw [if_neg he, if_neg (fun h => (List.mem_cons.1 h).elim (fun h => he h.symm) hj)]
theorem updA_inv : ∀ (l : List Ev) (M : FM) (b : List UInt8 → Bool), (M.map (·.1)).Nodup → (∀ j, j ∈ M.map (·.1) ↔ b j = true) → ((l.foldl updA M).map (·.1)).Nodup ∧ (l.foldl updA M).length ≤ M.length + l.length ∧ ∀ j, j ∈ (l.foldl updA M).map (·.1) ↔ l.foldl (stp j) (b j) = true
  | [], M, b, h, hb => ⟨h, Nat.le_refl _, hb⟩
  | e :: l, M, b, h, hb => by
    have hstep : ((updA M e).map (·.1)).Nodup ∧ (updA M e).length ≤ M.length + 1 ∧ ∀ j, j ∈ (updA M e).map (·.1) ↔ stp j (b j) e = true := by
      unfold updA stp
      split
      · refine ⟨mpN (hq := q_str_iff) h, mpL, fun j => ?_⟩
        rw [mpKm (hq := q_str_iff), hb, Bool.or_eq_true, decide_eq_true_eq]
      · split
        · have hd := fun j => mdK (hq := q_str_iff) (k := e.f_Path) (j := j) h
          refine ⟨(hd []).2.1, Nat.le_succ_of_le (hd []).2.2, fun j => ?_⟩
          rw [(hd j).1, hb, Bool.and_eq_true, Bool.not_eq_true', decide_eq_false_iff_not]
        · exact ⟨h, Nat.le_succ _, hb⟩
    obtain ⟨s1, s2, s3⟩ := hstep
    obtain ⟨i1, i2, i3⟩ := updA_inv l (updA M e) (fun j => stp j (b j) e) s1 s3
    exact ⟨i1, by rw [List.foldl_cons, List.length_cons]; omega, i3⟩
theorem ap_fill {a0 : List (List UInt8)} {a1 : List Ev} (ha : a0.length ≤ 100000) : ∀ (k i : Nat) (M : FM), i + k = a0.length →
    S_filewatch_Apply_l1 none a0 a1 (i : Int) M = S_filewatch_Apply_j1 none a1 ((a0.drop i).foldl fillF M)
  | 0, i, M, h => by
    have hi : i = a0.length := by omega
    subst hi
    unfold S_filewatch_Apply_l1
    rw [List.drop_length, List.foldl_nil]
    refine loopM_out ?_
    unfold S_filewatch_Apply_b1
    rw [if_neg (by simp)]
  | k + 1, i, M, h => by
    have hi : i < a0.length := by omega
    unfold S_filewatch_Apply_l1
    rw [loopM_inl (s' := (((i + 1 : Nat) : Int), fillF M a0[i])) ?_]
    · have ih := ap_fill (a1 := a1) ha k (i + 1) (fillF M a0[i]) (by omega)
      rw [List.drop_eq_getElem_cons hi, List.foldl_cons]
      exact ih
    · unfold S_filewatch_Apply_b1
      simp only [List.length_map, Int.toNat_natCast, getD_at hi]
      rw [if_pos (by simp; omega), if_pos (by omega), Wi (by omega)]
      rfl
theorem ap_ev {a1 : List Ev} (ha : a1.length ≤ 100000) : ∀ (k i : Nat) (M : FM), i + k = a1.length →
    S_filewatch_Apply_l2 none a1 (i : Int) M = S_filewatch_Apply_j8 none ((a1.drop i).foldl updA M)
  | 0, i, M, h => by
    have hi : i = a1.length := by omega
    subst hi
    unfold S_filewatch_Apply_l2
    rw [List.drop_length, List.foldl_nil]
    refine loopM_out ?_
    unfold S_filewatch_Apply_b2
    rw [if_neg (by simp)]
  | k + 1, i, M, h => by
    have hi : i < a1.length := by omega
    unfold S_filewatch_Apply_l2
    rw [loopM_inl (s' := (((i + 1 : Nat) : Int), updA M a1[i])) ?_]
    · have ih := ap_ev ha k (i + 1) (updA M a1[i]) (by omega)
      rw [List.drop_eq_getElem_cons hi, List.foldl_cons]
      exact ih
    · unfold S_filewatch_Apply_b2 S_filewatch_Apply_j6 S_filewatch_Apply_j7
      simp only [List.length_map, Int.toNat_natCast, getD_at hi]
      rw [if_pos (by simp; omega), if_pos (by omega), Wi (by omega)]
      unfold updA isUp
      by_cases h1 : a1[i].f_Kind = 1
      · simp [h1]
      · by_cases h2 : a1[i].f_Kind = 2
        · simp [h2]
        · by_cases h3 : a1[i].f_Kind = 3
          · simp [h3]
          · simp [h1, h2, h3]
theorem apply_eq {a0 : List (List UInt8)} {a1 : List Ev} {K : List (List UInt8)} (h0 : a0.length ≤ 100000) (h1 : a1.length ≤ 100000) (hf : ∀ f ∈ a0, f.length ≤ maxLen) (hp : ∀ e ∈ a1, e.f_Path.length ≤ maxLen)
    (hK : K.Pairwise (· < ·)) (hm : ∀ x, x ∈ K ↔ memF a0 a1 x = true) : S_filewatch_Apply none a0 a1 = some K := by
  have h := ap_fill (a1 := a1) h0 a0.length 0 [] (by omega)
  unfold S_filewatch_Apply
  rw [show (0 : Int) = ((0 : Nat) : Int) from rfl, h, List.drop_zero]
  unfold S_filewatch_Apply_j1
  have h := ap_ev h1 a1.length 0 (a0.foldl fillF []) (by omega)
  rw [show (0 : Int) = ((0 : Nat) : Int) from rfl, h, List.drop_zero]
  obtain ⟨p1, p2, p3, _⟩ := fill_inv a0 [] (by simp)
  obtain ⟨q1, q2, q3⟩ := updA_inv a1 (a0.foldl fillF []) (fun x => decide (x ∈ a0)) p1 (fun j => by rw [p3, decide_eq_true_eq]; simp)
  simp only [List.length_nil, Nat.zero_add] at p2
  unfold S_filewatch_Apply_j8 S_maps_Keys_map_string_int S_slices_Sorted_string_28
  have hmax : ∀ k ∈ (a1.foldl updA (a0.foldl fillF [])).map (·.1), k.length ≤ maxLen := fun k hk => by
    rcases memF_from (fs := a0) ((q3 k).1 hk) with h2 | ⟨e, he, rfl⟩
    · exact hf _ (by simpa using h2)
    · exact hp e he
  rw [Option.bind_some, if_pos ⟨q1, hmax, by omega⟩, Option.bind_some, sortK_eq q1 hK (fun j => (q3 j).trans (hm j).symm)]
end Go.Proofs.Ytdkcjibedbjgjaa
