/-
  Own text Law6 of this claim: what functions of the given program compute, in plain Lean, and the proof; no condition.
-/
import Derived.Test.YtdkcjibedbjgjaaLaw5
import Derived.Test.YtdkcjibedbjgjaaOk
namespace Go.Proofs.Ytdkcjibedbjgjaa
open Go.Fx Go.Sort
set_option linter.unusedVariables false
def zB : Bt := ⟨0, []⟩
def due (t d : Int) (es : List Ev) : Bool := decide (0 < es.length) && decide ((es.getD (es.length - 1) default).f_Time + d ≤ t)
theorem Wl {n : Nat} (h : 0 < n) (h' : n ≤ 100000) : W ((n : Int) - 1) = ((n - 1 : Nat) : Int) := by rw [W_in (by unfold inR; omega)]; omega
structure Ok (d now : Int) (es : List Ev) : Prop where
  d0 : 0 ≤ d
  d1 : d ≤ 1000000
  n0 : 0 ≤ now
  t : ∀ e ∈ es, 0 ≤ e.f_Time ∧ e.f_Time ≤ 1000000000000 ∧ e.f_Path.length ≤ maxLen
theorem complete_eq {d now t n : Int} {es : List Ev} (h : Ok d now es) (hl : es.length ≤ 100000) (ht : 0 ≤ t) (ht' : t ≤ 9223372036854775807) : S_filewatch_Watcher_complete none t d n es = some (due t d es) := by
  unfold S_filewatch_Watcher_complete due
  simp only [List.length_map]
  by_cases hz : 0 < es.length
  · have hg := h.t (es.getD (es.length - 1) default) (by rw [getD_at (by omega)]; exact List.getElem_mem _)
    rw [Wl hz hl, if_pos (by intro _; omega), Int.toNat_natCast, W_in (by unfold inR; omega)]
    congr 1
    rw [Bool.eq_iff_iff]
    simp only [Bool.and_eq_true, decide_eq_true_eq]
    omega
  · rw [if_pos (by simp only [beq_iff_eq, decide_eq_true_eq]; omega), decide_eq_false (by omega), decide_eq_false hz]
    rfl
theorem due_eq {d now t n : Int} {es : List Ev} (h : Ok d now es) (hl : es.length ≤ 100000) : S_glossatorref3_Watcher_due none t d n es = some (due t d es) := by
  unfold S_glossatorref3_Watcher_due due
  simp only [List.length_map]
  have hd0 := h.d0
  have hd1 := h.d1
  by_cases hz : 0 < es.length
  · have hg := h.t (es.getD (es.length - 1) default) (by rw [getD_at (by omega)]; exact List.getElem_mem _)
    rw [Wl hz hl, if_pos (by intro _; omega), Int.toNat_natCast, W_in (by unfold inR; omega)]
    congr 1
    rw [Bool.eq_iff_iff]
    simp only [Bool.and_eq_true, decide_eq_true_eq]
    omega
  · rw [if_pos (by simp only [beq_iff_eq, decide_eq_true_eq]; omega), decide_eq_false (by omega), decide_eq_false hz]
    rfl
def addR (d : Int) (e : Ev) (now : Int) (es : List Ev) : Int × Int × List Ev :=
  if V e.f_Kind = false then (7, now, es) else if (decide (e.f_Time < 0) || decide (e.f_Time > 1000000000000) || decide (e.f_Time < now)) = true then (3, now, es) else if due e.f_Time d es = true then (8, now, es) else (0, e.f_Time, es ++ [e])
theorem nV (a : Int) : (decide (a < 1) || decide (a > 3)) = !V a := by
  rw [Bool.eq_iff_iff]; simp only [V, Bool.or_eq_true, Bool.not_eq_true', Bool.and_eq_false_iff, decide_eq_true_eq, decide_eq_false_iff_not]; omega
theorem add_prog {d now : Int} {e : Ev} {es : List Ev} (h : Ok d now es) (hl : es.length ≤ 1000) : S_filewatch_Watcher_Add_20 none e d now es = some (addR d e now es) := by
  unfold S_filewatch_Watcher_Add_20 addR
  rw [vk_eq, Option.bind_some]
  cases hv : V e.f_Kind with
  | false => rfl
  | true =>
    rw [if_neg (show ¬((!true) = true) by simp), if_neg (show ¬(true = false) by simp)]
    by_cases hc : (decide (e.f_Time < 0) || decide (e.f_Time > 1000000000000) || decide (e.f_Time < now)) = true
    · rw [if_pos hc, if_pos hc]
    · rw [if_neg hc, if_neg hc]
      simp only [Bool.or_eq_true, decide_eq_true_eq, not_or] at hc
      rw [complete_eq h (by omega) (by omega) (by omega), Option.bind_some]
      by_cases hd : due e.f_Time d es = true
      · rw [if_pos hd, if_pos hd]
      · rw [if_neg hd, if_neg hd, if_pos (by simp; omega)]
theorem add_ref {d now : Int} {e : Ev} {es : List Ev} (h : Ok d now es) (hl : es.length ≤ 1000) : S_glossatorref3_Watcher_Add none e d now es = some (addR d e now es) := by
  unfold S_glossatorref3_Watcher_Add addR
  rw [nV]
  cases hv : V e.f_Kind with
  | false => rfl
  | true =>
    rw [if_neg (show ¬((!true) = true) by simp), if_neg (show ¬(true = false) by simp)]
    by_cases hc : (decide (e.f_Time < 0) || decide (e.f_Time > 1000000000000) || decide (e.f_Time < now)) = true
    · rw [if_pos hc, if_pos hc]
    · rw [if_neg hc, if_neg hc, due_eq h (by omega), Option.bind_some]
      by_cases hd : due e.f_Time d es = true
      · rw [if_pos hd, if_pos hd]
      · rw [if_neg hd, if_neg hd, if_pos (by simp; omega)]
def pollR (t d now : Int) (es : List Ev) : Bt × Bool × Int × List Ev :=
  if t < now then (zB, false, now, es) else if due t d es = false then (zB, false, t, es) else if evs es = [] then (zB, false, t, []) else (⟨W ((es.getD (es.length - 1) default).f_Time + d), evs es⟩, true, t, [])
theorem due_pos {t d : Int} {es : List Ev} (h : due t d es = true) : 0 < es.length := by unfold due at h; simp only [Bool.and_eq_true, decide_eq_true_eq] at h; exact h.1
theorem poll_prog {t d now : Int} {es : List Ev} (h : Ok d now es) (hl : es.length ≤ 1000) (ht : t ≤ 9223372036854775807) : S_filewatch_Watcher_Poll_18_3 none t d now es = some (pollR t d now es) := by
  unfold S_filewatch_Watcher_Poll_18_3 pollR
  have hn := h.n0
  by_cases hc : t < now
  · rw [if_pos (by simpa using hc), if_pos hc]; rfl
  · rw [if_neg (by simpa using hc), if_neg hc, complete_eq h (by omega) (by omega) ht, Option.bind_some]
    cases hd : due t d es with
    | false => rfl
    | true =>
      have hp := due_pos hd
      rw [if_neg (show ¬((!true) = true) by simp), if_neg (show ¬(true = false) by simp), newBatch_eq (by omega) hp (fun e he => (h.t e he).2.2), Option.bind_some]
      simp only [List.length_map]
      by_cases he : evs es = []
      · rw [if_pos (by simp [he]), if_pos he]; rfl
      · rw [if_neg (by simpa using he), if_neg he, getD_at (by omega)]
theorem rp_last {X : List Ev} {now d : Int} {K : List (List UInt8)} {acc : List Ev} {j : Nat} (ha : X.length ≤ 100000) (hj : j < K.length) : ∀ (k i : Nat) (r : Ev), i + k = X.length → r.f_Path = K[j] →
    S_glossatorref3_Watcher_Poll_l4 none now d X K (j : Int) acc (i : Int) r.f_Time r.f_Kind = (fun r : Ev => S_glossatorref3_Watcher_Poll_j14 none now d X K (j : Int) acc r.f_Time r.f_Kind) ((X.drop i).foldl (acc1 K[j]) r)
  | 0, i, r, h, hr => by
    have hi : i = X.length := by omega
    subst hi
    unfold S_glossatorref3_Watcher_Poll_l4
    rw [List.drop_length, List.foldl_nil]
    refine loopM_out ?_
    unfold S_glossatorref3_Watcher_Poll_b4
    rw [if_neg (by simp)]
  | k + 1, i, r, h, hr => by
    have hi : i < X.length := by omega
    unfold S_glossatorref3_Watcher_Poll_l4
    rw [loopM_inl (s' := (((i + 1 : Nat) : Int), (acc1 K[j] r X[i]).f_Time, (acc1 K[j] r X[i]).f_Kind)) ?_]
    · have ih := rp_last (now := now) (d := d) (acc := acc) ha hj k (i + 1) (acc1 K[j] r X[i]) (by omega) (acc1_path hr)
      rw [List.drop_eq_getElem_cons hi, List.foldl_cons]
      exact ih
    · unfold S_glossatorref3_Watcher_Poll_b4 S_glossatorref3_Watcher_Poll_j13
      simp only [List.length_map, Int.toNat_natCast, getD_at hi, getD_at hj]
      rw [if_pos (by simp; omega), if_pos (by omega), Wi (by omega), rmerge_eq, Option.bind_some]
      unfold acc1
      by_cases he : X[i].f_Path = K[j]
      · rw [if_pos (by simpa using he), if_pos he]
      · rw [if_neg (by simpa using he), if_neg he]
theorem rp_keys {X : List Ev} {now d : Int} {K : List (List UInt8)} (ha : X.length ≤ 100000) (hK : K.length ≤ 100000) : ∀ (k i : Nat) (acc : List Ev), i + k = K.length → acc.length ≤ i →
    S_glossatorref3_Watcher_Poll_l3 none now d X K (i : Int) acc = S_glossatorref3_Watcher_Poll_j16 none now d X (acc ++ (K.drop i).flatMap (keepE X))
  | 0, i, acc, h, hl => by
    have hi : i = K.length := by omega
    subst hi
    unfold S_glossatorref3_Watcher_Poll_l3
    rw [List.drop_length, List.flatMap_nil, List.append_nil]
    refine loopM_out ?_
    unfold S_glossatorref3_Watcher_Poll_b3
    rw [if_neg (by simp)]
  | k + 1, i, acc, h, hl => by
    have hi : i < K.length := by omega
    have hk := keepE_len X K[i]
    unfold S_glossatorref3_Watcher_Poll_l3
    rw [loopM_inl (s' := (((i + 1 : Nat) : Int), acc ++ keepE X K[i])) ?_]
    · have ih := rp_keys (now := now) (d := d) ha hK k (i + 1) (acc ++ keepE X K[i]) (by omega) (by rw [List.length_append]; omega)
      rw [List.drop_eq_getElem_cons hi, List.flatMap_cons, ← List.append_assoc]
      exact ih
    · unfold S_glossatorref3_Watcher_Poll_b3
      dsimp only
      rw [if_pos (by simp; omega), if_pos (by simp; omega)]
      have := rp_last (X := X) (now := now) (d := d) (K := K) (acc := acc) ha hi X.length 0 ⟨0, K[i], 0⟩ (by omega) rfl
      rw [List.drop_zero] at this
      refine this.trans ?_
      have hpth : (mrgAt X K[i]).f_Path = K[i] := fold_path X rfl
      show S_glossatorref3_Watcher_Poll_j14 none now d X K (i : Int) acc (mrgAt X K[i]).f_Time (mrgAt X K[i]).f_Kind = _
      unfold S_glossatorref3_Watcher_Poll_j14 S_glossatorref3_Watcher_Poll_j15 keepE
      rw [Wi (by omega), Int.toNat_natCast, getD_at hi]
      by_cases hz : (mrgAt X K[i]).f_Kind = 0
      · rw [if_neg (by simp [hz]), if_pos hz, List.append_nil]
      · rw [if_pos (by simp [hz]), if_neg hz, if_pos (by simp; omega)]
        rw [(fun r h => by cases r; cases h; rfl : ∀ r : Ev, r.f_Path = K[i] → (⟨r.f_Time, K[i], r.f_Kind⟩ : Ev) = r) _ hpth]
theorem poll_ref {t d now : Int} {es : List Ev} (h : Ok d now es) (hl : es.length ≤ 1000) : S_glossatorref3_Watcher_Poll none t d now es = some (pollR t d now es) := by
  unfold S_glossatorref3_Watcher_Poll pollR
  by_cases hc : t < now
  · rw [if_pos (by simpa using hc), if_pos hc]; rfl
  · rw [if_neg (by simpa using hc), if_neg hc, due_eq h (by omega), Option.bind_some]
    cases hd : due t d es with
    | false => rfl
    | true =>
      have hp := due_pos hd
      rw [if_neg (show ¬((!true) = true) by simp), if_neg (show ¬(true = false) by simp)]
      simp only [List.length_map]
      rw [Wl hp (by omega), if_pos (by omega), paths_eq (by omega), Option.bind_some]
      have hss := sortS_len (es.map (·.f_Path))
      rw [List.length_map] at hss
      have h2 := rp_keys (X := es) (now := t) (d := d) (K := sortS (es.map (·.f_Path))) (by omega) (by omega) _ 0 [] (Nat.zero_add _) (by simp)
      rw [show (0 : Int) = ((0 : Nat) : Int) from rfl, h2, List.drop_zero, List.nil_append]
      show S_glossatorref3_Watcher_Poll_j16 none t d es (evs es) = _
      unfold S_glossatorref3_Watcher_Poll_j16
      simp only [List.length_map]
      rw [Wl hp (by omega), Int.toNat_natCast]
      by_cases he : evs es = []
      · rw [if_pos (by simp [he]), if_pos he]; rfl
      · rw [if_neg (by simpa using he), if_neg he]
theorem add_ok {d now : Int} {e : Ev} {es : List Ev} (h : Ok d now es) (hp : e.f_Path.length ≤ maxLen) : Ok d (addR d e now es).2.1 (addR d e now es).2.2 ∧ (addR d e now es).2.2.length ≤ es.length + 1 := by
  unfold addR
  split
  · exact ⟨h, Nat.le_succ _⟩
  · split
    · exact ⟨h, Nat.le_succ _⟩
    · rename_i hc
      split
      · exact ⟨h, Nat.le_succ _⟩
      · simp only [Bool.or_eq_true, decide_eq_true_eq, not_or] at hc
        refine ⟨⟨h.d0, h.d1, by show 0 ≤ e.f_Time; omega, fun x hx => ?_⟩, by simp⟩
        rcases List.mem_append.1 hx with hx | hx
        · exact h.t x hx
        · simp only [List.mem_singleton] at hx
          subst hx
          exact ⟨by omega, by omega, hp⟩
theorem poll_ok {t d now : Int} {es : List Ev} (h : Ok d now es) : Ok d (pollR t d now es).2.2.1 (pollR t d now es).2.2.2 ∧ (pollR t d now es).2.2.2.length ≤ es.length ∧ (pollR t d now es).1.f_Events.length ≤ es.length := by
  have hn := h.n0
  have he := evs_len es
  unfold pollR
  split
  · exact ⟨h, Nat.le_refl _, Nat.zero_le _⟩
  · have h' : ∀ es', (∀ e ∈ es', e ∈ es) → Ok d t es' := fun es' hs => ⟨h.d0, h.d1, by omega, fun e he => h.t e (hs e he)⟩
    split
    · exact ⟨h' _ (fun _ h => h), Nat.le_refl _, Nat.zero_le _⟩
    · split
      · exact ⟨h' _ (fun _ h => by cases h), Nat.zero_le _, Nat.zero_le _⟩
      · exact ⟨h' _ (fun _ h => by cases h), Nat.zero_le _, he⟩
theorem w_loop {d : Int} {a1 E : List Ev} (hE : a1.take (if 40 < (a1.length : Int) then 40 else (a1.length : Int)).toNat = E) (hl : E.length ≤ 40) (hk : ∀ e ∈ E, e.f_Time ≤ 9223372036854775807 ∧ e.f_Path.length ≤ maxLen) : ∀ (k i : Nat) (now : Int) (es : List Ev), i + k = E.length → Ok d now es → es.length ≤ i →
    S_glossatorlaw3_FilewatchWatcher_l2 none d a1 (i : Int) now es now es = some true
  | 0, i, now, es, h, ho, hs => by
    have hi : i = E.length := by omega
    subst hi
    unfold S_glossatorlaw3_FilewatchWatcher_l2
    refine loopM_out ?_
    unfold S_glossatorlaw3_FilewatchWatcher_b2
    simp only [List.length_map, hE]
    rw [if_neg (by simp)]
    unfold S_glossatorlaw3_FilewatchWatcher_j8
    rw [example_true]
    rfl
  | k + 1, i, now, es, h, ho, hs => by
    have hi : i < E.length := by omega
    obtain ⟨hk1, hk2⟩ := hk _ (List.getElem_mem hi)
    unfold S_glossatorlaw3_FilewatchWatcher_l2
    by_cases hz : E[i].f_Kind < 0
    · obtain ⟨p1, p2, p3⟩ := poll_ok (t := E[i].f_Time) ho
      rw [loopM_inl (s' := (((i + 1 : Nat) : Int), (pollR E[i].f_Time d now es).2.2.1, (pollR E[i].f_Time d now es).2.2.2, (pollR E[i].f_Time d now es).2.2.1, (pollR E[i].f_Time d now es).2.2.2)) ?_]
      · exact w_loop hE hl hk k (i + 1) _ _ (by omega) p1 (by omega)
      · unfold S_glossatorlaw3_FilewatchWatcher_b2 S_glossatorlaw3_FilewatchWatcher_j7
        simp only [List.length_map, hE, Int.toNat_natCast, getD_at hi]
        rw [if_pos (by simp; omega), if_pos (by omega), if_pos (by simpa using hz), poll_prog ho (by omega) hk1, Option.bind_some, poll_ref ho (by omega), Option.bind_some, if_pos (by simp)]
        rw [equalB (l := [⟨(pollR E[i].f_Time d now es).1.f_Time, (pollR E[i].f_Time d now es).1.f_Events⟩]) (by simp) (fun b hb => by simp only [List.mem_singleton] at hb; subst hb; show (pollR E[i].f_Time d now es).1.f_Events.length ≤ _; omega), Option.bind_some, if_neg (by simp), Wi (by omega)]
    · obtain ⟨p1, p2⟩ := add_ok (e := E[i]) ho hk2
      rw [loopM_inl (s' := (((i + 1 : Nat) : Int), (addR d E[i] now es).2.1, (addR d E[i] now es).2.2, (addR d E[i] now es).2.1, (addR d E[i] now es).2.2)) ?_]
      · exact w_loop hE hl hk k (i + 1) _ _ (by omega) p1 (by omega)
      · unfold S_glossatorlaw3_FilewatchWatcher_b2 S_glossatorlaw3_FilewatchWatcher_j7
        simp only [List.length_map, hE, Int.toNat_natCast, getD_at hi]
        rw [if_pos (by simp; omega), if_pos (by omega), if_neg (by simpa using hz)]
        rw [show (⟨E[i].f_Time, E[i].f_Path, E[i].f_Kind⟩ : Ev) = E[i] from rfl, add_prog ho (by omega), Option.bind_some, add_ref ho (by omega), Option.bind_some, if_neg (by simp), Wi (by omega)]
theorem lawW {a0 : Int} {a1 : List G_QFileEvent} (h : okA4 a0 a1) : S_glossatorlaw3_FilewatchWatcher none a0 a1 = some true := by
  obtain ⟨_, _, _, hE⟩ := h
  unfold S_glossatorlaw3_FilewatchWatcher S_filewatch_NewWatcher
  rw [example_true, Option.bind_some, if_neg (by simp)]
  by_cases hd : (decide (a0 < 0) || decide (a0 > 1000000)) = true
  · rw [if_pos hd, Option.bind_some]
    simp only [if_pos hd, Option.bind_some]
    rfl
  · rw [if_neg hd, Option.bind_some]
    simp only [if_neg hd, List.length_map]
    rw [if_neg (by simp), if_pos (by split <;> omega)]
    simp only [Bool.or_eq_true, decide_eq_true_eq, not_or] at hd
    have hl : (a1.take (if 40 < (a1.length : Int) then 40 else (a1.length : Int)).toNat).length ≤ 40 := by rw [List.length_take]; split <;> omega
    exact w_loop rfl hl (fun e he => by
      have h1 := hE e (List.mem_of_mem_take he)
      exact ⟨h1.1.2, Nat.le_trans h1.2.1 reach_max⟩) _ 0 0 [] (Nat.zero_add _) ⟨by omega, by omega, Int.le_refl _, by simp⟩ (by simp)
end Go.Proofs.Ytdkcjibedbjgjaa
