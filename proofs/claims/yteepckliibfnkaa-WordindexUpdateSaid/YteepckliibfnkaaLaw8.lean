/-
  Own text Law8 of this claim: what functions of the given program compute, in plain Lean, and the proof; no condition.
-/
import Derived.Test.YteepckliibfnkaaLaw7
namespace Go.Proofs.Yteepckliibfnkaa
open Go.Fx Go.Sort
set_option linter.unusedVariables false

theorem ie_ins {e : En} : ∀ {l : List En} {i : Nat}, i ≤ l.length → (∀ j (h : j < l.length), j < i → l[j].f_Name < e.f_Name) → (∀ j (h : j < l.length), i ≤ j → ¬ l[j].f_Name < e.f_Name ∧ l[j].f_Name ≠ e.f_Name) → ie e false l = l.take i ++ e :: l.drop i
  | [], i, h, _, _ => by
    have : i = 0 := by simpa using h
    subst this; rfl
  | x :: l, 0, _, _, h2 => by
    have hx : ¬ x.f_Name < e.f_Name ∧ x.f_Name ≠ e.f_Name := h2 0 (by simp) (Nat.le_refl _)
    have hr : ∀ y ∈ l, y.f_Name ≠ e.f_Name := fun y hy => by
      obtain ⟨j, hj, rfl⟩ := List.getElem_of_mem hy
      exact (h2 (j + 1) (by simp; omega) (by omega)).2
    unfold ie
    rw [decide_eq_true hx.1, if_pos (show (!false && true) = true from rfl), if_neg hx.2, Bool.false_or, ie_true hr]
    rfl
  | x :: l, i + 1, h, h1, h2 => by
    have hx : x.f_Name < e.f_Name := h1 0 (by simp) (by omega)
    have hne : x.f_Name ≠ e.f_Name := fun h => by rw [h] at hx; exact List.lt_irrefl _ hx
    have ih := ie_ins (e := e) (l := l) (i := i) (by simpa using h) (fun j hj hji => h1 (j + 1) (by simp; omega) (by omega)) (fun j hj hji => h2 (j + 1) (by simp; omega) (by omega))
    unfold ie
    rw [decide_eq_false (fun hh => hh hx), if_neg (by simp), if_neg hne, Bool.false_or, ih]
    rfl
theorem ie_set {e : En} : ∀ {l : List En} {i : Nat} (hi : i < l.length), l[i].f_Name = e.f_Name → (∀ j (h : j < l.length), j < i → l[j].f_Name < e.f_Name) → (∀ j (h : j < l.length), i < j → l[j].f_Name ≠ e.f_Name) → ie e false l = l.set i e
  | [], i, h, _, _, _ => by simp at h
  | x :: l, 0, _, h0, _, h2 => by
    have hx : x.f_Name = e.f_Name := h0
    have hnl : ¬ x.f_Name < e.f_Name := fun h => by rw [hx] at h; exact List.lt_irrefl _ h
    have hr : ∀ y ∈ l, y.f_Name ≠ e.f_Name := fun y hy => by
      obtain ⟨j, hj, rfl⟩ := List.getElem_of_mem hy
      exact h2 (j + 1) (by simp; omega) (by omega)
    unfold ie
    rw [decide_eq_true hnl, if_pos (show (!false && true) = true from rfl), if_pos hx, Bool.false_or, ie_true hr]
    rfl
  | x :: l, i + 1, h, h0, h1, h2 => by
    have hx : x.f_Name < e.f_Name := h1 0 (by simp) (by omega)
    have hne : x.f_Name ≠ e.f_Name := fun h => by rw [h] at hx; exact List.lt_irrefl _ hx
    have ih := ie_set (e := e) (l := l) (i := i) (by simpa using h) h0 (fun j hj hji => h1 (j + 1) (by simp; omega) (by omega)) (fun j hj hji => h2 (j + 1) (by simp; omega) (by omega))
    unfold ie
    rw [decide_eq_false (fun hh => hh hx), if_neg (by simp), if_neg hne, Bool.false_or, ih]
    rfl
theorem vX_info {l : List En} (h : vX l = true) : l.length ≤ 20 ∧ (l.Pairwise fun x y => x.f_Name < y.f_Name) ∧ ∀ e ∈ l, e.f_Words.length ≤ 400 := by
  unfold vX at h
  rw [Bool.and_eq_true, decide_eq_true_eq] at h
  have key : ∀ (k i : Nat), i + k = l.length → vI l k i = true → ∀ j (hj : j < l.length), i ≤ j → st l j = true := by
    intro k
    induction k with
    | zero => intro i hi _ j hj h1; omega
    | succ k ih =>
      intro i hi hv j hj h1
      rw [show vI l (k + 1) i = (st l i && vI l k (i + 1)) from rfl, Bool.and_eq_true] at hv
      by_cases e : i = j
      · subst e; exact hv.1
      · exact ih (i + 1) (by omega) hv.2 j hj (by omega)
  have hs := fun j hj => key l.length 0 (by omega) h.1 j hj (Nat.zero_le _)
  refine ⟨by omega, ?_, fun e he => ?_⟩
  · have adj : ∀ j (hj : j + 1 < l.length), l[j].f_Name < l[j + 1].f_Name := fun j hj => by
      have := hs (j + 1) hj
      unfold st at this
      rw [getD_at hj, Nat.add_sub_cancel, getD_at (show j < l.length by omega)] at this
      simp only [Bool.and_eq_true, Bool.or_eq_true, decide_eq_true_eq] at this
      obtain ⟨⟨_, h1⟩, _⟩ := this
      rcases h1 with h1 | h1
      · simp at h1
      · exact h1
    have all : ∀ j (hj : j < l.length) i (hi : i < j), l[i].f_Name < l[j].f_Name := by
      intro j
      induction j with
      | zero => intro _ i hi; omega
      | succ j ih =>
        intro hj i hi
        by_cases e : i = j
        · subst e; exact adj _ hj
        · exact List.lt_trans (ih (by omega) i (by omega)) (adj j hj)
    exact List.pairwise_iff_getElem.2 fun i j hi hj hij => all j hj i hij
  · obtain ⟨j, hj, rfl⟩ := List.getElem_of_mem he
    have := hs j hj
    unfold st vW at this
    rw [getD_at hj] at this
    simp only [Bool.and_eq_true, decide_eq_true_eq] at this
    omega
theorem ie_pos {l : List En} {e : En} {i : Nat} (hp : l.Pairwise fun x y => x.f_Name < y.f_Name) (h : Pos l e i) : ie e false l = if fnd l e i = true then l.set i e else l.take i ++ e :: l.drop i := by
  unfold fnd
  by_cases hf : ∃ h : i < l.length, l[i].f_Name = e.f_Name
  · rw [decide_eq_true hf, if_pos rfl]
    obtain ⟨hi, he⟩ := hf
    refine ie_set hi he h.lo fun j hj hij hh => ?_
    have := List.pairwise_iff_getElem.1 hp i j hi hj hij
    rw [he, hh] at this
    exact List.lt_irrefl _ this
  · rw [decide_eq_false hf, if_neg (by simp)]
    refine ie_ins h.le h.lo fun j hj hij => ⟨h.hi j hj hij, fun hh => ?_⟩
    by_cases e1 : i = j
    · subst e1; exact hf ⟨hj, hh⟩
    · have h1 := List.pairwise_iff_getElem.1 hp i j (by omega) hj (by omega)
      rw [hh] at h1
      exact h.hi i (by omega) (Nat.le_refl _) h1

def upd0 (l : List En) (d : Do) : List En × Int := if vX l = true then if chk [d] = 0 then (if (ie (entryOf d) false l).length > 20 then ([], 2) else (ie (entryOf d) false l, 0)) else ([], chk [d]) else ([], 3)
theorem update_eq {l : List En} {d : Do} (hl : l.length * 48 ≤ 140737488355328) (ho : ∀ e ∈ l, OkE e) : S_wordindex_Update none l d = some (upd0 l d) := by
  unfold S_wordindex_Update upd0
  rw [valid_eq (by omega) ho, Option.bind_some]
  by_cases hv : vX l = true
  · obtain ⟨hv1, hv2, hv3⟩ := vX_info hv
    rw [if_neg (by simp [hv]), if_pos hv, validate_eq (by simp), Option.bind_some]
    by_cases hc : chk [d] = 0
    · obtain ⟨_, hc2, _⟩ := chk_ok hc
      rw [if_neg (by simp [hc]), if_pos hc, newEntry_eq (Nat.le_trans (hc2 d (List.mem_singleton.2 rfl)) (by omega)), Option.bind_some]
      obtain ⟨i, hpos, hbs⟩ := bs_eq (e := entryOf d) (by omega) hv2
      have hie := ie_pos hv2 hpos
      rw [hbs, Option.bind_some]
      have hcl := clone_eq hl (fun b hb => Nat.le_trans (hv3 b hb) (by omega))
      have hle := hpos.le
      cases hf : fnd l (entryOf d) i with
      | true =>
        have hi : i < l.length := by
          unfold fnd at hf
          rw [decide_eq_true_eq] at hf
          exact hf.1
        rw [hf, if_pos rfl] at hie
        rw [hie, if_neg (by simp), hcl, Option.bind_some, if_pos rfl, if_pos (by omega), if_pos (by simpa using hi), if_neg (by rw [List.length_set]; omega)]
        unfold S_wordindex_Update_j1
        simp
      | false =>
        rw [hf, if_neg (by simp)] at hie
        have hlen : (l.take i ++ entryOf d :: l.drop i).length = l.length + 1 := by simp; omega
        rw [hie, hlen]
        by_cases h20 : l.length ≥ 20
        · rw [if_pos (by simp; omega), if_pos (by omega)]
        · rw [if_neg (by simp; omega), hcl, Option.bind_some, if_neg (by simp), if_neg (by omega)]
          unfold S_slices_Insert_api_QIndexEntryO insT
          simp only [Int.toNat_natCast]
          rw [if_pos (by omega), Option.bind_some]
          rfl
    · rw [if_pos (by simpa using hc), if_neg hc]
  · rw [if_pos (by simp [hv]), if_neg hv]

noncomputable abbrev gR (nm : List UInt8) : Unit → En → Option (Bool × Unit) := fun (s : Unit) (x : G_QIndexEntry) => (S_wordindex_Remove_1c none nm x).map fun o => (o, ())
theorem if_loop {l : List En} {nm : List UInt8} (hl : l.length ≤ 4000000000000) : ∀ (k i : Nat), i + k = l.length →
    ∃ r : Int, S_slices_IndexFunc_api_QIndexEntry_l1 (gR nm) none l (i : Int) () = some (r, ()) ∧ ((r = -1 ∧ ∀ x ∈ l.drop i, x.f_Name ≠ nm) ∨ ∃ j : Nat, r = (j : Int) ∧ ∃ h : j < l.length, l[j].f_Name = nm)
  | 0, i, h => by
    have hi : i = l.length := by omega
    subst hi
    refine ⟨-1, ?_, .inl ⟨rfl, fun x hx => by rw [List.drop_length] at hx; cases hx⟩⟩
    unfold S_slices_IndexFunc_api_QIndexEntry_l1
    refine loopM_out ?_
    unfold S_slices_IndexFunc_api_QIndexEntry_b1
    rw [if_neg (by simp)]
    rfl
  | k + 1, i, h => by
    have hi : i < l.length := by omega
    unfold S_slices_IndexFunc_api_QIndexEntry_l1
    by_cases hx : l[i].f_Name = nm
    · refine ⟨i, ?_, .inr ⟨i, rfl, hi, hx⟩⟩
      refine loopM_out ?_
      unfold S_slices_IndexFunc_api_QIndexEntry_b1
      simp only [List.length_map, Int.toNat_natCast, getD_at hi]
      rw [if_pos (by simp; omega), if_pos (by omega)]
      simp only [gR, S_wordindex_Remove_1c, Option.map_some, Option.bind_some]
      rw [if_pos (by simpa using hx)]
    · obtain ⟨r, h1, h2⟩ := if_loop (nm := nm) hl k (i + 1) (by omega)
      refine ⟨r, ?_, h2.imp (fun ⟨e, h3⟩ => ⟨e, fun x hx' => ?_⟩) id⟩
      · rw [loopM_inl (s' := (((i + 1 : Nat) : Int), ())) ?_]
        · exact h1
        · unfold S_slices_IndexFunc_api_QIndexEntry_b1
          simp only [List.length_map, Int.toNat_natCast, getD_at hi]
          rw [if_pos (by simp; omega), if_pos (by omega)]
          simp only [gR, S_wordindex_Remove_1c, Option.map_some, Option.bind_some]
          rw [if_neg (by simpa using hx), Wi (by omega)]
      · rw [List.drop_eq_getElem_cons hi, List.mem_cons] at hx'
        rcases hx' with rfl | hx'
        · exact hx
        · exact h3 x hx'
def rest (nm : List UInt8) (l : List En) : List En := l.filter fun x => !(x.f_Name == nm)
theorem rest_at {l : List En} {nm : List UInt8} (hp : l.Pairwise fun x y => x.f_Name < y.f_Name) {j : Nat} (hj : j < l.length) (h : l[j].f_Name = nm) : rest nm l = l.take j ++ l.drop (j + 1) := by
  unfold rest
  have e : l = l.take j ++ l[j] :: l.drop (j + 1) := by rw [← List.drop_eq_getElem_cons hj, List.take_append_drop]
  have h1 : ∀ x ∈ l.take j, (!(x.f_Name == nm)) = true := fun x hx => by
    obtain ⟨q, hq, rfl⟩ := List.getElem_of_mem hx
    have hq' : q < j ∧ q < l.length := by rw [List.length_take] at hq; omega
    have := List.pairwise_iff_getElem.1 hp q j hq'.2 hj hq'.1
    rw [List.getElem_take]
    have hne : l[q].f_Name ≠ nm := fun e => by rw [e, h] at this; exact List.lt_irrefl _ this
    simpa using hne
  have h2 : ∀ x ∈ l.drop (j + 1), (!(x.f_Name == nm)) = true := fun x hx => by
    obtain ⟨q, hq, rfl⟩ := List.getElem_of_mem hx
    have hq' : j + 1 + q < l.length := by simp at hq; omega
    have := List.pairwise_iff_getElem.1 hp j (j + 1 + q) hj hq' (by omega)
    rw [List.getElem_drop]
    have hne : l[j + 1 + q].f_Name ≠ nm := fun e => by rw [e, h] at this; exact List.lt_irrefl _ this
    simpa using hne
  conv => lhs; rw [e]
  rw [List.filter_append, List.filter_cons, if_neg (by simpa using h), List.filter_eq_self.2 h1, List.filter_eq_self.2 h2]
def rem0 (l : List En) (nm : List UInt8) : List En × Int := if vX l = true then (if (l.any fun x => x.f_Name == nm) = true then (rest nm l, 0) else ([], 5)) else ([], 3)
theorem remove_eq {l : List En} {nm : List UInt8} (hl : l.length * 48 ≤ 140737488355328) (ho : ∀ e ∈ l, OkE e) : S_wordindex_Remove none l nm = some (rem0 l nm) := by
  unfold S_wordindex_Remove rem0
  rw [valid_eq (by omega) ho, Option.bind_some]
  by_cases hv : vX l = true
  · obtain ⟨hv1, hv2, hv3⟩ := vX_info hv
    rw [if_neg (by simp [hv]), if_pos hv]
    unfold S_slices_IndexFunc_api_QIndexEntry
    obtain ⟨r, h1, h2⟩ := if_loop (nm := nm) (l := l) (by omega) l.length 0 (by omega)
    rw [show (0 : Int) = ((0 : Nat) : Int) from rfl, h1, Option.bind_some]
    rcases h2 with ⟨rfl, h2⟩ | ⟨j, rfl, hj, h2⟩
    · rw [if_pos (by decide), if_neg]
      rw [List.drop_zero] at h2
      rw [List.any_eq_true]
      rintro ⟨x, hx, hn⟩
      exact h2 x hx (by simpa using hn)
    · have hcl := clone_eq hl (fun b hb => Nat.le_trans (hv3 b hb) (by omega))
      rw [if_neg (by simp), hcl, Option.bind_some, if_pos (List.any_eq_true.2 ⟨l[j], List.getElem_mem hj, by simpa using h2⟩), rest_at hv2 hj h2]
      unfold S_slices_Delete_api_QIndexEntryO delT
      rw [Wi (by omega)]
      simp only [Int.toNat_natCast]
      rw [if_pos (by omega), Option.bind_some]
  · rw [if_pos (by simp [hv]), if_neg hv]
end Go.Proofs.Yteepckliibfnkaa
