/-
  Own text Law7 of this claim: what functions of the given program compute, in plain Lean, and the proof; no condition.
-/
import Derived.Test.YteepckliibfnkaaLaw6
namespace Go.Proofs.Yteepckliibfnkaa
open Go.Fx Go.Sort
set_option linter.unusedVariables false

def st (l : List En) (i : Nat) : Bool := ((!((l.getD i default).f_Name == ([] : List UInt8)) && decide (((l.getD i default).f_Name.length : Int) ≤ 60)) && (i == 0 || decide ((l.getD (i - 1) default).f_Name < (l.getD i default).f_Name))) && vW (l.getD i default).f_Words
def vI (l : List En) : Nat → Nat → Bool
  | 0, _ => true
  | k + 1, i => st l i && vI l k (i + 1)
structure OkE (e : En) : Prop where
  w : e.f_Words.length ≤ 4000000000000000
  a : ∀ w ∈ e.f_Words, w.length ≤ 4000000000000000
  s0 : 0 ≤ e.f_Sum
  s1 : e.f_Sum < 4294967296
theorem pi_loop {l : List En} (hl : l.length ≤ 4000000000000000) (ho : ∀ e ∈ l, OkE e) : ∀ (k i : Nat), i + k = l.length →
    S_wordindex_valid_l1 none l (i : Int) = some (vI l k i && decide ((l.length : Int) ≤ 20))
  | 0, i, h => by
    have hi : i = l.length := by omega
    subst hi
    unfold S_wordindex_valid_l1
    refine loopM_out ?_
    unfold S_wordindex_valid_b1
    rw [if_neg (by simp)]
    unfold S_wordindex_valid_j1
    simp only [List.length_map]
    rfl
  | k + 1, i, h => by
    have hi : i < l.length := by omega
    have hoi := ho _ (List.getElem_mem hi)
    have hst : S_wordindex_valid_b1 none l (i : Int) = if st l i = true then some (.inl ((i + 1 : Nat) : Int)) else some (.inr false) := by
      unfold S_wordindex_valid_b1 st
      simp only [List.length_map, Int.toNat_natCast, getD_at hi]
      rw [if_pos (by simp; omega), if_pos (by omega), if_pos (by intro h2; simp only [Bool.and_eq_true, beq_iff_eq, decide_eq_true_eq] at h2; rw [W_in (by unfold inR; omega)]; omega), bytesLess_eq, validWords_eq hoi.w hoi.a]
      have hc : ((decide ((i : Int) > 0)) && !decide ((l.getD (W ((i : Int) - 1)).toNat default).f_Name < l[i].f_Name)) = !(i == 0 || decide ((l.getD (i - 1) default).f_Name < l[i].f_Name)) := by
        by_cases e : i = 0
        · subst e; simp
        · have hw' : (W ((i : Int) - 1)).toNat = i - 1 := by rw [W_in (by unfold inR; omega)]; omega
          rw [hw', decide_eq_true (by omega : (i : Int) > 0), show (i == 0) = false by simpa using e, Bool.true_and, Bool.false_or]
      rw [hc]
      have h60 : decide ((l[i].f_Name.length : Int) > 60) = !decide ((l[i].f_Name.length : Int) ≤ 60) := by rw [Bool.eq_iff_iff]; simp
      rw [h60, Wi (by omega)]
      cases l[i].f_Name == ([] : List UInt8) <;> cases decide ((l[i].f_Name.length : Int) ≤ 60) <;> cases (i == 0 || decide ((l.getD (i - 1) default).f_Name < l[i].f_Name)) <;> cases vW l[i].f_Words <;> rfl
    have hv : vI l (k + 1) i = (st l i && vI l k (i + 1)) := rfl
    unfold S_wordindex_valid_l1
    rw [hv]
    cases hs : st l i with
    | true =>
      rw [hs, if_pos rfl] at hst
      rw [loopM_inl hst, Bool.true_and]
      exact pi_loop hl ho k (i + 1) (by omega)
    | false =>
      rw [hs, if_neg (by simp)] at hst
      rw [Bool.false_and, Bool.false_and]
      exact loopM_out (x := some false) hst
theorem ri_loop {l : List En} (hl : l.length ≤ 4000000000000000) (ho : ∀ e ∈ l, OkE e) : ∀ (k i : Nat) (b : Bool), i + k = l.length →
    S_glossatorref3_ValidIndex_l1 none l b (i : Int) = some (b && vI l k i)
  | 0, i, b, h => by
    have hi : i = l.length := by omega
    subst hi
    unfold S_glossatorref3_ValidIndex_l1
    rw [show (b && vI l 0 l.length) = b from Bool.and_true _]
    refine loopM_out ?_
    unfold S_glossatorref3_ValidIndex_b1
    rw [if_neg (by simp)]
    rfl
  | k + 1, i, b, h => by
    have hi : i < l.length := by omega
    have hoi := ho _ (List.getElem_mem hi)
    unfold S_glossatorref3_ValidIndex_l1
    rw [show vI l (k + 1) i = (st l i && vI l k (i + 1)) from rfl, ← Bool.and_assoc, loopM_inl (s' := (b && st l i, ((i + 1 : Nat) : Int))) ?_]
    · exact ri_loop hl ho k (i + 1) _ (by omega)
    · unfold S_glossatorref3_ValidIndex_b1 st
      simp only [List.length_map, Int.toNat_natCast, getD_at hi]
      rw [if_pos (by simp; omega), if_pos (by omega), if_pos (by intro h2; simp only [Bool.and_eq_true, beq_iff_eq, beq_eq_false_iff_ne, ne_eq] at h2; rw [W_in (by unfold inR; omega)]; omega), bytesLess_eq, rvalidWords_eq hoi.w hoi.a]
      have hc : (((i : Int) == 0) || decide ((l.getD (W ((i : Int) - 1)).toNat default).f_Name < l[i].f_Name)) = (i == 0 || decide ((l.getD (i - 1) default).f_Name < l[i].f_Name)) := by
        by_cases e : i = 0
        · subst e; simp
        · have hw' : (W ((i : Int) - 1)).toNat = i - 1 := by rw [W_in (by unfold inR; omega)]; omega
          rw [hw', show (i == 0) = false by simpa using e, show ((i : Int) == 0) = false by simpa using e]
      rw [hc, Wi (by omega)]
      cases b <;> cases l[i].f_Name == ([] : List UInt8) <;> cases decide ((l[i].f_Name.length : Int) ≤ 60) <;> cases (i == 0 || decide ((l.getD (i - 1) default).f_Name < l[i].f_Name)) <;> cases vW l[i].f_Words <;> rfl
def vX (l : List En) : Bool := vI l l.length 0 && decide ((l.length : Int) ≤ 20)
theorem valid_eq {l : List En} (hl : l.length ≤ 4000000000000000) (ho : ∀ e ∈ l, OkE e) : S_wordindex_valid none l = some (vX l) := pi_loop hl ho l.length 0 (by omega)
theorem rvalid_eq {l : List En} (hl : l.length ≤ 4000000000000000) (ho : ∀ e ∈ l, OkE e) : S_glossatorref3_ValidIndex none l = some (vX l) := by
  unfold S_glossatorref3_ValidIndex
  simp only [List.length_map]
  refine (ri_loop hl ho l.length 0 _ (by omega)).trans ?_
  rw [Bool.and_comm]; rfl
structure GoodE (e : En) : Prop where
  sm : Sm e
  n0 : e.f_Name ≠ []
  n1 : e.f_Name.length ≤ 60
theorem vX_good {l : List En} (ho : ∀ e ∈ l, OkE e) (h : vX l = true) : l.length ≤ 20 ∧ ∀ e ∈ l, GoodE e := by
  unfold vX at h
  rw [Bool.and_eq_true, decide_eq_true_eq] at h
  refine ⟨by omega, ?_⟩
  have key : ∀ (k i : Nat), i + k = l.length → vI l k i = true → ∀ j (hj : j < l.length), i ≤ j → st l j = true := by
    intro k
    induction k with
    | zero => intro i hi _ j hj h1; omega
    | succ k ih =>
      intro i hi hv j hj h1
      rw [show vI l (k + 1) i = (st l i && vI l k (i + 1)) from rfl, Bool.and_eq_true] at hv
      by_cases e : i = j
      · subst e; exact hv.1
      · exact ih (i + 1) (by omega) hv.2 j hj (by omega)
  intro e he
  obtain ⟨j, hj, rfl⟩ := List.getElem_of_mem he
  have hs := key l.length 0 (by omega) h.1 j hj (Nat.zero_le _)
  have hoj := ho _ he
  unfold st at hs
  rw [getD_at hj] at hs
  simp only [Bool.and_eq_true, Bool.not_eq_true', decide_eq_true_eq] at hs
  obtain ⟨⟨⟨h1, h2⟩, _⟩, h3⟩ := hs
  obtain ⟨w1, w2⟩ := vW_sm hoj.a h3
  exact ⟨⟨w1, hoj.s0, hoj.s1, w2⟩, fun e => by rw [e] at h1; exact absurd h1 (by decide), by omega⟩

def rec1 (e : En) : G_QRecord := ⟨e.f_Name, encS e, false⟩
def fr (e : En) : List UInt8 := Fr (pay (rec1 e))
theorem fr_len {e : En} (h : GoodE e) : (fr e).length ≤ 2100 := by
  have h1 := encS_len h.sm
  have h2 := h.n1
  unfold fr
  rw [Fr_len]
  unfold pay rec1
  simp only [List.length_append, List.length_map, List.length_cons, List.length_nil]
  omega
theorem append_fr {log : List UInt8} {e : En} (hl : log.length ≤ 1000000) (h : GoodE e) :
    S_journal_Append none log (G_QRecord.mk e.f_Name (encS e) false) = some (if ((log.length + (fr e).length : Nat) : Int) > 40000 then ([], 2) else (log ++ fr e, 0)) := by
  have h1 := encS_len h.sm
  have h2 := h.n1
  refine appended (r := rec1 e) (by omega) ?_ h2 (by show (encS e).length ≤ 3000; omega)
  unfold S_journal_validate rec1
  rw [if_neg (by simp [h.n0]), if_neg (by simp; omega)]
theorem frame_fr {e : En} (h : GoodE e) : S_glossatorref3_Frame none (G_QRecord.mk e.f_Name (encS e) false) = some (fr e) := by
  have h1 := encS_len h.sm
  exact rframe (r := rec1 e) h.n1 (by show (encS e).length ≤ 3000; omega)
def sv : List UInt8 → List En → List UInt8 × Int
  | log, [] => (log, 0)
  | log, e :: l => if ((log.length + (fr e).length : Nat) : Int) > 40000 then ([], 2) else sv (log ++ fr e) l
theorem sv_eq : ∀ (l : List En) (log : List UInt8), log.length ≤ 40000 → sv log l = if (log ++ l.flatMap fr).length > 40000 then ([], 2) else (log ++ l.flatMap fr, 0)
  | [], log, h => by unfold sv; rw [List.flatMap_nil, List.append_nil, if_neg (by omega)]
  | e :: l, log, h => by
    unfold sv
    rw [List.flatMap_cons, ← List.append_assoc]
    by_cases hc : ((log.length + (fr e).length : Nat) : Int) > 40000
    · rw [if_pos hc, if_pos (by simp only [List.length_append]; omega)]
    · rw [if_neg hc]
      exact sv_eq l (log ++ fr e) (by rw [List.length_append]; omega)
theorem sv_loop {l : List En} (hl : l.length ≤ 100) (hg : ∀ e ∈ l, GoodE e) : ∀ (k i : Nat) (log : List UInt8), i + k = l.length → log.length ≤ 40000 →
    S_wordindex_Save_l1 none l log (i : Int) = some (sv log (l.drop i))
  | 0, i, log, h, hb => by
    have hi : i = l.length := by omega
    subst hi
    unfold S_wordindex_Save_l1
    rw [List.drop_length]
    refine loopM_out ?_
    unfold S_wordindex_Save_b1
    rw [if_neg (by simp)]
    rfl
  | k + 1, i, log, h, hb => by
    have hi : i < l.length := by omega
    have hgi := hg _ (List.getElem_mem hi)
    unfold S_wordindex_Save_l1
    rw [List.drop_eq_getElem_cons hi]
    conv => rhs; unfold sv
    by_cases hc : ((log.length + (fr l[i]).length : Nat) : Int) > 40000
    · rw [if_pos hc]
      refine loopM_out ?_
      unfold S_wordindex_Save_b1
      simp only [List.length_map, Int.toNat_natCast, getD_at hi]
      rw [if_pos (by simp; omega), if_pos (by omega), show (⟨l[i].f_Name, l[i].f_Sum, l[i].f_Words⟩ : En) = l[i] from rfl, encode_eq hgi.sm, Option.bind_some, append_fr (by omega) hgi, if_pos hc, Option.bind_some, if_pos (by decide)]
    · rw [if_neg hc, loopM_inl (s' := (log ++ fr l[i], ((i + 1 : Nat) : Int))) ?_]
      · exact sv_loop hl hg k (i + 1) _ (by omega) (by rw [List.length_append]; omega)
      · unfold S_wordindex_Save_b1
        simp only [List.length_map, Int.toNat_natCast, getD_at hi]
        rw [if_pos (by simp; omega), if_pos (by omega), show (⟨l[i].f_Name, l[i].f_Sum, l[i].f_Words⟩ : En) = l[i] from rfl, encode_eq hgi.sm, Option.bind_some, append_fr (by omega) hgi, if_neg hc, Option.bind_some, if_neg (by simp), Wi (by omega)]
theorem ls_loop {l : List En} (hl : l.length ≤ 100) (hg : ∀ e ∈ l, GoodE e) {v2 : List UInt8 × Int} : ∀ (k i : Nat) (t : List UInt8), i + k = l.length → t.length ≤ 2100 * i →
    S_glossatorlaw3_WordindexSave_l1 none l v2 t (i : Int) = S_glossatorlaw3_WordindexSave_j1 none v2 (t ++ (l.drop i).flatMap fr)
  | 0, i, t, h, hb => by
    have hi : i = l.length := by omega
    subst hi
    unfold S_glossatorlaw3_WordindexSave_l1
    rw [List.drop_length, List.flatMap_nil, List.append_nil]
    refine loopM_out ?_
    unfold S_glossatorlaw3_WordindexSave_b1
    rw [if_neg (by simp)]
  | k + 1, i, t, h, hb => by
    have hi : i < l.length := by omega
    have hgi := hg _ (List.getElem_mem hi)
    have hf := fr_len hgi
    unfold S_glossatorlaw3_WordindexSave_l1
    rw [List.drop_eq_getElem_cons hi, List.flatMap_cons, ← List.append_assoc, loopM_inl (s' := (t ++ fr l[i], ((i + 1 : Nat) : Int))) ?_]
    · exact ls_loop hl hg k (i + 1) _ (by omega) (by rw [List.length_append]; omega)
    · unfold S_glossatorlaw3_WordindexSave_b1
      simp only [List.length_map, Int.toNat_natCast, getD_at hi]
      rw [if_pos (by simp; omega), if_pos (by omega), show (⟨l[i].f_Name, l[i].f_Sum, l[i].f_Words⟩ : En) = l[i] from rfl, entryValue_eq hgi.sm, Option.bind_some, frame_fr hgi, Option.bind_some, if_pos (by omega), Wi (by omega)]
theorem save_law {l : List En} (hl : l.length ≤ 4000000000000000) (ho : ∀ e ∈ l, OkE e) : S_glossatorlaw3_WordindexSave none l = some true := by
  unfold S_glossatorlaw3_WordindexSave S_wordindex_Save
  rw [example_true, Option.bind_some, if_neg (by simp), valid_eq hl ho, rvalid_eq hl ho]
  simp only [Option.bind_some]
  cases hv : vX l with
  | false =>
    rw [if_pos (by simp), Option.bind_some]
    rfl
  | true =>
    obtain ⟨h1, h2⟩ := vX_good ho hv
    rw [if_neg (by simp)]
    have hs := sv_loop (l := l) (by omega) h2 l.length 0 [] (by omega) (by simp)
    rw [List.drop_zero, sv_eq l [] (by simp)] at hs
    rw [show (0 : Int) = ((0 : Nat) : Int) from rfl, hs, Option.bind_some, if_neg (by simp)]
    refine (ls_loop (l := l) (by omega) h2 l.length 0 [] (by omega) (by simp)).trans ?_
    rw [List.drop_zero]
    generalize ([] : List UInt8) ++ l.flatMap fr = t
    unfold S_glossatorlaw3_WordindexSave_j1
    rw [example_true]
    by_cases hc : t.length > 40000
    · rw [if_pos hc, if_pos (by simp; omega), Option.bind_some]
      rfl
    · rw [if_neg hc, if_neg (by simp; omega), Option.bind_some]
      simp
end Go.Proofs.Yteepckliibfnkaa
