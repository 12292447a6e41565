/-
  Own text Law7 of this claim: what functions of the given program compute, in plain Lean, and the proof; no condition.
-/
import Derived.Test.YteepckliibfnkaaLaw6
namespace Go.Proofs.Yteepckliibfnkaa
open Go.Fx Go.Sort
set_option linter.unusedVariables false

theorem cloneS {l : List (List UInt8)} (hl : l.length ≤ 8796093022208) : S_slices_Clone_stringE none l = some l := by
  cases l with
  | nil => rfl
  | cons x r =>
    show S_slices_Clone_string none (x :: r) = _
    unfold S_slices_Clone_string
    rw [if_pos (by simp), if_pos (by simp only [List.nil_append, List.length_map]; omega)]
    rfl
theorem clone_loop {l : List En} (hl : l.length ≤ 4000000000000) (hb : ∀ b ∈ l, b.f_Words.length ≤ 8796093022208) : ∀ (k i : Nat), i + k = l.length → S_wordindex_clone_l1 none l (i : Int) l = some l
  | 0, i, h => by
    have hi : i = l.length := by omega
    subst hi
    unfold S_wordindex_clone_l1
    refine loopM_out ?_
    unfold S_wordindex_clone_b1
    rw [if_neg (by simp)]
    rfl
  | k + 1, i, h => by
    have hi : i < l.length := by omega
    unfold S_wordindex_clone_l1
    rw [loopM_inl (s' := (((i + 1 : Nat) : Int), l)) ?_]
    · exact clone_loop hl hb k (i + 1) (by omega)
    · unfold S_wordindex_clone_b1
      simp only [Int.toNat_natCast, Nat.zero_add, getD_at hi]
      rw [if_pos (by simp; omega), if_pos (by omega), if_pos hi, cloneS (hb _ (List.getElem_mem hi)), Option.bind_some, if_pos (by omega), if_pos hi, Wi (by omega)]
      have e : l.set i (G_QIndexEntry.mk l[i].f_Name l[i].f_Sum l[i].f_Words) = l := List.set_getElem_self hi
      rw [e]
theorem clone_eq {l : List En} (hl : l.length * 48 ≤ 140737488355328) (hb : ∀ b ∈ l, b.f_Words.length ≤ 8796093022208) : S_wordindex_clone none l = some l := by
  unfold S_wordindex_clone S_slices_Clone_api_QIndexEntryO cloT
  rw [if_pos hl, Option.bind_some]
  exact clone_loop (by omega) hb l.length 0 (by omega)

theorem half {a b : Nat} (h : a + b ≤ 9000000000000) : W ((IntKind.wrap .u64 (W ((a : Int) + (b : Int)))).fdiv (2 ^ (min (1 : Int).toNat (IntKind.bits .u64)))) = (((a + b) / 2 : Nat) : Int) := by
  rw [W_in (x := (a : Int) + (b : Int)) (by unfold inR; omega), wrapU .u64 rfl]
  have e : ((2 : Int) ^ (min (1 : Int).toNat (IntKind.bits .u64))) = 2 := by simp [IntKind.bits]
  have e2 : ((2 : Int) ^ (IntKind.bits .u64)) = 18446744073709551616 := by simp [IntKind.bits]
  rw [e, e2, Int.emod_eq_of_lt (by omega) (by omega), Int.fdiv_eq_ediv_of_nonneg _ (by omega), W_in (by unfold inR; omega)]
  omega
theorem cmpB_eq : ∀ (a b : List UInt8), Go.Lib.compareBytes a b = 0 ↔ a = b
  | [], [] => by simp [Go.Lib.compareBytes]
  | [], _ :: _ => by simp [Go.Lib.compareBytes]
  | _ :: _, [] => by simp [Go.Lib.compareBytes]
  | a :: s, b :: t => by
    have ih := cmpB_eq s t
    unfold Go.Lib.compareBytes
    by_cases h1 : a < b
    · have : a ≠ b := fun e => by subst e; exact absurd h1 (UInt8.lt_irrefl _)
      simp [h1, this]
    · by_cases h2 : b < a
      · have : a ≠ b := fun e => by subst e; exact h1 h2
        simp [h1, h2, this]
      · have : a = b := UInt8.le_antisymm (UInt8.not_lt.1 h2) (UInt8.not_lt.1 h1)
        subst this
        simp [h1, ih]
theorem cmp_eq (a b : En) : S_wordindex_compareNamesc none a b = some (Go.Lib.compareBytes a.f_Name b.f_Name) := rfl
structure Pos (l : List En) (e : En) (i : Nat) : Prop where
  le : i ≤ l.length
  lo : ∀ j (h : j < l.length), j < i → l[j].f_Name < e.f_Name
  hi : ∀ j (h : j < l.length), i ≤ j → ¬ l[j].f_Name < e.f_Name
def fnd (l : List En) (e : En) (i : Nat) : Bool := decide (∃ h : i < l.length, l[i].f_Name = e.f_Name)
noncomputable abbrev gC : Unit → (En × En) → Option (Int × Unit) := fun (s : Unit) (x : (En × En)) => (S_wordindex_compareNamesc none x.1 x.2).map fun o => (o, ())
theorem bs_loop {l : List En} {e : En} (hl : l.length ≤ 4000000000000) (hp : l.Pairwise fun x y => x.f_Name < y.f_Name) : ∀ (N a b : Nat), b - a ≤ N → a ≤ b → b ≤ l.length →
    (∀ j (h : j < l.length), j < a → l[j].f_Name < e.f_Name) → (∀ j (h : j < l.length), b ≤ j → ¬ l[j].f_Name < e.f_Name) →
    ∃ i, Pos l e i ∧ S_slices_BinarySearchFunc_api_QIndexEntry_l1 gC none l e (a : Int) () (b : Int) = some ((i : Int), fnd l e i, ()) := by
  intro N
  have stop : ∀ a, a ≤ l.length → (∀ j (h : j < l.length), j < a → l[j].f_Name < e.f_Name) → (∀ j (h : j < l.length), a ≤ j → ¬ l[j].f_Name < e.f_Name) →
      ∃ i, Pos l e i ∧ S_slices_BinarySearchFunc_api_QIndexEntry_l1 gC none l e (a : Int) () (a : Int) = some ((i : Int), fnd l e i, ()) := by
    intro a ha h1 h2
    refine ⟨a, ⟨ha, h1, h2⟩, ?_⟩
    unfold S_slices_BinarySearchFunc_api_QIndexEntry_l1
    refine loopM_out ?_
    unfold S_slices_BinarySearchFunc_api_QIndexEntry_b1
    rw [if_neg (by simp)]
    congr 1
    unfold S_slices_BinarySearchFunc_api_QIndexEntry_j1 S_slices_BinarySearchFunc_api_QIndexEntry_j2
    simp only [List.length_map, Int.toNat_natCast]
    by_cases hal : a < l.length
    · rw [if_pos (by intro _; omega), if_pos (by simp; omega), getD_at hal]
      simp only [gC, cmp_eq, Option.map_some, Option.bind_some]
      congr 3
      unfold fnd
      rw [Bool.eq_iff_iff, Bool.and_eq_true, decide_eq_true_eq, decide_eq_true_eq, beq_iff_eq]
      constructor
      · rintro ⟨_, h⟩
        exact ⟨hal, (cmpB_eq _ _).1 h⟩
      · rintro ⟨_, h⟩
        exact ⟨by omega, (cmpB_eq _ _).2 h⟩
    · rw [if_pos (by intro h; simp at h; omega), if_neg (by simp; omega)]
      congr 3
      unfold fnd
      rw [Bool.eq_iff_iff, Bool.and_eq_true, decide_eq_true_eq, decide_eq_true_eq]
      constructor
      · rintro ⟨h, _⟩; omega
      · rintro ⟨h, _⟩; omega
  induction N with
  | zero =>
    intro a b hN hab hb h1 h2
    have he : b = a := by omega
    subst he
    exact stop b hb h1 h2
  | succ N ih =>
    intro a b hN hab hb h1 h2
    by_cases he : a = b
    · have he' : b = a := he.symm
      subst he'
      exact stop b hb h1 h2
    · have hm : (a + b) / 2 < l.length := by omega
      by_cases hc : l[(a + b) / 2].f_Name < e.f_Name
      · obtain ⟨i, k1, k2⟩ := ih ((a + b) / 2 + 1) b (by omega) (by omega) hb (fun j hj hj2 => by
          by_cases e1 : j = (a + b) / 2
          · subst e1; exact hc
          · exact List.lt_trans (List.pairwise_iff_getElem.1 hp j _ hj hm (by omega)) hc) h2
        refine ⟨i, k1, ?_⟩
        unfold S_slices_BinarySearchFunc_api_QIndexEntry_l1
        rw [loopM_inl (s' := ((((a + b) / 2 + 1 : Nat) : Int), (), (b : Int))) ?_]
        · exact k2
        · unfold S_slices_BinarySearchFunc_api_QIndexEntry_b1
          simp only [half (show a + b ≤ 9000000000000 by omega), List.length_map, Int.toNat_natCast, getD_at hm]
          rw [if_pos (by simp; omega), if_pos (by omega)]
          simp only [gC, cmp_eq, Option.map_some, Option.bind_some]
          rw [if_pos (by simpa using (cmpB_lt _ _).2 hc), Wi (by omega)]
      · obtain ⟨i, k1, k2⟩ := ih a ((a + b) / 2) (by omega) (by omega) (by omega) h1 (fun j hj hj2 h => by
          by_cases e1 : j = (a + b) / 2
          · subst e1; exact hc h
          · exact hc (List.lt_trans (List.pairwise_iff_getElem.1 hp _ j hm hj (by omega)) h))
        refine ⟨i, k1, ?_⟩
        unfold S_slices_BinarySearchFunc_api_QIndexEntry_l1
        rw [loopM_inl (s' := ((a : Int), (), (((a + b) / 2 : Nat) : Int))) ?_]
        · exact k2
        · unfold S_slices_BinarySearchFunc_api_QIndexEntry_b1
          simp only [half (show a + b ≤ 9000000000000 by omega), List.length_map, Int.toNat_natCast, getD_at hm]
          rw [if_pos (by simp; omega), if_pos (by omega)]
          simp only [gC, cmp_eq, Option.map_some, Option.bind_some]
          rw [if_neg (by simpa using fun h => hc ((cmpB_lt _ _).1 h))]
theorem bs_eq {l : List En} {e : En} (hl : l.length ≤ 4000000000000) (hp : l.Pairwise fun x y => x.f_Name < y.f_Name) : ∃ i, Pos l e i ∧ S_slices_BinarySearchFunc_api_QIndexEntry gC none l e () = some ((i : Int), fnd l e i, ()) := by
  unfold S_slices_BinarySearchFunc_api_QIndexEntry
  rw [List.length_map]
  exact bs_loop hl hp l.length 0 l.length (by omega) (by omega) (Nat.le_refl _) (fun j _ h => absurd h (Nat.not_lt_zero j)) (fun j h h' => by omega)
end Go.Proofs.Yteepckliibfnkaa
