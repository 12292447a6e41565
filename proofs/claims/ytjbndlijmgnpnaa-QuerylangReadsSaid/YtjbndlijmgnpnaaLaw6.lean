/-
  Own text Law6 of this claim: what functions of the given program compute, in plain Lean, and the proof; no condition.
-/
import Derived.Test.YtjbndlijmgnpnaaLaw4
namespace Go.Proofs.Ytjbndlijmgnpnaa
open Go.Fx
set_option linter.unusedVariables false
theorem keq (x y : G_QKey) : ((x.f_Kind == y.f_Kind) && ((x.f_A == y.f_A) && ((x.f_B == y.f_B) && true))) = true ↔ x = y := by
  cases x; cases y; simp
instance : DecidableEq G_QKey := fun x y => decidable_of_iff _ (keq x y)
theorem idx_loop {ks : List G_QKey} {x : G_QKey} (hl : ks.length ≤ 4611686018427387904) : ∀ (k i : Nat), i + k = ks.length → ∃ j : Int, S_slices_Index_api_QKey_l1 none ks x (i : Int) = some j ∧ (decide (j ≥ 0) = decide (x ∈ ks.drop i))
  | 0, i, h => by
    have : i = ks.length := by omega
    subst this
    refine ⟨-1, ?_, by simp⟩
    unfold S_slices_Index_api_QKey_l1
    rw [loopM_out (x := some (-1)) ?_]
    unfold S_slices_Index_api_QKey_b1
    rw [if_neg (by simp)]
    rfl
  | k + 1, i, h => by
    have hi : i < ks.length := by omega
    obtain ⟨j, h1, h2⟩ := idx_loop hl k (i + 1) (by omega)
    unfold S_slices_Index_api_QKey_l1 at h1 ⊢
    have hd := List.drop_eq_getElem_cons hi
    have hb : S_slices_Index_api_QKey_b1 none ks x (i : Int) = if x = ks[i] then some (.inr (i : Int)) else some (.inl ((i + 1 : Nat) : Int)) := by
      unfold S_slices_Index_api_QKey_b1
      rw [if_pos (by simpa using hi), if_pos (by simpa using hi)]
      simp only [Int.toNat_natCast, getD_at hi, Wi (show i ≤ 4611686018427387904 by omega), keq]
      split <;> rfl
    by_cases h : x = ks[i]
    · exact ⟨i, by rw [loopM_out (x := some (i : Int)) (by rw [hb, if_pos h]; rfl)], by rw [hd]; simp only [List.mem_cons, h, true_or]; simp⟩
    · exact ⟨j, by rw [loopM_inl (s' := ((i + 1 : Nat) : Int)) (by rw [hb, if_neg h]), h1], by rw [h2, hd]; simp only [List.mem_cons, h, false_or]⟩
theorem contains_ok {ks : List G_QKey} {x : G_QKey} (hl : ks.length ≤ 4611686018427387904) : S_slices_Contains_api_QKey none ks x = some (decide (x ∈ ks)) := by
  obtain ⟨j, h1, h2⟩ := idx_loop (x := x) hl _ 0 (Nat.zero_add _)
  unfold S_slices_Contains_api_QKey S_slices_Index_api_QKey
  rw [show ((0 : Int)) = ((0 : Nat) : Int) from rfl, h1, Option.bind_some, show (((0 : Nat) : Int)) = (0 : Int) from rfl, h2, List.drop_zero]
theorem rcontains_ok {ks : List G_QKey} {x : G_QKey} (hl : ks.length ≤ 4611686018427387904) : S_glossatorref3_Contains_api_QKey none ks x = some (decide (x ∈ ks)) := contains_ok hl
theorem equal_ok {ks : List G_QKey} (hl : ks.length ≤ 4611686018427387904) : S_glossatorref3_Equal_api_QKey none ks ks = some true := by
  have key : ∀ k i, i + k = ks.length → S_glossatorref3_Equal_api_QKey_l1 none ks ks (i : Int) = some true := by
    intro k
    induction k with
    | zero =>
      intro i h
      have : i = ks.length := by omega
      subst this
      unfold S_glossatorref3_Equal_api_QKey_l1
      rw [loopM_out (x := some true) ?_]
      unfold S_glossatorref3_Equal_api_QKey_b1
      rw [if_neg (by simp)]
      rfl
    | succ k ih =>
      intro i h
      have hi : i < ks.length := by omega
      have := ih (i + 1) (by omega)
      unfold S_glossatorref3_Equal_api_QKey_l1 at this ⊢
      rw [← this]
      refine loopM_inl ?_
      unfold S_glossatorref3_Equal_api_QKey_b1
      rw [if_pos (by simpa using hi), if_pos (by simpa using hi), if_pos (by simpa using hi), Wi (by omega), if_neg (by simp)]
  unfold S_glossatorref3_Equal_api_QKey
  rw [if_neg (by simp)]
  exact key _ 0 (Nat.zero_add _)

/-- the keys in the order of their first use -/
noncomputable def addK (ks : List G_QKey) (k : Int × Int) : List G_QKey := if (⟨k.1, k.2, 0⟩ : G_QKey) ∈ ks then ks else ks ++ [⟨k.1, k.2, 0⟩]
noncomputable def keys (tr : List (Int × Int)) : List G_QKey := tr.foldl addK []
theorem keys_snoc (tr : List (Int × Int)) (k : Int × Int) : keys (tr ++ [k]) = addK (keys tr) k := by simp [keys]
theorem addK_len (ks : List G_QKey) (k : Int × Int) : (addK ks k).length ≤ ks.length + 1 := by unfold addK; split <;> simp
theorem foldK_len : ∀ (tr : List (Int × Int)) (ks : List G_QKey), (tr.foldl addK ks).length ≤ ks.length + tr.length
  | [], ks => by simp
  | k :: r, ks => by
    have h1 := foldK_len r (addK ks k)
    have h2 := addK_len ks k
    simp only [List.foldl_cons, List.length_cons]
    omega
theorem keys_len (tr : List (Int × Int)) : (keys tr).length ≤ tr.length := by have := foldK_len tr []; simpa [keys] using this

section
variable {p : G_QProgram} {inp : List Int} (hv : Valid p) (hi : (inp.length : Int) = p.f_Inputs) {q : Nat} (hq : q < p.f_Queries.length)
include hv hi hq
theorem reads_ok : (S_querylang_run (fun (s : ((List G_QKey) × Int × (List (List G_QOp)) × (List Int) × (List (Int × Int)))) (x : G_QKey) => (S_querylang_Reads_1c_32 none s.1 s.2.1 s.2.2.1 s.2.2.2.1 s.2.2.2.2 x).map fun o => (o.1, (o.2.1, o.2.2.1, o.2.2.2.1, o.2.2.2.2.1, o.2.2.2.2.2))) none p.f_Queries[q] q (([] : List G_QKey), p.f_Inputs, p.f_Queries, inp, ([] : List (Int × Int)))).bind (fun v4 => some (v4.2.1, (0 : Int))) =
    some (keys (evk (F p inp) q p.f_Queries[q] []), 0) := by
  have hr := run_ok (p := p) (own := (q : Int)) (ops := p.f_Queries[q]) (f := F p inp) (fun tr (s : ((List G_QKey) × Int × (List (List G_QOp)) × (List Int) × (List (Int × Int)))) => s.1 = keys tr ∧ Good p inp s.2) (F_rng hv hi (by omega)) False
    (g0 := fun (s : ((List G_QKey) × Int × (List (List G_QOp)) × (List Int) × (List (Int × Int)))) (x : G_QKey) => (S_querylang_Reads_1c_32 none s.1 s.2.1 s.2.2.1 s.2.2.2.1 s.2.2.2.2 x).map fun o => (o.1, (o.2.1, o.2.2.1, o.2.2.2.1, o.2.2.2.2.1, o.2.2.2.2.2)))
    (fun tr s k a htr hs hk => by
      obtain ⟨s0, s'⟩ := s
      obtain ⟨h0, hs⟩ := hs
      simp only at h0
      subst h0
      refine .inl ?_
      have hl := keys_len tr
      obtain ⟨t, ht, hg⟩ := getG_ok hv hi (by omega) hs hk
      obtain ⟨o, ho, hot⟩ := Option.map_eq_some_iff.1 hg
      have fin : ∀ ks : List G_QKey, (S_querylang_Reads_1c_32_j1 none s'.1 s'.2.1 s'.2.2.1 s'.2.2.2 ⟨k, a, 0⟩ ks).map (fun o => (o.1, (o.2.1, o.2.2.1, o.2.2.2.1, o.2.2.2.2.1, o.2.2.2.2.2))) = some (F p inp k a, ks, t) := by
        intro ks
        unfold S_querylang_Reads_1c_32_j1
        rw [ho]
        simp only [Prod.mk.injEq] at hot
        obtain ⟨h1, rfl⟩ := hot
        simp [h1]
      refine ⟨(keys (tr ++ [(k, a)]), t), ⟨rfl, ht⟩, ?_⟩
      unfold S_querylang_Reads_1c_32
      simp only
      rw [contains_ok (by omega), Option.bind_some, keys_snoc]
      unfold addK
      by_cases hm : (⟨k, a, 0⟩ : G_QKey) ∈ keys tr
      · rw [if_neg (by simp [hm]), if_pos hm]; exact fin _
      · rw [if_pos (by simp [hm]), if_neg hm, if_pos (by simp; omega)]; exact fin _)
    (hv.l20 _ (List.getElem_mem hq)) (hv.q0 q hq) (s := (([] : List G_QKey), p.f_Inputs, p.f_Queries, inp, ([] : List (Int × Int)))) ⟨rfl, rfl, rfl, rfl, fun k v h => by simp [lk] at h⟩
  rcases hr with ⟨⟨t0, t⟩, ⟨h1, _⟩, hr⟩ | ⟨hn, _⟩
  · rw [hr]
    simp only at h1
    simp [h1]
  · exact hn.elim
theorem refreads_ok : S_glossatorref3_Reads none p inp (q : Int) = some (keys (evk (F p inp) q p.f_Queries[q] [])) := by
  unfold S_glossatorref3_Reads
  rw [values_ok hv hi, Option.bind_some, if_pos (by simpa using hq)]
  simp only [Int.toNat_natCast, getD_at hq]
  obtain ⟨s', h1, h2⟩ := exec_ok (p := p) (own := (q : Int)) (ops := p.f_Queries[q]) (f := F p inp) (fun tr (s : List G_QKey) => s = keys tr)
    (g0 := fun (s : (List G_QKey)) (x : (Int × Int)) => (S_glossatorref3_Reads_1c none inp (vals p inp p.f_Queries.length) s x.1 x.2).map fun o => ((o.1, o.2.1), o.2.2)) (F_rng hv hi (by omega))
    (fun tr s k a htr hs hk => by
      subst hs
      have hl := keys_len tr
      have fin : ∀ ks : List G_QKey, (S_glossatorref3_Reads_1c_j1 none inp (vals p inp p.f_Queries.length) k a ks).map (fun o => ((o.1, o.2.1), o.2.2)) = some ((F p inp k a, true), ks) := by
        intro ks
        unfold S_glossatorref3_Reads_1c_j1
        rcases hk with ⟨rfl, h1, h2⟩ | ⟨rfl, h1, h2⟩
        · rw [if_pos (by decide), if_pos (by simp; omega), Mod_ok]
          simp [F, rdf]
        · rw [if_neg (by decide), if_pos (by simp [vals_len]; omega)]
          simp [F, rdf]
      refine ⟨_, rfl, ?_⟩
      unfold S_glossatorref3_Reads_1c
      simp only
      rw [rcontains_ok (by omega), Option.bind_some, keys_snoc]
      unfold addK
      by_cases hm : (⟨k, a, 0⟩ : G_QKey) ∈ keys tr
      · rw [if_neg (by simp [hm]), if_pos hm]; exact fin _
      · rw [if_pos (by simp [hm]), if_neg hm, if_pos (by simp; omega)]; exact fin _)
    (hv.l20 _ (List.getElem_mem hq)) (hv.q0 q hq) (s := ([] : List G_QKey)) rfl
  rw [h2, h1]
  rfl
theorem evk_len (f : Int → Int → Int) (own : Int) : ∀ (ops : List G_QOp) (st : List Int), (evk f own ops st).length ≤ ops.length
  | [], st => by have _ := hv; have _ := hi; have _ := hq; simp [evk]
  | op :: r, st => by
    have h1 := evk_len f own r (stp f own op st)
    have h2 := stk_len own op st
    simp only [evk, List.length_append, List.length_cons]
    omega
end
section
variable {p : G_QProgram} {inp : List Int} {q : Int} (hl : p.f_Queries.length ≤ 4611686018427387904)
include hl
theorem lawReads : S_glossatorlaw3_QuerylangReads none p inp q = some true := by
  unfold S_glossatorlaw3_QuerylangReads
  rw [example_ok, Option.bind_some, if_neg (by simp), evalError_ok hl]
  simp only [Option.bind_some]
  unfold S_querylang_Reads S_querylang_newEvaluator
  rw [check_ok hl, Option.bind_some]
  by_cases h : cspec p = 0
  · have e1 : (cspec p != 0) = false := by simp [h]
    rw [espec_0 hl h]
    simp only [e1, Bool.false_eq_true, if_false]
    by_cases h2 : (inp.length : Int) ≠ p.f_Inputs ∨ q < 0 ∨ q ≥ p.f_Queries.length
    · rw [if_pos (by simp; omega), if_pos h2]
      rfl
    · rw [if_neg (by simp; omega), if_neg h2]
      obtain ⟨i, rfl⟩ := Int.eq_ofNat_of_zero_le (show 0 ≤ q by omega)
      have hq : i < p.f_Queries.length := by omega
      simp only [Option.bind_some]
      rw [if_neg (by decide), if_pos (by simpa using hq)]
      simp only [Int.toNat_natCast, getD_at hq]
      rw [reads_ok (valid_of h) (by omega) hq, Option.bind_some, if_neg (by decide)]
      simp only [Bool.true_and, beq_self_eq_true, if_true]
      rw [refreads_ok (valid_of h) (by omega) hq, Option.bind_some, equal_ok]
      · rfl
      · have k1 := keys_len (evk (F p inp) i p.f_Queries[i] [])
        have k2 := evk_len (valid_of h) (inp := inp) (by omega) hq (F p inp) i p.f_Queries[i] []
        have k3 := (valid_of h).l20 _ (List.getElem_mem hq)
        exact Nat.le_trans (Nat.le_trans k1 (Nat.le_trans k2 k3)) (by decide)
  · have e1 : (cspec p != 0) = true := by simpa using h
    rw [espec_1 hl h]
    simp [e1, h]
end
end Go.Proofs.Ytjbndlijmgnpnaa
