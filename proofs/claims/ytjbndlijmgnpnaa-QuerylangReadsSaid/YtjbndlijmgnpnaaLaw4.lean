/-
  Own text Law4 of this claim: what functions of the given program compute, in plain Lean, and the proof; no condition.
-/
import Derived.Test.YtjbndlijmgnpnaaLaw3
namespace Go.Proofs.Ytjbndlijmgnpnaa
open Go.Fx
set_option linter.unusedVariables false
theorem recN_ex {α : Type} {f : Nat → Option α} {Q : α → Prop} (h1 : ∀ k o, f k = some o → Q o) (h2 : ∃ k o, f k = some o) : ∃ o, recN none f = some o ∧ Q o := by
  have h : ∃ k, (f k).isSome = true := by obtain ⟨k, o, h⟩ := h2; exact ⟨k, by rw [h]; rfl⟩
  have hs : (recN none f).isSome = true := by
    unfold recN
    simp only
    rw [dif_pos h]
    exact Classical.choose_spec h
  obtain ⟨o, ho⟩ := Option.isSome_iff_exists.1 hs
  obtain ⟨k, hk⟩ := recN_some ho
  exact ⟨o, ho, h1 k o hk⟩
theorem qi_eq (x y : Int) : q_i64 x y = true ↔ x = y := by simp [q_i64]
theorem lk_mp (k : Int) (v : Int) (k' : Int) : ∀ m : List (Int × Int), lk q_i64 (mp q_i64 m k v) k' = if k' = k then some v else lk q_i64 m k'
  | [] => by simp only [mp, lk, qi_eq]
  | (k0, v0) :: r => by
    have ih := lk_mp k v k' r
    simp only [mp]
    by_cases h : q_i64 k k0 = true
    · have := (qi_eq _ _).1 h
      subst this
      rw [if_pos h]
      simp only [lk, qi_eq]
      by_cases h2 : k' = k
      · simp [h2]
      · simp [h2]
    · rw [if_neg h]
      have hne : k ≠ k0 := fun h' => h ((qi_eq _ _).2 h')
      simp only [lk, qi_eq, ih]
      by_cases h2 : k' = k
      · subst h2; simp [hne]
      · simp [h2]

/-! ### the values of all queries -/
noncomputable def rdf (inp vs : List Int) (kind a : Int) : Int := if kind = 0 then red (inp.getD a.toNat default) else vs.getD a.toNat default
noncomputable def vals (p : G_QProgram) (inp : List Int) : Nat → List Int
  | 0 => []
  | i + 1 => vals p inp i ++ [ev (rdf inp (vals p inp i)) i (p.f_Queries.getD i default) []]
theorem vals_len (p : G_QProgram) (inp : List Int) : ∀ i, (vals p inp i).length = i
  | 0 => rfl
  | i + 1 => by simp [vals, vals_len p inp i]
theorem vals_pre (p : G_QProgram) (inp : List Int) (a : Nat) : ∀ j i, a < i → i ≤ j → (vals p inp j).getD a default = (vals p inp i).getD a default
  | 0, i, h1, h2 => by omega
  | j + 1, i, h1, h2 => by
    by_cases h : i = j + 1
    · rw [h]
    · rw [← vals_pre p inp a j i h1 (by omega), vals, List.getD_eq_getElem?_getD, List.getElem?_append_left (by rw [vals_len]; omega), ← List.getD_eq_getElem?_getD]

structure Valid (p : G_QProgram) : Prop where
  n40 : p.f_Queries.length ≤ 40
  l20 : ∀ q ∈ p.f_Queries, q.length ≤ 20
  i0 : 0 ≤ p.f_Inputs
  q0 : ∀ i (h : i < p.f_Queries.length), qspec p i p.f_Queries[i] 0 = 0
theorem pspec_zero (p : G_QProgram) : ∀ (l : List (List G_QOp)) (i : Nat), pspec p i l = 0 → ∀ j (h : j < l.length), qspec p ((i + j : Nat) : Int) l[j] 0 = 0
  | [], i, h, j, hj => by simp at hj
  | q :: r, i, h, j, hj => by
    rw [pspec] at h
    split at h
    · rename_i hq
      cases j with
      | zero => simpa using hq
      | succ j =>
        have := pspec_zero p r (i + 1) h j (by simpa using hj)
        rw [show i + (j + 1) = i + 1 + j by omega]
        simpa using this
    · rename_i hq; exact absurd h hq
theorem valid_of {p : G_QProgram} (h : cspec p = 0) : Valid p := by
  unfold cspec at h
  split at h
  · cases h
  · rename_i h1
    split at h
    · cases h
    · rename_i h2
      refine ⟨by omega, fun q hq => ?_, by omega, fun i hi => by simpa using pspec_zero p _ 0 h i hi⟩
      rcases Nat.lt_or_ge 20 q.length with g | g
      · exact absurd (.inr (.inr (List.any_eq_true.2 ⟨q, hq, by simpa using g⟩))) h1
      · exact g

section
variable {p : G_QProgram} {inp : List Int} (hv : Valid p) (hi : (inp.length : Int) = p.f_Inputs)
include hv hi
theorem vals_rng : ∀ i, i ≤ p.f_Queries.length → ∀ v ∈ vals p inp i, rng v
  | 0, _, v, h => by have _ := hi; simp [vals] at h
  | i + 1, hle, v, h => by
    have ih := vals_rng i (by omega)
    rw [vals, List.mem_append] at h
    rcases h with h | h
    · exact ih v h
    · simp only [List.mem_singleton] at h
      subst h
      rw [getD_at (by omega)]
      refine ev_rng (p := p) (fun k a hk => ?_) _ [] (hv.q0 i (by omega)) (by simp)
      unfold rdf
      rcases hk with ⟨rfl, h1, h2⟩ | ⟨rfl, h1, h2⟩
      · rw [if_pos rfl]; exact red_rng _
      · rw [if_neg (by decide)]
        have : a.toNat < (vals p inp i).length := by rw [vals_len]; omega
        rw [getD_at this]
        exact ih _ (List.getElem_mem this)
/-- what a query reads -/
noncomputable def F (p : G_QProgram) (inp : List Int) : Int → Int → Int := rdf inp (vals p inp p.f_Queries.length)
theorem F_rng {own : Int} (ho : own ≤ p.f_Queries.length) : ∀ k a, vkey p own k a → rng (F p inp k a) := by
  intro k a hk
  unfold F rdf
  rcases hk with ⟨rfl, h1, h2⟩ | ⟨rfl, h1, h2⟩
  · rw [if_pos rfl]; exact red_rng _
  · rw [if_neg (by decide)]
    have : a.toNat < (vals p inp p.f_Queries.length).length := by rw [vals_len]; omega
    rw [getD_at this]
    exact vals_rng hv hi _ (Nat.le_refl _) _ (List.getElem_mem this)
theorem v1c_ok {i : Nat} (hle : i ≤ p.f_Queries.length) (f : Int → Int → Int) (hf : f = F p inp ∨ f = rdf inp (vals p inp i)) : ∀ k a, vkey p i k a → (S_glossatorref3_Values_1c none inp (vals p inp i) k a).map (fun o => ((o.1, o.2), ())) = some ((f k a, true), ()) := by
  have _ := hv
  intro k a hk
  unfold S_glossatorref3_Values_1c
  rcases hk with ⟨rfl, h1, h2⟩ | ⟨rfl, h1, h2⟩
  · rw [if_pos (by decide), if_pos (by simp; omega), Mod_ok]
    rcases hf with rfl | rfl <;> rfl
  · have hl : a.toNat < (vals p inp i).length := by rw [vals_len]; omega
    rw [if_neg (by decide), if_pos (by rw [vals_len]; omega), if_pos (by rw [Nat.zero_add]; exact hl), Nat.zero_add]
    rcases hf with rfl | rfl
    · unfold F rdf
      rw [if_neg (by decide), vals_pre p inp a.toNat _ i (by omega) hle]
      rfl
    · unfold rdf
      rw [if_neg (by decide)]
      rfl
theorem exec_at {i : Nat} (hlt : i < p.f_Queries.length) (f : Int → Int → Int) (hf : f = F p inp ∨ f = rdf inp (vals p inp i)) :
    S_glossatorref3_Exec (fun (s : Unit) (x : (Int × Int)) => (S_glossatorref3_Values_1c none inp (vals p inp i) x.1 x.2).map fun o => ((o.1, o.2), ())) none p.f_Queries[i] i () = some (ev f i p.f_Queries[i] [], true, ()) := by
  have hf0 := hf
  have := exec_ok (g0 := fun (s : Unit) (x : (Int × Int)) => (S_glossatorref3_Values_1c none inp (vals p inp i) x.1 x.2).map fun o => ((o.1, o.2), ())) (p := p) (f := f) (fun _ _ => True) (fun k a hk => ?_) (fun tr s k a _ _ hk => ⟨(), trivial, v1c_ok hv hi (by omega) f hf0 k a hk⟩) (hv.l20 _ (List.getElem_mem hlt)) (hv.q0 i hlt) (s := ()) trivial
  · obtain ⟨_, _, h⟩ := this
    exact h
  rcases hf with rfl | rfl
  · exact F_rng hv hi (by omega) k a hk
  · unfold rdf
    rcases hk with ⟨rfl, h1, h2⟩ | ⟨rfl, h1, h2⟩
    · rw [if_pos rfl]; exact red_rng _
    · rw [if_neg (by decide)]
      have : a.toNat < (vals p inp i).length := by rw [vals_len]; omega
      rw [getD_at this]
      exact vals_rng hv hi _ (by omega) _ (List.getElem_mem this)
theorem F_own {i : Nat} (hlt : i < p.f_Queries.length) : F p inp 1 i = ev (F p inp) i p.f_Queries[i] [] := by
  have h1 := exec_at hv hi hlt (F p inp) (.inl rfl)
  have h2 := exec_at hv hi hlt _ (.inr rfl)
  rw [h1] at h2
  simp only [Option.some.injEq, Prod.mk.injEq] at h2
  rw [h2.1]
  unfold F
  conv => lhs; unfold rdf
  rw [if_neg (by decide), Int.toNat_natCast, vals_pre p inp i _ (i + 1) (by omega) (by omega), vals, List.getD_eq_getElem?_getD, List.getElem?_append_right (by rw [vals_len]; exact Nat.le_refl _), vals_len, getD_at hlt]
  simp
theorem values_ok : S_glossatorref3_Values none p inp = some (vals p inp p.f_Queries.length) := by
  have h40 := hv.n40
  have key : ∀ k i, i + k = p.f_Queries.length → S_glossatorref3_Values_l1 none p inp (i : Int) (vals p inp i) = some (vals p inp p.f_Queries.length) := by
    intro k
    induction k with
    | zero =>
      intro i h
      have : i = p.f_Queries.length := by omega
      subst this
      unfold S_glossatorref3_Values_l1
      rw [loopM_out (x := some (vals p inp p.f_Queries.length)) ?_]
      unfold S_glossatorref3_Values_b1
      rw [if_neg (by simp)]
      rfl
    | succ k ih =>
      intro i h
      have hlt : i < p.f_Queries.length := by omega
      have := ih (i + 1) (by omega)
      unfold S_glossatorref3_Values_l1 at this ⊢
      rw [← this]
      refine loopM_inl ?_
      unfold S_glossatorref3_Values_b1
      rw [if_pos (by simpa using hlt), if_pos (by simpa using hlt)]
      simp only [Int.toNat_natCast, getD_at hlt, exec_at hv hi hlt _ (.inr rfl), Option.bind_some, Wi (show i ≤ 4611686018427387904 by omega)]
      rw [if_pos (by simp [vals_len]; omega), vals, getD_at hlt]
  have := key p.f_Queries.length 0 (by omega)
  simpa [S_glossatorref3_Values, vals] using this

/-! ### the program's evaluator -/
def Good (p : G_QProgram) (inp : List Int) (s : Int × (List (List G_QOp)) × (List Int) × (List (Int × Int))) : Prop :=
  s.1 = p.f_Inputs ∧ s.2.1 = p.f_Queries ∧ s.2.2.1 = inp ∧ ∀ k v, lk q_i64 s.2.2.2 k = some v → v = F p inp 1 k
def need (kind a : Int) : Nat := if kind = 0 then 1 else a.toNat + 2
theorem getc_ok : ∀ (n : Nat) (own : Int) (s : Int × (List (List G_QOp)) × (List Int) × (List (Int × Int))) (kind a : Int), own ≤ p.f_Queries.length → Good p inp s → vkey p own kind a →
    (∃ s', Good p inp s' ∧ (S_querylang_evaluator_getc_29_2_I none n s.1 s.2.1 s.2.2.1 s.2.2.2 ⟨kind, a, 0⟩).map (fun o => (o.1, (o.2.1, o.2.2.1, o.2.2.2.1, o.2.2.2.2))) = some (F p inp kind a, s')) ∨
    (n < need kind a ∧ (S_querylang_evaluator_getc_29_2_I none n s.1 s.2.1 s.2.2.1 s.2.2.2 ⟨kind, a, 0⟩).map (fun o => (o.1, (o.2.1, o.2.2.1, o.2.2.2.1, o.2.2.2.2))) = none)
  | 0, own, s, kind, a, ho, hs, hk => by
    refine .inr ⟨by unfold need; split <;> omega, rfl⟩
  | n + 1, own, (s1, s2, s3, s4), kind, a, ho, hs, hk => by
    have ih := getc_ok n
    obtain ⟨g1, g2, g3, g4⟩ := hs
    simp only at g1 g2 g3 g4
    subst g1 g2 g3
    unfold S_querylang_evaluator_getc_29_2_I S_querylang_evaluator_getc_29_2 S_querylang_evaluator_getc_29_2_j1
    simp only
    rcases hk with ⟨rfl, h1, h2⟩ | ⟨rfl, h1, h2⟩
    · refine .inl ⟨(p.f_Inputs, p.f_Queries, s3, s4), ⟨rfl, rfl, rfl, g4⟩, ?_⟩
      rw [if_pos (by decide), if_pos (by simp; omega), reduce_ok]
      simp [F, rdf]
    · rw [if_neg (by decide)]
      cases hc : lk q_i64 s4 a with
      | some v =>
        refine .inl ⟨(p.f_Inputs, p.f_Queries, s3, s4), ⟨rfl, rfl, rfl, g4⟩, ?_⟩
        rw [if_neg (by simp)]
        simp [g4 a v hc]
      | none =>
        obtain ⟨i, rfl⟩ := Int.eq_ofNat_of_zero_le h1
        have hlt : i < p.f_Queries.length := by omega
        rw [if_pos (by simp), if_pos (by simpa using hlt)]
        simp only [Int.toNat_natCast, getD_at hlt]
        have hr := run_ok (p := p) (own := (i : Int)) (ops := p.f_Queries[i]) (f := F p s3) (fun _ => Good p s3) (F_rng hv hi (by omega)) (n < i + 1)
          (g0 := fun (s : (Int × (List (List G_QOp)) × (List Int) × (List (Int × Int)))) (x : G_QKey) => (S_querylang_evaluator_getc_29_2_I none n s.1 s.2.1 s.2.2.1 s.2.2.2 x).map fun o => (o.1, (o.2.1, o.2.2.1, o.2.2.2.1, o.2.2.2.2)))
          (fun tr s k b _ hs hb => by
            rcases ih (i : Int) s k b (by omega) hs hb with h | ⟨h, h'⟩
            · exact .inl h
            · refine .inr ⟨?_, h'⟩
              unfold need at h
              rcases hb with ⟨rfl, _, _⟩ | ⟨rfl, _, hb2⟩
              · rw [if_pos rfl] at h; omega
              · rw [if_neg (by decide)] at h; omega) (hv.l20 _ (List.getElem_mem hlt)) (hv.q0 i hlt)
          (s := (p.f_Inputs, p.f_Queries, s3, s4)) ⟨rfl, rfl, rfl, g4⟩
        rcases hr with ⟨⟨t1, t2, t3, t4⟩, ⟨q1, q2, q3, q4⟩, hr⟩ | ⟨hn, hr⟩
        · simp only at q1 q2 q3 q4
          subst q1 q2
          rw [hr]
          refine .inl ⟨(p.f_Inputs, p.f_Queries, s3, mp q_i64 t4 i (F p s3 1 i)), ⟨rfl, rfl, rfl, fun k v hk => ?_⟩, ?_⟩
          · rw [lk_mp] at hk
            split at hk
            · rename_i e
              subst e
              simpa using hk.symm
            · exact q4 k v hk
          · rw [← F_own hv hi hlt, q3]
            rfl
        · rw [hr]
          refine .inr ⟨?_, rfl⟩
          unfold need
          rw [if_neg (by decide)]
          simp; omega
theorem getF_ok {own : Int} {s : Int × (List (List G_QOp)) × (List Int) × (List (Int × Int))} {kind a : Int} (ho : own ≤ p.f_Queries.length) (hs : Good p inp s) (hk : vkey p own kind a) :
    ∃ s', Good p inp s' ∧ (S_querylang_evaluator_getc_29_2_F none s.1 s.2.1 s.2.2.1 s.2.2.2 ⟨kind, a, 0⟩).map (fun o => (o.1, (o.2.1, o.2.2.1, o.2.2.2.1, o.2.2.2.2))) = some (F p inp kind a, s') := by
  unfold S_querylang_evaluator_getc_29_2_F
  have h := getc_ok hv hi
  obtain ⟨o, h1, h2⟩ := recN_ex (f := fun k => S_querylang_evaluator_getc_29_2_I none k s.1 s.2.1 s.2.2.1 s.2.2.2 ⟨kind, a, 0⟩) (Q := fun o => ∃ s', Good p inp s' ∧ (o.1, (o.2.1, o.2.2.1, o.2.2.2.1, o.2.2.2.2)) = (F p inp kind a, s'))
    (fun k o hk' => by
      rcases h k own s kind a ho hs hk with ⟨s', g1, g2⟩ | ⟨_, g2⟩
      · rw [hk'] at g2; simp only [Option.map_some, Option.some.injEq] at g2; exact ⟨s', g1, g2⟩
      · rw [hk'] at g2; cases g2)
    (by
      rcases h (need kind a) own s kind a ho hs hk with ⟨s', g1, g2⟩ | ⟨g1, _⟩
      · obtain ⟨o, ho', _⟩ := Option.map_eq_some_iff.1 g2
        exact ⟨_, o, ho'⟩
      · omega)
  obtain ⟨s', g1, g2⟩ := h2
  rw [h1]
  exact ⟨s', g1, by rw [Option.map_some, g2]⟩
theorem getG_ok {own : Int} {s : Int × (List (List G_QOp)) × (List Int) × (List (Int × Int))} {kind a : Int} (ho : own ≤ p.f_Queries.length) (hs : Good p inp s) (hk : vkey p own kind a) :
    ∃ s', Good p inp s' ∧ (S_querylang_evaluator_get_29_2 none ⟨kind, a, 0⟩ s.1 s.2.1 s.2.2.1 s.2.2.2).map (fun o => (o.1, (o.2.1, o.2.2.1, o.2.2.2.1, o.2.2.2.2))) = some (F p inp kind a, s') := by
  obtain ⟨s1, s2, s3, s4⟩ := s
  obtain ⟨g1, g2, g3, g4⟩ := hs
  simp only at g1 g2 g3 g4
  subst g1 g2 g3
  unfold S_querylang_evaluator_get_29_2 S_querylang_evaluator_get_29_2_j1
  simp only
  rcases hk with ⟨rfl, h1, h2⟩ | ⟨rfl, h1, h2⟩
  · refine ⟨(p.f_Inputs, p.f_Queries, s3, s4), ⟨rfl, rfl, rfl, g4⟩, ?_⟩
    rw [if_pos (by decide), if_pos (by simp; omega), reduce_ok]
    simp [F, rdf]
  · rw [if_neg (by decide)]
    cases hc : lk q_i64 s4 a with
    | some v =>
      refine ⟨(p.f_Inputs, p.f_Queries, s3, s4), ⟨rfl, rfl, rfl, g4⟩, ?_⟩
      rw [if_neg (by simp)]
      simp [g4 a v hc]
    | none =>
      obtain ⟨i, rfl⟩ := Int.eq_ofNat_of_zero_le h1
      have hlt : i < p.f_Queries.length := by omega
      rw [if_pos (by simp), if_pos (by simpa using hlt)]
      simp only [Int.toNat_natCast, getD_at hlt]
      have hr := run_ok (p := p) (own := (i : Int)) (ops := p.f_Queries[i]) (f := F p s3) (fun _ => Good p s3) (F_rng hv hi (by omega)) False
        (g0 := fun (s : (Int × (List (List G_QOp)) × (List Int) × (List (Int × Int)))) (x : G_QKey) => (S_querylang_evaluator_getc_29_2_F none s.1 s.2.1 s.2.2.1 s.2.2.2 x).map fun o => (o.1, (o.2.1, o.2.2.1, o.2.2.2.1, o.2.2.2.2)))
        (fun tr s k b _ hs hb => .inl (getF_ok hv hi (by omega) hs hb)) (hv.l20 _ (List.getElem_mem hlt)) (hv.q0 i hlt)
        (s := (p.f_Inputs, p.f_Queries, s3, s4)) ⟨rfl, rfl, rfl, g4⟩
      rcases hr with ⟨⟨t1, t2, t3, t4⟩, ⟨q1, q2, q3, q4⟩, hr⟩ | ⟨hn, _⟩
      · simp only at q1 q2 q3 q4
        subst q1 q2
        rw [hr]
        refine ⟨(p.f_Inputs, p.f_Queries, s3, mp q_i64 t4 i (F p s3 1 i)), ⟨rfl, rfl, rfl, fun k v hk => ?_⟩, ?_⟩
        · rw [lk_mp] at hk
          split at hk
          · rename_i e
            subst e
            simpa using hk.symm
          · exact q4 k v hk
        · rw [← F_own hv hi hlt, q3]
          rfl
      · exact hn.elim
theorem get_ok {i : Nat} (hlt : i < p.f_Queries.length) : ∃ s', Good p inp s' ∧ (S_querylang_evaluator_get_29_2 none ⟨1, i, 0⟩ p.f_Inputs p.f_Queries inp []).map (fun o => (o.1, (o.2.1, o.2.2.1, o.2.2.2.1, o.2.2.2.2))) = some (F p inp 1 i, s') :=
  getG_ok hv hi (s := (p.f_Inputs, p.f_Queries, inp, [])) (Int.le_refl _) ⟨rfl, rfl, rfl, fun k v h => by simp [lk] at h⟩ (.inr ⟨rfl, by omega, by omega⟩)
end

section
variable {p : G_QProgram} {inp : List Int} {q : Int} (hl : p.f_Queries.length ≤ 4611686018427387904)
include hl
noncomputable def espec (p : G_QProgram) (inp : List Int) (q : Int) : Int := if cspec p ≠ 0 then cspec p else if (inp.length : Int) ≠ p.f_Inputs ∨ q < 0 ∨ q ≥ p.f_Queries.length then 1 else 0
theorem espec_0 (h : cspec p = 0) : espec p inp q = if (inp.length : Int) ≠ p.f_Inputs ∨ q < 0 ∨ q ≥ p.f_Queries.length then 1 else 0 := by
  have _ := hl
  unfold espec; rw [if_neg (not_not_intro h)]
theorem espec_1 (h : cspec p ≠ 0) : espec p inp q = cspec p := by
  have _ := hl
  unfold espec; rw [if_pos h]
theorem evalError_ok : S_glossatorlaw3_evalError none p inp q = some (espec p inp q) := by
  unfold S_glossatorlaw3_evalError
  rw [refcheck_ok hl, Option.bind_some]
  by_cases h : cspec p = 0
  · have e1 : (cspec p != 0) = false := by simp [h]
    rw [espec_0 hl h]
    simp only [e1, Bool.false_eq_true, if_false]
    by_cases h2 : (inp.length : Int) ≠ p.f_Inputs ∨ q < 0 ∨ q ≥ p.f_Queries.length
    · rw [if_pos (by simp; omega), if_pos h2]
    · rw [if_neg (by simp; omega), if_neg h2]
  · have e1 : (cspec p != 0) = true := by simpa using h
    rw [espec_1 hl h]
    simp only [e1, if_true]
theorem eval_ok : S_querylang_Eval none p inp q = some (if espec p inp q = 0 then F p inp 1 q else 0, espec p inp q) := by
  unfold S_querylang_Eval S_querylang_newEvaluator
  rw [check_ok hl, Option.bind_some]
  by_cases h : cspec p = 0
  · have e1 : (cspec p != 0) = false := by simp [h]
    rw [espec_0 hl h]
    simp only [e1, Bool.false_eq_true, if_false]
    by_cases h2 : (inp.length : Int) ≠ p.f_Inputs ∨ q < 0 ∨ q ≥ p.f_Queries.length
    · rw [if_pos (by simp; omega), if_pos h2]
      rfl
    · rw [if_neg (by simp; omega), if_neg h2]
      have hq : 0 ≤ q := by omega
      obtain ⟨i, rfl⟩ := Int.eq_ofNat_of_zero_le hq
      obtain ⟨s', _, g2⟩ := get_ok (valid_of h) (inp := inp) (by omega) (i := i) (by omega)
      simp only [Option.bind_some]
      rw [if_neg (by decide)]
      obtain ⟨o, h1, h3⟩ := Option.map_eq_some_iff.1 g2
      rw [h1]
      simp only [Prod.mk.injEq] at h3
      simp [h3.1]
  · have e1 : (cspec p != 0) = true := by simpa using h
    rw [espec_1 hl h]
    simp only [e1, if_true, Option.bind_some, if_neg h]
theorem lawEval : S_glossatorlaw3_QuerylangEval none p inp q = some true := by
  unfold S_glossatorlaw3_QuerylangEval
  rw [example_ok, Option.bind_some, if_neg (by simp), eval_ok hl, Option.bind_some, evalError_ok hl, Option.bind_some]
  simp only [Option.bind_some]
  by_cases h : espec p inp q = 0
  · rw [h]
    have h0 := h
    unfold espec at h0
    have hc : cspec p = 0 := by
      by_cases hc : cspec p = 0
      · exact hc
      · rw [if_pos hc] at h0; exact absurd h0 hc
    rw [if_neg (by simp [hc])] at h0
    have hq : ¬ ((inp.length : Int) ≠ p.f_Inputs ∨ q < 0 ∨ q ≥ p.f_Queries.length) := by
      intro hq; rw [if_pos hq] at h0; cases h0
    obtain ⟨i, rfl⟩ := Int.eq_ofNat_of_zero_le (show 0 ≤ q by omega)
    rw [if_neg (by decide), if_pos (by decide), values_ok (valid_of hc) (by omega), Option.bind_some, if_pos (fun _ => by simp [vals_len]; omega)]
    simp [F, rdf]
  · rw [if_pos (by simpa using h), if_neg h]
    simp
end
end Go.Proofs.Ytjbndlijmgnpnaa
