/-
  Own text Law4 of this claim: what functions of the given program compute, in plain Lean, and the proof; no condition.
-/
import Derived.Test.YtjbndlijmgnpnaaLaw3
import Derived.Test.YtjbndlijmgnpnaaOk
namespace Go.Proofs.Ytjbndlijmgnpnaa
open Go.Fx
set_option linter.unusedVariables false
structure Valid (p : G_QProgram) : Prop where
  n40 : p.f_Queries.length ≤ 40
  l20 : ∀ q ∈ p.f_Queries, q.length ≤ 20
  i0 : 0 ≤ p.f_Inputs
  q0 : ∀ i (h : i < p.f_Queries.length), qspec p i p.f_Queries[i] 0 = 0
theorem pspec_zero (p : G_QProgram) : ∀ (l : List (List G_QOp)) (i : Nat), pspec p i l = 0 → ∀ j (h : j < l.length), qspec p ((i + j : Nat) : Int) l[j] 0 = 0
  | [], i, h, j, hj => by simp at hj
  | q :: r, i, h, j, hj => by
    rw [pspec] at h
    split at h
    · rename_i hq
      cases j with
      | zero => simpa using hq
      | succ j =>
        have := pspec_zero p r (i + 1) h j (by simpa using hj)
        rw [show i + (j + 1) = i + 1 + j by omega]
        simpa using this
    · rename_i hq; exact absurd h hq
theorem valid_of {p : G_QProgram} (h : cspec p = 0) : Valid p := by
  unfold cspec at h
  split at h
  · cases h
  · rename_i h1
    split at h
    · cases h
    · rename_i h2
      refine ⟨by omega, fun q hq => ?_, by omega, fun i hi => by simpa using pspec_zero p _ 0 h i hi⟩
      rcases Nat.lt_or_ge 20 q.length with g | g
      · exact absurd (.inr (.inr (List.any_eq_true.2 ⟨q, hq, by simpa using g⟩))) h1
      · exact g

theorem equal_ok {ks : List G_QKey} (hl : ks.length ≤ 4611686018427387904) : S_glossatorref3_Equal_api_QKey none ks ks = some true := by
  have key : ∀ k i, i + k = ks.length → S_glossatorref3_Equal_api_QKey_l1 none ks ks (i : Int) = some true := by
    intro k
    induction k with
    | zero =>
      intro i h
      have : i = ks.length := by omega
      subst this
      unfold S_glossatorref3_Equal_api_QKey_l1
      rw [loopM_out (x := some true) ?_]
      unfold S_glossatorref3_Equal_api_QKey_b1
      rw [if_neg (by simp)]
      rfl
    | succ k ih =>
      intro i h
      have hi : i < ks.length := by omega
      have := ih (i + 1) (by omega)
      unfold S_glossatorref3_Equal_api_QKey_l1 at this ⊢
      rw [← this]
      refine loopM_inl ?_
      unfold S_glossatorref3_Equal_api_QKey_b1
      rw [if_pos (by simpa using hi), if_pos (by simpa using hi), if_pos (by simpa using hi), Wi (by omega), if_neg (by simp)]
  unfold S_glossatorref3_Equal_api_QKey
  rw [if_neg (by simp)]
  exact key _ 0 (Nat.zero_add _)


theorem eqint_ok {ks : List Int} (hl : ks.length ≤ 4611686018427387904) : S_glossatorref3_Equal_int none ks ks = some true := by
  have key : ∀ k i, i + k = ks.length → S_glossatorref3_Equal_int_l1 none ks ks (i : Int) = some true := by
    intro k
    induction k with
    | zero =>
      intro i h
      have : i = ks.length := by omega
      subst this
      unfold S_glossatorref3_Equal_int_l1
      rw [loopM_out (x := some true) ?_]
      unfold S_glossatorref3_Equal_int_b1
      rw [if_neg (by simp)]
      rfl
    | succ k ih =>
      intro i h
      have hi : i < ks.length := by omega
      have := ih (i + 1) (by omega)
      unfold S_glossatorref3_Equal_int_l1 at this ⊢
      rw [← this]
      refine loopM_inl ?_
      unfold S_glossatorref3_Equal_int_b1
      rw [if_pos (by simpa using hi), if_pos (by simpa using hi), if_pos (by simpa using hi), Wi (by omega), if_neg (by simp)]
  unfold S_glossatorref3_Equal_int
  rw [if_neg (by simp)]
  exact key _ 0 (Nat.zero_add _)
theorem eqval_ok {v : G_QValue} (hl : v.f_Nums.length ≤ 4611686018427387904) : S_glossatorref3_EqualValues none v v = some true := by
  unfold S_glossatorref3_EqualValues
  simp only [beq_self_eq_true, if_true]
  rw [eqint_ok hl]
  rfl
/-! ### the value of a key -/
noncomputable def kix (vs : List G_QValue) (k : G_QKey) : Int := if (W (W (k.f_Kind * 7) + k.f_A)).tmod vs.length < 0 then (W (W (k.f_Kind * 7) + k.f_A)).tmod vs.length + vs.length else (W (W (k.f_Kind * 7) + k.f_A)).tmod vs.length
noncomputable def Lk (vs : List G_QValue) (k : G_QKey) : G_QValue := if vs.length = 0 then ⟨[], []⟩ else vs.getD (kix vs k).toNat default
theorem kix_rng {vs : List G_QValue} (h : vs.length ≠ 0) (k : G_QKey) : 0 ≤ kix vs k ∧ kix vs k < vs.length := by
  have h0 : (0 : Int) < vs.length := by omega
  have h1 := Int.tmod_lt_of_pos (W (W (k.f_Kind * 7) + k.f_A)) h0
  have h2 := Int.lt_tmod_of_pos (W (W (k.f_Kind * 7) + k.f_A)) h0
  unfold kix
  split <;> omega
theorem lookup_ok {vs : List G_QValue} (hn : vs.length ≤ 4611686018427387904) (k : G_QKey) : S_glossatorlaw3_QuerylangCompile_1 none k vs = some (Lk vs k) := by
  unfold S_glossatorlaw3_QuerylangCompile_1 Lk
  by_cases h : vs.length = 0
  · rw [if_pos (by simpa using h), if_pos h]
  · have hr := kix_rng h k
    rw [if_neg (by simpa using h), if_neg h]
    have e : S_glossatorref3_Mod none (W ((W (k.f_Kind * 7)) + k.f_A)) ((vs.map e_QValue).length : Int) = some (kix vs k) := by
      have h0 : (0 : Int) < vs.length := by omega
      have h1 := Int.tmod_lt_of_pos (W (W (k.f_Kind * 7) + k.f_A)) h0
      have h2 := Int.lt_tmod_of_pos (W (W (k.f_Kind * 7) + k.f_A)) h0
      unfold S_glossatorref3_Mod S_glossatorref3_Mod_j1 kix
      rw [List.length_map, if_pos (by omega)]
      by_cases hc : (W (W (k.f_Kind * 7) + k.f_A)).tmod vs.length < 0
      · rw [if_pos (by simpa using hc), if_pos hc, W_in (by unfold inR; omega)]
      · rw [if_neg (by simpa using hc), if_neg hc]
    rw [e, Option.bind_some, if_pos (by simpa using hr)]
noncomputable def nm (v : G_QValue) : Int := if v.f_Nums.length = 0 then 0 else red (v.f_Nums.getD 0 default)
theorem nm_rng (v : G_QValue) : rng (nm v) := by
  unfold nm
  split
  · unfold rng; omega
  · exact red_rng _
theorem number_ok (v : G_QValue) : S_glossatorref3_Number none v = some (nm v) := by
  unfold S_glossatorref3_Number nm
  by_cases h : v.f_Nums.length = 0
  · rw [if_pos (by simpa using h), if_pos h]
  · rw [if_neg (by simpa using h), if_neg h, if_pos (by simp; omega), Mod_ok]
    rfl
theorem snoc_len {tr : List (Int × Int)} (ks : List G_QKey) (h : ks.length ≤ 30) (k : G_QKey) : ((ks ++ [k]).map e_QKey).length * 24 ≤ 140737488355328 := by simp; omega
theorem read_ok {vs : List G_QValue} (hn : vs.length ≤ 4611686018427387904) (ks : List G_QKey) (h : ks.length ≤ 30) (k : G_QKey) : S_querylang_Compile_1_1c_38 none ks vs k = some (nm (Lk vs k), ks ++ [k]) := by
  unfold S_querylang_Compile_1_1c_38 S_glossatorlaw3_QuerylangCompile_2
  rw [if_pos (snoc_len (tr := []) ks h k), lookup_ok hn, Option.bind_some]
  simp only [Option.bind_some]
  unfold nm
  by_cases h : (Lk vs k).f_Nums.length = 0
  · rw [if_pos (by simpa using h), if_pos h]
  · rw [if_neg (by simpa using h), if_neg h, if_pos (by simp; omega), reduce_ok]
    rfl
theorem refread_ok {vs : List G_QValue} (hn : vs.length ≤ 4611686018427387904) (ks : List G_QKey) (h : ks.length ≤ 30) (a b : Int) : S_glossatorlaw3_QuerylangCompile_3c none ks vs a b = some (nm (Lk vs ⟨a, b, 0⟩), true, ks ++ [⟨a, b, 0⟩]) := by
  unfold S_glossatorlaw3_QuerylangCompile_3c
  rw [if_pos (snoc_len (tr := []) ks h _), lookup_ok hn, Option.bind_some, number_ok]
  rfl
/-! ### the compiled queries -/
theorem clone_ok {q : List G_QOp} (h : q.length * 24 ≤ 140737488355328) : S_slices_Clone_api_QOpE none q = some q := by
  cases q with
  | nil => rfl
  | cons x r =>
    show S_slices_Clone_api_QOp none (x :: r) = _
    unfold S_slices_Clone_api_QOp
    rw [if_pos (by simp), if_pos (by rw [List.nil_append, List.length_map]; exact h), List.nil_append]
theorem compile_ok {p : G_QProgram} (hl : p.f_Queries.length ≤ 4611686018427387904) (hz : p.f_Queries.length * 24 ≤ 140737488355328) (hq : ∀ q ∈ p.f_Queries, q.length * 24 ≤ 140737488355328) :
    S_querylang_Compile none p = some (cspec p == 0, p.f_Queries) := by
  have key : ∀ k i, i + k = p.f_Queries.length → S_querylang_Compile_l1 none p (cspec p) (i : Int) (p.f_Queries.take i ++ List.replicate k []) = some (cspec p == 0, p.f_Queries) := by
    intro k
    induction k with
    | zero =>
      intro i h
      have : i = p.f_Queries.length := by omega
      subst this
      unfold S_querylang_Compile_l1
      rw [loopM_out (x := some (cspec p == 0, p.f_Queries)) ?_]
      unfold S_querylang_Compile_b1 S_querylang_Compile_j1
      rw [if_neg (by simp)]
      simp
    | succ k ih =>
      intro i h
      have hi : i < p.f_Queries.length := by omega
      have := ih (i + 1) (by omega)
      unfold S_querylang_Compile_l1 at this ⊢
      rw [← this]
      refine loopM_inl ?_
      unfold S_querylang_Compile_b1
      have e : (p.f_Queries.take i ++ List.replicate (k + 1) ([] : List G_QOp)).length = p.f_Queries.length := by simp; omega
      simp only
      rw [if_pos (by simpa using hi), if_pos (by simpa using hi), Int.toNat_natCast, getD_at hi, clone_ok (hq _ (List.getElem_mem hi)), Option.bind_some, e, if_pos (by omega), if_pos (by omega), Wi (by omega), Nat.zero_add,
        List.set_append_right _ _ (by simp; omega), List.take_succ_eq_append_getElem hi, List.append_assoc]
      have : i - (p.f_Queries.take i).length = 0 := by simp; omega
      rw [this, List.replicate_succ, List.set_cons_zero]
      rfl
  unfold S_querylang_Compile
  rw [check_ok hl, Option.bind_some, if_pos (by simp; omega), List.length_map, Int.toNat_natCast]
  have := key p.f_Queries.length 0 (by omega)
  simpa using this
theorem evk_len (f : Int → Int → Int) (own : Int) : ∀ (ops : List G_QOp) (st : List Int), (evk f own ops st).length ≤ ops.length
  | [], st => by simp [evk]
  | op :: r, st => by
    have h1 := evk_len f own r (stp f own op st)
    have h2 := stk_len own op st
    simp only [evk, List.length_append, List.length_cons]
    omega
def tk (tr : List (Int × Int)) : List G_QKey := tr.map fun x => ⟨x.1, x.2, 0⟩
theorem tk_snoc (tr : List (Int × Int)) (k a : Int) : tk (tr ++ [(k, a)]) = tk tr ++ [⟨k, a, 0⟩] := by simp [tk]
theorem tk_len (tr : List (Int × Int)) : (tk tr).length = tr.length := by simp [tk]
noncomputable def fK (vs : List G_QValue) (k a : Int) : Int := nm (Lk vs ⟨k, a, 0⟩)
section
variable {p : G_QProgram} {vs : List G_QValue} (hv : Valid p) (hn : vs.length ≤ 4611686018427387904) {q : Nat} (hq : q < p.f_Queries.length)
include hv hn hq
theorem crun_ok : S_querylang_run (fun (s : (List G_QKey)) (x : G_QKey) => (S_querylang_Compile_1_1c_38 none s vs x).map fun o => (o.1, o.2)) none p.f_Queries[q] q [] = some (ev (fK vs) q p.f_Queries[q] [], tk (evk (fK vs) q p.f_Queries[q] [])) := by
  have hr := run_ok (p := p) (own := (q : Int)) (ops := p.f_Queries[q]) (f := fK vs) (fun tr (s : List G_QKey) => s = tk tr) (fun k a _ => nm_rng _) False
    (g0 := fun (s : (List G_QKey)) (x : G_QKey) => (S_querylang_Compile_1_1c_38 none s vs x).map fun o => (o.1, o.2))
    (fun tr s k a htr hs hk => by
      subst hs
      exact .inl ⟨_, rfl, by rw [read_ok hn _ (by rw [tk_len]; omega), tk_snoc]; rfl⟩)
    (hv.l20 _ (List.getElem_mem hq)) (hv.q0 q hq) (s := ([] : List G_QKey)) rfl
  rcases hr with ⟨s', h1, hr⟩ | ⟨hn, _⟩
  · rw [hr, h1]
  · exact hn.elim
theorem cexec_ok : S_glossatorref3_Exec (fun (s : (List G_QKey)) (x : (Int × Int)) => (S_glossatorlaw3_QuerylangCompile_3c none s vs x.1 x.2).map fun o => ((o.1, o.2.1), o.2.2)) none p.f_Queries[q] q [] = some (ev (fK vs) q p.f_Queries[q] [], true, tk (evk (fK vs) q p.f_Queries[q] [])) := by
  obtain ⟨s', h1, h2⟩ := exec_ok (p := p) (own := (q : Int)) (ops := p.f_Queries[q]) (f := fK vs) (fun tr (s : List G_QKey) => s = tk tr)
    (g0 := fun (s : (List G_QKey)) (x : (Int × Int)) => (S_glossatorlaw3_QuerylangCompile_3c none s vs x.1 x.2).map fun o => ((o.1, o.2.1), o.2.2)) (fun k a _ => nm_rng _)
    (fun tr s k a htr hs hk => by
      subst hs
      exact ⟨_, rfl, by simp only; rw [refread_ok hn _ (by rw [tk_len]; omega), tk_snoc]; rfl⟩)
    (hv.l20 _ (List.getElem_mem hq)) (hv.q0 q hq) (s := ([] : List G_QKey)) rfl
  rw [h2, h1]
end
theorem lawK {a0 : G_QProgram} {a1 : G_QKey} {a2 : List G_QValue} (h : okA6 a0 a1 a2) : S_glossatorlaw3_QuerylangCompile none a0 a1 a2 = some true := by
  obtain ⟨⟨_, hp1, hp2, hp3⟩, hk, hv1, hv2, _⟩ := h
  unfold reachBytes at hp2 hv2
  have hl : a0.f_Queries.length ≤ 4611686018427387904 := by omega
  have hn : a2.length ≤ 4611686018427387904 := by omega
  have hq : ∀ q ∈ a0.f_Queries, q.length * 24 ≤ 140737488355328 := fun q hq => by
    have := (hp3 q hq).2.1
    unfold reachBytes at this
    omega
  unfold S_glossatorlaw3_QuerylangCompile
  rw [example_ok, Option.bind_some, if_neg (by simp), compile_ok hl (by omega) hq, Option.bind_some, refcheck_ok hl]
  simp only [Option.bind_some]
  by_cases hb : cspec a0 ≠ 0 ∨ a1.f_Kind ≠ 1 ∨ a1.f_B ≠ 0 ∨ a1.f_A < 0 ∨ a1.f_A ≥ a0.f_Queries.length
  · have e : S_querylang_Compile_1_37 none a1 (cspec a0 == 0) [] a2 a0.f_Queries = some (⟨[], []⟩, []) := by
      unfold S_querylang_Compile_1_37
      rw [if_pos]
      simp only [Bool.or_eq_true, Bool.not_eq_true', beq_eq_false_iff_ne, bne_iff_ne, decide_eq_true_eq]
      rcases hb with h | h | h | h | h
      · exact .inl (.inl (.inl (.inl h)))
      · exact .inl (.inl (.inl (.inr h)))
      · exact .inl (.inl (.inr h))
      · exact .inl (.inr h)
      · exact .inr h
    rw [e, Option.bind_some, if_pos ?_]
    · simp only [List.length_nil, Bool.true_and]
      rw [if_pos (by decide), eqval_ok (by simp)]
      rfl
    · simp only [Bool.or_eq_true, bne_iff_ne, decide_eq_true_eq, List.length_map]
      rcases hb with h | h | h | h | h
      · exact .inl (.inl (.inl (.inl h)))
      · exact .inl (.inl (.inl (.inr h)))
      · exact .inl (.inl (.inr h))
      · exact .inl (.inr h)
      · exact .inr h
  · have hc : cspec a0 = 0 := by
      rcases Decidable.em (cspec a0 = 0) with h | h
      · exact h
      · exact absurd (.inl h) hb
    obtain ⟨kd, ka, kb⟩ := a1
    simp only at hb
    obtain ⟨i, rfl⟩ := Int.eq_ofNat_of_zero_le (show 0 ≤ ka by omega)
    have hi : i < a0.f_Queries.length := by omega
    have hkd : kd = 1 := by omega
    have hkb : kb = 0 := by omega
    subst hkd hkb
    have hV := valid_of hc
    have e : S_querylang_Compile_1_37 none ⟨1, i, 0⟩ (cspec a0 == 0) [] a2 a0.f_Queries = some (⟨[ev (fK a2) i a0.f_Queries[i] []], []⟩, tk (evk (fK a2) i a0.f_Queries[i] [])) := by
      unfold S_querylang_Compile_1_37
      rw [if_neg (by simp [hc]; omega)]
      simp only [Nat.zero_add, Int.toNat_natCast, getD_at hi]
      rw [if_pos (by omega), if_pos hi, crun_ok hV hn hi]
      rfl
    rw [e, Option.bind_some, if_neg (by simp [hc]; omega), if_pos (by simp; omega)]
    simp only [Int.toNat_natCast, getD_at hi]
    rw [cexec_ok hV hn hi]
    simp only [Option.bind_some, Bool.true_and, beq_self_eq_true, if_true]
    have k2 := evk_len (fK a2) i a0.f_Queries[i] []
    have k3 := hV.l20 _ (List.getElem_mem hi)
    rw [equal_ok (by rw [tk_len]; omega), Option.bind_some, if_pos (show (true == true) = true from rfl), eqval_ok (by simp)]
    rfl
end Go.Proofs.Ytjbndlijmgnpnaa
