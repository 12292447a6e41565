/-
  Own text Law1 of this claim: what functions of the given program compute, in plain Lean, and the proof; no condition.
-/
import Derived.Test.YtjbndlijmgnpnaaGenB
import Derived.Test.YtjbndlijmgnpnaaFxP
namespace Go.Proofs.Ytjbndlijmgnpnaa
open Go.Fx
set_option linter.unusedVariables false
theorem example_ok : S_glossatorlaw3_queryExample (some 4096) = some true := by kernel_rfl

theorem Wi {i : Nat} (h : i ≤ 4611686018427387904) : W ((i : Int) + 1) = ((i + 1 : Nat) : Int) := by rw [W_in (by unfold inR; omega)]; omega
theorem getD_at {α : Type} [Inhabited α] {l : List α} {i : Nat} (h : i < l.length) : l.getD i default = l[i] := by
  simp [List.getD_eq_getElem?_getD, h]

/-- what an instruction pops, and whether it is valid -/
noncomputable def eff (p : G_QProgram) (i : Int) (op : G_QOp) : Int × Bool := (S_glossatorref3_effect none p i op).getD (0, false)
theorem eff_ok (p : G_QProgram) (i : Int) (op : G_QOp) : S_glossatorref3_effect none p i op = some (eff p i op) := by
  unfold eff S_glossatorref3_effect
  repeat' split
  all_goals rfl
theorem operands_ok (p : G_QProgram) (i : Int) (op : G_QOp) : S_querylang_operands none p i op = some (eff p i op) := by
  rw [← eff_ok]
  unfold S_querylang_operands S_glossatorref3_effect S_querylang_operands_1
  by_cases h1 : op.f_Op = 1
  · simp [h1]
  by_cases h2 : op.f_Op = 2
  · simp [h2]
  by_cases h3 : op.f_Op = 3
  · by_cases h : op.f_B = 0 <;> simp [h3, h]
  by_cases h4 : op.f_Op = 4
  · simp [h4, Bool.and_comm, Bool.and_left_comm, Bool.and_assoc]
  by_cases h5 : op.f_Op = 5
  · by_cases h : (0 ≤ op.f_A ∧ op.f_A < i)
    · simp [h5, h.1, h.2]
    · have e : (decide (0 ≤ op.f_A) && decide (op.f_A < i)) = false := by simp; omega
      simp only [h5, Option.bind_some, ge_iff_le, e]
      simp
  simp [h1, h2, h3, h4, h5]
theorem eff_pops (p : G_QProgram) (i : Int) (op : G_QOp) : (eff p i op).1 = 0 ∨ (eff p i op).1 = 1 ∨ (eff p i op).1 = 2 := by
  unfold eff S_glossatorref3_effect
  repeat' split
  all_goals simp

/-- the error of a query behind some of its instructions -/
noncomputable def qspec (p : G_QProgram) (i : Int) : List G_QOp → Int → Int
  | [], d => if d ≠ 1 then 3 else 0
  | op :: r, d => if op.f_Op < 1 ∨ op.f_Op ≥ 12 then 7 else if (eff p i op).2 = false ∨ d < (eff p i op).1 then 3 else qspec p i r (d + (1 - (eff p i op).1))

theorem cq_loop {p : G_QProgram} {a1 : Int} {ops : List G_QOp} (ho : p.f_Queries.getD a1.toNat default = ops) (hl : ops.length ≤ 20) :
    ∀ (k i : Nat) (d : Int), i + k = ops.length → 0 ≤ d → d ≤ i → S_querylang_checkQuery_l1 none p a1 d (i : Int) = some (qspec p a1 (ops.drop i) d)
  | 0, i, d, h, _, _ => by
    have : i = ops.length := by omega
    subst this
    unfold S_querylang_checkQuery_l1
    rw [loopM_out (x := some (qspec p a1 [] d)) ?_]
    · simp
    · unfold S_querylang_checkQuery_b1
      simp only [ho]
      rw [if_neg (by simp)]
      unfold S_querylang_checkQuery_j1 qspec
      by_cases hd : d = 1 <;> simp [hd]
  | k + 1, i, d, h, h0, h1 => by
    have hi : i < ops.length := by omega
    have ih := cq_loop ho hl k (i + 1)
    unfold S_querylang_checkQuery_l1 at ih ⊢
    rw [List.drop_eq_getElem_cons hi]
    have e1 := Wi (show i ≤ 4611686018427387904 by omega)
    have hb : S_querylang_checkQuery_b1 none p a1 d (i : Int) = if ops[i].f_Op < 1 ∨ ops[i].f_Op ≥ 12 then some (.inr 7) else if (eff p a1 ops[i]).2 = false ∨ d < (eff p a1 ops[i]).1 then some (.inr 3) else some (.inl (d + (1 - (eff p a1 ops[i]).1), ((i + 1 : Nat) : Int))) := by
      unfold S_querylang_checkQuery_b1
      simp only [ho]
      rw [if_pos (by simpa using hi), if_pos (by simpa using hi)]
      simp only [Int.toNat_natCast, getD_at hi, operands_ok, Option.bind_some, e1]
      have e2 : W (d + W ((1 : Int) - (eff p a1 ops[i]).1)) = d + (1 - (eff p a1 ops[i]).1) := by
        have := eff_pops p a1 ops[i]
        rw [W_add', W_in (by unfold inR; omega)]
      have e3 : (⟨ops[i].f_Op, ops[i].f_A, ops[i].f_B⟩ : G_QOp) = ops[i] := rfl
      rw [e3, e2]
      by_cases hc : ops[i].f_Op < 1 ∨ ops[i].f_Op ≥ 12
      · rw [if_pos (by simpa using hc), if_pos hc]; rfl
      · rw [if_neg (by simpa using hc), if_neg hc]
        by_cases hd : (eff p a1 ops[i]).2 = false ∨ d < (eff p a1 ops[i]).1
        · rw [if_pos (by simpa using hd), if_pos hd]; rfl
        · rw [if_neg (by simpa using hd), if_neg hd]
    rw [qspec]
    by_cases hc : ops[i].f_Op < 1 ∨ ops[i].f_Op ≥ 12
    · rw [loopM_out (x := some 7) (by rw [hb, if_pos hc]; rfl), if_pos hc]
    · by_cases hd : (eff p a1 ops[i]).2 = false ∨ d < (eff p a1 ops[i]).1
      · rw [loopM_out (x := some 3) (by rw [hb, if_neg hc, if_pos hd]; rfl), if_neg hc, if_pos hd]
      · have hp := eff_pops p a1 ops[i]
        have hd2 : ¬ d < (eff p a1 ops[i]).1 := fun h => hd (.inr h)
        rw [loopM_inl (s' := (d + (1 - (eff p a1 ops[i]).1), ((i + 1 : Nat) : Int))) (by rw [hb, if_neg hc, if_neg hd]), if_neg hc, if_neg hd]
        exact ih _ (by omega) (by omega) (by omega)

theorem rq_loop {p : G_QProgram} {a1 : Int} {ops : List G_QOp} (ho : p.f_Queries.getD a1.toNat default = ops) (hl : ops.length ≤ 20) :
    ∀ (k i : Nat) (d : Int), i + k = ops.length → 0 ≤ d → d ≤ i → S_glossatorref3_CheckProgram_l5 none p a1 d (i : Int) = some (if qspec p a1 (ops.drop i) d = 0 then .inl (W (a1 + 1)) else .inr (qspec p a1 (ops.drop i) d))
  | 0, i, d, h, _, _ => by
    have : i = ops.length := by omega
    subst this
    unfold S_glossatorref3_CheckProgram_l5
    rw [loopM_out (x := some (if qspec p a1 [] d = 0 then .inl (W (a1 + 1)) else .inr (qspec p a1 [] d))) ?_]
    · simp
    · unfold S_glossatorref3_CheckProgram_b5
      simp only [ho]
      rw [if_neg (by simp)]
      unfold S_glossatorref3_CheckProgram_j6 S_glossatorref3_CheckProgram_j7 qspec
      by_cases hd : d = 1 <;> simp [hd]
  | k + 1, i, d, h, h0, h1 => by
    have hi : i < ops.length := by omega
    have ih := rq_loop ho hl k (i + 1)
    unfold S_glossatorref3_CheckProgram_l5 at ih ⊢
    rw [List.drop_eq_getElem_cons hi]
    have e1 := Wi (show i ≤ 4611686018427387904 by omega)
    have hb : S_glossatorref3_CheckProgram_b5 none p a1 d (i : Int) = if ops[i].f_Op < 1 ∨ ops[i].f_Op ≥ 12 then some (.inr (.inr 7)) else if (eff p a1 ops[i]).2 = false ∨ d < (eff p a1 ops[i]).1 then some (.inr (.inr 3)) else some (.inl (d + (1 - (eff p a1 ops[i]).1), ((i + 1 : Nat) : Int))) := by
      unfold S_glossatorref3_CheckProgram_b5
      simp only [ho]
      rw [if_pos (by simpa using hi), if_pos (by simpa using hi)]
      simp only [Int.toNat_natCast, getD_at hi, eff_ok, Option.bind_some, e1]
      have e2 : W (W (d - (eff p a1 ops[i]).1) + 1) = d + (1 - (eff p a1 ops[i]).1) := by
        have := eff_pops p a1 ops[i]
        rw [W_add, W_in (by unfold inR; omega)]; omega
      have e3 : (⟨ops[i].f_Op, ops[i].f_A, ops[i].f_B⟩ : G_QOp) = ops[i] := rfl
      rw [e3, e2]
      by_cases hc : ops[i].f_Op < 1 ∨ ops[i].f_Op ≥ 12
      · rw [if_pos (by simp; omega), if_pos hc]; rfl
      · rw [if_neg (by simp; omega), if_neg hc]
        by_cases hd : (eff p a1 ops[i]).2 = false ∨ d < (eff p a1 ops[i]).1
        · rw [if_pos (by simpa using hd), if_pos hd]; rfl
        · rw [if_neg (by simpa using hd), if_neg hd]
    rw [qspec]
    by_cases hc : ops[i].f_Op < 1 ∨ ops[i].f_Op ≥ 12
    · rw [loopM_out (x := some (.inr 7)) (by rw [hb, if_pos hc]; rfl), if_pos hc]; rfl
    · by_cases hd : (eff p a1 ops[i]).2 = false ∨ d < (eff p a1 ops[i]).1
      · rw [loopM_out (x := some (.inr 3)) (by rw [hb, if_neg hc, if_pos hd]; rfl), if_neg hc, if_pos hd]; rfl
      · have hp := eff_pops p a1 ops[i]
        have hd2 : ¬ d < (eff p a1 ops[i]).1 := fun h => hd (.inr h)
        rw [loopM_inl (s' := (d + (1 - (eff p a1 ops[i]).1), ((i + 1 : Nat) : Int))) (by rw [hb, if_neg hc, if_neg hd]), if_neg hc, if_neg hd]
        exact ih _ (by omega) (by omega) (by omega)

/-- the error of the queries from i on -/
noncomputable def pspec (p : G_QProgram) : Nat → List (List G_QOp) → Int
  | _, [] => 0
  | i, q :: r => if qspec p i q 0 = 0 then pspec p (i + 1) r else qspec p i q 0

section
variable {p : G_QProgram} (hl : p.f_Queries.length ≤ 4611686018427387904)
include hl
theorem cp_loop (h20 : ∀ q ∈ p.f_Queries, q.length ≤ 20) : ∀ (k i : Nat), i + k = p.f_Queries.length → S_querylang_Check_l1 none p (i : Int) = some (pspec p i (p.f_Queries.drop i))
  | 0, i, h => by
    have : i = p.f_Queries.length := by omega
    subst this
    unfold S_querylang_Check_l1
    rw [loopM_out (x := some 0) ?_]
    · simp [pspec]
    · unfold S_querylang_Check_b1
      rw [if_neg (by simp)]
      rfl
  | k + 1, i, h => by
    have hi : i < p.f_Queries.length := by omega
    have ih := cp_loop h20 k (i + 1) (by omega)
    unfold S_querylang_Check_l1 at ih ⊢
    rw [List.drop_eq_getElem_cons hi, pspec]
    have hq : S_querylang_checkQuery none p (i : Int) = some (qspec p i p.f_Queries[i] 0) := by
      unfold S_querylang_checkQuery
      rw [if_pos (by simpa using hi)]
      exact cq_loop (p := p) (ops := p.f_Queries[i]) (by simp only [Int.toNat_natCast, getD_at hi]) (h20 _ (List.getElem_mem hi)) p.f_Queries[i].length 0 0 (by omega) (by omega) (by omega)
    have hb : S_querylang_Check_b1 none p (i : Int) = if qspec p i p.f_Queries[i] 0 = 0 then some (.inl ((i + 1 : Nat) : Int)) else some (.inr (qspec p i p.f_Queries[i] 0)) := by
      unfold S_querylang_Check_b1
      rw [if_pos (by simpa using hi), hq, Option.bind_some, Wi (by omega)]
      by_cases h : qspec p i p.f_Queries[i] 0 = 0
      · rw [if_neg (by simp [h]), if_pos h]
      · rw [if_pos (by simpa using h), if_neg h]; rfl
    by_cases h : qspec p i p.f_Queries[i] 0 = 0
    · rw [loopM_inl (s' := ((i + 1 : Nat) : Int)) (by rw [hb, if_pos h]), ih, if_pos h]
    · rw [loopM_out (x := some (qspec p i p.f_Queries[i] 0)) (by rw [hb, if_neg h]; rfl), if_neg h]
theorem rp_loop (h20 : ∀ q ∈ p.f_Queries, q.length ≤ 20) : ∀ (k i : Nat), i + k = p.f_Queries.length → S_glossatorref3_CheckProgram_l4 none p (i : Int) = some (pspec p i (p.f_Queries.drop i))
  | 0, i, h => by
    have : i = p.f_Queries.length := by omega
    subst this
    unfold S_glossatorref3_CheckProgram_l4
    rw [loopM_out (x := some 0) ?_]
    · simp [pspec]
    · unfold S_glossatorref3_CheckProgram_b4
      rw [if_neg (by simp)]
      rfl
  | k + 1, i, h => by
    have hi : i < p.f_Queries.length := by omega
    have ih := rp_loop h20 k (i + 1) (by omega)
    unfold S_glossatorref3_CheckProgram_l4 at ih ⊢
    rw [List.drop_eq_getElem_cons hi, pspec]
    have hb : S_glossatorref3_CheckProgram_b4 none p (i : Int) = if qspec p i p.f_Queries[i] 0 = 0 then some (.inl ((i + 1 : Nat) : Int)) else some (.inr (qspec p i p.f_Queries[i] 0)) := by
      unfold S_glossatorref3_CheckProgram_b4
      rw [if_pos (by simpa using hi), if_pos (by simpa using hi)]
      have := rq_loop (p := p) (a1 := (i : Int)) (ops := p.f_Queries[i]) (by simp only [Int.toNat_natCast, getD_at hi]) (h20 _ (List.getElem_mem hi)) p.f_Queries[i].length 0 0 (by omega) (by omega) (by omega)
      rw [show (((0 : Nat) : Int)) = 0 from rfl] at this
      rw [this, Wi (show i ≤ 4611686018427387904 by omega), List.drop_zero]
      split <;> rfl
    by_cases h : qspec p i p.f_Queries[i] 0 = 0
    · rw [loopM_inl (s' := ((i + 1 : Nat) : Int)) (by rw [hb, if_pos h]), ih, if_pos h]
    · rw [loopM_out (x := some (qspec p i p.f_Queries[i] 0)) (by rw [hb, if_neg h]; rfl), if_neg h]

/-- whether a query is too long -/
noncomputable def long (p : G_QProgram) : Bool := p.f_Queries.any fun q => decide (20 < q.length)
theorem cf_loop : ∀ (k i : Nat), i + k = p.f_Queries.length → ∃ j : Int, S_slices_IndexFunc_api_QOp_l1 (fun (s : Unit) (x : (List G_QOp)) => (S_querylang_Check_1c none x).map fun o => (o, ())) none p.f_Queries (i : Int) () = some (j, ()) ∧ (decide (j ≥ 0) = (p.f_Queries.drop i).any fun q => decide (20 < q.length))
  | 0, i, h => by
    have : i = p.f_Queries.length := by omega
    subst this
    refine ⟨-1, ?_, by simp⟩
    unfold S_slices_IndexFunc_api_QOp_l1
    rw [loopM_out (x := some (-1, ())) ?_]
    unfold S_slices_IndexFunc_api_QOp_b1
    rw [if_neg (by simp)]
    rfl
  | k + 1, i, h => by
    have hi : i < p.f_Queries.length := by omega
    obtain ⟨j, h1, h2⟩ := cf_loop k (i + 1) (by omega)
    unfold S_slices_IndexFunc_api_QOp_l1 at h1 ⊢
    rw [List.drop_eq_getElem_cons hi, List.any_cons]
    have hb : S_slices_IndexFunc_api_QOp_b1 (fun (s : Unit) (x : (List G_QOp)) => (S_querylang_Check_1c none x).map fun o => (o, ())) none p.f_Queries (i : Int) () = if 20 < p.f_Queries[i].length then some (.inr ((i : Int), ())) else some (.inl (((i + 1 : Nat) : Int), ())) := by
      unfold S_slices_IndexFunc_api_QOp_b1 S_querylang_Check_1c
      rw [if_pos (by simpa using hi), if_pos (by simpa using hi)]
      simp only [Int.toNat_natCast, getD_at hi, Option.map_some, Option.bind_some, Wi (show i ≤ 4611686018427387904 by omega)]
      by_cases h : 20 < p.f_Queries[i].length
      · rw [if_pos (by simp; omega), if_pos h]
      · rw [if_neg (by simp; omega), if_neg h]
    by_cases h : 20 < p.f_Queries[i].length
    · exact ⟨i, by rw [loopM_out (x := some ((i : Int), ())) (by rw [hb, if_pos h]; rfl)], by simp [h]⟩
    · exact ⟨j, by rw [loopM_inl (s' := (((i + 1 : Nat) : Int), ())) (by rw [hb, if_neg h]), h1], by rw [h2]; simp [h]⟩
theorem rl_loop : ∀ (k i : Nat) (v : Bool), i + k = p.f_Queries.length → S_glossatorref3_CheckProgram_l1 none p v (i : Int) = S_glossatorref3_CheckProgram_j1 none p (v || (p.f_Queries.drop i).any fun q => decide (20 < q.length))
  | 0, i, v, h => by
    have : i = p.f_Queries.length := by omega
    subst this
    unfold S_glossatorref3_CheckProgram_l1
    rw [loopM_out (x := S_glossatorref3_CheckProgram_j1 none p v) ?_]
    · simp
    unfold S_glossatorref3_CheckProgram_b1
    rw [if_neg (by simp)]
  | k + 1, i, v, h => by
    have hi : i < p.f_Queries.length := by omega
    have ih := rl_loop k (i + 1) (v || decide (20 < p.f_Queries[i].length)) (by omega)
    unfold S_glossatorref3_CheckProgram_l1 at ih ⊢
    rw [List.drop_eq_getElem_cons hi, List.any_cons, ← Bool.or_assoc, ← ih]
    refine loopM_inl ?_
    unfold S_glossatorref3_CheckProgram_b1
    rw [if_pos (by simpa using hi), if_pos (by simpa using hi), Wi (by omega)]
    simp only [Int.toNat_natCast, getD_at hi, List.length_map]
    rw [show decide ((p.f_Queries[i].length : Int) > 20) = decide (20 < p.f_Queries[i].length) from decide_eq_decide.2 (by omega)]

/-- the error of a program -/
noncomputable def cspec (p : G_QProgram) : Int := if p.f_Inputs > 40 ∨ p.f_Queries.length > 40 ∨ (p.f_Queries.any fun q => decide (20 < q.length)) = true then 2 else if p.f_Inputs < 0 then 1 else pspec p 0 p.f_Queries

theorem check_ok : S_querylang_Check none p = some (cspec p) := by
  unfold S_querylang_Check cspec
  by_cases h1 : p.f_Inputs > 40 ∨ p.f_Queries.length > 40
  · have e : (decide (p.f_Inputs > 40) || decide (((p.f_Queries.map e_sl_QOp).length : Int) > 40)) = true := by simp; omega
    rw [e, if_neg (by simp), Option.bind_some, Bool.true_or, if_pos rfl, if_pos (by rcases h1 with h | h <;> simp [h])]
  · have e : (decide (p.f_Inputs > 40) || decide (((p.f_Queries.map e_sl_QOp).length : Int) > 40)) = false := by simp; omega
    rw [e, if_pos (show (false == false) = true from rfl)]
    obtain ⟨j, g1, g2⟩ := cf_loop hl _ 0 (Nat.zero_add _)
    have e2 : S_slices_ContainsFunc_api_QOp (fun (s : Unit) (x : (List G_QOp)) => (S_querylang_Check_1c none x).map fun o => (o, ())) none p.f_Queries () = some ((p.f_Queries.any fun q => decide (20 < q.length)), ()) := by
      unfold S_slices_ContainsFunc_api_QOp S_slices_IndexFunc_api_QOp
      rw [show ((0 : Int)) = ((0 : Nat) : Int) from rfl, g1, Option.bind_some, show (((0 : Nat) : Int)) = (0 : Int) from rfl, g2, List.drop_zero]
    rw [e2, Option.bind_some]
    simp only [Bool.false_or]
    by_cases h2 : (p.f_Queries.any fun q => decide (20 < q.length)) = true
    · rw [if_pos h2, if_pos (.inr (.inr h2))]
    · have h4 : ¬(p.f_Inputs > 40 ∨ p.f_Queries.length > 40 ∨ (p.f_Queries.any fun q => decide (20 < q.length)) = true) := fun h => by rcases h with h | h | h; exact h1 (.inl h); exact h1 (.inr h); exact h2 h
      rw [if_neg h2, if_neg h4]
      by_cases h3 : p.f_Inputs < 0
      · rw [if_pos (decide_eq_true h3), if_pos h3]
      · rw [if_neg (fun h => h3 (of_decide_eq_true h)), if_neg h3]
        have := cp_loop hl (p := p) (fun q hq => by
          rcases Nat.lt_or_ge 20 q.length with h | h
          · exact absurd (List.any_eq_true.2 ⟨q, hq, by simpa using h⟩) h2
          · exact h) _ 0 (Nat.zero_add _)
        simpa using this
theorem refcheck_ok : S_glossatorref3_CheckProgram none p = some (cspec p) := by
  unfold S_glossatorref3_CheckProgram cspec
  rw [show ((0 : Int)) = ((0 : Nat) : Int) from rfl, rl_loop hl _ 0 _ (Nat.zero_add _), List.drop_zero]
  simp only [show (((0 : Nat) : Int)) = (0 : Int) from rfl]
  unfold S_glossatorref3_CheckProgram_j1
  by_cases h1 : p.f_Inputs > 40 ∨ p.f_Queries.length > 40 ∨ (p.f_Queries.any fun q => decide (20 < q.length)) = true
  · rw [if_pos h1, if_pos ?_]
    rcases h1 with h | h | h
    · simp [h]
    · have : decide (((p.f_Queries.map e_sl_QOp).length : Int) > 40) = true := by simp; omega
      rw [this]; simp
    · rw [h]; simp
  · have e : ((decide (p.f_Inputs > 40) || decide (((p.f_Queries.map e_sl_QOp).length : Int) > 40)) || (p.f_Queries.any fun q => decide (20 < q.length))) = false := by
      have h2 : (p.f_Queries.any fun q => decide (20 < q.length)) = false := by
        cases hh : p.f_Queries.any fun q => decide (20 < q.length)
        · rfl
        · exact absurd (.inr (.inr hh)) h1
      rw [h2]; simp; omega
    rw [e, if_neg (by simp), if_neg h1]
    by_cases h3 : p.f_Inputs < 0
    · rw [if_pos (by simpa using h3), if_pos h3]
    · rw [if_neg (by simpa using h3), if_neg h3]
      have := rp_loop hl (p := p) (fun q hq => by
        rcases Nat.lt_or_ge 20 q.length with h | h
        · exact absurd (.inr (.inr (List.any_eq_true.2 ⟨q, hq, by simpa using h⟩))) h1
        · exact h) _ 0 (Nat.zero_add _)
      simpa using this
end
end Go.Proofs.Ytjbndlijmgnpnaa
