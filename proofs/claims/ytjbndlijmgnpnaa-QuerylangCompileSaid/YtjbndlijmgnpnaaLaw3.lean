/-
  Own text Law3 of this claim: what functions of the given program compute, in plain Lean, and the proof; no condition.
-/
import Derived.Test.YtjbndlijmgnpnaaLaw1
namespace Go.Proofs.Ytjbndlijmgnpnaa
open Go.Fx
set_option linter.unusedVariables false
/-! ### numbers -/
noncomputable def red (n : Int) : Int := if n.tmod 1000003 < 0 then n.tmod 1000003 + 1000003 else n.tmod 1000003
def rng (v : Int) : Prop := 0 ≤ v ∧ v < 1000003
theorem red_rng (n : Int) : rng (red n) := by
  have h1 := Int.tmod_lt_of_pos n (show (0 : Int) < 1000003 by decide)
  have h2 := Int.lt_tmod_of_pos n (show (0 : Int) < 1000003 by decide)
  unfold red rng
  split <;> omega
theorem reduce_ok (n : Int) : S_querylang_reduce none n = some (red n) := by
  have h1 := Int.tmod_lt_of_pos n (show (0 : Int) < 1000003 by decide)
  have h2 := Int.lt_tmod_of_pos n (show (0 : Int) < 1000003 by decide)
  unfold S_querylang_reduce S_querylang_reduce_j1 red
  by_cases h : n.tmod 1000003 < 0
  · rw [if_pos (by simpa using h), if_pos h, W_in (by unfold inR; omega)]
  · rw [if_neg (by simpa using h), if_neg h]
theorem Mod_ok (n : Int) : S_glossatorref3_Mod none n 1000003 = some (red n) := by
  have h1 := Int.tmod_lt_of_pos n (show (0 : Int) < 1000003 by decide)
  have h2 := Int.lt_tmod_of_pos n (show (0 : Int) < 1000003 by decide)
  unfold S_glossatorref3_Mod S_glossatorref3_Mod_j1 red
  rw [if_pos (by decide)]
  by_cases h : n.tmod 1000003 < 0
  · rw [if_pos (by simpa using h), if_pos h, W_in (by unfold inR; omega)]
  · rw [if_neg (by simpa using h), if_neg h]
noncomputable def bin (op x y : Int) : Int :=
  if op = 6 then red (W (x + y)) else if op = 7 then red (W (x - y)) else if op = 8 then red (W (x * y)) else if op = 9 then (if y < x then y else x) else if op = 10 then (if y > x then y else x) else if x < y then 1 else 0
theorem binary_ok (op x y : Int) : S_querylang_binary none op x y = some (bin op x y) := by
  unfold S_querylang_binary bin
  simp only [beq_iff_eq, reduce_ok, Option.bind_some, decide_eq_true_eq]
  repeat' split
  all_goals rfl
theorem bin_rng {op x y : Int} (hx : rng x) (hy : rng y) : rng (bin op x y) := by
  unfold bin
  repeat' split
  all_goals first | exact red_rng _ | exact hx | exact hy | (unfold rng; omega)

/-! ### a query on a stack -/
def vkey (p : G_QProgram) (own kind a : Int) : Prop := (kind = 0 ∧ 0 ≤ a ∧ a < p.f_Inputs) ∨ (kind = 1 ∧ 0 ≤ a ∧ a < own)
noncomputable def stp (f : Int → Int → Int) (own : Int) (op : G_QOp) (st : List Int) : List Int :=
  if op.f_Op = 1 then red op.f_A :: st
  else if op.f_Op = 2 then f 0 op.f_A :: st
  else if op.f_Op = 3 then f 1 op.f_A :: st
  else if op.f_Op = 4 then f 1 ((st.headD 0).tmod own) :: st.tail
  else if op.f_Op = 5 then f 1 (if st.headD 0 = 0 then op.f_B else op.f_A) :: st.tail
  else bin op.f_Op (st.tail.headD 0) (st.headD 0) :: st.tail.tail
noncomputable def ev (f : Int → Int → Int) (own : Int) : List G_QOp → List Int → Int
  | [], st => st.headD 0
  | op :: r, st => ev f own r (stp f own op st)

/-- the keys that an instruction reads, that a query reads -/
noncomputable def stk (own : Int) (op : G_QOp) (st : List Int) : List (Int × Int) :=
  if op.f_Op = 2 then [(0, op.f_A)] else if op.f_Op = 3 then [(1, op.f_A)] else if op.f_Op = 4 then [(1, (st.headD 0).tmod own)] else if op.f_Op = 5 then [(1, if st.headD 0 = 0 then op.f_B else op.f_A)] else []
noncomputable def evk (f : Int → Int → Int) (own : Int) : List G_QOp → List Int → List (Int × Int)
  | [], _ => []
  | op :: r, st => stk own op st ++ evk f own r (stp f own op st)

theorem stk_len (own : Int) (op : G_QOp) (st : List Int) : (stk own op st).length ≤ 1 := by
  unfold stk
  repeat' split
  all_goals simp

theorem tmod_key {p : G_QProgram} {own y : Int} (hy : rng y) (ho : 0 < own) : vkey p own 1 (y.tmod own) := by
  refine .inr ⟨rfl, Int.tmod_nonneg _ hy.1, Int.tmod_lt_of_pos _ ho⟩

/-- what a valid instruction is, case by case -/
theorem op_cases {p : G_QProgram} {own : Int} {op : G_QOp} {d : Int} (h1 : ¬ (op.f_Op < 1 ∨ op.f_Op ≥ 12)) (h2 : ¬ ((eff p own op).2 = false ∨ d < (eff p own op).1)) :
    (op.f_Op = 1 ∧ (eff p own op).1 = 0) ∨ (op.f_Op = 2 ∧ (eff p own op).1 = 0 ∧ vkey p own 0 op.f_A) ∨ (op.f_Op = 3 ∧ (eff p own op).1 = 0 ∧ vkey p own 1 op.f_A) ∨
    (op.f_Op = 4 ∧ (eff p own op).1 = 1 ∧ 0 < own ∧ 1 ≤ d) ∨ (op.f_Op = 5 ∧ (eff p own op).1 = 1 ∧ vkey p own 1 op.f_A ∧ vkey p own 1 op.f_B ∧ 1 ≤ d) ∨
    ((op.f_Op = 6 ∨ op.f_Op = 7 ∨ op.f_Op = 8 ∨ op.f_Op = 9 ∨ op.f_Op = 10 ∨ op.f_Op = 11) ∧ (eff p own op).1 = 2 ∧ 2 ≤ d) := by
  have h3 : (eff p own op).2 = true := by
    cases h : (eff p own op).2
    · exact absurd (.inl h) h2
    · rfl
  have h4 : ¬ d < (eff p own op).1 := fun h => h2 (.inr h)
  unfold eff S_glossatorref3_effect at h3 h4 ⊢
  unfold vkey
  by_cases e1 : op.f_Op = 1
  · simp [e1]
  by_cases e2 : op.f_Op = 2
  · simp [e2] at h3 ⊢; omega
  by_cases e3 : op.f_Op = 3
  · simp [e3] at h3 ⊢; omega
  by_cases e4 : op.f_Op = 4
  · simp [e4] at h3 h4 ⊢; omega
  by_cases e5 : op.f_Op = 5
  · simp [e5] at h3 h4 ⊢; omega
  simp [e1, e2, e3, e4, e5] at h3 h4 ⊢
  omega

theorem stp_ok {p : G_QProgram} {own : Int} {op : G_QOp} {st : List Int} {f : Int → Int → Int} (hf : ∀ k a, vkey p own k a → rng (f k a)) (h1 : ¬ (op.f_Op < 1 ∨ op.f_Op ≥ 12)) (h2 : ¬ ((eff p own op).2 = false ∨ (st.length : Int) < (eff p own op).1))
    (hst : ∀ v ∈ st, rng v) : ((stp f own op st).length : Int) = st.length + (1 - (eff p own op).1) ∧ ∀ v ∈ stp f own op st, rng v := by
  have hc := op_cases h1 h2
  match st, hst, hc with
  | [], hst, hc =>
    rcases hc with ⟨e, e'⟩ | ⟨e, e', hk⟩ | ⟨e, e', hk⟩ | ⟨e, e', ho, hd⟩ | ⟨e, e', hA, hB, hd⟩ | ⟨e, e', hd⟩ <;> try (simp at hd; done)
    · simp [stp, e, e', red_rng]
    · simp [stp, e, e', hf _ _ hk]
    · simp [stp, e, e', hf _ _ hk]
  | [y], hst, hc =>
    have hy : rng y := hst y (by simp)
    rcases hc with ⟨e, e'⟩ | ⟨e, e', hk⟩ | ⟨e, e', hk⟩ | ⟨e, e', ho, hd⟩ | ⟨e, e', hA, hB, hd⟩ | ⟨e, e', hd⟩ <;> try (simp at hd; done)
    · simp [stp, e, e', red_rng, hy]
    · simp [stp, e, e', hf _ _ hk, hy]
    · simp [stp, e, e', hf _ _ hk, hy]
    · simp [stp, e, e', hf _ _ (tmod_key hy ho)]
    · have : rng (f 1 (if y = 0 then op.f_B else op.f_A)) := by split; exact hf _ _ hB; exact hf _ _ hA
      simp [stp, e, e', this]
  | y :: x :: st, hst, hc =>
    have hy : rng y := hst y (by simp)
    have hx : rng x := hst x (by simp)
    have hr : ∀ v ∈ st, rng v := fun v hv => hst v (by simp [hv])
    rcases hc with ⟨e, e'⟩ | ⟨e, e', hk⟩ | ⟨e, e', hk⟩ | ⟨e, e', ho, hd⟩ | ⟨e, e', hA, hB, hd⟩ | ⟨e, e', hd⟩
    · simp [stp, e, e', red_rng, hy, hx]; exact hr
    · simp [stp, e, e', hf _ _ hk, hy, hx]; exact hr
    · simp [stp, e, e', hf _ _ hk, hy, hx]; exact hr
    · simp [stp, e, e', hf _ _ (tmod_key hy ho), hx]; exact hr
    · have : rng (f 1 (if y = 0 then op.f_B else op.f_A)) := by split; exact hf _ _ hB; exact hf _ _ hA
      simp [stp, e, e', hx, this]; exact hr
    · have e1 : op.f_Op ≠ 1 ∧ op.f_Op ≠ 2 ∧ op.f_Op ≠ 3 ∧ op.f_Op ≠ 4 ∧ op.f_Op ≠ 5 := by omega
      simp [stp, e1, e', bin_rng hx hy]
      exact ⟨by omega, hr⟩

theorem qspec_cons {p : G_QProgram} {own d : Int} {op : G_QOp} {r : List G_QOp} (h : qspec p own (op :: r) d = 0) :
    ¬ (op.f_Op < 1 ∨ op.f_Op ≥ 12) ∧ ¬ ((eff p own op).2 = false ∨ d < (eff p own op).1) ∧ qspec p own r (d + (1 - (eff p own op).1)) = 0 := by
  rw [qspec] at h
  split at h
  · cases h
  · split at h
    · cases h
    · exact ⟨by assumption, by assumption, h⟩
theorem ev_rng {p : G_QProgram} {own : Int} {f : Int → Int → Int} (hf : ∀ k a, vkey p own k a → rng (f k a)) : ∀ (ops : List G_QOp) (st : List Int), qspec p own ops st.length = 0 → (∀ v ∈ st, rng v) → rng (ev f own ops st)
  | [], st, h, hst => by
    unfold ev
    cases st with
    | nil => simp [rng]
    | cons v r => exact hst v (by simp)
  | op :: r, st, h, hst => by
    obtain ⟨h1, h2, h3⟩ := qspec_cons h
    obtain ⟨g1, g2⟩ := stp_ok hf h1 h2 hst
    exact ev_rng hf r _ (by rw [g1]; exact h3) g2

/-! ### the program's run -/
theorem pop1 (y : Int) (st : List Int) (h : st.length ≤ 4611686018427387904) : S_querylang_run_1 none (y :: st).reverse = some (y, st.length) := by
  unfold S_querylang_run_1
  have e : W ((((y :: st).reverse.length : Nat) : Int) - 1) = st.length := by
    rw [W_in (by unfold inR; simp; omega)]; simp
  simp only [e]
  rw [if_pos (by simp; omega), if_pos (by simp), if_pos (by simp; omega)]
  simp
theorem pop2 (y : Int) (l l' : List Int) (h : l.length ≤ 4611686018427387904) : S_querylang_run_1_43 none (l.length + 1) (l ++ y :: l') = some (y, l.length) := by
  unfold S_querylang_run_1_43
  have e : W ((((l.length + 1) : Nat) : Int) - 1) = l.length := by
    rw [W_in (by unfold inR; omega)]; omega
  simp only [e]
  rw [if_pos (by omega), if_pos (by simp), if_pos (by omega)]
  simp

section
variable {σ : Type} {g0 : σ → G_QKey → Option (Int × σ)} {p : G_QProgram} {own : Int} {ops : List G_QOp} {f : Int → Int → Int} (Good : List (Int × Int) → σ → Prop) (hf : ∀ k a, vkey p own k a → rng (f k a))
  (Part : Prop) (hg : ∀ tr s k a, tr.length ≤ 20 → Good tr s → vkey p own k a → (∃ s', Good (tr ++ [(k, a)]) s' ∧ g0 s ⟨k, a, 0⟩ = some (f k a, s')) ∨ (Part ∧ g0 s ⟨k, a, 0⟩ = none)) (hl : ops.length ≤ 20)
include hf hg hl
theorem run_round {i : Nat} (hi : i < ops.length) {st : List Int} {s : σ} (h1 : ¬ (ops[i].f_Op < 1 ∨ ops[i].f_Op ≥ 12)) (h2 : ¬ ((eff p own ops[i]).2 = false ∨ (st.length : Int) < (eff p own ops[i]).1)) (hst : ∀ v ∈ st, rng v) (hle : st.length ≤ i) {tr : List (Int × Int)} (htr : tr.length ≤ i) (hs : Good tr s) :
    (∃ s', Good (tr ++ stk own ops[i] st) s' ∧ S_querylang_run_b1 g0 none ops own (i : Int) st.reverse s = some (.inl (((i + 1 : Nat) : Int), (stp f own ops[i] st).reverse, s'))) ∨ (Part ∧ S_querylang_run_b1 g0 none ops own (i : Int) st.reverse s = none) := by
  have _ := hf
  have e1 := Wi (show i ≤ 4611686018427387904 by omega)
  have e3 : (⟨ops[i].f_Op, ops[i].f_A, ops[i].f_B⟩ : G_QOp) = ops[i] := rfl
  unfold S_querylang_run_b1
  rw [if_pos (by simpa using hi), if_pos (by simpa using hi)]
  simp only [Int.toNat_natCast, getD_at hi, S_querylang_run_j5, S_querylang_run_j6, e1, e3]
  have bd : ∀ (l : List Int), l.length ≤ 30 → (l.map e_i64).length * 8 ≤ 140737488355328 := fun l h => by simp; omega
  rcases op_cases h1 h2 with ⟨e, e'⟩ | ⟨e, e', hk⟩ | ⟨e, e', hk⟩ | ⟨e, e', ho, hd⟩ | ⟨e, e', hA, hB, hd⟩ | ⟨e, e', hd⟩
  · refine .inl ⟨s, by simp [stk, e]; exact hs, ?_⟩
    simp only [e, S_querylang_operandKey, stp]
    simp only [Int.reduceEq, Int.reduceBEq, Bool.or_self, Bool.false_eq_true, if_false, if_true, Bool.false_and, Option.bind_some, reduce_ok, beq_self_eq_true]
    rw [if_pos (by simp), if_pos (bd _ (by simp; omega))]
    simp [List.take_of_length_le]
  · rcases hg tr s _ _ (by omega) hs hk with ⟨s', g1, g2⟩ | ⟨g1, g2⟩
    · refine .inl ⟨s', by simp only [stk, e]; exact g1, ?_⟩
      simp only [e, S_querylang_operandKey, stp]
      simp only [Int.reduceEq, Int.reduceBEq, Bool.or_self, Bool.false_eq_true, if_false, if_true, Bool.false_and, Option.bind_some, beq_self_eq_true, g2]
      rw [if_pos (by simp), if_pos (bd _ (by simp; omega))]
      simp [List.take_of_length_le]
    · refine .inr ⟨g1, ?_⟩
      simp only [e, S_querylang_operandKey, stp]
      simp only [Int.reduceEq, Int.reduceBEq, Bool.or_self, Bool.false_eq_true, if_false, if_true, Bool.false_and, Option.bind_some, Option.bind_none, beq_self_eq_true, g2]
  · rcases hg tr s _ _ (by omega) hs hk with ⟨s', g1, g2⟩ | ⟨g1, g2⟩
    · refine .inl ⟨s', by simp only [stk, e]; exact g1, ?_⟩
      simp only [e, S_querylang_operandKey, stp]
      simp only [Int.reduceEq, Int.reduceBEq, Bool.or_self, Bool.false_eq_true, if_false, if_true, Bool.false_and, Option.bind_some, beq_self_eq_true, g2]
      rw [if_pos (by simp), if_pos (bd _ (by simp; omega))]
      simp [List.take_of_length_le]
    · refine .inr ⟨g1, ?_⟩
      simp only [e, S_querylang_operandKey, stp]
      simp only [Int.reduceEq, Int.reduceBEq, Bool.or_self, Bool.false_eq_true, if_false, if_true, Bool.false_and, Option.bind_some, Option.bind_none, beq_self_eq_true, g2]
  · match st, hst, hle, hd with
    | y :: st, hst, hle, hd =>
      simp only [List.length_cons] at hle
      rcases hg tr s _ _ (by omega) hs (tmod_key (hst y (by simp)) ho) with ⟨s', g1, g2⟩ | ⟨g1, g2⟩
      · refine .inl ⟨s', by simp only [stk, e]; exact g1, ?_⟩
        simp only [e, S_querylang_operandKey, stp]
        simp only [Int.reduceEq, Int.reduceBEq, Bool.or_self, Bool.false_eq_true, if_false, if_true, Bool.false_and, Bool.true_or, beq_self_eq_true]
        rw [pop1 _ _ (by omega), Option.bind_some, if_pos (show own ≠ 0 by omega)]
        simp only [Option.bind_some, if_true, g2]
        rw [if_pos (by simp), if_pos (bd _ (by simp; omega))]
        simp
      · refine .inr ⟨g1, ?_⟩
        simp only [e, S_querylang_operandKey, stp]
        simp only [Int.reduceEq, Int.reduceBEq, Bool.or_self, Bool.false_eq_true, if_false, if_true, Bool.false_and, Bool.true_or, beq_self_eq_true]
        rw [pop1 _ _ (by omega), Option.bind_some, if_pos (show own ≠ 0 by omega)]
        simp only [Option.bind_some, Option.bind_none, if_true, g2]
  · match st, hst, hle, hd with
    | y :: st, hst, hle, hd =>
      simp only [List.length_cons] at hle
      have hk : vkey p own 1 (if y = 0 then ops[i].f_B else ops[i].f_A) := by split; exact hB; exact hA
      have e4 : (if (y != 0) = true then some ((⟨1, ops[i].f_A, 0⟩ : G_QKey), true) else some ((⟨1, ops[i].f_B, 0⟩ : G_QKey), true)) = some ((⟨1, if y = 0 then ops[i].f_B else ops[i].f_A, 0⟩ : G_QKey), true) := by
        by_cases hy : y = 0 <;> simp [hy]
      rcases hg tr s _ _ (by omega) hs hk with ⟨s', g1, g2⟩ | ⟨g1, g2⟩
      · refine .inl ⟨s', by simp only [stk, e]; exact g1, ?_⟩
        simp only [e, S_querylang_operandKey, stp]
        simp only [Int.reduceEq, Int.reduceBEq, Bool.or_true, Bool.false_eq_true, if_false, if_true, beq_self_eq_true, Bool.true_and]
        rw [pop1 _ _ (by omega), Option.bind_some, e4]
        simp only [Option.bind_some, if_true, g2]
        rw [if_pos (by simp), if_pos (bd _ (by simp; omega))]
        simp
      · refine .inr ⟨g1, ?_⟩
        simp only [e, S_querylang_operandKey, stp]
        simp only [Int.reduceEq, Int.reduceBEq, Bool.or_true, Bool.false_eq_true, if_false, if_true, beq_self_eq_true, Bool.true_and]
        rw [pop1 _ _ (by omega), Option.bind_some, e4]
        simp only [Option.bind_some, Option.bind_none, if_true, g2]
  · match st, hst, hle, hd with
    | [y], hst, hle, hd => simp at hd
    | y :: x :: st, hst, hle, hd =>
      simp only [List.length_cons] at hle
      have k : ops[i].f_Op ≠ 1 ∧ ops[i].f_Op ≠ 2 ∧ ops[i].f_Op ≠ 3 ∧ ops[i].f_Op ≠ 4 ∧ ops[i].f_Op ≠ 5 := by omega
      refine .inl ⟨s, by simp [stk, k]; exact hs, ?_⟩
      have k1 : (ops[i].f_Op == 1) = false := beq_false_of_ne k.1
      have k2 : (ops[i].f_Op == 2) = false := beq_false_of_ne k.2.1
      have k3 : (ops[i].f_Op == 3) = false := beq_false_of_ne k.2.2.1
      have k4 : (ops[i].f_Op == 4) = false := beq_false_of_ne k.2.2.2.1
      have k5 : (ops[i].f_Op == 5) = false := beq_false_of_ne k.2.2.2.2
      simp only [S_querylang_operandKey, k1, k2, k3, k4, k5, Bool.or_self, Bool.false_eq_true, if_false, Bool.false_and, Option.bind_some]
      have f1 : (y :: x :: st).reverse = (x :: st).reverse ++ y :: [] := by simp
      have f2 : (y :: x :: st).reverse = st.reverse ++ x :: [y] := by simp
      have p1 : S_querylang_run_1_43 none (y :: x :: st).reverse.length (y :: x :: st).reverse = some (y, st.length + 1) := by
        have := pop2 y (x :: st).reverse [] (by simp; omega)
        rw [← f1] at this
        simpa using this
      have p2 : S_querylang_run_1_43 none (st.length + 1) (y :: x :: st).reverse = some (x, st.length) := by
        have := pop2 x st.reverse [y] (by simp; omega)
        rw [← f2] at this
        simpa using this
      simp only [p1, p2, Option.bind_some, binary_ok]
      rw [if_pos (by simp), if_pos (bd _ (by simp; omega))]
      simp [stp, k]

theorem run_loop : ∀ (k i : Nat) (st : List Int) (s : σ) (tr : List (Int × Int)), tr.length ≤ i → i + k = ops.length → qspec p own (ops.drop i) st.length = 0 → (∀ v ∈ st, rng v) → st.length ≤ i → Good tr s →
    (∃ s', Good (tr ++ evk f own (ops.drop i) st) s' ∧ S_querylang_run_l1 g0 none ops own (i : Int) st.reverse s = some (ev f own (ops.drop i) st, s')) ∨ (Part ∧ S_querylang_run_l1 g0 none ops own (i : Int) st.reverse s = none)
  | 0, i, st, s, tr, htr, h, hq, hst, hle, hs => by
    have : i = ops.length := by omega
    subst this
    rw [List.drop_length] at hq ⊢
    rw [qspec] at hq
    have hd : st.length = 1 := by
      split at hq
      · cases hq
      · omega
    match st, hd with
    | [v], _ =>
      refine .inl ⟨s, by simp [evk]; exact hs, ?_⟩
      unfold S_querylang_run_l1
      rw [loopM_out (x := some (v, s)) ?_]
      · rfl
      · unfold S_querylang_run_b1 S_querylang_run_j7
        rw [if_neg (by simp), if_pos (by simp), if_pos (by simp)]
        rfl
  | k + 1, i, st, s, tr, htr, h, hq, hst, hle, hs => by
    have hi : i < ops.length := by omega
    rw [List.drop_eq_getElem_cons hi] at hq ⊢
    obtain ⟨h1, h2, h3⟩ := qspec_cons hq
    rcases run_round Good hf Part hg hl hi h1 h2 hst hle htr hs with ⟨s', g1, g2⟩ | ⟨g1, g2⟩
    · obtain ⟨k1, k2⟩ := stp_ok hf h1 h2 hst
      have hp := eff_pops p own ops[i]
      rcases run_loop k (i + 1) (stp f own ops[i] st) s' _ (by have := stk_len own ops[i] st; simp; omega) (by omega) (by rw [k1]; exact h3) k2 (by omega) g1 with ⟨s'', q1, q2⟩ | ⟨q1, q2⟩
      · refine .inl ⟨s'', by rw [evk, ← List.append_assoc]; exact q1, ?_⟩
        unfold S_querylang_run_l1 at q2 ⊢
        rw [loopM_inl (s' := (((i + 1 : Nat) : Int), (stp f own ops[i] st).reverse, s')) g2, q2]
        rfl
      · refine .inr ⟨q1, ?_⟩
        unfold S_querylang_run_l1 at q2 ⊢
        rw [loopM_inl (s' := (((i + 1 : Nat) : Int), (stp f own ops[i] st).reverse, s')) g2, q2]
    · refine .inr ⟨g1, ?_⟩
      unfold S_querylang_run_l1
      rw [loopM_eq, g2]
theorem run_ok (hq : qspec p own ops 0 = 0) {s : σ} (hs : Good [] s) : (∃ s', Good (evk f own ops []) s' ∧ S_querylang_run g0 none ops own s = some (ev f own ops [], s')) ∨ (Part ∧ S_querylang_run g0 none ops own s = none) := by
  have := run_loop Good hf Part hg hl ops.length 0 [] s [] (by simp) (by omega) (by simpa using hq) (by simp) (by simp) hs
  simpa [S_querylang_run] using this
end

/-! ### the reference's run -/
section
variable {σ : Type} {g0 : σ → (Int × Int) → Option ((Int × Bool) × σ)} {p : G_QProgram} {own : Int} {ops : List G_QOp} {f : Int → Int → Int} (Good : List (Int × Int) → σ → Prop) (hf : ∀ k a, vkey p own k a → rng (f k a))
  (hg : ∀ tr s k a, tr.length ≤ 20 → Good tr s → vkey p own k a → ∃ s', Good (tr ++ [(k, a)]) s' ∧ g0 s (k, a) = some ((f k a, true), s')) (hl : ops.length ≤ 20)
include hf hg hl
theorem exec_round {i : Nat} (hi : i < ops.length) {st arr : List Int} {s : σ} {tr : List (Int × Int)} (htr : tr.length ≤ i) (hs : Good tr s) (h1 : ¬ (ops[i].f_Op < 1 ∨ ops[i].f_Op ≥ 12)) (h2 : ¬ ((eff p own ops[i]).2 = false ∨ (st.length : Int) < (eff p own ops[i]).1)) (hst : ∀ v ∈ st, rng v) (hle : st.length ≤ i)
    (ha : arr.length = 24) (hat : arr.take st.length = st.reverse) :
    ∃ arr' s', Good (tr ++ stk own ops[i] st) s' ∧ arr'.length = 24 ∧ arr'.take (stp f own ops[i] st).length = (stp f own ops[i] st).reverse ∧ S_glossatorref3_Exec_b1 g0 none ops own (st.length : Int) (i : Int) arr s = some (.inl (((stp f own ops[i] st).length : Int), ((i + 1 : Nat) : Int), arr', s')) := by
  have _ := hf
  have e1 := Wi (show i ≤ 4611686018427387904 by omega)
  have hset : ∀ (n : Nat) (v : Int) (r : List Int), n = r.length → n ≤ st.length → arr.take n = r.reverse → (arr.set n v).length = 24 ∧ (arr.set n v).take (v :: r).length = (v :: r).reverse := by
    intro n v r hn hle' hr
    refine ⟨by simpa using ha, ?_⟩
    subst hn
    rw [List.length_cons, List.reverse_cons, ← hr, List.take_set, List.take_succ_eq_append_getElem (by omega), List.set_append_right _ _ (by simp; omega)]
    simp [ha, show min r.length 24 = r.length by omega]
  have htk : ∀ n, n ≤ st.length → arr.take n = (st.drop (st.length - n)).reverse := by
    intro n hn
    have : arr.take n = (arr.take st.length).take n := by rw [List.take_take, Nat.min_eq_left hn]
    rw [this, hat, List.take_reverse]
  have hget : ∀ (n : Nat), n < st.length → arr.getD n default = st.getD (st.length - 1 - n) 0 := by
    intro n hn
    have e : arr[n]? = (arr.take st.length)[n]? := by rw [List.getElem?_take_of_lt hn]
    rw [List.getD_eq_getElem?_getD, e, hat, List.getElem?_reverse hn, List.getD_eq_getElem?_getD]
    have : st.length - 1 - n < st.length := by omega
    rw [List.getElem?_eq_getElem this]; rfl
  have j12 : ∀ (pops result : Int) (n : Nat) (s : σ), ((st.length : Int) - pops = n) → n ≤ st.length → S_glossatorref3_Exec_j12 g0 none ops own (st.length : Int) (i : Int) arr pops result s = some (.inl (((n + 1 : Nat) : Int), ((i + 1 : Nat) : Int), arr.set n result, s)) := by
    intro pops result n s hn hle'
    have e2 : W ((st.length : Int) - pops) = n := by rw [hn, W_in (by unfold inR; omega)]
    unfold S_glossatorref3_Exec_j12
    rw [e2, if_pos (by omega), if_pos (by simp; omega), e1, Wi (by omega)]
    simp
  have hy : ∃ y : Int, y = st.headD 0 ∧ ∀ K : Int → Option ((Int × Int × (List Int) × σ) ⊕ (Int × Bool × σ)), (if (decide ((st.length : Int) > 0)) = true then (if (0 : Int) ≤ (W ((st.length : Int) - 1)) ∧ (W ((st.length : Int) - 1)) < ((24 : Nat) : Int) then (if (0 + (W ((st.length : Int) - 1)).toNat) < arr.length then K (arr.getD (0 + (W ((st.length : Int) - 1)).toNat) default) else none) else none) else K 0) = K y := by
    refine ⟨_, rfl, fun K => ?_⟩
    cases st with
    | nil => simp
    | cons y r =>
      simp only [List.length_cons] at hle
      have e2 : W (((y :: r).length : Int) - 1) = r.length := by rw [List.length_cons, W_in (by unfold inR; omega)]; omega
      rw [e2, if_pos (by simp), if_pos (by omega), if_pos (by simp; omega), Nat.zero_add, Int.toNat_natCast, hget _ (by simp)]
      simp
  have hx : ∃ x : Int, x = st.tail.headD 0 ∧ ∀ K : Int → Option ((Int × Int × (List Int) × σ) ⊕ (Int × Bool × σ)), (if (decide ((st.length : Int) > 1)) = true then (if (0 : Int) ≤ (W ((st.length : Int) - 2)) ∧ (W ((st.length : Int) - 2)) < ((24 : Nat) : Int) then (if (0 + (W ((st.length : Int) - 2)).toNat) < arr.length then K (arr.getD (0 + (W ((st.length : Int) - 2)).toNat) default) else none) else none) else K 0) = K x := by
    refine ⟨_, rfl, fun K => ?_⟩
    match st, hget, hle with
    | [], _, _ => simp
    | [y], _, _ => simp
    | y :: x :: r, hget, hle =>
      simp only [List.length_cons] at hle
      have e2 : W (((y :: x :: r).length : Int) - 2) = r.length := by rw [List.length_cons, List.length_cons, W_in (by unfold inR; omega)]; omega
      rw [e2, if_pos (by simp; omega), if_pos (by omega), if_pos (by simp; omega), Nat.zero_add, Int.toNat_natCast, hget _ (by simp; omega)]
      simp
  obtain ⟨y, ey, hy⟩ := hy
  obtain ⟨x, ex, hx⟩ := hx
  unfold S_glossatorref3_Exec_b1
  rw [if_pos (by simpa using hi), if_pos (by simpa using hi), hy]
  unfold S_glossatorref3_Exec_j9
  rw [hx]
  unfold S_glossatorref3_Exec_j10
  simp only [Int.toNat_natCast, getD_at hi, Mod_ok, Option.bind_some]
  unfold S_glossatorref3_Exec_j11
  have fin : ∀ (n : Nat) (v : Int) (r : List Int) (s1 : σ), Good (tr ++ stk own ops[i] st) s1 → n = r.length → n ≤ st.length → arr.take n = r.reverse → ∃ arr' s', Good (tr ++ stk own ops[i] st) s' ∧ arr'.length = 24 ∧ arr'.take (v :: r).length = (v :: r).reverse ∧
      some (Sum.inl (((n + 1 : Nat) : Int), ((i + 1 : Nat) : Int), arr.set n v, s1)) = (some (.inl (((v :: r).length : Int), ((i + 1 : Nat) : Int), arr', s')) : Option ((Int × Int × (List Int) × σ) ⊕ (Int × Bool × σ))) := by
    intro n v r s1 hs1 hn hle' hr
    obtain ⟨q1, q2⟩ := hset n v r hn hle' hr
    refine ⟨_, s1, hs1, q1, q2, ?_⟩
    rw [List.length_cons, ← hn]
  have t1 : arr.take (st.length - 1) = st.tail.reverse := by
    cases st with
    | nil => simp
    | cons y r => rw [htk _ (by simp)]; simp
  have t2 : arr.take (st.length - 2) = st.tail.tail.reverse := by
    match st, htk with
    | [], _ => simp
    | [y], _ => simp
    | y :: x :: r, htk =>
      rw [htk _ (by simp; omega)]
      have : (y :: x :: r).length - ((y :: x :: r).length - 2) = 2 := by simp only [List.length_cons]; omega
      rw [this]; rfl
  rcases op_cases h1 h2 with ⟨e, e'⟩ | ⟨e, e', hk⟩ | ⟨e, e', hk⟩ | ⟨e, e', ho, hd⟩ | ⟨e, e', hA, hB, hd⟩ | ⟨e, e', hd⟩
  · have gk : Good (tr ++ stk own ops[i] st) s := by simp [stk, e]; exact hs
    simp only [e, stp]
    simp only [Int.reduceEq, Int.reduceBEq, Bool.false_eq_true, if_false, if_true, beq_self_eq_true, decide_false, Int.reduceNeg, ge_iff_le, Int.reduceLE]
    rw [j12 0 _ st.length _ (by omega) (by omega)]
    exact fin _ _ _ _ gk rfl (by omega) hat
  · obtain ⟨s', g1, g2⟩ := hg tr s _ _ (by omega) hs hk
    have gk : Good (tr ++ stk own ops[i] st) s' := by simp only [stk, e]; exact g1
    simp only [e, stp]
    simp only [Int.reduceEq, Int.reduceBEq, Bool.false_eq_true, if_false, if_true, beq_self_eq_true, ge_iff_le, Int.le_refl, decide_true, g2, Option.bind_some, Bool.not_true]
    rw [j12 0 _ st.length _ (by omega) (by omega)]
    exact fin _ _ _ _ gk rfl (by omega) hat
  · obtain ⟨s', g1, g2⟩ := hg tr s _ _ (by omega) hs hk
    have gk : Good (tr ++ stk own ops[i] st) s' := by simp only [stk, e]; exact g1
    simp only [e, stp]
    simp only [Int.reduceEq, Int.reduceBEq, Bool.false_eq_true, if_false, if_true, beq_self_eq_true, ge_iff_le, Int.reduceLE, decide_true, g2, Option.bind_some, Bool.not_true]
    rw [j12 0 _ st.length _ (by omega) (by omega)]
    exact fin _ _ _ _ gk rfl (by omega) hat
  · have hyr : rng y := by
      cases st with
      | nil => simp at hd
      | cons z r =>
        have : y = z := ey
        rw [this]; exact hst z (by simp)
    obtain ⟨s', g1, g2⟩ := hg tr s _ _ (by omega) hs (tmod_key hyr ho)
    have gk : Good (tr ++ stk own ops[i] st) s' := by simp only [stk, e, ← ey]; exact g1
    simp only [e, stp]
    simp only [Int.reduceEq, Int.reduceBEq, Bool.false_eq_true, if_false, if_true, beq_self_eq_true, ge_iff_le, Int.reduceLE, decide_true]
    rw [if_pos (show own ≠ 0 by omega)]
    simp only [g2, Option.bind_some, Bool.not_true, Bool.false_eq_true, if_false]
    rw [j12 1 _ (st.length - 1) _ (by omega) (by omega), ← ey]
    exact fin _ _ _ _ gk (by simp) (by omega) t1
  · by_cases hy0 : y = 0
    · obtain ⟨s', g1, g2⟩ := hg tr s _ _ (by omega) hs hB
      have gk : Good (tr ++ stk own ops[i] st) s' := by simp only [stk, e, ← ey, hy0]; exact g1
      simp only [e, stp]
      simp only [Int.reduceEq, Int.reduceBEq, Bool.false_eq_true, if_false, if_true, beq_self_eq_true, ge_iff_le, Int.reduceLE, decide_true]
      rw [← ey]
      simp only [hy0, beq_self_eq_true, if_true, g2, Option.bind_some, Bool.not_true, Bool.false_eq_true, if_false]
      rw [j12 1 _ (st.length - 1) _ (by omega) (by omega)]
      exact fin _ _ _ _ gk (by simp) (by omega) t1
    · obtain ⟨s', g1, g2⟩ := hg tr s _ _ (by omega) hs hA
      have gk : Good (tr ++ stk own ops[i] st) s' := by simp only [stk, e, ← ey, hy0]; exact g1
      have : (y == 0) = false := beq_false_of_ne hy0
      simp only [e, stp]
      simp only [Int.reduceEq, Int.reduceBEq, Bool.false_eq_true, if_false, if_true, beq_self_eq_true, ge_iff_le, Int.reduceLE, decide_true]
      rw [← ey]
      simp only [this, g2, Option.bind_some, Bool.not_true, Bool.false_eq_true, if_false, hy0]
      rw [j12 1 _ (st.length - 1) _ (by omega) (by omega)]
      exact fin _ _ _ _ gk (by simp) (by omega) t1
  · have k : ops[i].f_Op ≠ 1 ∧ ops[i].f_Op ≠ 2 ∧ ops[i].f_Op ≠ 3 ∧ ops[i].f_Op ≠ 4 ∧ ops[i].f_Op ≠ 5 := by omega
    have gk : Good (tr ++ stk own ops[i] st) s := by simp [stk, k]; exact hs
    have hfin : ∀ v, v = bin ops[i].f_Op x y → ∃ arr' s', Good (tr ++ stk own ops[i] st) s' ∧ arr'.length = 24 ∧ arr'.take (stp f own ops[i] st).length = (stp f own ops[i] st).reverse ∧ S_glossatorref3_Exec_j12 g0 none ops own (st.length : Int) (i : Int) arr 2 v s = some (.inl (((stp f own ops[i] st).length : Int), ((i + 1 : Nat) : Int), arr', s')) := by
      intro v hv
      rw [j12 2 _ (st.length - 2) _ (by omega) (by omega)]
      have es : stp f own ops[i] st = v :: st.tail.tail := by
        rw [hv, ex, ey]
        simp [stp, k]
      rw [es]
      exact fin _ _ _ _ gk (by simp; omega) (by omega) t2
    rcases e with e | e | e | e | e | e
    · simp only [e] at hfin ⊢
      simp only [Int.reduceEq, Int.reduceBEq, Bool.false_eq_true, if_false, if_true, beq_self_eq_true, ge_iff_le, decide_false, Int.reduceNeg]
      exact hfin _ (by simp [bin])
    · simp only [e] at hfin ⊢
      simp only [Int.reduceEq, Int.reduceBEq, Bool.false_eq_true, if_false, if_true, beq_self_eq_true, ge_iff_le, decide_false, Int.reduceNeg]
      exact hfin _ (by simp [bin])
    · simp only [e] at hfin ⊢
      simp only [Int.reduceEq, Int.reduceBEq, Bool.false_eq_true, if_false, if_true, beq_self_eq_true, ge_iff_le, decide_false, Int.reduceNeg]
      exact hfin _ (by simp [bin])
    · simp only [e] at hfin ⊢
      simp only [Int.reduceEq, Int.reduceBEq, Bool.false_eq_true, if_false, if_true, beq_self_eq_true, ge_iff_le, decide_false, Int.reduceNeg]
      exact hfin _ (by simp [bin])
    · simp only [e] at hfin ⊢
      simp only [Int.reduceEq, Int.reduceBEq, Bool.false_eq_true, if_false, if_true, beq_self_eq_true, ge_iff_le, decide_false, Int.reduceNeg]
      exact hfin _ (by simp [bin])
    · simp only [e] at hfin ⊢
      simp only [Int.reduceBEq, Bool.false_eq_true, if_false, ge_iff_le, decide_false, Int.reduceNeg]
      by_cases hxy : x < y
      · simp only [hxy, decide_true, if_true]
        exact hfin _ (by simp [bin, hxy])
      · simp only [hxy, decide_false, Bool.false_eq_true, if_false]
        exact hfin _ (by simp [bin, hxy])

theorem exec_loop : ∀ (k i : Nat) (st arr : List Int) (s : σ) (tr : List (Int × Int)), tr.length ≤ i → Good tr s → i + k = ops.length → qspec p own (ops.drop i) st.length = 0 → (∀ v ∈ st, rng v) → st.length ≤ i → arr.length = 24 → arr.take st.length = st.reverse →
    ∃ s', Good (tr ++ evk f own (ops.drop i) st) s' ∧ S_glossatorref3_Exec_l1 g0 none ops own (st.length : Int) (i : Int) arr s = some (ev f own (ops.drop i) st, true, s')
  | 0, i, st, arr, s, tr, htr, hs, h, hq, hst, hle, ha, hat => by
    have : i = ops.length := by omega
    subst this
    rw [List.drop_length] at hq ⊢
    rw [qspec] at hq
    have hd : st.length = 1 := by
      split at hq
      · cases hq
      · omega
    match st, hd, hat with
    | [v], _, hat =>
      refine ⟨s, by simp [evk]; exact hs, ?_⟩
      unfold S_glossatorref3_Exec_l1
      rw [loopM_out (x := some (v, true, s)) ?_]
      · rfl
      · unfold S_glossatorref3_Exec_b1 S_glossatorref3_Exec_j13
        rw [if_neg (by simp), if_pos (by simp), if_pos (by simp; omega)]
        cases arr with
        | nil => simp at ha
        | cons b r => simp at hat; simp [hat]
  | k + 1, i, st, arr, s, tr, htr, hs, h, hq, hst, hle, ha, hat => by
    have hi : i < ops.length := by omega
    rw [List.drop_eq_getElem_cons hi] at hq ⊢
    obtain ⟨h1, h2, h3⟩ := qspec_cons hq
    obtain ⟨arr', s', g0', g1, g2, g3⟩ := exec_round Good hf hg hl hi htr hs h1 h2 hst hle ha hat
    obtain ⟨k1, k2⟩ := stp_ok hf h1 h2 hst
    have hp := eff_pops p own ops[i]
    obtain ⟨s'', ih0, ih⟩ := exec_loop k (i + 1) (stp f own ops[i] st) arr' s' _ (by have := stk_len own ops[i] st; simp; omega) g0' (by omega) (by rw [k1]; exact h3) k2 (by omega) g1 g2
    refine ⟨s'', by rw [evk, ← List.append_assoc]; exact ih0, ?_⟩
    unfold S_glossatorref3_Exec_l1 at ih ⊢
    rw [loopM_inl (s' := (((stp f own ops[i] st).length : Int), ((i + 1 : Nat) : Int), arr', s')) g3, ih]
    rfl
theorem exec_ok (hq : qspec p own ops 0 = 0) {s : σ} (hs : Good [] s) : ∃ s', Good (evk f own ops []) s' ∧ S_glossatorref3_Exec g0 none ops own s = some (ev f own ops [], true, s') := by
  have := exec_loop Good hf hg hl ops.length 0 [] (List.replicate 24 0) s [] (by simp) hs (by omega) (by simpa using hq) (by simp) (by simp) (by simp) (by simp)
  simpa [S_glossatorref3_Exec] using this
end
end Go.Proofs.Ytjbndlijmgnpnaa
