/-
  Own text Law5 of this claim.
-/
import Derived.Test.YtjcckmpeflflbaaLaw4
namespace Go.Proofs.Ytjcckmpeflflbaa
open Go.Fx
set_option linter.unusedVariables false
abbrev BB : Nat := 4611686018427387904
theorem cfR_loop {g : G_QRule → Option Bool} {P : G_QRule → Bool} {l : List G_QRule} (hl : l.length ≤ BB) (hg : ∀ r ∈ l, g r = some (P r)) : ∀ (k i : Nat), i + k = l.length →
    ∃ j : Int, S_slices_IndexFunc_api_QRule_l1 (fun (s : Unit) (x : G_QRule) => (g x).map fun o => (o, ())) none l (i : Int) () = some (j, ()) ∧ decide (j ≥ 0) = (l.drop i).any P
  | 0, i, h => by
    have : i = l.length := by omega
    subst this
    refine ⟨-1, ?_, by simp⟩
    unfold S_slices_IndexFunc_api_QRule_l1
    rw [loopM_out (x := some (-1, ())) ?_]
    unfold S_slices_IndexFunc_api_QRule_b1
    rw [if_neg (by simp)]
    rfl
  | k + 1, i, h => by
    have hi : i < l.length := by omega
    obtain ⟨j, h1, h2⟩ := cfR_loop hl hg k (i + 1) (by omega)
    unfold S_slices_IndexFunc_api_QRule_l1 at h1 ⊢
    rw [List.drop_eq_getElem_cons hi, List.any_cons]
    have hb : S_slices_IndexFunc_api_QRule_b1 (fun (s : Unit) (x : G_QRule) => (g x).map fun o => (o, ())) none l (i : Int) () = if P l[i] = true then some (.inr ((i : Int), ())) else some (.inl (((i + 1 : Nat) : Int), ())) := by
      unfold S_slices_IndexFunc_api_QRule_b1
      rw [if_pos (by simpa using hi), if_pos (by simpa using hi)]
      simp only [Int.toNat_natCast, getD_at hi]
      have e3 : (⟨l[i].f_Mask, l[i].f_All⟩ : G_QRule) = l[i] := rfl
      rw [e3, hg _ (List.getElem_mem hi)]
      simp only [Option.map_some, Option.bind_some, Wi (show i ≤ BB by unfold BB at *; omega)]
    by_cases hp : P l[i] = true
    · exact ⟨i, by rw [loopM_out (x := some ((i : Int), ())) (by rw [hb, if_pos hp]; rfl)], by simp [hp]⟩
    · refine ⟨j, by rw [loopM_inl (s' := (((i + 1 : Nat) : Int), ())) (by rw [hb, if_neg hp]), h1], ?_⟩
      have : P l[i] = false := by simpa using hp
      rw [h2, this, Bool.false_or]
theorem cfR_ok {g : G_QRule → Option Bool} {P : G_QRule → Bool} {l : List G_QRule} (hl : l.length ≤ BB) (hg : ∀ r ∈ l, g r = some (P r)) :
    S_slices_ContainsFunc_api_QRule (fun (s : Unit) (x : G_QRule) => (g x).map fun o => (o, ())) none l () = some (l.any P, ()) := by
  obtain ⟨j, h1, h2⟩ := cfR_loop hl hg _ 0 (Nat.zero_add _)
  unfold S_slices_ContainsFunc_api_QRule S_slices_IndexFunc_api_QRule
  rw [show ((0 : Int)) = ((0 : Nat) : Int) from rfl, h1, Option.bind_some, show (((0 : Nat) : Int)) = (0 : Int) from rfl, h2, List.drop_zero]
theorem cfI_loop {g : Int → Option Bool} {P : Int → Bool} {l : List Int} (hl : l.length ≤ BB) (hg : ∀ r ∈ l, g r = some (P r)) : ∀ (k i : Nat), i + k = l.length →
    ∃ j : Int, S_slices_IndexFunc_int_l1 (fun (s : Unit) (x : Int) => (g x).map fun o => (o, ())) none l (i : Int) () = some (j, ()) ∧ decide (j ≥ 0) = (l.drop i).any P
  | 0, i, h => by
    have : i = l.length := by omega
    subst this
    refine ⟨-1, ?_, by simp⟩
    unfold S_slices_IndexFunc_int_l1
    rw [loopM_out (x := some (-1, ())) ?_]
    unfold S_slices_IndexFunc_int_b1
    rw [if_neg (by simp)]
    rfl
  | k + 1, i, h => by
    have hi : i < l.length := by omega
    obtain ⟨j, h1, h2⟩ := cfI_loop hl hg k (i + 1) (by omega)
    unfold S_slices_IndexFunc_int_l1 at h1 ⊢
    rw [List.drop_eq_getElem_cons hi, List.any_cons]
    have hb : S_slices_IndexFunc_int_b1 (fun (s : Unit) (x : Int) => (g x).map fun o => (o, ())) none l (i : Int) () = if P l[i] = true then some (.inr ((i : Int), ())) else some (.inl (((i + 1 : Nat) : Int), ())) := by
      unfold S_slices_IndexFunc_int_b1
      rw [if_pos (by simpa using hi), if_pos (by simpa using hi)]
      simp only [Int.toNat_natCast, getD_at hi]
      rw [hg _ (List.getElem_mem hi)]
      simp only [Option.map_some, Option.bind_some, Wi (show i ≤ BB by unfold BB at *; omega)]
    by_cases hp : P l[i] = true
    · exact ⟨i, by rw [loopM_out (x := some ((i : Int), ())) (by rw [hb, if_pos hp]; rfl)], by simp [hp]⟩
    · refine ⟨j, by rw [loopM_inl (s' := (((i + 1 : Nat) : Int), ())) (by rw [hb, if_neg hp]), h1], ?_⟩
      have : P l[i] = false := by simpa using hp
      rw [h2, this, Bool.false_or]
theorem cfI_ok {g : Int → Option Bool} {P : Int → Bool} {l : List Int} (hl : l.length ≤ BB) (hg : ∀ r ∈ l, g r = some (P r)) :
    S_slices_ContainsFunc_int (fun (s : Unit) (x : Int) => (g x).map fun o => (o, ())) none l () = some (l.any P, ()) := by
  obtain ⟨j, h1, h2⟩ := cfI_loop hl hg _ 0 (Nat.zero_add _)
  unfold S_slices_ContainsFunc_int S_slices_IndexFunc_int
  rw [show ((0 : Int)) = ((0 : Nat) : Int) from rfl, h1, Option.bind_some, show (((0 : Nat) : Int)) = (0 : Int) from rfl, h2, List.drop_zero]

def badK (n : Nat) (k : Int) : Bool := decide (k < 0) || decide (k ≥ (n : Int))
def rerr (n : Nat) (r : G_QRule) : Int := if (decide (r.f_Mask < 0) || decide (r.f_Mask > 1048575)) = true then 1 else if r.f_All.any (badK n) = true then 3 else 0
noncomputable def lerr (n : Nat) : List G_QRule → Int
  | [] => 0
  | r :: l => if rerr n r = 0 then lerr n l else rerr n r
noncomputable def perr (n : Nat) : List (List G_QRule) → Int
  | [] => 0
  | l :: p => if lerr n l = 0 then perr n p else lerr n l
def big (l : List G_QRule) : Bool := decide (20 < l.length) || l.any fun r => decide (60 < r.f_All.length)
noncomputable def cspec (p : Rules) : Int := if (decide (60 < p.length) || p.any big) = true then 2 else perr p.length p
structure Small (p : Rules) : Prop where
  n : p.length ≤ BB
  l : ∀ l ∈ p, l.length ≤ BB
  a : ∀ l ∈ p, ∀ r ∈ l, r.f_All.length ≤ BB
section
variable {p : Rules} (hS : Small p)
include hS
theorem c5_loop {i : Nat} (hi : i < p.length) : ∀ (k j : Nat), j + k = p[i].length → S_fixpoint_Check_l5 none p (i : Int) (j : Int) = some (if lerr p.length (p[i].drop j) = 0 then .inl ((i + 1 : Nat) : Int) else .inr (lerr p.length (p[i].drop j)))
  | 0, j, h => by
    have hn := hS.n
    have : j = p[i].length := by omega
    subst this
    unfold S_fixpoint_Check_l5
    rw [loopM_out (x := some (.inl ((i + 1 : Nat) : Int))) ?_]
    · simp [lerr]
    · unfold S_fixpoint_Check_b5 S_fixpoint_Check_j4
      simp only [Int.toNat_natCast, getD_at hi]
      rw [if_neg (by simp), Wi (by unfold BB at hn; omega)]
  | k + 1, j, h => by
    have hl := hS.l _ (List.getElem_mem hi)
    have hj : j < p[i].length := by omega
    have ih := c5_loop hi k (j + 1) (by omega)
    unfold S_fixpoint_Check_l5 at ih ⊢
    rw [List.drop_eq_getElem_cons hj, lerr]
    have hb : S_fixpoint_Check_b5 none p (i : Int) (j : Int) = if rerr p.length p[i][j] = 0 then some (.inl ((j + 1 : Nat) : Int)) else some (.inr (.inr (rerr p.length p[i][j]))) := by
      unfold S_fixpoint_Check_b5
      simp only [Int.toNat_natCast, getD_at hi, getD_at hj]
      rw [if_pos (by simpa using hj), if_pos (by simpa using hj)]
      unfold rerr
      by_cases h1 : (decide (p[i][j].f_Mask < 0) || decide (p[i][j].f_Mask > 1048575)) = true
      · rw [if_pos h1, if_pos h1, if_neg (by decide)]; rfl
      · rw [if_neg h1, if_neg h1, cfI_ok (g := S_fixpoint_Check_2c none p) (P := badK p.length) (hS.a _ (List.getElem_mem hi) _ (List.getElem_mem hj)) (fun x _ => by unfold S_fixpoint_Check_2c badK; rw [List.length_map]), Option.bind_some]
        by_cases h2 : p[i][j].f_All.any (badK p.length) = true
        · rw [if_pos h2, if_pos h2, if_neg (by decide)]; rfl
        · rw [if_neg h2, if_neg h2, if_pos rfl, Wi (by unfold BB at hl; omega)]
    by_cases he : rerr p.length p[i][j] = 0
    · rw [loopM_inl (s' := ((j + 1 : Nat) : Int)) (by rw [hb, if_pos he]), ih, if_pos he]
    · rw [loopM_out (x := some (.inr (rerr p.length p[i][j]))) (by rw [hb, if_neg he]; rfl), if_neg he, if_neg he]
theorem c4_loop : ∀ (k i : Nat), i + k = p.length → S_fixpoint_Check_l4 none p (i : Int) = some (perr p.length (p.drop i))
  | 0, i, h => by
    have : i = p.length := by omega
    subst this
    unfold S_fixpoint_Check_l4
    rw [loopM_out (x := some 0) ?_]
    · simp [perr]
    · unfold S_fixpoint_Check_b4 S_fixpoint_Check_j5
      rw [if_neg (by simp)]
  | k + 1, i, h => by
    have hi : i < p.length := by omega
    have ih := c4_loop k (i + 1) (by omega)
    unfold S_fixpoint_Check_l4 at ih ⊢
    rw [List.drop_eq_getElem_cons hi, perr]
    have hb : S_fixpoint_Check_b4 none p (i : Int) = if lerr p.length p[i] = 0 then some (.inl ((i + 1 : Nat) : Int)) else some (.inr (lerr p.length p[i])) := by
      unfold S_fixpoint_Check_b4
      rw [if_pos (by simpa using hi), if_pos (by simpa using hi)]
      have := c5_loop hS hi _ 0 (Nat.zero_add _)
      rw [show (((0 : Nat) : Int)) = 0 from rfl] at this
      rw [this, List.drop_zero]
      split <;> rfl
    by_cases he : lerr p.length p[i] = 0
    · rw [loopM_inl (s' := ((i + 1 : Nat) : Int)) (by rw [hb, if_pos he]), ih, if_pos he]
    · rw [loopM_out (x := some (lerr p.length p[i])) (by rw [hb, if_neg he]; rfl), if_neg he]
theorem c1_loop : ∀ (k i : Nat), i + k = p.length → S_fixpoint_Check_l1 none p (i : Int) = some (if (p.drop i).any big = true then 2 else perr p.length p)
  | 0, i, h => by
    have : i = p.length := by omega
    subst this
    unfold S_fixpoint_Check_l1
    rw [loopM_out (x := some (perr p.length p)) ?_]
    · simp
    · unfold S_fixpoint_Check_b1 S_fixpoint_Check_j1
      rw [if_neg (by simp)]
      have := c4_loop hS _ 0 (Nat.zero_add _)
      rw [show (((0 : Nat) : Int)) = 0 from rfl] at this
      rw [this, List.drop_zero]
  | k + 1, i, h => by
    have hn := hS.n
    have hi : i < p.length := by omega
    have ih := c1_loop k (i + 1) (by omega)
    unfold S_fixpoint_Check_l1 at ih ⊢
    rw [List.drop_eq_getElem_cons hi, List.any_cons]
    have hb : S_fixpoint_Check_b1 none p (i : Int) = if big p[i] = true then some (.inr 2) else some (.inl ((i + 1 : Nat) : Int)) := by
      unfold S_fixpoint_Check_b1
      rw [if_pos (by simpa using hi), if_pos (by simpa using hi)]
      simp only [Int.toNat_natCast, getD_at hi, List.length_map]
      unfold big
      have e20 : decide ((p[i].length : Int) > 20) = decide (20 < p[i].length) := decide_eq_decide.2 (by omega)
      rw [e20]
      cases h20 : decide (20 < p[i].length)
      · rw [if_pos (show (false == false) = true from rfl), cfR_ok (g := S_fixpoint_Check_1c none) (P := fun r => decide (60 < r.f_All.length)) (hS.l _ (List.getElem_mem hi)) (fun x _ => by unfold S_fixpoint_Check_1c; rw [List.length_map]; exact congrArg some (decide_eq_decide.2 (by omega))), Option.bind_some]
        simp only [Bool.false_or]
        rw [Wi (by unfold BB at hn; omega)]
        split <;> rfl
      · simp
    by_cases he : big p[i] = true
    · rw [loopM_out (x := some 2) (by rw [hb, if_pos he]; rfl)]
      simp [he]
    · rw [loopM_inl (s' := ((i + 1 : Nat) : Int)) (by rw [hb, if_neg he]), ih]
      have : big p[i] = false := by simpa using he
      rw [this, Bool.false_or]
theorem check_ok : S_fixpoint_Check none p = some (cspec p) := by
  unfold S_fixpoint_Check cspec
  rw [List.length_map]
  have e60 : decide ((p.length : Int) > 60) = decide (60 < p.length) := decide_eq_decide.2 (by omega)
  rw [e60]
  cases h60 : decide (60 < p.length)
  · rw [if_neg (by simp)]
    have := c1_loop hS _ 0 (Nat.zero_add _)
    rw [show (((0 : Nat) : Int)) = 0 from rfl] at this
    rw [this, List.drop_zero, Bool.false_or]
  · simp
theorem r4_loop {i : Nat} (hi : i < p.length) : ∀ (k j : Nat) (v : Bool), j + k = p[i].length → S_glossatorref3_CheckRules_l4 none p (i : Int) v (j : Int) = some (.inl (v || (p[i].drop j).any (fun r => decide (60 < r.f_All.length)), ((i + 1 : Nat) : Int)))
  | 0, j, v, h => by
    have hn := hS.n
    have : j = p[i].length := by omega
    subst this
    unfold S_glossatorref3_CheckRules_l4
    rw [loopM_out (x := some (.inl (v, ((i + 1 : Nat) : Int)))) ?_]
    · simp
    · unfold S_glossatorref3_CheckRules_b4 S_glossatorref3_CheckRules_j3
      simp only [Int.toNat_natCast, getD_at hi]
      rw [if_neg (by simp), Wi (by unfold BB at hn; omega)]
  | k + 1, j, v, h => by
    have hl := hS.l _ (List.getElem_mem hi)
    have hj : j < p[i].length := by omega
    have ih := r4_loop hi k (j + 1) (v || decide (60 < p[i][j].f_All.length)) (by omega)
    unfold S_glossatorref3_CheckRules_l4 at ih ⊢
    rw [List.drop_eq_getElem_cons hj, List.any_cons, ← Bool.or_assoc, ← ih]
    refine loopM_inl ?_
    unfold S_glossatorref3_CheckRules_b4
    simp only [Int.toNat_natCast, getD_at hi, getD_at hj, List.length_map]
    rw [if_pos (by simpa using hj), if_pos (by simpa using hj), Wi (by unfold BB at hl; omega)]
    rw [show decide ((p[i][j].f_All.length : Int) > 60) = decide (60 < p[i][j].f_All.length) from decide_eq_decide.2 (by omega)]
theorem r17_loop {i j : Nat} (hi : i < p.length) (hj : j < p[i].length) : ∀ (k q : Nat), q + k = p[i][j].f_All.length → S_glossatorref3_CheckRules_l17 none p (i : Int) (j : Int) (q : Int) = some (if (p[i][j].f_All.drop q).any (badK p.length) = true then .inr (.inr 3) else .inl ((j + 1 : Nat) : Int))
  | 0, q, h => by
    have hl := hS.l _ (List.getElem_mem hi)
    have : q = p[i][j].f_All.length := by omega
    subst this
    unfold S_glossatorref3_CheckRules_l17
    rw [loopM_out (x := some (.inl ((j + 1 : Nat) : Int))) ?_]
    · simp
    · unfold S_glossatorref3_CheckRules_b17 S_glossatorref3_CheckRules_j15
      simp only [Int.toNat_natCast, getD_at hi, getD_at hj]
      rw [if_neg (by simp), Wi (by unfold BB at hl; omega)]
  | k + 1, q, h => by
    have ha := hS.a _ (List.getElem_mem hi) _ (List.getElem_mem hj)
    have hq : q < p[i][j].f_All.length := by omega
    have ih := r17_loop hi hj k (q + 1) (by omega)
    unfold S_glossatorref3_CheckRules_l17 at ih ⊢
    rw [List.drop_eq_getElem_cons hq, List.any_cons]
    have hb : S_glossatorref3_CheckRules_b17 none p (i : Int) (j : Int) (q : Int) = if badK p.length p[i][j].f_All[q] = true then some (.inr (.inr (.inr 3))) else some (.inl ((q + 1 : Nat) : Int)) := by
      unfold S_glossatorref3_CheckRules_b17
      simp only [Int.toNat_natCast, getD_at hi, getD_at hj, getD_at hq, List.length_map]
      rw [if_pos (by simpa using hq), if_pos (by simpa using hq), Wi (by unfold BB at ha; omega)]
      rfl
    by_cases he : badK p.length p[i][j].f_All[q] = true
    · rw [loopM_out (x := some (.inr (.inr 3))) (by rw [hb, if_pos he]; rfl), he]; rfl
    · rw [loopM_inl (s' := ((q + 1 : Nat) : Int)) (by rw [hb, if_neg he]), ih]
      have : badK p.length p[i][j].f_All[q] = false := by simpa using he
      rw [this, Bool.false_or]
theorem r16_loop {i : Nat} (hi : i < p.length) : ∀ (k j : Nat), j + k = p[i].length → S_glossatorref3_CheckRules_l16 none p (i : Int) (j : Int) = some (if lerr p.length (p[i].drop j) = 0 then .inl ((i + 1 : Nat) : Int) else .inr (lerr p.length (p[i].drop j)))
  | 0, j, h => by
    have hn := hS.n
    have : j = p[i].length := by omega
    subst this
    unfold S_glossatorref3_CheckRules_l16
    rw [loopM_out (x := some (.inl ((i + 1 : Nat) : Int))) ?_]
    · simp [lerr]
    · unfold S_glossatorref3_CheckRules_b16 S_glossatorref3_CheckRules_j16
      simp only [Int.toNat_natCast, getD_at hi]
      rw [if_neg (by simp), Wi (by unfold BB at hn; omega)]
  | k + 1, j, h => by
    have hj : j < p[i].length := by omega
    have ih := r16_loop hi k (j + 1) (by omega)
    unfold S_glossatorref3_CheckRules_l16 at ih ⊢
    rw [List.drop_eq_getElem_cons hj, lerr]
    have hb : S_glossatorref3_CheckRules_b16 none p (i : Int) (j : Int) = if rerr p.length p[i][j] = 0 then some (.inl ((j + 1 : Nat) : Int)) else some (.inr (.inr (rerr p.length p[i][j]))) := by
      unfold S_glossatorref3_CheckRules_b16
      simp only [Int.toNat_natCast, getD_at hi, getD_at hj]
      rw [if_pos (by simpa using hj), if_pos (by simpa using hj)]
      unfold rerr
      have e1 : decide (p[i][j].f_Mask ≥ 1048576) = decide (p[i][j].f_Mask > 1048575) := decide_eq_decide.2 (by omega)
      rw [e1]
      by_cases h1 : (decide (p[i][j].f_Mask < 0) || decide (p[i][j].f_Mask > 1048575)) = true
      · rw [if_pos h1, if_pos h1, if_neg (by decide)]; rfl
      · have := r17_loop hS hi hj _ 0 (Nat.zero_add _)
        rw [show (((0 : Nat) : Int)) = 0 from rfl] at this
        rw [if_neg h1, if_neg h1, this, List.drop_zero]
        by_cases h2 : p[i][j].f_All.any (badK p.length) = true
        · rw [if_pos h2, if_pos h2, if_neg (by decide)]
        · rw [if_neg h2, if_neg h2, if_pos rfl]
    by_cases he : rerr p.length p[i][j] = 0
    · rw [loopM_inl (s' := ((j + 1 : Nat) : Int)) (by rw [hb, if_pos he]), ih, if_pos he]
    · rw [loopM_out (x := some (.inr (rerr p.length p[i][j]))) (by rw [hb, if_neg he]; rfl), if_neg he, if_neg he]
theorem r13_loop : ∀ (k i : Nat), i + k = p.length → S_glossatorref3_CheckRules_l13 none p (i : Int) = some (perr p.length (p.drop i))
  | 0, i, h => by
    have : i = p.length := by omega
    subst this
    unfold S_glossatorref3_CheckRules_l13
    rw [loopM_out (x := some 0) ?_]
    · simp [perr]
    · unfold S_glossatorref3_CheckRules_b13 S_glossatorref3_CheckRules_j17
      rw [if_neg (by simp)]
  | k + 1, i, h => by
    have hi : i < p.length := by omega
    have ih := r13_loop k (i + 1) (by omega)
    unfold S_glossatorref3_CheckRules_l13 at ih ⊢
    rw [List.drop_eq_getElem_cons hi, perr]
    have hb : S_glossatorref3_CheckRules_b13 none p (i : Int) = if lerr p.length p[i] = 0 then some (.inl ((i + 1 : Nat) : Int)) else some (.inr (lerr p.length p[i])) := by
      unfold S_glossatorref3_CheckRules_b13
      rw [if_pos (by simpa using hi), if_pos (by simpa using hi)]
      have := r16_loop hS hi _ 0 (Nat.zero_add _)
      rw [show (((0 : Nat) : Int)) = 0 from rfl] at this
      rw [this, List.drop_zero]
      split <;> rfl
    by_cases he : lerr p.length p[i] = 0
    · rw [loopM_inl (s' := ((i + 1 : Nat) : Int)) (by rw [hb, if_pos he]), ih, if_pos he]
    · rw [loopM_out (x := some (lerr p.length p[i])) (by rw [hb, if_neg he]; rfl), if_neg he]
theorem r3_loop : ∀ (k i : Nat) (v : Bool), i + k = p.length → S_glossatorref3_CheckRules_l3 none p v (i : Int) = some (if (v || (p.drop i).any big) = true then 2 else perr p.length p)
  | 0, i, v, h => by
    have : i = p.length := by omega
    subst this
    unfold S_glossatorref3_CheckRules_l3
    rw [loopM_out (x := some (if v = true then 2 else perr p.length p)) ?_]
    · simp
    · unfold S_glossatorref3_CheckRules_b3 S_glossatorref3_CheckRules_j4
      rw [if_neg (by simp)]
      have := r13_loop hS _ 0 (Nat.zero_add _)
      rw [show (((0 : Nat) : Int)) = 0 from rfl] at this
      rw [this, List.drop_zero]
      split <;> rfl
  | k + 1, i, v, h => by
    have hi : i < p.length := by omega
    have ih := r3_loop k (i + 1) (v || big p[i]) (by omega)
    unfold S_glossatorref3_CheckRules_l3 at ih ⊢
    rw [List.drop_eq_getElem_cons hi, List.any_cons, ← Bool.or_assoc, ← ih]
    refine loopM_inl ?_
    unfold S_glossatorref3_CheckRules_b3
    simp only [Int.toNat_natCast, getD_at hi, List.length_map]
    rw [if_pos (by simpa using hi), if_pos (by simpa using hi)]
    have := r4_loop hS hi _ 0 (v || decide ((p[i].length : Int) > 20)) (Nat.zero_add _)
    rw [show (((0 : Nat) : Int)) = 0 from rfl] at this
    rw [this, List.drop_zero]
    have e20 : decide ((p[i].length : Int) > 20) = decide (20 < p[i].length) := decide_eq_decide.2 (by omega)
    rw [e20, Bool.or_assoc]
    rfl
theorem refcheck_ok : S_glossatorref3_CheckRules none p = some (cspec p) := by
  unfold S_glossatorref3_CheckRules cspec
  have := r3_loop hS _ 0 (decide (60 < p.length)) (Nat.zero_add _)
  rw [show (((0 : Nat) : Int)) = 0 from rfl] at this
  rw [List.length_map, show decide ((p.length : Int) > 60) = decide (60 < p.length) from decide_eq_decide.2 (by omega), this, List.drop_zero]
end
theorem lerr_zero {n : Nat} : ∀ {l : List G_QRule}, lerr n l = 0 → ∀ r ∈ l, rerr n r = 0
  | [], _, r, hr => by cases hr
  | x :: l, h, r, hr => by
    rw [lerr] at h
    by_cases he : rerr n x = 0
    · rw [if_pos he] at h
      rcases List.mem_cons.1 hr with rfl | hr
      · exact he
      · exact lerr_zero h r hr
    · rw [if_neg he] at h; exact absurd h he
theorem perr_zero {n : Nat} : ∀ {p : List (List G_QRule)}, perr n p = 0 → ∀ l ∈ p, lerr n l = 0
  | [], _, r, hr => by cases hr
  | x :: l, h, r, hr => by
    rw [perr] at h
    by_cases he : lerr n x = 0
    · rw [if_pos he] at h
      rcases List.mem_cons.1 hr with rfl | hr
      · exact he
      · exact perr_zero h r hr
    · rw [if_neg he] at h; exact absurd h he
theorem valid_of {p : Rules} (h : cspec p = 0) : Valid p := by
  unfold cspec at h
  split at h
  · cases h
  · rename_i hb
    simp only [Bool.or_eq_true, decide_eq_true_eq, List.any_eq_true, not_or, not_exists, not_and] at hb
    obtain ⟨h60, hb⟩ := hb
    have hbig : ∀ l ∈ p, l.length ≤ 20 ∧ ∀ r ∈ l, r.f_All.length ≤ 60 := fun l hl => by
      have := hb l hl
      unfold big at this
      simp only [Bool.or_eq_true, decide_eq_true_eq, List.any_eq_true, not_or, not_exists, not_and] at this
      exact ⟨by omega, fun r hr => by have := this.2 r hr; omega⟩
    refine ⟨by omega, fun l hl => (hbig l hl).1, fun l hl r hr => ?_⟩
    have he := lerr_zero (perr_zero h l hl) r hr
    unfold rerr at he
    split at he
    · cases he
    · rename_i h1
      split at he
      · cases he
      · rename_i h2
        simp only [Bool.or_eq_true, decide_eq_true_eq, not_or, List.any_eq_true, not_exists, not_and] at h1 h2
        refine ⟨by unfold rng; omega, (hbig l hl).2 r hr, fun k hk => ?_⟩
        have := h2 k hk
        unfold badK at this
        simp only [Bool.or_eq_true, decide_eq_true_eq, not_or] at this
        omega
end Go.Proofs.Ytjcckmpeflflbaa
