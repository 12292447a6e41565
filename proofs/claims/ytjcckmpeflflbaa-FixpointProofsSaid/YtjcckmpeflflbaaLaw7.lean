/-
  Own text Law7 of this claim.
-/
import Derived.Test.YtjcckmpeflflbaaLaw6
namespace Go.Proofs.Ytjcckmpeflflbaa
open Go.Fx
set_option linter.unusedVariables false
theorem cfD_loop {g : G_QDerivation → Option Bool} {P : G_QDerivation → Bool} {l : List G_QDerivation} (hl : l.length ≤ BB) (hg : ∀ r ∈ l, g r = some (P r)) : ∀ (k i : Nat), i + k = l.length →
    ∃ j : Int, S_slices_IndexFunc_api_QDerivation_l1 (fun (s : Unit) (x : G_QDerivation) => (g x).map fun o => (o, ())) none l (i : Int) () = some (j, ()) ∧ ((j = -1 ∧ ∀ q, i ≤ q → (h : q < l.length) → P l[q] = false) ∨ ∃ q, i ≤ q ∧ ∃ h : q < l.length, j = (q : Int) ∧ P l[q] = true)
  | 0, i, h => by
    have : i = l.length := by omega
    subst this
    refine ⟨-1, ?_, .inl ⟨rfl, fun q h1 h2 => by omega⟩⟩
    unfold S_slices_IndexFunc_api_QDerivation_l1
    rw [loopM_out (x := some (-1, ())) ?_]
    unfold S_slices_IndexFunc_api_QDerivation_b1
    rw [if_neg (by simp)]
    rfl
  | k + 1, i, h => by
    have hi : i < l.length := by omega
    obtain ⟨j, h1, h2⟩ := cfD_loop hl hg k (i + 1) (by omega)
    unfold S_slices_IndexFunc_api_QDerivation_l1 at h1 ⊢
    have hb : S_slices_IndexFunc_api_QDerivation_b1 (fun (s : Unit) (x : G_QDerivation) => (g x).map fun o => (o, ())) none l (i : Int) () = if P l[i] = true then some (.inr ((i : Int), ())) else some (.inl (((i + 1 : Nat) : Int), ())) := by
      unfold S_slices_IndexFunc_api_QDerivation_b1
      rw [if_pos (by simpa using hi), if_pos (by simpa using hi)]
      simp only [Int.toNat_natCast, getD_at hi]
      have e3 : (⟨l[i].f_Set, l[i].f_Rule, l[i].f_Element⟩ : G_QDerivation) = l[i] := rfl
      rw [e3, hg _ (List.getElem_mem hi)]
      simp only [Option.map_some, Option.bind_some, Wi (show i ≤ BB by unfold BB at *; omega)]
    by_cases hp : P l[i] = true
    · exact ⟨i, by rw [loopM_out (x := some ((i : Int), ())) (by rw [hb, if_pos hp]; rfl)], .inr ⟨i, Nat.le_refl _, hi, rfl, hp⟩⟩
    · refine ⟨j, by rw [loopM_inl (s' := (((i + 1 : Nat) : Int), ())) (by rw [hb, if_neg hp]), h1], ?_⟩
      rcases h2 with ⟨e, h2⟩ | ⟨q, h2, h3, h4⟩
      · refine .inl ⟨e, fun q h1 h3 => ?_⟩
        by_cases e : q = i
        · subst e; simpa using hp
        · exact h2 q (by omega) h3
      · exact .inr ⟨q, by omega, h3, h4⟩
theorem cfD_ok {g : G_QDerivation → Option Bool} {P : G_QDerivation → Bool} {l : List G_QDerivation} (hl : l.length ≤ BB) (hg : ∀ r ∈ l, g r = some (P r)) :
    S_slices_ContainsFunc_api_QDerivation (fun (s : Unit) (x : G_QDerivation) => (g x).map fun o => (o, ())) none l () = some (l.any P, ()) := by
  obtain ⟨j, h1, h2⟩ := cfD_loop hl hg _ 0 (Nat.zero_add _)
  unfold S_slices_ContainsFunc_api_QDerivation S_slices_IndexFunc_api_QDerivation
  rw [show ((0 : Int)) = ((0 : Nat) : Int) from rfl, h1, Option.bind_some]
  rcases h2 with ⟨rfl, h2⟩ | ⟨q, _, h3, rfl, h4⟩
  · have : l.any P = false := by
      rw [List.any_eq_false]
      intro x hx
      obtain ⟨q, hq, rfl⟩ := List.mem_iff_getElem.1 hx
      rw [h2 q (Nat.zero_le _) hq]; decide
    rw [this]; rfl
  · have : l.any P = true := List.any_eq_true.2 ⟨l[q], List.getElem_mem h3, h4⟩
    rw [this]
    simp
noncomputable def rule (p : Rules) (d : G_QDerivation) : G_QRule := (p.getD d.f_Set.toNat default).getD d.f_Rule.toNat default
def Inb (p : Rules) (d : G_QDerivation) : Prop := 0 ≤ d.f_Set ∧ d.f_Set < (p.length : Int) ∧ 0 ≤ d.f_Rule ∧ d.f_Rule < ((p.getD d.f_Set.toNat default).length : Int) ∧ 0 ≤ d.f_Element ∧ d.f_Element < 20
instance (p : Rules) (d : G_QDerivation) : Decidable (Inb p d) := by unfold Inb; infer_instance
def prem (d : G_QDerivation) (r : G_QRule) (l : List G_QDerivation) : Bool := r.f_All.all fun k => l.any fun x => (x.f_Set == k && x.f_Element == d.f_Element)
noncomputable def stepB (p : Rules) (pf : List G_QDerivation) (i : Nat) : Bool := decide (Inb p (pf.getD i default)) && (tb (rule p (pf.getD i default)).f_Mask (pf.getD i default).f_Element.toNat && prem (pf.getD i default) (rule p (pf.getD i default)) (pf.take i))
section
variable {p : Rules} (hv : Valid p) {pf : List G_QDerivation} (hl : pf.length ≤ BB)
include hv hl
theorem rule_ok {d : G_QDerivation} (h : Inb p d) : Rok p.length (rule p d) := by
  have _ := hl
  obtain ⟨h1, h2, h3, h4, _⟩ := h
  unfold rule
  have hs : d.f_Set.toNat < p.length := by omega
  rw [getD_at hs] at h4 ⊢
  have hr : d.f_Rule.toNat < p[d.f_Set.toNat].length := by omega
  rw [getD_at hr]
  exact hv.ok _ (List.getElem_mem hs) _ (List.getElem_mem hr)
theorem validStep_ok {i : Nat} (hi : i < pf.length) : S_fixpoint_validStep none p pf (i : Int) = some (stepB p pf i) := by
  unfold S_fixpoint_validStep stepB
  simp only [Int.toNat_natCast, List.length_map]
  obtain ⟨d, hd⟩ : ∃ d, pf.getD i default = d := ⟨_, rfl⟩
  simp only [hd]
  rw [if_pos (by omega)]
  by_cases hI : Inb p d
  · have hR := rule_ok hv hl hI
    obtain ⟨h1, h2, h3, h4, h5, h6⟩ := hI
    have hI : Inb p d := ⟨h1, h2, h3, h4, h5, h6⟩
    rw [if_pos (fun _ => ⟨h1, h2⟩), if_neg (by simp only [Bool.or_eq_true, decide_eq_true_eq]; omega), if_pos ⟨h1, h2⟩, if_pos ⟨h3, h4⟩, if_pos h5]
    have e : (p.getD d.f_Set.toNat default).getD d.f_Rule.toNat default = rule p d := rfl
    rw [e, shr_bit hR.1 h5 h6, decide_eq_true hI, Bool.true_and]
    cases hb : tb (rule p d).f_Mask d.f_Element.toNat
    · rw [if_neg (by decide)]; rfl
    · rw [if_pos (by decide), cfI_ok (g := S_fixpoint_validStep_1c none pf i d.f_Set d.f_Rule d.f_Element) (P := fun k => !((pf.take i).any fun x => (x.f_Set == k && x.f_Element == d.f_Element))) (by have := hR.2.1; unfold BB; omega) (fun k _ => by
        unfold S_fixpoint_validStep_1c
        rw [if_pos (by rw [List.length_map]; omega), Int.toNat_natCast, cfD_ok (g := S_fixpoint_validStep_1_1c none k d.f_Set d.f_Rule d.f_Element) (P := fun x => (x.f_Set == k && x.f_Element == d.f_Element)) (by rw [List.length_take]; omega) (fun x _ => rfl)]
        rfl)]
      unfold prem
      rw [List.all_eq_not_any_not]
      rfl
  · rw [decide_eq_false hI, Bool.false_and]
    by_cases h1 : 0 ≤ d.f_Set ∧ d.f_Set < (p.length : Int)
    · rw [if_pos (fun _ => h1), if_pos]
      simp only [Bool.or_eq_true, decide_eq_true_eq]
      unfold Inb at hI
      omega
    · rw [if_pos, if_pos]
      · simp only [Bool.or_eq_true, decide_eq_true_eq]; omega
      · intro h
        exfalso
        simp only [beq_iff_eq, Bool.or_eq_false_iff, decide_eq_false_iff_not] at h
        omega
theorem p13_loop {i k0 : Nat} (hi : i < pf.length) {d : G_QDerivation} (hd : pf.getD i default = d) {k : Int} (hk : (rule p d).f_All.getD k0 default = k) {a2 a3 : Int} : ∀ (c q : Nat) (v : Bool), q + c = i →
    S_glossatorref3_Proves_l13 none p pf a2 a3 (i : Int) (k0 : Int) v (q : Int) = S_glossatorref3_Proves_j19 none p pf a2 a3 (i : Int) (k0 : Int) (v || ((pf.take i).drop q).any fun x => (x.f_Set == k && x.f_Element == d.f_Element))
  | 0, q, v, h => by
    have _ := hv
    have : q = i := by omega
    subst this
    unfold S_glossatorref3_Proves_l13
    have hlen : (pf.take q).length = q := by rw [List.length_take]; omega
    rw [loopM_out (x := S_glossatorref3_Proves_j19 none p pf a2 a3 (q : Int) (k0 : Int) v) ?_]
    · rw [List.drop_eq_nil_of_le (by omega)]; simp
    · unfold S_glossatorref3_Proves_b13
      rw [if_neg (by rw [Int.toNat_natCast, List.length_map, hlen]; simp)]
  | c + 1, q, v, h => by
    have hq : q < i := by omega
    have hlen : (pf.take i).length = i := by rw [List.length_take]; omega
    have hq' : q < (pf.take i).length := by omega
    have ih := p13_loop hi hd hk (a2 := a2) (a3 := a3) c (q + 1) (v || ((pf.take i)[q].f_Set == k && (pf.take i)[q].f_Element == d.f_Element)) (by omega)
    unfold S_glossatorref3_Proves_l13 at ih ⊢
    rw [List.drop_eq_getElem_cons hq', List.any_cons, ← Bool.or_assoc, ← ih]
    refine loopM_inl ?_
    unfold S_glossatorref3_Proves_b13
    simp only [Int.toNat_natCast, List.length_map, hlen, hd, getD_at hq']
    have e : (p.getD d.f_Set.toNat default).getD d.f_Rule.toNat default = rule p d := rfl
    rw [e, hk, if_pos (by rw [decide_eq_true_eq]; omega), if_pos (by omega), Wi (by unfold BB at hl; omega)]
theorem p12_loop {i : Nat} (hi : i < pf.length) {d : G_QDerivation} (hd : pf.getD i default = d) (hI : Inb p d) {a2 a3 : Int} : ∀ (c q : Nat), q + c = (rule p d).f_All.length →
    S_glossatorref3_Proves_l12 none p pf a2 a3 (i : Int) (q : Int) = some (if ((rule p d).f_All.drop q).all (fun k => (pf.take i).any fun x => (x.f_Set == k && x.f_Element == d.f_Element)) = true then .inl ((i + 1 : Nat) : Int) else .inr false)
  | 0, q, h => by
    have : q = (rule p d).f_All.length := by omega
    subst this
    unfold S_glossatorref3_Proves_l12
    rw [loopM_out (x := some (.inl ((i + 1 : Nat) : Int))) ?_]
    · rw [List.drop_length]; rfl
    · unfold S_glossatorref3_Proves_b12 S_glossatorref3_Proves_j21
      simp only [Int.toNat_natCast, hd]
      have e : (p.getD d.f_Set.toNat default).getD d.f_Rule.toNat default = rule p d := rfl
      rw [e, if_neg (by simp), Wi (by unfold BB at hl; omega)]
  | c + 1, q, h => by
    have hR := rule_ok hv hl hI
    have h60 := hR.2.1
    have hq : q < (rule p d).f_All.length := by omega
    have ih := p12_loop hi hd hI (a2 := a2) (a3 := a3) c (q + 1) (by omega)
    unfold S_glossatorref3_Proves_l12 at ih ⊢
    rw [List.drop_eq_getElem_cons hq, List.all_cons]
    have hb : S_glossatorref3_Proves_b12 none p pf a2 a3 (i : Int) (q : Int) = if (pf.take i).any (fun x => (x.f_Set == (rule p d).f_All[q] && x.f_Element == d.f_Element)) = true then some (.inl ((q + 1 : Nat) : Int)) else some (.inr (.inr false)) := by
      unfold S_glossatorref3_Proves_b12
      simp only [Int.toNat_natCast, hd]
      have e : (p.getD d.f_Set.toNat default).getD d.f_Rule.toNat default = rule p d := rfl
      have := p13_loop hv hl hi hd (k0 := q) (getD_at hq) (a2 := a2) (a3 := a3) _ 0 false (Nat.zero_add _)
      rw [show (((0 : Nat) : Int)) = 0 from rfl] at this
      rw [e, if_pos (by simpa using hq), if_pos (by simpa using hq), if_pos (by rw [List.length_map]; omega), this, List.drop_zero, Bool.false_or]
      unfold S_glossatorref3_Proves_j19 S_glossatorref3_Proves_j20
      rw [Wi (by omega)]
      cases (pf.take i).any (fun x => (x.f_Set == (rule p d).f_All[q] && x.f_Element == d.f_Element)) <;> rfl
    by_cases hc : (pf.take i).any (fun x => (x.f_Set == (rule p d).f_All[q] && x.f_Element == d.f_Element)) = true
    · rw [loopM_inl (s' := ((q + 1 : Nat) : Int)) (by rw [hb, if_pos hc]), ih, hc, Bool.true_and]
    · rw [loopM_out (x := some (.inr false)) (by rw [hb, if_neg hc]; rfl)]
      have : (pf.take i).any (fun x => (x.f_Set == (rule p d).f_All[q] && x.f_Element == d.f_Element)) = false := by simpa using hc
      rw [this, Bool.false_and]
      rfl
theorem p9_step {i : Nat} (hi : i < pf.length) {a2 a3 : Int} : S_glossatorref3_Proves_b9 none p pf a2 a3 (i : Int) = if stepB p pf i = true then some (.inl ((i + 1 : Nat) : Int)) else some (.inr false) := by
  unfold S_glossatorref3_Proves_b9 stepB
  simp only [Int.toNat_natCast, List.length_map]
  obtain ⟨d, hd⟩ : ∃ d, pf.getD i default = d := ⟨_, rfl⟩
  simp only [hd]
  rw [if_pos (by rw [decide_eq_true_eq]; omega), if_pos (by omega)]
  by_cases hI : Inb p d
  · have hR := rule_ok hv hl hI
    have hI' := hI
    obtain ⟨h1, h2, h3, h4, h5, h6⟩ := hI
    rw [if_pos (fun _ => ⟨h1, h2⟩), if_neg (by simp only [Bool.or_eq_true, decide_eq_true_eq]; omega), if_pos ⟨h1, h2⟩, if_pos ⟨h3, h4⟩, if_pos h5]
    have e : (p.getD d.f_Set.toNat default).getD d.f_Rule.toNat default = rule p d := rfl
    rw [e, and_bit hR.1 h5 h6, decide_eq_true hI', Bool.true_and]
    cases hb : tb (rule p d).f_Mask d.f_Element.toNat
    · rw [if_pos (by decide), Bool.false_and, if_neg (by decide)]; rfl
    · have := p12_loop hv hl hi hd hI' (a2 := a2) (a3 := a3) _ 0 (Nat.zero_add _)
      rw [show (((0 : Nat) : Int)) = 0 from rfl] at this
      rw [if_neg (by decide), this, List.drop_zero, Bool.true_and]
      unfold prem
      split <;> rfl
  · rw [decide_eq_false hI, Bool.false_and, if_neg (show ¬ (false = true) by decide)]
    by_cases h1 : 0 ≤ d.f_Set ∧ d.f_Set < (p.length : Int)
    · rw [if_pos (fun _ => h1), if_pos]
      · rfl
      · simp only [Bool.or_eq_true, decide_eq_true_eq]
        unfold Inb at hI
        omega
    · rw [if_pos, if_pos]
      · rfl
      · simp only [Bool.or_eq_true, decide_eq_true_eq]; omega
      · intro h
        exfalso
        simp only [beq_iff_eq, Bool.or_eq_false_iff, decide_eq_false_iff_not] at h
        omega
noncomputable def allB (p : Rules) (pf : List G_QDerivation) : Nat → Nat → Bool
  | 0, _ => true
  | c + 1, i => stepB p pf i && allB p pf c (i + 1)
theorem p9_loop {a2 a3 : Int} : ∀ (c i : Nat), i + c = pf.length → S_glossatorref3_Proves_l9 none p pf a2 a3 (i : Int) = if allB p pf c i = true then S_glossatorref3_Proves_j22 none pf a2 a3 else some false
  | 0, i, h => by
    have : i = pf.length := by omega
    subst this
    unfold S_glossatorref3_Proves_l9
    rw [loopM_out (x := S_glossatorref3_Proves_j22 none pf a2 a3) ?_]
    · rfl
    · unfold S_glossatorref3_Proves_b9
      rw [if_neg (by simp)]
  | c + 1, i, h => by
    have hi : i < pf.length := by omega
    have ih := p9_loop (a2 := a2) (a3 := a3) c (i + 1) (by omega)
    unfold S_glossatorref3_Proves_l9 at ih ⊢
    unfold allB
    by_cases hs : stepB p pf i = true
    · rw [loopM_inl (s' := ((i + 1 : Nat) : Int)) (by rw [p9_step hv hl hi, if_pos hs]), ih, hs, Bool.true_and]
    · rw [loopM_out (x := some false) (by rw [p9_step hv hl hi, if_neg hs]; rfl)]
      have : stepB p pf i = false := by simpa using hs
      rw [this, Bool.false_and, if_neg (by decide)]
theorem v1_loop {a2 a3 : Int} : ∀ (c i : Nat), i + c = pf.length → S_fixpoint_Verify_l1 none p pf a2 a3 (i : Int) = if allB p pf c i = true then S_fixpoint_Verify_j1 none pf a2 a3 else some false
  | 0, i, h => by
    have : i = pf.length := by omega
    subst this
    unfold S_fixpoint_Verify_l1
    rw [loopM_out (x := S_fixpoint_Verify_j1 none pf a2 a3) ?_]
    · rfl
    · unfold S_fixpoint_Verify_b1
      rw [if_neg (by simp)]
  | c + 1, i, h => by
    have hi : i < pf.length := by omega
    have ih := v1_loop (a2 := a2) (a3 := a3) c (i + 1) (by omega)
    unfold S_fixpoint_Verify_l1 at ih ⊢
    unfold allB
    have hb : S_fixpoint_Verify_b1 none p pf a2 a3 (i : Int) = if stepB p pf i = true then some (.inl ((i + 1 : Nat) : Int)) else some (.inr false) := by
      unfold S_fixpoint_Verify_b1
      rw [if_pos (by simpa using hi), validStep_ok hv hl hi, Option.bind_some, Wi (by unfold BB at hl; omega)]
      cases stepB p pf i <;> rfl
    by_cases hs : stepB p pf i = true
    · rw [loopM_inl (s' := ((i + 1 : Nat) : Int)) (by rw [hb, if_pos hs]), ih, hs, Bool.true_and]
    · rw [loopM_out (x := some false) (by rw [hb, if_neg hs]; rfl)]
      have : stepB p pf i = false := by simpa using hs
      rw [this, Bool.false_and, if_neg (by decide)]
noncomputable def provesB (p : Rules) (pf : List G_QDerivation) (a2 a3 : Int) : Bool := allB p pf pf.length 0 && decide (0 < pf.length ∧ (pf.getD (pf.length - 1) default).f_Set = a2 ∧ (pf.getD (pf.length - 1) default).f_Element = a3)
theorem lastW (h : 0 < pf.length) : W ((pf.length : Int) - 1) = ((pf.length - 1 : Nat) : Int) := by
  have _ := hv
  unfold BB at hl
  rw [W_in (by unfold inR; omega)]; omega
theorem proves_ok {a2 a3 : Int} : S_glossatorref3_Proves none p pf a2 a3 = some (provesB p pf a2 a3) := by
  have := p9_loop hv hl (a2 := a2) (a3 := a3) _ 0 (Nat.zero_add _)
  rw [show (((0 : Nat) : Int)) = 0 from rfl] at this
  unfold S_glossatorref3_Proves provesB
  rw [this]
  cases allB p pf pf.length 0
  · rfl
  · rw [if_pos rfl, Bool.true_and]
    unfold S_glossatorref3_Proves_j22
    simp only [List.length_map]
    by_cases h0 : 0 < pf.length
    · rw [lastW hv hl h0, if_pos (fun _ => by omega), if_pos (fun _ => by omega), Int.toNat_natCast]
      have e : decide ((pf.length : Int) > 0) = true := by rw [decide_eq_true_eq]; omega
      rw [e, Bool.true_and]
      congr 1
      rw [Bool.eq_iff_iff]
      simp only [Bool.and_eq_true, beq_iff_eq, decide_eq_true_eq]
      exact ⟨fun h => ⟨h0, h.1, h.2⟩, fun h => ⟨h.2.1, h.2.2⟩⟩
    · have e : decide ((pf.length : Int) > 0) = false := by rw [decide_eq_false_iff_not]; omega
      rw [e, if_pos (fun h => by cases h), if_pos (fun h => by cases h), decide_eq_false (fun h => h0 h.1)]
      rfl
theorem verify_ok {a2 a3 : Int} (hc : S_fixpoint_Check none p = some 0) : S_fixpoint_Verify none p pf a2 a3 = some (provesB p pf a2 a3) := by
  unfold S_fixpoint_Verify provesB
  rw [hc, Option.bind_some, List.length_map]
  by_cases h0 : 0 < pf.length
  · have := v1_loop hv hl (a2 := a2) (a3 := a3) _ 0 (Nat.zero_add _)
    rw [show (((0 : Nat) : Int)) = 0 from rfl] at this
    have e : ((0 : Int) != 0 || ((pf.length : Int) == 0)) = false := by
      rw [Bool.or_eq_false_iff]
      exact ⟨rfl, beq_eq_false_iff_ne.2 (by omega)⟩
    rw [e, if_neg (by decide), this]
    cases allB p pf pf.length 0
    · rfl
    · rw [if_pos rfl, Bool.true_and]
      unfold S_fixpoint_Verify_j1
      simp only [List.length_map]
      rw [lastW hv hl h0, if_pos (by omega), Int.toNat_natCast]
      congr 1
      rw [Bool.eq_iff_iff]
      simp only [Bool.and_eq_true, beq_iff_eq, decide_eq_true_eq]
      exact ⟨fun h => ⟨h0, h.1, h.2⟩, fun h => ⟨h.2.1, h.2.2⟩⟩
  · have e : ((0 : Int) != 0 || ((pf.length : Int) == 0)) = true := by
      rw [Bool.or_eq_true]
      exact .inr (beq_iff_eq.2 (by omega))
    rw [e, if_pos rfl, decide_eq_false (fun h => h0 h.1), Bool.and_false]
end
end Go.Proofs.Ytjcckmpeflflbaa
