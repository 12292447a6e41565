/-
  Own text Law7 of this claim: what functions of the given program compute, in plain Lean, and the proof; no condition.
-/
import Derived.Test.YtobkgelkaljjeaaLaw6
import Derived.Test.YtobkgelkaljjeaaOk
import Derived.Lib.Bytealg
import Derived.Sort.Walk0
namespace Go.Proofs.Ytobkgelkaljjeaa
open Go.Fx
set_option linter.unusedVariables false
theorem cmpB_lt : ∀ (a b : List UInt8), Go.Lib.compareBytes a b < 0 ↔ a < b
  | [], [] => by simp [Go.Lib.compareBytes]
  | [], _ :: _ => by simp [Go.Lib.compareBytes]
  | _ :: _, [] => by simp [Go.Lib.compareBytes]
  | a :: s, b :: t => by
    have ih := cmpB_lt s t
    unfold Go.Lib.compareBytes
    rw [List.cons_lt_cons_iff]
    by_cases h1 : a < b
    · simp [h1]
    · by_cases h2 : b < a
      · have : a ≠ b := fun e => by subst e; exact h1 h2
        simp [h1, h2, this]
      · have : a = b := UInt8.le_antisymm (UInt8.not_lt.1 h2) (UInt8.not_lt.1 h1)
        subst this
        simp [h1, ih]
theorem cmpB_eq : ∀ (a b : List UInt8), Go.Lib.compareBytes a b = 0 ↔ a = b
  | [], [] => by simp [Go.Lib.compareBytes]
  | [], _ :: _ => by simp [Go.Lib.compareBytes]
  | _ :: _, [] => by simp [Go.Lib.compareBytes]
  | a :: s, b :: t => by
    have ih := cmpB_eq s t
    unfold Go.Lib.compareBytes
    by_cases h1 : a < b
    · have : a ≠ b := fun e => by subst e; exact absurd h1 (UInt8.lt_irrefl _)
      simp [h1, this]
    · by_cases h2 : b < a
      · have : a ≠ b := fun e => by subst e; exact h1 h2
        simp [h1, h2, this]
      · have : a = b := UInt8.le_antisymm (UInt8.not_lt.1 h2) (UInt8.not_lt.1 h1)
        subst this
        simp [h1, ih]
theorem bl_tri (a b : List UInt8) : a < b ∨ a = b ∨ b < a := by
  by_cases h1 : a < b
  · exact .inl h1
  · by_cases h2 : b < a
    · exact .inr (.inr h2)
    · exact .inr (.inl (List.le_antisymm (List.not_lt.1 h2) (List.not_lt.1 h1)))
def cI (a b : Int) : Int := if a < b then -1 else if a > b then 1 else 0
def or3 (a b c : Int) : Int := if a ≠ 0 then a else if b ≠ 0 then b else c
section
variable (sc ln : Int → Int) (nm : Int → List UInt8)
def cx (x y : Int) : Int := or3 (cI (sc y) (sc x)) (cI (ln x) (ln y)) (Go.Lib.compareBytes (nm x) (nm y))
def Lex (x y : Int) : Prop := sc y < sc x ∨ (sc y = sc x ∧ (ln x < ln y ∨ (ln x = ln y ∧ (nm x < nm y ∨ (nm x = nm y ∧ x < y)))))
theorem cI_lt {a b : Int} (h : a < b) : cI a b = -1 := by unfold cI; rw [if_pos h]
theorem cI_eq {a b : Int} (h : a = b) : cI a b = 0 := by unfold cI; rw [if_neg (by omega), if_neg (by omega)]
theorem cI_gt {a b : Int} (h : b < a) : cI a b = 1 := by unfold cI; rw [if_neg (by omega), if_pos h]
theorem lex_iff (x y : Int) : ltc (cx sc ln nm) x y ↔ Lex sc ln nm x y := by
  have h1 := cmpB_lt (nm x) (nm y)
  have h2 := cmpB_eq (nm x) (nm y)
  unfold ltc Lex cx
  rw [← h1, ← h2]
  generalize Go.Lib.compareBytes (nm x) (nm y) = w
  rcases Int.lt_trichotomy (sc y) (sc x) with hs | hs | hs
  · have e : or3 (cI (sc y) (sc x)) (cI (ln x) (ln y)) w = -1 := by rw [cI_lt hs]; rfl
    rw [e]; simp [hs]
  · rcases Int.lt_trichotomy (ln x) (ln y) with hl | hl | hl
    · have e : or3 (cI (sc y) (sc x)) (cI (ln x) (ln y)) w = -1 := by rw [cI_eq hs, cI_lt hl]; rfl
      rw [e]; simp [hs, hl]
    · have e : or3 (cI (sc y) (sc x)) (cI (ln x) (ln y)) w = w := by rw [cI_eq hs, cI_eq hl]; rfl
      rw [e]; simp [hs, hl]
    · have e : or3 (cI (sc y) (sc x)) (cI (ln x) (ln y)) w = 1 := by rw [cI_eq hs, cI_gt hl]; rfl
      rw [e]
      have : ¬ ln x < ln y := by omega
      have : ¬ ln x = ln y := by omega
      simp [*]
  · have e : or3 (cI (sc y) (sc x)) (cI (ln x) (ln y)) w = 1 := by rw [cI_gt hs]; rfl
    rw [e]
    have : ¬ sc y < sc x := by omega
    have : ¬ sc y = sc x := by omega
    simp [*]
theorem lex_tot {x y : Int} (h : x ≠ y) : Lex sc ln nm x y ∨ Lex sc ln nm y x := by
  unfold Lex
  rcases Int.lt_trichotomy (sc y) (sc x) with hs | hs | hs
  · exact .inl (.inl hs)
  · rcases Int.lt_trichotomy (ln x) (ln y) with hl | hl | hl
    · exact .inl (.inr ⟨hs, .inl hl⟩)
    · rcases bl_tri (nm x) (nm y) with hn | hn | hn
      · exact .inl (.inr ⟨hs, .inr ⟨hl, .inl hn⟩⟩)
      · rcases Int.lt_trichotomy x y with hx | hx | hx
        · exact .inl (.inr ⟨hs, .inr ⟨hl, .inr ⟨hn, hx⟩⟩⟩)
        · exact absurd hx h
        · exact .inr (.inr ⟨hs.symm, .inr ⟨hl.symm, .inr ⟨hn.symm, hx⟩⟩⟩)
      · exact .inr (.inr ⟨hs.symm, .inr ⟨hl.symm, .inl hn⟩⟩)
    · exact .inr (.inr ⟨hs.symm, .inl hl⟩)
  · exact .inr (.inl hs)
theorem lex_asym {x y : Int} (h : Lex sc ln nm x y) : ¬ Lex sc ln nm y x := by
  unfold Lex at *
  rcases h with h | ⟨h1, h | ⟨h2, h | ⟨h3, h⟩⟩⟩ <;> rintro (g | ⟨g1, g | ⟨g2, g | ⟨g3, g⟩⟩⟩) <;> first | omega | exact absurd g (List.lt_asymm h) | (rw [g3] at h; exact List.lt_irrefl _ h) | (rw [h3] at g; exact List.lt_irrefl _ g)
theorem lex_trans {x y z : Int} (h : Lex sc ln nm x y) (h' : Lex sc ln nm y z) : Lex sc ln nm x z := by
  unfold Lex at *
  rcases h with h | ⟨h1, h | ⟨h2, h | ⟨h3, h⟩⟩⟩ <;> rcases h' with g | ⟨g1, g | ⟨g2, g | ⟨g3, g⟩⟩⟩
  all_goals first
    | (left; omega)
    | (right; refine ⟨by omega, ?_⟩; left; omega)
    | (right; refine ⟨by omega, .inr ⟨by omega, .inl ?_⟩⟩; exact List.lt_trans h g)
    | (right; refine ⟨by omega, .inr ⟨by omega, .inl ?_⟩⟩; rw [← g3]; exact h)
    | (right; refine ⟨by omega, .inr ⟨by omega, .inl ?_⟩⟩; rw [h3]; exact g)
    | (right; refine ⟨by omega, .inr ⟨by omega, .inr ⟨h3.trans g3, by omega⟩⟩⟩)
theorem ordc {D : Int → Prop} : Ordc (cx sc ln nm) D := ⟨fun x y _ _ h => by rw [lex_iff, lex_iff]; exact lex_tot sc ln nm h, fun x y _ _ h => by rw [lex_iff] at *; exact lex_asym sc ln nm h, fun x y z _ _ _ h h' => by rw [lex_iff] at *; exact lex_trans sc ln nm h h'⟩
end
theorem cmpI_eq (a b : Int) : S_cmp_Compare_int none a b = some (cI a b) := by
  unfold S_cmp_Compare_int S_cmp_isNaN_int cI
  simp only [Option.bind_some, bne_self_eq_false]
  rw [if_neg (by simp), if_neg (by simp)]
  by_cases h : a < b
  · rw [if_pos (by simpa using h), if_pos h]
  · rw [if_neg (by simpa using h), if_neg h]
    by_cases h2 : a > b
    · rw [if_pos (by simpa using h2), if_pos h2]
    · rw [if_neg (by simpa using h2), if_neg h2]
theorem or_eq (a b c : Int) : S_cmp_Or_int none ([a, b, c] : List Int) = some (or3 a b c) := by
  unfold S_cmp_Or_int S_cmp_Or_int_l1
  have st : ∀ k : Nat, (h : k < 3) → S_cmp_Or_int_b1 none ([a, b, c] : List Int) (k : Int) = if ([a, b, c] : List Int)[k] ≠ 0 then some (.inr ([a, b, c] : List Int)[k]) else some (.inl ((k + 1 : Nat) : Int)) := fun k h => by
    unfold S_cmp_Or_int_b1
    rw [if_pos (by simp; omega), if_pos (by simp; omega), Int.toNat_natCast, getD_at (show k < ([a, b, c] : List Int).length from h), Wi (by omega)]
    by_cases h0 : ([a, b, c] : List Int)[k] = 0
    · rw [if_neg (by simpa using h0), if_neg (fun hh => hh h0)]
    · rw [if_pos (by simpa using h0), if_pos h0]; rfl
  have s0 := st 0 (by decide)
  have s1 := st 1 (by decide)
  have s2 := st 2 (by decide)
  simp only [List.getElem_cons_zero, List.getElem_cons_succ] at s0 s1 s2
  change loopM none (fun s => S_cmp_Or_int_b1 none [a, b, c] s) ((0 : Nat) : Int) = _
  by_cases ha : a = 0
  · rw [if_neg (fun h => h ha)] at s0
    have e : or3 a b c = if b ≠ 0 then b else c := by unfold or3; rw [if_neg (fun h => h ha)]
    rw [loopM_inl (s' := ((1 : Nat) : Int)) s0, e]
    by_cases hb : b = 0
    · rw [if_neg (fun h => h hb)] at s1 ⊢
      rw [loopM_inl (s' := ((2 : Nat) : Int)) s1]
      by_cases hc : c = 0
      · rw [if_neg (fun h => h hc)] at s2
        rw [loopM_inl (s' := ((3 : Nat) : Int)) s2]
        refine loopM_out (x := some c) ?_
        unfold S_cmp_Or_int_b1 S_cmp_Or_int_j1
        rw [if_neg (by simp), hc]
      · rw [if_pos hc] at s2
        exact loopM_out (x := some c) s2
    · rw [if_pos hb] at s1
      rw [if_pos hb]
      exact loopM_out (x := some b) s1
  · rw [if_pos ha] at s0
    have e : or3 a b c = a := by unfold or3; rw [if_pos ha]
    rw [e]
    exact loopM_out (x := some a) s0
def nmf (names : List (List UInt8)) (x : Int) : List UInt8 := names.getD x.toNat default
def scf (scores : List Int) (x : Int) : Int := scores.getD x.toNat default
def cR (names : List (List UInt8)) (scores : List Int) : Int → Int → Int := cx (scf scores) (fun x => ((nmf names x).length : Int)) (nmf names)
theorem rank1_eq {names : List (List UInt8)} {scores : List Int} (hl : scores.length = names.length) {x y : Int} (hx : 0 ≤ x ∧ x < (names.length : Int)) (hy : 0 ≤ y ∧ y < (names.length : Int)) : S_fuzzy_Rank_1c none names scores x y = some (cR names scores x y) := by
  unfold S_fuzzy_Rank_1c
  simp only [Nat.zero_add, List.length_map]
  rw [if_pos (by omega), if_pos (by omega), if_pos (by omega), if_pos (by omega), if_pos (by omega), if_pos (by omega), if_pos (by omega), if_pos (by omega), cmpI_eq, Option.bind_some, cmpI_eq, Option.bind_some]
  unfold S_strings_Compare
  rw [Option.bind_some, or_eq, Option.bind_some]
  rfl
def scr (P N : List UInt8) : Int × List Int × Bool := if P.length ≤ 30 ∧ N.length ≤ 30 then res P N else (0, [], false)
theorem scr_eq (P N : List UInt8) : S_fuzzy_Score none P N = some (scr P N) := by
  unfold scr
  by_cases h : P.length ≤ 30 ∧ N.length ≤ 30
  · rw [if_pos h]; exact score_eq P N h.1 h.2
  · rw [if_neg h]; unfold S_fuzzy_Score; rw [if_pos (by simp; omega)]
section
variable (P : List UInt8) (names : List (List UInt8))
def okI (i : Nat) : Bool := (scr P (names.getD i default)).2.2
def idx (i : Nat) : List Int := ((List.range i).filter (okI P names)).map fun k => ((k : Nat) : Int)
theorem idx_succ (i : Nat) : idx P names (i + 1) = if okI P names i = true then idx P names i ++ [(i : Int)] else idx P names i := by
  unfold idx
  rw [List.range_succ, List.filter_append, List.map_append]
  by_cases h : okI P names i = true
  · simp [h]
  · simp [h]
theorem idx_len (i : Nat) : (idx P names i).length ≤ i := by
  unfold idx; rw [List.length_map]; exact Nat.le_trans (List.length_filter_le _ _) (by simp)
theorem idx_mem {i : Nat} {x : Int} (h : x ∈ idx P names i) : 0 ≤ x ∧ x < (i : Int) ∧ okI P names x.toNat = true := by
  unfold idx at h
  obtain ⟨k, hk, rfl⟩ := List.mem_map.1 h
  obtain ⟨h1, h2⟩ := List.mem_filter.1 hk
  have := List.mem_range.1 h1
  exact ⟨by omega, by omega, by simpa using h2⟩
theorem idx_pw (i : Nat) : (idx P names i).Pairwise (· < ·) := by
  unfold idx
  rw [List.pairwise_map]
  refine List.Pairwise.imp (R := (· < ·)) (fun {a b} h => by omega) ?_
  exact (List.pairwise_lt_range).sublist List.filter_sublist
theorem rank_loop (hn : names.length ≤ 200) : ∀ (k i : Nat) (sc : List Int), i + k = names.length → sc.length = names.length → (∀ x, x < i → okI P names x = true → sc.getD x default = (scr P (names.getD x default)).1) →
    ∃ sc', sc'.length = names.length ∧ (∀ x, x < names.length → okI P names x = true → sc'.getD x default = (scr P (names.getD x default)).1) ∧ S_fuzzy_Rank_l1 none P names (i : Int) (idx P names i) sc = S_fuzzy_Rank_j4 none names (idx P names names.length) sc'
  | 0, i, sc, h, hl, hs => by
    have hi : i = names.length := by omega
    subst hi
    refine ⟨sc, hl, hs, ?_⟩
    unfold S_fuzzy_Rank_l1
    refine loopM_out ?_
    unfold S_fuzzy_Rank_b1
    rw [if_neg (by simp)]
  | k + 1, i, sc, h, hl, hs => by
    have hi : i < names.length := by omega
    have hil := idx_len P names i
    have hb : S_fuzzy_Rank_b1 none P names (i : Int) (idx P names i) sc = some (.inl (((i + 1 : Nat) : Int), idx P names (i + 1), if okI P names i = true then sc.set i (scr P (names.getD i default)).1 else sc)) := by
      unfold S_fuzzy_Rank_b1 S_fuzzy_Rank_j3
      simp only [List.length_map, Int.toNat_natCast, Nat.zero_add]
      rw [if_pos (by simp; omega), if_pos (by omega), scr_eq, Option.bind_some, idx_succ]
      by_cases hok : okI P names i = true
      · rw [if_pos hok, if_pos hok, if_pos (show (scr P (names.getD i default)).2.2 = true from hok), if_pos (by simp; omega), if_pos (by omega), if_pos (by omega), Wi (by omega)]
      · rw [if_neg hok, if_neg hok, if_neg (show ¬ (scr P (names.getD i default)).2.2 = true from hok), Wi (by omega)]
    obtain ⟨sc', h1, h2, h3⟩ := rank_loop hn k (i + 1) (if okI P names i = true then sc.set i (scr P (names.getD i default)).1 else sc) (by omega) (by split <;> simpa using hl) (fun x hx hxo => by
      by_cases hxi : x = i
      · subst hxi
        rw [if_pos hxo, getD_at (by simp; omega), List.getElem_set_self]
      · have hold := hs x (by omega) hxo
        split
        · rw [List.getD_eq_getElem?_getD, List.getElem?_set_ne (by omega), ← List.getD_eq_getElem?_getD]; exact hold
        · exact hold)
    refine ⟨sc', h1, h2, ?_⟩
    unfold S_fuzzy_Rank_l1
    rw [loopM_inl hb]
    exact h3
theorem rank_eq (hn : names.length ≤ 200) : ∃ A : List Int, ∃ sc : List Int, (∀ x, x < names.length → okI P names x = true → sc.getD x default = (scr P (names.getD x default)).1) ∧ Good (cR names sc) A (idx P names names.length) ∧ S_fuzzy_Rank none P names = some (A, 0) := by
  obtain ⟨sc, h1, h2, h3⟩ := rank_loop P names hn names.length 0 (List.replicate names.length 0) (by omega) (by simp) (fun x hx => by omega)
  have hl := idx_len P names names.length
  obtain ⟨A, g1, g2⟩ := stable_eq (σ := Unit) (z := ()) (g0 := fun (s : Unit) (x : Int × Int) => (S_fuzzy_Rank_1c none names sc x.1 x.2).map fun o => (o, ())) (D := fun x => 0 ≤ x ∧ x < (names.length : Int)) (c := cR names sc) (ordc _ _ _)
    (fun x y hx hy => by simp only; rw [rank1_eq h1 hx hy]; rfl) (Y := idx P names names.length) (by omega) (fun x hx => by have := idx_mem P names hx; omega) (idx_pw P names _)
  refine ⟨A, sc, h2, g1, ?_⟩
  unfold S_fuzzy_Rank
  simp only [List.length_map, Int.toNat_natCast]
  rw [if_neg (by simp; omega), if_pos (by omega)]
  refine h3.trans ?_
  unfold S_fuzzy_Rank_j4
  rw [g2, Option.bind_some]
  simp only
  rw [if_pos (good_refl_l g1)]
theorem count_loop {v2 : List Int × Int} (hn : names.length ≤ 200) : ∀ (k i : Nat), i + k = names.length →
    S_glossatorlaw4_FuzzyRankSorted_l1 none P names v2 ((idx P names i).length : Int) (i : Int) = S_glossatorlaw4_FuzzyRankSorted_j4 none P names v2 ((idx P names names.length).length : Int)
  | 0, i, h => by
    have hi : i = names.length := by omega
    subst hi
    unfold S_glossatorlaw4_FuzzyRankSorted_l1
    refine loopM_out ?_
    unfold S_glossatorlaw4_FuzzyRankSorted_b1
    rw [if_neg (by simp)]
  | k + 1, i, h => by
    have hi : i < names.length := by omega
    have hil := idx_len P names i
    have ih := count_loop (v2 := v2) hn k (i + 1) (by omega)
    unfold S_glossatorlaw4_FuzzyRankSorted_l1
    rw [loopM_inl (s' := (((idx P names (i + 1)).length : Int), ((i + 1 : Nat) : Int))) ?_]
    · exact ih
    · unfold S_glossatorlaw4_FuzzyRankSorted_b1 S_glossatorlaw4_FuzzyRankSorted_j3
      simp only [List.length_map, Int.toNat_natCast]
      rw [if_pos (by simp; omega), if_pos (by omega), scr_eq, Option.bind_some, idx_succ, Wi (by omega)]
      by_cases hok : okI P names i = true
      · rw [if_pos (show (scr P (names.getD i default)).2.2 = true from hok), if_pos hok, Wi (by omega), List.length_append, List.length_singleton]
      · rw [if_neg (show ¬ (scr P (names.getD i default)).2.2 = true from hok), if_neg hok, Wi (by omega)]
theorem check_loop {A sc : List Int} (hn : names.length ≤ 200) (hs : ∀ x, x < names.length → okI P names x = true → sc.getD x default = (scr P (names.getD x default)).1) (hA : Good (cR names sc) A (idx P names names.length)) : ∀ (k i : Nat), i + k = A.length →
    S_glossatorlaw4_FuzzyRankSorted_l2 none P names (A, 0) (i : Int) = some true
  | 0, i, h => by
    unfold S_glossatorlaw4_FuzzyRankSorted_l2
    refine loopM_out (x := some true) ?_
    unfold S_glossatorlaw4_FuzzyRankSorted_b2 S_glossatorlaw4_FuzzyRankSorted_j8
    rw [if_neg (by simp; omega)]
  | k + 1, i, h => by
    have hi : i < A.length := by omega
    have hAl : A.length ≤ 200 := by have := good_refl_l hA; have := idx_len P names names.length; omega
    have ih := check_loop hn hs hA k (i + 1) (by omega)
    have mem : ∀ j, (hj : j < A.length) → 0 ≤ A[j] ∧ A[j] < (names.length : Int) ∧ okI P names A[j].toNat = true := fun j hj => idx_mem P names (hA.1.mem_iff.1 (List.getElem_mem hj))
    obtain ⟨m1, m2, m3⟩ := mem i hi
    unfold S_glossatorlaw4_FuzzyRankSorted_l2
    rw [loopM_inl (s' := ((i + 1 : Nat) : Int)) ?_]
    · exact ih
    · unfold S_glossatorlaw4_FuzzyRankSorted_b2 S_glossatorlaw4_FuzzyRankSorted_j7
      simp only [List.length_map, Int.toNat_natCast, getD_at hi]
      rw [if_pos (by simp; omega), if_pos (by omega), if_pos (by intro _; omega), if_neg (by simp; omega), if_pos (by omega), if_pos (by omega), scr_eq, Option.bind_some, Wi (by omega),
        if_neg (by rw [show (scr P (names.getD A[i].toNat default)).2.2 = true from m3]; simp)]
      by_cases h0 : i = 0
      · subst h0; rw [if_pos (by simp)]
      · have hp : i - 1 < A.length := by omega
        obtain ⟨n1, n2, n3⟩ := mem (i - 1) hp
        have w1 : W ((i : Int) - 1) = ((i - 1 : Nat) : Int) := by rw [Wz (by omega)]; omega
        have hlt : Lex (scf sc) (fun x => ((nmf names x).length : Int)) (nmf names) A[i - 1] A[i] := (lex_iff _ _ _ _ _).1 ((List.pairwise_iff_getElem.1 hA.2) (i - 1) i hp hi (by omega))
        unfold Lex scf nmf at hlt
        rw [hs _ (by omega) m3, hs _ (by omega) n3] at hlt
        simp only [w1, Int.toNat_natCast, getD_at hp]
        rw [if_neg (by simp; omega), if_pos (by omega), if_pos (by omega), if_pos (by omega), if_pos (by omega), scr_eq, Option.bind_some, if_pos (by intro _; omega), if_pos (by intro _; omega), if_neg]
        simp only [Go.Proofs.bytesLess_eq]
        simp only [Bool.not_eq_true', Bool.not_eq_false, Bool.or_eq_true, Bool.and_eq_true, decide_eq_true_eq, beq_iff_eq]
        rcases hlt with h1 | ⟨h1, h2 | ⟨h2, h3 | ⟨h3, h4⟩⟩⟩
        · exact .inl (by omega)
        · exact .inr ⟨h1.symm, .inl h2⟩
        · exact .inr ⟨h1.symm, .inr ⟨h2, .inl h3⟩⟩
        · exact .inr ⟨h1.symm, .inr ⟨h2, .inr ⟨h3, h4⟩⟩⟩
end
theorem lawR {a0 : List UInt8} {a1 : List (List UInt8)} (h : okA4 a0 a1) : S_glossatorlaw4_FuzzyRankSorted none a0 a1 = some true := by
  unfold S_glossatorlaw4_FuzzyRankSorted
  rw [example_ok, Option.bind_some, if_neg (by simp)]
  by_cases hn : a1.length ≤ 200
  · obtain ⟨A, sc, h1, h2, h3⟩ := rank_eq a0 a1 hn
    rw [h3, Option.bind_some, if_neg (by simp; omega)]
    have := count_loop a0 a1 (v2 := (A, 0)) hn a1.length 0 (by omega)
    refine this.trans ?_
    unfold S_glossatorlaw4_FuzzyRankSorted_j4
    have hl := good_refl_l h2
    rw [if_neg (by simp; omega)]
    exact check_loop a0 a1 hn h1 h2 A.length 0 (by omega)
  · have : S_fuzzy_Rank none a0 a1 = some ([], 2) := by
      unfold S_fuzzy_Rank
      rw [if_pos (by simp; omega)]
    rw [this, Option.bind_some, if_pos (by simp; omega)]
    rfl
end Go.Proofs.Ytobkgelkaljjeaa
