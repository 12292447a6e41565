/-
  Own text Law3 of this claim.
-/
import Derived.Test.YtjcckmpeflflbaaLaw1
namespace Go.Proofs.Ytjcckmpeflflbaa
open Go.Fx
set_option linter.unusedVariables false
abbrev Rules := List (List G_QRule)
structure Valid (p : Rules) : Prop where
  n60 : p.length ≤ 60
  l20 : ∀ l ∈ p, l.length ≤ 20
  ok : ∀ l ∈ p, ∀ r ∈ l, Rok p.length r
noncomputable def Fs (p : Rules) (s : List Int) : List Int := p.map (dA s)
theorem Fs_ok {p : Rules} (hv : Valid p) (s : List Int) : Sok p.length (Fs p s) := by
  refine ⟨by simp [Fs], fun x hx => ?_⟩
  obtain ⟨l, hl, rfl⟩ := List.mem_map.1 hx
  exact dA_rng (hv.ok l hl)
theorem zero_ok (n : Nat) : Sok n (List.replicate n 0) := ⟨by simp, fun x hx => by rw [List.eq_of_mem_replicate hx]; unfold rng; omega⟩
theorem Fs_at {p : Rules} {s : List Int} {i : Nat} (h : i < p.length) : (Fs p s).getD i default = dA s p[i] := by
  have : i < (Fs p s).length := by simpa [Fs] using h
  rw [getD_at this]; simp [Fs]
theorem eqI_loop {a b : List Int} (hl : a.length = b.length) (h64 : a.length ≤ 4611686018427387904) : ∀ (k i : Nat), i + k = a.length → S_glossatorref3_Equal_int_l1 none a b (i : Int) = some (decide (a.drop i = b.drop i))
  | 0, i, h => by
    have : i = a.length := by omega
    subst this
    unfold S_glossatorref3_Equal_int_l1
    rw [loopM_out (x := some true) ?_]
    · rw [List.drop_length, hl, List.drop_length]; rfl
    · unfold S_glossatorref3_Equal_int_b1 S_glossatorref3_Equal_int_j1
      rw [if_neg (by simp)]
  | k + 1, i, h => by
    have hi : i < a.length := by omega
    have hi' : i < b.length := by omega
    have ih := eqI_loop hl h64 k (i + 1) (by omega)
    unfold S_glossatorref3_Equal_int_l1 at ih ⊢
    rw [List.drop_eq_getElem_cons hi, List.drop_eq_getElem_cons hi']
    have hb : S_glossatorref3_Equal_int_b1 none a b (i : Int) = if a[i] = b[i] then some (.inl ((i + 1 : Nat) : Int)) else some (.inr false) := by
      unfold S_glossatorref3_Equal_int_b1
      rw [if_pos (by simpa using hi), if_pos (by simpa using hi), if_pos (by simpa using hi')]
      simp only [Int.toNat_natCast, getD_at hi, getD_at hi']
      by_cases he : a[i] = b[i]
      · rw [if_neg (by simp [he]), if_pos he, Wi (by omega)]
      · rw [if_pos (by simpa using he), if_neg he]; rfl
    by_cases he : a[i] = b[i]
    · rw [loopM_inl (s' := ((i + 1 : Nat) : Int)) (by rw [hb, if_pos he]), ih]
      exact congrArg some (decide_eq_decide.2 (by rw [List.cons.injEq]; simp only [he, true_and]))
    · rw [loopM_out (x := some false) (by rw [hb, if_neg he]; rfl)]
      rw [decide_eq_false (by rw [List.cons.injEq]; exact fun h => he h.1)]
theorem eqI_ok {a b : List Int} (h64 : a.length ≤ 4611686018427387904) : S_glossatorref3_Equal_int none a b = some (decide (a = b)) := by
  unfold S_glossatorref3_Equal_int
  by_cases hl : a.length = b.length
  · rw [if_neg (by simp [hl])]
    have := eqI_loop hl h64 _ 0 (Nat.zero_add _)
    simpa using this
  · rw [if_pos (by simpa using fun h => hl (by omega))]
    have : a ≠ b := fun h => hl (by rw [h])
    simp [this]
theorem eqS_ok {a b : List Int} (h64 : a.length ≤ 4611686018427387904) : S_slices_Equal_int none a b = some (decide (a = b)) := eqI_ok h64

section
variable {p : Rules} (hv : Valid p)
include hv
theorem rounds_in {v8 : Int} {s : List Int} (hs : Sok p.length s) : ∀ (k i : Nat) (nx : List Int), i + k = p.length → nx.length = p.length → nx.take i = (Fs p s).take i → S_fixpoint_Rounds_l4 none p v8 s (i : Int) nx = S_fixpoint_Rounds_j5 none p v8 s (Fs p s)
  | 0, i, nx, h, hl, ht => by
    have : i = p.length := by omega
    subst this
    have e : nx = Fs p s := by
      rw [List.take_of_length_le (by omega), List.take_of_length_le (by rw [(Fs_ok hv s).1]; exact Nat.le_refl _)] at ht
      exact ht
    unfold S_fixpoint_Rounds_l4
    rw [loopM_out (x := S_fixpoint_Rounds_j5 none p v8 s (Fs p s)) ?_]
    unfold S_fixpoint_Rounds_b4
    rw [if_neg (by simp), e]
  | k + 1, i, nx, h, hl, ht => by
    have hi : i < p.length := by omega
    have h60 := hv.n60
    have hF : i < (Fs p s).length := by rw [(Fs_ok hv s).1]; exact hi
    have ih := rounds_in hs (v8 := v8) k (i + 1) (nx.set i (dA s p[i])) (by omega) (by simpa using hl) (by
      rw [List.take_succ_eq_append_getElem (by simpa [hl] using hi), List.take_succ_eq_append_getElem hF, List.take_set_of_le (Nat.le_refl i), ht]
      simp [Fs])
    unfold S_fixpoint_Rounds_l4 at ih ⊢
    rw [← ih]
    refine loopM_inl ?_
    unfold S_fixpoint_Rounds_b4
    rw [if_pos (by simpa using hi), if_pos (by simpa using hi)]
    simp only [Int.toNat_natCast, getD_at hi]
    rw [deriveAll_ok hs (hv.l20 _ (List.getElem_mem hi)) (hv.ok _ (List.getElem_mem hi)), Option.bind_some, if_pos (by omega), if_pos (by omega), Wi (by omega), Nat.zero_add]
theorem rounds_step {v8 : Int} {s : List Int} (hs : Sok p.length s) : S_fixpoint_Rounds_b3 none p v8 s = if Fs p s = s then some (.inr (v8, 0)) else some (.inl (W (v8 + 1), Fs p s)) := by
  have h60 := hv.n60
  unfold S_fixpoint_Rounds_b3
  have hlen : (p.map eB).length = p.length := by simp
  rw [if_pos (by rw [hlen]; omega)]
  have := rounds_in hv hs (v8 := v8) p.length 0 (List.replicate p.length 0) (by omega) (by simp) (by simp)
  rw [show (((0 : Nat) : Int)) = 0 from rfl] at this
  rw [hlen, Int.toNat_natCast, this]
  unfold S_fixpoint_Rounds_j5 S_fixpoint_Rounds_j6
  rw [eqS_ok (by rw [(Fs_ok hv s).1]; omega), Option.bind_some]
  by_cases he : Fs p s = s
  · rw [if_pos (by simpa using he), if_pos he]; rfl
  · rw [if_neg (by simpa using he), if_neg he]
theorem rr_all {s : List Int} (hs : Sok p.length s) {i j : Nat} (hi : i < p.length) (hj : j < p[i].length) {nx : List Int} (hl : nx.length = p.length) {d0 : Int} :
    ∀ (k q : Nat) (d : Int), q + k = p[i][j].f_All.length → rng d → rng (nx.getD i default) → S_glossatorref3_Round_l13 none p s (i : Int) (j : Int) nx d (q : Int) = some (.inl (((j + 1 : Nat) : Int), nx.set i (bor (nx.getD i default) (dvl s (p[i][j].f_All.drop q) d))))
  | 0, q, d, h, hd, hn => by
    have h60 := hv.n60
    have h20 := hv.l20 _ (List.getElem_mem hi)
    have : q = p[i][j].f_All.length := by omega
    subst this
    unfold S_glossatorref3_Round_l13
    rw [loopM_out (x := some (.inl (((j + 1 : Nat) : Int), nx.set i (bor (nx.getD i default) d)))) ?_]
    · rw [List.drop_length]; rfl
    · unfold S_glossatorref3_Round_b13 S_glossatorref3_Round_j19 S_glossatorref3_Round_j20
      simp only [Int.toNat_natCast, getD_at hi, getD_at hj]
      rw [if_neg (by simp), if_pos (by omega), if_pos (by omega), if_pos (by omega), if_pos (by omega), Nat.zero_add, ibits_or hn hd, Wi (by omega)]
  | k + 1, q, d, h, hd, hn => by
    have h60 := hv.n60
    have hr := hv.ok _ (List.getElem_mem hi) _ (List.getElem_mem hj)
    have h61 := hr.2.1
    have hq : q < p[i][j].f_All.length := by omega
    obtain ⟨g1, g2⟩ := hr.2.2 _ (List.getElem_mem hq)
    have hx := hs.at (k := p[i][j].f_All[q].toNat) (by omega)
    have ih := rr_all hs hi hj hl (d0 := d0) k (q + 1) (band d (s.getD p[i][j].f_All[q].toNat default)) (by omega) (band_rng hd) hn
    unfold S_glossatorref3_Round_l13 at ih ⊢
    rw [List.drop_eq_getElem_cons hq]
    have e : dvl s (p[i][j].f_All[q] :: p[i][j].f_All.drop (q + 1)) d = dvl s (p[i][j].f_All.drop (q + 1)) (band d (s.getD p[i][j].f_All[q].toNat default)) := rfl
    rw [e, ← ih]
    refine loopM_inl ?_
    unfold S_glossatorref3_Round_b13
    simp only [Int.toNat_natCast, getD_at hi, getD_at hj, getD_at hq]
    have hsl := hs.1
    rw [if_pos (by simpa using hq), if_pos (by simpa using hq), if_pos (by omega), if_pos (by omega), Nat.zero_add, ibits_and hd hx, Wi (by omega)]
theorem rr_list {s : List Int} (hs : Sok p.length s) {i : Nat} (hi : i < p.length) : ∀ (k j : Nat) (nx : List Int), j + k = p[i].length → nx.length = p.length → rng (nx.getD i default) → S_glossatorref3_Round_l12 none p s (i : Int) (j : Int) nx = some (.inl (((i + 1 : Nat) : Int), nx.set i (dAl s (p[i].drop j) (nx.getD i default))))
  | 0, j, nx, h, hl, hn => by
    have h60 := hv.n60
    have : j = p[i].length := by omega
    subst this
    unfold S_glossatorref3_Round_l12
    rw [loopM_out (x := some (.inl (((i + 1 : Nat) : Int), nx))) ?_]
    · rw [List.drop_length]
      have : nx.set i (dAl s [] (nx.getD i default)) = nx := by
        have hi' : i < nx.length := by omega
        show nx.set i (nx.getD i default) = nx
        rw [getD_at hi', List.set_getElem_self]
      rw [this]
    · unfold S_glossatorref3_Round_b12 S_glossatorref3_Round_j21
      simp only [Int.toNat_natCast, getD_at hi]
      rw [if_neg (by simp), Wi (by omega)]
  | k + 1, j, nx, h, hl, hn => by
    have h60 := hv.n60
    have hj : j < p[i].length := by omega
    have hr := hv.ok _ (List.getElem_mem hi) _ (List.getElem_mem hj)
    have hi' : i < nx.length := by omega
    have e0 : (nx.set i (bor (nx.getD i default) (dv s p[i][j]))).getD i default = bor (nx.getD i default) (dv s p[i][j]) := by
      rw [getD_at (by simpa using hi')]; simp
    have ih := rr_list hs hi k (j + 1) (nx.set i (bor (nx.getD i default) (dv s p[i][j]))) (by omega) (by simpa using hl) (by rw [e0]; exact bor_rng hn (dv_rng hr))
    rw [e0, List.set_set] at ih
    unfold S_glossatorref3_Round_l12 at ih ⊢
    rw [List.drop_eq_getElem_cons hj]
    have e : dAl s (p[i][j] :: p[i].drop (j + 1)) (nx.getD i default) = dAl s (p[i].drop (j + 1)) (bor (nx.getD i default) (dv s p[i][j])) := rfl
    rw [e, ← ih]
    refine loopM_inl ?_
    unfold S_glossatorref3_Round_b12
    simp only [Int.toNat_natCast, getD_at hi, getD_at hj]
    rw [if_pos (by simpa using hj), if_pos (by simpa using hj)]
    have := rr_all hv hs hi hj hl (d0 := 0) _ 0 p[i][j].f_Mask (Nat.zero_add _) hr.1 hn
    rw [show (((0 : Nat) : Int)) = 0 from rfl] at this
    rw [this, List.drop_zero]
    rfl
theorem rr_out {s : List Int} (hs : Sok p.length s) : ∀ (k i : Nat), i + k = p.length → S_glossatorref3_Round_l9 none p s (i : Int) ((Fs p s).take i ++ List.replicate k 0) = some (Fs p s)
  | 0, i, h => by
    have : i = p.length := by omega
    subst this
    unfold S_glossatorref3_Round_l9
    rw [loopM_out (x := some (Fs p s)) ?_]
    unfold S_glossatorref3_Round_b9 S_glossatorref3_Round_j22
    rw [if_neg (by simp), List.take_of_length_le (by rw [(Fs_ok hv s).1]; exact Nat.le_refl _)]
    simp
  | k + 1, i, h => by
    have h60 := hv.n60
    have hi : i < p.length := by omega
    have hF : i < (Fs p s).length := by rw [(Fs_ok hv s).1]; exact hi
    have ih := rr_out hs k (i + 1) (by omega)
    have hlen : ((Fs p s).take i).length = i := by rw [List.length_take]; omega
    have hnx : ((Fs p s).take i ++ List.replicate (k + 1) 0).length = p.length := by rw [List.length_append, hlen]; simp; omega
    have h0 : ((Fs p s).take i ++ List.replicate (k + 1) (0 : Int)).getD i default = 0 := by
      rw [getD_at (by omega), List.getElem_append_right (by omega)]; simp
    have := rr_list hv hs hi _ 0 ((Fs p s).take i ++ List.replicate (k + 1) 0) (Nat.zero_add _) hnx (by rw [h0]; unfold rng; omega)
    rw [h0, List.drop_zero, show (((0 : Nat) : Int)) = 0 from rfl] at this
    unfold S_glossatorref3_Round_l9 at ih ⊢
    rw [← ih]
    refine loopM_inl ?_
    unfold S_glossatorref3_Round_b9
    rw [if_pos (by simpa using hi), if_pos (by simpa using hi), this, List.set_append_right _ _ (by omega), hlen, Nat.sub_self, List.replicate_succ, List.set_cons_zero, List.take_succ_eq_append_getElem hF, List.append_assoc]
    simp [Fs, dA]
theorem round_ok {s : List Int} (hs : Sok p.length s) : S_glossatorref3_Round none p s = some (Fs p s) := by
  have h60 := hv.n60
  unfold S_glossatorref3_Round
  have hlen : (p.map eB).length = p.length := by simp
  rw [if_pos (by rw [hlen]; omega), hlen, Int.toNat_natCast]
  have := rr_out hv hs p.length 0 (by omega)
  simpa using this
theorem kleene_step {v3 : Int} {s : List Int} (hs : Sok p.length s) : S_glossatorref3_Kleene_b1 none p v3 s = if Fs p s = s then some (.inr (s, v3)) else some (.inl (W (v3 + 1), Fs p s)) := by
  have h60 := hv.n60
  unfold S_glossatorref3_Kleene_b1
  rw [round_ok hv hs, Option.bind_some, eqI_ok (by rw [(Fs_ok hv s).1]; omega), Option.bind_some]
  by_cases he : Fs p s = s
  · rw [if_pos (by simpa using he), if_pos he]; rfl
  · rw [if_neg (by simpa using he), if_neg he]
end
end Go.Proofs.Ytjcckmpeflflbaa
