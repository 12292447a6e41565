/-
  Own text Law7 of this claim: what functions of the given program compute, in plain Lean, and the proof; no condition.
-/
import Derived.Test.YtjcckmpeflflbaaLaw6
namespace Go.Proofs.Ytjcckmpeflflbaa
open Go.Fx
set_option linter.unusedVariables false
theorem Wn_whole (l : List Int) : Wn 0 l.length l = l := by unfold Wn; rw [List.drop_zero, List.take_length]
theorem rest_loop {p : Rules} {R : List (List Int)} {o0 x : Nat} {s l0 : List Int} {d : Int} {row : List Int} (hx : l0.getD o0 default = (x : Int)) (hrow : R.getD x default = row) (hr : row.length ≤ 60) :
    ∀ (k q off len : Nat) (l : List Int), q + k = row.length → off + len ≤ l.length → len + k ≤ 1099511627776 →
      ∃ off' len' l', S_fixpoint_propagate_25_l17 none p R o0 s l0 d off len (q : Int) l = some (.inl (off', len', s.set x (ibits .or .i64 (s.getD x default) d), l')) ∧ off' + len' ≤ l'.length ∧ len' ≤ len + k ∧ ∀ y, y ∈ Wn off' len' l' ↔ (y ∈ Wn off len l ∨ y ∈ row.drop q)
  | 0, q, off, len, l, h, hw, hb => by
    have : q = row.length := by omega
    subst this
    refine ⟨off, len, l, ?_, hw, by omega, fun y => by simp⟩
    unfold S_fixpoint_propagate_25_l17
    rw [loopM_out (x := some (.inl (off, len, s.set x (ibits .or .i64 (s.getD x default) d), l))) ?_]
    unfold S_fixpoint_propagate_25_b17
    simp only [Int.toNat_zero, Nat.add_zero, Nat.zero_add, hx, Int.toNat_natCast, hrow]
    rw [if_neg (by simp)]
  | k + 1, q, off, len, l, h, hw, hb => by
    have hq : q < row.length := by omega
    have hd := List.drop_eq_getElem_cons hq
    have hlen := Wn_len hw
    have hB : S_fixpoint_propagate_25_b17 none p R o0 s l0 d off len (q : Int) l = if row[q] ∈ Wn off len l then some (.inl (off, len, ((q + 1 : Nat) : Int), l)) else some (.inl (0, len + 1, ((q + 1 : Nat) : Int), Wn off len l ++ [row[q]])) := by
      unfold S_fixpoint_propagate_25_b17 S_fixpoint_propagate_25_j49
      simp only [Int.toNat_zero, Nat.add_zero, Nat.zero_add, hx, Int.toNat_natCast, hrow, getD_at hq]
      rw [if_pos (by simpa using hq), if_pos (by simpa using hq), hasW_ok (by unfold BB; omega) hw, Option.bind_some, Wi (by omega)]
      by_cases hm : row[q] ∈ Wn off len l
      · rw [if_neg (by rw [decide_eq_true hm]; decide), if_pos hm]
      · have e : (l.drop off).take len = Wn off len l := rfl
        rw [if_pos (by rw [decide_eq_false hm]; rfl), if_neg hm, e, if_pos (by rw [List.length_map]; exact hw), if_pos (by rw [List.length_map, List.length_append, hlen, List.length_singleton]; omega)]
        rw [List.length_map, List.length_append, hlen, List.length_singleton]
    unfold S_fixpoint_propagate_25_l17
    by_cases hm : row[q] ∈ Wn off len l
    · obtain ⟨off', len', l', g1, g2, g3, g4⟩ := rest_loop hx hrow hr (p := p) (s := s) (d := d) k (q + 1) off len l (by omega) hw (by omega)
      unfold S_fixpoint_propagate_25_l17 at g1
      refine ⟨off', len', l', by rw [loopM_inl (s' := (off, len, ((q + 1 : Nat) : Int), l)) (by rw [hB, if_pos hm]), g1], g2, by omega, fun y => ?_⟩
      rw [g4 y, hd, List.mem_cons]
      constructor
      · rintro (h | h)
        · exact .inl h
        · exact .inr (.inr h)
      · rintro (h | rfl | h)
        · exact .inl h
        · exact .inl hm
        · exact .inr h
    · have hl1 : (Wn off len l ++ [row[q]]).length = len + 1 := by rw [List.length_append, hlen, List.length_singleton]
      obtain ⟨off', len', l', g1, g2, g3, g4⟩ := rest_loop hx hrow hr (p := p) (s := s) (d := d) k (q + 1) 0 (len + 1) (Wn off len l ++ [row[q]]) (by omega) (by omega) (by omega)
      unfold S_fixpoint_propagate_25_l17 at g1
      refine ⟨off', len', l', by rw [loopM_inl (s' := (0, len + 1, ((q + 1 : Nat) : Int), Wn off len l ++ [row[q]])) (by rw [hB, if_neg hm]), g1], g2, by omega, fun y => ?_⟩
      have e : Wn 0 (len + 1) (Wn off len l ++ [row[q]]) = Wn off len l ++ [row[q]] := by rw [← hl1]; exact Wn_whole _
      rw [g4 y, e, List.mem_append, List.mem_singleton, hd, List.mem_cons, or_assoc]

theorem dA_same {s s' : List Int} {l : List G_QRule} (h : ∀ r ∈ l, ∀ k ∈ r.f_All, s'.getD k.toNat default = s.getD k.toNat default) : Sub (dA s' l) (dA s l) := by
  intro t ht
  rw [tb_dA] at ht ⊢
  simp only [List.any_eq_true] at ht ⊢
  obtain ⟨r, h1, h2⟩ := ht
  refine ⟨r, h1, ?_⟩
  rw [tb_dv] at h2 ⊢
  simp only [Bool.and_eq_true, List.all_eq_true] at h2 ⊢
  exact ⟨h2.1, fun k hk => by rw [← h r h1 k hk]; exact h2.2 k hk⟩
section
variable {p : Rules} (hv : Valid p) {R : List (List Int)} (hRl : R.length = p.length) (hRv : ∀ j, j < p.length → (∀ x ∈ R.getD j default, 0 ≤ x ∧ x < (p.length : Int)) ∧ (R.getD j default).length ≤ p.length)
  (hRd : ∀ i, (h : i < p.length) → ∀ r ∈ p[i], ∀ x ∈ r.f_All, (i : Int) ∈ R.getD x.toNat default) {S : List Int} (hS : Sok p.length S) (hFS : Fs p S = S) (hleast : ∀ X, Le p.length (Fs p X) X → Le p.length S X)
include hv hRl hRv hRd hS hFS hleast
theorem work_loop : ∀ (M off len : Nat) (s l : List Int), ((p.length : Int) * 1048575 - s.sum) * 62 + len ≤ M → off + len ≤ l.length → (len : Int) ≤ 60 + 61 * s.sum → Sok p.length s → Le p.length s S → (∀ y ∈ Wn off len l, 0 ≤ y ∧ y < (p.length : Int)) →
    (∀ i, (h : i < p.length) → (i : Int) ∉ Wn off len l → Sub (dA s p[i]) (s.getD i default)) → S_fixpoint_propagate_25_l16 none p R off len s l = some S := by
  intro M
  induction M with
  | zero =>
    intro off len s l hM hw hb hs hle hP hc
    have hsum := sum_rng hs.2
    rw [hs.1] at hsum
    have : len = 0 := by omega
    subst this
    have hnil : Wn off 0 l = [] := by unfold Wn; simp
    have e : s = S := Le.antisymm hs hS hle (hleast s (fun i hi => by rw [Fs_at hi]; exact hc i hi (by rw [hnil]; simp)))
    unfold S_fixpoint_propagate_25_l16
    rw [loopM_out (x := some s) ?_, e]
    unfold S_fixpoint_propagate_25_b16
    rw [if_neg (by simp)]
  | succ M ih =>
    intro off len s l hM hw hb hs hle hP hc
    have h60 := hv.n60
    have hsum := sum_rng hs.2
    rw [hs.1] at hsum
    by_cases h0 : len = 0
    · subst h0
      have hnil : Wn off 0 l = [] := by unfold Wn; simp
      have e : s = S := Le.antisymm hs hS hle (hleast s (fun i hi => by rw [Fs_at hi]; exact hc i hi (by rw [hnil]; simp)))
      unfold S_fixpoint_propagate_25_l16
      rw [loopM_out (x := some s) ?_, e]
      unfold S_fixpoint_propagate_25_b16
      rw [if_neg (by simp)]
    · have hol : off < l.length := by omega
      have hWc : Wn off len l = l[off] :: Wn (off + 1) (len - 1) l := by
        unfold Wn
        rw [List.drop_eq_getElem_cons hol]
        obtain ⟨m, rfl⟩ : ∃ m, len = m + 1 := ⟨len - 1, by omega⟩
        rfl
      obtain ⟨hx0, hx1⟩ := hP l[off] (by rw [hWc]; exact List.mem_cons_self ..)
      obtain ⟨x, hx⟩ := Int.eq_ofNat_of_zero_le hx0
      have hxn : x < p.length := by omega
      have hgx : l.getD off default = (x : Int) := by rw [getD_at hol, hx]
      have hsl := hs.1
      have hxs : x < s.length := by omega
      have hsx := hs.at hxn
      have hdr := dA_rng (s := s) (hv.ok _ (List.getElem_mem hxn))
      have hder := deriveAll_ok hs (hv.l20 _ (List.getElem_mem hxn)) (hv.ok _ (List.getElem_mem hxn))
      have hsub : ∀ y, y ∈ Wn off len l ↔ (y = (x : Int) ∨ y ∈ Wn (off + 1) (len - 1) l) := fun y => by rw [hWc, List.mem_cons, hx]
      have hB : S_fixpoint_propagate_25_b16 none p R off len s l = if bor (s.getD x default) (dA s p[x]) = s.getD x default then some (.inl (off + 1, len - 1, s, l)) else S_fixpoint_propagate_25_l17 none p R off s l (dA s p[x]) (off + 1) (len - 1) 0 l := by
        unfold S_fixpoint_propagate_25_b16
        simp only [Int.toNat_zero, Nat.add_zero, Nat.zero_add, hgx, Int.toNat_natCast, getD_at hxn, show (1 : Int).toNat = 1 from rfl, List.length_map]
        rw [if_pos (by simp; omega), if_pos (by omega), if_pos hol, if_pos (by omega), if_pos (by omega), if_pos hxs, if_pos (by omega), hder, Option.bind_some, if_pos (by omega), if_pos hxs, ibits_or hsx hdr]
        by_cases he : bor (s.getD x default) (dA s p[x]) = s.getD x default
        · rw [if_pos (by rw [beq_iff_eq]; exact he), if_pos he]
        · rw [if_neg (by rw [beq_iff_eq]; exact he), if_neg he, if_pos (by omega), if_pos hxs, if_pos (by omega), if_pos (by omega)]
      unfold S_fixpoint_propagate_25_l16 at ih ⊢
      by_cases he : bor (s.getD x default) (dA s p[x]) = s.getD x default
      · rw [loopM_inl (s' := (off + 1, len - 1, s, l)) (by rw [hB, if_pos he])]
        refine ih (off + 1) (len - 1) s l (by omega) (by omega) (by omega) hs hle (fun y hy => hP y ((hsub y).2 (.inr hy))) (fun i hi hni => ?_)
        by_cases e : i = x
        · subst e
          intro t ht
          rw [← he, tb_bor, ht, Bool.or_true]
        · exact hc i hi (fun hm => by
            rcases (hsub _).1 hm with h | h
            · omega
            · exact hni h)
      · obtain ⟨hr1, hr2⟩ := hRv x hxn
        obtain ⟨off', len', l', g1, g2, g3, g4⟩ := rest_loop (p := p) (R := R) (s := s) (d := dA s p[x]) hgx rfl (by omega) _ 0 (off + 1) (len - 1) l (Nat.zero_add _) (by omega) (by omega)
        rw [show (((0 : Nat) : Int)) = 0 from rfl, ibits_or hsx hdr] at g1
        rw [loopM_inl (s' := (off', len', s.set x (bor (s.getD x default) (dA s p[x])), l')) (by rw [hB, if_neg he, g1])]
        have hset := fun i => getD_set s x i (bor (s.getD x default) (dA s p[x])) hxs
        have hs' : Sok p.length (s.set x (bor (s.getD x default) (dA s p[x]))) := ⟨by rw [List.length_set]; exact hsl, fun y hy => by
          rcases List.mem_or_eq_of_mem_set hy with h | h
          · exact hs.2 y h
          · rw [h]; exact bor_rng hsx hdr⟩
        have hless : Le p.length s (s.set x (bor (s.getD x default) (dA s p[x]))) := fun i hi t ht => by
          rw [hset]
          split
          · rename_i e; subst e; rw [tb_bor, ht, Bool.true_or]
          · exact ht
        have hne : s ≠ s.set x (bor (s.getD x default) (dA s p[x])) := fun e => he (by
          have := hset x
          rw [if_pos rfl, ← e] at this
          exact this.symm)
        have hlt := (hless.sum hs hs').2 hne
        have hsum' := sum_rng hs'.2
        rw [hs'.1] at hsum'
        refine ih off' len' _ l' (by omega) g2 (by omega) hs' ?_ (fun y hy => ?_) (fun i hi hni => ?_)
        · intro i hi t ht
          rw [hset] at ht
          split at ht
          · rename_i e
            subst e
            rw [tb_bor, Bool.or_eq_true] at ht
            rcases ht with ht | ht
            · exact hle i hi t ht
            · have := sub_dA (hv.ok _ (List.getElem_mem hi)) hle t ht
              rw [← Fs_at hi, hFS] at this
              exact this
          · exact hle i hi t ht
        · rcases (g4 y).1 hy with h | h
          · exact hP y ((hsub y).2 (.inr h))
          · exact hr1 y (by rwa [List.drop_zero] at h)
        · have hni1 : (i : Int) ∉ Wn (off + 1) (len - 1) l := fun h => hni ((g4 _).2 (.inl h))
          have hni2 : (i : Int) ∉ R.getD x default := fun h => hni ((g4 _).2 (.inr (by rwa [List.drop_zero])))
          have hsame : Sub (dA (s.set x (bor (s.getD x default) (dA s p[x]))) p[i]) (dA s p[i]) := dA_same (fun r hr k hk => by
            rw [hset, if_neg (fun e => hni2 (by rw [← e]; exact hRd i hi r hr k hk))])
          intro t ht
          have h1 := hsame t ht
          rw [hset]
          split
          · rename_i e
            subst e
            rw [tb_bor, h1, Bool.or_true]
          · rename_i e
            exact hc i hi (fun hm => by
              rcases (hsub _).1 hm with h | h
              · omega
              · exact hni1 h) t h1
end
end Go.Proofs.Ytjcckmpeflflbaa
