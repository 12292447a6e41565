/-
  Own text Law9 of this claim.
-/
import Derived.Test.YtjcckmpeflflbaaLaw8
namespace Go.Proofs.Ytjcckmpeflflbaa
open Go.Fx
set_option linter.unusedVariables false
theorem rev_loop {l : List G_QDerivation} (hl : l.length ≤ 1000) : ∀ (c i : Nat) (cur : List G_QDerivation), l.length ≤ 2 * i + c → 2 * i ≤ l.length + 1 → cur.length = l.length → (∀ q, q < l.length → cur[q]? = if q < i ∨ l.length ≤ q + i then l[l.length - 1 - q]? else l[q]?) →
    S_slices_Reverse_api_QDerivation_42_l1 none cur (i : Int) ((l.length : Int) - 1 - i) = some l.reverse := by
  intro c
  induction c with
  | zero =>
    intro i cur h1 h2 hc hq
    unfold S_slices_Reverse_api_QDerivation_42_l1
    have e : cur = l.reverse := List.ext_getElem? fun q => by
      by_cases h : q < l.length
      · rw [hq q h, List.getElem?_reverse h]
        split
        · rfl
        · rename_i hn; omega
      · rw [List.getElem?_eq_none (by omega), List.getElem?_eq_none (by rw [List.length_reverse]; omega)]
    rw [loopM_out (x := some cur) ?_, e]
    unfold S_slices_Reverse_api_QDerivation_42_b1
    rw [if_neg (by simp only; rw [decide_eq_true_eq]; omega)]
  | succ c ih =>
    intro i cur h1 h2 hc hq
    by_cases hlt : (i : Int) < (l.length : Int) - 1 - i
    · obtain ⟨j, hj⟩ : ∃ j : Nat, (l.length : Int) - 1 - i = (j : Int) := ⟨l.length - 1 - i, by omega⟩
      have hjl : j < l.length := by omega
      have hil : i < l.length := by omega
      have hij : i ≠ j := by omega
      have := ih (i + 1) ((cur.set i (cur.getD j default)).set j (cur.getD i default)) (by omega) (by omega) (by simpa using hc) (fun q hq' => by
        rw [List.getElem?_set, List.getElem?_set]
        have ei : cur[i]? = l[i]? := by rw [hq i hil, if_neg (by omega)]
        have ej : cur[j]? = l[j]? := by rw [hq j hjl, if_neg (by omega)]
        have gi : cur.getD i default = l[i] := by rw [List.getD_eq_getElem?_getD, ei, List.getElem?_eq_getElem hil]; rfl
        have gj : cur.getD j default = l[j] := by rw [List.getD_eq_getElem?_getD, ej, List.getElem?_eq_getElem hjl]; rfl
        by_cases e1 : j = q
        · subst e1
          rw [if_pos rfl, if_pos (by rw [List.length_set]; omega), if_pos (by omega), gi]
          have : l.length - 1 - j = i := by omega
          rw [this, List.getElem?_eq_getElem hil]
        · rw [if_neg e1]
          by_cases e2 : i = q
          · subst e2
            rw [if_pos rfl, if_pos (by omega), if_pos (by omega), gj]
            have : l.length - 1 - i = j := by omega
            rw [this, List.getElem?_eq_getElem hjl]
          · rw [if_neg e2, hq q hq']
            by_cases h3 : q < i ∨ l.length ≤ q + i
            · rw [if_pos h3, if_pos (by omega)]
            · rw [if_neg h3, if_neg (by omega)])
      unfold S_slices_Reverse_api_QDerivation_42_l1 at this ⊢
      rw [← this]
      refine loopM_inl ?_
      unfold S_slices_Reverse_api_QDerivation_42_b1
      rw [hj]
      simp only [Int.toNat_natCast, Nat.zero_add]
      have e3 : (⟨(cur.getD j default).f_Set, (cur.getD j default).f_Rule, (cur.getD j default).f_Element⟩ : G_QDerivation) = cur.getD j default := rfl
      have e4 : (⟨(cur.getD i default).f_Set, (cur.getD i default).f_Rule, (cur.getD i default).f_Element⟩ : G_QDerivation) = cur.getD i default := rfl
      rw [if_pos (by rw [decide_eq_true_eq]; omega), if_pos (by omega), if_pos (by omega), if_pos (by omega), if_pos (by omega), if_pos (by omega), if_pos (by omega), if_pos (by omega), if_pos (by rw [List.length_set]; omega), e3, e4, Wi (by omega)]
      have e5 : W ((j : Int) - 1) = (l.length : Int) - 1 - ((i + 1 : Nat) : Int) := by rw [W_in (by unfold inR; omega)]; omega
      rw [e5]
    · unfold S_slices_Reverse_api_QDerivation_42_l1
      have e : cur = l.reverse := List.ext_getElem? fun q => by
        by_cases h : q < l.length
        · rw [hq q h, List.getElem?_reverse h]
          split
          · rfl
          · rename_i hn
            have : l.length - 1 - q = q := by omega
            rw [this]
        · rw [List.getElem?_eq_none (by omega), List.getElem?_eq_none (by rw [List.length_reverse]; omega)]
      rw [loopM_out (x := some cur) ?_, e]
      unfold S_slices_Reverse_api_QDerivation_42_b1
      rw [if_neg (by rw [decide_eq_true_eq]; exact hlt)]
theorem reverse_ok {l : List G_QDerivation} (hl : l.length ≤ 1000) : S_slices_Reverse_api_QDerivation_42 none l = some l.reverse := by
  have := rev_loop hl l.length 0 l (by omega) (by omega) rfl (fun q hq => by rw [if_neg (by omega)])
  unfold S_slices_Reverse_api_QDerivation_42
  rw [W_in (by unfold inR; omega)]
  simpa using this
noncomputable def mark (nd : List Bool) (ks : List Int) : List Bool := ks.foldl (fun nd k => nd.set k.toNat true) nd
theorem mark_len : ∀ (ks : List Int) (nd : List Bool), (mark nd ks).length = nd.length
  | [], nd => rfl
  | k :: ks, nd => by
    have := mark_len ks (nd.set k.toNat true)
    rw [List.length_set] at this
    exact this
theorem mark_keep {j : Nat} : ∀ (ks : List Int) (nd : List Bool), nd.getD j default = true → (mark nd ks).getD j default = true
  | [], nd, h => h
  | k :: ks, nd, h => by
    refine mark_keep ks (nd.set k.toNat true) ?_
    have hj : j < nd.length := by
      rcases Nat.lt_or_ge j nd.length with h' | h'
      · exact h'
      · rw [List.getD_eq_getElem?_getD, List.getElem?_eq_none h'] at h; cases h
    by_cases hk : k.toNat < nd.length
    · rw [getD_set' nd k.toNat j true hk]
      split
      · rfl
      · exact h
    · rw [List.set_eq_of_length_le (by omega)]; exact h
theorem mark_mem {k : Int} : ∀ (ks : List Int) (nd : List Bool), k ∈ ks → k.toNat < nd.length → (mark nd ks).getD k.toNat default = true
  | [], nd, h, _ => by cases h
  | a :: ks, nd, h, hl => by
    rcases List.mem_cons.1 h with rfl | h
    · refine mark_keep ks (nd.set k.toNat true) ?_
      rw [getD_set' nd k.toNat k.toNat true hl, if_pos rfl]
    · exact mark_mem ks (nd.set a.toNat true) h (by rw [List.length_set]; exact hl)
noncomputable def bstep (p : Rules) (d : G_QDerivation) (s : List Bool × List G_QDerivation) : List Bool × List G_QDerivation := if s.1.getD d.f_Set.toNat default = true then (mark s.1 (rule p d).f_All, s.2 ++ [d]) else s
noncomputable def bw (p : Rules) (T : List G_QDerivation) : Nat → List Bool × List G_QDerivation → List Bool × List G_QDerivation
  | 0, s => s
  | i + 1, s => bw p T i (bstep p (T.getD i default) s)
section
variable {p : Rules} (hv : Valid p)
include hv
theorem all_loop {d : G_QDerivation} (hd : Inb p d) {pf : List G_QDerivation} : ∀ (c i : Nat) (nd : List Bool), i + c = (rule p d).f_All.length → nd.length = p.length → S_fixpoint_Derive_roundc_l1 none p pf d (i : Int) nd = some (true, mark nd ((rule p d).f_All.drop i), pf ++ [d])
  | 0, i, nd, h, hl => by
    have : i = (rule p d).f_All.length := by omega
    subst this
    unfold S_fixpoint_Derive_roundc_l1
    rw [loopM_out (x := some (true, nd, pf ++ [d])) ?_]
    · rw [List.drop_length]; rfl
    · unfold S_fixpoint_Derive_roundc_b1
      have e : (p.getD d.f_Set.toNat default).getD d.f_Rule.toNat default = rule p d := rfl
      simp only
      rw [e, if_neg (by simp)]
  | c + 1, i, nd, h, hl => by
    have hR := rule_ok (pf := []) hv (by simp) hd
    have h60 := hR.2.1
    have hi : i < (rule p d).f_All.length := by omega
    have hk := hR.2.2 _ (List.getElem_mem hi)
    have ih := all_loop hd (pf := pf) c (i + 1) (nd.set (rule p d).f_All[i].toNat true) (by omega) (by simpa using hl)
    unfold S_fixpoint_Derive_roundc_l1 at ih ⊢
    rw [List.drop_eq_getElem_cons hi]
    have e0 : mark nd ((rule p d).f_All[i] :: (rule p d).f_All.drop (i + 1)) = mark (nd.set (rule p d).f_All[i].toNat true) ((rule p d).f_All.drop (i + 1)) := rfl
    rw [e0, ← ih]
    refine loopM_inl ?_
    unfold S_fixpoint_Derive_roundc_b1
    have e : (p.getD d.f_Set.toNat default).getD d.f_Rule.toNat default = rule p d := rfl
    simp only
    rw [e, if_pos (by simpa using hi), if_pos (by simpa using hi)]
    simp only [Int.toNat_natCast, getD_at hi, Nat.zero_add]
    rw [if_pos (by omega), if_pos (by omega), Wi (by omega)]
theorem round_back {d : G_QDerivation} (hd : Inb p d) {pf : List G_QDerivation} (hpf : pf.length ≤ 100) {nd : List Bool} (hl : nd.length = p.length) (x : Int) : S_fixpoint_Derive_roundc none p nd pf x d = some (true, bstep p d (nd, pf)) := by
  have hd' := hd
  obtain ⟨h1, h2, h3, h4, h5, h6⟩ := hd
  unfold S_fixpoint_Derive_roundc bstep
  simp only [Nat.zero_add]
  rw [if_pos (by omega), if_pos (by omega)]
  cases hn : nd.getD d.f_Set.toNat default
  · rw [if_pos (by decide), if_neg (by decide)]
  · have := all_loop hv hd' (pf := pf) _ 0 nd (Nat.zero_add _) hl
    rw [show (((0 : Nat) : Int)) = 0 from rfl] at this
    rw [if_neg (by decide), if_pos rfl, if_pos (by rw [List.length_map, List.length_append, List.length_singleton]; omega), if_pos (by rw [List.length_map]; omega), if_pos (by rw [List.length_map]; omega), this, List.drop_zero]
theorem back_loop {T : List G_QDerivation} (hT : ∀ d ∈ T, Inb p d) (hTl : T.length ≤ 60) : ∀ (i : Nat) (nd : List Bool) (pf : List G_QDerivation), i ≤ T.length → nd.length = p.length → pf.length + i ≤ 100 →
    S_slices_Backward_api_QDerivation_1_l1 (fun (s : ((List Bool) × (List G_QDerivation))) (x : (Int × G_QDerivation)) => (S_fixpoint_Derive_roundc none p s.1 s.2 x.1 x.2).map fun o => (o.1, (o.2.1, o.2.2))) none T ((i : Int) - 1) (nd, pf) = some (bw p T i (nd, pf))
  | 0, nd, pf, hi, hl, hp => by
    unfold S_slices_Backward_api_QDerivation_1_l1
    rw [loopM_out (x := some (nd, pf)) ?_]
    · rfl
    · unfold S_slices_Backward_api_QDerivation_1_b1
      rw [if_neg (by rw [decide_eq_true_eq]; omega)]
  | i + 1, nd, pf, hi, hl, hp => by
    have hiT : i < T.length := by omega
    have hd := hT _ (List.getElem_mem hiT)
    have hb : (bstep p T[i] (nd, pf)).1.length = p.length ∧ (bstep p T[i] (nd, pf)).2.length + i ≤ 100 := by
      unfold bstep
      split
      · exact ⟨by rw [mark_len]; exact hl, by simp only [List.length_append, List.length_singleton]; omega⟩
      · exact ⟨hl, by simp only; omega⟩
    have ih := back_loop hT hTl i (bstep p T[i] (nd, pf)).1 (bstep p T[i] (nd, pf)).2 (by omega) hb.1 hb.2
    unfold S_slices_Backward_api_QDerivation_1_l1 at ih ⊢
    have e : bw p T (i + 1) (nd, pf) = bw p T i (bstep p T[i] (nd, pf)) := by
      show bw p T i (bstep p (T.getD i default) (nd, pf)) = _
      rw [getD_at hiT]
    rw [e]
    have e0 : ((i + 1 : Nat) : Int) - 1 = (i : Int) := by omega
    rw [e0, loopM_inl (s' := ((i : Int) - 1, bstep p T[i] (nd, pf))) ?_]
    · exact ih
    · unfold S_slices_Backward_api_QDerivation_1_b1
      rw [if_pos (by rw [decide_eq_true_eq]; omega), if_pos (by rw [List.length_map]; omega)]
      simp only [Int.toNat_natCast, getD_at hiT]
      have e3 : (⟨T[i].f_Set, T[i].f_Rule, T[i].f_Element⟩ : G_QDerivation) = T[i] := rfl
      rw [e3, round_back hv hd (by omega) hl]
      simp only [Option.map_some, Option.bind_some]
      rw [if_neg (by decide), W_in (by unfold inR; omega)]
end
structure Bk (p : Rules) (e : Int) (T : List G_QDerivation) (i : Nat) (nd : List Bool) (pf : List G_QDerivation) : Prop where
  len : nd.length = p.length
  sub : ∀ x ∈ pf, x ∈ T
  need : ∀ q (h : q < pf.length), ∀ k ∈ (rule p pf[q]).f_All, (∃ x ∈ pf.drop (q + 1), x.f_Set = k) ∨ (nd.getD k.toNat default = true ∧ ∃ x ∈ T.take i, x.f_Set = k)
  sz : pf.length + i ≤ T.length
  hd : (i = T.length ∧ pf = []) ∨ pf[0]? = T[T.length - 1]?
theorem bk_step {p : Rules} (hv : Valid p) {e : Int} {T : List G_QDerivation} (hT : ∀ q (h : q < T.length), Inb p T[q] ∧ ∀ k ∈ (rule p T[q]).f_All, ∃ x ∈ T.take q, x.f_Set = k) {i : Nat} (hi : i < T.length) {nd : List Bool} {pf : List G_QDerivation} (h : Bk p e T (i + 1) nd pf)
    (hlast : i + 1 = T.length → nd.getD T[i].f_Set.toNat default = true) : Bk p e T i (bstep p T[i] (nd, pf)).1 (bstep p T[i] (nd, pf)).2 := by
  obtain ⟨hI, hA⟩ := hT i hi
  have hR := rule_ok (pf := []) hv (by simp) hI
  have htk : ∀ x, x ∈ T.take (i + 1) → x ∈ T.take i ∨ x = T[i] := fun x hx => by
    rw [List.take_succ_eq_append_getElem hi] at hx
    rcases List.mem_append.1 hx with h | h
    · exact .inl h
    · exact .inr (List.mem_singleton.1 h)
  unfold bstep
  simp only
  cases hn : nd.getD T[i].f_Set.toNat default
  · rw [if_neg (by decide)]
    refine ⟨h.len, h.sub, fun q hq k hk => ?_, by have := h.sz; simp only; omega, ?_⟩
    · rcases h.need q hq k hk with g | ⟨g1, x, hx, hxk⟩
      · exact .inl g
      · rcases htk x hx with hx | rfl
        · exact .inr ⟨g1, x, hx, hxk⟩
        · rw [← hxk, hn] at g1; cases g1
    · rcases h.hd with ⟨g1, g2⟩ | g
      · rw [hlast g1] at hn; cases hn
      · exact .inr g
  · rw [if_pos rfl]
    refine ⟨by rw [mark_len]; exact h.len, fun x hx => ?_, fun q hq k hk => ?_, by have := h.sz; simp only [List.length_append, List.length_singleton]; omega, .inr ?_⟩
    · rcases List.mem_append.1 hx with hx | hx
      · exact h.sub x hx
      · rw [List.mem_singleton.1 hx]; exact List.getElem_mem hi
    · simp only [List.length_append, List.length_singleton] at hq
      by_cases hq' : q < pf.length
      · simp only at hk ⊢
        rw [List.getElem_append_left hq'] at hk
        rw [List.drop_append_of_le_length (by omega)]
        rcases h.need q hq' k hk with ⟨x, hx, hxk⟩ | ⟨g1, x, hx, hxk⟩
        · exact .inl ⟨x, List.mem_append_left _ hx, hxk⟩
        · rcases htk x hx with hx | rfl
          · exact .inr ⟨mark_keep _ _ g1, x, hx, hxk⟩
          · exact .inl ⟨_, List.mem_append_right _ (List.mem_singleton.2 rfl), hxk⟩
      · have : q = pf.length := by omega
        subst this
        simp only at hk ⊢
        rw [List.getElem_append_right (Nat.le_refl _)] at hk
        simp only [Nat.sub_self, List.getElem_cons_zero] at hk
        have hk2 := hR.2.2 k hk
        have hlen := h.len
        exact .inr ⟨mark_mem _ _ hk (by omega), hA k hk⟩
    · simp only
      rcases h.hd with ⟨g1, g2⟩ | g
      · subst g2
        have : T.length - 1 = i := by omega
        rw [this, List.getElem?_eq_getElem hi]; rfl
      · cases pf with
        | nil =>
          have : T.length - 1 < T.length := by omega
          rw [List.getElem?_eq_getElem this] at g; cases g
        | cons a r => exact g
theorem bk_all {p : Rules} (hv : Valid p) {e : Int} {T : List G_QDerivation} (hT : ∀ q (h : q < T.length), Inb p T[q] ∧ ∀ k ∈ (rule p T[q]).f_All, ∃ x ∈ T.take q, x.f_Set = k) : ∀ (i : Nat) (nd : List Bool) (pf : List G_QDerivation), i ≤ T.length → Bk p e T i nd pf →
    (∀ h : 0 < i, i = T.length → nd.getD (T.getD (i - 1) default).f_Set.toNat default = true) → Bk p e T 0 (bw p T i (nd, pf)).1 (bw p T i (nd, pf)).2
  | 0, nd, pf, hi, h, _ => h
  | i + 1, nd, pf, hi, h, hl => by
    have hiT : i < T.length := by omega
    have g := bk_step hv hT hiT h (fun e => by
      have := hl (by omega) e
      rwa [show i + 1 - 1 = i by omega, getD_at hiT] at this)
    have := bk_all hv hT i (bstep p T[i] (nd, pf)).1 (bstep p T[i] (nd, pf)).2 (by omega) g (fun _ e => by omega)
    show Bk p e T 0 (bw p T i (bstep p (T.getD i default) (nd, pf))).1 (bw p T i (bstep p (T.getD i default) (nd, pf))).2
    rw [getD_at hiT]
    exact this
end Go.Proofs.Ytjcckmpeflflbaa
