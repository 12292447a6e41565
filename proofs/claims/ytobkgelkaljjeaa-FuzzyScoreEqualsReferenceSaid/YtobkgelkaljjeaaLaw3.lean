/-
  Own text Law3 of this claim: what functions of the given program compute, in plain Lean, and the proof; no condition.
-/
import Derived.Test.YtobkgelkaljjeaaLaw2
namespace Go.Proofs.Ytobkgelkaljjeaa
open Go.Fx
set_option linter.unusedVariables false
theorem loopM_non {σ ρ : Type} {b : σ → Option (σ ⊕ ρ)} {s : σ} (h : b s = none) : loopM none b s = none := by rw [loopM_eq, h]
def Sat {α : Type} (b : Prop) (a : Option α) (v : α) : Prop := a = some v ∨ (¬ b ∧ a = none)
section
variable (P N : List UInt8)
theorem E_len (hN : N.length ≤ 14) : ∀ (d j nx : Nat), (E P N d j nx).length ≤ 14 ^ d
  | 0, _, _ => by simp [E]
  | d + 1, j, nx => by
    rw [E, List.length_flatMap]
    have gen : ∀ ks : List Nat, (ks.map fun k => (if mt P N j k = true then (E P N d (j + 1) (k + 1)).map (((k : Nat) : Int) :: ·) else []).length).sum ≤ ks.length * 14 ^ d := by
      intro ks
      induction ks with
      | nil => simp
      | cons k ks ih =>
        rw [List.map_cons, List.sum_cons, List.length_cons, Nat.succ_mul]
        have : (if mt P N j k = true then (E P N d (j + 1) (k + 1)).map (((k : Nat) : Int) :: ·) else []).length ≤ 14 ^ d := by
          split
          · rw [List.length_map]; exact E_len hN d _ _
          · simp
        omega
    refine Nat.le_trans (gen _) ?_
    rw [List.length_range', Nat.pow_succ, Nat.mul_comm]
    exact Nat.mul_le_mul_left _ (by omega)
theorem E_mem : ∀ (d j nx : Nat) (l : List Int), l ∈ E P N d j nx → l.length = d ∧ ∀ x ∈ l, 0 ≤ x ∧ x < (N.length : Int)
  | 0, _, _, l, h => by
    rw [E, List.mem_singleton] at h
    subst h
    exact ⟨rfl, fun x hx => by cases hx⟩
  | d + 1, j, nx, l, h => by
    rw [E, List.mem_flatMap] at h
    obtain ⟨k, hk, hl⟩ := h
    rw [List.mem_range'_1] at hk
    split at hl
    · obtain ⟨r, hr, rfl⟩ := List.mem_map.1 hl
      obtain ⟨h1, h2⟩ := E_mem d _ _ r hr
      refine ⟨by simp [h1], fun x hx => ?_⟩
      rcases List.mem_cons.1 hx with rfl | hx
      · omega
      · exact h2 x hx
    · cases hl
def nxt (pre : List Int) : Nat := if pre.length = 0 then 0 else (pre.getD (pre.length - 1) default).toNat + 1
def Pre (pre : List Int) : Prop := ∀ x ∈ pre, 0 ≤ x ∧ x < (N.length : Int)
theorem nxt_snoc (pre : List Int) (k : Nat) : nxt (pre ++ [(k : Int)]) = k + 1 := by
  unfold nxt
  rw [if_neg (by simp), List.length_append, List.length_singleton, Nat.add_sub_cancel, getD_at (by simp)]
  simp
def G (pre : List Int) (d : Nat) : List (List Int) := (E P N d pre.length (nxt pre)).map (pre ++ ·)
theorem G_succ (pre : List Int) (d : Nat) : G P N pre (d + 1) = (List.range' (nxt pre) (N.length - nxt pre)).flatMap fun k => if mt P N pre.length k = true then G P N (pre ++ [(k : Int)]) d else [] := by
  unfold G
  rw [E, List.map_flatMap]
  congr 1
  funext k
  split
  · rw [List.map_map, nxt_snoc]
    simp [Function.comp_def]
  · rfl
theorem G_len (hN : N.length ≤ 14) (pre : List Int) (d : Nat) : (G P N pre d).length ≤ 14 ^ d := by unfold G; rw [List.length_map]; exact E_len P N hN _ _ _
theorem ali_loop {b : Prop} {rec1 : List UInt8 → List UInt8 → List Int → Option (List (List Int))} (hN : N.length ≤ 14) (hP : P.length ≤ 6) {pre : List Int} {d : Nat} (hd : d ≤ 5) (hp : pre.length + (d + 1) = P.length)
    (hr : ∀ k : Nat, k < N.length → Sat b (rec1 P N (pre ++ [(k : Int)])) (G P N (pre ++ [(k : Int)]) d)) : ∀ (r k : Nat) (acc : List (List Int)), r = N.length - k → acc.length ≤ k * 14 ^ d →
    Sat b (S_glossatorref4_FuzzyAlignments_13_3_l1 rec1 none P N pre acc (k : Int)) (acc ++ (List.range' k r).flatMap fun k => if mt P N pre.length k = true then G P N (pre ++ [(k : Int)]) d else [])
  | 0, k, acc, h, ha => by
    left
    unfold S_glossatorref4_FuzzyAlignments_13_3_l1
    refine loopM_out (x := some _) ?_
    unfold S_glossatorref4_FuzzyAlignments_13_3_b1 S_glossatorref4_FuzzyAlignments_13_3_j5
    rw [if_neg (by simp; omega)]
    simp
  | r + 1, k, acc, h, ha => by
    have hk : k < N.length := by omega
    have h14 : 14 ^ d ≤ 14 ^ 5 := Nat.pow_le_pow_right (by decide) hd
    have e14 : (14 : Nat) ^ 5 = 537824 := by decide
    have hkd : k * 14 ^ d ≤ 14 * 14 ^ d := Nat.mul_le_mul_right _ (by omega)
    rw [List.range'_succ, List.flatMap_cons, ← List.append_assoc]
    have hbody : S_glossatorref4_FuzzyAlignments_13_3_b1 rec1 none P N pre acc (k : Int) = if mt P N pre.length k = true then (rec1 P N (pre ++ [(k : Int)])).bind fun v14 => if ((acc ++ v14).map e_sl_i64).length * 24 ≤ 140737488355328 then some (.inl (acc ++ v14, ((k + 1 : Nat) : Int))) else none else some (.inl (acc, ((k + 1 : Nat) : Int))) := by
      unfold S_glossatorref4_FuzzyAlignments_13_3_b1 S_glossatorref4_FuzzyAlignments_13_3_j4
      simp only [List.length_map, Int.toNat_natCast, List.nil_append]
      rw [if_pos (by simp; omega), if_pos (by omega), if_pos (by omega), Wi (by omega)]
      change ((S_glossatorref4_foldByte none (cb P pre.length)).bind fun v12 => (S_glossatorref4_foldByte none (cb N k)).bind fun v13 => _) = _
      rw [fold_eq (cb_rng _ _), Option.bind_some, fold_eq (cb_rng _ _), Option.bind_some]
      unfold mt
      by_cases hm : (lo (cb P pre.length) == lo (cb N k)) = true
      · rw [if_pos hm, if_pos hm, if_pos (by omega), if_pos (by simp; omega)]
        try rfl
      · rw [if_neg hm, if_neg hm]
    unfold S_glossatorref4_FuzzyAlignments_13_3_l1
    cases hm : mt P N pre.length k with
    | false =>
      rw [loopM_inl (s' := (acc, ((k + 1 : Nat) : Int))) (by rw [hbody, hm, if_neg (by simp)])]
      rw [if_neg (by simp), List.append_nil]
      exact ali_loop hN hP hd hp hr r (k + 1) acc (by omega) (by rw [Nat.succ_mul]; omega)
    | true =>
      rw [if_pos rfl]
      rcases hr k hk with h1 | ⟨h1, h2⟩
      · have hg := G_len P N hN (pre ++ [(k : Int)]) d
        rw [loopM_inl (s' := (acc ++ G P N (pre ++ [(k : Int)]) d, ((k + 1 : Nat) : Int))) (by
          rw [hbody, hm, if_pos rfl, h1, Option.bind_some, if_pos (by rw [List.length_map, List.length_append]; omega)])]
        exact ali_loop hN hP hd hp hr r (k + 1) _ (by omega) (by rw [List.length_append, Nat.succ_mul]; omega)
      · right
        exact ⟨h1, loopM_non (by rw [hbody, hm, if_pos rfl, h2, Option.bind_none])⟩
theorem ali_body {b : Prop} {rec1 : List UInt8 → List UInt8 → List Int → Option (List (List Int))} (hN : N.length ≤ 14) (hP : P.length ≤ 6) {pre : List Int} {d : Nat} (hp : pre.length + d = P.length) (hpr : Pre N pre)
    (hr : ∀ d', d = d' + 1 → ∀ k : Nat, k < N.length → Sat b (rec1 P N (pre ++ [(k : Int)])) (G P N (pre ++ [(k : Int)]) d')) :
    Sat b (S_glossatorref4_FuzzyAlignments_13_3 rec1 none P N pre) (G P N pre d) := by
  unfold S_glossatorref4_FuzzyAlignments_13_3 S_glossatorref4_FuzzyAlignments_13_3_j1
  simp only [List.length_map, List.nil_append]
  match d, hp, hr with
  | 0, hp, hr =>
    left
    rw [if_pos (by simp; omega), if_pos (by omega)]
    simp [G, E]
  | d + 1, hp, hr =>
    rw [if_neg (by simp; omega), G_succ]
    have hl := ali_loop P N (b := b) (rec1 := rec1) hN hP (pre := pre) (d := d) (by omega) hp (hr d rfl) (N.length - nxt pre) (nxt pre) [] rfl (by simp)
    rw [List.nil_append] at hl
    by_cases h0 : pre.length = 0
    · rw [if_neg (by rw [h0]; simp)]
      have : nxt pre = 0 := by unfold nxt; rw [if_pos h0]
      rw [this] at hl ⊢
      exact hl
    · have e1 : W ((pre.length : Int) - 1) = (pre.length : Int) - 1 := Wz (by omega)
      have hlt : pre.length - 1 < pre.length := by omega
      have hx := hpr (pre.getD (pre.length - 1) default) (by rw [getD_at hlt]; exact List.getElem_mem hlt)
      rw [if_pos (by simp; omega), e1, if_pos (by omega), show ((pre.length : Int) - 1).toNat = pre.length - 1 by omega, Wz (by omega)]
      have : pre.getD (pre.length - 1) default + 1 = ((nxt pre : Nat) : Int) := by unfold nxt; rw [if_neg h0]; omega
      rw [this]
      exact hl
theorem ali_I (hN : N.length ≤ 14) (hP : P.length ≤ 6) : ∀ (k d : Nat) (pre : List Int), pre.length + d = P.length → Pre N pre → Sat (d < k) (S_glossatorref4_FuzzyAlignments_13_3_I none k P N pre) (G P N pre d)
  | 0, d, pre, _, _ => .inr ⟨by omega, rfl⟩
  | k + 1, d, pre, hp, hpr => by
    unfold S_glossatorref4_FuzzyAlignments_13_3_I
    refine ali_body P N hN hP hp hpr fun d' hd c hc => ?_
    have := ali_I hN hP k d' (pre ++ [(c : Int)]) (by simp; omega) (fun x hx => by
      rcases List.mem_append.1 hx with h | h
      · exact hpr x h
      · rw [List.mem_singleton] at h; subst h; omega)
    rcases this with h | ⟨h1, h2⟩
    · exact .inl h
    · exact .inr ⟨by omega, h2⟩
theorem ali_F (hN : N.length ≤ 14) (hP : P.length ≤ 6) {d : Nat} {pre : List Int} (hp : pre.length + d = P.length) (hpr : Pre N pre) : S_glossatorref4_FuzzyAlignments_13_3_F none P N pre = some (G P N pre d) := by
  unfold S_glossatorref4_FuzzyAlignments_13_3_F
  refine recN_of (fun k o ho => ?_) ⟨d + 1, ?_⟩
  · rcases ali_I P N hN hP k d pre hp hpr with h | ⟨_, h⟩
    · rw [h] at ho; simpa using ho.symm
    · rw [h] at ho; cases ho
  · rcases ali_I P N hN hP (d + 1) d pre hp hpr with h | ⟨h1, _⟩
    · exact h
    · omega
theorem ali_eq (hN : N.length ≤ 14) (hP : P.length ≤ 6) : S_glossatorref4_FuzzyAlignments none P N [] = some (E P N P.length 0 0) := by
  have h := ali_body P N (b := True) (rec1 := fun a b c => S_glossatorref4_FuzzyAlignments_13_3_F none a b c) hN hP (pre := []) (d := P.length) (by simp) (fun x hx => by cases hx) (fun d' hd k hk => .inl (ali_F P N hN hP (by simp; omega) (fun x hx => by
      rcases List.mem_append.1 hx with h | h
      · cases h
      · rw [List.mem_singleton] at h; subst h; omega)))
  rcases h with h | ⟨h, _⟩
  · have e : G P N [] P.length = E P N P.length 0 0 := by simp [G, nxt]
    rw [e] at h
    exact h
  · exact absurd trivial h
def nxi (l : List Int) (i : Nat) : Nat := if i = 0 then 0 else (l.getD (i - 1) default).toNat + 1
theorem asc_loop {l : List Int} (hN : N.length ≤ 30) (hP : P.length ≤ 30) (hl : l.length ≤ P.length) (hx : Pre N l) : ∀ (r i : Nat) (tot : Int), i + r = l.length → 0 ≤ tot → tot ≤ 9 * (i : Int) →
    S_glossatorref4_FuzzyAlignmentScore_l1 none P N l tot (i : Int) = some (tot + sc P N i (nxi l i) (l.drop i))
  | 0, i, tot, h, h1, h2 => by
    unfold S_glossatorref4_FuzzyAlignmentScore_l1
    refine loopM_out (x := some _) ?_
    unfold S_glossatorref4_FuzzyAlignmentScore_b1 S_glossatorref4_FuzzyAlignmentScore_j10
    rw [if_neg (by simp; omega), List.drop_eq_nil_of_le (by omega)]
    simp [sc]
  | r + 1, i, tot, h, h1, h2 => by
    have hi : i < l.length := by omega
    have hgi := hx l[i] (List.getElem_mem hi)
    obtain ⟨k, hk⟩ : ∃ k : Nat, l[i] = (k : Int) := ⟨l[i].toNat, by omega⟩
    have hkl : k < N.length := by omega
    have hgd : l.getD i default = (k : Int) := by rw [getD_at hi, hk]
    have hp := pts_rng (cb P i) N k
    have ha := adj_rng (nxi l i) k
    have hnx : nxi l (i + 1) = k + 1 := by unfold nxi; rw [if_neg (by omega), Nat.add_sub_cancel, hgd, Int.toNat_natCast]
    have ih := asc_loop hN hP hl hx r (i + 1) (tot + (pts (cb P i) N k + adj (nxi l i) k)) (by omega) (by omega) (by omega)
    have hb : S_glossatorref4_FuzzyAlignmentScore_b1 none P N l tot (i : Int) = some (.inl (tot + (pts (cb P i) N k + adj (nxi l i) k), ((i + 1 : Nat) : Int))) := by
      have j8 : ∀ v : Int, 0 ≤ v → v ≤ 10000 → S_glossatorref4_FuzzyAlignmentScore_j8 none P N l (i : Int) v = some (.inl (v + adj (nxi l i) k, ((i + 1 : Nat) : Int))) := fun v hv hv2 => by
        unfold S_glossatorref4_FuzzyAlignmentScore_j8 S_glossatorref4_FuzzyAlignmentScore_j9
        simp only [List.length_map, Int.toNat_natCast, hgd]
        by_cases h0 : i = 0
        · subst h0
          rw [if_pos (by intro h; simp at h), if_neg (by simp), Wi (by omega)]
          have : adj (nxi l 0) k = 0 := by unfold adj nxi; simp
          rw [this, Int.add_zero]
        · have hpv := hx (l.getD (i - 1) default) (by rw [getD_at (by omega : i - 1 < l.length)]; exact List.getElem_mem _)
          have hn : ((nxi l i : Nat) : Int) = l.getD (i - 1) default + 1 := by unfold nxi; rw [if_neg h0]; omega
          rw [Wm (by omega), if_pos (by intro _; omega), show ((i : Int) - 1).toNat = i - 1 by omega, Wz (by omega), ← hn, Wi (by omega)]
          unfold adj
          by_cases hc : k = nxi l i
          · rw [if_pos (by simp [hc]; omega), if_pos ⟨by unfold nxi; rw [if_neg h0]; omega, hc⟩, Wz (by omega)]
          · rw [if_neg (by simp; omega), if_neg (fun h => hc h.2), Int.add_zero]
      have j7 : ∀ v : Int, 0 ≤ v → v ≤ 9000 → S_glossatorref4_FuzzyAlignmentScore_j7 none P N l (i : Int) v = some (.inl (v + (if sw N k then 4 else 0) + adj (nxi l i) k, ((i + 1 : Nat) : Int))) := fun v hv hv2 => by
        unfold S_glossatorref4_FuzzyAlignmentScore_j7
        simp only [Int.toNat_natCast, hgd]
        have hcond : ((((k : Int) == 0) || ((((N.getD (W ((k : Int) - 1)).toNat 0).toNat : Nat) : Int) == 95)) || (((decide ((((N.getD k 0).toNat : Nat) : Int) ≥ 65)) && (decide ((((N.getD k 0).toNat : Nat) : Int) ≤ 90))) && (!((decide ((((N.getD (W ((k : Int) - 1)).toNat 0).toNat : Nat) : Int) ≥ 65)) && (decide ((((N.getD (W ((k : Int) - 1)).toNat 0).toNat : Nat) : Int) ≤ 90)))))) = sw N k := by
          have e : (W ((k : Int) - 1)).toNat = k - 1 := by rw [Wm (by omega)]; omega
          have e2 : ((k : Int) == 0) = (k == 0) := by cases k <;> rfl
          rw [e, e2, Bool.or_assoc]
          rfl
        have hwk : k ≠ 0 → W ((k : Int) - 1) = (k : Int) - 1 := fun _ => Wm (by omega)
        rw [if_pos (by omega), if_pos (by intro _; omega), if_pos (by intro h; rw [hwk (by simpa using h)]; simp at h; omega),
          if_pos (by intro h; simp only [Bool.and_eq_true, beq_iff_eq, Bool.or_eq_false_iff] at h; have := h.1.1; rw [hwk (by simpa using this)]; simp at this; omega),
          if_pos (by intro h; simp only [Bool.and_eq_true, beq_iff_eq, Bool.or_eq_false_iff] at h; have := h.1.1.1; rw [hwk (by simpa using this)]; simp at this; omega), hcond]
        cases hs : sw N k with
        | true => rw [if_pos rfl, j8 _ (by rw [Wz (by omega)]; omega) (by rw [Wz (by omega)]; omega), Wz (by omega)]; rfl
        | false => rw [if_neg (by simp), j8 _ hv (by omega)]; simp
      unfold S_glossatorref4_FuzzyAlignmentScore_b1
      simp only [List.length_map, Int.toNat_natCast, hgd]
      rw [if_pos (by simp; omega), if_pos (by omega), if_pos (by omega), if_pos (by omega)]
      rw [show W (tot + 1) = tot + 1 from Wz (by omega), show W (tot + 1 + 1) = tot + 1 + 1 from Wz (by omega), j7 _ (by omega) (by omega), j7 _ (by omega) (by omega)]
      unfold pts
      by_cases hc : cb P i = cb N k
      · rw [if_pos (by change (cb P i == cb N k) = true; simp [hc]), if_pos hc]
        congr 3; omega
      · rw [if_neg (by change ¬ (cb P i == cb N k) = true; simp [hc]), if_neg hc]
        congr 3; omega
    unfold S_glossatorref4_FuzzyAlignmentScore_l1
    rw [loopM_inl hb, List.drop_eq_getElem_cons hi]
    rw [hnx] at ih
    refine ih.trans ?_
    rw [sc, hk, Int.toNat_natCast]
    congr 1; omega
theorem asc_eq {l : List Int} (hN : N.length ≤ 30) (hP : P.length ≤ 30) (hl : l.length ≤ P.length) (hx : Pre N l) : S_glossatorref4_FuzzyAlignmentScore none P N l = some (sc P N 0 0 l) := by
  unfold S_glossatorref4_FuzzyAlignmentScore
  have := asc_loop P N hN hP hl hx l.length 0 0 (by omega) (by decide) (by decide)
  refine this.trans ?_
  rw [List.drop_zero, Int.zero_add]
  rfl
theorem ref_loop {L : List (List Int)} (hN : N.length ≤ 30) (hP : P.length ≤ 30) (hL : L.length ≤ 100000000) (hx : ∀ l ∈ L, l.length ≤ P.length ∧ Pre N l) : ∀ (r i : Nat) (b : Bst), i + r = L.length →
    S_glossatorref4_FuzzyScore_l1 none P N L b.1 b.2 (i : Int) = S_glossatorref4_FuzzyScore_j4 none ((al P N 0 0 (L.drop i)).foldl cmb b).1 ((al P N 0 0 (L.drop i)).foldl cmb b).2
  | 0, i, b, h => by
    unfold S_glossatorref4_FuzzyScore_l1
    rw [List.drop_eq_nil_of_le (by omega)]
    refine loopM_out ?_
    unfold S_glossatorref4_FuzzyScore_b1
    rw [if_neg (by simp; omega)]
    rfl
  | r + 1, i, b, h => by
    have hi : i < L.length := by omega
    obtain ⟨g1, g2⟩ := hx L[i] (List.getElem_mem hi)
    have ih := ref_loop hN hP hL hx r (i + 1) (cmb b (sc P N 0 0 L[i], L[i])) (by omega)
    unfold S_glossatorref4_FuzzyScore_l1
    rw [loopM_inl (s' := ((cmb b (sc P N 0 0 L[i], L[i])).1, (cmb b (sc P N 0 0 L[i], L[i])).2, ((i + 1 : Nat) : Int))) ?_]
    · rw [List.drop_eq_getElem_cons hi]
      exact ih
    · unfold S_glossatorref4_FuzzyScore_b1 S_glossatorref4_FuzzyScore_j3
      simp only [List.length_map, Int.toNat_natCast]
      rw [if_pos (by simp; omega), if_pos (by omega), getD_at hi, asc_eq P N hN hP g1 g2, Option.bind_some, Wi (by omega)]
      unfold cmb
      by_cases hc : sc P N 0 0 L[i] > b.1
      · rw [if_pos (by simpa using hc), if_pos hc, if_pos (by omega)]
      · rw [if_neg (by simpa using hc), if_neg hc]
theorem ref_eq (hN : N.length ≤ 14) (hP : P.length ≤ 6) : S_glossatorref4_FuzzyScore none P N = some (res P N) := by
  unfold S_glossatorref4_FuzzyScore
  rw [if_neg (by simp; omega), ali_eq P N hN hP, Option.bind_some]
  have hlen : (E P N P.length 0 0).length ≤ 100000000 := Nat.le_trans (E_len P N hN _ _ _) (Nat.le_trans (Nat.pow_le_pow_right (by decide) hP) (by decide))
  have := ref_loop P N (L := E P N P.length 0 0) (by omega) (by omega) hlen (fun l hl => by
    obtain ⟨h1, h2⟩ := E_mem P N _ _ _ l hl
    exact ⟨by omega, h2⟩) (E P N P.length 0 0).length 0 nb (by omega)
  rw [List.drop_zero] at this
  refine this.trans ?_
  have hF : (al P N 0 0 (E P N P.length 0 0)).foldl cmb nb = F P N P.length 0 0 := rfl
  rw [hF]
  unfold S_glossatorref4_FuzzyScore_j4 res
  rcases F_good P N P.length 0 0 with h | h
  · rw [if_neg (by simp; omega), if_neg (by omega)]
  · rw [h, if_pos (by decide), if_pos (by rfl)]
end
end Go.Proofs.Ytobkgelkaljjeaa
