/-
  Own text Law5 of this claim: what functions of the given program compute, in plain Lean, and the proof; no condition.
-/
import Derived.Test.YtobkgelkaljjeaaLaw4
namespace Go.Proofs.Ytobkgelkaljjeaa
open Go.Fx
set_option linter.unusedVariables false
section
variable {c : Int → Int → Int} {D : Int → Prop} {σ : Type} {g0 : σ → (Int × Int) → Option (Int × σ)} {z : σ}
theorem good_refl_l {M : List Int} {X : List Int} (h : Good c M X) : M.length = X.length := h.1.length_eq
def RecOk (c : Int → Int → Int) (D : Int → Prop) (z : σ) (b : Prop) (N : Nat) (rec0 : Int → Int → Int → List Int → σ → Option (List Int × σ)) : Prop :=
  ∀ P L R Q : List Int, Pre2 c D L R → L.length + R.length < N → (P ++ (L ++ (R ++ Q))).length ≤ 10000 →
    ∃ M, Good c M (L ++ R) ∧ Sat b (rec0 (P.length : Int) ((P.length + L.length : Nat) : Int) ((P.length + L.length + R.length : Nat) : Int) (P ++ (L ++ (R ++ Q))) z) (P ++ (M ++ Q), z)
set_option maxHeartbeats 4000000 in
theorem sm_body (ho : Ordc c D) (hg : ∀ x y, D x → D y → g0 z (x, y) = some (c x y, z)) {b : Prop} {rec0 : Int → Int → Int → List Int → σ → Option (List Int × σ)} {P L R Q : List Int} (hp : Pre2 c D L R) (hlen : (P ++ (L ++ (R ++ Q))).length ≤ 10000) (hr : RecOk c D z b (L.length + R.length) rec0) :
    ∃ M, Good c M (L ++ R) ∧ Sat b (S_slices_symMergeCmpFunc_int_33_3 rec0 g0 none (P.length : Int) ((P.length + L.length : Nat) : Int) ((P.length + L.length + R.length : Nat) : Int) (P ++ (L ++ (R ++ Q))) z) (P ++ (M ++ Q), z) := by
  have hl : P.length + L.length + R.length + Q.length ≤ 10000 := by simpa [Nat.add_assoc] using hlen
  have hL0 := hp.l0
  have hR0 := hp.r0
  have w1 : W (((P.length + L.length : Nat) : Int) - (P.length : Int)) = (L.length : Int) := by rw [Wz (by omega)]; omega
  have w2 : W (((P.length + L.length + R.length : Nat) : Int) - ((P.length + L.length : Nat) : Int)) = (R.length : Int) := by rw [Wz (by omega)]; omega
  unfold S_slices_symMergeCmpFunc_int_33_3
  rw [w1, w2]
  by_cases c1 : L.length = 1
  · obtain ⟨x, rfl⟩ := List.length_eq_one_iff.1 c1
    obtain ⟨M, h1, h2⟩ := sm_one (rec0 := rec0) ho hg (P := P) (R := R) (Q := Q) hp hlen
    exact ⟨M, h1, .inl (by rw [if_pos (by simp)]; exact h2)⟩
  rw [if_neg (by simp; omega)]
  by_cases c2 : R.length = 1
  · obtain ⟨y, rfl⟩ := List.length_eq_one_iff.1 c2
    obtain ⟨M, h1, h2⟩ := sm_last (rec0 := rec0) ho hg (P := P) (L := L) (Q := Q) hp hlen
    exact ⟨M, h1, .inl (by rw [if_pos (by simp)]; exact h2)⟩
  rw [if_neg (by simp; omega)]
  -- the cut
  have hmid := mid_eq (i := P.length) (j := P.length + L.length + R.length) (by omega)
  generalize hA : P ++ (L ++ (R ++ Q)) = A at *
  have hAL : ∀ k, (h0 : P.length ≤ k) → (h : k < P.length + L.length) → A.getD k default = L[k - P.length]'(by omega) := fun k h1 h2 => by rw [← hA]; exact segL h1 h2
  have hAR : ∀ k, (h0 : P.length + L.length ≤ k) → (h : k < P.length + L.length + R.length) → A.getD k default = R[k - (P.length + L.length)]'(by omega) := fun k h1 h2 => by rw [← hA]; exact segR h1 h2
  have hAlen : A.length = P.length + L.length + R.length + Q.length := by rw [← hA]; simp; omega
  obtain ⟨mid, hmd⟩ : ∃ mid, (P.length + (P.length + L.length + R.length)) / 2 = mid := ⟨_, rfl⟩
  have cut : ∀ lo hi : Nat, ((lo = mid + (P.length + L.length) - (P.length + L.length + R.length) ∧ hi = mid ∧ mid < P.length + L.length) ∨ (lo = P.length ∧ hi = P.length + L.length ∧ P.length + L.length ≤ mid)) →
      ∃ M, Good c M (L ++ R) ∧ Sat b (S_slices_symMergeCmpFunc_int_33_3_j5 rec0 g0 none (P.length : Int) ((P.length + L.length : Nat) : Int) ((P.length + L.length + R.length : Nat) : Int) A (lo : Int) (hi : Int) z) (P ++ (M ++ Q), z) := by
    intro lo hi hlh
    obtain ⟨s, s1, s2, s3, s4, s5⟩ := s5_loop (rec0 := rec0) hg (A := A) (by omega) (a := P.length) (m := P.length + L.length) (b := P.length + L.length + R.length) (lo := lo) (hi := hi) (by omega) (by omega) (by omega)
      (fun k k1 k2 => by
        rw [hmd]
        refine ⟨by omega, by omega, ?_, ?_⟩
        · rw [hAL k (by omega) (by omega)]; exact hp.dl _ (List.getElem_mem _)
        · rw [hAR _ (by omega) (by omega)]; exact hp.dr _ (List.getElem_mem _))
      (hi - lo) lo hi (Nat.le_refl _) (Nat.le_refl _) (by omega) (Nat.le_refl _) (.inl rfl) (.inl rfl)
    rw [hmd] at s3 s4
    -- the four parts
    obtain ⟨k, hk⟩ : ∃ k, s = P.length + k := ⟨s - P.length, by omega⟩
    obtain ⟨r, hrr⟩ : ∃ r, mid + (P.length + L.length) - s = P.length + L.length + r := ⟨mid + (P.length + L.length) - s - (P.length + L.length), by omega⟩
    have hkL : k ≤ L.length := by omega
    have hrR : r ≤ R.length := by omega
    have hsum : k + r = mid - P.length := by omega
    have F1 : ∀ x ∈ L.take k, ∀ y ∈ R.drop r, ltc c x y := by
      intro x hx y hy
      have hk0 : 0 < k := by
        rcases Nat.eq_zero_or_pos k with h | h
        · subst h; simp at hx
        · exact h
      have hr0 : r < R.length := by
        rcases Nat.lt_or_ge r R.length with h | h
        · exact h
        · rw [List.drop_eq_nil_of_le h] at hy; cases hy
      have hne : s ≠ lo := by omega
      have hb : ltc c (L[k - 1]'(by omega)) (R[r]'hr0) := by
        rcases s3 with h | h
        · exact absurd h hne
        · rw [hrr, hAR _ (by omega) (by omega), hAL _ (by omega) (by omega)] at h
          have e1 : P.length + L.length + r - (P.length + L.length) = r := by omega
          have e2 : s - 1 - P.length = k - 1 := by omega
          simp only [e1, e2] at h
          exact k1 ho (hp.dl _ (List.getElem_mem _)) (hp.dr _ (List.getElem_mem _)) (hp.x _ (List.getElem_mem _) _ (List.getElem_mem _)) h
      have h1 := take_all ho hp.ls hp.dl hk0 hkL (hp.dr _ (List.getElem_mem hr0)) hb x hx
      exact drop_all ho hp.rs hp.dr hr0 (hp.dl _ (List.mem_of_mem_take hx)) h1 y hy
    have F2 : ∀ y ∈ R.take r, ∀ x ∈ L.drop k, ltc c y x := by
      intro y hy x hx
      have hr0 : 0 < r := by
        rcases Nat.eq_zero_or_pos r with h | h
        · subst h; simp at hy
        · exact h
      have hk0 : k < L.length := by
        rcases Nat.lt_or_ge k L.length with h | h
        · exact h
        · rw [List.drop_eq_nil_of_le h] at hx; cases hx
      have hne : s ≠ hi := by omega
      have hb : ltc c (R[r - 1]'(by omega)) (L[k]'hk0) := by
        rcases s4 with h | h
        · exact absurd h hne
        · rw [show mid + (P.length + L.length) - 1 - s = P.length + L.length + r - 1 by omega, hAR _ (by omega) (by omega), hAL _ (by omega) (by omega)] at h
          have e1 : P.length + L.length + r - 1 - (P.length + L.length) = r - 1 := by omega
          have e2 : s - P.length = k := by omega
          simp only [e1, e2] at h
          exact .inl h
      have h1 := take_all ho hp.rs hp.dr hr0 hrR (hp.dl _ (List.getElem_mem hk0)) hb y hy
      exact drop_all ho hp.ls hp.dl hk0 (hp.dr _ (List.mem_of_mem_take hy)) h1 x hx
    -- the state behind the rotation
    obtain ⟨A1, hA1⟩ : ∃ A1, P ++ (L.take k ++ (R.take r ++ (L.drop k ++ (R.drop r ++ Q)))) = A1 := ⟨_, rfl⟩
    have hA1len : A1.length = A.length := by rw [← hA1, hAlen]; simp; omega
    have wn : W ((mid : Int) + ((P.length + L.length : Nat) : Int)) = ((mid + (P.length + L.length) : Nat) : Int) := by rw [Wz (by omega)]; omega
    have we : W (((mid + (P.length + L.length) : Nat) : Int) - (s : Int)) = ((P.length + L.length + r : Nat) : Int) := by rw [Wz (by omega)]; omega
    rw [hmd] at hmid
    have hrot : S_slices_symMergeCmpFunc_int_33_3_j6 rec0 g0 none (P.length : Int) ((P.length + L.length : Nat) : Int) ((P.length + L.length + R.length : Nat) : Int) A (s : Int) z = S_slices_symMergeCmpFunc_int_33_3_j7 rec0 g0 none (P.length : Int) ((P.length + L.length : Nat) : Int) ((P.length + L.length + R.length : Nat) : Int) (s : Int) A1 z := by
      unfold S_slices_symMergeCmpFunc_int_33_3_j6
      simp only [hmid, wn, we]
      by_cases hc : s < P.length + L.length ∧ 0 < r
      · rw [if_pos (by simp; omega)]
        have hro := rot_eq (g0 := g0) (z := z) (a := s) (m := P.length + L.length) (b := P.length + L.length + r) (P := P ++ L.take k) (U := L.drop k) (V := R.take r) (S := R.drop r ++ Q) (by simp; omega) (by simp; omega) (by simp; omega) (by simp; omega) (by simp; omega)
          (by simp; omega)
        have e1 : A = P ++ L.take k ++ (L.drop k ++ (R.take r ++ (R.drop r ++ Q))) := by
          rw [← hA, List.append_assoc, ← List.append_assoc (L.take k), List.take_append_drop, ← List.append_assoc (R.take r), List.take_append_drop]
        rw [e1, hro, Option.bind_some]
        simp only
        rw [if_pos (by simp; omega), ← hA1]
        simp
      · rw [if_neg (by simp; omega)]
        have : A = A1 := by
          rw [← hA1, ← hA]
          by_cases h0 : r = 0
          · subst h0
            rw [List.take_zero, List.drop_zero, List.nil_append, ← List.append_assoc (L.take k), List.take_append_drop]
          · have : k = L.length := by omega
            subst this
            rw [List.take_length, List.drop_length, List.nil_append, ← List.append_assoc (R.take r), List.take_append_drop]
        rw [this]
    -- the first half
    have h7 : ∃ M1, Good c M1 (L.take k ++ R.take r) ∧ (S_slices_symMergeCmpFunc_int_33_3_j7 rec0 g0 none (P.length : Int) ((P.length + L.length : Nat) : Int) ((P.length + L.length + R.length : Nat) : Int) (s : Int) A1 z = S_slices_symMergeCmpFunc_int_33_3_j8 rec0 g0 none (P.length : Int) ((P.length + L.length : Nat) : Int) ((P.length + L.length + R.length : Nat) : Int) (s : Int) (P ++ (M1 ++ (L.drop k ++ (R.drop r ++ Q)))) z ∨
        (¬ b ∧ S_slices_symMergeCmpFunc_int_33_3_j7 rec0 g0 none (P.length : Int) ((P.length + L.length : Nat) : Int) ((P.length + L.length + R.length : Nat) : Int) (s : Int) A1 z = none)) := by
      unfold S_slices_symMergeCmpFunc_int_33_3_j7
      simp only [hmid]
      by_cases hc : 0 < k ∧ 0 < r
      · have hsub : Pre2 c D (L.take k) (R.take r) := ⟨by simp; omega, by simp; omega, hp.ls.sublist (List.take_sublist _ _), hp.rs.sublist (List.take_sublist _ _), fun x hx y hy => hp.x x (List.mem_of_mem_take hx) y (List.mem_of_mem_take hy), fun x hx => hp.dl x (List.mem_of_mem_take hx), fun x hx => hp.dr x (List.mem_of_mem_take hx)⟩
        obtain ⟨M1, g1, g2⟩ := hr P (L.take k) (R.take r) (L.drop k ++ (R.drop r ++ Q)) hsub (by simp; omega) (by rw [hA1]; omega)
        have e1 : P.length + (L.take k).length = s := by simp; omega
        have e2 : s + (R.take r).length = mid := by simp; omega
        rw [e1, e2, hA1] at g2
        refine ⟨M1, g1, ?_⟩
        rw [if_pos (by simp; omega)]
        have hM := good_refl_l g1
        rcases g2 with g2 | ⟨g2, g3⟩
        · left
          rw [g2, Option.bind_some]
          simp only
          rw [if_pos (by rw [← hA1]; simp at hM ⊢; omega)]
        · right
          rw [g3, Option.bind_none]
          exact ⟨g2, rfl⟩
      · rw [if_neg (by simp; omega)]
        refine ⟨L.take k ++ R.take r, ⟨List.Perm.refl _, ?_⟩, .inl (by rw [← hA1]; simp)⟩
        by_cases h0 : k = 0
        · subst h0; simpa using hp.rs.sublist (List.take_sublist _ _)
        · have : r = 0 := by omega
          subst this; simpa using hp.ls.sublist (List.take_sublist _ _)
    obtain ⟨M1, g1, h7⟩ := h7
    have hM1 := good_refl_l g1
    simp only [List.length_append, List.length_take] at hM1
    have h8 : ∃ M2, Good c M2 (L.drop k ++ R.drop r) ∧ Sat b (S_slices_symMergeCmpFunc_int_33_3_j8 rec0 g0 none (P.length : Int) ((P.length + L.length : Nat) : Int) ((P.length + L.length + R.length : Nat) : Int) (s : Int) (P ++ (M1 ++ (L.drop k ++ (R.drop r ++ Q)))) z) (P ++ (M1 ++ (M2 ++ Q)), z) := by
      unfold S_slices_symMergeCmpFunc_int_33_3_j8
      simp only [hmid, wn, we]
      by_cases hc : k < L.length ∧ r < R.length
      · have hsub : Pre2 c D (L.drop k) (R.drop r) := ⟨by simp; omega, by simp; omega, hp.ls.sublist (List.drop_sublist _ _), hp.rs.sublist (List.drop_sublist _ _), fun x hx y hy => hp.x x (List.mem_of_mem_drop hx) y (List.mem_of_mem_drop hy), fun x hx => hp.dl x (List.mem_of_mem_drop hx), fun x hx => hp.dr x (List.mem_of_mem_drop hx)⟩
        obtain ⟨M2, q1, q2⟩ := hr (P ++ M1) (L.drop k) (R.drop r) Q hsub (by simp; omega) (by simp; omega)
        have e1 : (P ++ M1).length = mid := by simp; omega
        have e2 : mid + (L.drop k).length = P.length + L.length + r := by simp; omega
        have e3 : P.length + L.length + r + (R.drop r).length = P.length + L.length + R.length := by simp; omega
        rw [e1, e2, e3, List.append_assoc] at q2
        refine ⟨M2, q1, ?_⟩
        rw [if_pos (by simp; omega)]
        have hM := good_refl_l q1
        rcases q2 with q2 | ⟨q2, q3⟩
        · left
          rw [q2, Option.bind_some]
          simp only
          rw [if_pos (by simp at hM ⊢; omega)]
          simp
        · right
          rw [q3, Option.bind_none]
          exact ⟨q2, rfl⟩
      · rw [if_neg (by simp; omega)]
        refine ⟨L.drop k ++ R.drop r, ⟨List.Perm.refl _, ?_⟩, .inl (by simp)⟩
        by_cases h0 : k < L.length
        · rw [List.drop_eq_nil_of_le (show R.length ≤ r by omega), List.append_nil]
          exact hp.ls.sublist (List.drop_sublist _ _)
        · rw [List.drop_eq_nil_of_le (show L.length ≤ k by omega), List.nil_append]
          exact hp.rs.sublist (List.drop_sublist _ _)
    obtain ⟨M2, g2, h8⟩ := h8
    refine ⟨M1 ++ M2, ⟨?_, ?_⟩, ?_⟩
    · have h1 : (M1 ++ M2).Perm ((L.take k ++ R.take r) ++ (L.drop k ++ R.drop r)) := g1.1.append g2.1
      refine h1.trans ?_
      have h2 : ((L.take k ++ R.take r) ++ (L.drop k ++ R.drop r)).Perm ((L.take k ++ L.drop k) ++ (R.take r ++ R.drop r)) := by
        rw [List.append_assoc, List.append_assoc]
        refine List.Perm.append_left _ ?_
        rw [← List.append_assoc, ← List.append_assoc]
        exact List.Perm.append_right _ List.perm_append_comm
      rw [List.take_append_drop, List.take_append_drop] at h2
      exact h2
    · rw [List.pairwise_append]
      refine ⟨g1.2, g2.2, fun x hx y hy => ?_⟩
      have hx' := g1.1.mem_iff.1 hx
      have hy' := g2.1.mem_iff.1 hy
      rcases List.mem_append.1 hx' with hx1 | hx1 <;> rcases List.mem_append.1 hy' with hy1 | hy1
      · have hpw := hp.ls
        rw [← List.take_append_drop k L, List.pairwise_append] at hpw
        exact hpw.2.2 x hx1 y hy1
      · exact F1 x hx1 y hy1
      · exact F2 x hx1 y hy1
      · have hpw := hp.rs
        rw [← List.take_append_drop r R, List.pairwise_append] at hpw
        exact hpw.2.2 x hx1 y hy1
    · unfold S_slices_symMergeCmpFunc_int_33_3_j5
      rw [s5, hrot]
      rcases h7 with h7 | ⟨h7, h7'⟩
      · rw [h7]
        simpa using h8
      · rw [h7']
        exact .inr ⟨h7, rfl⟩
  rw [hmid, hmd]
  by_cases c3 : mid < P.length + L.length
  · rw [if_pos (by simp; omega)]
    have e : W (W ((mid : Int) + ((P.length + L.length : Nat) : Int)) - ((P.length + L.length + R.length : Nat) : Int)) = ((mid + (P.length + L.length) - (P.length + L.length + R.length) : Nat) : Int) := by
      rw [show W ((mid : Int) + ((P.length + L.length : Nat) : Int)) = ((mid + (P.length + L.length) : Nat) : Int) by rw [Wz (by omega)]; omega, Wz (by omega)]; omega
    rw [e]
    exact cut _ _ (.inl ⟨rfl, rfl, c3⟩)
  · rw [if_neg (by simp; omega)]
    exact cut _ _ (.inr ⟨rfl, rfl, by omega⟩)
theorem sm_ex (ho : Ordc c D) (hg : ∀ x y, D x → D y → g0 z (x, y) = some (c x y, z)) : ∀ (n : Nat) (L R : List Int), L.length + R.length ≤ n → L.length + R.length ≤ 10000 → Pre2 c D L R → ∃ M, Good c M (L ++ R)
  | 0, L, R, h, _, hp => by have := hp.l0; omega
  | n + 1, L, R, h, hle, hp => by
    obtain ⟨M, h1, _⟩ := sm_body (P := []) (Q := []) (b := False) (rec0 := fun _ _ _ _ _ => none) ho hg hp (by simp; omega) (fun P L' R' Q hp' hl' hlen' => by
      obtain ⟨M, hM⟩ := sm_ex ho hg n L' R' (by omega) (by omega) hp'
      exact ⟨M, hM, .inr ⟨fun h => h, rfl⟩⟩)
    exact ⟨M, h1⟩
theorem sm_I (ho : Ordc c D) (hg : ∀ x y, D x → D y → g0 z (x, y) = some (c x y, z)) : ∀ (k : Nat) (P L R Q : List Int), Pre2 c D L R → (P ++ (L ++ (R ++ Q))).length ≤ 10000 →
    ∃ M, Good c M (L ++ R) ∧ Sat (L.length + R.length ≤ k) (S_slices_symMergeCmpFunc_int_33_3_I g0 none k (P.length : Int) ((P.length + L.length : Nat) : Int) ((P.length + L.length + R.length : Nat) : Int) (P ++ (L ++ (R ++ Q))) z) (P ++ (M ++ Q), z)
  | 0, P, L, R, Q, hp, hlen => by
    obtain ⟨M, hM⟩ := sm_ex ho hg _ L R (Nat.le_refl _) (by simp at hlen; omega) hp
    exact ⟨M, hM, .inr ⟨by have := hp.l0; omega, rfl⟩⟩
  | k + 1, P, L, R, Q, hp, hlen => by
    refine sm_body (b := L.length + R.length ≤ k + 1) ho hg hp hlen fun P' L' R' Q' hp' hl' hlen' => ?_
    obtain ⟨M, h1, h2⟩ := sm_I ho hg k P' L' R' Q' hp' hlen'
    refine ⟨M, h1, ?_⟩
    rcases h2 with h2 | ⟨h2, h3⟩
    · exact .inl h2
    · exact .inr ⟨by omega, h3⟩
theorem sm_F (ho : Ordc c D) (hg : ∀ x y, D x → D y → g0 z (x, y) = some (c x y, z)) {P L R Q : List Int} (hp : Pre2 c D L R) (hlen : (P ++ (L ++ (R ++ Q))).length ≤ 10000) :
    ∃ M, Good c M (L ++ R) ∧ S_slices_symMergeCmpFunc_int_33_3_F g0 none (P.length : Int) ((P.length + L.length : Nat) : Int) ((P.length + L.length + R.length : Nat) : Int) (P ++ (L ++ (R ++ Q))) z = some (P ++ (M ++ Q), z) := by
  obtain ⟨M, h1, h2⟩ := sm_I ho hg (L.length + R.length) P L R Q hp hlen
  refine ⟨M, h1, ?_⟩
  unfold S_slices_symMergeCmpFunc_int_33_3_F
  refine recN_of (fun k o hk => ?_) ⟨L.length + R.length, ?_⟩
  · obtain ⟨M', g1, g2⟩ := sm_I ho hg k P L R Q hp hlen
    have : M' = M := Good.uniq ho (fun x hx => by rcases List.mem_append.1 hx with h | h; exact hp.dl x h; exact hp.dr x h) g1 h1
    subst this
    rcases g2 with g2 | ⟨_, g2⟩
    · rw [g2] at hk; simpa using hk.symm
    · rw [g2] at hk; cases hk
  · rcases h2 with h2 | ⟨h2, _⟩
    · exact h2
    · exact absurd (Nat.le_refl _) h2
end
end Go.Proofs.Ytobkgelkaljjeaa
