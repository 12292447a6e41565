/-
  Own text Law2 of this claim: what functions of the given program compute, in plain Lean, and the proof; no condition.
-/
import Derived.Test.YtcllpgaaoiccgaaLaw1
namespace Go.Proofs.Ytcllpgaaoiccgaa
open Go.Fx
set_option linter.unusedVariables false
theorem Ck_s (fl : Bool) (tok : Int) (n k s : Nat) (l : List Int) : Ck fl tok n (k + 1) s l = ⟨tok, s, fl && decide (l.drop n = []), l.take n⟩ :: (if l.drop n = [] then [] else Ck fl tok n k (s + 1) (l.drop n)) := rfl
theorem Ck_ne (fl : Bool) (tok : Int) (n k s : Nat) (l : List Int) : Ck fl tok n (k + 1) s l ≠ [] := by simp [Ck]
theorem Ck_last (tok : Int) (n : Nat) : ∀ (k s : Nat) (l : List Int), l.length ≤ k * n + n → 1 ≤ n →
    (Ck false tok n (k + 1) s l).set ((Ck false tok n (k + 1) s l).length - 1) { (Ck false tok n (k + 1) s l).getD ((Ck false tok n (k + 1) s l).length - 1) default with f_Last := true } = Ck true tok n (k + 1) s l
  | 0, s, l, h, hn => by
    have hnil : l.drop n = [] := by rw [List.drop_eq_nil_iff]; omega
    simp [Ck, hnil]
  | k + 1, s, l, h, hn => by
    by_cases hnil : l.drop n = []
    · rw [Ck_s false tok n (k + 1), Ck_s true tok n (k + 1), if_pos hnil]
      simp [hnil]
    · have ih := Ck_last tok n k (s + 1) (l.drop n) (by simp only [List.length_drop]; rw [Nat.succ_mul] at h; omega) hn
      rw [Ck_s false tok n (k + 1), Ck_s true tok n (k + 1), if_neg hnil, if_neg hnil]
      obtain ⟨y, ys, hy⟩ : ∃ y ys, Ck false tok n (k + 1) (s + 1) (l.drop n) = y :: ys := by
        cases hc : Ck false tok n (k + 1) (s + 1) (l.drop n) with
        | nil => exact absurd hc (Ck_ne _ _ _ _ _ _)
        | cons y ys => exact ⟨y, ys, rfl⟩
      rw [hy] at ih ⊢
      rw [← ih]
      simp [hnil]
theorem split_eq {tok n : Int} {l : List Int} (hl : l.length ≤ 1000) (hn : 1 ≤ n) (hn2 : n ≤ 9223372036854775807) (ht : 0 ≤ tok) :
    S_progress_Split none tok l n = some (Ck true tok n.toNat (l.length + 1) 0 l, 0) := by
  unfold S_progress_Split
  rw [if_neg (by simp; omega), if_neg (by simp; omega)]
  by_cases h0 : l = []
  · subst h0
    rw [if_pos (by simp)]
    simp [Ck]
  · have hlen := List.length_pos_iff.2 h0
    rw [if_neg (by simp; exact h0)]
    have hch : S_slices_Chunk_int none l n = some () := by
      unfold S_slices_Chunk_int S_slices_Chunk_int_j1
      rw [if_neg (by simp; omega)]
    rw [hch]
    simp only [Option.bind_some]
    have := chunk_loop (tok := tok) hl hn hn2 (l.length + 1) 0 [] hlen (by omega) (by simp) (.inl rfl)
    unfold S_slices_Chunk_int_1
    rw [show ((0 : Nat) : Int) = 0 from rfl] at this
    rw [this]
    simp only [Option.bind_some, List.nil_append, List.length_nil, List.drop_zero]
    obtain ⟨C, hC⟩ : ∃ C, C = Ck false tok n.toNat (l.length + 1) 0 l := ⟨_, rfl⟩
    have hCn : C ≠ [] := by rw [hC]; exact Ck_ne _ _ _ _ _ _
    have hCp := List.length_pos_iff.2 hCn
    have hCl : ∀ (k s : Nat) (x : List Int), (Ck false tok n.toNat k s x).length ≤ k := by
      intro k
      induction k with
      | zero => intro s x; simp [Ck]
      | succ k ih =>
        intro s x
        rw [Ck]
        split
        · simp
        · have := ih (s + 1) (x.drop n.toNat); simp; omega
    have hC2 := hCl (l.length + 1) 0 l
    rw [← hC] at hC2
    rw [← hC]
    have hw : W ((C.length : Int) - 1) = ((C.length - 1 : Nat) : Int) := by rw [W_in (by unfold inR; omega)]; omega
    rw [hw]
    simp only [Int.toNat_natCast, Nat.zero_add]
    rw [if_pos (by omega), if_pos (by omega)]
    have hL := Ck_last tok n.toNat l.length 0 l (by have : l.length * 1 ≤ l.length * n.toNat := Nat.mul_le_mul_left _ (by omega); omega) (by omega)
    rw [← hC] at hL
    rw [← hL]
theorem rclone_eq (l : List Int) (h : l.length ≤ 1000) : S_glossatorref3_Clone_int none l = some l := by
  unfold S_glossatorref3_Clone_int
  rw [if_pos (by simp; omega)]
theorem rsplit_loop {tok n : Int} (hn : 1 ≤ n) : ∀ (k : Nat) (l : List Int) (acc : List G_QChunk), l.length ≤ k → acc.length + l.length ≤ 1000 →
    S_glossatorref3_Split_l1 none tok n l acc = some (acc ++ Ck true tok n.toNat (k + 1) acc.length l) := by
  intro k
  induction k with
  | zero =>
    intro l acc h h2
    have : l = [] := List.length_eq_zero_iff.1 (by omega)
    subst this
    unfold S_glossatorref3_Split_l1
    refine loopM_out ?_
    unfold S_glossatorref3_Split_b1
    simp only [List.map_nil, List.length_nil]
    rw [if_pos (by simp; split <;> omega), rclone_eq _ (by simp)]
    simp only [Option.bind_some]
    rw [if_pos (by simp; split <;> omega), if_pos (by simp; omega), if_pos (by simp)]
    simp [Ck]
  | succ k ih =>
    intro l acc h h2
    obtain ⟨e, he1, he2⟩ : ∃ e : Int, e = (if ((l.map e_i64).length : Int) < n then ((l.map e_i64).length : Int) else n) ∧ e = ((min l.length n.toNat : Nat) : Int) := by
      refine ⟨_, rfl, ?_⟩
      simp only [List.length_map]
      split <;> omega
    have htk : l.take e.toNat = l.take n.toNat := by rw [he2, List.take_eq_take_iff]; omega
    have hdr : l.drop e.toNat = l.drop n.toNat := by
      rw [he2]
      by_cases hc : l.length ≤ n.toNat
      · rw [List.drop_eq_nil_iff.2 (by omega), List.drop_eq_nil_iff.2 hc]
      · rw [show (((min l.length n.toNat : Nat) : Int)).toNat = n.toNat by omega]
    have hd : ((((l.drop n.toNat).map e_i64).length : Int) == 0) = decide (l.drop n.toNat = []) := by
      rw [List.length_map]
      by_cases hc : l.drop n.toNat = []
      · simp [hc]
      · have := List.length_pos_iff.2 hc
        rw [decide_eq_false hc]
        simp only [beq_eq_false_iff_ne]
        omega
    have hb : S_glossatorref3_Split_b1 none tok n l acc = if l.drop n.toNat = [] then some (.inr (acc ++ [⟨tok, acc.length, true, l.take n.toNat⟩])) else some (.inl (l.drop n.toNat, acc ++ [⟨tok, acc.length, false, l.take n.toNat⟩])) := by
      unfold S_glossatorref3_Split_b1
      rw [← he1, htk, hdr, hd]
      rw [if_pos (by simp; omega), rclone_eq _ (by simp; omega)]
      simp only [Option.bind_some]
      rw [if_pos (by simp; omega), if_pos (by simp; omega)]
      by_cases hc : l.drop n.toNat = []
      · rw [if_pos (by simp [hc]), if_pos hc]; simp [hc]
      · rw [if_neg (by simp [hc]), if_neg hc]; simp [hc]
    unfold S_glossatorref3_Split_l1
    by_cases hc : l.drop n.toNat = []
    · rw [if_pos hc] at hb
      rw [loopM_out (x := some (acc ++ [⟨tok, acc.length, true, l.take n.toNat⟩])) hb, Ck_s true tok n.toNat (k + 1), if_pos hc]
      simp [hc]
    · rw [if_neg hc] at hb
      have hlt : n.toNat < l.length := by
        rw [List.drop_eq_nil_iff] at hc; omega
      have := ih (l.drop n.toNat) (acc ++ [⟨tok, acc.length, false, l.take n.toNat⟩]) (by simp; omega) (by simp; omega)
      unfold S_glossatorref3_Split_l1 at this
      rw [loopM_inl hb, this, Ck_s true tok n.toNat (k + 1), if_neg hc]
      simp [hc]
theorem rsplit_eq {tok n : Int} {l : List Int} (hn : 1 ≤ n) (hl : l.length ≤ 1000) : S_glossatorref3_Split none tok l n = some (Ck true tok n.toNat (l.length + 1) 0 l) := by
  unfold S_glossatorref3_Split
  rw [rsplit_loop hn l.length l [] (Nat.le_refl _) (by simpa using hl)]
  simp
theorem eqI_loop (x : List Int) (hx : x.length ≤ 100000) : ∀ (k i : Nat), i + k = x.length → S_glossatorref3_Equal_int_l1 none x x (i : Int) = some true
  | 0, i, h => by
    have : i = x.length := by omega
    subst this
    unfold S_glossatorref3_Equal_int_l1
    refine loopM_out ?_
    unfold S_glossatorref3_Equal_int_b1 S_glossatorref3_Equal_int_j1
    rw [if_neg (by simp)]
    try rfl
  | k + 1, i, h => by
    have ih := eqI_loop x hx k (i + 1) (by omega)
    have e1 := Wi (show i ≤ 4611686018427387904 by omega)
    unfold S_glossatorref3_Equal_int_l1 at ih ⊢
    rw [loopM_inl (s' := ((i + 1 : Nat) : Int)) ?_]
    · exact ih
    · unfold S_glossatorref3_Equal_int_b1
      rw [if_pos (by simp; omega), if_pos (by simp; omega), if_pos (by simp; omega), if_neg (by simp), e1]
theorem eqI {x : List Int} (hx : x.length ≤ 100000) : S_glossatorref3_Equal_int none x x = some true := by
  unfold S_glossatorref3_Equal_int
  rw [if_neg (by simp)]
  exact eqI_loop x hx x.length 0 (by omega)
theorem eqC_loop (x : List G_QChunk) (hx : x.length ≤ 100000) (hi : ∀ c ∈ x, c.f_Items.length ≤ 100000) : ∀ (k i : Nat), i + k = x.length → S_glossatorref3_EqualChunks_l1 none x x (i : Int) = some true
  | 0, i, h => by
    have : i = x.length := by omega
    subst this
    unfold S_glossatorref3_EqualChunks_l1
    refine loopM_out ?_
    unfold S_glossatorref3_EqualChunks_b1 S_glossatorref3_EqualChunks_j1
    rw [if_neg (by simp)]
    try rfl
  | k + 1, i, h => by
    have hlt : i < x.length := by omega
    have ih := eqC_loop x hx hi k (i + 1) (by omega)
    have e1 := Wi (show i ≤ 4611686018427387904 by omega)
    unfold S_glossatorref3_EqualChunks_l1 at ih ⊢
    rw [loopM_inl (s' := ((i + 1 : Nat) : Int)) ?_]
    · exact ih
    · unfold S_glossatorref3_EqualChunks_b1
      have hin : (0 : Int) ≤ (i : Int) ∧ (i : Int) < ((x.map e_QChunk).length : Int) := by simp; omega
      rw [if_pos (by simp; omega), if_pos hin, if_pos hin, if_pos (fun _ => hin), if_pos (fun _ => hin), if_pos (fun _ => hin)]
      simp only [bne_self_eq_false, Bool.or_self, Bool.false_or, beq_self_eq_true, Bool.not_true, if_true, Int.toNat_natCast]
      rw [getD_at hlt, eqI (hi _ (List.getElem_mem hlt))]
      simp [e1]
theorem eqC {x : List G_QChunk} (hx : x.length ≤ 100000) (hi : ∀ c ∈ x, c.f_Items.length ≤ 100000) : S_glossatorref3_EqualChunks none x x = some true := by
  unfold S_glossatorref3_EqualChunks
  rw [if_neg (by simp)]
  exact eqC_loop x hx hi x.length 0 (by omega)
theorem Ck_len (fl : Bool) (tok : Int) (n : Nat) : ∀ (k s : Nat) (l : List Int), (Ck fl tok n k s l).length ≤ k
  | 0, _, _ => by simp [Ck]
  | k + 1, s, l => by
    rw [Ck]
    split
    · simp
    · have := Ck_len fl tok n k (s + 1) (l.drop n); simp; omega
theorem Ck_items (fl : Bool) (tok : Int) (n : Nat) : ∀ (k s : Nat) (l : List Int), ∀ c ∈ Ck fl tok n k s l, c.f_Items.length ≤ l.length
  | 0, _, _, c, h => by simp [Ck] at h
  | k + 1, s, l, c, h => by
    rw [Ck] at h
    rcases List.mem_cons.1 h with rfl | h
    · simp; omega
    · split at h
      · cases h
      · have := Ck_items fl tok n k (s + 1) (l.drop n) c h; simp at this; omega
end Go.Proofs.Ytcllpgaaoiccgaa
