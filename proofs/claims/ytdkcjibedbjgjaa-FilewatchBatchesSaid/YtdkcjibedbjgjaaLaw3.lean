/-
  Own text Law3 of this claim: what functions of the given program compute, in plain Lean, and the proof; no condition.
-/
import Derived.Test.YtdkcjibedbjgjaaLaw2
namespace Go.Proofs.Ytdkcjibedbjgjaa
open Go.Fx Go.Sort
set_option linter.unusedVariables false

abbrev Bt := G_QFileBatch
def seg (a0 : List Ev) (s e : Nat) : List Ev := (a0.take e).drop s
theorem seg_len {a0 : List Ev} {s e : Nat} (h : e ≤ a0.length) : (seg a0 s e).length = e - s := by unfold seg; rw [List.length_drop, List.length_take, Nat.min_eq_left h]
theorem seg_mem {a0 : List Ev} {s e : Nat} {x : Ev} (h : x ∈ seg a0 s e) : x ∈ a0 := List.mem_of_mem_take (List.mem_of_mem_drop h)
def one (X : List Ev) (t : Int) : List Bt := if evs X = [] then [] else [⟨t, evs X⟩]
theorem one_len (X : List Ev) (t : Int) : (one X t).length ≤ 1 := by unfold one; split <;> simp
def cont (a0 : List Ev) (d : Int) (i : Nat) : Bool := decide (i + 1 < a0.length) && decide (W ((a0.getD (i + 1) default).f_Time - (a0.getD i default).f_Time) < d)
def bs (a0 : List Ev) (d : Int) : Nat → Nat → Nat → List Bt → List Bt
  | 0, _, _, acc => acc
  | k + 1, i, s, acc => if cont a0 d i = true then bs a0 d k (i + 1) s acc else bs a0 d k (i + 1) (i + 1) (acc ++ one (seg a0 s (i + 1)) (W ((a0.getD i default).f_Time + d)))
theorem pr_loop {a0 : List Ev} {d : Int} (ha : a0.length ≤ 100000) (hp : ∀ e ∈ a0, e.f_Path.length ≤ maxLen) : ∀ (k i s : Nat) (acc : List Bt), i + k = a0.length → s ≤ i → acc.length ≤ i →
    S_filewatch_Batches_l1 none a0 d acc (s : Int) (i : Int) = some (bs a0 d k i s acc, 0)
  | 0, i, s, acc, h, hs, hl => by
    have hi : i = a0.length := by omega
    subst hi
    unfold S_filewatch_Batches_l1 bs
    refine loopM_out ?_
    unfold S_filewatch_Batches_b1
    rw [if_neg (by simp)]
    rfl
  | k + 1, i, s, acc, h, hs, hl => by
    have hi : i < a0.length := by omega
    unfold S_filewatch_Batches_l1 bs
    by_cases hc : cont a0 d i = true
    · rw [if_pos hc, loopM_inl (s' := (acc, (s : Int), ((i + 1 : Nat) : Int))) ?_]
      · exact pr_loop ha hp k (i + 1) s acc (by omega) (by omega) (by omega)
      · unfold S_filewatch_Batches_b1 S_filewatch_Batches_j6
        simp only [List.length_map, Int.toNat_natCast, Wi (show i ≤ 4611686018427387904 by omega)]
        unfold cont at hc
        simp only [Bool.and_eq_true, decide_eq_true_eq] at hc
        rw [if_pos (by simp; omega), if_pos (by intro _; omega), if_pos (by intro _; omega), if_pos (by simp only [Bool.and_eq_true, decide_eq_true_eq]; exact ⟨by omega, hc.2⟩)]
    · rw [if_neg hc]
      have ho := one_len (seg a0 s (i + 1)) (W ((a0.getD i default).f_Time + d))
      rw [loopM_inl (s' := (acc ++ one (seg a0 s (i + 1)) (W ((a0.getD i default).f_Time + d)), ((i + 1 : Nat) : Int), ((i + 1 : Nat) : Int))) ?_]
      · exact pr_loop ha hp k (i + 1) (i + 1) _ (by omega) (by omega) (by rw [List.length_append]; omega)
      · unfold S_filewatch_Batches_b1 S_filewatch_Batches_j5 S_filewatch_Batches_j6
        simp only [List.length_map, Int.toNat_natCast, Wi (show i ≤ 4611686018427387904 by omega)]
        unfold cont at hc
        have hsl := seg_len (a0 := a0) (s := s) (e := i + 1) (by omega)
        rw [if_pos (by simp; omega), if_pos (by simp only [beq_iff_eq, decide_eq_true_eq]; omega), if_pos (by intro _; omega), if_neg (by intro h2; refine hc ?_; simp only [Bool.and_eq_true, decide_eq_true_eq] at h2 ⊢; exact ⟨by omega, h2.2⟩), if_pos (by omega)]
        have hnb := newBatch_eq (a0 := seg a0 s (i + 1)) (d := d) (by omega) (by omega) (fun e he => hp e (seg_mem he))
        rw [show (a0.take (i + 1)).drop s = seg a0 s (i + 1) from rfl, hnb, Option.bind_some]
        have hlast : (seg a0 s (i + 1))[(seg a0 s (i + 1)).length - 1]'(by omega) = a0.getD i default := by
          rw [getD_at hi]
          unfold seg
          simp only [List.getElem_drop, List.getElem_take]
          congr 1
          rw [List.length_drop, List.length_take]; omega
        rw [hlast]
        unfold one
        by_cases he : evs (seg a0 s (i + 1)) = []
        · rw [if_neg (by simp [he]), if_pos he, List.append_nil]
        · rw [if_pos (by have := List.length_pos_iff.2 he; simp only [decide_eq_true_eq]; omega), if_pos (by simp; omega), if_neg he]

theorem pa_coll {a0 : List Ev} (ha : a0.length ≤ 100000) : ∀ (k i : Nat) (acc : List (List UInt8)), i + k = a0.length → acc.length = i →
    S_glossatorref3_paths_l1 none a0 acc (i : Int) = S_glossatorref3_paths_j1 none (acc ++ (a0.drop i).map (·.f_Path))
  | 0, i, acc, h, hl => by
    have hi : i = a0.length := by omega
    subst hi
    unfold S_glossatorref3_paths_l1
    rw [List.drop_length, List.map_nil, List.append_nil]
    refine loopM_out ?_
    unfold S_glossatorref3_paths_b1
    rw [if_neg (by simp)]
  | k + 1, i, acc, h, hl => by
    have hi : i < a0.length := by omega
    unfold S_glossatorref3_paths_l1
    rw [loopM_inl (s' := (acc ++ [a0[i].f_Path], ((i + 1 : Nat) : Int))) ?_]
    · have ih := pa_coll ha k (i + 1) (acc ++ [a0[i].f_Path]) (by omega) (by simp; omega)
      rw [List.drop_eq_getElem_cons hi, List.map_cons, show acc ++ a0[i].f_Path :: List.map (·.f_Path) (List.drop (i+1) a0) = (acc ++ [a0[i].f_Path]) ++ List.map (·.f_Path) (List.drop (i+1) a0) by simp]
      exact ih
    · unfold S_glossatorref3_paths_b1
      simp only [List.length_map, Int.toNat_natCast, getD_at hi]
      rw [if_pos (by simp; omega), if_pos (by omega), if_pos (by simp; omega), Wi (by omega)]
theorem paths_eq {a0 : List Ev} (ha : a0.length ≤ 100000) : S_glossatorref3_paths none a0 = some (sortS (a0.map (·.f_Path))) := by
  have h := pa_coll ha a0.length 0 [] (by omega) rfl
  unfold S_glossatorref3_paths
  rw [show (0 : Int) = ((0 : Nat) : Int) from rfl, h, List.drop_zero, List.nil_append]
  unfold S_glossatorref3_paths_j1
  rw [ss_eq (by simpa using ha), Option.bind_some]
theorem rb_last {a0 X : List Ev} {d : Int} {B : List Bt} {s e : Int} {K : List (List UInt8)} {acc : List Ev} {j : Nat} (hX : (a0.take e.toNat).drop s.toNat = X) (ha : X.length ≤ 100000) (hj : j < K.length) : ∀ (k i : Nat) (r : Ev), i + k = X.length → r.f_Path = K[j] →
    S_glossatorref3_Batches_l16 none a0 d B s e K (j : Int) acc (i : Int) r.f_Time r.f_Kind = (fun r : Ev => S_glossatorref3_Batches_j51 none a0 d B s e K (j : Int) acc r.f_Time r.f_Kind) ((X.drop i).foldl (acc1 K[j]) r)
  | 0, i, r, h, hr => by
    have hi : i = X.length := by omega
    subst hi
    unfold S_glossatorref3_Batches_l16
    rw [List.drop_length, List.foldl_nil]
    refine loopM_out ?_
    unfold S_glossatorref3_Batches_b16
    rw [hX, if_neg (by simp)]
  | k + 1, i, r, h, hr => by
    have hi : i < X.length := by omega
    unfold S_glossatorref3_Batches_l16
    rw [loopM_inl (s' := (((i + 1 : Nat) : Int), (acc1 K[j] r X[i]).f_Time, (acc1 K[j] r X[i]).f_Kind)) ?_]
    · have ih := rb_last (d := d) (B := B) (acc := acc) hX ha hj k (i + 1) (acc1 K[j] r X[i]) (by omega) (acc1_path hr)
      rw [List.drop_eq_getElem_cons hi, List.foldl_cons]
      exact ih
    · unfold S_glossatorref3_Batches_b16 S_glossatorref3_Batches_j50
      simp only [hX, List.length_map, Int.toNat_natCast, getD_at hi, getD_at hj]
      rw [if_pos (by simp; omega), if_pos (by omega), Wi (by omega), rmerge_eq, Option.bind_some]
      unfold acc1
      by_cases he : X[i].f_Path = K[j]
      · rw [if_pos (by simpa using he), if_pos he]
      · rw [if_neg (by simpa using he), if_neg he]
theorem rb_keys {a0 X : List Ev} {d : Int} {B : List Bt} {s e : Nat} {K : List (List UInt8)} (hX : (a0.take e).drop s = X) (hse : s ≤ e) (hen : e ≤ a0.length) (ha : X.length ≤ 100000) (hK : K.length ≤ 100000) : ∀ (k i : Nat) (acc : List Ev), i + k = K.length → acc.length ≤ i →
    S_glossatorref3_Batches_l15 none a0 d B (s : Int) (e : Int) K (i : Int) acc = S_glossatorref3_Batches_j53 none a0 d B (e : Int) (acc ++ (K.drop i).flatMap (keepE X))
  | 0, i, acc, h, hl => by
    have hi : i = K.length := by omega
    subst hi
    unfold S_glossatorref3_Batches_l15
    rw [List.drop_length, List.flatMap_nil, List.append_nil]
    refine loopM_out ?_
    unfold S_glossatorref3_Batches_b15
    rw [if_neg (by simp)]
  | k + 1, i, acc, h, hl => by
    have hi : i < K.length := by omega
    have hk := keepE_len X K[i]
    unfold S_glossatorref3_Batches_l15
    rw [loopM_inl (s' := (((i + 1 : Nat) : Int), acc ++ keepE X K[i])) ?_]
    · have ih := rb_keys (d := d) (B := B) hX hse hen ha hK k (i + 1) (acc ++ keepE X K[i]) (by omega) (by rw [List.length_append]; omega)
      rw [List.drop_eq_getElem_cons hi, List.flatMap_cons, ← List.append_assoc]
      exact ih
    · unfold S_glossatorref3_Batches_b15
      dsimp only
      rw [if_pos (by simp; omega), if_pos (by simp; omega), if_pos (by simp; omega)]
      have := rb_last (a0 := a0) (X := X) (d := d) (B := B) (s := (s : Int)) (e := (e : Int)) (K := K) (acc := acc) (by simpa using hX) ha hi X.length 0 ⟨0, K[i], 0⟩ (by omega) rfl
      rw [List.drop_zero] at this
      refine this.trans ?_
      have hpth : (mrgAt X K[i]).f_Path = K[i] := fold_path X rfl
      show S_glossatorref3_Batches_j51 none a0 d B (s : Int) (e : Int) K (i : Int) acc (mrgAt X K[i]).f_Time (mrgAt X K[i]).f_Kind = _
      unfold S_glossatorref3_Batches_j51 S_glossatorref3_Batches_j52 keepE
      rw [Wi (by omega), Int.toNat_natCast, getD_at hi]
      by_cases hz : (mrgAt X K[i]).f_Kind = 0
      · rw [if_neg (by simp [hz]), if_pos hz, List.append_nil]
      · rw [if_pos (by simp [hz]), if_neg hz, if_pos (by simp; omega)]
        rw [(fun r h => by cases r; cases h; rfl : ∀ r : Ev, r.f_Path = K[i] → (⟨r.f_Time, K[i], r.f_Kind⟩ : Ev) = r) _ hpth]
theorem rb_one {a0 : List Ev} {d : Int} {B : List Bt} {s i : Nat} (ha : a0.length ≤ 100000) (hB : B.length ≤ 100000) (hs : s ≤ i) (hi : i < a0.length) :
    S_glossatorref3_Batches_j37 none a0 d B (s : Int) ((i + 1 : Nat) : Int) = some (.inl (B ++ one (seg a0 s (i + 1)) (W ((a0.getD i default).f_Time + d)), ((i + 1 : Nat) : Int))) := by
  have hw : W (((i + 1 : Nat) : Int) - 1) = (i : Int) := by rw [W_in (by unfold inR; omega)]; omega
  have hsl := seg_len (a0 := a0) (s := s) (e := i + 1) (by omega)
  unfold S_glossatorref3_Batches_j37
  simp only [List.length_map, hw, Int.toNat_natCast]
  rw [if_pos (by omega), if_pos (by omega), show (a0.take (i + 1)).drop s = seg a0 s (i + 1) from rfl, paths_eq (by omega), Option.bind_some]
  have hss := sortS_len ((seg a0 s (i + 1)).map (·.f_Path))
  rw [List.length_map] at hss
  have h2 := rb_keys (a0 := a0) (X := seg a0 s (i + 1)) (d := d) (B := B) (s := s) (e := i + 1) (K := sortS ((seg a0 s (i + 1)).map (·.f_Path))) rfl (by omega) (by omega) (by omega) (by omega) _ 0 [] (Nat.zero_add _) (by simp)
  rw [show (0 : Int) = ((0 : Nat) : Int) from rfl, h2, List.drop_zero, List.nil_append]
  show S_glossatorref3_Batches_j53 none a0 d B _ (evs (seg a0 s (i + 1))) = _
  unfold S_glossatorref3_Batches_j53 S_glossatorref3_Batches_j54 one
  rw [hw, Int.toNat_natCast]
  by_cases he : evs (seg a0 s (i + 1)) = []
  · rw [if_neg (by simp [he]), if_pos he, List.append_nil]
  · rw [if_pos (by have := List.length_pos_iff.2 he; simp only [decide_eq_true_eq, List.length_map]; omega), if_pos (by simp; omega), if_neg he]
theorem rb_scan {a0 : List Ev} {d : Int} (ha : a0.length ≤ 100000) : ∀ (k i s : Nat) (B : List Bt), i + 1 + k = a0.length → s ≤ i → B.length ≤ s →
    ∃ B' e, i + 1 ≤ e ∧ e ≤ a0.length ∧ B'.length ≤ B.length + 1 ∧ S_glossatorref3_Batches_l12 none a0 d B (s : Int) ((i + 1 : Nat) : Int) = some (.inl (B', (e : Int))) ∧ bs a0 d (k + 1) i s B = bs a0 d (a0.length - e) e e B'
  | k, i, s, B, h, hs, hB => by
    have hw : W (((i + 1 : Nat) : Int) - 1) = (i : Int) := by rw [W_in (by unfold inR; omega)]; omega
    have hbs : bs a0 d (k + 1) i s B = if cont a0 d i = true then bs a0 d k (i + 1) s B else bs a0 d k (i + 1) (i + 1) (B ++ one (seg a0 s (i + 1)) (W ((a0.getD i default).f_Time + d))) := rfl
    by_cases hc : cont a0 d i = true
    · have hc' := hc
      unfold cont at hc
      simp only [Bool.and_eq_true, decide_eq_true_eq] at hc
      match k, h with
      | 0, h => omega
      | k + 1, h =>
        obtain ⟨B', e, h1, h2, h3, h4, h5⟩ := rb_scan (d := d) ha k (i + 1) s B (by omega) (by omega) hB
        refine ⟨B', e, by omega, h2, h3, ?_, by rw [hbs, if_pos hc', h5]⟩
        unfold S_glossatorref3_Batches_l12
        rw [loopM_inl (s' := ((i + 1 + 1 : Nat) : Int)) ?_]
        · exact h4
        · unfold S_glossatorref3_Batches_b12
          simp only [List.length_map, hw, Int.toNat_natCast]
          rw [if_pos (by intro _; omega), if_pos (by intro _; omega), if_pos (by simp only [Bool.and_eq_true, decide_eq_true_eq]; exact ⟨by omega, hc.2⟩), Wi (by omega)]
    · have ho := one_len (seg a0 s (i + 1)) (W ((a0.getD i default).f_Time + d))
      refine ⟨_, i + 1, Nat.le_refl _, by omega, ?_, ?_, by rw [hbs, if_neg hc, show a0.length - (i + 1) = k by omega]⟩
      · rw [List.length_append]; omega
      · unfold S_glossatorref3_Batches_l12
        rw [← rb_one ha (by omega) hs (by omega)]
        refine loopM_out ?_
        unfold S_glossatorref3_Batches_b12
        simp only [List.length_map, hw, Int.toNat_natCast]
        rw [if_pos (by simp only [beq_iff_eq, decide_eq_true_eq]; omega), if_pos (by intro _; omega), if_neg (by intro h2; refine hc ?_; unfold cont; simp only [Bool.and_eq_true, decide_eq_true_eq] at h2 ⊢; exact ⟨by omega, h2.2⟩)]
theorem rb_loop {a0 : List Ev} {d : Int} (ha : a0.length ≤ 100000) : ∀ (N s : Nat) (B : List Bt), a0.length - s ≤ N → s ≤ a0.length → B.length ≤ s →
    S_glossatorref3_Batches_l11 none a0 d B (s : Int) = some (bs a0 d (a0.length - s) s s B)
  | N, s, B, hN, hs, hB => by
    by_cases hlt : s < a0.length
    · match N, hN with
      | 0, hN => omega
      | N + 1, hN =>
        obtain ⟨B', e, h1, h2, h3, h4, h5⟩ := rb_scan (d := d) ha (a0.length - (s + 1)) s s B (by omega) (by omega) hB
        unfold S_glossatorref3_Batches_l11
        rw [loopM_inl (s' := (B', (e : Int))) ?_]
        · rw [show a0.length - s = a0.length - (s + 1) + 1 by omega, h5]
          exact rb_loop ha N e B' (by omega) h2 (by omega)
        · unfold S_glossatorref3_Batches_b11
          simp only [List.length_map]
          rw [if_pos (by simp; omega), Wi (by omega)]
          exact h4
    · have : s = a0.length := by omega
      subst this
      unfold S_glossatorref3_Batches_l11
      rw [Nat.sub_self]
      refine loopM_out ?_
      unfold S_glossatorref3_Batches_b11
      rw [if_neg (by simp)]
      rfl
theorem ref_batches {a0 : List Ev} {d : Int} (ha : a0.length ≤ 100000) : S_glossatorref3_Batches none a0 d = some (bs a0 d a0.length 0 0 []) := by
  have := rb_loop (d := d) ha a0.length 0 [] (by omega) (by omega) (by simp)
  rwa [Nat.sub_zero] at this
end Go.Proofs.Ytdkcjibedbjgjaa
