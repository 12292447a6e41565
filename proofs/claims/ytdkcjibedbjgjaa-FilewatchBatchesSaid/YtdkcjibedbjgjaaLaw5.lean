/-
  Own text Law5 of this claim: what functions of the given program compute, in plain Lean, and the proof; no condition.
-/
import Derived.Test.YtdkcjibedbjgjaaLaw4
namespace Go.Proofs.Ytdkcjibedbjgjaa
open Go.Fx Go.Sort
set_option linter.unusedVariables false

def keepF (e : Ev) (f : List UInt8) : Bool := !(f == e.f_Path) || e.f_Kind != 3
def stepF (L : List (List UInt8)) (e : Ev) : List (List UInt8) := if isUp e = true then sortS (L.filter (keepF e) ++ [e.f_Path]) else L.filter (keepF e)
theorem stepF_len (L : List (List UInt8)) (e : Ev) : (stepF L e).length ≤ L.length + 1 := by
  have h := List.length_filter_le (keepF e) L
  unfold stepF
  split
  · have := sortS_len (L.filter (keepF e) ++ [e.f_Path])
    rw [List.length_append, List.length_singleton] at this
    omega
  · omega
theorem stepF_asc {L : List (List UInt8)} {e : Ev} (h : L.Pairwise (· < ·)) : (stepF L e).Pairwise (· < ·) := by
  unfold stepF
  split
  · exact sortS_asc _
  · exact h.filter _
theorem stepF_mem {L : List (List UInt8)} {e : Ev} {x : List UInt8} {b : Bool} (h : x ∈ L ↔ b = true) : x ∈ stepF L e ↔ stp x b e = true := by
  unfold stepF stp keepF
  by_cases hu : isUp e = true
  · have h3 : (e.f_Kind != 3) = true := by
      unfold isUp at hu
      simp only [Bool.or_eq_true, beq_iff_eq] at hu
      simp only [bne_iff_ne, ne_eq]
      omega
    rw [if_pos hu, if_pos hu, sortS_mem, List.mem_append, List.mem_filter, List.mem_singleton, h, h3, Bool.or_true]
    simp
  · rw [if_neg hu, if_neg hu, List.mem_filter, h]
    by_cases h3 : e.f_Kind = 3
    · rw [if_pos h3, Bool.and_eq_true]
      simp [h3]
    · rw [if_neg h3]
      simp [h3]
def filesR (a0 : List (List UInt8)) (a1 : List Ev) : List (List UInt8) := a1.foldl stepF (sortS a0)
theorem files_inv : ∀ (l : List Ev) (L : List (List UInt8)) (b : List UInt8 → Bool), L.Pairwise (· < ·) → (∀ x, x ∈ L ↔ b x = true) → (l.foldl stepF L).Pairwise (· < ·) ∧ (l.foldl stepF L).length ≤ L.length + l.length ∧ ∀ x, x ∈ l.foldl stepF L ↔ l.foldl (stp x) (b x) = true
  | [], L, b, h, hb => ⟨h, Nat.le_refl _, hb⟩
  | e :: l, L, b, h, hb => by
    obtain ⟨i1, i2, i3⟩ := files_inv l (stepF L e) (fun x => stp x (b x) e) (stepF_asc h) (fun x => stepF_mem (hb x))
    have := stepF_len L e
    exact ⟨i1, by rw [List.foldl_cons, List.length_cons]; omega, i3⟩
theorem filesR_inv (a0 : List (List UInt8)) (a1 : List Ev) : (filesR a0 a1).Pairwise (· < ·) ∧ (filesR a0 a1).length ≤ a0.length + a1.length ∧ ∀ x, x ∈ filesR a0 a1 ↔ memF a0 a1 x = true := by
  obtain ⟨h1, h2, h3⟩ := files_inv a1 (sortS a0) (fun x => decide (x ∈ a0)) (sortS_asc _) (fun x => by rw [sortS_mem, decide_eq_true_eq])
  have := sortS_len a0
  exact ⟨h1, by unfold filesR; omega, h3⟩
theorem rf_filter {a1 : List Ev} {L : List (List UInt8)} {j : Nat} (hj : j < a1.length) (h1 : a1.length ≤ 100000) (hL : L.length ≤ 100000) : ∀ (k i : Nat) (acc : List (List UInt8)), i + k = L.length → acc.length ≤ i →
    S_glossatorref3_Files_l4 none a1 L (j : Int) acc (i : Int) = S_glossatorref3_Files_j16 none a1 (j : Int) (acc ++ (L.drop i).filter (keepF a1[j]))
  | 0, i, acc, h, hl => by
    have hi : i = L.length := by omega
    subst hi
    unfold S_glossatorref3_Files_l4
    rw [List.drop_length, List.filter_nil, List.append_nil]
    refine loopM_out ?_
    unfold S_glossatorref3_Files_b4
    rw [if_neg (by simp)]
  | k + 1, i, acc, h, hl => by
    have hi : i < L.length := by omega
    unfold S_glossatorref3_Files_l4
    rw [List.drop_eq_getElem_cons hi, List.filter_cons]
    by_cases hk : keepF a1[j] L[i] = true
    · rw [if_pos hk, loopM_inl (s' := (acc ++ [L[i]], ((i + 1 : Nat) : Int))) ?_]
      · have ih := rf_filter hj h1 hL k (i + 1) (acc ++ [L[i]]) (by omega) (by simp; omega)
        rw [show acc ++ L[i] :: List.filter (keepF a1[j]) (L.drop (i + 1)) = (acc ++ [L[i]]) ++ List.filter (keepF a1[j]) (L.drop (i + 1)) by simp]
        exact ih
      · unfold S_glossatorref3_Files_b4 S_glossatorref3_Files_j15
        simp only [List.length_map, Int.toNat_natCast, getD_at hi, getD_at hj]
        have hk' := hk
        unfold keepF at hk'
        rw [if_pos (by simp; omega), if_pos (by omega), if_pos hk', if_pos (by simp; omega), Wi (by omega)]
    · rw [if_neg hk, loopM_inl (s' := (acc, ((i + 1 : Nat) : Int))) ?_]
      · exact rf_filter hj h1 hL k (i + 1) acc (by omega) (by omega)
      · unfold S_glossatorref3_Files_b4 S_glossatorref3_Files_j15
        simp only [List.length_map, Int.toNat_natCast, getD_at hi, getD_at hj]
        have hk' := hk
        unfold keepF at hk'
        rw [if_pos (by simp; omega), if_pos (by omega), if_neg hk', Wi (by omega)]
theorem rf_loop {a1 : List Ev} (h1 : a1.length ≤ 50000) : ∀ (k i : Nat) (L : List (List UInt8)), i + k = a1.length → L.length ≤ 20000 + i →
    S_glossatorref3_Files_l3 none a1 L (i : Int) = some ((a1.drop i).foldl stepF L)
  | 0, i, L, h, hl => by
    have hi : i = a1.length := by omega
    subst hi
    unfold S_glossatorref3_Files_l3
    rw [List.drop_length, List.foldl_nil]
    refine loopM_out ?_
    unfold S_glossatorref3_Files_b3
    rw [if_neg (by simp)]
    rfl
  | k + 1, i, L, h, hl => by
    have hi : i < a1.length := by omega
    have hsl := stepF_len L a1[i]
    unfold S_glossatorref3_Files_l3
    rw [loopM_inl (s' := (stepF L a1[i], ((i + 1 : Nat) : Int))) ?_]
    · have ih := rf_loop h1 k (i + 1) (stepF L a1[i]) (by omega) (by omega)
      rw [List.drop_eq_getElem_cons hi, List.foldl_cons]
      exact ih
    · unfold S_glossatorref3_Files_b3
      simp only [List.length_map]
      rw [if_pos (by simp; omega), if_pos (by omega)]
      have h4 := rf_filter (L := L) hi (by omega) (by omega) L.length 0 [] (by omega) (by simp)
      rw [List.drop_zero, List.nil_append] at h4
      refine h4.trans ?_
      have hfl := List.length_filter_le (keepF a1[i]) L
      unfold S_glossatorref3_Files_j16 S_glossatorref3_Files_j17 S_glossatorref3_Files_j18 stepF isUp
      simp only [Int.toNat_natCast, getD_at hi, Wi (show i ≤ 4611686018427387904 by omega)]
      by_cases hu : (a1[i].f_Kind == 1 || a1[i].f_Kind == 2) = true
      · rw [if_pos hu, if_pos hu, if_pos (by simp; omega), ss_eq (by simp; omega), Option.bind_some]
      · rw [if_neg hu, if_neg hu]
theorem files_eq {a0 : List (List UInt8)} {a1 : List Ev} (h0 : a0.length ≤ 20000) (h1 : a1.length ≤ 50000) : S_glossatorref3_Files none a0 a1 = some (filesR a0 a1) := by
  have hs := sortS_len a0
  unfold S_glossatorref3_Files
  rw [ss_eq (by omega), Option.bind_some]
  have := rf_loop h1 a1.length 0 (sortS a0) (by omega) (by omega)
  rw [List.drop_zero] at this
  exact this
theorem ix_loop {l : List (List UInt8)} {x : List UInt8} (hl : l.length ≤ 100000) : ∀ (k i : Nat), i + k = l.length →
    ∃ r : Int, S_glossatorref3_Index_string_l1 none l x (i : Int) = some r ∧ decide (r ≥ 0) = decide (x ∈ l.drop i)
  | 0, i, h => by
    have hi : i = l.length := by omega
    subst hi
    refine ⟨-1, ?_, by rw [List.drop_length]; simp⟩
    unfold S_glossatorref3_Index_string_l1
    refine loopM_out ?_
    unfold S_glossatorref3_Index_string_b1
    rw [if_neg (by simp)]
    rfl
  | k + 1, i, h => by
    have hi : i < l.length := by omega
    unfold S_glossatorref3_Index_string_l1
    rw [List.drop_eq_getElem_cons hi]
    by_cases hx : x = l[i]
    · refine ⟨i, ?_, by rw [hx, decide_eq_true (List.mem_cons_self ..)]; simp⟩
      refine loopM_out ?_
      unfold S_glossatorref3_Index_string_b1
      simp only [List.length_map, Int.toNat_natCast, getD_at hi]
      rw [if_pos (by simp; omega), if_pos (by omega), if_pos (by simpa using hx)]
    · obtain ⟨r, h1, h2⟩ := ix_loop (x := x) hl k (i + 1) (by omega)
      refine ⟨r, ?_, by rw [h2, Bool.eq_iff_iff, decide_eq_true_eq, decide_eq_true_eq, List.mem_cons]; exact ⟨.inr, fun h => h.resolve_left hx⟩⟩
      rw [loopM_inl (s' := ((i + 1 : Nat) : Int)) ?_]
      · exact h1
      · unfold S_glossatorref3_Index_string_b1
        simp only [List.length_map, Int.toNat_natCast, getD_at hi]
        rw [if_pos (by simp; omega), if_pos (by omega), if_neg (by simpa using hx), Wi (by omega)]
theorem contains_eq {l : List (List UInt8)} {x : List UInt8} (hl : l.length ≤ 100000) : S_glossatorref3_Contains_string none l x = some (decide (x ∈ l)) := by
  unfold S_glossatorref3_Contains_string S_glossatorref3_Index_string
  obtain ⟨r, h1, h2⟩ := ix_loop (x := x) hl l.length 0 (by omega)
  rw [show (0 : Int) = ((0 : Nat) : Int) from rfl, h1, Option.bind_some]
  rw [List.drop_zero] at h2
  exact congrArg some h2

def bad (a0 : List (List UInt8)) (a1 : List Ev) (i : Nat) (e : Ev) : Bool := ((e.f_Kind == 1) && memF a0 (a1.take i) e.f_Path) || (((e.f_Kind == 2) || (e.f_Kind == 3)) && (!memF a0 (a1.take i) e.f_Path))
def cns (a0 : List (List UInt8)) (a1 : List Ev) : Nat → Nat → Bool
  | 0, _ => true
  | k + 1, i => if bad a0 a1 i (a1.getD i default) = true then false else cns a0 a1 k (i + 1)
theorem rc_loop {a0 : List (List UInt8)} {a1 : List Ev} (h0 : a0.length ≤ 20000) (h1 : a1.length ≤ 50000) : ∀ (k i : Nat), i + k = a1.length →
    S_glossatorref3_Consistent_l1 none a0 a1 (i : Int) = some (cns a0 a1 k i)
  | 0, i, h => by
    have hi : i = a1.length := by omega
    subst hi
    unfold S_glossatorref3_Consistent_l1
    refine loopM_out ?_
    unfold S_glossatorref3_Consistent_b1
    rw [if_neg (by simp)]
    rfl
  | k + 1, i, h => by
    have hi : i < a1.length := by omega
    have htl : (a1.take i).length ≤ 50000 := by rw [List.length_take]; omega
    obtain ⟨_, f2, f3⟩ := filesR_inv a0 (a1.take i)
    have hm : decide (a1[i].f_Path ∈ filesR a0 (a1.take i)) = memF a0 (a1.take i) a1[i].f_Path := by
      rw [Bool.eq_iff_iff, decide_eq_true_eq]; exact f3 _
    have hcn : cns a0 a1 (k + 1) i = if bad a0 a1 i a1[i] = true then false else cns a0 a1 k (i + 1) := by rw [← getD_at (l := a1) hi]; rfl
    unfold S_glossatorref3_Consistent_l1
    by_cases hb : bad a0 a1 i a1[i] = true
    · rw [hcn, if_pos hb]
      refine loopM_out ?_
      unfold S_glossatorref3_Consistent_b1
      simp only [List.length_map, Int.toNat_natCast, getD_at hi]
      rw [if_pos (by simp; omega), if_pos (by omega), if_pos (by omega), files_eq h0 htl, Option.bind_some, contains_eq (by omega), Option.bind_some, hm]
      have hb' := hb
      unfold bad at hb'
      rw [if_pos hb']
    · rw [hcn, if_neg hb, loopM_inl (s' := ((i + 1 : Nat) : Int)) ?_]
      · exact rc_loop h0 h1 k (i + 1) (by omega)
      · unfold S_glossatorref3_Consistent_b1
        simp only [List.length_map, Int.toNat_natCast, getD_at hi]
        rw [if_pos (by simp; omega), if_pos (by omega), if_pos (by omega), files_eq h0 htl, Option.bind_some, contains_eq (by omega), Option.bind_some, hm]
        have hb' := hb
        unfold bad at hb'
        rw [if_neg hb', Wi (by omega)]
theorem co_fill {a0 : List (List UInt8)} {a1 : List Ev} (ha : a0.length ≤ 100000) : ∀ (k i : Nat) (M : FM), i + k = a0.length →
    S_filewatch_Consistent_l1 none a0 a1 (i : Int) M = S_filewatch_Consistent_j1 none a1 ((a0.drop i).foldl fillF M)
  | 0, i, M, h => by
    have hi : i = a0.length := by omega
    subst hi
    unfold S_filewatch_Consistent_l1
    rw [List.drop_length, List.foldl_nil]
    refine loopM_out ?_
    unfold S_filewatch_Consistent_b1
    rw [if_neg (by simp)]
  | k + 1, i, M, h => by
    have hi : i < a0.length := by omega
    unfold S_filewatch_Consistent_l1
    rw [loopM_inl (s' := (((i + 1 : Nat) : Int), fillF M a0[i])) ?_]
    · have ih := co_fill (a1 := a1) ha k (i + 1) (fillF M a0[i]) (by omega)
      rw [List.drop_eq_getElem_cons hi, List.foldl_cons]
      exact ih
    · unfold S_filewatch_Consistent_b1
      simp only [List.length_map, Int.toNat_natCast, getD_at hi]
      rw [if_pos (by simp; omega), if_pos (by omega), Wi (by omega)]
      rfl
def nzM (M : FM) (x : List UInt8) : Bool := ((lk q_str M x).getD 0) != 0
theorem memF_succ {a0 : List (List UInt8)} {a1 : List Ev} {i : Nat} (hi : i < a1.length) (x : List UInt8) : memF a0 (a1.take (i + 1)) x = stp x (memF a0 (a1.take i) x) a1[i] := by
  unfold memF
  rw [List.take_succ_eq_append_getElem hi, List.foldl_append]
  rfl
theorem pc_loop {a0 : List (List UInt8)} {a1 : List Ev} (h1 : a1.length ≤ 50000) : ∀ (k i : Nat) (M : FM), i + k = a1.length → (∀ x, nzM M x = memF a0 (a1.take i) x) →
    S_filewatch_Consistent_l2 none a1 (i : Int) M = some (cns a0 a1 k i)
  | 0, i, M, h, hM => by
    have hi : i = a1.length := by omega
    subst hi
    unfold S_filewatch_Consistent_l2
    refine loopM_out ?_
    unfold S_filewatch_Consistent_b2
    rw [if_neg (by simp)]
    rfl
  | k + 1, i, M, h, hM => by
    have hi : i < a1.length := by omega
    have hcn : cns a0 a1 (k + 1) i = if bad a0 a1 i a1[i] = true then false else cns a0 a1 k (i + 1) := by rw [← getD_at (l := a1) hi]; rfl
    have hs := fun x => memF_succ (a0 := a0) hi x
    have hnz : (((lk q_str M a1[i].f_Path).getD 0) != 0) = memF a0 (a1.take i) a1[i].f_Path := hM a1[i].f_Path
    unfold S_filewatch_Consistent_l2
    cases hv : V a1[i].f_Kind with
    | false =>
      have hk : ¬(a1[i].f_Kind = 1 ∨ a1[i].f_Kind = 2 ∨ a1[i].f_Kind = 3) := fun hk => by rw [v_iff.2 hk] at hv; cases hv
      have hb : bad a0 a1 i a1[i] = false := by
        unfold bad
        have e1 : (a1[i].f_Kind == 1) = false := beq_false_of_ne fun e => hk (.inl e)
        have e2 : (a1[i].f_Kind == 2) = false := beq_false_of_ne fun e => hk (.inr (.inl e))
        have e3 : (a1[i].f_Kind == 3) = false := beq_false_of_ne fun e => hk (.inr (.inr e))
        rw [e1, e2, e3]; rfl
      rw [hcn, hb, loopM_inl (s' := (((i + 1 : Nat) : Int), M)) ?_]
      · refine pc_loop (a0 := a0) h1 k (i + 1) M (by omega) fun x => ?_
        rw [hM, hs]
        unfold stp
        rw [if_neg (by unfold isUp; simp only [Bool.or_eq_true, beq_iff_eq]; exact fun e => hk (e.elim .inl fun e => .inr (.inl e))), if_neg (fun e => hk (.inr (.inr e)))]
      · unfold S_filewatch_Consistent_b2 S_filewatch_Consistent_j4
        simp only [List.length_map, Int.toNat_natCast, getD_at hi]
        rw [if_pos (by simp; omega), if_pos (by omega), vk_eq, Option.bind_some, hv, if_pos (by rfl), Wi (by omega)]
    | true =>
      have hk := v_iff.1 hv
      have hbad : bad a0 a1 i a1[i] = (memF a0 (a1.take i) a1[i].f_Path == (a1[i].f_Kind == 1)) := by
        unfold bad
        generalize memF a0 (a1.take i) a1[i].f_Path = b
        rcases hk with hk | hk | hk <;> rw [hk] <;> cases b <;> rfl
      by_cases hb : bad a0 a1 i a1[i] = true
      · rw [hcn, if_pos hb]
        refine loopM_out ?_
        unfold S_filewatch_Consistent_b2
        simp only [List.length_map, Int.toNat_natCast, getD_at hi]
        rw [if_pos (by simp; omega), if_pos (by omega), vk_eq, Option.bind_some, hv, if_neg (by simp), if_pos (by rw [hnz, ← hbad]; exact hb)]
      · rw [hcn, if_neg hb]
        by_cases h3 : a1[i].f_Kind = 3
        · rw [loopM_inl (s' := (((i + 1 : Nat) : Int), mp q_str (mp q_str M a1[i].f_Path 1) a1[i].f_Path 0)) ?_]
          · refine pc_loop (a0 := a0) h1 k (i + 1) _ (by omega) fun x => ?_
            rw [hs, ← hM]
            have hup : ¬ isUp a1[i] = true := by unfold isUp; rw [h3]; decide
            unfold stp nzM
            rw [if_neg hup, if_pos h3, lkM (hq := q_str_iff), lkM (hq := q_str_iff)]
            by_cases hx : a1[i].f_Path = x
            · subst hx; simp
            · rw [if_neg hx, if_neg hx, decide_eq_false (fun e => hx e.symm)]; simp
          · unfold S_filewatch_Consistent_b2 S_filewatch_Consistent_j4
            simp only [List.length_map, Int.toNat_natCast, getD_at hi]
            rw [if_pos (by simp; omega), if_pos (by omega), vk_eq, Option.bind_some, hv, if_neg (by simp), if_neg (by rw [hnz, ← hbad]; exact hb), if_pos (by simpa using h3), Wi (by omega)]
        · rw [loopM_inl (s' := (((i + 1 : Nat) : Int), mp q_str M a1[i].f_Path 1)) ?_]
          · refine pc_loop (a0 := a0) h1 k (i + 1) _ (by omega) fun x => ?_
            rw [hs, ← hM]
            have hup : isUp a1[i] = true := by unfold isUp; simp only [Bool.or_eq_true, beq_iff_eq]; omega
            unfold stp nzM
            rw [if_pos hup, lkM (hq := q_str_iff)]
            by_cases hx : a1[i].f_Path = x
            · subst hx; simp
            · rw [if_neg hx, decide_eq_false (fun e => hx e.symm)]; simp
          · unfold S_filewatch_Consistent_b2 S_filewatch_Consistent_j4
            simp only [List.length_map, Int.toNat_natCast, getD_at hi]
            rw [if_pos (by simp; omega), if_pos (by omega), vk_eq, Option.bind_some, hv, if_neg (by simp), if_neg (by rw [hnz, ← hbad]; exact hb), if_neg (by simpa using h3), Wi (by omega)]
theorem ref_cons {a0 : List (List UInt8)} {a1 : List Ev} (h0 : a0.length ≤ 20000) (h1 : a1.length ≤ 50000) : S_glossatorref3_Consistent none a0 a1 = some (cns a0 a1 a1.length 0) := rc_loop h0 h1 a1.length 0 (by omega)
theorem prog_cons {a0 : List (List UInt8)} {a1 : List Ev} (h0 : a0.length ≤ 20000) (h1 : a1.length ≤ 50000) : S_filewatch_Consistent none a0 a1 = some (cns a0 a1 a1.length 0) := by
  have h := co_fill (a1 := a1) (a0 := a0) (by omega) a0.length 0 [] (by omega)
  unfold S_filewatch_Consistent
  rw [show (0 : Int) = ((0 : Nat) : Int) from rfl, h, List.drop_zero]
  unfold S_filewatch_Consistent_j1
  obtain ⟨_, _, _, p4⟩ := fill_inv a0 [] (by simp)
  refine pc_loop h1 a1.length 0 _ (by omega) fun x => ?_
  unfold nzM memF
  rw [p4, List.take_zero, List.foldl_nil]
  by_cases hx : x ∈ a0
  · rw [if_pos hx, decide_eq_true hx]; rfl
  · rw [if_neg hx, decide_eq_false hx]; rfl

theorem eqE {l : List Ev} (hl : l.length ≤ 100000) : ∀ (k i : Nat), i + k = l.length → S_glossatorref3_Equal_api_QFileEvent_l1 none l l (i : Int) = some true
  | 0, i, h => by
    have hi : i = l.length := by omega
    subst hi
    unfold S_glossatorref3_Equal_api_QFileEvent_l1
    refine loopM_out ?_
    unfold S_glossatorref3_Equal_api_QFileEvent_b1
    rw [if_neg (by simp)]
    rfl
  | k + 1, i, h => by
    unfold S_glossatorref3_Equal_api_QFileEvent_l1
    rw [loopM_inl (s' := ((i + 1 : Nat) : Int)) ?_]
    · exact eqE hl k (i + 1) (by omega)
    · unfold S_glossatorref3_Equal_api_QFileEvent_b1
      rw [if_pos (by simp; omega), if_pos (by simp; omega), if_pos (by simp; omega), if_neg (by simp), Wi (by omega)]
theorem equalE {l : List Ev} (hl : l.length ≤ 100000) : S_glossatorref3_Equal_api_QFileEvent none l l = some true := by
  unfold S_glossatorref3_Equal_api_QFileEvent
  rw [if_neg (by simp)]
  exact eqE hl l.length 0 (by omega)
theorem eqS {l : List (List UInt8)} (hl : l.length ≤ 100000) : ∀ (k i : Nat), i + k = l.length → S_glossatorref3_Equal_string_l1 none l l (i : Int) = some true
  | 0, i, h => by
    have hi : i = l.length := by omega
    subst hi
    unfold S_glossatorref3_Equal_string_l1
    refine loopM_out ?_
    unfold S_glossatorref3_Equal_string_b1
    rw [if_neg (by simp)]
    rfl
  | k + 1, i, h => by
    unfold S_glossatorref3_Equal_string_l1
    rw [loopM_inl (s' := ((i + 1 : Nat) : Int)) ?_]
    · exact eqS hl k (i + 1) (by omega)
    · unfold S_glossatorref3_Equal_string_b1
      rw [if_pos (by simp; omega), if_pos (by simp; omega), if_pos (by simp; omega), if_neg (by simp), Wi (by omega)]
theorem equalS {l : List (List UInt8)} (hl : l.length ≤ 100000) : S_glossatorref3_Equal_string none l l = some true := by
  unfold S_glossatorref3_Equal_string
  rw [if_neg (by simp)]
  exact eqS hl l.length 0 (by omega)
theorem eqB {l : List Bt} (hl : l.length ≤ 100000) (hb : ∀ b ∈ l, b.f_Events.length ≤ 100000) : ∀ (k i : Nat), i + k = l.length → S_glossatorref3_EqualBatches_l1 none l l (i : Int) = some true
  | 0, i, h => by
    have hi : i = l.length := by omega
    subst hi
    unfold S_glossatorref3_EqualBatches_l1
    refine loopM_out ?_
    unfold S_glossatorref3_EqualBatches_b1
    rw [if_neg (by simp)]
    rfl
  | k + 1, i, h => by
    have hi : i < l.length := by omega
    unfold S_glossatorref3_EqualBatches_l1
    rw [loopM_inl (s' := ((i + 1 : Nat) : Int)) ?_]
    · exact eqB hl hb k (i + 1) (by omega)
    · unfold S_glossatorref3_EqualBatches_b1
      simp only [List.length_map, Int.toNat_natCast, getD_at hi]
      rw [if_pos (by simp; omega), if_pos (by omega), if_pos (by omega), if_pos (by intro _; omega), if_pos (by intro _; omega), if_pos (by simp), equalE (hb _ (List.getElem_mem hi)), Option.bind_some, if_neg (by simp), Wi (by omega)]
theorem equalB {l : List Bt} (hl : l.length ≤ 100000) (hb : ∀ b ∈ l, b.f_Events.length ≤ 100000) : S_glossatorref3_EqualBatches none l l = some true := by
  unfold S_glossatorref3_EqualBatches
  rw [if_neg (by simp)]
  exact eqB hl hb l.length 0 (by omega)
theorem bs_ok {a0 : List Ev} {d : Int} (ha : a0.length ≤ 100000) : ∀ (k i s : Nat) (acc : List Bt), (∀ b ∈ acc, b.f_Events.length ≤ 100000) → (bs a0 d k i s acc).length ≤ acc.length + k ∧ ∀ b ∈ bs a0 d k i s acc, b.f_Events.length ≤ 100000
  | 0, i, s, acc, h => ⟨Nat.le_refl _, h⟩
  | k + 1, i, s, acc, h => by
    unfold bs
    split
    · obtain ⟨h1, h2⟩ := bs_ok (d := d) ha k (i + 1) s acc h
      exact ⟨by omega, h2⟩
    · have ho := one_len (seg a0 s (i + 1)) (W ((a0.getD i default).f_Time + d))
      obtain ⟨h1, h2⟩ := bs_ok (d := d) ha k (i + 1) (i + 1) (acc ++ one (seg a0 s (i + 1)) (W ((a0.getD i default).f_Time + d))) (fun b hb => by
        rcases List.mem_append.1 hb with hb | hb
        · exact h b hb
        · unfold one at hb
          split at hb
          · cases hb
          · simp only [List.mem_singleton] at hb
            subst hb
            have e1 := evs_len (seg a0 s (i + 1))
            have e2 : (seg a0 s (i + 1)).length ≤ a0.length := by unfold seg; rw [List.length_drop, List.length_take]; omega
            show (evs _).length ≤ _
            omega)
      rw [List.length_append] at h1
      exact ⟨by omega, h2⟩
end Go.Proofs.Ytdkcjibedbjgjaa
