/-
  Own text Law4 of this claim: what functions of the given program compute, in plain Lean, and the proof; no condition.
-/
import Derived.Test.YteepckliibfnkaaLaw3
namespace Go.Proofs.Yteepckliibfnkaa
open Go.Fx Go.Sort
set_option linter.unusedVariables false

theorem newEntry_eq {d : Do} (h : d.f_Text.length ≤ 1000000) : S_wordindex_newEntry none d = some (entryOf d) := by
  unfold S_wordindex_newEntry
  rw [sum1 (by omega), Option.bind_some, words_prog h, Option.bind_some]
  rfl
theorem entry_ref {d : Do} (h : d.f_Text.length ≤ 1000000) : S_glossatorref3_Entry none d = some (entryOf d) := by
  unfold S_glossatorref3_Entry
  rw [sum2 (by omega), Option.bind_some, words_ref h, Option.bind_some]
  rfl
theorem cf_key (x y : En) : cf27 x y = Go.Lib.compareBytes x.f_Name y.f_Name := rfl
theorem pb_loop {ds : List Do} (hl : ds.length ≤ 1000) (ht : ∀ d ∈ ds, d.f_Text.length ≤ 1000000) : ∀ (k i : Nat) (acc : List En), i + k = ds.length → acc.length = i →
    S_wordindex_Build_l1 none ds (i : Int) acc = S_wordindex_Build_j1 none (acc ++ (ds.drop i).map entryOf)
  | 0, i, acc, h, ha => by
    have hi : i = ds.length := by omega
    subst hi
    unfold S_wordindex_Build_l1
    rw [List.drop_length, List.map_nil, List.append_nil]
    refine loopM_out ?_
    unfold S_wordindex_Build_b1
    rw [if_neg (by simp)]
  | k + 1, i, acc, h, ha => by
    have hi : i < ds.length := by omega
    unfold S_wordindex_Build_l1
    rw [loopM_inl (s' := (((i + 1 : Nat) : Int), acc ++ [entryOf ds[i]])) ?_]
    · have ih := pb_loop hl ht k (i + 1) (acc ++ [entryOf ds[i]]) (by omega) (by simp; omega)
      rw [List.drop_eq_getElem_cons hi, List.map_cons, show acc ++ entryOf ds[i] :: List.map entryOf (List.drop (i+1) ds) = (acc ++ [entryOf ds[i]]) ++ List.map entryOf (List.drop (i+1) ds) by simp]
      exact ih
    · unfold S_wordindex_Build_b1
      simp only [List.length_map, Int.toNat_natCast, getD_at hi]
      rw [if_pos (by simp; omega), if_pos (by omega), show (⟨ds[i].f_Name, ds[i].f_Version, ds[i].f_Text⟩ : Do) = ds[i] from rfl, newEntry_eq (ht _ (List.getElem_mem hi)), Option.bind_some, if_pos (by simp; omega), Wi (by omega)]
theorem build_prog {ds : List Do} (hl : ds.length ≤ 4000000000000) : S_wordindex_Build none ds = some (if chk ds = 0 then (bld ds, 0) else ([], chk ds)) := by
  unfold S_wordindex_Build
  rw [validate_eq hl, Option.bind_some]
  by_cases hc : chk ds = 0
  · rw [if_neg (by simp [hc]), if_pos hc]
    obtain ⟨h1, h2, h3⟩ := chk_ok hc
    have h := pb_loop (ds := ds) (by omega) (fun d hd => Nat.le_trans (h2 d hd) (by omega)) ds.length 0 [] (by omega) rfl
    rw [show (0 : Int) = ((0 : Nat) : Int) from rfl, h, List.drop_zero, List.nil_append]
    obtain ⟨b1, b2⟩ := bld_ok ds [] List.Pairwise.nil (fun _ _ x hx => by cases hx) h3
    rw [List.nil_append] at b1
    replace b1 : (bld ds).Perm (ds.map entryOf) := b1
    unfold S_wordindex_Build_j1 S_slices_SortFunc_api_QIndexEntry
    have hu : sortU cf27 (ds.map entryOf) = some (bld ds) := sortU_of (swo_key (·.f_Name) cf_key) (by simp; omega) (fun r' p1 p2 => by
      refine eq_sorted (f := fun x : En => x.f_Name) (p1.trans b1.symm) (p2.imp fun h => ?_) b2
      rw [ltOf_key (fun x : En => x.f_Name) cf_key] at h
      simpa using h)
    rw [hu, Option.bind_some, if_pos b1.length_eq]
    rfl
  · rw [if_pos (by simp [hc]), if_neg hc]

theorem re_loop {l : List En} {e : En} (hl : l.length ≤ 1000) : ∀ (k i : Nat) (acc : List En) (b : Bool), i + k = l.length → acc.length ≤ 2 * i →
    S_glossatorref3_InsertEntry_l1 none l e acc b (i : Int) = some (acc ++ ie e b (l.drop i))
  | 0, i, acc, b, h, ha => by
    have hi : i = l.length := by omega
    subst hi
    unfold S_glossatorref3_InsertEntry_l1
    rw [List.drop_length]
    refine loopM_out ?_
    unfold S_glossatorref3_InsertEntry_b1
    rw [if_neg (by simp)]
    unfold S_glossatorref3_InsertEntry_j7 S_glossatorref3_InsertEntry_j8 ie
    cases b with
    | true => simp
    | false => rw [if_pos (by simp), if_pos (by simp; omega), if_neg (by simp)]
  | k + 1, i, acc, b, h, ha => by
    have hi : i < l.length := by omega
    have step : ∀ (acc : List En) (b : Bool), acc.length ≤ 2 * i + 1 → S_glossatorref3_InsertEntry_j5 none l e (i : Int) acc b = some (.inl (acc ++ (if l[i].f_Name = e.f_Name then [] else [l[i]]), b, ((i + 1 : Nat) : Int))) := fun acc b ha => by
      unfold S_glossatorref3_InsertEntry_j5 S_glossatorref3_InsertEntry_j6
      simp only [Int.toNat_natCast, getD_at hi]
      rw [Wi (by omega), show (⟨l[i].f_Name, l[i].f_Sum, l[i].f_Words⟩ : En) = l[i] from rfl]
      by_cases hn : l[i].f_Name = e.f_Name
      · rw [if_neg (by simp [hn]), if_pos hn, List.append_nil]
      · rw [if_pos (by simp [hn]), if_pos (by simp; omega), if_neg hn]
    unfold S_glossatorref3_InsertEntry_l1
    rw [List.drop_eq_getElem_cons hi]
    conv => rhs; unfold ie
    have hlen1 : (if l[i].f_Name = e.f_Name then ([] : List En) else [l[i]]).length ≤ 1 := by split <;> simp
    by_cases hc : (!b && decide (¬ l[i].f_Name < e.f_Name)) = true
    · rw [if_pos hc, loopM_inl (s' := ((acc ++ [e]) ++ (if l[i].f_Name = e.f_Name then [] else [l[i]]), true, ((i + 1 : Nat) : Int))) ?_]
      · have hb : (b || decide (¬ l[i].f_Name < e.f_Name)) = true := by rw [Bool.and_eq_true] at hc; rw [hc.2, Bool.or_true]
        rw [hb, ← List.append_assoc, ← List.append_assoc]
        exact re_loop hl k (i + 1) _ true (by omega) (by simp only [List.length_append, List.length_singleton]; omega)
      · unfold S_glossatorref3_InsertEntry_b1
        simp only [List.length_map, Int.toNat_natCast, getD_at hi]
        rw [if_pos (by simp; omega), if_pos (by omega), bytesLess_eq, if_pos (by simpa using hc), if_pos (by simp; omega), step _ _ (by simp; omega)]
    · rw [if_neg hc, List.nil_append, loopM_inl (s' := (acc ++ (if l[i].f_Name = e.f_Name then [] else [l[i]]), b, ((i + 1 : Nat) : Int))) ?_]
      · have hb : (b || decide (¬ l[i].f_Name < e.f_Name)) = b := by
          cases b with
          | true => rfl
          | false => simpa using hc
        rw [hb, ← List.append_assoc]
        exact re_loop hl k (i + 1) _ b (by omega) (by rw [List.length_append]; omega)
      · unfold S_glossatorref3_InsertEntry_b1
        simp only [List.length_map, Int.toNat_natCast, getD_at hi]
        rw [if_pos (by simp; omega), if_pos (by omega), bytesLess_eq, if_neg (by simpa using hc), step _ _ (by omega)]
theorem insert_eq {l : List En} {e : En} (hl : l.length ≤ 1000) : S_glossatorref3_InsertEntry none l e = some (ie e false l) := re_loop hl l.length 0 [] false (by omega) (by simp)
theorem ie_len {e : En} : ∀ (l : List En), (ie e true l).length ≤ l.length ∧ (ie e false l).length ≤ l.length + 1
  | [] => by unfold ie; simp
  | x :: l => by
    obtain ⟨h1, h2⟩ := ie_len (e := e) l
    have h3 : (if x.f_Name = e.f_Name then ([] : List En) else [x]).length ≤ 1 := by split <;> simp
    constructor
    · unfold ie
      rw [if_neg (by simp), Bool.true_or, List.nil_append, List.length_append, List.length_cons]; omega
    · unfold ie
      by_cases hc : x.f_Name < e.f_Name
      · rw [if_neg (by simpa using hc), show (false || decide (¬ x.f_Name < e.f_Name)) = false by simpa using hc, List.nil_append, List.length_append, List.length_cons]; omega
      · rw [if_pos (by simpa using hc), show (false || decide (¬ x.f_Name < e.f_Name)) = true by simpa using hc, List.length_append, List.length_append, List.length_singleton, List.length_cons]; omega
theorem eqS {l : List (List UInt8)} (hl : l.length ≤ 8796093022208) : ∀ (k i : Nat), i + k = l.length → S_glossatorref3_Equal_string_l1 none l l (i : Int) = some true
  | 0, i, h => by
    have hi : i = l.length := by omega
    subst hi
    unfold S_glossatorref3_Equal_string_l1
    refine loopM_out ?_
    unfold S_glossatorref3_Equal_string_b1
    rw [if_neg (by simp)]
    rfl
  | k + 1, i, h => by
    unfold S_glossatorref3_Equal_string_l1
    rw [loopM_inl (s' := ((i + 1 : Nat) : Int)) ?_]
    · exact eqS hl k (i + 1) (by omega)
    · unfold S_glossatorref3_Equal_string_b1
      rw [if_pos (by simp; omega), if_pos (by simp; omega), if_pos (by simp; omega), if_neg (by simp), Wi (by omega)]
theorem equalS {l : List (List UInt8)} (hl : l.length ≤ 8796093022208) : S_glossatorref3_Equal_string none l l = some true := by
  unfold S_glossatorref3_Equal_string
  rw [if_neg (by simp)]
  exact eqS hl l.length 0 (by omega)
theorem eqX {l : List En} (hl : l.length ≤ 8796093022208) (hb : ∀ b ∈ l, b.f_Words.length ≤ 8796093022208) : ∀ (k i : Nat), i + k = l.length → S_glossatorref3_EqualIndexes_l1 none l l (i : Int) = some true
  | 0, i, h => by
    have hi : i = l.length := by omega
    subst hi
    unfold S_glossatorref3_EqualIndexes_l1
    refine loopM_out ?_
    unfold S_glossatorref3_EqualIndexes_b1
    rw [if_neg (by simp)]
    rfl
  | k + 1, i, h => by
    have hi : i < l.length := by omega
    unfold S_glossatorref3_EqualIndexes_l1
    rw [loopM_inl (s' := ((i + 1 : Nat) : Int)) ?_]
    · exact eqX hl hb k (i + 1) (by omega)
    · unfold S_glossatorref3_EqualIndexes_b1
      simp only [List.length_map, Int.toNat_natCast, getD_at hi]
      rw [if_pos (by simp; omega), if_pos (by omega), if_pos (by omega), if_pos (by intro _; omega), if_pos (by intro _; omega), if_pos (by intro _; omega), if_pos (by intro _; omega), if_pos (by simp), equalS (hb _ (List.getElem_mem hi)), Option.bind_some, if_neg (by simp), Wi (by omega)]
theorem equalX {l : List En} (hl : l.length ≤ 8796093022208) (hb : ∀ b ∈ l, b.f_Words.length ≤ 8796093022208) : S_glossatorref3_EqualIndexes none l l = some true := by
  unfold S_glossatorref3_EqualIndexes
  rw [if_neg (by simp)]
  exact eqX hl hb l.length 0 (by omega)
theorem words_len (t : List UInt8) : (wordsOf t).length ≤ 400 := by unfold wordsOf; rw [List.length_take]; omega
theorem bld_len {ds : List Do} (h : chk ds = 0) : (bld ds).length ≤ 20 ∧ ∀ b ∈ bld ds, b.f_Words.length ≤ 400 := by
  obtain ⟨h1, h2, h3⟩ := chk_ok h
  obtain ⟨b1, _⟩ := bld_ok ds [] List.Pairwise.nil (fun _ _ x hx => by cases hx) h3
  rw [List.nil_append] at b1
  refine ⟨by have := b1.length_eq; rw [List.length_map] at this; unfold bld; omega, fun b hb => ?_⟩
  obtain ⟨d, _, rfl⟩ := List.mem_map.1 (b1.mem_iff.1 hb)
  exact words_len _

theorem ix_loop {l : List (List UInt8)} {x : List UInt8} (hl : l.length ≤ 8796093022208) : ∀ (k i : Nat), i + k = l.length →
    ∃ r : Int, S_slices_Index_string_l1 none l x (i : Int) = some r ∧ decide (r ≥ 0) = decide (x ∈ l.drop i)
  | 0, i, h => by
    have hi : i = l.length := by omega
    subst hi
    refine ⟨-1, ?_, by rw [List.drop_length]; simp⟩
    unfold S_slices_Index_string_l1
    refine loopM_out ?_
    unfold S_slices_Index_string_b1
    rw [if_neg (by simp)]
    rfl
  | k + 1, i, h => by
    have hi : i < l.length := by omega
    unfold S_slices_Index_string_l1
    rw [List.drop_eq_getElem_cons hi]
    by_cases hx : x = l[i]
    · refine ⟨i, ?_, by rw [hx, decide_eq_true (List.mem_cons_self ..)]; simp⟩
      refine loopM_out ?_
      unfold S_slices_Index_string_b1
      simp only [List.length_map, Int.toNat_natCast, getD_at hi]
      rw [if_pos (by simp; omega), if_pos (by omega), if_pos (by simpa using hx)]
    · obtain ⟨r, h1, h2⟩ := ix_loop (x := x) hl k (i + 1) (by omega)
      refine ⟨r, ?_, by rw [h2, Bool.eq_iff_iff, decide_eq_true_eq, decide_eq_true_eq, List.mem_cons]; exact ⟨.inr, fun h => h.resolve_left hx⟩⟩
      rw [loopM_inl (s' := ((i + 1 : Nat) : Int)) ?_]
      · exact h1
      · unfold S_slices_Index_string_b1
        simp only [List.length_map, Int.toNat_natCast, getD_at hi]
        rw [if_pos (by simp; omega), if_pos (by omega), if_neg (by simpa using hx), Wi (by omega)]
theorem contains_eq {l : List (List UInt8)} {x : List UInt8} (hl : l.length ≤ 8796093022208) : S_slices_Contains_string none l x = some (decide (x ∈ l)) := by
  unfold S_slices_Contains_string S_slices_Index_string
  obtain ⟨r, h1, h2⟩ := ix_loop (x := x) hl l.length 0 (by omega)
  rw [show (0 : Int) = ((0 : Nat) : Int) from rfl, h1, Option.bind_some]
  rw [List.drop_zero] at h2
  exact congrArg some h2
def namesOf (w : List UInt8) (l : List En) : List (List UInt8) := (l.filter fun e => decide (w ∈ e.f_Words)).map (·.f_Name)
theorem find_loop {l : List En} {w : List UInt8} (hl : l.length ≤ 8796093022208) (hb : ∀ b ∈ l, b.f_Words.length ≤ 8796093022208) : ∀ (k i : Nat) (acc : List (List UInt8)), i + k = l.length → acc.length ≤ i →
    S_wordindex_Find_l1 none l w acc (i : Int) = some (acc ++ namesOf w (l.drop i))
  | 0, i, acc, h, ha => by
    have hi : i = l.length := by omega
    subst hi
    unfold S_wordindex_Find_l1
    rw [List.drop_length, show namesOf w [] = [] from rfl, List.append_nil]
    refine loopM_out ?_
    unfold S_wordindex_Find_b1
    rw [if_neg (by simp)]
    rfl
  | k + 1, i, acc, h, ha => by
    have hi : i < l.length := by omega
    unfold S_wordindex_Find_l1
    rw [List.drop_eq_getElem_cons hi]
    by_cases hw : w ∈ l[i].f_Words
    · rw [show namesOf w (l[i] :: l.drop (i + 1)) = l[i].f_Name :: namesOf w (l.drop (i + 1)) by unfold namesOf; rw [List.filter_cons, if_pos (by simpa using hw)]; rfl, loopM_inl (s' := (acc ++ [l[i].f_Name], ((i + 1 : Nat) : Int))) ?_]
      · have ih := find_loop (w := w) hl hb k (i + 1) (acc ++ [l[i].f_Name]) (by omega) (by simp; omega)
        rw [show acc ++ l[i].f_Name :: namesOf w (l.drop (i + 1)) = (acc ++ [l[i].f_Name]) ++ namesOf w (l.drop (i + 1)) by simp]
        exact ih
      · unfold S_wordindex_Find_b1 S_wordindex_Find_j3
        simp only [List.length_map, Int.toNat_natCast, getD_at hi]
        rw [if_pos (by simp; omega), if_pos (by omega), contains_eq (hb _ (List.getElem_mem hi)), Option.bind_some, if_pos (by simpa using hw), if_pos (by simp; omega), Wi (by omega)]
    · rw [show namesOf w (l[i] :: l.drop (i + 1)) = namesOf w (l.drop (i + 1)) by unfold namesOf; rw [List.filter_cons, if_neg (by simpa using hw)], loopM_inl (s' := (acc, ((i + 1 : Nat) : Int))) ?_]
      · exact find_loop hl hb k (i + 1) acc (by omega) (by omega)
      · unfold S_wordindex_Find_b1 S_wordindex_Find_j3
        simp only [List.length_map, Int.toNat_natCast, getD_at hi]
        rw [if_pos (by simp; omega), if_pos (by omega), contains_eq (hb _ (List.getElem_mem hi)), Option.bind_some, if_neg (by simpa using hw), Wi (by omega)]
theorem find_eq {l : List En} {w : List UInt8} (hl : l.length ≤ 8796093022208) (hb : ∀ b ∈ l, b.f_Words.length ≤ 8796093022208) : S_wordindex_Find none l w = some (namesOf w l) := by
  have := find_loop (w := w) hl hb l.length 0 [] (by omega) (by simp)
  rw [List.drop_zero] at this
  exact this
def exD : List Do := [⟨[100], 0, [98, 32, 97, 95, 49, 44, 32, 98]⟩]
theorem ex_chk : chk exD = 0 := by rfl
theorem ex_bld : ∃ s, bld exD = [⟨[100], s, [[97, 95, 49], [98]]⟩] := ⟨csum [98, 32, 97, 95, 49, 44, 32, 98], rfl⟩
theorem example_true : S_glossatorlaw3_indexExample none = some true := by
  unfold S_glossatorlaw3_indexExample
  have h := build_prog (ds := exD) (by decide)
  obtain ⟨s, hs⟩ := ex_bld
  rw [if_pos ex_chk, hs] at h
  refine (congrArg (fun o => Option.bind o _) h).trans ?_
  rw [Option.bind_some]
  simp only [List.length_map, List.length_cons, List.length_nil]
  rw [if_pos (by intro _; decide), if_pos (by rfl)]
  rw [show (([⟨[100], s, [[97, 95, 49], [98]]⟩] : List En).getD ((0 : Int).toNat) default).f_Words = [[97, 95, 49], [98]] from rfl, equalS (by decide), Option.bind_some, if_pos (by rfl), find_eq (by simp) (by simp), Option.bind_some, if_pos (by rfl)]
  rw [show namesOf [98] [⟨[100], s, [[97, 95, 49], [98]]⟩] = [[100]] from rfl, equalS (by decide), Option.bind_some]
  rfl
end Go.Proofs.Yteepckliibfnkaa
