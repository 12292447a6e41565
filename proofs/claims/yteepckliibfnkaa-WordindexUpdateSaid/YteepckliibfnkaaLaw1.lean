/-
  Own text Law1 of this claim: what functions of the given program compute, in plain Lean, and the proof; no condition.
-/
import Derived.Test.YteepckliibfnkaaGenB
import Derived.Test.YteepckliibfnkaaFxLu
namespace Go.Proofs.Yteepckliibfnkaa
open Go.Fx Go.Sort
set_option linter.unusedVariables false

theorem ss_ins {a0 v3 : List (List UInt8)} {v4 : Int} (hl : v3.length ≤ 4000000000000) :
    S_glossatorref3_SortStrings_j5 none a0 v3 v4 ((lowr (a0.getD v4.toNat default) v3).length : Int) = some (.inl (insS v3 (a0.getD v4.toNat default), W (v4 + 1))) := by
  generalize hx : a0.getD v4.toNat default = x
  have hle : (lowr x v3).length ≤ v3.length := by
    have := congrArg List.length (low_up x v3); rw [List.length_append] at this; omega
  unfold S_glossatorref3_SortStrings_j5 S_glossatorref3_SortStrings_j6
  simp only [hx, List.length_map, Int.toNat_natCast]
  rw [if_pos (by intro h; simp at h; omega)]
  by_cases hn : (lowr x v3).length = v3.length
  · have hu : uppr x v3 = [] := by rw [← low_drop, hn]; simp
    rw [if_pos (by simp [hn]), if_pos (by omega), if_pos (by omega), if_pos (by simp; omega), if_pos (by simp), if_pos (by simp; omega), low_take, low_drop, hu]
    unfold insS
    rw [hu]
    rfl
  · obtain ⟨h1, h2⟩ := scan_up (x := x) (l := v3) (by omega)
    have hg : v3.getD (lowr x v3).length default = v3[(lowr x v3).length]'(by omega) := getD_at (by omega)
    by_cases he : v3[(lowr x v3).length]'(by omega) = x
    · rw [if_neg (by rw [hg, he]; simp; omega)]
      unfold insS
      rw [h2]
      simp only [he, if_true]
    · rw [if_pos (by rw [hg]; simp [he]), if_pos (by omega), if_pos (by omega), if_pos (by simp; omega), if_pos (by simp), if_pos (by simp; omega), low_take, low_drop]
      have hi : insS v3 x = lowr x v3 ++ (x :: uppr x v3) := by
        unfold insS
        rw [h2]
        simp only [he, if_false]
      rw [hi]
      rfl
theorem ss_scan {a0 v3 : List (List UInt8)} {v4 : Int} (hl : v3.length ≤ 4000000000000) : ∀ (k i : Nat), i + k = (lowr (a0.getD v4.toNat default) v3).length →
    S_glossatorref3_SortStrings_l4 none a0 v3 v4 (i : Int) = some (.inl (insS v3 (a0.getD v4.toNat default), W (v4 + 1)))
  | 0, i, h => by
    have hi : i = (lowr (a0.getD v4.toNat default) v3).length := by omega
    unfold S_glossatorref3_SortStrings_l4
    rw [← ss_ins hl, hi]
    refine loopM_out ?_
    unfold S_glossatorref3_SortStrings_b4
    simp only [List.length_map, Int.toNat_natCast]
    rw [if_pos (by intro h; simp only [beq_iff_eq, decide_eq_true_eq] at h; omega), if_neg]
    rw [bytesLess_eq]
    by_cases hn : (lowr (a0.getD v4.toNat default) v3).length < v3.length
    · obtain ⟨h1, _⟩ := scan_up (x := a0.getD v4.toNat default) (l := v3) hn
      rw [getD_at hn]
      simp only [Bool.and_eq_true, decide_eq_true_eq]
      exact fun h => h1 h.2
    · simp only [Bool.and_eq_true, decide_eq_true_eq]
      exact fun h => hn (by omega)
  | k + 1, i, h => by
    obtain ⟨hi, hlt⟩ := scan_low (x := a0.getD v4.toNat default) (l := v3) (i := i) (by omega)
    unfold S_glossatorref3_SortStrings_l4
    rw [loopM_inl (s' := ((i + 1 : Nat) : Int)) ?_]
    · exact ss_scan hl k (i + 1) (by omega)
    · unfold S_glossatorref3_SortStrings_b4
      simp only [List.length_map, Int.toNat_natCast]
      rw [if_pos (by intro h; simp only [beq_iff_eq, decide_eq_true_eq] at h; omega), if_pos, Wi (by omega)]
      rw [bytesLess_eq, getD_at hi]
      simp only [Bool.and_eq_true, decide_eq_true_eq]
      exact ⟨by omega, hlt⟩
theorem ss_loop {a0 : List (List UInt8)} (ha : a0.length ≤ 4000000000000) : ∀ (k i : Nat) (v : List (List UInt8)), i + k = a0.length → v.length ≤ i →
    S_glossatorref3_SortStrings_l3 none a0 v (i : Int) = some ((a0.drop i).foldl insS v)
  | 0, i, v, h, hv => by
    have hi : i = a0.length := by omega
    subst hi
    unfold S_glossatorref3_SortStrings_l3
    rw [List.drop_length, List.foldl_nil]
    refine loopM_out ?_
    unfold S_glossatorref3_SortStrings_b3
    rw [if_neg (by simp)]
    rfl
  | k + 1, i, v, h, hv => by
    have hi : i < a0.length := by omega
    unfold S_glossatorref3_SortStrings_l3
    rw [loopM_inl (s' := (insS v a0[i], ((i + 1 : Nat) : Int))) ?_]
    · have := insS_len v a0[i]
      have ih := ss_loop ha k (i + 1) (insS v a0[i]) (by omega) (by omega)
      rw [List.drop_eq_getElem_cons hi, List.foldl_cons]
      exact ih
    · unfold S_glossatorref3_SortStrings_b3
      dsimp only
      rw [if_pos (by simp; omega), if_pos (by simp; omega)]
      have hs := ss_scan (a0 := a0) (v3 := v) (v4 := (i : Int)) (by omega) _ 0 (Nat.zero_add _)
      rw [Int.toNat_natCast, getD_at hi, Wi (by omega)] at hs
      exact hs
theorem ss_eq {a0 : List (List UInt8)} (ha : a0.length ≤ 4000000000000) : S_glossatorref3_SortStrings none a0 = some (sortS a0) := by
  have := ss_loop ha a0.length 0 [] (by omega) (by simp)
  rwa [List.drop_zero] at this

def cstep (v : Int) (c : UInt8) : Int := ((v.toNat ^^^ c.toNat : Nat) : Int) * 16777619 % 4294967296
theorem xor_lt32 {a b : Nat} (ha : a < 4294967296) (hb : b < 256) : a ^^^ b < 4294967296 := Nat.xor_lt_two_pow (n := 32) ha (by omega)
theorem cs1 {v : Int} (h0 : 0 ≤ v) (h1 : v < 4294967296) (c : UInt8) : IntKind.wrap .u32 ((ibits .xor .u32 v (IntKind.wrap .u32 (c.toNat : Int))) * 16777619) = cstep v c := by
  have hc : c.toNat < 256 := c.toNat_lt
  obtain ⟨n, rfl⟩ := Int.eq_ofNat_of_zero_le h0
  have hn : n < 4294967296 := by omega
  have hx := xor_lt32 hn hc
  have e1 : IntKind.wrap .u32 (c.toNat : Int) = (c.toNat : Int) := by rw [wrapU _ rfl]; simp [IntKind.bits]; omega
  have e2 : ibits .xor .u32 (n : Int) (c.toNat : Int) = ((n ^^^ c.toNat : Nat) : Int) := ibits_xor .u32 rfl (by simp only [IntKind.bits]; omega) (by simp only [IntKind.bits]; omega)
  rw [e1, e2, wrapU _ rfl]
  simp [cstep, IntKind.bits]
theorem cs2 {v : Int} (h0 : 0 ≤ v) (h1 : v < 4294967296) (c : UInt8) : Int.tmod (IntKind.wrap .u64 ((ibits .xor .u64 v (IntKind.wrap .u64 (c.toNat : Int))) * 16777619)) 4294967296 = cstep v c := by
  have hc : c.toNat < 256 := c.toNat_lt
  obtain ⟨n, rfl⟩ := Int.eq_ofNat_of_zero_le h0
  have hn : n < 4294967296 := by omega
  have hx := xor_lt32 hn hc
  have e1 : IntKind.wrap .u64 (c.toNat : Int) = (c.toNat : Int) := by rw [wrapU _ rfl]; simp [IntKind.bits]; omega
  have e2 : ibits .xor .u64 (n : Int) (c.toNat : Int) = ((n ^^^ c.toNat : Nat) : Int) := ibits_xor .u64 rfl (by simp only [IntKind.bits]; omega) (by simp only [IntKind.bits]; omega)
  rw [e1, e2, wrapU _ rfl]
  have h3 : ((n ^^^ c.toNat : Nat) : Int) * 16777619 % (2 ^ IntKind.bits .u64 : Int) = ((n ^^^ c.toNat : Nat) : Int) * 16777619 := by simp only [IntKind.bits]; omega
  rw [h3, Int.tmod_eq_emod_of_nonneg (by omega)]
  rfl
theorem cstep_in {v : Int} (h0 : 0 ≤ v) (h1 : v < 4294967296) (c : UInt8) : 0 ≤ cstep v c ∧ cstep v c < 4294967296 := by
  unfold cstep
  omega
theorem fold_in : ∀ (l : List UInt8) (v : Int), 0 ≤ v → v < 4294967296 → 0 ≤ l.foldl cstep v ∧ l.foldl cstep v < 4294967296
  | [], v, h0, h1 => ⟨h0, h1⟩
  | c :: l, v, h0, h1 => by
    obtain ⟨a, b⟩ := cstep_in h0 h1 c
    exact fold_in l _ a b
def csum (l : List UInt8) : Int := l.foldl cstep 2166136261
theorem sum1 {l : List UInt8} (hl : l.length ≤ 140737488351232) : S_journal_Checksum none l = some (csum l) := by
  have key : ∀ (k i : Nat) (v : Int), i + k = l.length → 0 ≤ v → v < 4294967296 → loopM none (fun (s : Int × Int) => S_journal_Checksum_b1 none l s.1 s.2) (v, (i : Int)) = some ((l.drop i).foldl cstep v) := by
    intro k
    induction k with
    | zero =>
      intro i v h h0 h1
      have : i = l.length := by omega
      subst this
      rw [loopM_out (x := some v) (by simp [S_journal_Checksum_b1, S_journal_Checksum_j1])]
      simp
    | succ k ih =>
      intro i v h h0 h1
      have hi : i < l.length := by omega
      obtain ⟨a, b⟩ := cstep_in h0 h1 (l.getD i 0)
      rw [loopM_inl (s' := (cstep v (l.getD i 0), ((i + 1 : Nat) : Int))) ?_, ih (i + 1) _ (by omega) a b]
      · rw [List.drop_eq_getElem_cons hi, List.foldl_cons]
        simp [List.getD_eq_getElem?_getD, hi]
      · have e : W ((i : Int) + 1) = ((i + 1 : Nat) : Int) := by rw [W_in (by unfold inR; omega)]; omega
        simp only [S_journal_Checksum_b1]
        rw [if_pos (by simpa using hi), if_pos (by omega), e, Int.toNat_natCast, cs1 h0 h1]
  have := key l.length 0 2166136261 (by omega) (by omega) (by omega)
  simpa [S_journal_Checksum, S_journal_Checksum_l1, csum] using this
theorem sum2 {l : List UInt8} (hl : l.length ≤ 140737488351232) : S_glossatorref3_Checksum none l = some (csum l) := by
  have key : ∀ (k i : Nat) (v : Int), i + k = l.length → 0 ≤ v → v < 4294967296 → loopM none (fun (s : Int × Int) => S_glossatorref3_Checksum_b1 none l s.1 s.2) (v, (i : Int)) = some ((l.drop i).foldl cstep v) := by
    intro k
    induction k with
    | zero =>
      intro i v h h0 h1
      have : i = l.length := by omega
      subst this
      have ew : IntKind.wrap .u32 v = v := by rw [wrapU _ rfl]; simp only [IntKind.bits]; omega
      rw [loopM_out (x := some v) (by simp [S_glossatorref3_Checksum_b1, S_glossatorref3_Checksum_j1, ew])]
      simp
    | succ k ih =>
      intro i v h h0 h1
      have hi : i < l.length := by omega
      obtain ⟨a, b⟩ := cstep_in h0 h1 (l.getD i 0)
      rw [loopM_inl (s' := (cstep v (l.getD i 0), ((i + 1 : Nat) : Int))) ?_, ih (i + 1) _ (by omega) a b]
      · rw [List.drop_eq_getElem_cons hi, List.foldl_cons]
        simp [List.getD_eq_getElem?_getD, hi]
      · have e : W ((i : Int) + 1) = ((i + 1 : Nat) : Int) := by rw [W_in (by unfold inR; omega)]; omega
        simp only [S_glossatorref3_Checksum_b1]
        rw [if_pos (by simpa using hi), if_pos (by omega), e, Int.toNat_natCast, cs2 h0 h1]
  have := key l.length 0 2166136261 (by omega) (by omega) (by omega)
  simpa [S_glossatorref3_Checksum, S_glossatorref3_Checksum_l1, csum] using this

def wbI (a0 : Int) : Bool := ((((decide (a0 ≥ 97)) && (decide (a0 ≤ 122))) || ((decide (a0 ≥ 65)) && (decide (a0 ≤ 90)))) || ((decide (a0 ≥ 48)) && (decide (a0 ≤ 57)))) || (a0 == 95)
def wb (c : UInt8) : Bool := wbI ((c.toNat : Nat) : Int)
def fin (cur : List UInt8) (acc : List (List UInt8)) : List (List UInt8) := if cur = [] then acc else acc ++ [cur]
def tk : List UInt8 → List (List UInt8) → List UInt8 → List (List UInt8)
  | cur, acc, [] => fin cur acc
  | cur, acc, c :: r => if wb c = true then tk (cur ++ [c]) acc r else tk [] (fin cur acc) r
theorem fin_len (cur : List UInt8) (acc : List (List UInt8)) : (fin cur acc).length ≤ acc.length + 1 := by unfold fin; split <;> simp
def wordsOf (t : List UInt8) : List (List UInt8) := (sortS (tk [] [] t)).take 400

abbrev En := G_QIndexEntry
abbrev Do := G_QDocument
def ie (e : En) : Bool → List En → List En
  | done, [] => if done = true then [] else [e]
  | done, x :: r => (if (!done && decide (¬ x.f_Name < e.f_Name)) = true then [e] else []) ++ ((if x.f_Name = e.f_Name then [] else [x]) ++ ie e (done || decide (¬ x.f_Name < e.f_Name)) r)
theorem ie_true {e : En} : ∀ {l : List En}, (∀ x ∈ l, x.f_Name ≠ e.f_Name) → ie e true l = l
  | [], _ => rfl
  | x :: l, h => by
    unfold ie
    rw [if_neg (by simp), if_neg (h x (List.mem_cons_self ..)), Bool.true_or, ie_true fun y hy => h y (List.mem_cons_of_mem _ hy)]
    rfl
theorem ie_asc {e : En} : ∀ {l : List En}, (∀ x ∈ l, x.f_Name ≠ e.f_Name) → (l.Pairwise fun x y => x.f_Name < y.f_Name) → (ie e false l).Perm (e :: l) ∧ ((ie e false l).Pairwise fun x y => x.f_Name < y.f_Name)
  | [], _, _ => ⟨List.Perm.refl _, List.pairwise_singleton ..⟩
  | x :: l, h, hp => by
    have hx := h x (List.mem_cons_self ..)
    have hl : ∀ y ∈ l, y.f_Name ≠ e.f_Name := fun y hy => h y (List.mem_cons_of_mem _ hy)
    rw [List.pairwise_cons] at hp
    unfold ie
    by_cases hlt : x.f_Name < e.f_Name
    · obtain ⟨i1, i2⟩ := ie_asc hl hp.2
      rw [if_neg (by simpa using hlt), if_neg hx, show (false || decide (¬ x.f_Name < e.f_Name)) = false by simpa using hlt]
      refine ⟨(i1.cons x).trans (List.Perm.swap ..), ?_⟩
      show (x :: ie e false l).Pairwise _
      rw [List.pairwise_cons]
      refine ⟨fun y hy => ?_, i2⟩
      rcases List.mem_cons.1 (i1.mem_iff.1 hy) with rfl | hy
      · exact hlt
      · exact hp.1 y hy
    · have hgt : e.f_Name < x.f_Name := List.not_le.1 fun h2 => hx (List.le_antisymm h2 (List.not_lt.1 hlt))
      rw [if_pos (by simpa using hlt), if_neg hx, show (false || decide (¬ x.f_Name < e.f_Name)) = true by simpa using hlt, ie_true hl]
      refine ⟨List.Perm.refl _, ?_⟩
      show (e :: x :: l).Pairwise _
      rw [List.pairwise_cons]
      refine ⟨fun y hy => ?_, List.pairwise_cons.2 hp⟩
      rcases List.mem_cons.1 hy with rfl | hy
      · exact hgt
      · exact List.lt_trans hgt (hp.1 y hy)
def entryOf (d : Do) : En := ⟨d.f_Name, csum d.f_Text, wordsOf d.f_Text⟩
theorem bld_ok : ∀ (ds : List Do) (idx : List En), (idx.Pairwise fun x y => x.f_Name < y.f_Name) → (∀ d ∈ ds, ∀ x ∈ idx, x.f_Name ≠ d.f_Name) → (ds.map (·.f_Name)).Nodup →
    (ds.foldl (fun idx d => ie (entryOf d) false idx) idx).Perm (idx ++ ds.map entryOf) ∧ ((ds.foldl (fun idx d => ie (entryOf d) false idx) idx).Pairwise fun x y => x.f_Name < y.f_Name)
  | [], idx, h, _, _ => ⟨by simp, h⟩
  | d :: ds, idx, h, h1, h2 => by
    simp only [List.map_cons, List.nodup_cons] at h2
    obtain ⟨p1, p2⟩ := ie_asc (e := entryOf d) (l := idx) (fun x hx => h1 d (List.mem_cons_self ..) x hx) h
    obtain ⟨q1, q2⟩ := bld_ok ds (ie (entryOf d) false idx) p2 (fun d' hd x hx => by
      rcases List.mem_cons.1 (p1.mem_iff.1 hx) with rfl | hx
      · exact fun e => h2.1 (List.mem_map.2 ⟨d', hd, e.symm⟩)
      · exact h1 d' (List.mem_cons_of_mem _ hd) x hx) h2.2
    refine ⟨q1.trans ?_, q2⟩
    rw [List.map_cons]
    refine (p1.append_right _).trans ?_
    rw [List.cons_append]
    exact List.perm_middle.symm
def bld (ds : List Do) : List En := ds.foldl (fun idx d => ie (entryOf d) false idx) []
end Go.Proofs.Yteepckliibfnkaa
