/-
  Own text Law3 of this claim: what functions of the given program compute, in plain Lean, and the proof; no condition.
-/
import Derived.Test.YteepckliibfnkaaLaw2
namespace Go.Proofs.Yteepckliibfnkaa
open Go.Fx Go.Sort
set_option linter.unusedVariables false

def big (d : Do) : Bool := (decide ((d.f_Name.length : Int) > 60)) || (decide ((d.f_Text.length : Int) > 2000))
def emp (d : Do) : Bool := d.f_Name == ([] : List UInt8)
def dq (ds : List Do) : Nat → Nat → Bool
  | 0, _ => false
  | k + 1, i => ((ds.take i).any fun x => x.f_Name == (ds.getD i default).f_Name) || dq ds k (i + 1)
def chk (ds : List Do) : Int := if (decide ((ds.length : Int) > 20) || ds.any big) = true then 2 else if ds.any emp = true then 3 else if dq ds ds.length 0 = true then 6 else 0
theorem cf_idx {g : Unit → Do → Option (Bool × Unit)} {f : Do → Bool} (hg : ∀ x, g () x = some (f x, ())) {l : List Do} (hl : l.length ≤ 4000000000000) : ∀ (k i : Nat), i + k = l.length →
    ∃ r : Int, S_slices_IndexFunc_api_QDocument_l1 g none l (i : Int) () = some (r, ()) ∧ decide (r ≥ 0) = (l.drop i).any f
  | 0, i, h => by
    have hi : i = l.length := by omega
    subst hi
    refine ⟨-1, ?_, by rw [List.drop_length]; rfl⟩
    unfold S_slices_IndexFunc_api_QDocument_l1
    refine loopM_out ?_
    unfold S_slices_IndexFunc_api_QDocument_b1
    rw [if_neg (by simp)]
    rfl
  | k + 1, i, h => by
    have hi : i < l.length := by omega
    unfold S_slices_IndexFunc_api_QDocument_l1
    rw [List.drop_eq_getElem_cons hi, List.any_cons]
    have hgx : g () (G_QDocument.mk (l[i].f_Name) (l[i].f_Version) (l[i].f_Text)) = some (f l[i], ()) := hg l[i]
    cases hv : f l[i] with
    | true =>
      refine ⟨i, ?_, by simp⟩
      refine loopM_out ?_
      unfold S_slices_IndexFunc_api_QDocument_b1
      simp only [List.length_map, Int.toNat_natCast, getD_at hi]
      rw [if_pos (by simp; omega), if_pos (by omega), hgx, Option.bind_some, hv, if_pos rfl]
    | false =>
      obtain ⟨r, h1, h2⟩ := cf_idx hg hl k (i + 1) (by omega)
      refine ⟨r, ?_, by rw [Bool.false_or]; exact h2⟩
      rw [loopM_inl (s' := (((i + 1 : Nat) : Int), ())) ?_]
      · exact h1
      · unfold S_slices_IndexFunc_api_QDocument_b1
        simp only [List.length_map, Int.toNat_natCast, getD_at hi]
        rw [if_pos (by simp; omega), if_pos (by omega), hgx, Option.bind_some, hv, if_neg (by simp), Wi (by omega)]
theorem cf_any {g : Unit → Do → Option (Bool × Unit)} {f : Do → Bool} (hg : ∀ x, g () x = some (f x, ())) {l : List Do} (hl : l.length ≤ 4000000000000) : S_slices_ContainsFunc_api_QDocument g none l () = some (l.any f, ()) := by
  unfold S_slices_ContainsFunc_api_QDocument S_slices_IndexFunc_api_QDocument
  obtain ⟨r, h1, h2⟩ := cf_idx hg hl l.length 0 (by omega)
  rw [show (0 : Int) = ((0 : Nat) : Int) from rfl, h1, Option.bind_some]
  rw [List.drop_zero] at h2
  exact congrArg (fun b => some (b, ())) h2
theorem va_dup {ds : List Do} (hl : ds.length ≤ 4000000000000) : ∀ (k i : Nat), i + k = ds.length → S_wordindex_validateDocuments_l1 none ds (i : Int) = some (if dq ds k i = true then 6 else 0)
  | 0, i, h => by
    have hi : i = ds.length := by omega
    subst hi
    unfold S_wordindex_validateDocuments_l1
    refine loopM_out ?_
    unfold S_wordindex_validateDocuments_b1
    rw [if_neg (by simp)]
    rfl
  | k + 1, i, h => by
    have hi : i < ds.length := by omega
    have hq : dq ds (k + 1) i = (((ds.take i).any fun x => x.f_Name == ds[i].f_Name) || dq ds k (i + 1)) := by rw [← getD_at (l := ds) hi]; rfl
    have hc := cf_any (g := fun (s : Unit) (x : G_QDocument) => (S_wordindex_validateDocuments_3c none (ds[i].f_Name) (ds[i].f_Version) (ds[i].f_Text) x).map fun o => (o, ())) (f := fun x => x.f_Name == ds[i].f_Name) (fun x => rfl) (l := ds.take i) (by rw [List.length_take]; omega)
    unfold S_wordindex_validateDocuments_l1
    rw [hq]
    cases hv : (ds.take i).any fun x => x.f_Name == ds[i].f_Name with
    | true =>
      refine loopM_out ?_
      unfold S_wordindex_validateDocuments_b1
      simp only [List.length_map, Int.toNat_natCast, getD_at hi]
      rw [if_pos (by simp; omega), if_pos (by omega), if_pos (by omega), hc, Option.bind_some, hv, if_pos rfl]
      rfl
    | false =>
      rw [loopM_inl (s' := ((i + 1 : Nat) : Int)) ?_]
      · rw [Bool.false_or]; exact va_dup hl k (i + 1) (by omega)
      · unfold S_wordindex_validateDocuments_b1
        simp only [List.length_map, Int.toNat_natCast, getD_at hi]
        rw [if_pos (by simp; omega), if_pos (by omega), if_pos (by omega), hc, Option.bind_some, hv, if_neg (by simp), Wi (by omega)]
theorem validate_eq {ds : List Do} (hl : ds.length ≤ 4000000000000) : S_wordindex_validateDocuments none ds = some (chk ds) := by
  unfold S_wordindex_validateDocuments chk
  have h1 := cf_any (g := fun (s : Unit) (x : G_QDocument) => (S_wordindex_validateDocuments_1c none x).map fun o => (o, ())) (f := big) (fun x => rfl) hl
  have h2 := cf_any (g := fun (s : Unit) (x : G_QDocument) => (S_wordindex_validateDocuments_2c none x).map fun o => (o, ())) (f := emp) (fun x => rfl) hl
  simp only [List.length_map]
  by_cases hc : (ds.length : Int) > 20
  · rw [if_neg (by simp; omega), Option.bind_some, if_pos (by simp; omega), if_pos (by simp; omega)]
  · rw [if_pos (by simp; omega), h1, Option.bind_some]
    by_cases hb : (decide ((ds.length : Int) > 20) || ds.any big) = true
    · rw [if_pos hb, if_pos hb]
    · rw [if_neg hb, if_neg hb, h2, Option.bind_some]
      by_cases he : ds.any emp = true
      · rw [if_pos he, if_pos he]
      · rw [if_neg he, if_neg he]
        exact va_dup hl ds.length 0 (by omega)
theorem rc_in {ds : List Do} (hl : ds.length ≤ 4000000000000) {i : Nat} (hi : i < ds.length) {v3 v4 : Bool} : ∀ (k j : Nat) (v : Bool), j + k = i →
    S_glossatorref3_CheckDocuments_l4 none ds v3 v4 (i : Int) v (j : Int) = S_glossatorref3_CheckDocuments_j3 none ds v3 v4 (i : Int) (v || (((ds.take i).drop j).any fun x => x.f_Name == ds[i].f_Name))
  | 0, j, v, h => by
    have hlen : (ds.take i).length = i := by rw [List.length_take]; omega
    unfold S_glossatorref3_CheckDocuments_l4
    rw [show (ds.take i).drop j = [] from List.drop_eq_nil_of_le (by omega), List.any_nil, Bool.or_false]
    refine loopM_out ?_
    unfold S_glossatorref3_CheckDocuments_b4
    simp only [Int.toNat_natCast, List.length_map, hlen]
    rw [if_neg (by simp; omega)]
  | k + 1, j, v, h => by
    have hlen : (ds.take i).length = i := by rw [List.length_take]; omega
    have hj : j < (ds.take i).length := by omega
    unfold S_glossatorref3_CheckDocuments_l4
    rw [List.drop_eq_getElem_cons hj, List.any_cons, ← Bool.or_assoc, loopM_inl (s' := (v || ((ds.take i)[j].f_Name == ds[i].f_Name), ((j + 1 : Nat) : Int))) ?_]
    · exact rc_in hl hi k (j + 1) _ (by omega)
    · unfold S_glossatorref3_CheckDocuments_b4
      simp only [Int.toNat_natCast, List.length_map]
      rw [if_pos (by simp; omega), if_pos (by omega), getD_at hj, getD_at hi, Wi (by omega)]
theorem rc_loop {ds : List Do} (hl : ds.length ≤ 4000000000000) : ∀ (k i : Nat) (v3 v4 v5 : Bool), i + k = ds.length →
    S_glossatorref3_CheckDocuments_l3 none ds v3 v4 v5 (i : Int) = S_glossatorref3_CheckDocuments_j4 none (v3 || (ds.drop i).any big) (v4 || (ds.drop i).any emp) (v5 || dq ds k i)
  | 0, i, v3, v4, v5, h => by
    have hi : i = ds.length := by omega
    subst hi
    unfold S_glossatorref3_CheckDocuments_l3
    rw [List.drop_length, List.any_nil, List.any_nil, Bool.or_false, Bool.or_false, show (v5 || dq ds 0 ds.length) = v5 from Bool.or_false _]
    refine loopM_out ?_
    unfold S_glossatorref3_CheckDocuments_b3
    rw [if_neg (by simp)]
  | k + 1, i, v3, v4, v5, h => by
    have hi : i < ds.length := by omega
    have hq : dq ds (k + 1) i = (((ds.take i).any fun x => x.f_Name == ds[i].f_Name) || dq ds k (i + 1)) := by rw [← getD_at (l := ds) hi]; rfl
    unfold S_glossatorref3_CheckDocuments_l3
    rw [List.drop_eq_getElem_cons hi, List.any_cons, List.any_cons, hq, ← Bool.or_assoc, ← Bool.or_assoc, ← Bool.or_assoc, loopM_inl (s' := (v3 || big ds[i], v4 || emp ds[i], v5 || (ds.take i).any (fun x => x.f_Name == ds[i].f_Name), ((i + 1 : Nat) : Int))) ?_]
    · exact rc_loop hl k (i + 1) _ _ _ (by omega)
    · unfold S_glossatorref3_CheckDocuments_b3
      simp only [List.length_map]
      rw [if_pos (by simp; omega), if_pos (by omega), if_pos (by omega)]
      have hin := rc_in hl hi (v3 := v3) (v4 := v4) i 0 v5 (by omega)
      rw [List.drop_zero] at hin
      refine hin.trans ?_
      unfold S_glossatorref3_CheckDocuments_j3 big emp
      simp only [Int.toNat_natCast, getD_at hi]
      rw [Wi (by omega), Bool.or_assoc]
theorem check_eq {ds : List Do} (hl : ds.length ≤ 4000000000000) : S_glossatorref3_CheckDocuments none ds = some (chk ds) := by
  unfold S_glossatorref3_CheckDocuments
  have h := rc_loop hl ds.length 0 (decide ((ds.length : Int) > 20)) false false (by omega)
  rw [List.drop_zero, Bool.false_or, Bool.false_or] at h
  simp only [List.length_map]
  refine h.trans ?_
  unfold S_glossatorref3_CheckDocuments_j4 chk
  split
  · rfl
  · split
    · rfl
    · split <;> rfl
theorem chk_ok {ds : List Do} (h : chk ds = 0) : ds.length ≤ 20 ∧ (∀ d ∈ ds, d.f_Text.length ≤ 2000) ∧ (ds.map (·.f_Name)).Nodup := by
  unfold chk at h
  split at h
  · cases h
  · rename_i h1
    split at h
    · cases h
    · split at h
      · cases h
      · rename_i h3
        simp only [Bool.or_eq_true, decide_eq_true_eq, not_or] at h1
        refine ⟨by omega, fun d hd => ?_, ?_⟩
        · have h4 : ¬ big d = true := fun hb => h1.2 (List.any_eq_true.2 ⟨d, hd, hb⟩)
          unfold big at h4
          simp only [Bool.or_eq_true, decide_eq_true_eq, not_or] at h4
          omega
        · have key : ∀ (k i : Nat), i + k = ds.length → dq ds k i = false → ∀ (q p : Nat) (hq : q < ds.length), i ≤ q → (hpq : p < q) → (ds[p]'(by omega)).f_Name ≠ (ds[q]'hq).f_Name := by
            intro k
            induction k with
            | zero => intro i hi _ q p hq h5 h6; omega
            | succ k ih =>
              intro i hi hf q p hq h5 h6
              have hil : i < ds.length := by omega
              have hqq : dq ds (k + 1) i = (((ds.take i).any fun x => x.f_Name == ds[i].f_Name) || dq ds k (i + 1)) := by rw [← getD_at (l := ds) hil]; rfl
              rw [hqq, Bool.or_eq_false_iff] at hf
              by_cases e : i = q
              · subst e
                intro he
                have := List.any_eq_false.1 hf.1 (ds[p]'(by omega)) (List.mem_take_iff_getElem.2 ⟨p, by omega, rfl⟩)
                simp only [beq_iff_eq] at this
                exact this he
              · exact ih (i + 1) (by omega) hf.2 q p hq (by omega) h6
          have hk := key ds.length 0 (by omega) (by simpa using h3)
          refine List.pairwise_map.2 (List.pairwise_iff_getElem.2 fun p q hp hq hpq => hk q p hq (Nat.zero_le _) hpq)
end Go.Proofs.Yteepckliibfnkaa
