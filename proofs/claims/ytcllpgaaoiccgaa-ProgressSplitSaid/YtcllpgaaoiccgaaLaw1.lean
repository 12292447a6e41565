/-
  Own text Law1 of this claim: what functions of the given program compute, in plain Lean, and the proof; no condition.
-/
import Derived.Test.YtcllpgaaoiccgaaGen
import Derived.Test.YtcllpgaaoiccgaaFxP
namespace Go.Proofs.Ytcllpgaaoiccgaa
open Go.Fx
set_option linter.unusedVariables false
theorem Wi {i : Nat} (h : i ≤ 4611686018427387904) : W ((i : Int) + 1) = ((i + 1 : Nat) : Int) := by rw [W_in (by unfold inR; omega)]; omega
theorem getD_at {α : Type} [Inhabited α] {l : List α} {i : Nat} (h : i < l.length) : l.getD i default = l[i] := by
  simp [List.getD_eq_getElem?_getD, h]
/-- the chunks of a list, from number s on; fl: whether the last one is marked -/
def Ck (fl : Bool) (tok : Int) (n : Nat) : Nat → Nat → List Int → List G_QChunk
  | 0, _, _ => []
  | k + 1, s, l => ⟨tok, s, fl && decide (l.drop n = []), l.take n⟩ :: (if l.drop n = [] then [] else Ck fl tok n k (s + 1) (l.drop n))
theorem clone_eq (l : List Int) (h : l.length ≤ 1000) : S_slices_Clone_intE none l = some l := by
  cases l with
  | nil => rfl
  | cons x r =>
    show S_slices_Clone_int none (x :: r) = some (x :: r)
    unfold S_slices_Clone_int
    rw [if_pos (by simp), if_pos (by simp at h ⊢; omega)]
    rfl
theorem round_eq (tok : Int) (acc : List G_QChunk) (x : List Int) (h : x.length ≤ 1000) (ha : acc.length ≤ 100000) :
    (S_progress_Split_roundc none tok acc x).map (fun o => (o.1, o.2)) = some (true, acc ++ [⟨tok, acc.length, false, x⟩]) := by
  unfold S_progress_Split_roundc
  rw [clone_eq x h]
  simp only [Option.bind_some]
  rw [if_pos (by simp; omega)]
  rfl
theorem chunk_loop {tok n : Int} {l : List Int} (hl : l.length ≤ 1000) (hn : 1 ≤ n) (hn2 : n ≤ 9223372036854775807) : ∀ (k i : Nat) (acc : List G_QChunk), i < l.length → l.length ≤ i + k → acc.length ≤ i → (i = 0 ∨ n ≤ 1000) →
    S_slices_Chunk_int_1_l1 (fun (s : (List G_QChunk)) (x : (List Int)) => (S_progress_Split_roundc none tok s x).map fun o => (o.1, o.2)) none l n (i : Int) acc = some (acc ++ Ck false tok n.toNat k acc.length (l.drop i))
  | 0, i, acc, h, h2, h3, h4 => by omega
  | k + 1, i, acc, h, h2, h3, h4 => by
    obtain ⟨e, he1, he2⟩ : ∃ e : Int, e = (if (((l.drop i).map e_i64).length : Int) < n then (((l.drop i).map e_i64).length : Int) else n) ∧ e = ((min (l.length - i) n.toNat : Nat) : Int) := by
      refine ⟨_, rfl, ?_⟩
      simp only [List.length_map, List.length_drop]
      split <;> omega
    have hW : W ((i : Int) + e) = (i : Int) + e := W_in (by unfold inR; omega)
    have ht : (l.take ((i : Int) + e).toNat).drop i = (l.drop i).take n.toNat := by
      rw [List.drop_take, he2]
      have : ((i : Int) + ((min (l.length - i) n.toNat : Nat) : Int)).toNat - i = min (l.length - i) n.toNat := by omega
      rw [this, List.take_eq_take_iff]
      simp only [List.length_drop]
      omega
    have hb : S_slices_Chunk_int_1_b1 (fun (s : (List G_QChunk)) (x : (List Int)) => (S_progress_Split_roundc none tok s x).map fun o => (o.1, o.2)) none l n (i : Int) acc =
        some (.inl (W ((i : Int) + n), acc ++ [⟨tok, acc.length, false, (l.drop i).take n.toNat⟩])) := by
      unfold S_slices_Chunk_int_1_b1
      simp only [Int.toNat_natCast]
      rw [← he1, hW, ht]
      rw [if_pos (by simpa using h), if_pos (by simp; omega), if_pos (by simp; omega), round_eq _ _ _ (by simp; omega) (by omega)]
      simp
    unfold S_slices_Chunk_int_1_l1
    rw [loopM_inl (s' := (W ((i : Int) + n), acc ++ [⟨tok, acc.length, false, (l.drop i).take n.toNat⟩])) hb]
    by_cases hr : l.length ≤ i + n.toNat
    · have hnil : (l.drop i).drop n.toNat = [] := by rw [List.drop_drop, List.drop_eq_nil_iff]; omega
      rw [Ck, if_pos hnil]
      refine loopM_out ?_
      unfold S_slices_Chunk_int_1_b1
      have hge : ¬ (W ((i : Int) + n) < (l.length : Int)) := by
        by_cases hi0 : i = 0
        · subst hi0
          rw [show ((0 : Nat) : Int) + n = n by omega, W_in (by unfold inR; omega)]
          omega
        · rw [W_in (by unfold inR; omega)]; omega
      dsimp only
      rw [if_neg (by simpa using hge)]
      simp
    · have hWn : W ((i : Int) + n) = ((i + n.toNat : Nat) : Int) := by rw [W_in (by unfold inR; omega)]; omega
      have ih := chunk_loop (tok := tok) hl hn hn2 k (i + n.toNat) (acc ++ [⟨tok, acc.length, false, (l.drop i).take n.toNat⟩]) (by omega) (by omega) (by simp; omega) (.inr (by omega))
      unfold S_slices_Chunk_int_1_l1 at ih
      rw [hWn, ih, Ck, if_neg (by rw [List.drop_drop, List.drop_eq_nil_iff]; omega)]
      simp [List.drop_drop]
end Go.Proofs.Ytcllpgaaoiccgaa
