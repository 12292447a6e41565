/-
  Own text Law5 of this claim: what functions of the given program compute, in plain Lean, and the proof; no condition.
-/
import Derived.Test.YtcllpgaaoiccgaaLaw4
import Derived.KernelRfl
namespace Go.Proofs.Ytcllpgaaoiccgaa
open Go.Fx
set_option linter.unusedVariables false
theorem example_ok : S_glossatorlaw3_chunkExample (some 4096) = some true := by kernel_rfl
theorem asm_len {E : List (Int × G_QChunk)} (hV : V E) : ∀ (k n : Nat) (acc : List Int), (asm E k n acc).1.length ≤ acc.length + 1000 * k
  | 0, _, _ => by simp [asm]
  | k + 1, n, acc => by
    unfold asm
    cases hl : lk q_i64 E (n : Int) with
    | none => simp
    | some c =>
      have := hV.hi _ (lk_mem hl)
      simp only at this ⊢
      split
      · simp only [List.length_append]; omega
      · have := asm_len hV k (n + 1) (acc ++ c.f_Items)
        rw [List.length_append] at this
        omega
theorem mis_len (E : List (Int × G_QChunk)) : ∀ (k n : Nat) (acc : List Int), (mis E k n acc).length ≤ acc.length + k
  | 0, _, _ => by simp [mis]
  | k + 1, n, acc => by
    unfold mis
    have := mis_len E k (n + 1) (if (lk q_i64 E (n : Int)).isSome then acc else acc ++ [(n : Int)])
    split at this
    · rename_i h; rw [if_pos h]; omega
    · rename_i h; rw [if_neg h]; rw [List.length_append, List.length_singleton] at this; omega
theorem end_ok {st : List G_QChunk} {S : SAsm} (h : Rel st S) (hst : st.length ≤ 100000) (t : Int) : S_glossatorlaw3_ProgressAssembler_j1 none t st S = some true := by
  have hV := h.val t
  have hlt := lar_lt hV
  have l1 := asm_len hV 1001 0 []
  have l2 := mis_len (inn t st) (larE (inn t st) (-1)).toNat 0 []
  simp only [List.length_nil] at l1 l2
  unfold S_glossatorlaw3_ProgressAssembler_j1
  rw [result_both h, Option.bind_some, asm_eq hst (fun e he => ⟨(hV.h0 e he).2, hV.hi e he⟩), Option.bind_some, example_ok, Option.bind_some]
  simp only [beq_self_eq_true, Bool.and_self, if_true]
  rw [eqR (by omega), Option.bind_some]
  simp only [decide_true, beq_self_eq_true, Bool.and_self, if_true]
  rw [missing_both h, Option.bind_some, mis_eq hst (by omega), Option.bind_some, eqR (by omega), Option.bind_some]
  simp
theorem main_loop {a0 : List G_QChunk} (t : Int) {N : Nat} (hN : N ≤ 30) (hNl : N ≤ a0.length) (he : (if 30 < ((a0.map e_QChunk).length : Int) then 30 else ((a0.map e_QChunk).length : Int)) = (N : Int)) : ∀ (k i : Nat) (st : List G_QChunk) (S : SAsm), i + k = N → Rel st S → st.length ≤ i →
    S_glossatorlaw3_ProgressAssembler_l1 none a0 t st (i : Int) S = some true
  | 0, i, st, S, h, hR, hl => by
    unfold S_glossatorlaw3_ProgressAssembler_l1
    refine loopM_out ?_
    unfold S_glossatorlaw3_ProgressAssembler_b1
    simp only [he]
    rw [if_neg (by simp; omega), end_ok hR (by omega)]
  | k + 1, i, st, S, h, hR, hl => by
    have hi : i < (a0.take N).length := by simp; omega
    obtain ⟨S', h1, h2⟩ := add_both hR (a0.take N)[i]
    have hI : ∀ s ∈ st, s.f_Items.length ≤ 100000 := fun s hs => by
      have := (hR.val s.f_Token).hi (s.f_Seq, s) (inn_mem.2 ⟨hs, rfl, rfl⟩)
      simp only at this
      omega
    have hb : S_glossatorlaw3_ProgressAssembler_b1 none a0 t st (i : Int) S = some (.inl ((refAdd st (a0.take N)[i]).1, ((i + 1 : Nat) : Int), S')) := by
      unfold S_glossatorlaw3_ProgressAssembler_b1
      simp only [he, Int.toNat_natCast, getD_at hi]
      rw [if_pos (by simp; omega), if_pos (by simp; omega)]
      rw [show (G_QChunk.mk (a0.take N)[i].f_Token (a0.take N)[i].f_Seq (a0.take N)[i].f_Last (a0.take N)[i].f_Items) = (a0.take N)[i] from rfl]
      rw [h1, Option.bind_some, add_eq (by omega) hI, Option.bind_some]
      rw [if_neg (by simp), Wi (by omega)]
    have hlen : (refAdd st (a0.take N)[i]).1.length ≤ i + 1 := by
      unfold refAdd
      split
      · simp only; omega
      · split
        · simp only; omega
        · split
          · simp only; omega
          · simp only [List.length_append, List.length_singleton]; omega
    unfold S_glossatorlaw3_ProgressAssembler_l1
    rw [loopM_inl hb]
    exact main_loop t hN hNl he k (i + 1) _ S' (by omega) h2 hlen
theorem law_asm (a0 : List G_QChunk) (t : Int) : S_glossatorlaw3_ProgressAssembler none a0 t = some true := by
  unfold S_glossatorlaw3_ProgressAssembler
  rw [example_ok, Option.bind_some, if_neg (by simp)]
  unfold S_progress_NewAssembler
  rw [Option.bind_some]
  have he : (if 30 < ((a0.map e_QChunk).length : Int) then 30 else ((a0.map e_QChunk).length : Int)) = ((min 30 a0.length : Nat) : Int) := by
    simp only [List.length_map]
    split <;> omega
  rw [if_pos (by rw [he]; simp only [List.length_map]; omega)]
  exact main_loop t (by omega) (by omega) he _ 0 [] [] (Nat.zero_add _) Rel.nil (by simp)
end Go.Proofs.Ytcllpgaaoiccgaa
