/-
  Own text Law6 of this claim: what functions of the given program compute, in plain Lean, and the proof; no condition.
-/
import Derived.Test.YtmbihhbfdoabbaaLaw5
import Derived.Test.YtmbihhbfdoabbaaLaw2
namespace Go.Proofs.Ytmbihhbfdoabbaa
open Go.Fx Go.Sort
set_option linter.unusedVariables false

/-! ### one frame -/
theorem Wn {n : Nat} (h : n ≤ 1000000) : W (n : Int) = n := W_in (by unfold inR; omega)
noncomputable def chk (r : G_QRecord) : Int := (S_journal_validate none r).getD 0
theorem chk1 (r : G_QRecord) : S_journal_validate none r = some (chk r) := by
  unfold chk S_journal_validate
  split
  · rfl
  · split <;> rfl
theorem chk2 (r : G_QRecord) : S_glossatorref3_CheckRecord none r = some (chk r) := chk1 r
theorem chk_le {r : G_QRecord} (h : chk r = 0) : r.f_Key.length ≤ 60 ∧ r.f_Value.length ≤ 3000 := by
  unfold chk S_journal_validate at h
  split at h
  · simp at h
  · split at h
    · simp at h
    · rename_i h2
      simp at h2
      omega
def b0 (P : List UInt8) : Nat := (P.getD 0 0).toNat
def b1 (P : List UInt8) : Nat := (P.getD 1 0).toNat
theorem b0_lt (P : List UInt8) : b0 P < 256 := UInt8.toNat_lt _
theorem b1_lt (P : List UInt8) : b1 P < 256 := UInt8.toNat_lt _
def recd (P : List UInt8) : G_QRecord := ⟨(P.take (2 + b1 P)).drop 2, P.drop (2 + b1 P), ((b0 P : Nat) : Int) == 1⟩
def bad (P : List UInt8) : Bool := P.length < 2 || 1 < b0 P || P.length < 2 + b1 P
def fsz (D : List UInt8) : Nat := 6 + (256 * b0 D + b1 D)
def pl (D : List UInt8) : List UInt8 := (D.take (fsz D)).drop 6
noncomputable def nx (D : List UInt8) : G_QRecord × Nat × Int :=
  if D.length < 6 then (nul, 0, 0) else if D.length < fsz D then (nul, 0, 0)
  else if Fr (pl D) = D.take (fsz D) then (if bad (pl D) = true then (nul, 0, 3) else if chk (recd (pl D)) = 0 then (recd (pl D), fsz D, 0) else (nul, 0, 3))
  else (nul, 0, 13)
theorem tb0 (P : List UInt8) : (P.getD 0 0).toNat = b0 P := rfl
theorem tb1 (P : List UInt8) : (P.getD 1 0).toNat = b1 P := rfl
theorem z0 : (0 : Int).toNat = 0 := rfl
theorem z1 : (1 : Int).toNat = 1 := rfl
theorem z2 : (2 : Int).toNat = 2 := rfl
theorem z6 : (6 : Int).toNat = 6 := rfl
theorem pl_len {D : List UInt8} (h : ¬ D.length < fsz D) : (pl D).length = 256 * b0 D + b1 D := by
  unfold pl
  rw [List.length_drop, List.length_take]
  unfold fsz at *
  omega
theorem parsed {P : List UInt8} (hP : P.length ≤ 4000) : S_journal_parse none P = some (if bad P = true then (nul, false) else (recd P, chk (recd P) == 0)) := by
  have h0 := b0_lt P
  have h1 := b1_lt P
  have hK : W ((2 : Int) + W (((b1 P : Nat) : Int))) = ((2 + b1 P : Nat) : Int) := by
    rw [Wn (by omega), show (2 : Int) + (b1 P : Nat) = ((2 + b1 P : Nat) : Int) by omega, Wn (by omega)]
  unfold S_journal_parse
  simp only [z0, z1, z2]
  simp only [tb0, tb1, hK, Int.toNat_natCast, List.take_length]
  by_cases hb : bad P = true
  · have hb' := hb
    simp only [bad, Bool.or_eq_true, decide_eq_true_eq] at hb'
    rw [if_pos (by simp; omega), if_pos (by simp; omega), if_pos (by simp; omega), if_pos hb]
    rfl
  · have hb' := hb
    simp only [bad, Bool.or_eq_true, decide_eq_true_eq, not_or, Nat.not_lt] at hb'
    rw [if_pos (by simp; omega), if_pos (by simp; omega), if_neg (by simp; omega), if_neg hb, if_pos (by omega), if_pos (by omega), if_pos (by omega), if_pos (by omega)]
    rw [show (G_QRecord.mk ((P.take (2 + b1 P)).drop 2) (P.drop (2 + b1 P)) (((b0 P : Nat) : Int) == 1)) = recd P from rfl, chk1]
    rfl
theorem hdr_pl {D : List UInt8} (h6 : ¬ D.length < 6) (h : ¬ D.length < fsz D) : hdr (pl D) = D.take 2 := by
  have h0 := b0_lt D
  have h1 := b1_lt D
  unfold hdr
  rw [pl_len h, p8]
  have e1 : (((256 * b0 D + b1 D : Nat) : Int)).fdiv 256 = ((b0 D : Nat) : Int) := by
    rw [Int.fdiv_eq_ediv_of_nonneg _ (by omega)]; omega
  rw [e1]
  have e2 : IntKind.wrap .u8 ((b0 D : Nat) : Int) = ((b0 D : Nat) : Int) := by rw [wrapU _ rfl]; simp only [IntKind.bits]; omega
  have e3 : IntKind.wrap .u8 (((256 * b0 D + b1 D : Nat) : Int)) = ((b1 D : Nat) : Int) := by rw [wrapU _ rfl]; simp only [IntKind.bits]; omega
  rw [e2, e3]
  match D, h6 with
  | a :: b :: D', _ =>
    simp only [List.map_cons, List.map_nil, List.take_succ_cons, List.take_zero, b0, b1, List.getD_cons_zero, List.getD_cons_succ]
    rw [show toU8 ((a.toNat : Nat) : Int) = a by unfold toU8; simp, show toU8 ((b.toNat : Nat) : Int) = b by unfold toU8; simp]
  | [_], h => exact absurd (by simp) h
  | [], h => exact absurd (by simp) h
theorem frame_iff {D : List UInt8} (h6 : ¬ D.length < 6) (h : ¬ D.length < fsz D) : Fr (pl D) = D.take (fsz D) ↔ num (csum (D.take 2 ++ pl D)) = (D.take 6).drop 2 := by
  have e : D.take (fsz D) = (D.take 2 ++ (D.take 6).drop 2) ++ pl D := by
    have a1 : D.take 6 = D.take 2 ++ (D.take 6).drop 2 := by
      have := (List.take_append_drop 2 (D.take 6)).symm
      rwa [List.take_take] at this
    have a2 : D.take (fsz D) = D.take 6 ++ pl D := by
      have := (List.take_append_drop 6 (D.take (fsz D))).symm
      rwa [List.take_take, show min 6 (fsz D) = 6 by unfold fsz; omega] at this
    rw [a2, ← a1]
  unfold Fr
  rw [hdr_pl h6 h, e]
  constructor
  · intro hh
    have := List.append_cancel_right hh
    exact List.append_cancel_left this
  · intro hh
    rw [hh]
theorem sizeW {D : List UInt8} : W ((W ((6 : Int) + (W ((W ((b0 D : Nat) : Int)) * 2 ^ (min (8 : Int).toNat (IntKind.bits .i64)))))) + (W ((b1 D : Nat) : Int))) = ((fsz D : Nat) : Int) := by
  have h0 := b0_lt D
  have h1 := b1_lt D
  rw [p8, Wn (by omega), show ((b0 D : Nat) : Int) * 256 = ((256 * b0 D : Nat) : Int) by omega, Wn (by omega), Wn (by omega), show (6 : Int) + ((256 * b0 D : Nat) : Int) = ((6 + 256 * b0 D : Nat) : Int) by omega, Wn (by omega)]
  rw [show ((6 + 256 * b0 D : Nat) : Int) + ((b1 D : Nat) : Int) = ((fsz D : Nat) : Int) by unfold fsz; omega, Wn (by unfold fsz; omega)]
theorem jnext {D : List UInt8} (hD : D.length ≤ 4000) : S_journal_next none D = some ((nx D).1, (((nx D).2.1 : Nat) : Int), (nx D).2.2) := by
  unfold S_journal_next
  simp only [z0, z1, z6]
  simp only [tb0, tb1, sizeW, Int.toNat_natCast, List.drop_zero]
  unfold nx
  by_cases h6 : D.length < 6
  · rw [if_pos (by simp; omega), if_pos h6]
    rfl
  rw [if_neg (by simp; omega), if_neg h6, if_pos (by omega), if_pos (by omega)]
  by_cases hs : D.length < fsz D
  · rw [if_pos (by simpa using hs), if_pos hs]
    rfl
  rw [if_neg (by simpa using hs), if_neg hs, if_pos (by unfold fsz at *; omega), if_pos (by omega)]
  have hpl := pl_len hs
  have hP : (pl D).length ≤ 4000 := by unfold fsz at hs; omega
  change ((S_journal_frame none (pl D)).bind _) = _
  rw [jframe hP, Option.bind_some]
  by_cases hf : Fr (pl D) = D.take (fsz D)
  · rw [if_neg (by simpa using hf), if_pos hf]
    change ((S_journal_parse none (pl D)).bind _) = _
    rw [parsed hP, Option.bind_some]
    by_cases hb : bad (pl D) = true
    · rw [if_pos hb, if_pos hb, if_pos (by rfl)]
      rfl
    · rw [if_neg hb, if_neg hb]
      by_cases hc : chk (recd (pl D)) = 0
      · rw [if_neg (by simpa using hc), if_pos hc]
      · rw [if_pos (by simpa using hc), if_neg hc]
        rfl
  · rw [if_pos (by simpa using hf), if_neg hf]
    rfl
end Go.Proofs.Ytmbihhbfdoabbaa
