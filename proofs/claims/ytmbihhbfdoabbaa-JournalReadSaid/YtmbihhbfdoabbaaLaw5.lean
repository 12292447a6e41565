/-
  Own text Law5 of this claim: what functions of the given program compute, in plain Lean, and the proof; no condition.
-/
import Derived.Test.YtmbihhbfdoabbaaLaw4
namespace Go.Proofs.Ytmbihhbfdoabbaa
open Go.Fx
def hdr (p : List UInt8) : List UInt8 := ([(IntKind.wrap .u8 ((p.length : Int).fdiv (2 ^ (min (8 : Int).toNat (IntKind.bits .i64))))), (IntKind.wrap .u8 (p.length : Int))] : List Int).map toU8
def num (v1 : Int) : List UInt8 := ([(IntKind.wrap .u8 (v1.fdiv (2 ^ (min (24 : Int).toNat (IntKind.bits .u32))))), (IntKind.wrap .u8 (v1.fdiv (2 ^ (min (16 : Int).toNat (IntKind.bits .u32))))), (IntKind.wrap .u8 (v1.fdiv (2 ^ (min (8 : Int).toNat (IntKind.bits .u32))))), (IntKind.wrap .u8 v1)] : List Int).map toU8
def Fr (p : List UInt8) : List UInt8 := (hdr p ++ num (csum (hdr p ++ p))) ++ p
theorem hdr_len (p : List UInt8) : (hdr p).length = 2 := by unfold hdr; rw [List.length_map]; rfl
theorem num_len (v : Int) : (num v).length = 4 := by unfold num; rw [List.length_map]; rfl
theorem Fr_len (p : List UInt8) : (Fr p).length = 6 + p.length := by unfold Fr; rw [List.length_append, List.length_append, hdr_len, num_len]
theorem jframe {p : List UInt8} (hp : p.length ≤ 4000) : S_journal_frame none p = some (Fr p) := by
  unfold S_journal_frame
  change (if _ then (S_journal_Checksum none (hdr p ++ p)).bind _ else none) = _
  rw [sum1 (by rw [List.length_append, hdr_len]; omega), Option.bind_some, if_pos (by have := hdr_len p; simp only [hdr] at this; omega)]
  change (if _ then (if _ then some ((hdr p ++ num (csum (hdr p ++ p))) ++ p) else none) else none) = _
  rw [if_pos (by have := hdr_len p; have h2 := num_len (csum (hdr p ++ p)); simp only [hdr, num] at this h2 ⊢; omega), if_pos]
  · rfl
  · have := hdr_len p; have h2 := num_len (csum (hdr p ++ p))
    show (((hdr p ++ num (csum (hdr p ++ p))).length + p.length : Nat) : Int) ≤ 9223372036854775807
    rw [List.length_append]; omega
theorem p8 : (2 ^ (min (8 : Int).toNat (IntKind.bits .i64)) : Int) = 256 := by simp [IntKind.bits]
theorem hdr2 {p : List UInt8} (hp : p.length ≤ 4000) : ([(IntKind.wrap .u8 (W ((p.length : Int).tdiv 256))), (IntKind.wrap .u8 ((p.length : Int).tmod 256))] : List Int).map toU8 = hdr p := by
  have e1 : (p.length : Int).tdiv 256 = (p.length : Int).fdiv (2 ^ (min (8 : Int).toNat (IntKind.bits .i64))) := by
    rw [p8, Int.tdiv_eq_ediv_of_nonneg (by omega), Int.fdiv_eq_ediv_of_nonneg _ (by omega)]
  have e2 : IntKind.wrap .u8 ((p.length : Int).tmod 256) = IntKind.wrap .u8 (p.length : Int) := by
    rw [Int.tmod_eq_emod_of_nonneg (by omega), wrapU _ rfl, wrapU _ rfl]; simp only [IntKind.bits]; omega
  have e3 : W ((p.length : Int).tdiv 256) = (p.length : Int).tdiv 256 := W_in (by rw [Int.tdiv_eq_ediv_of_nonneg (by omega)]; unfold inR; omega)
  unfold hdr
  rw [e3, e2, e1]
def pay (r : G_QRecord) : List UInt8 := ((([(if r.f_Deleted = true then 1 else 0), (IntKind.wrap .u8 (r.f_Key.length : Int))] : List Int).map toU8) ++ r.f_Key) ++ r.f_Value
theorem u0 : toU8 0 = 0 := by decide
theorem u1 : toU8 1 = 1 := by decide
theorem jpay {r : G_QRecord} (h1 : r.f_Key.length ≤ 60) (h2 : r.f_Value.length ≤ 3000) : S_journal_payload none r = some (pay r) := by
  have key : ∀ (b : Int) (c : UInt8), toU8 b = c → pay r = ((([b, (IntKind.wrap .u8 (r.f_Key.length : Int))] : List Int).map toU8) ++ r.f_Key) ++ r.f_Value → S_journal_payload_j1 none r [c] = some (pay r) := by
    intro b c hb hp
    unfold S_journal_payload_j1
    rw [if_pos (by simp), if_pos (by simp; omega), if_pos (by simp; omega), hp]
    simp only [List.map_cons, List.map_nil, hb, List.cons_append, List.nil_append]
  unfold S_journal_payload
  cases hd : r.f_Deleted
  · simp only [Bool.false_eq_true, if_false]; exact key 0 0 u0 (by unfold pay; rw [hd]; rfl)
  · simp only [if_true]; exact key 1 1 u1 (by unfold pay; rw [hd]; rfl)
theorem rframe {r : G_QRecord} (h1 : r.f_Key.length ≤ 60) (h2 : r.f_Value.length ≤ 3000) : S_glossatorref3_Frame none r = some (Fr (pay r)) := by
  have hp : (pay r).length ≤ 4000 := by simp [pay]; omega
  have key : ∀ b : Int, pay r = ((([b, (IntKind.wrap .u8 (r.f_Key.length : Int))] : List Int).map toU8) ++ r.f_Key) ++ r.f_Value → S_glossatorref3_Frame_j1 none r b = some (Fr (pay r)) := by
    intro b hb
    unfold S_glossatorref3_Frame_j1
    rw [← hb, hdr2 hp, sum2 (by rw [List.length_append, hdr_len]; omega)]
    rw [if_pos (by simp only [List.length_map, List.length_cons, List.length_nil]; omega), if_pos (by simp only [List.length_append, List.length_map, List.length_cons, List.length_nil]; omega), if_pos (by rw [hdr_len]; omega)]
    rw [Option.bind_some, S_glossatorref3_number32, Option.bind_some]
    change (if _ then (if _ then some ((hdr (pay r) ++ num (csum (hdr (pay r) ++ pay r))) ++ pay r) else none) else none) = _
    rw [if_pos (by rw [hdr_len]; simp only [List.length_map, List.length_cons, List.length_nil]; omega), if_pos]
    · rfl
    · show (((hdr (pay r) ++ num (csum (hdr (pay r) ++ pay r))).length + (pay r).length : Nat) : Int) ≤ 9223372036854775807
      rw [List.length_append, hdr_len, num_len]; omega
  unfold S_glossatorref3_Frame
  cases hd : r.f_Deleted
  · simp only [Bool.false_eq_true, if_false]; exact key 0 (by simp [pay, hd])
  · simp only [if_true]; exact key 1 (by simp [pay, hd])
end Go.Proofs.Ytmbihhbfdoabbaa
