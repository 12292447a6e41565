/-
  Own text Law5 of this claim: what functions of the given program compute, in plain Lean, and the proof; no condition.
-/
import Derived.Test.YteepckliibfnkaaLaw4
namespace Go.Proofs.Yteepckliibfnkaa
open Go.Fx Go.Sort
set_option linter.unusedVariables false

theorem ibits_and (k : IntKind) (hk : k.signed = false) {a b : Nat} (ha : a < 2 ^ k.bits) (hb : b < 2 ^ k.bits) : ibits .and k (a : Int) (b : Int) = ((a &&& b : Nat) : Int) := by
  show k.wrap (((BitVec.ofInt k.bits (a : Int)) &&& (BitVec.ofInt k.bits (b : Int))).toNat : Int) = _
  rw [BitVec.toNat_and, BitVec.ofInt_natCast, BitVec.ofInt_natCast, BitVec.toNat_ofNat, BitVec.toNat_ofNat, Nat.mod_eq_of_lt ha, Nat.mod_eq_of_lt hb, wrapU k hk]
  have h : a &&& b < 2 ^ k.bits := Nat.lt_of_le_of_lt Nat.and_le_left ha
  rw [show ((2 : Int) ^ k.bits) = ((2 ^ k.bits : Nat) : Int) by simp, ← Int.natCast_emod, Nat.mod_eq_of_lt h]
def HD : List UInt8 := [48, 49, 50, 51, 52, 53, 54, 55, 56, 57, 97, 98, 99, 100, 101, 102]
def hd (r : Nat) : UInt8 := HD.getD r 0
def hx : Nat → Nat → List UInt8
  | 0, _ => []
  | k + 1, n => hx k (n / 16) ++ [hd (n % 16)]
theorem hx_len : ∀ (k n : Nat), (hx k n).length = k
  | 0, _ => rfl
  | k + 1, n => by unfold hx; rw [List.length_append, hx_len k]; rfl
theorem hd_one : ∀ r < 16, (HD.take (r + 1)).drop r = [hd r] := by decide
theorem u32_in {n : Nat} (h : n < 4294967296) : IntKind.wrap .u32 ((n : Nat) : Int) = ((n : Nat) : Int) := by
  rw [wrapU _ rfl]; simp only [IntKind.bits]; omega
theorem tmod16 (n : Nat) : ((n : Nat) : Int).tmod 16 = ((n % 16 : Nat) : Int) := by rw [Int.tmod_eq_emod_of_nonneg (by omega)]; omega
theorem tdiv16 (n : Nat) : ((n : Nat) : Int).tdiv 16 = ((n / 16 : Nat) : Int) := by rw [Int.tdiv_eq_ediv_of_nonneg (by omega)]; omega
theorem hexDigit_eq {n : Nat} : S_glossatorref3_hexDigit none ((n : Nat) : Int) = some [hd (n % 16)] := by
  unfold S_glossatorref3_hexDigit
  have h16 : n % 16 < 16 := Nat.mod_lt _ (by omega)
  have e : IntKind.wrap .u32 (((n % 16 : Nat) : Int) + 1) = ((n % 16 + 1 : Nat) : Int) := by rw [show ((n % 16 : Nat) : Int) + 1 = ((n % 16 + 1 : Nat) : Int) by omega, u32_in (by omega)]
  rw [tmod16, e, if_pos (by simp only [List.length_cons, List.length_nil]; omega), Int.toNat_natCast, Int.toNat_natCast]
  exact congrArg some (hd_one _ h16)
theorem ev_hex {a0 : En} : ∀ (k i n : Nat) (v : List UInt8), i + k = 8 → v.length = i → n < 4294967296 →
    S_glossatorref3_EntryValue_l1 none a0 v ((n : Nat) : Int) (i : Int) = S_glossatorref3_EntryValue_j1 none a0 (hx k n ++ v)
  | 0, i, n, v, h, hv, hn => by
    have hi : i = 8 := by omega
    subst hi
    unfold S_glossatorref3_EntryValue_l1
    refine loopM_out ?_
    unfold S_glossatorref3_EntryValue_b1
    rw [if_neg (by simp)]
    rfl
  | k + 1, i, n, v, h, hv, hn => by
    unfold S_glossatorref3_EntryValue_l1
    rw [loopM_inl (s' := ([hd (n % 16)] ++ v, ((n / 16 : Nat) : Int), ((i + 1 : Nat) : Int))) ?_]
    · have ih := ev_hex (a0 := a0) k (i + 1) (n / 16) ([hd (n % 16)] ++ v) (by omega) (by simp; omega) (by omega)
      unfold hx
      rw [List.append_assoc]
      exact ih
    · unfold S_glossatorref3_EntryValue_b1
      dsimp only
      rw [if_pos (by simp; omega), hexDigit_eq, Option.bind_some, if_pos (by simp; omega), tdiv16, u32_in (by omega), Wi (by omega)]
def dg (n j : Nat) : Int := (((hd (n / 2 ^ (28 - 4 * j) % 16)).toNat : Nat) : Int)
def dgs (n i : Nat) : List Int := (List.range i).map (dg n) ++ List.replicate (8 - i) 0
theorem toU8_id (b : UInt8) : toU8 ((b.toNat : Nat) : Int) = b := by
  unfold toU8
  simp
theorem dgs_hx (n : Nat) : (dgs n 8).map toU8 = hx 8 n := by
  unfold dgs dg
  simp only [Nat.sub_self, List.replicate_zero, List.append_nil, List.map_map]
  rw [show ((toU8 ∘ fun j => (((hd (n / 2 ^ (28 - 4 * j) % 16)).toNat : Nat) : Int)) : Nat → UInt8) = fun j => hd (n / 2 ^ (28 - 4 * j) % 16) from funext fun j => toU8_id _]
  simp [hx, List.range_succ, Nat.div_div_eq_div_mul]
theorem hex_loop {n : Nat} (hn : n < 4294967296) : ∀ (k i : Nat), i + k = 8 → S_wordindex_hex_l1 none ((n : Nat) : Int) (i : Int) (dgs n i) = some (hx 8 n)
  | 0, i, h => by
    have hi : i = 8 := by omega
    subst hi
    unfold S_wordindex_hex_l1
    rw [← dgs_hx]
    refine loopM_out ?_
    unfold S_wordindex_hex_b1
    rw [if_neg (by simp)]
    unfold S_wordindex_hex_j1
    rw [if_pos (by simp [dgs])]
  | k + 1, i, h => by
    have hi : i < 8 := by omega
    have hl : (dgs n i).length = 8 := by unfold dgs; simp; omega
    unfold S_wordindex_hex_l1
    rw [loopM_inl (s' := (((i + 1 : Nat) : Int), dgs n (i + 1))) ?_]
    · exact hex_loop hn k (i + 1) (by omega)
    · unfold S_wordindex_hex_b1
      dsimp only
      have e1 : W ((4 : Int) * (i : Int)) = ((4 * i : Nat) : Int) := by rw [W_in (by unfold inR; omega)]; omega
      have e2 : W ((28 : Int) - ((4 * i : Nat) : Int)) = ((28 - 4 * i : Nat) : Int) := by rw [W_in (by unfold inR; omega)]; omega
      have e3 : min (28 - 4 * i) (IntKind.bits .u32) = 28 - 4 * i := by simp only [IntKind.bits]; omega
      have e4 : (((n : Nat) : Int).fdiv (2 ^ (28 - 4 * i))) = ((n / 2 ^ (28 - 4 * i) : Nat) : Int) := by
        rw [Int.fdiv_eq_ediv_of_nonneg _ (Int.le_of_lt (Int.pow_pos (by omega)))]
        simp
      have hlt : n / 2 ^ (28 - 4 * i) < 4294967296 := Nat.lt_of_le_of_lt (Nat.div_le_self ..) hn
      have e5 : ibits .and .u32 ((n / 2 ^ (28 - 4 * i) : Nat) : Int) 15 = ((n / 2 ^ (28 - 4 * i) % 16 : Nat) : Int) := by
        rw [show (15 : Int) = ((15 : Nat) : Int) from rfl, ibits_and .u32 rfl (by simp only [IntKind.bits]; omega) (by simp only [IntKind.bits]; omega)]
        congr 1
        exact Nat.and_two_pow_sub_one_eq_mod _ 4
      rw [if_pos (by simp; omega), e1, e2, Int.toNat_natCast, e3, e4, e5, if_pos (by omega), if_pos (by simp only [List.length_cons, List.length_nil]; omega), if_pos (by omega), Int.toNat_natCast, if_pos (by omega), Wi (by omega), Int.toNat_natCast, Nat.zero_add]
      congr 3
      show (dgs n i).set i (dg n i) = dgs n (i + 1)
      unfold dgs
      rw [List.set_append_right _ _ (by simp), List.range_succ, List.map_append, List.length_map, List.length_range, Nat.sub_self, show 8 - i = (8 - (i + 1)) + 1 by omega, List.replicate_succ, List.set_cons_zero, List.append_assoc]
      rfl
theorem hex_eq {n : Nat} (hn : n < 4294967296) : S_wordindex_hex none ((n : Nat) : Int) = some (hx 8 n) := hex_loop hn 8 0 (by omega)

def sp (w : List UInt8) : List UInt8 := [32] ++ w
def encS (e : En) : List UInt8 := hx 8 e.f_Sum.toNat ++ e.f_Words.flatMap sp
theorem en_loop {e : En} (hl : e.f_Words.length ≤ 100000) : ∀ (k i : Nat) (v : List UInt8), i + k = e.f_Words.length → v.length + ((e.f_Words.drop i).flatMap sp).length ≤ 100000 →
    S_wordindex_encode_l1 none e v (i : Int) = some (v ++ (e.f_Words.drop i).flatMap sp) ∧ S_glossatorref3_EntryValue_l2 none e v (i : Int) = some (v ++ (e.f_Words.drop i).flatMap sp)
  | 0, i, v, h, hb => by
    have hi : i = e.f_Words.length := by omega
    subst hi
    unfold S_wordindex_encode_l1 S_glossatorref3_EntryValue_l2
    rw [List.drop_length, List.flatMap_nil, List.append_nil]
    constructor
    · refine loopM_out ?_
      unfold S_wordindex_encode_b1
      rw [if_neg (by simp)]
      rfl
    · refine loopM_out ?_
      unfold S_glossatorref3_EntryValue_b2
      rw [if_neg (by simp)]
      rfl
  | k + 1, i, v, h, hb => by
    have hi : i < e.f_Words.length := by omega
    rw [List.drop_eq_getElem_cons hi, List.flatMap_cons] at hb ⊢
    rw [List.length_append] at hb
    have hsp : (sp e.f_Words[i]).length = e.f_Words[i].length + 1 := by unfold sp; simp
    obtain ⟨i1, i2⟩ := en_loop hl k (i + 1) (v ++ sp e.f_Words[i]) (by omega) (by rw [List.length_append]; omega)
    rw [← List.append_assoc]
    unfold S_wordindex_encode_l1 S_glossatorref3_EntryValue_l2
    constructor
    · rw [loopM_inl (s' := (v ++ sp e.f_Words[i], ((i + 1 : Nat) : Int))) ?_]
      · exact i1
      · unfold S_wordindex_encode_b1
        simp only [List.length_map, Int.toNat_natCast, getD_at hi]
        rw [if_pos (by simp; omega), if_pos (by omega), if_pos (by simp; omega), if_pos (by simp; omega), Wi (by omega)]
        rfl
    · rw [loopM_inl (s' := (v ++ sp e.f_Words[i], ((i + 1 : Nat) : Int))) ?_]
      · exact i2
      · unfold S_glossatorref3_EntryValue_b2
        simp only [List.length_map, Int.toNat_natCast, getD_at hi]
        rw [if_pos (by simp; omega), if_pos (by omega), if_pos (by simp; omega), if_pos (by simp; omega), Wi (by omega)]
        rfl
structure Sm (e : En) : Prop where
  w : e.f_Words.length ≤ 400
  s0 : 0 ≤ e.f_Sum
  s1 : e.f_Sum < 4294967296
  t : (e.f_Words.flatMap sp).length ≤ 2001
theorem encode_eq {e : En} (h : Sm e) : S_wordindex_encode none e = some (encS e) := by
  have h0 := h.s0
  have h1 := h.s1
  have h2 := h.t
  have h3 := h.w
  unfold S_wordindex_encode
  rw [show e.f_Sum = ((e.f_Sum.toNat : Nat) : Int) by omega, hex_eq (by omega), Option.bind_some]
  have := (en_loop (e := e) (by omega) e.f_Words.length 0 (hx 8 e.f_Sum.toNat) (by omega) (by rw [List.drop_zero, hx_len]; omega)).1
  rw [List.drop_zero] at this
  exact this
theorem entryValue_eq {e : En} (h : Sm e) : S_glossatorref3_EntryValue none e = some (encS e) := by
  have h0 := h.s0
  have h1 := h.s1
  have h2 := h.t
  have h3 := h.w
  unfold S_glossatorref3_EntryValue
  have hh := ev_hex (a0 := e) 8 0 e.f_Sum.toNat [] (by omega) rfl (by omega)
  rw [show ((e.f_Sum.toNat : Nat) : Int) = e.f_Sum by omega, List.append_nil] at hh
  refine hh.trans ?_
  unfold S_glossatorref3_EntryValue_j1
  have := (en_loop (e := e) (by omega) e.f_Words.length 0 (hx 8 e.f_Sum.toNat) (by omega) (by rw [List.drop_zero, hx_len]; omega)).2
  rw [List.drop_zero] at this
  exact this
theorem encS_len {e : En} (h : Sm e) : (encS e).length ≤ 2009 := by
  have := h.t
  unfold encS; rw [List.length_append, hx_len]; omega

def hdr (p : List UInt8) : List UInt8 := ([(IntKind.wrap .u8 ((p.length : Int).fdiv (2 ^ (min (8 : Int).toNat (IntKind.bits .i64))))), (IntKind.wrap .u8 (p.length : Int))] : List Int).map toU8
def num (v1 : Int) : List UInt8 := ([(IntKind.wrap .u8 (v1.fdiv (2 ^ (min (24 : Int).toNat (IntKind.bits .u32))))), (IntKind.wrap .u8 (v1.fdiv (2 ^ (min (16 : Int).toNat (IntKind.bits .u32))))), (IntKind.wrap .u8 (v1.fdiv (2 ^ (min (8 : Int).toNat (IntKind.bits .u32))))), (IntKind.wrap .u8 v1)] : List Int).map toU8
def Fr (p : List UInt8) : List UInt8 := (hdr p ++ num (csum (hdr p ++ p))) ++ p
theorem hdr_len (p : List UInt8) : (hdr p).length = 2 := by unfold hdr; rw [List.length_map]; rfl
theorem num_len (v : Int) : (num v).length = 4 := by unfold num; rw [List.length_map]; rfl
theorem Fr_len (p : List UInt8) : (Fr p).length = 6 + p.length := by unfold Fr; rw [List.length_append, List.length_append, hdr_len, num_len]
theorem jframe {p : List UInt8} (hp : p.length ≤ 4000) : S_journal_frame none p = some (Fr p) := by
  unfold S_journal_frame
  change (if _ then (S_journal_Checksum none (hdr p ++ p)).bind _ else none) = _
  rw [sum1 (by rw [List.length_append, hdr_len]; omega), Option.bind_some, if_pos (by have := hdr_len p; simp only [hdr] at this; omega)]
  change (if _ then (if _ then some ((hdr p ++ num (csum (hdr p ++ p))) ++ p) else none) else none) = _
  rw [if_pos (by have := hdr_len p; have h2 := num_len (csum (hdr p ++ p)); simp only [hdr, num] at this h2 ⊢; omega), if_pos]
  · rfl
  · have := hdr_len p; have h2 := num_len (csum (hdr p ++ p))
    show (((hdr p ++ num (csum (hdr p ++ p))).length + p.length : Nat) : Int) ≤ 9223372036854775807
    rw [List.length_append]; omega
theorem p8 : (2 ^ (min (8 : Int).toNat (IntKind.bits .i64)) : Int) = 256 := by simp [IntKind.bits]
theorem hdr2 {p : List UInt8} (hp : p.length ≤ 4000) : ([(IntKind.wrap .u8 (W ((p.length : Int).tdiv 256))), (IntKind.wrap .u8 ((p.length : Int).tmod 256))] : List Int).map toU8 = hdr p := by
  have e1 : (p.length : Int).tdiv 256 = (p.length : Int).fdiv (2 ^ (min (8 : Int).toNat (IntKind.bits .i64))) := by
    rw [p8, Int.tdiv_eq_ediv_of_nonneg (by omega), Int.fdiv_eq_ediv_of_nonneg _ (by omega)]
  have e2 : IntKind.wrap .u8 ((p.length : Int).tmod 256) = IntKind.wrap .u8 (p.length : Int) := by
    rw [Int.tmod_eq_emod_of_nonneg (by omega), wrapU _ rfl, wrapU _ rfl]; simp only [IntKind.bits]; omega
  have e3 : W ((p.length : Int).tdiv 256) = (p.length : Int).tdiv 256 := W_in (by rw [Int.tdiv_eq_ediv_of_nonneg (by omega)]; unfold inR; omega)
  unfold hdr
  rw [e3, e2, e1]
def pay (r : G_QRecord) : List UInt8 := ((([(if r.f_Deleted = true then 1 else 0), (IntKind.wrap .u8 (r.f_Key.length : Int))] : List Int).map toU8) ++ r.f_Key) ++ r.f_Value
theorem u0 : toU8 0 = 0 := by decide
theorem u1 : toU8 1 = 1 := by decide
theorem jpay {r : G_QRecord} (h1 : r.f_Key.length ≤ 60) (h2 : r.f_Value.length ≤ 3000) : S_journal_payload none r = some (pay r) := by
  have key : ∀ (b : Int) (c : UInt8), toU8 b = c → pay r = ((([b, (IntKind.wrap .u8 (r.f_Key.length : Int))] : List Int).map toU8) ++ r.f_Key) ++ r.f_Value → S_journal_payload_j1 none r [c] = some (pay r) := by
    intro b c hb hp
    unfold S_journal_payload_j1
    rw [if_pos (by simp), if_pos (by simp; omega), if_pos (by simp; omega), hp]
    simp only [List.map_cons, List.map_nil, hb, List.cons_append, List.nil_append]
  unfold S_journal_payload
  cases hd : r.f_Deleted
  · simp only [Bool.false_eq_true, if_false]; exact key 0 0 u0 (by unfold pay; rw [hd]; rfl)
  · simp only [if_true]; exact key 1 1 u1 (by unfold pay; rw [hd]; rfl)
theorem rframe {r : G_QRecord} (h1 : r.f_Key.length ≤ 60) (h2 : r.f_Value.length ≤ 3000) : S_glossatorref3_Frame none r = some (Fr (pay r)) := by
  have hp : (pay r).length ≤ 4000 := by simp [pay]; omega
  have key : ∀ b : Int, pay r = ((([b, (IntKind.wrap .u8 (r.f_Key.length : Int))] : List Int).map toU8) ++ r.f_Key) ++ r.f_Value → S_glossatorref3_Frame_j1 none r b = some (Fr (pay r)) := by
    intro b hb
    unfold S_glossatorref3_Frame_j1
    rw [← hb, hdr2 hp, sum2 (by rw [List.length_append, hdr_len]; omega)]
    rw [if_pos (by simp only [List.length_map, List.length_cons, List.length_nil]; omega), if_pos (by simp only [List.length_append, List.length_map, List.length_cons, List.length_nil]; omega), if_pos (by rw [hdr_len]; omega)]
    rw [Option.bind_some, S_glossatorref3_number32, Option.bind_some]
    change (if _ then (if _ then some ((hdr (pay r) ++ num (csum (hdr (pay r) ++ pay r))) ++ pay r) else none) else none) = _
    rw [if_pos (by rw [hdr_len]; simp only [List.length_map, List.length_cons, List.length_nil]; omega), if_pos]
    · rfl
    · show (((hdr (pay r) ++ num (csum (hdr (pay r) ++ pay r))).length + (pay r).length : Nat) : Int) ≤ 9223372036854775807
      rw [List.length_append, hdr_len, num_len]; omega
  unfold S_glossatorref3_Frame
  cases hd : r.f_Deleted
  · simp only [Bool.false_eq_true, if_false]; exact key 0 (by simp [pay, hd])
  · simp only [if_true]; exact key 1 (by simp [pay, hd])
theorem appended {l : List UInt8} {r : G_QRecord} (hl : l.length ≤ 140737488351232) (hc : S_journal_validate none r = some 0) (h1 : r.f_Key.length ≤ 60) (h2 : r.f_Value.length ≤ 3000) :
    S_journal_Append none l r = some (if ((l.length + (Fr (pay r)).length : Nat) : Int) > 40000 then ([], 2) else (l ++ Fr (pay r), 0)) := by
  have hp : (pay r).length ≤ 4000 := by simp [pay]; omega
  have hF : (Fr (pay r)).length ≤ 5000 := by rw [Fr_len]; omega
  have hw : W ((l.length : Int) + ((Fr (pay r)).length : Int)) = ((l.length + (Fr (pay r)).length : Nat) : Int) := by rw [W_in (by unfold inR; omega)]; omega
  have hlim : (((l.length + (Fr (pay r)).length : Nat) : Int) ≤ 9223372036854775807) := by omega
  unfold S_journal_Append
  rw [hc]
  rw [Option.bind_some, if_neg (by simp), jpay h1 h2, Option.bind_some, jframe hp, Option.bind_some]
  rw [hw]
  by_cases hbig : ((l.length + (Fr (pay r)).length : Nat) : Int) > 40000
  · rw [if_pos (by simpa using hbig), if_pos hbig]
  · rw [if_neg (by simpa using hbig), if_neg hbig, if_pos hlim]
end Go.Proofs.Yteepckliibfnkaa
