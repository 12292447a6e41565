/-
  Own text Law4 of this claim: what functions of the given program compute, in plain Lean, and the proof; no condition.
-/
import Derived.Test.YtmbihhbfdoabbaaGenB
import Derived.Test.YtmbihhbfdoabbaaLaw2
namespace Go.Proofs.Ytmbihhbfdoabbaa
open Go.Fx

/-! the checksum -/
def cstep (v : Int) (c : UInt8) : Int := ((v.toNat ^^^ c.toNat : Nat) : Int) * 16777619 % 4294967296
theorem xor_lt32 {a b : Nat} (ha : a < 4294967296) (hb : b < 256) : a ^^^ b < 4294967296 := Nat.xor_lt_two_pow (n := 32) ha (by omega)
theorem cs1 {v : Int} (h0 : 0 ≤ v) (h1 : v < 4294967296) (c : UInt8) : IntKind.wrap .u32 ((ibits .xor .u32 v (IntKind.wrap .u32 (c.toNat : Int))) * 16777619) = cstep v c := by
  have hc : c.toNat < 256 := c.toNat_lt
  obtain ⟨n, rfl⟩ := Int.eq_ofNat_of_zero_le h0
  have hn : n < 4294967296 := by omega
  have hx := xor_lt32 hn hc
  have e1 : IntKind.wrap .u32 (c.toNat : Int) = (c.toNat : Int) := by rw [wrapU _ rfl]; simp [IntKind.bits]; omega
  have e2 : ibits .xor .u32 (n : Int) (c.toNat : Int) = ((n ^^^ c.toNat : Nat) : Int) := ibits_xor .u32 rfl (by simp only [IntKind.bits]; omega) (by simp only [IntKind.bits]; omega)
  rw [e1, e2, wrapU _ rfl]
  simp [cstep, IntKind.bits]
theorem cs2 {v : Int} (h0 : 0 ≤ v) (h1 : v < 4294967296) (c : UInt8) : Int.tmod (IntKind.wrap .u64 ((ibits .xor .u64 v (IntKind.wrap .u64 (c.toNat : Int))) * 16777619)) 4294967296 = cstep v c := by
  have hc : c.toNat < 256 := c.toNat_lt
  obtain ⟨n, rfl⟩ := Int.eq_ofNat_of_zero_le h0
  have hn : n < 4294967296 := by omega
  have hx := xor_lt32 hn hc
  have e1 : IntKind.wrap .u64 (c.toNat : Int) = (c.toNat : Int) := by rw [wrapU _ rfl]; simp [IntKind.bits]; omega
  have e2 : ibits .xor .u64 (n : Int) (c.toNat : Int) = ((n ^^^ c.toNat : Nat) : Int) := ibits_xor .u64 rfl (by simp only [IntKind.bits]; omega) (by simp only [IntKind.bits]; omega)
  rw [e1, e2, wrapU _ rfl]
  have h3 : ((n ^^^ c.toNat : Nat) : Int) * 16777619 % (2 ^ IntKind.bits .u64 : Int) = ((n ^^^ c.toNat : Nat) : Int) * 16777619 := by simp only [IntKind.bits]; omega
  rw [h3, Int.tmod_eq_emod_of_nonneg (by omega)]
  rfl
theorem cstep_in {v : Int} (h0 : 0 ≤ v) (h1 : v < 4294967296) (c : UInt8) : 0 ≤ cstep v c ∧ cstep v c < 4294967296 := by
  unfold cstep
  omega
theorem fold_in : ∀ (l : List UInt8) (v : Int), 0 ≤ v → v < 4294967296 → 0 ≤ l.foldl cstep v ∧ l.foldl cstep v < 4294967296
  | [], v, h0, h1 => ⟨h0, h1⟩
  | c :: l, v, h0, h1 => by
    obtain ⟨a, b⟩ := cstep_in h0 h1 c
    exact fold_in l _ a b
def csum (l : List UInt8) : Int := l.foldl cstep 2166136261
theorem sum1 {l : List UInt8} (hl : l.length ≤ 140737488351232) : S_journal_Checksum none l = some (csum l) := by
  have key : ∀ (k i : Nat) (v : Int), i + k = l.length → 0 ≤ v → v < 4294967296 → loopM none (fun (s : Int × Int) => S_journal_Checksum_b1 none l s.1 s.2) (v, (i : Int)) = some ((l.drop i).foldl cstep v) := by
    intro k
    induction k with
    | zero =>
      intro i v h h0 h1
      have : i = l.length := by omega
      subst this
      rw [loopM_out (x := some v) (by simp [S_journal_Checksum_b1, S_journal_Checksum_j1])]
      simp
    | succ k ih =>
      intro i v h h0 h1
      have hi : i < l.length := by omega
      obtain ⟨a, b⟩ := cstep_in h0 h1 (l.getD i 0)
      rw [loopM_inl (s' := (cstep v (l.getD i 0), ((i + 1 : Nat) : Int))) ?_, ih (i + 1) _ (by omega) a b]
      · rw [List.drop_eq_getElem_cons hi, List.foldl_cons]
        simp [List.getD_eq_getElem?_getD, hi]
      · have e : W ((i : Int) + 1) = ((i + 1 : Nat) : Int) := by rw [W_in (by unfold inR; omega)]; omega
        simp only [S_journal_Checksum_b1]
        rw [if_pos (by simpa using hi), if_pos (by omega), e, Int.toNat_natCast, cs1 h0 h1]
  have := key l.length 0 2166136261 (by omega) (by omega) (by omega)
  simpa [S_journal_Checksum, S_journal_Checksum_l1, csum] using this
theorem sum2 {l : List UInt8} (hl : l.length ≤ 140737488351232) : S_glossatorref3_Checksum none l = some (csum l) := by
  have key : ∀ (k i : Nat) (v : Int), i + k = l.length → 0 ≤ v → v < 4294967296 → loopM none (fun (s : Int × Int) => S_glossatorref3_Checksum_b1 none l s.1 s.2) (v, (i : Int)) = some ((l.drop i).foldl cstep v) := by
    intro k
    induction k with
    | zero =>
      intro i v h h0 h1
      have : i = l.length := by omega
      subst this
      have ew : IntKind.wrap .u32 v = v := by rw [wrapU _ rfl]; simp only [IntKind.bits]; omega
      rw [loopM_out (x := some v) (by simp [S_glossatorref3_Checksum_b1, S_glossatorref3_Checksum_j1, ew])]
      simp
    | succ k ih =>
      intro i v h h0 h1
      have hi : i < l.length := by omega
      obtain ⟨a, b⟩ := cstep_in h0 h1 (l.getD i 0)
      rw [loopM_inl (s' := (cstep v (l.getD i 0), ((i + 1 : Nat) : Int))) ?_, ih (i + 1) _ (by omega) a b]
      · rw [List.drop_eq_getElem_cons hi, List.foldl_cons]
        simp [List.getD_eq_getElem?_getD, hi]
      · have e : W ((i : Int) + 1) = ((i + 1 : Nat) : Int) := by rw [W_in (by unfold inR; omega)]; omega
        simp only [S_glossatorref3_Checksum_b1]
        rw [if_pos (by simpa using hi), if_pos (by omega), e, Int.toNat_natCast, cs2 h0 h1]
  have := key l.length 0 2166136261 (by omega) (by omega) (by omega)
  simpa [S_glossatorref3_Checksum, S_glossatorref3_Checksum_l1, csum] using this
end Go.Proofs.Ytmbihhbfdoabbaa
