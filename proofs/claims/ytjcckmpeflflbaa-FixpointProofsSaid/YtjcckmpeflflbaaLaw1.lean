/-
  Own text Law1 of this claim.
-/
import Derived.Test.YtjcckmpeflflbaaGenC
import Derived.Test.YtjcckmpeflflbaaFxP
namespace Go.Proofs.Ytjcckmpeflflbaa
open Go.Fx
set_option linter.unusedVariables false
theorem example_ok : S_glossatorlaw3_ruleExample (some 4096) = some true := by kernel_rfl
theorem Wi {i : Nat} (h : i ≤ 4611686018427387904) : W ((i : Int) + 1) = ((i + 1 : Nat) : Int) := by rw [W_in (by unfold inR; omega)]; omega
theorem getD_at {α : Type} [Inhabited α] {l : List α} {i : Nat} (h : i < l.length) : l.getD i default = l[i] := by
  simp [List.getD_eq_getElem?_getD, h]
def rng (x : Int) : Prop := 0 ≤ x ∧ x < 1048576
theorem and_lt {a b : Nat} (h : a < 1048576) : a &&& b < 1048576 := Nat.lt_of_le_of_lt Nat.and_le_left h
theorem or_lt {a b : Nat} (h : a < 1048576) (h' : b < 1048576) : a ||| b < 1048576 := Nat.or_lt_two_pow (n := 20) h h'
def band (x y : Int) : Int := ((x.toNat &&& y.toNat : Nat) : Int)
def bor (x y : Int) : Int := ((x.toNat ||| y.toNat : Nat) : Int)
theorem band_rng {x y : Int} (h : rng x) : rng (band x y) := by
  unfold rng band at *
  have := and_lt (a := x.toNat) (b := y.toNat) (by omega)
  omega
theorem bor_rng {x y : Int} (h : rng x) (h' : rng y) : rng (bor x y) := by
  unfold rng bor at *
  have := or_lt (a := x.toNat) (b := y.toNat) (by omega) (by omega)
  omega
theorem ofInt_toNat {x : Int} (h : rng x) : (BitVec.ofInt 64 x).toNat = x.toNat := by
  unfold rng at h
  rw [BitVec.toNat_ofInt]
  have : x % (2 ^ 64 : Nat) = x := Int.emod_eq_of_lt h.1 (by omega)
  rw [this]
theorem ibits_and {x y : Int} (h : rng x) (h' : rng y) : ibits .and .i64 x y = band x y := by
  have hr := band_rng (y := y) h
  unfold ibits
  simp only
  have e : ((BitVec.ofInt (IntKind.bits .i64) x &&& BitVec.ofInt (IntKind.bits .i64) y).toNat : Int) = band x y := by
    rw [BitVec.toNat_and]
    show (((BitVec.ofInt 64 x).toNat &&& (BitVec.ofInt 64 y).toNat : Nat) : Int) = _
    rw [ofInt_toNat h, ofInt_toNat h']; rfl
  rw [e]
  exact W_in (by unfold inR; unfold rng at hr; omega)
theorem ibits_or {x y : Int} (h : rng x) (h' : rng y) : ibits .or .i64 x y = bor x y := by
  have hr := bor_rng h h'
  unfold ibits
  simp only
  have e : ((BitVec.ofInt (IntKind.bits .i64) x ||| BitVec.ofInt (IntKind.bits .i64) y).toNat : Int) = bor x y := by
    rw [BitVec.toNat_or]
    show (((BitVec.ofInt 64 x).toNat ||| (BitVec.ofInt 64 y).toNat : Nat) : Int) = _
    rw [ofInt_toNat h, ofInt_toNat h']; rfl
  rw [e]
  exact W_in (by unfold inR; unfold rng at hr; omega)
def tb (x : Int) (t : Nat) : Bool := x.toNat.testBit t
theorem tb_band (x y : Int) (t : Nat) : tb (band x y) t = (tb x t && tb y t) := by simp [tb, band]
theorem tb_bor (x y : Int) (t : Nat) : tb (bor x y) t = (tb x t || tb y t) := by simp [tb, bor]
theorem tb_ext {x y : Int} (h : rng x) (h' : rng y) (e : ∀ t, tb x t = tb y t) : x = y := by
  have : x.toNat = y.toNat := Nat.eq_of_testBit_eq e
  unfold rng at h h'; omega
theorem bor_ge {x y : Int} (h : rng x) : x ≤ bor x y := by
  have : x.toNat ≤ x.toNat ||| y.toNat := Nat.left_le_or
  unfold bor; unfold rng at h; omega
def Rok (n : Nat) (r : G_QRule) : Prop := rng r.f_Mask ∧ r.f_All.length ≤ 60 ∧ ∀ k ∈ r.f_All, 0 ≤ k ∧ k < (n : Int)
noncomputable def dvl (s : List Int) (ks : List Int) (a : Int) : Int := ks.foldl (fun a k => band a (s.getD k.toNat default)) a
noncomputable def dv (s : List Int) (r : G_QRule) : Int := dvl s r.f_All r.f_Mask
noncomputable def dAl (s : List Int) (l : List G_QRule) (a : Int) : Int := l.foldl (fun a r => bor a (dv s r)) a
noncomputable def dA (s : List Int) (l : List G_QRule) : Int := dAl s l 0
def Sok (n : Nat) (s : List Int) : Prop := s.length = n ∧ ∀ x ∈ s, rng x
theorem Sok.at {n : Nat} {s : List Int} (h : Sok n s) {k : Nat} (hk : k < n) : rng (s.getD k default) := by
  have hl : k < s.length := by rw [h.1]; exact hk
  rw [getD_at hl]; exact h.2 _ (List.getElem_mem hl)
theorem dvl_rng {s : List Int} : ∀ (ks : List Int) {a : Int}, rng a → rng (dvl s ks a)
  | [], a, h => h
  | k :: r, a, h => dvl_rng r (band_rng h)
theorem dv_rng {n : Nat} {s : List Int} {r : G_QRule} (h : Rok n r) : rng (dv s r) := dvl_rng _ h.1
theorem dAl_rng {n : Nat} {s : List Int} : ∀ (l : List G_QRule) {a : Int}, (∀ r ∈ l, Rok n r) → rng a → rng (dAl s l a)
  | [], a, _, h => h
  | r :: l, a, hr, h => dAl_rng l (fun x hx => hr x (List.mem_cons_of_mem _ hx)) (bor_rng h (dv_rng (hr r (List.mem_cons_self ..))))
theorem dA_rng {n : Nat} {s : List Int} {l : List G_QRule} (hr : ∀ r ∈ l, Rok n r) : rng (dA s l) := dAl_rng l hr (by unfold rng; omega)
theorem tb_dvl (s : List Int) (t : Nat) : ∀ (ks : List Int) (a : Int), tb (dvl s ks a) t = (tb a t && ks.all fun k => tb (s.getD k.toNat default) t)
  | [], a => by simp [dvl]
  | k :: r, a => by
    have := tb_dvl s t r (band a (s.getD k.toNat default))
    unfold dvl at this ⊢
    rw [List.foldl_cons, this, tb_band, List.all_cons, Bool.and_assoc]
theorem tb_dAl (s : List Int) (t : Nat) : ∀ (l : List G_QRule) (a : Int), tb (dAl s l a) t = (tb a t || l.any fun r => tb (dv s r) t)
  | [], a => by simp [dAl]
  | k :: r, a => by
    have := tb_dAl s t r (bor a (dv s k))
    unfold dAl at this ⊢
    rw [List.foldl_cons, this, tb_bor, List.any_cons, Bool.or_assoc]
theorem tb_dv (s : List Int) (r : G_QRule) (t : Nat) : tb (dv s r) t = (tb r.f_Mask t && r.f_All.all fun k => tb (s.getD k.toNat default) t) := tb_dvl s t _ _
theorem tb_dA (s : List Int) (l : List G_QRule) (t : Nat) : tb (dA s l) t = l.any fun r => tb (dv s r) t := by
  have := tb_dAl s t l 0
  have e : tb 0 t = false := by simp [tb]
  rw [e, Bool.false_or] at this
  exact this

theorem derive_loop {n : Nat} {s : List Int} (hs : Sok n s) {r : G_QRule} (hr : Rok n r) : ∀ (k i : Nat) (a : Int), i + k = r.f_All.length → rng a → S_fixpoint_derive_l1 none r s a (i : Int) = some (dvl s (r.f_All.drop i) a)
  | 0, i, a, h, ha => by
    have : i = r.f_All.length := by omega
    subst this
    unfold S_fixpoint_derive_l1
    rw [loopM_out (x := some a) ?_]
    · simp [dvl]
    · unfold S_fixpoint_derive_b1 S_fixpoint_derive_j1
      rw [if_neg (by simp)]
  | k + 1, i, a, h, ha => by
    have hi : i < r.f_All.length := by omega
    have h60 := hr.2.1
    obtain ⟨g1, g2⟩ := hr.2.2 _ (List.getElem_mem hi)
    have hx := hs.at (k := r.f_All[i].toNat) (by omega)
    have ih := derive_loop hs hr k (i + 1) (band a (s.getD r.f_All[i].toNat default)) (by omega) (band_rng ha)
    unfold S_fixpoint_derive_l1 at ih ⊢
    rw [List.drop_eq_getElem_cons hi]
    have e : dvl s (r.f_All[i] :: r.f_All.drop (i + 1)) a = dvl s (r.f_All.drop (i + 1)) (band a (s.getD r.f_All[i].toNat default)) := rfl
    rw [e, ← ih]
    refine loopM_inl ?_
    unfold S_fixpoint_derive_b1
    rw [if_pos (by simpa using hi), if_pos (by simpa using hi)]
    simp only [Int.toNat_natCast, getD_at hi]
    rw [if_pos (by rw [List.length_map, hs.1]; exact ⟨g1, g2⟩), ibits_and ha hx, Wi (by omega)]
theorem derive_ok {n : Nat} {s : List Int} (hs : Sok n s) {r : G_QRule} (hr : Rok n r) : S_fixpoint_derive none r s = some (dv s r) := by
  have := derive_loop hs hr _ 0 r.f_Mask (Nat.zero_add _) hr.1
  simpa [S_fixpoint_derive, dv] using this
theorem deriveAll_loop {n : Nat} {s : List Int} (hs : Sok n s) {l : List G_QRule} (hl : l.length ≤ 20) (hr : ∀ r ∈ l, Rok n r) : ∀ (k i : Nat) (a : Int), i + k = l.length → rng a → S_fixpoint_deriveAll_l1 none l s a (i : Int) = some (dAl s (l.drop i) a)
  | 0, i, a, h, ha => by
    have : i = l.length := by omega
    subst this
    unfold S_fixpoint_deriveAll_l1
    rw [loopM_out (x := some a) ?_]
    · simp [dAl]
    · unfold S_fixpoint_deriveAll_b1 S_fixpoint_deriveAll_j1
      rw [if_neg (by simp)]
  | k + 1, i, a, h, ha => by
    have hi : i < l.length := by omega
    have hx := hr _ (List.getElem_mem hi)
    have ih := deriveAll_loop hs hl hr k (i + 1) (bor a (dv s l[i])) (by omega) (bor_rng ha (dv_rng hx))
    unfold S_fixpoint_deriveAll_l1 at ih ⊢
    rw [List.drop_eq_getElem_cons hi]
    have e : dAl s (l[i] :: l.drop (i + 1)) a = dAl s (l.drop (i + 1)) (bor a (dv s l[i])) := rfl
    rw [e, ← ih]
    refine loopM_inl ?_
    unfold S_fixpoint_deriveAll_b1
    rw [if_pos (by simpa using hi), if_pos (by simpa using hi)]
    simp only [Int.toNat_natCast, getD_at hi]
    have e3 : (⟨l[i].f_Mask, l[i].f_All⟩ : G_QRule) = l[i] := rfl
    rw [e3, derive_ok hs hx, Option.bind_some, ibits_or ha (dv_rng hx), Wi (by omega)]
theorem deriveAll_ok {n : Nat} {s : List Int} (hs : Sok n s) {l : List G_QRule} (hl : l.length ≤ 20) (hr : ∀ r ∈ l, Rok n r) : S_fixpoint_deriveAll none l s = some (dA s l) := by
  have := deriveAll_loop hs hl hr _ 0 0 (Nat.zero_add _) (by unfold rng; omega)
  simpa [S_fixpoint_deriveAll, dA] using this
end Go.Proofs.Ytjcckmpeflflbaa
