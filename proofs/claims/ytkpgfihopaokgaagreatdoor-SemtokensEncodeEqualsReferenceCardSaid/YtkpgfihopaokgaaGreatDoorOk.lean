/-
  Lines and columns of a source: the number of line feeds ahead of a place, the distance from the start of its line, the starts of the lines; no condition.
-/
import Derived.Test.YtkpgfihopaokgaaGreatDoorGenB
import Derived.Test.YtkpgfihopaokgaaGreatDoorFxLt
import Derived.Test.YtkpgfihopaokgaaGreatDoorFxU
import Derived.Test.YtkpgfihopaokgaaGreatDoorFxLg
import Derived.Test.YtkpgfihopaokgaaGreatDoorRows
import Derived.Lib.LaidU8
import Derived.MakeChecks
import Derived.LaidOnce
namespace Go.Proofs.YtkpgfihopaokgaaGreatDoor
open Go.Fx
set_option linter.unusedVariables false
theorem Wi {i : Nat} (h : i ≤ 4611686018427387904) : W ((i : Int) + 1) = ((i + 1 : Nat) : Int) := by rw [zoa (by unfold inR; omega)]; omega
theorem Wn {x : Int} (h : -4611686018427387904 ≤ x) (h' : x ≤ 4611686018427387904) : W x = x := zoa (by unfold inR; omega)
theorem wm {α : Type} [Inhabited α] {l : List α} {i : Nat} (h : i < l.length) : l.getD i default = l[i] := by simp [List.getD_eq_getElem?_getD, h]
def nl (s : List UInt8) (k : Nat) : Prop := (s.getD k 0).toNat = 10
instance (s : List UInt8) (k : Nat) : Decidable (nl s k) := by unfold nl; infer_instance
theorem Jp {s : List UInt8} {k : Nat} : (((((s.getD k 0).toNat : Nat) : Int) == 10) = true) ↔ nl s k := by unfold nl; rw [beq_iff_eq]; omega
def Ln (s : List UInt8) : Nat → Nat
 | 0 => 0
 | k + 1 => Ln s k + (if nl s k then 1 else 0)
def Cn (s : List UInt8) : Nat → Nat
 | 0 => 0
 | k + 1 => if nl s k then 0 else Cn s k + 1
def Sn (s : List UInt8) : Nat → List Nat
 | 0 => [0]
 | k + 1 => if nl s k then Sn s k ++ [k + 1] else Sn s k
variable {s : List UInt8}
theorem vd {p q : Nat} (h : p ≤ q) : Ln s p ≤ Ln s q := by
 induction q with
 | zero => have : p = 0 := by omega
           subst this; exact Nat.le_refl _
 | succ q ih =>
  rcases Nat.eq_or_lt_of_le h with rfl | h'
  ·exact Nat.le_refl _
  ·have := ih (by omega)
   rw [Ln]; split <;> omega
theorem zah (k : Nat) : Ln s k ≤ k := by
 induction k with
 | zero => simp [Ln]
 | succ k ih => rw [Ln]; split <;> omega
theorem z8h (k : Nat) : Cn s k ≤ k := by
 induction k with
 | zero => simp [Cn]
 | succ k ih => rw [Cn]; split <;> omega
theorem z6j (k : Nat) : (Sn s k).length = Ln s k + 1 := by
 induction k with
 | zero => rfl
 | succ k ih => rw [Sn, Ln]; split <;> simp [ih]
theorem zhc {p q : Nat} (h : p ≤ q) {i : Nat} (hi : i ≤ Ln s p) : (Sn s q).getD i 0 = (Sn s p).getD i 0 := by
 induction q with
 | zero => have : p = 0 := by omega
           subst this; rfl
 | succ q ih =>
  rcases Nat.eq_or_lt_of_le h with rfl | h'
  ·rfl
  ·rw [← ih (by omega), Sn]
   split
   ·have h1 := z6j (s := s) q
    have h2 := vd (s := s) (show p ≤ q by omega)
    simp only [List.getD_eq_getElem?_getD]
    rw [List.getElem?_append_left (by omega)]
   ·rfl
theorem zh6 (k : Nat) : (Sn s k).getD (Ln s k) 0 = k - Cn s k := by
 induction k with
 | zero => rfl
 | succ k ih =>
  rw [Sn, Ln, Cn]
  split
  ·have h1 := z6j (s := s) k
   simp only [List.getD_eq_getElem?_getD]
   rw [List.getElem?_append_right (by omega), h1]
   simp
  ·have := z8h (s := s) k
   rw [Nat.add_zero, ih]; omega
theorem zf2 {k N : Nat} (h : k ≤ N) : (Sn s N).getD (Ln s k) 0 = k - Cn s k := by rw [zhc h (Nat.le_refl _), zh6]
theorem z4s : ∀ (k l : Nat), l ≤ Ln s k → Ln s ((Sn s k).getD l 0) = l ∧ (Sn s k).getD l 0 ≤ k
 | 0, l, h => by
  have : l = 0 := by simpa [Ln] using h
  subst this
  simp [Sn, Ln]
 | k + 1, l, h => by
  by_cases hl : l ≤ Ln s k
  ·obtain ⟨h1, h2⟩ := z4s k l hl
   rw [zhc (Nat.le_succ k) hl]
   exact ⟨h1, by omega⟩
  ·have he : l = Ln s (k + 1) := by rw [Ln] at h ⊢; split at h <;> split <;> omega
   rw [he, zh6]
   have hn : nl s k := by
    apply Decidable.byContradiction
    intro hn
    rw [he, Ln, if_neg hn] at hl; omega
   rw [Cn, if_pos hn]
   exact ⟨rfl, by omega⟩
theorem zhk {N l l' : Nat} (h : l ≤ l') (h' : l' ≤ Ln s N) : (Sn s N).getD l 0 ≤ (Sn s N).getD l' 0 := by
 rcases Nat.lt_or_ge ((Sn s N).getD l' 0) ((Sn s N).getD l 0) with c | c
 ·have h1 := (z4s (s := s) N l (by omega)).1
  have h2 := (z4s (s := s) N l' h').1
  have h3 := vd (s := s) (Nat.le_of_lt c)
  rw [h1, h2] at h3
  have : l = l' := by omega
  subst this; omega
 ·exact c
theorem zi5 {k N : Nat} (h : k ≤ N) (hl : Ln s k + 1 ≤ Ln s N) : k < (Sn s N).getD (Ln s k + 1) 0 := by
 rcases Nat.lt_or_ge k ((Sn s N).getD (Ln s k + 1) 0) with c | c
 ·exact c
 ·have h1 := (z4s N _ hl).1
  have h2 := vd (s := s) c
  omega
theorem zou {l t N : Nat} (hl : l ≤ Ln s N) (h1 : (Sn s N).getD l 0 ≤ t) (h2 : t ≤ N) (h3 : l + 1 ≤ Ln s N → t < (Sn s N).getD (l + 1) 0) : Ln s t = l := by
 have e1 := (z4s N l hl).1
 have e2 := vd (s := s) h1
 rcases Nat.lt_or_ge l (Ln s t) with c | c
 ·have e3 := vd (s := s) h2
  have e4 := zhk (s := s) (N := N) (show l + 1 ≤ Ln s t by omega) e3
  rw [zf2 h2] at e4
  have := h3 (by omega)
  omega
 ·omega
theorem zjq {p q : Nat} (h : p ≤ q) (hl : Ln s q = Ln s p) : Cn s q = Cn s p + (q - p) := by
 induction q with
 | zero => have : p = 0 := by omega
           subst this; simp
 | succ q ih =>
  rcases Nat.eq_or_lt_of_le h with rfl | h'
  ·simp
  ·have h1 := vd (s := s) (show p ≤ q by omega)
   rw [Ln] at hl
   by_cases hn : nl s q
   ·rw [if_pos hn] at hl; omega
   ·rw [if_neg hn] at hl
    rw [Cn, if_neg hn, ih (by omega) (by omega)]; omega
theorem z6u {p q i : Nat} (h : i < q - p) : ((s.take q).drop p).getD i 0 = s.getD (p + i) 0 := by
 simp only [List.getD_eq_getElem?_getD, List.getElem?_drop, List.getElem?_take]
 rw [if_pos (by omega)]
theorem z0a {i : Nat} (h : i < s.length) : s.take (i + 1) = s.take i ++ [s.getD i 0] := by
 rw [List.take_add_one]
 simp [List.getD_eq_getElem?_getD, h]
theorem zg4 {p : Nat} : ∀ q, p ≤ q → q ≤ s.length → (Lib.countByte ((s.take q).drop p) 10 : Int) = ((Ln s q - Ln s p : Nat) : Int) := by
 intro q
 induction q with
 | zero => intro h _; have : p = 0 := by omega
           subst this; simp [Lib.countByte, Ln]
 | succ q ih =>
  intro h hq
  rcases Nat.eq_or_lt_of_le h with rfl | h'
  ·rw [List.drop_eq_nil_of_le (by simp; omega)]; simp [Lib.countByte]
  ·have := ih (by omega) (by omega)
   rw [z0a (by omega), List.drop_append, List.length_take, show p - min q s.length = 0 by omega, List.drop_zero]
   unfold Lib.countByte at this ⊢
   rw [List.count_append, Ln]
   have h1 := vd (s := s) (show p ≤ q by omega)
   have h2 : List.count (10 : UInt8) [s.getD q 0] = if nl s q then 1 else 0 := by
    by_cases hc : nl s q
    ·have : s.getD q 0 = 10 := UInt8.toNat_inj.1 hc
     rw [if_pos hc, this]; rfl
    ·have : s.getD q 0 ≠ 10 := fun e => hc (by unfold nl; rw [e]; rfl)
     rw [if_neg hc, List.count_singleton, if_neg (by simpa using this)]
   rw [h2]
   split <;> omega
def lx (s : List UInt8) (p : Nat) : Nat → Int
 | 0 => -1
 | i + 1 => if nl s (p + i) then (i : Int) else lx s p i
theorem zkq (p : Nat) : ∀ i, -1 ≤ lx s p i ∧ lx s p i < i
 | 0 => by simp [lx]
 | i + 1 => by
  have := zkq p i
  rw [lx]; split <;> omega
theorem zk9 {p : Nat} : ∀ q, p ≤ q → Ln s p < Ln s q → (q - p : Nat) - 1 - lx s p (q - p) = (Cn s q : Int) := by
 intro q
 induction q with
 | zero => intro h hl; have : p = 0 := by omega
           subst this; omega
 | succ q ih =>
  intro h hl
  rcases Nat.eq_or_lt_of_le h with rfl | h'
  ·omega
  ·rw [show q + 1 - p = (q - p) + 1 by omega, lx, show p + (q - p) = q by omega, Cn]
   by_cases hn : nl s q
   ·rw [if_pos hn, if_pos hn]; omega
   ·rw [if_neg hn, if_neg hn]
    rw [Ln, if_neg hn] at hl
    have := ih (by omega) (by omega)
    omega
theorem z6y {p q : Nat} (hq : q ≤ s.length) (hs : s.length ≤ 1073741824) : ∀ i, i ≤ q - p → y5 none ((s.take q).drop p) 10 ((i : Int) - 1) = some (lx s p i)
 | 0, h => by
  unfold y5
  rw [x7 (x := some (-1))]
  ·rfl
  ·unfold zr qg
   rw [if_neg (by simp)]
 | i + 1, h => by
  have ih := z6y (p := p) hq hs i (by omega)
  have hlen : ((s.take q).drop p).length = q - p := by rw [List.length_drop, List.length_take]; omega
  have e : (((i + 1 : Nat) : Int) - 1) = (i : Int) := by omega
  rw [e]
  have hb : zr none ((s.take q).drop p) 10 (i : Int) = if nl s (p + i) then some (.inr (i : Int)) else some (.inl ((i : Int) - 1)) := by
   unfold zr
   rw [if_pos (by simp), if_pos (by omega)]
   simp only [Int.toNat_natCast]
   by_cases hn : nl s (p + i)
   ·rw [if_pos hn, if_pos (by rw [z6u (by omega)]; exact Jp.2 hn)]; rfl
   ·rw [if_neg hn, if_neg (by rw [z6u (by omega)]; exact fun h => hn (Jp.1 h)), Wn (by omega) (by omega)]
  unfold y5 at ih ⊢
  rw [lx]
  by_cases hn : nl s (p + i)
  ·rw [if_pos hn] at hb ⊢
   rw [x7 (x := some (i : Int)) hb]
  ·rw [if_neg hn] at hb ⊢
   rw [ja hb, ih]
theorem zi9 {p q : Nat} (hq : q ≤ s.length) (hs : s.length ≤ 1073741824) : xn none ((s.take q).drop p) [10] = some (lx s p (q - p)) := by
 have hlen : ((s.take q).drop p).length = q - p := by rw [List.length_drop, List.length_take]; omega
 have := z6y (p := p) hq hs (q - p) (Nat.le_refl _)
 unfold xn q7
 rw [if_neg (by simp), if_pos (by simp), if_pos (by simp), hlen, Wn (by omega) (by omega)]
 show (y5 none _ 10 _).bind _ = _
 rw [this]; rfl
variable {s : List UInt8}
def okT (N : Nat) (e : Int) (t : G_SemanticToken) : Prop := e ≤ t.f_Start ∧ t.f_Start ≤ N ∧ 1 ≤ t.f_Length ∧ t.f_Length ≤ N - t.f_Start
instance (N : Nat) (e : Int) (t : G_SemanticToken) : Decidable (okT N e t) := by unfold okT; infer_instance
def VT (N : Nat) : Int → List G_SemanticToken → Bool
 | _, [] => true
 | e, t :: r => if okT N e t then VT N (t.f_Start + t.f_Length) r else false
def Uz : Int → List G_SemanticToken → Int
 | e, [] => e
 | e, t :: r => Uz (t.f_Start + t.f_Length) r
theorem Kc {N : Nat} : ∀ {e : Int} {a b : List G_SemanticToken}, VT N e (a ++ b) = (VT N e a && VT N (Uz e a) b)
 | e, [], b => rfl
 | e, t :: r, b => by
  rw [List.cons_append, VT, VT, Uz]
  split
  ·exact Kc
  ·rfl
theorem z06 : ∀ {e : Int} {a : List G_SemanticToken} {t : G_SemanticToken}, Uz e (a ++ [t]) = t.f_Start + t.f_Length
 | e, [], t => rfl
 | e, x :: r, t => z06 (a := r)
theorem znn {N : Nat} : ∀ {e : Int} {a : List G_SemanticToken}, VT N e a = true → 0 ≤ e → e ≤ N → 0 ≤ Uz e a ∧ Uz e a ≤ N
 | e, [], _, h0, h1 => ⟨h0, h1⟩
 | e, t :: r, h, h0, h1 => by
  rw [VT] at h
  split at h
  ·rename_i ht
   obtain ⟨h2, h3, h4, h5⟩ := ht
   rw [Uz]
   exact znn h (by omega) (by omega)
  ·cases h
theorem za6 (hs : s.length ≤ 1073741824) {ts : List G_SemanticToken} (hl : ts.length ≤ 1073741824) : ∀ (k i : Nat) (e : Int), i + k = ts.length → 0 ≤ e → e ≤ s.length → qr none s ts e (i : Int) = some (VT s.length e (ts.drop i))
 | 0, i, e, h, he, he' => by
  have : i = ts.length := by omega
  subst this
  unfold qr
  rw [x7 (x := some true), List.drop_length]
  ·rfl
  ·unfold yf xi
   rw [if_neg (by simp)]
 | k + 1, i, e, h, he, he' => by
  have hi : i < ts.length := by omega
  rw [List.drop_eq_getElem_cons hi, VT]
  have ih := za6 hs hl k (i + 1) (ts[i].f_Start + ts[i].f_Length) (by omega)
  have hb : yf none s ts e (i : Int) = if okT s.length e ts[i] then some (.inl (ts[i].f_Start + ts[i].f_Length, ((i + 1 : Nat) : Int))) else some (.inr false) := by
   unfold yf
   rw [if_pos (by simpa using hi), if_pos (by simp; omega)]
   simp only [Int.toNat_natCast, wm hi]
   by_cases c : okT s.length e ts[i]
   ·obtain ⟨h1, h2, h3, h4⟩ := id c
    have w1 : W ((s.length : Int) - ts[i].f_Start) = (s.length : Int) - ts[i].f_Start := Wn (by omega) (by omega)
    rw [if_pos c, if_neg (by simp only [Bool.or_eq_true, decide_eq_true_eq, w1]; omega), Wn (by omega) (by omega), Wi (by omega)]
   ·rw [if_neg c, if_pos ?_]
    ·rfl
    ·simp only [Bool.or_eq_true, decide_eq_true_eq]
     unfold okT at c
     by_cases c1 : ts[i].f_Start < e
     ·exact .inl (.inl (.inl c1))
     ·by_cases c2 : ts[i].f_Start > s.length
      ·exact .inl (.inl (.inr c2))
      ·have w1 : W ((s.length : Int) - ts[i].f_Start) = (s.length : Int) - ts[i].f_Start := Wn (by omega) (by omega)
       rw [w1]; omega
  unfold qr at ih ⊢
  by_cases c : okT s.length e ts[i]
  ·obtain ⟨h1, h2, h3, h4⟩ := id c
   rw [if_pos c] at hb ⊢
   rw [ja hb]
   exact ih (by omega) (by omega)
  ·rw [if_neg c] at hb ⊢
   rw [x7 (x := some false) hb]
theorem z5s (hs : s.length ≤ 1073741824) {ts : List G_SemanticToken} (hl : ts.length ≤ 1073741824) : yw none s ts = some (VT s.length 0 ts) := by
 have := za6 hs hl ts.length 0 0 (by omega) (by omega) (by omega)
 unfold yw
 simpa using this
def pe (ts : List G_SemanticToken) : Nat → Int
 | 0 => 0
 | i + 1 => (ts.getD i default).f_Start + (ts.getD i default).f_Length
theorem zb3 (hs : s.length ≤ 1073741824) {ts : List G_SemanticToken} (hl : ts.length ≤ 1073741824) : ∀ (k i : Nat), i + k = ts.length → 0 ≤ pe ts i → pe ts i ≤ s.length → yt none s ts (i : Int) = some (VT s.length (pe ts i) (ts.drop i))
 | 0, i, h, he, he' => by
  have : i = ts.length := by omega
  subst this
  unfold yt
  rw [x7 (x := some true), List.drop_length]
  ·rfl
  ·unfold zz qu
   rw [if_neg (by simp)]
 | k + 1, i, h, he, he' => by
  have hi : i < ts.length := by omega
  have hp : pe ts (i + 1) = ts[i].f_Start + ts[i].f_Length := by rw [pe, wm hi]
  have ih := zb3 hs hl k (i + 1) (by omega)
  rw [List.drop_eq_getElem_cons hi, VT]
  have hpe : 0 < i → W ((ts.getD (W ((i : Int) - 1)).toNat default).f_Start + (ts.getD (W ((i : Int) - 1)).toNat default).f_Length) = pe ts i := fun h0 => by
   have : (W ((i : Int) - 1)).toNat = i - 1 := by rw [Wn (by omega) (by omega)]; omega
   rw [this]
   have h2 : pe ts i = (ts.getD (i - 1) default).f_Start + (ts.getD (i - 1) default).f_Length := by
    rw [show i = (i - 1) + 1 by omega, pe]; rfl
   rw [← h2, Wn (by omega) (by omega)]
  have hb : zz none s ts (i : Int) = if okT s.length (pe ts i) ts[i] then some (.inl ((i + 1 : Nat) : Int)) else some (.inr false) := by
   unfold zz
   have g : ∀ {p : Bool}, ((p && (decide ((i : Int) > 0) == true)) = true → (0 : Int) ≤ W ((i : Int) - 1) ∧ W ((i : Int) - 1) < ((ts.map z6).length : Int)) := fun h => by
    simp only [Bool.and_eq_true, beq_iff_eq, decide_eq_true_eq] at h
    rw [Wn (by omega) (by omega), List.length_map]; omega
   rw [if_pos (by simpa using hi), if_pos (by simp; omega), if_pos g, if_pos g]
   simp only [Int.toNat_natCast, wm hi]
   by_cases c : okT s.length (pe ts i) ts[i]
   ·obtain ⟨h1, h2, h3, h4⟩ := id c
    have w1 : W ((s.length : Int) - ts[i].f_Start) = (s.length : Int) - ts[i].f_Start := Wn (by omega) (by omega)
    rw [if_pos c, if_neg ?_, Wi (by omega)]
    simp only [Bool.or_eq_true, Bool.and_eq_true, decide_eq_true_eq, w1]
    rintro ((((h | h) | h) | h) | ⟨h, h'⟩)
    ·omega
    ·omega
    ·omega
    ·omega
    ·rw [hpe (by omega)] at h'; omega
   ·rw [if_neg c, if_pos ?_]
    ·rfl
    ·simp only [Bool.or_eq_true, Bool.and_eq_true, decide_eq_true_eq]
     unfold okT at c
     by_cases c1 : ts[i].f_Start < pe ts i
     ·by_cases c0 : 0 < i
      ·exact .inr ⟨by omega, by rw [hpe c0]; exact c1⟩
      ·have : i = 0 := by omega
       subst this
       exact .inl (.inl (.inl (.inl c1)))
     ·by_cases c2 : ts[i].f_Start > s.length
      ·exact .inl (.inl (.inr c2))
      ·have w1 : W ((s.length : Int) - ts[i].f_Start) = (s.length : Int) - ts[i].f_Start := Wn (by omega) (by omega)
       rw [w1]; omega
  unfold yt at ih ⊢
  by_cases c : okT s.length (pe ts i) ts[i]
  ·obtain ⟨h1, h2, h3, h4⟩ := id c
   rw [if_pos c] at hb ⊢
   rw [ja hb, ← hp]
   exact ih (by omega) (by omega)
  ·rw [if_neg c] at hb ⊢
   rw [x7 (x := some false) hb]
theorem z1p (hs : s.length ≤ 1073741824) {ts : List G_SemanticToken} (hl : ts.length ≤ 1073741824) : y9 none s ts = some (VT s.length 0 ts) := by
 have := zb3 hs hl ts.length 0 (by omega) (by simp [pe]) (by simp [pe])
 unfold y9
 simpa [pe] using this
theorem z68 (hs : s.length ≤ 1073741824) {q : Nat} (hq : q ≤ s.length) : ∀ (k i : Nat), i + k = q → ym none s (q : Int) (Ln s i : Int) (Cn s i : Int) (i : Int) = some ((Ln s q : Int), (Cn s q : Int))
 | 0, i, h => by
  have : i = q := by omega
  subst this
  unfold ym
  rw [x7 (x := some ((Ln s i : Int), (Cn s i : Int)))]
  unfold zq qf
  rw [if_neg (by simp)]
 | k + 1, i, h => by
  have ih := z68 hs hq k (i + 1) (by omega)
  have l1 := zah (s := s) i
  have l2 := z8h (s := s) i
  have hb : zq none s (q : Int) (Ln s i : Int) (Cn s i : Int) (i : Int) = some (.inl ((Ln s (i + 1) : Int), (Cn s (i + 1) : Int), ((i + 1 : Nat) : Int))) := by
   unfold zq yl
   rw [if_pos (by simp; omega), if_pos (by omega)]
   simp only [Int.toNat_natCast]
   rw [Ln, Cn]
   by_cases hn : nl s i
   ·rw [if_pos hn, if_pos hn, if_pos (Jp.2 hn), Wi (by omega), Wi (by omega)]; rfl
   ·rw [if_neg hn, if_neg hn, if_neg (fun h => hn (Jp.1 h)), Wi (by omega), Wi (by omega)]; rfl
  unfold ym at ih ⊢
  rw [ja hb]
  exact ih
theorem zge (hs : s.length ≤ 1073741824) {q : Nat} (hq : q ≤ s.length) : yg none s (q : Int) = some ((Ln s q : Int), (Cn s q : Int)) := z68 hs hq q 0 (by omega)
def z8g (s : List UInt8) (p q : Nat) : Int × Int := (((Ln s q - Ln s p : Nat) : Int), if Ln s q = Ln s p then ((q - p : Nat) : Int) else (Cn s q : Int))
def z2u (s : List UInt8) (p : Nat) (t : G_SemanticToken) : G_TokenDelta := ⟨(z8g s p t.f_Start.toNat).1, (z8g s p t.f_Start.toNat).2, t.f_Length, t.f_Kind⟩
def z1i (s : List UInt8) : Nat → List G_SemanticToken → List G_TokenDelta
 | _, [] => []
 | p, t :: r => z2u s p t :: z1i s t.f_Start.toNat r
def ps (ts : List G_SemanticToken) : Nat → Nat
 | 0 => 0
 | i + 1 => (ts.getD i default).f_Start.toNat
theorem zjb {N : Nat} {e : Int} {t : G_SemanticToken} {r : List G_SemanticToken} (h : VT N e (t :: r) = true) : okT N e t ∧ VT N (t.f_Start + t.f_Length) r = true := by
 rw [VT] at h
 split at h
 ·rename_i c; exact ⟨c, h⟩
 ·cases h
theorem z5p (hs : s.length ≤ 1073741824) {ts : List G_SemanticToken} (hl : ts.length ≤ 1000) : ∀ (k i : Nat) (e : Int) (o : List G_TokenDelta), i + k = ts.length → o.length ≤ i → 0 ≤ e → (ps ts i : Int) ≤ e → VT s.length e (ts.drop i) = true →
 xu none s ts o (ps ts i : Int) (i : Int) = some (o ++ z1i s (ps ts i) (ts.drop i), 0)
 | 0, i, e, o, h, ho, he, hp, hv => by
  have : i = ts.length := by omega
  subst this
  unfold xu
  rw [x7 (x := some (o, 0)), List.drop_length, z1i, List.append_nil]
  unfold qi ji
  rw [if_neg (by simp)]
 | k + 1, i, e, o, h, ho, he, hp, hv => by
  have hi : i < ts.length := by omega
  rw [List.drop_eq_getElem_cons hi] at hv ⊢
  obtain ⟨⟨h1, h2, h3, h4⟩, hv'⟩ := zjb hv
  obtain ⟨q, hq⟩ : ∃ q : Nat, ts[i].f_Start = q := ⟨ts[i].f_Start.toNat, by omega⟩
  have hps : ps ts (i + 1) = q := by rw [ps, wm hi, hq]; rfl
  have ih := z5p hs hl k (i + 1) (ts[i].f_Start + ts[i].f_Length) (o ++ [z2u s (ps ts i) ts[i]]) (by omega) (by rw [List.length_append]; simp; omega) (by omega) (by rw [hps]; omega) hv'
  obtain ⟨p, hpp⟩ : ∃ p, p = ps ts i := ⟨_, rfl⟩
  rw [← hpp] at hp ih ⊢
  rw [hps] at ih
  have hpq : p ≤ q := by omega
  have hqs : q ≤ s.length := by omega
  have l1 := vd (s := s) hpq
  have l2 := zah (s := s) q
  have l3 := z8h (s := s) q
  have j3 : ∀ x y : Int, z2u s p ts[i] = ⟨x, y, ts[i].f_Length, ts[i].f_Kind⟩ → xa none s ts o (i : Int) x y = some (.inl (o ++ [z2u s p ts[i]], (q : Int), ((i + 1 : Nat) : Int))) := by
   intro x y hx
   unfold xa
   simp only [Int.toNat_natCast, wm hi]
   rw [← hx, if_pos (by simp; omega), hq, Wi (by omega)]
  have hb : qi none s ts o (p : Int) (i : Int) = some (.inl (o ++ [z2u s p ts[i]], (q : Int), ((i + 1 : Nat) : Int))) := by
   unfold qi
   rw [if_pos (by simpa using hi), if_pos (by simp; omega)]
   simp only [Int.toNat_natCast, wm hi, hq]
   have hlen : ((s.take q).drop p).length = q - p := by rw [List.length_drop, List.length_take]; omega
   rw [if_pos (by omega)]
   show ((some (Lib.countByte ((s.take q).drop p) 10 : Int)).bind _) = _
   rw [zg4 q hpq hqs, Option.bind_some, zi9 hqs hs, Option.bind_some, hlen]
   by_cases hc : Ln s q = Ln s p
   ·rw [if_neg (by simp; omega)]
    exact j3 _ _ (by unfold z2u z8g; rw [hq, Int.toNat_natCast, if_pos hc])
   ·rw [if_pos (by simp; omega)]
    have hcol := zk9 (s := s) (p := p) q hpq (by omega)
    have hbd := zkq (s := s) p (q - p)
    have w : W (W (((q - p : Nat) : Int) - 1) - lx s p (q - p)) = (Cn s q : Int) := by
     rw [Wn (x := ((q - p : Nat) : Int) - 1) (by omega) (by omega), Wn (by omega) (by omega), hcol]
    rw [w]
    exact j3 _ _ (by unfold z2u z8g; rw [hq, Int.toNat_natCast, if_neg hc])
  unfold xu at ih ⊢
  rw [ja hb]
  refine ih.trans ?_
  rw [z1i, hq, Int.toNat_natCast, List.append_assoc]; rfl
theorem z9s (hs : s.length ≤ 2000) {ts : List G_SemanticToken} (hl : ts.length ≤ 1000) : xe none s ts = some (if VT s.length 0 ts = true then (z1i s 0 ts, 0) else ([], 3)) := by
 unfold xe
 rw [if_neg (by simp; omega), z5s (by omega) (by omega), Option.bind_some]
 by_cases c : VT s.length 0 ts = true
 ·rw [c, if_neg (by decide), if_pos rfl]
  have := z5p (s := s) (by omega) hl ts.length 0 0 [] (by omega) (by simp) (by omega) (by simp [ps]) (by simpa using c)
  simpa [ps] using this
 ·rw [if_neg c, if_pos (by simpa using c)]
theorem z1r (hs : s.length ≤ 1073741824) {ts : List G_SemanticToken} (hl : ts.length ≤ 1000) : ∀ (k i : Nat) (e : Int) (o : List G_TokenDelta), i + k = ts.length → o.length ≤ i → 0 ≤ e → (ps ts i : Int) ≤ e → ps ts i ≤ s.length → (0 < i → (ts.getD (i - 1) default).f_Start = ps ts i) → VT s.length e (ts.drop i) = true →
 yq none s ts o (i : Int) = some (o ++ z1i s (ps ts i) (ts.drop i))
 | 0, i, e, o, h, ho, he, hp, hp2, hp3, hv => by
  have : i = ts.length := by omega
  subst this
  unfold yq
  rw [x7 (x := some o), List.drop_length, z1i, List.append_nil]
  unfold zx qp
  rw [if_neg (by simp)]
 | k + 1, i, e, o, h, ho, he, hp, hp2, hp3, hv => by
  have hi : i < ts.length := by omega
  rw [List.drop_eq_getElem_cons hi] at hv ⊢
  obtain ⟨⟨h1, h2, h3, h4⟩, hv'⟩ := zjb hv
  obtain ⟨q, hq⟩ : ∃ q : Nat, ts[i].f_Start = q := ⟨ts[i].f_Start.toNat, by omega⟩
  have hps : ps ts (i + 1) = q := by rw [ps, wm hi, hq]; rfl
  have ih := z1r hs hl k (i + 1) (ts[i].f_Start + ts[i].f_Length) (o ++ [z2u s (ps ts i) ts[i]]) (by omega) (by rw [List.length_append]; simp; omega) (by omega) (by rw [hps]; omega) (by rw [hps]; omega) (fun _ => by rw [hps, Nat.add_sub_cancel, wm hi, hq]) hv'
  obtain ⟨p, hpp⟩ : ∃ p, p = ps ts i := ⟨_, rfl⟩
  rw [← hpp] at hp hp2 hp3 ih ⊢
  rw [hps] at ih
  have hpq : p ≤ q := by omega
  have hqs : q ≤ s.length := by omega
  have l1 := vd (s := s) hpq
  have l2 := zah (s := s) q
  have l3 := z8h (s := s) q
  have j3 : ∀ x y : Int, z2u s p ts[i] = ⟨x, y, ts[i].f_Length, ts[i].f_Kind⟩ → zy none s ts o (i : Int) y x = some (.inl (o ++ [z2u s p ts[i]], ((i + 1 : Nat) : Int))) := by
   intro x y hx
   unfold zy
   simp only [Int.toNat_natCast, wm hi]
   rw [← hx, if_pos (by simp; omega), Wi (by omega)]
  have hb : zx none s ts o (i : Int) = some (.inl (o ++ [z2u s p ts[i]], ((i + 1 : Nat) : Int))) := by
   unfold zx
   rw [if_pos (by simpa using hi), if_pos (by simp; omega)]
   simp only [Int.toNat_natCast, wm hi, hq]
   rw [zge hs hqs, Option.bind_some, if_pos (by simp; omega), if_pos (by simp; omega)]
   by_cases h0 : 0 < i
   ·have wi : W ((i : Int) - 1) = ((i - 1 : Nat) : Int) := by rw [Wn (by omega) (by omega)]; omega
    rw [if_pos (by simp; omega)]
    simp only [wi, Int.toNat_natCast, hp3 h0]
    rw [if_pos (by simp; omega), zge hs hp2, Option.bind_some]
    have w1 : W ((Ln s q : Int) - (Ln s p : Int)) = ((Ln s q - Ln s p : Nat) : Int) := by rw [Wn (by omega) (by omega)]; omega
    have w2 : W ((q : Int) - (p : Int)) = ((q - p : Nat) : Int) := by rw [Wn (by omega) (by omega)]; omega
    simp only [w1, w2]
    by_cases hc : Ln s q = Ln s p
    ·rw [if_pos (by simp; omega), if_pos (by simp; omega), if_pos (by simp; omega)]
     exact j3 _ _ (by unfold z2u z8g; rw [hq, Int.toNat_natCast, if_pos hc])
    ·rw [if_neg (by simp; omega)]
     exact j3 _ _ (by unfold z2u z8g; rw [hq, Int.toNat_natCast, if_neg hc])
   ·have : i = 0 := by omega
    subst this
    have hp0 : p = 0 := hpp
    subst hp0
    rw [if_neg (by simp)]
    refine j3 _ _ ?_
    unfold z2u z8g
    rw [hq, Int.toNat_natCast]
    by_cases hc : Ln s q = Ln s 0
    ·have := zjq (s := s) hpq hc
     rw [if_pos hc, this]; simp [Ln, Cn]
    ·rw [if_neg hc]; simp [Ln]
  unfold yq at ih ⊢
  rw [ja hb]
  refine ih.trans ?_
  rw [z1i, hq, Int.toNat_natCast, List.append_assoc]; rfl
theorem U2 (hs : s.length ≤ 1073741824) {ts : List G_SemanticToken} (hl : ts.length ≤ 1000) (hv : VT s.length 0 ts = true) : y8 none s ts = some (z1i s 0 ts) := by
 have := z1r (s := s) hs hl ts.length 0 0 [] (by omega) (by simp) (by omega) (by simp [ps]) (by simp [ps]) (fun h => by omega) (by simpa using hv)
 unfold y8
 simpa [ps] using this
variable {s : List UInt8}
theorem zbt (hs : s.length ≤ 1073741824) : ∀ (k i : Nat), i + k = s.length → x4 none s ((Sn s i).map fun x : Nat => (x : Int)) (i : Int) = some ((Sn s s.length).map fun x : Nat => (x : Int))
 | 0, i, h => by
  have : i = s.length := by omega
  subst this
  unfold x4
  rw [x7 (x := some ((Sn s s.length).map fun x : Nat => (x : Int)))]
  unfold yi xr
  rw [if_neg (by simp)]
 | k + 1, i, h => by
  have ih := zbt hs k (i + 1) (by omega)
  have l1 := zah (s := s) i
  have l2 := z6j (s := s) i
  have hb : yi none s ((Sn s i).map fun x : Nat => (x : Int)) (i : Int) = some (.inl ((Sn s (i + 1)).map fun x : Nat => (x : Int), ((i + 1 : Nat) : Int))) := by
   unfold yi x3
   rw [if_pos (by simp; omega), if_pos (by omega)]
   simp only [Int.toNat_natCast]
   rw [Sn]
   by_cases hn : nl s i
   ·rw [if_pos hn, if_pos (Jp.2 hn), if_pos (by simp; omega), Wi (by omega), List.map_append]; rfl
   ·rw [if_neg hn, if_neg (fun h => hn (Jp.1 h)), Wi (by omega)]
  unfold x4 at ih ⊢
  rw [ja hb]
  exact ih
theorem zcr (hs : s.length ≤ 1073741824) : xj none s = some ((Sn s s.length).map fun x : Nat => (x : Int)) := zbt hs s.length 0 (by omega)
theorem zgh (l : List Nat) (j : Nat) : (l.map fun x : Nat => (x : Int)).getD j default = ((l.getD j 0 : Nat) : Int) := by
 simp only [List.getD_eq_getElem?_getD, List.getElem?_map]
 cases l[j]? <;> rfl
def Jo (s : List UInt8) (line p : Nat) (d : G_TokenDelta) : Nat := if 0 < d.f_DeltaLine then (Sn s s.length).getD (line + d.f_DeltaLine.toNat) 0 else p
def stS (s : List UInt8) (line p : Nat) (d : G_TokenDelta) : Nat := Jo s line p d + d.f_DeltaStart.toNat
def okS (s : List UInt8) (line p : Nat) (d : G_TokenDelta) : Prop :=
 (0 ≤ d.f_DeltaLine ∧ d.f_DeltaLine < (Ln s s.length : Int) + 1 - line ∧ 0 ≤ d.f_DeltaStart ∧ d.f_DeltaStart ≤ s.length) ∧ (line + d.f_DeltaLine.toNat + 1 ≤ Ln s s.length → stS s line p d < (Sn s s.length).getD (line + d.f_DeltaLine.toNat + 1) 0)
instance (s : List UInt8) (line p : Nat) (d : G_TokenDelta) : Decidable (okS s line p d) := by unfold okS; infer_instance
theorem z94 {line p B : Nat} {d : G_TokenDelta} (hB : s.length ≤ B) (hp : p ≤ B) (h : okS s line p d) (hl : line ≤ Ln s s.length) : Jo s line p d ≤ B := by
 obtain ⟨⟨h1, h2, h3, h4⟩, _⟩ := h
 unfold Jo
 split
 ·have := (z4s (s := s) s.length (line + d.f_DeltaLine.toNat) (by omega)).2; omega
 ·exact hp
theorem zl7 (hs : s.length ≤ 2000) {ds : List G_TokenDelta} (hl : ds.length ≤ 8) {i line p : Nat} (hi : i < ds.length) {o : List G_SemanticToken} (ho : o.length ≤ 8) (hline : line ≤ Ln s s.length) (hp : p ≤ 100000) :
 y1 none s ds ((Sn s s.length).map fun x : Nat => (x : Int)) o (line : Int) (p : Int) (i : Int) =
  if okS s line p ds[i] then some (.inl (o ++ [⟨(stS s line p ds[i] : Int), ds[i].f_Length, ds[i].f_Kind⟩], ((line + ds[i].f_DeltaLine.toNat : Nat) : Int), (stS s line p ds[i] : Int), ((i + 1 : Nat) : Int))) else some (.inr ([], 3)) := by
 have l1 := zah (s := s) s.length
 have l2 := z6j (s := s) s.length
 have wl : W (((Ln s s.length + 1 : Nat) : Int) - (line : Int)) = (Ln s s.length : Int) + 1 - line := by rw [Wn (by omega) (by omega)]; omega
 have j3 : (0 ≤ ds[i].f_DeltaLine ∧ ds[i].f_DeltaLine < (Ln s s.length : Int) + 1 - line ∧ 0 ≤ ds[i].f_DeltaStart ∧ ds[i].f_DeltaStart ≤ s.length) →
  x9 none s ds ((Sn s s.length).map fun x : Nat => (x : Int)) o (i : Int) ((line + ds[i].f_DeltaLine.toNat : Nat) : Int) (Jo s line p ds[i] : Int) =
   if okS s line p ds[i] then some (.inl (o ++ [⟨(stS s line p ds[i] : Int), ds[i].f_Length, ds[i].f_Kind⟩], ((line + ds[i].f_DeltaLine.toNat : Nat) : Int), (stS s line p ds[i] : Int), ((i + 1 : Nat) : Int))) else some (.inr ([], 3)) := by
  intro hA
  have hbase : Jo s line p ds[i] ≤ 100000 := by
   unfold Jo
   split
   ·have := (z4s (s := s) s.length (line + ds[i].f_DeltaLine.toNat) (by omega)).2; omega
   ·exact hp
  unfold x9
  have w1 : W (((line + ds[i].f_DeltaLine.toNat : Nat) : Int) + 1) = ((line + ds[i].f_DeltaLine.toNat + 1 : Nat) : Int) := Wi (by omega)
  have w2 : W ((Jo s line p ds[i] : Int) + ds[i].f_DeltaStart) = (stS s line p ds[i] : Int) := by unfold stS; rw [Wn (by omega) (by omega)]; omega
  simp only [Int.toNat_natCast, wm hi, w1, w2, List.length_map, l2, zgh]
  rw [if_pos (fun h => by simp at h; omega)]
  by_cases c : okS s line p ds[i]
  ·rw [if_pos c, if_neg ?_, if_pos (by simp; omega), Wi (by omega)]
   simp only [Bool.and_eq_true, decide_eq_true_eq]
   rintro ⟨h1, h2⟩
   have := c.2 (by omega)
   omega
  ·rw [if_neg c, if_pos ?_]
   ·rfl
   ·simp only [Bool.and_eq_true, decide_eq_true_eq]
    unfold okS at c
    have : ¬ (line + ds[i].f_DeltaLine.toNat + 1 ≤ Ln s s.length → stS s line p ds[i] < (Sn s s.length).getD (line + ds[i].f_DeltaLine.toNat + 1) 0) := fun h => c ⟨hA, h⟩
    simp only [Classical.not_imp] at this
    omega
 unfold y1
 simp only [Int.toNat_natCast, wm hi, List.length_map, l2, wl]
 rw [if_pos (by simpa using hi), if_pos (by omega)]
 by_cases hA : 0 ≤ ds[i].f_DeltaLine ∧ ds[i].f_DeltaLine < (Ln s s.length : Int) + 1 - line ∧ 0 ≤ ds[i].f_DeltaStart ∧ ds[i].f_DeltaStart ≤ s.length
 ·rw [if_neg (by simp only [Bool.or_eq_true, decide_eq_true_eq]; omega)]
  rw [← j3 hA]
  by_cases h0 : 0 < ds[i].f_DeltaLine
  ·have w3 : W ((line : Int) + ds[i].f_DeltaLine) = ((line + ds[i].f_DeltaLine.toNat : Nat) : Int) := by rw [Wn (by omega) (by omega)]; omega
   simp only [w3, Int.toNat_natCast, zgh]
   rw [if_pos (by simpa using h0), if_pos (by omega)]
   unfold Jo
   rw [if_pos h0]
  ·rw [if_neg (by simpa using h0)]
   unfold Jo
   rw [if_neg h0, show ds[i].f_DeltaLine = 0 by omega]
   rfl
 ·rw [if_pos (by simp only [Bool.or_eq_true, decide_eq_true_eq]; omega), if_neg (fun c => hA c.1)]
  rfl
theorem zh1 {ds : List G_TokenDelta} {o : List G_SemanticToken} (hs : s.length ≤ 2000) (ho : o.length ≤ 8) (v : List Int) (line p : Int) : y1 none s ds v o line p (ds.length : Int) = some (.inr (if VT s.length 0 o = true then (o, 0) else ([], 3))) := by
 unfold y1 jh
 rw [if_neg (by simp), z5s (by omega) (by omega), Option.bind_some]
 by_cases c : VT s.length 0 o = true
 ·rw [c, if_neg (by decide), if_pos rfl]; rfl
 ·rw [if_neg c, if_pos (by simpa using c)]; rfl
theorem z92 {ds : List G_TokenDelta} {v : List Int} {o : List G_SemanticToken} {a b c : Int} : xw none s ds v o a b c = vr none (fun (x : ((List G_SemanticToken) × Int × Int × Int)) => y1 none s ds v x.1 x.2.1 x.2.2.1 x.2.2.2) (o, a, b, c) := rfl
theorem z76 (hs : s.length ≤ 2000) {ds : List G_TokenDelta} (hl : ds.length ≤ 8) : ∀ (k i line p : Nat) (o : List G_SemanticToken), i + k = ds.length → o.length ≤ i → line ≤ Ln s s.length → p ≤ 2000 * (i + 1) → VT s.length 0 o = false →
 xw none s ds ((Sn s s.length).map fun x : Nat => (x : Int)) o (line : Int) (p : Int) (i : Int) = some ([], 3)
 | 0, i, line, p, o, h, ho, hline, hp, hv => by
  have : i = ds.length := by omega
  subst this
  rw [z92, x7 (x := some ([], 3))]
  show y1 none s ds _ o _ _ _ = _
  rw [zh1 hs (by omega), if_neg (by simp [hv])]; rfl
 | k + 1, i, line, p, o, h, ho, hline, hp, hv => by
  have hi : i < ds.length := by omega
  have hb := zl7 hs hl hi (line := line) (p := p) (o := o) (by omega) hline (by omega)
  rw [z92]
  by_cases c : okS s line p ds[i]
  ·rw [if_pos c] at hb
   rw [ja hb]
   have h1 := z94 (B := 2000 * (i + 1)) (by omega) hp c hline
   obtain ⟨⟨g1, g2, g3, g4⟩, _⟩ := c
   exact z76 hs hl k (i + 1) _ _ _ (by omega) (by simp; omega) (by omega) (by unfold stS; omega) (by rw [Kc, hv]; rfl)
  ·rw [if_neg c] at hb
   rw [x7 (x := some ([], 3)) hb]
def zfz (s : List UInt8) (e : Int) (p : Nat) (d : G_TokenDelta) (q : Nat) : Prop := okT s.length e ⟨(q : Int), d.f_Length, d.f_Kind⟩ ∧ z8g s p q = (d.f_DeltaLine, d.f_DeltaStart)
instance (s : List UInt8) (e : Int) (p : Nat) (d : G_TokenDelta) (q : Nat) : Decidable (zfz s e p d q) := by unfold zfz; infer_instance
theorem z9o {e : Int} {p q : Nat} {d : G_TokenDelta} (hpe : (p : Int) ≤ e) (hps : p ≤ s.length) (h : zfz s e p d q) : okS s (Ln s p) p d ∧ stS s (Ln s p) p d = q ∧ Ln s p + d.f_DeltaLine.toNat = Ln s q := by
 obtain ⟨⟨h1, h2, h3, h4⟩, h5⟩ := h
 simp only at h1 h2
 have hq : q ≤ s.length := by omega
 have hpq : p ≤ q := by omega
 have l1 := vd (s := s) hpq
 have l2 := vd (s := s) hq
 have l3 := z8h (s := s) q
 unfold z8g at h5
 simp only [Prod.mk.injEq] at h5
 obtain ⟨e1, e2⟩ := h5
 have e3 : Ln s p + d.f_DeltaLine.toNat = Ln s q := by omega
 have hst : stS s (Ln s p) p d = q := by
  unfold stS Jo
  rw [e3]
  by_cases hc : Ln s q = Ln s p
  ·rw [if_pos hc] at e2
   rw [if_neg (by omega)]; omega
  ·rw [if_neg hc] at e2
   rw [if_pos (by omega), zf2 hq]; omega
 refine ⟨⟨⟨by omega, by omega, ?_, ?_⟩, fun h => ?_⟩, hst, e3⟩
 ·split at e2 <;> omega
 ·split at e2 <;> omega
 ·rw [hst, e3]
  rw [e3] at h
  exact zi5 hq h
theorem zcf {e : Int} {p : Nat} {d : G_TokenDelta} (hps : p ≤ s.length) (h : okS s (Ln s p) p d) (hok : okT s.length e ⟨(stS s (Ln s p) p d : Int), d.f_Length, d.f_Kind⟩) : zfz s e p d (stS s (Ln s p) p d) := by
 refine ⟨hok, ?_⟩
 obtain ⟨h1, h2, h3, h4⟩ := hok
 simp only at h1 h2
 obtain ⟨⟨a1, a2, a3, a4⟩, a5⟩ := h
 obtain ⟨q, hq⟩ : ∃ q, q = stS s (Ln s p) p d := ⟨_, rfl⟩
 rw [← hq] at h2 a5 ⊢
 have hqs : q ≤ s.length := by omega
 have l2 := vd (s := s) hps
 have hL : Ln s q = Ln s p + d.f_DeltaLine.toNat := by
  refine zou (N := s.length) (by omega) ?_ hqs a5
  rw [hq]
  unfold stS Jo
  split
  ·omega
  ·rename_i h0
   rw [show d.f_DeltaLine.toNat = 0 by omega, Nat.add_zero, zf2 hps]; omega
 unfold z8g
 rw [hL]
 by_cases h0 : 0 < d.f_DeltaLine
 ·rw [if_neg (by omega)]
  have hb : q = (Sn s s.length).getD (Ln s p + d.f_DeltaLine.toNat) 0 + d.f_DeltaStart.toNat := by rw [hq]; unfold stS Jo; rw [if_pos h0]
  have := zf2 (s := s) hqs
  rw [hL] at this
  have l3 := z8h (s := s) q
  exact Prod.ext (by simp only; omega) (by simp only; omega)
 ·rw [if_pos (by omega)]
  have hb : q = p + d.f_DeltaStart.toNat := by rw [hq]; unfold stS Jo; rw [if_neg h0]
  exact Prod.ext (by simp only; omega) (by simp only; omega)
variable {s : List UInt8}
def kf : List G_SemanticToken → Nat
 | [] => 0
 | [t] => t.f_Start.toNat
 | _ :: r => kf r
theorem Vi : ∀ (o : List G_SemanticToken) (t : G_SemanticToken), kf (o ++ [t]) = t.f_Start.toNat
 | [], t => rfl
 | [a], t => rfl
 | a :: b :: r, t => Vi (b :: r) t
theorem eqT (x y : G_TokenDelta) : ((x.f_DeltaLine == y.f_DeltaLine) && ((x.f_DeltaStart == y.f_DeltaStart) && ((x.f_Length == y.f_Length) && ((x.f_Kind == y.f_Kind) && true)))) = true ↔ x = y := by
 cases x; cases y
 simp
theorem eqS (x y : G_SemanticToken) : ((x.f_Start == y.f_Start) && ((x.f_Length == y.f_Length) && ((x.f_Kind == y.f_Kind) && true))) = true ↔ x = y := by
 cases x; cases y
 simp
theorem z73 (o : List G_SemanticToken) : ([] : List G_SemanticToken) ++ o = o := rfl
theorem zop (hs : s.length ≤ 2000) {ds : List G_TokenDelta} (hl : ds.length ≤ 8) {i : Nat} (hi : i < ds.length) {o : List G_SemanticToken} (ho : o.length = i) (hv : VT s.length 0 o = true) {q : Nat} (hq : q ≤ s.length) :
 zc none s ds (i : Int) o false (q : Int) = some (.inl (if zfz s (Uz 0 o) (kf o) ds[i] q then (o ++ [⟨(q : Int), ds[i].f_Length, ds[i].f_Kind⟩], true, ((q + 1 : Nat) : Int)) else (o, false, ((q + 1 : Nat) : Int)))) := by
 obtain ⟨t, ht⟩ : ∃ t : G_SemanticToken, t = ⟨(q : Int), ds[i].f_Length, ds[i].f_Kind⟩ := ⟨_, rfl⟩
 have h0 := znn hv (by omega) (by omega)
 have hVT : VT s.length 0 (o ++ [t]) = decide (okT s.length (Uz 0 o) t) := by
  rw [Kc, hv, Bool.true_and, VT]
  by_cases c : okT s.length (Uz 0 o) t
  ·rw [if_pos c, decide_eq_true c]; rfl
  ·rw [if_neg c, decide_eq_false c]
 have j22 : ∀ (a : List G_SemanticToken) (b : Bool), zu none s ds (i : Int) (q : Int) a b = some (.inl (a, b, ((q + 1 : Nat) : Int))) := fun a b => by
  unfold zu; rw [Wi (by omega)]
 unfold zc
 simp only [z73, Int.toNat_natCast, wm hi]
 rw [← ht, if_pos (by simpa using hq), if_pos (by simp; omega), if_pos (by simp; omega), if_pos (by simp; omega), if_pos (by simp; omega), z1p (by omega) (by simp; omega), Option.bind_some, hVT]
 by_cases c : okT s.length (Uz 0 o) t
 ·rw [decide_eq_true c, if_neg (by decide)]
  have j21 : ∀ l : List G_SemanticToken, l.length ≤ 1 → VT s.length 0 (l ++ [t]) = true → (z1i s 0 (l ++ [t])).getD l.length default = z2u s (kf o) t →
   zw none s ds (i : Int) o false (q : Int) l = some (.inl (if zfz s (Uz 0 o) (kf o) ds[i] q then (o ++ [t], true, ((q + 1 : Nat) : Int)) else (o, false, ((q + 1 : Nat) : Int)))) := by
   intro l hll hvl hen
   have hat : (o ++ [t]).getD i default = t := by simp [List.getD_eq_getElem?_getD, ← ho]
   have hel : ∀ (p : Nat) (l : List G_SemanticToken), (z1i s p l).length = l.length := by
    intro p l
    induction l generalizing p with
    | nil => rfl
    | cons x r ih => rw [z1i, List.length_cons, ih, List.length_cons]
   unfold zw
   simp only [z73, Int.toNat_natCast, wm hi]
   rw [← ht]
   simp only [hat]
   rw [if_pos (by simp; omega), if_pos (by simp; omega), U2 (by omega) (by simp; omega) hvl, Option.bind_some]
   simp only [List.length_map, hel, List.length_append, List.length_singleton]
   have w : W (((l.length + 1 : Nat) : Int) - 1) = (l.length : Int) := by rw [Wn (by omega) (by omega)]; omega
   simp only [w, Int.toNat_natCast, hen]
   rw [if_pos (by omega), if_pos (by omega), j22, j22]
   have hiff : z2u s (kf o) t = ds[i] ↔ z8g s (kf o) q = (ds[i].f_DeltaLine, ds[i].f_DeltaStart) := by
    rw [ht]
    unfold z2u
    simp only [Int.toNat_natCast]
    obtain ⟨x, y⟩ := z8g s (kf o) q
    generalize ds[i] = d
    cases d
    simp
   by_cases g : z8g s (kf o) q = (ds[i].f_DeltaLine, ds[i].f_DeltaStart)
   ·rw [if_pos ((eqT _ _).2 (hiff.2 g)), if_pos ⟨ht ▸ c, g⟩]
   ·rw [if_neg (fun h => g (hiff.1 ((eqT _ _).1 h))), if_neg (fun h => g h.2)]
  by_cases hz : 0 < i
  ·have wi : W ((i : Int) - 1) = ((i - 1 : Nat) : Int) := by rw [Wn (by omega) (by omega)]; omega
   rw [if_pos (by simp; omega), wi, if_pos (by simp; omega)]
   simp only [Int.toNat_natCast]
   have hne : o ≠ [] := fun e => by rw [e] at ho; simp at ho; omega
   obtain ⟨a, b, hab⟩ : ∃ a b, o = a ++ [b] := ⟨o.dropLast, o.getLast hne, (List.dropLast_concat_getLast hne).symm⟩
   have hgb : o.getD (i - 1) default = b := by rw [← ho, hab]; simp [List.getD_eq_getElem?_getD]
   rw [hgb, if_pos (by simp)]
   show zw none s ds (i : Int) o false (q : Int) [b] = _
   have hv2 : okT s.length (Uz 0 a) b := by
    rw [hab, Kc, Bool.and_eq_true] at hv
    exact (zjb hv.2).1
   have hva : VT s.length 0 a = true := by
    rw [hab, Kc, Bool.and_eq_true] at hv; exact hv.1
   have hea := znn hva (by omega) (by omega)
   have hpb : kf o = b.f_Start.toNat := by rw [hab, Vi]
   refine j21 [b] (by simp) ?_ ?_
   ·rw [List.singleton_append, VT, if_pos ⟨by have := hv2.1; omega, hv2.2.1, hv2.2.2.1, hv2.2.2.2⟩, VT, if_pos ?_]
    ·rfl
    ·rw [hab, z06] at c; exact c
   ·rw [List.singleton_append, z1i, z1i, hpb]; rfl
  ·have hi0 : i = 0 := by omega
   have ho0 : o = [] := List.eq_nil_of_length_eq_zero (by omega)
   rw [if_neg (by simp; omega)]
   refine j21 [] (by simp) ?_ ?_
   ·rw [List.nil_append, VT, if_pos (by rw [ho0] at c; exact c)]; rfl
   ·rw [List.nil_append, z1i, ho0]; rfl
 ·rw [decide_eq_false c, if_pos (by decide), j22, if_neg (fun h => c (ht ▸ h.1))]
theorem zei {ds : List G_TokenDelta} {i : Int} {o : List G_SemanticToken} {f : Bool} {q : Int} : zk none s ds i o f q = vr none (fun (x : ((List G_SemanticToken) × Bool × Int)) => zc none s ds i x.1 x.2.1 x.2.2) (o, f, q) := rfl
theorem zf1 {ds : List G_TokenDelta} {i : Nat} (hi : i ≤ 100) {o : List G_SemanticToken} {q : Int} : zk none s ds (i : Int) o true q = some (.inl (o, ((i + 1 : Nat) : Int))) := by
 rw [zei, x7 (x := some (.inl (o, ((i + 1 : Nat) : Int))))]
 show zc none s ds i o true q = _
 unfold zc yn qh
 rw [if_neg (by simp), if_neg (by decide), Wi (by omega)]
theorem zcc (hs : s.length ≤ 2000) {ds : List G_TokenDelta} (hl : ds.length ≤ 8) {i : Nat} (hi : i < ds.length) {o : List G_SemanticToken} (ho : o.length = i) (hv : VT s.length 0 o = true) : ∀ (k q : Nat), q + k = s.length + 1 →
 (∃ z, q ≤ z ∧ zfz s (Uz 0 o) (kf o) ds[i] z ∧ zk none s ds (i : Int) o false (q : Int) = some (.inl (o ++ [⟨(z : Int), ds[i].f_Length, ds[i].f_Kind⟩], ((i + 1 : Nat) : Int)))) ∨
 ((∀ z, q ≤ z → ¬ zfz s (Uz 0 o) (kf o) ds[i] z) ∧ zk none s ds (i : Int) o false (q : Int) = some (.inr ([], false)))
 | 0, q, h => by
  refine .inr ⟨fun z hz hg => ?_, ?_⟩
  ·have := hg.1.2.1
   simp only at this
   omega
  ·rw [zei, x7 (x := some (.inr ([], false)))]
   show zc none s ds i o false q = _
   unfold zc yn
   rw [if_neg (by simp; omega), if_pos (by decide)]
   rfl
 | k + 1, q, h => by
  have hb := zop hs hl hi ho hv (q := q) (by omega)
  by_cases g : zfz s (Uz 0 o) (kf o) ds[i] q
  ·rw [if_pos g] at hb
   refine .inl ⟨q, Nat.le_refl _, g, ?_⟩
   rw [zei, ja hb]
   exact zf1 (by omega)
  ·rw [if_neg g] at hb
   have e : zk none s ds (i : Int) o false (q : Int) = zk none s ds (i : Int) o false ((q + 1 : Nat) : Int) := by
    rw [zei, ja hb]; rfl
   rw [e]
   rcases zcc hs hl hi ho hv k (q + 1) (by omega) with ⟨z, h1, h2, h3⟩ | ⟨h1, h2⟩
   ·exact .inl ⟨z, by omega, h2, h3⟩
   ·refine .inr ⟨fun z hz hg => ?_, h2⟩
    rcases Nat.eq_or_lt_of_le hz with rfl | hz
    ·exact g hg
    ·exact h1 z hz hg
theorem zhn {ds : List G_TokenDelta} {o : List G_SemanticToken} {i : Int} : ql none s ds o i = vr none (fun (x : ((List G_SemanticToken) × Int)) => zd none s ds x.1 x.2) (o, i) := rfl
theorem zp2 (hs : s.length ≤ 2000) {ds : List G_TokenDelta} (hl : ds.length ≤ 8) : ∀ (k i : Nat) (o : List G_SemanticToken), i + k = ds.length → o.length = i → VT s.length 0 o = true → (kf o : Int) ≤ Uz 0 o →
 ∃ r : List G_SemanticToken × Bool, ql none s ds o (i : Int) = some r ∧ xw none s ds ((Sn s s.length).map fun x : Nat => (x : Int)) o (Ln s (kf o) : Int) (kf o : Int) (i : Int) = some (if r.2 = true then (r.1, 0) else ([], 3)) ∧ (r.2 = false → r.1 = []) ∧ r.1.length ≤ ds.length
 | 0, i, o, h, ho, hv, hp => by
  have : i = ds.length := by omega
  subst this
  refine ⟨(o, true), ?_, ?_, (fun h => by cases h), (by simp only; omega)⟩
  ·rw [zhn, x7 (x := some (o, true))]
   show zd none s ds o _ = _
   unfold zd qe
   rw [if_neg (by simp)]
  ·rw [z92, x7 (x := some (o, 0))]
   ·rfl
   ·show y1 none s ds _ o _ _ _ = _
    rw [zh1 hs (by omega), if_pos hv]; rfl
 | k + 1, i, o, h, ho, hv, hp => by
  have hi : i < ds.length := by omega
  have h0 := znn hv (by omega) (by omega)
  have hps : kf o ≤ s.length := by omega
  have hb3 : zd none s ds o (i : Int) = zk none s ds (i : Int) o false 0 := by
   unfold zd
   rw [if_pos (by simpa using hi)]
  have hline : Ln s (kf o) ≤ Ln s s.length := vd hps
  have hb := zl7 hs hl hi (line := Ln s (kf o)) (p := kf o) (o := o) (by omega) hline (by omega)
  rcases zcc hs hl hi ho hv (s.length + 1) 0 (by omega) with ⟨z, _, hg, h4⟩ | ⟨hn, h4⟩
  ·obtain ⟨g1, g2, g3⟩ := z9o hp hps hg
   rw [if_pos g1, g2, g3] at hb
   obtain ⟨t, ht⟩ : ∃ t : G_SemanticToken, t = ⟨(z : Int), ds[i].f_Length, ds[i].f_Kind⟩ := ⟨_, rfl⟩
   have hok : okT s.length (Uz 0 o) t := ht ▸ hg.1
   have htz : kf (o ++ [t]) = z := by rw [Vi, ht]; rfl
   obtain ⟨r, r1, r2, r3, r4⟩ := zp2 hs hl k (i + 1) (o ++ [t]) (by omega) (by simp [ho]) (by rw [Kc, hv, VT, if_pos hok]; rfl) (by rw [htz, z06]; have := hok.2.2.1; rw [ht] at this ⊢; simp only at this ⊢; omega)
   rw [htz] at r2
   refine ⟨r, ?_, ?_, r3, r4⟩
   ·rw [zhn, ja (s' := (o ++ [t], ((i + 1 : Nat) : Int)))]
    ·exact r1
    ·show zd none s ds o _ = _
     rw [hb3, show (0 : Int) = ((0 : Nat) : Int) by rfl, h4, ht]
   ·rw [z92, ja hb]
    rw [← ht]
    exact r2
  ·refine ⟨([], false), ?_, ?_, fun _ => rfl, by simp⟩
   ·rw [zhn, x7 (x := some ([], false))]
    show zd none s ds o _ = _
    rw [hb3, show (0 : Int) = ((0 : Nat) : Int) by rfl, h4]; rfl
   ·rw [if_neg (by simp)]
    by_cases c : okS s (Ln s (kf o)) (kf o) ds[i]
    ·rw [if_pos c] at hb
     rw [z92, ja hb]
     have h1 := z94 (B := 2000) hs (by omega) c hline
     obtain ⟨⟨g1, g2, g3, g4⟩, _⟩ := id c
     refine z76 hs hl k (i + 1) _ _ _ (by omega) (by simp; omega) (by omega) (by unfold stS; omega) ?_
     rw [Kc, hv, Bool.true_and, VT, if_neg ?_]
     exact fun hok => hn _ (Nat.zero_le _) (zcf hps c hok)
    ·rw [if_neg c] at hb
     rw [z92, x7 (x := some ([], 3)) hb]
theorem Wq (hs : s.length ≤ 2000) {ds : List G_TokenDelta} (hl : ds.length ≤ 8) : ∃ r : List G_SemanticToken × Bool, qb none s ds = some r ∧ qz none s ds = some (if r.2 = true then (r.1, 0) else ([], 3)) ∧ (r.2 = false → r.1 = []) ∧ r.1.length ≤ ds.length := by
 obtain ⟨r, r1, r2, r3, r4⟩ := zp2 hs hl ds.length 0 [] (by omega) rfl rfl (by simp [kf, Uz])
 refine ⟨r, r1, ?_, r3, r4⟩
 unfold qz
 rw [if_neg (by simp; omega), zcr (by omega), Option.bind_some]
 exact r2
theorem Wv {l : List G_TokenDelta} (h0 : l.length ≤ 4611686018427387904) : ∀ (k i : Nat), i + k = l.length → yu none l l (i : Int) = some true
 | 0, i, h => by
  unfold yu
  rw [x7 (x := some true)]
  unfold yb qw
  rw [if_neg (by simp; omega)]
 | k + 1, i, h => by
  have ih := Wv h0 k (i + 1) (by omega)
  unfold yu at ih ⊢
  rw [ja (s' := ((i + 1 : Nat) : Int))]
  ·exact ih
  ·unfold yb
   simp only [List.length_map, Int.toNat_natCast]
   rw [if_pos (by simp; omega), if_pos (by omega), if_pos (by omega), if_neg (by rw [(eqT _ _).2 rfl]; decide), Wi (by omega)]
theorem za4 {l : List G_TokenDelta} (h0 : l.length ≤ 4611686018427387904) : yp none l l = some true := by
 unfold yp
 rw [if_neg (by simp)]
 exact Wv h0 l.length 0 (by omega)
theorem Vu {l : List G_SemanticToken} (h0 : l.length ≤ 4611686018427387904) : ∀ (k i : Nat), i + k = l.length → yv none l l (i : Int) = some true
 | 0, i, h => by
  unfold yv
  rw [x7 (x := some true)]
  unfold ya qx
  rw [if_neg (by simp; omega)]
 | k + 1, i, h => by
  have ih := Vu h0 k (i + 1) (by omega)
  unfold yv at ih ⊢
  rw [ja (s' := ((i + 1 : Nat) : Int))]
  ·exact ih
  ·unfold ya
   simp only [List.length_map, Int.toNat_natCast]
   rw [if_pos (by simp; omega), if_pos (by omega), if_pos (by omega), if_neg (by rw [(eqS _ _).2 rfl]; decide), Wi (by omega)]
theorem z35 {l : List G_SemanticToken} (h0 : l.length ≤ 4611686018427387904) : yr none l l = some true := by
 unfold yr
 rw [if_neg (by simp)]
 exact Vu h0 l.length 0 (by omega)
theorem zok (n : Nat) : (if 8 < (n : Int) then 8 else (n : Int)) = ((min 8 n : Nat) : Int) := by split <;> omega
theorem z59 : ∀ (p : Nat) (l : List G_SemanticToken), (z1i s p l).length = l.length
 | _, [] => rfl
 | p, x :: r => by rw [z1i, List.length_cons, z59, List.length_cons]
theorem zgs (hs : s.length ≤ 2000) {a2 : List G_TokenDelta} {w : List G_TokenDelta} {e : Int} (hw : w.length ≤ 1000) {d : List G_SemanticToken × Int} (hd : qz none s (a2.take (min 8 a2.length)) = some d) :
 ze none a2 s (w, e) d w e = some true := by
 obtain ⟨r, r1, r2, r3, r4⟩ := Wq hs (ds := a2.take (min 8 a2.length)) (by rw [List.length_take]; omega)
 rw [hd] at r2
 simp only [Option.some.injEq] at r2
 unfold ze
 simp only [List.length_map, zok, Int.toNat_natCast]
 rw [r1, Option.bind_some, za4 (by omega), Option.bind_some, BEq.rfl, if_pos (by decide)]
 have hlen : r.1.length ≤ 8 := by rw [List.length_take] at r4; omega
 obtain ⟨x, b⟩ := r
 cases b with
 | true =>
  rw [if_pos rfl] at r2
  subst r2
  rw [z35 (by simp only at hlen ⊢; omega)]
  rfl
 | false =>
  rw [if_neg (by simp)] at r2
  subst r2
  obtain rfl := r3 rfl
  rw [z35 (by simp)]
  rfl
theorem zm0 {a1 : List G_SemanticToken} {a2 : List G_TokenDelta} (hs : s.length ≤ 2000) : z8 none a1 a2 s = some true := by
 obtain ⟨ts, hts⟩ : ∃ ts, ts = a1.take (min 8 a1.length) := ⟨_, rfl⟩
 have hl : ts.length ≤ 8 := by rw [hts, List.length_take]; omega
 obtain ⟨r, r1, r2, r3, r4⟩ := Wq hs (ds := a2.take (min 8 a2.length)) (by rw [List.length_take]; omega)
 unfold z8
 simp only [List.length_map, zok, Int.toNat_natCast]
 rw [if_pos (by omega), if_pos (by omega), ← hts, z9s hs (by omega), Option.bind_some, r2, Option.bind_some, if_neg (by simp; omega), z1p (by omega) (by omega), Option.bind_some]
 by_cases c : VT s.length 0 ts = true
 ·rw [if_pos c, if_pos c, U2 (by omega) (by omega) c, Option.bind_some]
  exact zgs hs (by rw [z59]; omega) r2
 ·rw [if_neg c, if_neg c]
  exact zgs hs (by simp) r2
theorem zpx {a0 : List UInt8} {a1 : List G_SemanticToken} {a2 : List G_TokenDelta} (h0 : a0.length ≤ 4611686018427387904) : zh none a0 a1 a2 = some true := by
 unfold zh xf
 rw [Option.bind_some, if_neg (by decide)]
 by_cases c : a0.length ≤ 2000
 ·rw [if_pos (by simp; omega), if_pos (by split <;> omega), List.drop_zero]
  exact zm0 (by rw [List.length_take]; omega)
 ·rw [if_neg (by simp; omega)]
  unfold z8 xe qz
  simp only [List.length_map, zok, Int.toNat_natCast]
  rw [if_pos (by omega), if_pos (by omega), if_pos (by simp; omega), Option.bind_some, if_pos (by simp; omega), Option.bind_some, if_pos (by simp; omega)]
  rfl
open Go.Fx Go.RowKit
def vz (x : G_SemanticToken) : Prop := (IntKind.min .i64 ≤ x.f_Start ∧ x.f_Start ≤ IntKind.max .i64) ∧ (IntKind.min .i64 ≤ x.f_Length ∧ x.f_Length ≤ IntKind.max .i64) ∧ (IntKind.min .i64 ≤ x.f_Kind ∧ x.f_Kind ≤ IntKind.max .i64)
def Zc (x : G_TokenDelta) : Prop := (IntKind.min .i64 ≤ x.f_DeltaLine ∧ x.f_DeltaLine ≤ IntKind.max .i64) ∧ (IntKind.min .i64 ≤ x.f_DeltaStart ∧ x.f_DeltaStart ≤ IntKind.max .i64) ∧ (IntKind.min .i64 ≤ x.f_Length ∧ x.f_Length ≤ IntKind.max .i64) ∧ (IntKind.min .i64 ≤ x.f_Kind ∧ x.f_Kind ≤ IntKind.max .i64)
def Q7 (x : List G_SemanticToken) : Prop := (x.length ≤ maxLen ∧ x.length * 24 ≤ reachBytes ∧ ∀ y ∈ x, vz y)
def zkp (x : Int) : Prop := (IntKind.min .i64 ≤ x ∧ x ≤ IntKind.max .i64)
def W4 (x : List G_TokenDelta) : Prop := (x.length ≤ maxLen ∧ x.length * 32 ≤ reachBytes ∧ ∀ y ∈ x, Zc y)
def zpv (a0 : List UInt8) (a1 : List G_SemanticToken) (a2 : List G_TokenDelta) : Prop := (a0.length ≤ reachBytes) ∧ ((a1.length ≤ maxLen ∧ a1.length * 24 ≤ reachBytes ∧ ∀ y ∈ a1, vz y)) ∧ ((a2.length ≤ maxLen ∧ a2.length * 32 ≤ reachBytes ∧ ∀ y ∈ a2, Zc y))
theorem zq0 {a0 : List UInt8} {a1 : List G_SemanticToken} {a2 : List G_TokenDelta} (h : zpv a0 a1 a2) : zh none a0 a1 a2 = some true := by
 have h1 : a0.length ≤ reachBytes := h.1
 have hr : reachBytes ≤ 140737488355328 := by decide
 exact zpx (by omega)
def spT : List Int := (List.range 256).map fun c => if Lib.isSp (UInt8.ofNat c) then 1 else 0
theorem zpw : z2v = zk3 .u8 spT := by unfold z2v zk3 spT; rw [List.map_map]; rfl
theorem znw : (Rows.laid_strings_asciiSpace : DataW Unit) = Lib.tabData .u8 spT := by kernel_rfl
theorem gn1 : Tryz.prog.globalNamed "strings.asciiSpace" = some 1 := by kernel_rfl
theorem gy1 : (Tryz.prog.globals[1]?).map (·.type) = some 194 := by kernel_rfl
theorem zoj : ∃ e, Tryz.prog.underlying 194 = some (.array 256 e) ∧ Tryz.prog.underlying e = some (.int .u8) ∧ Tryz.prog.cellsOf e = 1 ∧ Tryz.prog.cellsOf 194 = 256 := ⟨_, Tryz.underlying194, by kernel_rfl, by kernel_rfl, by kernel_rfl⟩
theorem zny {w : World} (h : Lib.VarReads Tryz.prog w "strings.asciiSpace" (Lib.tabData .u8 spT)) : Lib.TabIs Tryz.prog w "strings.asciiSpace" .u8 spT := by
 obtain ⟨g, t, cs, fuel, p, hg, hty, hvar, hd⟩ := h
 obtain rfl := Option.some.inj (gn1.symm.trans hg)
 obtain rfl := Option.some.inj (gy1.symm.trans hty)
 obtain ⟨e, h1, h2, h3, h4⟩ := zoj
 have hcs := Lib.cells_of_tab h1 h2 h3 h4 hd
 unfold Lib.TabIs
 rw [hvar, ← hcs]
theorem zi3 {w : World} {l : List (String × DataW Unit)} (hl : (l.all fun x => x.2.handleName?.isNone) = true) (h1 : ("strings.asciiSpace", Rows.laid_strings_asciiSpace) ∈ l) (h : laidMetH Tryz.prog l w) : GlobOk (old w) w := by
 rw [MakeChecks.laidMetH_plain _ _ _ hl] at h
 have r1 := Lib.laidMet.reads h h1
 rw [znw] at r1
 have c1 := zgd gn1 (zny r1)
 refine ⟨fun x hx => ?_, fun g hg => nomatch hg⟩
 rw [zoy, zpw] at hx
 rcases List.mem_cons.1 hx with rfl | hx
 ·exact ⟨fun _ => c1.1, c1.2⟩
 ·cases hx
end Go.Proofs.YtkpgfihopaokgaaGreatDoor
