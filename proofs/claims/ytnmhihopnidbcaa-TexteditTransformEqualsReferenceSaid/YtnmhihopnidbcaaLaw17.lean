/-
  Own text Law17 of this claim: what functions of the given program compute, in plain Lean, and the proof; no condition.
-/
import Derived.Test.YtnmhihopnidbcaaLaw16
namespace Go.Proofs.Ytnmhihopnidbcaa
open Go.Fx
set_option linter.unusedVariables false
/-- how long the result is of what lies between a place of the source and another -/
def Gp : List G_TextEdit → Int → Int → Int
  | [], off, i => i - off
  | e :: r, off, i => if i ≤ e.f_Start then i - off else e.f_Start - off + (e.f_NewText.length : Int) + (if i ≤ e.f_End then 0 else Gp r e.f_End i)
theorem Gp_self {n : Int} {es : List G_TextEdit} {p : Int} (h : Ok n p es) : Gp es p p = 0 := by
  cases es with
  | nil => simp [Gp]
  | cons e r =>
    obtain ⟨g1, g2, g3, g4⟩ := h
    rw [Gp, if_pos (by omega)]
    omega
theorem Gp_step {n : Int} {i : Int} : ∀ (es : List G_TextEdit) (off p : Int), Ok n p es → p ≤ off → off ≤ p + 1 → off ≤ i →
    (p < off ∨ p < i ∨ insA es i = []) →
    Gp es off (i + 1) = Gp es off i + ((insA es i).length : Int) + (if delB es i = false then 1 else 0)
  | [], off, p, h, h1, h2, h3, h4 => by simp [Gp, insA, delB]; omega
  | e :: r, off, p, h, h1, h2, h3, h4 => by
    obtain ⟨g1, g2, g3, g4⟩ := h
    have ls := late (i := i) r e.f_End g4
    rw [Gp, Gp, insA, delB]
    by_cases c1 : i < e.f_Start
    · have := ls (by omega)
      rw [if_pos (show i + 1 ≤ e.f_Start by omega), if_pos (show i ≤ e.f_Start by omega), if_neg (show ¬ e.f_Start = i by omega), this.1, this.2, decide_eq_false (show ¬ (e.f_Start ≤ i ∧ i < e.f_End) by omega)]
      simp; omega
    · by_cases c2 : i = e.f_Start
      · have := ls (by omega)
        rw [if_neg (show ¬ i + 1 ≤ e.f_Start by omega), if_pos (show i ≤ e.f_Start by omega), if_pos (show e.f_Start = i by omega), this.2]
        by_cases c3 : i + 1 ≤ e.f_End
        · rw [if_pos c3, decide_eq_true (show e.f_Start ≤ i ∧ i < e.f_End by omega)]
          simp; omega
        · rw [if_neg c3, decide_eq_false (show ¬ (e.f_Start ≤ i ∧ i < e.f_End) by omega)]
          have hs := Gp_self g4
          have := Gp_step (i := i) r e.f_End e.f_End g4 (by omega) (by omega) (by omega) (.inr (.inr (ls (by omega)).1))
          rw [this]
          have h9 : e.f_End = i := by omega
          rw [h9] at hs ⊢
          rw [hs, (ls (by omega)).1, (ls (by omega)).2]
          simp; omega
      · rw [if_neg (show ¬ i + 1 ≤ e.f_Start by omega), if_neg (show ¬ i ≤ e.f_Start by omega), if_neg (show ¬ e.f_Start = i by omega)]
        by_cases c3 : i + 1 ≤ e.f_End
        · have := ls (by omega)
          rw [if_pos c3, if_pos (show i ≤ e.f_End by omega), this.1, decide_eq_true (show e.f_Start ≤ i ∧ i < e.f_End by omega)]
          simp
        · have hi := Gp_step (i := i) r e.f_End e.f_End g4 (by omega) (by omega) (by omega) (by
            by_cases c4 : e.f_End < i
            · exact .inr (.inl c4)
            · exact .inr (.inr (ls (by omega)).1))
          rw [if_neg c3, hi, decide_eq_false (show ¬ (e.f_Start ≤ i ∧ i < e.f_End) by omega), Bool.false_or]
          by_cases c4 : i ≤ e.f_End
          · have h9 : e.f_End = i := by omega
            rw [if_pos c4, h9]
            have hs := Gp_self g4
            rw [h9] at hs
            rw [hs]; omega
          · rw [if_neg c4]; omega
theorem Gp_end {n : Int} : ∀ (es : List G_TextEdit) (off p : Int), Ok n p es → p ≤ off → off ≤ p + 1 → off ≤ n →
    Gp es off n + ((insA es n).length : Int) = n - off + D es
  | [], off, p, h, h1, h2, h3 => by simp [Gp, insA, D]
  | e :: r, off, p, h, h1, h2, h3 => by
    obtain ⟨g1, g2, g3, g4⟩ := h
    have ls := late (i := n) r e.f_End g4
    rw [Gp, insA, D]
    unfold dl
    by_cases c0 : e.f_End = n
    · have hr : r = [] := by
        have : Ok n n r := by rw [c0] at g4; exact g4
        exact Ok_end r this
      subst hr
      by_cases c1 : e.f_Start = n
      · rw [if_pos (show n ≤ e.f_Start by omega), if_pos c1]; simp [D]; omega
      · rw [if_neg (show ¬ n ≤ e.f_Start by omega), if_neg c1, if_pos (show n ≤ e.f_End by omega)]; simp [insA, D]; omega
    · have := Gp_end r e.f_End e.f_End g4 (by omega) (by omega) (by omega)
      rw [if_neg (show ¬ n ≤ e.f_Start by omega), if_neg (show ¬ n ≤ e.f_End by omega), if_neg (show ¬ e.f_Start = n by omega)]
      omega
/-- the offset ahead of a place -/
def Of (es : List G_TextEdit) (i : Int) : Int := Gp es 0 i
section
variable {s : List UInt8} {es : List G_TextEdit} (hok : Ok s.length (-1) es)
include hok
theorem Of_zero : Of es 0 = 0 := by
  unfold Of
  cases es with
  | nil => rfl
  | cons e r =>
    obtain ⟨g1, g2, g3, g4⟩ := hok
    rw [Gp, if_pos (by omega)]; rfl
theorem Of_step (i : Nat) : Of es ((i + 1 : Nat) : Int) = Of es i + ((insA es i).length : Int) + (if delB es i = false then 1 else 0) := by
  unfold Of
  have := Gp_step (i := (i : Int)) es 0 (-1) hok (by omega) (by omega) (by omega) (.inl (by omega))
  rw [← this]; rfl
theorem Of_end : Of es s.length + ((insA es s.length).length : Int) = s.length + D es := by
  have := Gp_end es 0 (-1) hok (by omega) (by omega) (by omega)
  unfold Of
  omega
theorem Of_le : ∀ (k i : Nat), i + k = s.length → Of es i + ((insA es i).length : Int) ≤ s.length + D es
  | 0, i, h => by
    have : i = s.length := by omega
    subst this
    have := Of_end hok
    omega
  | k + 1, i, h => by
    have := Of_le k (i + 1) (by omega)
    have h2 := Of_step hok i
    split at h2 <;> omega
theorem Of_pos : ∀ (i : Nat), 0 ≤ Of es i
  | 0 => by rw [show ((0 : Nat) : Int) = 0 from rfl, Of_zero hok]; exact Int.le_refl _
  | i + 1 => by
    have := Of_pos i
    have h2 := Of_step hok i
    split at h2 <;> omega
end
section
variable {α : Type} {mk : Int → Int → α} {s : List UInt8} {L R : List G_TextEdit} (hL : Ok s.length (-1) L) (hR : Ok s.length (-1) R)
include hL hR
theorem It_off (fl : Bool) : ∀ (i : Nat), (It mk fl s L R i).2 = Of (ownE fl L R) i
  | 0 => by
    rw [It]; unfold ownE
    split <;> rw [show ((0 : Nat) : Int) = 0 from rfl]
    · rw [Of_zero hL]
    · rw [Of_zero hR]
  | i + 1 => by
    have ih := It_off fl i
    have hO : Ok s.length (-1) (ownE fl L R) := by unfold ownE; split <;> assumption
    rw [It, bt, tx, Of_step hO i, ← ih]
omit hL hR in
theorem sqG_len : ∀ (t : List UInt8) (off : Int), (sqG mk off t).length = t.length
  | [], _ => rfl
  | b :: r, off => by simp [sqG, sqG_len r]
omit hL hR in
theorem txt_len (w : Bool) (off : Int) (t : List UInt8) : (txt mk w off t).length = t.length := by
  unfold txt
  cases w
  · simp
  · simp [sqG_len]
theorem It_len (fl : Bool) : ∀ (i : Nat), ((It mk fl s L R i).1.length : Int) ≤ Of L i + Of R i
  | 0 => by
    rw [It, show ((0 : Nat) : Int) = 0 from rfl, Of_zero hL, Of_zero hR]; simp
  | i + 1 => by
    have ih := It_len fl i
    rw [It, bt, tx, Of_step hL i, Of_step hR i]
    simp only [List.length_append, txt_len]
    have hc : ((if delB L i = false ∧ delB R i = false then [mk ((s.getD i 0).toNat : Int) ((It mk fl s L R i).2 + (insA (ownE fl L R) i).length)] else []).length : Int) ≤ (if delB L i = false then 1 else 0) := by
      by_cases h1 : delB L i = false
      · rw [if_pos h1]; split <;> simp
      · rw [if_neg h1, if_neg (fun h => h1 h.1)]; simp
    have h2 : (0 : Int) ≤ (if delB R i = false then 1 else 0) := by split <;> omega
    simp only [Int.natCast_add]
    omega
theorem Mg_len (fl : Bool) : ((Mg mk fl s L R).1.length : Int) ≤ 2 * s.length + D L + D R := by
  have h1 := It_len (mk := mk) hL hR fl s.length
  have h2 := Of_end hL
  have h3 := Of_end hR
  unfold Mg tx
  simp only [List.length_append, txt_len, Int.natCast_add]
  omega
end
theorem Inc_mono {n : Int} : ∀ (l : List (Int × Int)) (s s' : Int), s ≤ s' → Inc n s' l → Inc n s l
  | [], _, _, _, _ => trivial
  | (v, o) :: r, s, s', h, h1 => by
    rcases h1 with h1 | h1
    · exact .inl ⟨h1.1, Inc_mono r s s' h h1.2⟩
    · exact .inr ⟨by omega, h1.2.1, h1.2.2⟩
theorem Inc_app {m n : Int} (hmn : m ≤ n) (l2 : List (Int × Int)) (h2 : Inc n m l2) : ∀ (l1 : List (Int × Int)) (s : Int), s ≤ m → Inc m s l1 → Inc n s (l1 ++ l2)
  | [], s, h, _ => Inc_mono l2 s m h h2
  | (v, o) :: r, s, h, h1 => by
    rcases h1 with h1 | h1
    · exact .inl ⟨h1.1, Inc_app hmn l2 h2 r s h h1.2⟩
    · exact .inr ⟨h1.1, by omega, Inc_app hmn l2 h2 r (o + 1) (by omega) h1.2.2⟩
theorem Inc_sq : ∀ (t : List UInt8) (off : Int), Inc (off + t.length) off (sqG Prod.mk off t)
  | [], _ => trivial
  | b :: r, off => by
    refine .inr ⟨by omega, by simp only [List.length_cons]; omega, ?_⟩
    have := Inc_sq r (off + 1)
    rwa [show off + 1 + (r.length : Int) = off + ((b :: r).length : Int) by simp only [List.length_cons]; omega] at this
theorem Inc_neg {n s : Int} : ∀ (t : List UInt8), Inc n s (t.map fun b => ((b.toNat : Int), (-1 : Int)))
  | [] => trivial
  | b :: r => .inl ⟨rfl, Inc_neg r⟩
theorem Inc_txt (w : Bool) (off : Int) (t : List UInt8) : Inc (off + (if w = true then (t.length : Int) else 0)) off (txt Prod.mk w off t) := by
  unfold txt
  cases w
  · exact Inc_neg t
  · exact Inc_sq t off
theorem Inc_tx {fl : Bool} {L R : List G_TextEdit} {i : Nat} {o : List (Int × Int) × Int} (h0 : 0 ≤ o.2) (h : Inc o.2 0 o.1) : Inc (tx Prod.mk fl L R i o).2 0 (tx Prod.mk fl L R i o).1 := by
  unfold tx
  have a1 := Inc_txt fl o.2 (insA L i)
  have a2 := Inc_txt (!fl) o.2 (insA R i)
  cases fl
  · have b1 : Inc o.2 0 (o.1 ++ txt Prod.mk false o.2 (insA L i)) := Inc_app (by omega) _ (by simpa using a1) _ _ h0 h
    exact Inc_app (by omega) _ (by simpa [ownE] using a2) _ _ h0 b1
  · have b1 : Inc (o.2 + ((insA L i).length : Int)) 0 (o.1 ++ txt Prod.mk true o.2 (insA L i)) := Inc_app (by omega) _ (by simpa using a1) _ _ h0 h
    exact Inc_app (by simp [ownE]) _ (Inc_neg (insA R i)) _ _ (by omega) b1
theorem Inc_bt {fl : Bool} {s : List UInt8} {L R : List G_TextEdit} {i : Nat} {o : List (Int × Int) × Int} (h0 : 0 ≤ o.2) (h : Inc o.2 0 o.1) : Inc (bt Prod.mk fl s L R i o).2 0 (bt Prod.mk fl s L R i o).1 := by
  unfold bt
  by_cases hc : delB L i = false ∧ delB R i = false
  · have ho : delB (ownE fl L R) i = false := by unfold ownE; split <;> simp [hc.1, hc.2]
    rw [if_pos hc, if_pos ho]
    have h3 : Inc (o.2 + 1) o.2 [(((s.getD i 0).toNat : Int), o.2)] := Or.inr ⟨Int.le_refl _, by omega, trivial⟩
    exact Inc_app (by omega) _ h3 _ _ h0 h
  · rw [if_neg hc]
    refine Inc_app (by split <;> omega) _ ?_ _ _ h0 h
    trivial
theorem Inc_It {s : List UInt8} {L R : List G_TextEdit} (hL : Ok s.length (-1) L) (hR : Ok s.length (-1) R) (fl : Bool) : ∀ (i : Nat), Inc (It Prod.mk fl s L R i).2 0 (It Prod.mk fl s L R i).1
  | 0 => trivial
  | i + 1 => by
    have hO : Ok s.length (-1) (ownE fl L R) := by unfold ownE; split <;> assumption
    have h0 : 0 ≤ (It Prod.mk fl s L R i).2 := by rw [It_off hL hR]; exact Of_pos hO i
    rw [It]
    exact Inc_bt (by unfold tx; dsimp only; omega) (Inc_tx h0 (Inc_It hL hR fl i))
theorem Inc_Mg {s : List UInt8} {L R : List G_TextEdit} (hL : Ok s.length (-1) L) (hR : Ok s.length (-1) R) (fl : Bool) : Inc (s.length + D (ownE fl L R)) 0 (Mg Prod.mk fl s L R).1 := by
  have hO : Ok s.length (-1) (ownE fl L R) := by unfold ownE; split <;> assumption
  have h0 : 0 ≤ (It Prod.mk fl s L R s.length).2 := by rw [It_off hL hR]; exact Of_pos hO _
  have := Inc_tx (fl := fl) (L := L) (R := R) (i := s.length) h0 (Inc_It hL hR fl s.length)
  have h2 : (tx Prod.mk fl L R s.length (It Prod.mk fl s L R s.length)).2 = s.length + D (ownE fl L R) := by
    unfold tx
    dsimp only
    rw [It_off hL hR]
    exact Of_end hO
  rw [h2] at this
  exact this
theorem Mg_map {α β : Type} (mk : Int → Int → α) (c : α → β) (fl : Bool) (s : List UInt8) (L R : List G_TextEdit) : (Mg mk fl s L R).1.map c = (Mg (fun v o => c (mk v o)) fl s L R).1 := by
  have := It_map mk c fl s L R s.length
  unfold Mg tx
  rw [← this]
  simp only [List.map_append, txt_map]
end Go.Proofs.Ytnmhihopnidbcaa
