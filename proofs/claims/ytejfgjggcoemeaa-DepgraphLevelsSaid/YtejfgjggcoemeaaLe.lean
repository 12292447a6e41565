/-
  The levels of the keys: the reference's recursion; without a cycle it ends; no condition but the lists' lengths.
-/
import Derived.Test.YtejfgjggcoemeaaLd
namespace Go.Proofs.Ytejfgjggcoemeaa
open Go.Fx Go.Sort
set_option linter.unusedVariables false
def lf (g : K → Nat) (k : K) : List G_QEdge → Nat → Nat
 | [], m => m
 | e :: r, m => lf g k r (if e.f_From = k then max m (1 + g e.f_To) else m)
theorem zm4 {g : K → Nat} {k : K} {b : Nat} : ∀ {l : List G_QEdge} {m : Nat}, lf g k l m ≤ b ↔ m ≤ b ∧ ∀ e ∈ l, e.f_From = k → 1 + g e.f_To ≤ b
 | [], m => by unfold lf; simp
 | e :: r, m => by
  unfold lf
  rw [zm4, List.forall_mem_cons]
  split
  ·rename_i h
   constructor
   ·rintro ⟨h1, h2⟩; exact ⟨by omega, fun _ => by omega, h2⟩
   ·rintro ⟨h1, h2, h3⟩; have := h2 h; exact ⟨by omega, h3⟩
  ·rename_i h
   constructor
   ·rintro ⟨h1, h2⟩; exact ⟨h1, fun h' => absurd h' h, h2⟩
   ·rintro ⟨h1, h2, h3⟩; exact ⟨h1, h3⟩
theorem z2g {g g' : K → Nat} {k : K} : ∀ {l : List G_QEdge} {m : Nat}, (∀ e ∈ l, e.f_From = k → g e.f_To = g' e.f_To) → lf g k l m = lf g' k l m
 | [], m, _ => rfl
 | e :: r, m, h => by
  unfold lf
  rw [z2g fun e' he' => h e' (List.mem_cons_of_mem _ he')]
  congr 1
  split
  ·rename_i hk; rw [h e (List.mem_cons_self ..) hk]
  ·rfl
def lvN (es : List G_QEdge) : Nat → K → Nat
 | 0, _ => 0
 | n + 1, k => lf (lvN es n) k es 0
theorem zjm {es : List G_QEdge} : ∀ (n : Nat) (k : K), lvN es n k ≤ n
 | 0, _ => Nat.le_refl _
 | n + 1, k => by
  unfold lvN
  exact zm4.2 ⟨Nat.zero_le _, fun e _ _ => by have := zjm (es := es) n e.f_To; omega⟩
structure Rank (es : List G_QEdge) (rk : K → Nat) : Prop where
 dec : ∀ k y, adj false es k y → rk y < rk k
 le : ∀ k, rk k ≤ es.length
theorem zkw {es : List G_QEdge} (hl : es.length ≤ 400) (ha : ∀ k, ¬ Rc es k k) : ∃ rk, Rank es rk := by
 have h : ∀ k, ∃ l, IsReach false es k l := fun k => by obtain ⟨l, _, h⟩ := Ys hl k; exact ⟨l, h⟩
 refine ⟨fun k => (Classical.choose (h k)).length, fun k y hy => ?_, fun k => Vl (Classical.choose_spec (h k))⟩
 have h1 := Classical.choose_spec (h k)
 have h2 := Classical.choose_spec (h y)
 have := X4 (a := y :: Classical.choose (h y)) (b := Classical.choose (h k)) (List.nodup_cons.2 ⟨fun h' => ha y ((h2.2 y).1 h'), Zd h2.1⟩) (fun x hx => by
  rcases List.mem_cons.1 hx with rfl | hx
  ·exact (h1.2 x).2 (.one hy)
  ·exact (h1.2 x).2 (.step hy ((h2.2 x).1 hx)))
 simp only [List.length_cons] at this
 omega
theorem zql {es : List G_QEdge} {rk : K → Nat} (hr : Rank es rk) : ∀ (n m : Nat) (k : K), rk k < n → rk k < m → lvN es n k = lvN es m k
 | 0, _, _, h, _ => absurd h (Nat.not_lt_zero _)
 | _, 0, _, _, h => absurd h (Nat.not_lt_zero _)
 | n + 1, m + 1, k, h, h' => by
  unfold lvN
  exact z2g fun e he hk => by
   have := hr.dec k e.f_To ⟨e, he, hk, rfl⟩
   exact zql hr n m e.f_To (by omega) (by omega)
def lv (es : List G_QEdge) (k : K) : Nat := lvN es (es.length + 1) k
theorem znm {es : List G_QEdge} {rk : K → Nat} (hr : Rank es rk) (k : K) : lv es k = lf (lv es) k es 0 := by
 show lvN es (es.length + 1) k = _
 unfold lvN
 exact z2g fun e he hk => by
  have := hr.dec k e.f_To ⟨e, he, hk, rfl⟩
  have := hr.le k
  exact zql hr _ _ _ (by omega) (by omega)
theorem zqb {es : List G_QEdge} {rk : K → Nat} (hr : Rank es rk) {k : K} {n : Nat} : lv es k ≤ n ↔ ∀ y, adj false es k y → lv es y < n := by
 rw [znm hr, zm4]
 constructor
 ·rintro ⟨_, h⟩ y ⟨e, he, h1, rfl⟩
  have := h e he h1
  show lv es e.f_To < n
  omega
 ·intro h
  exact ⟨Nat.zero_le _, fun e he h1 => by have := h e.f_To ⟨e, he, h1, rfl⟩; omega⟩
theorem zon {es : List G_QEdge} (k : K) : lv es k ≤ es.length + 1 := zjm _ _
theorem z29 {T : Prop} {rec0 : List G_QEdge → K → Option Int} {es : List G_QEdge} {k : K} {g : K → Nat} (hg : ∀ y, g y ≤ 1000) (hl : es.length ≤ 400) (hr : ∀ e ∈ es, e.f_From = k → rec0 es e.f_To = some (g e.f_To : Int) ∨ (rec0 es e.f_To = none ∧ ¬ T)) :
 ∀ (n i acc : Nat), i + n = es.length → acc ≤ 2000 → zy rec0 none es k (acc : Int) (i : Int) = some ((lf g k (es.drop i) acc : Nat) : Int) ∨ (zy rec0 none es k (acc : Int) (i : Int) = none ∧ ¬ T)
 | 0, i, acc, h, ha => by
  have : i = es.length := by omega
  subst this
  refine .inl ?_
  unfold zy
  rw [yq (x := some (acc : Int)), List.drop_length]
  ·rfl
  ·unfold yf j7
   rw [if_neg (by simp)]
 | n + 1, i, acc, h, ha => by
  have hi : i < es.length := by omega
  have hb : yf rec0 none es k (acc : Int) (i : Int) = if es[i].f_From = k then (rec0 es es[i].f_To).bind fun v7 => some (.inl ((if (W ((1 : Int) + v7)) > (acc : Int) then (W ((1 : Int) + v7)) else (acc : Int)), ((i + 1 : Nat) : Int))) else some (.inl ((acc : Int), ((i + 1 : Nat) : Int))) := by
   unfold yf qv
   simp only [Int.toNat_natCast, wo hi, uk, eqK]
   rw [if_pos (by simpa using hi), if_pos (by simp; omega), Wi (by omega)]
   by_cases c : es[i].f_From = k
   ·rw [if_pos (by simpa using c), if_pos c]
   ·rw [if_neg (by simpa using c), if_neg c]
  rw [List.drop_eq_getElem_cons hi]
  unfold lf
  by_cases c : es[i].f_From = k
  ·rw [if_pos c] at hb ⊢
   rcases hr es[i] (List.getElem_mem _) c with h1 | ⟨h1, h2⟩
   ·have hgi := hg es[i].f_To
    have e1 : (if (W ((1 : Int) + (g es[i].f_To : Int))) > (acc : Int) then (W ((1 : Int) + (g es[i].f_To : Int))) else (acc : Int)) = ((max acc (1 + g es[i].f_To) : Nat) : Int) := by
     rw [Wn (by omega) (by omega)]
     split <;> omega
    rw [h1, Option.bind_some, e1] at hb
    have ih := z29 hg hl hr n (i + 1) (max acc (1 + g es[i].f_To)) (by omega) (by omega)
    unfold zy at ih ⊢
    rw [yx (s' := (((max acc (1 + g es[i].f_To) : Nat) : Int), ((i + 1 : Nat) : Int))) hb]
    exact ih
   ·rw [h1] at hb
    refine .inr ⟨?_, h2⟩
    unfold zy
    exact yq (x := none) hb
  ·rw [if_neg c] at hb ⊢
   have ih := z29 hg hl hr n (i + 1) acc (by omega) ha
   unfold zy at ih ⊢
   rw [yx (s' := ((acc : Int), ((i + 1 : Nat) : Int))) hb]
   exact ih
theorem zki {es : List G_QEdge} {rk : K → Nat} (hr : Rank es rk) (hl : es.length ≤ 400) : ∀ (n : Nat) (k : K), qc none n es k = some (lv es k : Int) ∨ (qc none n es k = none ∧ ¬ rk k < n)
 | 0, k => .inr ⟨rfl, Nat.not_lt_zero _⟩
 | n + 1, k => by
  have h := z29 (T := rk k < n + 1) (rec0 := qc none n) (es := es) (k := k) (g := lv es) (fun y => by have := zon (es := es) y; omega) hl (fun e he hk => by
   rcases zki hr hl n e.f_To with h | ⟨h1, h2⟩
   ·exact .inl h
   ·have := hr.dec k e.f_To ⟨e, he, hk, rfl⟩
    exact .inr ⟨h1, by omega⟩) es.length 0 0 (by omega) (by omega)
  rw [List.drop_zero, ← znm hr] at h
  exact h
theorem zpt {es : List G_QEdge} {rk : K → Nat} (hr : Rank es rk) (hl : es.length ≤ 400) (k : K) : qz none es k = some (lv es k : Int) := by
 unfold qz
 refine zlj (fun n o ho => ?_) ⟨rk k + 1, ?_⟩
 ·rcases zki hr hl n k with h | ⟨h, _⟩
  ·rw [h] at ho; cases ho; rfl
  ·rw [h] at ho; cases ho
 ·rcases zki hr hl (rk k + 1) k with h | ⟨_, h⟩
  ·exact h
  ·omega
def gp (es : List G_QEdge) (ks : List K) (n : Nat) : List K := ks.filter fun k => lv es k == n
def grp (es : List G_QEdge) (ks : List K) : Nat → Nat → List (List K)
 | 0, _ => []
 | f + 1, n => if gp es ks n = [] then grp es ks f (n + 1) else gp es ks n :: grp es ks f (n + 1)
theorem zc4 {es : List G_QEdge} {ks : List K} : ∀ (f n : Nat), (∀ k ∈ ks, lv es k < n) → grp es ks f n = []
 | 0, _, _ => rfl
 | f + 1, n, h => by
  unfold grp
  rw [if_pos, zc4 f (n + 1) fun k hk => by have := h k hk; omega]
  unfold gp
  rw [List.filter_eq_nil_iff]
  intro k hk
  have := h k hk
  simp; omega
theorem zel {es : List G_QEdge} {ks : List K} : ∀ (f n : Nat), (grp es ks f n).length ≤ f
 | 0, _ => Nat.le_refl _
 | f + 1, n => by
  have := zel (es := es) (ks := ks) f (n + 1)
  unfold grp
  split
  ·omega
  ·simp only [List.length_cons]; omega
theorem z5v {es : List G_QEdge} {ks : List K} : ∀ (f n : Nat), ∀ l ∈ grp es ks f n, l.length ≤ ks.length
 | 0, _, l, h => by cases h
 | f + 1, n, l, h => by
  unfold grp at h
  split at h
  ·exact z5v f _ l h
  ·rcases List.mem_cons.1 h with rfl | h
   ·exact List.length_filter_le ..
   ·exact z5v f _ l h
theorem rin {es : List G_QEdge} {rk : K → Nat} (hr : Rank es rk) (hl : es.length ≤ 400) {ks : List K} (hkl : ks.length ≤ 1000) {V : List (List K)} {t : Nat} : ∀ (n i : Nat) (acc : List K), i + n = ks.length → acc.length ≤ i →
 xy none es ks V (t : Int) acc (i : Int) = yu none es ks V (t : Int) (acc ++ (ks.drop i).filter fun k => lv es k == t)
 | 0, i, acc, h, ha => by
  have : i = ks.length := by omega
  subst this
  unfold xy
  rw [yq (x := yu none es ks V (t : Int) acc), List.drop_length, List.filter_nil, List.append_nil]
  unfold q8
  rw [if_neg (by simp)]
 | n + 1, i, acc, h, ha => by
  have hi : i < ks.length := by omega
  have hb : q8 none es ks V (t : Int) acc (i : Int) = some (.inl (if (lv es ks[i] == t) = true then acc ++ [ks[i]] else acc, ((i + 1 : Nat) : Int))) := by
   unfold q8 xn
   simp only [Int.toNat_natCast, wo hi, uk]
   rw [if_pos (by simpa using hi), if_pos (by simp; omega), zpt hr hl, Option.bind_some, Wi (by omega)]
   have e : (((lv es ks[i] : Nat) : Int) == (t : Int)) = (lv es ks[i] == t) := by
    rw [Bool.eq_iff_iff, beq_iff_eq, beq_iff_eq]; omega
   rw [e]
   by_cases c : (lv es ks[i] == t) = true
   ·rw [if_pos c, if_pos c, if_pos (by simp; omega)]
   ·rw [if_neg c, if_neg c]
  have ih := rin (V := V) (t := t) hr hl hkl n (i + 1) (if (lv es ks[i] == t) = true then acc ++ [ks[i]] else acc) (by omega) (by split <;> first | (simp only [List.length_append, List.length_singleton]; omega) | omega)
  rw [List.drop_eq_getElem_cons hi, List.filter_cons]
  unfold xy at ih ⊢
  rw [yx hb, ih]
  by_cases c : (lv es ks[i] == t) = true
  ·rw [if_pos c, if_pos c, List.append_assoc]; rfl
  ·rw [if_neg c, if_neg c]
theorem zqj {es : List G_QEdge} {rk : K → Nat} (hr : Rank es rk) (hl : es.length ≤ 400) {ks : List K} (hkl : ks.length ≤ 1000) : ∀ (n t : Nat) (V : List (List K)), t + n = ks.length → V.length ≤ t →
 j4 none es ks V (t : Int) = some (V ++ grp es ks n t)
 | 0, t, V, h, hV => by
  have : t = ks.length := by omega
  subst this
  unfold j4
  rw [yq (x := some V)]
  ·unfold grp; rw [List.append_nil]
  ·unfold q9 jl
   rw [if_neg (by simp)]
 | n + 1, t, V, h, hV => by
  have hb : q9 none es ks V (t : Int) = some (.inl (if gp es ks t = [] then V else V ++ [gp es ks t], ((t + 1 : Nat) : Int))) := by
   have h1 := rin (V := V) (t := t) hr hl hkl ks.length 0 [] (by omega) (by simp)
   rw [List.drop_zero, List.nil_append] at h1
   unfold q9
   rw [if_pos (by simp; omega)]
   refine h1.trans ?_
   show yu none es ks V (t : Int) (gp es ks t) = _
   unfold yu xp
   rw [Wi (by omega)]
   by_cases c : gp es ks t = []
   ·rw [if_pos c, c, if_neg (by simp)]
   ·have := List.length_pos_iff.2 c
    rw [if_neg c, if_pos (by simp; omega), if_pos (by simp; omega)]
  have eg : grp es ks (n + 1) t = if gp es ks t = [] then grp es ks n (t + 1) else gp es ks t :: grp es ks n (t + 1) := rfl
  rw [eg]
  have ih := zqj hr hl hkl n (t + 1) (if gp es ks t = [] then V else V ++ [gp es ks t]) (by omega) (by split <;> first | (simp only [List.length_append, List.length_singleton]; omega) | omega)
  unfold j4 at ih ⊢
  rw [yx hb, ih]
  by_cases c : gp es ks t = []
  ·rw [if_pos c, if_pos c]
  ·rw [if_neg c, if_neg c, List.append_assoc]; rfl
theorem zkz {es : List G_QEdge} {ks : List K} {M : Gm} (hg : Graph false es ks M) {rk : K → Nat} (hr : Rank es rk) (hl : es.length ≤ 400) : xt none es = some (grp es ks ks.length 0) := by
 have hkl := hg.klen
 unfold xt
 rw [z88 hg hl, Option.bind_some]
 exact zqj hr hl (by omega) ks.length 0 [] (by omega) (by simp)
end Go.Proofs.Ytejfgjggcoemeaa
