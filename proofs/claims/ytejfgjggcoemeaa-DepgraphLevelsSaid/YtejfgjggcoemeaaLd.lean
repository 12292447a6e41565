/-
  The order of the keys: the program's steps are the reference's; they come to an end just where there is no cycle; no condition.
-/
import Derived.Test.YtejfgjggcoemeaaLc
namespace Go.Proofs.Ytejfgjggcoemeaa
open Go.Fx Go.Sort
set_option linter.unusedVariables false
abbrev Rc (es : List G_QEdge) := Reach (adj false es)
def rdy (es : List G_QEdge) (P : List K) (k : K) : Bool := decide (k ∉ P) && decide (∀ e ∈ es, e.f_From = k → e.f_To ∈ P)
theorem W3 {es : List G_QEdge} {P : List K} {k : K} : rdy es P k = true ↔ k ∉ P ∧ ∀ y, adj false es k y → y ∈ P := by
 unfold rdy
 rw [Bool.and_eq_true, decide_eq_true_eq, decide_eq_true_eq]
 constructor
 ·rintro ⟨h1, h2⟩
  exact ⟨h1, fun y ⟨e, he, a, b⟩ => b ▸ h2 e he a⟩
 ·rintro ⟨h1, h2⟩
  exact ⟨h1, fun e he a => h2 _ ⟨e, he, a, rfl⟩⟩
def zpp (seen : List (K × Int)) (P : List K) : Prop := ∀ k, (lk ze seen k).getD 0 ≠ 0 ↔ k ∈ P
theorem z4y {l : List K} {seen : List (K × Int)} (hl : l.length ≤ 1000000) : ∀ (n i : Nat), i + n = l.length → ∃ r : Int, y6 none l seen (i : Int) = some r ∧ (0 ≤ r ↔ ∃ y ∈ l.drop i, (lk ze seen y).getD 0 = 0)
 | 0, i, h => by
  have : i = l.length := by omega
  subst this
  refine ⟨-1, ?_, by simp⟩
  unfold y6
  rw [yq (x := some (-1))]
  unfold y7 xr
  rw [if_neg (by simp)]
 | n + 1, i, h => by
  have hi : i < l.length := by omega
  have hb : y7 none l seen (i : Int) = if (lk ze seen l[i]).getD 0 = 0 then some (.inr (i : Int)) else some (.inl ((i + 1 : Nat) : Int)) := by
   unfold y7 jc
   simp only [Int.toNat_natCast, wo hi, uk, Option.bind_some]
   rw [if_pos (by simpa using hi), if_pos (by simp; omega)]
   by_cases c : (lk ze seen l[i]).getD 0 = 0
   ·rw [if_pos (by simpa using c), if_pos c]; rfl
   ·rw [if_neg (by simpa using c), if_neg c, Wi (by omega)]
  rw [List.drop_eq_getElem_cons hi]
  by_cases c : (lk ze seen l[i]).getD 0 = 0
  ·rw [if_pos c] at hb
   refine ⟨i, ?_, ⟨fun _ => ⟨_, List.mem_cons_self .., c⟩, fun _ => by omega⟩⟩
   unfold y6
   rw [yq (x := some (i : Int)) hb]
  ·rw [if_neg c] at hb
   obtain ⟨r, h1, h2⟩ := z4y hl n (i + 1) (by omega)
   refine ⟨r, ?_, ?_⟩
   ·unfold y6 at h1 ⊢
    rw [yx hb]; exact h1
   ·rw [h2]
    constructor
    ·rintro ⟨y, hy, h⟩; exact ⟨y, List.mem_cons_of_mem _ hy, h⟩
    ·rintro ⟨y, hy, h⟩
     rcases List.mem_cons.1 hy with rfl | hy
     ·exact absurd h c
     ·exact ⟨y, hy, h⟩
theorem zia {es : List G_QEdge} {ks ks' : List K} {M : Gm} (hg : Graph false es ks M) (hl : es.length ≤ 400) {seen : List (K × Int)} {P : List K} (hs : zpp seen P) (k : K) : xx none k ks' seen M = some (rdy es P k) := by
 have hnl := hg.nlen k
 obtain ⟨r, h1, h2⟩ := z4y (l := nx M k) (seen := seen) (by omega) (nx M k).length 0 (by omega)
 rw [List.drop_zero] at h2
 unfold xx ql xh
 by_cases c : k ∈ P
 ·have := (hs k).2 c
  rw [if_neg (by simpa using this), Option.bind_some]
  congr 1
  unfold rdy
  rw [decide_eq_false (fun h => h c), Bool.false_and, show ((lk ze seen k).getD 0 == 0) = false by simpa using this, Bool.false_and]
 ·have h0 : (lk ze seen k).getD 0 = 0 := Decidable.byContradiction fun h => c ((hs k).1 h)
  rw [if_pos (by simpa using h0)]
  show Option.bind (Option.bind (y6 none (nx M k) seen ((0 : Nat) : Int)) _) _ = _
  rw [h1, Option.bind_some, Option.bind_some]
  congr 1
  unfold rdy
  rw [decide_eq_true c, Bool.true_and, show ((lk ze seen k).getD 0 == 0) = true by simpa using h0, Bool.true_and, Bool.eq_iff_iff, Bool.not_eq_true', decide_eq_false_iff_not, decide_eq_true_eq]
  constructor
  ·intro h e he hk
   have hy : e.f_To ∈ nx M k := (hg.nmem k e.f_To).2 ⟨e, he, hk, rfl⟩
   refine (hs e.f_To).1 fun hz => h ?_
   exact h2.2 ⟨_, hy, hz⟩
  ·intro h hr
   obtain ⟨y, hy, hz⟩ := h2.1 hr
   obtain ⟨e, he, hk, rfl⟩ := (hg.nmem k y).1 hy
   exact (hs (dst false e)).2 (h e he hk) hz
def zrb (es : List G_QEdge) (ks : List K) : Nat → List K → Option (List K)
 | 0, P => some P
 | n + 1, P => match ks.find? (rdy es P) with
  | some k => zrb es ks n (P ++ [k])
  | none => none
def zjh (es : List G_QEdge) (ks : List K) : Nat → List K → List K
 | 0, P => P
 | n + 1, P => match ks.find? (rdy es P) with
  | some k => zjh es ks n (P ++ [k])
  | none => zjh es ks n P
inductive Placed (es : List G_QEdge) : List K → Prop
 | nil : Placed es []
 | snoc {P : List K} {k : K} : Placed es P → k ∉ P → (∀ y, adj false es k y → y ∈ P) → Placed es (P ++ [k])
theorem Placed.ok {es : List G_QEdge} {P : List K} (h : Placed es P) : P.Nodup ∧ ∀ x ∈ P, (∀ y, Rc es x y → y ∈ P) ∧ ¬ Rc es x x := by
 induction h with
 | nil => exact ⟨by simp, fun x hx => by cases hx⟩
 | @snoc P k h hk hc ih =>
  obtain ⟨h1, h2⟩ := ih
  refine ⟨?_, fun x hx => ?_⟩
  ·rw [List.nodup_append]
   exact ⟨h1, by simp, fun a ha b hb => by rw [List.mem_singleton] at hb; subst hb; exact fun e => hk (e ▸ ha)⟩
  ·have all : ∀ y, Rc es k y → y ∈ P := fun y hy => hy.closed (S := fun y => y ∈ P) (fun b hb => hc b hb) (fun b c hb hbc => (h2 b hb).1 c (.one hbc))
   rcases List.mem_append.1 hx with hx | hx
   ·exact ⟨fun y hy => List.mem_append.2 (.inl ((h2 x hx).1 y hy)), (h2 x hx).2⟩
   ·rw [List.mem_singleton] at hx
    subst hx
    exact ⟨fun y hy => List.mem_append.2 (.inl (all y hy)), fun hh => hk (all _ hh)⟩
theorem z4i {a b : List K} (ha : a.Nodup) (hs : ∀ x ∈ a, x ∈ b) (hl : b.length ≤ a.length) : ∀ x ∈ b, x ∈ a := fun x hx => Decidable.byContradiction fun h => by
 have := X4 (a := x :: a) (b := b) (List.nodup_cons.2 ⟨h, ha⟩) (fun y hy => by
  rcases List.mem_cons.1 hy with rfl | hy
  ·exact hx
  ·exact hs y hy)
 simp only [List.length_cons] at this; omega
theorem Reach.first {R : K → K → Prop} {a c : K} (h : Reach R a c) : ∃ b, R a b := by
 cases h with
 | one h => exact ⟨_, h⟩
 | step h _ => exact ⟨_, h⟩
theorem zax {es : List G_QEdge} {ks : List K} {M : Gm} (hg : Graph false es ks M) (hl : es.length ≤ 400) (ha : ∀ k, ¬ Rc es k k) {P : List K} : ∀ (n : Nat) (k : K) (l : List K), IsReach false es k l → l.length ≤ n → k ∈ ks → k ∉ P → ∃ j ∈ ks, rdy es P j = true := by
 intro n
 induction n with
 | zero =>
  intro k l hr hn hk hp
  refine ⟨k, hk, W3.2 ⟨hp, fun y hy => ?_⟩⟩
  have : y ∈ l := (hr.2 y).2 (.one hy)
  have := List.length_pos_of_mem this
  omega
 | succ n ih =>
  intro k l hr hn hk hp
  by_cases hc : ∀ y, adj false es k y → y ∈ P
  ·exact ⟨k, hk, W3.2 ⟨hp, hc⟩⟩
  ·obtain ⟨y, hy⟩ := Classical.not_forall.1 hc
   obtain ⟨hy, hyP⟩ := Classical.not_imp.1 hy
   obtain ⟨m, _, hm⟩ := Ys hl y
   have hyk : y ∈ ks := by
    obtain ⟨e, he, _, rfl⟩ := hy
    exact (hg.mem _).2 ⟨e, he, .inr rfl⟩
   refine ih y m hm ?_ hyk hyP
   have hsub : (y :: m).length ≤ l.length := X4 (List.nodup_cons.2 ⟨fun h => ha y ((hm.2 y).1 h), Zd hm.1⟩) (fun x hx => by
    rcases List.mem_cons.1 hx with rfl | hx
    ·exact (hr.2 x).2 (.one hy)
    ·exact (hr.2 x).2 (.step hy ((hm.2 x).1 hx)))
   simp only [List.length_cons] at hsub; omega
theorem z0r {es : List G_QEdge} (hl : es.length ≤ 400) : ∀ (n i : Nat) (o : List K), i + n = es.length → o.length = 2 * i → ja none es o (i : Int) = jb none (o ++ (es.drop i).flatMap fun e => [e.f_From, e.f_To])
 | 0, i, o, h, ho => by
  have : i = es.length := by omega
  subst this
  unfold ja
  rw [List.drop_length, List.flatMap_nil, List.append_nil]
  refine yq ?_
  unfold x8
  rw [if_neg (by simp)]
 | n + 1, i, o, h, ho => by
  have hi : i < es.length := by omega
  have ih := z0r hl n (i + 1) (o ++ [es[i].f_From, es[i].f_To]) (by omega) (by simp; omega)
  rw [List.drop_eq_getElem_cons hi, List.flatMap_cons, ← List.append_assoc]
  unfold ja at ih ⊢
  rw [yx (s' := (o ++ [es[i].f_From, es[i].f_To], ((i + 1 : Nat) : Int)))]
  ·exact ih
  ·unfold x8
   simp only [Int.toNat_natCast, wo hi, uk]
   rw [if_pos (by simpa using hi), if_pos (by simp; omega), if_pos (by simp; omega), Wi (by omega)]
theorem z88 {es : List G_QEdge} {ks : List K} {M : Gm} (hg : Graph false es ks M) (hl : es.length ≤ 400) : xg none es = some ks := by
 have h := z0r hl es.length 0 [] (by omega) (by simp)
 have hlen : ∀ l : List G_QEdge, (l.flatMap fun e => [e.f_From, e.f_To]).length = 2 * l.length := fun l => by
  induction l with
  | nil => rfl
  | cons e r ih => rw [List.flatMap_cons, List.length_append, ih]; simp; omega
 obtain ⟨r, h1, h2, h3, _⟩ := Xo (a0 := es.flatMap fun e => [e.f_From, e.f_To]) (by rw [hlen]; omega)
 have : r = ks := z63 h2 hg.srt fun x => by
  rw [h3, hg.mem, List.mem_flatMap]
  constructor
  ·rintro ⟨e, he, hx⟩
   refine ⟨e, he, ?_⟩
   simp only [List.mem_cons, List.not_mem_nil, or_false] at hx
   exact hx
  ·rintro ⟨e, he, hx⟩
   refine ⟨e, he, ?_⟩
   simp only [List.mem_cons, List.not_mem_nil, or_false]
   exact hx
 subst this
 unfold xg
 rw [show (0 : Int) = ((0 : Nat) : Int) from rfl, h, List.drop_zero, List.nil_append]
 unfold jb
 rw [h1]; rfl
theorem z7w {es : List G_QEdge} {ks : List K} (hl : es.length ≤ 400) (hkl : ks.length ≤ 1000) : ∀ (n i : Nat), i + n = ks.length → ∃ b, qw none es ks (i : Int) = some b ∧ (b = true ↔ ∃ k ∈ ks.drop i, Rc es k k)
 | 0, i, h => by
  have : i = ks.length := by omega
  subst this
  refine ⟨false, ?_, by simp⟩
  unfold qw
  rw [yq (x := some false)]
  unfold qa jp
  rw [if_neg (by simp)]
 | n + 1, i, h => by
  have hi : i < ks.length := by omega
  obtain ⟨l, h1, h2⟩ := Ys hl ks[i]
  have hll := Vl h2
  have hb : qa none es ks (i : Int) = if ks[i] ∈ l then some (.inr true) else some (.inl ((i + 1 : Nat) : Int)) := by
   unfold qa
   simp only [Int.toNat_natCast, wo hi, uk]
   rw [if_pos (by simpa using hi), if_pos (by simp; omega), h1, Option.bind_some, Vq (by omega), Option.bind_some]
   by_cases c : ks[i] ∈ l
   ·rw [if_pos (by simpa using c), if_pos c]; rfl
   ·rw [if_neg (by simpa using c), if_neg c, Wi (by omega)]
  rw [List.drop_eq_getElem_cons hi]
  by_cases c : ks[i] ∈ l
  ·rw [if_pos c] at hb
   refine ⟨true, ?_, ⟨fun _ => ⟨_, List.mem_cons_self .., (h2.2 _).1 c⟩, fun _ => rfl⟩⟩
   unfold qw
   rw [yq (x := some true) hb]
  ·rw [if_neg c] at hb
   obtain ⟨b, g1, g2⟩ := z7w hl hkl n (i + 1) (by omega)
   refine ⟨b, ?_, ?_⟩
   ·unfold qw at g1 ⊢
    rw [yx hb]; exact g1
   ·rw [g2]
    constructor
    ·rintro ⟨k, hk, h⟩; exact ⟨k, List.mem_cons_of_mem _ hk, h⟩
    ·rintro ⟨k, hk, h⟩
     rcases List.mem_cons.1 hk with rfl | hk
     ·exact absurd ((h2.2 _).2 h) c
     ·exact ⟨k, hk, h⟩
theorem zeg {es : List G_QEdge} {ks : List K} {M : Gm} (hg : Graph false es ks M) (hl : es.length ≤ 400) : ∃ b, xv none es = some b ∧ (b = true ↔ ∃ k, Rc es k k) := by
 have hkl := hg.klen
 obtain ⟨b, h1, h2⟩ := z7w (ks := ks) hl (by omega) ks.length 0 (by omega)
 refine ⟨b, ?_, h2.trans ?_⟩
 ·unfold xv
  rw [z88 hg hl, Option.bind_some]; exact h1
 ·rw [List.drop_zero]
  constructor
  ·rintro ⟨k, _, h⟩; exact ⟨k, h⟩
  ·rintro ⟨k, h⟩
   obtain ⟨b, e, he, h5, _⟩ := h.first
   exact ⟨k, (hg.mem k).2 ⟨e, he, .inl h5.symm⟩, h⟩
end Go.Proofs.Ytejfgjggcoemeaa
