/-
  The order of the keys: the program's steps are the reference's; they come to an end just where there is no cycle; no condition.
-/
import Derived.Test.YtejfgjggcoemeaaLc
namespace Go.Proofs.Ytejfgjggcoemeaa
open Go.Fx Go.Sort
set_option linter.unusedVariables false
abbrev Rc (es : List G_QEdge) := Reach (adj false es)
def rdy (es : List G_QEdge) (P : List K) (k : K) : Bool := decide (k ∉ P) && decide (∀ e ∈ es, e.f_From = k → e.f_To ∈ P)
theorem z0y {es : List G_QEdge} {P : List K} {k : K} : rdy es P k = true ↔ k ∉ P ∧ ∀ y, adj false es k y → y ∈ P := by
 unfold rdy
 rw [Bool.and_eq_true, decide_eq_true_eq, decide_eq_true_eq]
 constructor
 ·rintro ⟨h1, h2⟩
  exact ⟨h1, fun y ⟨e, he, a, b⟩ => b ▸ h2 e he a⟩
 ·rintro ⟨h1, h2⟩
  exact ⟨h1, fun e he a => h2 _ ⟨e, he, a, rfl⟩⟩
def zny (seen : List (K × Int)) (P : List K) : Prop := ∀ k, (lk ze seen k).getD 0 ≠ 0 ↔ k ∈ P
theorem z3q {l : List K} {seen : List (K × Int)} (hl : l.length ≤ 1000000) : ∀ (n i : Nat), i + n = l.length → ∃ r : Int, y7 none l seen (i : Int) = some r ∧ (0 ≤ r ↔ ∃ y ∈ l.drop i, (lk ze seen y).getD 0 = 0)
 | 0, i, h => by
  have : i = l.length := by omega
  subst this
  refine ⟨-1, ?_, by simp⟩
  unfold y7
  rw [yp (x := some (-1))]
  unfold y8 xn
  rw [if_neg (by simp)]
 | n + 1, i, h => by
  have hi : i < l.length := by omega
  have hb : y8 none l seen (i : Int) = if (lk ze seen l[i]).getD 0 = 0 then some (.inr (i : Int)) else some (.inl ((i + 1 : Nat) : Int)) := by
   unfold y8 j0
   simp only [Int.toNat_natCast, wc hi, ky, Option.bind_some]
   rw [if_pos (by simpa using hi), if_pos (by simp; omega)]
   by_cases c : (lk ze seen l[i]).getD 0 = 0
   ·rw [if_pos (by simpa using c), if_pos c]; rfl
   ·rw [if_neg (by simpa using c), if_neg c, Wi (by omega)]
  rw [List.drop_eq_getElem_cons hi]
  by_cases c : (lk ze seen l[i]).getD 0 = 0
  ·rw [if_pos c] at hb
   refine ⟨i, ?_, ⟨fun _ => ⟨_, List.mem_cons_self .., c⟩, fun _ => by omega⟩⟩
   unfold y7
   rw [yp (x := some (i : Int)) hb]
  ·rw [if_neg c] at hb
   obtain ⟨r, h1, h2⟩ := z3q hl n (i + 1) (by omega)
   refine ⟨r, ?_, ?_⟩
   ·unfold y7 at h1 ⊢
    rw [qm hb]; exact h1
   ·rw [h2]
    constructor
    ·rintro ⟨y, hy, h⟩; exact ⟨y, List.mem_cons_of_mem _ hy, h⟩
    ·rintro ⟨y, hy, h⟩
     rcases List.mem_cons.1 hy with rfl | hy
     ·exact absurd h c
     ·exact ⟨y, hy, h⟩
theorem zgt {es : List G_QEdge} {ks ks' : List K} {M : Gm} (hg : Graph false es ks M) (hl : es.length ≤ 400) {seen : List (K × Int)} {P : List K} (hs : zny seen P) (k : K) : xv none k ks' seen M = some (rdy es P k) := by
 have hnl := hg.nlen k
 obtain ⟨r, h1, h2⟩ := z3q (l := nx M k) (seen := seen) (by omega) (nx M k).length 0 (by omega)
 rw [List.drop_zero] at h2
 unfold xv qk xf
 by_cases c : k ∈ P
 ·have := (hs k).2 c
  rw [if_neg (by simpa using this), Option.bind_some]
  congr 1
  unfold rdy
  rw [decide_eq_false (fun h => h c), Bool.false_and, show ((lk ze seen k).getD 0 == 0) = false by simpa using this, Bool.false_and]
 ·have h0 : (lk ze seen k).getD 0 = 0 := Decidable.byContradiction fun h => c ((hs k).1 h)
  rw [if_pos (by simpa using h0)]
  show Option.bind (Option.bind (y7 none (nx M k) seen ((0 : Nat) : Int)) _) _ = _
  rw [h1, Option.bind_some, Option.bind_some]
  congr 1
  unfold rdy
  rw [decide_eq_true c, Bool.true_and, show ((lk ze seen k).getD 0 == 0) = true by simpa using h0, Bool.true_and, Bool.eq_iff_iff, Bool.not_eq_true', decide_eq_false_iff_not, decide_eq_true_eq]
  constructor
  ·intro h e he hk
   have hy : e.f_To ∈ nx M k := (hg.nmem k e.f_To).2 ⟨e, he, hk, rfl⟩
   refine (hs e.f_To).1 fun hz => h ?_
   exact h2.2 ⟨_, hy, hz⟩
  ·intro h hr
   obtain ⟨y, hy, hz⟩ := h2.1 hr
   obtain ⟨e, he, hk, rfl⟩ := (hg.nmem k y).1 hy
   exact (hs (dst false e)).2 (h e he hk) hz
theorem z3r {ks : List K} {g : Unit → K → Option (Bool × Unit)} {p : K → Bool} (hgp : ∀ x, g () x = some (p x, ())) (hl : ks.length ≤ 1000000) : ∀ (n i : Nat), i + n = ks.length →
 (∃ j, ∃ h : j < ks.length, i ≤ j ∧ zc g none ks (i : Int) () = some ((j : Int), ()) ∧ (ks.drop i).find? p = some ks[j]) ∨ (zc g none ks (i : Int) () = some (-1, ()) ∧ (ks.drop i).find? p = none)
 | 0, i, h => by
  have : i = ks.length := by omega
  subst this
  refine .inr ⟨?_, by rw [List.drop_length]; rfl⟩
  unfold zc
  rw [yp (x := some (-1, ()))]
  unfold zu qz
  rw [if_neg (by simp)]
 | n + 1, i, h => by
  have hi : i < ks.length := by omega
  have hb : zu g none ks (i : Int) () = if p ks[i] = true then some (.inr ((i : Int), ())) else some (.inl (((i + 1 : Nat) : Int), ())) := by
   unfold zu
   simp only [Int.toNat_natCast, wc hi, ky, hgp, Option.bind_some]
   rw [if_pos (by simpa using hi), if_pos (by simp; omega)]
   by_cases c : p ks[i] = true
   ·rw [if_pos c, if_pos c]; rfl
   ·rw [if_neg c, if_neg c, Wi (by omega)]
  rw [List.drop_eq_getElem_cons hi, List.find?_cons]
  by_cases c : p ks[i] = true
  ·rw [if_pos c] at hb
   refine .inl ⟨i, hi, Nat.le_refl _, ?_, by rw [c]⟩
   unfold zc
   rw [yp (x := some ((i : Int), ())) hb]
  ·rw [if_neg c] at hb
   have e : zc g none ks (i : Int) () = zc g none ks ((i + 1 : Nat) : Int) () := by
    unfold zc
    rw [qm hb]
   rw [e, Bool.eq_false_iff.2 c]
   rcases z3r hgp hl n (i + 1) (by omega) with ⟨j, hj, h1, h2, h3⟩ | h1
   ·exact .inl ⟨j, hj, by omega, h2, h3⟩
   ·exact .inr h1
def za5 (es : List G_QEdge) (ks : List K) : Nat → List K → Option (List K)
 | 0, P => some P
 | n + 1, P => match ks.find? (rdy es P) with
  | some k => za5 es ks n (P ++ [k])
  | none => none
def Ki (es : List G_QEdge) (ks : List K) : Nat → List K → List K
 | 0, P => P
 | n + 1, P => match ks.find? (rdy es P) with
  | some k => Ki es ks n (P ++ [k])
  | none => Ki es ks n P
theorem K7 {es : List G_QEdge} {ks : List K} : ∀ (n : Nat) (P P' : List K), za5 es ks n P = some P' → Ki es ks n P = P' ∧ P'.length = P.length + n
 | 0, P, P', h => by cases h; exact ⟨rfl, rfl⟩
 | n + 1, P, P', h => by
  unfold za5 at h
  unfold Ki
  cases hf : ks.find? (rdy es P) with
  | none => rw [hf] at h; cases h
  | some k =>
   rw [hf] at h
   obtain ⟨h1, h2⟩ := K7 n _ _ h
   exact ⟨h1, by rw [h2]; simp; omega⟩
theorem zb9 {seen : List (K × Int)} {P : List K} (h : zny seen P) (k : K) : zny (mp ze seen k 1) (P ++ [k]) := fun j => by
 rw [lkM (hq := zbh)]
 by_cases hj : k = j
 ·subst hj; rw [if_pos rfl]; simp
 ·rw [if_neg hj, h j, List.mem_append, List.mem_singleton]
  exact ⟨.inl, fun h => h.resolve_right (fun e => hj e.symm)⟩
theorem z8e {es : List G_QEdge} {ks : List K} {M : Gm} (hg : Graph false es ks M) (hl : es.length ≤ 400) : ∀ (n : Nat) (P : List K) (seen : List (K × Int)), P.length + n = ks.length → zny seen P →
 yr none (ks, M) P seen = some (match za5 es ks n P with | some P' => (P', 0) | none => ([], 8))
 | 0, P, seen, h, hs => by
  unfold yr
  rw [yp (x := some (P, 0))]
  ·rfl
  ·unfold y6 xp
   rw [if_neg (by simp; omega)]
 | n + 1, P, seen, h, hs => by
  have hkl := hg.klen
  have hgp : ∀ x, (fun (s : Unit) (x : K) => (zm none ks seen M x).map fun o => (o, ())) () x = some (rdy es P x, ()) := fun x => by
   show (zm none ks seen M x).map _ = _
   unfold zm
   rw [zgt hg hl hs]; rfl
  unfold za5
  rcases z3r (ks := ks) (g := fun (s : Unit) (x : K) => (zm none ks seen M x).map fun o => (o, ())) (p := rdy es P) hgp (by omega) ks.length 0 (by omega) with ⟨j, hj, _, h2, h3⟩ | ⟨h2, h3⟩
  ·rw [List.drop_zero] at h3
   rw [h3]
   have ih := z8e hg hl n (P ++ [ks[j]]) (mp ze seen ks[j] 1) (by simp; omega) (zb9 hs _)
   unfold yr at ih ⊢
   rw [qm (s' := (P ++ [ks[j]], mp ze seen ks[j] 1))]
   ·exact ih
   ·unfold y6 yu
    rw [if_pos (by simp; omega)]
    show Option.bind (zc _ none ks ((0 : Nat) : Int) ()) _ = _
    rw [h2, Option.bind_some, if_neg (by simp)]
    simp only [Int.toNat_natCast, wc hj, ky]
    rw [if_pos (by simp; omega), if_pos (by simp; omega), if_pos (by simp; omega)]
  ·rw [List.drop_zero] at h3
   rw [h3]
   unfold yr
   rw [yp (x := some ([], 8))]
   unfold y6 yu
   rw [if_pos (by simp; omega)]
   show Option.bind (zc _ none ks ((0 : Nat) : Int) ()) _ = _
   rw [h2, Option.bind_some, if_pos (by decide)]
theorem zmo {es : List G_QEdge} {ks : List K} {M : Gm} (hg : Graph false es ks M) (hn : qo none es false = some (ks, M)) (hl : es.length ≤ 400) :
 qc none es = some (match za5 es ks ks.length [] with | some P' => (P', 0) | none => ([], 8)) := by
 unfold qc
 rw [hn, Option.bind_some]
 exact z8e hg hl ks.length [] [] (by simp) (fun k => by simp [lk])
inductive Placed (es : List G_QEdge) : List K → Prop
 | nil : Placed es []
 | snoc {P : List K} {k : K} : Placed es P → k ∉ P → (∀ y, adj false es k y → y ∈ P) → Placed es (P ++ [k])
theorem Placed.ok {es : List G_QEdge} {P : List K} (h : Placed es P) : P.Nodup ∧ ∀ x ∈ P, (∀ y, Rc es x y → y ∈ P) ∧ ¬ Rc es x x := by
 induction h with
 | nil => exact ⟨by simp, fun x hx => by cases hx⟩
 | @snoc P k h hk hc ih =>
  obtain ⟨h1, h2⟩ := ih
  refine ⟨?_, fun x hx => ?_⟩
  ·rw [List.nodup_append]
   exact ⟨h1, by simp, fun a ha b hb => by rw [List.mem_singleton] at hb; subst hb; exact fun e => hk (e ▸ ha)⟩
  ·have all : ∀ y, Rc es k y → y ∈ P := fun y hy => hy.closed (S := fun y => y ∈ P) (fun b hb => hc b hb) (fun b c hb hbc => (h2 b hb).1 c (.one hbc))
   rcases List.mem_append.1 hx with hx | hx
   ·exact ⟨fun y hy => List.mem_append.2 (.inl ((h2 x hx).1 y hy)), (h2 x hx).2⟩
   ·rw [List.mem_singleton] at hx
    subst hx
    exact ⟨fun y hy => List.mem_append.2 (.inl (all y hy)), fun hh => hk (all _ hh)⟩
theorem ze8 {ks : List K} {p : K → Bool} {k : K} (h : ks.find? p = some k) : k ∈ ks ∧ p k = true := ⟨List.mem_of_find?_eq_some h, List.find?_some h⟩
theorem Ul {es : List G_QEdge} {ks : List K} : ∀ (n : Nat) (P P' : List K), za5 es ks n P = some P' → Placed es P → (∀ x ∈ P, x ∈ ks) → Placed es P' ∧ ∀ x ∈ P', x ∈ ks
 | 0, P, P', h, hp, hs => by cases h; exact ⟨hp, hs⟩
 | n + 1, P, P', h, hp, hs => by
  unfold za5 at h
  cases hf : ks.find? (rdy es P) with
  | none => rw [hf] at h; cases h
  | some k =>
   rw [hf] at h
   obtain ⟨h1, h2⟩ := ze8 hf
   obtain ⟨h3, h4⟩ := z0y.1 h2
   exact Ul n _ _ h (.snoc hp h3 h4) (fun x hx => by
    rcases List.mem_append.1 hx with hx | hx
    ·exact hs x hx
    ·rw [List.mem_singleton] at hx; subst hx; exact h1)
theorem zb7 {a b : List K} (ha : a.Nodup) (hs : ∀ x ∈ a, x ∈ b) (hl : b.length ≤ a.length) : ∀ x ∈ b, x ∈ a := fun x hx => Decidable.byContradiction fun h => by
 have := Xn (a := x :: a) (b := b) (List.nodup_cons.2 ⟨h, ha⟩) (fun y hy => by
  rcases List.mem_cons.1 hy with rfl | hy
  ·exact hx
  ·exact hs y hy)
 simp only [List.length_cons] at this; omega
theorem Reach.first {R : K → K → Prop} {a c : K} (h : Reach R a c) : ∃ b, R a b := by
 cases h with
 | one h => exact ⟨_, h⟩
 | step h _ => exact ⟨_, h⟩
theorem z8t {es : List G_QEdge} {ks : List K} {M : Gm} (hg : Graph false es ks M) {k : K} (hk : Rc es k k) : za5 es ks ks.length [] = none := by
 cases ht : za5 es ks ks.length [] with
 | none => rfl
 | some P =>
  obtain ⟨h1, h2⟩ := Ul _ _ _ ht .nil (fun x hx => by cases hx)
  have h3 := (K7 _ _ _ ht).2
  have h4 := h1.ok
  obtain ⟨b, e, he, h5, _⟩ := hk.first
  have hkk : k ∈ ks := (hg.mem k).2 ⟨e, he, .inl h5.symm⟩
  have := zb7 h4.1 h2 (by simp at h3; omega) k hkk
  exact absurd hk (h4.2 k this).2
theorem z9x {es : List G_QEdge} {ks : List K} {M : Gm} (hg : Graph false es ks M) (hl : es.length ≤ 400) (ha : ∀ k, ¬ Rc es k k) {P : List K} : ∀ (n : Nat) (k : K) (l : List K), IsReach false es k l → l.length ≤ n → k ∈ ks → k ∉ P → ∃ j ∈ ks, rdy es P j = true := by
 intro n
 induction n with
 | zero =>
  intro k l hr hn hk hp
  refine ⟨k, hk, z0y.2 ⟨hp, fun y hy => ?_⟩⟩
  have : y ∈ l := (hr.2 y).2 (.one hy)
  have := List.length_pos_of_mem this
  omega
 | succ n ih =>
  intro k l hr hn hk hp
  by_cases hc : ∀ y, adj false es k y → y ∈ P
  ·exact ⟨k, hk, z0y.2 ⟨hp, hc⟩⟩
  ·obtain ⟨y, hy⟩ := Classical.not_forall.1 hc
   obtain ⟨hy, hyP⟩ := Classical.not_imp.1 hy
   obtain ⟨m, _, hm⟩ := Xc hl y
   have hyk : y ∈ ks := by
    obtain ⟨e, he, _, rfl⟩ := hy
    exact (hg.mem _).2 ⟨e, he, .inr rfl⟩
   refine ih y m hm ?_ hyk hyP
   have hsub : (y :: m).length ≤ l.length := Xn (List.nodup_cons.2 ⟨fun h => ha y ((hm.2 y).1 h), Kf hm.1⟩) (fun x hx => by
    rcases List.mem_cons.1 hx with rfl | hx
    ·exact (hr.2 x).2 (.one hy)
    ·exact (hr.2 x).2 (.step hy ((hm.2 x).1 hx)))
   simp only [List.length_cons] at hsub; omega
theorem Vy {es : List G_QEdge} {ks : List K} {M : Gm} (hg : Graph false es ks M) (hl : es.length ≤ 400) (ha : ∀ k, ¬ Rc es k k) : ∀ (n : Nat) (P : List K), P.length + n = ks.length → Placed es P → (∀ x ∈ P, x ∈ ks) → ∃ P', za5 es ks n P = some P'
 | 0, P, h, hp, hs => ⟨P, rfl⟩
 | n + 1, P, h, hp, hs => by
  have hex : ∃ k ∈ ks, k ∉ P := by
   refine Classical.byContradiction fun hne => ?_
   have := Xn (Kf hg.srt) (b := P) fun x hx => Classical.byContradiction fun hxp => hne ⟨x, hx, hxp⟩
   omega
  obtain ⟨k, hk, hkp⟩ := hex
  obtain ⟨l, _, hr⟩ := Xc hl k
  obtain ⟨j, hj, hjr⟩ := z9x hg hl ha l.length k l hr (Nat.le_refl _) hk hkp
  unfold za5
  cases hf : ks.find? (rdy es P) with
  | none => exact absurd hjr (by have := List.find?_eq_none.1 hf j hj; simpa using this)
  | some i =>
   obtain ⟨h1, h2⟩ := ze8 hf
   obtain ⟨h3, h4⟩ := z0y.1 h2
   exact Vy hg hl ha n (P ++ [i]) (by simp; omega) (.snoc hp h3 h4) (fun x hx => by
    rcases List.mem_append.1 hx with hx | hx
    ·exact hs x hx
    ·rw [List.mem_singleton] at hx; subst hx; exact h1)
theorem z06 {es : List G_QEdge} (hl : es.length ≤ 400) : ∀ (n i : Nat) (o : List K), i + n = es.length → o.length = 2 * i → xz none es o (i : Int) = j4 none (o ++ (es.drop i).flatMap fun e => [e.f_From, e.f_To])
 | 0, i, o, h, ho => by
  have : i = es.length := by omega
  subst this
  unfold xz
  rw [List.drop_length, List.flatMap_nil, List.append_nil]
  refine yp ?_
  unfold x6
  rw [if_neg (by simp)]
 | n + 1, i, o, h, ho => by
  have hi : i < es.length := by omega
  have ih := z06 hl n (i + 1) (o ++ [es[i].f_From, es[i].f_To]) (by omega) (by simp; omega)
  rw [List.drop_eq_getElem_cons hi, List.flatMap_cons, ← List.append_assoc]
  unfold xz at ih ⊢
  rw [qm (s' := (o ++ [es[i].f_From, es[i].f_To], ((i + 1 : Nat) : Int)))]
  ·exact ih
  ·unfold x6
   simp only [Int.toNat_natCast, wc hi, ky]
   rw [if_pos (by simpa using hi), if_pos (by simp; omega), if_pos (by simp; omega), Wi (by omega)]
theorem z80 {es : List G_QEdge} {ks : List K} {M : Gm} (hg : Graph false es ks M) (hl : es.length ≤ 400) : xh none es = some ks := by
 have h := z06 hl es.length 0 [] (by omega) (by simp)
 have hlen : ∀ l : List G_QEdge, (l.flatMap fun e => [e.f_From, e.f_To]).length = 2 * l.length := fun l => by
  induction l with
  | nil => rfl
  | cons e r ih => rw [List.flatMap_cons, List.length_append, ih]; simp; omega
 obtain ⟨r, h1, h2, h3, _⟩ := Xa (a0 := es.flatMap fun e => [e.f_From, e.f_To]) (by rw [hlen]; omega)
 have : r = ks := z5m h2 hg.srt fun x => by
  rw [h3, hg.mem, List.mem_flatMap]
  constructor
  ·rintro ⟨e, he, hx⟩
   refine ⟨e, he, ?_⟩
   simp only [List.mem_cons, List.not_mem_nil, or_false] at hx
   exact hx
  ·rintro ⟨e, he, hx⟩
   refine ⟨e, he, ?_⟩
   simp only [List.mem_cons, List.not_mem_nil, or_false]
   exact hx
 subst this
 unfold xh
 rw [show (0 : Int) = ((0 : Nat) : Int) from rfl, h, List.drop_zero, List.nil_append]
 unfold j4
 rw [h1]; rfl
theorem z84 {es : List G_QEdge} {ks : List K} (hl : es.length ≤ 400) (hkl : ks.length ≤ 1000) : ∀ (n i : Nat), i + n = ks.length → ∃ b, qw none es ks (i : Int) = some b ∧ (b = true ↔ ∃ k ∈ ks.drop i, Rc es k k)
 | 0, i, h => by
  have : i = ks.length := by omega
  subst this
  refine ⟨false, ?_, by simp⟩
  unfold qw
  rw [yp (x := some false)]
  unfold yy ji
  rw [if_neg (by simp)]
 | n + 1, i, h => by
  have hi : i < ks.length := by omega
  obtain ⟨l, h1, h2⟩ := Xc hl ks[i]
  have hll := z6c h2
  have hb : yy none es ks (i : Int) = if ks[i] ∈ l then some (.inr true) else some (.inl ((i + 1 : Nat) : Int)) := by
   unfold yy
   simp only [Int.toNat_natCast, wc hi, ky]
   rw [if_pos (by simpa using hi), if_pos (by simp; omega), h1, Option.bind_some, Yf (by omega), Option.bind_some]
   by_cases c : ks[i] ∈ l
   ·rw [if_pos (by simpa using c), if_pos c]; rfl
   ·rw [if_neg (by simpa using c), if_neg c, Wi (by omega)]
  rw [List.drop_eq_getElem_cons hi]
  by_cases c : ks[i] ∈ l
  ·rw [if_pos c] at hb
   refine ⟨true, ?_, ⟨fun _ => ⟨_, List.mem_cons_self .., (h2.2 _).1 c⟩, fun _ => rfl⟩⟩
   unfold qw
   rw [yp (x := some true) hb]
  ·rw [if_neg c] at hb
   obtain ⟨b, g1, g2⟩ := z84 hl hkl n (i + 1) (by omega)
   refine ⟨b, ?_, ?_⟩
   ·unfold qw at g1 ⊢
    rw [qm hb]; exact g1
   ·rw [g2]
    constructor
    ·rintro ⟨k, hk, h⟩; exact ⟨k, List.mem_cons_of_mem _ hk, h⟩
    ·rintro ⟨k, hk, h⟩
     rcases List.mem_cons.1 hk with rfl | hk
     ·exact absurd ((h2.2 _).2 h) c
     ·exact ⟨k, hk, h⟩
theorem zc4 {es : List G_QEdge} {ks : List K} {M : Gm} (hg : Graph false es ks M) (hl : es.length ≤ 400) : ∃ b, xt none es = some b ∧ (b = true ↔ ∃ k, Rc es k k) := by
 have hkl := hg.klen
 obtain ⟨b, h1, h2⟩ := z84 (ks := ks) hl (by omega) ks.length 0 (by omega)
 refine ⟨b, ?_, h2.trans ?_⟩
 ·unfold xt
  rw [z80 hg hl, Option.bind_some]; exact h1
 ·rw [List.drop_zero]
  constructor
  ·rintro ⟨k, _, h⟩; exact ⟨k, h⟩
  ·rintro ⟨k, h⟩
   obtain ⟨b, e, he, h5, _⟩ := h.first
   exact ⟨k, (hg.mem k).2 ⟨e, he, .inl h5.symm⟩, h⟩
theorem zdp {es : List G_QEdge} {P : List K} {k : K} (hl : es.length ≤ 400) (hP : P.length ≤ 100000) : ∀ (n i : Nat), i + n = es.length → q7 none es k P (i : Int) = some (decide (k ∉ P) && decide (∀ e ∈ es.drop i, e.f_From = k → e.f_To ∈ P))
 | 0, i, h => by
  have : i = es.length := by omega
  subst this
  unfold q7
  rw [yp (x := some (!(decide (k ∈ P)))), List.drop_length]
  ·simp
  ·unfold yg j9
   rw [if_neg (by simp), Yf (by omega)]
   rfl
 | n + 1, i, h => by
  have hi : i < es.length := by omega
  have ih := zdp (k := k) hl hP n (i + 1) (by omega)
  have hb : yg none es k P (i : Int) = if es[i].f_From = k ∧ es[i].f_To ∉ P then some (.inr false) else some (.inl ((i + 1 : Nat) : Int)) := by
   unfold yg
   simp only [Int.toNat_natCast, wc hi, ky, eqK, Yf (show P.length ≤ 1000000 by omega)]
   rw [if_pos (by simpa using hi), if_pos (by simp; omega)]
   by_cases c1 : es[i].f_From = k
   ·rw [if_pos (by simp [c1]), Option.bind_some]
    by_cases c2 : es[i].f_To ∈ P
    ·rw [if_neg (by simp [c2]), if_neg (fun h => h.2 c2), Wi (by omega)]
    ·rw [if_pos (by simp [c1, c2]), if_pos ⟨c1, c2⟩]; rfl
   ·rw [if_neg (by simp [c1]), Option.bind_some, if_neg (by simp [c1]), if_neg (fun h => c1 h.1), Wi (by omega)]
  rw [List.drop_eq_getElem_cons hi]
  by_cases c : es[i].f_From = k ∧ es[i].f_To ∉ P
  ·rw [if_pos c] at hb
   unfold q7
   rw [yp (x := some false) hb]
   congr 1
   rw [eq_comm, Bool.and_eq_false_iff]
   refine .inr (decide_eq_false fun h => c.2 (h _ (List.mem_cons_self ..) c.1))
  ·rw [if_neg c] at hb
   unfold q7 at ih ⊢
   rw [qm hb, ih]
   congr 2
   rw [decide_eq_decide]
   constructor
   ·intro h e he hk
    rcases List.mem_cons.1 he with rfl | he
    ·exact Decidable.byContradiction fun h' => c ⟨hk, h'⟩
    ·exact h e he hk
   ·exact fun h e he => h e (List.mem_cons_of_mem _ he)
theorem z2k {es : List G_QEdge} {P : List K} {k : K} (hl : es.length ≤ 400) (hP : P.length ≤ 100000) : xx none es k P = some (rdy es P k) := by
 have := zdp (k := k) hl hP es.length 0 (by omega)
 rw [List.drop_zero] at this
 exact this
theorem zj3 {es : List G_QEdge} {ks P : List K} (hl : es.length ≤ 400) (hkl : ks.length ≤ 1000) (hP : P.length ≤ 10000) {t : Nat} (ht : t ≤ 100000) : ∀ (n i : Nat), i + n = ks.length →
 qe none es ks P (t : Int) (i : Int) = some (.inl ((match (ks.drop i).find? (rdy es P) with | some k => P ++ [k] | none => P), ((t + 1 : Nat) : Int)))
 | 0, i, h => by
  have : i = ks.length := by omega
  subst this
  unfold qe
  rw [yp (x := some (.inl (P, ((t + 1 : Nat) : Int)))), List.drop_length]
  ·rfl
  ·unfold qh x8
   rw [if_neg (by simp), Wi (by omega)]
 | n + 1, i, h => by
  have hi : i < ks.length := by omega
  have ih := zj3 (P := P) hl hkl hP ht n (i + 1) (by omega)
  have hb : qh none es ks P (t : Int) (i : Int) = if rdy es P ks[i] = true then some (.inr (.inl (P ++ [ks[i]], ((t + 1 : Nat) : Int)))) else some (.inl ((i + 1 : Nat) : Int)) := by
   unfold qh x8
   simp only [Int.toNat_natCast, wc hi, ky]
   rw [if_pos (by simpa using hi), if_pos (by simp; omega), z2k hl (by omega), Option.bind_some]
   by_cases c : rdy es P ks[i] = true
   ·rw [if_pos c, if_pos c, if_pos (by simp; omega), Wi (by omega)]; rfl
   ·rw [if_neg c, if_neg c, Wi (by omega)]
  rw [List.drop_eq_getElem_cons hi, List.find?_cons]
  by_cases c : rdy es P ks[i] = true
  ·rw [if_pos c] at hb
   unfold qe
   rw [yp (x := some (.inl (P ++ [ks[i]], ((t + 1 : Nat) : Int)))) hb, c]
  ·rw [if_neg c] at hb
   unfold qe at ih ⊢
   rw [qm hb, ih, Bool.eq_false_iff.2 c]
theorem z10 {es : List G_QEdge} {ks : List K} (hl : es.length ≤ 400) (hkl : ks.length ≤ 1000) : ∀ (n i : Nat) (P : List K), i + n = ks.length → P.length ≤ i → x5 none es ks P (i : Int) = some (Ki es ks n P)
 | 0, i, P, h, hP => by
  have : i = ks.length := by omega
  subst this
  unfold x5
  rw [yp (x := some P)]
  ·rfl
  ·unfold qd jm
   rw [if_neg (by simp)]
 | n + 1, i, P, h, hP => by
  have hin := zj3 (es := es) (ks := ks) (P := P) hl hkl (by omega) (t := i) (by omega) ks.length 0 (by omega)
  rw [List.drop_zero] at hin
  have hb : ∀ Q, qe none es ks P (i : Int) ((0 : Nat) : Int) = some (.inl (Q, ((i + 1 : Nat) : Int))) → qd none es ks P (i : Int) = some (.inl (Q, ((i + 1 : Nat) : Int))) := fun Q hq => by
   unfold qd
   rw [if_pos (by simp; omega)]
   exact hq
  unfold Ki
  cases hf : ks.find? (rdy es P) with
  | some k =>
   rw [hf] at hin
   have ih := z10 hl hkl n (i + 1) (P ++ [k]) (by omega) (by simp; omega)
   unfold x5 at ih ⊢
   rw [qm (hb _ hin)]; exact ih
  | none =>
   rw [hf] at hin
   have ih := z10 hl hkl n (i + 1) P (by omega) (by omega)
   unfold x5 at ih ⊢
   rw [qm (hb _ hin)]; exact ih
theorem zhx {es : List G_QEdge} {ks : List K} {M : Gm} (hg : Graph false es ks M) (hl : es.length ≤ 400) : j8 none es = some (Ki es ks ks.length []) := by
 have hkl := hg.klen
 unfold j8
 rw [z80 hg hl, Option.bind_some]
 exact z10 hl (by omega) ks.length 0 [] (by omega) (by simp)
end Go.Proofs.Ytejfgjggcoemeaa
