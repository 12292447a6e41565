/-
  Own framework.
-/
import Derived.Test.YtkpgfihopaokgaaGreatDoorFxEv
import Derived.Test.YtkpgfihopaokgaaGreatDoorFxZ
namespace Go.Fx
set_option linter.unusedVariables false
namespace Tr
variable {α : Type}
theorem Qf (v : Option α) (l r : Tr α) (j : Nat) : (Tr.nd v l r).get j = if j = 0 then v else if j % 2 = 1 then l.get (j / 2) else r.get (j / 2 - 1) := by
 show (match Nat.beq j 0 with
  | true => v
  | false => match Nat.beq (j % 2) 1 with
   | true => get l (j / 2)
   | false => get r (j / 2 - 1)) = _
 by_cases h : j = 0
 ·subst h; rfl
 ·rw [if_neg h]
  have h0 : Nat.beq j 0 = false := Bool.eq_false_iff.2 fun h' => h (Nat.eq_of_beq_eq_true h')
  rw [h0]
  simp only
  by_cases h1 : j % 2 = 1
  ·rw [if_pos h1, h1]
  ·rw [if_neg h1]
   have : j % 2 = 0 := by omega
   rw [this]
theorem put_get : ∀ (d : Nat) (t : Tr α) (k : Nat) (x : Option α) (t' : Tr α), put d t k x = some t' → ∀ j, t'.get j = if j = k then x else t.get j
 | 0, _, _, _, _, h => by simp [put] at h
 | d + 1, t, k, x, t', h => by
  have key : ∀ (v : Option α) (l r : Tr α), (match Nat.beq k 0 with
   | true => some (Tr.nd x l r)
   | false => match Nat.beq (k % 2) 1 with
    | true => match put d l (k / 2) x with | some l => some (.nd v l r) | none => none
    | false => match put d r (k / 2 - 1) x with | some r => some (.nd v l r) | none => none) = some t' → ∀ j, t'.get j = if j = k then x else (Tr.nd v l r).get j := by
   intro v l r h j
   split at h
   ·rename_i hk
    have hk := Nat.eq_of_beq_eq_true hk
    simp only [Option.some.injEq] at h
    subst h hk
    rw [Qf, Qf]
    by_cases hj : j = 0
    ·rw [if_pos hj, if_pos hj]
    ·rw [if_neg hj, if_neg hj, if_neg hj]
   ·rename_i hk
    have hk := Nat.ne_of_beq_eq_false hk
    split at h
    ·rename_i hk1
     have hk1 := Nat.eq_of_beq_eq_true hk1
     split at h <;> simp only [Option.some.injEq, reduceCtorEq] at h
     rename_i l' hl
     subst h
     have ih := put_get d l (k / 2) x l' hl
     rw [Qf, Qf, ih]
     by_cases hj : j = k
     ·subst hj; rw [if_neg hk, if_pos hk1, if_pos rfl, if_pos rfl]
     ·rw [if_neg hj]
      by_cases h0 : j = 0
      ·rw [if_pos h0, if_pos h0]
      ·rw [if_neg h0, if_neg h0]
       by_cases h1 : j % 2 = 1
       ·rw [if_pos h1, if_pos h1, if_neg (by omega)]
       ·rw [if_neg h1, if_neg h1]
    ·rename_i hk1
     have hk1 := Nat.ne_of_beq_eq_false hk1
     split at h <;> simp only [Option.some.injEq, reduceCtorEq] at h
     rename_i r' hr
     subst h
     have ih := put_get d r (k / 2 - 1) x r' hr
     rw [Qf, Qf, ih]
     by_cases hj : j = k
     ·subst hj; rw [if_neg hk, if_neg hk1, if_pos rfl, if_pos rfl]
     ·rw [if_neg hj]
      by_cases h0 : j = 0
      ·rw [if_pos h0, if_pos h0]
      ·rw [if_neg h0, if_neg h0]
       by_cases h1 : j % 2 = 1
       ·rw [if_pos h1, if_pos h1]
       ·rw [if_neg h1, if_neg h1, if_neg (by omega)]
  cases t with
  | nil =>
   intro j
   have hn : (Tr.nil : Tr α).get j = (Tr.nd none .nil .nil).get j := by rw [Qf]; simp [get]
   rw [hn]
   exact key none .nil .nil (by unfold put at h; exact h) j
  | nd v l r => exact key v l r (by unfold put at h; exact h)
end Tr
theorem zam {i j : Id} {k : Nat} (hi : hix i = some k) (hj : hix j = some k) : i = j := by
 obtain ⟨a, b⟩ := i
 obtain ⟨c, d⟩ := j
 unfold hix at hi hj
 simp only at hi hj
 split at hi <;> split at hj <;> simp only [Option.some.injEq, reduceCtorEq] at hi hj
 all_goals first | (exfalso; omega) | (have : a = c := (by omega); subst this; rfl)
theorem kz {t t' : Tr ABlock} {id : Id} {b : Option ABlock} (h : t.sat id b = some t') (j : Id) : t'.at j = if j = id then b else t.at j := by
 unfold Tr.sat at h
 split at h <;> try (cases h; done)
 rename_i k hk
 have hp := Tr.put_get _ _ _ _ _ h
 unfold Tr.at
 by_cases hj : j = id
 ·subst hj
  rw [hk, if_pos rfl]
  simp only
  rw [hp, if_pos rfl]
 ·rw [if_neg hj]
  cases hx : hix j with
  | none => rfl
  | some k' =>
   simp only
   rw [hp, if_neg]
   rintro rfl
   exact hj (zam hx hk)
structure StR (D : Id → Option ABlock) (H : AHeap) (nn : Nat) (S : Sh) : Prop where
 n : nn = S.n
 h : ∀ id b, S.t.at id = some b → H.get id = some b
 d : ∀ id b, D id = some b → H.get id = some b ∧ S.t.at id = none ∧ id.1 < nn
variable {D : Id → Option ABlock} {H : AHeap} {n : Nat} {S S' : Sh}
theorem StR.new {b : ABlock} (h : StR D H n S) (hs : S.new b = some S') : StR D (((n, 0), b) :: H) (n + 1) S' := by
 unfold Sh.new at hs
 split at hs <;> simp only [Option.some.injEq, reduceCtorEq] at hs
 rename_i t ht
 subst hs
 refine ⟨by simp [h.n], fun id c hc => ?_, fun id c hc => ?_⟩
 ·simp only at hc
  rw [kz ht] at hc
  by_cases hj : (n, 0) = id
  ·subst hj; rw [AHeap.get_cons_same]; rw [if_pos (by rw [h.n])] at hc; exact hc
  ·rw [AHeap.get_cons_other _ _ hj]; rw [if_neg (by rw [← h.n]; exact fun e => hj e.symm)] at hc; exact h.h _ _ hc
 ·obtain ⟨g1, g2, g3⟩ := h.d id c hc
  have hj : (n, 0) ≠ id := fun e => by subst e; exact absurd g3 (Nat.lt_irrefl _)
  simp only
  rw [kz ht, AHeap.get_cons_other _ _ hj, if_neg (by rw [← h.n]; exact fun e => hj e.symm)]
  exact ⟨g1, g2, by omega⟩
theorem StR.new2 {b c : ABlock} (h : StR D H n S) (hs : S.new2 b c = some S') : StR D (((n, 0), b) :: ((n, 1), c) :: H) (n + 1) S' := by
 unfold Sh.new2 at hs
 split at hs <;> try (cases hs; done)
 rename_i t ht
 split at hs <;> simp only [Option.some.injEq, reduceCtorEq] at hs
 rename_i t' ht'
 subst hs
 refine ⟨by simp [h.n], fun id u hu => ?_, fun id u hu => ?_⟩
 ·simp only at hu
  rw [kz ht', kz ht, ← h.n] at hu
  by_cases hj : (n, 0) = id
  ·subst hj; rw [AHeap.get_cons_same]; rw [if_neg (by simp), if_pos rfl] at hu; exact hu
  ·rw [AHeap.get_cons_other _ _ hj]
   by_cases hj1 : (n, 1) = id
   ·subst hj1; rw [AHeap.get_cons_same]; rw [if_pos rfl] at hu; exact hu
   ·rw [AHeap.get_cons_other _ _ hj1]; rw [if_neg (fun e => hj1 e.symm), if_neg (fun e => hj e.symm)] at hu; exact h.h _ _ hu
 ·obtain ⟨g1, g2, g3⟩ := h.d id u hu
  have hj : (n, 0) ≠ id := fun e => by subst e; exact absurd g3 (Nat.lt_irrefl _)
  have hj1 : (n, 1) ≠ id := fun e => by subst e; exact absurd g3 (Nat.lt_irrefl _)
  simp only
  rw [kz ht', kz ht, ← h.n, AHeap.get_cons_other _ _ hj, AHeap.get_cons_other _ _ hj1, if_neg (fun e => hj1 e.symm), if_neg (fun e => hj e.symm)]
  exact ⟨g1, g2, by omega⟩
theorem StR.upd {id : Id} {b b0 : ABlock} (h : StR D H n S) (h0 : S.t.at id = some b0) (hs : S.upd id b = some S') : StR D (H.set id b) n S' := by
 unfold Sh.upd at hs
 split at hs <;> simp only [Option.some.injEq, reduceCtorEq] at hs
 rename_i t ht
 subst hs
 refine ⟨h.n, fun j c hc => ?_, fun j c hc => ?_⟩
 ·simp only at hc
  rw [kz ht] at hc
  rw [AHeap.get_set]
  by_cases hj : id = j
  ·subst hj; rw [if_pos rfl] at hc ⊢; rw [h.h _ _ h0]; exact hc
  ·rw [if_neg hj]; rw [if_neg (fun e => hj e.symm)] at hc; exact h.h _ _ hc
 ·obtain ⟨g1, g2, g3⟩ := h.d j c hc
  have hj : id ≠ j := fun e => by subst e; rw [h0] at g2; cases g2
  simp only
  rw [kz ht, AHeap.get_set, if_neg hj, if_neg (fun e => hj e.symm)]
  exact ⟨g1, g2, g3⟩
theorem StR.cut {id : Id} {b0 : ABlock} (h : StR D H n S) (h0 : S.t.at id = some b0) (hs : S.cut id = some S') : StR D (H.del id) n S' := by
 unfold Sh.cut at hs
 split at hs <;> simp only [Option.some.injEq, reduceCtorEq] at hs
 rename_i t ht
 subst hs
 refine ⟨h.n, fun j c hc => ?_, fun j c hc => ?_⟩
 ·simp only at hc
  rw [kz ht] at hc
  rw [AHeap.get_del]
  by_cases hj : id = j
  ·subst hj; rw [if_pos rfl] at hc; cases hc
  ·rw [if_neg hj]; rw [if_neg (fun e => hj e.symm)] at hc; exact h.h _ _ hc
 ·obtain ⟨g1, g2, g3⟩ := h.d j c hc
  have hj : id ≠ j := fun e => by subst e; rw [h0] at g2; cases g2
  simp only
  rw [kz ht, AHeap.get_del, if_neg hj, if_neg (fun e => hj e.symm)]
  exact ⟨g1, g2, g3⟩
def HLe (h h' : Hp) : Prop := ∀ id b, h id = some b → h' id = some b
theorem jb {h h' : Hp} (hl : HLe h h') {ag : Bool} {n : Nat} : ∀ {x v : AVal}, J1 ag n h x = some v → J1 ag n h' x = some v := by
 intro x v hx
 unfold J1 at hx ⊢
 split at hx
 ·exact hx
 ·rename_i b i off
  cases hb : h b with
  | none => rw [hb] at hx; cases hx
  | some blk => rw [hb] at hx; simp only [hl _ _ hb]; exact hx
 ·cases hx
theorem Vt {h h' : Hp} (hl : HLe h h') {len s : Nat} {x y v : AVal} (hx : Zr len s h x y = some v) : Zr len s h' x y = some v := by
 unfold Zr at hx ⊢
 split at hx
 ·rename_i b i k j
  cases hb : h b with
  | none => rw [hb] at hx; cases hx
  | some blk => rw [hb] at hx; simp only [hl _ _ hb]; exact hx
 ·cases hx
theorem W2 {h h' : Hp} (hl : HLe h h') {len s : Nat} {x v : AVal} (hx : z2d len s h x = some v) : z2d len s h' x = some v := by
 unfold z2d at hx ⊢
 split at hx
 ·rename_i b i
  cases hb : h b with
  | none => rw [hb] at hx; cases hx
  | some blk => rw [hb] at hx; simp only [hl _ _ hb]; exact hx
 ·cases hx
theorem z09 {h h' : Hp} (hl : HLe h h') {ks : List CK} {ka g ok : Bool} {zs : List AVal} {k x v : AVal} (hx : Jt ks ka g ok zs h k x = some v) : Jt ks ka g ok zs h' k x = some v := by
 unfold Jt at hx ⊢
 split at hx
 ·exact hx
 ·rename_i b
  cases hb : h b with
  | none => rw [hb] at hx; cases hx
  | some blk => rw [hb] at hx; simp only [hl _ _ hb]; exact hx
 ·cases hx
theorem z27 {h h' : Hp} (hl : HLe h h') {x v : AVal} (hx : z2n h x = some v) : z2n h' x = some v := by
 unfold z2n at hx ⊢
 split at hx
 ·exact hx
 ·rename_i b
  cases hb : h b with
  | none => rw [hb] at hx; cases hx
  | some blk => rw [hb] at hx; simp only [hl _ _ hb]; exact hx
 ·cases hx
theorem vl {h h' : Hp} (hl : HLe h h') {s : Nat} {x : AVal} {v : List (List AVal)} (hx : vz h s x = some v) : vz h' s x = some v := by
 unfold vz at hx ⊢
 split at hx
 case h_3 b s' off len f =>
  cases hb : h b with
  | none => rw [hb] at hx; cases hx
  | some blk => rw [hb] at hx; simp only [hl _ _ hb]; exact hx
 all_goals first | exact hx | cases hx
theorem x9 {α β : Type} {o : Option α} {f f' : α → Option β} {v : β} (hx : o.bind f = some v) (hf : ∀ a, f a = some v → f' a = some v) : o.bind f' = some v := by
 cases o with
 | none => cases hx
 | some a => exact hf a hx
theorem J7 {h h' : Hp} (hl : HLe h h') {g : Nat → AVal} {op : LOp} {v : AVal} (hx : z0h g h op = some v) : z0h g h' op = some v := by
 unfold z0h at hx ⊢
 split at hx
 case h_4 => exact x9 hx fun a h => jb hl h
 case h_14 => exact x9 hx fun a h => W2 hl h
 all_goals first
  | exact hx
  | exact x9 hx fun a h => z27 hl h
  | exact x9 hx fun a h => x9 h fun b h => Vt hl h
  | exact x9 hx fun a h => x9 h fun b h => z09 hl h
  | exact x9 hx fun a h => jb hl h
  | exact x9 hx fun a h => W2 hl h
  | cases hx
theorem uq {h h' : Hp} (hl : HLe h h') {g : Nat → AVal} {lo : LOper} {v : AVal} (hx : u4 g h lo = some v) : u4 g h' lo = some v := by
 unfold u4 at hx ⊢
 split at hx
 ·exact J7 hl hx
 ·split at hx
  ·split at hx <;> try (cases hx; done)
   rename_i v' hv
   rw [J7 hl hv]
   exact hx
  ·exact hx
  ·cases hx
theorem Qo {h h' : Hp} (hl : HLe h h') {lo : List Nat} : ∀ {d : List (Nat × LOper × Env × AVal)}, X5 h lo d = true → X5 h' lo d = true
 | [], _ => rfl
 | (p, o, e, v) :: r, hx => by
  unfold X5 at hx ⊢
  simp only [Bool.and_eq_true] at hx ⊢
  refine ⟨?_, Qo hl hx.2⟩
  have h1 := hx.1
  split at h1
  ·split at h1
   ·rename_i u hu
    rw [uq hl hu]
    exact h1
   ·cases h1
  ·rfl
theorem z6j {h h' : Hp} (hl : HLe h h') {e : Ev} {r : LRes} {v : AVal} (hx : z9o e h r = some v) : z9o e h' r = some v := by
 unfold z9o at hx ⊢
 split at hx
 ·exact hx
 ·split at hx
  ·exact jb hl hx
  ·cases hx
theorem kx {a b : IntKind} : J4 a b = true ↔ a = b := by cases a <;> cases b <;> decide
theorem xc {a b : Int} : ile a b = true ↔ a ≤ b := by simp [ile]
theorem Qj {a b : Int} : ilt a b = true ↔ a < b := by simp [ilt]
theorem zn {a b : Nat} : Nat.beq a b = true ↔ a = b := ⟨Nat.eq_of_beq_eq_true, fun h => by subst h; exact Nat.beq_refl a⟩
theorem yi {a b : Nat} : Nat.ble a b = true ↔ a ≤ b := by rw [Nat.ble_eq]
theorem wk {p : Bool} {v y : AVal} (h : ck p v = some y) : p = true ∧ v = y := by
 unfold ck at h
 split at h <;> simp only [Option.some.injEq, reduceCtorEq] at h
 exact ⟨rfl, h⟩
def XOk (x : XR) (y : AVal) : Prop := ∃ s, x = .ok s y ∧ s
theorem XOk.of {x : XR} {s : Prop} {y : AVal} (h : x = .ok s y) (hs : s) : XOk x y := ⟨s, h, hs⟩
theorem XOk.and {x : XR} {p : Prop} {y : AVal} (h : XOk x y) (hp : p) : XOk (x.and p) y := by
 obtain ⟨s, rfl, hs⟩ := h
 exact ⟨p ∧ s, rfl, hp, hs⟩
theorem za6 {op : BinOp} {a b y : AVal} (h : zdw op a b = some y) : XOk (z4l op a b) y := by
 unfold zdw at h
 split at h
 ·unfold z4l
  cases op <;> simp only at h ⊢ <;> (obtain ⟨h1, rfl⟩ := wk h; refine ⟨_, rfl, ?_⟩) <;>
   simp only [Bool.and_eq_true, kx, xc, Bool.not_eq_true', decide_eq_false_iff_not] at h1 <;> exact h1
 ·unfold z4l
  cases op <;> first
   | (cases h; done)
   | (obtain ⟨h1, rfl⟩ := wk h; exact ⟨_, rfl, xc.1 h1⟩)
   | (simp only [Option.some.injEq] at h; subst h; exact ⟨_, rfl, trivial⟩)
 ·cases h
theorem zcd {op : UnOp} {a y : AVal} (h : bun op a = some y) : XOk (xun op a) y := by
 unfold bun at h
 split at h
 ·unfold xun
  split at h <;> simp only [Option.some.injEq, reduceCtorEq] at h
  subst h; exact ⟨_, rfl, trivial⟩
 ·unfold xun
  split at h <;> simp only [Option.some.injEq, reduceCtorEq] at h <;> (subst h; exact ⟨_, rfl, trivial⟩)
 ·cases h
theorem z2f {k : CK} {x y : AVal} {b : Bool} (h : Ur k x y = some b) : js k x y = some b := by
 unfold Ur at h
 split at h
 ·split at h <;> simp only [Option.some.injEq, reduceCtorEq] at h
  rename_i hk
  subst h
  simp [js, kx.1 hk]
 ·simpa [js] using h
 ·simpa [js] using h
 ·cases h
theorem jh : ∀ {ks : List CK} {xs ys : List AVal} {b : Bool}, j0 ks xs ys = some b → zl ks xs ys = some b
 | [], [], [], b, h => by simpa [j0, zl] using h
 | k :: ks, x :: xs, y :: ys, b, h => by
  unfold j0 at h
  split at h <;> try (cases h; done)
  rename_i a ha
  split at h <;> try (cases h; done)
  rename_i c hc
  unfold zl
  rw [z2f ha, jh hc]
  exact h
 | [], [], _ :: _, _, h => by cases h
 | [], _ :: _, _, _, h => by cases h
 | _ :: _, [], _, _, h => by cases h
 | _ :: _, _ :: _, [], _, h => by cases h
theorem z8s {x y : AVal} {b : Bool} (h : zb8 x y = some b) : XOk (Y3 x y) (.bool b) := by
 unfold zb8 at h
 split at h
 ·simp only [Option.some.injEq] at h; subst h; exact ⟨_, rfl, trivial⟩
 ·rename_i len _
  cases hz : Nat.beq len 0 <;> rw [hz] at h <;> simp only [Option.some.injEq, reduceCtorEq] at h
  subst h; exact ⟨_, rfl, Nat.ne_of_beq_eq_false hz⟩
 ·rename_i len _
  cases hz : Nat.beq len 0 <;> rw [hz] at h <;> simp only [Option.some.injEq, reduceCtorEq] at h
  subst h; exact ⟨_, rfl, Nat.ne_of_beq_eq_false hz⟩
 ·rename_i es _
  cases es <;> simp only [Option.some.injEq, reduceCtorEq] at h
  subst h; exact ⟨_, rfl, by simp⟩
 ·rename_i es _
  cases es <;> simp only [Option.some.injEq, reduceCtorEq] at h
  subst h; exact ⟨_, rfl, by simp⟩
 ·cases h
theorem zay {k : EqK} {x y : AVal} {b : Bool} (h : ze4 k x y = some b) : XOk (z6q k x y) (.bool b) := by
 unfold ze4 at h
 unfold z6q
 split at h
 ·split at h <;> simp only [Option.some.injEq, reduceCtorEq] at h
  subst h; exact ⟨_, rfl, trivial⟩
 ·simp only
  unfold z95 at h
  split at h <;> simp only [Option.some.injEq, reduceCtorEq] at h <;> (subst h; exact ⟨_, rfl, trivial⟩)
 ·simp only
  exact z8s h
 ·simp only
  unfold z8x at h
  split at h <;> simp only [Option.some.injEq, reduceCtorEq] at h <;> (subst h; exact ⟨_, rfl, trivial⟩)
 ·simp only
  split at h <;> try (cases h; done)
  simp only [z6d, jh h]
  exact ⟨_, rfl, trivial⟩
 ·simp only
  unfold z3j at h
  split at h <;> simp only [Option.some.injEq, reduceCtorEq] at h <;> (subst h; exact ⟨_, rfl, trivial⟩)
 ·simp only
  unfold z4p at h
  split at h <;> simp only [Option.some.injEq, reduceCtorEq] at h <;> (subst h; exact ⟨_, rfl, trivial⟩)
 ·cases h
theorem zac {neg : Bool} {k : EqK} {x y z : AVal} (h : zdt neg k x y = some z) : XOk (xeq neg k x y) z := by
 unfold zdt at h
 split at h <;> simp only [Option.some.injEq, reduceCtorEq] at h
 rename_i b hb
 obtain ⟨s, h1, h2⟩ := zay hb
 unfold xeq
 subst h
 cases neg with
 | true => simp only [if_true, h1, XR.neg]; exact ⟨_, rfl, h2⟩
 | false => simp only [Bool.false_eq_true, if_false, h1]; exact ⟨_, rfl, h2⟩
theorem Ze {ag : Bool} {m : Nat} {x y : AVal} (h : J1 ag m H.get x = some y) : XOk (Yw ag m H x) y := by
 unfold J1 at h
 unfold Yw
 split at h
 ·obtain ⟨h1, rfl⟩ := wk h
  simp only [Bool.and_eq_true, yi] at h1
  exact ⟨_, rfl, h1⟩
 ·rename_i b i off
  simp only
  split at h <;> try (cases h; done)
  ·rename_i hg
   obtain ⟨h1, rfl⟩ := wk h
   simp only [Bool.and_eq_true, yi] at h1
   rw [hg]
   exact ⟨_, rfl, h1⟩
  ·rename_i hg
   obtain ⟨h1, rfl⟩ := wk h
   simp only [Bool.and_eq_true, yi, zn] at h1
   rw [hg]
   exact ⟨_, rfl, h1⟩
 ·cases h
theorem z6b {off : Nat} {x y : AVal} (h : z5h off x = some y) : XOk (W5 off x) y := by
 unfold z5h at h
 split at h <;> simp only [Option.some.injEq, reduceCtorEq] at h <;> (subst h; exact ⟨_, rfl, trivial⟩)
theorem z6p {ag : Bool} {m off : Nat} {x y : AVal} (h : z4c ag m off x = some y) : XOk (Jx ag m off x) y := by
 unfold z4c at h
 split at h <;> try (cases h; done)
 obtain ⟨h1, rfl⟩ := wk h
 exact ⟨_, rfl, yi.1 h1⟩
theorem Kc {s : Nat} {x i y : AVal} (h : z0u s x i = some y) : XOk (X9 s x i) y := by
 unfold z0u at h
 split at h <;> try (cases h; done)
 all_goals
  obtain ⟨h1, rfl⟩ := wk h
  simp only [Bool.and_eq_true, zn, xc, Qj, and_assoc] at h1
  exact ⟨_, rfl, h1⟩
theorem z2g {len s : Nat} {x i y : AVal} (h : Uz len s x i = some y) : XOk (Qt len s x i) y := by
 unfold Uz at h
 split at h <;> try (cases h; done)
 all_goals
  obtain ⟨h1, rfl⟩ := wk h
  simp only [Bool.and_eq_true, xc, Qj] at h1
  exact ⟨_, rfl, h1⟩
theorem z2v {len s : Nat} {x i y : AVal} (h : Zr len s H.get x i = some y) : XOk (ub len s H x i) y := by
 unfold Zr at h
 split at h <;> try (cases h; done)
 split at h <;> try (cases h; done)
 rename_i hg
 obtain ⟨h1, rfl⟩ := wk h
 simp only [Bool.and_eq_true, zn, xc, Qj, and_assoc] at h1
 simp only [ub, hg]
 exact ⟨_, rfl, h1⟩
theorem z88 {len s : Nat} {x y : AVal} (h : z2d len s H.get x = some y) : XOk (z26 len s H x) y := by
 unfold z2d at h
 split at h <;> try (cases h; done)
 split at h <;> try (cases h; done)
 rename_i hg
 obtain ⟨h1, rfl⟩ := wk h
 simp only [Bool.and_eq_true, zn, yi] at h1
 simp only [z26, hg]
 exact ⟨_, rfl, h1⟩
theorem z7k {x i y : AVal} (h : zb6 x i = some y) : XOk (z5o x i) y := by
 unfold zb6 at h
 split at h <;> try (cases h; done)
 obtain ⟨h1, rfl⟩ := wk h
 simp only [Bool.and_eq_true, xc, Qj] at h1
 exact ⟨_, rfl, h1⟩
theorem z7j {len s : Nat} {ag : Bool} {x i y : AVal} (h : z9q len s ag x i = some y) : XOk (z6m len s ag x i) y := by
 unfold z9q at h
 split at h <;> try (cases h; done)
 obtain ⟨h1, rfl⟩ := wk h
 simp only [Bool.and_eq_true, xc, Qj, yi, and_assoc] at h1
 exact ⟨_, rfl, h1⟩
theorem z9n {k : Nat} {x y : AVal} (h : zdy k x = some y) : XOk (zbf k x) y := by
 unfold zdy at h
 split at h <;> try (cases h; done)
 obtain ⟨h1, rfl⟩ := wk h
 exact ⟨_, rfl, yi.1 h1⟩
theorem z8j {x y : AVal} (h : zae x = some y) : XOk (z2j x) y := by
 unfold zae at h
 split at h <;> simp only [Option.some.injEq, reduceCtorEq] at h
 subst h; exact ⟨_, rfl, trivial⟩
theorem z1m {x y : AVal} (h : z8c x = some y) : XOk (z0a x) y := by
 unfold z8c at h
 split at h <;> simp only [Option.some.injEq, reduceCtorEq] at h <;> (subst h; exact ⟨_, rfl, trivial⟩)
theorem z5l {x y : AVal} (h : z6g x = some y) : XOk (Jg x) y := by
 unfold z6g at h
 split at h <;> simp only [Option.some.injEq, reduceCtorEq] at h <;> (subst h; exact ⟨_, rfl, trivial⟩)
variable {e : Env}
theorem zc {x : LOpd} {v : AVal} (h : qt e.get x = some v) : x.ev e = v ∧ x.need e := by
 cases x with
 | c u => simp only [qt, Option.some.injEq] at h; exact ⟨h, trivial⟩
 | t i =>
  simp only [qt] at h
  show (e.get i).strip = v ∧ (e.get i).need
  split at h
  ·rename_i u hu
   simp only [Option.some.injEq] at h
   rw [hu]
   exact ⟨h, rfl⟩
  ·cases h
  ·rename_i h1 h2
   simp only [Option.some.injEq] at h
   cases hg : e.get i with
   | cnd p u =>
    cases p with
    | true => exact absurd hg (h1 u)
    | false => exact absurd hg (h2 u)
   | _ => rw [hg] at h; subst h; exact ⟨rfl, trivial⟩
theorem kl : ∀ {xs : List LOpd} {vs : List AVal}, Wh e.get xs = some vs → evs e xs = vs ∧ k8 e xs
 | [], vs, h => by simp only [Wh, Option.some.injEq] at h; exact ⟨h, trivial⟩
 | x :: xs, vs, h => by
  unfold Wh at h
  split at h <;> try (cases h; done)
  rename_i a ha
  split at h <;> simp only [Option.some.injEq, reduceCtorEq] at h
  rename_i l hl
  obtain ⟨h1, h2⟩ := zc ha
  obtain ⟨h3, h4⟩ := kl hl
  exact ⟨by unfold evs; rw [h1, h3]; exact h, h2, h4⟩
theorem qm {d : Nat} {o : Option LOpd} {j : Int} (h : w8 e.get d o = some j) : y1 e d o = some j ∧ xv e o := by
 cases o with
 | none => simp only [w8, Option.some.injEq] at h; exact ⟨by simp [y1, h], trivial⟩
 | some x =>
  simp only [w8] at h
  split at h <;> simp only [Option.some.injEq, reduceCtorEq] at h
  rename_i k z hx
  obtain ⟨h1, h2⟩ := zc hx
  subst h
  exact ⟨by simp only [y1, h1], h2⟩
theorem z5r {lo hi : Option LOpd} {x y : AVal} (h : z5d e.get lo hi x = some y) : XOk (Jo (fun d => y1 e d lo) (fun d => y1 e d hi) x) y ∧ xv e lo ∧ xv e hi := by
 unfold z5d at h
 split at h <;> try (cases h; done)
 split at h <;> try (cases h; done)
 rename_i a b ha hb
 obtain ⟨h1, rfl⟩ := wk h
 obtain ⟨ha1, ha2⟩ := qm ha
 obtain ⟨hb1, hb2⟩ := qm hb
 simp only [Bool.and_eq_true, xc, and_assoc] at h1
 refine ⟨?_, ha2, hb2⟩
 simp only [Jo, ha1, hb1]
 exact ⟨_, rfl, h1⟩
theorem z7b {s : Nat} {lo hi mx : Option LOpd} {x y : AVal} (h : z9j e.get s lo hi mx x = some y) (kp : Bool) : XOk (z4y s (fun d => y1 e d lo) (fun d => y1 e d hi) (Xy e mx) kp x) y ∧ xv e lo ∧ xv e hi ∧ xv e mx := by
 unfold z9j at h
 split at h
 ·split at h <;> try (cases h; done)
  rename_i a b ha hb
  obtain ⟨ha1, ha2⟩ := qm ha
  obtain ⟨hb1, hb2⟩ := qm hb
  split at h
  ·obtain ⟨h1, rfl⟩ := wk h
   simp only [Bool.and_eq_true, zn, xc, and_assoc] at h1
   refine ⟨?_, ha2, hb2, trivial⟩
   simp only [z4y, V0, ha1, hb1, Xy]
   exact ⟨_, rfl, h1⟩
  ·split at h <;> try (cases h; done)
   rename_i z hz
   obtain ⟨hz1, hz2⟩ := qm hz
   obtain ⟨h1, rfl⟩ := wk h
   simp only [Bool.and_eq_true, zn, xc, and_assoc] at h1
   refine ⟨?_, ha2, hb2, hz2⟩
   simp only [z4y, V0, ha1, hb1, Xy, hz1]
   exact ⟨_, rfl, h1⟩
 ·split at h <;> try (cases h; done)
  rename_i a b ha hb
  obtain ⟨ha1, ha2⟩ := qm ha
  obtain ⟨hb1, hb2⟩ := qm hb
  split at h
  ·obtain ⟨h1, rfl⟩ := wk h
   simp only [Bool.and_eq_true, zn, xc, and_assoc] at h1
   refine ⟨?_, ha2, hb2, trivial⟩
   simp only [z4y, V0, ha1, hb1, Xy]
   exact ⟨_, rfl, h1⟩
  ·split at h <;> try (cases h; done)
   rename_i z hz
   obtain ⟨hz1, hz2⟩ := qm hz
   obtain ⟨h1, rfl⟩ := wk h
   simp only [Bool.and_eq_true, zn, xc, and_assoc] at h1
   refine ⟨?_, ha2, hb2, hz2⟩
   simp only [z4y, V0, ha1, hb1, Xy, hz1]
   exact ⟨_, rfl, h1⟩
 ·split at h <;> try (cases h; done)
  rename_i a b ha hb
  obtain ⟨ha1, ha2⟩ := qm ha
  obtain ⟨hb1, hb2⟩ := qm hb
  obtain ⟨h1, rfl⟩ := wk h
  simp only [Bool.and_eq_true, decide_eq_true_eq] at h1
  refine ⟨?_, ha2, hb2, trivial⟩
  simp only [z4y, V0, ha1, hb1, Xy]
  exact ⟨_, rfl, h1⟩
 ·cases h
theorem U3 : ∀ {ps : List (Nat × Nat × AVal)} {cells : List AVal} {y : AVal}, U5 cells ps = some y → XOk (jv cells ps) y
 | [], cells, y, h => by simp only [U5, Option.some.injEq] at h; subst h; exact ⟨_, rfl, trivial⟩
 | (off, m, x) :: r, cells, y, h => by
  unfold U5 at h
  split at h <;> try (cases h; done)
  rename_i cs hc
  split at h <;> try (cases h; done)
  rename_i hb
  simp only [Bool.and_eq_true, zn, yi] at hb
  obtain ⟨s, h1, h2⟩ := U3 h
  simp only [jv, hc, h1]
  exact ⟨_, rfl, hb.1, hb.2, h2⟩
theorem Kb : ∀ {ps : List (Nat × Nat × LOpd)} {l : List (Nat × Nat × AVal)}, Vl e.get ps = some l → yx e ps = l ∧ yr e ps
 | [], l, h => by simp only [Vl, Option.some.injEq] at h; exact ⟨h, trivial⟩
 | (o, m, x) :: r, l, h => by
  unfold Vl at h
  split at h <;> try (cases h; done)
  rename_i a ha
  split at h <;> simp only [Option.some.injEq, reduceCtorEq] at h
  rename_i l' hl
  obtain ⟨h1, h2⟩ := zc ha
  obtain ⟨h3, h4⟩ := Kb hl
  exact ⟨by unfold yx; rw [h1, h3]; exact h, h2, h4⟩
theorem z3r {mx : Bool} : ∀ {l : List AVal} {v y : AVal}, za0 mx v l = some y → XOk (z4d mx v l) y
 | [], v, y, h => by
  cases v <;> simp only [za0, Option.some.injEq] at h <;> (subst h; exact ⟨_, rfl, trivial⟩)
 | x :: r, v, y, h => by
  cases v <;> try (simp [za0] at h; done)
  cases x <;> try (simp [za0] at h; done)
  simp only [za0] at h
  split at h <;> try (cases h; done)
  rename_i hk
  obtain ⟨s, h1, h2⟩ := z3r h
  simp only [z4d, h1]
  exact ⟨_, rfl, kx.1 hk, h2⟩
theorem z8o {mx : Bool} {l : List AVal} {y : AVal} (h : z9i mx l = some y) : XOk (z6a mx l) y := by
 unfold z9i at h
 split at h <;> try (cases h; done)
 exact z3r h
theorem Zi {ks : List CK} {ka : Bool} {k : AVal} (h : Jb ks ka k = true) : kc ks ka k = true := by
 unfold Jb at h
 unfold kc
 simp only [Bool.and_eq_true] at h ⊢
 refine ⟨h.1, ?_⟩
 cases hc : j0 ks (zw k) (zw k) with
 | none => rw [hc] at h; cases h.2
 | some b => rw [jh hc]; rfl
theorem w9 {ks : List CK} {k k' : AVal} {b : Bool} (h : Vd ks k k' = some b) : Yx ks k k' = some b := by
 unfold Vd at h
 unfold Yx
 split at h <;> try (cases h; done)
 ·rename_i h1 h2; rw [h1, h2]; exact jh h
 ·rename_i h1 h2; rw [h1, h2]; exact jh h
theorem Kw {ks : List CK} {k : AVal} : ∀ {es : List (AVal × AVal)} {r : Option AVal}, z0z ks k es = some r → Xx ks k es = some r
 | [], r, h => h
 | (k', x) :: es, r, h => by
  unfold z0z at h
  unfold Xx
  split at h <;> try (cases h; done)
  ·rename_i hk; rw [w9 hk]; exact h
  ·rename_i hk; rw [w9 hk]; exact Kw h
theorem z15 {ks : List CK} {k x : AVal} : ∀ {es r : List (AVal × AVal)}, z8n ks k x es = some r → z78 ks k x es = some r
 | [], r, h => h
 | (k', y) :: es, r, h => by
  unfold z8n at h
  unfold z78
  split at h <;> try (cases h; done)
  ·rename_i hk; rw [w9 hk]; exact h
  ·rename_i hk
   rw [w9 hk]
   split at h <;> simp only [Option.some.injEq, reduceCtorEq] at h
   rename_i l hl
   subst h
   simp only [z15 hl, Option.map_some]
theorem Uc {ks : List CK} {k : AVal} : ∀ {es r : List (AVal × AVal)}, z1s ks k es = some r → V1 ks k es = some r
 | [], r, h => h
 | (k', y) :: es, r, h => by
  unfold z1s at h
  unfold V1
  split at h <;> try (cases h; done)
  ·rename_i hk; rw [w9 hk]; exact h
  ·rename_i hk
   rw [w9 hk]
   split at h <;> simp only [Option.some.injEq, reduceCtorEq] at h
   rename_i l hl
   subst h
   simp only [Uc hl, Option.map_some]
theorem z6t {ks : List CK} {ka ag ok : Bool} {zs : List AVal} {k x y : AVal} (h : Jt ks ka ag ok zs H.get k x = some y) : XOk (Yq ks ka ag ok zs H k x) y := by
 unfold Jt at h
 split at h
 ·obtain ⟨h1, rfl⟩ := wk h
  simp only [Yq, Zi h1, if_true]
  exact ⟨_, rfl, trivial⟩
 ·split at h <;> try (cases h; done)
  rename_i hg
  split at h <;> try (cases h; done)
  rename_i hk
  split at h <;> simp only [Option.some.injEq, reduceCtorEq] at h
  rename_i r hr
  subst h
  simp only [Yq, hg, Zi hk, if_true, Kw hr]
  exact ⟨_, rfl, rfl⟩
 ·cases h
theorem z80 {x y : AVal} (h : z2n H.get x = some y) : XOk (z0r H x) y := by
 unfold z2n at h
 split at h
 ·simp only [Option.some.injEq] at h; subst h; exact ⟨_, rfl, trivial⟩
 ·split at h <;> simp only [Option.some.injEq, reduceCtorEq] at h
  rename_i hg
  subst h
  simp only [z0r, hg]
  exact ⟨_, rfl, trivial⟩
 ·cases h
theorem qp {α γ : Type} {x : Option α} {f : α → Option γ} {o : γ} (h : x.bind f = some o) : ∃ r, x = some r ∧ f r = some o := by
 cases x with
 | none => cases h
 | some r => exact ⟨r, rfl, h⟩
theorem Q1 {op : LOp} {v : AVal} (h : z0h e.get H.get op = some v) : XOk (y7 e H op) v := by
 cases op <;> simp only [z0h, reduceCtorEq] at h <;> simp only [y7]
 case mv x => obtain ⟨h1, h2⟩ := zc h; rw [h1]; exact ⟨_, rfl, h2⟩
 case pick c a b =>
  split at h <;> try (cases h; done)
  ·rename_i hc
   obtain ⟨c1, c2⟩ := zc hc
   obtain ⟨a1, a2⟩ := zc h
   rw [c1]
   subst a1; exact XOk.and (XOk.of rfl ⟨fun _ => a2, fun h => by cases h⟩) c2
  ·rename_i hc
   obtain ⟨c1, c2⟩ := zc hc
   obtain ⟨a1, a2⟩ := zc h
   rw [c1]
   subst a1; exact XOk.and (XOk.of rfl ⟨fun h => (by cases h), fun _ => a2⟩) c2
 case build zs parts =>
  obtain ⟨ps, h1, h2⟩ := qp h
  obtain ⟨p1, p2⟩ := Kb h1
  rw [p1]
  exact (U3 h2).and p2
 case load ag m a => obtain ⟨x, h1, h2⟩ := qp h; obtain ⟨p1, p2⟩ := zc h1; rw [p1]; exact (Ze h2).and p2
 case nilck a => obtain ⟨x, h1, h2⟩ := qp h; obtain ⟨p1, p2⟩ := zc h1; rw [p1]; exact (z5l h2).and p2
 case bin op x y => obtain ⟨a, h1, h2⟩ := qp h; obtain ⟨b, h3, h4⟩ := qp h2; obtain ⟨p1, p2⟩ := zc h1; obtain ⟨q1, q2⟩ := zc h3; rw [p1, q1]; exact (za6 h4).and ⟨p2, q2⟩
 case eq neg k x y => obtain ⟨a, h1, h2⟩ := qp h; obtain ⟨b, h3, h4⟩ := qp h2; obtain ⟨p1, p2⟩ := zc h1; obtain ⟨q1, q2⟩ := zc h3; rw [p1, q1]; exact (zac h4).and ⟨p2, q2⟩
 case un op x => obtain ⟨a, h1, h2⟩ := qp h; obtain ⟨p1, p2⟩ := zc h1; rw [p1]; exact (zcd h2).and p2
 case conv k x =>
  cases k with
  | int k =>
   simp only at h ⊢
   split at h <;> simp only [Option.some.injEq, reduceCtorEq] at h
   rename_i hx
   obtain ⟨p1, p2⟩ := zc hx
   subst h
   simp only [p1]
   exact ⟨_, rfl, p2⟩
  | same =>
   simp only at h ⊢
   split at h <;> simp only [Option.some.injEq, reduceCtorEq] at h
   rename_i hx
   obtain ⟨p1, p2⟩ := zc hx
   subst h
   simp only [p1]
   exact ⟨_, rfl, p2⟩
  | s2b vm => cases h
  | b2s => cases h
 case mkfn f a c =>
  obtain ⟨as, h1, h2⟩ := qp h
  obtain ⟨cs, h3, h4⟩ := qp h2
  obtain ⟨p1, p2⟩ := kl h1
  obtain ⟨q1, q2⟩ := kl h3
  simp only [Option.some.injEq] at h4
  subst h4
  rw [p1, q1]
  exact ⟨_, rfl, p2, q2⟩
 case slStr x lo hi => obtain ⟨a, h1, h2⟩ := qp h; obtain ⟨p1, p2⟩ := zc h1; obtain ⟨q1, q2⟩ := z5r h2; rw [p1]; exact q1.and ⟨p2, q2⟩
 case slSl s x lo hi mx => obtain ⟨a, h1, h2⟩ := qp h; obtain ⟨p1, p2⟩ := zc h1; obtain ⟨q1, q2⟩ := z7b h2 (hi.isNone && mx.isNone); rw [p1]; exact q1.and ⟨p2, q2⟩
 case slAr m s x => obtain ⟨a, h1, h2⟩ := qp h; obtain ⟨p1, p2⟩ := zc h1; rw [p1]; exact (z88 h2).and p2
 case faddr off x => obtain ⟨a, h1, h2⟩ := qp h; obtain ⟨p1, p2⟩ := zc h1; rw [p1]; exact (z6b h2).and p2
 case field ag m off x => obtain ⟨a, h1, h2⟩ := qp h; obtain ⟨p1, p2⟩ := zc h1; rw [p1]; exact (z6p h2).and p2
 case iaddr s x i => obtain ⟨a, h1, h2⟩ := qp h; obtain ⟨b, h3, h4⟩ := qp h2; obtain ⟨p1, p2⟩ := zc h1; obtain ⟨q1, q2⟩ := zc h3; rw [p1, q1]; exact (Kc h4).and ⟨p2, q2⟩
 case iaddrA m s x i => obtain ⟨a, h1, h2⟩ := qp h; obtain ⟨b, h3, h4⟩ := qp h2; obtain ⟨p1, p2⟩ := zc h1; obtain ⟨q1, q2⟩ := zc h3; rw [p1, q1]; exact (z2g h4).and ⟨p2, q2⟩
 case iaddrR m s x i => obtain ⟨a, h1, h2⟩ := qp h; obtain ⟨b, h3, h4⟩ := qp h2; obtain ⟨p1, p2⟩ := zc h1; obtain ⟨q1, q2⟩ := zc h3; rw [p1, q1]; exact (z2v h4).and ⟨p2, q2⟩
 case idxS x i => obtain ⟨a, h1, h2⟩ := qp h; obtain ⟨b, h3, h4⟩ := qp h2; obtain ⟨p1, p2⟩ := zc h1; obtain ⟨q1, q2⟩ := zc h3; rw [p1, q1]; exact (z7k h4).and ⟨p2, q2⟩
 case idxA m s ag x i => obtain ⟨a, h1, h2⟩ := qp h; obtain ⟨b, h3, h4⟩ := qp h2; obtain ⟨p1, p2⟩ := zc h1; obtain ⟨q1, q2⟩ := zc h3; rw [p1, q1]; exact (z7j h4).and ⟨p2, q2⟩
 case ext k x => obtain ⟨a, h1, h2⟩ := qp h; obtain ⟨p1, p2⟩ := zc h1; rw [p1]; exact (z9n h2).and p2
 case len st x =>
  cases st with
  | true => simp only at h ⊢; obtain ⟨a, h1, h2⟩ := qp h; obtain ⟨p1, p2⟩ := zc h1; rw [p1]; exact (z8j h2).and p2
  | false => simp only at h ⊢; obtain ⟨a, h1, h2⟩ := qp h; obtain ⟨p1, p2⟩ := zc h1; rw [p1]; exact (z1m h2).and p2
 case mnx m args => obtain ⟨a, h1, h2⟩ := qp h; obtain ⟨p1, p2⟩ := kl h1; rw [p1]; exact (z8o h2).and p2
 case mlook ks ka ag ok zs x k => obtain ⟨a, h1, h2⟩ := qp h; obtain ⟨b, h3, h4⟩ := qp h2; obtain ⟨p1, p2⟩ := zc h1; obtain ⟨q1, q2⟩ := zc h3; rw [p1, q1]; exact (z6t h4).and ⟨p2, q2⟩
 case mlen x => obtain ⟨a, h1, h2⟩ := qp h; obtain ⟨p1, p2⟩ := zc h1; rw [p1]; exact (z80 h2).and p2
end Go.Fx
