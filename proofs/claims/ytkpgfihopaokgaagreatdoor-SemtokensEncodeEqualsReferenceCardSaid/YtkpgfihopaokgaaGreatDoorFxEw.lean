/-
  Own framework.
-/
import Derived.Test.YtkpgfihopaokgaaGreatDoorFxEv
import Derived.Test.YtkpgfihopaokgaaGreatDoorFxZ
namespace Go.Fx
set_option linter.unusedVariables false
namespace Tr
variable {α : Type}
theorem Ki (v : Option α) (l r : Tr α) (j : Nat) : (Tr.nd v l r).get j = if j = 0 then v else if j % 2 = 1 then l.get (j / 2) else r.get (j / 2 - 1) := by
 show (match Nat.beq j 0 with
  | true => v
  | false => match Nat.beq (j % 2) 1 with
   | true => get l (j / 2)
   | false => get r (j / 2 - 1)) = _
 by_cases h : j = 0
 ·subst h; rfl
 ·rw [if_neg h]
  have h0 : Nat.beq j 0 = false := Bool.eq_false_iff.2 fun h' => h (Nat.eq_of_beq_eq_true h')
  rw [h0]
  simp only
  by_cases h1 : j % 2 = 1
  ·rw [if_pos h1, h1]
  ·rw [if_neg h1]
   have : j % 2 = 0 := by omega
   rw [this]
theorem put_get : ∀ (d : Nat) (t : Tr α) (k : Nat) (x : Option α) (t' : Tr α), put d t k x = some t' → ∀ j, t'.get j = if j = k then x else t.get j
 | 0, _, _, _, _, h => by simp [put] at h
 | d + 1, t, k, x, t', h => by
  have key : ∀ (v : Option α) (l r : Tr α), (match Nat.beq k 0 with
   | true => some (Tr.nd x l r)
   | false => match Nat.beq (k % 2) 1 with
    | true => match put d l (k / 2) x with | some l => some (.nd v l r) | none => none
    | false => match put d r (k / 2 - 1) x with | some r => some (.nd v l r) | none => none) = some t' → ∀ j, t'.get j = if j = k then x else (Tr.nd v l r).get j := by
   intro v l r h j
   split at h
   ·rename_i hk
    have hk := Nat.eq_of_beq_eq_true hk
    simp only [Option.some.injEq] at h
    subst h hk
    rw [Ki, Ki]
    by_cases hj : j = 0
    ·rw [if_pos hj, if_pos hj]
    ·rw [if_neg hj, if_neg hj, if_neg hj]
   ·rename_i hk
    have hk := Nat.ne_of_beq_eq_false hk
    split at h
    ·rename_i hk1
     have hk1 := Nat.eq_of_beq_eq_true hk1
     split at h <;> simp only [Option.some.injEq, reduceCtorEq] at h
     rename_i l' hl
     subst h
     have ih := put_get d l (k / 2) x l' hl
     rw [Ki, Ki, ih]
     by_cases hj : j = k
     ·subst hj; rw [if_neg hk, if_pos hk1, if_pos rfl, if_pos rfl]
     ·rw [if_neg hj]
      by_cases h0 : j = 0
      ·rw [if_pos h0, if_pos h0]
      ·rw [if_neg h0, if_neg h0]
       by_cases h1 : j % 2 = 1
       ·rw [if_pos h1, if_pos h1, if_neg (by omega)]
       ·rw [if_neg h1, if_neg h1]
    ·rename_i hk1
     have hk1 := Nat.ne_of_beq_eq_false hk1
     split at h <;> simp only [Option.some.injEq, reduceCtorEq] at h
     rename_i r' hr
     subst h
     have ih := put_get d r (k / 2 - 1) x r' hr
     rw [Ki, Ki, ih]
     by_cases hj : j = k
     ·subst hj; rw [if_neg hk, if_neg hk1, if_pos rfl, if_pos rfl]
     ·rw [if_neg hj]
      by_cases h0 : j = 0
      ·rw [if_pos h0, if_pos h0]
      ·rw [if_neg h0, if_neg h0]
       by_cases h1 : j % 2 = 1
       ·rw [if_pos h1, if_pos h1]
       ·rw [if_neg h1, if_neg h1, if_neg (by omega)]
  cases t with
  | nil =>
   intro j
   have hn : (Tr.nil : Tr α).get j = (Tr.nd none .nil .nil).get j := by rw [Ki]; simp [get]
   rw [hn]
   exact key none .nil .nil (by unfold put at h; exact h) j
  | nd v l r => exact key v l r (by unfold put at h; exact h)
end Tr
theorem ziz {i j : Id} {k : Nat} (hi : hix i = some k) (hj : hix j = some k) : i = j := by
 obtain ⟨a, b⟩ := i
 obtain ⟨c, d⟩ := j
 unfold hix at hi hj
 simp only at hi hj
 split at hi <;> split at hj <;> simp only [Option.some.injEq, reduceCtorEq] at hi hj
 all_goals first | (exfalso; omega) | (have : a = c := (by omega); subst this; rfl)
theorem Yq {t t' : Tr ABlock} {id : Id} {b : Option ABlock} (h : t.sat id b = some t') (j : Id) : t'.at j = if j = id then b else t.at j := by
 unfold Tr.sat at h
 split at h <;> try (cases h; done)
 rename_i k hk
 have hp := Tr.put_get _ _ _ _ _ h
 unfold Tr.at
 by_cases hj : j = id
 ·subst hj
  rw [hk, if_pos rfl]
  simp only
  rw [hp, if_pos rfl]
 ·rw [if_neg hj]
  cases hx : hix j with
  | none => rfl
  | some k' =>
   simp only
   rw [hp, if_neg]
   rintro rfl
   exact hj (ziz hx hk)
structure StR (D : Id → Option ABlock) (H : AHeap) (nn : Nat) (S : Sh) : Prop where
 n : nn = S.n
 h : ∀ id b, S.t.at id = some b → H.get id = some b
 d : ∀ id b, D id = some b → H.get id = some b ∧ S.t.at id = none ∧ id.1 < nn
variable {D : Id → Option ABlock} {H : AHeap} {n : Nat} {S S' : Sh}
theorem StR.new {b : ABlock} (h : StR D H n S) (hs : S.new b = some S') : StR D (((n, 0), b) :: H) (n + 1) S' := by
 unfold Sh.new at hs
 split at hs <;> simp only [Option.some.injEq, reduceCtorEq] at hs
 rename_i t ht
 subst hs
 refine ⟨by simp [h.n], fun id c hc => ?_, fun id c hc => ?_⟩
 ·simp only at hc
  rw [Yq ht] at hc
  by_cases hj : (n, 0) = id
  ·subst hj; rw [AHeap.get_cons_same]; rw [if_pos (by rw [h.n])] at hc; exact hc
  ·rw [AHeap.get_cons_other _ _ hj]; rw [if_neg (by rw [← h.n]; exact fun e => hj e.symm)] at hc; exact h.h _ _ hc
 ·obtain ⟨g1, g2, g3⟩ := h.d id c hc
  have hj : (n, 0) ≠ id := fun e => by subst e; exact absurd g3 (Nat.lt_irrefl _)
  simp only
  rw [Yq ht, AHeap.get_cons_other _ _ hj, if_neg (by rw [← h.n]; exact fun e => hj e.symm)]
  exact ⟨g1, g2, by omega⟩
theorem StR.new2 {b c : ABlock} (h : StR D H n S) (hs : S.new2 b c = some S') : StR D (((n, 0), b) :: ((n, 1), c) :: H) (n + 1) S' := by
 unfold Sh.new2 at hs
 split at hs <;> try (cases hs; done)
 rename_i t ht
 split at hs <;> simp only [Option.some.injEq, reduceCtorEq] at hs
 rename_i t' ht'
 subst hs
 refine ⟨by simp [h.n], fun id u hu => ?_, fun id u hu => ?_⟩
 ·simp only at hu
  rw [Yq ht', Yq ht, ← h.n] at hu
  by_cases hj : (n, 0) = id
  ·subst hj; rw [AHeap.get_cons_same]; rw [if_neg (by simp), if_pos rfl] at hu; exact hu
  ·rw [AHeap.get_cons_other _ _ hj]
   by_cases hj1 : (n, 1) = id
   ·subst hj1; rw [AHeap.get_cons_same]; rw [if_pos rfl] at hu; exact hu
   ·rw [AHeap.get_cons_other _ _ hj1]; rw [if_neg (fun e => hj1 e.symm), if_neg (fun e => hj e.symm)] at hu; exact h.h _ _ hu
 ·obtain ⟨g1, g2, g3⟩ := h.d id u hu
  have hj : (n, 0) ≠ id := fun e => by subst e; exact absurd g3 (Nat.lt_irrefl _)
  have hj1 : (n, 1) ≠ id := fun e => by subst e; exact absurd g3 (Nat.lt_irrefl _)
  simp only
  rw [Yq ht', Yq ht, ← h.n, AHeap.get_cons_other _ _ hj, AHeap.get_cons_other _ _ hj1, if_neg (fun e => hj1 e.symm), if_neg (fun e => hj e.symm)]
  exact ⟨g1, g2, by omega⟩
theorem StR.upd {id : Id} {b b0 : ABlock} (h : StR D H n S) (h0 : S.t.at id = some b0) (hs : S.upd id b = some S') : StR D (H.set id b) n S' := by
 unfold Sh.upd at hs
 split at hs <;> simp only [Option.some.injEq, reduceCtorEq] at hs
 rename_i t ht
 subst hs
 refine ⟨h.n, fun j c hc => ?_, fun j c hc => ?_⟩
 ·simp only at hc
  rw [Yq ht] at hc
  rw [AHeap.get_set]
  by_cases hj : id = j
  ·subst hj; rw [if_pos rfl] at hc ⊢; rw [h.h _ _ h0]; exact hc
  ·rw [if_neg hj]; rw [if_neg (fun e => hj e.symm)] at hc; exact h.h _ _ hc
 ·obtain ⟨g1, g2, g3⟩ := h.d j c hc
  have hj : id ≠ j := fun e => by subst e; rw [h0] at g2; cases g2
  simp only
  rw [Yq ht, AHeap.get_set, if_neg hj, if_neg (fun e => hj e.symm)]
  exact ⟨g1, g2, g3⟩
theorem StR.cut {id : Id} {b0 : ABlock} (h : StR D H n S) (h0 : S.t.at id = some b0) (hs : S.cut id = some S') : StR D (H.del id) n S' := by
 unfold Sh.cut at hs
 split at hs <;> simp only [Option.some.injEq, reduceCtorEq] at hs
 rename_i t ht
 subst hs
 refine ⟨h.n, fun j c hc => ?_, fun j c hc => ?_⟩
 ·simp only at hc
  rw [Yq ht] at hc
  rw [AHeap.get_del]
  by_cases hj : id = j
  ·subst hj; rw [if_pos rfl] at hc; cases hc
  ·rw [if_neg hj]; rw [if_neg (fun e => hj e.symm)] at hc; exact h.h _ _ hc
 ·obtain ⟨g1, g2, g3⟩ := h.d j c hc
  have hj : id ≠ j := fun e => by subst e; rw [h0] at g2; cases g2
  simp only
  rw [Yq ht, AHeap.get_del, if_neg hj, if_neg (fun e => hj e.symm)]
  exact ⟨g1, g2, g3⟩
def HLe (h h' : Hp) : Prop := ∀ id b, h id = some b → h' id = some b
theorem kn {h h' : Hp} (hl : HLe h h') {ag : Bool} {n : Nat} : ∀ {x v : AVal}, Kq ag n h x = some v → Kq ag n h' x = some v := by
 intro x v hx
 unfold Kq at hx ⊢
 split at hx
 ·exact hx
 ·rename_i b i off
  cases hb : h b with
  | none => rw [hb] at hx; cases hx
  | some blk => rw [hb] at hx; simp only [hl _ _ hb]; exact hx
 ·cases hx
theorem z1m {h h' : Hp} (hl : HLe h h') {len s : Nat} {x y v : AVal} (hx : Xy len s h x y = some v) : Xy len s h' x y = some v := by
 unfold Xy at hx ⊢
 split at hx
 ·rename_i b i k j
  cases hb : h b with
  | none => rw [hb] at hx; cases hx
  | some blk => rw [hb] at hx; simp only [hl _ _ hb]; exact hx
 ·cases hx
theorem Uf {h h' : Hp} (hl : HLe h h') {len s : Nat} {x v : AVal} (hx : z7g len s h x = some v) : z7g len s h' x = some v := by
 unfold z7g at hx ⊢
 split at hx
 ·rename_i b i
  cases hb : h b with
  | none => rw [hb] at hx; cases hx
  | some blk => rw [hb] at hx; simp only [hl _ _ hb]; exact hx
 ·cases hx
theorem z3s {h h' : Hp} (hl : HLe h h') {ks : List CK} {ka g ok : Bool} {zs : List AVal} {k x v : AVal} (hx : U4 ks ka g ok zs h k x = some v) : U4 ks ka g ok zs h' k x = some v := by
 unfold U4 at hx ⊢
 split at hx
 ·exact hx
 ·rename_i b
  cases hb : h b with
  | none => rw [hb] at hx; cases hx
  | some blk => rw [hb] at hx; simp only [hl _ _ hb]; exact hx
 ·cases hx
theorem z8r {h h' : Hp} (hl : HLe h h') {x v : AVal} (hx : z8o h x = some v) : z8o h' x = some v := by
 unfold z8o at hx ⊢
 split at hx
 ·exact hx
 ·rename_i b
  cases hb : h b with
  | none => rw [hb] at hx; cases hx
  | some blk => rw [hb] at hx; simp only [hl _ _ hb]; exact hx
 ·cases hx
theorem Zm {h h' : Hp} (hl : HLe h h') {s : Nat} {x : AVal} {v : List (List AVal)} (hx : Zx h s x = some v) : Zx h' s x = some v := by
 unfold Zx at hx ⊢
 split at hx
 case h_3 b s' off len f =>
  cases hb : h b with
  | none => rw [hb] at hx; cases hx
  | some blk => rw [hb] at hx; simp only [hl _ _ hb]; exact hx
 all_goals first | exact hx | cases hx
theorem wy {α β : Type} {o : Option α} {f f' : α → Option β} {v : β} (hx : o.bind f = some v) (hf : ∀ a, f a = some v → f' a = some v) : o.bind f' = some v := by
 cases o with
 | none => cases hx
 | some a => exact hf a hx
theorem Kx {h h' : Hp} (hl : HLe h h') {g : Nat → AVal} {op : LOp} {v : AVal} (hx : z4r g h op = some v) : z4r g h' op = some v := by
 unfold z4r at hx ⊢
 split at hx
 case h_4 => exact wy hx fun a h => kn hl h
 case h_14 => exact wy hx fun a h => Uf hl h
 all_goals first
  | exact hx
  | exact wy hx fun a h => z8r hl h
  | exact wy hx fun a h => wy h fun b h => z1m hl h
  | exact wy hx fun a h => wy h fun b h => z3s hl h
  | exact wy hx fun a h => kn hl h
  | exact wy hx fun a h => Uf hl h
  | cases hx
theorem Qd {h h' : Hp} (hl : HLe h h') {g : Nat → AVal} {lo : LOper} {v : AVal} (hx : Yu g h lo = some v) : Yu g h' lo = some v := by
 unfold Yu at hx ⊢
 split at hx
 ·exact Kx hl hx
 ·split at hx
  ·split at hx <;> try (cases hx; done)
   rename_i v' hv
   rw [Kx hl hv]
   exact hx
  ·exact hx
  ·cases hx
theorem Wy {h h' : Hp} (hl : HLe h h') {lo : List Nat} : ∀ {d : List (Nat × LOper × Env × AVal)}, V1 h lo d = true → V1 h' lo d = true
 | [], _ => rfl
 | (p, o, e, v) :: r, hx => by
  unfold V1 at hx ⊢
  simp only [Bool.and_eq_true] at hx ⊢
  refine ⟨?_, Wy hl hx.2⟩
  have h1 := hx.1
  split at h1
  ·split at h1
   ·rename_i u hu
    rw [Qd hl hu]
    exact h1
   ·cases h1
  ·rfl
theorem zcy {h h' : Hp} (hl : HLe h h') {e : Ev} {r : LRes} {v : AVal} (hx : zit e h r = some v) : zit e h' r = some v := by
 unfold zit at hx ⊢
 split at hx
 ·exact hx
 ·split at hx
  ·exact kn hl hx
  ·cases hx
theorem Yk {a b : IntKind} : Kp a b = true ↔ a = b := by cases a <;> cases b <;> decide
theorem wt {a b : Int} : ile a b = true ↔ a ≤ b := by simp [ile]
theorem Vh {a b : Int} : ilt a b = true ↔ a < b := by simp [ilt]
theorem y7 {a b : Nat} : Nat.beq a b = true ↔ a = b := ⟨Nat.eq_of_beq_eq_true, fun h => by subst h; exact Nat.beq_refl a⟩
theorem xq {a b : Nat} : Nat.ble a b = true ↔ a ≤ b := by rw [Nat.ble_eq]
theorem uq {p : Bool} {v y : AVal} (h : ck p v = some y) : p = true ∧ v = y := by
 unfold ck at h
 split at h <;> simp only [Option.some.injEq, reduceCtorEq] at h
 exact ⟨rfl, h⟩
def XOk (x : XR) (y : AVal) : Prop := ∃ s, x = .ok s y ∧ s
theorem XOk.of {x : XR} {s : Prop} {y : AVal} (h : x = .ok s y) (hs : s) : XOk x y := ⟨s, h, hs⟩
theorem XOk.and {x : XR} {p : Prop} {y : AVal} (h : XOk x y) (hp : p) : XOk (x.and p) y := by
 obtain ⟨s, rfl, hs⟩ := h
 exact ⟨p ∧ s, rfl, hp, hs⟩
theorem zin {op : BinOp} {a b y : AVal} (h : zow op a b = some y) : XOk (zcv op a b) y := by
 unfold zow at h
 split at h
 ·unfold zcv
  cases op <;> simp only at h ⊢ <;> (obtain ⟨h1, rfl⟩ := uq h; refine ⟨_, rfl, ?_⟩) <;>
   simp only [Bool.and_eq_true, Yk, wt, Bool.not_eq_true', decide_eq_false_iff_not] at h1 <;> exact h1
 ·unfold zcv
  cases op <;> first
   | (cases h; done)
   | (obtain ⟨h1, rfl⟩ := uq h; exact ⟨_, rfl, wt.1 h1⟩)
   | (simp only [Option.some.injEq] at h; subst h; exact ⟨_, rfl, trivial⟩)
 ·cases h
theorem zlv {op : UnOp} {a y : AVal} (h : bun op a = some y) : XOk (xun op a) y := by
 unfold bun at h
 split at h
 ·unfold xun
  split at h <;> simp only [Option.some.injEq, reduceCtorEq] at h
  subst h; exact ⟨_, rfl, trivial⟩
 ·unfold xun
  split at h <;> simp only [Option.some.injEq, reduceCtorEq] at h <;> (subst h; exact ⟨_, rfl, trivial⟩)
 ·cases h
theorem z8u {k : CK} {x y : AVal} {b : Bool} (h : z4d k x y = some b) : ub k x y = some b := by
 unfold z4d at h
 split at h
 ·split at h <;> simp only [Option.some.injEq, reduceCtorEq] at h
  rename_i hk
  subst h
  simp [ub, Yk.1 hk]
 ·simpa [ub] using h
 ·simpa [ub] using h
 ·cases h
theorem kv : ∀ {ks : List CK} {xs ys : List AVal} {b : Bool}, kh ks xs ys = some b → y4 ks xs ys = some b
 | [], [], [], b, h => by simpa [kh, y4] using h
 | k :: ks, x :: xs, y :: ys, b, h => by
  unfold kh at h
  split at h <;> try (cases h; done)
  rename_i a ha
  split at h <;> try (cases h; done)
  rename_i c hc
  unfold y4
  rw [z8u ha, kv hc]
  exact h
 | [], [], _ :: _, _, h => by cases h
 | [], _ :: _, _, _, h => by cases h
 | _ :: _, [], _, _, h => by cases h
 | _ :: _, _ :: _, [], _, h => by cases h
theorem zed {x y : AVal} {b : Bool} (h : zhv x y = some b) : XOk (Jn x y) (.bool b) := by
 unfold zhv at h
 split at h
 ·simp only [Option.some.injEq] at h; subst h; exact ⟨_, rfl, trivial⟩
 ·rename_i len _
  cases hz : Nat.beq len 0 <;> rw [hz] at h <;> simp only [Option.some.injEq, reduceCtorEq] at h
  subst h; exact ⟨_, rfl, Nat.ne_of_beq_eq_false hz⟩
 ·rename_i len _
  cases hz : Nat.beq len 0 <;> rw [hz] at h <;> simp only [Option.some.injEq, reduceCtorEq] at h
  subst h; exact ⟨_, rfl, Nat.ne_of_beq_eq_false hz⟩
 ·rename_i es _
  cases es <;> simp only [Option.some.injEq, reduceCtorEq] at h
  subst h; exact ⟨_, rfl, by simp⟩
 ·rename_i es _
  cases es <;> simp only [Option.some.injEq, reduceCtorEq] at h
  subst h; exact ⟨_, rfl, by simp⟩
 ·cases h
theorem zis {k : EqK} {x y : AVal} {b : Bool} (h : znt k x y = some b) : XOk (zb7 k x y) (.bool b) := by
 unfold znt at h
 unfold zb7
 split at h
 ·split at h <;> simp only [Option.some.injEq, reduceCtorEq] at h
  subst h; exact ⟨_, rfl, trivial⟩
 ·simp only
  unfold zgk at h
  split at h <;> simp only [Option.some.injEq, reduceCtorEq] at h <;> (subst h; exact ⟨_, rfl, trivial⟩)
 ·simp only
  exact zed h
 ·simp only
  unfold zgw at h
  split at h <;> simp only [Option.some.injEq, reduceCtorEq] at h <;> (subst h; exact ⟨_, rfl, trivial⟩)
 ·simp only
  split at h <;> try (cases h; done)
  simp only [zbo, kv h]
  exact ⟨_, rfl, trivial⟩
 ·simp only
  unfold z9y at h
  split at h <;> simp only [Option.some.injEq, reduceCtorEq] at h <;> (subst h; exact ⟨_, rfl, trivial⟩)
 ·simp only
  unfold zab at h
  split at h <;> simp only [Option.some.injEq, reduceCtorEq] at h <;> (subst h; exact ⟨_, rfl, trivial⟩)
 ·cases h
theorem zhm {neg : Bool} {k : EqK} {x y z : AVal} (h : zog neg k x y = some z) : XOk (xeq neg k x y) z := by
 unfold zog at h
 split at h <;> simp only [Option.some.injEq, reduceCtorEq] at h
 rename_i b hb
 obtain ⟨s, h1, h2⟩ := zis hb
 unfold xeq
 subst h
 cases neg with
 | true => simp only [if_true, h1, XR.neg]; exact ⟨_, rfl, h2⟩
 | false => simp only [Bool.false_eq_true, if_false, h1]; exact ⟨_, rfl, h2⟩
theorem Xu {ag : Bool} {m : Nat} {x y : AVal} (h : Kq ag m H.get x = some y) : XOk (W7 ag m H x) y := by
 unfold Kq at h
 unfold W7
 split at h
 ·obtain ⟨h1, rfl⟩ := uq h
  simp only [Bool.and_eq_true, xq] at h1
  exact ⟨_, rfl, h1⟩
 ·rename_i b i off
  simp only
  split at h <;> try (cases h; done)
  ·rename_i hg
   obtain ⟨h1, rfl⟩ := uq h
   simp only [Bool.and_eq_true, xq] at h1
   rw [hg]
   exact ⟨_, rfl, h1⟩
  ·rename_i hg
   obtain ⟨h1, rfl⟩ := uq h
   simp only [Bool.and_eq_true, xq, y7] at h1
   rw [hg]
   exact ⟨_, rfl, h1⟩
 ·cases h
theorem zby {off : Nat} {x y : AVal} (h : zb9 off x = some y) : XOk (Ui off x) y := by
 unfold zb9 at h
 split at h <;> simp only [Option.some.injEq, reduceCtorEq] at h <;> (subst h; exact ⟨_, rfl, trivial⟩)
theorem zdi {ag : Bool} {m off : Nat} {x y : AVal} (h : zcw ag m off x = some y) : XOk (Us ag m off x) y := by
 unfold zcw at h
 split at h <;> try (cases h; done)
 obtain ⟨h1, rfl⟩ := uq h
 exact ⟨_, rfl, xq.1 h1⟩
theorem z28 {s : Nat} {x i y : AVal} (h : z5d s x i = some y) : XOk (Vv s x i) y := by
 unfold z5d at h
 split at h <;> try (cases h; done)
 all_goals
  obtain ⟨h1, rfl⟩ := uq h
  simp only [Bool.and_eq_true, y7, wt, Vh, and_assoc] at h1
  exact ⟨_, rfl, h1⟩
theorem z7v {len s : Nat} {x i y : AVal} (h : z4b len s x i = some y) : XOk (Kg len s x i) y := by
 unfold z4b at h
 split at h <;> try (cases h; done)
 all_goals
  obtain ⟨h1, rfl⟩ := uq h
  simp only [Bool.and_eq_true, wt, Vh] at h1
  exact ⟨_, rfl, h1⟩
theorem z7t {len s : Nat} {x i y : AVal} (h : Xy len s H.get x i = some y) : XOk (Qs len s H x i) y := by
 unfold Xy at h
 split at h <;> try (cases h; done)
 split at h <;> try (cases h; done)
 rename_i hg
 obtain ⟨h1, rfl⟩ := uq h
 simp only [Bool.and_eq_true, y7, wt, Vh, and_assoc] at h1
 simp only [Qs, hg]
 exact ⟨_, rfl, h1⟩
theorem zfj {len s : Nat} {x y : AVal} (h : z7g len s H.get x = some y) : XOk (z8k len s H x) y := by
 unfold z7g at h
 split at h <;> try (cases h; done)
 split at h <;> try (cases h; done)
 rename_i hg
 obtain ⟨h1, rfl⟩ := uq h
 simp only [Bool.and_eq_true, y7, xq] at h1
 simp only [z8k, hg]
 exact ⟨_, rfl, h1⟩
theorem zec {x i y : AVal} (h : ziy x i = some y) : XOk (za8 x i) y := by
 unfold ziy at h
 split at h <;> try (cases h; done)
 obtain ⟨h1, rfl⟩ := uq h
 simp only [Bool.and_eq_true, wt, Vh] at h1
 exact ⟨_, rfl, h1⟩
theorem ze2 {len s : Nat} {ag : Bool} {x i y : AVal} (h : zjx len s ag x i = some y) : XOk (z9w len s ag x i) y := by
 unfold zjx at h
 split at h <;> try (cases h; done)
 obtain ⟨h1, rfl⟩ := uq h
 simp only [Bool.and_eq_true, wt, Vh, xq, and_assoc] at h1
 exact ⟨_, rfl, h1⟩
theorem zhj {k : Nat} {x y : AVal} (h : znv k x = some y) : XOk (zk7 k x) y := by
 unfold znv at h
 split at h <;> try (cases h; done)
 obtain ⟨h1, rfl⟩ := uq h
 exact ⟨_, rfl, xq.1 h1⟩
theorem zf9 {x y : AVal} (h : zii x = some y) : XOk (z8v x) y := by
 unfold zii at h
 split at h <;> simp only [Option.some.injEq, reduceCtorEq] at h
 subst h; exact ⟨_, rfl, trivial⟩
theorem z5n {x y : AVal} (h : zg1 x = some y) : XOk (z4q x) y := by
 unfold zg1 at h
 split at h <;> simp only [Option.some.injEq, reduceCtorEq] at h <;> (subst h; exact ⟨_, rfl, trivial⟩)
theorem zce {x y : AVal} (h : zc4 x = some y) : XOk (Ue x) y := by
 unfold zc4 at h
 split at h <;> simp only [Option.some.injEq, reduceCtorEq] at h <;> (subst h; exact ⟨_, rfl, trivial⟩)
variable {e : Env}
theorem zl {x : LOpd} {v : AVal} (h : we e.get x = some v) : x.ev e = v ∧ x.need e := by
 cases x with
 | c u => simp only [we, Option.some.injEq] at h; exact ⟨h, trivial⟩
 | t i =>
  simp only [we] at h
  show (e.get i).strip = v ∧ (e.get i).need
  split at h
  ·rename_i u hu
   simp only [Option.some.injEq] at h
   rw [hu]
   exact ⟨h, rfl⟩
  ·cases h
  ·rename_i h1 h2
   simp only [Option.some.injEq] at h
   cases hg : e.get i with
   | cnd p u =>
    cases p with
    | true => exact absurd hg (h1 u)
    | false => exact absurd hg (h2 u)
   | _ => rw [hg] at h; subst h; exact ⟨rfl, trivial⟩
theorem Yl : ∀ {xs : List LOpd} {vs : List AVal}, z0l e.get xs = some vs → evs e xs = vs ∧ Zq e xs
 | [], vs, h => by simp only [z0l, Option.some.injEq] at h; exact ⟨h, trivial⟩
 | x :: xs, vs, h => by
  unfold z0l at h
  split at h <;> try (cases h; done)
  rename_i a ha
  split at h <;> simp only [Option.some.injEq, reduceCtorEq] at h
  rename_i l hl
  obtain ⟨h1, h2⟩ := zl ha
  obtain ⟨h3, h4⟩ := Yl hl
  exact ⟨by unfold evs; rw [h1, h3]; exact h, h2, h4⟩
theorem wa {d : Nat} {o : Option LOpd} {j : Int} (h : ut e.get d o = some j) : qq e d o = some j ∧ vw e o := by
 cases o with
 | none => simp only [ut, Option.some.injEq] at h; exact ⟨by simp [qq, h], trivial⟩
 | some x =>
  simp only [ut] at h
  split at h <;> simp only [Option.some.injEq, reduceCtorEq] at h
  rename_i k z hx
  obtain ⟨h1, h2⟩ := zl hx
  subst h
  exact ⟨by simp only [qq, h1], h2⟩
theorem zca {lo hi : Option LOpd} {x y : AVal} (h : zbs e.get lo hi x = some y) : XOk (U0 (fun d => qq e d lo) (fun d => qq e d hi) x) y ∧ vw e lo ∧ vw e hi := by
 unfold zbs at h
 split at h <;> try (cases h; done)
 split at h <;> try (cases h; done)
 rename_i a b ha hb
 obtain ⟨h1, rfl⟩ := uq h
 obtain ⟨ha1, ha2⟩ := wa ha
 obtain ⟨hb1, hb2⟩ := wa hb
 simp only [Bool.and_eq_true, wt, and_assoc] at h1
 refine ⟨?_, ha2, hb2⟩
 simp only [U0, ha1, hb1]
 exact ⟨_, rfl, h1⟩
theorem zeg {s : Nat} {lo hi mx : Option LOpd} {x y : AVal} (h : zjr e.get s lo hi mx x = some y) (kp : Bool) : XOk (zdd s (fun d => qq e d lo) (fun d => qq e d hi) (Ks e mx) kp x) y ∧ vw e lo ∧ vw e hi ∧ vw e mx := by
 unfold zjr at h
 split at h
 ·split at h <;> try (cases h; done)
  rename_i a b ha hb
  obtain ⟨ha1, ha2⟩ := wa ha
  obtain ⟨hb1, hb2⟩ := wa hb
  split at h
  ·obtain ⟨h1, rfl⟩ := uq h
   simp only [Bool.and_eq_true, y7, wt, and_assoc] at h1
   refine ⟨?_, ha2, hb2, trivial⟩
   simp only [zdd, z0y, ha1, hb1, Ks]
   exact ⟨_, rfl, h1⟩
  ·split at h <;> try (cases h; done)
   rename_i z hz
   obtain ⟨hz1, hz2⟩ := wa hz
   obtain ⟨h1, rfl⟩ := uq h
   simp only [Bool.and_eq_true, y7, wt, and_assoc] at h1
   refine ⟨?_, ha2, hb2, hz2⟩
   simp only [zdd, z0y, ha1, hb1, Ks, hz1]
   exact ⟨_, rfl, h1⟩
 ·split at h <;> try (cases h; done)
  rename_i a b ha hb
  obtain ⟨ha1, ha2⟩ := wa ha
  obtain ⟨hb1, hb2⟩ := wa hb
  split at h
  ·obtain ⟨h1, rfl⟩ := uq h
   simp only [Bool.and_eq_true, y7, wt, and_assoc] at h1
   refine ⟨?_, ha2, hb2, trivial⟩
   simp only [zdd, z0y, ha1, hb1, Ks]
   exact ⟨_, rfl, h1⟩
  ·split at h <;> try (cases h; done)
   rename_i z hz
   obtain ⟨hz1, hz2⟩ := wa hz
   obtain ⟨h1, rfl⟩ := uq h
   simp only [Bool.and_eq_true, y7, wt, and_assoc] at h1
   refine ⟨?_, ha2, hb2, hz2⟩
   simp only [zdd, z0y, ha1, hb1, Ks, hz1]
   exact ⟨_, rfl, h1⟩
 ·split at h <;> try (cases h; done)
  rename_i a b ha hb
  obtain ⟨ha1, ha2⟩ := wa ha
  obtain ⟨hb1, hb2⟩ := wa hb
  obtain ⟨h1, rfl⟩ := uq h
  simp only [Bool.and_eq_true, decide_eq_true_eq] at h1
  refine ⟨?_, ha2, hb2, trivial⟩
  simp only [zdd, z0y, ha1, hb1, Ks]
  exact ⟨_, rfl, h1⟩
 ·cases h
theorem z25 : ∀ {ps : List (Nat × Nat × AVal)} {cells : List AVal} {y : AVal}, z1b cells ps = some y → XOk (uf cells ps) y
 | [], cells, y, h => by simp only [z1b, Option.some.injEq] at h; subst h; exact ⟨_, rfl, trivial⟩
 | (off, m, x) :: r, cells, y, h => by
  unfold z1b at h
  split at h <;> try (cases h; done)
  rename_i cs hc
  split at h <;> try (cases h; done)
  rename_i hb
  simp only [Bool.and_eq_true, y7, xq] at hb
  obtain ⟨s, h1, h2⟩ := z25 h
  simp only [uf, hc, h1]
  exact ⟨_, rfl, hb.1, hb.2, h2⟩
theorem z2l : ∀ {ps : List (Nat × Nat × LOpd)} {l : List (Nat × Nat × AVal)}, z20 e.get ps = some l → jl e ps = l ∧ jb e ps
 | [], l, h => by simp only [z20, Option.some.injEq] at h; exact ⟨h, trivial⟩
 | (o, m, x) :: r, l, h => by
  unfold z20 at h
  split at h <;> try (cases h; done)
  rename_i a ha
  split at h <;> simp only [Option.some.injEq, reduceCtorEq] at h
  rename_i l' hl
  obtain ⟨h1, h2⟩ := zl ha
  obtain ⟨h3, h4⟩ := z2l hl
  exact ⟨by unfold jl; rw [h1, h3]; exact h, h2, h4⟩
theorem za3 {mx : Bool} : ∀ {l : List AVal} {v y : AVal}, zjv mx v l = some y → XOk (zaf mx v l) y
 | [], v, y, h => by
  cases v <;> simp only [zjv, Option.some.injEq] at h <;> (subst h; exact ⟨_, rfl, trivial⟩)
 | x :: r, v, y, h => by
  cases v <;> try (simp [zjv] at h; done)
  cases x <;> try (simp [zjv] at h; done)
  simp only [zjv] at h
  split at h <;> try (cases h; done)
  rename_i hk
  obtain ⟨s, h1, h2⟩ := za3 h
  simp only [zaf, h1]
  exact ⟨_, rfl, Yk.1 hk, h2⟩
theorem zfy {mx : Bool} {l : List AVal} {y : AVal} (h : zij mx l = some y) : XOk (zat mx l) y := by
 unfold zij at h
 split at h <;> try (cases h; done)
 exact za3 h
theorem Xs {ks : List CK} {ka : Bool} {k : AVal} (h : U3 ks ka k = true) : Zn ks ka k = true := by
 unfold U3 at h
 unfold Zn
 simp only [Bool.and_eq_true] at h ⊢
 refine ⟨h.1, ?_⟩
 cases hc : kh ks (qa k) (qa k) with
 | none => rw [hc] at h; cases h.2
 | some b => rw [kv hc]; rfl
theorem ur {ks : List CK} {k k' : AVal} {b : Bool} (h : z3e ks k k' = some b) : W8 ks k k' = some b := by
 unfold z3e at h
 unfold W8
 split at h <;> try (cases h; done)
 ·rename_i h1 h2; rw [h1, h2]; exact kv h
 ·rename_i h1 h2; rw [h1, h2]; exact kv h
theorem z2e {ks : List CK} {k : AVal} : ∀ {es : List (AVal × AVal)} {r : Option AVal}, z5r ks k es = some r → Ko ks k es = some r
 | [], r, h => h
 | (k', x) :: es, r, h => by
  unfold z5r at h
  unfold Ko
  split at h <;> try (cases h; done)
  ·rename_i hk; rw [ur hk]; exact h
  ·rename_i hk; rw [ur hk]; exact z2e h
theorem z6r {ks : List CK} {k x : AVal} : ∀ {es r : List (AVal × AVal)}, zf5 ks k x es = some r → zg3 ks k x es = some r
 | [], r, h => h
 | (k', y) :: es, r, h => by
  unfold zf5 at h
  unfold zg3
  split at h <;> try (cases h; done)
  ·rename_i hk; rw [ur hk]; exact h
  ·rename_i hk
   rw [ur hk]
   split at h <;> simp only [Option.some.injEq, reduceCtorEq] at h
   rename_i l hl
   subst h
   simp only [z6r hl, Option.map_some]
theorem z3l {ks : List CK} {k : AVal} : ∀ {es r : List (AVal × AVal)}, z60 ks k es = some r → z0w ks k es = some r
 | [], r, h => h
 | (k', y) :: es, r, h => by
  unfold z60 at h
  unfold z0w
  split at h <;> try (cases h; done)
  ·rename_i hk; rw [ur hk]; exact h
  ·rename_i hk
   rw [ur hk]
   split at h <;> simp only [Option.some.injEq, reduceCtorEq] at h
   rename_i l hl
   subst h
   simp only [z3l hl, Option.map_some]
theorem z9x {ks : List CK} {ka ag ok : Bool} {zs : List AVal} {k x y : AVal} (h : U4 ks ka ag ok zs H.get k x = some y) : XOk (W0 ks ka ag ok zs H k x) y := by
 unfold U4 at h
 split at h
 ·obtain ⟨h1, rfl⟩ := uq h
  simp only [W0, Xs h1, if_true]
  exact ⟨_, rfl, trivial⟩
 ·split at h <;> try (cases h; done)
  rename_i hg
  split at h <;> try (cases h; done)
  rename_i hk
  split at h <;> simp only [Option.some.injEq, reduceCtorEq] at h
  rename_i r hr
  subst h
  simp only [W0, hg, Xs hk, if_true, z2e hr]
  exact ⟨_, rfl, rfl⟩
 ·cases h
theorem zfp {x y : AVal} (h : z8o H.get x = some y) : XOk (z4m H x) y := by
 unfold z8o at h
 split at h
 ·simp only [Option.some.injEq] at h; subst h; exact ⟨_, rfl, trivial⟩
 ·split at h <;> simp only [Option.some.injEq, reduceCtorEq] at h
  rename_i hg
  subst h
  simp only [z4m, hg]
  exact ⟨_, rfl, trivial⟩
 ·cases h
theorem w9 {α γ : Type} {x : Option α} {f : α → Option γ} {o : γ} (h : x.bind f = some o) : ∃ r, x = some r ∧ f r = some o := by
 cases x with
 | none => cases h
 | some r => exact ⟨r, rfl, h⟩
theorem Wa {op : LOp} {v : AVal} (h : z4r e.get H.get op = some v) : XOk (x8 e H op) v := by
 cases op <;> simp only [z4r, reduceCtorEq] at h <;> simp only [x8]
 case mv x => obtain ⟨h1, h2⟩ := zl h; rw [h1]; exact ⟨_, rfl, h2⟩
 case pick c a b =>
  split at h <;> try (cases h; done)
  ·rename_i hc
   obtain ⟨c1, c2⟩ := zl hc
   obtain ⟨a1, a2⟩ := zl h
   rw [c1]
   subst a1; exact XOk.and (XOk.of rfl ⟨fun _ => a2, fun h => by cases h⟩) c2
  ·rename_i hc
   obtain ⟨c1, c2⟩ := zl hc
   obtain ⟨a1, a2⟩ := zl h
   rw [c1]
   subst a1; exact XOk.and (XOk.of rfl ⟨fun h => (by cases h), fun _ => a2⟩) c2
 case build zs parts =>
  obtain ⟨ps, h1, h2⟩ := w9 h
  obtain ⟨p1, p2⟩ := z2l h1
  rw [p1]
  exact (z25 h2).and p2
 case load ag m a => obtain ⟨x, h1, h2⟩ := w9 h; obtain ⟨p1, p2⟩ := zl h1; rw [p1]; exact (Xu h2).and p2
 case nilck a => obtain ⟨x, h1, h2⟩ := w9 h; obtain ⟨p1, p2⟩ := zl h1; rw [p1]; exact (zce h2).and p2
 case bin op x y => obtain ⟨a, h1, h2⟩ := w9 h; obtain ⟨b, h3, h4⟩ := w9 h2; obtain ⟨p1, p2⟩ := zl h1; obtain ⟨q1, q2⟩ := zl h3; rw [p1, q1]; exact (zin h4).and ⟨p2, q2⟩
 case eq neg k x y => obtain ⟨a, h1, h2⟩ := w9 h; obtain ⟨b, h3, h4⟩ := w9 h2; obtain ⟨p1, p2⟩ := zl h1; obtain ⟨q1, q2⟩ := zl h3; rw [p1, q1]; exact (zhm h4).and ⟨p2, q2⟩
 case un op x => obtain ⟨a, h1, h2⟩ := w9 h; obtain ⟨p1, p2⟩ := zl h1; rw [p1]; exact (zlv h2).and p2
 case conv k x =>
  cases k with
  | int k =>
   simp only at h ⊢
   split at h <;> simp only [Option.some.injEq, reduceCtorEq] at h
   rename_i hx
   obtain ⟨p1, p2⟩ := zl hx
   subst h
   simp only [p1]
   exact ⟨_, rfl, p2⟩
  | same =>
   simp only at h ⊢
   split at h <;> simp only [Option.some.injEq, reduceCtorEq] at h
   rename_i hx
   obtain ⟨p1, p2⟩ := zl hx
   subst h
   simp only [p1]
   exact ⟨_, rfl, p2⟩
  | s2b vm => cases h
  | b2s => cases h
 case mkfn f a c =>
  obtain ⟨as, h1, h2⟩ := w9 h
  obtain ⟨cs, h3, h4⟩ := w9 h2
  obtain ⟨p1, p2⟩ := Yl h1
  obtain ⟨q1, q2⟩ := Yl h3
  simp only [Option.some.injEq] at h4
  subst h4
  rw [p1, q1]
  exact ⟨_, rfl, p2, q2⟩
 case slStr x lo hi => obtain ⟨a, h1, h2⟩ := w9 h; obtain ⟨p1, p2⟩ := zl h1; obtain ⟨q1, q2⟩ := zca h2; rw [p1]; exact q1.and ⟨p2, q2⟩
 case slSl s x lo hi mx => obtain ⟨a, h1, h2⟩ := w9 h; obtain ⟨p1, p2⟩ := zl h1; obtain ⟨q1, q2⟩ := zeg h2 (hi.isNone && mx.isNone); rw [p1]; exact q1.and ⟨p2, q2⟩
 case slAr m s x => obtain ⟨a, h1, h2⟩ := w9 h; obtain ⟨p1, p2⟩ := zl h1; rw [p1]; exact (zfj h2).and p2
 case faddr off x => obtain ⟨a, h1, h2⟩ := w9 h; obtain ⟨p1, p2⟩ := zl h1; rw [p1]; exact (zby h2).and p2
 case field ag m off x => obtain ⟨a, h1, h2⟩ := w9 h; obtain ⟨p1, p2⟩ := zl h1; rw [p1]; exact (zdi h2).and p2
 case iaddr s x i => obtain ⟨a, h1, h2⟩ := w9 h; obtain ⟨b, h3, h4⟩ := w9 h2; obtain ⟨p1, p2⟩ := zl h1; obtain ⟨q1, q2⟩ := zl h3; rw [p1, q1]; exact (z28 h4).and ⟨p2, q2⟩
 case iaddrA m s x i => obtain ⟨a, h1, h2⟩ := w9 h; obtain ⟨b, h3, h4⟩ := w9 h2; obtain ⟨p1, p2⟩ := zl h1; obtain ⟨q1, q2⟩ := zl h3; rw [p1, q1]; exact (z7v h4).and ⟨p2, q2⟩
 case iaddrR m s x i => obtain ⟨a, h1, h2⟩ := w9 h; obtain ⟨b, h3, h4⟩ := w9 h2; obtain ⟨p1, p2⟩ := zl h1; obtain ⟨q1, q2⟩ := zl h3; rw [p1, q1]; exact (z7t h4).and ⟨p2, q2⟩
 case idxS x i => obtain ⟨a, h1, h2⟩ := w9 h; obtain ⟨b, h3, h4⟩ := w9 h2; obtain ⟨p1, p2⟩ := zl h1; obtain ⟨q1, q2⟩ := zl h3; rw [p1, q1]; exact (zec h4).and ⟨p2, q2⟩
 case idxA m s ag x i => obtain ⟨a, h1, h2⟩ := w9 h; obtain ⟨b, h3, h4⟩ := w9 h2; obtain ⟨p1, p2⟩ := zl h1; obtain ⟨q1, q2⟩ := zl h3; rw [p1, q1]; exact (ze2 h4).and ⟨p2, q2⟩
 case ext k x => obtain ⟨a, h1, h2⟩ := w9 h; obtain ⟨p1, p2⟩ := zl h1; rw [p1]; exact (zhj h2).and p2
 case len st x =>
  cases st with
  | true => simp only at h ⊢; obtain ⟨a, h1, h2⟩ := w9 h; obtain ⟨p1, p2⟩ := zl h1; rw [p1]; exact (zf9 h2).and p2
  | false => simp only at h ⊢; obtain ⟨a, h1, h2⟩ := w9 h; obtain ⟨p1, p2⟩ := zl h1; rw [p1]; exact (z5n h2).and p2
 case mnx m args => obtain ⟨a, h1, h2⟩ := w9 h; obtain ⟨p1, p2⟩ := Yl h1; rw [p1]; exact (zfy h2).and p2
 case mlook ks ka ag ok zs x k => obtain ⟨a, h1, h2⟩ := w9 h; obtain ⟨b, h3, h4⟩ := w9 h2; obtain ⟨p1, p2⟩ := zl h1; obtain ⟨q1, q2⟩ := zl h3; rw [p1, q1]; exact (z9x h4).and ⟨p2, q2⟩
 case mlen x => obtain ⟨a, h1, h2⟩ := w9 h; obtain ⟨p1, p2⟩ := zl h1; rw [p1]; exact (zfp h2).and p2
end Go.Fx
