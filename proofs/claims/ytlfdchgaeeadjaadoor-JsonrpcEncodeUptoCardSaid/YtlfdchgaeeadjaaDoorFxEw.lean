/-
  Own framework.
-/
import Derived.Test.YtlfdchgaeeadjaaDoorFxEv
import Derived.Test.YtlfdchgaeeadjaaDoorFxZ
namespace Go.Fx
set_option linter.unusedVariables false
namespace Tr
variable {α : Type}
theorem U3 (v : Option α) (l r : Tr α) (j : Nat) : (Tr.nd v l r).get j = if j = 0 then v else if j % 2 = 1 then l.get (j / 2) else r.get (j / 2 - 1) := by
 show (match Nat.beq j 0 with
  | true => v
  | false => match Nat.beq (j % 2) 1 with
   | true => get l (j / 2)
   | false => get r (j / 2 - 1)) = _
 by_cases h : j = 0
 ·subst h; rfl
 ·rw [if_neg h]
  have h0 : Nat.beq j 0 = false := Bool.eq_false_iff.2 fun h' => h (Nat.eq_of_beq_eq_true h')
  rw [h0]
  simp only
  by_cases h1 : j % 2 = 1
  ·rw [if_pos h1, h1]
  ·rw [if_neg h1]
   have : j % 2 = 0 := by omega
   rw [this]
theorem put_get : ∀ (d : Nat) (t : Tr α) (k : Nat) (x : Option α) (t' : Tr α), put d t k x = some t' → ∀ j, t'.get j = if j = k then x else t.get j
 | 0, _, _, _, _, h => by simp [put] at h
 | d + 1, t, k, x, t', h => by
  have key : ∀ (v : Option α) (l r : Tr α), (match Nat.beq k 0 with
   | true => some (Tr.nd x l r)
   | false => match Nat.beq (k % 2) 1 with
    | true => match put d l (k / 2) x with | some l => some (.nd v l r) | none => none
    | false => match put d r (k / 2 - 1) x with | some r => some (.nd v l r) | none => none) = some t' → ∀ j, t'.get j = if j = k then x else (Tr.nd v l r).get j := by
   intro v l r h j
   split at h
   ·rename_i hk
    have hk := Nat.eq_of_beq_eq_true hk
    simp only [Option.some.injEq] at h
    subst h hk
    rw [U3, U3]
    by_cases hj : j = 0
    ·rw [if_pos hj, if_pos hj]
    ·rw [if_neg hj, if_neg hj, if_neg hj]
   ·rename_i hk
    have hk := Nat.ne_of_beq_eq_false hk
    split at h
    ·rename_i hk1
     have hk1 := Nat.eq_of_beq_eq_true hk1
     split at h <;> simp only [Option.some.injEq, reduceCtorEq] at h
     rename_i l' hl
     subst h
     have ih := put_get d l (k / 2) x l' hl
     rw [U3, U3, ih]
     by_cases hj : j = k
     ·subst hj; rw [if_neg hk, if_pos hk1, if_pos rfl, if_pos rfl]
     ·rw [if_neg hj]
      by_cases h0 : j = 0
      ·rw [if_pos h0, if_pos h0]
      ·rw [if_neg h0, if_neg h0]
       by_cases h1 : j % 2 = 1
       ·rw [if_pos h1, if_pos h1, if_neg (by omega)]
       ·rw [if_neg h1, if_neg h1]
    ·rename_i hk1
     have hk1 := Nat.ne_of_beq_eq_false hk1
     split at h <;> simp only [Option.some.injEq, reduceCtorEq] at h
     rename_i r' hr
     subst h
     have ih := put_get d r (k / 2 - 1) x r' hr
     rw [U3, U3, ih]
     by_cases hj : j = k
     ·subst hj; rw [if_neg hk, if_neg hk1, if_pos rfl, if_pos rfl]
     ·rw [if_neg hj]
      by_cases h0 : j = 0
      ·rw [if_pos h0, if_pos h0]
      ·rw [if_neg h0, if_neg h0]
       by_cases h1 : j % 2 = 1
       ·rw [if_pos h1, if_pos h1]
       ·rw [if_neg h1, if_neg h1, if_neg (by omega)]
  cases t with
  | nil =>
   intro j
   have hn : (Tr.nil : Tr α).get j = (Tr.nd none .nil .nil).get j := by rw [U3]; simp [get]
   rw [hn]
   exact key none .nil .nil (by unfold put at h; exact h) j
  | nd v l r => exact key v l r (by unfold put at h; exact h)
end Tr
theorem zmt {i j : Id} {k : Nat} (hi : hix i = some k) (hj : hix j = some k) : i = j := by
 obtain ⟨a, b⟩ := i
 obtain ⟨c, d⟩ := j
 unfold hix at hi hj
 simp only at hi hj
 split at hi <;> split at hj <;> simp only [Option.some.injEq, reduceCtorEq] at hi hj
 all_goals first | (exfalso; omega) | (have : a = c := (by omega); subst this; rfl)
theorem z35 {t t' : Tr ABlock} {id : Id} {b : Option ABlock} (h : t.sat id b = some t') (j : Id) : t'.at j = if j = id then b else t.at j := by
 unfold Tr.sat at h
 split at h <;> try (cases h; done)
 rename_i k hk
 have hp := Tr.put_get _ _ _ _ _ h
 unfold Tr.at
 by_cases hj : j = id
 ·subst hj
  rw [hk, if_pos rfl]
  simp only
  rw [hp, if_pos rfl]
 ·rw [if_neg hj]
  cases hx : hix j with
  | none => rfl
  | some k' =>
   simp only
   rw [hp, if_neg]
   rintro rfl
   exact hj (zmt hx hk)
structure StR (H : AHeap) (n : Nat) (S : Sh) : Prop where
 n : n = S.n
 h : ∀ id, H.get id = S.t.at id
variable {H : AHeap} {n : Nat} {S S' : Sh}
theorem StR.new {b : ABlock} (h : StR H n S) (hs : S.new b = some S') : StR (((n, 0), b) :: H) (n + 1) S' := by
 unfold Sh.new at hs
 split at hs <;> simp only [Option.some.injEq, reduceCtorEq] at hs
 rename_i t ht
 subst hs
 refine ⟨by simp [h.n], fun id => ?_⟩
 simp only
 rw [z35 ht]
 by_cases hj : (n, 0) = id
 ·subst hj; rw [AHeap.get_cons_same, if_pos (by rw [h.n])]
 ·rw [AHeap.get_cons_other _ _ hj, if_neg (by rw [← h.n]; exact fun e => hj e.symm), h.h]
theorem StR.new2 {b c : ABlock} (h : StR H n S) (hs : S.new2 b c = some S') : StR (((n, 0), b) :: ((n, 1), c) :: H) (n + 1) S' := by
 unfold Sh.new2 at hs
 split at hs <;> try (cases hs; done)
 rename_i t ht
 split at hs <;> simp only [Option.some.injEq, reduceCtorEq] at hs
 rename_i t' ht'
 subst hs
 refine ⟨by simp [h.n], fun id => ?_⟩
 simp only
 rw [z35 ht', z35 ht, ← h.n]
 by_cases hj : (n, 0) = id
 ·subst hj; rw [AHeap.get_cons_same, if_neg (by simp), if_pos rfl]
 ·rw [AHeap.get_cons_other _ _ hj]
  by_cases hj1 : (n, 1) = id
  ·subst hj1; rw [AHeap.get_cons_same, if_pos rfl]
  ·rw [AHeap.get_cons_other _ _ hj1, if_neg (fun e => hj1 e.symm), if_neg (fun e => hj e.symm), h.h]
theorem StR.upd {id : Id} {b b0 : ABlock} (h : StR H n S) (h0 : S.t.at id = some b0) (hs : S.upd id b = some S') : StR (H.set id b) n S' := by
 unfold Sh.upd at hs
 split at hs <;> simp only [Option.some.injEq, reduceCtorEq] at hs
 rename_i t ht
 subst hs
 refine ⟨h.n, fun j => ?_⟩
 simp only
 rw [z35 ht, AHeap.get_set]
 by_cases hj : id = j
 ·subst hj; rw [if_pos rfl, if_pos rfl, h.h, h0]; rfl
 ·rw [if_neg hj, if_neg (fun e => hj e.symm), h.h]
theorem StR.cut {id : Id} (h : StR H n S) (hs : S.cut id = some S') : StR (H.del id) n S' := by
 unfold Sh.cut at hs
 split at hs <;> simp only [Option.some.injEq, reduceCtorEq] at hs
 rename_i t ht
 subst hs
 refine ⟨h.n, fun j => ?_⟩
 simp only
 rw [z35 ht, AHeap.get_del]
 by_cases hj : id = j
 ·subst hj; rw [if_pos rfl, if_pos rfl]
 ·rw [if_neg hj, if_neg (fun e => hj e.symm), h.h]
theorem Jc {a b : IntKind} : Uu a b = true ↔ a = b := by cases a <;> cases b <;> decide
theorem kn {a b : Int} : ile a b = true ↔ a ≤ b := by simp [ile]
theorem Kb {a b : Int} : ilt a b = true ↔ a < b := by simp [ilt]
theorem yw {a b : Nat} : Nat.beq a b = true ↔ a = b := ⟨Nat.eq_of_beq_eq_true, fun h => by subst h; exact Nat.beq_refl a⟩
theorem xw {a b : Nat} : Nat.ble a b = true ↔ a ≤ b := by rw [Nat.ble_eq]
theorem Zz {p : Bool} {v y : AVal} (h : ck p v = some y) : p = true ∧ v = y := by
 unfold ck at h
 split at h <;> simp only [Option.some.injEq, reduceCtorEq] at h
 exact ⟨rfl, h⟩
def XOk (x : XR) (y : AVal) : Prop := ∃ s, x = .ok s y ∧ s
theorem XOk.of {x : XR} {s : Prop} {y : AVal} (h : x = .ok s y) (hs : s) : XOk x y := ⟨s, h, hs⟩
theorem XOk.and {x : XR} {p : Prop} {y : AVal} (h : XOk x y) (hp : p) : XOk (x.and p) y := by
 obtain ⟨s, rfl, hs⟩ := h
 exact ⟨p ∧ s, rfl, hp, hs⟩
theorem zmk {op : BinOp} {a b y : AVal} (h : zsp op a b = some y) : XOk (zl5 op a b) y := by
 unfold zsp at h
 split at h
 ·unfold zl5
  cases op <;> simp only at h ⊢ <;> (obtain ⟨h1, rfl⟩ := Zz h; refine ⟨_, rfl, ?_⟩) <;>
   simp only [Bool.and_eq_true, Jc, kn, Bool.not_eq_true', decide_eq_false_iff_not] at h1 <;> exact h1
 ·unfold zl5
  cases op <;> first
   | (cases h; done)
   | (obtain ⟨h1, rfl⟩ := Zz h; exact ⟨_, rfl, kn.1 h1⟩)
   | (simp only [Option.some.injEq] at h; subst h; exact ⟨_, rfl, trivial⟩)
 ·cases h
theorem zrb {op : UnOp} {a y : AVal} (h : bun op a = some y) : XOk (xun op a) y := by
 unfold bun at h
 split at h
 ·unfold xun
  split at h <;> simp only [Option.some.injEq, reduceCtorEq] at h
  subst h; exact ⟨_, rfl, trivial⟩
 ·unfold xun
  split at h <;> simp only [Option.some.injEq, reduceCtorEq] at h <;> (subst h; exact ⟨_, rfl, trivial⟩)
 ·cases h
theorem zbb {k : CK} {x y : AVal} {b : Bool} (h : z6p k x y = some b) : Zc k x y = some b := by
 unfold z6p at h
 split at h
 ·split at h <;> simp only [Option.some.injEq, reduceCtorEq] at h
  rename_i hk
  subst h
  simp [Zc, Jc.1 hk]
 ·simpa [Zc] using h
 ·simpa [Zc] using h
 ·cases h
theorem Z2 : ∀ {ks : List CK} {xs ys : List AVal} {b : Bool}, ug ks xs ys = some b → ya ks xs ys = some b
 | [], [], [], b, h => by simpa [ug, ya] using h
 | k :: ks, x :: xs, y :: ys, b, h => by
  unfold ug at h
  split at h <;> try (cases h; done)
  rename_i a ha
  split at h <;> try (cases h; done)
  rename_i c hc
  unfold ya
  rw [zbb ha, Z2 hc]
  exact h
 | [], [], _ :: _, _, h => by cases h
 | [], _ :: _, _, _, h => by cases h
 | _ :: _, [], _, _, h => by cases h
 | _ :: _, _ :: _, [], _, h => by cases h
theorem ziz {x y : AVal} {b : Bool} (h : zmu x y = some b) : XOk (Jm x y) (.bool b) := by
 unfold zmu at h
 split at h
 ·simp only [Option.some.injEq] at h; subst h; exact ⟨_, rfl, trivial⟩
 ·rename_i len _
  cases hz : Nat.beq len 0 <;> rw [hz] at h <;> simp only [Option.some.injEq, reduceCtorEq] at h
  subst h; exact ⟨_, rfl, Nat.ne_of_beq_eq_false hz⟩
 ·rename_i len _
  cases hz : Nat.beq len 0 <;> rw [hz] at h <;> simp only [Option.some.injEq, reduceCtorEq] at h
  subst h; exact ⟨_, rfl, Nat.ne_of_beq_eq_false hz⟩
 ·rename_i es _
  cases es <;> simp only [Option.some.injEq, reduceCtorEq] at h
  subst h; exact ⟨_, rfl, by simp⟩
 ·rename_i es _
  cases es <;> simp only [Option.some.injEq, reduceCtorEq] at h
  subst h; exact ⟨_, rfl, by simp⟩
 ·cases h
theorem zlr {k : EqK} {x y : AVal} {b : Bool} (h : zt5 k x y = some b) : XOk (zjw k x y) (.bool b) := by
 unfold zt5 at h
 unfold zjw
 split at h
 ·split at h <;> simp only [Option.some.injEq, reduceCtorEq] at h
  subst h; exact ⟨_, rfl, trivial⟩
 ·simp only
  unfold zkr at h
  split at h <;> simp only [Option.some.injEq, reduceCtorEq] at h <;> (subst h; exact ⟨_, rfl, trivial⟩)
 ·simp only
  exact ziz h
 ·simp only
  unfold zkg at h
  split at h <;> simp only [Option.some.injEq, reduceCtorEq] at h <;> (subst h; exact ⟨_, rfl, trivial⟩)
 ·simp only
  split at h <;> try (cases h; done)
  simp only [zdc, Z2 h]
  exact ⟨_, rfl, trivial⟩
 ·cases h
theorem zm7 {neg : Bool} {k : EqK} {x y z : AVal} (h : zt6 neg k x y = some z) : XOk (xeq neg k x y) z := by
 unfold zt6 at h
 split at h <;> simp only [Option.some.injEq, reduceCtorEq] at h
 rename_i b hb
 obtain ⟨s, h1, h2⟩ := zlr hb
 unfold xeq
 subst h
 cases neg with
 | true => simp only [if_true, h1, XR.neg]; exact ⟨_, rfl, h2⟩
 | false => simp only [Bool.false_eq_true, if_false, h1]; exact ⟨_, rfl, h2⟩
theorem z7x {ag : Bool} {m : Nat} {x y : AVal} (h : zif ag m H.get x = some y) : XOk (z1o ag m H x) y := by
 unfold zif at h
 unfold z1o
 split at h
 ·obtain ⟨h1, rfl⟩ := Zz h
  simp only [Bool.and_eq_true, xw] at h1
  exact ⟨_, rfl, h1⟩
 ·rename_i b i off
  simp only
  split at h <;> try (cases h; done)
  ·rename_i hg
   obtain ⟨h1, rfl⟩ := Zz h
   simp only [Bool.and_eq_true, xw] at h1
   rw [hg]
   exact ⟨_, rfl, h1⟩
  ·rename_i hg
   obtain ⟨h1, rfl⟩ := Zz h
   simp only [Bool.and_eq_true, xw, yw] at h1
   rw [hg]
   exact ⟨_, rfl, h1⟩
 ·cases h
theorem ze4 {off : Nat} {x y : AVal} (h : zc5 off x = some y) : XOk (Ut off x) y := by
 unfold zc5 at h
 split at h <;> simp only [Option.some.injEq, reduceCtorEq] at h <;> (subst h; exact ⟨_, rfl, trivial⟩)
theorem ze0 {ag : Bool} {m off : Nat} {x y : AVal} (h : zbn ag m off x = some y) : XOk (Uz ag m off x) y := by
 unfold zbn at h
 split at h <;> try (cases h; done)
 obtain ⟨h1, rfl⟩ := Zz h
 exact ⟨_, rfl, xw.1 h1⟩
theorem zbo {s : Nat} {x i y : AVal} (h : zfw s x i = some y) : XOk (z0p s x i) y := by
 unfold zfw at h
 split at h <;> try (cases h; done)
 all_goals
  obtain ⟨h1, rfl⟩ := Zz h
  simp only [Bool.and_eq_true, yw, kn, Kb, and_assoc] at h1
  exact ⟨_, rfl, h1⟩
theorem za6 {len s : Nat} {x i y : AVal} (h : z7p len s x i = some y) : XOk (Kc len s x i) y := by
 unfold z7p at h
 split at h <;> try (cases h; done)
 all_goals
  obtain ⟨h1, rfl⟩ := Zz h
  simp only [Bool.and_eq_true, kn, Kb] at h1
  exact ⟨_, rfl, h1⟩
theorem zb1 {len s : Nat} {x i y : AVal} (h : z6c len s H.get x i = some y) : XOk (Qz len s H x i) y := by
 unfold z6c at h
 split at h <;> try (cases h; done)
 split at h <;> try (cases h; done)
 rename_i hg
 obtain ⟨h1, rfl⟩ := Zz h
 simp only [Bool.and_eq_true, yw, kn, Kb, and_assoc] at h1
 simp only [Qz, hg]
 exact ⟨_, rfl, h1⟩
theorem zj6 {len s : Nat} {x y : AVal} (h : znu len s H.get x = some y) : XOk (zbd len s H x) y := by
 unfold znu at h
 split at h <;> try (cases h; done)
 split at h <;> try (cases h; done)
 rename_i hg
 obtain ⟨h1, rfl⟩ := Zz h
 simp only [Bool.and_eq_true, yw, xw] at h1
 simp only [zbd, hg]
 exact ⟨_, rfl, h1⟩
theorem zis {x i y : AVal} (h : zm2 x i = some y) : XOk (zet x i) y := by
 unfold zm2 at h
 split at h <;> try (cases h; done)
 obtain ⟨h1, rfl⟩ := Zz h
 simp only [Bool.and_eq_true, kn, Kb] at h1
 exact ⟨_, rfl, h1⟩
theorem zj1 {len s : Nat} {ag : Bool} {x i y : AVal} (h : zne len s ag x i = some y) : XOk (zfu len s ag x i) y := by
 unfold zne at h
 split at h <;> try (cases h; done)
 obtain ⟨h1, rfl⟩ := Zz h
 simp only [Bool.and_eq_true, kn, Kb, xw, and_assoc] at h1
 exact ⟨_, rfl, h1⟩
theorem znz {k : Nat} {x y : AVal} (h : zt9 k x = some y) : XOk (zp4 k x) y := by
 unfold zt9 at h
 split at h <;> try (cases h; done)
 obtain ⟨h1, rfl⟩ := Zz h
 exact ⟨_, rfl, xw.1 h1⟩
theorem zjs {x y : AVal} (h : zm3 x = some y) : XOk (zal x) y := by
 unfold zm3 at h
 split at h <;> simp only [Option.some.injEq, reduceCtorEq] at h
 subst h; exact ⟨_, rfl, trivial⟩
theorem zjy {x y : AVal} (h : zm8 x = some y) : XOk (za4 x) y := by
 unfold zm8 at h
 split at h <;> simp only [Option.some.injEq, reduceCtorEq] at h <;> (subst h; exact ⟨_, rfl, trivial⟩)
theorem zdz {x y : AVal} (h : zg8 x = some y) : XOk (z0u x) y := by
 unfold zg8 at h
 split at h <;> simp only [Option.some.injEq, reduceCtorEq] at h <;> (subst h; exact ⟨_, rfl, trivial⟩)
variable {e : Env}
theorem zn {x : LOpd} {v : AVal} (h : kb e.get x = some v) : x.ev e = v ∧ x.need e := by
 cases x with
 | c u => simp only [kb, Option.some.injEq] at h; exact ⟨h, trivial⟩
 | t i =>
  simp only [kb] at h
  show (e.get i).strip = v ∧ (e.get i).need
  split at h
  ·rename_i u hu
   simp only [Option.some.injEq] at h
   rw [hu]
   exact ⟨h, rfl⟩
  ·cases h
  ·rename_i h1 h2
   simp only [Option.some.injEq] at h
   cases hg : e.get i with
   | cnd p u =>
    cases p with
    | true => exact absurd hg (h1 u)
    | false => exact absurd hg (h2 u)
   | _ => rw [hg] at h; subst h; exact ⟨rfl, trivial⟩
theorem Qh : ∀ {xs : List LOpd} {vs : List AVal}, z14 e.get xs = some vs → evs e xs = vs ∧ Qn e xs
 | [], vs, h => by simp only [z14, Option.some.injEq] at h; exact ⟨h, trivial⟩
 | x :: xs, vs, h => by
  unfold z14 at h
  split at h <;> try (cases h; done)
  rename_i a ha
  split at h <;> simp only [Option.some.injEq, reduceCtorEq] at h
  rename_i l hl
  obtain ⟨h1, h2⟩ := zn ha
  obtain ⟨h3, h4⟩ := Qh hl
  exact ⟨by unfold evs; rw [h1, h3]; exact h, h2, h4⟩
theorem vq {d : Nat} {o : Option LOpd} {j : Int} (h : Zx e.get d o = some j) : xk e d o = some j ∧ uc e o := by
 cases o with
 | none => simp only [Zx, Option.some.injEq] at h; exact ⟨by simp [xk, h], trivial⟩
 | some x =>
  simp only [Zx] at h
  split at h <;> simp only [Option.some.injEq, reduceCtorEq] at h
  rename_i k z hx
  obtain ⟨h1, h2⟩ := zn hx
  subst h
  exact ⟨by simp only [xk, h1], h2⟩
theorem zgr {lo hi : Option LOpd} {x y : AVal} (h : zga e.get lo hi x = some y) : XOk (z0a (fun d => xk e d lo) (fun d => xk e d hi) x) y ∧ uc e lo ∧ uc e hi := by
 unfold zga at h
 split at h <;> try (cases h; done)
 split at h <;> try (cases h; done)
 rename_i a b ha hb
 obtain ⟨h1, rfl⟩ := Zz h
 obtain ⟨ha1, ha2⟩ := vq ha
 obtain ⟨hb1, hb2⟩ := vq hb
 simp only [Bool.and_eq_true, kn, and_assoc] at h1
 refine ⟨?_, ha2, hb2⟩
 simp only [z0a, ha1, hb1]
 exact ⟨_, rfl, h1⟩
theorem zi5 {s : Nat} {lo hi mx : Option LOpd} {x y : AVal} (h : zo2 e.get s lo hi mx x = some y) (kp : Bool) : XOk (zdx s (fun d => xk e d lo) (fun d => xk e d hi) (Ug e mx) kp x) y ∧ uc e lo ∧ uc e hi ∧ uc e mx := by
 unfold zo2 at h
 split at h
 ·split at h <;> try (cases h; done)
  rename_i a b ha hb
  obtain ⟨ha1, ha2⟩ := vq ha
  obtain ⟨hb1, hb2⟩ := vq hb
  split at h
  ·obtain ⟨h1, rfl⟩ := Zz h
   simp only [Bool.and_eq_true, yw, kn, and_assoc] at h1
   refine ⟨?_, ha2, hb2, trivial⟩
   simp only [zdx, z1r, ha1, hb1, Ug]
   exact ⟨_, rfl, h1⟩
  ·split at h <;> try (cases h; done)
   rename_i z hz
   obtain ⟨hz1, hz2⟩ := vq hz
   obtain ⟨h1, rfl⟩ := Zz h
   simp only [Bool.and_eq_true, yw, kn, and_assoc] at h1
   refine ⟨?_, ha2, hb2, hz2⟩
   simp only [zdx, z1r, ha1, hb1, Ug, hz1]
   exact ⟨_, rfl, h1⟩
 ·split at h <;> try (cases h; done)
  rename_i a b ha hb
  obtain ⟨ha1, ha2⟩ := vq ha
  obtain ⟨hb1, hb2⟩ := vq hb
  split at h
  ·obtain ⟨h1, rfl⟩ := Zz h
   simp only [Bool.and_eq_true, yw, kn, and_assoc] at h1
   refine ⟨?_, ha2, hb2, trivial⟩
   simp only [zdx, z1r, ha1, hb1, Ug]
   exact ⟨_, rfl, h1⟩
  ·split at h <;> try (cases h; done)
   rename_i z hz
   obtain ⟨hz1, hz2⟩ := vq hz
   obtain ⟨h1, rfl⟩ := Zz h
   simp only [Bool.and_eq_true, yw, kn, and_assoc] at h1
   refine ⟨?_, ha2, hb2, hz2⟩
   simp only [zdx, z1r, ha1, hb1, Ug, hz1]
   exact ⟨_, rfl, h1⟩
 ·split at h <;> try (cases h; done)
  rename_i a b ha hb
  obtain ⟨ha1, ha2⟩ := vq ha
  obtain ⟨hb1, hb2⟩ := vq hb
  obtain ⟨h1, rfl⟩ := Zz h
  simp only [Bool.and_eq_true, decide_eq_true_eq] at h1
  refine ⟨?_, ha2, hb2, trivial⟩
  simp only [zdx, z1r, ha1, hb1, Ug]
  exact ⟨_, rfl, h1⟩
 ·cases h
theorem z55 : ∀ {ps : List (Nat × Nat × AVal)} {cells : List AVal} {y : AVal}, z33 cells ps = some y → XOk (Zd cells ps) y
 | [], cells, y, h => by simp only [z33, Option.some.injEq] at h; subst h; exact ⟨_, rfl, trivial⟩
 | (off, m, x) :: r, cells, y, h => by
  unfold z33 at h
  split at h <;> try (cases h; done)
  rename_i cs hc
  split at h <;> try (cases h; done)
  rename_i hb
  simp only [Bool.and_eq_true, yw, xw] at hb
  obtain ⟨s, h1, h2⟩ := z55 h
  simp only [Zd, hc, h1]
  exact ⟨_, rfl, hb.1, hb.2, h2⟩
theorem z4k : ∀ {ps : List (Nat × Nat × LOpd)} {l : List (Nat × Nat × AVal)}, z40 e.get ps = some l → wm e ps = l ∧ jy e ps
 | [], l, h => by simp only [z40, Option.some.injEq] at h; exact ⟨h, trivial⟩
 | (o, m, x) :: r, l, h => by
  unfold z40 at h
  split at h <;> try (cases h; done)
  rename_i a ha
  split at h <;> simp only [Option.some.injEq, reduceCtorEq] at h
  rename_i l' hl
  obtain ⟨h1, h2⟩ := zn ha
  obtain ⟨h3, h4⟩ := z4k hl
  exact ⟨by unfold wm; rw [h1, h3]; exact h, h2, h4⟩
theorem zf7 {mx : Bool} : ∀ {l : List AVal} {v y : AVal}, zoo mx v l = some y → XOk (zfm mx v l) y
 | [], v, y, h => by
  cases v <;> simp only [zoo, Option.some.injEq] at h <;> (subst h; exact ⟨_, rfl, trivial⟩)
 | x :: r, v, y, h => by
  cases v <;> try (simp [zoo] at h; done)
  cases x <;> try (simp [zoo] at h; done)
  simp only [zoo] at h
  split at h <;> try (cases h; done)
  rename_i hk
  obtain ⟨s, h1, h2⟩ := zf7 h
  simp only [zfm, h1]
  exact ⟨_, rfl, Jc.1 hk, h2⟩
theorem zi6 {mx : Bool} {l : List AVal} {y : AVal} (h : znb mx l = some y) : XOk (ze8 mx l) y := by
 unfold znb at h
 split at h <;> try (cases h; done)
 exact zf7 h
theorem J5 {ks : List CK} {ka : Bool} {k : AVal} (h : Ux ks ka k = true) : Q2 ks ka k = true := by
 unfold Ux at h
 unfold Q2
 simp only [Bool.and_eq_true] at h ⊢
 refine ⟨h.1, ?_⟩
 cases hc : ug ks (qt k) (qt k) with
 | none => rw [hc] at h; cases h.2
 | some b => rw [Z2 hc]; rfl
theorem Y0 {ks : List CK} {k k' : AVal} {b : Bool} (h : z3w ks k k' = some b) : Yv ks k k' = some b := by
 unfold z3w at h
 unfold Yv
 split at h <;> try (cases h; done)
 ·rename_i h1 h2; rw [h1, h2]; exact Z2 h
 ·rename_i h1 h2; rw [h1, h2]; exact Z2 h
theorem z51 {ks : List CK} {k : AVal} : ∀ {es : List (AVal × AVal)} {r : Option AVal}, z83 ks k es = some r → J3 ks k es = some r
 | [], r, h => h
 | (k', x) :: es, r, h => by
  unfold z83 at h
  unfold J3
  split at h <;> try (cases h; done)
  ·rename_i hk; rw [Y0 hk]; exact h
  ·rename_i hk; rw [Y0 hk]; exact z51 h
theorem z9a {ks : List CK} {k x : AVal} : ∀ {es r : List (AVal × AVal)}, zjn ks k x es = some r → zct ks k x es = some r
 | [], r, h => h
 | (k', y) :: es, r, h => by
  unfold zjn at h
  unfold zct
  split at h <;> try (cases h; done)
  ·rename_i hk; rw [Y0 hk]; exact h
  ·rename_i hk
   rw [Y0 hk]
   split at h <;> simp only [Option.some.injEq, reduceCtorEq] at h
   rename_i l hl
   subst h
   simp only [z9a hl, Option.map_some]
theorem z4y {ks : List CK} {k : AVal} : ∀ {es r : List (AVal × AVal)}, z93 ks k es = some r → z26 ks k es = some r
 | [], r, h => h
 | (k', y) :: es, r, h => by
  unfold z93 at h
  unfold z26
  split at h <;> try (cases h; done)
  ·rename_i hk; rw [Y0 hk]; exact h
  ·rename_i hk
   rw [Y0 hk]
   split at h <;> simp only [Option.some.injEq, reduceCtorEq] at h
   rename_i l hl
   subst h
   simp only [z4y hl, Option.map_some]
theorem zee {ks : List CK} {ka ag ok : Bool} {zs : List AVal} {k x y : AVal} (h : zfh ks ka ag ok zs H.get k x = some y) : XOk (Wj ks ka ag ok zs H k x) y := by
 unfold zfh at h
 split at h
 ·obtain ⟨h1, rfl⟩ := Zz h
  simp only [Wj, J5 h1, if_true]
  exact ⟨_, rfl, trivial⟩
 ·split at h <;> try (cases h; done)
  rename_i hg
  split at h <;> try (cases h; done)
  rename_i hk
  split at h <;> simp only [Option.some.injEq, reduceCtorEq] at h
  rename_i r hr
  subst h
  simp only [Wj, hg, J5 hk, if_true, z51 hr]
  exact ⟨_, rfl, rfl⟩
 ·cases h
theorem zj8 {x y : AVal} (h : zmo H.get x = some y) : XOk (z6o H x) y := by
 unfold zmo at h
 split at h
 ·simp only [Option.some.injEq] at h; subst h; exact ⟨_, rfl, trivial⟩
 ·split at h <;> simp only [Option.some.injEq, reduceCtorEq] at h
  rename_i hg
  subst h
  simp only [z6o, hg]
  exact ⟨_, rfl, trivial⟩
 ·cases h
theorem vn {α γ : Type} {x : Option α} {f : α → Option γ} {o : γ} (h : x.bind f = some o) : ∃ r, x = some r ∧ f r = some o := by
 cases x with
 | none => cases h
 | some r => exact ⟨r, rfl, h⟩
theorem V9 {op : LOp} {v : AVal} (h : zic e.get H.get op = some v) : XOk (ja e H op) v := by
 cases op <;> simp only [zic, reduceCtorEq] at h <;> simp only [ja]
 case mv x => obtain ⟨h1, h2⟩ := zn h; rw [h1]; exact ⟨_, rfl, h2⟩
 case pick c a b =>
  split at h <;> try (cases h; done)
  ·rename_i hc
   obtain ⟨c1, c2⟩ := zn hc
   obtain ⟨a1, a2⟩ := zn h
   rw [c1]
   subst a1; exact XOk.and (XOk.of rfl ⟨fun _ => a2, fun h => by cases h⟩) c2
  ·rename_i hc
   obtain ⟨c1, c2⟩ := zn hc
   obtain ⟨a1, a2⟩ := zn h
   rw [c1]
   subst a1; exact XOk.and (XOk.of rfl ⟨fun h => (by cases h), fun _ => a2⟩) c2
 case build zs parts =>
  obtain ⟨ps, h1, h2⟩ := vn h
  obtain ⟨p1, p2⟩ := z4k h1
  rw [p1]
  exact (z55 h2).and p2
 case load ag m a => obtain ⟨x, h1, h2⟩ := vn h; obtain ⟨p1, p2⟩ := zn h1; rw [p1]; exact (z7x h2).and p2
 case nilck a => obtain ⟨x, h1, h2⟩ := vn h; obtain ⟨p1, p2⟩ := zn h1; rw [p1]; exact (zdz h2).and p2
 case bin op x y => obtain ⟨a, h1, h2⟩ := vn h; obtain ⟨b, h3, h4⟩ := vn h2; obtain ⟨p1, p2⟩ := zn h1; obtain ⟨q1, q2⟩ := zn h3; rw [p1, q1]; exact (zmk h4).and ⟨p2, q2⟩
 case eq neg k x y => obtain ⟨a, h1, h2⟩ := vn h; obtain ⟨b, h3, h4⟩ := vn h2; obtain ⟨p1, p2⟩ := zn h1; obtain ⟨q1, q2⟩ := zn h3; rw [p1, q1]; exact (zm7 h4).and ⟨p2, q2⟩
 case un op x => obtain ⟨a, h1, h2⟩ := vn h; obtain ⟨p1, p2⟩ := zn h1; rw [p1]; exact (zrb h2).and p2
 case conv k x =>
  cases k with
  | int k =>
   simp only at h ⊢
   split at h <;> simp only [Option.some.injEq, reduceCtorEq] at h
   rename_i hx
   obtain ⟨p1, p2⟩ := zn hx
   subst h
   simp only [p1]
   exact ⟨_, rfl, p2⟩
  | same =>
   simp only at h ⊢
   split at h <;> simp only [Option.some.injEq, reduceCtorEq] at h
   rename_i hx
   obtain ⟨p1, p2⟩ := zn hx
   subst h
   simp only [p1]
   exact ⟨_, rfl, p2⟩
  | s2b vm => cases h
  | b2s => cases h
 case mkfn f a c =>
  obtain ⟨as, h1, h2⟩ := vn h
  obtain ⟨cs, h3, h4⟩ := vn h2
  obtain ⟨p1, p2⟩ := Qh h1
  obtain ⟨q1, q2⟩ := Qh h3
  simp only [Option.some.injEq] at h4
  subst h4
  rw [p1, q1]
  exact ⟨_, rfl, p2, q2⟩
 case slStr x lo hi => obtain ⟨a, h1, h2⟩ := vn h; obtain ⟨p1, p2⟩ := zn h1; obtain ⟨q1, q2⟩ := zgr h2; rw [p1]; exact q1.and ⟨p2, q2⟩
 case slSl s x lo hi mx => obtain ⟨a, h1, h2⟩ := vn h; obtain ⟨p1, p2⟩ := zn h1; obtain ⟨q1, q2⟩ := zi5 h2 (hi.isNone && mx.isNone); rw [p1]; exact q1.and ⟨p2, q2⟩
 case slAr m s x => obtain ⟨a, h1, h2⟩ := vn h; obtain ⟨p1, p2⟩ := zn h1; rw [p1]; exact (zj6 h2).and p2
 case faddr off x => obtain ⟨a, h1, h2⟩ := vn h; obtain ⟨p1, p2⟩ := zn h1; rw [p1]; exact (ze4 h2).and p2
 case field ag m off x => obtain ⟨a, h1, h2⟩ := vn h; obtain ⟨p1, p2⟩ := zn h1; rw [p1]; exact (ze0 h2).and p2
 case iaddr s x i => obtain ⟨a, h1, h2⟩ := vn h; obtain ⟨b, h3, h4⟩ := vn h2; obtain ⟨p1, p2⟩ := zn h1; obtain ⟨q1, q2⟩ := zn h3; rw [p1, q1]; exact (zbo h4).and ⟨p2, q2⟩
 case iaddrA m s x i => obtain ⟨a, h1, h2⟩ := vn h; obtain ⟨b, h3, h4⟩ := vn h2; obtain ⟨p1, p2⟩ := zn h1; obtain ⟨q1, q2⟩ := zn h3; rw [p1, q1]; exact (za6 h4).and ⟨p2, q2⟩
 case iaddrR m s x i => obtain ⟨a, h1, h2⟩ := vn h; obtain ⟨b, h3, h4⟩ := vn h2; obtain ⟨p1, p2⟩ := zn h1; obtain ⟨q1, q2⟩ := zn h3; rw [p1, q1]; exact (zb1 h4).and ⟨p2, q2⟩
 case idxS x i => obtain ⟨a, h1, h2⟩ := vn h; obtain ⟨b, h3, h4⟩ := vn h2; obtain ⟨p1, p2⟩ := zn h1; obtain ⟨q1, q2⟩ := zn h3; rw [p1, q1]; exact (zis h4).and ⟨p2, q2⟩
 case idxA m s ag x i => obtain ⟨a, h1, h2⟩ := vn h; obtain ⟨b, h3, h4⟩ := vn h2; obtain ⟨p1, p2⟩ := zn h1; obtain ⟨q1, q2⟩ := zn h3; rw [p1, q1]; exact (zj1 h4).and ⟨p2, q2⟩
 case ext k x => obtain ⟨a, h1, h2⟩ := vn h; obtain ⟨p1, p2⟩ := zn h1; rw [p1]; exact (znz h2).and p2
 case len st x =>
  cases st with
  | true => simp only at h ⊢; obtain ⟨a, h1, h2⟩ := vn h; obtain ⟨p1, p2⟩ := zn h1; rw [p1]; exact (zjs h2).and p2
  | false => simp only at h ⊢; obtain ⟨a, h1, h2⟩ := vn h; obtain ⟨p1, p2⟩ := zn h1; rw [p1]; exact (zjy h2).and p2
 case mnx m args => obtain ⟨a, h1, h2⟩ := vn h; obtain ⟨p1, p2⟩ := Qh h1; rw [p1]; exact (zi6 h2).and p2
 case mlook ks ka ag ok zs x k => obtain ⟨a, h1, h2⟩ := vn h; obtain ⟨b, h3, h4⟩ := vn h2; obtain ⟨p1, p2⟩ := zn h1; obtain ⟨q1, q2⟩ := zn h3; rw [p1, q1]; exact (zee h4).and ⟨p2, q2⟩
 case mlen x => obtain ⟨a, h1, h2⟩ := vn h; obtain ⟨p1, p2⟩ := zn h1; rw [p1]; exact (zj8 h2).and p2
end Go.Fx
