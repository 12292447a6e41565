/-
  Own framework.
-/
import Derived.Test.YtdgkalljlomjnaaDoorFxEv
import Derived.Test.YtdgkalljlomjnaaDoorFxZ
namespace Go.Fx
set_option linter.unusedVariables false
namespace Tr
variable {α : Type}
theorem z0q (v : Option α) (l r : Tr α) (j : Nat) : (Tr.nd v l r).get j = if j = 0 then v else if j % 2 = 1 then l.get (j / 2) else r.get (j / 2 - 1) := by
 show (match Nat.beq j 0 with
  | true => v
  | false => match Nat.beq (j % 2) 1 with
   | true => get l (j / 2)
   | false => get r (j / 2 - 1)) = _
 by_cases h : j = 0
 ·subst h; rfl
 ·rw [if_neg h]
  have h0 : Nat.beq j 0 = false := Bool.eq_false_iff.2 fun h' => h (Nat.eq_of_beq_eq_true h')
  rw [h0]
  simp only
  by_cases h1 : j % 2 = 1
  ·rw [if_pos h1, h1]
  ·rw [if_neg h1]
   have : j % 2 = 0 := by omega
   rw [this]
theorem put_get : ∀ (d : Nat) (t : Tr α) (k : Nat) (x : Option α) (t' : Tr α), put d t k x = some t' → ∀ j, t'.get j = if j = k then x else t.get j
 | 0, _, _, _, _, h => by simp [put] at h
 | d + 1, t, k, x, t', h => by
  have key : ∀ (v : Option α) (l r : Tr α), (match Nat.beq k 0 with
   | true => some (Tr.nd x l r)
   | false => match Nat.beq (k % 2) 1 with
    | true => match put d l (k / 2) x with | some l => some (.nd v l r) | none => none
    | false => match put d r (k / 2 - 1) x with | some r => some (.nd v l r) | none => none) = some t' → ∀ j, t'.get j = if j = k then x else (Tr.nd v l r).get j := by
   intro v l r h j
   split at h
   ·rename_i hk
    have hk := Nat.eq_of_beq_eq_true hk
    simp only [Option.some.injEq] at h
    subst h hk
    rw [z0q, z0q]
    by_cases hj : j = 0
    ·rw [if_pos hj, if_pos hj]
    ·rw [if_neg hj, if_neg hj, if_neg hj]
   ·rename_i hk
    have hk := Nat.ne_of_beq_eq_false hk
    split at h
    ·rename_i hk1
     have hk1 := Nat.eq_of_beq_eq_true hk1
     split at h <;> simp only [Option.some.injEq, reduceCtorEq] at h
     rename_i l' hl
     subst h
     have ih := put_get d l (k / 2) x l' hl
     rw [z0q, z0q, ih]
     by_cases hj : j = k
     ·subst hj; rw [if_neg hk, if_pos hk1, if_pos rfl, if_pos rfl]
     ·rw [if_neg hj]
      by_cases h0 : j = 0
      ·rw [if_pos h0, if_pos h0]
      ·rw [if_neg h0, if_neg h0]
       by_cases h1 : j % 2 = 1
       ·rw [if_pos h1, if_pos h1, if_neg (by omega)]
       ·rw [if_neg h1, if_neg h1]
    ·rename_i hk1
     have hk1 := Nat.ne_of_beq_eq_false hk1
     split at h <;> simp only [Option.some.injEq, reduceCtorEq] at h
     rename_i r' hr
     subst h
     have ih := put_get d r (k / 2 - 1) x r' hr
     rw [z0q, z0q, ih]
     by_cases hj : j = k
     ·subst hj; rw [if_neg hk, if_neg hk1, if_pos rfl, if_pos rfl]
     ·rw [if_neg hj]
      by_cases h0 : j = 0
      ·rw [if_pos h0, if_pos h0]
      ·rw [if_neg h0, if_neg h0]
       by_cases h1 : j % 2 = 1
       ·rw [if_pos h1, if_pos h1]
       ·rw [if_neg h1, if_neg h1, if_neg (by omega)]
  cases t with
  | nil =>
   intro j
   have hn : (Tr.nil : Tr α).get j = (Tr.nd none .nil .nil).get j := by rw [z0q]; simp [get]
   rw [hn]
   exact key none .nil .nil (by unfold put at h; exact h) j
  | nd v l r => exact key v l r (by unfold put at h; exact h)
end Tr
theorem zpl {i j : Id} {k : Nat} (hi : hix i = some k) (hj : hix j = some k) : i = j := by
 obtain ⟨a, b⟩ := i
 obtain ⟨c, d⟩ := j
 unfold hix at hi hj
 simp only at hi hj
 split at hi <;> split at hj <;> simp only [Option.some.injEq, reduceCtorEq] at hi hj
 all_goals first | (exfalso; omega) | (have : a = c := (by omega); subst this; rfl)
theorem z5m {t t' : Tr ABlock} {id : Id} {b : Option ABlock} (h : t.sat id b = some t') (j : Id) : t'.at j = if j = id then b else t.at j := by
 unfold Tr.sat at h
 split at h <;> try (cases h; done)
 rename_i k hk
 have hp := Tr.put_get _ _ _ _ _ h
 unfold Tr.at
 by_cases hj : j = id
 ·subst hj
  rw [hk, if_pos rfl]
  simp only
  rw [hp, if_pos rfl]
 ·rw [if_neg hj]
  cases hx : hix j with
  | none => rfl
  | some k' =>
   simp only
   rw [hp, if_neg]
   rintro rfl
   exact hj (zpl hx hk)
structure StR (H : AHeap) (n : Nat) (S : Sh) : Prop where
 n : n = S.n
 h : ∀ id, H.get id = S.t.at id
variable {H : AHeap} {n : Nat} {S S' : Sh}
theorem StR.new {b : ABlock} (h : StR H n S) (hs : S.new b = some S') : StR (((n, 0), b) :: H) (n + 1) S' := by
 unfold Sh.new at hs
 split at hs <;> simp only [Option.some.injEq, reduceCtorEq] at hs
 rename_i t ht
 subst hs
 refine ⟨by simp [h.n], fun id => ?_⟩
 simp only
 rw [z5m ht]
 by_cases hj : (n, 0) = id
 ·subst hj; rw [AHeap.get_cons_same, if_pos (by rw [h.n])]
 ·rw [AHeap.get_cons_other _ _ hj, if_neg (by rw [← h.n]; exact fun e => hj e.symm), h.h]
theorem StR.new2 {b c : ABlock} (h : StR H n S) (hs : S.new2 b c = some S') : StR (((n, 0), b) :: ((n, 1), c) :: H) (n + 1) S' := by
 unfold Sh.new2 at hs
 split at hs <;> try (cases hs; done)
 rename_i t ht
 split at hs <;> simp only [Option.some.injEq, reduceCtorEq] at hs
 rename_i t' ht'
 subst hs
 refine ⟨by simp [h.n], fun id => ?_⟩
 simp only
 rw [z5m ht', z5m ht, ← h.n]
 by_cases hj : (n, 0) = id
 ·subst hj; rw [AHeap.get_cons_same, if_neg (by simp), if_pos rfl]
 ·rw [AHeap.get_cons_other _ _ hj]
  by_cases hj1 : (n, 1) = id
  ·subst hj1; rw [AHeap.get_cons_same, if_pos rfl]
  ·rw [AHeap.get_cons_other _ _ hj1, if_neg (fun e => hj1 e.symm), if_neg (fun e => hj e.symm), h.h]
theorem StR.upd {id : Id} {b b0 : ABlock} (h : StR H n S) (h0 : S.t.at id = some b0) (hs : S.upd id b = some S') : StR (H.set id b) n S' := by
 unfold Sh.upd at hs
 split at hs <;> simp only [Option.some.injEq, reduceCtorEq] at hs
 rename_i t ht
 subst hs
 refine ⟨h.n, fun j => ?_⟩
 simp only
 rw [z5m ht, AHeap.get_set]
 by_cases hj : id = j
 ·subst hj; rw [if_pos rfl, if_pos rfl, h.h, h0]; rfl
 ·rw [if_neg hj, if_neg (fun e => hj e.symm), h.h]
theorem StR.cut {id : Id} (h : StR H n S) (hs : S.cut id = some S') : StR (H.del id) n S' := by
 unfold Sh.cut at hs
 split at hs <;> simp only [Option.some.injEq, reduceCtorEq] at hs
 rename_i t ht
 subst hs
 refine ⟨h.n, fun j => ?_⟩
 simp only
 rw [z5m ht, AHeap.get_del]
 by_cases hj : id = j
 ·subst hj; rw [if_pos rfl, if_pos rfl]
 ·rw [if_neg hj, if_neg (fun e => hj e.symm), h.h]
theorem Wo {a b : IntKind} : z2t a b = true ↔ a = b := by cases a <;> cases b <;> decide
theorem uo {a b : Int} : ile a b = true ↔ a ≤ b := by simp [ile]
theorem U6 {a b : Int} : ilt a b = true ↔ a < b := by simp [ilt]
theorem q6 {a b : Nat} : Nat.beq a b = true ↔ a = b := ⟨Nat.eq_of_beq_eq_true, fun h => by subst h; exact Nat.beq_refl a⟩
theorem jd {a b : Nat} : Nat.ble a b = true ↔ a ≤ b := by rw [Nat.ble_eq]
theorem Yv {p : Bool} {v y : AVal} (h : ck p v = some y) : p = true ∧ v = y := by
 unfold ck at h
 split at h <;> simp only [Option.some.injEq, reduceCtorEq] at h
 exact ⟨rfl, h⟩
def XOk (x : XR) (y : AVal) : Prop := ∃ s, x = .ok s y ∧ s
theorem XOk.of {x : XR} {s : Prop} {y : AVal} (h : x = .ok s y) (hs : s) : XOk x y := ⟨s, h, hs⟩
theorem XOk.and {x : XR} {p : Prop} {y : AVal} (h : XOk x y) (hp : p) : XOk (x.and p) y := by
 obtain ⟨s, rfl, hs⟩ := h
 exact ⟨p ∧ s, rfl, hp, hs⟩
theorem zok {op : BinOp} {a b y : AVal} (h : zub op a b = some y) : XOk (zo4 op a b) y := by
 unfold zub at h
 split at h
 ·unfold zo4
  cases op <;> simp only at h ⊢ <;> (obtain ⟨h1, rfl⟩ := Yv h; refine ⟨_, rfl, ?_⟩) <;>
   simp only [Bool.and_eq_true, Wo, uo, Bool.not_eq_true', decide_eq_false_iff_not] at h1 <;> exact h1
 ·unfold zo4
  cases op <;> first
   | (cases h; done)
   | (obtain ⟨h1, rfl⟩ := Yv h; exact ⟨_, rfl, uo.1 h1⟩)
   | (simp only [Option.some.injEq] at h; subst h; exact ⟨_, rfl, trivial⟩)
 ·cases h
theorem zsf {op : UnOp} {a y : AVal} (h : bun op a = some y) : XOk (xun op a) y := by
 unfold bun at h
 split at h
 ·unfold xun
  split at h <;> simp only [Option.some.injEq, reduceCtorEq] at h
  subst h; exact ⟨_, rfl, trivial⟩
 ·unfold xun
  split at h <;> simp only [Option.some.injEq, reduceCtorEq] at h <;> (subst h; exact ⟨_, rfl, trivial⟩)
 ·cases h
theorem ze3 {k : CK} {x y : AVal} {b : Bool} (h : z8t k x y = some b) : Yd k x y = some b := by
 unfold z8t at h
 split at h
 ·split at h <;> simp only [Option.some.injEq, reduceCtorEq] at h
  rename_i hk
  subst h
  simp [Yd, Wo.1 hk]
 ·simpa [Yd] using h
 ·simpa [Yd] using h
 ·cases h
theorem Zx : ∀ {ks : List CK} {xs ys : List AVal} {b : Bool}, Za ks xs ys = some b → ym ks xs ys = some b
 | [], [], [], b, h => by simpa [Za, ym] using h
 | k :: ks, x :: xs, y :: ys, b, h => by
  unfold Za at h
  split at h <;> try (cases h; done)
  rename_i a ha
  split at h <;> try (cases h; done)
  rename_i c hc
  unfold ym
  rw [ze3 ha, Zx hc]
  exact h
 | [], [], _ :: _, _, h => by cases h
 | [], _ :: _, _, _, h => by cases h
 | _ :: _, [], _, _, h => by cases h
 | _ :: _, _ :: _, [], _, h => by cases h
theorem zmx {x y : AVal} {b : Bool} (h : zqr x y = some b) : XOk (V7 x y) (.bool b) := by
 unfold zqr at h
 split at h
 ·simp only [Option.some.injEq] at h; subst h; exact ⟨_, rfl, trivial⟩
 ·rename_i len _
  cases hz : Nat.beq len 0 <;> rw [hz] at h <;> simp only [Option.some.injEq, reduceCtorEq] at h
  subst h; exact ⟨_, rfl, Nat.ne_of_beq_eq_false hz⟩
 ·rename_i len _
  cases hz : Nat.beq len 0 <;> rw [hz] at h <;> simp only [Option.some.injEq, reduceCtorEq] at h
  subst h; exact ⟨_, rfl, Nat.ne_of_beq_eq_false hz⟩
 ·rename_i es _
  cases es <;> simp only [Option.some.injEq, reduceCtorEq] at h
  subst h; exact ⟨_, rfl, by simp⟩
 ·rename_i es _
  cases es <;> simp only [Option.some.injEq, reduceCtorEq] at h
  subst h; exact ⟨_, rfl, by simp⟩
 ·cases h
theorem zoh {k : EqK} {x y : AVal} {b : Bool} (h : zv4 k x y = some b) : XOk (zfo k x y) (.bool b) := by
 unfold zv4 at h
 unfold zfo
 split at h
 ·split at h <;> simp only [Option.some.injEq, reduceCtorEq] at h
  subst h; exact ⟨_, rfl, trivial⟩
 ·simp only
  unfold zng at h
  split at h <;> simp only [Option.some.injEq, reduceCtorEq] at h <;> (subst h; exact ⟨_, rfl, trivial⟩)
 ·simp only
  exact zmx h
 ·simp only
  unfold znf at h
  split at h <;> simp only [Option.some.injEq, reduceCtorEq] at h <;> (subst h; exact ⟨_, rfl, trivial⟩)
 ·simp only
  split at h <;> try (cases h; done)
  simp only [zex, Zx h]
  exact ⟨_, rfl, trivial⟩
 ·simp only
  unfold zkf at h
  split at h <;> simp only [Option.some.injEq, reduceCtorEq] at h <;> (subst h; exact ⟨_, rfl, trivial⟩)
 ·simp only
  unfold zh4 at h
  split at h <;> simp only [Option.some.injEq, reduceCtorEq] at h <;> (subst h; exact ⟨_, rfl, trivial⟩)
 ·cases h
theorem zq2 {neg : Bool} {k : EqK} {x y z : AVal} (h : zuy neg k x y = some z) : XOk (xeq neg k x y) z := by
 unfold zuy at h
 split at h <;> simp only [Option.some.injEq, reduceCtorEq] at h
 rename_i b hb
 obtain ⟨s, h1, h2⟩ := zoh hb
 unfold xeq
 subst h
 cases neg with
 | true => simp only [if_true, h1, XR.neg]; exact ⟨_, rfl, h2⟩
 | false => simp only [Bool.false_eq_true, if_false, h1]; exact ⟨_, rfl, h2⟩
theorem zbq {ag : Bool} {m : Nat} {x y : AVal} (h : zmi ag m H.get x = some y) : XOk (z3i ag m H x) y := by
 unfold zmi at h
 unfold z3i
 split at h
 ·obtain ⟨h1, rfl⟩ := Yv h
  simp only [Bool.and_eq_true, jd] at h1
  exact ⟨_, rfl, h1⟩
 ·rename_i b i off
  simp only
  split at h <;> try (cases h; done)
  ·rename_i hg
   obtain ⟨h1, rfl⟩ := Yv h
   simp only [Bool.and_eq_true, jd] at h1
   rw [hg]
   exact ⟨_, rfl, h1⟩
  ·rename_i hg
   obtain ⟨h1, rfl⟩ := Yv h
   simp only [Bool.and_eq_true, jd, q6] at h1
   rw [hg]
   exact ⟨_, rfl, h1⟩
 ·cases h
theorem zf4 {off : Nat} {x y : AVal} (h : zf9 off x = some y) : XOk (z1n off x) y := by
 unfold zf9 at h
 split at h <;> simp only [Option.some.injEq, reduceCtorEq] at h <;> (subst h; exact ⟨_, rfl, trivial⟩)
theorem zji {ag : Bool} {m off : Nat} {x y : AVal} (h : zf1 ag m off x = some y) : XOk (z2r ag m off x) y := by
 unfold zf1 at h
 split at h <;> try (cases h; done)
 obtain ⟨h1, rfl⟩ := Yv h
 exact ⟨_, rfl, jd.1 h1⟩
theorem zkj {s : Nat} {x i y : AVal} (h : zj5 s x i = some y) : XOk (z1x s x i) y := by
 unfold zj5 at h
 split at h <;> try (cases h; done)
 all_goals
  obtain ⟨h1, rfl⟩ := Yv h
  simp only [Bool.and_eq_true, q6, uo, U6, and_assoc] at h1
  exact ⟨_, rfl, h1⟩
theorem ze1 {len s : Nat} {x i y : AVal} (h : z89 len s x i = some y) : XOk (z08 len s x i) y := by
 unfold z89 at h
 split at h <;> try (cases h; done)
 all_goals
  obtain ⟨h1, rfl⟩ := Yv h
  simp only [Bool.and_eq_true, uo, U6] at h1
  exact ⟨_, rfl, h1⟩
theorem zea {len s : Nat} {x i y : AVal} (h : z9i len s H.get x i = some y) : XOk (Jb len s H x i) y := by
 unfold z9i at h
 split at h <;> try (cases h; done)
 split at h <;> try (cases h; done)
 rename_i hg
 obtain ⟨h1, rfl⟩ := Yv h
 simp only [Bool.and_eq_true, q6, uo, U6, and_assoc] at h1
 simp only [Jb, hg]
 exact ⟨_, rfl, h1⟩
theorem zku {len s : Nat} {x y : AVal} (h : zp9 len s H.get x = some y) : XOk (zdt len s H x) y := by
 unfold zp9 at h
 split at h <;> try (cases h; done)
 split at h <;> try (cases h; done)
 rename_i hg
 obtain ⟨h1, rfl⟩ := Yv h
 simp only [Bool.and_eq_true, q6, jd] at h1
 simp only [zdt, hg]
 exact ⟨_, rfl, h1⟩
theorem zme {x i y : AVal} (h : zp0 x i = some y) : XOk (zgh x i) y := by
 unfold zp0 at h
 split at h <;> try (cases h; done)
 obtain ⟨h1, rfl⟩ := Yv h
 simp only [Bool.and_eq_true, uo, U6] at h1
 exact ⟨_, rfl, h1⟩
theorem zlb {len s : Nat} {ag : Bool} {x i y : AVal} (h : zq9 len s ag x i = some y) : XOk (zhb len s ag x i) y := by
 unfold zq9 at h
 split at h <;> try (cases h; done)
 obtain ⟨h1, rfl⟩ := Yv h
 simp only [Bool.and_eq_true, uo, U6, jd, and_assoc] at h1
 exact ⟨_, rfl, h1⟩
theorem zqk {k : Nat} {x y : AVal} (h : zui k x = some y) : XOk (zre k x) y := by
 unfold zui at h
 split at h <;> try (cases h; done)
 obtain ⟨h1, rfl⟩ := Yv h
 exact ⟨_, rfl, jd.1 h1⟩
theorem zln {x y : AVal} (h : zqb x = some y) : XOk (zdh x) y := by
 unfold zqb at h
 split at h <;> simp only [Option.some.injEq, reduceCtorEq] at h
 subst h; exact ⟨_, rfl, trivial⟩
theorem zm8 {x y : AVal} (h : zol x = some y) : XOk (zdf x) y := by
 unfold zol at h
 split at h <;> simp only [Option.some.injEq, reduceCtorEq] at h <;> (subst h; exact ⟨_, rfl, trivial⟩)
theorem zj4 {x y : AVal} (h : zgt x = some y) : XOk (z18 x) y := by
 unfold zgt at h
 split at h <;> simp only [Option.some.injEq, reduceCtorEq] at h <;> (subst h; exact ⟨_, rfl, trivial⟩)
variable {e : Env}
theorem zx {x : LOpd} {v : AVal} (h : u7 e.get x = some v) : x.ev e = v ∧ x.need e := by
 cases x with
 | c u => simp only [u7, Option.some.injEq] at h; exact ⟨h, trivial⟩
 | t i =>
  simp only [u7] at h
  show (e.get i).strip = v ∧ (e.get i).need
  split at h
  ·rename_i u hu
   simp only [Option.some.injEq] at h
   rw [hu]
   exact ⟨h, rfl⟩
  ·cases h
  ·rename_i h1 h2
   simp only [Option.some.injEq] at h
   cases hg : e.get i with
   | cnd p u =>
    cases p with
    | true => exact absurd hg (h1 u)
    | false => exact absurd hg (h2 u)
   | _ => rw [hg] at h; subst h; exact ⟨rfl, trivial⟩
theorem Xv : ∀ {xs : List LOpd} {vs : List AVal}, z3h e.get xs = some vs → evs e xs = vs ∧ Xz e xs
 | [], vs, h => by simp only [z3h, Option.some.injEq] at h; exact ⟨h, trivial⟩
 | x :: xs, vs, h => by
  unfold z3h at h
  split at h <;> try (cases h; done)
  rename_i a ha
  split at h <;> simp only [Option.some.injEq, reduceCtorEq] at h
  rename_i l hl
  obtain ⟨h1, h2⟩ := zx ha
  obtain ⟨h3, h4⟩ := Xv hl
  exact ⟨by unfold evs; rw [h1, h3]; exact h, h2, h4⟩
theorem kv {d : Nat} {o : Option LOpd} {j : Int} (h : Yn e.get d o = some j) : xu e d o = some j ∧ Z7 e o := by
 cases o with
 | none => simp only [Yn, Option.some.injEq] at h; exact ⟨by simp [xu, h], trivial⟩
 | some x =>
  simp only [Yn] at h
  split at h <;> simp only [Option.some.injEq, reduceCtorEq] at h
  rename_i k z hx
  obtain ⟨h1, h2⟩ := zx hx
  subst h
  exact ⟨by simp only [xu, h1], h2⟩
theorem zi1 {lo hi : Option LOpd} {x y : AVal} (h : zin e.get lo hi x = some y) : XOk (z1a (fun d => xu e d lo) (fun d => xu e d hi) x) y ∧ Z7 e lo ∧ Z7 e hi := by
 unfold zin at h
 split at h <;> try (cases h; done)
 split at h <;> try (cases h; done)
 rename_i a b ha hb
 obtain ⟨h1, rfl⟩ := Yv h
 obtain ⟨ha1, ha2⟩ := kv ha
 obtain ⟨hb1, hb2⟩ := kv hb
 simp only [Bool.and_eq_true, uo, and_assoc] at h1
 refine ⟨?_, ha2, hb2⟩
 simp only [z1a, ha1, hb1]
 exact ⟨_, rfl, h1⟩
theorem zmr {s : Nat} {lo hi mx : Option LOpd} {x y : AVal} (h : zpm e.get s lo hi mx x = some y) (kp : Bool) : XOk (zil s (fun d => xu e d lo) (fun d => xu e d hi) (z16 e mx) kp x) y ∧ Z7 e lo ∧ Z7 e hi ∧ Z7 e mx := by
 unfold zpm at h
 split at h
 ·split at h <;> try (cases h; done)
  rename_i a b ha hb
  obtain ⟨ha1, ha2⟩ := kv ha
  obtain ⟨hb1, hb2⟩ := kv hb
  split at h
  ·obtain ⟨h1, rfl⟩ := Yv h
   simp only [Bool.and_eq_true, q6, uo, and_assoc] at h1
   refine ⟨?_, ha2, hb2, trivial⟩
   simp only [zil, z3y, ha1, hb1, z16]
   exact ⟨_, rfl, h1⟩
  ·split at h <;> try (cases h; done)
   rename_i z hz
   obtain ⟨hz1, hz2⟩ := kv hz
   obtain ⟨h1, rfl⟩ := Yv h
   simp only [Bool.and_eq_true, q6, uo, and_assoc] at h1
   refine ⟨?_, ha2, hb2, hz2⟩
   simp only [zil, z3y, ha1, hb1, z16, hz1]
   exact ⟨_, rfl, h1⟩
 ·split at h <;> try (cases h; done)
  rename_i a b ha hb
  obtain ⟨ha1, ha2⟩ := kv ha
  obtain ⟨hb1, hb2⟩ := kv hb
  split at h
  ·obtain ⟨h1, rfl⟩ := Yv h
   simp only [Bool.and_eq_true, q6, uo, and_assoc] at h1
   refine ⟨?_, ha2, hb2, trivial⟩
   simp only [zil, z3y, ha1, hb1, z16]
   exact ⟨_, rfl, h1⟩
  ·split at h <;> try (cases h; done)
   rename_i z hz
   obtain ⟨hz1, hz2⟩ := kv hz
   obtain ⟨h1, rfl⟩ := Yv h
   simp only [Bool.and_eq_true, q6, uo, and_assoc] at h1
   refine ⟨?_, ha2, hb2, hz2⟩
   simp only [zil, z3y, ha1, hb1, z16, hz1]
   exact ⟨_, rfl, h1⟩
 ·split at h <;> try (cases h; done)
  rename_i a b ha hb
  obtain ⟨ha1, ha2⟩ := kv ha
  obtain ⟨hb1, hb2⟩ := kv hb
  obtain ⟨h1, rfl⟩ := Yv h
  simp only [Bool.and_eq_true, decide_eq_true_eq] at h1
  refine ⟨?_, ha2, hb2, trivial⟩
  simp only [zil, z3y, ha1, hb1, z16]
  exact ⟨_, rfl, h1⟩
 ·cases h
theorem z4t : ∀ {ps : List (Nat × Nat × AVal)} {cells : List AVal} {y : AVal}, z76 cells ps = some y → XOk (Ya cells ps) y
 | [], cells, y, h => by simp only [z76, Option.some.injEq] at h; subst h; exact ⟨_, rfl, trivial⟩
 | (off, m, x) :: r, cells, y, h => by
  unfold z76 at h
  split at h <;> try (cases h; done)
  rename_i cs hc
  split at h <;> try (cases h; done)
  rename_i hb
  simp only [Bool.and_eq_true, q6, jd] at hb
  obtain ⟨s, h1, h2⟩ := z4t h
  simp only [Ya, hc, h1]
  exact ⟨_, rfl, hb.1, hb.2, h2⟩
theorem z5x : ∀ {ps : List (Nat × Nat × LOpd)} {l : List (Nat × Nat × AVal)}, z6s e.get ps = some l → wy e ps = l ∧ w9 e ps
 | [], l, h => by simp only [z6s, Option.some.injEq] at h; exact ⟨h, trivial⟩
 | (o, m, x) :: r, l, h => by
  unfold z6s at h
  split at h <;> try (cases h; done)
  rename_i a ha
  split at h <;> simp only [Option.some.injEq, reduceCtorEq] at h
  rename_i l' hl
  obtain ⟨h1, h2⟩ := zx ha
  obtain ⟨h3, h4⟩ := z5x hl
  exact ⟨by unfold wy; rw [h1, h3]; exact h, h2, h4⟩
theorem zi8 {mx : Bool} : ∀ {l : List AVal} {v y : AVal}, zq7 mx v l = some y → XOk (zg8 mx v l) y
 | [], v, y, h => by
  cases v <;> simp only [zq7, Option.some.injEq] at h <;> (subst h; exact ⟨_, rfl, trivial⟩)
 | x :: r, v, y, h => by
  cases v <;> try (simp [zq7] at h; done)
  cases x <;> try (simp [zq7] at h; done)
  simp only [zq7] at h
  split at h <;> try (cases h; done)
  rename_i hk
  obtain ⟨s, h1, h2⟩ := zi8 h
  simp only [zg8, h1]
  exact ⟨_, rfl, Wo.1 hk, h2⟩
theorem zli {mx : Bool} {l : List AVal} {y : AVal} (h : zqm mx l = some y) : XOk (zfa mx l) y := by
 unfold zqm at h
 split at h <;> try (cases h; done)
 exact zi8 h
theorem Wb {ks : List CK} {ka : Bool} {k : AVal} (h : z28 ks ka k = true) : Xf ks ka k = true := by
 unfold z28 at h
 unfold Xf
 simp only [Bool.and_eq_true] at h ⊢
 refine ⟨h.1, ?_⟩
 cases hc : Za ks (x7 k) (x7 k) with
 | none => rw [hc] at h; cases h.2
 | some b => rw [Zx hc]; rfl
theorem Yj {ks : List CK} {k k' : AVal} {b : Bool} (h : z5e ks k k' = some b) : X8 ks k k' = some b := by
 unfold z5e at h
 unfold X8
 split at h <;> try (cases h; done)
 ·rename_i h1 h2; rw [h1, h2]; exact Zx h
 ·rename_i h1 h2; rw [h1, h2]; exact Zx h
theorem z7m {ks : List CK} {k : AVal} : ∀ {es : List (AVal × AVal)} {r : Option AVal}, zch ks k es = some r → Ww ks k es = some r
 | [], r, h => h
 | (k', x) :: es, r, h => by
  unfold zch at h
  unfold Ww
  split at h <;> try (cases h; done)
  ·rename_i hk; rw [Yj hk]; exact h
  ·rename_i hk; rw [Yj hk]; exact z7m h
theorem zbp {ks : List CK} {k x : AVal} : ∀ {es r : List (AVal × AVal)}, zlh ks k x es = some r → zk1 ks k x es = some r
 | [], r, h => h
 | (k', y) :: es, r, h => by
  unfold zlh at h
  unfold zk1
  split at h <;> try (cases h; done)
  ·rename_i hk; rw [Yj hk]; exact h
  ·rename_i hk
   rw [Yj hk]
   split at h <;> simp only [Option.some.injEq, reduceCtorEq] at h
   rename_i l hl
   subst h
   simp only [zbp hl, Option.map_some]
theorem z5s {ks : List CK} {k : AVal} : ∀ {es r : List (AVal × AVal)}, zb2 ks k es = some r → z3l ks k es = some r
 | [], r, h => h
 | (k', y) :: es, r, h => by
  unfold zb2 at h
  unfold z3l
  split at h <;> try (cases h; done)
  ·rename_i hk; rw [Yj hk]; exact h
  ·rename_i hk
   rw [Yj hk]
   split at h <;> simp only [Option.some.injEq, reduceCtorEq] at h
   rename_i l hl
   subst h
   simp only [z5s hl, Option.map_some]
theorem zjb {ks : List CK} {ka ag ok : Bool} {zs : List AVal} {k x y : AVal} (h : zj0 ks ka ag ok zs H.get k x = some y) : XOk (Vj ks ka ag ok zs H k x) y := by
 unfold zj0 at h
 split at h
 ·obtain ⟨h1, rfl⟩ := Yv h
  simp only [Vj, Wb h1, if_true]
  exact ⟨_, rfl, trivial⟩
 ·split at h <;> try (cases h; done)
  rename_i hg
  split at h <;> try (cases h; done)
  rename_i hk
  split at h <;> simp only [Option.some.injEq, reduceCtorEq] at h
  rename_i r hr
  subst h
  simp only [Vj, hg, Wb hk, if_true, z7m hr]
  exact ⟨_, rfl, rfl⟩
 ·cases h
theorem zmy {x y : AVal} (h : zr4 H.get x = some y) : XOk (z8n H x) y := by
 unfold zr4 at h
 split at h
 ·simp only [Option.some.injEq] at h; subst h; exact ⟨_, rfl, trivial⟩
 ·split at h <;> simp only [Option.some.injEq, reduceCtorEq] at h
  rename_i hg
  subst h
  simp only [z8n, hg]
  exact ⟨_, rfl, trivial⟩
 ·cases h
theorem kn {α γ : Type} {x : Option α} {f : α → Option γ} {o : γ} (h : x.bind f = some o) : ∃ r, x = some r ∧ f r = some o := by
 cases x with
 | none => cases h
 | some r => exact ⟨r, rfl, h⟩
theorem Ki {op : LOp} {v : AVal} (h : zl4 e.get H.get op = some v) : XOk (jl e H op) v := by
 cases op <;> simp only [zl4, reduceCtorEq] at h <;> simp only [jl]
 case mv x => obtain ⟨h1, h2⟩ := zx h; rw [h1]; exact ⟨_, rfl, h2⟩
 case pick c a b =>
  split at h <;> try (cases h; done)
  ·rename_i hc
   obtain ⟨c1, c2⟩ := zx hc
   obtain ⟨a1, a2⟩ := zx h
   rw [c1]
   subst a1; exact XOk.and (XOk.of rfl ⟨fun _ => a2, fun h => by cases h⟩) c2
  ·rename_i hc
   obtain ⟨c1, c2⟩ := zx hc
   obtain ⟨a1, a2⟩ := zx h
   rw [c1]
   subst a1; exact XOk.and (XOk.of rfl ⟨fun h => (by cases h), fun _ => a2⟩) c2
 case build zs parts =>
  obtain ⟨ps, h1, h2⟩ := kn h
  obtain ⟨p1, p2⟩ := z5x h1
  rw [p1]
  exact (z4t h2).and p2
 case load ag m a => obtain ⟨x, h1, h2⟩ := kn h; obtain ⟨p1, p2⟩ := zx h1; rw [p1]; exact (zbq h2).and p2
 case nilck a => obtain ⟨x, h1, h2⟩ := kn h; obtain ⟨p1, p2⟩ := zx h1; rw [p1]; exact (zj4 h2).and p2
 case bin op x y => obtain ⟨a, h1, h2⟩ := kn h; obtain ⟨b, h3, h4⟩ := kn h2; obtain ⟨p1, p2⟩ := zx h1; obtain ⟨q1, q2⟩ := zx h3; rw [p1, q1]; exact (zok h4).and ⟨p2, q2⟩
 case eq neg k x y => obtain ⟨a, h1, h2⟩ := kn h; obtain ⟨b, h3, h4⟩ := kn h2; obtain ⟨p1, p2⟩ := zx h1; obtain ⟨q1, q2⟩ := zx h3; rw [p1, q1]; exact (zq2 h4).and ⟨p2, q2⟩
 case un op x => obtain ⟨a, h1, h2⟩ := kn h; obtain ⟨p1, p2⟩ := zx h1; rw [p1]; exact (zsf h2).and p2
 case conv k x =>
  cases k with
  | int k =>
   simp only at h ⊢
   split at h <;> simp only [Option.some.injEq, reduceCtorEq] at h
   rename_i hx
   obtain ⟨p1, p2⟩ := zx hx
   subst h
   simp only [p1]
   exact ⟨_, rfl, p2⟩
  | same =>
   simp only at h ⊢
   split at h <;> simp only [Option.some.injEq, reduceCtorEq] at h
   rename_i hx
   obtain ⟨p1, p2⟩ := zx hx
   subst h
   simp only [p1]
   exact ⟨_, rfl, p2⟩
  | s2b vm => cases h
  | b2s => cases h
 case mkfn f a c =>
  obtain ⟨as, h1, h2⟩ := kn h
  obtain ⟨cs, h3, h4⟩ := kn h2
  obtain ⟨p1, p2⟩ := Xv h1
  obtain ⟨q1, q2⟩ := Xv h3
  simp only [Option.some.injEq] at h4
  subst h4
  rw [p1, q1]
  exact ⟨_, rfl, p2, q2⟩
 case slStr x lo hi => obtain ⟨a, h1, h2⟩ := kn h; obtain ⟨p1, p2⟩ := zx h1; obtain ⟨q1, q2⟩ := zi1 h2; rw [p1]; exact q1.and ⟨p2, q2⟩
 case slSl s x lo hi mx => obtain ⟨a, h1, h2⟩ := kn h; obtain ⟨p1, p2⟩ := zx h1; obtain ⟨q1, q2⟩ := zmr h2 (hi.isNone && mx.isNone); rw [p1]; exact q1.and ⟨p2, q2⟩
 case slAr m s x => obtain ⟨a, h1, h2⟩ := kn h; obtain ⟨p1, p2⟩ := zx h1; rw [p1]; exact (zku h2).and p2
 case faddr off x => obtain ⟨a, h1, h2⟩ := kn h; obtain ⟨p1, p2⟩ := zx h1; rw [p1]; exact (zf4 h2).and p2
 case field ag m off x => obtain ⟨a, h1, h2⟩ := kn h; obtain ⟨p1, p2⟩ := zx h1; rw [p1]; exact (zji h2).and p2
 case iaddr s x i => obtain ⟨a, h1, h2⟩ := kn h; obtain ⟨b, h3, h4⟩ := kn h2; obtain ⟨p1, p2⟩ := zx h1; obtain ⟨q1, q2⟩ := zx h3; rw [p1, q1]; exact (zkj h4).and ⟨p2, q2⟩
 case iaddrA m s x i => obtain ⟨a, h1, h2⟩ := kn h; obtain ⟨b, h3, h4⟩ := kn h2; obtain ⟨p1, p2⟩ := zx h1; obtain ⟨q1, q2⟩ := zx h3; rw [p1, q1]; exact (ze1 h4).and ⟨p2, q2⟩
 case iaddrR m s x i => obtain ⟨a, h1, h2⟩ := kn h; obtain ⟨b, h3, h4⟩ := kn h2; obtain ⟨p1, p2⟩ := zx h1; obtain ⟨q1, q2⟩ := zx h3; rw [p1, q1]; exact (zea h4).and ⟨p2, q2⟩
 case idxS x i => obtain ⟨a, h1, h2⟩ := kn h; obtain ⟨b, h3, h4⟩ := kn h2; obtain ⟨p1, p2⟩ := zx h1; obtain ⟨q1, q2⟩ := zx h3; rw [p1, q1]; exact (zme h4).and ⟨p2, q2⟩
 case idxA m s ag x i => obtain ⟨a, h1, h2⟩ := kn h; obtain ⟨b, h3, h4⟩ := kn h2; obtain ⟨p1, p2⟩ := zx h1; obtain ⟨q1, q2⟩ := zx h3; rw [p1, q1]; exact (zlb h4).and ⟨p2, q2⟩
 case ext k x => obtain ⟨a, h1, h2⟩ := kn h; obtain ⟨p1, p2⟩ := zx h1; rw [p1]; exact (zqk h2).and p2
 case len st x =>
  cases st with
  | true => simp only at h ⊢; obtain ⟨a, h1, h2⟩ := kn h; obtain ⟨p1, p2⟩ := zx h1; rw [p1]; exact (zln h2).and p2
  | false => simp only at h ⊢; obtain ⟨a, h1, h2⟩ := kn h; obtain ⟨p1, p2⟩ := zx h1; rw [p1]; exact (zm8 h2).and p2
 case mnx m args => obtain ⟨a, h1, h2⟩ := kn h; obtain ⟨p1, p2⟩ := Xv h1; rw [p1]; exact (zli h2).and p2
 case mlook ks ka ag ok zs x k => obtain ⟨a, h1, h2⟩ := kn h; obtain ⟨b, h3, h4⟩ := kn h2; obtain ⟨p1, p2⟩ := zx h1; obtain ⟨q1, q2⟩ := zx h3; rw [p1, q1]; exact (zjb h4).and ⟨p2, q2⟩
 case mlen x => obtain ⟨a, h1, h2⟩ := kn h; obtain ⟨p1, p2⟩ := zx h1; rw [p1]; exact (zmy h2).and p2
end Go.Fx
