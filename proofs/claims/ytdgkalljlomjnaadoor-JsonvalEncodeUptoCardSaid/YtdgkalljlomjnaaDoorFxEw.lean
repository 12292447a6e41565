/-
  Own framework.
-/
import Derived.Test.YtdgkalljlomjnaaDoorFxEv
import Derived.Test.YtdgkalljlomjnaaDoorFxZ
namespace Go.Fx
set_option linter.unusedVariables false
namespace Tr
variable {α : Type}
theorem U4 (v : Option α) (l r : Tr α) (j : Nat) : (Tr.nd v l r).get j = if j = 0 then v else if j % 2 = 1 then l.get (j / 2) else r.get (j / 2 - 1) := by
 show (match Nat.beq j 0 with
  | true => v
  | false => match Nat.beq (j % 2) 1 with
   | true => get l (j / 2)
   | false => get r (j / 2 - 1)) = _
 by_cases h : j = 0
 ·subst h; rfl
 ·rw [if_neg h]
  have h0 : Nat.beq j 0 = false := Bool.eq_false_iff.2 fun h' => h (Nat.eq_of_beq_eq_true h')
  rw [h0]
  simp only
  by_cases h1 : j % 2 = 1
  ·rw [if_pos h1, h1]
  ·rw [if_neg h1]
   have : j % 2 = 0 := by omega
   rw [this]
theorem put_get : ∀ (d : Nat) (t : Tr α) (k : Nat) (x : Option α) (t' : Tr α), put d t k x = some t' → ∀ j, t'.get j = if j = k then x else t.get j
 | 0, _, _, _, _, h => by simp [put] at h
 | d + 1, t, k, x, t', h => by
  have key : ∀ (v : Option α) (l r : Tr α), (match Nat.beq k 0 with
   | true => some (Tr.nd x l r)
   | false => match Nat.beq (k % 2) 1 with
    | true => match put d l (k / 2) x with | some l => some (.nd v l r) | none => none
    | false => match put d r (k / 2 - 1) x with | some r => some (.nd v l r) | none => none) = some t' → ∀ j, t'.get j = if j = k then x else (Tr.nd v l r).get j := by
   intro v l r h j
   split at h
   ·rename_i hk
    have hk := Nat.eq_of_beq_eq_true hk
    simp only [Option.some.injEq] at h
    subst h hk
    rw [U4, U4]
    by_cases hj : j = 0
    ·rw [if_pos hj, if_pos hj]
    ·rw [if_neg hj, if_neg hj, if_neg hj]
   ·rename_i hk
    have hk := Nat.ne_of_beq_eq_false hk
    split at h
    ·rename_i hk1
     have hk1 := Nat.eq_of_beq_eq_true hk1
     split at h <;> simp only [Option.some.injEq, reduceCtorEq] at h
     rename_i l' hl
     subst h
     have ih := put_get d l (k / 2) x l' hl
     rw [U4, U4, ih]
     by_cases hj : j = k
     ·subst hj; rw [if_neg hk, if_pos hk1, if_pos rfl, if_pos rfl]
     ·rw [if_neg hj]
      by_cases h0 : j = 0
      ·rw [if_pos h0, if_pos h0]
      ·rw [if_neg h0, if_neg h0]
       by_cases h1 : j % 2 = 1
       ·rw [if_pos h1, if_pos h1, if_neg (by omega)]
       ·rw [if_neg h1, if_neg h1]
    ·rename_i hk1
     have hk1 := Nat.ne_of_beq_eq_false hk1
     split at h <;> simp only [Option.some.injEq, reduceCtorEq] at h
     rename_i r' hr
     subst h
     have ih := put_get d r (k / 2 - 1) x r' hr
     rw [U4, U4, ih]
     by_cases hj : j = k
     ·subst hj; rw [if_neg hk, if_neg hk1, if_pos rfl, if_pos rfl]
     ·rw [if_neg hj]
      by_cases h0 : j = 0
      ·rw [if_pos h0, if_pos h0]
      ·rw [if_neg h0, if_neg h0]
       by_cases h1 : j % 2 = 1
       ·rw [if_pos h1, if_pos h1]
       ·rw [if_neg h1, if_neg h1, if_neg (by omega)]
  cases t with
  | nil =>
   intro j
   have hn : (Tr.nil : Tr α).get j = (Tr.nd none .nil .nil).get j := by rw [U4]; simp [get]
   rw [hn]
   exact key none .nil .nil (by unfold put at h; exact h) j
  | nd v l r => exact key v l r (by unfold put at h; exact h)
end Tr
theorem zoa {i j : Id} {k : Nat} (hi : hix i = some k) (hj : hix j = some k) : i = j := by
 obtain ⟨a, b⟩ := i
 obtain ⟨c, d⟩ := j
 unfold hix at hi hj
 simp only at hi hj
 split at hi <;> split at hj <;> simp only [Option.some.injEq, reduceCtorEq] at hi hj
 all_goals first | (exfalso; omega) | (have : a = c := (by omega); subst this; rfl)
theorem z5l {t t' : Tr ABlock} {id : Id} {b : Option ABlock} (h : t.sat id b = some t') (j : Id) : t'.at j = if j = id then b else t.at j := by
 unfold Tr.sat at h
 split at h <;> try (cases h; done)
 rename_i k hk
 have hp := Tr.put_get _ _ _ _ _ h
 unfold Tr.at
 by_cases hj : j = id
 ·subst hj
  rw [hk, if_pos rfl]
  simp only
  rw [hp, if_pos rfl]
 ·rw [if_neg hj]
  cases hx : hix j with
  | none => rfl
  | some k' =>
   simp only
   rw [hp, if_neg]
   rintro rfl
   exact hj (zoa hx hk)
structure StR (H : AHeap) (n : Nat) (S : Sh) : Prop where
 n : n = S.n
 h : ∀ id, H.get id = S.t.at id
variable {H : AHeap} {n : Nat} {S S' : Sh}
theorem StR.new {b : ABlock} (h : StR H n S) (hs : S.new b = some S') : StR (((n, 0), b) :: H) (n + 1) S' := by
 unfold Sh.new at hs
 split at hs <;> simp only [Option.some.injEq, reduceCtorEq] at hs
 rename_i t ht
 subst hs
 refine ⟨by simp [h.n], fun id => ?_⟩
 simp only
 rw [z5l ht]
 by_cases hj : (n, 0) = id
 ·subst hj; rw [AHeap.get_cons_same, if_pos (by rw [h.n])]
 ·rw [AHeap.get_cons_other _ _ hj, if_neg (by rw [← h.n]; exact fun e => hj e.symm), h.h]
theorem StR.new2 {b c : ABlock} (h : StR H n S) (hs : S.new2 b c = some S') : StR (((n, 0), b) :: ((n, 1), c) :: H) (n + 1) S' := by
 unfold Sh.new2 at hs
 split at hs <;> try (cases hs; done)
 rename_i t ht
 split at hs <;> simp only [Option.some.injEq, reduceCtorEq] at hs
 rename_i t' ht'
 subst hs
 refine ⟨by simp [h.n], fun id => ?_⟩
 simp only
 rw [z5l ht', z5l ht, ← h.n]
 by_cases hj : (n, 0) = id
 ·subst hj; rw [AHeap.get_cons_same, if_neg (by simp), if_pos rfl]
 ·rw [AHeap.get_cons_other _ _ hj]
  by_cases hj1 : (n, 1) = id
  ·subst hj1; rw [AHeap.get_cons_same, if_pos rfl]
  ·rw [AHeap.get_cons_other _ _ hj1, if_neg (fun e => hj1 e.symm), if_neg (fun e => hj e.symm), h.h]
theorem StR.upd {id : Id} {b b0 : ABlock} (h : StR H n S) (h0 : S.t.at id = some b0) (hs : S.upd id b = some S') : StR (H.set id b) n S' := by
 unfold Sh.upd at hs
 split at hs <;> simp only [Option.some.injEq, reduceCtorEq] at hs
 rename_i t ht
 subst hs
 refine ⟨h.n, fun j => ?_⟩
 simp only
 rw [z5l ht, AHeap.get_set]
 by_cases hj : id = j
 ·subst hj; rw [if_pos rfl, if_pos rfl, h.h, h0]; rfl
 ·rw [if_neg hj, if_neg (fun e => hj e.symm), h.h]
theorem StR.cut {id : Id} (h : StR H n S) (hs : S.cut id = some S') : StR (H.del id) n S' := by
 unfold Sh.cut at hs
 split at hs <;> simp only [Option.some.injEq, reduceCtorEq] at hs
 rename_i t ht
 subst hs
 refine ⟨h.n, fun j => ?_⟩
 simp only
 rw [z5l ht, AHeap.get_del]
 by_cases hj : id = j
 ·subst hj; rw [if_pos rfl, if_pos rfl]
 ·rw [if_neg hj, if_neg (fun e => hj e.symm), h.h]
theorem W3 {a b : IntKind} : z1b a b = true ↔ a = b := by cases a <;> cases b <;> decide
theorem kz {a b : Int} : ile a b = true ↔ a ≤ b := by simp [ile]
theorem U2 {a b : Int} : ilt a b = true ↔ a < b := by simp [ilt]
theorem yt {a b : Nat} : Nat.beq a b = true ↔ a = b := ⟨Nat.eq_of_beq_eq_true, fun h => by subst h; exact Nat.beq_refl a⟩
theorem xu {a b : Nat} : Nat.ble a b = true ↔ a ≤ b := by rw [Nat.ble_eq]
theorem Ya {p : Bool} {v y : AVal} (h : ck p v = some y) : p = true ∧ v = y := by
 unfold ck at h
 split at h <;> simp only [Option.some.injEq, reduceCtorEq] at h
 exact ⟨rfl, h⟩
def XOk (x : XR) (y : AVal) : Prop := ∃ s, x = .ok s y ∧ s
theorem XOk.of {x : XR} {s : Prop} {y : AVal} (h : x = .ok s y) (hs : s) : XOk x y := ⟨s, h, hs⟩
theorem XOk.and {x : XR} {p : Prop} {y : AVal} (h : XOk x y) (hp : p) : XOk (x.and p) y := by
 obtain ⟨s, rfl, hs⟩ := h
 exact ⟨p ∧ s, rfl, hp, hs⟩
theorem zn5 {op : BinOp} {a b y : AVal} (h : zt0 op a b = some y) : XOk (zl7 op a b) y := by
 unfold zt0 at h
 split at h
 ·unfold zl7
  cases op <;> simp only at h ⊢ <;> (obtain ⟨h1, rfl⟩ := Ya h; refine ⟨_, rfl, ?_⟩) <;>
   simp only [Bool.and_eq_true, W3, kz, Bool.not_eq_true', decide_eq_false_iff_not] at h1 <;> exact h1
 ·unfold zl7
  cases op <;> first
   | (cases h; done)
   | (obtain ⟨h1, rfl⟩ := Ya h; exact ⟨_, rfl, kz.1 h1⟩)
   | (simp only [Option.some.injEq] at h; subst h; exact ⟨_, rfl, trivial⟩)
 ·cases h
theorem zqi {op : UnOp} {a y : AVal} (h : bun op a = some y) : XOk (xun op a) y := by
 unfold bun at h
 split at h
 ·unfold xun
  split at h <;> simp only [Option.some.injEq, reduceCtorEq] at h
  subst h; exact ⟨_, rfl, trivial⟩
 ·unfold xun
  split at h <;> simp only [Option.some.injEq, reduceCtorEq] at h <;> (subst h; exact ⟨_, rfl, trivial⟩)
 ·cases h
theorem zbx {k : CK} {x y : AVal} {b : Bool} (h : z85 k x y = some b) : Zr k x y = some b := by
 unfold z85 at h
 split at h
 ·split at h <;> simp only [Option.some.injEq, reduceCtorEq] at h
  rename_i hk
  subst h
  simp [Zr, W3.1 hk]
 ·simpa [Zr] using h
 ·simpa [Zr] using h
 ·cases h
theorem Ze : ∀ {ks : List CK} {xs ys : List AVal} {b : Bool}, uw ks xs ys = some b → ye ks xs ys = some b
 | [], [], [], b, h => by simpa [uw, ye] using h
 | k :: ks, x :: xs, y :: ys, b, h => by
  unfold uw at h
  split at h <;> try (cases h; done)
  rename_i a ha
  split at h <;> try (cases h; done)
  rename_i c hc
  unfold ye
  rw [zbx ha, Ze hc]
  exact h
 | [], [], _ :: _, _, h => by cases h
 | [], _ :: _, _, _, h => by cases h
 | _ :: _, [], _, _, h => by cases h
 | _ :: _, _ :: _, [], _, h => by cases h
theorem zjb {x y : AVal} {b : Bool} (h : zor x y = some b) : XOk (Wz x y) (.bool b) := by
 unfold zor at h
 split at h
 ·simp only [Option.some.injEq] at h; subst h; exact ⟨_, rfl, trivial⟩
 ·rename_i len _
  cases hz : Nat.beq len 0 <;> rw [hz] at h <;> simp only [Option.some.injEq, reduceCtorEq] at h
  subst h; exact ⟨_, rfl, Nat.ne_of_beq_eq_false hz⟩
 ·rename_i len _
  cases hz : Nat.beq len 0 <;> rw [hz] at h <;> simp only [Option.some.injEq, reduceCtorEq] at h
  subst h; exact ⟨_, rfl, Nat.ne_of_beq_eq_false hz⟩
 ·rename_i es _
  cases es <;> simp only [Option.some.injEq, reduceCtorEq] at h
  subst h; exact ⟨_, rfl, by simp⟩
 ·rename_i es _
  cases es <;> simp only [Option.some.injEq, reduceCtorEq] at h
  subst h; exact ⟨_, rfl, by simp⟩
 ·cases h
theorem zob {k : EqK} {x y : AVal} {b : Bool} (h : zsk k x y = some b) : XOk (zdk k x y) (.bool b) := by
 unfold zsk at h
 unfold zdk
 split at h
 ·split at h <;> simp only [Option.some.injEq, reduceCtorEq] at h
  subst h; exact ⟨_, rfl, trivial⟩
 ·simp only
  unfold zlb at h
  split at h <;> simp only [Option.some.injEq, reduceCtorEq] at h <;> (subst h; exact ⟨_, rfl, trivial⟩)
 ·simp only
  exact zjb h
 ·simp only
  unfold zle at h
  split at h <;> simp only [Option.some.injEq, reduceCtorEq] at h <;> (subst h; exact ⟨_, rfl, trivial⟩)
 ·simp only
  split at h <;> try (cases h; done)
  simp only [zfi, Ze h]
  exact ⟨_, rfl, trivial⟩
 ·simp only
  unfold zfx at h
  split at h <;> simp only [Option.some.injEq, reduceCtorEq] at h <;> (subst h; exact ⟨_, rfl, trivial⟩)
 ·simp only
  unfold zeu at h
  split at h <;> simp only [Option.some.injEq, reduceCtorEq] at h <;> (subst h; exact ⟨_, rfl, trivial⟩)
 ·cases h
theorem znq {neg : Bool} {k : EqK} {x y z : AVal} (h : zsi neg k x y = some z) : XOk (xeq neg k x y) z := by
 unfold zsi at h
 split at h <;> simp only [Option.some.injEq, reduceCtorEq] at h
 rename_i b hb
 obtain ⟨s, h1, h2⟩ := zob hb
 unfold xeq
 subst h
 cases neg with
 | true => simp only [if_true, h1, XR.neg]; exact ⟨_, rfl, h2⟩
 | false => simp only [Bool.false_eq_true, if_false, h1]; exact ⟨_, rfl, h2⟩
theorem zao {ag : Bool} {m : Nat} {x y : AVal} (h : zkp ag m H.get x = some y) : XOk (z3k ag m H x) y := by
 unfold zkp at h
 unfold z3k
 split at h
 ·obtain ⟨h1, rfl⟩ := Ya h
  simp only [Bool.and_eq_true, xu] at h1
  exact ⟨_, rfl, h1⟩
 ·rename_i b i off
  simp only
  split at h <;> try (cases h; done)
  ·rename_i hg
   obtain ⟨h1, rfl⟩ := Ya h
   simp only [Bool.and_eq_true, xu] at h1
   rw [hg]
   exact ⟨_, rfl, h1⟩
  ·rename_i hg
   obtain ⟨h1, rfl⟩ := Ya h
   simp only [Bool.and_eq_true, xu, yt] at h1
   rw [hg]
   exact ⟨_, rfl, h1⟩
 ·cases h
theorem zgi {off : Nat} {x y : AVal} (h : zho off x = some y) : XOk (z0z off x) y := by
 unfold zho at h
 split at h <;> simp only [Option.some.injEq, reduceCtorEq] at h <;> (subst h; exact ⟨_, rfl, trivial⟩)
theorem zg1 {ag : Bool} {m off : Nat} {x y : AVal} (h : ze5 ag m off x = some y) : XOk (z0q ag m off x) y := by
 unfold ze5 at h
 split at h <;> try (cases h; done)
 obtain ⟨h1, rfl⟩ := Ya h
 exact ⟨_, rfl, xu.1 h1⟩
theorem zdi {s : Nat} {x i y : AVal} (h : zew s x i = some y) : XOk (z0y s x i) y := by
 unfold zew at h
 split at h <;> try (cases h; done)
 all_goals
  obtain ⟨h1, rfl⟩ := Ya h
  simp only [Bool.and_eq_true, yt, kz, U2, and_assoc] at h1
  exact ⟨_, rfl, h1⟩
theorem zct {len s : Nat} {x i y : AVal} (h : z7e len s x i = some y) : XOk (Uy len s x i) y := by
 unfold z7e at h
 split at h <;> try (cases h; done)
 all_goals
  obtain ⟨h1, rfl⟩ := Ya h
  simp only [Bool.and_eq_true, kz, U2] at h1
  exact ⟨_, rfl, h1⟩
theorem zcc {len s : Nat} {x i y : AVal} (h : z82 len s H.get x i = some y) : XOk (Jg len s H x i) y := by
 unfold z82 at h
 split at h <;> try (cases h; done)
 split at h <;> try (cases h; done)
 rename_i hg
 obtain ⟨h1, rfl⟩ := Ya h
 simp only [Bool.and_eq_true, yt, kz, U2, and_assoc] at h1
 simp only [Jg, hg]
 exact ⟨_, rfl, h1⟩
theorem zk5 {len s : Nat} {x y : AVal} (h : zmj len s H.get x = some y) : XOk (zcu len s H x) y := by
 unfold zmj at h
 split at h <;> try (cases h; done)
 split at h <;> try (cases h; done)
 rename_i hg
 obtain ⟨h1, rfl⟩ := Ya h
 simp only [Bool.and_eq_true, yt, xu] at h1
 simp only [zcu, hg]
 exact ⟨_, rfl, h1⟩
theorem zk8 {x i y : AVal} (h : znx x i = some y) : XOk (zin x i) y := by
 unfold znx at h
 split at h <;> try (cases h; done)
 obtain ⟨h1, rfl⟩ := Ya h
 simp only [Bool.and_eq_true, kz, U2] at h1
 exact ⟨_, rfl, h1⟩
theorem zko {len s : Nat} {ag : Bool} {x i y : AVal} (h : zn8 len s ag x i = some y) : XOk (zes len s ag x i) y := by
 unfold zn8 at h
 split at h <;> try (cases h; done)
 obtain ⟨h1, rfl⟩ := Ya h
 simp only [Bool.and_eq_true, kz, U2, xu, and_assoc] at h1
 exact ⟨_, rfl, h1⟩
theorem zn9 {k : Nat} {x y : AVal} (h : zsd k x = some y) : XOk (zp6 k x) y := by
 unfold zsd at h
 split at h <;> try (cases h; done)
 obtain ⟨h1, rfl⟩ := Ya h
 exact ⟨_, rfl, xu.1 h1⟩
theorem zkw {x y : AVal} (h : zmw x = some y) : XOk (zcx x) y := by
 unfold zmw at h
 split at h <;> simp only [Option.some.injEq, reduceCtorEq] at h
 subst h; exact ⟨_, rfl, trivial⟩
theorem zk9 {x y : AVal} (h : zoo x = some y) : XOk (zc3 x) y := by
 unfold zoo at h
 split at h <;> simp only [Option.some.injEq, reduceCtorEq] at h <;> (subst h; exact ⟨_, rfl, trivial⟩)
theorem zef {x y : AVal} (h : zih x = some y) : XOk (z0v x) y := by
 unfold zih at h
 split at h <;> simp only [Option.some.injEq, reduceCtorEq] at h <;> (subst h; exact ⟨_, rfl, trivial⟩)
variable {e : Env}
theorem zo {x : LOpd} {v : AVal} (h : ki e.get x = some v) : x.ev e = v ∧ x.need e := by
 cases x with
 | c u => simp only [ki, Option.some.injEq] at h; exact ⟨h, trivial⟩
 | t i =>
  simp only [ki] at h
  show (e.get i).strip = v ∧ (e.get i).need
  split at h
  ·rename_i u hu
   simp only [Option.some.injEq] at h
   rw [hu]
   exact ⟨h, rfl⟩
  ·cases h
  ·rename_i h1 h2
   simp only [Option.some.injEq] at h
   cases hg : e.get i with
   | cnd p u =>
    cases p with
    | true => exact absurd hg (h1 u)
    | false => exact absurd hg (h2 u)
   | _ => rw [hg] at h; subst h; exact ⟨rfl, trivial⟩
theorem Xa : ∀ {xs : List LOpd} {vs : List AVal}, z2z e.get xs = some vs → evs e xs = vs ∧ Wv e xs
 | [], vs, h => by simp only [z2z, Option.some.injEq] at h; exact ⟨h, trivial⟩
 | x :: xs, vs, h => by
  unfold z2z at h
  split at h <;> try (cases h; done)
  rename_i a ha
  split at h <;> simp only [Option.some.injEq, reduceCtorEq] at h
  rename_i l hl
  obtain ⟨h1, h2⟩ := zo ha
  obtain ⟨h3, h4⟩ := Xa hl
  exact ⟨by unfold evs; rw [h1, h3]; exact h, h2, h4⟩
theorem vr {d : Nat} {o : Option LOpd} {j : Int} (h : Y2 e.get d o = some j) : xr e d o = some j ∧ Zj e o := by
 cases o with
 | none => simp only [Y2, Option.some.injEq] at h; exact ⟨by simp [xr, h], trivial⟩
 | some x =>
  simp only [Y2] at h
  split at h <;> simp only [Option.some.injEq, reduceCtorEq] at h
  rename_i k z hx
  obtain ⟨h1, h2⟩ := zo hx
  subst h
  exact ⟨by simp only [xr, h1], h2⟩
theorem ze0 {lo hi : Option LOpd} {x y : AVal} (h : zdn e.get lo hi x = some y) : XOk (z1u (fun d => xr e d lo) (fun d => xr e d hi) x) y ∧ Zj e lo ∧ Zj e hi := by
 unfold zdn at h
 split at h <;> try (cases h; done)
 split at h <;> try (cases h; done)
 rename_i a b ha hb
 obtain ⟨h1, rfl⟩ := Ya h
 obtain ⟨ha1, ha2⟩ := vr ha
 obtain ⟨hb1, hb2⟩ := vr hb
 simp only [Bool.and_eq_true, kz, and_assoc] at h1
 refine ⟨?_, ha2, hb2⟩
 simp only [z1u, ha1, hb1]
 exact ⟨_, rfl, h1⟩
theorem zkb {s : Nat} {lo hi mx : Option LOpd} {x y : AVal} (h : zov e.get s lo hi mx x = some y) (kp : Bool) : XOk (zdy s (fun d => xr e d lo) (fun d => xr e d hi) (z3s e mx) kp x) y ∧ Zj e lo ∧ Zj e hi ∧ Zj e mx := by
 unfold zov at h
 split at h
 ·split at h <;> try (cases h; done)
  rename_i a b ha hb
  obtain ⟨ha1, ha2⟩ := vr ha
  obtain ⟨hb1, hb2⟩ := vr hb
  split at h
  ·obtain ⟨h1, rfl⟩ := Ya h
   simp only [Bool.and_eq_true, yt, kz, and_assoc] at h1
   refine ⟨?_, ha2, hb2, trivial⟩
   simp only [zdy, z2l, ha1, hb1, z3s]
   exact ⟨_, rfl, h1⟩
  ·split at h <;> try (cases h; done)
   rename_i z hz
   obtain ⟨hz1, hz2⟩ := vr hz
   obtain ⟨h1, rfl⟩ := Ya h
   simp only [Bool.and_eq_true, yt, kz, and_assoc] at h1
   refine ⟨?_, ha2, hb2, hz2⟩
   simp only [zdy, z2l, ha1, hb1, z3s, hz1]
   exact ⟨_, rfl, h1⟩
 ·split at h <;> try (cases h; done)
  rename_i a b ha hb
  obtain ⟨ha1, ha2⟩ := vr ha
  obtain ⟨hb1, hb2⟩ := vr hb
  split at h
  ·obtain ⟨h1, rfl⟩ := Ya h
   simp only [Bool.and_eq_true, yt, kz, and_assoc] at h1
   refine ⟨?_, ha2, hb2, trivial⟩
   simp only [zdy, z2l, ha1, hb1, z3s]
   exact ⟨_, rfl, h1⟩
  ·split at h <;> try (cases h; done)
   rename_i z hz
   obtain ⟨hz1, hz2⟩ := vr hz
   obtain ⟨h1, rfl⟩ := Ya h
   simp only [Bool.and_eq_true, yt, kz, and_assoc] at h1
   refine ⟨?_, ha2, hb2, hz2⟩
   simp only [zdy, z2l, ha1, hb1, z3s, hz1]
   exact ⟨_, rfl, h1⟩
 ·split at h <;> try (cases h; done)
  rename_i a b ha hb
  obtain ⟨ha1, ha2⟩ := vr ha
  obtain ⟨hb1, hb2⟩ := vr hb
  obtain ⟨h1, rfl⟩ := Ya h
  simp only [Bool.and_eq_true, decide_eq_true_eq] at h1
  refine ⟨?_, ha2, hb2, trivial⟩
  simp only [zdy, z2l, ha1, hb1, z3s]
  exact ⟨_, rfl, h1⟩
 ·cases h
theorem z54 : ∀ {ps : List (Nat × Nat × AVal)} {cells : List AVal} {y : AVal}, z6n cells ps = some y → XOk (Zu cells ps) y
 | [], cells, y, h => by simp only [z6n, Option.some.injEq] at h; subst h; exact ⟨_, rfl, trivial⟩
 | (off, m, x) :: r, cells, y, h => by
  unfold z6n at h
  split at h <;> try (cases h; done)
  rename_i cs hc
  split at h <;> try (cases h; done)
  rename_i hb
  simp only [Bool.and_eq_true, yt, xu] at hb
  obtain ⟨s, h1, h2⟩ := z54 h
  simp only [Zu, hc, h1]
  exact ⟨_, rfl, hb.1, hb.2, h2⟩
theorem z6f : ∀ {ps : List (Nat × Nat × LOpd)} {l : List (Nat × Nat × AVal)}, z5i e.get ps = some l → va e ps = l ∧ wq e ps
 | [], l, h => by simp only [z5i, Option.some.injEq] at h; exact ⟨h, trivial⟩
 | (o, m, x) :: r, l, h => by
  unfold z5i at h
  split at h <;> try (cases h; done)
  rename_i a ha
  split at h <;> simp only [Option.some.injEq, reduceCtorEq] at h
  rename_i l' hl
  obtain ⟨h1, h2⟩ := zo ha
  obtain ⟨h3, h4⟩ := z6f hl
  exact ⟨by unfold va; rw [h1, h3]; exact h, h2, h4⟩
theorem zf7 {mx : Bool} : ∀ {l : List AVal} {v y : AVal}, zo8 mx v l = some y → XOk (zi4 mx v l) y
 | [], v, y, h => by
  cases v <;> simp only [zo8, Option.some.injEq] at h <;> (subst h; exact ⟨_, rfl, trivial⟩)
 | x :: r, v, y, h => by
  cases v <;> try (simp [zo8] at h; done)
  cases x <;> try (simp [zo8] at h; done)
  simp only [zo8] at h
  split at h <;> try (cases h; done)
  rename_i hk
  obtain ⟨s, h1, h2⟩ := zf7 h
  simp only [zi4, h1]
  exact ⟨_, rfl, W3.1 hk, h2⟩
theorem zkf {mx : Bool} {l : List AVal} {y : AVal} (h : zou mx l = some y) : XOk (zgp mx l) y := by
 unfold zou at h
 split at h <;> try (cases h; done)
 exact zf7 h
theorem We {ks : List CK} {ka : Bool} {k : AVal} (h : z1j ks ka k = true) : Q8 ks ka k = true := by
 unfold z1j at h
 unfold Q8
 simp only [Bool.and_eq_true] at h ⊢
 refine ⟨h.1, ?_⟩
 cases hc : uw ks (qt k) (qt k) with
 | none => rw [hc] at h; cases h.2
 | some b => rw [Ze hc]; rfl
theorem Y8 {ks : List CK} {k k' : AVal} {b : Bool} (h : z5p ks k k' = some b) : Qv ks k k' = some b := by
 unfold z5p at h
 unfold Qv
 split at h <;> try (cases h; done)
 ·rename_i h1 h2; rw [h1, h2]; exact Ze h
 ·rename_i h1 h2; rw [h1, h2]; exact Ze h
theorem z6q {ks : List CK} {k : AVal} : ∀ {es : List (AVal × AVal)} {r : Option AVal}, zb2 ks k es = some r → W1 ks k es = some r
 | [], r, h => h
 | (k', x) :: es, r, h => by
  unfold zb2 at h
  unfold W1
  split at h <;> try (cases h; done)
  ·rename_i hk; rw [Y8 hk]; exact h
  ·rename_i hk; rw [Y8 hk]; exact z6q h
theorem zap {ks : List CK} {k x : AVal} : ∀ {es r : List (AVal × AVal)}, zkn ks k x es = some r → zge ks k x es = some r
 | [], r, h => h
 | (k', y) :: es, r, h => by
  unfold zkn at h
  unfold zge
  split at h <;> try (cases h; done)
  ·rename_i hk; rw [Y8 hk]; exact h
  ·rename_i hk
   rw [Y8 hk]
   split at h <;> simp only [Option.some.injEq, reduceCtorEq] at h
   rename_i l hl
   subst h
   simp only [zap hl, Option.map_some]
theorem z4w {ks : List CK} {k : AVal} : ∀ {es r : List (AVal × AVal)}, zau ks k es = some r → z2g ks k es = some r
 | [], r, h => h
 | (k', y) :: es, r, h => by
  unfold zau at h
  unfold z2g
  split at h <;> try (cases h; done)
  ·rename_i hk; rw [Y8 hk]; exact h
  ·rename_i hk
   rw [Y8 hk]
   split at h <;> simp only [Option.some.injEq, reduceCtorEq] at h
   rename_i l hl
   subst h
   simp only [z4w hl, Option.map_some]
theorem zd8 {ks : List CK} {ka ag ok : Bool} {zs : List AVal} {k x y : AVal} (h : zd5 ks ka ag ok zs H.get k x = some y) : XOk (V9 ks ka ag ok zs H k x) y := by
 unfold zd5 at h
 split at h
 ·obtain ⟨h1, rfl⟩ := Ya h
  simp only [V9, We h1, if_true]
  exact ⟨_, rfl, trivial⟩
 ·split at h <;> try (cases h; done)
  rename_i hg
  split at h <;> try (cases h; done)
  rename_i hk
  split at h <;> simp only [Option.some.injEq, reduceCtorEq] at h
  rename_i r hr
  subst h
  simp only [V9, hg, We hk, if_true, z6q hr]
  exact ⟨_, rfl, rfl⟩
 ·cases h
theorem zkq {x y : AVal} (h : zos H.get x = some y) : XOk (z7w H x) y := by
 unfold zos at h
 split at h
 ·simp only [Option.some.injEq] at h; subst h; exact ⟨_, rfl, trivial⟩
 ·split at h <;> simp only [Option.some.injEq, reduceCtorEq] at h
  rename_i hg
  subst h
  simp only [z7w, hg]
  exact ⟨_, rfl, trivial⟩
 ·cases h
theorem vo {α γ : Type} {x : Option α} {f : α → Option γ} {o : γ} (h : x.bind f = some o) : ∃ r, x = some r ∧ f r = some o := by
 cases x with
 | none => cases h
 | some r => exact ⟨r, rfl, h⟩
theorem Kc {op : LOp} {v : AVal} (h : ziy e.get H.get op = some v) : XOk (kc e H op) v := by
 cases op <;> simp only [ziy, reduceCtorEq] at h <;> simp only [kc]
 case mv x => obtain ⟨h1, h2⟩ := zo h; rw [h1]; exact ⟨_, rfl, h2⟩
 case pick c a b =>
  split at h <;> try (cases h; done)
  ·rename_i hc
   obtain ⟨c1, c2⟩ := zo hc
   obtain ⟨a1, a2⟩ := zo h
   rw [c1]
   subst a1; exact XOk.and (XOk.of rfl ⟨fun _ => a2, fun h => by cases h⟩) c2
  ·rename_i hc
   obtain ⟨c1, c2⟩ := zo hc
   obtain ⟨a1, a2⟩ := zo h
   rw [c1]
   subst a1; exact XOk.and (XOk.of rfl ⟨fun h => (by cases h), fun _ => a2⟩) c2
 case build zs parts =>
  obtain ⟨ps, h1, h2⟩ := vo h
  obtain ⟨p1, p2⟩ := z6f h1
  rw [p1]
  exact (z54 h2).and p2
 case load ag m a => obtain ⟨x, h1, h2⟩ := vo h; obtain ⟨p1, p2⟩ := zo h1; rw [p1]; exact (zao h2).and p2
 case nilck a => obtain ⟨x, h1, h2⟩ := vo h; obtain ⟨p1, p2⟩ := zo h1; rw [p1]; exact (zef h2).and p2
 case bin op x y => obtain ⟨a, h1, h2⟩ := vo h; obtain ⟨b, h3, h4⟩ := vo h2; obtain ⟨p1, p2⟩ := zo h1; obtain ⟨q1, q2⟩ := zo h3; rw [p1, q1]; exact (zn5 h4).and ⟨p2, q2⟩
 case eq neg k x y => obtain ⟨a, h1, h2⟩ := vo h; obtain ⟨b, h3, h4⟩ := vo h2; obtain ⟨p1, p2⟩ := zo h1; obtain ⟨q1, q2⟩ := zo h3; rw [p1, q1]; exact (znq h4).and ⟨p2, q2⟩
 case un op x => obtain ⟨a, h1, h2⟩ := vo h; obtain ⟨p1, p2⟩ := zo h1; rw [p1]; exact (zqi h2).and p2
 case conv k x =>
  cases k with
  | int k =>
   simp only at h ⊢
   split at h <;> simp only [Option.some.injEq, reduceCtorEq] at h
   rename_i hx
   obtain ⟨p1, p2⟩ := zo hx
   subst h
   simp only [p1]
   exact ⟨_, rfl, p2⟩
  | same =>
   simp only at h ⊢
   split at h <;> simp only [Option.some.injEq, reduceCtorEq] at h
   rename_i hx
   obtain ⟨p1, p2⟩ := zo hx
   subst h
   simp only [p1]
   exact ⟨_, rfl, p2⟩
  | s2b vm => cases h
  | b2s => cases h
 case mkfn f a c =>
  obtain ⟨as, h1, h2⟩ := vo h
  obtain ⟨cs, h3, h4⟩ := vo h2
  obtain ⟨p1, p2⟩ := Xa h1
  obtain ⟨q1, q2⟩ := Xa h3
  simp only [Option.some.injEq] at h4
  subst h4
  rw [p1, q1]
  exact ⟨_, rfl, p2, q2⟩
 case slStr x lo hi => obtain ⟨a, h1, h2⟩ := vo h; obtain ⟨p1, p2⟩ := zo h1; obtain ⟨q1, q2⟩ := ze0 h2; rw [p1]; exact q1.and ⟨p2, q2⟩
 case slSl s x lo hi mx => obtain ⟨a, h1, h2⟩ := vo h; obtain ⟨p1, p2⟩ := zo h1; obtain ⟨q1, q2⟩ := zkb h2 (hi.isNone && mx.isNone); rw [p1]; exact q1.and ⟨p2, q2⟩
 case slAr m s x => obtain ⟨a, h1, h2⟩ := vo h; obtain ⟨p1, p2⟩ := zo h1; rw [p1]; exact (zk5 h2).and p2
 case faddr off x => obtain ⟨a, h1, h2⟩ := vo h; obtain ⟨p1, p2⟩ := zo h1; rw [p1]; exact (zgi h2).and p2
 case field ag m off x => obtain ⟨a, h1, h2⟩ := vo h; obtain ⟨p1, p2⟩ := zo h1; rw [p1]; exact (zg1 h2).and p2
 case iaddr s x i => obtain ⟨a, h1, h2⟩ := vo h; obtain ⟨b, h3, h4⟩ := vo h2; obtain ⟨p1, p2⟩ := zo h1; obtain ⟨q1, q2⟩ := zo h3; rw [p1, q1]; exact (zdi h4).and ⟨p2, q2⟩
 case iaddrA m s x i => obtain ⟨a, h1, h2⟩ := vo h; obtain ⟨b, h3, h4⟩ := vo h2; obtain ⟨p1, p2⟩ := zo h1; obtain ⟨q1, q2⟩ := zo h3; rw [p1, q1]; exact (zct h4).and ⟨p2, q2⟩
 case iaddrR m s x i => obtain ⟨a, h1, h2⟩ := vo h; obtain ⟨b, h3, h4⟩ := vo h2; obtain ⟨p1, p2⟩ := zo h1; obtain ⟨q1, q2⟩ := zo h3; rw [p1, q1]; exact (zcc h4).and ⟨p2, q2⟩
 case idxS x i => obtain ⟨a, h1, h2⟩ := vo h; obtain ⟨b, h3, h4⟩ := vo h2; obtain ⟨p1, p2⟩ := zo h1; obtain ⟨q1, q2⟩ := zo h3; rw [p1, q1]; exact (zk8 h4).and ⟨p2, q2⟩
 case idxA m s ag x i => obtain ⟨a, h1, h2⟩ := vo h; obtain ⟨b, h3, h4⟩ := vo h2; obtain ⟨p1, p2⟩ := zo h1; obtain ⟨q1, q2⟩ := zo h3; rw [p1, q1]; exact (zko h4).and ⟨p2, q2⟩
 case ext k x => obtain ⟨a, h1, h2⟩ := vo h; obtain ⟨p1, p2⟩ := zo h1; rw [p1]; exact (zn9 h2).and p2
 case len st x =>
  cases st with
  | true => simp only at h ⊢; obtain ⟨a, h1, h2⟩ := vo h; obtain ⟨p1, p2⟩ := zo h1; rw [p1]; exact (zkw h2).and p2
  | false => simp only at h ⊢; obtain ⟨a, h1, h2⟩ := vo h; obtain ⟨p1, p2⟩ := zo h1; rw [p1]; exact (zk9 h2).and p2
 case mnx m args => obtain ⟨a, h1, h2⟩ := vo h; obtain ⟨p1, p2⟩ := Xa h1; rw [p1]; exact (zkf h2).and p2
 case mlook ks ka ag ok zs x k => obtain ⟨a, h1, h2⟩ := vo h; obtain ⟨b, h3, h4⟩ := vo h2; obtain ⟨p1, p2⟩ := zo h1; obtain ⟨q1, q2⟩ := zo h3; rw [p1, q1]; exact (zd8 h4).and ⟨p2, q2⟩
 case mlen x => obtain ⟨a, h1, h2⟩ := vo h; obtain ⟨p1, p2⟩ := zo h1; rw [p1]; exact (zkq h2).and p2
end Go.Fx
