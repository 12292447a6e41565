/-
  Own framework.
-/
import Derived.Test.YtlfdchgaeeadjaaDoorFxEv
import Derived.Test.YtlfdchgaeeadjaaDoorFxZ
namespace Go.Fx
set_option linter.unusedVariables false
namespace Tr
variable {α : Type}
theorem z0i (v : Option α) (l r : Tr α) (j : Nat) : (Tr.nd v l r).get j = if j = 0 then v else if j % 2 = 1 then l.get (j / 2) else r.get (j / 2 - 1) := by
 show (match Nat.beq j 0 with
  | true => v
  | false => match Nat.beq (j % 2) 1 with
   | true => get l (j / 2)
   | false => get r (j / 2 - 1)) = _
 by_cases h : j = 0
 ·subst h; rfl
 ·rw [if_neg h]
  have h0 : Nat.beq j 0 = false := Bool.eq_false_iff.2 fun h' => h (Nat.eq_of_beq_eq_true h')
  rw [h0]
  simp only
  by_cases h1 : j % 2 = 1
  ·rw [if_pos h1, h1]
  ·rw [if_neg h1]
   have : j % 2 = 0 := by omega
   rw [this]
theorem put_get : ∀ (d : Nat) (t : Tr α) (k : Nat) (x : Option α) (t' : Tr α), put d t k x = some t' → ∀ j, t'.get j = if j = k then x else t.get j
 | 0, _, _, _, _, h => by simp [put] at h
 | d + 1, t, k, x, t', h => by
  have key : ∀ (v : Option α) (l r : Tr α), (match Nat.beq k 0 with
   | true => some (Tr.nd x l r)
   | false => match Nat.beq (k % 2) 1 with
    | true => match put d l (k / 2) x with | some l => some (.nd v l r) | none => none
    | false => match put d r (k / 2 - 1) x with | some r => some (.nd v l r) | none => none) = some t' → ∀ j, t'.get j = if j = k then x else (Tr.nd v l r).get j := by
   intro v l r h j
   split at h
   ·rename_i hk
    have hk := Nat.eq_of_beq_eq_true hk
    simp only [Option.some.injEq] at h
    subst h hk
    rw [z0i, z0i]
    by_cases hj : j = 0
    ·rw [if_pos hj, if_pos hj]
    ·rw [if_neg hj, if_neg hj, if_neg hj]
   ·rename_i hk
    have hk := Nat.ne_of_beq_eq_false hk
    split at h
    ·rename_i hk1
     have hk1 := Nat.eq_of_beq_eq_true hk1
     split at h <;> simp only [Option.some.injEq, reduceCtorEq] at h
     rename_i l' hl
     subst h
     have ih := put_get d l (k / 2) x l' hl
     rw [z0i, z0i, ih]
     by_cases hj : j = k
     ·subst hj; rw [if_neg hk, if_pos hk1, if_pos rfl, if_pos rfl]
     ·rw [if_neg hj]
      by_cases h0 : j = 0
      ·rw [if_pos h0, if_pos h0]
      ·rw [if_neg h0, if_neg h0]
       by_cases h1 : j % 2 = 1
       ·rw [if_pos h1, if_pos h1, if_neg (by omega)]
       ·rw [if_neg h1, if_neg h1]
    ·rename_i hk1
     have hk1 := Nat.ne_of_beq_eq_false hk1
     split at h <;> simp only [Option.some.injEq, reduceCtorEq] at h
     rename_i r' hr
     subst h
     have ih := put_get d r (k / 2 - 1) x r' hr
     rw [z0i, z0i, ih]
     by_cases hj : j = k
     ·subst hj; rw [if_neg hk, if_neg hk1, if_pos rfl, if_pos rfl]
     ·rw [if_neg hj]
      by_cases h0 : j = 0
      ·rw [if_pos h0, if_pos h0]
      ·rw [if_neg h0, if_neg h0]
       by_cases h1 : j % 2 = 1
       ·rw [if_pos h1, if_pos h1]
       ·rw [if_neg h1, if_neg h1, if_neg (by omega)]
  cases t with
  | nil =>
   intro j
   have hn : (Tr.nil : Tr α).get j = (Tr.nd none .nil .nil).get j := by rw [z0i]; simp [get]
   rw [hn]
   exact key none .nil .nil (by unfold put at h; exact h) j
  | nd v l r => exact key v l r (by unfold put at h; exact h)
end Tr
theorem zsz {i j : Id} {k : Nat} (hi : hix i = some k) (hj : hix j = some k) : i = j := by
 obtain ⟨a, b⟩ := i
 obtain ⟨c, d⟩ := j
 unfold hix at hi hj
 simp only at hi hj
 split at hi <;> split at hj <;> simp only [Option.some.injEq, reduceCtorEq] at hi hj
 all_goals first | (exfalso; omega) | (have : a = c := (by omega); subst this; rfl)
theorem z69 {t t' : Tr ABlock} {id : Id} {b : Option ABlock} (h : t.sat id b = some t') (j : Id) : t'.at j = if j = id then b else t.at j := by
 unfold Tr.sat at h
 split at h <;> try (cases h; done)
 rename_i k hk
 have hp := Tr.put_get _ _ _ _ _ h
 unfold Tr.at
 by_cases hj : j = id
 ·subst hj
  rw [hk, if_pos rfl]
  simp only
  rw [hp, if_pos rfl]
 ·rw [if_neg hj]
  cases hx : hix j with
  | none => rfl
  | some k' =>
   simp only
   rw [hp, if_neg]
   rintro rfl
   exact hj (zsz hx hk)
structure StR (H : AHeap) (n : Nat) (S : Sh) : Prop where
 n : n = S.n
 h : ∀ id, H.get id = S.t.at id
variable {H : AHeap} {n : Nat} {S S' : Sh}
theorem StR.new {b : ABlock} (h : StR H n S) (hs : S.new b = some S') : StR (((n, 0), b) :: H) (n + 1) S' := by
 unfold Sh.new at hs
 split at hs <;> simp only [Option.some.injEq, reduceCtorEq] at hs
 rename_i t ht
 subst hs
 refine ⟨by simp [h.n], fun id => ?_⟩
 simp only
 rw [z69 ht]
 by_cases hj : (n, 0) = id
 ·subst hj; rw [AHeap.get_cons_same, if_pos (by rw [h.n])]
 ·rw [AHeap.get_cons_other _ _ hj, if_neg (by rw [← h.n]; exact fun e => hj e.symm), h.h]
theorem StR.new2 {b c : ABlock} (h : StR H n S) (hs : S.new2 b c = some S') : StR (((n, 0), b) :: ((n, 1), c) :: H) (n + 1) S' := by
 unfold Sh.new2 at hs
 split at hs <;> try (cases hs; done)
 rename_i t ht
 split at hs <;> simp only [Option.some.injEq, reduceCtorEq] at hs
 rename_i t' ht'
 subst hs
 refine ⟨by simp [h.n], fun id => ?_⟩
 simp only
 rw [z69 ht', z69 ht, ← h.n]
 by_cases hj : (n, 0) = id
 ·subst hj; rw [AHeap.get_cons_same, if_neg (by simp), if_pos rfl]
 ·rw [AHeap.get_cons_other _ _ hj]
  by_cases hj1 : (n, 1) = id
  ·subst hj1; rw [AHeap.get_cons_same, if_pos rfl]
  ·rw [AHeap.get_cons_other _ _ hj1, if_neg (fun e => hj1 e.symm), if_neg (fun e => hj e.symm), h.h]
theorem StR.upd {id : Id} {b b0 : ABlock} (h : StR H n S) (h0 : S.t.at id = some b0) (hs : S.upd id b = some S') : StR (H.set id b) n S' := by
 unfold Sh.upd at hs
 split at hs <;> simp only [Option.some.injEq, reduceCtorEq] at hs
 rename_i t ht
 subst hs
 refine ⟨h.n, fun j => ?_⟩
 simp only
 rw [z69 ht, AHeap.get_set]
 by_cases hj : id = j
 ·subst hj; rw [if_pos rfl, if_pos rfl, h.h, h0]; rfl
 ·rw [if_neg hj, if_neg (fun e => hj e.symm), h.h]
theorem StR.cut {id : Id} (h : StR H n S) (hs : S.cut id = some S') : StR (H.del id) n S' := by
 unfold Sh.cut at hs
 split at hs <;> simp only [Option.some.injEq, reduceCtorEq] at hs
 rename_i t ht
 subst hs
 refine ⟨h.n, fun j => ?_⟩
 simp only
 rw [z69 ht, AHeap.get_del]
 by_cases hj : id = j
 ·subst hj; rw [if_pos rfl, if_pos rfl]
 ·rw [if_neg hj, if_neg (fun e => hj e.symm), h.h]
theorem Vs {a b : IntKind} : z32 a b = true ↔ a = b := by cases a <;> cases b <;> decide
theorem Ze {a b : Int} : ile a b = true ↔ a ≤ b := by simp [ile]
theorem z1l {a b : Int} : ilt a b = true ↔ a < b := by simp [ilt]
theorem qf {a b : Nat} : Nat.beq a b = true ↔ a = b := ⟨Nat.eq_of_beq_eq_true, fun h => by subst h; exact Nat.beq_refl a⟩
theorem jr {a b : Nat} : Nat.ble a b = true ↔ a ≤ b := by rw [Nat.ble_eq]
theorem X4 {p : Bool} {v y : AVal} (h : ck p v = some y) : p = true ∧ v = y := by
 unfold ck at h
 split at h <;> simp only [Option.some.injEq, reduceCtorEq] at h
 exact ⟨rfl, h⟩
def XOk (x : XR) (y : AVal) : Prop := ∃ s, x = .ok s y ∧ s
theorem XOk.of {x : XR} {s : Prop} {y : AVal} (h : x = .ok s y) (hs : s) : XOk x y := ⟨s, h, hs⟩
theorem XOk.and {x : XR} {p : Prop} {y : AVal} (h : XOk x y) (hp : p) : XOk (x.and p) y := by
 obtain ⟨s, rfl, hs⟩ := h
 exact ⟨p ∧ s, rfl, hp, hs⟩
theorem zv1 {op : BinOp} {a b y : AVal} (h : y1n op a b = some y) : XOk (zqx op a b) y := by
 unfold y1n at h
 split at h
 ·unfold zqx
  cases op <;> simp only at h ⊢ <;> (obtain ⟨h1, rfl⟩ := X4 h; refine ⟨_, rfl, ?_⟩) <;>
   simp only [Bool.and_eq_true, Vs, Ze, Bool.not_eq_true', decide_eq_false_iff_not] at h1 <;> exact h1
 ·unfold zqx
  cases op <;> first
   | (cases h; done)
   | (obtain ⟨h1, rfl⟩ := X4 h; exact ⟨_, rfl, Ze.1 h1⟩)
   | (simp only [Option.some.injEq] at h; subst h; exact ⟨_, rfl, trivial⟩)
 ·cases h
theorem zyk {op : UnOp} {a y : AVal} (h : bun op a = some y) : XOk (xun op a) y := by
 unfold bun at h
 split at h
 ·unfold xun
  split at h <;> simp only [Option.some.injEq, reduceCtorEq] at h
  subst h; exact ⟨_, rfl, trivial⟩
 ·unfold xun
  split at h <;> simp only [Option.some.injEq, reduceCtorEq] at h <;> (subst h; exact ⟨_, rfl, trivial⟩)
 ·cases h
theorem zfl {k : CK} {x y : AVal} {b : Bool} (h : z9k k x y = some b) : Yx k x y = some b := by
 unfold z9k at h
 split at h
 ·split at h <;> simp only [Option.some.injEq, reduceCtorEq] at h
  rename_i hk
  subst h
  simp [Yx, Vs.1 hk]
 ·simpa [Yx] using h
 ·simpa [Yx] using h
 ·cases h
theorem Yl : ∀ {ks : List CK} {xs ys : List AVal} {b : Bool}, Y1 ks xs ys = some b → yq ks xs ys = some b
 | [], [], [], b, h => by simpa [Y1, yq] using h
 | k :: ks, x :: xs, y :: ys, b, h => by
  unfold Y1 at h
  split at h <;> try (cases h; done)
  rename_i a ha
  split at h <;> try (cases h; done)
  rename_i c hc
  unfold yq
  rw [zfl ha, Yl hc]
  exact h
 | [], [], _ :: _, _, h => by cases h
 | [], _ :: _, _, _, h => by cases h
 | _ :: _, [], _, _, h => by cases h
 | _ :: _, _ :: _, [], _, h => by cases h
theorem zoq {x y : AVal} {b : Bool} (h : zvb x y = some b) : XOk (Kj x y) (.bool b) := by
 unfold zvb at h
 split at h
 ·simp only [Option.some.injEq] at h; subst h; exact ⟨_, rfl, trivial⟩
 ·rename_i len _
  cases hz : Nat.beq len 0 <;> rw [hz] at h <;> simp only [Option.some.injEq, reduceCtorEq] at h
  subst h; exact ⟨_, rfl, Nat.ne_of_beq_eq_false hz⟩
 ·rename_i len _
  cases hz : Nat.beq len 0 <;> rw [hz] at h <;> simp only [Option.some.injEq, reduceCtorEq] at h
  subst h; exact ⟨_, rfl, Nat.ne_of_beq_eq_false hz⟩
 ·rename_i es _
  cases es <;> simp only [Option.some.injEq, reduceCtorEq] at h
  subst h; exact ⟨_, rfl, by simp⟩
 ·rename_i es _
  cases es <;> simp only [Option.some.injEq, reduceCtorEq] at h
  subst h; exact ⟨_, rfl, by simp⟩
 ·cases h
theorem zt6 {k : EqK} {x y : AVal} {b : Bool} (h : y1e k x y = some b) : XOk (zq3 k x y) (.bool b) := by
 unfold y1e at h
 unfold zq3
 split at h
 ·split at h <;> simp only [Option.some.injEq, reduceCtorEq] at h
  subst h; exact ⟨_, rfl, trivial⟩
 ·simp only
  unfold zsb at h
  split at h <;> simp only [Option.some.injEq, reduceCtorEq] at h <;> (subst h; exact ⟨_, rfl, trivial⟩)
 ·simp only
  exact zoq h
 ·simp only
  unfold zql at h
  split at h <;> simp only [Option.some.injEq, reduceCtorEq] at h <;> (subst h; exact ⟨_, rfl, trivial⟩)
 ·simp only
  split at h <;> try (cases h; done)
  simp only [zn2, Yl h]
  exact ⟨_, rfl, trivial⟩
 ·cases h
theorem zuk {neg : Bool} {k : EqK} {x y z : AVal} (h : y09 neg k x y = some z) : XOk (xeq neg k x y) z := by
 unfold y09 at h
 split at h <;> simp only [Option.some.injEq, reduceCtorEq] at h
 rename_i b hb
 obtain ⟨s, h1, h2⟩ := zt6 hb
 unfold xeq
 subst h
 cases neg with
 | true => simp only [if_true, h1, XR.neg]; exact ⟨_, rfl, h2⟩
 | false => simp only [Bool.false_eq_true, if_false, h1]; exact ⟨_, rfl, h2⟩
theorem zdv {ag : Bool} {m : Nat} {x y : AVal} (h : zps ag m H.get x = some y) : XOk (z5u ag m H x) y := by
 unfold zps at h
 unfold z5u
 split at h
 ·obtain ⟨h1, rfl⟩ := X4 h
  simp only [Bool.and_eq_true, jr] at h1
  exact ⟨_, rfl, h1⟩
 ·rename_i b i off
  simp only
  split at h <;> try (cases h; done)
  ·rename_i hg
   obtain ⟨h1, rfl⟩ := X4 h
   simp only [Bool.and_eq_true, jr] at h1
   rw [hg]
   exact ⟨_, rfl, h1⟩
  ·rename_i hg
   obtain ⟨h1, rfl⟩ := X4 h
   simp only [Bool.and_eq_true, jr, qf] at h1
   rw [hg]
   exact ⟨_, rfl, h1⟩
 ·cases h
theorem zml {off : Nat} {x y : AVal} (h : znk off x = some y) : XOk (z38 off x) y := by
 unfold znk at h
 split at h <;> simp only [Option.some.injEq, reduceCtorEq] at h <;> (subst h; exact ⟨_, rfl, trivial⟩)
theorem zmc {ag : Bool} {m off : Nat} {x y : AVal} (h : znn ag m off x = some y) : XOk (z2s ag m off x) y := by
 unfold znn at h
 split at h <;> try (cases h; done)
 obtain ⟨h1, rfl⟩ := X4 h
 exact ⟨_, rfl, jr.1 h1⟩
theorem zk3 {s : Nat} {x i y : AVal} (h : zlr s x i = some y) : XOk (z2v s x i) y := by
 unfold zlr at h
 split at h <;> try (cases h; done)
 all_goals
  obtain ⟨h1, rfl⟩ := X4 h
  simp only [Bool.and_eq_true, qf, Ze, z1l, and_assoc] at h1
  exact ⟨_, rfl, h1⟩
theorem zfv {len s : Nat} {x i y : AVal} (h : z9i len s x i = some y) : XOk (z22 len s x i) y := by
 unfold z9i at h
 split at h <;> try (cases h; done)
 all_goals
  obtain ⟨h1, rfl⟩ := X4 h
  simp only [Bool.and_eq_true, Ze, z1l] at h1
  exact ⟨_, rfl, h1⟩
theorem zer {len s : Nat} {x i y : AVal} (h : zaf len s H.get x i = some y) : XOk (Wm len s H x i) y := by
 unfold zaf at h
 split at h <;> try (cases h; done)
 split at h <;> try (cases h; done)
 rename_i hg
 obtain ⟨h1, rfl⟩ := X4 h
 simp only [Bool.and_eq_true, qf, Ze, z1l, and_assoc] at h1
 simp only [Wm, hg]
 exact ⟨_, rfl, h1⟩
theorem zos {len s : Nat} {x y : AVal} (h : zsy len s H.get x = some y) : XOk (zeu len s H x) y := by
 unfold zsy at h
 split at h <;> try (cases h; done)
 split at h <;> try (cases h; done)
 rename_i hg
 obtain ⟨h1, rfl⟩ := X4 h
 simp only [Bool.and_eq_true, qf, jr] at h1
 simp only [zeu, hg]
 exact ⟨_, rfl, h1⟩
theorem zp9 {x i y : AVal} (h : zu5 x i = some y) : XOk (zmk x i) y := by
 unfold zu5 at h
 split at h <;> try (cases h; done)
 obtain ⟨h1, rfl⟩ := X4 h
 simp only [Bool.and_eq_true, Ze, z1l] at h1
 exact ⟨_, rfl, h1⟩
theorem zp6 {len s : Nat} {ag : Bool} {x i y : AVal} (h : zu1 len s ag x i = some y) : XOk (zm3 len s ag x i) y := by
 unfold zu1 at h
 split at h <;> try (cases h; done)
 obtain ⟨h1, rfl⟩ := X4 h
 simp only [Bool.and_eq_true, Ze, z1l, jr, and_assoc] at h1
 exact ⟨_, rfl, h1⟩
theorem ztf {k : Nat} {x y : AVal} (h : y0p k x = some y) : XOk (zwl k x) y := by
 unfold y0p at h
 split at h <;> try (cases h; done)
 obtain ⟨h1, rfl⟩ := X4 h
 exact ⟨_, rfl, jr.1 h1⟩
theorem zod {x y : AVal} (h : zvq x = some y) : XOk (zf5 x) y := by
 unfold zvq at h
 split at h <;> simp only [Option.some.injEq, reduceCtorEq] at h
 subst h; exact ⟨_, rfl, trivial⟩
theorem zpy {x y : AVal} (h : zsk x = some y) : XOk (zf8 x) y := by
 unfold zsk at h
 split at h <;> simp only [Option.some.injEq, reduceCtorEq] at h <;> (subst h; exact ⟨_, rfl, trivial⟩)
theorem zjx {x y : AVal} (h : zn5 x = some y) : XOk (z2z x) y := by
 unfold zn5 at h
 split at h <;> simp only [Option.some.injEq, reduceCtorEq] at h <;> (subst h; exact ⟨_, rfl, trivial⟩)
variable {e : Env}
theorem y3 {x : LOpd} {v : AVal} (h : Z1 e.get x = some v) : x.ev e = v ∧ x.need e := by
 cases x with
 | c u => simp only [Z1, Option.some.injEq] at h; exact ⟨h, trivial⟩
 | t i =>
  simp only [Z1] at h
  show (e.get i).strip = v ∧ (e.get i).need
  split at h
  ·rename_i u hu
   simp only [Option.some.injEq] at h
   rw [hu]
   exact ⟨h, rfl⟩
  ·cases h
  ·rename_i h1 h2
   simp only [Option.some.injEq] at h
   cases hg : e.get i with
   | cnd p u =>
    cases p with
    | true => exact absurd hg (h1 u)
    | false => exact absurd hg (h2 u)
   | _ => rw [hg] at h; subst h; exact ⟨rfl, trivial⟩
theorem Jv : ∀ {xs : List LOpd} {vs : List AVal}, z5b e.get xs = some vs → evs e xs = vs ∧ W4 e xs
 | [], vs, h => by simp only [z5b, Option.some.injEq] at h; exact ⟨h, trivial⟩
 | x :: xs, vs, h => by
  unfold z5b at h
  split at h <;> try (cases h; done)
  rename_i a ha
  split at h <;> simp only [Option.some.injEq, reduceCtorEq] at h
  rename_i l hl
  obtain ⟨h1, h2⟩ := y3 ha
  obtain ⟨h3, h4⟩ := Jv hl
  exact ⟨by unfold evs; rw [h1, h3]; exact h, h2, h4⟩
theorem ue {d : Nat} {o : Option LOpd} {j : Int} (h : Qy e.get d o = some j) : jb e d o = some j ∧ Zy e o := by
 cases o with
 | none => simp only [Qy, Option.some.injEq] at h; exact ⟨by simp [jb, h], trivial⟩
 | some x =>
  simp only [Qy] at h
  split at h <;> simp only [Option.some.injEq, reduceCtorEq] at h
  rename_i k z hx
  obtain ⟨h1, h2⟩ := y3 hx
  subst h
  exact ⟨by simp only [jb, h1], h2⟩
theorem zk1 {lo hi : Option LOpd} {x y : AVal} (h : zjg e.get lo hi x = some y) : XOk (z2r (fun d => jb e d lo) (fun d => jb e d hi) x) y ∧ Zy e lo ∧ Zy e hi := by
 unfold zjg at h
 split at h <;> try (cases h; done)
 split at h <;> try (cases h; done)
 rename_i a b ha hb
 obtain ⟨h1, rfl⟩ := X4 h
 obtain ⟨ha1, ha2⟩ := ue ha
 obtain ⟨hb1, hb2⟩ := ue hb
 simp only [Bool.and_eq_true, Ze, and_assoc] at h1
 refine ⟨?_, ha2, hb2⟩
 simp only [z2r, ha1, hb1]
 exact ⟨_, rfl, h1⟩
theorem zpv {s : Nat} {lo hi mx : Option LOpd} {x y : AVal} (h : zst e.get s lo hi mx x = some y) (kp : Bool) : XOk (zh2 s (fun d => jb e d lo) (fun d => jb e d hi) (z2c e mx) kp x) y ∧ Zy e lo ∧ Zy e hi ∧ Zy e mx := by
 unfold zst at h
 split at h
 ·split at h <;> try (cases h; done)
  rename_i a b ha hb
  obtain ⟨ha1, ha2⟩ := ue ha
  obtain ⟨hb1, hb2⟩ := ue hb
  split at h
  ·obtain ⟨h1, rfl⟩ := X4 h
   simp only [Bool.and_eq_true, qf, Ze, and_assoc] at h1
   refine ⟨?_, ha2, hb2, trivial⟩
   simp only [zh2, z4k, ha1, hb1, z2c]
   exact ⟨_, rfl, h1⟩
  ·split at h <;> try (cases h; done)
   rename_i z hz
   obtain ⟨hz1, hz2⟩ := ue hz
   obtain ⟨h1, rfl⟩ := X4 h
   simp only [Bool.and_eq_true, qf, Ze, and_assoc] at h1
   refine ⟨?_, ha2, hb2, hz2⟩
   simp only [zh2, z4k, ha1, hb1, z2c, hz1]
   exact ⟨_, rfl, h1⟩
 ·split at h <;> try (cases h; done)
  rename_i a b ha hb
  obtain ⟨ha1, ha2⟩ := ue ha
  obtain ⟨hb1, hb2⟩ := ue hb
  split at h
  ·obtain ⟨h1, rfl⟩ := X4 h
   simp only [Bool.and_eq_true, qf, Ze, and_assoc] at h1
   refine ⟨?_, ha2, hb2, trivial⟩
   simp only [zh2, z4k, ha1, hb1, z2c]
   exact ⟨_, rfl, h1⟩
  ·split at h <;> try (cases h; done)
   rename_i z hz
   obtain ⟨hz1, hz2⟩ := ue hz
   obtain ⟨h1, rfl⟩ := X4 h
   simp only [Bool.and_eq_true, qf, Ze, and_assoc] at h1
   refine ⟨?_, ha2, hb2, hz2⟩
   simp only [zh2, z4k, ha1, hb1, z2c, hz1]
   exact ⟨_, rfl, h1⟩
 ·split at h <;> try (cases h; done)
  rename_i a b ha hb
  obtain ⟨ha1, ha2⟩ := ue ha
  obtain ⟨hb1, hb2⟩ := ue hb
  obtain ⟨h1, rfl⟩ := X4 h
  simp only [Bool.and_eq_true, decide_eq_true_eq] at h1
  refine ⟨?_, ha2, hb2, trivial⟩
  simp only [zh2, z4k, ha1, hb1, z2c]
  exact ⟨_, rfl, h1⟩
 ·cases h
theorem z6t : ∀ {ps : List (Nat × Nat × AVal)} {cells : List AVal} {y : AVal}, z6f cells ps = some y → XOk (Q0 cells ps) y
 | [], cells, y, h => by simp only [z6f, Option.some.injEq] at h; subst h; exact ⟨_, rfl, trivial⟩
 | (off, m, x) :: r, cells, y, h => by
  unfold z6f at h
  split at h <;> try (cases h; done)
  rename_i cs hc
  split at h <;> try (cases h; done)
  rename_i hb
  simp only [Bool.and_eq_true, qf, jr] at hb
  obtain ⟨s, h1, h2⟩ := z6t h
  simp only [Q0, hc, h1]
  exact ⟨_, rfl, hb.1, hb.2, h2⟩
theorem z77 : ∀ {ps : List (Nat × Nat × LOpd)} {l : List (Nat × Nat × AVal)}, z79 e.get ps = some l → kl e ps = l ∧ va e ps
 | [], l, h => by simp only [z79, Option.some.injEq] at h; exact ⟨h, trivial⟩
 | (o, m, x) :: r, l, h => by
  unfold z79 at h
  split at h <;> try (cases h; done)
  rename_i a ha
  split at h <;> simp only [Option.some.injEq, reduceCtorEq] at h
  rename_i l' hl
  obtain ⟨h1, h2⟩ := y3 ha
  obtain ⟨h3, h4⟩ := z77 hl
  exact ⟨by unfold kl; rw [h1, h3]; exact h, h2, h4⟩
theorem zi7 {mx : Bool} : ∀ {l : List AVal} {v y : AVal}, zun mx v l = some y → XOk (zki mx v l) y
 | [], v, y, h => by
  cases v <;> simp only [zun, Option.some.injEq] at h <;> (subst h; exact ⟨_, rfl, trivial⟩)
 | x :: r, v, y, h => by
  cases v <;> try (simp [zun] at h; done)
  cases x <;> try (simp [zun] at h; done)
  simp only [zun] at h
  split at h <;> try (cases h; done)
  rename_i hk
  obtain ⟨s, h1, h2⟩ := zi7 h
  simp only [zki, h1]
  exact ⟨_, rfl, Vs.1 hk, h2⟩
theorem zox {mx : Bool} {l : List AVal} {y : AVal} (h : zt5 mx l = some y) : XOk (zmu mx l) y := by
 unfold zt5 at h
 split at h <;> try (cases h; done)
 exact zi7 h
theorem Vx {ks : List CK} {ka : Bool} {k : AVal} (h : z2k ks ka k = true) : Jm ks ka k = true := by
 unfold z2k at h
 unfold Jm
 simp only [Bool.and_eq_true] at h ⊢
 refine ⟨h.1, ?_⟩
 cases hc : Y1 ks (xe k) (xe k) with
 | none => rw [hc] at h; cases h.2
 | some b => rw [Yl hc]; rfl
theorem Qs {ks : List CK} {k k' : AVal} {b : Bool} (h : z6j ks k k' = some b) : Jh ks k k' = some b := by
 unfold z6j at h
 unfold Jh
 split at h <;> try (cases h; done)
 ·rename_i h1 h2; rw [h1, h2]; exact Yl h
 ·rename_i h1 h2; rw [h1, h2]; exact Yl h
theorem z7e {ks : List CK} {k : AVal} : ∀ {es : List (AVal × AVal)} {r : Option AVal}, zce ks k es = some r → V4 ks k es = some r
 | [], r, h => h
 | (k', x) :: es, r, h => by
  unfold zce at h
  unfold V4
  split at h <;> try (cases h; done)
  ·rename_i hk; rw [Qs hk]; exact h
  ·rename_i hk; rw [Qs hk]; exact z7e h
theorem zbr {ks : List CK} {k x : AVal} : ∀ {es r : List (AVal × AVal)}, zoa ks k x es = some r → ziz ks k x es = some r
 | [], r, h => h
 | (k', y) :: es, r, h => by
  unfold zoa at h
  unfold ziz
  split at h <;> try (cases h; done)
  ·rename_i hk; rw [Qs hk]; exact h
  ·rename_i hk
   rw [Qs hk]
   split at h <;> simp only [Option.some.injEq, reduceCtorEq] at h
   rename_i l hl
   subst h
   simp only [zbr hl, Option.map_some]
theorem z8c {ks : List CK} {k : AVal} : ∀ {es r : List (AVal × AVal)}, zcd ks k es = some r → z4o ks k es = some r
 | [], r, h => h
 | (k', y) :: es, r, h => by
  unfold zcd at h
  unfold z4o
  split at h <;> try (cases h; done)
  ·rename_i hk; rw [Qs hk]; exact h
  ·rename_i hk
   rw [Qs hk]
   split at h <;> simp only [Option.some.injEq, reduceCtorEq] at h
   rename_i l hl
   subst h
   simp only [z8c hl, Option.map_some]
theorem zh5 {ks : List CK} {ka ag ok : Bool} {zs : List AVal} {k x y : AVal} (h : zih ks ka ag ok zs H.get k x = some y) : XOk (Uc ks ka ag ok zs H k x) y := by
 unfold zih at h
 split at h
 ·obtain ⟨h1, rfl⟩ := X4 h
  simp only [Uc, Vx h1, if_true]
  exact ⟨_, rfl, trivial⟩
 ·split at h <;> try (cases h; done)
  rename_i hg
  split at h <;> try (cases h; done)
  rename_i hk
  split at h <;> simp only [Option.some.injEq, reduceCtorEq] at h
  rename_i r hr
  subst h
  simp only [Uc, hg, Vx hk, if_true, z7e hr]
  exact ⟨_, rfl, rfl⟩
 ·cases h
theorem zoi {x y : AVal} (h : zv8 H.get x = some y) : XOk (z98 H x) y := by
 unfold zv8 at h
 split at h
 ·simp only [Option.some.injEq] at h; subst h; exact ⟨_, rfl, trivial⟩
 ·split at h <;> simp only [Option.some.injEq, reduceCtorEq] at h
  rename_i hg
  subst h
  simp only [z98, hg]
  exact ⟨_, rfl, trivial⟩
 ·cases h
theorem uf {α γ : Type} {x : Option α} {f : α → Option γ} {o : γ} (h : x.bind f = some o) : ∃ r, x = some r ∧ f r = some o := by
 cases x with
 | none => cases h
 | some r => exact ⟨r, rfl, h⟩
theorem z05 {op : LOp} {v : AVal} (h : zpi e.get H.get op = some v) : XOk (w5 e H op) v := by
 cases op <;> simp only [zpi, reduceCtorEq] at h <;> simp only [w5]
 case mv x => obtain ⟨h1, h2⟩ := y3 h; rw [h1]; exact ⟨_, rfl, h2⟩
 case pick c a b =>
  split at h <;> try (cases h; done)
  ·rename_i hc
   obtain ⟨c1, c2⟩ := y3 hc
   obtain ⟨a1, a2⟩ := y3 h
   rw [c1]
   subst a1; exact XOk.and (XOk.of rfl ⟨fun _ => a2, fun h => by cases h⟩) c2
  ·rename_i hc
   obtain ⟨c1, c2⟩ := y3 hc
   obtain ⟨a1, a2⟩ := y3 h
   rw [c1]
   subst a1; exact XOk.and (XOk.of rfl ⟨fun h => (by cases h), fun _ => a2⟩) c2
 case build zs parts =>
  obtain ⟨ps, h1, h2⟩ := uf h
  obtain ⟨p1, p2⟩ := z77 h1
  rw [p1]
  exact (z6t h2).and p2
 case load ag m a => obtain ⟨x, h1, h2⟩ := uf h; obtain ⟨p1, p2⟩ := y3 h1; rw [p1]; exact (zdv h2).and p2
 case nilck a => obtain ⟨x, h1, h2⟩ := uf h; obtain ⟨p1, p2⟩ := y3 h1; rw [p1]; exact (zjx h2).and p2
 case bin op x y => obtain ⟨a, h1, h2⟩ := uf h; obtain ⟨b, h3, h4⟩ := uf h2; obtain ⟨p1, p2⟩ := y3 h1; obtain ⟨q1, q2⟩ := y3 h3; rw [p1, q1]; exact (zv1 h4).and ⟨p2, q2⟩
 case eq neg k x y => obtain ⟨a, h1, h2⟩ := uf h; obtain ⟨b, h3, h4⟩ := uf h2; obtain ⟨p1, p2⟩ := y3 h1; obtain ⟨q1, q2⟩ := y3 h3; rw [p1, q1]; exact (zuk h4).and ⟨p2, q2⟩
 case un op x => obtain ⟨a, h1, h2⟩ := uf h; obtain ⟨p1, p2⟩ := y3 h1; rw [p1]; exact (zyk h2).and p2
 case conv k x =>
  cases k with
  | int k =>
   simp only at h ⊢
   split at h <;> simp only [Option.some.injEq, reduceCtorEq] at h
   rename_i hx
   obtain ⟨p1, p2⟩ := y3 hx
   subst h
   simp only [p1]
   exact ⟨_, rfl, p2⟩
  | same =>
   simp only at h ⊢
   split at h <;> simp only [Option.some.injEq, reduceCtorEq] at h
   rename_i hx
   obtain ⟨p1, p2⟩ := y3 hx
   subst h
   simp only [p1]
   exact ⟨_, rfl, p2⟩
  | s2b vm => cases h
  | b2s => cases h
 case mkfn f a c =>
  obtain ⟨as, h1, h2⟩ := uf h
  obtain ⟨cs, h3, h4⟩ := uf h2
  obtain ⟨p1, p2⟩ := Jv h1
  obtain ⟨q1, q2⟩ := Jv h3
  simp only [Option.some.injEq] at h4
  subst h4
  rw [p1, q1]
  exact ⟨_, rfl, p2, q2⟩
 case slStr x lo hi => obtain ⟨a, h1, h2⟩ := uf h; obtain ⟨p1, p2⟩ := y3 h1; obtain ⟨q1, q2⟩ := zk1 h2; rw [p1]; exact q1.and ⟨p2, q2⟩
 case slSl s x lo hi mx => obtain ⟨a, h1, h2⟩ := uf h; obtain ⟨p1, p2⟩ := y3 h1; obtain ⟨q1, q2⟩ := zpv h2 (hi.isNone && mx.isNone); rw [p1]; exact q1.and ⟨p2, q2⟩
 case slAr m s x => obtain ⟨a, h1, h2⟩ := uf h; obtain ⟨p1, p2⟩ := y3 h1; rw [p1]; exact (zos h2).and p2
 case faddr off x => obtain ⟨a, h1, h2⟩ := uf h; obtain ⟨p1, p2⟩ := y3 h1; rw [p1]; exact (zml h2).and p2
 case field ag m off x => obtain ⟨a, h1, h2⟩ := uf h; obtain ⟨p1, p2⟩ := y3 h1; rw [p1]; exact (zmc h2).and p2
 case iaddr s x i => obtain ⟨a, h1, h2⟩ := uf h; obtain ⟨b, h3, h4⟩ := uf h2; obtain ⟨p1, p2⟩ := y3 h1; obtain ⟨q1, q2⟩ := y3 h3; rw [p1, q1]; exact (zk3 h4).and ⟨p2, q2⟩
 case iaddrA m s x i => obtain ⟨a, h1, h2⟩ := uf h; obtain ⟨b, h3, h4⟩ := uf h2; obtain ⟨p1, p2⟩ := y3 h1; obtain ⟨q1, q2⟩ := y3 h3; rw [p1, q1]; exact (zfv h4).and ⟨p2, q2⟩
 case iaddrR m s x i => obtain ⟨a, h1, h2⟩ := uf h; obtain ⟨b, h3, h4⟩ := uf h2; obtain ⟨p1, p2⟩ := y3 h1; obtain ⟨q1, q2⟩ := y3 h3; rw [p1, q1]; exact (zer h4).and ⟨p2, q2⟩
 case idxS x i => obtain ⟨a, h1, h2⟩ := uf h; obtain ⟨b, h3, h4⟩ := uf h2; obtain ⟨p1, p2⟩ := y3 h1; obtain ⟨q1, q2⟩ := y3 h3; rw [p1, q1]; exact (zp9 h4).and ⟨p2, q2⟩
 case idxA m s ag x i => obtain ⟨a, h1, h2⟩ := uf h; obtain ⟨b, h3, h4⟩ := uf h2; obtain ⟨p1, p2⟩ := y3 h1; obtain ⟨q1, q2⟩ := y3 h3; rw [p1, q1]; exact (zp6 h4).and ⟨p2, q2⟩
 case ext k x => obtain ⟨a, h1, h2⟩ := uf h; obtain ⟨p1, p2⟩ := y3 h1; rw [p1]; exact (ztf h2).and p2
 case len st x =>
  cases st with
  | true => simp only at h ⊢; obtain ⟨a, h1, h2⟩ := uf h; obtain ⟨p1, p2⟩ := y3 h1; rw [p1]; exact (zod h2).and p2
  | false => simp only at h ⊢; obtain ⟨a, h1, h2⟩ := uf h; obtain ⟨p1, p2⟩ := y3 h1; rw [p1]; exact (zpy h2).and p2
 case mnx m args => obtain ⟨a, h1, h2⟩ := uf h; obtain ⟨p1, p2⟩ := Jv h1; rw [p1]; exact (zox h2).and p2
 case mlook ks ka ag ok zs x k => obtain ⟨a, h1, h2⟩ := uf h; obtain ⟨b, h3, h4⟩ := uf h2; obtain ⟨p1, p2⟩ := y3 h1; obtain ⟨q1, q2⟩ := y3 h3; rw [p1, q1]; exact (zh5 h4).and ⟨p2, q2⟩
 case mlen x => obtain ⟨a, h1, h2⟩ := uf h; obtain ⟨p1, p2⟩ := y3 h1; rw [p1]; exact (zoi h2).and p2
end Go.Fx
