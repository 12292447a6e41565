/-
  Own framework.
-/
import Derived.Test.YtlfdchgaeeadjaaDoorFxEv
import Derived.Test.YtlfdchgaeeadjaaDoorFxZ
namespace Go.Fx
set_option linter.unusedVariables false
namespace Tr
variable {α : Type}
theorem Kq (v : Option α) (l r : Tr α) (j : Nat) : (Tr.nd v l r).get j = if j = 0 then v else if j % 2 = 1 then l.get (j / 2) else r.get (j / 2 - 1) := by
 show (match Nat.beq j 0 with
  | true => v
  | false => match Nat.beq (j % 2) 1 with
   | true => get l (j / 2)
   | false => get r (j / 2 - 1)) = _
 by_cases h : j = 0
 ·subst h; rfl
 ·rw [if_neg h]
  have h0 : Nat.beq j 0 = false := Bool.eq_false_iff.2 fun h' => h (Nat.eq_of_beq_eq_true h')
  rw [h0]
  simp only
  by_cases h1 : j % 2 = 1
  ·rw [if_pos h1, h1]
  ·rw [if_neg h1]
   have : j % 2 = 0 := by omega
   rw [this]
theorem put_get : ∀ (d : Nat) (t : Tr α) (k : Nat) (x : Option α) (t' : Tr α), put d t k x = some t' → ∀ j, t'.get j = if j = k then x else t.get j
 | 0, _, _, _, _, h => by simp [put] at h
 | d + 1, t, k, x, t', h => by
  have key : ∀ (v : Option α) (l r : Tr α), (match Nat.beq k 0 with
   | true => some (Tr.nd x l r)
   | false => match Nat.beq (k % 2) 1 with
    | true => match put d l (k / 2) x with | some l => some (.nd v l r) | none => none
    | false => match put d r (k / 2 - 1) x with | some r => some (.nd v l r) | none => none) = some t' → ∀ j, t'.get j = if j = k then x else (Tr.nd v l r).get j := by
   intro v l r h j
   split at h
   ·rename_i hk
    have hk := Nat.eq_of_beq_eq_true hk
    simp only [Option.some.injEq] at h
    subst h hk
    rw [Kq, Kq]
    by_cases hj : j = 0
    ·rw [if_pos hj, if_pos hj]
    ·rw [if_neg hj, if_neg hj, if_neg hj]
   ·rename_i hk
    have hk := Nat.ne_of_beq_eq_false hk
    split at h
    ·rename_i hk1
     have hk1 := Nat.eq_of_beq_eq_true hk1
     split at h <;> simp only [Option.some.injEq, reduceCtorEq] at h
     rename_i l' hl
     subst h
     have ih := put_get d l (k / 2) x l' hl
     rw [Kq, Kq, ih]
     by_cases hj : j = k
     ·subst hj; rw [if_neg hk, if_pos hk1, if_pos rfl, if_pos rfl]
     ·rw [if_neg hj]
      by_cases h0 : j = 0
      ·rw [if_pos h0, if_pos h0]
      ·rw [if_neg h0, if_neg h0]
       by_cases h1 : j % 2 = 1
       ·rw [if_pos h1, if_pos h1, if_neg (by omega)]
       ·rw [if_neg h1, if_neg h1]
    ·rename_i hk1
     have hk1 := Nat.ne_of_beq_eq_false hk1
     split at h <;> simp only [Option.some.injEq, reduceCtorEq] at h
     rename_i r' hr
     subst h
     have ih := put_get d r (k / 2 - 1) x r' hr
     rw [Kq, Kq, ih]
     by_cases hj : j = k
     ·subst hj; rw [if_neg hk, if_neg hk1, if_pos rfl, if_pos rfl]
     ·rw [if_neg hj]
      by_cases h0 : j = 0
      ·rw [if_pos h0, if_pos h0]
      ·rw [if_neg h0, if_neg h0]
       by_cases h1 : j % 2 = 1
       ·rw [if_pos h1, if_pos h1]
       ·rw [if_neg h1, if_neg h1, if_neg (by omega)]
  cases t with
  | nil =>
   intro j
   have hn : (Tr.nil : Tr α).get j = (Tr.nd none .nil .nil).get j := by rw [Kq]; simp [get]
   rw [hn]
   exact key none .nil .nil (by unfold put at h; exact h) j
  | nd v l r => exact key v l r (by unfold put at h; exact h)
end Tr
theorem zm1 {i j : Id} {k : Nat} (hi : hix i = some k) (hj : hix j = some k) : i = j := by
 obtain ⟨a, b⟩ := i
 obtain ⟨c, d⟩ := j
 unfold hix at hi hj
 simp only at hi hj
 split at hi <;> split at hj <;> simp only [Option.some.injEq, reduceCtorEq] at hi hj
 all_goals first | (exfalso; omega) | (have : a = c := (by omega); subst this; rfl)
theorem z57 {t t' : Tr ABlock} {id : Id} {b : Option ABlock} (h : t.sat id b = some t') (j : Id) : t'.at j = if j = id then b else t.at j := by
 unfold Tr.sat at h
 split at h <;> try (cases h; done)
 rename_i k hk
 have hp := Tr.put_get _ _ _ _ _ h
 unfold Tr.at
 by_cases hj : j = id
 ·subst hj
  rw [hk, if_pos rfl]
  simp only
  rw [hp, if_pos rfl]
 ·rw [if_neg hj]
  cases hx : hix j with
  | none => rfl
  | some k' =>
   simp only
   rw [hp, if_neg]
   rintro rfl
   exact hj (zm1 hx hk)
structure StR (H : AHeap) (n : Nat) (S : Sh) : Prop where
 n : n = S.n
 h : ∀ id, H.get id = S.t.at id
variable {H : AHeap} {n : Nat} {S S' : Sh}
theorem StR.new {b : ABlock} (h : StR H n S) (hs : S.new b = some S') : StR (((n, 0), b) :: H) (n + 1) S' := by
 unfold Sh.new at hs
 split at hs <;> simp only [Option.some.injEq, reduceCtorEq] at hs
 rename_i t ht
 subst hs
 refine ⟨by simp [h.n], fun id => ?_⟩
 simp only
 rw [z57 ht]
 by_cases hj : (n, 0) = id
 ·subst hj; rw [AHeap.get_cons_same, if_pos (by rw [h.n])]
 ·rw [AHeap.get_cons_other _ _ hj, if_neg (by rw [← h.n]; exact fun e => hj e.symm), h.h]
theorem StR.new2 {b c : ABlock} (h : StR H n S) (hs : S.new2 b c = some S') : StR (((n, 0), b) :: ((n, 1), c) :: H) (n + 1) S' := by
 unfold Sh.new2 at hs
 split at hs <;> try (cases hs; done)
 rename_i t ht
 split at hs <;> simp only [Option.some.injEq, reduceCtorEq] at hs
 rename_i t' ht'
 subst hs
 refine ⟨by simp [h.n], fun id => ?_⟩
 simp only
 rw [z57 ht', z57 ht, ← h.n]
 by_cases hj : (n, 0) = id
 ·subst hj; rw [AHeap.get_cons_same, if_neg (by simp), if_pos rfl]
 ·rw [AHeap.get_cons_other _ _ hj]
  by_cases hj1 : (n, 1) = id
  ·subst hj1; rw [AHeap.get_cons_same, if_pos rfl]
  ·rw [AHeap.get_cons_other _ _ hj1, if_neg (fun e => hj1 e.symm), if_neg (fun e => hj e.symm), h.h]
theorem StR.upd {id : Id} {b b0 : ABlock} (h : StR H n S) (h0 : S.t.at id = some b0) (hs : S.upd id b = some S') : StR (H.set id b) n S' := by
 unfold Sh.upd at hs
 split at hs <;> simp only [Option.some.injEq, reduceCtorEq] at hs
 rename_i t ht
 subst hs
 refine ⟨h.n, fun j => ?_⟩
 simp only
 rw [z57 ht, AHeap.get_set]
 by_cases hj : id = j
 ·subst hj; rw [if_pos rfl, if_pos rfl, h.h, h0]; rfl
 ·rw [if_neg hj, if_neg (fun e => hj e.symm), h.h]
theorem StR.cut {id : Id} (h : StR H n S) (hs : S.cut id = some S') : StR (H.del id) n S' := by
 unfold Sh.cut at hs
 split at hs <;> simp only [Option.some.injEq, reduceCtorEq] at hs
 rename_i t ht
 subst hs
 refine ⟨h.n, fun j => ?_⟩
 simp only
 rw [z57 ht, AHeap.get_del]
 by_cases hj : id = j
 ·subst hj; rw [if_pos rfl, if_pos rfl]
 ·rw [if_neg hj, if_neg (fun e => hj e.symm), h.h]
theorem Xw {a b : IntKind} : z0c a b = true ↔ a = b := by cases a <;> cases b <;> decide
theorem ku {a b : Int} : ile a b = true ↔ a ≤ b := by simp [ile]
theorem Vj {a b : Int} : ilt a b = true ↔ a < b := by simp [ilt]
theorem yw {a b : Nat} : Nat.beq a b = true ↔ a = b := ⟨Nat.eq_of_beq_eq_true, fun h => by subst h; exact Nat.beq_refl a⟩
theorem xw {a b : Nat} : Nat.ble a b = true ↔ a ≤ b := by rw [Nat.ble_eq]
theorem Y2 {p : Bool} {v y : AVal} (h : ck p v = some y) : p = true ∧ v = y := by
 unfold ck at h
 split at h <;> simp only [Option.some.injEq, reduceCtorEq] at h
 exact ⟨rfl, h⟩
def XOk (x : XR) (y : AVal) : Prop := ∃ s, x = .ok s y ∧ s
theorem XOk.of {x : XR} {s : Prop} {y : AVal} (h : x = .ok s y) (hs : s) : XOk x y := ⟨s, h, hs⟩
theorem XOk.and {x : XR} {p : Prop} {y : AVal} (h : XOk x y) (hp : p) : XOk (x.and p) y := by
 obtain ⟨s, rfl, hs⟩ := h
 exact ⟨p ∧ s, rfl, hp, hs⟩
theorem znf {op : BinOp} {a b y : AVal} (h : ztr op a b = some y) : XOk (zl7 op a b) y := by
 unfold ztr at h
 split at h
 ·unfold zl7
  cases op <;> simp only at h ⊢ <;> (obtain ⟨h1, rfl⟩ := Y2 h; refine ⟨_, rfl, ?_⟩) <;>
   simp only [Bool.and_eq_true, Xw, ku, Bool.not_eq_true', decide_eq_false_iff_not] at h1 <;> exact h1
 ·unfold zl7
  cases op <;> first
   | (cases h; done)
   | (obtain ⟨h1, rfl⟩ := Y2 h; exact ⟨_, rfl, ku.1 h1⟩)
   | (simp only [Option.some.injEq] at h; subst h; exact ⟨_, rfl, trivial⟩)
 ·cases h
theorem zpo {op : UnOp} {a y : AVal} (h : bun op a = some y) : XOk (xun op a) y := by
 unfold bun at h
 split at h
 ·unfold xun
  split at h <;> simp only [Option.some.injEq, reduceCtorEq] at h
  subst h; exact ⟨_, rfl, trivial⟩
 ·unfold xun
  split at h <;> simp only [Option.some.injEq, reduceCtorEq] at h <;> (subst h; exact ⟨_, rfl, trivial⟩)
 ·cases h
theorem zb1 {k : CK} {x y : AVal} {b : Bool} (h : z67 k x y = some b) : Ze k x y = some b := by
 unfold z67 at h
 split at h
 ·split at h <;> simp only [Option.some.injEq, reduceCtorEq] at h
  rename_i hk
  subst h
  simp [Ze, Xw.1 hk]
 ·simpa [Ze] using h
 ·simpa [Ze] using h
 ·cases h
theorem Z9 : ∀ {ks : List CK} {xs ys : List AVal} {b : Bool}, ul ks xs ys = some b → yb ks xs ys = some b
 | [], [], [], b, h => by simpa [ul, yb] using h
 | k :: ks, x :: xs, y :: ys, b, h => by
  unfold ul at h
  split at h <;> try (cases h; done)
  rename_i a ha
  split at h <;> try (cases h; done)
  rename_i c hc
  unfold yb
  rw [zb1 ha, Z9 hc]
  exact h
 | [], [], _ :: _, _, h => by cases h
 | [], _ :: _, _, _, h => by cases h
 | _ :: _, [], _, _, h => by cases h
 | _ :: _, _ :: _, [], _, h => by cases h
theorem ziw {x y : AVal} {b : Bool} (h : znw x y = some b) : XOk (W5 x y) (.bool b) := by
 unfold znw at h
 split at h
 ·simp only [Option.some.injEq] at h; subst h; exact ⟨_, rfl, trivial⟩
 ·rename_i len _
  cases hz : Nat.beq len 0 <;> rw [hz] at h <;> simp only [Option.some.injEq, reduceCtorEq] at h
  subst h; exact ⟨_, rfl, Nat.ne_of_beq_eq_false hz⟩
 ·rename_i len _
  cases hz : Nat.beq len 0 <;> rw [hz] at h <;> simp only [Option.some.injEq, reduceCtorEq] at h
  subst h; exact ⟨_, rfl, Nat.ne_of_beq_eq_false hz⟩
 ·rename_i es _
  cases es <;> simp only [Option.some.injEq, reduceCtorEq] at h
  subst h; exact ⟨_, rfl, by simp⟩
 ·rename_i es _
  cases es <;> simp only [Option.some.injEq, reduceCtorEq] at h
  subst h; exact ⟨_, rfl, by simp⟩
 ·cases h
theorem znx {k : EqK} {x y : AVal} {b : Bool} (h : zsq k x y = some b) : XOk (zjm k x y) (.bool b) := by
 unfold zsq at h
 unfold zjm
 split at h
 ·split at h <;> simp only [Option.some.injEq, reduceCtorEq] at h
  subst h; exact ⟨_, rfl, trivial⟩
 ·simp only
  unfold zlt at h
  split at h <;> simp only [Option.some.injEq, reduceCtorEq] at h <;> (subst h; exact ⟨_, rfl, trivial⟩)
 ·simp only
  exact ziw h
 ·simp only
  unfold zlp at h
  split at h <;> simp only [Option.some.injEq, reduceCtorEq] at h <;> (subst h; exact ⟨_, rfl, trivial⟩)
 ·simp only
  split at h <;> try (cases h; done)
  simp only [zh7, Z9 h]
  exact ⟨_, rfl, trivial⟩
 ·cases h
theorem zo3 {neg : Bool} {k : EqK} {x y z : AVal} (h : zst neg k x y = some z) : XOk (xeq neg k x y) z := by
 unfold zst at h
 split at h <;> simp only [Option.some.injEq, reduceCtorEq] at h
 rename_i b hb
 obtain ⟨s, h1, h2⟩ := znx hb
 unfold xeq
 subst h
 cases neg with
 | true => simp only [if_true, h1, XR.neg]; exact ⟨_, rfl, h2⟩
 | false => simp only [Bool.false_eq_true, if_false, h1]; exact ⟨_, rfl, h2⟩
theorem z9z {ag : Bool} {m : Nat} {x y : AVal} (h : zk7 ag m H.get x = some y) : XOk (z2g ag m H x) y := by
 unfold zk7 at h
 unfold z2g
 split at h
 ·obtain ⟨h1, rfl⟩ := Y2 h
  simp only [Bool.and_eq_true, xw] at h1
  exact ⟨_, rfl, h1⟩
 ·rename_i b i off
  simp only
  split at h <;> try (cases h; done)
  ·rename_i hg
   obtain ⟨h1, rfl⟩ := Y2 h
   simp only [Bool.and_eq_true, xw] at h1
   rw [hg]
   exact ⟨_, rfl, h1⟩
  ·rename_i hg
   obtain ⟨h1, rfl⟩ := Y2 h
   simp only [Bool.and_eq_true, xw, yw] at h1
   rw [hg]
   exact ⟨_, rfl, h1⟩
 ·cases h
theorem zf2 {off : Nat} {x y : AVal} (h : zf5 off x = some y) : XOk (z11 off x) y := by
 unfold zf5 at h
 split at h <;> simp only [Option.some.injEq, reduceCtorEq] at h <;> (subst h; exact ⟨_, rfl, trivial⟩)
theorem zdc {ag : Bool} {m off : Nat} {x y : AVal} (h : zgm ag m off x = some y) : XOk (Ur ag m off x) y := by
 unfold zgm at h
 split at h <;> try (cases h; done)
 obtain ⟨h1, rfl⟩ := Y2 h
 exact ⟨_, rfl, xw.1 h1⟩
theorem zcv {s : Nat} {x i y : AVal} (h : zg1 s x i = some y) : XOk (z0i s x i) y := by
 unfold zg1 at h
 split at h <;> try (cases h; done)
 all_goals
  obtain ⟨h1, rfl⟩ := Y2 h
  simp only [Bool.and_eq_true, yw, ku, Vj, and_assoc] at h1
  exact ⟨_, rfl, h1⟩
theorem zak {len s : Nat} {x i y : AVal} (h : z7e len s x i = some y) : XOk (Kw len s x i) y := by
 unfold z7e at h
 split at h <;> try (cases h; done)
 all_goals
  obtain ⟨h1, rfl⟩ := Y2 h
  simp only [Bool.and_eq_true, ku, Vj] at h1
  exact ⟨_, rfl, h1⟩
theorem zax {len s : Nat} {x i y : AVal} (h : z61 len s H.get x i = some y) : XOk (Xn len s H x i) y := by
 unfold z61 at h
 split at h <;> try (cases h; done)
 split at h <;> try (cases h; done)
 rename_i hg
 obtain ⟨h1, rfl⟩ := Y2 h
 simp only [Bool.and_eq_true, yw, ku, Vj, and_assoc] at h1
 simp only [Xn, hg]
 exact ⟨_, rfl, h1⟩
theorem zk6 {len s : Nat} {x y : AVal} (h : zp5 len s H.get x = some y) : XOk (zbi len s H x) y := by
 unfold zp5 at h
 split at h <;> try (cases h; done)
 split at h <;> try (cases h; done)
 rename_i hg
 obtain ⟨h1, rfl⟩ := Y2 h
 simp only [Bool.and_eq_true, yw, xw] at h1
 simp only [zbi, hg]
 exact ⟨_, rfl, h1⟩
theorem zje {x i y : AVal} (h : zp3 x i = some y) : XOk (ze3 x i) y := by
 unfold zp3 at h
 split at h <;> try (cases h; done)
 obtain ⟨h1, rfl⟩ := Y2 h
 simp only [Bool.and_eq_true, ku, Vj] at h1
 exact ⟨_, rfl, h1⟩
theorem zic {len s : Nat} {ag : Bool} {x i y : AVal} (h : zmn len s ag x i = some y) : XOk (ze4 len s ag x i) y := by
 unfold zmn at h
 split at h <;> try (cases h; done)
 obtain ⟨h1, rfl⟩ := Y2 h
 simp only [Bool.and_eq_true, ku, Vj, xw, and_assoc] at h1
 exact ⟨_, rfl, h1⟩
theorem zoi {k : Nat} {x y : AVal} (h : zsw k x = some y) : XOk (zpd k x) y := by
 unfold zsw at h
 split at h <;> try (cases h; done)
 obtain ⟨h1, rfl⟩ := Y2 h
 exact ⟨_, rfl, xw.1 h1⟩
theorem zip {x y : AVal} (h : zn6 x = some y) : XOk (zb0 x) y := by
 unfold zn6 at h
 split at h <;> simp only [Option.some.injEq, reduceCtorEq] at h
 subst h; exact ⟨_, rfl, trivial⟩
theorem zjh {x y : AVal} (h : zok x = some y) : XOk (zao x) y := by
 unfold zok at h
 split at h <;> simp only [Option.some.injEq, reduceCtorEq] at h <;> (subst h; exact ⟨_, rfl, trivial⟩)
theorem zcr {x y : AVal} (h : zho x = some y) : XOk (z0p x) y := by
 unfold zho at h
 split at h <;> simp only [Option.some.injEq, reduceCtorEq] at h <;> (subst h; exact ⟨_, rfl, trivial⟩)
variable {e : Env}
theorem zn {x : LOpd} {v : AVal} (h : kg e.get x = some v) : x.ev e = v ∧ x.need e := by
 cases x with
 | c u => simp only [kg, Option.some.injEq] at h; exact ⟨h, trivial⟩
 | t i =>
  simp only [kg] at h
  show (e.get i).strip = v ∧ (e.get i).need
  split at h
  ·rename_i u hu
   simp only [Option.some.injEq] at h
   rw [hu]
   exact ⟨h, rfl⟩
  ·cases h
  ·rename_i h1 h2
   simp only [Option.some.injEq] at h
   cases hg : e.get i with
   | cnd p u =>
    cases p with
    | true => exact absurd hg (h1 u)
    | false => exact absurd hg (h2 u)
   | _ => rw [hg] at h; subst h; exact ⟨rfl, trivial⟩
theorem Qo : ∀ {xs : List LOpd} {vs : List AVal}, z1s e.get xs = some vs → evs e xs = vs ∧ Qq e xs
 | [], vs, h => by simp only [z1s, Option.some.injEq] at h; exact ⟨h, trivial⟩
 | x :: xs, vs, h => by
  unfold z1s at h
  split at h <;> try (cases h; done)
  rename_i a ha
  split at h <;> simp only [Option.some.injEq, reduceCtorEq] at h
  rename_i l hl
  obtain ⟨h1, h2⟩ := zn ha
  obtain ⟨h3, h4⟩ := Qo hl
  exact ⟨by unfold evs; rw [h1, h3]; exact h, h2, h4⟩
theorem vn {d : Nat} {o : Option LOpd} {j : Int} (h : Y3 e.get d o = some j) : xj e d o = some j ∧ ug e o := by
 cases o with
 | none => simp only [Y3, Option.some.injEq] at h; exact ⟨by simp [xj, h], trivial⟩
 | some x =>
  simp only [Y3] at h
  split at h <;> simp only [Option.some.injEq, reduceCtorEq] at h
  rename_i k z hx
  obtain ⟨h1, h2⟩ := zn hx
  subst h
  exact ⟨by simp only [xj, h1], h2⟩
theorem zgt {lo hi : Option LOpd} {x y : AVal} (h : zft e.get lo hi x = some y) : XOk (z0x (fun d => xj e d lo) (fun d => xj e d hi) x) y ∧ ug e lo ∧ ug e hi := by
 unfold zft at h
 split at h <;> try (cases h; done)
 split at h <;> try (cases h; done)
 rename_i a b ha hb
 obtain ⟨h1, rfl⟩ := Y2 h
 obtain ⟨ha1, ha2⟩ := vn ha
 obtain ⟨hb1, hb2⟩ := vn hb
 simp only [Bool.and_eq_true, ku, and_assoc] at h1
 refine ⟨?_, ha2, hb2⟩
 simp only [z0x, ha1, hb1]
 exact ⟨_, rfl, h1⟩
theorem zjn {s : Nat} {lo hi mx : Option LOpd} {x y : AVal} (h : znl e.get s lo hi mx x = some y) (kp : Bool) : XOk (zbr s (fun d => xj e d lo) (fun d => xj e d hi) (Ui e mx) kp x) y ∧ ug e lo ∧ ug e hi ∧ ug e mx := by
 unfold znl at h
 split at h
 ·split at h <;> try (cases h; done)
  rename_i a b ha hb
  obtain ⟨ha1, ha2⟩ := vn ha
  obtain ⟨hb1, hb2⟩ := vn hb
  split at h
  ·obtain ⟨h1, rfl⟩ := Y2 h
   simp only [Bool.and_eq_true, yw, ku, and_assoc] at h1
   refine ⟨?_, ha2, hb2, trivial⟩
   simp only [zbr, z29, ha1, hb1, Ui]
   exact ⟨_, rfl, h1⟩
  ·split at h <;> try (cases h; done)
   rename_i z hz
   obtain ⟨hz1, hz2⟩ := vn hz
   obtain ⟨h1, rfl⟩ := Y2 h
   simp only [Bool.and_eq_true, yw, ku, and_assoc] at h1
   refine ⟨?_, ha2, hb2, hz2⟩
   simp only [zbr, z29, ha1, hb1, Ui, hz1]
   exact ⟨_, rfl, h1⟩
 ·split at h <;> try (cases h; done)
  rename_i a b ha hb
  obtain ⟨ha1, ha2⟩ := vn ha
  obtain ⟨hb1, hb2⟩ := vn hb
  split at h
  ·obtain ⟨h1, rfl⟩ := Y2 h
   simp only [Bool.and_eq_true, yw, ku, and_assoc] at h1
   refine ⟨?_, ha2, hb2, trivial⟩
   simp only [zbr, z29, ha1, hb1, Ui]
   exact ⟨_, rfl, h1⟩
  ·split at h <;> try (cases h; done)
   rename_i z hz
   obtain ⟨hz1, hz2⟩ := vn hz
   obtain ⟨h1, rfl⟩ := Y2 h
   simp only [Bool.and_eq_true, yw, ku, and_assoc] at h1
   refine ⟨?_, ha2, hb2, hz2⟩
   simp only [zbr, z29, ha1, hb1, Ui, hz1]
   exact ⟨_, rfl, h1⟩
 ·split at h <;> try (cases h; done)
  rename_i a b ha hb
  obtain ⟨ha1, ha2⟩ := vn ha
  obtain ⟨hb1, hb2⟩ := vn hb
  obtain ⟨h1, rfl⟩ := Y2 h
  simp only [Bool.and_eq_true, decide_eq_true_eq] at h1
  refine ⟨?_, ha2, hb2, trivial⟩
  simp only [zbr, z29, ha1, hb1, Ui]
  exact ⟨_, rfl, h1⟩
 ·cases h
theorem z4u : ∀ {ps : List (Nat × Nat × AVal)} {cells : List AVal} {y : AVal}, z2z cells ps = some y → XOk (Zn cells ps) y
 | [], cells, y, h => by simp only [z2z, Option.some.injEq] at h; subst h; exact ⟨_, rfl, trivial⟩
 | (off, m, x) :: r, cells, y, h => by
  unfold z2z at h
  split at h <;> try (cases h; done)
  rename_i cs hc
  split at h <;> try (cases h; done)
  rename_i hb
  simp only [Bool.and_eq_true, yw, xw] at hb
  obtain ⟨s, h1, h2⟩ := z4u h
  simp only [Zn, hc, h1]
  exact ⟨_, rfl, hb.1, hb.2, h2⟩
theorem z43 : ∀ {ps : List (Nat × Nat × LOpd)} {l : List (Nat × Nat × AVal)}, z31 e.get ps = some l → wm e ps = l ∧ jy e ps
 | [], l, h => by simp only [z31, Option.some.injEq] at h; exact ⟨h, trivial⟩
 | (o, m, x) :: r, l, h => by
  unfold z31 at h
  split at h <;> try (cases h; done)
  rename_i a ha
  split at h <;> simp only [Option.some.injEq, reduceCtorEq] at h
  rename_i l' hl
  obtain ⟨h1, h2⟩ := zn ha
  obtain ⟨h3, h4⟩ := z43 hl
  exact ⟨by unfold wm; rw [h1, h3]; exact h, h2, h4⟩
theorem zes {mx : Bool} : ∀ {l : List AVal} {v y : AVal}, zn9 mx v l = some y → XOk (zgx mx v l) y
 | [], v, y, h => by
  cases v <;> simp only [zn9, Option.some.injEq] at h <;> (subst h; exact ⟨_, rfl, trivial⟩)
 | x :: r, v, y, h => by
  cases v <;> try (simp [zn9] at h; done)
  cases x <;> try (simp [zn9] at h; done)
  simp only [zn9] at h
  split at h <;> try (cases h; done)
  rename_i hk
  obtain ⟨s, h1, h2⟩ := zes h
  simp only [zgx, h1]
  exact ⟨_, rfl, Xw.1 hk, h2⟩
theorem zj3 {mx : Bool} {l : List AVal} {y : AVal} (h : zo5 mx l = some y) : XOk (zdd mx l) y := by
 unfold zo5 at h
 split at h <;> try (cases h; done)
 exact zes h
theorem J5 {ks : List CK} {ka : Bool} {k : AVal} (h : Us ks ka k = true) : Q1 ks ka k = true := by
 unfold Us at h
 unfold Q1
 simp only [Bool.and_eq_true] at h ⊢
 refine ⟨h.1, ?_⟩
 cases hc : ul ks (qt k) (qt k) with
 | none => rw [hc] at h; cases h.2
 | some b => rw [Z9 hc]; rfl
theorem Y9 {ks : List CK} {k k' : AVal} {b : Bool} (h : z4p ks k k' = some b) : Q8 ks k k' = some b := by
 unfold z4p at h
 unfold Q8
 split at h <;> try (cases h; done)
 ·rename_i h1 h2; rw [h1, h2]; exact Z9 h
 ·rename_i h1 h2; rw [h1, h2]; exact Z9 h
theorem z3n {ks : List CK} {k : AVal} : ∀ {es : List (AVal × AVal)} {r : Option AVal}, z8g ks k es = some r → Xs ks k es = some r
 | [], r, h => h
 | (k', x) :: es, r, h => by
  unfold z8g at h
  unfold Xs
  split at h <;> try (cases h; done)
  ·rename_i hk; rw [Y9 hk]; exact h
  ·rename_i hk; rw [Y9 hk]; exact z3n h
theorem z9i {ks : List CK} {k x : AVal} : ∀ {es r : List (AVal × AVal)}, zjq ks k x es = some r → zf3 ks k x es = some r
 | [], r, h => h
 | (k', y) :: es, r, h => by
  unfold zjq at h
  unfold zf3
  split at h <;> try (cases h; done)
  ·rename_i hk; rw [Y9 hk]; exact h
  ·rename_i hk
   rw [Y9 hk]
   split at h <;> simp only [Option.some.injEq, reduceCtorEq] at h
   rename_i l hl
   subst h
   simp only [z9i hl, Option.map_some]
theorem z4g {ks : List CK} {k : AVal} : ∀ {es r : List (AVal × AVal)}, z9s ks k es = some r → z1j ks k es = some r
 | [], r, h => h
 | (k', y) :: es, r, h => by
  unfold z9s at h
  unfold z1j
  split at h <;> try (cases h; done)
  ·rename_i hk; rw [Y9 hk]; exact h
  ·rename_i hk
   rw [Y9 hk]
   split at h <;> simp only [Option.some.injEq, reduceCtorEq] at h
   rename_i l hl
   subst h
   simp only [z4g hl, Option.map_some]
theorem zej {ks : List CK} {ka ag ok : Bool} {zs : List AVal} {k x y : AVal} (h : zf8 ks ka ag ok zs H.get k x = some y) : XOk (Ws ks ka ag ok zs H k x) y := by
 unfold zf8 at h
 split at h
 ·obtain ⟨h1, rfl⟩ := Y2 h
  simp only [Ws, J5 h1, if_true]
  exact ⟨_, rfl, trivial⟩
 ·split at h <;> try (cases h; done)
  rename_i hg
  split at h <;> try (cases h; done)
  rename_i hk
  split at h <;> simp only [Option.some.injEq, reduceCtorEq] at h
  rename_i r hr
  subst h
  simp only [Ws, hg, J5 hk, if_true, z3n hr]
  exact ⟨_, rfl, rfl⟩
 ·cases h
theorem zjj {x y : AVal} (h : zp6 H.get x = some y) : XOk (z6w H x) y := by
 unfold zp6 at h
 split at h
 ·simp only [Option.some.injEq] at h; subst h; exact ⟨_, rfl, trivial⟩
 ·split at h <;> simp only [Option.some.injEq, reduceCtorEq] at h
  rename_i hg
  subst h
  simp only [z6w, hg]
  exact ⟨_, rfl, trivial⟩
 ·cases h
theorem vo {α γ : Type} {x : Option α} {f : α → Option γ} {o : γ} (h : x.bind f = some o) : ∃ r, x = some r ∧ f r = some o := by
 cases x with
 | none => cases h
 | some r => exact ⟨r, rfl, h⟩
theorem V2 {op : LOp} {v : AVal} (h : zjc e.get H.get op = some v) : XOk (jb e H op) v := by
 cases op <;> simp only [zjc, reduceCtorEq] at h <;> simp only [jb]
 case mv x => obtain ⟨h1, h2⟩ := zn h; rw [h1]; exact ⟨_, rfl, h2⟩
 case pick c a b =>
  split at h <;> try (cases h; done)
  ·rename_i hc
   obtain ⟨c1, c2⟩ := zn hc
   obtain ⟨a1, a2⟩ := zn h
   rw [c1]
   subst a1; exact XOk.and (XOk.of rfl ⟨fun _ => a2, fun h => by cases h⟩) c2
  ·rename_i hc
   obtain ⟨c1, c2⟩ := zn hc
   obtain ⟨a1, a2⟩ := zn h
   rw [c1]
   subst a1; exact XOk.and (XOk.of rfl ⟨fun h => (by cases h), fun _ => a2⟩) c2
 case build zs parts =>
  obtain ⟨ps, h1, h2⟩ := vo h
  obtain ⟨p1, p2⟩ := z43 h1
  rw [p1]
  exact (z4u h2).and p2
 case load ag m a => obtain ⟨x, h1, h2⟩ := vo h; obtain ⟨p1, p2⟩ := zn h1; rw [p1]; exact (z9z h2).and p2
 case nilck a => obtain ⟨x, h1, h2⟩ := vo h; obtain ⟨p1, p2⟩ := zn h1; rw [p1]; exact (zcr h2).and p2
 case bin op x y => obtain ⟨a, h1, h2⟩ := vo h; obtain ⟨b, h3, h4⟩ := vo h2; obtain ⟨p1, p2⟩ := zn h1; obtain ⟨q1, q2⟩ := zn h3; rw [p1, q1]; exact (znf h4).and ⟨p2, q2⟩
 case eq neg k x y => obtain ⟨a, h1, h2⟩ := vo h; obtain ⟨b, h3, h4⟩ := vo h2; obtain ⟨p1, p2⟩ := zn h1; obtain ⟨q1, q2⟩ := zn h3; rw [p1, q1]; exact (zo3 h4).and ⟨p2, q2⟩
 case un op x => obtain ⟨a, h1, h2⟩ := vo h; obtain ⟨p1, p2⟩ := zn h1; rw [p1]; exact (zpo h2).and p2
 case conv k x =>
  cases k with
  | int k =>
   simp only at h ⊢
   split at h <;> simp only [Option.some.injEq, reduceCtorEq] at h
   rename_i hx
   obtain ⟨p1, p2⟩ := zn hx
   subst h
   simp only [p1]
   exact ⟨_, rfl, p2⟩
  | same =>
   simp only at h ⊢
   split at h <;> simp only [Option.some.injEq, reduceCtorEq] at h
   rename_i hx
   obtain ⟨p1, p2⟩ := zn hx
   subst h
   simp only [p1]
   exact ⟨_, rfl, p2⟩
  | s2b vm => cases h
  | b2s => cases h
 case mkfn f a c =>
  obtain ⟨as, h1, h2⟩ := vo h
  obtain ⟨cs, h3, h4⟩ := vo h2
  obtain ⟨p1, p2⟩ := Qo h1
  obtain ⟨q1, q2⟩ := Qo h3
  simp only [Option.some.injEq] at h4
  subst h4
  rw [p1, q1]
  exact ⟨_, rfl, p2, q2⟩
 case slStr x lo hi => obtain ⟨a, h1, h2⟩ := vo h; obtain ⟨p1, p2⟩ := zn h1; obtain ⟨q1, q2⟩ := zgt h2; rw [p1]; exact q1.and ⟨p2, q2⟩
 case slSl s x lo hi mx => obtain ⟨a, h1, h2⟩ := vo h; obtain ⟨p1, p2⟩ := zn h1; obtain ⟨q1, q2⟩ := zjn h2 (hi.isNone && mx.isNone); rw [p1]; exact q1.and ⟨p2, q2⟩
 case slAr m s x => obtain ⟨a, h1, h2⟩ := vo h; obtain ⟨p1, p2⟩ := zn h1; rw [p1]; exact (zk6 h2).and p2
 case faddr off x => obtain ⟨a, h1, h2⟩ := vo h; obtain ⟨p1, p2⟩ := zn h1; rw [p1]; exact (zf2 h2).and p2
 case field ag m off x => obtain ⟨a, h1, h2⟩ := vo h; obtain ⟨p1, p2⟩ := zn h1; rw [p1]; exact (zdc h2).and p2
 case iaddr s x i => obtain ⟨a, h1, h2⟩ := vo h; obtain ⟨b, h3, h4⟩ := vo h2; obtain ⟨p1, p2⟩ := zn h1; obtain ⟨q1, q2⟩ := zn h3; rw [p1, q1]; exact (zcv h4).and ⟨p2, q2⟩
 case iaddrA m s x i => obtain ⟨a, h1, h2⟩ := vo h; obtain ⟨b, h3, h4⟩ := vo h2; obtain ⟨p1, p2⟩ := zn h1; obtain ⟨q1, q2⟩ := zn h3; rw [p1, q1]; exact (zak h4).and ⟨p2, q2⟩
 case iaddrR m s x i => obtain ⟨a, h1, h2⟩ := vo h; obtain ⟨b, h3, h4⟩ := vo h2; obtain ⟨p1, p2⟩ := zn h1; obtain ⟨q1, q2⟩ := zn h3; rw [p1, q1]; exact (zax h4).and ⟨p2, q2⟩
 case idxS x i => obtain ⟨a, h1, h2⟩ := vo h; obtain ⟨b, h3, h4⟩ := vo h2; obtain ⟨p1, p2⟩ := zn h1; obtain ⟨q1, q2⟩ := zn h3; rw [p1, q1]; exact (zje h4).and ⟨p2, q2⟩
 case idxA m s ag x i => obtain ⟨a, h1, h2⟩ := vo h; obtain ⟨b, h3, h4⟩ := vo h2; obtain ⟨p1, p2⟩ := zn h1; obtain ⟨q1, q2⟩ := zn h3; rw [p1, q1]; exact (zic h4).and ⟨p2, q2⟩
 case ext k x => obtain ⟨a, h1, h2⟩ := vo h; obtain ⟨p1, p2⟩ := zn h1; rw [p1]; exact (zoi h2).and p2
 case len st x =>
  cases st with
  | true => simp only at h ⊢; obtain ⟨a, h1, h2⟩ := vo h; obtain ⟨p1, p2⟩ := zn h1; rw [p1]; exact (zip h2).and p2
  | false => simp only at h ⊢; obtain ⟨a, h1, h2⟩ := vo h; obtain ⟨p1, p2⟩ := zn h1; rw [p1]; exact (zjh h2).and p2
 case mnx m args => obtain ⟨a, h1, h2⟩ := vo h; obtain ⟨p1, p2⟩ := Qo h1; rw [p1]; exact (zj3 h2).and p2
 case mlook ks ka ag ok zs x k => obtain ⟨a, h1, h2⟩ := vo h; obtain ⟨b, h3, h4⟩ := vo h2; obtain ⟨p1, p2⟩ := zn h1; obtain ⟨q1, q2⟩ := zn h3; rw [p1, q1]; exact (zej h4).and ⟨p2, q2⟩
 case mlen x => obtain ⟨a, h1, h2⟩ := vo h; obtain ⟨p1, p2⟩ := zn h1; rw [p1]; exact (zjj h2).and p2
end Go.Fx
