/-
  Own framework.
-/
import Derived.Test.YtlenhplodggefaaFxEv
import Derived.Test.YtlenhplodggefaaFxZ
namespace Go.Fx
set_option linter.unusedVariables false

namespace Tr
variable {α : Type}
theorem get_nd (v : Option α) (l r : Tr α) (j : Nat) : (Tr.nd v l r).get j = if j = 0 then v else if j % 2 = 1 then l.get (j / 2) else r.get (j / 2 - 1) := by
  show (match Nat.beq j 0 with
    | true => v
    | false => match Nat.beq (j % 2) 1 with
      | true => get l (j / 2)
      | false => get r (j / 2 - 1)) = _
  by_cases h : j = 0
  · subst h; rfl
  · rw [if_neg h]
    have h0 : Nat.beq j 0 = false := Bool.eq_false_iff.2 fun h' => h (Nat.eq_of_beq_eq_true h')
    rw [h0]
    simp only
    by_cases h1 : j % 2 = 1
    · rw [if_pos h1, h1]
    · rw [if_neg h1]
      have : j % 2 = 0 := by omega
      rw [this]
theorem put_get : ∀ (d : Nat) (t : Tr α) (k : Nat) (x : Option α) (t' : Tr α), put d t k x = some t' → ∀ j, t'.get j = if j = k then x else t.get j
  | 0, _, _, _, _, h => by simp [put] at h
  | d + 1, t, k, x, t', h => by
    have key : ∀ (v : Option α) (l r : Tr α), (match Nat.beq k 0 with
        | true => some (Tr.nd x l r)
        | false => match Nat.beq (k % 2) 1 with
          | true => match put d l (k / 2) x with | some l => some (.nd v l r) | none => none
          | false => match put d r (k / 2 - 1) x with | some r => some (.nd v l r) | none => none) = some t' → ∀ j, t'.get j = if j = k then x else (Tr.nd v l r).get j := by
      intro v l r h j
      split at h
      · rename_i hk
        have hk := Nat.eq_of_beq_eq_true hk
        simp only [Option.some.injEq] at h
        subst h hk
        rw [get_nd, get_nd]
        by_cases hj : j = 0
        · rw [if_pos hj, if_pos hj]
        · rw [if_neg hj, if_neg hj, if_neg hj]
      · rename_i hk
        have hk := Nat.ne_of_beq_eq_false hk
        split at h
        · rename_i hk1
          have hk1 := Nat.eq_of_beq_eq_true hk1
          split at h <;> simp only [Option.some.injEq, reduceCtorEq] at h
          rename_i l' hl
          subst h
          have ih := put_get d l (k / 2) x l' hl
          rw [get_nd, get_nd, ih]
          by_cases hj : j = k
          · subst hj; rw [if_neg hk, if_pos hk1, if_pos rfl, if_pos rfl]
          · rw [if_neg hj]
            by_cases h0 : j = 0
            · rw [if_pos h0, if_pos h0]
            · rw [if_neg h0, if_neg h0]
              by_cases h1 : j % 2 = 1
              · rw [if_pos h1, if_pos h1, if_neg (by omega)]
              · rw [if_neg h1, if_neg h1]
        · rename_i hk1
          have hk1 := Nat.ne_of_beq_eq_false hk1
          split at h <;> simp only [Option.some.injEq, reduceCtorEq] at h
          rename_i r' hr
          subst h
          have ih := put_get d r (k / 2 - 1) x r' hr
          rw [get_nd, get_nd, ih]
          by_cases hj : j = k
          · subst hj; rw [if_neg hk, if_neg hk1, if_pos rfl, if_pos rfl]
          · rw [if_neg hj]
            by_cases h0 : j = 0
            · rw [if_pos h0, if_pos h0]
            · rw [if_neg h0, if_neg h0]
              by_cases h1 : j % 2 = 1
              · rw [if_pos h1, if_pos h1]
              · rw [if_neg h1, if_neg h1, if_neg (by omega)]
    cases t with
    | nil =>
      intro j
      have hn : (Tr.nil : Tr α).get j = (Tr.nd none .nil .nil).get j := by rw [get_nd]; simp [get]
      rw [hn]
      exact key none .nil .nil (by unfold put at h; exact h) j
    | nd v l r => exact key v l r (by unfold put at h; exact h)
end Tr

theorem hix_inj {i j : Id} {k : Nat} (hi : hix i = some k) (hj : hix j = some k) : i = j := by
  obtain ⟨a, b⟩ := i
  obtain ⟨c, d⟩ := j
  unfold hix at hi hj
  simp only at hi hj
  split at hi <;> split at hj <;> simp only [Option.some.injEq, reduceCtorEq] at hi hj
  all_goals first | (exfalso; omega) | (have : a = c := by omega
                                        subst this; rfl)
theorem sat_at {t t' : Tr ABlock} {id : Id} {b : Option ABlock} (h : t.sat id b = some t') (j : Id) : t'.at j = if j = id then b else t.at j := by
  unfold Tr.sat at h
  split at h <;> try (cases h; done)
  rename_i k hk
  have hp := Tr.put_get _ _ _ _ _ h
  unfold Tr.at
  by_cases hj : j = id
  · subst hj
    rw [hk, if_pos rfl]
    simp only
    rw [hp, if_pos rfl]
  · rw [if_neg hj]
    cases hx : hix j with
    | none => rfl
    | some k' =>
      simp only
      rw [hp, if_neg]
      rintro rfl
      exact hj (hix_inj hx hk)

structure StR (H : AHeap) (n : Nat) (S : Sh) : Prop where
  n : n = S.n
  h : ∀ id, H.get id = S.t.at id
variable {H : AHeap} {n : Nat} {S S' : Sh}
theorem StR.new {b : ABlock} (h : StR H n S) (hs : S.new b = some S') : StR (((n, 0), b) :: H) (n + 1) S' := by
  unfold Sh.new at hs
  split at hs <;> simp only [Option.some.injEq, reduceCtorEq] at hs
  rename_i t ht
  subst hs
  refine ⟨by simp [h.n], fun id => ?_⟩
  simp only
  rw [sat_at ht]
  by_cases hj : (n, 0) = id
  · subst hj; rw [AHeap.get_cons_same, if_pos (by rw [h.n])]
  · rw [AHeap.get_cons_other _ _ hj, if_neg (by rw [← h.n]; exact fun e => hj e.symm), h.h]
theorem StR.new2 {b c : ABlock} (h : StR H n S) (hs : S.new2 b c = some S') : StR (((n, 0), b) :: ((n, 1), c) :: H) (n + 1) S' := by
  unfold Sh.new2 at hs
  split at hs <;> try (cases hs; done)
  rename_i t ht
  split at hs <;> simp only [Option.some.injEq, reduceCtorEq] at hs
  rename_i t' ht'
  subst hs
  refine ⟨by simp [h.n], fun id => ?_⟩
  simp only
  rw [sat_at ht', sat_at ht, ← h.n]
  by_cases hj : (n, 0) = id
  · subst hj; rw [AHeap.get_cons_same, if_neg (by simp), if_pos rfl]
  · rw [AHeap.get_cons_other _ _ hj]
    by_cases hj1 : (n, 1) = id
    · subst hj1; rw [AHeap.get_cons_same, if_pos rfl]
    · rw [AHeap.get_cons_other _ _ hj1, if_neg (fun e => hj1 e.symm), if_neg (fun e => hj e.symm), h.h]
theorem StR.upd {id : Id} {b b0 : ABlock} (h : StR H n S) (h0 : S.t.at id = some b0) (hs : S.upd id b = some S') : StR (H.set id b) n S' := by
  unfold Sh.upd at hs
  split at hs <;> simp only [Option.some.injEq, reduceCtorEq] at hs
  rename_i t ht
  subst hs
  refine ⟨h.n, fun j => ?_⟩
  simp only
  rw [sat_at ht, AHeap.get_set]
  by_cases hj : id = j
  · subst hj; rw [if_pos rfl, if_pos rfl, h.h, h0]; rfl
  · rw [if_neg hj, if_neg (fun e => hj e.symm), h.h]
theorem StR.cut {id : Id} (h : StR H n S) (hs : S.cut id = some S') : StR (H.del id) n S' := by
  unfold Sh.cut at hs
  split at hs <;> simp only [Option.some.injEq, reduceCtorEq] at hs
  rename_i t ht
  subst hs
  refine ⟨h.n, fun j => ?_⟩
  simp only
  rw [sat_at ht, AHeap.get_del]
  by_cases hj : id = j
  · subst hj; rw [if_pos rfl, if_pos rfl]
  · rw [if_neg hj, if_neg (fun e => hj e.symm), h.h]

theorem ikEq_iff {a b : IntKind} : ikEq a b = true ↔ a = b := by cases a <;> cases b <;> decide
theorem ile_iff {a b : Int} : ile a b = true ↔ a ≤ b := by simp [ile]
theorem ilt_iff {a b : Int} : ilt a b = true ↔ a < b := by simp [ilt]
theorem nbeq_iff {a b : Nat} : Nat.beq a b = true ↔ a = b := ⟨Nat.eq_of_beq_eq_true, fun h => by subst h; exact Nat.beq_refl a⟩
theorem nble_iff {a b : Nat} : Nat.ble a b = true ↔ a ≤ b := by rw [Nat.ble_eq]
theorem ck_ok {p : Bool} {v y : AVal} (h : ck p v = some y) : p = true ∧ v = y := by
  unfold ck at h
  split at h <;> simp only [Option.some.injEq, reduceCtorEq] at h
  exact ⟨rfl, h⟩
def XOk (x : XR) (y : AVal) : Prop := ∃ s, x = .ok s y ∧ s
theorem XOk.of {x : XR} {s : Prop} {y : AVal} (h : x = .ok s y) (hs : s) : XOk x y := ⟨s, h, hs⟩
theorem XOk.and {x : XR} {p : Prop} {y : AVal} (h : XOk x y) (hp : p) : XOk (x.and p) y := by
  obtain ⟨s, rfl, hs⟩ := h
  exact ⟨p ∧ s, rfl, hp, hs⟩
theorem bbin_ok {op : BinOp} {a b y : AVal} (h : bbin op a b = some y) : XOk (xbin op a b) y := by
  unfold bbin at h
  split at h
  · unfold xbin
    cases op <;> simp only at h ⊢ <;> (obtain ⟨h1, rfl⟩ := ck_ok h; refine ⟨_, rfl, ?_⟩) <;>
      simp only [Bool.and_eq_true, ikEq_iff, ile_iff, Bool.not_eq_true', decide_eq_false_iff_not] at h1 <;> exact h1
  · unfold xbin
    cases op <;> first
      | (cases h; done)
      | (obtain ⟨h1, rfl⟩ := ck_ok h; exact ⟨_, rfl, ile_iff.1 h1⟩)
      | (simp only [Option.some.injEq] at h; subst h; exact ⟨_, rfl, trivial⟩)
  · cases h
theorem bun_ok {op : UnOp} {a y : AVal} (h : bun op a = some y) : XOk (xun op a) y := by
  unfold bun at h
  split at h
  · unfold xun
    split at h <;> simp only [Option.some.injEq, reduceCtorEq] at h
    subst h; exact ⟨_, rfl, trivial⟩
  · unfold xun
    split at h <;> simp only [Option.some.injEq, reduceCtorEq] at h <;> (subst h; exact ⟨_, rfl, trivial⟩)
  · cases h
theorem bcellEq_eq {k : CK} {x y : AVal} {b : Bool} (h : bcellEq k x y = some b) : cellEq k x y = some b := by
  unfold bcellEq at h
  split at h
  · split at h <;> simp only [Option.some.injEq, reduceCtorEq] at h
    rename_i hk
    subst h
    simp [cellEq, ikEq_iff.1 hk]
  · simpa [cellEq] using h
  · simpa [cellEq] using h
  · cases h
theorem bcellsEq_eq : ∀ {ks : List CK} {xs ys : List AVal} {b : Bool}, bcellsEq ks xs ys = some b → cellsEq ks xs ys = some b
  | [], [], [], b, h => by simpa [bcellsEq, cellsEq] using h
  | k :: ks, x :: xs, y :: ys, b, h => by
    unfold bcellsEq at h
    split at h <;> try (cases h; done)
    rename_i a ha
    split at h <;> try (cases h; done)
    rename_i c hc
    unfold cellsEq
    rw [bcellEq_eq ha, bcellsEq_eq hc]
    exact h
  | [], [], _ :: _, _, h => by cases h
  | [], _ :: _, _, _, h => by cases h
  | _ :: _, [], _, _, h => by cases h
  | _ :: _, _ :: _, [], _, h => by cases h
theorem bslEq_ok {x y : AVal} {b : Bool} (h : bslEq x y = some b) : XOk (slNilEq x y) (.bool b) := by
  unfold bslEq at h
  split at h
  · simp only [Option.some.injEq] at h; subst h; exact ⟨_, rfl, trivial⟩
  · rename_i len _
    cases hz : Nat.beq len 0 <;> rw [hz] at h <;> simp only [Option.some.injEq, reduceCtorEq] at h
    subst h; exact ⟨_, rfl, Nat.ne_of_beq_eq_false hz⟩
  · rename_i len _
    cases hz : Nat.beq len 0 <;> rw [hz] at h <;> simp only [Option.some.injEq, reduceCtorEq] at h
    subst h; exact ⟨_, rfl, Nat.ne_of_beq_eq_false hz⟩
  · rename_i es _
    cases es <;> simp only [Option.some.injEq, reduceCtorEq] at h
    subst h; exact ⟨_, rfl, by simp⟩
  · rename_i es _
    cases es <;> simp only [Option.some.injEq, reduceCtorEq] at h
    subst h; exact ⟨_, rfl, by simp⟩
  · cases h
theorem beq0_ok {k : EqK} {x y : AVal} {b : Bool} (h : beq0 k x y = some b) : XOk (xeq0 k x y) (.bool b) := by
  unfold beq0 at h
  unfold xeq0
  split at h
  · split at h <;> simp only [Option.some.injEq, reduceCtorEq] at h
    subst h; exact ⟨_, rfl, trivial⟩
  · simp only
    unfold bnilEq at h
    split at h <;> simp only [Option.some.injEq, reduceCtorEq] at h <;> (subst h; exact ⟨_, rfl, trivial⟩)
  · simp only
    exact bslEq_ok h
  · simp only
    unfold bmapEq at h
    split at h <;> simp only [Option.some.injEq, reduceCtorEq] at h <;> (subst h; exact ⟨_, rfl, trivial⟩)
  · simp only
    split at h <;> try (cases h; done)
    simp only [aggEq, bcellsEq_eq h]
    exact ⟨_, rfl, trivial⟩
  · cases h
theorem beqX_ok {neg : Bool} {k : EqK} {x y z : AVal} (h : beqX neg k x y = some z) : XOk (xeq neg k x y) z := by
  unfold beqX at h
  split at h <;> simp only [Option.some.injEq, reduceCtorEq] at h
  rename_i b hb
  obtain ⟨s, h1, h2⟩ := beq0_ok hb
  unfold xeq
  subst h
  cases neg with
  | true => simp only [if_true, h1, XR.neg]; exact ⟨_, rfl, h2⟩
  | false => simp only [Bool.false_eq_true, if_false, h1]; exact ⟨_, rfl, h2⟩
theorem bload_ok {ag : Bool} {m : Nat} {x y : AVal} (h : bload ag m H.get x = some y) : XOk (xload ag m H x) y := by
  unfold bload at h
  unfold xload
  split at h
  · obtain ⟨h1, rfl⟩ := ck_ok h
    simp only [Bool.and_eq_true, nble_iff] at h1
    exact ⟨_, rfl, h1⟩
  · rename_i b i off
    simp only
    split at h <;> try (cases h; done)
    · rename_i hg
      obtain ⟨h1, rfl⟩ := ck_ok h
      simp only [Bool.and_eq_true, nble_iff] at h1
      rw [hg]
      exact ⟨_, rfl, h1⟩
    · rename_i hg
      obtain ⟨h1, rfl⟩ := ck_ok h
      simp only [Bool.and_eq_true, nble_iff, nbeq_iff] at h1
      rw [hg]
      exact ⟨_, rfl, h1⟩
  · cases h
theorem bfaddr_ok {off : Nat} {x y : AVal} (h : bfaddr off x = some y) : XOk (xfaddr off x) y := by
  unfold bfaddr at h
  split at h <;> simp only [Option.some.injEq, reduceCtorEq] at h <;> (subst h; exact ⟨_, rfl, trivial⟩)
theorem bfield_ok {ag : Bool} {m off : Nat} {x y : AVal} (h : bfield ag m off x = some y) : XOk (xfield ag m off x) y := by
  unfold bfield at h
  split at h <;> try (cases h; done)
  obtain ⟨h1, rfl⟩ := ck_ok h
  exact ⟨_, rfl, nble_iff.1 h1⟩
theorem biaddr_ok {s : Nat} {x i y : AVal} (h : biaddr s x i = some y) : XOk (xiaddr s x i) y := by
  unfold biaddr at h
  split at h <;> try (cases h; done)
  all_goals
    obtain ⟨h1, rfl⟩ := ck_ok h
    simp only [Bool.and_eq_true, nbeq_iff, ile_iff, ilt_iff, and_assoc] at h1
    exact ⟨_, rfl, h1⟩
theorem biaddrA_ok {len s : Nat} {x i y : AVal} (h : biaddrA len s x i = some y) : XOk (xiaddrA len s x i) y := by
  unfold biaddrA at h
  split at h <;> try (cases h; done)
  all_goals
    obtain ⟨h1, rfl⟩ := ck_ok h
    simp only [Bool.and_eq_true, ile_iff, ilt_iff] at h1
    exact ⟨_, rfl, h1⟩
theorem biaddrR_ok {len s : Nat} {x i y : AVal} (h : biaddrR len s H.get x i = some y) : XOk (xiaddrR len s H x i) y := by
  unfold biaddrR at h
  split at h <;> try (cases h; done)
  split at h <;> try (cases h; done)
  rename_i hg
  obtain ⟨h1, rfl⟩ := ck_ok h
  simp only [Bool.and_eq_true, nbeq_iff, ile_iff, ilt_iff, and_assoc] at h1
  simp only [xiaddrR, hg]
  exact ⟨_, rfl, h1⟩
theorem bslAr_ok {len s : Nat} {x y : AVal} (h : bslAr len s H.get x = some y) : XOk (xslAr len s H x) y := by
  unfold bslAr at h
  split at h <;> try (cases h; done)
  split at h <;> try (cases h; done)
  rename_i hg
  obtain ⟨h1, rfl⟩ := ck_ok h
  simp only [Bool.and_eq_true, nbeq_iff, nble_iff] at h1
  simp only [xslAr, hg]
  exact ⟨_, rfl, h1⟩
theorem bidxS_ok {x i y : AVal} (h : bidxS x i = some y) : XOk (xidxS x i) y := by
  unfold bidxS at h
  split at h <;> try (cases h; done)
  obtain ⟨h1, rfl⟩ := ck_ok h
  simp only [Bool.and_eq_true, ile_iff, ilt_iff] at h1
  exact ⟨_, rfl, h1⟩
theorem bidxA_ok {len s : Nat} {ag : Bool} {x i y : AVal} (h : bidxA len s ag x i = some y) : XOk (xidxA len s ag x i) y := by
  unfold bidxA at h
  split at h <;> try (cases h; done)
  obtain ⟨h1, rfl⟩ := ck_ok h
  simp only [Bool.and_eq_true, ile_iff, ilt_iff, nble_iff, and_assoc] at h1
  exact ⟨_, rfl, h1⟩
theorem bext_ok {k : Nat} {x y : AVal} (h : bext k x = some y) : XOk (xext k x) y := by
  unfold bext at h
  split at h <;> try (cases h; done)
  obtain ⟨h1, rfl⟩ := ck_ok h
  exact ⟨_, rfl, nble_iff.1 h1⟩
theorem blenS_ok {x y : AVal} (h : blenS x = some y) : XOk (xlenS x) y := by
  unfold blenS at h
  split at h <;> simp only [Option.some.injEq, reduceCtorEq] at h
  subst h; exact ⟨_, rfl, trivial⟩
theorem blenL_ok {x y : AVal} (h : blenL x = some y) : XOk (xlenL x) y := by
  unfold blenL at h
  split at h <;> simp only [Option.some.injEq, reduceCtorEq] at h <;> (subst h; exact ⟨_, rfl, trivial⟩)
theorem bnilck_ok {x y : AVal} (h : bnilck x = some y) : XOk (xnilck x) y := by
  unfold bnilck at h
  split at h <;> simp only [Option.some.injEq, reduceCtorEq] at h <;> (subst h; exact ⟨_, rfl, trivial⟩)

variable {e : Env}
theorem bopd_ok {x : LOpd} {v : AVal} (h : bopd e.get x = some v) : x.ev e = v ∧ x.need e := by
  cases x with
  | c u => simp only [bopd, Option.some.injEq] at h; exact ⟨h, trivial⟩
  | t i =>
    simp only [bopd] at h
    show (e.get i).strip = v ∧ (e.get i).need
    split at h
    · rename_i u hu
      simp only [Option.some.injEq] at h
      rw [hu]
      exact ⟨h, rfl⟩
    · cases h
    · rename_i h1 h2
      simp only [Option.some.injEq] at h
      cases hg : e.get i with
      | cnd p u =>
        cases p with
        | true => exact absurd hg (h1 u)
        | false => exact absurd hg (h2 u)
      | _ => rw [hg] at h; subst h; exact ⟨rfl, trivial⟩
theorem bopds_ok : ∀ {xs : List LOpd} {vs : List AVal}, bopds e.get xs = some vs → evs e xs = vs ∧ needs e xs
  | [], vs, h => by simp only [bopds, Option.some.injEq] at h; exact ⟨h, trivial⟩
  | x :: xs, vs, h => by
    unfold bopds at h
    split at h <;> try (cases h; done)
    rename_i a ha
    split at h <;> simp only [Option.some.injEq, reduceCtorEq] at h
    rename_i l hl
    obtain ⟨h1, h2⟩ := bopd_ok ha
    obtain ⟨h3, h4⟩ := bopds_ok hl
    exact ⟨by unfold evs; rw [h1, h3]; exact h, h2, h4⟩
theorem bbound_ok {d : Nat} {o : Option LOpd} {j : Int} (h : bbound e.get d o = some j) : xbound e d o = some j ∧ needO e o := by
  cases o with
  | none => simp only [bbound, Option.some.injEq] at h; exact ⟨by simp [xbound, h], trivial⟩
  | some x =>
    simp only [bbound] at h
    split at h <;> simp only [Option.some.injEq, reduceCtorEq] at h
    rename_i k z hx
    obtain ⟨h1, h2⟩ := bopd_ok hx
    subst h
    exact ⟨by simp only [xbound, h1], h2⟩
theorem bslStr_ok {lo hi : Option LOpd} {x y : AVal} (h : bslStr e.get lo hi x = some y) : XOk (xslStr (fun d => xbound e d lo) (fun d => xbound e d hi) x) y ∧ needO e lo ∧ needO e hi := by
  unfold bslStr at h
  split at h <;> try (cases h; done)
  split at h <;> try (cases h; done)
  rename_i a b ha hb
  obtain ⟨h1, rfl⟩ := ck_ok h
  obtain ⟨ha1, ha2⟩ := bbound_ok ha
  obtain ⟨hb1, hb2⟩ := bbound_ok hb
  simp only [Bool.and_eq_true, ile_iff, and_assoc] at h1
  refine ⟨?_, ha2, hb2⟩
  simp only [xslStr, ha1, hb1]
  exact ⟨_, rfl, h1⟩
theorem bslSl_ok {s : Nat} {lo hi mx : Option LOpd} {x y : AVal} (h : bslSl e.get s lo hi mx x = some y) (kp : Bool) : XOk (xslX s (fun d => xbound e d lo) (fun d => xbound e d hi) (xmax e mx) kp x) y ∧ needO e lo ∧ needO e hi ∧ needO e mx := by
  unfold bslSl at h
  split at h
  · split at h <;> try (cases h; done)
    rename_i a b ha hb
    obtain ⟨ha1, ha2⟩ := bbound_ok ha
    obtain ⟨hb1, hb2⟩ := bbound_ok hb
    split at h
    · obtain ⟨h1, rfl⟩ := ck_ok h
      simp only [Bool.and_eq_true, nbeq_iff, ile_iff, and_assoc] at h1
      refine ⟨?_, ha2, hb2, trivial⟩
      simp only [xslX, xslSl, ha1, hb1, xmax]
      exact ⟨_, rfl, h1⟩
    · split at h <;> try (cases h; done)
      rename_i z hz
      obtain ⟨hz1, hz2⟩ := bbound_ok hz
      obtain ⟨h1, rfl⟩ := ck_ok h
      simp only [Bool.and_eq_true, nbeq_iff, ile_iff, and_assoc] at h1
      refine ⟨?_, ha2, hb2, hz2⟩
      simp only [xslX, xslSl, ha1, hb1, xmax, hz1]
      exact ⟨_, rfl, h1⟩
  · split at h <;> try (cases h; done)
    rename_i a b ha hb
    obtain ⟨ha1, ha2⟩ := bbound_ok ha
    obtain ⟨hb1, hb2⟩ := bbound_ok hb
    split at h
    · obtain ⟨h1, rfl⟩ := ck_ok h
      simp only [Bool.and_eq_true, nbeq_iff, ile_iff, and_assoc] at h1
      refine ⟨?_, ha2, hb2, trivial⟩
      simp only [xslX, xslSl, ha1, hb1, xmax]
      exact ⟨_, rfl, h1⟩
    · split at h <;> try (cases h; done)
      rename_i z hz
      obtain ⟨hz1, hz2⟩ := bbound_ok hz
      obtain ⟨h1, rfl⟩ := ck_ok h
      simp only [Bool.and_eq_true, nbeq_iff, ile_iff, and_assoc] at h1
      refine ⟨?_, ha2, hb2, hz2⟩
      simp only [xslX, xslSl, ha1, hb1, xmax, hz1]
      exact ⟨_, rfl, h1⟩
  · split at h <;> try (cases h; done)
    rename_i a b ha hb
    obtain ⟨ha1, ha2⟩ := bbound_ok ha
    obtain ⟨hb1, hb2⟩ := bbound_ok hb
    obtain ⟨h1, rfl⟩ := ck_ok h
    simp only [Bool.and_eq_true, decide_eq_true_eq] at h1
    refine ⟨?_, ha2, hb2, trivial⟩
    simp only [xslX, xslSl, ha1, hb1, xmax]
    exact ⟨_, rfl, h1⟩
  · cases h
theorem bbuild_ok : ∀ {ps : List (Nat × Nat × AVal)} {cells : List AVal} {y : AVal}, bbuild cells ps = some y → XOk (xbuild cells ps) y
  | [], cells, y, h => by simp only [bbuild, Option.some.injEq] at h; subst h; exact ⟨_, rfl, trivial⟩
  | (off, m, x) :: r, cells, y, h => by
    unfold bbuild at h
    split at h <;> try (cases h; done)
    rename_i cs hc
    split at h <;> try (cases h; done)
    rename_i hb
    simp only [Bool.and_eq_true, nbeq_iff, nble_iff] at hb
    obtain ⟨s, h1, h2⟩ := bbuild_ok h
    simp only [xbuild, hc, h1]
    exact ⟨_, rfl, hb.1, hb.2, h2⟩
theorem bparts_ok : ∀ {ps : List (Nat × Nat × LOpd)} {l : List (Nat × Nat × AVal)}, bparts e.get ps = some l → evParts e ps = l ∧ needParts e ps
  | [], l, h => by simp only [bparts, Option.some.injEq] at h; exact ⟨h, trivial⟩
  | (o, m, x) :: r, l, h => by
    unfold bparts at h
    split at h <;> try (cases h; done)
    rename_i a ha
    split at h <;> simp only [Option.some.injEq, reduceCtorEq] at h
    rename_i l' hl
    obtain ⟨h1, h2⟩ := bopd_ok ha
    obtain ⟨h3, h4⟩ := bparts_ok hl
    exact ⟨by unfold evParts; rw [h1, h3]; exact h, h2, h4⟩
theorem bmnx_ok {mx : Bool} : ∀ {l : List AVal} {v y : AVal}, bmnx mx v l = some y → XOk (xmnx mx v l) y
  | [], v, y, h => by
    cases v <;> simp only [bmnx, Option.some.injEq] at h <;> (subst h; exact ⟨_, rfl, trivial⟩)
  | x :: r, v, y, h => by
    cases v <;> try (simp [bmnx] at h; done)
    cases x <;> try (simp [bmnx] at h; done)
    simp only [bmnx] at h
    split at h <;> try (cases h; done)
    rename_i hk
    obtain ⟨s, h1, h2⟩ := bmnx_ok h
    simp only [xmnx, h1]
    exact ⟨_, rfl, ikEq_iff.1 hk, h2⟩
theorem bmnx0_ok {mx : Bool} {l : List AVal} {y : AVal} (h : bmnx0 mx l = some y) : XOk (xmnx0 mx l) y := by
  unfold bmnx0 at h
  split at h <;> try (cases h; done)
  exact bmnx_ok h
theorem bkeyOk_eq {ks : List CK} {ka : Bool} {k : AVal} (h : bkeyOk ks ka k = true) : keyOk ks ka k = true := by
  unfold bkeyOk at h
  unfold keyOk
  simp only [Bool.and_eq_true] at h ⊢
  refine ⟨h.1, ?_⟩
  cases hc : bcellsEq ks (keyCells k) (keyCells k) with
  | none => rw [hc] at h; cases h.2
  | some b => rw [bcellsEq_eq hc]; rfl
theorem bkeyEq_eq {ks : List CK} {k k' : AVal} {b : Bool} (h : bkeyEq ks k k' = some b) : keyEq ks k k' = some b := by
  unfold bkeyEq at h
  unfold keyEq
  split at h <;> try (cases h; done)
  · rename_i h1 h2; rw [h1, h2]; exact bcellsEq_eq h
  · rename_i h1 h2; rw [h1, h2]; exact bcellsEq_eq h
theorem bmfind_eq {ks : List CK} {k : AVal} : ∀ {es : List (AVal × AVal)} {r : Option AVal}, bmfind ks k es = some r → mfind ks k es = some r
  | [], r, h => h
  | (k', x) :: es, r, h => by
    unfold bmfind at h
    unfold mfind
    split at h <;> try (cases h; done)
    · rename_i hk; rw [bkeyEq_eq hk]; exact h
    · rename_i hk; rw [bkeyEq_eq hk]; exact bmfind_eq h
theorem bmput_eq {ks : List CK} {k x : AVal} : ∀ {es r : List (AVal × AVal)}, bmput ks k x es = some r → mput ks k x es = some r
  | [], r, h => h
  | (k', y) :: es, r, h => by
    unfold bmput at h
    unfold mput
    split at h <;> try (cases h; done)
    · rename_i hk; rw [bkeyEq_eq hk]; exact h
    · rename_i hk
      rw [bkeyEq_eq hk]
      split at h <;> simp only [Option.some.injEq, reduceCtorEq] at h
      rename_i l hl
      subst h
      simp only [bmput_eq hl, Option.map_some]
theorem bmdrop_eq {ks : List CK} {k : AVal} : ∀ {es r : List (AVal × AVal)}, bmdrop ks k es = some r → mdrop ks k es = some r
  | [], r, h => h
  | (k', y) :: es, r, h => by
    unfold bmdrop at h
    unfold mdrop
    split at h <;> try (cases h; done)
    · rename_i hk; rw [bkeyEq_eq hk]; exact h
    · rename_i hk
      rw [bkeyEq_eq hk]
      split at h <;> simp only [Option.some.injEq, reduceCtorEq] at h
      rename_i l hl
      subst h
      simp only [bmdrop_eq hl, Option.map_some]
theorem bmlook_ok {ks : List CK} {ka ag ok : Bool} {zs : List AVal} {k x y : AVal} (h : bmlook ks ka ag ok zs H.get k x = some y) : XOk (xmlook ks ka ag ok zs H k x) y := by
  unfold bmlook at h
  split at h
  · obtain ⟨h1, rfl⟩ := ck_ok h
    simp only [xmlook, bkeyOk_eq h1, if_true]
    exact ⟨_, rfl, trivial⟩
  · split at h <;> try (cases h; done)
    rename_i hg
    split at h <;> try (cases h; done)
    rename_i hk
    split at h <;> simp only [Option.some.injEq, reduceCtorEq] at h
    rename_i r hr
    subst h
    simp only [xmlook, hg, bkeyOk_eq hk, if_true, bmfind_eq hr]
    exact ⟨_, rfl, rfl⟩
  · cases h
theorem bmlen_ok {x y : AVal} (h : bmlen H.get x = some y) : XOk (xmlen H x) y := by
  unfold bmlen at h
  split at h
  · simp only [Option.some.injEq] at h; subst h; exact ⟨_, rfl, trivial⟩
  · split at h <;> simp only [Option.some.injEq, reduceCtorEq] at h
    rename_i hg
    subst h
    simp only [xmlen, hg]
    exact ⟨_, rfl, trivial⟩
  · cases h

theorem obind {α γ : Type} {x : Option α} {f : α → Option γ} {o : γ} (h : x.bind f = some o) : ∃ r, x = some r ∧ f r = some o := by
  cases x with
  | none => cases h
  | some r => exact ⟨r, rfl, h⟩
theorem bpure_ok {op : LOp} {v : AVal} (h : bpure e.get H.get op = some v) : XOk (xpure e H op) v := by
  cases op <;> simp only [bpure, reduceCtorEq] at h <;> simp only [xpure]
  case mv x => obtain ⟨h1, h2⟩ := bopd_ok h; rw [h1]; exact ⟨_, rfl, h2⟩
  case pick c a b =>
    split at h <;> try (cases h; done)
    · rename_i hc
      obtain ⟨c1, c2⟩ := bopd_ok hc
      obtain ⟨a1, a2⟩ := bopd_ok h
      rw [c1]
      subst a1; exact XOk.and (XOk.of rfl ⟨fun _ => a2, fun h => by cases h⟩) c2
    · rename_i hc
      obtain ⟨c1, c2⟩ := bopd_ok hc
      obtain ⟨a1, a2⟩ := bopd_ok h
      rw [c1]
      subst a1; exact XOk.and (XOk.of rfl ⟨fun h => (by cases h), fun _ => a2⟩) c2
  case build zs parts =>
    obtain ⟨ps, h1, h2⟩ := obind h
    obtain ⟨p1, p2⟩ := bparts_ok h1
    rw [p1]
    exact (bbuild_ok h2).and p2
  case load ag m a => obtain ⟨x, h1, h2⟩ := obind h; obtain ⟨p1, p2⟩ := bopd_ok h1; rw [p1]; exact (bload_ok h2).and p2
  case nilck a => obtain ⟨x, h1, h2⟩ := obind h; obtain ⟨p1, p2⟩ := bopd_ok h1; rw [p1]; exact (bnilck_ok h2).and p2
  case bin op x y => obtain ⟨a, h1, h2⟩ := obind h; obtain ⟨b, h3, h4⟩ := obind h2; obtain ⟨p1, p2⟩ := bopd_ok h1; obtain ⟨q1, q2⟩ := bopd_ok h3; rw [p1, q1]; exact (bbin_ok h4).and ⟨p2, q2⟩
  case eq neg k x y => obtain ⟨a, h1, h2⟩ := obind h; obtain ⟨b, h3, h4⟩ := obind h2; obtain ⟨p1, p2⟩ := bopd_ok h1; obtain ⟨q1, q2⟩ := bopd_ok h3; rw [p1, q1]; exact (beqX_ok h4).and ⟨p2, q2⟩
  case un op x => obtain ⟨a, h1, h2⟩ := obind h; obtain ⟨p1, p2⟩ := bopd_ok h1; rw [p1]; exact (bun_ok h2).and p2
  case conv k x =>
    cases k with
    | int k =>
      simp only at h ⊢
      split at h <;> simp only [Option.some.injEq, reduceCtorEq] at h
      rename_i hx
      obtain ⟨p1, p2⟩ := bopd_ok hx
      subst h
      simp only [p1]
      exact ⟨_, rfl, p2⟩
    | same =>
      simp only at h ⊢
      split at h <;> simp only [Option.some.injEq, reduceCtorEq] at h
      rename_i hx
      obtain ⟨p1, p2⟩ := bopd_ok hx
      subst h
      simp only [p1]
      exact ⟨_, rfl, p2⟩
    | s2b vm => cases h
    | b2s => cases h
  case mkfn f a c =>
    obtain ⟨as, h1, h2⟩ := obind h
    obtain ⟨cs, h3, h4⟩ := obind h2
    obtain ⟨p1, p2⟩ := bopds_ok h1
    obtain ⟨q1, q2⟩ := bopds_ok h3
    simp only [Option.some.injEq] at h4
    subst h4
    rw [p1, q1]
    exact ⟨_, rfl, p2, q2⟩
  case slStr x lo hi => obtain ⟨a, h1, h2⟩ := obind h; obtain ⟨p1, p2⟩ := bopd_ok h1; obtain ⟨q1, q2⟩ := bslStr_ok h2; rw [p1]; exact q1.and ⟨p2, q2⟩
  case slSl s x lo hi mx => obtain ⟨a, h1, h2⟩ := obind h; obtain ⟨p1, p2⟩ := bopd_ok h1; obtain ⟨q1, q2⟩ := bslSl_ok h2 (hi.isNone && mx.isNone); rw [p1]; exact q1.and ⟨p2, q2⟩
  case slAr m s x => obtain ⟨a, h1, h2⟩ := obind h; obtain ⟨p1, p2⟩ := bopd_ok h1; rw [p1]; exact (bslAr_ok h2).and p2
  case faddr off x => obtain ⟨a, h1, h2⟩ := obind h; obtain ⟨p1, p2⟩ := bopd_ok h1; rw [p1]; exact (bfaddr_ok h2).and p2
  case field ag m off x => obtain ⟨a, h1, h2⟩ := obind h; obtain ⟨p1, p2⟩ := bopd_ok h1; rw [p1]; exact (bfield_ok h2).and p2
  case iaddr s x i => obtain ⟨a, h1, h2⟩ := obind h; obtain ⟨b, h3, h4⟩ := obind h2; obtain ⟨p1, p2⟩ := bopd_ok h1; obtain ⟨q1, q2⟩ := bopd_ok h3; rw [p1, q1]; exact (biaddr_ok h4).and ⟨p2, q2⟩
  case iaddrA m s x i => obtain ⟨a, h1, h2⟩ := obind h; obtain ⟨b, h3, h4⟩ := obind h2; obtain ⟨p1, p2⟩ := bopd_ok h1; obtain ⟨q1, q2⟩ := bopd_ok h3; rw [p1, q1]; exact (biaddrA_ok h4).and ⟨p2, q2⟩
  case iaddrR m s x i => obtain ⟨a, h1, h2⟩ := obind h; obtain ⟨b, h3, h4⟩ := obind h2; obtain ⟨p1, p2⟩ := bopd_ok h1; obtain ⟨q1, q2⟩ := bopd_ok h3; rw [p1, q1]; exact (biaddrR_ok h4).and ⟨p2, q2⟩
  case idxS x i => obtain ⟨a, h1, h2⟩ := obind h; obtain ⟨b, h3, h4⟩ := obind h2; obtain ⟨p1, p2⟩ := bopd_ok h1; obtain ⟨q1, q2⟩ := bopd_ok h3; rw [p1, q1]; exact (bidxS_ok h4).and ⟨p2, q2⟩
  case idxA m s ag x i => obtain ⟨a, h1, h2⟩ := obind h; obtain ⟨b, h3, h4⟩ := obind h2; obtain ⟨p1, p2⟩ := bopd_ok h1; obtain ⟨q1, q2⟩ := bopd_ok h3; rw [p1, q1]; exact (bidxA_ok h4).and ⟨p2, q2⟩
  case ext k x => obtain ⟨a, h1, h2⟩ := obind h; obtain ⟨p1, p2⟩ := bopd_ok h1; rw [p1]; exact (bext_ok h2).and p2
  case len st x =>
    cases st with
    | true => simp only at h ⊢; obtain ⟨a, h1, h2⟩ := obind h; obtain ⟨p1, p2⟩ := bopd_ok h1; rw [p1]; exact (blenS_ok h2).and p2
    | false => simp only at h ⊢; obtain ⟨a, h1, h2⟩ := obind h; obtain ⟨p1, p2⟩ := bopd_ok h1; rw [p1]; exact (blenL_ok h2).and p2
  case mnx m args => obtain ⟨a, h1, h2⟩ := obind h; obtain ⟨p1, p2⟩ := bopds_ok h1; rw [p1]; exact (bmnx0_ok h2).and p2
  case mlook ks ka ag ok zs x k => obtain ⟨a, h1, h2⟩ := obind h; obtain ⟨b, h3, h4⟩ := obind h2; obtain ⟨p1, p2⟩ := bopd_ok h1; obtain ⟨q1, q2⟩ := bopd_ok h3; rw [p1, q1]; exact (bmlook_ok h4).and ⟨p2, q2⟩
  case mlen x => obtain ⟨a, h1, h2⟩ := obind h; obtain ⟨p1, p2⟩ := bopd_ok h1; rw [p1]; exact (bmlen_ok h2).and p2
end Go.Fx
