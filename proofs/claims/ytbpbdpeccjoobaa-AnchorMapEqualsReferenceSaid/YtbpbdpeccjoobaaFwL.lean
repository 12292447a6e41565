/-
  Own framework, part L: code, loops, functions.
-/
import Derived.Test.YtbpbdpeccjoobaaFwK
namespace Go.Fw

variable {P : Program} {N : Nat}

theorem LWp.mono {n0 : Nat} {lc : LCode} {Q Q' : Exit → Env → AHeap → Nat → Prop} {e : Env} {H : AHeap} {n : Nat} (h : LWp P N n0 lc Q e H n) (hq : ∀ ex e H n, Q ex e H n → Q' ex e H n) : LWp P N n0 lc Q' e H n :=
  fun c hc I0 β0 H0 w0 I β w a h0 h1 h2 h3 h4 QQ hQ => h c hc I0 β0 H0 w0 I β w a h0 h1 h2 h3 h4 QQ fun ex e' H' n' I' β' w' a' g1 g2 g3 g4 g5 g6 => hQ ex e' H' n' I' β' w' a' (hq _ _ _ _ g1) g2 g3 g4 g5 g6

/-- **The executor holds of the code.** -/
theorem xcode_sound {n0 : Nat} (lc : LCode) (Q : Exit → Env → AHeap → Nat → Prop) (e : Env) (H : AHeap) (n : Nat) (h : xcode P N n0 lc Q e H n) : LWp P N n0 lc Q e H n := by
  intro c
  induction c generalizing lc Q e H n with
  | skip =>
    intro hc I0 β0 H0 w0 I β w a hX hI hE hN hD QQ hQ
    simp only [lowCode, Option.some.injEq] at hc
    subst hc
    exact wp_skip (hQ _ _ _ _ _ _ _ _ h hI hE hN hD hX)
  | region id os draw =>
    intro hc I0 β0 H0 w0 I β w a hX hI hE hN hD QQ hQ
    cases draw with
    | false =>
      simp only [lowCode, Bool.false_eq_true, if_false, Option.map_eq_some_iff] at hc
      obtain ⟨ll, hll, hc⟩ := hc
      subst hc
      obtain ⟨k1, k2⟩ := lowOpers_get _ _ hll
      refine wp_region (xops_sound (Q := Q .normal) (List.range os.size) ll (by simpa using k1) ?_ h hI hE hN hD (fun e' H' n' I' β' w' a' g1 g2 g3 g4 g5 g6 => hQ _ _ _ _ _ _ _ _ g1 g2 g3 g4 g5 (hX.trans g6)))
      intro k i lo hi hlo
      have hk : k < os.size := by
        rcases Nat.lt_or_ge k os.size with h | h
        · exact h
        · rw [List.getElem?_eq_none (by simpa using h)] at hi; cases hi
      rw [List.getElem?_range hk] at hi
      simp only [Option.some.injEq] at hi
      subst hi
      exact ⟨os[k], Array.getElem?_eq_getElem hk, k2 k os[k] lo (by simp [hk]) hlo⟩
    | true =>
      simp only [lowCode, if_true] at hc
      split at hc <;> try (cases hc; done)
      rename_i hcond
      simp only [Bool.and_eq_true] at hcond
      simp only [Option.map_eq_some_iff] at hc
      obtain ⟨ll, hll, hc⟩ := hc
      subst hc
      obtain ⟨k1, k2⟩ := lowOpers_get _ _ hll
      have hheap : ({ w with drawn := w.drawn + 1 } : World).heap = w.heap := rfl
      have hId := hI.of_heap hheap
      refine wp_region_quiet (C := fun w' => w' = { w with drawn := w.drawn + 1 }) hcond.1 hcond.2 rfl ?_
      refine xqs_sound (Q := Q .normal) (w := { w with drawn := w.drawn + 1 }) (fun w' h => h) hId os.toList ll k1 k2 h (fun t => (hE t).of_heap hheap) hN hD ?_
      intro e' a' g1 g2 g3 g4 w' hw'
      subst hw'
      refine hQ _ _ _ _ _ _ _ _ g1 hId g2 g3 g4 (hX.trans ?_)
      have := Ext.refl I β n H w hI.fresh
      exact ⟨rfl, rfl, rfl, Nat.le_refl _, fun _ _ _ => rfl, this.imm, this.immNew, this.old, this.new, this.dom, this.le⟩
  | seq x y ihx ihy =>
    intro hc I0 β0 H0 w0 I β w a hX hI hE hN hD QQ hQ
    simp only [lowCode] at hc
    split at hc <;> try (cases hc; done)
    rename_i x' y' hx hy
    simp only [Option.some.injEq] at hc
    subst hc
    refine wp_seq (ihx x' _ e H n h hx I0 β0 H0 w0 I β w a hX hI hE hN hD _ ?_)
    intro ex e' H' n' I' β' w' a' g1 g2 g3 g4 g5 g6
    cases ex with
    | normal => exact ihy y' _ e' H' n' g1 hy I0 β0 H0 w0 I' β' w' a' g6 g2 g3 g4 g5 QQ hQ
    | _ => exact hQ _ _ _ _ _ _ _ _ g1 g2 g3 g4 g5 g6
  | cond cx x y ihx ihy =>
    intro hc I0 β0 H0 w0 I β w a hX hI hE hN hD QQ hQ
    simp only [lowCode] at hc
    split at hc <;> try (cases hc; done)
    rename_i c' x' y' hcx hx hy
    simp only [Option.some.injEq] at hc
    subst hc
    simp only [xcode] at h
    split at h
    · rename_i v hev
      obtain ⟨h1, h2, h3⟩ := h
      have hr := ev_rep hE hcx h1
      rw [hev] at hr
      exact wp_cond_split hr.bool_inv (fun hv => ihx x' _ e H n (h2 hv) hx I0 β0 H0 w0 I β w a hX hI hE hN hD QQ hQ) (fun hv => ihy y' _ e H n (h3 hv) hy I0 β0 H0 w0 I β w a hX hI hE hN hD QQ hQ)
    · exact h.elim
  | block id x ih =>
    intro hc I0 β0 H0 w0 I β w a hX hI hE hN hD QQ hQ
    simp only [lowCode, Option.map_eq_some_iff] at hc
    obtain ⟨x', hx, hc⟩ := hc
    subst hc
    refine wp_block (ih x' _ e H n h hx I0 β0 H0 w0 I β w a hX hI hE hN hD _ ?_)
    intro ex e' H' n' I' β' w' a' g1 g2 g3 g4 g5 g6
    cases ex with
    | exit i =>
      simp only at g1
      simp only [Exit.inBlock]
      split at g1
      · rename_i hi; rw [if_pos hi]; exact hQ _ _ _ _ _ _ _ _ g1 g2 g3 g4 g5 g6
      · rename_i hi; rw [if_neg hi]; exact hQ _ _ _ _ _ _ _ _ g1 g2 g3 g4 g5 g6
    | _ => exact hQ _ _ _ _ _ _ _ _ g1 g2 g3 g4 g5 g6
  | loop x ih =>
    intro hc
    have hc0 := hc
    simp only [lowCode, Option.map_eq_some_iff] at hc
    obtain ⟨x', hx, hc⟩ := hc
    subst hc
    exact h _ hc0
  | exit id =>
    intro hc I0 β0 H0 w0 I β w a hX hI hE hN hD QQ hQ
    simp only [lowCode, Option.some.injEq] at hc
    subst hc
    exact wp_exit (hQ _ _ _ _ _ _ _ _ h hI hE hN hD hX)
  | ret =>
    intro hc I0 β0 H0 w0 I β w a hX hI hE hN hD QQ hQ
    simp only [lowCode, Option.some.injEq] at hc
    subst hc
    exact wp_ret (hQ _ _ _ _ _ _ _ _ h hI hE hN hD hX)
  | rangeFunc f ps x y ih1 ih2 => intro hc; cases hc
  | scope x ih => intro hc; cases hc
  | label l => intro hc; cases hc
  | goto l => intro hc; cases hc
  | refuse why => intro hc; cases hc

/-! ## What leads into the heap below a number -/
inductive ALt (n : Nat) : AVal → Prop
  | any : ALt n .any
  | bool (b : Bool) : ALt n (.bool b)
  | int (k : IntKind) (m : Int) : ALt n (.int k m)
  | str (l : List UInt8) : ALt n (.str l)
  | val (v : Value) : ALt n (.val v)
  | agg (cs : List AVal) : (∀ x ∈ cs, ALt n x) → ALt n (.agg cs)
  | tup (cs : List AVal) : (∀ x ∈ cs, ALt n x) → ALt n (.tup cs)
  | isl (s : Nat) (es : List (List AVal)) (f : Bool) : ALt n (.isl s es f)
  | iptr (s : Nat) (es : List (List AVal)) (i off : Nat) : ALt n (.iptr s es i off)
  | ptr (b i off : Nat) : b < n → ALt n (.ptr b i off)
  | msl (b s off len : Nat) (f : Bool) : b < n → ALt n (.msl b s off len f)
  | map (b : Nat) : b < n → ALt n (.map b)
  | fn (f : Fn) (first caps : List AVal) : (∀ x ∈ first, ALt n x) → (∀ x ∈ caps, ALt n x) → ALt n (.fn f first caps)
  | ifc (t : TypeId) (x : AVal) : ALt n x → ALt n (.ifc t x)
  | cnd (p : Bool) (x : AVal) : (p = true → ALt n x) → ALt n (.cnd p x)

def restrict (β : Nat → Option CLoc) (n : Nat) : Nat → Option CLoc := fun i => if i < n then β i else none
theorem restrict_lt {β : Nat → Option CLoc} {n i : Nat} (h : i < n) : restrict β n i = β i := by simp [restrict, h]
theorem restrict_ge {β : Nat → Option CLoc} {n i : Nat} (h : n ≤ i) : restrict β n i = none := by simp [restrict]; omega
theorem restrict_some {β : Nat → Option CLoc} {n i : Nat} {c : CLoc} (h : restrict β n i = some c) : i < n ∧ β i = some c := by
  unfold restrict at h; split at h
  · exact ⟨‹_›, h⟩
  · cases h

theorem mem_of_get {α : Type} {l : List α} {i : Nat} {x : α} (h : l[i]? = some x) : x ∈ l := List.mem_of_getElem? h

theorem Rep.restrict {I : Nat → Prop} {β : Nat → Option CLoc} {n m : Nat} {w : World} {x : AVal} {v : Value} (h : Rep I β n w x v) (hx : ALt m x) : Rep I (restrict β m) m w x v := by
  induction h with
  | any v => exact .any v
  | imm x v h => exact .imm x v h
  | agg cs vs h1 h2 _ ih => cases hx with | agg _ h => exact .agg cs vs h1 h2 fun i x v a b => ih i x v a b (h x (mem_of_get a))
  | tup cs vs h1 _ ih => cases hx with | tup _ h => exact .tup cs vs h1 fun i x v a b => ih i x v a b (h x (mem_of_get a))
  | fn f a c fs cs h1 h2 _ _ ih1 ih2 => cases hx with | fn _ _ _ g1 g2 => exact .fn f a c fs cs h1 h2 (fun i x v a b => ih1 i x v a b (g1 x (mem_of_get a))) (fun i x v a b => ih2 i x v a b (g2 x (mem_of_get a)))
  | ifc t x v _ ih => cases hx with | ifc _ _ h => exact .ifc t x v (ih h)
  | ptr b i off a hb h => cases hx with | ptr _ _ _ hb' => exact .ptr b i off a hb' (fun c hc => h c (restrict_some hc).2)
  | msl b s off len f a cap hb h1 h2 h3 => cases hx with | msl _ _ _ _ _ hb' => exact .msl b s off len f a cap hb' h1 h2 (fun c hc => h3 c (restrict_some hc).2)
  | map b r hb h => cases hx with | map _ hb' => exact .map b r hb' (fun c hc => h c (restrict_some hc).2)
  | cnd p x v _ h2 ih => cases hx with | cnd _ _ h => exact .cnd p x v (fun hp => ih hp (h hp)) h2

theorem RepI.alt {I : Nat → Prop} {w : World} {x : AVal} {v : Value} (h : RepI I w x v) (n : Nat) : ALt n x := by
  induction h with
  | bool b => exact .bool b
  | int k m => exact .int k m
  | str l => exact .str l
  | val v _ => exact .val v
  | agg cs vs h1 _ _ ih =>
    refine .agg cs fun x hx => ?_
    obtain ⟨i, hi⟩ := List.getElem?_of_mem hx
    have hlt : i < vs.size := by
      rcases Nat.lt_or_ge i vs.size with h | h
      · exact h
      · rw [List.getElem?_eq_none (by omega)] at hi; cases hi
    exact ih i x vs[i] hi (Array.getElem?_eq_getElem hlt)
  | tup cs vs h1 _ ih =>
    refine .tup cs fun x hx => ?_
    obtain ⟨i, hi⟩ := List.getElem?_of_mem hx
    have hlt : i < vs.size := by
      rcases Nat.lt_or_ge i vs.size with h | h
      · exact h
      · rw [List.getElem?_eq_none (by omega)] at hi; cases hi
    exact ih i x vs[i] hi (Array.getElem?_eq_getElem hlt)
  | islNil s f => exact .isl _ _ _
  | islEmpty s f a cap h => exact .isl _ _ _
  | isl => exact .isl _ _ _
  | iptr => exact .iptr _ _ _ _
  | fn f a c fs cs h1 h2 _ _ ih1 ih2 =>
    refine .fn f a c (fun x hx => ?_) (fun x hx => ?_)
    · obtain ⟨i, hi⟩ := List.getElem?_of_mem hx
      have hlt : i < fs.size := by
        rcases Nat.lt_or_ge i fs.size with h | h
        · exact h
        · rw [List.getElem?_eq_none (by omega)] at hi; cases hi
      exact ih1 i x fs[i] hi (Array.getElem?_eq_getElem hlt)
    · obtain ⟨i, hi⟩ := List.getElem?_of_mem hx
      have hlt : i < cs.size := by
        rcases Nat.lt_or_ge i cs.size with h | h
        · exact h
        · rw [List.getElem?_eq_none (by omega)] at hi; cases hi
      exact ih2 i x cs[i] hi (Array.getElem?_eq_getElem hlt)
  | ifc t x v _ ih => exact .ifc t x ih

theorem Rep.alt {I : Nat → Prop} {β : Nat → Option CLoc} {n : Nat} {w : World} {x : AVal} {v : Value} (h : Rep I β n w x v) : ALt n x := by
  induction h with
  | any v => exact .any
  | imm x v h => exact h.alt n
  | agg cs vs h1 _ _ ih =>
    refine .agg cs fun x hx => ?_
    obtain ⟨i, hi⟩ := List.getElem?_of_mem hx
    have hlt : i < vs.size := by
      rcases Nat.lt_or_ge i vs.size with h | h
      · exact h
      · rw [List.getElem?_eq_none (by omega)] at hi; cases hi
    exact ih i x vs[i] hi (Array.getElem?_eq_getElem hlt)
  | tup cs vs h1 _ ih =>
    refine .tup cs fun x hx => ?_
    obtain ⟨i, hi⟩ := List.getElem?_of_mem hx
    have hlt : i < vs.size := by
      rcases Nat.lt_or_ge i vs.size with h | h
      · exact h
      · rw [List.getElem?_eq_none (by omega)] at hi; cases hi
    exact ih i x vs[i] hi (Array.getElem?_eq_getElem hlt)
  | fn f a c fs cs h1 h2 _ _ ih1 ih2 =>
    refine .fn f a c (fun x hx => ?_) (fun x hx => ?_)
    · obtain ⟨i, hi⟩ := List.getElem?_of_mem hx
      have hlt : i < fs.size := by
        rcases Nat.lt_or_ge i fs.size with h | h
        · exact h
        · rw [List.getElem?_eq_none (by omega)] at hi; cases hi
      exact ih1 i x fs[i] hi (Array.getElem?_eq_getElem hlt)
    · obtain ⟨i, hi⟩ := List.getElem?_of_mem hx
      have hlt : i < cs.size := by
        rcases Nat.lt_or_ge i cs.size with h | h
        · exact h
        · rw [List.getElem?_eq_none (by omega)] at hi; cases hi
      exact ih2 i x cs[i] hi (Array.getElem?_eq_getElem hlt)
  | ifc t x v _ ih => exact .ifc t x ih
  | ptr b i off a hb h => exact .ptr _ _ _ hb
  | msl b s off len f a cap hb h1 h2 h3 => exact .msl _ _ _ _ _ hb
  | map b r hb h => exact .map _ hb
  | cnd p x v _ _ ih => exact .cnd p x ih

def BLt (n : Nat) : ABlock → Prop
  | .rows _ es => ∀ r ∈ es, ∀ x ∈ r, ALt n x
  | .amap _ => True

/-- **FORGETTING**: the abstract heap may be cut down to fewer blocks, and the numbers from m on be free again. -/
theorem Inv.cut {I : Nat → Prop} {β : Nat → Option CLoc} {n m : Nat} {H H2 : AHeap} {w : World} (hI : Inv I β n H w) (h : ∀ id blk, H2.get id = some blk → H.get id = some blk ∧ id < m ∧ BLt m blk) : Inv I (restrict β m) m H2 w := by
  refine ⟨?_, ?_, ?_, hI.imm, fun id hid => restrict_ge hid⟩
  · intro id blk hb
    obtain ⟨h1, h2, h3⟩ := h id blk hb
    obtain ⟨c, hc, hB⟩ := hI.blocks id blk h1
    refine ⟨c, by rw [restrict_lt h2]; exact hc, ?_⟩
    cases blk with
    | amap _ => exact hB
    | rows s es =>
      obtain ⟨g1, g2, g3, g4, g5, g6⟩ := hB
      refine ⟨g1, g2, g3, g4, g5, fun i r j x hi hj => ?_⟩
      obtain ⟨v, k1, k2, k3⟩ := g6 i r j x hi hj
      exact ⟨v, k1, k2, k3.restrict (h3 r (mem_of_get hi) x (mem_of_get hj))⟩
  · intro i j c d hc hd heq
    exact hI.inj i j c d (restrict_some hc).2 (restrict_some hd).2 heq
  · intro i c hc
    exact hI.own i c (restrict_some hc).2

theorem Ext.cut {I I' : Nat → Prop} {β β' : Nat → Option CLoc} {n n' m : Nat} {H H' H2 : AHeap} {w w' : World} (e : Ext I β n H w I' β' n' H' w') (hm : n ≤ m) (h : ∀ id blk, H2.get id = some blk → H'.get id = some blk) : Ext I β n H w I' (restrict β' m) m H2 w' := by
  refine ⟨e.os, e.tape, e.output, e.size, e.frame, e.imm, e.immNew, fun id hid => ?_, fun id c hid hc => e.new id c hid (restrict_some hc).2, fun id hid hg => e.dom id hid ?_, hm⟩
  · rw [restrict_lt (by omega)]; exact e.old id hid
  · cases hh : H2.get id with
    | none => exact absurd hh hg
    | some b => rw [h id b hh]; simp

/-- one value may stand for another -/
def LeV (x y : AVal) : Prop := ∀ I β n w v, Rep I β n w x v → Rep I β n w y v
theorem LeV.refl (x : AVal) : LeV x x := fun _ _ _ _ _ h => h
theorem LeV.any (x : AVal) : LeV x .any := fun _ _ _ _ v _ => .any v
theorem LeV.nilIsl (s : Nat) (f : Bool) : LeV (.val (.slice none 0 0)) (.isl s [] f) := fun _ _ _ _ v h => by
  rw [h.val_inv]; exact .imm _ _ (.islNil s f)

/-- an environment (a heap) that says less -/
def EnvSub (n : Nat) (e' : Env) : Env → Prop
  | [] => True
  | (t, v) :: r => LeV (e'.get t) v ∧ ALt n v ∧ EnvSub n e' r
def HeapSub (n : Nat) (H' : AHeap) : AHeap → Prop
  | [] => True
  | (k, b) :: r => H'.get k = some b ∧ k < n ∧ BLt n b ∧ HeapSub n H' r

theorem EnvSub.get {n : Nat} {e' : Env} : ∀ {e : Env}, EnvSub n e' e → ∀ t, LeV (e'.get t) (e.get t) ∧ ALt n (e.get t)
  | [], _, t => ⟨.any _, .any⟩
  | (k, v) :: r, h, t => by
    obtain ⟨h1, h2, h3⟩ := h
    by_cases hk : k = t
    · subst hk; simp only [Env.get, if_pos]; exact ⟨h1, h2⟩
    · simp only [Env.get, if_neg hk]; exact EnvSub.get h3 t
theorem HeapSub.get {n : Nat} {H' : AHeap} : ∀ {H : AHeap}, HeapSub n H' H → ∀ id blk, H.get id = some blk → H'.get id = some blk ∧ id < n ∧ BLt n blk
  | [], _, _, _, h => by cases h
  | (k, b) :: r, h, id, blk, hb => by
    obtain ⟨h1, h2, h3, h4⟩ := h
    by_cases hk : k = id
    · subst hk
      simp only [AHeap.get, if_pos, Option.some.injEq] at hb
      subst hb
      exact ⟨h1, h2, h3⟩
    · simp only [AHeap.get, if_neg hk] at hb; exact HeapSub.get h4 id blk hb

/-- the blocks of H0 are there still; H0 has no block from n0 on -/
def HFresh (n0 : Nat) (H0 : AHeap) : Prop := ∀ id, n0 ≤ id → H0.get id = none
def Keeps (H0 H' : AHeap) : Prop := ∀ id blk, H0.get id = some blk → H'.get id = some blk
theorem Keeps.refl (H0 : AHeap) : Keeps H0 H0 := fun _ _ h => h
theorem Keeps.cons {n0 : Nat} {H0 H' : AHeap} (hf : HFresh n0 H0) {k : Nat} {b : ABlock} (hk : n0 ≤ k) (h : Keeps H0 H') : Keeps H0 ((k, b) :: H') := fun id blk hb => by
  have hne : k ≠ id := fun h' => by subst h'; rw [hf k hk] at hb; cases hb
  rw [AHeap.get_cons_other _ _ hne]; exact h id blk hb
theorem Keeps.set {n0 : Nat} {H0 H' : AHeap} (hf : HFresh n0 H0) {k : Nat} {b : ABlock} (hk : n0 ≤ k) (h : Keeps H0 H') : Keeps H0 (H'.set k b) := fun id blk hb => by
  have hne : k ≠ id := fun h' => by subst h'; rw [hf k hk] at hb; cases hb
  rw [AHeap.get_set, if_neg hne]; exact h id blk hb
theorem Keeps.del {n0 : Nat} {H0 H' : AHeap} (hf : HFresh n0 H0) {k : Nat} (hk : n0 ≤ k) (h : Keeps H0 H') : Keeps H0 (H'.del k) := fun id blk hb => by
  have hne : k ≠ id := fun h' => by subst h'; rw [hf k hk] at hb; cases hb
  rw [AHeap.get_del, if_neg hne]; exact h id blk hb

theorem AHeap.get_append (L H : AHeap) (t : Nat) : AHeap.get (L ++ H) t = (L.get t).or (H.get t) := by
  induction L with
  | nil => rfl
  | cons x L ih =>
    obtain ⟨k, b⟩ := x
    by_cases h : k = t
    · subst h; simp [AHeap.get]
    · simp only [List.cons_append, AHeap.get, if_neg h]; exact ih

theorem ALt.mono {n m : Nat} (hnm : n ≤ m) {x : AVal} (h : ALt n x) : ALt m x := by
  induction h with
  | any => exact .any
  | bool b => exact .bool b
  | int k z => exact .int k z
  | str l => exact .str l
  | val v => exact .val v
  | agg cs _ ih => exact .agg cs ih
  | tup cs _ ih => exact .tup cs ih
  | isl s es f => exact .isl s es f
  | iptr s es i off => exact .iptr s es i off
  | ptr b i off h => exact .ptr b i off (by omega)
  | msl b s off len f h => exact .msl b s off len f (by omega)
  | map b h => exact .map b (by omega)
  | fn f a c _ _ ih1 ih2 => exact .fn f a c ih1 ih2
  | ifc t x _ ih => exact .ifc t x ih
  | cnd p x _ ih => exact .cnd p x ih
theorem BLt.mono {n m : Nat} (hnm : n ≤ m) {b : ABlock} (h : BLt n b) : BLt m b := by
  cases b with
  | amap _ => exact trivial
  | rows s es => exact fun r hr x hx => (h r hr x hx).mono hnm

/-- what is known of the heap with which a function begins -/
structure HOk (n0 : Nat) (H0 : AHeap) : Prop where
  fresh : HFresh n0 H0
  blt : ∀ id blk, H0.get id = some blk → BLt n0 blk
theorem HOk.at {n0 m : Nat} {H0 : AHeap} (h : HOk n0 H0) (hm : n0 ≤ m) : ∀ id blk, H0.get id = some blk → id < m ∧ BLt m blk := fun id blk hb => by
  have hlt : id < n0 := by
    rcases Nat.lt_or_ge id n0 with h' | h'
    · exact h'
    · rw [h.fresh id h'] at hb; cases hb
  exact ⟨by omega, (h.blt id blk hb).mono hm⟩

/-- the state (e', H', n') may be read as (e, L ++ H0, nL) -/
def StSub (nL : Nat) (H0 : AHeap) (e' : Env) (H' : AHeap) (n' : Nat) (e : Env) (L : AHeap) : Prop := EnvSub nL e' e ∧ HeapSub nL H' L ∧ Keeps H0 H' ∧ nL ≤ n'

theorem blt_of {I : Nat → Prop} {β : Nat → Option CLoc} {n : Nat} {w : World} {c : CLoc} {blk : ABlock} (h : RepB I β n w c blk) : BLt n blk := by
  cases blk with
  | amap _ => exact trivial
  | rows s es =>
    intro r hr x hx
    obtain ⟨i, hi⟩ := List.getElem?_of_mem hr
    obtain ⟨j, hj⟩ := List.getElem?_of_mem hx
    obtain ⟨v, _, _, h3⟩ := h.2.2.2.2.2 i r j x hi hj
    exact h3.alt

theorem stSub_inv {n0 nL n' : Nat} {H0 H' L : AHeap} {e e' : Env} (hs : StSub nL H0 e' H' n' e L) (hn : n0 ≤ nL) {J0 : Nat → Prop} {γ0 : Nat → Option CLoc} {G0 : AHeap} {w0 : World} {I : Nat → Prop} {β : Nat → Option CLoc} {w : World} {a : Act}
    (hX : Ext J0 γ0 n0 G0 w0 I β n' H' w) (hI : Inv I β n' H' w) (hE : RepEnv I β n' w e' a) (hB : ∀ id blk, H0.get id = some blk → id < nL ∧ BLt nL blk) :
    Ext J0 γ0 n0 G0 w0 I (restrict β nL) nL (L ++ H0) w ∧ Inv I (restrict β nL) nL (L ++ H0) w ∧ RepEnv I (restrict β nL) nL w e a := by
  obtain ⟨h1, h2, h3, h4⟩ := hs
  have hget : ∀ id blk, AHeap.get (L ++ H0) id = some blk → H'.get id = some blk ∧ id < nL ∧ BLt nL blk := by
    intro id blk hb
    rw [AHeap.get_append] at hb
    cases hl : L.get id with
    | some b => rw [hl] at hb; simp at hb; subst hb; exact h2.get id b hl
    | none => rw [hl] at hb; simp at hb; exact ⟨h3 id blk hb, hB id blk hb⟩
  refine ⟨hX.cut hn (fun id blk hb => (hget id blk hb).1), hI.cut hget, fun t => ?_⟩
  obtain ⟨g1, g2⟩ := h1.get t
  exact (g1 _ _ _ _ _ (hE t)).restrict g2

/-- **READING A STATE AS A PLAINER ONE.** -/
theorem LWp.weaken {n0 nL n' : Nat} {lc : LCode} {Q : Exit → Env → AHeap → Nat → Prop} {H0 H' L : AHeap} {e e' : Env} (hn : n0 ≤ nL) (hf : HOk n0 H0) (hs : StSub nL H0 e' H' n' e L) (h : LWp P N n0 lc Q e (L ++ H0) nL) : LWp P N n0 lc Q e' H' n' := by
  intro c hc J0 γ0 G0 w0 I β w a hX hI hE hN hD QQ hQ
  obtain ⟨k1, k2, k3⟩ := stSub_inv hs hn hX hI hE (hf.at hn)
  exact h c hc J0 γ0 G0 w0 I (restrict β nL) w a k1 k2 k3 hN hD QQ hQ

theorem least_exists (p : Nat → Prop) (h : ∃ m, p m) : ∃ m, p m ∧ ∀ k, k < m → ¬ p k := by
  obtain ⟨m, hm⟩ := h
  induction m using Nat.strongRecOn with
  | _ m ih =>
    by_cases hk : ∃ k, k < m ∧ p k
    · obtain ⟨k, h1, h2⟩ := hk
      exact ih k h1 h2
    · exact ⟨m, hm, fun k hlt hp => hk ⟨k, hlt, hp⟩⟩

/-- What a round leaves: another round's beginning, with a smaller measure; or an exit. -/
def LoopK {ι : Type} (nL : ι → Nat) (H0 : AHeap) (env : ι → Env) (L : ι → AHeap) (pre : ι → Prop) (μ : ι → Nat) (x : ι) (Q : Exit → Env → AHeap → Nat → Prop) : Exit → Env → AHeap → Nat → Prop
  | .normal, e', H', n' => ∃ y, pre y ∧ μ y < μ x ∧ StSub (nL y) H0 e' H' n' (env y) (L y)
  | ex, e', H', n' => Q ex e' H' n'

/-- **A LOOP.** -/
theorem LWp_loopN {ι : Type} {n0 : Nat} (nL : ι → Nat) {H0 : AHeap} (pre : ι → Prop) (hn : ∀ x, pre x → n0 ≤ nL x) (hf : HOk n0 H0) (env : ι → Env) (L : ι → AHeap) (μ : ι → Nat) {Q : Exit → Env → AHeap → Nat → Prop} {body : LCode}
    (round : ∀ x, pre x → LWp P N n0 body (LoopK nL H0 env L pre μ x Q) (env x) (L x ++ H0) (nL x)) : ∀ x, pre x → LWp P N n0 (.loop body) Q (env x) (L x ++ H0) (nL x) := by
  intro x0 hx0 c hc J0 γ0 G0 w0 I β w a hX hI hE hN hD QQ hQ
  cases c with
  | loop c =>
    simp only [lowCode, Option.map_eq_some_iff] at hc
    obtain ⟨b', hb, hc⟩ := hc
    simp only [LCode.loop.injEq] at hc
    subst hc
    let Inside : Nat → Act → World → Prop := fun m a w => ∃ x I β, μ x = m ∧ pre x ∧ Ext J0 γ0 n0 G0 w0 I β (nL x) (L x ++ H0) w ∧ Inv I β (nL x) (L x ++ H0) w ∧ RepEnv I β (nL x) w (env x) a ∧ a.tmps.size = N ∧ a.defers = []
    let mu : Act → World → Nat := fun a w => by
      classical
      exact if h : ∃ m, Inside m a w then Classical.choose (least_exists _ h) else 0
    have mu_spec : ∀ a w, (∃ m, Inside m a w) → Inside (mu a w) a w ∧ ∀ k, k < mu a w → ¬ Inside k a w := by
      intro a w h
      have : mu a w = Classical.choose (least_exists _ h) := by simp only [mu]; rw [dif_pos h]
      rw [this]
      exact Classical.choose_spec (least_exists _ h)
    refine wp_loop (fun a w => ∃ m, Inside m a w) mu ⟨_, x0, I, β, rfl, hx0, hX, hI, hE, hN, hD⟩ ?_
    intro a w h
    obtain ⟨⟨x, I, β, hm, hp, k1, k2, k3, k4, k5⟩, _⟩ := mu_spec a w h
    refine round x hp c hb J0 γ0 G0 w0 I β w a k1 k2 k3 k4 k5 _ ?_
    intro ex e' H' n' I' β' w' a' g1 g2 g3 g4 g5 g6
    cases ex with
    | normal =>
      obtain ⟨y, hy, hlt, hs⟩ := g1
      obtain ⟨q1, q2, q3⟩ := stSub_inv hs (hn y hy) g6 g2 g3 (hf.at (hn y hy))
      have hin : Inside (μ y) a' w' := ⟨y, I', restrict β' (nL y), rfl, hy, q1, q2, q3, g4, g5⟩
      refine ⟨⟨_, hin⟩, ?_⟩
      obtain ⟨_, hleast⟩ := mu_spec a' w' ⟨_, hin⟩
      have : ¬ μ y < mu a' w' := fun h => hleast _ h hin
      omega
    | _ => exact hQ _ _ _ _ _ _ _ _ g1 g2 g3 g4 g5 g6
  | skip => cases hc
  | region id ops draw => simp only [lowCode] at hc; split at hc <;> (try split at hc) <;> simp at hc
  | seq a b => simp only [lowCode] at hc; split at hc <;> simp at hc
  | cond c a b => simp only [lowCode] at hc; split at hc <;> simp at hc
  | block id c => simp [lowCode] at hc
  | exit id => cases hc
  | ret => cases hc
  | _ => cases hc

theorem LWp_loop {ι : Type} {n0 nL : Nat} {H0 : AHeap} (hn : n0 ≤ nL) (hf : HOk n0 H0) (env : ι → Env) (L : ι → AHeap) (pre : ι → Prop) (μ : ι → Nat) {Q : Exit → Env → AHeap → Nat → Prop} {body : LCode}
    (round : ∀ x, pre x → LWp P N n0 body (LoopK (fun _ => nL) H0 env L pre μ x Q) (env x) (L x ++ H0) nL) : ∀ x, pre x → LWp P N n0 (.loop body) Q (env x) (L x ++ H0) nL :=
  LWp_loopN (fun _ => nL) pre (fun _ _ => hn) hf env L μ round

theorem LWp_while {ι : Type} {n0 n' : Nat} (nL : ι → Nat) {H0 H' : AHeap} {e' : Env} (hf : HOk n0 H0) (env : ι → Env) (L : ι → AHeap) (pre : ι → Prop) (μ : ι → Nat) {Q : Exit → Env → AHeap → Nat → Prop} {body : LCode}
    (x0 : ι) (hs : StSub (nL x0) H0 e' H' n' (env x0) (L x0)) (hx0 : pre x0) (hn : ∀ x, pre x → n0 ≤ nL x)
    (round : ∀ x, pre x → LWp P N n0 body (LoopK nL H0 env L pre μ x Q) (env x) (L x ++ H0) (nL x)) : LWp P N n0 (.loop body) Q e' H' n' :=
  LWp.weaken (hn x0 hx0) hf hs (LWp_loopN nL pre hn hf env L μ round x0 hx0)

/-! ## Functions -/
def initEnv : Nat → List AVal → Env
  | _, [] => []
  | k, x :: r => (k, x) :: initEnv (k + 1) r
theorem initEnv_get : ∀ (l : List AVal) (k t : Nat), (initEnv k l).get t = if k ≤ t then (l[t - k]?).getD .any else .any
  | [], k, t => by simp [initEnv, Env.get]
  | x :: l, k, t => by
    unfold initEnv Env.get
    by_cases h : k = t
    · subst h; simp
    · rw [if_neg h, initEnv_get l (k + 1) t]
      by_cases h1 : k + 1 ≤ t
      · rw [if_pos h1, if_pos (by omega)]
        have : t - k = (t - (k + 1)) + 1 := by omega
        rw [this, List.getElem?_cons_succ]
      · rw [if_neg h1]
        by_cases h2 : k ≤ t
        · omega
        · rw [if_neg h2]

def resVals (e : Env) : List Nat → List AVal
  | [] => []
  | t :: r => (e.get t).strip :: resVals e r
def resNeeds (e : Env) : List Nat → Prop
  | [] => True
  | t :: r => (e.get t).need ∧ resNeeds e r
def resVal (l : List AVal) : AVal := match l with | [x] => x | l => .tup l

def FinK (res : List Nat) (Q : AVal → AHeap → Nat → Prop) : Exit → Env → AHeap → Nat → Prop
  | .normal, e, H, n => resNeeds e res ∧ Q (resVal (resVals e res)) H n
  | .ret, e, H, n => resNeeds e res ∧ Q (resVal (resVals e res)) H n
  | _, _, _, _ => False

theorem resVals_rep {I : Nat → Prop} {β : Nat → Option CLoc} {n : Nat} {w : World} {e : Env} {a : Act} (hE : RepEnv I β n w e a) : ∀ (l : List Nat), resNeeds e l → (resVals e l).length = l.length ∧ ∀ (i : Nat) (x : AVal) (v : Value), (resVals e l)[i]? = some x → (l.map fun t => a.tmps.getD t undef)[i]? = some v → Rep I β n w x v
  | [], _ => by simp [resVals]
  | t :: l, h => by
    obtain ⟨h1, h2⟩ := resVals_rep hE l h.2
    refine ⟨by simp [resVals, h1], fun i x v hx hv => ?_⟩
    cases i with
    | zero => simp [resVals] at hx; simp only [List.map_cons, List.getElem?_cons_zero, Option.some.injEq] at hv; subst hx; subst hv; exact (hE t).strip h.1
    | succ i => exact h2 i x v (by simpa [resVals] using hx) (by simpa using hv)

theorem lowRes_spec : ∀ (l : List ResultVar) (r : List Nat), lowRes l = some r → l = r.map ResultVar.tmp
  | [], r, h => by simp [lowRes] at h; subst h; rfl
  | .tmp t :: l, r, h => by
    simp only [lowRes, Option.map_eq_some_iff] at h
    obtain ⟨r', h1, rfl⟩ := h
    simp [lowRes_spec l r' h1]
  | .cell _ _ :: l, r, h => by cases h

def tupOf : List Value → Value
  | [x] => x
  | l => .tuple l.toArray
def rvVal (tmps : Array Value) : ResultVar → Value
  | .tmp t => tmps.getD t undef
  | .cell _ _ => undef
theorem results_run {fn : Func} {lr : List Nat} (h : fn.results.toList = lr.map ResultVar.tmp) (tmps : Array Value) (w : World) : (results fn tmps).run P w = .ok (tupOf (lr.map fun t => tmps.getD t undef)) w := by
  have hfr : fn.results = (lr.map ResultVar.tmp).toArray := by rw [← h]
  unfold results
  rw [hfr, Sem.run_bind, run_mapM _ (rvVal tmps)]
  · have e1 : (lr.map ResultVar.tmp).toArray.map (rvVal tmps) = (lr.map fun t => tmps.getD t undef).toArray := by
      simp only [List.map_toArray, List.map_map]; rfl
    rw [e1, Result.andThen_ok, Sem.run_pure]
    congr 1
    cases lr with
    | nil => rfl
    | cons t l =>
      cases l with
      | nil => rfl
      | cons t2 l => simp [tupOf]
  · intro x hx
    simp only [List.mem_map] at hx
    obtain ⟨t, _, rfl⟩ := hx
    rfl

/-- **A FUNCTION**: its contract out of its lowered code. -/
theorem ACalls.ofFnW {f : FuncId} {L : LFn} (hL : lowFn P f = some L) (hok : FnOk P f) {args : List AVal} (hlen : args.length ≤ L.ntmps) {H : AHeap} {n : Nat} {Q : AVal → AHeap → Nat → Prop}
    (h : HOk n H → LWp P L.ntmps n L.body (FinK L.res Q) (initEnv 0 args) H n) : ACalls P f args H n Q := by
  refine ⟨hok, fun I β w vs hI hl hr => ?_⟩
  unfold lowFn at hL
  split at hL <;> try (cases hL; done)
  rename_i fn hfn
  split at hL <;> try (cases hL; done)
  rename_i c hc
  split at hL <;> try (cases hL; done)
  rename_i lc lr hlc hlr
  simp only [Option.some.injEq] at hL
  subst hL
  simp only at h hlen
  have hres := lowRes_spec _ _ hlr
  have hH : HOk n H := by
    refine ⟨fun id hid => hI.get_fresh hid, fun id blk hb => ?_⟩
    obtain ⟨c, _, hB⟩ := hI.blocks id blk hb
    exact blt_of hB
  refine calls_of_wp hfn hc ?_
  have hx := h hH
  refine hx c hlc I β H w I β w _ (Ext.refl _ _ _ _ _ hI.fresh) hI ?_ (by simp [hl]; omega) rfl _ ?_
  · intro t
    rw [initEnv_get, if_pos (Nat.zero_le t), Nat.sub_zero]
    cases hx : args[t]? with
    | none => exact .any _
    | some x =>
      have hlt : t < vs.length := by
        rcases Nat.lt_or_ge t vs.length with h | h
        · exact h
        · rw [List.getElem?_eq_none (by omega)] at hx; cases hx
      have : (vs.toArray ++ Array.replicate (fn.ntmps - vs.toArray.size) undef).getD t undef = vs[t] := by
        simp [Array.getD_eq_getD_getElem?, Array.getElem?_append, hlt]
      rw [this]
      exact hr t x vs[t] hx (List.getElem?_eq_getElem hlt)
  · intro ex e' H' n' I' β' w' a' g1 g2 g3 g4 g5 g6
    have fin : resNeeds e' lr ∧ Q (resVal (resVals e' lr)) H' n' → a'.defers = [] ∧ ∃ v, (results fn a'.tmps).run P w' = .ok v w' ∧ ∃ r v' H' n' I' β', Ending.returned v = .returned v' ∧ Q r H' n' ∧ Inv I' β' n' H' w' ∧ Rep I' β' n' w' r v' ∧ Ext I β n H w I' β' n' H' w' := by
      intro ⟨k1, k2⟩
      obtain ⟨q1, q2⟩ := resVals_rep g3 lr k1
      refine ⟨g5, _, results_run hres _ _, _, _, _, _, _, _, rfl, k2, g2, ?_, g6⟩
      cases lr with
      | nil => exact .tup [] #[] rfl (by simp)
      | cons t l =>
        cases l with
        | nil => exact q2 0 _ _ rfl rfl
        | cons t2 l =>
          refine .tup (resVals e' (t :: t2 :: l)) _ (by rw [q1]; simp) (fun i x v hx hv => q2 i x v hx ?_)
          simpa using hv
    cases ex with
    | normal => exact fin g1
    | ret => exact fin g1
    | _ => exact g1.elim

theorem ACalls.ofFn {f : FuncId} {L : LFn} (hL : lowFn P f = some L) (hok : FnOk P f) {args : List AVal} (hlen : args.length ≤ L.ntmps) {H : AHeap} {n : Nat} {Q : AVal → AHeap → Nat → Prop}
    (h : HOk n H → xcode P L.ntmps n L.body (FinK L.res Q) (initEnv 0 args) H n) : ACalls P f args H n Q :=
  ACalls.ofFnW hL hok hlen (fun hH => xcode_sound _ _ _ _ _ (h hH))
end Go.Fw
