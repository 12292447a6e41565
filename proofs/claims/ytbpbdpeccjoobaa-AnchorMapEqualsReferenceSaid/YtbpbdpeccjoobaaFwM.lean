/-
  Own framework, part M: functions that leave nothing behind but an immutable result.
-/
import Derived.Test.YtbpbdpeccjoobaaFwL
namespace Go.Fw

variable {P : Program}

/-- r, made of blocks of the call's own (from n on), read as an immutable value. -/
inductive Frz (n : Nat) (H : AHeap) : AVal → AVal → Prop
  | bool (b : Bool) : Frz n H (.bool b) (.bool b)
  | int (k : IntKind) (m : Int) : Frz n H (.int k m) (.int k m)
  | str (l : List UInt8) : Frz n H (.str l) (.str l)
  | val (v : Value) : Frz n H (.val v) (.val v)
  | nil (s : Nat) (f : Bool) : Frz n H (.val (.slice none 0 0)) (.isl s [] f)
  | isl (s : Nat) (es : List (List AVal)) (f : Bool) : Frz n H (.isl s es f) (.isl s es f)
  | iptr (s : Nat) (es : List (List AVal)) (i off : Nat) : Frz n H (.iptr s es i off) (.iptr s es i off)
  | agg (cs ds : List AVal) : cs.length = ds.length → (∀ (i : Nat) (x y : AVal), cs[i]? = some x → ds[i]? = some y → Frz n H x y) → Frz n H (.agg cs) (.agg ds)
  | tup (cs ds : List AVal) : cs.length = ds.length → (∀ (i : Nat) (x y : AVal), cs[i]? = some x → ds[i]? = some y → Frz n H x y) → Frz n H (.tup cs) (.tup ds)
  | msl (b s off len : Nat) (f : Bool) (es rows : List (List AVal)) : n ≤ b → H.get b = some (.rows s es) → off + len ≤ es.length → rows.length = len →
      (∀ (i : Nat) (r r' : List AVal), es[off + i]? = some r → rows[i]? = some r' → r.length = r'.length) →
      (∀ (i : Nat) (r r' : List AVal) (j : Nat) (x y : AVal), es[off + i]? = some r → rows[i]? = some r' → r[j]? = some x → r'[j]? = some y → Frz n H x y) → Frz n H (.msl b s off len f) (.isl s rows f)
  | ptr (b s i off : Nat) (es rows : List (List AVal)) : n ≤ b → H.get b = some (.rows s es) → rows.length = es.length →
      (∀ (i : Nat) (r r' : List AVal), es[i]? = some r → rows[i]? = some r' → r.length = r'.length) →
      (∀ (i : Nat) (r r' : List AVal) (j : Nat) (x y : AVal), es[i]? = some r → rows[i]? = some r' → r[j]? = some x → r'[j]? = some y → Frz n H x y) → Frz n H (.ptr b i off) (.iptr s rows i off)
  | fn (f : Fn) (first caps first' caps' : List AVal) : first.length = first'.length → caps.length = caps'.length → (∀ (i : Nat) (x y : AVal), first[i]? = some x → first'[i]? = some y → Frz n H x y) → (∀ (i : Nat) (x y : AVal), caps[i]? = some x → caps'[i]? = some y → Frz n H x y) → Frz n H (.fn f first caps) (.fn f first' caps')

section
variable {I : Nat → Prop} {β : Nat → Option CLoc} {n n0 : Nat} {H : AHeap} {w : World}

theorem get_of_len {α γ : Type} {l : List α} {a : Array γ} (h : a.size = l.length) {i : Nat} {v : γ} (hv : a[i]? = some v) : ∃ x, l[i]? = some x := by
  have hlt : i < a.size := by
    rcases Nat.lt_or_ge i a.size with h | h
    · exact h
    · rw [Array.getElem?_eq_none h] at hv; cases hv
  exact ⟨l[i]'(by omega), List.getElem?_eq_getElem (by omega)⟩
theorem get_of_len' {α γ : Type} {l : List α} {a : List γ} (h : a.length = l.length) {i : Nat} {v : γ} (hv : a[i]? = some v) : ∃ x, l[i]? = some x := by
  have hlt : i < a.length := by
    rcases Nat.lt_or_ge i a.length with h | h
    · exact h
    · rw [List.getElem?_eq_none h] at hv; cases hv
  exact ⟨l[i]'(by omega), List.getElem?_eq_getElem (by omega)⟩

/-- what is frozen with the call's own blocks -/
def frozenSet (I : Nat → Prop) (β : Nat → Option CLoc) (n0 : Nat) : Nat → Prop := fun b => I b ∨ ∃ id c, n0 ≤ id ∧ β id = some c ∧ c.blk = b

theorem Frz.repS {S : Nat → Prop} (hS : ∀ b, I b → S b) (hS2 : ∀ id c, n0 ≤ id → β id = some c → H.get id ≠ none → S c.blk) (hI : Inv I β n H w) {x y : AVal} (h : Frz n0 H x y) : ∀ {v : Value}, Rep I β n w x v → RepI S w y v := by
  have up : ∀ {x : AVal} {v : Value}, RepI I w x v → RepI S w x v := fun h => h.mono hS (fun _ _ => rfl)
  induction h with
  | bool b => intro v h; rw [h.bool_inv]; exact .bool b
  | int k m => intro v h; rw [h.int_inv]; exact .int k m
  | str l => intro v h; rw [h.str_inv]; exact .str l
  | val u => intro v h; cases h with | imm _ _ h => exact up h
  | nil s f => intro v h; rw [h.val_inv]; exact .islNil s f
  | isl s es f => intro v h; cases h with | imm _ _ h => exact up h
  | iptr s es i off => intro v h; cases h with | imm _ _ h => exact up h
  | agg cs ds hl _ ih =>
    intro v h
    obtain ⟨vs, rfl, h1, h2, h3⟩ := h.agg_inv
    refine .agg ds vs (by omega) h2 fun i y v hy hv => ?_
    obtain ⟨x, hx⟩ := get_of_len h1 hv
    exact ih i x y hx hy (h3 i x v hx hv)
  | tup cs ds hl _ ih =>
    intro v h
    have : ∃ vs, v = .tuple vs ∧ vs.size = cs.length ∧ ∀ (i : Nat) (y : AVal) (u : Value), cs[i]? = some y → vs[i]? = some u → Rep I β n w y u := by
      cases h with
      | tup _ vs h1 h2 => exact ⟨vs, rfl, h1, h2⟩
      | imm _ _ hx =>
        cases hx with
        | tup _ vs h1 h2 => exact ⟨vs, rfl, h1, fun i y u hy hu => .imm _ _ (h2 i y u hy hu)⟩
    obtain ⟨vs, rfl, h1, h3⟩ := this
    refine .tup ds vs (by omega) fun i y v hy hv => ?_
    obtain ⟨x, hx⟩ := get_of_len h1 hv
    exact ih i x y hx hy (h3 i x v hx hv)
  | msl b s off len f es rows hb hg hlen hrl hrow _ ih =>
    intro v h
    obtain ⟨c, hc, hcs, _, _, hbase, hlens, hcell⟩ := hI.blocks b _ hg
    cases h with
    | imm _ _ h => cases h
    | msl _ _ _ _ _ ad cap hbn hcap hf hp =>
      by_cases h0 : len = 0
      · subst h0
        have : rows = [] := List.length_eq_zero_iff.1 hrl
        subst this
        exact .islEmpty s f ad cap hf
      · obtain ⟨k1, k2⟩ := (hp c hc).2 (by omega)
        subst k1
        have key : ∀ i j, (∃ r' y, rows[i]? = some r' ∧ r'[j]? = some y) → ∃ u, w.cell? ⟨c.blk, c.base + off * s + i * s + j, none⟩ = some u ∧ isCell u = true ∧ ∀ r' y, rows[i]? = some r' → r'[j]? = some y → RepI (S) w y u := by
          intro i j ⟨r', y, hr', hy⟩
          have hi : i < len := by
            rcases Nat.lt_or_ge i len with h | h
            · exact h
            · rw [List.getElem?_eq_none (by omega)] at hr'; cases hr'
          have hr : es[off + i]? = some (es[off + i]'(by omega)) := List.getElem?_eq_getElem (by omega)
          obtain ⟨x, hx⟩ := get_of_len' (hrow i _ r' hr hr').symm hy
          obtain ⟨u, g1, g2, g3⟩ := hcell (off + i) _ j x hr hx
          refine ⟨u, ?_, g2, fun r'' y' hr'' hy' => ?_⟩
          · rw [← g1, Nat.add_mul]; congr 2; omega
          · rw [hr'] at hr''; simp only [Option.some.injEq] at hr''; subst hr''
            exact ih i _ r' j x y' hr hr' hx hy' g3
        let vf : Nat → Nat → Value := fun i j => by
          classical
          exact if h : ∃ r' y, rows[i]? = some r' ∧ r'[j]? = some y then Classical.choose (key i j h) else default
        have hvf : ∀ i j r' y, rows[i]? = some r' → r'[j]? = some y → w.cell? ⟨c.blk, c.base + off * s + i * s + j, none⟩ = some (vf i j) ∧ isCell (vf i j) = true ∧ RepI (S) w y (vf i j) := by
          intro i j r' y hr' hy
          have hex : ∃ r' y, rows[i]? = some r' ∧ r'[j]? = some y := ⟨r', y, hr', hy⟩
          have : vf i j = Classical.choose (key i j hex) := by simp only [vf]; rw [dif_pos hex]
          rw [this]
          obtain ⟨g1, g2, g3⟩ := Classical.choose_spec (key i j hex)
          exact ⟨g1, g2, g3 r' y hr' hy⟩
        subst hrl
        refine .isl s rows f c.blk (c.base + off * s) cap vf (hS2 b c hb hc (by rw [hg]; simp)) hcap hf ?_ ?_ ?_ ?_
        · intro i r' hr'
          have hi : i < rows.length := by
            rcases Nat.lt_or_ge i rows.length with h | h
            · exact h
            · rw [List.getElem?_eq_none (by omega)] at hr'; cases hr'
          have hr : es[off + i]? = some (es[off + i]'(by omega)) := List.getElem?_eq_getElem (by omega)
          rw [← hrow i _ r' hr hr']; exact hlens _ _ hr
        · intro i r j x hi hj; exact (hvf i j r x hi hj).1
        · intro i r j x hi hj; exact (hvf i j r x hi hj).2.1
        · intro i r j x hi hj; exact (hvf i j r x hi hj).2.2
  | ptr b s i0 off es rows hb hg hrl hrow _ ih =>
    intro v h
    obtain ⟨c, hc, hcs, _, _, hbase, hlens, hcell⟩ := hI.blocks b _ hg
    cases h with
    | imm _ _ h => cases h
    | ptr _ _ _ ad hbn hp =>
      have hp := hp c hc
      subst hp
      rw [hcs]
      have key : ∀ i j, (∃ r' y, rows[i]? = some r' ∧ r'[j]? = some y) → ∃ u, w.cell? ⟨c.blk, c.base + i * s + j, none⟩ = some u ∧ isCell u = true ∧ ∀ r' y, rows[i]? = some r' → r'[j]? = some y → RepI (S) w y u := by
        intro i j ⟨r', y, hr', hy⟩
        obtain ⟨r, hr⟩ := get_of_len' hrl hr'
        obtain ⟨x, hx⟩ := get_of_len' (hrow i _ r' hr hr').symm hy
        obtain ⟨u, g1, g2, g3⟩ := hcell i _ j x hr hx
        refine ⟨u, g1, g2, fun r'' y' hr'' hy' => ?_⟩
        rw [hr'] at hr''; simp only [Option.some.injEq] at hr''; subst hr''
        exact ih i _ r' j x y' hr hr' hx hy' g3
      let vf : Nat → Nat → Value := fun i j => by
        classical
        exact if h : ∃ r' y, rows[i]? = some r' ∧ r'[j]? = some y then Classical.choose (key i j h) else default
      have hvf : ∀ i j r' y, rows[i]? = some r' → r'[j]? = some y → w.cell? ⟨c.blk, c.base + i * s + j, none⟩ = some (vf i j) ∧ isCell (vf i j) = true ∧ RepI (S) w y (vf i j) := by
        intro i j r' y hr' hy
        have hex : ∃ r' y, rows[i]? = some r' ∧ r'[j]? = some y := ⟨r', y, hr', hy⟩
        have : vf i j = Classical.choose (key i j hex) := by simp only [vf]; rw [dif_pos hex]
        rw [this]
        obtain ⟨g1, g2, g3⟩ := Classical.choose_spec (key i j hex)
        exact ⟨g1, g2, g3 r' y hr' hy⟩
      refine .iptr s rows c.blk c.base i0 off vf (hS2 b c hb hc (by rw [hg]; simp)) ?_ ?_ ?_ ?_
      · intro i r' hr'
        obtain ⟨r, hr⟩ := get_of_len' hrl hr'
        rw [← hrow i _ r' hr hr']; exact hlens _ _ hr
      · intro i r j x hi hj; exact (hvf i j r x hi hj).1
      · intro i r j x hi hj; exact (hvf i j r x hi hj).2.1
      · intro i r j x hi hj; exact (hvf i j r x hi hj).2.2
  | fn f first caps first' caps' hl1 hl2 _ _ ih1 ih2 =>
    intro v h
    have hfn : ∃ fs cs : Array Value, v = .func f fs cs ∧ fs.size = first.length ∧ cs.size = caps.length ∧ (∀ (i : Nat) (x : AVal) (v : Value), first[i]? = some x → fs[i]? = some v → Rep I β n w x v) ∧ (∀ (i : Nat) (x : AVal) (v : Value), caps[i]? = some x → cs[i]? = some v → Rep I β n w x v) := by
      cases h with
      | fn _ _ _ fs cs h1 h2 h3 h4 => exact ⟨fs, cs, rfl, h1, h2, h3, h4⟩
      | imm _ _ hr =>
        cases hr with
        | fn _ _ _ fs cs h1 h2 h3 h4 => exact ⟨fs, cs, rfl, h1, h2, fun i x v p q => .imm _ _ (h3 i x v p q), fun i x v p q => .imm _ _ (h4 i x v p q)⟩
    obtain ⟨fs, cs, rfl, k1, k2, k3, k4⟩ := hfn
    refine .fn f first' caps' fs cs (by omega) (by omega) (fun i y v hy hv => ?_) (fun i y v hy hv => ?_)
    · obtain ⟨x, hx⟩ := get_of_len k1 hv
      exact ih1 i x y hx hy (k3 i x v hx hv)
    · obtain ⟨x, hx⟩ := get_of_len k2 hv
      exact ih2 i x y hx hy (k4 i x v hx hv)
theorem Frz.repI (hI : Inv I β n H w) {x y : AVal} (h : Frz n0 H x y) {v : Value} (hr : Rep I β n w x v) : RepI (frozenSet I β n0) w y v :=
  h.repS (fun _ hb => .inl hb) (fun id c hid hc _ => .inr ⟨id, c, hid, hc, rfl⟩) hI hr
end

/-- the contract of a function that leaves nothing behind but the immutable R -/
def PureRes (R : AVal) (H : AHeap) (n : Nat) : AVal → AHeap → Nat → Prop := fun r H' n' => r = R ∧ H' = H ∧ n' = n
/-- what its code has to show -/
def PureEnd (R : AVal) (H : AHeap) (n : Nat) : AVal → AHeap → Nat → Prop := fun r H' n' => Frz n H' r R ∧ Keeps H H' ∧ n ≤ n'

theorem ACalls.pure {f : FuncId} {args : List AVal} {H : AHeap} {n : Nat} {R : AVal} (h : ACalls P f args H n (PureEnd R H n)) : ACalls P f args H n (PureRes R H n) := by
  refine ⟨h.1, fun I β w vs hI hl hr => (h.2 I β w vs hI hl hr).mono ?_⟩
  rintro ee w' ⟨r, v, H', n', I', β', he, ⟨h1, h2, h3⟩, hI', hr', hx⟩
  have hH : HOk n H := by
    refine ⟨fun id hid => hI.get_fresh hid, fun id blk hb => ?_⟩
    obtain ⟨c, _, hB⟩ := hI.blocks id blk hb
    exact blt_of hB
  have hcut := hI'.cut (m := n) (H2 := H) (fun id blk hb => ⟨h2 id blk hb, (hH.at (Nat.le_refl n) id blk hb)⟩)
  refine ⟨R, v, H, n, frozenSet I' β' n, restrict β' n, he, ⟨rfl, rfl, rfl⟩, ?_, .imm _ _ (h1.repI hI' hr'), ?_⟩
  · refine ⟨?_, hcut.inj, ?_, ?_, hcut.fresh⟩
    · intro id blk hb
      obtain ⟨c, hc, hB⟩ := hcut.blocks id blk hb
      exact ⟨c, hc, hB.mono' (fun b hb => .inl hb) (fun _ _ => rfl) (Nat.le_refl n) (fun _ _ _ h => h) rfl⟩
    · intro i c hc
      refine ⟨?_, (hcut.own i c hc).2⟩
      rintro (h | ⟨id, d, hid, hd, heq⟩)
      · exact (hcut.own i c hc).1 h
      · obtain ⟨hi, hc'⟩ := restrict_some hc
        have := hI'.inj id i d c hd hc' heq
        omega
    · rintro b (h | ⟨id, d, hid, hd, heq⟩)
      · exact hI'.imm b h
      · rw [← heq]; exact (hI'.own id d hd).2
  · refine ⟨hx.os, hx.tape, hx.output, hx.size, hx.frame, fun b hb => .inl (hx.imm b hb), ?_, ?_, ?_, fun id _ h => h, Nat.le_refl n⟩
    · rintro b (h | ⟨id, d, hid, hd, heq⟩) hn hlt
      · exact hx.immNew b h hn hlt
      · rcases hx.new id d hid hd with h | ⟨i0, c0, g1, g2, g3⟩
        · omega
        · exact ⟨i0, c0, g1, g2.trans heq, g3⟩
    · intro id hid
      rw [restrict_lt hid]; exact hx.old id hid
    · intro id c hid hc
      rw [restrict_ge hid] at hc; cases hc

/-- The contract, for every heap. -/
def PFn (P : Program) (f : FuncId) (args : List AVal) (R : AVal) : Prop := ∀ H n, ACalls P f args H n (PureRes R H n)

theorem PFn.ofFn {f : FuncId} {L : LFn} (hL : lowFn P f = some L) (hok : FnOk P f) {args : List AVal} (hlen : args.length ≤ L.ntmps) {R : AVal}
    (h : ∀ H n, HOk n H → xcode P L.ntmps n L.body (FinK L.res (PureEnd R H n)) (initEnv 0 args) H n) : PFn P f args R :=
  fun H n => ACalls.pure (ACalls.ofFn hL hok hlen (h H n))

theorem PFn.use {f : FuncId} {args : List AVal} {R : AVal} (h : PFn P f args R) {H : AHeap} {n : Nat} {K : AVal → AHeap → Nat → Prop} (hk : K R H n) : ACalls P f args H n K :=
  (h H n).mono (by rintro r H' n' ⟨rfl, rfl, rfl⟩; exact hk)
end Go.Fw
