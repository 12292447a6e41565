/-
  Own framework, part F: how the abstract heap grows and changes: a new block, a store, an append in place.
-/
import Derived.Test.YtbpbdpeccjoobaaFwE
namespace Go.Fw

variable {P : Program}

theorem AHeap.get_cons_same (H : AHeap) (k : Nat) (b : ABlock) : AHeap.get ((k, b) :: H) k = some b := by simp [AHeap.get]
theorem AHeap.get_cons_other (H : AHeap) {k t : Nat} (b : ABlock) (h : k ≠ t) : AHeap.get ((k, b) :: H) t = H.get t := by simp [AHeap.get, h]
theorem AHeap.get_set (H : AHeap) (k t : Nat) (b : ABlock) : (H.set k b).get t = if k = t then (H.get t).map (fun _ => b) else H.get t := by
  induction H with
  | nil => simp [AHeap.set, AHeap.get]
  | cons x H ih =>
    obtain ⟨j, c⟩ := x
    unfold AHeap.set
    by_cases hjk : j = k
    · subst hjk
      by_cases hjt : j = t <;> simp [AHeap.get, hjt]
    · rw [if_neg hjk]
      by_cases hjt : j = t
      · subst hjt
        have : ¬ k = j := fun h => hjk h.symm
        simp [AHeap.get, this]
      · simp only [AHeap.get, if_neg hjt]; exact ih
theorem AHeap.get_del (H : AHeap) (k t : Nat) : (H.del k).get t = if k = t then none else H.get t := by
  induction H with
  | nil => simp [AHeap.del, AHeap.get]
  | cons x H ih =>
    obtain ⟨j, c⟩ := x
    unfold AHeap.del
    by_cases hjk : j = k
    · subst hjk
      rw [if_pos rfl, ih]
      by_cases hjt : j = t
      · rw [if_pos hjt, if_pos hjt]
      · rw [if_neg hjt, if_neg hjt]; simp [AHeap.get, hjt]
    · rw [if_neg hjk]
      by_cases hjt : j = t
      · subst hjt
        have : ¬ k = j := fun h => hjk h.symm
        simp [AHeap.get, this]
      · simp only [AHeap.get, if_neg hjt]; exact ih

def upd (β : Nat → Option CLoc) (k : Nat) (c : Option CLoc) : Nat → Option CLoc := fun i => if i = k then c else β i
theorem upd_same (β : Nat → Option CLoc) (k : Nat) (c : Option CLoc) : upd β k c k = c := by simp [upd]
theorem upd_other (β : Nat → Option CLoc) {k i : Nat} (c : Option CLoc) (h : i ≠ k) : upd β k c i = β i := by simp [upd, h]

section
variable {I I' : Nat → Prop} {β β' : Nat → Option CLoc} {n n' : Nat} {H H' : AHeap} {w w' : World}

theorem RepB.mono' (hI : ∀ b, I b → I' b) (hw : ∀ b, I b → w'.heap[b]? = w.heap[b]?) (hn : n ≤ n') (hβ : ∀ id c, id < n → β' id = some c → β id = some c) {c : CLoc} {blk : ABlock}
    (hh : w'.heap[c.blk]? = w.heap[c.blk]?) (h : RepB I β n w c blk) : RepB I' β' n' w' c blk := by
  cases blk with
  | amap _ => exact h
  | rows s es =>
    obtain ⟨h1, ⟨arr, el, fr, h2, h2'⟩, h3, h4, h5, h6⟩ := h
    refine ⟨h1, ⟨arr, el, fr, hh.trans h2, h2'⟩, fun k hk => (frozen?_of_heap hh).trans (h3 k hk), h4, h5, fun i r j x hi hj => ?_⟩
    obtain ⟨v, g1, g2, g3⟩ := h6 i r j x hi hj
    exact ⟨v, (cell?_of_heap hh).trans g1, g2, g3.mono' hI hw hn hβ⟩

/-- The world behind a new block, whatever was drawn. -/
structure Pushed (w w' : World) (o : Obj) : Prop where
  os : w'.os = w.os
  tape : w'.tape = w.tape
  output : w'.output = w.output
  heap : w'.heap = w.heap.push o
theorem Pushed.old {o : Obj} (h : Pushed w w' o) {b : Nat} (hb : b < w.heap.size) : w'.heap[b]? = w.heap[b]? := by
  rw [h.heap, Array.getElem?_push, if_neg (by omega)]
theorem Pushed.new {o : Obj} (h : Pushed w w' o) : w'.heap[w.heap.size]? = some o := by
  rw [h.heap, Array.getElem?_push, if_pos rfl]

/-- rows that lie in an array of cells from 'base' on -/
def RowsIn (I : Nat → Prop) (β : Nat → Option CLoc) (n : Nat) (w : World) (s base : Nat) (es : List (List AVal)) (arr : Array Value) : Prop :=
  base + es.length * s ≤ arr.size ∧ (∀ (i : Nat) (r : List AVal), es[i]? = some r → r.length = s) ∧
  ∀ (i : Nat) (r : List AVal) (j : Nat) (x : AVal), es[i]? = some r → r[j]? = some x → ∃ v, arr[base + i * s + j]? = some v ∧ isCell v = true ∧ Rep I β n w x v

theorem Inv.get_fresh (hI : Inv I β n H w) {k : Nat} (hk : n ≤ k) : H.get k = none := by
  cases h : H.get k with
  | none => rfl
  | some b =>
    obtain ⟨c, hc, _⟩ := hI.blocks k b h
    rw [hI.fresh k hk] at hc; cases hc

/-- **A NEW BLOCK.** -/
theorem inv_new (hI : Inv I β n H w) {arr : Array Value} {el : TypeId} {fr : Nat × Nat} {s : Nat} {es : List (List AVal)} (hp : Pushed w w' (.cells arr el fr)) (hfr : ∀ k, k < arr.size → (fr.1 ≤ k && k < fr.2) = false)
    (hr : RowsIn I β n w s 0 es arr) :
    Inv I (upd β n (some ⟨w.heap.size, 0, s, arr.size⟩)) (n + 1) ((n, .rows s es) :: H) w' ∧
    Ext I β n H w I (upd β n (some ⟨w.heap.size, 0, s, arr.size⟩)) (n + 1) ((n, .rows s es) :: H) w' := by
  have hsz : w'.heap.size = w.heap.size + 1 := by rw [hp.heap]; simp
  have hheap : ∀ b, I b → w'.heap[b]? = w.heap[b]? := fun b hb => hp.old (hI.imm b hb)
  have hback : ∀ id c, id < n → upd β n (some ⟨w.heap.size, 0, s, arr.size⟩) id = some c → β id = some c := fun id c hid h => by rwa [upd_other _ _ (by omega)] at h
  obtain ⟨hr1, hr2, hr3⟩ := hr
  constructor
  · refine ⟨?_, ?_, ?_, ?_, ?_⟩
    · intro id blk hid
      by_cases h : n = id
      · subst h
        rw [AHeap.get_cons_same] at hid
        simp only [Option.some.injEq] at hid
        subst hid
        refine ⟨_, upd_same _ _ _, rfl, ⟨arr, el, fr, hp.new, rfl⟩, ?_, by simpa using hr1, hr2, ?_⟩
        · intro k hk
          have := hfr k hk
          unfold World.frozen?
          simp only [hp.new]
          exact this
        · intro i r j x hi hj
          obtain ⟨v, g1, g2, g3⟩ := hr3 i r j x hi hj
          refine ⟨v, ?_, g2, g3.mono' (fun _ h => h) hheap (Nat.le_succ n) hback⟩
          unfold World.cell?
          simp only [hp.new]
          simpa using g1
      · rw [AHeap.get_cons_other _ _ h] at hid
        obtain ⟨c, hc, hb⟩ := hI.blocks id blk hid
        have hne : id ≠ n := fun h' => h h'.symm
        exact ⟨c, by rw [upd_other _ _ hne]; exact hc, hb.mono' (fun _ h => h) hheap (Nat.le_succ n) hback (hp.old (hI.own id c hc).2)⟩
    · intro i j c d hc hd heq
      by_cases h1 : i = n <;> by_cases h2 : j = n
      · rw [h1, h2]
      · subst h1
        rw [upd_same] at hc; rw [upd_other _ _ h2] at hd
        simp only [Option.some.injEq] at hc
        have := (hI.own j d hd).2
        rw [← heq, ← hc] at this
        simp at this
      · subst h2
        rw [upd_same] at hd; rw [upd_other _ _ h1] at hc
        simp only [Option.some.injEq] at hd
        have := (hI.own i c hc).2
        rw [heq, ← hd] at this
        simp at this
      · rw [upd_other _ _ h1] at hc; rw [upd_other _ _ h2] at hd
        exact hI.inj i j c d hc hd heq
    · intro i c hc
      by_cases h : i = n
      · subst h
        rw [upd_same] at hc
        simp only [Option.some.injEq] at hc
        subst hc
        exact ⟨fun h => by have := hI.imm _ h; simp at this, by simp [hsz]⟩
      · rw [upd_other _ _ h] at hc
        have := hI.own i c hc
        exact ⟨this.1, by omega⟩
    · intro b hb
      have := hI.imm b hb
      omega
    · intro id hid
      rw [upd_other _ _ (by omega)]
      exact hI.fresh id (by omega)
  · refine ⟨hp.os, hp.tape, hp.output, by omega, fun b hb _ => hp.old hb, fun _ h => h, fun b h h' => absurd h h', ?_, ?_, ?_, Nat.le_succ n⟩
    · intro id hid
      exact .inl (upd_other _ _ (by omega))
    · intro id c hid hc
      by_cases h : id = n
      · subst h
        rw [upd_same] at hc
        simp only [Option.some.injEq] at hc
        subst hc
        exact .inl (Nat.le_refl _)
      · rw [upd_other _ _ h, hI.fresh id hid] at hc; cases hc
    · intro id hid hg
      rwa [AHeap.get_cons_other _ _ (by omega)] at hg

/-- A world that differs from w in the cells of one block alone. -/
structure Wrote (w w' : World) (b : Nat) : Prop where
  os : w'.os = w.os
  tape : w'.tape = w.tape
  output : w'.output = w.output
  size : w'.heap.size = w.heap.size
  other : ∀ k, k ≠ b → w'.heap[k]? = w.heap[k]?
  shape : ∀ arr el fr, w.heap[b]? = some (.cells arr el fr) → ∃ arr', w'.heap[b]? = some (.cells arr' el fr) ∧ arr'.size = arr.size
theorem Wrote.refl (w : World) (b : Nat) : Wrote w w b := ⟨rfl, rfl, rfl, rfl, fun _ _ => rfl, fun arr _ _ h => ⟨arr, h, rfl⟩⟩
theorem Wrote.trans {b : Nat} {w'' : World} (h : Wrote w w' b) (k : Wrote w' w'' b) : Wrote w w'' b := by
  refine ⟨k.os.trans h.os, k.tape.trans h.tape, k.output.trans h.output, k.size.trans h.size, fun i hi => (k.other i hi).trans (h.other i hi), fun arr el fr hb => ?_⟩
  obtain ⟨arr', h1, h2⟩ := h.shape arr el fr hb
  obtain ⟨arr'', h3, h4⟩ := k.shape arr' el fr h1
  exact ⟨arr'', h3, h4.trans h2⟩
theorem Wrote.setCell (w : World) (a : Addr) (v : Value) : Wrote w (w.setCell a v) a.block := by
  refine ⟨rfl, rfl, rfl, by simp, fun k hk => ?_, fun arr el fr hb => ?_⟩
  · simp only [World.setCell, Array.getElem?_modify]
    rw [if_neg (fun h => hk h.symm)]
  · refine ⟨if a.spot.isSome then arr else arr.setIfInBounds a.off v, ?_, by split <;> simp⟩
    simp only [World.setCell, Array.getElem?_modify, hb]
    simp

theorem oneCell_of {v : Value} (h : isCell v = true) : v.oneCell' = true := by cases v <;> simp [isCell] at h <;> rfl

theorem storeCells_ok : ∀ (vs : List Value) (i : Nat) (w : World) (b o : Nat), (∀ j, i ≤ j → j < i + vs.length → ∃ u, w.cell? ⟨b, o + j, none⟩ = some u) → (∀ j, i ≤ j → j < i + vs.length → w.frozen? ⟨b, o + j, none⟩ = false) → (∀ v ∈ vs, isCell v = true) →
    ∃ w', (storeCells ⟨b, o, none⟩ vs i).run P w = .ok () w' ∧ Wrote w w' b ∧ (∀ k, (k < o + i ∨ o + i + vs.length ≤ k) → w'.cell? ⟨b, k, none⟩ = w.cell? ⟨b, k, none⟩) ∧ (∀ j, j < vs.length → w'.cell? ⟨b, o + i + j, none⟩ = vs[j]?)
  | [], i, w, b, o, _, _, _ => ⟨w, rfl, .refl w b, fun _ _ => rfl, fun j hj => by simp at hj⟩
  | v :: vs, i, w, b, o, h1, h2, h3 => by
    obtain ⟨u, hu⟩ := h1 i (Nat.le_refl _) (by simp)
    have hf := h2 i (Nat.le_refl _) (by simp)
    have hrun : (store ((⟨b, o, none⟩ : Addr).add i) v).run P w = .ok () (w.setCell ⟨b, o + i, none⟩ v) := by
      rw [add_plain, run_store P w _ v _ (oneCell_of (h3 v (by simp)))]
      simp [hu, hf]
    obtain ⟨w', g1, g2, g3, g4⟩ := storeCells_ok vs (i + 1) (w.setCell ⟨b, o + i, none⟩ v) b o
      (fun j hj hlt => by
        obtain ⟨u', hu'⟩ := h1 j (by omega) (by simp; omega)
        exact ⟨u', by rw [World.cell?_setCell_other _ _ _ _ (by simp; omega)]; exact hu'⟩)
      (fun j hj hlt => by rw [World.frozen?_setCell]; exact h2 j (by omega) (by simp; omega)) (fun v hv => h3 v (by simp [hv]))
    refine ⟨w', ?_, (Wrote.setCell w ⟨b, o + i, none⟩ v).trans g2, ?_, ?_⟩
    · unfold storeCells
      rw [Sem.run_bind, hrun, Result.andThen_ok, g1]
    · intro k hk
      simp only [List.length_cons] at hk
      rw [g3 k (by omega), World.cell?_setCell_other _ _ _ _ (by simp; omega)]
    · intro j hj
      cases j with
      | zero =>
        rw [g3 (o + i + 0) (by omega)]
        simp only [Nat.add_zero, List.getElem?_cons_zero]
        exact World.cell?_setCell_same _ _ _ hu
      | succ j =>
        have := g4 j (by simpa using hj)
        rw [List.getElem?_cons_succ, ← this]
        congr 2
        omega

/-- **A WRITE into a block that the abstract heap holds.** -/
theorem inv_write (hI : Inv I β n H w) {b : Nat} {c : CLoc} {s : Nat} {es es' : List (List AVal)} (hb : H.get b = some (.rows s es)) (hc : β b = some c) (hw : Wrote w w' c.blk)
    (hlen : es'.length ≤ es.length) (hrow : ∀ (i : Nat) (r : List AVal), es'[i]? = some r → r.length = s)
    (hcell : ∀ (i : Nat) (r : List AVal) (j : Nat) (x : AVal), es'[i]? = some r → r[j]? = some x → ∃ v, w'.cell? ⟨c.blk, c.base + i * s + j, none⟩ = some v ∧ isCell v = true ∧ Rep I β n w x v) :
    Inv I β n (H.set b (.rows s es')) w' ∧ Ext I β n H w I β n (H.set b (.rows s es')) w' := by
  have hheap : ∀ k, I k → w'.heap[k]? = w.heap[k]? := fun k hk => hw.other k (fun h => (hI.own b c hc).1 (h ▸ hk))
  obtain ⟨c', hc', hB⟩ := hI.blocks b _ hb
  rw [hc] at hc'
  simp only [Option.some.injEq] at hc'
  subst hc'
  obtain ⟨h1, ⟨arr, el, fr, h2, h2'⟩, h3, h4, h5, h6⟩ := hB
  obtain ⟨arr', k1, k2⟩ := hw.shape arr el fr h2
  have hget : ∀ t, (H.set b (.rows s es')).get t ≠ none → H.get t ≠ none := by
    intro t ht
    rw [AHeap.get_set] at ht
    split at ht
    · intro h; rw [h] at ht; simp at ht
    · exact ht
  constructor
  · refine ⟨?_, hI.inj, fun i d hd => ?_, fun k hk => by have := hI.imm k hk; rw [hw.size]; exact this, hI.fresh⟩
    · intro id blk hid
      rw [AHeap.get_set] at hid
      by_cases h : b = id
      · subst h
        rw [if_pos rfl, hb] at hid
        simp only [Option.map_some, Option.some.injEq] at hid
        subst hid
        refine ⟨c, hc, h1, ⟨arr', el, fr, k1, k2.trans h2'⟩, ?_, ?_, hrow, ?_⟩
        · intro k hk
          have := h3 k hk
          unfold World.frozen? at this ⊢
          simp only [k1]
          simp only [h2] at this
          exact this
        · have := Nat.mul_le_mul_right s hlen
          omega
        · intro i r j x hi hj
          obtain ⟨v, g1, g2, g3⟩ := hcell i r j x hi hj
          exact ⟨v, g1, g2, g3.mono' (fun _ h => h) hheap (Nat.le_refl n) (fun _ _ _ h => h)⟩
      · rw [if_neg h] at hid
        obtain ⟨d, hd, hB⟩ := hI.blocks id blk hid
        exact ⟨d, hd, hB.mono' (fun _ h => h) hheap (Nat.le_refl n) (fun _ _ _ h => h) (hw.other _ (fun heq => h (hI.inj id b d c hd hc heq).symm))⟩
    · have := hI.own i d hd
      exact ⟨this.1, by rw [hw.size]; exact this.2⟩
  · refine ⟨hw.os, hw.tape, hw.output, by rw [hw.size]; exact Nat.le_refl _, ?_, fun _ h => h, fun k h h' => absurd h h', fun id _ => .inl rfl, ?_, fun id _ h => hget id h, Nat.le_refl n⟩
    · intro k _ hn
      exact hw.other k (fun h => hn b c hc (by rw [hb]; simp) h.symm)
    · intro id d hid hd
      rw [hI.fresh id hid] at hd; cases hd

/-- **A BLOCK THAT MOVES ON**: an append in place: what was block b is block n from now on. -/
theorem inv_move (hI : Inv I β n H w) {b : Nat} {c : CLoc} {s off : Nat} {es es' : List (List AVal)} (hb : H.get b = some (.rows s es)) (hc : β b = some c) (hw : Wrote w w' c.blk)
    (hlen : c.base + off * s + es'.length * s ≤ c.size) (hrow : ∀ (i : Nat) (r : List AVal), es'[i]? = some r → r.length = s)
    (hcell : ∀ (i : Nat) (r : List AVal) (j : Nat) (x : AVal), es'[i]? = some r → r[j]? = some x → ∃ v, w'.cell? ⟨c.blk, c.base + off * s + i * s + j, none⟩ = some v ∧ isCell v = true ∧ Rep I β n w x v) :
    Inv I (upd (upd β b none) n (some ⟨c.blk, c.base + off * s, s, c.size⟩)) (n + 1) ((n, .rows s es') :: H.del b) w' ∧
    Ext I β n H w I (upd (upd β b none) n (some ⟨c.blk, c.base + off * s, s, c.size⟩)) (n + 1) ((n, .rows s es') :: H.del b) w' := by
  have hbn : b < n := by
    rcases Nat.lt_or_ge b n with h | h
    · exact h
    · rw [hI.fresh b h] at hc; cases hc
  have hheap : ∀ k, I k → w'.heap[k]? = w.heap[k]? := fun k hk => hw.other k (fun h => (hI.own b c hc).1 (h ▸ hk))
  obtain ⟨c', hc', hB⟩ := hI.blocks b _ hb
  rw [hc] at hc'
  simp only [Option.some.injEq] at hc'
  subst hc'
  obtain ⟨h1, ⟨arr, el, fr, h2, h2'⟩, h3, h4, h5, h6⟩ := hB
  obtain ⟨arr', k1, k2⟩ := hw.shape arr el fr h2
  have hval : ∀ id d, upd (upd β b none) n (some ⟨c.blk, c.base + off * s, s, c.size⟩) id = some d → (id = n ∧ d = ⟨c.blk, c.base + off * s, s, c.size⟩) ∨ (id ≠ n ∧ id ≠ b ∧ β id = some d) := by
    intro id d hd
    by_cases h : id = n
    · subst h; rw [upd_same] at hd; simp only [Option.some.injEq] at hd; exact .inl ⟨rfl, hd.symm⟩
    · rw [upd_other _ _ h] at hd
      by_cases h' : id = b
      · subst h'; rw [upd_same] at hd; cases hd
      · rw [upd_other _ _ h'] at hd; exact .inr ⟨h, h', hd⟩
  have hback : ∀ id d, id < n → upd (upd β b none) n (some ⟨c.blk, c.base + off * s, s, c.size⟩) id = some d → β id = some d := by
    intro id d hid hd
    rcases hval id d hd with ⟨h, _⟩ | ⟨_, _, h⟩
    · omega
    · exact h
  constructor
  · refine ⟨?_, ?_, ?_, fun k hk => by have := hI.imm k hk; rw [hw.size]; exact this, ?_⟩
    · intro id blk hid
      by_cases h : n = id
      · subst h
        rw [AHeap.get_cons_same] at hid
        simp only [Option.some.injEq] at hid
        subst hid
        refine ⟨_, upd_same _ _ _, rfl, ⟨arr', el, fr, k1, k2.trans h2'⟩, ?_, hlen, hrow, ?_⟩
        · intro k hk
          have := h3 k hk
          unfold World.frozen? at this ⊢
          simp only [k1]
          simp only [h2] at this
          exact this
        · intro i r j x hi hj
          obtain ⟨v, g1, g2, g3⟩ := hcell i r j x hi hj
          exact ⟨v, g1, g2, g3.mono' (fun _ h => h) hheap (Nat.le_succ n) hback⟩
      · rw [AHeap.get_cons_other _ _ h, AHeap.get_del] at hid
        split at hid
        · cases hid
        · rename_i hne
          obtain ⟨d, hd, hB⟩ := hI.blocks id blk hid
          refine ⟨d, ?_, hB.mono' (fun _ h => h) hheap (Nat.le_succ n) hback (hw.other _ (fun heq => hne (hI.inj id b d c hd hc heq).symm))⟩
          rw [upd_other _ _ (fun h' => h h'.symm), upd_other _ _ (fun h' => hne h'.symm)]
          exact hd
    · intro i j d d' hd hd' heq
      rcases hval i d hd with ⟨h1, h1'⟩ | ⟨h1, h1', h1''⟩ <;> rcases hval j d' hd' with ⟨g1, g1'⟩ | ⟨g1, g1', g1''⟩
      · rw [h1, g1]
      · exact absurd (hI.inj j b d' c g1'' hc (by rw [← heq, h1'])) g1'
      · exact absurd (hI.inj i b d c h1'' hc (by rw [heq, g1'])) h1'
      · exact hI.inj i j d d' h1'' g1'' heq
    · intro i d hd
      rcases hval i d hd with ⟨h1, h1'⟩ | ⟨h1, h1', h1''⟩
      · subst h1'
        have := hI.own b c hc
        exact ⟨this.1, by rw [hw.size]; exact this.2⟩
      · have := hI.own i d h1''
        exact ⟨this.1, by rw [hw.size]; exact this.2⟩
    · intro id hid
      rw [upd_other _ _ (by omega), upd_other _ _ (by omega)]
      exact hI.fresh id (by omega)
  · refine ⟨hw.os, hw.tape, hw.output, by rw [hw.size]; exact Nat.le_refl _, ?_, fun _ h => h, fun k h h' => absurd h h', ?_, ?_, ?_, Nat.le_succ n⟩
    · intro k _ hn
      exact hw.other k (fun h => hn b c hc (by rw [hb]; simp) h.symm)
    · intro id hid
      by_cases h' : id = b
      · subst h'
        exact .inr ⟨by rw [upd_other _ _ (by omega), upd_same], by rw [hb]; simp⟩
      · exact .inl (by rw [upd_other _ _ (by omega), upd_other _ _ h'])
    · intro id d hid hd
      rcases hval id d hd with ⟨_, h⟩ | ⟨_, _, h⟩
      · subst h
        exact .inr ⟨b, c, hc, rfl, by rw [hb]; simp⟩
      · rw [hI.fresh id hid] at h; cases h
    · intro id hid hg
      rw [AHeap.get_cons_other _ _ (by omega), AHeap.get_del] at hg
      split at hg
      · exact absurd rfl hg
      · exact hg
end
end Go.Fw
