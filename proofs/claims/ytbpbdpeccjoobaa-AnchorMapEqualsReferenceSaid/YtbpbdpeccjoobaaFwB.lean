/-
  Own framework, part B: how abstract values and the abstract heap lie in a world; what is kept.
-/
import Derived.Test.YtbpbdpeccjoobaaFwA
namespace Go.Fw

def isCell : Value → Bool
  | .agg _ => false
  | .tuple _ => false
  | _ => true

/-- Where an abstract block lies: the block, the cell where its row 0 begins, the cells of a row, the cells of the whole concrete block. -/
structure CLoc where
  blk : Nat
  base : Nat
  s : Nat
  size : Nat

/-- A value that leads to memory in I alone, which nobody writes. -/
inductive RepI (I : Nat → Prop) (w : World) : AVal → Value → Prop
  | bool (b : Bool) : RepI I w (.bool b) (.bool b)
  | int (k : IntKind) (n : Int) : RepI I w (.int k n) (.int k n)
  | str (l : List UInt8) : RepI I w (.str l) (.string ⟨⟨l⟩⟩)
  | val (v : Value) : isCell v = true → RepI I w (.val v) v
  | agg (cs : List AVal) (vs : Array Value) : vs.size = cs.length → (∀ v ∈ vs.toList, isCell v = true) → (∀ (i : Nat) (x : AVal) (v : Value), cs[i]? = some x → vs[i]? = some v → RepI I w x v) → RepI I w (.agg cs) (.agg vs)
  | tup (cs : List AVal) (vs : Array Value) : vs.size = cs.length → (∀ (i : Nat) (x : AVal) (v : Value), cs[i]? = some x → vs[i]? = some v → RepI I w x v) → RepI I w (.tup cs) (.tuple vs)
  | islNil (s : Nat) (f : Bool) : RepI I w (.isl s [] f) (.slice none 0 0)
  | islEmpty (s : Nat) (f : Bool) (a : Addr) (cap : Nat) : (f = true → cap = 0) → RepI I w (.isl s [] f) (.slice (some a) 0 cap)
  | isl (s : Nat) (es : List (List AVal)) (f : Bool) (b o cap : Nat) (vf : Nat → Nat → Value) : I b → es.length ≤ cap → (f = true → cap = es.length) →
      (∀ (i : Nat) (r : List AVal), es[i]? = some r → r.length = s) →
      (∀ (i : Nat) (r : List AVal) (j : Nat) (x : AVal), es[i]? = some r → r[j]? = some x → w.cell? ⟨b, o + i * s + j, none⟩ = some (vf i j)) →
      (∀ (i : Nat) (r : List AVal) (j : Nat) (x : AVal), es[i]? = some r → r[j]? = some x → isCell (vf i j) = true) →
      (∀ (i : Nat) (r : List AVal) (j : Nat) (x : AVal), es[i]? = some r → r[j]? = some x → RepI I w x (vf i j)) →
      RepI I w (.isl s es f) (.slice (some ⟨b, o, none⟩) es.length cap)
  | iptr (s : Nat) (es : List (List AVal)) (b o i0 off : Nat) (vf : Nat → Nat → Value) : I b →
      (∀ (i : Nat) (r : List AVal), es[i]? = some r → r.length = s) →
      (∀ (i : Nat) (r : List AVal) (j : Nat) (x : AVal), es[i]? = some r → r[j]? = some x → w.cell? ⟨b, o + i * s + j, none⟩ = some (vf i j)) →
      (∀ (i : Nat) (r : List AVal) (j : Nat) (x : AVal), es[i]? = some r → r[j]? = some x → isCell (vf i j) = true) →
      (∀ (i : Nat) (r : List AVal) (j : Nat) (x : AVal), es[i]? = some r → r[j]? = some x → RepI I w x (vf i j)) →
      RepI I w (.iptr s es i0 off) (.pointer (some ⟨b, o + i0 * s + off, none⟩))
  | fn (f : Fn) (first caps : List AVal) (fs cs : Array Value) : fs.size = first.length → cs.size = caps.length →
      (∀ (i : Nat) (x : AVal) (v : Value), first[i]? = some x → fs[i]? = some v → RepI I w x v) → (∀ (i : Nat) (x : AVal) (v : Value), caps[i]? = some x → cs[i]? = some v → RepI I w x v) → RepI I w (.fn f first caps) (.func f fs cs)
  | ifc (t : TypeId) (x : AVal) (v : Value) : RepI I w x v → RepI I w (.ifc t x) (.iface t v)

/-- A value that may lead into the abstract heap too. -/
inductive Rep (I : Nat → Prop) (β : Nat → Option CLoc) (n : Nat) (w : World) : AVal → Value → Prop
  | any (v : Value) : Rep I β n w .any v
  | imm (x : AVal) (v : Value) : RepI I w x v → Rep I β n w x v
  | agg (cs : List AVal) (vs : Array Value) : vs.size = cs.length → (∀ v ∈ vs.toList, isCell v = true) → (∀ (i : Nat) (x : AVal) (v : Value), cs[i]? = some x → vs[i]? = some v → Rep I β n w x v) → Rep I β n w (.agg cs) (.agg vs)
  | tup (cs : List AVal) (vs : Array Value) : vs.size = cs.length → (∀ (i : Nat) (x : AVal) (v : Value), cs[i]? = some x → vs[i]? = some v → Rep I β n w x v) → Rep I β n w (.tup cs) (.tuple vs)
  | fn (f : Fn) (first caps : List AVal) (fs cs : Array Value) : fs.size = first.length → cs.size = caps.length →
      (∀ (i : Nat) (x : AVal) (v : Value), first[i]? = some x → fs[i]? = some v → Rep I β n w x v) → (∀ (i : Nat) (x : AVal) (v : Value), caps[i]? = some x → cs[i]? = some v → Rep I β n w x v) → Rep I β n w (.fn f first caps) (.func f fs cs)
  | ifc (t : TypeId) (x : AVal) (v : Value) : Rep I β n w x v → Rep I β n w (.ifc t x) (.iface t v)
  | ptr (b i off : Nat) (a : Addr) : b < n → (∀ c, β b = some c → a = ⟨c.blk, c.base + i * c.s + off, none⟩) → Rep I β n w (.ptr b i off) (.pointer (some a))
  | msl (b s off len : Nat) (f : Bool) (a : Addr) (cap : Nat) : b < n → len ≤ cap → (f = true → cap = len) →
      (∀ c, β b = some c → c.s = s ∧ (cap ≠ 0 → a = ⟨c.blk, c.base + off * s, none⟩ ∧ c.base + (off + cap) * s ≤ c.size)) → Rep I β n w (.msl b s off len f) (.slice (some a) len cap)
  | map (b : Nat) (r : Nat) : b < n → (∀ c, β b = some c → r = c.blk) → Rep I β n w (.map b) (.map (some r))
  | cnd (p : Bool) (x : AVal) (v : Value) : (p = true → Rep I β n w x v) → (p = false → v = undef) → Rep I β n w (.cnd p x) v

/-- A block of the abstract heap lies in the world. -/
def RepB (I : Nat → Prop) (β : Nat → Option CLoc) (n : Nat) (w : World) (c : CLoc) : ABlock → Prop
  | .rows s es => c.s = s ∧ (∃ arr e fr, w.heap[c.blk]? = some (.cells arr e fr) ∧ arr.size = c.size) ∧ (∀ k, k < c.size → w.frozen? ⟨c.blk, k, none⟩ = false) ∧
      c.base + es.length * s ≤ c.size ∧ (∀ (i : Nat) (r : List AVal), es[i]? = some r → r.length = s) ∧
      (∀ (i : Nat) (r : List AVal) (j : Nat) (x : AVal), es[i]? = some r → r[j]? = some x → ∃ v, w.cell? ⟨c.blk, c.base + i * s + j, none⟩ = some v ∧ isCell v = true ∧ Rep I β n w x v)
  | .amap _ => False

structure Inv (I : Nat → Prop) (β : Nat → Option CLoc) (n : Nat) (H : AHeap) (w : World) : Prop where
  blocks : ∀ id blk, H.get id = some blk → ∃ c, β id = some c ∧ RepB I β n w c blk
  inj : ∀ i j c d, β i = some c → β j = some d → c.blk = d.blk → i = j
  own : ∀ i c, β i = some c → ¬ I c.blk ∧ c.blk < w.heap.size
  imm : ∀ b, I b → b < w.heap.size
  fresh : ∀ id, n ≤ id → β id = none

structure Ext (I : Nat → Prop) (β : Nat → Option CLoc) (n : Nat) (H : AHeap) (w : World) (I' : Nat → Prop) (β' : Nat → Option CLoc) (n' : Nat) (H' : AHeap) (w' : World) : Prop where
  os : w'.os = w.os
  tape : w'.tape = w.tape
  output : w'.output = w.output
  size : w.heap.size ≤ w'.heap.size
  frame : ∀ b, b < w.heap.size → (∀ id c, β id = some c → H.get id ≠ none → c.blk ≠ b) → w'.heap[b]? = w.heap[b]?
  imm : ∀ b, I b → I' b
  immNew : ∀ b, I' b → ¬ I b → b < w.heap.size → ∃ id c, β id = some c ∧ c.blk = b ∧ H.get id ≠ none
  old : ∀ id, id < n → β' id = β id ∨ (β' id = none ∧ H.get id ≠ none)
  new : ∀ id c, n ≤ id → β' id = some c → w.heap.size ≤ c.blk ∨ ∃ i0 c0, β i0 = some c0 ∧ c0.blk = c.blk ∧ H.get i0 ≠ none
  dom : ∀ id, id < n → H'.get id ≠ none → H.get id ≠ none
  le : n ≤ n'

theorem Ext.refl (I : Nat → Prop) (β : Nat → Option CLoc) (n : Nat) (H : AHeap) (w : World) (hf : ∀ id, n ≤ id → β id = none) : Ext I β n H w I β n H w where
  os := rfl
  tape := rfl
  output := rfl
  size := Nat.le_refl _
  frame := fun _ _ _ => rfl
  imm := fun _ h => h
  immNew := fun _ h h' => absurd h h'
  old := fun _ _ => .inl rfl
  new := fun id c h e => by rw [hf id h] at e; cases e
  dom := fun _ _ h => h
  le := Nat.le_refl _

theorem Ext.trans {I I' I'' : Nat → Prop} {β β' β'' : Nat → Option CLoc} {n n' n'' : Nat} {H H' H'' : AHeap} {w w' w'' : World}
    (a : Ext I β n H w I' β' n' H' w') (b : Ext I' β' n' H' w' I'' β'' n'' H'' w'') : Ext I β n H w I'' β'' n'' H'' w'' := by
  have own : ∀ id c, β' id = some c → H'.get id ≠ none → c.blk < w.heap.size → ∃ i0 c0, β i0 = some c0 ∧ c0.blk = c.blk ∧ H.get i0 ≠ none := by
    intro id c he hg hlt
    by_cases hid : id < n
    · rcases a.old id hid with h | ⟨h, _⟩
      · exact ⟨id, c, h ▸ he, rfl, a.dom id hid hg⟩
      · rw [h] at he; cases he
    · rcases a.new id c (by omega) he with h | h
      · omega
      · exact h
  refine ⟨b.os.trans a.os, b.tape.trans a.tape, b.output.trans a.output, Nat.le_trans a.size b.size, ?_, fun x h => b.imm x (a.imm x h), ?_, ?_, ?_, fun id h hg => a.dom id h (b.dom id (by have := a.le; omega) hg), Nat.le_trans a.le b.le⟩
  · intro x hx hn
    rw [b.frame x (by have := a.size; omega) ?_, a.frame x hx hn]
    intro id c he hg heq
    obtain ⟨i0, c0, h1, h2, h3⟩ := own id c he hg (by omega)
    exact hn i0 c0 h1 h3 (h2.trans heq)
  · intro x h hn hx
    by_cases hi : I' x
    · exact a.immNew x hi hn hx
    · obtain ⟨id, c, h1, h2, h3⟩ := b.immNew x h hi (by have := a.size; omega)
      obtain ⟨i0, c0, g1, g2, g3⟩ := own id c h1 h3 (by omega)
      exact ⟨i0, c0, g1, g2.trans h2, g3⟩
  · intro id hid
    rcases b.old id (by have := a.le; omega) with h | ⟨h, hg⟩
    · rcases a.old id hid with g | ⟨g, gg⟩
      · exact .inl (h.trans g)
      · exact .inr ⟨h.trans g, gg⟩
    · exact .inr ⟨h, a.dom id hid hg⟩
  · intro id c hid he
    by_cases hn : id < n'
    · rcases b.old id hn with h | ⟨h, _⟩
      · exact a.new id c hid (h ▸ he)
      · rw [h] at he; cases he
    · rcases b.new id c (by omega) he with h | ⟨i1, c1, h1, h2, h3⟩
      · have := a.size; omega
      · by_cases hlt : c1.blk < w.heap.size
        · obtain ⟨i0, c0, g1, g2, g3⟩ := own i1 c1 h1 h3 hlt
          exact .inr ⟨i0, c0, g1, g2.trans h2, g3⟩
        · exact .inl (by omega)

/-! ## Representations are kept -/

theorem cell?_of_heap {w w' : World} {b o : Nat} (h : w'.heap[b]? = w.heap[b]?) : w'.cell? ⟨b, o, none⟩ = w.cell? ⟨b, o, none⟩ := by
  unfold World.cell?; simp only [h]
theorem frozen?_of_heap {w w' : World} {b o : Nat} (h : w'.heap[b]? = w.heap[b]?) : w'.frozen? ⟨b, o, none⟩ = w.frozen? ⟨b, o, none⟩ := by
  unfold World.frozen?; simp only [h]

theorem RepI.mono {I I' : Nat → Prop} {w w' : World} (hI : ∀ b, I b → I' b) (hw : ∀ b, I b → w'.heap[b]? = w.heap[b]?) {x : AVal} {v : Value} (h : RepI I w x v) : RepI I' w' x v := by
  induction h with
  | bool b => exact .bool b
  | int k n => exact .int k n
  | str l => exact .str l
  | val v h => exact .val v h
  | agg cs vs h1 h2 _ ih => exact .agg cs vs h1 h2 ih
  | tup cs vs h1 _ ih => exact .tup cs vs h1 ih
  | islNil s f => exact .islNil s f
  | islEmpty s f a cap h => exact .islEmpty s f a cap h
  | isl s es f b o cap vf h1 h2 h3 h4 h5 h6 _ ih => exact .isl s es f b o cap vf (hI b h1) h2 h3 h4 (fun i r j x hi hj => (cell?_of_heap (hw b h1)).trans (h5 i r j x hi hj)) h6 ih
  | iptr s es b o i0 off vf h1 h4 h5 h6 _ ih => exact .iptr s es b o i0 off vf (hI b h1) h4 (fun i r j x hi hj => (cell?_of_heap (hw b h1)).trans (h5 i r j x hi hj)) h6 ih
  | fn f a c fs cs h1 h2 _ _ ih1 ih2 => exact .fn f a c fs cs h1 h2 ih1 ih2
  | ifc t x v _ ih => exact .ifc t x v ih

theorem Rep.mono' {I I' : Nat → Prop} {β β' : Nat → Option CLoc} {n n' : Nat} {w w' : World} (hI : ∀ b, I b → I' b) (hw : ∀ b, I b → w'.heap[b]? = w.heap[b]?)
    (hn : n ≤ n') (hβ : ∀ id c, id < n → β' id = some c → β id = some c) {x : AVal} {v : Value} (h : Rep I β n w x v) : Rep I' β' n' w' x v := by
  induction h with
  | any v => exact .any v
  | imm x v h => exact .imm x v (h.mono hI hw)
  | agg cs vs h1 h2 _ ih => exact .agg cs vs h1 h2 ih
  | tup cs vs h1 _ ih => exact .tup cs vs h1 ih
  | fn f a c fs cs h1 h2 _ _ ih1 ih2 => exact .fn f a c fs cs h1 h2 ih1 ih2
  | ifc t x v _ ih => exact .ifc t x v ih
  | ptr b i off a hb h => exact .ptr b i off a (by omega) (fun c hc => h c (hβ b c hb hc))
  | msl b s off len f a cap hb h1 h2 h3 => exact .msl b s off len f a cap (by omega) h1 h2 (fun c hc => h3 c (hβ b c hb hc))
  | map b r hb h => exact .map b r (by omega) (fun c hc => h c (hβ b c hb hc))
  | cnd p x v _ h ih => exact .cnd p x v ih h

section
variable {I I' : Nat → Prop} {β β' : Nat → Option CLoc} {n n' : Nat} {H H' : AHeap} {w w' : World}

theorem Ext.heapI (e : Ext I β n H w I' β' n' H' w') (i : Inv I β n H w) : ∀ b, I b → w'.heap[b]? = w.heap[b]? :=
  fun b hb => e.frame b (i.imm b hb) (fun id c hc _ heq => (i.own id c hc).1 (heq ▸ hb))
theorem Ext.back (e : Ext I β n H w I' β' n' H' w') : ∀ id c, id < n → β' id = some c → β id = some c := by
  intro id c hid h
  rcases e.old id hid with g | ⟨g, _⟩
  · exact g ▸ h
  · rw [g] at h; cases h
theorem Rep.mono (e : Ext I β n H w I' β' n' H' w') (i : Inv I β n H w) {x : AVal} {v : Value} (h : Rep I β n w x v) : Rep I' β' n' w' x v :=
  h.mono' e.imm (e.heapI i) e.le e.back
end

/-! ## Environments -/

def RepEnv (I : Nat → Prop) (β : Nat → Option CLoc) (n : Nat) (w : World) (e : Env) (a : Act) : Prop := ∀ t, Rep I β n w (e.get t) (a.tmps.getD t undef)

theorem Env.get_put_same (e : Env) (d : Nat) (v : AVal) : (e.put (some d) v).get d = v := by simp [Env.put, Env.get]
theorem Env.get_put_other (e : Env) {d t : Nat} (v : AVal) (h : d ≠ t) : (e.put (some d) v).get t = e.get t := by simp [Env.put, Env.get, h]

theorem RepEnv.put {I : Nat → Prop} {β : Nat → Option CLoc} {n : Nat} {w : World} {e : Env} {a : Act} (h : RepEnv I β n w e a) {d : Option Nat} {x : AVal} {v : Value}
    (hd : ∀ t, d = some t → t < a.tmps.size) (hx : Rep I β n w x v) : RepEnv I β n w (e.put d x) (a.put d v) := by
  intro t
  cases d with
  | none => exact h t
  | some d =>
    by_cases hdt : d = t
    · subst hdt
      rw [Env.get_put_same]
      have : (a.put (some d) v).tmps.getD d undef = v := by
        have := hd d rfl
        simp [Act.put, this]
      rw [this]; exact hx
    · rw [Env.get_put_other _ _ hdt]
      have : (a.put (some d) v).tmps.getD t undef = a.tmps.getD t undef := by
        simp [Act.put, Array.getD_eq_getD_getElem?, Array.getElem?_setIfInBounds_ne hdt]
      rw [this]; exact h t

theorem Act.put_size (a : Act) (d : Option Nat) (v : Value) : (a.put d v).tmps.size = a.tmps.size := by
  cases d <;> simp [Act.put]
theorem Act.put_defers (a : Act) (d : Option Nat) (v : Value) : (a.put d v).defers = a.defers := by
  cases d <;> simp [Act.put]

theorem Rep.strip {I : Nat → Prop} {β : Nat → Option CLoc} {n : Nat} {w : World} {x : AVal} {v : Value} (h : Rep I β n w x v) (hn : x.need) : Rep I β n w x.strip v := by
  cases x with
  | cnd p y =>
    cases h with
    | imm _ _ h => cases h
    | cnd _ _ _ h _ => exact h hn
  | _ => exact h

theorem ev_rep {I : Nat → Prop} {β : Nat → Option CLoc} {n : Nat} {w : World} {e : Env} {a : Act} (h : RepEnv I β n w e a) {x : Operand} {y : LOpd} (hl : lowOpd x = some y) (hn : y.need e) :
    Rep I β n w (y.ev e) (a.eval x) := by
  cases x with
  | tmp t => simp [lowOpd] at hl; subst hl; exact (h t).strip hn
  | const v =>
    cases v with
    | agg _ => simp [lowOpd] at hl
    | tuple _ => simp [lowOpd] at hl
    | bool b => simp [lowOpd, ofConst] at hl; subst hl; exact .imm _ _ (.bool b)
    | int k m => simp [lowOpd, ofConst] at hl; subst hl; exact .imm _ _ (.int k m)
    | string s => simp [lowOpd, ofConst] at hl; subst hl; exact .imm _ _ (.str s.data.toList)
    | _ => simp [lowOpd, ofConst] at hl; subst hl; exact .imm _ _ (.val _ rfl)
  | global g => simp [lowOpd] at hl
  | func f => simp [lowOpd] at hl; subst hl; exact .imm _ _ (.fn (.func f) [] [] #[] #[] rfl rfl (by simp) (by simp))

end Go.Fw
