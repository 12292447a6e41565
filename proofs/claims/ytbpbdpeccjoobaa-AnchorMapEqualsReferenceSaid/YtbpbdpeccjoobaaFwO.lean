/-
  Own framework, part O: a call of a function that only reads what is handed to it.
-/
import Derived.Test.YtbpbdpeccjoobaaFwN
namespace Go.Fw

variable {P : Program}

/-- a value with no reference in it -/
def flat : AVal → Bool
  | .bool _ | .int _ _ | .str _ | .val _ => true
  | .isl _ [] _ => true
  | .tup cs => flatL cs
  | .agg cs => flatL cs
  | _ => false
where flatL : List AVal → Bool
  | [] => true
  | x :: r => flat x && flatL r

theorem flatL_get : ∀ {cs : List AVal} {i : Nat} {x : AVal}, flat.flatL cs = true → cs[i]? = some x → flat x = true
  | y :: r, 0, x, h, hx => by
    simp only [flat.flatL, Bool.and_eq_true] at h
    simp at hx; subst hx; exact h.1
  | y :: r, i + 1, x, h, hx => by
    simp only [flat.flatL, Bool.and_eq_true] at h
    exact flatL_get h.2 (by simpa using hx)

theorem RepI.flat {I I' : Nat → Prop} {w w' : World} {x : AVal} {v : Value} (h : RepI I w x v) : flat x = true → RepI I' w' x v := by
  induction h with
  | bool b => intro _; exact .bool b
  | int k n => intro _; exact .int k n
  | str l => intro _; exact .str l
  | val v hc => intro _; exact .val v hc
  | agg cs vs h1 h2 _ ih => intro hf; exact .agg cs vs h1 h2 (fun i x v hx hv => ih i x v hx hv (flatL_get hf hx))
  | tup cs vs h1 _ ih => intro hf; exact .tup cs vs h1 (fun i x v hx hv => ih i x v hx hv (flatL_get hf hx))
  | islNil s f => intro _; exact .islNil s f
  | islEmpty s f a cap h => intro _; exact .islEmpty s f a cap h
  | isl s es f b o cap vf hb h1 h2 h3 h4 h5 h6 _ =>
    intro hf
    cases es with
    | nil => exact .islEmpty s f _ cap (fun h => by have := h2 h; simpa using this)
    | cons => simp [Go.Fw.flat] at hf
  | _ => intro hf; simp [Go.Fw.flat] at hf

theorem Rep.flat {I I' : Nat → Prop} {β : Nat → Option CLoc} {n : Nat} {w w' : World} {x : AVal} {v : Value} (h : Rep I β n w x v) : flat x = true → RepI I' w' x v := by
  induction h with
  | imm x v h => exact h.flat
  | agg cs vs h1 h2 _ ih => intro hf; exact .agg cs vs h1 h2 (fun i x v hx hv => ih i x v hx hv (flatL_get hf hx))
  | tup cs vs h1 _ ih => intro hf; exact .tup cs vs h1 (fun i x v hx hv => ih i x v hx hv (flatL_get hf hx))
  | _ => intro hf; simp [Go.Fw.flat] at hf

theorem Inv.frame {I : Nat → Prop} {β : Nat → Option CLoc} {n : Nat} {H : AHeap} {w w' : World} (hI : Inv I β n H w) (hs : w.heap.size ≤ w'.heap.size) (hf : ∀ b, b < w.heap.size → w'.heap[b]? = w.heap[b]?) : Inv I β n H w' := by
  refine ⟨fun id blk hb => ?_, hI.inj, fun i c hc => ⟨(hI.own i c hc).1, Nat.lt_of_lt_of_le (hI.own i c hc).2 hs⟩, fun b hb => Nat.lt_of_lt_of_le (hI.imm b hb) hs, hI.fresh⟩
  obtain ⟨c, hc, hB⟩ := hI.blocks id blk hb
  exact ⟨c, hc, hB.mono' (fun b hb => hb) (fun b hb => hf b (hI.imm b hb)) (Nat.le_refl n) (fun _ _ _ h => h) (hf _ (hI.own id c hc).2)⟩

/-- the arguments, as they read -/
def Views (H : AHeap) (args args' : List AVal) : Prop := args.length = args'.length ∧ ∀ (i : Nat) (x y : AVal), args[i]? = some x → args'[i]? = some y → Frz 0 H x y

theorem Views.nil {H : AHeap} : Views H [] [] := ⟨rfl, by simp⟩
theorem Views.cons {H : AHeap} {x y : AVal} {xs ys : List AVal} (h : Frz 0 H x y) (hs : Views H xs ys) : Views H (x :: xs) (y :: ys) :=
  ⟨by simp [hs.1], fun i a b ha hb => by
    cases i with
    | zero => simp at ha hb; subst ha; subst hb; exact h
    | succ i => exact hs.2 i a b (by simpa using ha) (by simpa using hb)⟩

/-- **A CALL THAT ONLY READS.** -/
theorem PFn.read {f : FuncId} {args args' : List AVal} {R : AVal} (h : PFn P f args' R) {H : AHeap} {n : Nat} {K : AVal → AHeap → Nat → Prop} (hv : Views H args args') (hR : flat R = true) (hk : K R H n) : ACalls P f args H n K := by
  refine ⟨(h [] 0).1, fun I β w vs hI hl hr => ?_⟩
  have hI0 : Inv (frozenSet I β 0) (fun _ => none) 0 [] w :=
    { blocks := fun id blk h => by simp [AHeap.get] at h
      inj := fun i j c d h => by simp at h
      own := fun i c h => by simp at h
      imm := fun b h => by
        rcases h with h | ⟨id, c, _, hc, rfl⟩
        · exact hI.imm b h
        · exact (hI.own id c hc).2
      fresh := fun id _ => rfl }
  refine ((h [] 0).2 _ _ w vs hI0 (by rw [hl, hv.1]) (fun i y v hy hvv => ?_)).mono ?_
  · obtain ⟨x, hx⟩ := get_of_len' hl hvv
    exact .imm _ _ ((hv.2 i x y hx hy).repI hI (hr i x v hx hvv))
  · rintro ee w' ⟨r, v, H', n', I', β', he, ⟨rfl, rfl, rfl⟩, hI', hr', hx⟩
    have hf : ∀ b, b < w.heap.size → w'.heap[b]? = w.heap[b]? := fun b hb => hx.frame b hb (fun id c hc => by simp at hc)
    refine ⟨r, v, H, n, I, β, he, hk, hI.frame hx.size hf, .imm _ _ (hr'.flat hR), ?_⟩
    exact ⟨hx.os, hx.tape, hx.output, hx.size, fun b hb _ => hf b hb, fun b h => h, fun b h hn => absurd h hn, fun id _ => .inl rfl, fun id c hid hc => (by rw [hI.fresh id hid] at hc; cases hc), fun id _ h => h, Nat.le_refl n⟩
theorem wrap_succ {k L : Nat} (h : k < L) (hL : L ≤ maxLen) : IntKind.wrap .i64 ((k : Int) + 1) = ((k + 1 : Nat) : Int) := by
  have : maxLen = 9223372036854775807 := rfl
  rw [wrap_i64 (by omega) (by omega)]; simp
theorem wrap_pred {k : Nat} (h : k ≤ maxLen) : IntKind.wrap .i64 (((k + 1 : Nat) : Int) - 1) = (k : Int) := by
  have : maxLen = 9223372036854775807 := rfl
  rw [show ((k + 1 : Nat) : Int) - 1 = (k : Int) by omega, wrap_i64 (by omega) (by omega)]
theorem Frz.whole {n : Nat} {H : AHeap} {b s len : Nat} {f : Bool} {es : List (List AVal)} (hb : n ≤ b) (hg : H.get b = some (.rows s es)) (hl : es.length = len) (hi : ∀ r ∈ es, ∀ x ∈ r, Frz n H x x) : Frz n H (.msl b s 0 len f) (.isl s es f) :=
  Frz.own hb hg (by omega) (by rw [List.drop_zero, ← hl, List.take_length]) hi
theorem frzL_of {n : Nat} {H : AHeap} : ∀ {xs ys : List AVal}, xs.length = ys.length → (∀ (i : Nat) (x y : AVal), xs[i]? = some x → ys[i]? = some y → Frz n H x y) → FrzL n H xs ys
  | [], [], _, _ => trivial
  | x :: xs, y :: ys, hl, h => ⟨h 0 x y rfl rfl, frzL_of (by simpa using hl) (fun i a b ha hb => h (i + 1) a b (by simpa using ha) (by simpa using hb))⟩
  | [], _ :: _, hl, _ => by simp at hl
  | _ :: _, [], hl, _ => by simp at hl
theorem frz_tup (n : Nat) (H : AHeap) (xs ys : List AVal) : Frz n H (.tup xs) (.tup ys) ↔ FrzL n H xs ys := ⟨fun h => by cases h with | tup _ _ h1 h2 => exact frzL_of h1 h2, Frz.tupL⟩
theorem frz_agg (n : Nat) (H : AHeap) (xs ys : List AVal) : Frz n H (.agg xs) (.agg ys) ↔ FrzL n H xs ys := ⟨fun h => by cases h with | agg _ _ h1 h2 => exact frzL_of h1 h2, Frz.aggL⟩
theorem frzL_nil (n : Nat) (H : AHeap) : FrzL n H [] [] ↔ True := Iff.rfl
theorem frzL_cons (n : Nat) (H : AHeap) (x y : AVal) (xs ys : List AVal) : FrzL n H (x :: xs) (y :: ys) ↔ Frz n H x y ∧ FrzL n H xs ys := Iff.rfl
theorem frz_nilsl (n : Nat) (H : AHeap) (s : Nat) (f : Bool) : Frz n H (.val (.slice none 0 0)) (.isl s [] f) ↔ True := ⟨fun _ => trivial, fun _ => .nil s f⟩
theorem bq_ft : (false == true) = false := rfl
theorem bq_tf : (true == false) = false := rfl
theorem bq_tt : (true == true) = true := rfl
theorem bq_ff : (false == false) = true := rfl
theorem bq_t (b : Bool) : (b == true) = b := by cases b <;> rfl
theorem bq_f (b : Bool) : (b == false) = !b := by cases b <;> rfl
theorem pk_or (c b : Bool) : (if c = true then true else b) = (c || b) := by cases c <;> rfl
theorem pk_and (c b : Bool) : (if c = true then b else false) = (c && b) := by cases c <;> rfl
end Go.Fw
