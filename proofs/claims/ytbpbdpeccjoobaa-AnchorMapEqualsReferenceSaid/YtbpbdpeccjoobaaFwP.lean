/-
  Own framework, part P: lists that a loop builds by append.
-/
import Derived.Test.YtbpbdpeccjoobaaFwO
namespace Go.Fw

/-- a value without a reference into the abstract heap -/
def noref : AVal → Bool
  | .bool _ | .int _ _ | .str _ | .val _ | .isl _ _ _ | .iptr _ _ _ _ => true
  | .tup cs => norefL cs
  | .agg cs => norefL cs
  | _ => false
where norefL : List AVal → Bool
  | [] => true
  | x :: r => noref x && norefL r
theorem norefL_mem : ∀ {cs : List AVal} {x : AVal}, noref.norefL cs = true → x ∈ cs → noref x = true
  | y :: r, x, h, hx => by
    simp only [noref.norefL, Bool.and_eq_true] at h
    rcases List.mem_cons.1 hx with rfl | hx
    · exact h.1
    · exact norefL_mem h.2 hx
mutual
theorem noref_alt (n : Nat) : ∀ (x : AVal), noref x = true → ALt n x
  | .bool b, _ => .bool b
  | .int k m, _ => .int k m
  | .str l, _ => .str l
  | .val v, _ => .val v
  | .isl s es f, _ => .isl s es f
  | .iptr s es i o, _ => .iptr s es i o
  | .tup cs, h => .tup cs (norefL_alt n cs h)
  | .agg cs, h => .agg cs (norefL_alt n cs h)
theorem norefL_alt (n : Nat) : ∀ (cs : List AVal), noref.norefL cs = true → ∀ x ∈ cs, ALt n x
  | y :: r, h, x, hx => by
    simp only [noref.norefL, Bool.and_eq_true] at h
    rcases List.mem_cons.1 hx with e | hx
    · rw [e]; exact noref_alt n y h.1
    · exact norefL_alt n r h.2 x hx
end
theorem frzL_refl_of {n : Nat} {H : AHeap} : ∀ (cs : List AVal), (∀ x ∈ cs, Frz n H x x) → FrzL n H cs cs
  | [], _ => trivial
  | x :: r, h => ⟨h x (List.mem_cons_self ..), frzL_refl_of r (fun y hy => h y (List.mem_cons_of_mem _ hy))⟩
mutual
theorem noref_frz (n : Nat) (H : AHeap) : ∀ (x : AVal), noref x = true → Frz n H x x
  | .bool b, _ => .bool b
  | .int k m, _ => .int k m
  | .str l, _ => .str l
  | .val v, _ => .val v
  | .isl s es f, _ => .isl s es f
  | .iptr s es i o, _ => .iptr s es i o
  | .tup cs, h => .tupL (frzL_refl_of cs (norefL_frz n H cs h))
  | .agg cs, h => .aggL (frzL_refl_of cs (norefL_frz n H cs h))
theorem norefL_frz (n : Nat) (H : AHeap) : ∀ (cs : List AVal), noref.norefL cs = true → ∀ x ∈ cs, Frz n H x x
  | y :: r, h, x, hx => by
    simp only [noref.norefL, Bool.and_eq_true] at h
    rcases List.mem_cons.1 hx with e | hx
    · rw [e]; exact noref_frz n H y h.1
    · exact norefL_frz n H r h.2 x hx
end
def RowsLt (n : Nat) (es : List (List AVal)) : Prop := ∀ r ∈ es, ∀ x ∈ r, ALt n x
theorem blt_rows (n s : Nat) (es : List (List AVal)) : BLt n (.rows s es) = RowsLt n es := rfl
theorem rowsLt_map {α : Type} {n : Nat} {enc : α → List AVal} (h : ∀ x, noref.norefL (enc x) = true) (l : List α) : RowsLt n (l.map enc) := fun r hr x hx => by
  obtain ⟨y, _, rfl⟩ := List.mem_map.1 hr
  exact norefL_alt n _ (h y) x hx
theorem rowsLt_append (n : Nat) (es es' : List (List AVal)) : RowsLt n (es ++ es') ↔ RowsLt n es ∧ RowsLt n es' := ⟨fun h => ⟨fun r hr => h r (List.mem_append_left _ hr), fun r hr => h r (List.mem_append_right _ hr)⟩, fun h r hr => (List.mem_append.1 hr).elim (h.1 r) (h.2 r)⟩
theorem rowsLt_nil (n : Nat) : RowsLt n [] ↔ True := ⟨fun _ => trivial, fun _ r hr => by cases hr⟩
theorem rowsLt_cons (n : Nat) (r : List AVal) (es : List (List AVal)) : RowsLt n (r :: es) ↔ (∀ x ∈ r, ALt n x) ∧ RowsLt n es := ⟨fun h => ⟨h r (List.mem_cons_self ..), fun r' hr => h r' (List.mem_cons_of_mem _ hr)⟩, fun h r' hr => by
  rcases List.mem_cons.1 hr with rfl | hr
  · exact h.1
  · exact h.2 _ hr⟩
theorem rows_frz {α : Type} {n : Nat} {H : AHeap} {enc : α → List AVal} (h : ∀ x, noref.norefL (enc x) = true) (l : List α) : ∀ r ∈ l.map enc, ∀ x ∈ r, Frz n H x x := fun r hr x hx => by
  obtain ⟨y, _, rfl⟩ := List.mem_map.1 hr
  exact norefL_frz n H _ (h y) x hx

/-- a slice of len rows that a function has built: nil, or a block of its own -/
def ownV (s b len : Nat) : AVal := if len = 0 then .val (.slice none 0 0) else .msl b s 0 len false
def ownH (s b : Nat) (rows : List (List AVal)) : AHeap := if rows.length = 0 then [] else [(b, .rows s rows)]

theorem xapp_nil (s bytes : Nat) (H : AHeap) (n : Nat) (K : AVal → AHeap → Nat → Prop) (rows2 : List (List AVal)) : xapp s bytes H n K (.val (.slice none 0 0)) rows2 = ((rows2 = [] → K (.val (.slice none 0 0)) H n) ∧ (rows2 ≠ [] → rows2.length * bytes ≤ 140737488355328 ∧ K (.msl n s 0 rows2.length false) ((n, .rows s rows2) :: H) (n + 1))) := rfl
theorem xapp_isl (s bytes : Nat) (H : AHeap) (n : Nat) (K : AVal → AHeap → Nat → Prop) (s' : Nat) (es : List (List AVal)) (f : Bool) (rows2 : List (List AVal)) : xapp s bytes H n K (.isl s' es f) rows2 = (s' = s ∧ (rows2 = [] → K (.isl s' es f) H n) ∧ (rows2 ≠ [] → f = true ∧ (es.length + rows2.length) * bytes ≤ 140737488355328 ∧ K (.msl n s 0 (es.length + rows2.length) false) ((n, .rows s (es ++ rows2)) :: H) (n + 1))) := rfl
/-- appending to a block of the call's own -/
theorem xapp_msl {s bytes : Nat} {H : AHeap} {n : Nat} {K : AVal → AHeap → Nat → Prop} {b len : Nat} {es rows2 : List (List AVal)} (hr : rows2 ≠ []) (hg : H.get b = some (.rows s es)) (hl : es.length = len) (hb : (len + rows2.length) * bytes ≤ 140737488355328)
    (h : K (.msl n s 0 (len + rows2.length) false) ((n, .rows s (es ++ rows2)) :: H.del b) (n + 1)) : xapp s bytes H n K (.msl b s 0 len false) rows2 := by
  unfold xapp
  simp only [hg]
  refine ⟨trivial, trivial, by omega, fun h0 => absurd h0 hr, fun _ => ⟨hb, ?_⟩⟩
  simpa [List.take_of_length_le (Nat.le_of_eq hl)] using h
theorem ownV_strip (s b len : Nat) : (ownV s b len).strip = ownV s b len := by unfold ownV; split <;> rfl
theorem ownV_need (s b len : Nat) : (ownV s b len).need = True := by unfold ownV; split <;> rfl
theorem ownV_nil (s b : Nat) : ownV s b 0 = .val (.slice none 0 0) := rfl
theorem ownV_succ (s b len : Nat) : ownV s b (len + 1) = .msl b s 0 (len + 1) false := rfl
theorem ownH_nil (s b : Nat) : ownH s b [] = [] := rfl
theorem ownH_cons (s b : Nat) (r : List AVal) (rows : List (List AVal)) : ownH s b (r :: rows) = [(b, .rows s (r :: rows))] := rfl
theorem ownH_snoc (s b : Nat) (r : List AVal) (rows : List (List AVal)) : ownH s b (rows ++ [r]) = [(b, .rows s (rows ++ [r]))] := by unfold ownH; rw [if_neg (by simp)]
theorem alt_ownV (n s b len : Nat) : ALt n (ownV s b len) ↔ (len ≠ 0 → b < n) := by
  unfold ownV
  split
  · rename_i h; exact ⟨fun _ h' => absurd h h', fun _ => .val _⟩
  · rename_i h; rw [alt_msl]; exact ⟨fun h' _ => h', fun h' => h' h⟩
theorem get_ownH {s b : Nat} {rows : List (List AVal)} {H : AHeap} (h : rows.length ≠ 0) : AHeap.get (ownH s b rows ++ H) b = some (.rows s rows) := by
  unfold ownH; rw [if_neg h]; simp [AHeap.get]
theorem hsub_own {n : Nat} {H' : AHeap} {s b : Nat} {rows : List (List AVal)} (h : rows.length ≠ 0 → H'.get b = some (.rows s rows) ∧ b < n ∧ BLt n (.rows s rows)) : HeapSub n H' (ownH s b rows) := by
  unfold ownH; split
  · trivial
  · rename_i h0; obtain ⟨h1, h2, h3⟩ := h h0; exact ⟨h1, h2, h3, trivial⟩
theorem Keeps.own {n0 : Nat} {H : AHeap} (hf : HFresh n0 H) {s b : Nat} {rows : List (List AVal)} (hb : n0 ≤ b) : Keeps H (ownH s b rows ++ H) := by
  unfold ownH; split
  · exact .refl H
  · exact .cons hf hb (.refl H)
theorem Keeps.iteDel {n0 : Nat} {H H' : AHeap} (hf : HFresh n0 H) {b : Nat} (hb : n0 ≤ b) {c : Prop} [Decidable c] (h : Keeps H H') : Keeps H (if c then H' else H'.del b) := by
  split
  · exact h
  · exact .del hf hb h
theorem xapp_own {s bytes : Nat} {H : AHeap} {n : Nat} {K : AVal → AHeap → Nat → Prop} {i len : Nat} {es rows2 : List (List AVal)} (hr : rows2 ≠ []) (hl : es.length = len) (hb : (len + rows2.length) * bytes ≤ 140737488355328)
    (hg : len ≠ 0 → H.get i = some (.rows s es)) (h : K (.msl n s 0 (len + rows2.length) false) ((n, .rows s (es ++ rows2)) :: (if len = 0 then H else H.del i)) (n + 1)) : xapp s bytes H n K (ownV s i len) rows2 := by
  unfold ownV
  split
  · rename_i h0
    subst h0
    have : es = [] := List.length_eq_zero_iff.1 hl
    subst this
    refine ⟨fun h0 => absurd h0 hr, fun _ => ⟨by simpa using hb, ?_⟩⟩
    simpa using h
  · rename_i h0
    unfold xapp
    simp only [hg h0]
    refine ⟨trivial, trivial, by omega, fun h0 => absurd h0 hr, fun _ => ⟨hb, ?_⟩⟩
    rw [if_neg h0] at h
    simpa [List.take_of_length_le (Nat.le_of_eq hl)] using h
theorem Frz.ownV {n : Nat} {H : AHeap} {s i len : Nat} {rows : List (List AVal)} (hi : len ≠ 0 → n ≤ i) (hg : len ≠ 0 → H.get i = some (.rows s rows)) (hl : rows.length = len) (h : ∀ r ∈ rows, ∀ x ∈ r, Frz n H x x) : Frz n H (ownV s i len) (.isl s rows false) := by
  unfold Go.Fw.ownV
  split
  · rename_i h0
    subst h0
    rw [List.length_eq_zero_iff.1 hl]
    exact .nil s false
  · rename_i h0
    exact Frz.whole (hi h0) (hg h0) hl h

/-! ### handing own blocks over for good -/
def frozenAbove (I : Nat → Prop) (β : Nat → Option CLoc) (m : Nat) (H : AHeap) : Nat → Prop := fun b => I b ∨ ∃ id c, m ≤ id ∧ β id = some c ∧ H.get id ≠ none ∧ c.blk = b
noncomputable def dropAbove (β : Nat → Option CLoc) (m : Nat) (H : AHeap) : Nat → Option CLoc := fun id => by
  classical
  exact if m ≤ id ∧ H.get id ≠ none then none else β id

theorem dropAbove_some {β : Nat → Option CLoc} {m : Nat} {H : AHeap} {id : Nat} {c : CLoc} (h : dropAbove β m H id = some c) : β id = some c ∧ ¬ (m ≤ id ∧ H.get id ≠ none) := by
  unfold dropAbove at h
  split at h
  · cases h
  · exact ⟨h, by assumption⟩

theorem Inv.freeze {I : Nat → Prop} {β : Nat → Option CLoc} {n m : Nat} {H H2 : AHeap} {w : World} (hI : Inv I β n H w) (h2 : ∀ id blk, H2.get id = some blk → H.get id = some blk ∧ id < m) :
    Inv (frozenAbove I β m H) (dropAbove β m H) n H2 w ∧ Ext I β n H w (frozenAbove I β m H) (dropAbove β m H) n H2 w := by
  have hdrop : ∀ id, dropAbove β m H id = β id ∨ (dropAbove β m H id = none ∧ H.get id ≠ none) := by
    intro id
    unfold dropAbove
    split
    · rename_i h; exact .inr ⟨rfl, h.2⟩
    · exact .inl rfl
  constructor
  · refine ⟨fun id blk hb => ?_, fun i j c d hc hd => hI.inj i j c d (dropAbove_some hc).1 (dropAbove_some hd).1, fun i c hc => ?_, fun b hb => ?_, fun id hid => ?_⟩
    · obtain ⟨h3, h4⟩ := h2 id blk hb
      obtain ⟨c, hc, hB⟩ := hI.blocks id blk h3
      refine ⟨c, ?_, hB.mono' (fun b hb => .inl hb) (fun _ _ => rfl) (Nat.le_refl n) (fun _ _ _ h => (dropAbove_some h).1) rfl⟩
      unfold dropAbove
      rw [if_neg (by omega)]
      exact hc
    · obtain ⟨hc1, hc2⟩ := dropAbove_some hc
      refine ⟨?_, (hI.own i c hc1).2⟩
      rintro (h | ⟨id, d, h3, h4, h5, h6⟩)
      · exact (hI.own i c hc1).1 h
      · have := hI.inj id i d c h4 hc1 h6
        subst this
        exact hc2 ⟨h3, h5⟩
    · rcases hb with h | ⟨id, d, h3, h4, h5, rfl⟩
      · exact hI.imm b h
      · exact (hI.own id d h4).2
    · rcases hdrop id with h | h
      · rw [h, hI.fresh id hid]
      · exact h.1
  · refine ⟨rfl, rfl, rfl, Nat.le_refl _, fun _ _ _ => rfl, fun b hb => .inl hb, ?_, fun id _ => hdrop id, fun id c hid hc => ?_, fun id _ h => ?_, Nat.le_refl n⟩
    · rintro b (h | ⟨id, d, h3, h4, h5, h6⟩) hn _
      · exact absurd h hn
      · exact ⟨id, d, h4, h6, h5⟩
    · rcases hdrop id with h | h
      · rw [h, hI.fresh id hid] at hc; cases hc
      · rw [h.1] at hc; cases hc
    · cases hg : H2.get id with
      | none => exact absurd hg h
      | some blk => rw [(h2 id blk hg).1]; simp

def ViewsN (m : Nat) (H : AHeap) (args args' : List AVal) : Prop := args.length = args'.length ∧ ∀ (i : Nat) (x y : AVal), args[i]? = some x → args'[i]? = some y → Frz m H x y
theorem ViewsN.nil {m : Nat} {H : AHeap} : ViewsN m H [] [] := ⟨rfl, by simp⟩
theorem ViewsN.cons {m : Nat} {H : AHeap} {x y : AVal} {xs ys : List AVal} (h : Frz m H x y) (hs : ViewsN m H xs ys) : ViewsN m H (x :: xs) (y :: ys) :=
  ⟨by simp [hs.1], fun i a b ha hb => by
    cases i with
    | zero => simp at ha hb; subst ha; subst hb; exact h
    | succ i => exact hs.2 i a b (by simpa using ha) (by simpa using hb)⟩

/-- **A CALL THAT IS GIVEN BLOCKS FOR GOOD**: the caller's blocks from m on are immutable from now on, and out of the heap. -/
theorem PFn.give {P : Program} {f : FuncId} {args args' : List AVal} {R : AVal} (h : PFn P f args' R) {H : AHeap} {n : Nat} {K : AVal → AHeap → Nat → Prop} (m : Nat) (H2 : AHeap) (hv : ViewsN m H args args')
    (h2 : ∀ id blk, H2.get id = some blk → H.get id = some blk ∧ id < m) (hk : K R H2 n) : ACalls P f args H n K := by
  refine ⟨(h [] 0).1, fun I β w vs hI hl hr => ?_⟩
  obtain ⟨hI2, hX2⟩ := hI.freeze h2
  refine ((h H2 n).2 _ _ w vs hI2 (by rw [hl, hv.1]) (fun i y v hy hvv => ?_)).mono ?_
  · obtain ⟨x, hx⟩ := get_of_len' hl hvv
    exact .imm _ _ ((hv.2 i x y hx hy).repS (fun _ hb => .inl hb) (fun id c hid hc hg => .inr ⟨id, c, hid, hc, hg, rfl⟩) hI (hr i x v hx hvv))
  · rintro ee w' ⟨r, v, H', n', I', β', he, ⟨rfl, rfl, rfl⟩, hI', hr', hx⟩
    exact ⟨_, v, _, _, I', β', he, hk, hI', hr', hX2.trans hx⟩
end Go.Fw
