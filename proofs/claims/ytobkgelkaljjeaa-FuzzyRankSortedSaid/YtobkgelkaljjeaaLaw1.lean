/-
  Own text Law1 of this claim: what functions of the given program compute, in plain Lean, and the proof; no condition.
-/
import Derived.Test.YtobkgelkaljjeaaGenB
import Derived.Test.YtobkgelkaljjeaaFxP
namespace Go.Proofs.Ytobkgelkaljjeaa
open Go.Fx
set_option linter.unusedVariables false
theorem example_ok : S_glossatorlaw4_fuzzyExamples (some 4096) = some true := by kernel_rfl
theorem Wi {i : Nat} (h : i ≤ 4611686018427387904) : W ((i : Int) + 1) = ((i + 1 : Nat) : Int) := by rw [W_in (by unfold inR; omega)]; omega
theorem Wz {x : Int} (h : -4611686018427387904 ≤ x ∧ x ≤ 4611686018427387904) : W x = x := W_in (by unfold inR; omega)
theorem getD_at {α : Type} [Inhabited α] {l : List α} {i : Nat} (h : i < l.length) : l.getD i default = l[i] := by
  simp [List.getD_eq_getElem?_getD, h]

def cb (l : List UInt8) (i : Nat) : Int := (((l.getD i 0).toNat : Nat) : Int)
theorem cb_rng (l : List UInt8) (i : Nat) : 0 ≤ cb l i ∧ cb l i < 256 := by
  unfold cb; have := (l.getD i 0).toNat_lt; omega
def lo (c : Int) : Int := if 65 ≤ c ∧ c ≤ 90 then c + 32 else c
def up8 (c : Int) : Bool := (decide (c ≥ 65)) && (decide (c ≤ 90))
def sw (N : List UInt8) (k : Nat) : Bool := (k == 0) || ((cb N (k - 1) == 95) || (up8 (cb N k) && !(up8 (cb N (k - 1)))))
def pts (c : Int) (N : List UInt8) (k : Nat) : Int := 1 + (if c = cb N k then 1 else 0) + (if sw N k then 4 else 0)
theorem pts_rng (c : Int) (N : List UInt8) (k : Nat) : 1 ≤ pts c N k ∧ pts c N k ≤ 6 := by unfold pts; split <;> split <;> omega
def adj (nx k : Nat) : Int := if 0 < nx ∧ k = nx then 3 else 0
theorem adj_rng (nx k : Nat) : 0 ≤ adj nx k ∧ adj nx k ≤ 3 := by unfold adj; split <;> omega

abbrev Bst := Int × List Int
def cmb (s x : Bst) : Bst := if x.1 > s.1 then x else s
def nb : Bst := (-1, [])
def fm (L : List Bst) : Bst := L.foldl cmb nb
theorem cmb_assoc (a b c : Bst) : cmb (cmb a b) c = cmb a (cmb b c) := by
  unfold cmb
  by_cases h1 : b.1 > a.1 <;> by_cases h2 : c.1 > b.1 <;> simp [h1, h2]
  · intro h; omega
  · intro h; omega
theorem cmb_nb {x : Bst} (h : -1 < x.1 ∨ x = nb) : cmb nb x = x := by
  rcases h with h | rfl
  · unfold cmb nb; rw [if_pos h]
  · rfl
theorem cmb_nb' {x : Bst} (h : -1 ≤ x.1) : cmb x nb = x := by unfold cmb nb; rw [if_neg]; simp; omega
theorem cmb_ge (a b : Bst) : a.1 ≤ (cmb a b).1 := by unfold cmb; split <;> omega
theorem fm_from (L : List Bst) : ∀ (s : Bst), -1 ≤ s.1 → (∀ x ∈ L, -1 < x.1 ∨ x = nb) → L.foldl cmb s = cmb s (fm L) := by
  induction L with
  | nil => intro s hs _; exact (cmb_nb' hs).symm
  | cons x L ih =>
    intro s hs hL
    have hx := hL x (List.mem_cons_self ..)
    have hL' : ∀ y ∈ L, -1 < y.1 ∨ y = nb := fun y hy => hL y (List.mem_cons_of_mem _ hy)
    have hx1 : -1 ≤ x.1 := by rcases hx with h | rfl; omega; decide
    unfold fm
    rw [List.foldl_cons, List.foldl_cons, cmb_nb hx, ih _ (by have := cmb_ge s x; omega) hL', ih x hx1 hL', cmb_assoc]
theorem fm_good (L : List Bst) : (∀ x ∈ L, -1 < x.1 ∨ x = nb) → -1 < (fm L).1 ∨ fm L = nb := by
  induction L with
  | nil => intro _; exact .inr rfl
  | cons x L ih =>
    intro hL
    have hx := hL x (List.mem_cons_self ..)
    have hL' : ∀ y ∈ L, -1 < y.1 ∨ y = nb := fun y hy => hL y (List.mem_cons_of_mem _ hy)
    have h1 : -1 ≤ x.1 := by rcases hx with h | rfl; omega; decide
    show -1 < ((x :: L).foldl cmb nb).1 ∨ (x :: L).foldl cmb nb = nb
    rw [List.foldl_cons, cmb_nb hx, fm_from L x h1 hL']
    unfold cmb
    split
    · exact ih hL'
    · exact hx
theorem fm_app (A B : List Bst) (hA : ∀ x ∈ A, -1 < x.1 ∨ x = nb) (hB : ∀ x ∈ B, -1 < x.1 ∨ x = nb) : fm (A ++ B) = cmb (fm A) (fm B) := by
  have : fm (A ++ B) = B.foldl cmb (fm A) := by unfold fm; rw [List.foldl_append]
  rw [this]
  exact fm_from B _ (by rcases fm_good A hA with h | h; omega; rw [h]; decide) hB

section
variable (P N : List UInt8)
def mt (j k : Nat) : Bool := lo (cb P j) == lo (cb N k)
def E : Nat → Nat → Nat → List (List Int)
  | 0, _, _ => [[]]
  | d + 1, j, nx => (List.range' nx (N.length - nx)).flatMap fun k => if mt P N j k then (E d (j + 1) (k + 1)).map (((k : Nat) : Int) :: ·) else []
def sc : Nat → Nat → List Int → Int
  | _, _, [] => 0
  | j, nx, k :: r => pts (cb P j) N k.toNat + adj nx k.toNat + sc (j + 1) (k.toNat + 1) r
theorem sc_nn : ∀ (l : List Int) (j nx : Nat), 0 ≤ sc P N j nx l
  | [], _, _ => by unfold sc; omega
  | k :: r, j, nx => by
    unfold sc
    have h1 := pts_rng (cb P j) N k.toNat
    have h2 := adj_rng nx k.toNat
    have h3 := sc_nn r (j + 1) (k.toNat + 1)
    omega
def al (j nx : Nat) (L : List (List Int)) : List Bst := L.map fun l => (sc P N j nx l, l)
theorem al_good (j nx : Nat) (L : List (List Int)) : ∀ x ∈ al P N j nx L, -1 < x.1 ∨ x = nb := by
  intro x hx
  obtain ⟨l, _, rfl⟩ := List.mem_map.1 hx
  have := sc_nn P N l j nx
  left; show -1 < sc P N j nx l; omega
def F (d j nx : Nat) : Bst := fm (al P N j nx (E P N d j nx))
theorem F_good (d j nx : Nat) : -1 < (F P N d j nx).1 ∨ F P N d j nx = nb := fm_good _ (al_good P N j nx _)
def sh (c : Int) (k : Nat) (x : Bst) : Bst := if x.1 = -1 then nb else (c + x.1, (k : Int) :: x.2)
theorem sh_cmb {c : Int} {k : Nat} {a b : Bst} (hc : 0 ≤ c) (ha : -1 < a.1 ∨ a = nb) (hb : -1 < b.1 ∨ b = nb) : sh c k (cmb a b) = cmb (sh c k a) (sh c k b) := by
  rcases ha with ha | rfl
  · rcases hb with hb | rfl
    · have e1 : ¬ a.1 = -1 := by omega
      have e2 : ¬ b.1 = -1 := by omega
      unfold sh cmb
      by_cases h : b.1 > a.1
      · simp [h, e1, e2]
      · simp [h, e1, e2]
    · have e1 : ¬ a.1 = -1 := by omega
      rw [cmb_nb' (by omega)]
      have : sh c k nb = nb := rfl
      rw [this, cmb_nb']
      unfold sh; rw [if_neg e1]; show -1 ≤ c + a.1; omega
  · rw [cmb_nb hb]
    have : sh c k nb = nb := rfl
    rw [this, cmb_nb]
    rcases hb with hb | rfl
    · left; unfold sh; rw [if_neg (by omega)]; show -1 < c + b.1; omega
    · right; rfl
theorem fm_sh {c : Int} {k : Nat} (hc : 0 ≤ c) : ∀ (L : List Bst), (∀ x ∈ L, -1 < x.1) → fm (L.map fun x => (c + x.1, (k : Int) :: x.2)) = sh c k (fm L) := by
  intro L
  induction L with
  | nil => intro _; rfl
  | cons x L ih =>
    intro hL
    have hx := hL x (List.mem_cons_self ..)
    have hL' : ∀ y ∈ L, -1 < y.1 := fun y hy => hL y (List.mem_cons_of_mem _ hy)
    have ih := ih hL'
    have e1 : fm (x :: L) = cmb x (fm L) := by
      show (x :: L).foldl cmb nb = _
      rw [List.foldl_cons, cmb_nb (.inl hx)]
      exact fm_from L x (by omega) fun y hy => .inl (hL' y hy)
    rw [e1, sh_cmb hc (.inl hx) (fm_good L fun y hy => .inl (hL' y hy)), ← ih]
    have e2 : sh c k x = (c + x.1, (k : Int) :: x.2) := by unfold sh; rw [if_neg (by omega)]
    rw [e2, List.map_cons]
    show ((c + x.1, (k : Int) :: x.2) :: _).foldl cmb nb = _
    rw [List.foldl_cons, cmb_nb (.inl (show -1 < c + x.1 by omega))]
    exact fm_from _ _ (show -1 ≤ c + x.1 by omega) fun y hy => by
      obtain ⟨z, hz, rfl⟩ := List.mem_map.1 hy
      left; have := hL' z hz; show -1 < c + z.1; omega
def Fk (d j nx k : Nat) : Bst := if mt P N j k then sh (pts (cb P j) N k + adj nx k) k (F P N d (j + 1) (k + 1)) else nb
theorem Fk_good (d j nx k : Nat) : -1 < (Fk P N d j nx k).1 ∨ Fk P N d j nx k = nb := by
  unfold Fk
  split
  · unfold sh
    split
    · exact .inr rfl
    · rename_i h
      rcases F_good P N d (j + 1) (k + 1) with h1 | h1
      · left
        have h2 := pts_rng (cb P j) N k
        have h3 := adj_rng nx k
        show -1 < pts (cb P j) N k + adj nx k + (F P N d (j + 1) (k + 1)).1
        omega
      · exact absurd (by rw [h1]; rfl) h
  · exact .inr rfl
theorem Fk_eq (d j nx k : Nat) : fm (al P N j nx (if mt P N j k then (E P N d (j + 1) (k + 1)).map (((k : Nat) : Int) :: ·) else [])) = Fk P N d j nx k := by
  unfold Fk
  split
  · have h2 := pts_rng (cb P j) N k
    have h3 := adj_rng nx k
    unfold F
    rw [← fm_sh (by omega) _ (fun x hx => by
      rcases al_good P N _ _ _ x hx with h | rfl
      · exact h
      · obtain ⟨l, _, hl⟩ := List.mem_map.1 hx
        have := sc_nn P N l (j + 1) (k + 1)
        have h5 := congrArg Prod.fst hl
        simp only [nb] at h5
        omega)]
    congr 1
    unfold al
    simp only [List.map_map]
    refine List.map_congr_left fun l hl => ?_
    simp [sc]
  · rfl
theorem F_succ (d j nx : Nat) : F P N (d + 1) j nx = (List.range' nx (N.length - nx)).foldl (fun s k => cmb s (Fk P N d j nx k)) nb := by
  have key : ∀ (ks : List Nat) (f : Nat → List (List Int)), (∀ k, fm (al P N j nx (f k)) = Fk P N d j nx k) → fm (al P N j nx (ks.flatMap f)) = ks.foldl (fun s k => cmb s (Fk P N d j nx k)) nb := by
    intro ks f hf
    have gen : ∀ (ks : List Nat) (s : Bst), -1 ≤ s.1 → ks.foldl (fun s k => cmb s (Fk P N d j nx k)) s = cmb s (fm (al P N j nx (ks.flatMap f))) := by
      intro ks
      induction ks with
      | nil => intro s hs; exact (cmb_nb' hs).symm
      | cons k ks ih =>
        intro s hs
        rw [List.foldl_cons, ih _ (by have := cmb_ge s (Fk P N d j nx k); omega), List.flatMap_cons]
        have : al P N j nx (f k ++ ks.flatMap f) = al P N j nx (f k) ++ al P N j nx (ks.flatMap f) := by unfold al; rw [List.map_append]
        rw [this, fm_app _ _ (al_good P N _ _ _) (al_good P N _ _ _), hf k, cmb_assoc]
    have := gen ks nb (by decide)
    rw [this, cmb_nb (fm_good _ (al_good P N j nx _))]
  unfold F
  rw [E]
  exact key _ _ fun k => Fk_eq P N d j nx k
def T (d j k : Nat) : Int := if mt P N j k ∧ (F P N d (j + 1) (k + 1)).1 ≠ -1 then pts (cb P j) N k + (F P N d (j + 1) (k + 1)).1 else -1
theorem T_rng (d j k : Nat) : -1 ≤ T P N d j k := by
  unfold T
  split
  · rename_i h
    have h2 := pts_rng (cb P j) N k
    rcases F_good P N d (j + 1) (k + 1) with h1 | h1
    · omega
    · exact absurd (by rw [h1]; rfl) h.2
  · omega
def row (d j : Nat) : List Int := (List.range N.length).map (T P N d j)
theorem row_len (d j : Nat) : (row P N d j).length = N.length := by simp [row]
theorem row_get {d j k : Nat} (h : k < N.length) : (row P N d j).getD k default = T P N d j k := by
  rw [getD_at (by rw [row_len]; exact h)]; simp [row]
def bstep (R : List Int) (nx : Nat) (s : Int × Int) (k : Nat) : Int × Int :=
  let v := if R.getD k default ≠ -1 ∧ 0 < nx ∧ k = nx then R.getD k default + 3 else R.getD k default
  if v > s.1 then (v, (k : Int)) else s
def bst (R : List Int) (nx : Nat) : Int × Int := (List.range' nx (R.length - nx)).foldl (bstep R nx) (-1, -1)
def Rel (d j : Nat) (s : Int × Int) (x : Bst) : Prop := (s = (-1, -1) ∧ x = nb) ∨ ∃ k : Nat, k < N.length ∧ 0 ≤ s.1 ∧ s.2 = (k : Int) ∧ (F P N d (j + 1) (k + 1)).1 ≠ -1 ∧ x = (s.1, (k : Int) :: (F P N d (j + 1) (k + 1)).2)
theorem rel_step {d j nx k : Nat} {s : Int × Int} {x : Bst} (hk : k < N.length) (h : Rel P N d j s x) : Rel P N d j (bstep (row P N d j) nx s k) (cmb x (Fk P N d j nx k)) := by
  have hs : s.1 = x.1 := by rcases h with ⟨rfl, rfl⟩ | ⟨_, _, _, _, _, rfl⟩ <;> rfl
  have h2 := pts_rng (cb P j) N k
  have h3 := adj_rng nx k
  unfold bstep cmb Fk
  simp only [row_get P N hk]
  by_cases hm : mt P N j k = true ∧ (F P N d (j + 1) (k + 1)).1 ≠ -1
  · have hF : 0 ≤ (F P N d (j + 1) (k + 1)).1 := by
      rcases F_good P N d (j + 1) (k + 1) with h1 | h1
      · omega
      · exact absurd (by rw [h1]; rfl) hm.2
    have hT : T P N d j k = pts (cb P j) N k + (F P N d (j + 1) (k + 1)).1 := by unfold T; rw [if_pos hm]
    have hv : (if T P N d j k ≠ -1 ∧ 0 < nx ∧ k = nx then T P N d j k + 3 else T P N d j k) = pts (cb P j) N k + adj nx k + (F P N d (j + 1) (k + 1)).1 := by
      unfold adj
      by_cases hc : 0 < nx ∧ k = nx
      · rw [if_pos ⟨by omega, hc⟩, if_pos hc]; omega
      · rw [if_neg (fun h => hc h.2), if_neg hc]; omega
    rw [hv, if_pos hm.1]
    have hsh : sh (pts (cb P j) N k + adj nx k) k (F P N d (j + 1) (k + 1)) = (pts (cb P j) N k + adj nx k + (F P N d (j + 1) (k + 1)).1, (k : Int) :: (F P N d (j + 1) (k + 1)).2) := by unfold sh; rw [if_neg hm.2]
    rw [hsh]
    simp only
    by_cases hg : pts (cb P j) N k + adj nx k + (F P N d (j + 1) (k + 1)).1 > s.1
    · rw [if_pos hg, if_pos (by omega)]
      exact .inr ⟨k, hk, by show 0 ≤ pts (cb P j) N k + adj nx k + (F P N d (j + 1) (k + 1)).1; omega, rfl, hm.2, rfl⟩
    · rw [if_neg hg, if_neg (by omega)]
      exact h
  · have hT : T P N d j k = -1 := by unfold T; rw [if_neg hm]
    have hx1 : -1 ≤ x.1 := by rcases h with ⟨rfl, rfl⟩ | ⟨_, _, h4, _, _, rfl⟩; decide; omega
    rw [hT]
    simp only [ne_eq, not_true_eq_false, false_and, if_false]
    rw [if_neg (by omega)]
    have hn : (if mt P N j k = true then sh (pts (cb P j) N k + adj nx k) k (F P N d (j + 1) (k + 1)) else nb) = nb := by
      split
      · rename_i h1
        unfold sh
        rw [if_pos (by by_cases h4 : (F P N d (j + 1) (k + 1)).1 = -1; exact h4; exact absurd ⟨h1, h4⟩ hm)]
      · rfl
    rw [hn]
    rw [if_neg (by show ¬ (-1 : Int) > x.1; omega)]
    first | exact h | (rw [if_neg (by omega)]; exact h)
theorem rel_bst (d j nx : Nat) : Rel P N d j (bst (row P N d j) nx) (F P N (d + 1) j nx) := by
  rw [F_succ]
  unfold bst
  rw [row_len]
  have gen : ∀ (ks : List Nat) (s : Int × Int) (x : Bst), (∀ k ∈ ks, k < N.length) → Rel P N d j s x → Rel P N d j (ks.foldl (bstep (row P N d j) nx) s) (ks.foldl (fun s k => cmb s (Fk P N d j nx k)) x) := by
    intro ks
    induction ks with
    | nil => intro s x _ h; exact h
    | cons k ks ih =>
      intro s x hk h
      rw [List.foldl_cons, List.foldl_cons]
      exact ih _ _ (fun k' h' => hk k' (List.mem_cons_of_mem _ h')) (rel_step P N (hk k (List.mem_cons_self ..)) h)
  refine gen _ _ _ (fun k hk => ?_) (.inl ⟨rfl, rfl⟩)
  rw [List.mem_range'_1] at hk
  omega
theorem bst_fst (d j nx : Nat) : (bst (row P N d j) nx).1 = (F P N (d + 1) j nx).1 := by
  rcases rel_bst P N d j nx with ⟨h1, h2⟩ | ⟨_, _, _, _, _, h2⟩
  · rw [h1, h2]; rfl
  · rw [h2]
theorem bst_some {d j nx : Nat} (h : (F P N (d + 1) j nx).1 ≠ -1) : ∃ k : Nat, k < N.length ∧ (bst (row P N d j) nx).2 = (k : Int) ∧ (F P N d (j + 1) (k + 1)).1 ≠ -1 ∧ (F P N (d + 1) j nx).2 = (k : Int) :: (F P N d (j + 1) (k + 1)).2 := by
  rcases rel_bst P N d j nx with ⟨h1, h2⟩ | ⟨k, h1, _, h2, h3, h4⟩
  · rw [h2] at h; exact absurd rfl h
  · exact ⟨k, h1, h2, h3, by rw [h4]⟩
theorem F_le : ∀ (d j nx : Nat), (F P N d j nx).1 ≤ 9 * (d : Int)
  | 0, j, nx => by
    have : F P N 0 j nx = (0, []) := rfl
    rw [this]; simp
  | d + 1, j, nx => by
    rw [F_succ]
    have gen : ∀ (ks : List Nat) (s : Bst), s.1 ≤ 9 * ((d + 1 : Nat) : Int) → (ks.foldl (fun s k => cmb s (Fk P N d j nx k)) s).1 ≤ 9 * ((d + 1 : Nat) : Int) := by
      intro ks
      induction ks with
      | nil => intro s h; exact h
      | cons k ks ih =>
        intro s h
        rw [List.foldl_cons]
        refine ih _ ?_
        unfold cmb
        split
        · unfold Fk
          split
          · unfold sh
            split
            · simp [nb]; omega
            · have h1 := F_le d (j + 1) (k + 1)
              have h2 := pts_rng (cb P j) N k
              have h3 := adj_rng nx k
              show pts (cb P j) N k + adj nx k + (F P N d (j + 1) (k + 1)).1 ≤ _
              omega
          · simp [nb]; omega
        · exact h
    exact gen _ _ (by simp [nb]; omega)
theorem T_le (d j k : Nat) : T P N d j k ≤ 9 * (d : Int) + 6 := by
  unfold T
  split
  · have h1 := F_le P N d (j + 1) (k + 1)
    have h2 := pts_rng (cb P j) N k
    omega
  · omega
end
end Go.Proofs.Ytobkgelkaljjeaa
