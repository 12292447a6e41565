/-
  Own framework.
-/
import Derived.Test.YtobkgelkaljjeaaFxMr
import Derived.Test.YtobkgelkaljjeaaFxGr
namespace Go.Fx
set_option linter.unusedVariables false

def holeR {α : Type} (e : α → List AVal) (l : List α) (i : Nat) (c : AVal) : List (List AVal) := (l.map e).set i [c]
section
variable {α : Type} {e : α → List AVal} {l : List α} {i j : Nat} {c c' : AVal}
theorem hole_len : (holeR e l i c).length = l.length := by simp [holeR]
theorem hole_lt (h : j < l.length) : j < (holeR e l i c).length := by rw [hole_len]; exact h
theorem hole_set (he : ∀ x, (e x).length = 1) (h : i < l.length) : (l.map e).set i (splice ((l.map e).getD i []) 0 [c]) = holeR e l i c := by
  have : (l.map e).getD i [] = e l[i] := by simp [List.getD_eq_getElem?_getD, h]
  rw [this]
  have h1 := he l[i]
  match hx : e l[i], h1 with
  | [y], _ => rfl
theorem hole_setI (h : i < l.length) : (holeR e l i c).set i (splice ((holeR e l i c).getD i []) 0 [c']) = holeR e l i c' := by
  have : (holeR e l i c).getD i [] = [c] := by simp [holeR, List.getD_eq_getElem?_getD, h]
  rw [this]
  unfold holeR
  rw [List.set_set]; rfl
theorem hole_rowI (h : i < l.length) : (holeR e l i c).getD i [] = [c] := by simp [holeR, List.getD_eq_getElem?_getD, h]
theorem hole_rowN [Inhabited α] (h : j < l.length) (hn : j ≠ i) : (holeR e l i c).getD j [] = e (l.getD j default) := by
  unfold holeR
  rw [List.getD_eq_getElem?_getD, List.getElem?_set_ne (fun e => hn e.symm), List.getElem?_map, List.getD_eq_getElem?_getD, List.getElem?_eq_getElem h]
  rfl
section
variable {F : Id → Bool} {H : AHeap} {ρ : Id → Option Id} {n : Nat}
theorem BVw.hole (he : ∀ x, AVal.nid.nidL (e x) = true) (hc : Vw F H ρ n c c') : BVw F H ρ n (.rows 1 (holeR e l i c)) (.rows 1 (holeR e l i c')) := by
  refine .rows 1 _ _ (by rw [hole_len, hole_len]) fun k r r' h1 h2 => ?_
  unfold holeR at h1 h2
  rw [List.getElem?_set] at h1 h2
  by_cases hk : i = k
  · subst hk
    rw [if_pos rfl] at h1 h2
    split at h1
    · rename_i hl
      rw [if_pos hl] at h2
      simp only [Option.some.injEq] at h1 h2
      subst h1; subst h2
      exact ⟨rfl, fun j x y hx hy => by
        cases j with
        | zero => simp only [List.getElem?_cons_zero, Option.some.injEq] at hx hy; subst hx; subst hy; exact hc
        | succ j => simp at hx⟩
    · cases h1
  · rw [if_neg hk] at h1 h2
    rw [h1] at h2
    simp only [Option.some.injEq] at h2
    subst h2
    rw [List.getElem?_map] at h1
    obtain ⟨z, _, hz⟩ := Option.map_eq_some_iff.1 h1
    subst hz
    exact ⟨rfl, fun j x y hx hy => vwL_same (he z) j x y hx hy⟩
theorem BVw.holeFrz (he : ∀ x, AVal.nid.nidL (e x) = true) {r0 : α} {d : AVal} (hr : e r0 = [d]) (hc : Vw F H ρ n c d) : BVw F H ρ n (.rows 1 (holeR e l i c)) (.rows 1 ((l.set i r0).map e)) := by
  have := BVw.hole (F := F) (H := H) (ρ := ρ) (n := n) (l := l) (i := i) he hc
  have e1 : holeR e l i d = (l.set i r0).map e := by unfold holeR; rw [List.map_set, hr]
  rwa [e1] at this
end
theorem hole_ren {g : Id → Id} (he : ∀ x, AVal.nid.nidL (e x) = true) (hc : c.ren g = c') : (ABlock.rows 1 (holeR e l i c)).ren g = .rows 1 (holeR e l i c') := by
  unfold holeR
  simp only [ABlock.ren, renRows, List.map_set, List.map_map]
  congr 1
  have : (l.map ((fun x => AVal.ren.renL g x) ∘ e)) = l.map e := List.map_congr_left fun x _ => nidL_ren _ (he x)
  rw [this]
  simp only [AVal.ren.renL, hc]
end
theorem Vw.frzG {F : Id → Bool} {H : AHeap} {ρ : Id → Option Id} {n : Nat} {α : Type} (f : α → List AVal) {b : Id} {q s len : Nat} {fl fl' : Bool} {l : List (List α)} (hff : fl' = true → fl = true) (hF : F b = true) (hg : H.get b = some (.rows 1 (outG q s (l.map (List.map f))))) (hl : len = l.length) :
    Vw F H ρ n (.msl b 1 0 len fl) (.isl 1 (l.map fun x => [AVal.isl s (x.map f) false]) fl') := by
  have hrow : ∀ (i : Nat) (r r' : List AVal), (outG q s (l.map (List.map f)))[0 + i]? = some r → (l.map fun x => [AVal.isl s (x.map f) false])[i]? = some r' → ∃ x : List α, r = [.osl (q, i) s (x.map f)] ∧ r' = [.isl s (x.map f) false] := fun i r r' h h' => by
    rw [Nat.zero_add, outG_get, List.getElem?_map] at h
    rw [List.getElem?_map] at h'
    cases hx : l[i]? with
    | none => rw [hx] at h'; cases h'
    | some x =>
      rw [hx] at h h'
      simp only [Option.map_some, Option.some.injEq] at h h'
      exact ⟨x, h.symm, h'.symm⟩
  refine .frz b 1 0 len fl fl' _ _ hff hF hg (by rw [outG_len, List.length_map]; omega) (by rw [List.length_map]; exact hl.symm) (fun i r r' h h' => ?_) (fun i r r' j x y h h' hx hy => ?_) (fun r' hr y hy => ?_)
  · obtain ⟨x, rfl, rfl⟩ := hrow i r r' h h'; rfl
  · obtain ⟨z, rfl, rfl⟩ := hrow i r r' h h'
    cases j with
    | zero => simp only [List.getElem?_cons_zero, Option.some.injEq] at hx hy; subst hx; subst hy; exact .oslI _ _ _
    | succ j => simp at hx
  · obtain ⟨x, _, rfl⟩ := List.mem_map.1 hr
    rw [List.mem_singleton] at hy
    subst hy; rfl
end Go.Fx
