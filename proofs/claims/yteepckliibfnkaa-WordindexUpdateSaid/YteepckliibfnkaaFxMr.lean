/-
  Own framework.
-/
import Derived.Test.YteepckliibfnkaaFxN
namespace Go.Fx
set_option linter.unusedVariables false

theorem Vw.frzPart {F : Id → Bool} {H : AHeap} {ρ : Id → Option Id} {n : Nat} {α : Type} (f : α → List AVal) (hf : ∀ x, AVal.nid.nidL (f x) = true ∧ ∀ y ∈ f x, y.imm = some y) {b : Id} {s off len : Nat} {fl : Bool} {fl' : Bool} {l : List α} (hff : fl' = true → fl = true) (hF : F b = true) (hg : H.get b = some (.rows s (l.map f))) (hl : off + len ≤ l.length) : Vw F H ρ n (.msl b s off len fl) (.isl s (((l.drop off).take len).map f) fl') := by
  have hsame : ∀ (i : Nat) (r r' : List AVal), (l.map f)[off + i]? = some r → (((l.drop off).take len).map f)[i]? = some r' → r = r' ∧ ∃ z, r' = f z := fun i r r' h h' => by
    rw [List.getElem?_map, List.getElem?_take] at h'
    split at h'
    · rw [List.getElem?_drop] at h'
      rw [List.getElem?_map] at h
      rw [h] at h'
      simp only [Option.some.injEq] at h'
      obtain ⟨z, _, hz⟩ := Option.map_eq_some_iff.1 h
      exact ⟨h', z, by rw [← h', hz]⟩
    · cases h'
  refine .frz b s off len fl fl' (l.map f) _ hff hF hg (by simpa using hl) (by simp; omega) (fun i r r' h h' => by rw [(hsame i r r' h h').1]) (fun i r r' j x y h h' hx hy => ?_) (fun r hr y hy => ?_)
  · obtain ⟨e, z, hz⟩ := hsame i r r' h h'
    subst e; subst hz
    exact vwL_same (hf z).1 j x y hx hy
  · obtain ⟨z, _, rfl⟩ := List.mem_map.1 hr
    exact (hf z).2 y hy
noncomputable def allM {ρ : Type} (l : List Nat) (F : Nat → Option ρ) : Option ρ := match l with
  | [] => none
  | [j] => F j
  | l => by classical exact if h : ∃ r, ∀ j ∈ l, F j = some r then some (Classical.choose h) else none
section
variable {σ ρ : Type} (N : Nat) (b : Nat → σ → Option (σ ⊕ ρ)) (d : σ → Option (σ ⊕ ρ))
def unmet (seen : List Nat) : List Nat := (List.range N).filter fun j => !seen.contains j
noncomputable def rangeF : Nat → List Nat → σ → Option ρ
  | 0, _, _ => none
  | k + 1, seen, s => match unmet N seen with
    | [] => (d s).bind fun o => match o with
      | .inl _ => none
      | .inr r => some r
    | l => allM l fun j => (b j s).bind fun o => match o with
      | .inl s' => rangeF k (j :: seen) s'
      | .inr r => some r
def rangeL : List Nat → σ → Option ρ
  | [], s => (d s).bind fun o => match o with
    | .inl _ => none
    | .inr r => some r
  | j :: l, s => (b j s).bind fun o => match o with
    | .inl s' => rangeL l s'
    | .inr r => some r
variable {N b d}
end

variable {P : Program} {N : Lay} {n0 : Nat}
def BodyF {σ ρ : Type} (n0 nL : Nat) (F : Nat → List Nat → σ → Option ρ) (env : List Nat → σ → Env) (hp : List Nat → σ → AHeap) (QX : ρ → Exit → Env → AHeap → Nat → Prop) (k : Nat) (r : ρ) : Exit → Env → AHeap → Nat → Prop := fun ex e H n =>
  (ex = .normal ∧ ∃ seen s, F k seen s = some r ∧ Sim n0 e H n (env seen s) (hp seen s) nL) ∨ (ex ≠ .normal ∧ QX r ex e H n)
end Go.Fx
