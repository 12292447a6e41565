/-
  Own framework.
-/
import Derived.Test.YteepckliibfnkaaFxLb
import Derived.Shelf.SlSortCmp.NoneTotal
namespace Go.Fx
open Go.Shelf Go.RowKit Go.Lib Go.Sort Go.Proofs
set_option linter.unusedVariables false


theorem ext_grow {I I' : Nat → Nat → Prop} {β' : Id → Option CLoc} {n' : Nat} {H' : AHeap} {w w' : World} (h : Ext I (fun _ => none) 0 [] w I' β' n' H' w') : ∃ n os, w' = grow (w.drewN n) os := by
  refine ⟨w'.drawn - w.drawn, w'.heap.extract w.heap.size w'.heap.size, ?_⟩
  have h1 := h.os
  have h2 := h.tape.eq
  have h3 := h.tape.le rfl
  have h4 := h.output
  have h5 : w'.heap = w.heap ++ w'.heap.extract w.heap.size w'.heap.size := by
    refine Array.ext_getElem? fun i => ?_
    rw [Array.getElem?_append]
    split
    · rename_i hi
      exact h.frame i hi (fun id c k hc => by cases hc)
    · rename_i hi
      rw [Array.getElem?_extract]
      split
      · congr 1; omega
      · rename_i hi2
        exact Array.getElem?_eq_none (by omega)
  have h6 : w'.drawn = w.drawn + (w'.drawn - w.drawn) := by omega
  obtain ⟨hp, tp, dr, os, out⟩ := w'
  simp only at h1 h2 h4 h5 h6
  unfold grow World.drewN
  simp only [World.mk.injEq]
  exact ⟨h5, h2, h6, h1, h4⟩
section
variable {P : Program} {ρ : Ren} {α : Type} [Inhabited α]
def fcells (e : α → List AVal) (x : α) : List Value := (e x).map fval

def sortF (cf : α → α → Int) (l : List α) : List α := (pdq (ltOf cf) l.toArray 0 l.length (Lib.bitLen l.length) true true).toList
theorem sortF_perm {cf : α → α → Int} (hO : SWO (ltOf cf)) (l : List α) : (sortF cf l).Perm l ∧ (sortF cf l).Pairwise fun x y => ltOf cf y x = false := by
  have h := pdq_sorts (ltOf cf) hO l.toArray 0 l.length (Lib.bitLen l.length) true true (Nat.zero_le _) (by simp) (Or.inl rfl)
  obtain ⟨⟨h1, h2, h3⟩, h4⟩ := h
  have e1 : ∀ d : Array α, d.size = l.length → (d.extract 0 l.length).toList = d.toList := fun d hd => by
    rw [← hd]; simp
  rw [e1 _ (by rw [h1]; simp), e1 _ (by simp)] at h3
  refine ⟨by unfold sortF; simpa using h3, ?_⟩
  rw [List.pairwise_iff_getElem]
  intro i j hi hj hij
  unfold sortF at hi hj ⊢
  have := h4 i j (Nat.zero_le _) hij (by simpa [h1] using hj)
  rw [Array.length_toList] at hi hj
  simp only [Array.getElem_toList]
  rwa [getElem!_pos _ j hj, getElem!_pos _ i hi] at this
theorem sortF_len {cf : α → α → Int} (hO : SWO (ltOf cf)) (l : List α) : (sortF cf l).length = l.length := (sortF_perm hO l).1.length_eq

theorem chg_sort {w : World} {c : CLoc} {enc : α → List Value} {k m : Nat} {d0 d : Array α} {os : Array Obj} (hk : 0 < k) (h0 : HoldsK enc k w c.blk c.base d0) (hs : d.size = d0.size) (hne : 0 < d0.size) (hlo : c.lo ≤ c.base) (hsz : c.base + d0.size * k ≤ c.size) :
    Chg w (sortWorldK enc k w c.blk c.base m d os) c.has := by
  have hb : c.blk < w.heap.size := by
    have := (h0 0 (by simp; exact Nat.mul_pos hne hk)).1
    exact block_lt this
  have hin : c.has c.blk c.base := ⟨rfl, hlo, by have := Nat.mul_pos hne hk; omega⟩
  have hput : ∀ b, b ≠ c.blk → (putRowK enc k (Sort.ahead w m) c.blk c.base d).heap[b]? = w.heap[b]? := fun b hb' => by
    unfold putRowK putRow mapBlock
    simp only [Array.getElem?_modify, heap_ahead]
    rw [if_neg (fun e => hb' e.symm)]
  have hold : ∀ b, b < w.heap.size → (sortWorldK enc k w c.blk c.base m d os).heap[b]? = (putRowK enc k (Sort.ahead w m) c.blk c.base d).heap[b]? := fun b hb' => heap_grow_old _ _ (by unfold putRowK; simpa using hb')
  have hat : ∀ o, w.heap[c.blk]? = some o → (putRowK enc k (Sort.ahead w m) c.blk c.base d).heap[c.blk]? = some (onCells (putCells id c.base (flatK enc k d)) o) := fun o ho => by
    unfold putRowK putRow mapBlock
    simp only [Array.getElem?_modify, heap_ahead, if_pos, ho, Option.map_some]
  refine ⟨rfl, ⟨rfl, fun _ => Nat.le_add_right _ _⟩, rfl, by unfold sortWorldK putRowK; simp, fun b hb' hn => ?_, fun b j hb' hn => ?_, fun b arr el fr h => ?_, fun b o ho h hn => ?_⟩
  · rw [hold b hb', hput b (fun e => hn c.base (e ▸ hin))]
  · have e1 : (sortWorldK enc k w c.blk c.base m d os).cell? ⟨b, j, none⟩ = (putRowK enc k (Sort.ahead w m) c.blk c.base d).cell? ⟨b, j, none⟩ := cell?_of_heap (hold b hb')
    rw [e1]
    refine cell?_putRow_other id (Sort.ahead w m) c.blk c.base (flatK enc k d) ⟨b, j, none⟩ ?_
    by_cases e : b = c.blk
    · subst e
      right
      by_cases h1 : j < c.base
      · exact .inl h1
      · right
        have : ¬ (c.lo ≤ j ∧ j < c.size) := fun h2 => hn ⟨rfl, h2.1, h2.2⟩
        simp only [size_flatK, hs]
        omega
    · exact .inl e
  · have hlt : b < w.heap.size := by
      rcases Nat.lt_or_ge b w.heap.size with h' | h'
      · exact h'
      · rw [Array.getElem?_eq_none h'] at h; cases h
    rw [hold b hlt]
    by_cases e : b = c.blk
    · subst e
      rw [hat _ h]
      exact ⟨_, rfl, by simp [putCells]⟩
    · rw [hput b e]; exact ⟨arr, h, rfl⟩
  · have hlt : b < w.heap.size := by
      rcases Nat.lt_or_ge b w.heap.size with h' | h'
      · exact h'
      · rw [Array.getElem?_eq_none h'] at h; cases h
    rw [hold b hlt]
    by_cases e : b = c.blk
    · subst e
      rw [hat _ h]
      cases o <;> first | rfl | cases ho
    · rw [hput b e]; exact h

end
end Go.Fx
