/-
  Own text T7 of this claim: what functions of the given program compute, step by step; no condition.
-/
import Derived.Test.YtbpbdpeccjoobaaT6
namespace Go.Proofs.Ytbpbdpeccjoobaa
open Go.Fw
set_option linter.unusedSimpArgs false
theorem refMap_late {o : Int} {r : Bool} : ∀ {p : Int} {E : List TE}, validL p E = true → o ≤ p → refMap o r E = o
  | _, [], _, _ => rfl
  | p, e :: l, h, ho => by
    rw [validL] at h
    split at h
    · cases h
    · have := refMap_late (r := r) (o := o) h (by omega)
      unfold refMap at this ⊢
      rw [List.foldr_cons, this, refStep, if_neg (by omega), if_neg (by omega)]
theorem mapL_W {o : Int} {r : Bool} : ∀ {p : Int} {E : List TE} {s : Int}, validL p E = true → mapL o r (W s) E = W (s + refMap o r E)
  | _, [], s, _ => by simp only [mapL, refMap, List.foldr_nil, W_add']; congr 1; omega
  | p, e :: l, s, h => by
    rw [validL] at h
    split at h
    · cases h
    · rename_i hv
      have hcons : refMap o r (e :: l) = refStep o r e (refMap o r l) := rfl
      rw [mapL]
      split
      · rename_i hc
        rw [W_sub', W_add, W_add', mapL_W h, hcons, refStep, if_neg (by omega), if_pos (by grind)]
        simp only [W_add, W_add', W_sub, W_sub']
        congr 1; omega
      · rename_i hc
        have hl : refMap o r l = o := refMap_late h (by omega)
        rw [hcons, hl, refStep]
        split
        · rename_i h1
          rw [if_pos (by grind), if_pos h1.2]
          simp only [W_add, W_add']
          congr 1; omega
        · split
          · rename_i h1 h2
            rw [if_pos (by grind), if_neg (by grind)]
            simp only [W_add, W_add']
            congr 1; omega
          · rename_i h1 h2
            rw [if_neg (by omega), if_neg (by grind)]
            simp only [W_add, W_add']
            congr 1; omega
theorem refMap_in {o : Int} {r : Bool} (ho : inR o) : ∀ {E : List TE}, (∀ e ∈ E, inR e.st) → inR (refMap o r E)
  | [], _ => ho
  | e :: l, h => by
    have hcons : refMap o r (e :: l) = refStep o r e (refMap o r l) := rfl
    have ih := refMap_in (r := r) ho (fun x hx => h x (List.mem_cons_of_mem _ hx)) (E := l)
    rw [hcons, refStep]
    split
    · split
      · exact inR_W _
      · exact h e (List.mem_cons_self ..)
    · split
      · exact inR_W _
      · exact ih
theorem mapL_ref {o : Int} {r : Bool} {E : List TE} (h : valErr E = 0) (hE : ∀ e ∈ E, inR e.st) (ho : inR o) : mapL o r 0 E = refMap o r E := by
  have hv : validL (-1) E = true := by
    unfold valErr at h
    split at h
    · omega
    · split at h
      · assumption
      · omega
  have := mapL_W (o := o) (r := r) (s := 0) hv
  rw [W_in (show inR 0 by unfold inR; omega)] at this
  rw [this, Int.zero_add, W_in (refMap_in ho hE)]
end Go.Proofs.Ytbpbdpeccjoobaa
