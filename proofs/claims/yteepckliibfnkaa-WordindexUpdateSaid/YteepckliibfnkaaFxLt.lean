/-
  Own framework.
-/
import Derived.Test.YteepckliibfnkaaFxP
import Derived.Test.YteepckliibfnkaaFxN
namespace Go.Fx
set_option linter.unusedVariables false
theorem Wi {i : Nat} (h : i ≤ 4611686018427387904) : W ((i : Int) + 1) = ((i + 1 : Nat) : Int) := by rw [W_in (by unfold inR; omega)]; omega
theorem getD_at {α : Type} [Inhabited α] {l : List α} {i : Nat} (h : i < l.length) : l.getD i default = l[i] := by
  simp [List.getD_eq_getElem?_getD, h]
def lowr (x : List UInt8) (l : List (List UInt8)) : List (List UInt8) := l.takeWhile fun y => decide (y < x)
def uppr (x : List UInt8) (l : List (List UInt8)) : List (List UInt8) := l.dropWhile fun y => decide (y < x)
def insS (l : List (List UInt8)) (x : List UInt8) : List (List UInt8) := match uppr x l with
  | [] => lowr x l ++ [x]
  | y :: r => if y = x then l else lowr x l ++ (x :: y :: r)
theorem low_up (x : List UInt8) (l : List (List UInt8)) : lowr x l ++ uppr x l = l := List.takeWhile_append_dropWhile
theorem low_lt {x : List UInt8} : ∀ {l : List (List UInt8)}, ∀ y ∈ lowr x l, y < x
  | [], y, hy => by cases hy
  | z :: l, y, hy => by
    unfold lowr at hy
    rw [List.takeWhile_cons] at hy
    split at hy
    · rename_i hz
      rcases List.mem_cons.1 hy with rfl | hy
      · simpa using hz
      · exact low_lt y hy
    · cases hy
theorem up_head {x : List UInt8} : ∀ {l : List (List UInt8)} {y : List UInt8} {r : List (List UInt8)}, uppr x l = y :: r → ¬ y < x
  | [], _, _, h => by cases h
  | z :: l, y, r, h => by
    unfold uppr at h
    rw [List.dropWhile_cons] at h
    split at h
    · exact up_head h
    · rename_i hz
      cases h
      simpa using hz
theorem insS_mem {l : List (List UInt8)} {x y : List UInt8} : y ∈ insS l x ↔ y = x ∨ y ∈ l := by
  have e := low_up x l
  unfold insS
  split
  · rename_i hu
    rw [hu, List.append_nil] at e
    rw [e]; simp [or_comm]
  · rename_i z r hu
    rw [hu] at e
    split
    · rename_i hz
      subst hz
      constructor
      · exact .inr
      · rintro (rfl | h)
        · rw [← e]; simp
        · exact h
    · conv => rhs; rw [← e]
      simp only [List.mem_append, List.mem_cons]
      constructor
      · rintro (h | h | h | h)
        · exact .inr (.inl h)
        · exact .inl h
        · exact .inr (.inr (.inl h))
        · exact .inr (.inr (.inr h))
      · rintro (h | h | h | h)
        · exact .inr (.inl h)
        · exact .inl h
        · exact .inr (.inr (.inl h))
        · exact .inr (.inr (.inr h))
theorem insS_asc {l : List (List UInt8)} {x : List UInt8} (h : l.Pairwise (· < ·)) : (insS l x).Pairwise (· < ·) := by
  have e := low_up x l
  unfold insS
  split
  · rename_i hu
    rw [hu, List.append_nil] at e
    rw [e, List.pairwise_append]
    refine ⟨h, List.pairwise_singleton .., fun a ha b hb => ?_⟩
    simp only [List.mem_singleton] at hb
    subst hb
    rw [← e] at ha
    exact low_lt a ha
  · rename_i z r hu
    rw [hu] at e
    split
    · exact h
    · rename_i hz
      have hzx : x < z := by
        have h1 := up_head hu
        exact List.not_le.1 fun h2 => hz (List.le_antisymm h2 (List.not_lt.1 h1))
      rw [← e, List.pairwise_append] at h
      obtain ⟨h1, h2, h3⟩ := h
      rw [List.pairwise_append]
      refine ⟨h1, List.pairwise_cons.2 ⟨fun b hb => ?_, h2⟩, fun a ha b hb => ?_⟩
      · rcases List.mem_cons.1 hb with rfl | hb
        · exact hzx
        · exact List.lt_trans hzx ((List.pairwise_cons.1 h2).1 b hb)
      · rcases List.mem_cons.1 hb with rfl | hb
        · exact low_lt a ha
        · exact h3 a ha b hb
theorem insS_len (l : List (List UInt8)) (x : List UInt8) : (insS l x).length ≤ l.length + 1 := by
  have e := congrArg List.length (low_up x l)
  unfold insS
  split
  · rename_i hu; rw [hu] at e; simp at e ⊢; omega
  · rename_i z r hu
    rw [hu] at e
    split
    · omega
    · simp at e ⊢; omega
def sortS (l : List (List UInt8)) : List (List UInt8) := l.foldl insS []
theorem foldS_asc : ∀ (l acc : List (List UInt8)), acc.Pairwise (· < ·) → (l.foldl insS acc).Pairwise (· < ·)
  | [], acc, h => h
  | x :: l, acc, h => foldS_asc l _ (insS_asc h)
theorem foldS_mem {y : List UInt8} : ∀ (l acc : List (List UInt8)), y ∈ l.foldl insS acc ↔ y ∈ acc ∨ y ∈ l
  | [], acc => by simp
  | x :: l, acc => by
    rw [List.foldl_cons, foldS_mem l, insS_mem, List.mem_cons]
    constructor
    · rintro ((h | h) | h)
      · exact .inr (.inl h)
      · exact .inl h
      · exact .inr (.inr h)
    · rintro (h | h | h)
      · exact .inl (.inr h)
      · exact .inl (.inl h)
      · exact .inr h
theorem foldS_len : ∀ (l acc : List (List UInt8)), (l.foldl insS acc).length ≤ acc.length + l.length
  | [], acc => Nat.le_refl _
  | x :: l, acc => by
    have h1 := foldS_len l (insS acc x)
    have h2 := insS_len acc x
    rw [List.foldl_cons, List.length_cons]; omega
theorem sortS_asc (l : List (List UInt8)) : (sortS l).Pairwise (· < ·) := foldS_asc l [] List.Pairwise.nil
theorem sortS_mem {l : List (List UInt8)} {y : List UInt8} : y ∈ sortS l ↔ y ∈ l := by unfold sortS; rw [foldS_mem]; simp
theorem sortS_len (l : List (List UInt8)) : (sortS l).length ≤ l.length := by have := foldS_len l []; simpa [sortS] using this
theorem low_take (x : List UInt8) (l : List (List UInt8)) : l.take (lowr x l).length = lowr x l := by
  have h : (lowr x l ++ uppr x l).take (lowr x l).length = lowr x l := List.take_left
  rwa [low_up] at h
theorem low_drop (x : List UInt8) (l : List (List UInt8)) : l.drop (lowr x l).length = uppr x l := by
  have h : (lowr x l ++ uppr x l).drop (lowr x l).length = uppr x l := List.drop_left
  rwa [low_up] at h
theorem scan_low {x : List UInt8} {l : List (List UInt8)} {i : Nat} (h : i < (lowr x l).length) : ∃ hi : i < l.length, l[i] < x := by
  have e := low_up x l
  have hl : i < l.length := by rw [← e, List.length_append]; omega
  refine ⟨hl, ?_⟩
  have : l[i] = (lowr x l)[i] := by
    have h2 : (lowr x l ++ uppr x l)[i]? = (lowr x l)[i]? := List.getElem?_append_left h
    rw [e] at h2
    rw [List.getElem?_eq_getElem hl, List.getElem?_eq_getElem h] at h2
    simpa using h2
  rw [this]; exact low_lt _ (List.getElem_mem h)
theorem scan_up {x : List UInt8} {l : List (List UInt8)} (h : (lowr x l).length < l.length) : ¬ l[(lowr x l).length] < x ∧ uppr x l = l[(lowr x l).length] :: l.drop ((lowr x l).length + 1) := by
  have e := low_up x l
  have hd := low_drop x l
  rw [List.drop_eq_getElem_cons h] at hd
  exact ⟨up_head hd.symm, hd.symm⟩
theorem asc_ext {l l' : List (List UInt8)} (h : l.Pairwise (· < ·)) (h' : l'.Pairwise (· < ·)) (he : ∀ x, x ∈ l ↔ x ∈ l') : l = l' := by
  have n : ∀ {l : List (List UInt8)}, l.Pairwise (· < ·) → l.Nodup := fun h => h.imp fun h1 e => by subst e; exact List.lt_irrefl _ h1
  exact List.Perm.eq_of_pairwise (le := (· < ·)) (fun a b _ _ h1 h2 => absurd (List.lt_trans h1 h2) (List.lt_irrefl _)) h h' ((List.perm_ext_iff_of_nodup (n h) (n h')).2 he)
section
variable {κ ν : Type} [DecidableEq κ] {q : κ → κ → Bool}
end
end Go.Fx
