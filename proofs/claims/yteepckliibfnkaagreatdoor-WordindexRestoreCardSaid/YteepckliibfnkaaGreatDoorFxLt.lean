/-
  Own framework.
-/
import Derived.Test.YteepckliibfnkaaGreatDoorFxP
import Derived.Test.YteepckliibfnkaaGreatDoorFxN
namespace Go.Fx
set_option linter.unusedVariables false
theorem Wi {i : Nat} (h : i ≤ 4611686018427387904) : W ((i : Int) + 1) = ((i + 1 : Nat) : Int) := by rw [zr5 (by unfold inR; omega)]; omega
theorem q8 {α : Type} [Inhabited α] {l : List α} {i : Nat} (h : i < l.length) : l.getD i default = l[i] := by
 simp [List.getD_eq_getElem?_getD, h]
def Wd (x : List UInt8) (l : List (List UInt8)) : List (List UInt8) := l.takeWhile fun y => decide (y < x)
def zen (x : List UInt8) (l : List (List UInt8)) : List (List UInt8) := l.dropWhile fun y => decide (y < x)
def z1e (l : List (List UInt8)) (x : List UInt8) : List (List UInt8) := match zen x l with
 | [] => Wd x l ++ [x]
 | y :: r => if y = x then l else Wd x l ++ (x :: y :: r)
theorem Kf (x : List UInt8) (l : List (List UInt8)) : Wd x l ++ zen x l = l := List.takeWhile_append_dropWhile
theorem zb6 {x : List UInt8} : ∀ {l : List (List UInt8)}, ∀ y ∈ Wd x l, y < x
 | [], y, hy => by cases hy
 | z :: l, y, hy => by
  unfold Wd at hy
  rw [List.takeWhile_cons] at hy
  split at hy
  ·rename_i hz
   rcases List.mem_cons.1 hy with rfl | hy
   ·simpa using hz
   ·exact zb6 y hy
  ·cases hy
theorem z9a {x : List UInt8} : ∀ {l : List (List UInt8)} {y : List UInt8} {r : List (List UInt8)}, zen x l = y :: r → ¬ y < x
 | [], _, _, h => by cases h
 | z :: l, y, r, h => by
  unfold zen at h
  rw [List.dropWhile_cons] at h
  split at h
  ·exact z9a h
  ·rename_i hz
   cases h
   simpa using hz
theorem zpp {l : List (List UInt8)} {x y : List UInt8} : y ∈ z1e l x ↔ y = x ∨ y ∈ l := by
 have e := Kf x l
 unfold z1e
 split
 ·rename_i hu
  rw [hu, List.append_nil] at e
  rw [e]; simp [or_comm]
 ·rename_i z r hu
  rw [hu] at e
  split
  ·rename_i hz
   subst hz
   constructor
   ·exact .inr
   ·rintro (rfl | h)
    ·rw [← e]; simp
    ·exact h
  ·conv => rhs; rw [← e]
   simp only [List.mem_append, List.mem_cons]
   constructor
   ·rintro (h | h | h | h)
    ·exact .inr (.inl h)
    ·exact .inl h
    ·exact .inr (.inr (.inl h))
    ·exact .inr (.inr (.inr h))
   ·rintro (h | h | h | h)
    ·exact .inr (.inl h)
    ·exact .inl h
    ·exact .inr (.inr (.inl h))
    ·exact .inr (.inr (.inr h))
theorem zpa {l : List (List UInt8)} {x : List UInt8} (h : l.Pairwise (· < ·)) : (z1e l x).Pairwise (· < ·) := by
 have e := Kf x l
 unfold z1e
 split
 ·rename_i hu
  rw [hu, List.append_nil] at e
  rw [e, List.pairwise_append]
  refine ⟨h, List.pairwise_singleton .., fun a ha b hb => ?_⟩
  simp only [List.mem_singleton] at hb
  subst hb
  rw [← e] at ha
  exact zb6 a ha
 ·rename_i z r hu
  rw [hu] at e
  split
  ·exact h
  ·rename_i hz
   have hzx : x < z := by
    have h1 := z9a hu
    exact List.not_le.1 fun h2 => hz (List.le_antisymm h2 (List.not_lt.1 h1))
   rw [← e, List.pairwise_append] at h
   obtain ⟨h1, h2, h3⟩ := h
   rw [List.pairwise_append]
   refine ⟨h1, List.pairwise_cons.2 ⟨fun b hb => ?_, h2⟩, fun a ha b hb => ?_⟩
   ·rcases List.mem_cons.1 hb with rfl | hb
    ·exact hzx
    ·exact List.lt_trans hzx ((List.pairwise_cons.1 h2).1 b hb)
   ·rcases List.mem_cons.1 hb with rfl | hb
    ·exact zb6 a ha
    ·exact h3 a ha b hb
theorem zah (l : List (List UInt8)) (x : List UInt8) : (z1e l x).length ≤ l.length + 1 := by
 have e := congrArg List.length (Kf x l)
 unfold z1e
 split
 ·rename_i hu; rw [hu] at e; simp at e ⊢; omega
 ·rename_i z r hu
  rw [hu] at e
  split
  ·omega
  ·simp at e ⊢; omega
def Jy (l : List (List UInt8)) : List (List UInt8) := l.foldl z1e []
theorem z73 : ∀ (l acc : List (List UInt8)), acc.Pairwise (· < ·) → (l.foldl z1e acc).Pairwise (· < ·)
 | [], acc, h => h
 | x :: l, acc, h => z73 l _ (zpa h)
theorem z61 {y : List UInt8} : ∀ (l acc : List (List UInt8)), y ∈ l.foldl z1e acc ↔ y ∈ acc ∨ y ∈ l
 | [], acc => by simp
 | x :: l, acc => by
  rw [List.foldl_cons, z61 l, zpp, List.mem_cons]
  constructor
  ·rintro ((h | h) | h)
   ·exact .inr (.inl h)
   ·exact .inl h
   ·exact .inr (.inr h)
  ·rintro (h | h | h)
   ·exact .inl (.inr h)
   ·exact .inl (.inl h)
   ·exact .inr h
theorem z4u : ∀ (l acc : List (List UInt8)), (l.foldl z1e acc).length ≤ acc.length + l.length
 | [], acc => Nat.le_refl _
 | x :: l, acc => by
  have h1 := z4u l (z1e acc x)
  have h2 := zah acc x
  rw [List.foldl_cons, List.length_cons]; omega
theorem Qv (l : List (List UInt8)) : (Jy l).Pairwise (· < ·) := z73 l [] List.Pairwise.nil
theorem sortS_mem {l : List (List UInt8)} {y : List UInt8} : y ∈ Jy l ↔ y ∈ l := by unfold Jy; rw [z61]; simp
theorem V5 (l : List (List UInt8)) : (Jy l).length ≤ l.length := by have := z4u l []; simpa [Jy] using this
theorem zaa (x : List UInt8) (l : List (List UInt8)) : l.take (Wd x l).length = Wd x l := by
 have h : (Wd x l ++ zen x l).take (Wd x l).length = Wd x l := List.take_left
 rwa [Kf] at h
theorem Ky (x : List UInt8) (l : List (List UInt8)) : l.drop (Wd x l).length = zen x l := by
 have h : (Wd x l ++ zen x l).drop (Wd x l).length = zen x l := List.drop_left
 rwa [Kf] at h
theorem zq7 {x : List UInt8} {l : List (List UInt8)} {i : Nat} (h : i < (Wd x l).length) : ∃ hi : i < l.length, l[i] < x := by
 have e := Kf x l
 have hl : i < l.length := by rw [← e, List.length_append]; omega
 refine ⟨hl, ?_⟩
 have : l[i] = (Wd x l)[i] := by
  have h2 : (Wd x l ++ zen x l)[i]? = (Wd x l)[i]? := List.getElem?_append_left h
  rw [e] at h2
  rw [List.getElem?_eq_getElem hl, List.getElem?_eq_getElem h] at h2
  simpa using h2
 rw [this]; exact zb6 _ (List.getElem_mem h)
theorem zhq {x : List UInt8} {l : List (List UInt8)} (h : (Wd x l).length < l.length) : ¬ l[(Wd x l).length] < x ∧ zen x l = l[(Wd x l).length] :: l.drop ((Wd x l).length + 1) := by
 have e := Kf x l
 have hd := Ky x l
 rw [List.drop_eq_getElem_cons h] at hd
 exact ⟨z9a hd.symm, hd.symm⟩
theorem z8c {l l' : List (List UInt8)} (h : l.Pairwise (· < ·)) (h' : l'.Pairwise (· < ·)) (he : ∀ x, x ∈ l ↔ x ∈ l') : l = l' := by
 have n : ∀ {l : List (List UInt8)}, l.Pairwise (· < ·) → l.Nodup := fun h => h.imp fun h1 e => by subst e; exact List.lt_irrefl _ h1
 exact List.Perm.eq_of_pairwise (le := (· < ·)) (fun a b _ _ h1 h2 => absurd (List.lt_trans h1 h2) (List.lt_irrefl _)) h h' ((List.perm_ext_iff_of_nodup (n h) (n h')).2 he)
section
variable {κ ν : Type} [DecidableEq κ] {q : κ → κ → Bool}
end
end Go.Fx
