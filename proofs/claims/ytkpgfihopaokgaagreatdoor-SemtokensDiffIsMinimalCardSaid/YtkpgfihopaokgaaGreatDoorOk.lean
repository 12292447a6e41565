/-
  Diff gives a common prefix and a common suffix that cannot be made longer, and what lies between; no condition but the lists' lengths.
-/
import Derived.Test.YtkpgfihopaokgaaGreatDoorGenB
import Derived.Test.YtkpgfihopaokgaaGreatDoorFxLt
import Derived.Test.YtkpgfihopaokgaaGreatDoorFxU
import Derived.Test.YtkpgfihopaokgaaGreatDoorFxLg
import Derived.Test.YtkpgfihopaokgaaGreatDoorRows
import Derived.Lib.LaidU8
import Derived.MakeChecks
import Derived.LaidOnce
namespace Go.Proofs.YtkpgfihopaokgaaGreatDoor
open Go.Fx
set_option linter.unusedVariables false
theorem Wi {i : Nat} (h : i ≤ 4611686018427387904) : W ((i : Int) + 1) = ((i + 1 : Nat) : Int) := by rw [zet (by unfold inR; omega)]; omega
theorem Wn {x : Int} (h : -4611686018427387904 ≤ x) (h' : x ≤ 4611686018427387904) : W x = x := zet (by unfold inR; omega)
theorem z0k {α : Type} [Inhabited α] {l : List α} {i : Nat} (h : i < l.length) : l.getD i default = l[i] := by simp [List.getD_eq_getElem?_getD, h]
theorem Qy (x y : Nat) : (if (y : Int) < (x : Int) then (y : Int) else (x : Int)) = ((min x y : Nat) : Int) := by split <;> omega
theorem ze7 {τ : Type} {b : Int → Option (Int ⊕ τ)} {N : Nat} {p : Nat → Prop} {res : Nat → Option τ}
 (hi : ∀ i, i < N → p i → b (i : Int) = some (.inl ((i + 1 : Nat) : Int))) (ho : ∀ i, i ≤ N → (i = N ∨ ¬ p i) → b (i : Int) = (res i).map Sum.inr) :
 ∀ (k i : Nat), i + k = N → ∃ j, i ≤ j ∧ j ≤ N ∧ (∀ t, i ≤ t → t < j → p t) ∧ (j = N ∨ ¬ p j) ∧ Yy none b (i : Int) = res j := by
 have out : ∀ i, i ≤ N → (i = N ∨ ¬ p i) → Yy none b (i : Int) = res i := fun i h1 h2 => by
  have := ho i h1 h2
  cases hr : res i with
  | none => rw [hr] at this; rw [Wv, this]; rfl
  | some x => rw [hr] at this; rw [z41 (x := x) this]
 intro k
 induction k with
 | zero => exact fun i h => ⟨i, Nat.le_refl _, by omega, fun t h1 h2 => by omega, .inl (by omega), out i (by omega) (.inl (by omega))⟩
 | succ k ih =>
  intro i h
  by_cases hp : p i
  ·obtain ⟨j, h1, h2, h3, h4, h5⟩ := ih (i + 1) (by omega)
   refine ⟨j, by omega, h2, fun t h6 h7 => ?_, h4, ?_⟩
   ·rcases Nat.eq_or_lt_of_le h6 with rfl | h8
    ·exact hp
    ·exact h3 t h8 h7
   ·rw [z5c (hi i (by omega) hp)]; exact h5
  ·exact ⟨i, Nat.le_refl _, by omega, fun t h1 h2 => by omega, .inr hp, out i (by omega) (.inr hp)⟩
theorem eqT (x y : G_TokenDelta) : ((x.f_DeltaLine == y.f_DeltaLine) && ((x.f_DeltaStart == y.f_DeltaStart) && ((x.f_Length == y.f_Length) && ((x.f_Kind == y.f_Kind) && true)))) = true ↔ x = y := by
 cases x; cases y
 simp
theorem z4q {a0 a1 : List G_TokenDelta} (h0 : a0.length ≤ 4611686018427387904) (h1 : a1.length ≤ 4611686018427387904) :
 ∃ j : Nat, j ≤ min a0.length a1.length ∧ (∀ t, t < j → a0.getD t default = a1.getD t default) ∧ (j = min a0.length a1.length ∨ a0.getD j default ≠ a1.getD j default) ∧ y6 none a0 a1 = some (j : Int) := by
 have := ze7 (b := fun s => zo none a0 a1 s) (N := min a0.length a1.length) (p := fun i => a0.getD i default = a1.getD i default) (res := fun j => some (j : Int))
  (fun i hi hp => by
   unfold zo
   simp only [List.length_map, Qy, Int.toNat_natCast]
   rw [if_pos (fun _ => by omega), if_pos (fun _ => by omega), if_pos (by rw [Bool.and_eq_true, eqT]; exact ⟨by simpa using by omega, hp⟩), Wi (by omega)])
  (fun i hi hp => by
   unfold zo y8
   simp only [List.length_map, Qy, Int.toNat_natCast]
   rw [if_pos (fun h => by simp at h; omega), if_pos (fun h => by simp at h; omega), if_neg (by
    rw [Bool.and_eq_true, eqT]
    rintro ⟨g1, g2⟩
    simp only [decide_eq_true_eq] at g1
    rcases hp with rfl | hp
    ·omega
    ·exact hp g2)])
  (min a0.length a1.length) 0 (by omega)
 obtain ⟨j, _, h2, h3, h4, h5⟩ := this
 exact ⟨j, h2, fun t ht => h3 t (by omega) ht, h4, h5⟩
theorem z7m {l : List G_TokenDelta} (h : l.length * 32 ≤ 140737488355328) : yj none l = some l := by
 cases l with
 | nil => rfl
 | cons x r =>
  show zp none (x :: r) = _
  unfold zp
  rw [if_pos (by simp), if_pos (by simpa using h)]
  rfl
theorem Xa {l : List G_TokenDelta} (h0 : l.length ≤ 4611686018427387904) : zh none l l = some true := by
 unfold zh
 rw [if_neg (by simp)]
 have := ze7 (b := fun s => zj none l l s) (N := l.length) (p := fun i => True) (res := fun j => some true)
  (fun i hi hp => by
   unfold zj
   simp only [List.length_map, Int.toNat_natCast]
   rw [if_pos (by simpa using hi), if_pos (by omega), if_pos (by omega), if_neg (by rw [(eqT _ _).2 rfl]; decide), Wi (by omega)])
  (fun i hi hp => by
   unfold zj y3
   simp only [List.length_map, Int.toNat_natCast]
   rw [if_neg (by simp at hp ⊢; omega)])
  l.length 0 (by omega)
 obtain ⟨j, _, h2, h3, h4, h5⟩ := this
 exact h5
theorem zb2 {a0 a1 : List G_TokenDelta} (h0 : a0.length * 32 ≤ 140737488355328) (h1 : a1.length * 32 ≤ 140737488355328) :
 ∃ P x : Nat, P ≤ min a0.length a1.length ∧ (∀ t, t < P → a0.getD t default = a1.getD t default) ∧ (P = min a0.length a1.length ∨ a0.getD P default ≠ a1.getD P default) ∧
  x ≤ min (a0.length - P) (a1.length - P) ∧ (∀ t, t < x → a0.getD (a0.length - 1 - t) default = a1.getD (a1.length - 1 - t) default) ∧
  (x = min (a0.length - P) (a1.length - P) ∨ a0.getD (a0.length - 1 - x) default ≠ a1.getD (a1.length - 1 - x) default) ∧
  yu none a0 a1 = some ((P : Int), ((a0.length - P - x : Nat) : Int), (a1.drop P).take (a1.length - P - x)) := by
 obtain ⟨P, p1, p2, p3, p4⟩ := z4q (a0 := a0) (a1 := a1) (by omega) (by omega)
 have gd : ∀ {l : List G_TokenDelta} {i : Nat}, P + i < l.length → (l.drop P).getD i default = l.getD (P + i) default := fun h => by
  simp [List.getD_eq_getElem?_getD]
 have key := ze7 (b := fun s => y5 none a0 a1 (P : Int) s) (N := min (a0.length - P) (a1.length - P)) (p := fun i => a0.getD (a0.length - 1 - i) default = a1.getD (a1.length - 1 - i) default)
  (res := fun x => some ((P : Int), ((a0.length - P - x : Nat) : Int), (a1.drop P).take (a1.length - P - x)))
  (fun i hi hp => by
   unfold y5
   simp only [List.length_map, List.length_drop, Qy, Int.toNat_natCast]
   have e0 : W (W (((a0.length - P : Nat) : Int) - 1) - (i : Int)) = ((a0.length - P - 1 - i : Nat) : Int) := by rw [Wn (x := ((a0.length - P : Nat) : Int) - 1) (by omega) (by omega), Wn (by omega) (by omega)]; omega
   have e1 : W (W (((a1.length - P : Nat) : Int) - 1) - (i : Int)) = ((a1.length - P - 1 - i : Nat) : Int) := by rw [Wn (x := ((a1.length - P : Nat) : Int) - 1) (by omega) (by omega), Wn (by omega) (by omega)]; omega
   rw [e0, e1]
   simp only [Int.toNat_natCast]
   rw [if_pos (fun _ => by omega), if_pos (fun _ => by omega), if_pos (by
    rw [Bool.and_eq_true, eqT, gd (by omega), gd (by omega), show P + (a0.length - P - 1 - i) = a0.length - 1 - i by omega, show P + (a1.length - P - 1 - i) = a1.length - 1 - i by omega]
    exact ⟨by simpa using by omega, hp⟩), Wi (by omega)])
  (fun i hi hp => by
   unfold y5 q9
   simp only [List.length_map, List.length_drop, Qy, Int.toNat_natCast]
   have f0 : W (((a0.length - P : Nat) : Int) - (i : Int)) = ((a0.length - P - i : Nat) : Int) := by rw [Wn (by omega) (by omega)]; omega
   have f1 : W (((a1.length - P : Nat) : Int) - (i : Int)) = ((a1.length - P - i : Nat) : Int) := by rw [Wn (by omega) (by omega)]; omega
   rw [f0, f1]
   simp only [Int.toNat_natCast]
   rw [if_pos (c := (0 : Int) ≤ ((a1.length - P - i : Nat) : Int) ∧ ((a1.length - P - i : Nat) : Int) ≤ ((a1.length - P : Nat) : Int)) (by omega), z7m (by rw [List.length_take, List.length_drop]; omega)]
   by_cases hN : i < min (a0.length - P) (a1.length - P)
   ·have hp' := hp.resolve_left (by omega)
    have e0 : W (W (((a0.length - P : Nat) : Int) - 1) - (i : Int)) = ((a0.length - P - 1 - i : Nat) : Int) := by rw [Wn (x := ((a0.length - P : Nat) : Int) - 1) (by omega) (by omega), Wn (by omega) (by omega)]; omega
    have e1 : W (W (((a1.length - P : Nat) : Int) - 1) - (i : Int)) = ((a1.length - P - 1 - i : Nat) : Int) := by rw [Wn (x := ((a1.length - P : Nat) : Int) - 1) (by omega) (by omega), Wn (by omega) (by omega)]; omega
    rw [e0, e1]
    simp only [Int.toNat_natCast]
    rw [if_pos (fun _ => by omega), if_pos (fun _ => by omega), if_neg (by
     rw [Bool.and_eq_true, eqT, gd (by omega), gd (by omega), show P + (a0.length - P - 1 - i) = a0.length - 1 - i by omega, show P + (a1.length - P - 1 - i) = a1.length - 1 - i by omega]
     exact fun h => hp' h.2)]
    rfl
   ·rw [if_pos (fun h => by simp at h; omega), if_pos (fun h => by simp at h; omega), if_neg (by rw [Bool.and_eq_true]; rintro ⟨h, _⟩; simp at h; omega)]
    rfl)
  (min (a0.length - P) (a1.length - P)) 0 (by omega)
 obtain ⟨x, _, x1, x2, x3, x4⟩ := key
 refine ⟨P, x, p1, p2, p3, x1, fun t ht => x2 t (by omega) ht, x3, ?_⟩
 unfold yu
 rw [p4]
 simp only [Option.bind_some, List.length_map]
 rw [if_pos (by omega), if_pos (by omega)]
 exact x4
theorem z1q {l m : List G_TokenDelta} (h : l.length = m.length) (hg : ∀ i, i < l.length → l.getD i default = m.getD i default) : l = m := by
 apply List.ext_getElem h
 intro i h1 h2
 have := hg i h1
 rwa [z0k h1, z0k h2] at this
theorem zfn {a0 a1 : List G_TokenDelta} (h0 : a0.length * 32 ≤ 140737488355328) (h1 : a1.length * 32 ≤ 140737488355328) : zd none a0 a1 = some true := by
 obtain ⟨P, x, p1, p2, p3, x1, x2, x3, hd⟩ := zb2 h0 h1
 obtain ⟨I, hI⟩ : ∃ I, I = (a1.drop P).take (a1.length - P - x) := ⟨_, rfl⟩
 have hJ : I.length = a1.length - P - x := by rw [hI, List.length_take, List.length_drop]; omega
 rw [← hI] at hd
 have gl : ∀ {l : List G_TokenDelta} {k i : Nat}, (l.drop k).getD i default = l.getD (k + i) default := by intro l k i; simp [List.getD_eq_getElem?_getD]
 have gt : ∀ {l : List G_TokenDelta} {k i : Nat}, i < k → (l.take k).getD i default = l.getD i default := by
  intro l k i h
  simp only [List.getD_eq_getElem?_getD, List.getElem?_take, if_pos h]
 have e1 : a0.take P = a1.take P := z1q (by simp; omega) (fun i hi => by
  have hi' : i < P := by simp at hi; omega
  rw [gt hi', gt hi']; exact p2 i hi')
 have e2 : (a1.take (P + (a1.length - P - x))).drop P = I := by
  rw [hI, List.drop_take]; congr 1; omega
 have e3 : a0.drop (P + (a0.length - P - x)) = a1.drop (P + (a1.length - P - x)) := z1q (by simp; omega) (fun i hi => by
  have hi' : i < x := by simp at hi; omega
  rw [gl, gl]
  have := x2 (x - 1 - i) (by omega)
  rwa [show a0.length - 1 - (x - 1 - i) = P + (a0.length - P - x) + i by omega, show a1.length - 1 - (x - 1 - i) = P + (a1.length - P - x) + i by omega] at this)
 have w1 : W ((P : Int) + ((a0.length - P - x : Nat) : Int)) = ((P + (a0.length - P - x) : Nat) : Int) := by rw [Wn (by omega) (by omega)]; omega
 have w2 : W ((P : Int) + ((a1.length - P - x : Nat) : Int)) = ((P + (a1.length - P - x) : Nat) : Int) := by rw [Wn (by omega) (by omega)]; omega
 have w3 : W (W ((a0.length : Int) - (P : Int)) - ((a0.length - P - x : Nat) : Int)) = (x : Int) := by rw [Wn (x := (a0.length : Int) - (P : Int)) (by omega) (by omega), Wn (by omega) (by omega)]; omega
 have w4 : W (((P + (a1.length - P - x) : Nat) : Int) + (x : Int)) = (a1.length : Int) := by rw [Wn (by omega) (by omega)]; omega
 have w5 : W (((min a0.length a1.length : Nat) : Int) - (P : Int)) = ((min a0.length a1.length - P : Nat) : Int) := by rw [Wn (by omega) (by omega)]; omega
 unfold zd ya
 rw [hd]
 simp only [Option.bind_some, List.length_map, hJ, w1, w2, w3, w4, w5, Qy, Int.toNat_natCast]
 rw [if_neg (by decide), if_neg (by simp only [Bool.or_eq_true, decide_eq_true_eq]; omega)]
 have nb : ((a1.length : Int) != (a1.length : Int)) = false := by simp
 simp only [nb, Bool.false_or, BEq.rfl, if_true]
 rw [if_pos (fun _ => by omega), if_pos (fun _ => by omega), e1, Xa (by rw [List.length_take]; omega)]
 simp only [Option.bind_some, Bool.not_true, BEq.rfl, if_true, Bool.false_or]
 rw [if_pos (fun _ => by omega), e2, Xa (by omega)]
 simp only [Option.bind_some, Bool.not_true, BEq.rfl, if_true, Bool.false_or]
 rw [if_pos (fun _ => by omega), if_pos (fun _ => by omega), e3, Xa (by rw [List.length_drop]; omega)]
 simp only [Option.bind_some, Bool.not_true]
 rw [if_neg (by decide)]
 by_cases hz : a0.length - P - x = 0 ∨ a1.length - P - x = 0
 ·rw [if_pos (by simp only [Bool.or_eq_true, beq_iff_eq]; omega)]
  have hx : x = min a0.length a1.length - P := by omega
  by_cases hP : P = min a0.length a1.length
  ·have b1 : ((P : Int) == ((min a0.length a1.length : Nat) : Int)) = true := by rw [beq_iff_eq]; omega
   simp only [b1]
   rw [if_pos (fun h => by simp at h), if_pos (fun h => by simp at h)]
   rfl
  ·have b1 : ((P : Int) == ((min a0.length a1.length : Nat) : Int)) = false := by rw [beq_eq_false_iff_ne]; omega
   have b2 : ((x : Int) == ((min a0.length a1.length - P : Nat) : Int)) = true := by rw [beq_iff_eq]; omega
   have b3 : ¬ ((a0.getD P default).f_DeltaLine == (a1.getD P default).f_DeltaLine && ((a0.getD P default).f_DeltaStart == (a1.getD P default).f_DeltaStart && ((a0.getD P default).f_Length == (a1.getD P default).f_Length && ((a0.getD P default).f_Kind == (a1.getD P default).f_Kind && true)))) = true := by
    rw [eqT]; exact p3.resolve_left hP
   rw [if_pos (fun _ => by omega), if_pos (fun _ => by omega), b1, b2, Bool.eq_false_iff.2 b3]
   simp
 ·rw [if_neg (by simp only [Bool.or_eq_true, beq_iff_eq]; omega)]
  have w6 : W (((P + (a0.length - P - x) : Nat) : Int) - 1) = ((a0.length - 1 - x : Nat) : Int) := by rw [Wn (by omega) (by omega)]; omega
  have w7 : W (((P + (a1.length - P - x) : Nat) : Int) - 1) = ((a1.length - 1 - x : Nat) : Int) := by rw [Wn (by omega) (by omega)]; omega
  simp only [w6, w7, Int.toNat_natCast]
  have b3 : ¬ ((a0.getD P default).f_DeltaLine == (a1.getD P default).f_DeltaLine && ((a0.getD P default).f_DeltaStart == (a1.getD P default).f_DeltaStart && ((a0.getD P default).f_Length == (a1.getD P default).f_Length && ((a0.getD P default).f_Kind == (a1.getD P default).f_Kind && true)))) = true := by
   rw [eqT]; exact p3.resolve_left (by omega)
  have b4 : ¬ ((a0.getD (a0.length - 1 - x) default).f_DeltaLine == (a1.getD (a1.length - 1 - x) default).f_DeltaLine && ((a0.getD (a0.length - 1 - x) default).f_DeltaStart == (a1.getD (a1.length - 1 - x) default).f_DeltaStart && ((a0.getD (a0.length - 1 - x) default).f_Length == (a1.getD (a1.length - 1 - x) default).f_Length && ((a0.getD (a0.length - 1 - x) default).f_Kind == (a1.getD (a1.length - 1 - x) default).f_Kind && true)))) = true := by
   rw [eqT]; exact x3.resolve_left (by omega)
  rw [if_pos (by omega), if_pos (by omega), if_pos (fun _ => by omega), if_pos (fun _ => by omega), Bool.eq_false_iff.2 b3, Bool.eq_false_iff.2 b4]
  rfl
open Go.Fx Go.RowKit
def j3 (x : G_TokenDelta) : Prop := (IntKind.min .i64 ≤ x.f_DeltaLine ∧ x.f_DeltaLine ≤ IntKind.max .i64) ∧ (IntKind.min .i64 ≤ x.f_DeltaStart ∧ x.f_DeltaStart ≤ IntKind.max .i64) ∧ (IntKind.min .i64 ≤ x.f_Length ∧ x.f_Length ≤ IntKind.max .i64) ∧ (IntKind.min .i64 ≤ x.f_Kind ∧ x.f_Kind ≤ IntKind.max .i64)
def Yt (x : List G_TokenDelta) : Prop := (x.length ≤ maxLen ∧ x.length * 32 ≤ reachBytes ∧ ∀ y ∈ x, j3 y)
def zch (x : Int) : Prop := (IntKind.min .i64 ≤ x ∧ x ≤ IntKind.max .i64)
def zfw (a0 : List G_TokenDelta) (a1 : List G_TokenDelta) : Prop := ((a0.length ≤ maxLen ∧ a0.length * 32 ≤ reachBytes ∧ ∀ y ∈ a0, j3 y)) ∧ ((a1.length ≤ maxLen ∧ a1.length * 32 ≤ reachBytes ∧ ∀ y ∈ a1, j3 y))
theorem zfm {a0 a1 : List G_TokenDelta} (h : zfw a0 a1) : zd none a0 a1 = some true := by
 have h1 := h.1.2.1
 have h2 := h.2.2.1
 have hr : reachBytes ≤ 140737488355328 := by decide
 exact zfn (by omega) (by omega)
def spT : List Int := (List.range 256).map fun c => if Lib.isSp (UInt8.ofNat c) then 1 else 0
theorem zfs : Ud = zbd .u8 spT := by unfold Ud zbd spT; rw [List.map_map]; rfl
theorem ze3 : (Rows.laid_strings_asciiSpace : DataW Unit) = Lib.tabData .u8 spT := by kernel_rfl
theorem gn1 : Tryz.prog.globalNamed "strings.asciiSpace" = some 1 := by kernel_rfl
theorem gy1 : (Tryz.prog.globals[1]?).map (·.type) = some 194 := by kernel_rfl
theorem zec : ∃ e, Tryz.prog.underlying 194 = some (.array 256 e) ∧ Tryz.prog.underlying e = some (.int .u8) ∧ Tryz.prog.cellsOf e = 1 ∧ Tryz.prog.cellsOf 194 = 256 := ⟨_, Tryz.underlying194, by kernel_rfl, by kernel_rfl, by kernel_rfl⟩
theorem zel {w : World} (h : Lib.VarReads Tryz.prog w "strings.asciiSpace" (Lib.tabData .u8 spT)) : Lib.TabIs Tryz.prog w "strings.asciiSpace" .u8 spT := by
 obtain ⟨g, t, cs, fuel, p, hg, hty, hvar, hd⟩ := h
 obtain rfl := Option.some.inj (gn1.symm.trans hg)
 obtain rfl := Option.some.inj (gy1.symm.trans hty)
 obtain ⟨e, h1, h2, h3, h4⟩ := zec
 have hcs := Lib.cells_of_tab h1 h2 h3 h4 hd
 unfold Lib.TabIs
 rw [hvar, ← hcs]
theorem za8 {w : World} {l : List (String × DataW Unit)} (hl : (l.all fun x => x.2.handleName?.isNone) = true) (h1 : ("strings.asciiSpace", Rows.laid_strings_asciiSpace) ∈ l) (h : laidMetH Tryz.prog l w) : GlobOk (old w) w := by
 rw [MakeChecks.laidMetH_plain _ _ _ hl] at h
 have r1 := Lib.laidMet.reads h h1
 rw [ze3] at r1
 have c1 := z85 gn1 (zel r1)
 refine ⟨fun x hx => ?_, fun g hg => nomatch hg⟩
 rw [zf2, zfs] at hx
 rcases List.mem_cons.1 hx with rfl | hx
 ·exact ⟨fun _ => c1.1, c1.2⟩
 ·cases hx
end Go.Proofs.YtkpgfihopaokgaaGreatDoor
