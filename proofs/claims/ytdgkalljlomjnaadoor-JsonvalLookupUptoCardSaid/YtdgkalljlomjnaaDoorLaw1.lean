/-
  The reference's ValidUTF8 is the library's; no condition.
-/
import Derived.Test.YtdgkalljlomjnaaDoorGenA
import Derived.Test.YtdgkalljlomjnaaDoorFxP
import Derived.Sort.Walk0
namespace Go.Proofs.YtdgkalljlomjnaaDoor
open Go.Fx
set_option linter.unusedVariables false
set_option linter.unusedSimpArgs false
theorem Wi {i : Nat} (h : i ≤ 4611686018427387904) : W ((i : Int) + 1) = ((i + 1 : Nat) : Int) := by rw [zrc (by unfold inR; omega)]; omega
theorem zpj {α : Type} [Inhabited α] {l : List α} {i : Nat} (h : i < l.length) : l.getD i default = l[i] := by
 simp [List.getD_eq_getElem?_getD, h]
def Wq (s : List UInt8) : Nat → Nat → Nat → Nat → Option Nat
 | 0, p, _, _ => some p
 | k + 1, p, lo, hi => if s.length ≤ p ∨ (s.getD p 0).toNat < lo ∨ hi < (s.getD p 0).toNat then none else Wq s k (p + 1) 128 191
def zit : Option Nat → Int ⊕ Bool
 | some q => .inl (q : Int)
 | none => .inr false
theorem z6r {s : List UInt8} (hs : s.length ≤ 4611686018427387904) : ∀ (k p lo hi v d : Nat), d + k = v → v ≤ 3 →
 qk none s (v : Int) (p : Int) (lo : Int) (hi : Int) (d : Int) = some (zit (Wq s k p lo hi))
 | 0, p, lo, hi, v, d, h, hv => by
  unfold qk
  rw [ye (x := some (.inl (p : Int)))]
  ·rfl
  ·unfold yr
   rw [if_neg (by simp; omega)]
 | k + 1, p, lo, hi, v, d, h, hv => by
  have hb : yr none s (v : Int) (p : Int) (lo : Int) (hi : Int) (d : Int) =
   if s.length ≤ p ∨ (s.getD p 0).toNat < lo ∨ hi < (s.getD p 0).toNat then some (.inr (.inr false)) else some (.inl (((p + 1 : Nat) : Int), ((128 : Nat) : Int), ((191 : Nat) : Int), ((d + 1 : Nat) : Int))) := by
   unfold yr
   rw [if_pos (by simp; omega), if_pos (by simp), if_pos (by simp; omega)]
   simp only [Int.toNat_natCast]
   by_cases hc : s.length ≤ p ∨ (s.getD p 0).toNat < lo ∨ hi < (s.getD p 0).toNat
   ·rw [if_pos (by simp only [Bool.and_eq_true, Bool.or_eq_true, decide_eq_true_eq, beq_iff_eq, ge_iff_le, gt_iff_lt]; omega), if_pos hc]; rfl
   ·rw [if_neg (by simp only [Bool.and_eq_true, Bool.or_eq_true, decide_eq_true_eq, beq_iff_eq, ge_iff_le, gt_iff_lt]; omega), if_neg hc, Wi (by omega), Wi (by omega)]; rfl
  unfold Wq
  by_cases hc : s.length ≤ p ∨ (s.getD p 0).toNat < lo ∨ hi < (s.getD p 0).toNat
  ·unfold qk
   rw [if_pos hc, ye (x := some (.inr false)) (by rw [hb, if_pos hc]; rfl)]
   rfl
  ·rw [if_neg hc, ← z6r hs k (p + 1) 128 191 v (d + 1) (by omega) hv]
   unfold qk
   rw [xv (s' := (((p + 1 : Nat) : Int), ((128 : Nat) : Int), ((191 : Nat) : Int), ((d + 1 : Nat) : Int))) (by rw [hb, if_neg hc])]
theorem ck2 (n b1 b2 b3 lo hi : Nat) : Lib.checkN n b1 b2 b3 (1 + 1) lo hi = if n < 2 ∨ b1 < lo ∨ hi < b1 then none else some 2 := by unfold Lib.checkN; rw [if_pos rfl]
theorem ck3 (n b1 b2 b3 lo hi : Nat) : Lib.checkN n b1 b2 b3 (2 + 1) lo hi = if n < 3 ∨ b1 < lo ∨ hi < b1 ∨ b2 < 128 ∨ 191 < b2 then none else some 3 := by unfold Lib.checkN; rw [if_neg (by decide), if_pos rfl]
theorem ck4 (n b1 b2 b3 lo hi : Nat) : Lib.checkN n b1 b2 b3 (3 + 1) lo hi = if n < 4 ∨ b1 < lo ∨ hi < b1 ∨ b2 < 128 ∨ 191 < b2 ∨ b3 < 128 ∨ 191 < b3 then none else some 4 := by unfold Lib.checkN; rw [if_neg (by decide), if_neg (by decide), if_pos rfl]
theorem zdn {s : List UInt8} {i : Nat} (hi : i < s.length) : ∀ (k lo h : Nat), 1 ≤ k → k ≤ 3 →
 Wq s k (i + 1) lo h = (Lib.checkN (s.drop i).length ((s.drop i).getD 1 0).toNat ((s.drop i).getD 2 0).toNat ((s.drop i).getD 3 0).toNat (k + 1) lo h).map fun n => i + n := by
 intro k lo h h1 h3
 have g : ∀ j, (s.drop i).getD j 0 = s.getD (i + j) 0 := fun j => by simp [List.getD_eq_getElem?_getD]
 rw [g, g, g, List.length_drop]
 have hk : k = 1 ∨ k = 2 ∨ k = 3 := by omega
 rcases hk with rfl | rfl | rfl
 ·rw [ck2]
  unfold Wq
  by_cases c : s.length ≤ i + 1 ∨ (s.getD (i + 1) 0).toNat < lo ∨ h < (s.getD (i + 1) 0).toNat
  ·rw [if_pos c, if_pos (by omega)]; rfl
  ·rw [if_neg c, if_neg (by omega)]; rfl
 ·rw [ck3]
  unfold Wq
  by_cases c : s.length ≤ i + 1 ∨ (s.getD (i + 1) 0).toNat < lo ∨ h < (s.getD (i + 1) 0).toNat
  ·rw [if_pos c, if_pos (by omega)]; rfl
  ·rw [if_neg c]
   unfold Wq
   by_cases c2 : s.length ≤ i + 2 ∨ (s.getD (i + 2) 0).toNat < 128 ∨ 191 < (s.getD (i + 2) 0).toNat
   ·rw [if_pos c2, if_pos (by omega)]; rfl
   ·rw [if_neg c2, if_neg (by omega)]; rfl
 ·rw [ck4]
  unfold Wq
  by_cases c : s.length ≤ i + 1 ∨ (s.getD (i + 1) 0).toNat < lo ∨ h < (s.getD (i + 1) 0).toNat
  ·rw [if_pos c, if_pos (by omega)]; rfl
  ·rw [if_neg c]
   unfold Wq
   by_cases c2 : s.length ≤ i + 2 ∨ (s.getD (i + 2) 0).toNat < 128 ∨ 191 < (s.getD (i + 2) 0).toNat
   ·rw [if_pos c2, if_pos (by omega)]; rfl
   ·rw [if_neg c2]
    unfold Wq
    by_cases c3 : s.length ≤ i + 3 ∨ (s.getD (i + 3) 0).toNat < 128 ∨ 191 < (s.getD (i + 3) 0).toNat
    ·rw [if_pos c3, if_pos (by omega)]; rfl
    ·rw [if_neg c3, if_neg (by omega)]; rfl
def zeb (b : Nat) : Option (Nat × Nat × Nat) :=
 if b < 128 then some (0, 128, 191) else if 194 ≤ b ∧ b ≤ 223 then some (1, 128, 191) else
 if 224 ≤ b ∧ b ≤ 239 then some (2, if b = 224 then 160 else 128, if b = 237 then 159 else 191) else
 if 240 ≤ b ∧ b ≤ 244 then some (3, if b = 240 then 144 else 128, if b = 244 then 143 else 191) else none
def ztn (b : Nat) : Bool := match zeb b with
 | none => Lib.firstT b % 8 == 1
 | some (k, lo, hi) => decide (1 ≤ k) && decide (k ≤ 3) && (Lib.firstT b % 8 == k + 1) && (Lib.accLo (Lib.firstT b / 16) == lo) && (Lib.accHi (Lib.firstT b / 16) == hi)
theorem zd3 : ∀ b : Fin 256, 128 ≤ b.val → ztn b.val = true := by decide +kernel
theorem zdi {s : List UInt8} (hs : s.length ≤ 4611686018427387904) {i : Nat} (hi : i < s.length) : yx none s (i : Int) =
 match zeb (s.getD i 0).toNat with
 | none => some (.inr false)
 | some (k, lo, h) => some (zit (Wq s k (i + 1) lo h)) := by
 have hl := fun (v lo h : Nat) (hv : v ≤ 3) => z6r hs v (i + 1) lo h v 0 (by omega) hv
 have j9 : ∀ (v lo h : Nat), v ≤ 3 → zo none s (i : Int) (v : Int) (lo : Int) (h : Int) = some (zit (Wq s v (i + 1) lo h)) := fun v lo h hv => by
  unfold zo
  rw [Wi (by omega)]
  exact hl v lo h hv
 have j7 : ∀ lo : Nat, qj none s (i : Int) (lo : Int) = some (zit (Wq s 2 (i + 1) lo (if (s.getD i 0).toNat = 237 then 159 else 191))) := fun lo => by
  unfold qj
  simp only [Int.toNat_natCast]
  by_cases c : (s.getD i 0).toNat = 237
  ·rw [if_pos (by simp only [beq_iff_eq]; omega), if_pos c]; exact j9 2 lo 159 (by omega)
  ·rw [if_neg (by simp only [beq_iff_eq]; omega), if_neg c]; exact j9 2 lo 191 (by omega)
 have j8 : ∀ lo : Nat, qo none s (i : Int) (lo : Int) = some (zit (Wq s 3 (i + 1) lo (if (s.getD i 0).toNat = 244 then 143 else 191))) := fun lo => by
  unfold qo
  simp only [Int.toNat_natCast]
  by_cases c : (s.getD i 0).toNat = 244
  ·rw [if_pos (by simp only [beq_iff_eq]; omega), if_pos c]; exact j9 3 lo 143 (by omega)
  ·rw [if_neg (by simp only [beq_iff_eq]; omega), if_neg c]; exact j9 3 lo 191 (by omega)
 unfold yx zeb
 rw [if_pos (by simp; omega), if_pos (by omega)]
 simp only [Int.toNat_natCast]
 by_cases c1 : (s.getD i 0).toNat < 128
 ·rw [if_pos (by simp only [Bool.and_eq_true, Bool.or_eq_true, decide_eq_true_eq, beq_iff_eq, ge_iff_le, gt_iff_lt]; omega), if_pos c1]; exact j9 0 128 191 (by omega)
 rw [if_neg (by simp only [Bool.and_eq_true, Bool.or_eq_true, decide_eq_true_eq, beq_iff_eq, ge_iff_le, gt_iff_lt]; omega), if_neg c1]
 by_cases c2 : 194 ≤ (s.getD i 0).toNat ∧ (s.getD i 0).toNat ≤ 223
 ·rw [if_pos (by simp only [Bool.and_eq_true, Bool.or_eq_true, decide_eq_true_eq, beq_iff_eq, ge_iff_le, gt_iff_lt]; omega), if_pos c2]; exact j9 1 128 191 (by omega)
 rw [if_neg (by simp only [Bool.and_eq_true, Bool.or_eq_true, decide_eq_true_eq, beq_iff_eq, ge_iff_le, gt_iff_lt]; omega), if_neg c2]
 by_cases c3 : 224 ≤ (s.getD i 0).toNat ∧ (s.getD i 0).toNat ≤ 239
 ·rw [if_pos (by simp only [Bool.and_eq_true, Bool.or_eq_true, decide_eq_true_eq, beq_iff_eq, ge_iff_le, gt_iff_lt]; omega), if_pos c3]
  by_cases c : (s.getD i 0).toNat = 224
  ·rw [if_pos (by simp only [beq_iff_eq]; omega), if_pos c]; exact j7 160
  ·rw [if_neg (by simp only [beq_iff_eq]; omega), if_neg c]; exact j7 128
 rw [if_neg (by simp only [Bool.and_eq_true, Bool.or_eq_true, decide_eq_true_eq, beq_iff_eq, ge_iff_le, gt_iff_lt]; omega), if_neg c3]
 by_cases c4 : 240 ≤ (s.getD i 0).toNat ∧ (s.getD i 0).toNat ≤ 244
 ·rw [if_pos (by simp only [Bool.and_eq_true, Bool.or_eq_true, decide_eq_true_eq, beq_iff_eq, ge_iff_le, gt_iff_lt]; omega), if_pos c4]
  by_cases c : (s.getD i 0).toNat = 240
  ·rw [if_pos (by simp only [beq_iff_eq]; omega), if_pos c]; exact j8 144
  ·rw [if_neg (by simp only [beq_iff_eq]; omega), if_neg c]; exact j8 128
 rw [if_neg (by simp only [Bool.and_eq_true, Bool.or_eq_true, decide_eq_true_eq, beq_iff_eq, ge_iff_le, gt_iff_lt]; omega), if_neg c4]
 rfl
theorem z26 {s : List UInt8} (hs : s.length ≤ 4611686018427387904) : ∀ (k i : Nat), i + k ≥ s.length → i ≤ s.length → xh none s (i : Int) = some (Lib.validD (s.drop i))
 | k, i, hk, hi => by
  by_cases he : i = s.length
  ·subst he
   unfold xh
   rw [List.drop_length, ye (x := some true)]
   ·rfl
   ·unfold yx
    rw [if_neg (by simp)]
    rfl
  ·have hi : i < s.length := by omega
   cases k with
   | zero => omega
   | succ k =>
   have ih := z26 hs k
   have hb := zdi hs hi
   have hg : (s.drop i).getD 0 0 = s.getD i 0 := by simp [List.getD_eq_getElem?_getD]
   have hne : s.drop i ≠ [] := by simp; omega
   unfold xh at ih ⊢
   by_cases ha : (s.getD i 0).toNat < 128
   ·have : zeb (s.getD i 0).toNat = some (0, 128, 191) := by unfold zeb; rw [if_pos ha]
    rw [this] at hb
    rw [xv (s' := ((i + 1 : Nat) : Int)) hb, ih (i + 1) (by omega) (by omega)]
    have hcons : s.drop i = s.getD i 0 :: s.drop (i + 1) := by
     rw [List.drop_eq_getElem_cons hi]; simp [List.getD_eq_getElem?_getD, hi]
    rw [hcons, Lib.validD_cons _ _ ha]
   ·have hv := Lib.validD_lead (s.drop i) hne (by rw [hg]; omega)
    have hf := zd3 ⟨(s.getD i 0).toNat, (s.getD i 0).toNat_lt⟩ (by simp only; omega)
    simp only [ztn] at hf
    rw [hg] at hv
    cases hl : zeb (s.getD i 0).toNat with
    | none =>
     rw [hl] at hb hf
     rw [ye (x := some false) hb, hv]
     simp only [beq_iff_eq] at hf
     rw [hf]
     rfl
    | some y =>
     obtain ⟨k', lo, h⟩ := y
     rw [hl] at hb hf
     simp only at hb
     simp only [Bool.and_eq_true, decide_eq_true_eq, beq_iff_eq] at hf
     obtain ⟨⟨⟨⟨f1, f2⟩, f3⟩, f4⟩, f5⟩ := hf
     have hc := zdn hi k' lo h f1 f2
     rw [f3, f4, f5] at hv
     rw [hv]
     cases hcn : Lib.checkN (s.drop i).length ((s.drop i).getD 1 0).toNat ((s.drop i).getD 2 0).toNat ((s.drop i).getD 3 0).toNat (k' + 1) lo h with
     | none =>
      rw [hcn] at hc
      rw [hc] at hb
      rw [ye (x := some false) hb]
     | some q =>
      rw [hcn] at hc
      rw [hc] at hb
      have hq : 1 ≤ q ∧ i + q ≤ s.length := by
       have hlen : (s.drop i).length = s.length - i := List.length_drop
       rw [hlen] at hcn
       unfold Lib.checkN at hcn
       have hk : k' = 1 ∨ k' = 2 ∨ k' = 3 := by omega
       rcases hk with rfl | rfl | rfl <;> simp only [] at hcn <;> (repeat' split at hcn) <;> simp at hcn <;> omega
      rw [xv (s' := ((i + q : Nat) : Int)) hb, ih (i + q) (by omega) (by omega)]
      simp only [List.drop_drop]
theorem zau {s : List UInt8} (hs : s.length ≤ 4611686018427387904) : qg none s = some (Lib.validD s) := by
 have := z26 hs s.length 0 (by omega) (by omega)
 exact this
theorem zgu {s : List UInt8} (hs : s.length ≤ 4611686018427387904) : ju none s = some (Lib.validD s) := by
 unfold ju; rw [if_pos (by omega)]
inductive J where
 | mk (kind num : Int) (text : List UInt8) (names : List (List UInt8)) (elems : List J)
def J.kind : J → Int | .mk k _ _ _ _ => k
def J.num : J → Int | .mk _ n _ _ _ => n
def J.text : J → List UInt8 | .mk _ _ t _ _ => t
def J.names : J → List (List UInt8) | .mk _ _ _ ns _ => ns
def J.elems : J → List J | .mk _ _ _ _ es => es
mutual
def J.raw : J → List AVal
 | .mk k n t ns es => z6 ⟨k, n, t, ns, J.rawL es⟩
def J.rawL : List J → List (List AVal)
 | [] => []
 | e :: r => e.raw :: J.rawL r
end
theorem zhf : ∀ es : List J, J.rawL es = es.map J.raw
 | [] => rfl
 | e :: r => by unfold J.rawL; rw [zhf r]; rfl
def J.val (j : J) : GJ := ⟨j.kind, j.num, j.text, j.names, j.elems.map J.raw⟩
theorem z3c (j : J) : j.raw = z6 j.val := by
 cases j with
 | mk k n t ns es => unfold J.raw J.val; rw [zhf]; rfl
theorem zuz {x y : GJ} (h : z6 x = z6 y) : x = y := by
 obtain ⟨k, n, t, ns, es⟩ := x
 obtain ⟨k', n', t', ns', es'⟩ := y
 simp only [z6, List.cons.injEq, AVal.int.injEq, AVal.str.injEq, AVal.isl.injEq, true_and, and_true] at h
 obtain ⟨h1, h2, h3, h4, h5⟩ := h
 have g1 : ns = ns' := by
  refine (List.map_inj_right ?_).1 h4
  intro a b hab
  simp only [z7, List.cons.injEq, AVal.str.injEq, and_true] at hab
  exact hab
 have g2 : es = es' := by
  have : (fun r : List AVal => z8 r) = id := rfl
  rw [show (z8 : List AVal → List AVal) = id from rfl, List.map_id, List.map_id] at h5
  exact h5
 rw [h1, h2, h3, g1, g2]
theorem zv6 (j : J) : vg j.raw = some j.val := by
 rw [z3c]
 have h : ∃ x, z6 j.val = z6 x := ⟨_, rfl⟩
 unfold vg
 rw [dif_pos h]
 congr 1
 exact (zuz (Classical.choose_spec h)).symm
theorem zlq {j : J} {i : Nat} (h : i < j.elems.length) : j.val.fE.getD i default = (j.elems[i]).raw := by
 simp [J.val, List.getD_eq_getElem?_getD, h]
theorem qp (j : J) : (j.val.fE.map z8).length = j.elems.length := by simp [J.val]
theorem zcj {j : J} {i : Nat} (h : i < j.elems.length) : vg (j.val.fE.getD i default) = some (j.elems[i]).val := by rw [zlq h, zv6]
def nsz : List (List UInt8) → Nat
 | [] => 0
 | n :: r => n.length + 1 + nsz r
mutual
def J.sz : J → Nat
 | .mk _ _ t ns es => 1 + t.length + nsz ns + J.szL es
def J.szL : List J → Nat
 | [] => 0
 | e :: r => e.sz + J.szL r
end
mutual
def J.nodes : J → Nat
 | .mk _ _ _ _ es => 1 + J.nodesL es
def J.nodesL : List J → Nat
 | [] => 0
 | e :: r => e.nodes + J.nodesL r
end
mutual
def J.depth : J → Nat
 | .mk _ _ _ _ es => 1 + J.depthL es
def J.depthL : List J → Nat
 | [] => 0
 | e :: r => max e.depth (J.depthL r)
end
theorem Qu (j : J) : 1 ≤ j.sz := by cases j; unfold J.sz; omega
theorem zjs : ∀ {es : List J} {e : J}, e ∈ es → e.sz ≤ J.szL es
 | x :: r, e, h => by
  unfold J.szL
  rcases List.mem_cons.1 h with rfl | h
  ·omega
  ·have := zjs h; omega
theorem zo9 : ∀ es : List J, es.length ≤ J.szL es
 | [] => by simp
 | e :: r => by
  unfold J.szL
  have := zo9 r
  have := Qu e
  simp only [List.length_cons]; omega
theorem zhi : ∀ {ns : List (List UInt8)} {n : List UInt8}, n ∈ ns → n.length ≤ nsz ns
 | x :: r, n, h => by
  unfold nsz
  rcases List.mem_cons.1 h with rfl | h
  ·omega
  ·have := zhi h; omega
theorem zga : ∀ ns : List (List UInt8), ns.length ≤ nsz ns
 | [] => by simp
 | n :: r => by
  unfold nsz
  have := zga r
  simp only [List.length_cons]; omega
mutual
theorem zcr : ∀ j : J, j.nodes ≤ j.sz
 | .mk _ _ t ns es => by unfold J.nodes J.sz; have := z6z es; omega
theorem z6z : ∀ es : List J, J.nodesL es ≤ J.szL es
 | [] => by simp [J.nodesL]
 | e :: r => by unfold J.nodesL J.szL; have := zcr e; have := z6z r; omega
end
mutual
theorem z01 : ∀ j : J, j.depth ≤ j.nodes
 | .mk _ _ t ns es => by unfold J.nodes J.depth; have := Kb es; omega
theorem Kb : ∀ es : List J, J.depthL es ≤ J.nodesL es
 | [] => by simp [J.depthL]
 | e :: r => by unfold J.nodesL J.depthL; have := z01 e; have := Kb r; omega
end
def J.ok (j : J) : Prop := j.sz ≤ 1073741824
theorem J.ok.elem {j e : J} (h : j.ok) (he : e ∈ j.elems) : e.ok := by
 cases j with
 | mk k n t ns es =>
  have h' : J.sz (.mk k n t ns es) ≤ 1073741824 := h
  rw [J.sz.eq_1 k n t ns es] at h'
  have := zjs he
  simp only [J.elems] at this
  show e.sz ≤ 1073741824
  omega
theorem Ui {j e : J} (he : e ∈ j.elems) : e.sz < j.sz := by
 cases j with
 | mk k n t ns es =>
  have := zjs he
  simp only [J.elems] at this
  rw [J.sz.eq_1 k n t ns es]
  omega
theorem J.ok.len {j : J} (h : j.ok) : j.elems.length ≤ 1073741824 ∧ j.text.length ≤ 1073741824 ∧ j.names.length ≤ 1073741824 ∧ ∀ n ∈ j.names, n.length ≤ 1073741824 := by
 cases j with
 | mk k n t ns es =>
  unfold J.ok J.sz at h
  have := zo9 es
  have := zga ns
  refine ⟨?_, ?_, ?_, fun n hn => ?_⟩ <;> simp only [J.elems, J.text, J.names] at *
  ·omega
  ·omega
  ·omega
  ·have := zhi hn; omega
theorem Qh {α : Type} {f : Nat → Option α} {v : α} {d : Nat} (h : ∀ k, f k = some v ∨ (k < d ∧ f k = none)) : zdm none f = some v :=
 zoj (fun k o ho => by rcases h k with h1 | ⟨_, h1⟩ <;> rw [h1] at ho <;> cases ho; rfl) ⟨d, by rcases h d with h1 | ⟨h1, _⟩; exact h1; omega⟩
theorem kh {σ ρ : Type} {b : σ → Option (σ ⊕ ρ)} {s : σ} (h : b s = none) : uq none b s = none := by rw [z4d, h]
mutual
def J.lim : J → Int → Int → Bool × Int
 | .mk _ _ _ _ es, d, n => if n + 1 > 400 ∨ d > 20 then (false, n + 1) else J.limL es (d + 1) (n + 1)
def J.limL : List J → Int → Int → Bool × Int
 | [], _, n => (true, n)
 | e :: r, d, n => if (e.lim d n).1 = true then J.limL r d (e.lim d n).2 else (false, (e.lim d n).2)
end
mutual
theorem z9h : ∀ (j : J) (d n : Int), 0 ≤ n → ((j.lim d n).1 = true ↔ n + j.nodes ≤ 400 ∧ d + j.depth ≤ 21) ∧ ((j.lim d n).1 = true → (j.lim d n).2 = n + j.nodes)
 | .mk k m t ns es, d, n, h => by
  unfold J.lim J.nodes J.depth
  by_cases c : n + 1 > 400 ∨ d > 20
  ·rw [if_pos c]
   refine ⟨⟨fun h => (by cases h), fun h => ?_⟩, fun h => (by cases h)⟩
   omega
  ·rw [if_neg c]
   obtain ⟨h1, h2⟩ := zb0 es (d + 1) (n + 1) (by omega) (by omega) (by omega)
   refine ⟨h1.trans ⟨fun h => by omega, fun h => by omega⟩, fun h => ?_⟩
   rw [h2 h]; omega
theorem zb0 : ∀ (es : List J) (d n : Int), 0 ≤ n → n ≤ 400 → d ≤ 21 → ((J.limL es d n).1 = true ↔ n + J.nodesL es ≤ 400 ∧ d + J.depthL es ≤ 21) ∧ ((J.limL es d n).1 = true → (J.limL es d n).2 = n + J.nodesL es)
 | [], d, n, h, h', hd => by
  unfold J.limL J.nodesL J.depthL
  refine ⟨⟨fun _ => by omega, fun _ => rfl⟩, fun _ => by simp⟩
 | e :: r, d, n, h, h', hd => by
  unfold J.limL J.nodesL J.depthL
  obtain ⟨h1, h2⟩ := z9h e d n h
  by_cases c : (e.lim d n).1 = true
  ·rw [if_pos c]
   have h3 := h2 c
   have h4 := h1.1 c
   obtain ⟨g1, g2⟩ := zb0 r d (e.lim d n).2 (by omega) (by omega) hd
   refine ⟨g1.trans ⟨fun h => by omega, fun h => by omega⟩, fun h => ?_⟩
   rw [g2 h]; omega
  ·rw [if_neg c]
   refine ⟨⟨fun h => (by cases h), fun hh => absurd (h1.2 (by omega)) c⟩, fun h => by cases h⟩
end
theorem zby {j : J} {rec0 : GJ → Int → Int → Option (Bool × Int)} {B : Prop} (hj : j.ok) {d : Int} (hd : 1 ≤ d ∧ d ≤ 20)
 (hr : ∀ e ∈ j.elems, ∀ n : Int, 0 ≤ n → n ≤ 400 → rec0 e.val (d + 1) n = some (e.lim (d + 1) n) ∨ (B ∧ rec0 e.val (d + 1) n = none)) :
 ∀ (k i : Nat) (n : Int), i + k = j.elems.length → 0 ≤ n → n ≤ 400 →
  q7 rec0 none j.val d n (i : Int) = some (J.limL (j.elems.drop i) (d + 1) n) ∨ (B ∧ q7 rec0 none j.val d n (i : Int) = none)
 | 0, i, n, h, h0, h4 => by
  left
  have : i = j.elems.length := by omega
  subst this
  unfold q7
  rw [ye (x := some (true, n)), List.drop_length]
  ·rfl
  ·unfold yi
   rw [if_neg (by rw [qp]; simp)]
   rfl
 | k + 1, i, n, h, h0, h4 => by
  have hi : i < j.elems.length := by omega
  have hl := hj.len
  have ih := zby hj hd hr k (i + 1)
  have hb : yi rec0 none j.val d n (i : Int) = (rec0 (j.elems[i]).val (d + 1) n).bind fun v8 => if (!v8.1) = true then some (.inr (false, v8.2)) else some (.inl (v8.2, ((i + 1 : Nat) : Int))) := by
   unfold yi
   rw [qp, if_pos (by simpa using hi), if_pos (by omega)]
   simp only [Int.toNat_natCast, zcj hi, Option.bind_some, Wi (show i ≤ 4611686018427387904 by omega), show W (d + 1) = d + 1 from zrc (by unfold inR; omega)]
   rfl
  rw [List.drop_eq_getElem_cons hi]
  unfold q7 at ih ⊢
  rcases hr _ (List.getElem_mem hi) n h0 h4 with hc | ⟨hB, hc⟩
  ·rw [hc, Option.bind_some] at hb
   unfold J.limL
   obtain ⟨g1, g2⟩ := z9h j.elems[i] (d + 1) n h0
   cases hv : (j.elems[i].lim (d + 1) n).1 with
   | true =>
    rw [hv] at hb
    rw [xv (s' := ((j.elems[i].lim (d + 1) n).2, ((i + 1 : Nat) : Int))) hb, if_pos rfl]
    have := g2 hv
    have := g1.1 hv
    exact ih _ (by omega) (by omega) (by omega)
   | false =>
    left
    rw [hv] at hb
    rw [ye (x := some (false, (j.elems[i].lim (d + 1) n).2)) hb, if_neg (by simp)]
  ·right
   rw [hc] at hb
   exact ⟨hB, kh hb⟩
theorem zf6 : ∀ (k : Nat) (j : J) (d n : Int), j.ok → 1 ≤ d → d ≤ 21 → 0 ≤ n → n ≤ 400 → yl none k j.val d n = some (j.lim d n) ∨ (k < j.sz ∧ yl none k j.val d n = none)
 | 0, j, d, n, hj, hd, hd', h0, h4 => .inr ⟨Qu j, rfl⟩
 | k + 1, j, d, n, hj, hd, hd', h0, h4 => by
  have hW : W (n + 1) = n + 1 := zrc (by unfold inR; omega)
  unfold yl xk
  rw [hW]
  by_cases c : n + 1 > 400 ∨ d > 20
  ·left
   rw [if_pos (by simpa using c)]
   cases j; unfold J.lim; rw [if_pos c]
  ·rw [if_neg (by simpa using c)]
   have := zby (rec0 := yl none k) (B := k + 1 < j.sz) hj (d := d) (by omega) (fun e he n h0 h4 => by
    rcases zf6 k e (d + 1) n (hj.elem he) (by omega) (by omega) h0 h4 with h | ⟨h1, h2⟩
    ·exact .inl h
    ·exact .inr ⟨by have := Ui he; omega, h2⟩) j.elems.length 0 (n + 1) (by omega) (by omega) (by omega)
   have e : j.lim d n = J.limL j.elems (d + 1) (n + 1) := by cases j; rw [J.lim.eq_1, if_neg c]; rfl
   rw [e]
   exact this
theorem ztw {j : J} (hj : j.ok) : jx none j.val 1 0 = some (j.lim 1 0) :=
 Qh (d := j.sz) fun k => zf6 k j 1 0 hj (by omega) (by omega) (by omega) (by omega)
theorem Z6 {l : List (List UInt8)} {i : Nat} (h : i < l.length) : l.getD i default = l[i] := zpj h
theorem zpa {p : List (List UInt8)} {x y : List UInt8} (h : y ≠ x) : (p ++ [y]).contains x = p.contains x := by simp [Ne.symm h]
theorem zlj {p : List (List UInt8)} {x : List UInt8} : (p ++ [x]).contains x = true := by simp
theorem zt9 {p : List (List UInt8)} {x : List UInt8} : (x :: p).contains x = true := by simp
theorem ztl {p : List (List UInt8)} {x y : List UInt8} (h : x ≠ y) : (y :: p).contains x = p.contains x := by simp [h]
def zef (p : List (List UInt8)) : List (List UInt8) → Bool
 | [] => false
 | x :: r => p.contains x || zef (p ++ [x]) r
theorem zsa {M : List (List UInt8 × Int)} {k j : List UInt8} {v : Int} : lk Xh (mp Xh M k v) j = if k = j then some v else lk Xh M j := by
 induction M with
 | nil =>
  simp only [mp, lk, Xh, Bool.and_true, beq_iff_eq]
  by_cases h : k = j
  ·rw [if_pos h, if_pos h.symm]
  ·rw [if_neg h, if_neg (Ne.symm h)]
 | cons x r ih =>
  obtain ⟨k', v'⟩ := x
  simp only [mp, Xh, Bool.and_true, beq_iff_eq]
  by_cases h : k = k'
  ·rw [if_pos h]
   simp only [lk, Xh, Bool.and_true, beq_iff_eq]
   by_cases h2 : k = j
   ·rw [if_pos h2, if_pos h2.symm]
   ·rw [if_neg h2, if_neg (Ne.symm h2), if_neg (by rw [← h]; exact Ne.symm h2)]
  ·rw [if_neg h]
   simp only [lk, Xh, Bool.and_true, beq_iff_eq]
   by_cases h2 : j = k'
   ·rw [if_pos h2, if_pos h2, if_neg (by rw [h2]; exact h)]
   ·rw [if_neg h2, if_neg h2]; exact ih
theorem Un {a0 : List (List UInt8)} (hl : a0.length ≤ 4611686018427387904) : ∀ (k i : Nat) (M : List (List UInt8 × Int)), i + k = a0.length → (∀ x, (((lk Xh M x).getD 0) != 0) = (a0.take i).contains x) →
 xw none a0 (i : Int) M = some (zef (a0.take i) (a0.drop i))
 | 0, i, M, h, hM => by
  have : i = a0.length := by omega
  subst this
  unfold xw
  rw [ye (x := some false), List.drop_length]
  ·rfl
  ·unfold qc
   rw [if_neg (by simp)]
   rfl
 | k + 1, i, M, h, hM => by
  have hi : i < a0.length := by omega
  have ih := Un hl k (i + 1)
  have hb : qc none a0 (i : Int) M = if (a0.take i).contains a0[i] = true then some (.inr true) else some (.inl (((i + 1 : Nat) : Int), mp Xh M a0[i] 1)) := by
   unfold qc
   rw [if_pos (by simpa using hi), if_pos (by simpa using hi)]
   simp only [Int.toNat_natCast, Z6 hi, Wi (show i ≤ 4611686018427387904 by omega), hM]
   rfl
  rw [List.drop_eq_getElem_cons hi, zef]
  unfold xw at ih ⊢
  cases hc : (a0.take i).contains a0[i] with
  | true =>
   rw [hc, if_pos rfl] at hb
   rw [ye (x := some true) hb]; rfl
  | false =>
   rw [hc, if_neg (by simp)] at hb
   have ht : a0.take (i + 1) = a0.take i ++ [a0[i]] := by rw [List.take_succ_eq_append_getElem hi]
   rw [xv hb, ih _ (by omega) (fun x => ?_), ht, Bool.false_or]
   rw [zsa, ht]
   by_cases hx : a0[i] = x
   ·rw [if_pos hx, hx, zlj]; rfl
   ·rw [if_neg hx, hM, zpa hx]
theorem zhc {a0 : List (List UInt8)} (hl : a0.length ≤ 4611686018427387904) : jh none a0 = some (zef [] a0) :=
 Un hl a0.length 0 [] (by omega) (fun x => by simp [lk])
theorem z29 {a0 : List (List UInt8)} {a1 : List UInt8} (hl : a0.length ≤ 4611686018427387904) : ∀ (k i : Nat), i + k = a0.length →
 ∃ r, zr none a0 a1 (i : Int) = some r ∧ decide (r ≥ 0) = (a0.drop i).contains a1
 | 0, i, h => by
  have : i = a0.length := by omega
  subst this
  refine ⟨-1, ?_, by simp⟩
  unfold zr
  rw [ye (x := some (-1))]
  unfold zl
  rw [if_neg (by simp)]
  rfl
 | k + 1, i, h => by
  have hi : i < a0.length := by omega
  obtain ⟨r, ih1, ih2⟩ := z29 (a1 := a1) hl k (i + 1) (by omega)
  have hb : zl none a0 a1 (i : Int) = if (a1 == a0[i]) = true then some (.inr (i : Int)) else some (.inl ((i + 1 : Nat) : Int)) := by
   unfold zl
   rw [if_pos (by simpa using hi), if_pos (by simpa using hi)]
   simp only [Int.toNat_natCast, Z6 hi, Wi (show i ≤ 4611686018427387904 by omega)]
   rfl
  rw [List.drop_eq_getElem_cons hi]
  unfold zr at ih1 ⊢
  by_cases hc : a1 = a0[i]
  ·rw [if_pos (by simpa using hc)] at hb
   exact ⟨i, ye (x := some (i : Int)) hb, by rw [hc, zt9, decide_eq_true_eq]; omega⟩
  ·rw [if_neg (by simpa using hc)] at hb
   refine ⟨r, by rw [xv hb]; exact ih1, ?_⟩
   rw [ih2, ztl hc]
theorem z8e {a0 : List (List UInt8)} {a1 : List UInt8} (hl : a0.length ≤ 4611686018427387904) : yy none a0 a1 = some (a0.contains a1) := by
 obtain ⟨r, h1, h2⟩ := z29 (a1 := a1) hl a0.length 0 (by omega)
 unfold yy qi
 rw [show (0 : Int) = ((0 : Nat) : Int) from rfl, h1, Option.bind_some]
 rw [show ((0 : Nat) : Int) = (0 : Int) from rfl, h2]
 rfl
theorem zc7 {a0 : List (List UInt8)} (hl : a0.length ≤ 4611686018427387904) : ∀ (k i : Nat), i + k = a0.length → xg none a0 (i : Int) = some (zef (a0.take i) (a0.drop i))
 | 0, i, h => by
  have : i = a0.length := by omega
  subst this
  unfold xg
  rw [ye (x := some false), List.drop_length]
  ·rfl
  ·unfold yt
   rw [if_neg (by simp)]
   rfl
 | k + 1, i, h => by
  have hi : i < a0.length := by omega
  have ih := zc7 hl k (i + 1) (by omega)
  have hb : yt none a0 (i : Int) = if (a0.take i).contains a0[i] = true then some (.inr true) else some (.inl ((i + 1 : Nat) : Int)) := by
   unfold yt
   rw [if_pos (by simpa using hi), if_pos (by simpa using hi), if_pos (by simp; omega)]
   simp only [Int.toNat_natCast, Z6 hi, Wi (show i ≤ 4611686018427387904 by omega)]
   rw [z8e (by rw [List.length_take]; omega), Option.bind_some]
   rfl
  rw [List.drop_eq_getElem_cons hi, zef]
  unfold xg at ih ⊢
  cases hc : (a0.take i).contains a0[i] with
  | true =>
   rw [hc, if_pos rfl] at hb
   rw [ye (x := some true) hb]; rfl
  | false =>
   rw [hc, if_neg (by simp)] at hb
   rw [xv hb, ih, List.take_succ_eq_append_getElem hi, Bool.false_or]
theorem zt0 {a0 : List (List UInt8)} (hl : a0.length ≤ 4611686018427387904) : j2 none a0 = some (zef [] a0) := zc7 hl a0.length 0 (by omega)
theorem z65 {a0 : List (List UInt8)} (hl : a0.length ≤ 4611686018427387904) (hn : ∀ n ∈ a0, n.length ≤ 4611686018427387904) : ∀ (k i : Nat), i + k = a0.length →
 ∃ r, xf (fun (s : Unit) (x : (List UInt8)) => (yu none x).map fun o => (o, ())) none a0 (i : Int) () = some (r, ()) ∧ decide (r ≥ 0) = !((a0.drop i).all Lib.validD)
 | 0, i, h => by
  have : i = a0.length := by omega
  subst this
  refine ⟨-1, ?_, by simp⟩
  unfold xf
  rw [ye (x := some (-1, ()))]
  unfold yw
  rw [if_neg (by simp)]
  rfl
 | k + 1, i, h => by
  have hi : i < a0.length := by omega
  obtain ⟨r, ih1, ih2⟩ := z65 hl hn k (i + 1) (by omega)
  have hb : yw (fun (s : Unit) (x : (List UInt8)) => (yu none x).map fun o => (o, ())) none a0 (i : Int) () = if (!Lib.validD a0[i]) = true then some (.inr ((i : Int), ())) else some (.inl (((i + 1 : Nat) : Int), ())) := by
   unfold yw yu
   rw [if_pos (by simpa using hi), if_pos (by simpa using hi)]
   simp only [Int.toNat_natCast, Z6 hi, Wi (show i ≤ 4611686018427387904 by omega)]
   rw [zgu (hn _ (List.getElem_mem hi))]
   rfl
  rw [List.drop_eq_getElem_cons hi]
  unfold xf at ih1 ⊢
  cases hc : Lib.validD a0[i] with
  | false =>
   rw [hc, if_pos (by rfl)] at hb
   exact ⟨i, ye (x := some ((i : Int), ())) hb, by rw [List.all_cons, hc, Bool.false_and, Bool.not_false, decide_eq_true_eq]; omega⟩
  | true =>
   rw [hc, if_neg (by simp)] at hb
   refine ⟨r, by rw [xv hb]; exact ih1, ?_⟩
   rw [ih2, List.all_cons, hc, Bool.true_and]
theorem zot {a0 : List (List UInt8)} (hl : a0.length ≤ 4611686018427387904) (hn : ∀ n ∈ a0, n.length ≤ 4611686018427387904) :
 ql (fun (s : Unit) (x : (List UInt8)) => (yu none x).map fun o => (o, ())) none a0 () = some (!(a0.all Lib.validD), ()) := by
 obtain ⟨r, h1, h2⟩ := z65 hl hn a0.length 0 (by omega)
 unfold ql j1
 rw [show (0 : Int) = ((0 : Nat) : Int) from rfl, h1, Option.bind_some]
 rw [show ((0 : Nat) : Int) = (0 : Int) from rfl, h2]
 rfl
def Jz (k n : Int) : Bool := decide (n = 0 ∨ (k = 1 ∧ n = 1) ∨ (k = 2 ∧ -9007199254740991 ≤ n ∧ n ≤ 9007199254740991))
def wfB (k n : Int) (t : List UInt8) (ns : List (List UInt8)) (len : Nat) : Bool :=
 Jz k n && (decide (t = []) || (decide (k = 3) && Lib.validD t)) && decide (len = 0 ∨ k ≥ 4) && (if k = 5 then decide (ns.length = len) && !zef [] ns else decide (ns.length = 0)) && ns.all Lib.validD
def J.wf (j : J) : Bool := wfB j.kind j.num j.text j.names j.elems.length
theorem zp4 {j : J} (hj : j.ok) (hk : 0 ≤ j.kind ∧ j.kind ≤ 5) {lo hi : Int} (hnum : Jz j.kind j.num = decide (lo ≤ j.num ∧ j.num ≤ hi)) : qz none j.val lo hi = some j.wf := by
 obtain ⟨hl1, hl2, hl3, hl4⟩ := hj.len
 have hd := zhc (a0 := j.names) (by omega)
 have hf := zot (a0 := j.names) (by omega) (fun n hn => by have := hl4 n hn; omega)
 have hu := zgu (s := j.text) (by omega)
 unfold qz J.wf wfB
 rw [hnum]
 rw [qp, show j.val.fK = j.kind from rfl, show j.val.fN = j.num from rfl, show j.val.fT = j.text from rfl, show j.val.fA = j.names from rfl, List.length_map]
 by_cases c1 : ¬ (lo ≤ j.num ∧ j.num ≤ hi)
 ·rw [if_pos (by simp only [Bool.or_eq_true, decide_eq_true_eq]; omega), decide_eq_false c1]; rfl
 rw [if_neg (by simp only [Bool.or_eq_true, decide_eq_true_eq]; omega)]
 by_cases c2 : j.text ≠ [] ∧ j.kind ≠ 3
 ·rw [if_pos (by simp; exact c2)]; simp [c2.1, c2.2]
 rw [if_neg (by simpa using c2)]
 by_cases c3 : j.elems.length > 0 ∧ j.kind ≠ 4 ∧ j.kind ≠ 5
 ·rw [if_pos (by simp; omega)]
  have : ¬ (j.elems.length = 0 ∨ j.kind ≥ 4) := by omega
  rw [decide_eq_false this, Bool.and_false, Bool.false_and, Bool.false_and]
 rw [if_neg (by simp; omega)]
 have e1 : decide (lo ≤ j.num ∧ j.num ≤ hi) = true := by rw [decide_eq_true_eq]; omega
 have e3 : decide (j.elems.length = 0 ∨ j.kind ≥ 4) = true := by simp only [decide_eq_true_eq]; omega
 have e2 : (decide (j.text = []) || (decide (j.kind = 3) && Lib.validD j.text)) = Lib.validD j.text := by
  by_cases ht : j.text = []
  ·rw [ht]; rfl
  ·have : j.kind = 3 := Decidable.byContradiction fun h => c2 ⟨ht, h⟩
   simp [ht, this]
 rw [e1, e2, e3]
 by_cases c5 : j.kind = 5
 ·rw [if_pos c5]
  by_cases cl : j.names.length = j.elems.length
  ·rw [if_pos (by simp [c5, cl]), hd, Option.bind_some]
   cases hdp : zef [] j.names with
   | true => rw [if_pos (by simp [c5])]; simp
   | false =>
    rw [if_neg (by simp [c5, cl]), if_neg (by simp [c5]), hu, Option.bind_some]
    cases hv : Lib.validD j.text with
    | true => rw [if_pos (by rfl), hf, Option.bind_some]; simp [cl]
    | false => rw [if_neg (by simp), Option.bind_some]; simp
  ·rw [if_neg (by simp [c5]; omega), Option.bind_some, if_pos (by simp [c5]; omega)]
   simp [cl]
 ·rw [if_neg c5, if_neg (by simp [c5]), Option.bind_some, if_neg (by simp [c5])]
  by_cases cl : j.names.length = 0
  ·rw [if_neg (by simp [cl]), hu, Option.bind_some]
   cases hv : Lib.validD j.text with
   | true => rw [if_pos (by rfl), hf, Option.bind_some]; simp [cl]
   | false => rw [if_neg (by simp), Option.bind_some]; simp
  ·rw [if_pos (by simp [c5]; omega)]
   simp [cl]
theorem zuw {j : J} (hj : j.ok) (hk : 0 ≤ j.kind ∧ j.kind ≤ 5) : jj none j.val = some j.wf := by
 unfold jj
 have hkv : j.val.fK = j.kind := rfl
 rw [hkv]
 by_cases c1 : j.kind = 1
 ·rw [if_pos (by simpa using c1)]
  exact zp4 hj hk (by unfold Jz; rw [decide_eq_decide]; omega)
 rw [if_neg (by simpa using c1)]
 by_cases c2 : j.kind = 2
 ·rw [if_pos (by simpa using c2)]
  exact zp4 hj hk (by unfold Jz; rw [decide_eq_decide]; omega)
 rw [if_neg (by simpa using c2)]
 exact zp4 hj hk (by unfold Jz; rw [decide_eq_decide]; omega)
mutual
def J.vd : J → Int
 | .mk k n t ns es => if k < 0 ∨ k > 5 then 7 else if wfB k n t ns es.length = true then J.vdL es else 3
def J.vdL : List J → Int
 | [] => 0
 | e :: r => if e.vd ≠ 0 then e.vd else J.vdL r
end
theorem zcg (j : J) : j.vd = if j.kind < 0 ∨ j.kind > 5 then 7 else if j.wf = true then J.vdL j.elems else 3 := by
 cases j; rw [J.vd.eq_1]; rfl
theorem z8c {j : J} {rec0 : GJ → Option Int} {B : Prop} (hj : j.ok) (hr : ∀ e ∈ j.elems, rec0 e.val = some e.vd ∨ (B ∧ rec0 e.val = none)) :
 ∀ (k i : Nat), i + k = j.elems.length →
  qw rec0 none j.val (i : Int) = some (J.vdL (j.elems.drop i)) ∨ (B ∧ qw rec0 none j.val (i : Int) = none)
 | 0, i, h => by
  left
  have : i = j.elems.length := by omega
  subst this
  unfold qw
  rw [ye (x := some 0), List.drop_length]
  ·rfl
  ·unfold qd
   rw [if_neg (by rw [qp]; simp)]
   rfl
 | k + 1, i, h => by
  have hi : i < j.elems.length := by omega
  have hl := hj.len
  have ih := z8c hj hr k (i + 1) (by omega)
  have hb : qd rec0 none j.val (i : Int) = (rec0 (j.elems[i]).val).bind fun v8 => if (v8 != 0) = true then some (.inr v8) else some (.inl ((i + 1 : Nat) : Int)) := by
   unfold qd
   rw [qp, if_pos (by simpa using hi), if_pos (by omega)]
   simp only [Int.toNat_natCast, zcj hi, Option.bind_some, Wi (show i ≤ 4611686018427387904 by omega)]
   rfl
  rw [List.drop_eq_getElem_cons hi]
  unfold qw at ih ⊢
  rcases hr _ (List.getElem_mem hi) with hc | ⟨hB, hc⟩
  ·rw [hc, Option.bind_some] at hb
   unfold J.vdL
   by_cases hv : j.elems[i].vd = 0
   ·rw [if_neg (by simpa using hv)] at hb
    rw [xv hb, if_neg (by simpa using hv)]
    exact ih
   ·left
    rw [if_pos (by simpa using hv)] at hb
    rw [ye (x := some (j.elems[i].vd)) hb, if_pos hv]
  ·right
   rw [hc] at hb
   exact ⟨hB, kh hb⟩
theorem zja {j : J} {rec0 : GJ → Option Int} {B : Prop} (hj : j.ok) (hr : ∀ e ∈ j.elems, rec0 e.val = some e.vd ∨ (B ∧ rec0 e.val = none)) :
 qe rec0 none j.val = some j.vd ∨ (B ∧ qe rec0 none j.val = none) := by
 unfold qe
 rw [zcg, show j.val.fK = j.kind from rfl]
 by_cases c : j.kind < 0 ∨ j.kind > 5
 ·left
  rw [if_pos (by simp only [Bool.or_eq_true, decide_eq_true_eq]; omega), if_pos c]
 rw [if_neg (by simp only [Bool.or_eq_true, decide_eq_true_eq]; omega), if_neg c, zuw hj (by omega), Option.bind_some]
 cases hw : j.wf with
 | false => left; rw [if_pos (by rfl), if_neg (by simp)]
 | true =>
  rw [if_neg (by simp), if_pos rfl]
  exact z8c hj hr j.elems.length 0 (by omega)
theorem zob : ∀ (k : Nat) (j : J), j.ok → x9 none k j.val = some j.vd ∨ (k < j.sz ∧ x9 none k j.val = none)
 | 0, j, hj => .inr ⟨Qu j, rfl⟩
 | k + 1, j, hj => by
  unfold x9
  exact zja hj fun e he => by
   rcases zob k e (hj.elem he) with h | ⟨h1, h2⟩
   ·exact .inl h
   ·exact .inr ⟨by have := Ui he; omega, h2⟩
theorem zt7 {j : J} (hj : j.ok) : ws none j.val = some j.vd := Qh (d := j.sz) fun k => zob k j hj
theorem zuq {j : J} (hj : j.ok) : ub none j.val = some j.vd := by
 rcases zja (B := False) hj (fun e he => .inl (zt7 (hj.elem he))) with h | ⟨h, _⟩
 ·exact h
 ·exact h.elim
def J.chk (j : J) : Int := if j.nodes ≤ 400 ∧ j.depth ≤ 20 then j.vd else 2
theorem Ua {j : J} (hj : j.ok) : jg none j.val = some j.chk := by
 obtain ⟨h1, _⟩ := z9h j 1 0 (by omega)
 unfold jg J.chk
 rw [ztw hj, Option.bind_some]
 by_cases c : j.nodes ≤ 400 ∧ j.depth ≤ 20
 ·have : (j.lim 1 0).1 = true := h1.2 (by omega)
  rw [if_neg (by rw [this]; simp), if_pos c, zuq hj]
  rfl
 ·have : (j.lim 1 0).1 = false := by
   cases hv : (j.lim 1 0).1 with
   | false => rfl
   | true => have := h1.1 hv; omega
  rw [if_pos (by rw [this]; rfl), if_neg c]
theorem z7r {j : J} {rec0 : GJ → Option (Int × Int)} {B : Prop} (hj : j.ok) (hr : ∀ e ∈ j.elems, rec0 e.val = some ((e.nodes : Int), (e.depth : Int)) ∨ (B ∧ rec0 e.val = none)) :
 ∀ (k i a c : Nat), i + k = j.elems.length → a + J.nodesL (j.elems.drop i) ≤ 4611686018427387904 → c ≤ 1073741824 → J.depthL (j.elems.drop i) ≤ 1073741824 →
  yz rec0 none j.val (a : Int) (c : Int) (i : Int) = some (((a + J.nodesL (j.elems.drop i) : Nat) : Int), ((max c (J.depthL (j.elems.drop i)) + 1 : Nat) : Int)) ∨ (B ∧ yz rec0 none j.val (a : Int) (c : Int) (i : Int) = none)
 | 0, i, a, c, h, ha, hc, hd => by
  left
  have : i = j.elems.length := by omega
  subst this
  unfold yz
  rw [ye (x := some ((a : Int), ((c + 1 : Nat) : Int))), List.drop_length]
  ·simp [J.nodesL, J.depthL]
  ·unfold yg xl
   rw [if_neg (by rw [qp]; simp), Wi (by omega)]
 | k + 1, i, a, c, h, ha, hcc, hd => by
  have hi : i < j.elems.length := by omega
  have hl := hj.len
  have ih := z7r hj hr k (i + 1)
  have hb : yg rec0 none j.val (a : Int) (c : Int) (i : Int) = (rec0 (j.elems[i]).val).bind fun v9 => some (.inl (W ((a : Int) + v9.1), (if v9.2 > (c : Int) then v9.2 else (c : Int)), ((i + 1 : Nat) : Int))) := by
   unfold yg
   rw [qp, if_pos (by simpa using hi), if_pos (by omega)]
   simp only [Int.toNat_natCast, zcj hi, Option.bind_some, Wi (show i ≤ 4611686018427387904 by omega)]
  rw [List.drop_eq_getElem_cons hi] at ha hd ⊢
  unfold J.nodesL at ha ⊢
  unfold J.depthL at hd ⊢
  unfold yz at ih ⊢
  rcases hr _ (List.getElem_mem hi) with hc | ⟨hB, hc⟩
  ·rw [hc, Option.bind_some] at hb
   have e1 : W ((a : Int) + (j.elems[i].nodes : Int)) = ((a + j.elems[i].nodes : Nat) : Int) := by rw [zrc (by unfold inR; omega)]; omega
   have e2 : (if (j.elems[i].depth : Int) > (c : Int) then (j.elems[i].depth : Int) else (c : Int)) = ((max c j.elems[i].depth : Nat) : Int) := by
    by_cases hx : (j.elems[i].depth : Int) > (c : Int)
    ·rw [if_pos hx]; omega
    ·rw [if_neg hx]; omega
   simp only [e1, e2] at hb
   rw [xv hb]
   have := ih (a + j.elems[i].nodes) (max c j.elems[i].depth) (by omega) (by omega) (by omega) (by omega)
   rw [Nat.add_assoc, Nat.max_assoc] at this
   exact this
  ·right
   rw [hc] at hb
   exact ⟨hB, kh hb⟩
theorem z5w {j : J} {rec0 : GJ → Option (Int × Int)} {B : Prop} (hj : j.ok) (hr : ∀ e ∈ j.elems, rec0 e.val = some ((e.nodes : Int), (e.depth : Int)) ∨ (B ∧ rec0 e.val = none)) :
 yv rec0 none j.val = some ((j.nodes : Int), (j.depth : Int)) ∨ (B ∧ yv rec0 none j.val = none) := by
 have h1 := zcr j
 have h2 := z01 j
 have hk : j.sz ≤ 1073741824 := hj
 have e1 : j.nodes = 1 + J.nodesL j.elems := by cases j; rw [J.nodes.eq_1]; rfl
 have e2 : j.depth = 1 + J.depthL j.elems := by cases j; rw [J.depth.eq_1]; rfl
 have := z7r hj hr j.elems.length 0 1 0 (by omega) (by rw [List.drop_zero]; omega) (by omega) (by rw [List.drop_zero]; omega)
 rw [List.drop_zero] at this
 rw [e1, e2, Nat.add_comm 1 (J.depthL j.elems)]
 rw [Nat.max_eq_right (Nat.zero_le _)] at this
 exact this
theorem zbc : ∀ (k : Nat) (j : J), j.ok → q8 none k j.val = some ((j.nodes : Int), (j.depth : Int)) ∨ (k < j.sz ∧ q8 none k j.val = none)
 | 0, j, hj => .inr ⟨Qu j, rfl⟩
 | k + 1, j, hj => by
  unfold q8
  exact z5w hj fun e he => by
   rcases zbc k e (hj.elem he) with h | ⟨h1, h2⟩
   ·exact .inl h
   ·exact .inr ⟨by have := Ui he; omega, h2⟩
theorem zpe {j : J} (hj : j.ok) : vj none j.val = some ((j.nodes : Int), (j.depth : Int)) := by
 rcases z5w (rec0 := jr none) (B := False) hj (fun e he => .inl (Qh (d := e.sz) fun k => zbc k e (hj.elem he))) with h | ⟨h, _⟩
 ·exact h
 ·exact h.elim
theorem zs4 (k n : Int) : (((n == 0) || ((k == 1) && (n == 1))) || (((k == 2) && (decide ((W (0 - 9007199254740991)) ≤ n))) && (decide (n ≤ 9007199254740991)))) = Jz k n := by
 have e : W (0 - 9007199254740991) = -9007199254740991 := zrc (by unfold inR; omega)
 rw [e]
 unfold Jz
 rw [Bool.eq_iff_iff]
 simp only [Bool.or_eq_true, Bool.and_eq_true, decide_eq_true_eq, beq_iff_eq]
 omega
theorem z25 {j : J} {rec0 : GJ → Option Int} (hj : j.ok) : ∀ (k i : Nat) (v : Bool), i + k = j.names.length →
 qf rec0 none j.val v (i : Int) = yk rec0 none j.val (v && (j.names.drop i).all Lib.validD)
 | 0, i, v, h => by
  have : i = j.names.length := by omega
  subst this
  unfold qf
  rw [List.drop_length, List.all_nil, Bool.and_true, ye]
  unfold y6
  rw [show j.val.fA = j.names from rfl, List.length_map, if_neg (by simp)]
 | k + 1, i, v, h => by
  have hi : i < j.names.length := by omega
  have hl := hj.len
  have ih := z25 (rec0 := rec0) hj k (i + 1) (v && Lib.validD j.names[i]) (by omega)
  have hb : y6 rec0 none j.val v (i : Int) = some (.inl ((v && Lib.validD j.names[i]), ((i + 1 : Nat) : Int))) := by
   unfold y6
   rw [show j.val.fA = j.names from rfl, List.length_map, if_pos (by simpa using hi), if_pos (by omega)]
   simp only [Int.toNat_natCast, Z6 hi, Wi (show i ≤ 4611686018427387904 by omega)]
   rw [zau (by have := hl.2.2.2 _ (List.getElem_mem hi); omega)]
   cases v <;> rfl
  rw [List.drop_eq_getElem_cons hi, List.all_cons, ← Bool.and_assoc]
  unfold qf at ih ⊢
  rw [xv hb]
  exact ih
theorem zcc {j : J} {rec0 : GJ → Option Int} {B : Prop} (hj : j.ok) (hr : ∀ e ∈ j.elems, rec0 e.val = some e.vd ∨ (B ∧ rec0 e.val = none)) :
 zy rec0 none j.val = some j.vd ∨ (B ∧ zy rec0 none j.val = none) := by
 obtain ⟨hl1, hl2, hl3, hl4⟩ := hj.len
 have hend : ∀ v : Bool, (v && j.names.all Lib.validD) = j.wf → ¬ (j.kind < 0 ∨ j.kind > 5) →
  (y5 rec0 none j.val v = some j.vd ∨ (B ∧ y5 rec0 none j.val v = none)) := by
  intro v hv hk
  have h1 := z25 (rec0 := rec0) hj j.names.length 0 v (by omega)
  rw [List.drop_zero, hv] at h1
  have h2 : y5 rec0 none j.val v = yk rec0 none j.val j.wf := h1
  rw [h2, zcg, if_neg hk]
  unfold yk
  cases hw : j.wf with
  | false => left; rw [if_pos (by rfl), if_neg (by simp)]
  | true =>
   rw [if_neg (by simp), if_pos rfl]
   exact z8c hj hr j.elems.length 0 (by omega)
 unfold zy
 rw [qp, show j.val.fK = j.kind from rfl, show j.val.fN = j.num from rfl, show j.val.fT = j.text from rfl, show j.val.fA = j.names from rfl, List.length_map, zs4]
 by_cases c : j.kind < 0 ∨ j.kind > 5
 ·left
  rw [if_pos (by simp only [Bool.or_eq_true, decide_eq_true_eq]; omega), zcg, if_pos c]
 rw [if_neg (by simp only [Bool.or_eq_true, decide_eq_true_eq]; omega)]
 have hv : ∃ v1, (if ((((Jz j.kind j.num) == true) && ((j.text == ([] : List UInt8)) == false)) && ((j.kind == 3) == true)) = true then qg none j.text else some default) = some v1 ∧
  (Jz j.kind j.num && ((j.text == ([] : List UInt8)) || ((j.kind == 3) && v1))) = (Jz j.kind j.num && (decide (j.text = []) || (decide (j.kind = 3) && Lib.validD j.text))) := by
  rw [zau (by omega)]
  cases Jz j.kind j.num with
  | false => exact ⟨default, by simp, rfl⟩
  | true =>
   by_cases ht : j.text = []
   ·exact ⟨default, by simp [ht], by simp [ht]⟩
   ·by_cases h3 : j.kind = 3
    ·exact ⟨_, by rw [if_pos (by simp [ht, h3])], by simp [ht, h3]⟩
    ·exact ⟨default, by rw [if_neg (by simp [h3])], by simp [ht, h3]⟩
 obtain ⟨v1, hv1, hv2⟩ := hv
 rw [hv1, Option.bind_some, hv2]
 have e3 : ((((j.elems.length : Nat) : Int) == 0) || decide (j.kind ≥ 4)) = decide (j.elems.length = 0 ∨ j.kind ≥ 4) := by
  rw [Bool.eq_iff_iff]; simp only [Bool.or_eq_true, decide_eq_true_eq, beq_iff_eq]; omega
 rw [e3]
 by_cases c5 : j.kind = 5
 ·rw [if_pos (by simpa using c5)]
  have e4 : (((j.names.length : Nat) : Int) == ((j.elems.length : Nat) : Int)) = decide (j.names.length = j.elems.length) := by
   rw [Bool.eq_iff_iff]; simp only [decide_eq_true_eq, beq_iff_eq]; omega
  rw [e4, zt0 (by omega)]
  generalize hA : (((Jz j.kind j.num && (decide (j.text = []) || (decide (j.kind = 3) && Lib.validD j.text))) && decide (j.elems.length = 0 ∨ j.kind ≥ 4)) && decide (j.names.length = j.elems.length)) = A
  have hwf : j.wf = (A && !zef [] j.names && j.names.all Lib.validD) := by
   rw [← hA]
   unfold J.wf wfB
   rw [if_pos c5]
   simp only [Bool.and_assoc]
  cases A with
  | false =>
   rw [if_neg (by simp), Option.bind_some]
   exact hend _ (by rw [hwf]; rfl) c
  | true =>
   rw [if_pos (by rfl), Option.bind_some]
   exact hend _ (by rw [hwf]) c
 ·rw [if_neg (by simpa using c5)]
  have e4 : (((j.names.length : Nat) : Int) == 0) = decide (j.names.length = 0) := by
   rw [Bool.eq_iff_iff]; simp only [decide_eq_true_eq, beq_iff_eq]; omega
  rw [e4]
  refine hend _ ?_ c
  unfold J.wf wfB
  rw [if_neg c5]
theorem zk4 : ∀ (k : Nat) (j : J), j.ok → yn none k j.val = some j.vd ∨ (k < j.sz ∧ yn none k j.val = none)
 | 0, j, hj => .inr ⟨Qu j, rfl⟩
 | k + 1, j, hj => by
  unfold yn
  exact zcc hj fun e he => by
   rcases zk4 k e (hj.elem he) with h | ⟨h1, h2⟩
   ·exact .inl h
   ·exact .inr ⟨by have := Ui he; omega, h2⟩
theorem zsx {j : J} (hj : j.ok) : wq none j.val = some j.vd := by
 rcases zcc (rec0 := jn none) (B := False) hj (fun e he => .inl (Qh (d := e.sz) fun k => zk4 k e (hj.elem he))) with h | ⟨h, _⟩
 ·exact h
 ·exact h.elim
theorem Vz {j : J} (hj : j.ok) : qh none j.val = some j.chk := by
 unfold qh J.chk
 rw [zpe hj, Option.bind_some]
 by_cases c : j.nodes ≤ 400 ∧ j.depth ≤ 20
 ·rw [if_neg (by simp only [Bool.or_eq_true, decide_eq_true_eq]; omega), if_pos c, zsx hj]; rfl
 ·rw [if_pos (by simp only [Bool.or_eq_true, decide_eq_true_eq]; omega), if_neg c]
theorem zk7 {ns : List (List UInt8)} (h : ns.length ≤ 1073741824) : vr none ns = some ns := by
 cases ns with
 | nil => rfl
 | cons x r =>
  show jb none (x :: r) = _
  unfold jb
  rw [List.nil_append, if_pos (by simp), if_pos (by rw [List.length_map]; omega)]
theorem z1d {j : J} {rec0 : GJ → Option GJ} {B : Prop} (hj : j.ok) (hr : ∀ e ∈ j.elems, rec0 e.val = some e.val ∨ (B ∧ rec0 e.val = none)) :
 ∀ (k i : Nat), i + k = j.elems.length →
  xt rec0 none j.val j.names (i : Int) ((j.elems.take i).map J.raw) = some j.val ∨ (B ∧ xt rec0 none j.val j.names (i : Int) ((j.elems.take i).map J.raw) = none)
 | 0, i, h => by
  left
  have : i = j.elems.length := by omega
  subst this
  unfold xt
  rw [ye (x := some j.val)]
  unfold qy w3
  rw [qp, if_neg (by simp), List.take_length]
  rfl
 | k + 1, i, h => by
  have hi : i < j.elems.length := by omega
  have hl := hj.len
  have ih := z1d hj hr k (i + 1) (by omega)
  have ht : (j.elems.take (i + 1)).map J.raw = (j.elems.take i).map J.raw ++ [(j.elems[i]).raw] := by rw [List.take_succ_eq_append_getElem hi, List.map_append]; rfl
  have hlen : ((j.elems.take i).map J.raw ++ [(j.elems[i]).raw]).length = i + 1 := by
   rw [← ht, List.length_map, List.length_take]; omega
  have hb : qy rec0 none j.val j.names (i : Int) ((j.elems.take i).map J.raw) = (rec0 (j.elems[i]).val).bind fun v9 => if ((((j.elems.take i).map J.raw) ++ ([z6 v9] : List (List AVal))).map z8).length * 80 ≤ 140737488355328 then some (.inl (((i + 1 : Nat) : Int), ((j.elems.take i).map J.raw) ++ ([z6 v9] : List (List AVal)))) else none := by
   unfold qy
   rw [qp, if_pos (by simpa using hi), if_pos (by omega)]
   simp only [Int.toNat_natCast, zcj hi, Option.bind_some, Wi (show i ≤ 4611686018427387904 by omega)]
  unfold xt at ih ⊢
  rcases hr _ (List.getElem_mem hi) with hc | ⟨hB, hc⟩
  ·rw [hc, Option.bind_some, ← z3c, if_pos (by rw [List.length_map, hlen]; omega), ← ht] at hb
   rw [xv hb]
   exact ih
  ·right
   rw [hc] at hb
   exact ⟨hB, kh hb⟩
theorem zdp {j : J} {rec0 : GJ → Option GJ} {B : Prop} (hj : j.ok) (hr : ∀ e ∈ j.elems, rec0 e.val = some e.val ∨ (B ∧ rec0 e.val = none)) :
 qa rec0 none j.val = some j.val ∨ (B ∧ qa rec0 none j.val = none) := by
 unfold qa
 rw [show j.val.fA = j.names from rfl, zk7 hj.len.2.2.1, Option.bind_some]
 exact z1d hj hr j.elems.length 0 (by omega)
theorem z22 {a : List (List UInt8)} (hl : a.length ≤ 4611686018427387904) : ∀ (k i : Nat), i + k = a.length → zu none a a (i : Int) = some true
 | 0, i, h => by
  unfold zu
  rw [ye (x := some true)]
  unfold zk
  rw [if_neg (by simp; omega)]
  rfl
 | k + 1, i, h => by
  have hi : i < a.length := by omega
  have ih := z22 hl k (i + 1) (by omega)
  have hb : zk none a a (i : Int) = some (.inl ((i + 1 : Nat) : Int)) := by
   unfold zk
   rw [if_pos (by simpa using hi), if_pos (by simpa using hi), if_pos (by simpa using hi), if_neg (by simp), Wi (by omega)]
  unfold zu at ih ⊢
  rw [xv hb]
  exact ih
theorem zdq {a : List (List UInt8)} (hl : a.length ≤ 4611686018427387904) : yf none a a = some true := by
 unfold yf
 rw [if_neg (by simp)]
 exact z22 hl a.length 0 (by omega)
theorem zgo {j : J} {rec0 : GJ → GJ → Option Bool} {B : Prop} (hj : j.ok) (hr : ∀ e ∈ j.elems, rec0 e.val e.val = some true ∨ (B ∧ rec0 e.val e.val = none)) :
 ∀ (k i : Nat), i + k = j.elems.length →
  za rec0 none j.val j.val true (i : Int) = some true ∨ (B ∧ za rec0 none j.val j.val true (i : Int) = none)
 | 0, i, h => by
  left
  have : i = j.elems.length := by omega
  subst this
  unfold za
  rw [ye (x := some true)]
  unfold zb zp
  rw [qp, if_neg (by simp)]
  first | rfl | done
 | k + 1, i, h => by
  have hi : i < j.elems.length := by omega
  have hl := hj.len
  have ih := zgo hj hr k (i + 1) (by omega)
  have hb : zb rec0 none j.val j.val true (i : Int) = (rec0 (j.elems[i]).val (j.elems[i]).val).bind fun v12 => some (.inl (v12, ((i + 1 : Nat) : Int))) := by
   unfold zb
   rw [qp, if_pos (by simpa using hi), if_pos (by omega)]
   simp only [Int.toNat_natCast, zcj hi, Option.bind_some, Wi (show i ≤ 4611686018427387904 by omega)]
   rw [if_pos (by omega)]
  unfold za at ih ⊢
  rcases hr _ (List.getElem_mem hi) with hc | ⟨hB, hc⟩
  ·rw [hc, Option.bind_some] at hb
   rw [xv hb]
   exact ih
  ·right
   rw [hc] at hb
   exact ⟨hB, kh hb⟩
theorem zgp {j : J} {rec0 : GJ → GJ → Option Bool} {B : Prop} (hj : j.ok) (hr : ∀ e ∈ j.elems, rec0 e.val e.val = some true ∨ (B ∧ rec0 e.val e.val = none)) :
 ze rec0 none j.val j.val = some true ∨ (B ∧ ze rec0 none j.val j.val = none) := by
 unfold ze
 rw [if_pos (by simp), show j.val.fA = j.names from rfl, zdq (by have := hj.len.2.2.1; omega), Option.bind_some]
 have e : ((((((j.val.fK == j.val.fK) && (j.val.fN == j.val.fN)) && (j.val.fT == j.val.fT)) && true) && (((j.val.fE.map z8).length : Int) == ((j.val.fE.map z8).length : Int)))) = true := by simp
 rw [e]
 exact zgo hj hr j.elems.length 0 (by omega)
theorem zno : ∀ (k : Nat) (j : J), j.ok → zj none k j.val j.val = some true ∨ (k < j.sz ∧ zj none k j.val j.val = none)
 | 0, j, hj => .inr ⟨Qu j, rfl⟩
 | k + 1, j, hj => by
  unfold zj
  exact zgp hj fun e he => by
   rcases zno k e (hj.elem he) with h | ⟨h1, h2⟩
   ·exact .inl h
   ·exact .inr ⟨by have := Ui he; omega, h2⟩
theorem zv5 {j : J} (hj : j.ok) : ya none j.val j.val = some true := Qh (d := j.sz) fun k => zno k j hj
def nullJ : J := .mk 0 0 [] [] []
theorem zm2 : nullJ.ok := by unfold J.ok nullJ; rw [J.sz.eq_1]; simp [nsz, J.szL]
def zvw (j : J) : Bool := decide (j.kind = 0 ∧ j.num = 0 ∧ j.text = [] ∧ j.names.length = 0 ∧ j.elems.length = 0)
def idx (a : List UInt8) : List (List UInt8) → Option Nat
 | [] => none
 | x :: r => if a = x then some 0 else (idx a r).map (· + 1)
def zl6 : Option Nat → Int
 | some q => (q : Int)
 | none => -1
theorem w7 {a : List UInt8} : ∀ {l : List (List UInt8)} {q : Nat}, idx a l = some q → ∃ h : q < l.length, l[q] = a
 | x :: r, q, h => by
  unfold idx at h
  split at h
  ·rename_i hx
   cases h
   exact ⟨by simp, hx.symm⟩
  ·cases hq : idx a r with
   | none => rw [hq] at h; cases h
   | some p =>
    rw [hq] at h
    cases h
    obtain ⟨h1, h2⟩ := w7 hq
    exact ⟨by simpa using h1, by simpa using h2⟩
theorem zcd {a : List UInt8} : ∀ {l : List (List UInt8)}, idx a l = none → a ∉ l
 | [], _ => by simp
 | x :: r, h => by
  unfold idx at h
  split at h
  ·cases h
  ·rename_i hx
   cases hq : idx a r with
   | none => simp [hx, zcd hq]
   | some p => rw [hq] at h; cases h
theorem z0u {a0 : List (List UInt8)} {a1 : List UInt8} (hl : a0.length ≤ 4611686018427387904) : ∀ (k i : Nat), i + k = a0.length →
 zr none a0 a1 (i : Int) = some (zl6 ((idx a1 (a0.drop i)).map (i + ·)))
 | 0, i, h => by
  have : i = a0.length := by omega
  subst this
  unfold zr
  rw [ye (x := some (-1)), List.drop_length]
  ·rfl
  unfold zl
  rw [if_neg (by simp)]
  rfl
 | k + 1, i, h => by
  have hi : i < a0.length := by omega
  have ih := z0u (a1 := a1) hl k (i + 1) (by omega)
  have hb : zl none a0 a1 (i : Int) = if (a1 == a0[i]) = true then some (.inr (i : Int)) else some (.inl ((i + 1 : Nat) : Int)) := by
   unfold zl
   rw [if_pos (by simpa using hi), if_pos (by simpa using hi)]
   simp only [Int.toNat_natCast, Z6 hi, Wi (show i ≤ 4611686018427387904 by omega)]
   rfl
  rw [List.drop_eq_getElem_cons hi, idx]
  unfold zr at ih ⊢
  by_cases hc : a1 = a0[i]
  ·rw [if_pos (by simpa using hc)] at hb
   rw [ye (x := some (i : Int)) hb, if_pos hc]
   rfl
  ·rw [if_neg (by simpa using hc)] at hb
   rw [xv hb, ih, if_neg hc, Option.map_map]
   congr 3
   funext q
   simp only [Function.comp]
   omega
theorem zfm {a0 : List (List UInt8)} {a1 : List UInt8} (hl : a0.length ≤ 4611686018427387904) : qi none a0 a1 = some (zl6 (idx a1 a0)) := by
 have := z0u (a1 := a1) hl a0.length 0 (by omega)
 rw [List.drop_zero] at this
 have e : (idx a1 a0).map (fun q => 0 + q) = idx a1 a0 := by cases idx a1 a0 <;> simp
 rw [e] at this
 exact this
theorem z5y {a0 : List (List UInt8)} {a1 : List UInt8} (hl : a0.length ≤ 4611686018427387904) : jc none a0 a1 = some (zl6 (idx a1 a0)) := zfm hl
def fnd (v : J) (a : List UInt8) : Option J := if v.kind = 5 then (idx a v.names).bind fun q => v.elems[q]? else none
def gm (v : J) (a : List UInt8) : J := (fnd v a).getD nullJ
theorem zr6 {v x : J} {a : List UInt8} (h : fnd v a = some x) : v.kind = 5 ∧ x ∈ v.elems ∧ a ∈ v.names := by
 unfold fnd at h
 split at h <;> try (cases h; done)
 rename_i hk
 cases hq : idx a v.names with
 | none => rw [hq] at h; cases h
 | some q =>
  rw [hq] at h
  obtain ⟨h1, h2⟩ := w7 hq
  exact ⟨hk, List.mem_of_getElem? h, by rw [← h2]; exact List.getElem_mem h1⟩
theorem zum {v : J} (hv : v.ok) (a : List UInt8) : (gm v a).ok := by
 unfold gm
 cases h : fnd v a with
 | none => exact zm2
 | some x => exact hv.elem (zr6 h).2.1
theorem z0n {j : J} {rec0 : GJ → Option GJ} {B : Prop} (hj : j.ok) (hr : ∀ e ∈ j.elems, rec0 e.val = some e.val ∨ (B ∧ rec0 e.val = none)) :
 qa rec0 none j.val = some j.val ∨ (B ∧ qa rec0 none j.val = none) := zdp hj hr
theorem z2i : ∀ (k : Nat) (j : J), j.ok → xz none k j.val = some j.val ∨ (k < j.sz ∧ xz none k j.val = none)
 | 0, j, hj => .inr ⟨Qu j, rfl⟩
 | k + 1, j, hj => by
  unfold xz
  exact z0n hj fun e he => by
   rcases z2i k e (hj.elem he) with h | ⟨h1, h2⟩
   ·exact .inl h
   ·exact .inr ⟨by have := Ui he; omega, h2⟩
theorem zjl {j : J} (hj : j.ok) : Y3 none j.val = some j.val := by
 rcases z0n (rec0 := vu none) (B := False) hj (fun e he => .inl (Qh (d := e.sz) fun k => z2i k e (hj.elem he))) with h | ⟨h, _⟩
 ·exact h
 ·exact h.elim
theorem zcu {v : J} (hv : v.ok) (a : List UInt8) : wi none v.val a = some ((gm v a).val, (fnd v a).isSome) := by
 have hl := hv.len
 unfold wi gm fnd
 rw [show v.val.fA = v.names from rfl, z5y (by omega), Option.bind_some, qp, show v.val.fK = v.kind from rfl]
 by_cases hk : v.kind = 5
 ·rw [if_pos hk]
  cases hq : idx a v.names with
  | none =>
   rw [if_pos (by simp [zl6])]
   rfl
  | some q =>
   by_cases hlt : q < v.elems.length
   ·rw [show zl6 (some q) = (q : Int) from rfl, if_neg (by rw [hk]; simp; omega), if_pos (by omega)]
    simp only [zl6, Int.toNat_natCast, zcj hlt, Option.bind_some, List.getElem?_eq_getElem hlt]
    rw [zjl (hv.elem (List.getElem_mem hlt))]
    rfl
   ·rw [show zl6 (some q) = (q : Int) from rfl, if_pos (by rw [hk]; simp; omega)]
    simp only [Option.bind_some]
    rw [List.getElem?_eq_none (by omega)]
    rfl
 ·rw [if_neg hk, if_pos (by simp [hk])]
  rfl
def cpt (k : Int) (ns : List (List UInt8)) (w : J) (i : Nat) : Option J :=
 if k ≠ 5 then w.elems[i]? else match ns[i]? with
  | none => none
  | some a => match idx a w.names with
   | none => none
   | some q => w.elems[q]?
mutual
def J.eqB : J → J → Bool
 | .mk k n t ns es, w => decide (k = w.kind ∧ n = w.num ∧ t = w.text ∧ es.length = w.elems.length ∧ ns.length = w.names.length) && J.eqL es k ns w 0
def J.eqL : List J → Int → List (List UInt8) → J → Nat → Bool
 | [], _, _, _, _ => true
 | e :: r, k, ns, w, i => (match cpt k ns w i with
  | some x => e.eqB x
  | none => false) && J.eqL r k ns w (i + 1)
end
theorem zps {k : Int} {ns : List (List UInt8)} {w x : J} {i : Nat} (h : cpt k ns w i = some x) : x ∈ w.elems := by
 unfold cpt at h
 split at h
 ·exact List.mem_of_getElem? h
 ·split at h <;> try (cases h; done)
  split at h <;> try (cases h; done)
  exact List.mem_of_getElem? h
theorem zrf {j w : J} (hj : j.ok) (hw : w.ok) (hlen : j.elems.length = w.elems.length) {i : Nat} (hi : i < j.elems.length) :
 ja none j.val w.val (i : Int) = some (((cpt j.kind j.names w i).getD nullJ).val, (cpt j.kind j.names w i).isSome) := by
 have hl := hj.len
 have hl2 := hw.len
 unfold ja cpt
 rw [qp, show j.val.fK = j.kind from rfl, show j.val.fA = j.names from rfl, show w.val.fA = w.names from rfl, List.length_map]
 have hiw : i < w.elems.length := by omega
 by_cases hk : j.kind = 5
 ·rw [if_neg (show ¬ ((j.kind != 5) = true) by simp [hk]), if_neg (show ¬ (j.kind ≠ 5) by simp [hk])]
  by_cases hn : i < j.names.length
  ·rw [if_neg (by simp; omega), if_pos (by omega), Int.toNat_natCast, Z6 hn, z5y (by omega), Option.bind_some, List.getElem?_eq_getElem hn]
   simp only
   cases hq : idx j.names[i] w.names with
   | none => rw [if_pos (by simp [zl6])]; rfl
   | some q =>
    rw [show zl6 (some q) = (q : Int) from rfl]
    by_cases hlt : q < w.elems.length
    ·rw [if_neg (by simp; omega), if_pos (by omega)]
     simp only [Int.toNat_natCast, zcj hlt, Option.bind_some, List.getElem?_eq_getElem hlt]
     rfl
    ·rw [if_pos (by simp; omega)]
     simp only
     rw [List.getElem?_eq_none (by omega)]
     rfl
  ·rw [if_pos (by simp; omega), List.getElem?_eq_none (by omega)]
   rfl
 ·rw [if_pos (by simpa using hk), if_pos hk, if_pos (by omega), List.getElem?_eq_getElem hiw]
  simp only [Int.toNat_natCast, zcj hiw, Option.bind_some]
  rfl
theorem ziu {j w : J} {rec4 : GJ → GJ → Option Bool} {B : Prop} (hj : j.ok) (hw : w.ok) (hlen : j.elems.length = w.elems.length)
 (hr : ∀ e ∈ j.elems, ∀ x ∈ w.elems, rec4 e.val x.val = some (e.eqB x) ∨ (B ∧ rec4 e.val x.val = none)) : ∀ (k i : Nat), i + k = j.elems.length →
  xq rec4 none j.val w.val (i : Int) = some (J.eqL (j.elems.drop i) j.kind j.names w i) ∨ (B ∧ xq rec4 none j.val w.val (i : Int) = none)
 | 0, i, h => by
  left
  have : i = j.elems.length := by omega
  subst this
  unfold xq
  rw [ye (x := some true), List.drop_length]
  ·rfl
  ·unfold qx
   rw [if_neg (by rw [qp]; simp)]
   rfl
 | k + 1, i, h => by
  have hi : i < j.elems.length := by omega
  have hl := hj.len
  have ih := ziu hj hw hlen hr k (i + 1) (by omega)
  have hb : qx rec4 none j.val w.val (i : Int) = (if ((!(cpt j.kind j.names w i).isSome) == false) = true then rec4 (j.elems[i]).val ((cpt j.kind j.names w i).getD nullJ).val else some default).bind fun v10 => if ((!(cpt j.kind j.names w i).isSome) || (!v10)) = true then some (.inr false) else some (.inl ((i + 1 : Nat) : Int)) := by
   unfold qx
   rw [qp, if_pos (by simpa using hi), if_pos (by omega)]
   simp only [Int.toNat_natCast, zcj hi, Option.bind_some, zrf hj hw hlen hi, Wi (show i ≤ 4611686018427387904 by omega)]
   rfl
  rw [List.drop_eq_getElem_cons hi, J.eqL]
  unfold xq at ih ⊢
  cases hx : cpt j.kind j.names w i with
  | none =>
   left
   rw [hx] at hb
   rw [ye (x := some false) hb]
   rfl
  | some x =>
   rw [hx] at hb
   simp only [Option.isSome_some, Bool.not_true, Option.getD_some, Bool.false_or] at hb
   rw [if_pos (by rfl)] at hb
   rcases hr _ (List.getElem_mem hi) x (zps hx) with hc | ⟨hB, hc⟩
   ·rw [hc, Option.bind_some] at hb
    cases hv : j.elems[i].eqB x with
    | true =>
     rw [hv, if_neg (by simp)] at hb
     rw [xv hb]
     simp only [hv, Bool.true_and]
     exact ih
    | false =>
     left
     rw [hv, if_pos (by rfl)] at hb
     rw [ye (x := some false) hb]
     simp only [hv, Bool.false_and]
   ·right
    rw [hc] at hb
    exact ⟨hB, kh hb⟩
theorem zf5 (j w : J) : j.eqB w = (decide (j.kind = w.kind ∧ j.num = w.num ∧ j.text = w.text ∧ j.elems.length = w.elems.length ∧ j.names.length = w.names.length) && J.eqL j.elems j.kind j.names w 0) := by
 cases j; rw [J.eqB]; rfl
theorem zij {j w : J} {rec4 : GJ → GJ → Option Bool} {B : Prop} (hj : j.ok) (hw : w.ok)
 (hr : ∀ e ∈ j.elems, ∀ x ∈ w.elems, rec4 e.val x.val = some (e.eqB x) ∨ (B ∧ rec4 e.val x.val = none)) :
 xa rec4 none j.val w.val = some (j.eqB w) ∨ (B ∧ xa rec4 none j.val w.val = none) := by
 unfold xa
 rw [zf5, qp, qp, show j.val.fK = j.kind from rfl, show j.val.fN = j.num from rfl, show j.val.fT = j.text from rfl, show j.val.fA = j.names from rfl, show w.val.fK = w.kind from rfl, show w.val.fN = w.num from rfl, show w.val.fT = w.text from rfl, show w.val.fA = w.names from rfl, List.length_map, List.length_map]
 by_cases hc : j.kind = w.kind ∧ j.num = w.num ∧ j.text = w.text ∧ j.elems.length = w.elems.length ∧ j.names.length = w.names.length
 ·rw [if_neg (by simp [hc.1, hc.2.1, hc.2.2.1, hc.2.2.2.1, hc.2.2.2.2]), decide_eq_true hc, Bool.true_and]
  exact ziu hj hw hc.2.2.2.1 hr j.elems.length 0 (by omega)
 ·left
  rw [decide_eq_false hc, Bool.false_and, if_pos]
  by_cases h1 : j.kind = w.kind
  ·by_cases h2 : j.num = w.num
   ·by_cases h3 : j.text = w.text
    ·by_cases h4 : j.elems.length = w.elems.length
     ·have h5 : j.names.length ≠ w.names.length := fun h => hc ⟨h1, h2, h3, h4, h⟩
      have : ((j.names.length : Int) != (w.names.length : Int)) = true := by rw [bne_iff_ne]; omega
      rw [this]; simp
     ·have : ((j.elems.length : Int) != (w.elems.length : Int)) = true := by rw [bne_iff_ne]; omega
      rw [this]; simp
    ·have : (!(j.text == w.text)) = true := by simpa using h3
     rw [this]; simp
   ·have : (j.num != w.num) = true := by simpa using h2
    rw [this]; simp
  ·have : (j.kind != w.kind) = true := by simpa using h1
   rw [this]; simp
theorem znh : ∀ (k : Nat) (j w : J), j.ok → w.ok → xy none k j.val w.val = some (j.eqB w) ∨ (k < j.sz ∧ xy none k j.val w.val = none)
 | 0, j, w, hj, hw => .inr ⟨Qu j, rfl⟩
 | k + 1, j, w, hj, hw => by
  unfold xy
  exact zij hj hw fun e he x hx => by
   rcases znh k e x (hj.elem he) (hw.elem hx) with h | ⟨h1, h2⟩
   ·exact .inl h
   ·exact .inr ⟨by have := Ui he; omega, h2⟩
theorem zjk {j w : J} (hj : j.ok) (hw : w.ok) : Zt none j.val w.val = some (j.eqB w) := by
 rcases zij (rec4 := vw none) (B := False) hj hw (fun e he x hx => .inl (Qh (d := e.sz) fun k => znh k e x (hj.elem he) (hw.elem hx))) with h | ⟨h, _⟩
 ·exact h
 ·exact h.elim
def eqv (v w : J) : Bool := decide (v.chk = 0) && decide (w.chk = 0) && v.eqB w
theorem zgb {v w : J} (hv : v.ok) (hw : w.ok) : wv none v.val w.val = some (eqv v w) := by
 unfold wv eqv
 rw [Ua hv, Ua hw, zjk hv hw, Option.bind_some]
 by_cases c1 : v.chk = 0
 ·rw [if_pos (by simp [c1]), Option.bind_some]
  by_cases c2 : w.chk = 0
  ·rw [if_pos (by simp [c1, c2]), Option.bind_some]; simp [c1, c2]
  ·rw [if_neg (by simp [c1, c2]), Option.bind_some]; simp [c1, c2]
 ·rw [if_neg (by simp [c1]), Option.bind_some, if_neg (by simp [c1]), Option.bind_some]; simp [c1]
theorem zll : ∀ {l l' : List (List UInt8)}, l.Nodup → (∀ x ∈ l, x ∈ l') → l.length ≤ l'.length
 | [], l', _, _ => Nat.zero_le _
 | a :: t, l', hn, hs => by
  obtain ⟨h1, h2⟩ := List.nodup_cons.1 hn
  have ha := hs a (by simp)
  have := zll (l' := l'.erase a) h2 (fun x hx => (List.mem_erase_of_ne (fun e : x = a => h1 (by rw [← e]; exact hx))).2 (hs x (List.mem_cons_of_mem _ hx)))
  rw [List.length_erase_of_mem ha] at this
  have := List.length_pos_of_mem ha
  simp only [List.length_cons]
  omega
theorem zos {l l' : List (List UInt8)} (hn : l.Nodup) (hs : ∀ x ∈ l, x ∈ l') (hl : l'.length ≤ l.length) : ∀ x ∈ l', x ∈ l := fun x hx => by
 refine Decidable.byContradiction fun hc => ?_
 have := zll (l := x :: l) (l' := l') (List.nodup_cons.2 ⟨hc, hn⟩) (fun y hy => by
  rcases List.mem_cons.1 hy with rfl | hy
  ·exact hx
  ·exact hs y hy)
 simp only [List.length_cons] at this
 omega
theorem zpp {a : List UInt8} {l : List (List UInt8)} (h : a ∈ l) : ∃ q, idx a l = some q := by
 cases hq : idx a l with
 | none => exact absurd h (zcd hq)
 | some q => exact ⟨q, rfl⟩
theorem znc {l : List (List UInt8)} (hn : l.Nodup) {i j : Nat} (hi : i < l.length) (hj : j < l.length) (h : l[i] = l[j]) : i = j := (List.getElem_inj hn).1 h
theorem zt6 {l : List (List UInt8)} (hn : l.Nodup) {i : Nat} (hi : i < l.length) : idx l[i] l = some i := by
 obtain ⟨q, hq⟩ := zpp (List.getElem_mem hi)
 obtain ⟨h1, h2⟩ := w7 hq
 rw [hq, znc hn h1 hi h2]
theorem znb : ∀ {l p : List (List UInt8)}, zef p l = false → (∀ x ∈ l, x ∉ p) ∧ l.Nodup
 | [], p, _ => ⟨fun x hx => (by cases hx), List.nodup_nil⟩
 | y :: r, p, h => by
  unfold zef at h
  rw [Bool.or_eq_false_iff] at h
  obtain ⟨h1, h2⟩ := znb h.2
  have hy : y ∉ p := by simpa using h.1
  refine ⟨fun x hx => ?_, List.nodup_cons.2 ⟨fun hc => (h1 y hc) (by simp), h2⟩⟩
  rcases List.mem_cons.1 hx with rfl | hx
  ·exact hy
  ·exact fun hc => h1 x hx (by simp [hc])
theorem zcl : ∀ {es : List J}, J.vdL es = 0 → ∀ e ∈ es, e.vd = 0
 | e :: r, h, x, hx => by
  unfold J.vdL at h
  by_cases he : e.vd = 0
  ·rw [if_neg (by simpa using he)] at h
   rcases List.mem_cons.1 hx with rfl | hx
   ·exact he
   ·exact zcl h x hx
  ·rw [if_pos he] at h; exact absurd h he
theorem V4 {v : J} (h : v.vd = 0) : (0 ≤ v.kind ∧ v.kind ≤ 5) ∧ v.wf = true ∧ ∀ e ∈ v.elems, e.vd = 0 := by
 rw [zcg] at h
 split at h
 ·omega
 ·split at h
  ·rename_i h1 h2
   exact ⟨by omega, h2, zcl h⟩
  ·omega
theorem Wf {v : J} (h : v.wf = true) : Jz v.kind v.num = true ∧ (v.text = [] ∨ v.kind = 3) ∧ (v.elems.length = 0 ∨ v.kind ≥ 4) ∧ (v.kind = 5 → v.names.length = v.elems.length ∧ v.names.Nodup) ∧ (v.kind ≠ 5 → v.names.length = 0) := by
 unfold J.wf wfB at h
 simp only [Bool.and_eq_true, Bool.or_eq_true, decide_eq_true_eq] at h
 obtain ⟨⟨⟨⟨h1, h2⟩, h3⟩, h4⟩, h5⟩ := h
 refine ⟨h1, ?_, h3, fun hk => ?_, fun hk => ?_⟩
 ·rcases h2 with h | ⟨h, _⟩
  ·exact .inl h
  ·exact .inr h
 ·rw [if_pos hk] at h4
  simp only [Bool.and_eq_true, decide_eq_true_eq, Bool.not_eq_true'] at h4
  exact ⟨h4.1, (znb h4.2).2⟩
 ·rw [if_neg hk] at h4
  simpa using h4
theorem zcf {v : J} (h : v.wf = true) (h1 : v.kind ≠ 1) (h2 : v.kind ≠ 2) : v.num = 0 := by
 have := (Wf h).1
 unfold Jz at this
 rw [decide_eq_true_eq] at this
 omega
theorem zez {k : Int} {ns : List (List UInt8)} {w : J} : ∀ {es : List J} {i : Nat}, J.eqL es k ns w i = true ↔ ∀ (q : Nat) (h : q < es.length), ∃ x, cpt k ns w (i + q) = some x ∧ es[q].eqB x = true
 | [], i => by simp [J.eqL]
 | e :: r, i => by
  rw [J.eqL, Bool.and_eq_true, zez (es := r) (i := i + 1)]
  constructor
  ·rintro ⟨h1, h2⟩ q hq
   cases q with
   | zero =>
    cases hx : cpt k ns w i with
    | none => rw [hx] at h1; cases h1
    | some x => rw [hx] at h1; exact ⟨x, rfl, h1⟩
   | succ q =>
    obtain ⟨x, hx1, hx2⟩ := h2 q (by simpa using hq)
    exact ⟨x, by rw [show i + (q + 1) = i + 1 + q by omega]; exact hx1, by simpa using hx2⟩
  ·intro h
   refine ⟨?_, fun q hq => ?_⟩
   ·obtain ⟨x, hx1, hx2⟩ := h 0 (by simp)
    rw [Nat.add_zero] at hx1
    rw [hx1]
    exact hx2
   ·obtain ⟨x, hx1, hx2⟩ := h (q + 1) (by simpa using hq)
    exact ⟨x, by rw [show i + 1 + q = i + (q + 1) by omega]; exact hx1, by simpa using hx2⟩
abbrev PJ := List UInt8 × J
def Vy (x : PJ) : List PJ → List PJ
 | [] => [x]
 | y :: r => if x.1 < y.1 then x :: y :: r else y :: Vy x r
theorem Wk {x y : PJ} : ∀ {l : List PJ}, y ∈ Vy x l ↔ y = x ∨ y ∈ l
 | [] => by simp [Vy]
 | z :: r => by
  unfold Vy
  split
  ·simp
  ·rw [List.mem_cons, Wk (l := r), List.mem_cons]
   constructor
   ·rintro (h | h | h)
    ·exact .inr (.inl h)
    ·exact .inl h
    ·exact .inr (.inr h)
   ·rintro (h | h | h)
    ·exact .inr (.inl h)
    ·exact .inl h
    ·exact .inr (.inr h)
theorem Zk {x : PJ} : ∀ {l : List PJ}, l.Pairwise (fun a b => a.1 < b.1) → (∀ y ∈ l, y.1 ≠ x.1) → (Vy x l).Pairwise (fun a b => a.1 < b.1)
 | [], _, _ => by simp [Vy]
 | z :: r, h, hn => by
  obtain ⟨h1, h2⟩ := List.pairwise_cons.1 h
  unfold Vy
  split
  ·rename_i hx
   refine List.pairwise_cons.2 ⟨fun y hy => ?_, h⟩
   rcases List.mem_cons.1 hy with rfl | hy
   ·exact hx
   ·exact List.lt_trans hx (h1 y hy)
  ·rename_i hx
   refine List.pairwise_cons.2 ⟨fun y hy => ?_, Zk h2 fun y hy => hn y (List.mem_cons_of_mem _ hy)⟩
   rcases Wk.1 hy with rfl | hy
   ·have hne := hn z (by simp)
    have hle : z.1 ≤ y.1 := List.not_lt.1 hx
    exact Std.lt_of_le_of_ne hle hne
   ·exact h1 y hy
def z0z (a l : List PJ) : List PJ := l.foldl (fun a x => Vy x a) a
theorem zc8 : ∀ (l a : List PJ), a.Pairwise (fun a b => a.1 < b.1) → ((l ++ a).map (·.1)).Nodup → (z0z a l).Pairwise (fun a b => a.1 < b.1) ∧ ∀ y, y ∈ z0z a l ↔ y ∈ l ∨ y ∈ a
 | [], a, ha, _ => ⟨ha, fun y => by simp [z0z]⟩
 | x :: r, a, ha, hn => by
  rw [List.cons_append, List.map_cons, List.nodup_cons] at hn
  have hx : ∀ y ∈ a, y.1 ≠ x.1 := fun y hy e => hn.1 (by rw [← e]; exact List.mem_map_of_mem (List.mem_append_right _ hy))
  have hn' : ((r ++ Vy x a).map (·.1)).Nodup := by
   rw [List.map_append, List.nodup_append] at hn ⊢
   obtain ⟨h0, h1, h2, h3⟩ := hn
   refine ⟨h1, ?_, ?_⟩
   ·have := Zk ha hx
    rw [List.Nodup, List.pairwise_map]
    exact this.imp fun h e => by rw [e] at h; exact List.lt_irrefl _ h
   ·intro u hu v hv e
    obtain ⟨z, hz, rfl⟩ := List.mem_map.1 hv
    rcases Wk.1 hz with rfl | hz
    ·exact h0 (by rw [← e]; exact List.mem_append_left _ hu)
    ·exact h3 u hu _ (List.mem_map_of_mem hz) e
  obtain ⟨h1, h2⟩ := zc8 r (Vy x a) (Zk ha hx) hn'
  refine ⟨h1, fun y => ?_⟩
  show y ∈ z0z (Vy x a) r ↔ _
  rw [h2, Wk, List.mem_cons]
  constructor
  ·rintro (h | h | h)
   ·exact .inl (.inr h)
   ·exact .inl (.inl h)
   ·exact .inr h
  ·rintro ((h | h) | h)
   ·exact .inr (.inl h)
   ·exact .inl h
   ·exact .inr (.inr h)
theorem z1z : ∀ {l l' : List PJ}, l.Pairwise (fun a b => a.1 < b.1) → l'.Pairwise (fun a b => a.1 < b.1) → (∀ x, x ∈ l ↔ x ∈ l') → l = l'
 | [], [], _, _, _ => rfl
 | [], y :: r, _, _, h => absurd ((h y).2 (by simp)) (by simp)
 | x :: r, [], _, _, h => absurd ((h x).1 (by simp)) (by simp)
 | x :: r, y :: s, h1, h2, h => by
  obtain ⟨a1, a2⟩ := List.pairwise_cons.1 h1
  obtain ⟨b1, b2⟩ := List.pairwise_cons.1 h2
  have e : x = y := by
   rcases List.mem_cons.1 ((h x).1 (by simp)) with e | hx
   ·exact e
   ·rcases List.mem_cons.1 ((h y).2 (by simp)) with e | hy
    ·exact e.symm
    ·exact absurd (List.lt_trans (b1 x hx) (a1 y hy)) (List.lt_irrefl _)
  subst e
  rw [z1z a2 b2 fun z => ?_]
  constructor
  ·intro hz
   rcases List.mem_cons.1 ((h z).1 (List.mem_cons_of_mem _ hz)) with rfl | hz'
   ·exact absurd (a1 _ hz) (List.lt_irrefl _)
   ·exact hz'
  ·intro hz
   rcases List.mem_cons.1 ((h z).2 (List.mem_cons_of_mem _ hz)) with rfl | hz'
   ·exact absurd (b1 _ hz) (List.lt_irrefl _)
   ·exact hz'
mutual
def J.srt : J → J
 | .mk k n t ns es => if k = 5 then .mk k n t ((z0z [] (List.zip ns (J.srtL es))).map (·.1)) ((z0z [] (List.zip ns (J.srtL es))).map (·.2)) else .mk k n t [] (J.srtL es)
def J.srtL : List J → List J
 | [] => []
 | e :: r => e.srt :: J.srtL r
end
theorem zcb : ∀ es : List J, J.srtL es = es.map J.srt
 | [] => rfl
 | e :: r => by rw [J.srtL, zcb r]; rfl
theorem z43 (j : J) : j.srt = if j.kind = 5 then .mk j.kind j.num j.text ((z0z [] (List.zip j.names (j.elems.map J.srt))).map (·.1)) ((z0z [] (List.zip j.names (j.elems.map J.srt))).map (·.2)) else .mk j.kind j.num j.text [] (j.elems.map J.srt) := by
 cases j; rw [J.srt, zcb]; rfl
theorem zn6 : ∀ {l l' : List PJ}, l.map (·.1) = l'.map (·.1) → l.map (·.2) = l'.map (·.2) → l = l'
 | [], [], _, _ => rfl
 | [], y :: r, h, _ => by cases h
 | x :: r, [], h, _ => by cases h
 | (a, b) :: r, (c, d) :: s, h1, h2 => by
  simp only [List.map_cons, List.cons.injEq] at h1 h2
  rw [h1.1, h2.1, zn6 h1.2 h2.2]
theorem ziw {ns : List (List UInt8)} {es : List J} (hl : ns.length = es.length) {y : PJ} : y ∈ List.zip ns es ↔ ∃ i, ∃ h : i < ns.length, y = (ns[i], es[i]) := by
 constructor
 ·intro h
  obtain ⟨i, hi, rfl⟩ := List.getElem_of_mem h
  simp only [List.length_zip] at hi
  exact ⟨i, by omega, by rw [List.getElem_zip]⟩
 ·rintro ⟨i, h, rfl⟩
  have hi : i < (List.zip ns es).length := by rw [List.length_zip]; omega
  have : (List.zip ns es)[i] = (ns[i], es[i]) := List.getElem_zip
  rw [← this]
  exact List.getElem_mem hi
theorem z3n {ns : List (List UInt8)} {es : List J} (hl : ns.length = es.length) : (List.zip ns es).map (·.1) = ns := List.map_fst_zip (by omega)
theorem zbn (l : List PJ) (hn : (l.map (·.1)).Nodup) : (z0z [] l).Pairwise (fun a b => a.1 < b.1) ∧ ∀ y, y ∈ z0z [] l ↔ y ∈ l := by
 obtain ⟨h1, h2⟩ := zc8 l [] List.Pairwise.nil (by simpa using hn)
 exact ⟨h1, fun y => by rw [h2]; simp⟩
theorem znn : ∀ (N : Nat) (a b : J), a.sz ≤ N → a.vd = 0 → b.vd = 0 → (a.srt = b.srt ↔ a.eqB b = true)
 | 0, a, b, hs, _, _ => by have := Qu a; omega
 | N + 1, a, b, hs, ha, hb => by
  obtain ⟨a1, a2, a3⟩ := V4 ha
  obtain ⟨b1, b2, b3⟩ := V4 hb
  obtain ⟨_, a5, a6, a7, a8⟩ := Wf a2
  obtain ⟨_, b5, b6, b7, b8⟩ := Wf b2
  have ih : ∀ (x y : J), x ∈ a.elems → y ∈ b.elems → (x.srt = y.srt ↔ x.eqB y = true) := fun x y hx hy => znn N x y (by have := Ui hx; omega) (a3 x hx) (b3 y hy)
  rw [zf5, Bool.and_eq_true, decide_eq_true_eq, zez, z43 a, z43 b]
  by_cases hk : a.kind = 5
  ·rw [if_pos hk]
   obtain ⟨a9, a10⟩ := a7 hk
   by_cases hk' : b.kind = 5
   ·rw [if_pos hk']
    obtain ⟨b9, b10⟩ := b7 hk'
    have la : a.names.length = (a.elems.map J.srt).length := by rw [List.length_map]; exact a9
    have lb : b.names.length = (b.elems.map J.srt).length := by rw [List.length_map]; exact b9
    obtain ⟨p1, p2⟩ := zbn (List.zip a.names (a.elems.map J.srt)) (by rw [z3n la]; exact a10)
    obtain ⟨q1, q2⟩ := zbn (List.zip b.names (b.elems.map J.srt)) (by rw [z3n lb]; exact b10)
    have ma : ∀ y, y ∈ z0z [] (List.zip a.names (a.elems.map J.srt)) ↔ ∃ i, ∃ (h : i < a.names.length) (h' : i < a.elems.length), y = (a.names[i], a.elems[i].srt) := fun y => by
     rw [p2, ziw la]
     constructor
     ·rintro ⟨i, h, rfl⟩; exact ⟨i, h, by omega, by rw [List.getElem_map]⟩
     ·rintro ⟨i, h, h', rfl⟩; exact ⟨i, h, by rw [List.getElem_map]⟩
    have mb : ∀ y, y ∈ z0z [] (List.zip b.names (b.elems.map J.srt)) ↔ ∃ i, ∃ (h : i < b.names.length) (h' : i < b.elems.length), y = (b.names[i], b.elems[i].srt) := fun y => by
     rw [q2, ziw lb]
     constructor
     ·rintro ⟨i, h, rfl⟩; exact ⟨i, h, by omega, by rw [List.getElem_map]⟩
     ·rintro ⟨i, h, h', rfl⟩; exact ⟨i, h, by rw [List.getElem_map]⟩
    have num0 : a.num = b.num := by rw [zcf a2 (by omega) (by omega), zcf b2 (by omega) (by omega)]
    have txt0 : a.text = b.text := by
     rcases a5 with h | h
     ·rcases b5 with h' | h'
      ·rw [h, h']
      ·omega
     ·omega
    constructor
    ·intro h
     simp only [J.mk.injEq] at h
     have hp := zn6 h.2.2.2.1 h.2.2.2.2
     have sub : ∀ x ∈ a.names, x ∈ b.names := fun x hx => by
      obtain ⟨i, hi, rfl⟩ := List.getElem_of_mem hx
      have := (ma (a.names[i], a.elems[i].srt)).2 ⟨i, hi, by omega, rfl⟩
      rw [hp, mb] at this
      obtain ⟨j, hj, hj', e⟩ := this
      rw [(Prod.mk.inj e).1]
      exact List.getElem_mem hj
     have sub' : ∀ x ∈ b.names, x ∈ a.names := fun x hx => by
      obtain ⟨i, hi, rfl⟩ := List.getElem_of_mem hx
      have := (mb (b.names[i], b.elems[i].srt)).2 ⟨i, hi, by omega, rfl⟩
      rw [← hp, ma] at this
      obtain ⟨j, hj, hj', e⟩ := this
      rw [(Prod.mk.inj e).1]
      exact List.getElem_mem hj
     have hlen : a.names.length = b.names.length := Nat.le_antisymm (zll a10 sub) (zll b10 sub')
     refine ⟨⟨by omega, num0, txt0, by omega, hlen⟩, fun i hi => ?_⟩
     have hin : i < a.names.length := by omega
     have := (ma (a.names[i], a.elems[i].srt)).2 ⟨i, hin, hi, rfl⟩
     rw [hp, mb] at this
     obtain ⟨j, hj, hj', e⟩ := this
     obtain ⟨e1, e2⟩ := Prod.mk.inj e
     refine ⟨b.elems[j], ?_, (ih _ _ (List.getElem_mem hi) (List.getElem_mem hj')).1 e2⟩
     rw [Nat.zero_add, hk]
     unfold cpt
     rw [if_neg (by simp), List.getElem?_eq_getElem hin]
     simp only
     rw [e1, zt6 b10 hj]
     exact List.getElem?_eq_getElem hj'
    ·rintro ⟨⟨_, _, _, hle, hln⟩, hall⟩
     have key : ∀ i (hi : i < a.names.length) (hi' : i < a.elems.length), ∃ j, ∃ (h : j < b.names.length) (h' : j < b.elems.length), a.names[i] = b.names[j] ∧ a.elems[i].srt = b.elems[j].srt := fun i hi hi' => by
      obtain ⟨x, hx1, hx2⟩ := hall i hi'
      rw [Nat.zero_add, hk] at hx1
      unfold cpt at hx1
      rw [if_neg (by simp), List.getElem?_eq_getElem hi] at hx1
      simp only at hx1
      cases hq : idx a.names[i] b.names with
      | none => rw [hq] at hx1; cases hx1
      | some j =>
       rw [hq] at hx1
       obtain ⟨h1, h2⟩ := w7 hq
       have hx1 : b.elems[j]? = some x := hx1
       obtain ⟨h3, rfl⟩ := List.getElem?_eq_some_iff.1 hx1
       exact ⟨j, h1, h3, h2.symm, (ih _ _ (List.getElem_mem hi') (List.getElem_mem h3)).2 hx2⟩
     have hp : z0z [] (List.zip a.names (a.elems.map J.srt)) = z0z [] (List.zip b.names (b.elems.map J.srt)) := by
      refine z1z p1 q1 fun y => ?_
      rw [ma, mb]
      constructor
      ·rintro ⟨i, hi, hi', rfl⟩
       obtain ⟨j, h1, h2, e1, e2⟩ := key i hi hi'
       exact ⟨j, h1, h2, by rw [e1, e2]⟩
      ·rintro ⟨j, hj, hj', rfl⟩
       have hsub := zos a10 (l' := b.names) (fun x hx => by
        obtain ⟨i, hi, rfl⟩ := List.getElem_of_mem hx
        obtain ⟨j', h1, h2, e1, e2⟩ := key i hi (by omega)
        rw [e1]; exact List.getElem_mem h1) (by omega) b.names[j] (List.getElem_mem hj)
       obtain ⟨i, hi, hie⟩ := List.getElem_of_mem hsub
       obtain ⟨j', h1, h2, e1, e2⟩ := key i hi (by omega)
       have : j' = j := znc b10 h1 hj (by rw [← e1, hie])
       subst this
       exact ⟨i, hi, by omega, by rw [e1, e2]⟩
     rw [hp, num0, txt0, hk, hk']
   ·rw [if_neg hk']
    constructor
    ·intro h; simp only [J.mk.injEq] at h; exact absurd (by omega) hk'
    ·rintro ⟨⟨h, _⟩, _⟩; exact absurd (by omega) hk'
  ·rw [if_neg hk]
   by_cases hk' : b.kind = 5
   ·rw [if_pos hk']
    constructor
    ·intro h; simp only [J.mk.injEq] at h; exact absurd (by omega) hk
    ·rintro ⟨⟨h, _⟩, _⟩; exact absurd (by omega) hk
   ·rw [if_neg hk']
    constructor
    ·intro h
     simp only [J.mk.injEq, true_and] at h
     obtain ⟨h1, h2, h3, h4⟩ := h
     have hle : a.elems.length = b.elems.length := by have := congrArg List.length h4; simpa using this
     refine ⟨⟨h1, h2, h3, hle, by rw [a8 hk, b8 hk']⟩, fun i hi => ?_⟩
     have hi' : i < b.elems.length := by omega
     refine ⟨b.elems[i], ?_, (ih _ _ (List.getElem_mem hi) (List.getElem_mem hi')).1 ?_⟩
     ·rw [Nat.zero_add]; unfold cpt; rw [if_pos hk]; exact List.getElem?_eq_getElem hi'
     ·have := congrArg (·[i]?) h4
      simpa [hi, hi'] using this
    ·rintro ⟨⟨h1, h2, h3, hle, _⟩, hall⟩
     have : a.elems.map J.srt = b.elems.map J.srt := by
      refine List.ext_getElem (by simpa using hle) fun i hi hi' => ?_
      rw [List.length_map] at hi hi'
      obtain ⟨x, hx1, hx2⟩ := hall i hi
      rw [Nat.zero_add] at hx1
      unfold cpt at hx1
      rw [if_pos hk] at hx1
      rw [List.getElem?_eq_getElem hi'] at hx1
      cases hx1
      rw [List.getElem_map, List.getElem_map]
      exact (ih _ _ (List.getElem_mem hi) (List.getElem_mem hi')).2 hx2
     rw [this, h1, h2, h3]
theorem z0i {a b : List (List UInt8)} (hl : a.length ≤ 4611686018427387904) (he : a.length = b.length) : ∀ (k i : Nat), i + k = a.length → zu none a b (i : Int) = some (decide (a.drop i = b.drop i))
 | 0, i, h => by
  have : i = a.length := by omega
  subst this
  unfold zu
  rw [ye (x := some true), List.drop_length, he, List.drop_length]
  ·rfl
  unfold zk
  rw [if_neg (by simp)]
  rfl
 | k + 1, i, h => by
  have hi : i < a.length := by omega
  have hi' : i < b.length := by omega
  have ih := z0i hl he k (i + 1) (by omega)
  have hb : zk none a b (i : Int) = if a[i] = b[i] then some (.inl ((i + 1 : Nat) : Int)) else some (.inr false) := by
   unfold zk
   rw [if_pos (by simpa using hi), if_pos (by simpa using hi), if_pos (by simpa using hi')]
   simp only [Int.toNat_natCast, Z6 hi, Z6 hi', Wi (show i ≤ 4611686018427387904 by omega)]
   by_cases hc : a[i] = b[i]
   ·rw [if_neg (by simp [hc]), if_pos hc]
   ·rw [if_pos (by simpa using hc), if_neg hc]; rfl
  rw [List.drop_eq_getElem_cons hi, List.drop_eq_getElem_cons hi']
  unfold zu at ih ⊢
  by_cases hc : a[i] = b[i]
  ·rw [if_pos hc] at hb
   rw [xv hb, ih]
   simp only [List.cons.injEq, hc, true_and]
  ·rw [if_neg hc] at hb
   rw [ye (x := some false) hb]
   simp only [List.cons.injEq, hc, false_and, decide_false]
theorem ztv {a b : List (List UInt8)} (hl : a.length ≤ 4611686018427387904) : yf none a b = some (decide (a = b)) := by
 unfold yf
 by_cases he : a.length = b.length
 ·rw [if_neg (by simp [he])]
  have := z0i hl he a.length 0 (by omega)
  rw [List.drop_zero, List.drop_zero] at this
  exact this
 ·rw [if_pos (by simp; omega), decide_eq_false (fun h => he (by rw [h]))]
mutual
def J.sm : J → J → Bool
 | .mk k n t ns es, w => decide (k = w.kind ∧ n = w.num ∧ t = w.text ∧ ns = w.names ∧ es.length = w.elems.length) && J.smL es w.elems
def J.smL : List J → List J → Bool
 | e :: r, x :: s => e.sm x && J.smL r s
 | _, _ => true
end
mutual
theorem znq : ∀ a b : J, a.sm b = true ↔ a = b
 | .mk k n t ns es, .mk k' n' t' ns' es' => by
  rw [J.sm, Bool.and_eq_true, decide_eq_true_eq]
  simp only [J.kind, J.num, J.text, J.names, J.elems, J.mk.injEq]
  constructor
  ·rintro ⟨⟨h1, h2, h3, h4, h5⟩, h6⟩; exact ⟨h1, h2, h3, h4, (za5 es es' h5).1 h6⟩
  ·rintro ⟨h1, h2, h3, h4, h5⟩; exact ⟨⟨h1, h2, h3, h4, by rw [h5]⟩, (za5 es es' (by rw [h5])).2 h5⟩
theorem za5 : ∀ a b : List J, a.length = b.length → (J.smL a b = true ↔ a = b)
 | [], [], _ => by simp [J.smL]
 | [], y :: s, h => by simp at h
 | x :: r, [], h => by simp at h
 | x :: r, y :: s, h => by
  rw [J.smL, Bool.and_eq_true, znq x y, za5 r s (by simpa using h), List.cons.injEq]
end
theorem zt8 (j w : J) : j.sm w = (decide (j.kind = w.kind ∧ j.num = w.num ∧ j.text = w.text ∧ j.names = w.names ∧ j.elems.length = w.elems.length) && J.smL j.elems w.elems) := by
 cases j; rw [J.sm]; rfl
theorem zb5 {j w : J} {rec0 : GJ → GJ → Option Bool} {B : Prop} (hj : j.ok) (hlen : j.elems.length = w.elems.length) (hr : ∀ e ∈ j.elems, ∀ x ∈ w.elems, rec0 e.val x.val = some (e.sm x) ∨ (B ∧ rec0 e.val x.val = none)) :
 ∀ (k i : Nat) (v : Bool), i + k = j.elems.length →
  za rec0 none j.val w.val v (i : Int) = some (v && J.smL (j.elems.drop i) (w.elems.drop i)) ∨ (B ∧ za rec0 none j.val w.val v (i : Int) = none)
 | k, i, false, h => by
  left
  unfold za
  rw [ye (x := some false)]
  ·rfl
  unfold zb zp
  rw [if_neg (by simp)]
  first | rfl | done
 | 0, i, true, h => by
  left
  have : i = j.elems.length := by omega
  subst this
  unfold za
  rw [ye (x := some true), List.drop_length]
  ·simp [J.smL]
  unfold zb zp
  rw [qp, if_neg (by simp)]
  first | rfl | done
 | k + 1, i, true, h => by
  have hi : i < j.elems.length := by omega
  have hi' : i < w.elems.length := by omega
  have hl := hj.len
  have hb : zb rec0 none j.val w.val true (i : Int) = (rec0 (j.elems[i]).val (w.elems[i]).val).bind fun v12 => some (.inl (v12, ((i + 1 : Nat) : Int))) := by
   unfold zb
   rw [qp, qp, if_pos (by simpa using hi), if_pos (by omega)]
   simp only [Int.toNat_natCast, zcj hi, zcj hi', Option.bind_some, Wi (show i ≤ 4611686018427387904 by omega)]
   rw [if_pos (by omega)]
  rw [List.drop_eq_getElem_cons hi, List.drop_eq_getElem_cons hi', J.smL]
  rcases hr _ (List.getElem_mem hi) _ (List.getElem_mem hi') with hc | ⟨hB, hc⟩
  ·rw [hc, Option.bind_some] at hb
   have ih := zb5 hj hlen hr k (i + 1) (j.elems[i].sm w.elems[i]) (by omega)
   unfold za at ih ⊢
   rw [xv hb]
   exact ih
  ·right
   rw [hc] at hb
   unfold za
   exact ⟨hB, kh hb⟩
theorem zmn {j w : J} {rec0 : GJ → GJ → Option Bool} {B : Prop} (hj : j.ok) (hr : ∀ e ∈ j.elems, ∀ x ∈ w.elems, rec0 e.val x.val = some (e.sm x) ∨ (B ∧ rec0 e.val x.val = none)) :
 ze rec0 none j.val w.val = some (j.sm w) ∨ (B ∧ ze rec0 none j.val w.val = none) := by
 have hl := hj.len
 unfold ze
 rw [qp, qp, show j.val.fK = j.kind from rfl, show j.val.fN = j.num from rfl, show j.val.fT = j.text from rfl, show j.val.fA = j.names from rfl, show w.val.fK = w.kind from rfl, show w.val.fN = w.num from rfl, show w.val.fT = w.text from rfl, show w.val.fA = w.names from rfl, ztv (by omega)]
 have hv : ∃ v1, (if ((((j.kind == w.kind) && (j.num == w.num)) && (j.text == w.text)) == true) = true then some (decide (j.names = w.names)) else some default) = some v1 ∧
  (((((j.kind == w.kind) && (j.num == w.num)) && (j.text == w.text)) && v1) && (((j.elems.length : Nat) : Int) == ((w.elems.length : Nat) : Int))) = decide (j.kind = w.kind ∧ j.num = w.num ∧ j.text = w.text ∧ j.names = w.names ∧ j.elems.length = w.elems.length) := by
  by_cases hc : j.kind = w.kind ∧ j.num = w.num ∧ j.text = w.text
  ·refine ⟨_, by rw [if_pos (by simp [hc.1, hc.2.1, hc.2.2])], ?_⟩
   rw [Bool.eq_iff_iff]
   simp only [Bool.and_eq_true, beq_iff_eq, decide_eq_true_eq]
   constructor
   ·rintro ⟨⟨⟨⟨h1, h2⟩, h3⟩, h4⟩, h5⟩; exact ⟨h1, h2, h3, h4, by omega⟩
   ·rintro ⟨h1, h2, h3, h4, h5⟩; exact ⟨⟨⟨⟨h1, h2⟩, h3⟩, h4⟩, by omega⟩
  ·have hx : (((j.kind == w.kind) && (j.num == w.num)) && (j.text == w.text)) = false := by
    cases hx : (((j.kind == w.kind) && (j.num == w.num)) && (j.text == w.text)) with
    | false => rfl
    | true =>
     simp only [Bool.and_eq_true, beq_iff_eq] at hx
     exact absurd ⟨hx.1.1, hx.1.2, hx.2⟩ hc
   refine ⟨default, by rw [hx]; rfl, ?_⟩
   rw [hx, eq_comm, Bool.false_and, Bool.false_and, decide_eq_false_iff_not]
   exact fun h => hc ⟨h.1, h.2.1, h.2.2.1⟩
 obtain ⟨v1, h1, h2⟩ := hv
 rw [h1, Option.bind_some, h2, zt8]
 by_cases hlen : j.elems.length = w.elems.length
 ·exact zb5 hj hlen hr j.elems.length 0 _ (by omega)
 ·left
  rw [decide_eq_false (fun h => hlen h.2.2.2.2), Bool.false_and]
  unfold za
  rw [ye (x := some false)]
  unfold zb zp
  rw [if_neg (by simp)]
  first | rfl | done
theorem zg2 : ∀ (k : Nat) (j w : J), j.ok → zj none k j.val w.val = some (j.sm w) ∨ (k < j.sz ∧ zj none k j.val w.val = none)
 | 0, j, w, hj => .inr ⟨Qu j, rfl⟩
 | k + 1, j, w, hj => by
  unfold zj
  exact zmn hj fun e he x hx => by
   rcases zg2 k e x (hj.elem he) with h | ⟨h1, h2⟩
   ·exact .inl h
   ·exact .inr ⟨by have := Ui he; omega, h2⟩
theorem zti {j w : J} (hj : j.ok) : ya none j.val w.val = some (j.sm w) := Qh (d := j.sz) fun k => zg2 k j w hj
theorem zhq {x : PJ} : ∀ {l1 l2 : List PJ}, (∀ y ∈ l1, ¬ x.1 < y.1) → (∀ y ∈ l2, x.1 < y.1) → Vy x (l1 ++ l2) = l1 ++ x :: l2
 | [], [], _, _ => rfl
 | [], z :: r, _, h => by
  rw [List.nil_append, Vy, if_pos (h z (by simp))]; rfl
 | y :: r, l2, h1, h2 => by
  rw [List.cons_append, Vy, if_neg (h1 y (by simp)), zhq (fun z hz => h1 z (List.mem_cons_of_mem _ hz)) h2]; rfl
def zdu (ns : List (List UInt8)) (n : List UInt8) : Nat → Nat
 | 0 => 0
 | k + 1 => if n < ns.getD k default then zdu ns n k else k + 1
theorem z8h (ns : List (List UInt8)) (n : List UInt8) : ∀ k, zdu ns n k ≤ k
 | 0 => Nat.le_refl _
 | k + 1 => by
  unfold zdu
  split
  ·have := z8h ns n k; omega
  ·omega
theorem zen {ns : List (List UInt8)} {n : List UInt8} : ∀ k, ∀ q, zdu ns n k ≤ q → q < k → n < ns.getD q default
 | 0, q, _, h => by omega
 | k + 1, q, h, h' => by
  unfold zdu at h
  split at h
  ·rename_i hc
   by_cases hq : q = k
   ·rw [hq]; exact hc
   ·exact zen k q h (by omega)
  ·omega
theorem zhd {ns : List (List UInt8)} {n : List UInt8} : ∀ k, zdu ns n k = 0 ∨ ¬ n < ns.getD (zdu ns n k - 1) default
 | 0 => .inl rfl
 | k + 1 => by
  unfold zdu
  split
  ·exact zhd k
  ·rename_i hc; right; simpa using hc
theorem zp3 {x : PJ} {P : List PJ} (hP : P.Pairwise (fun a b => a.1 < b.1)) : Vy x P = P.take (zdu (P.map (·.1)) x.1 P.length) ++ x :: P.drop (zdu (P.map (·.1)) x.1 P.length) := by
 have hg : ∀ q (h : q < P.length), (P.map (·.1)).getD q default = (P[q]).1 := fun q h => by simp [List.getD_eq_getElem?_getD, h]
 have hle := z8h (P.map (·.1)) x.1 P.length
 have hlo := zhd (ns := P.map (·.1)) (n := x.1) P.length
 have hhi := zen (ns := P.map (·.1)) (n := x.1) P.length
 generalize zdu (P.map (·.1)) x.1 P.length = p at hle hlo hhi
 conv => lhs; rw [← List.take_append_drop p P]
 refine zhq (fun y hy => ?_) (fun y hy => ?_)
 ·obtain ⟨q, hq, rfl⟩ := List.getElem_of_mem hy
  rw [List.length_take] at hq
  rw [List.getElem_take]
  rcases hlo with h0 | h0
  ·omega
  ·rw [hg (p - 1) (by omega)] at h0
   intro hlt
   by_cases hqe : q = p - 1
   ·subst hqe; exact h0 hlt
   ·exact h0 (List.lt_trans hlt (List.pairwise_iff_getElem.1 hP q (p - 1) (by omega) (by omega) (by omega)))
 ·obtain ⟨q, hq, rfl⟩ := List.getElem_of_mem hy
  rw [List.length_drop] at hq
  rw [List.getElem_drop, ← hg (p + q) (by omega)]
  exact hhi (p + q) (by omega) (by omega)
theorem zmv {x : PJ} {r a : List PJ} (ha : a.Pairwise (fun a b => a.1 < b.1)) (hn : ((x :: r ++ a).map (·.1)).Nodup) : (Vy x a).Pairwise (fun a b => a.1 < b.1) ∧ ((r ++ Vy x a).map (·.1)).Nodup := by
 rw [List.cons_append, List.map_cons, List.nodup_cons] at hn
 have hx : ∀ y ∈ a, y.1 ≠ x.1 := fun y hy e => hn.1 (by rw [← e]; exact List.mem_map_of_mem (List.mem_append_right _ hy))
 refine ⟨Zk ha hx, ?_⟩
 rw [List.map_append, List.nodup_append] at hn ⊢
 obtain ⟨h0, h1, h2, h3⟩ := hn
 refine ⟨h1, ?_, ?_⟩
 ·have := Zk ha hx
  rw [List.Nodup, List.pairwise_map]
  exact this.imp fun h e => by rw [e] at h; exact List.lt_irrefl _ h
 ·intro u hu v hv e
  obtain ⟨z, hz, rfl⟩ := List.mem_map.1 hv
  rcases Wk.1 hz with rfl | hz
  ·exact h0 (by rw [← e]; exact List.mem_append_left _ hu)
  ·exact h3 u hu _ (List.mem_map_of_mem hz) e
theorem zcn (x : PJ) : ∀ l : List PJ, (Vy x l).length = l.length + 1
 | [] => rfl
 | y :: r => by
  unfold Vy
  split
  ·rfl
  ·rw [List.length_cons, zcn x r]; rfl
def esR (P : List PJ) : List (List AVal) := P.map fun y => y.2.raw
theorem zsd {j e : J} {rec7 : GJ → Option GJ} {P : List PJ} {i p : Nat} {v18 : List (List UInt8)} (hP : P.length ≤ 1073741824) (hi : i ≤ 1073741824) (hp : p ≤ P.length) :
 y3 rec7 none j.val (i : Int) (esR P) e.val (p : Int) v18 = some (.inl (((i + 1 : Nat) : Int), v18, (esR P).take p ++ ([e.raw] ++ (esR P).drop p))) := by
 have hl : ((esR P).map z8).length = P.length := by simp [esR]
 have hd : (([e.raw] ++ (esR P).drop p).map z8).length ≤ P.length + 1 := by simp [esR] <;> omega
 have ht : (((esR P).take p ++ ([e.raw] ++ (esR P).drop p)).map z8).length ≤ P.length + 1 := by simp [esR] <;> omega
 unfold y3 xi
 rw [hl, ← z3c, if_pos (by omega), if_pos (by omega), Int.toNat_natCast, if_pos (by omega), if_pos (by simp), if_pos (by omega), Wi (by omega)]
theorem zuh {j e : J} {rec7 : GJ → Option GJ} {P : List PJ} {i p : Nat} (hP : P.length ≤ 1073741824) (hi : i < j.names.length) (hin : i ≤ 1073741824) (hp : p ≤ P.length) :
 y1 rec7 none j.val (i : Int) (P.map (·.1)) (esR P) e.val (p : Int) = some (.inl (((i + 1 : Nat) : Int), (P.map (·.1)).take p ++ ([j.names[i]] ++ (P.map (·.1)).drop p), (esR P).take p ++ ([e.raw] ++ (esR P).drop p))) := by
 have hl : ((P.map (·.1)).map z7).length = P.length := by simp
 have hd : (([j.names[i]] ++ (P.map (·.1)).drop p).map z7).length ≤ P.length + 1 := by simp <;> omega
 have ht : (((P.map (·.1)).take p ++ ([j.names[i]] ++ (P.map (·.1)).drop p)).map z7).length ≤ P.length + 1 := by simp <;> omega
 unfold y1
 rw [show j.val.fA = j.names from rfl, hl, Int.toNat_natCast, Z6 hi, if_pos (by omega), if_pos (by rw [List.length_map]; omega), if_pos (by omega), Int.toNat_natCast, if_pos (by omega), if_pos (by simp), if_pos (by omega)]
 exact zsd hP hin hp
theorem zs1 {j e : J} {rec7 : GJ → Option GJ} {P : List PJ} {i : Nat} (hP : P.length ≤ 1073741824) (hi : i < j.names.length) (hin : i ≤ 1073741824) : ∀ (k : Nat), k ≤ P.length →
 yj rec7 none j.val (i : Int) (P.map (·.1)) (esR P) e.val (k : Int) = y1 rec7 none j.val (i : Int) (P.map (·.1)) (esR P) e.val ((zdu (P.map (·.1)) j.names[i] k : Nat) : Int)
 | 0, hk => by
  unfold yj
  rw [ye]
  unfold y4
  rw [if_pos (by simp), if_pos (by simp), if_neg (by simp)]
  rfl
 | k + 1, hk => by
  have ih := zs1 (e := e) (rec7 := rec7) (P := P) hP hi hin k (by omega)
  have hW : W (((k + 1 : Nat) : Int) - 1) = (k : Int) := by rw [zrc (by unfold inR; omega)]; omega
  have hb : y4 rec7 none j.val (i : Int) (P.map (·.1)) (esR P) e.val ((k + 1 : Nat) : Int) = if j.names[i] < (P.map (·.1)).getD k default then some (.inl (k : Int)) else (y1 rec7 none j.val (i : Int) (P.map (·.1)) (esR P) e.val ((k + 1 : Nat) : Int)).map Sum.inr := by
   unfold y4
   rw [hW, show j.val.fA = j.names from rfl, if_pos (by intro _; simp; omega), if_pos (by intro _; simp; omega)]
   simp only [Int.toNat_natCast, Z6 hi, bytesLess_eq]
   by_cases hc : j.names[i] < (P.map (·.1)).getD k default
   ·rw [if_pos hc, if_pos]
    have h1 : ¬ (P.map (·.1)).getD k default < j.names[i] := fun h => List.lt_irrefl _ (List.lt_trans h hc)
    have h2 : ¬ (P.map (·.1)).getD k default = j.names[i] := fun h => by rw [h] at hc; exact List.lt_irrefl _ hc
    rw [decide_eq_false h1, beq_eq_false_iff_ne.2 h2]
    simp <;> omega
   ·rw [if_neg hc, if_neg]
    have h1 : (P.map (·.1)).getD k default < j.names[i] ∨ (P.map (·.1)).getD k default = j.names[i] := by
     by_cases he : (P.map (·.1)).getD k default = j.names[i]
     ·exact .inr he
     ·exact .inl (Std.lt_of_le_of_ne (List.not_lt.1 hc) he)
    simp only [Bool.and_eq_true, Bool.not_eq_true', Bool.or_eq_false_iff, decide_eq_false_iff_not, beq_eq_false_iff_ne]
    rintro ⟨_, h2, h3⟩
    rcases h1 with h | h
    ·exact h2 h
    ·exact h3 h
  unfold zdu
  unfold yj at ih ⊢
  by_cases hc : j.names[i] < (P.map (·.1)).getD k default
  ·rw [if_pos hc] at hb
   rw [xv hb, if_pos hc]
   exact ih
  ·rw [if_neg hc] at hb
   rw [ye hb, if_neg hc]
theorem zg4 {P : List PJ} {n : List UInt8} {e : J} (p : Nat) : (esR P).take p ++ ([e.raw] ++ (esR P).drop p) = esR (P.take p ++ (n, e) :: P.drop p) := by
 simp [esR, List.map_take, List.map_drop]
theorem zqy {P : List PJ} {n : List UInt8} {e : J} (p : Nat) : (P.map (·.1)).take p ++ ([n] ++ (P.map (·.1)).drop p) = (P.take p ++ (n, e) :: P.drop p).map (·.1) := by
 simp [List.map_take, List.map_drop]
theorem zt3 {j : J} {rec7 : GJ → Option GJ} {B : Prop} (hj : j.ok) (hk : j.kind = 5) (hle : j.names.length = j.elems.length) (hr : ∀ e ∈ j.elems, rec7 e.val = some e.srt.val ∨ (B ∧ rec7 e.val = none)) :
 ∀ (k i : Nat) (P : List PJ), i + k = j.elems.length → P.length = i → P.Pairwise (fun a b => a.1 < b.1) → ((((List.zip j.names (j.elems.map J.srt)).drop i) ++ P).map (·.1)).Nodup →
  zd rec7 none j.val (i : Int) (P.map (·.1)) (esR P) = some (J.mk j.kind j.num j.text ((z0z P ((List.zip j.names (j.elems.map J.srt)).drop i)).map (·.1)) ((z0z P ((List.zip j.names (j.elems.map J.srt)).drop i)).map (·.2))).val ∨
  (B ∧ zd rec7 none j.val (i : Int) (P.map (·.1)) (esR P) = none)
 | 0, i, P, h, hP, hs, hn => by
  left
  have hz : (List.zip j.names (j.elems.map J.srt)).drop i = [] := by
   rw [List.drop_eq_nil_iff, List.length_zip, List.length_map]; omega
  rw [hz]
  unfold zd
  rw [ye]
  unfold zh qb
  rw [qp, if_neg (by simp; omega)]
  simp [J.val, z0z, J.kind, J.num, J.text, J.names, J.elems, esR]
 | k + 1, i, P, h, hP, hs, hn => by
  have hi : i < j.elems.length := by omega
  have hin : i < j.names.length := by omega
  have hl := hj.len
  have hz : (List.zip j.names (j.elems.map J.srt)).drop i = (j.names[i], j.elems[i].srt) :: (List.zip j.names (j.elems.map J.srt)).drop (i + 1) := by
   have hzl : i < (List.zip j.names (j.elems.map J.srt)).length := by rw [List.length_zip, List.length_map]; omega
   rw [List.drop_eq_getElem_cons hzl, List.getElem_zip, List.getElem_map]
  rw [hz] at hn ⊢
  obtain ⟨s1, s2⟩ := zmv hs hn
  have hb : zh rec7 none j.val (i : Int) (P.map (·.1)) (esR P) = (rec7 (j.elems[i]).val).bind fun v15 => yj rec7 none j.val (i : Int) (P.map (·.1)) (esR P) v15 ((P.length : Nat) : Int) := by
   unfold zh
   have hle' : ((esR P).map z8).length = P.length := by simp [esR]
   have hk5 : (j.val.fK == 5) = true := by rw [show j.val.fK = j.kind from rfl]; simpa using hk
   rw [qp, if_pos (by simpa using hi), if_pos (by omega)]
   simp only [Int.toNat_natCast, zcj hi, Option.bind_some, hle', hk5, if_true]
  rcases hr _ (List.getElem_mem hi) with hc | ⟨hB, hc⟩
  ·rw [hc, Option.bind_some, zs1 (by omega) hin (by omega) _ (Nat.le_refl _), zuh (by omega) hin (by omega) (z8h _ _ _), zg4 (n := j.names[i]), zqy (e := j.elems[i].srt)] at hb
   have hins := zp3 (x := (j.names[i], j.elems[i].srt)) hs
   simp only at hins
   rw [← hins] at hb
   have ih := zt3 hj hk hle hr k (i + 1) (Vy (j.names[i], j.elems[i].srt) P) (by omega) (by rw [zcn]; omega) s1 s2
   unfold zd at ih ⊢
   rw [xv hb]
   exact ih
  ·right
   rw [hc] at hb
   unfold zd
   exact ⟨hB, kh hb⟩
theorem zo5 {j : J} {rec7 : GJ → Option GJ} {B : Prop} (hj : j.ok) (hk : j.kind ≠ 5) (hr : ∀ e ∈ j.elems, rec7 e.val = some e.srt.val ∨ (B ∧ rec7 e.val = none)) :
 ∀ (k i : Nat) (P : List PJ), i + k = j.elems.length → P.length = i → P.map (·.2) = (j.elems.take i).map J.srt →
  zd rec7 none j.val (i : Int) [] (esR P) = some (J.mk j.kind j.num j.text [] (j.elems.map J.srt)).val ∨
  (B ∧ zd rec7 none j.val (i : Int) [] (esR P) = none)
 | 0, i, P, h, hP, hs => by
  left
  have hi : i = j.elems.length := by omega
  subst hi
  rw [List.take_length] at hs
  have he : esR P = (j.elems.map J.srt).map J.raw := by rw [← hs, List.map_map]; rfl
  unfold zd
  rw [ye]
  unfold zh qb
  rw [qp, if_neg (by simp), he]
  rfl
 | k + 1, i, P, h, hP, hs => by
  have hi : i < j.elems.length := by omega
  have hl := hj.len
  have hle' : ((esR P).map z8).length = P.length := by simp [esR]
  have hb : zh rec7 none j.val (i : Int) [] (esR P) = (rec7 (j.elems[i]).val).bind fun v15 => y3 rec7 none j.val (i : Int) (esR P) v15 ((P.length : Nat) : Int) [] := by
   unfold zh
   have hk5 : (j.val.fK == 5) = false := by rw [show j.val.fK = j.kind from rfl]; simpa using hk
   rw [qp, if_pos (by simpa using hi), if_pos (by omega)]
   simp only [Int.toNat_natCast, zcj hi, Option.bind_some, hle', hk5, Bool.false_eq_true, if_false]
  rcases hr _ (List.getElem_mem hi) with hc | ⟨hB, hc⟩
  ·rw [hc, Option.bind_some, zsd (by omega) (by omega) (Nat.le_refl _), zg4 (n := [])] at hb
   have ih := zo5 hj hk hr k (i + 1) (P.take P.length ++ ([], j.elems[i].srt) :: P.drop P.length) (by omega) (by simp; omega) (by
    rw [List.take_length, List.drop_length, List.map_append, hs, List.take_succ_eq_append_getElem hi, List.map_append]; rfl)
   unfold zd at ih ⊢
   rw [xv hb]
   exact ih
  ·right
   rw [hc] at hb
   unfold zd
   exact ⟨hB, kh hb⟩
theorem zke {j : J} {rec7 : GJ → Option GJ} {B : Prop} (hj : j.ok) (hv : j.vd = 0) (hr : ∀ e ∈ j.elems, rec7 e.val = some e.srt.val ∨ (B ∧ rec7 e.val = none)) :
 zz rec7 none j.val = some j.srt.val ∨ (B ∧ zz rec7 none j.val = none) := by
 obtain ⟨a1, a2, a3⟩ := V4 hv
 obtain ⟨_, a5, a6, a7, a8⟩ := Wf a2
 unfold zz
 rw [z43]
 by_cases hk : j.kind = 5
 ·obtain ⟨h1, h2⟩ := a7 hk
  rw [if_pos hk]
  have la : j.names.length = (j.elems.map J.srt).length := by rw [List.length_map]; exact h1
  have := zt3 hj hk h1 hr j.elems.length 0 [] (by omega) rfl List.Pairwise.nil (by rw [List.drop_zero, List.append_nil, z3n la]; exact h2)
  rw [List.drop_zero] at this
  exact this
 ·rw [if_neg hk]
  exact zo5 hj hk hr j.elems.length 0 [] (by omega) rfl rfl
theorem zo7 : ∀ (k : Nat) (j : J), j.ok → j.vd = 0 → yp none k j.val = some j.srt.val ∨ (k < j.sz ∧ yp none k j.val = none)
 | 0, j, hj, _ => .inr ⟨Qu j, rfl⟩
 | k + 1, j, hj, hv => by
  unfold yp
  exact zke hj hv fun e he => by
   rcases zo7 k e (hj.elem he) ((V4 hv).2.2 e he) with h | ⟨h1, h2⟩
   ·exact .inl h
   ·exact .inr ⟨by have := Ui he; omega, h2⟩
theorem zvb {j : J} (hj : j.ok) (hv : j.vd = 0) : qq none j.val = some j.srt.val := Qh (d := j.sz) fun k => zo7 k j hj hv
theorem zva {j : J} (hj : j.ok) (hv : j.vd = 0) : wu none j.val = some j.srt.val := by
 rcases zke (rec7 := qq none) (B := False) hj hv (fun e he => .inl (zvb (hj.elem he) ((V4 hv).2.2 e he))) with h | ⟨h, _⟩
 ·exact h
 ·exact h.elim
theorem zge (x : PJ) : ∀ l : List PJ, nsz ((Vy x l).map (·.1)) = x.1.length + 1 + nsz (l.map (·.1)) ∧ J.szL ((Vy x l).map (·.2)) = x.2.sz + J.szL (l.map (·.2))
 | [] => by simp [Vy, nsz, J.szL]
 | y :: r => by
  obtain ⟨h1, h2⟩ := zge x r
  unfold Vy
  split
  ·simp [nsz, J.szL]
  ·simp only [List.map_cons, nsz, J.szL, h1, h2]
   omega
theorem zgd : ∀ (l a : List PJ), nsz ((z0z a l).map (·.1)) = nsz (l.map (·.1)) + nsz (a.map (·.1)) ∧ J.szL ((z0z a l).map (·.2)) = J.szL (l.map (·.2)) + J.szL (a.map (·.2))
 | [], a => by simp [z0z, nsz, J.szL]
 | x :: r, a => by
  obtain ⟨h1, h2⟩ := zgd r (Vy x a)
  obtain ⟨h3, h4⟩ := zge x a
  have e : z0z a (x :: r) = z0z (Vy x a) r := rfl
  rw [e, h1, h2, h3, h4]
  simp only [List.map_cons, nsz, J.szL]
  omega
theorem znk : ∀ {es : List J}, (∀ e ∈ es, e.srt.sz ≤ e.sz) → J.szL (es.map J.srt) ≤ J.szL es
 | [], _ => by simp
 | e :: r, h => by
  have h1 := h e (by simp)
  have h2 := znk (es := r) fun x hx => h x (List.mem_cons_of_mem _ hx)
  simp only [List.map_cons, J.szL]
  omega
theorem znv : ∀ (N : Nat) (j : J), j.sz ≤ N → j.vd = 0 → j.srt.sz ≤ j.sz
 | 0, j, h, _ => by have := Qu j; omega
 | N + 1, j, hs, hv => by
  obtain ⟨a1, a2, a3⟩ := V4 hv
  obtain ⟨_, a5, a6, a7, a8⟩ := Wf a2
  have h1 := znk (es := j.elems) fun e he => znv N e (by have := Ui he; omega) (a3 e he)
  have hsz : j.sz = 1 + j.text.length + nsz j.names + J.szL j.elems := by cases j; rw [J.sz]; rfl
  rw [z43]
  by_cases hk : j.kind = 5
  ·obtain ⟨h7, h8⟩ := a7 hk
   have la : j.names.length = (j.elems.map J.srt).length := by rw [List.length_map]; exact h7
   obtain ⟨p1, p2⟩ := zgd (List.zip j.names (j.elems.map J.srt)) []
   have m1 : (List.zip j.names (j.elems.map J.srt)).map (·.1) = j.names := z3n la
   have m2 : (List.zip j.names (j.elems.map J.srt)).map (·.2) = j.elems.map J.srt := List.map_snd_zip (by omega)
   rw [m1] at p1
   rw [m2] at p2
   rw [if_pos hk, J.sz, p1, p2, hsz]
   simp only [List.map_nil, nsz, J.szL]
   omega
  ·rw [if_neg hk, J.sz, hsz]
   simp only [nsz]
   omega
theorem z60 {a b : J} (ha : a.ok) (hb : b.ok) (va : a.vd = 0) (vb : b.vd = 0) : x8 none a.val b.val = some (a.eqB b) := by
 have hs : a.srt.ok := Nat.le_trans (znv a.sz a (Nat.le_refl _) va) ha
 unfold x8
 rw [zva ha va, Option.bind_some, zvb hb vb, Option.bind_some, zti hs, Option.bind_some]
 congr 1
 rw [Bool.eq_iff_iff, znq]
 exact znn a.sz a b (Nat.le_refl _) va vb
theorem z9g {a x : List UInt8} : ∀ {l : List (List UInt8)}, idx a (l ++ [x]) = (match idx a l with | some q => some q | none => if a = x then some l.length else none)
 | [] => by simp [idx]
 | y :: r => by
  rw [List.cons_append, idx, idx]
  by_cases h : a = y
  ·rw [if_pos h, if_pos h]
  ·rw [if_neg h, if_neg h, z9g (l := r)]
   cases idx a r with
   | none =>
    by_cases hx : a = x
    ·simp [hx]
    ·simp [hx]
   | some q => rfl
def ug (a : J) (name : List UInt8) (i : Nat) : Option J := if a.kind = 5 then (idx name (a.names.take i)).bind fun q => a.elems[q]? else none
theorem zac {v : J} (h : v.chk = 0) : v.vd = 0 := by
 unfold J.chk at h
 split at h
 ·exact h
 ·omega
theorem zv1 {a b : J} (ha : a.ok) (hb : b.ok) (name : List UInt8) :
 qu none a.val b.val ((gm a name).val, (fnd a name).isSome) (fnd a name).isSome (gm a name).val.fK (gm a name).val.fN (gm a name).val.fT (gm a name).val.fA (gm a name).val.fE = some true := by
 have hg := zum ha name
 have e1 : jy none (GJ.mk (gm a name).val.fK (gm a name).val.fN (gm a name).val.fT (gm a name).val.fA (gm a name).val.fE) (GJ.mk (gm a name).val.fK (gm a name).val.fN (gm a name).val.fT (gm a name).val.fA (gm a name).val.fE) = some true := by
  rcases zgp (rec0 := ya none) (B := False) hg (fun e he => .inl (zv5 (hg.elem he))) with h | ⟨h, _⟩
  ·exact h
  ·exact h.elim
 unfold qu xj
 simp only [Vz ha, Vz hb, Option.bind_some, e1, zgb ha hb]
 unfold eqv
 by_cases c1 : a.chk = 0
 ·by_cases c2 : b.chk = 0
  ·rw [z60 ha hb (zac c1) (zac c2)]
   simp [c1, c2]
  ·simp [c1, c2]
 ·simp [c1]
theorem zeu {a b : J} (ha : a.ok) (hb : b.ok) (name : List UInt8) : ∀ (k i : Nat), i + k = a.names.length →
 qt none a.val b.val name ((gm a name).val, (fnd a name).isSome) (ug a name i).isSome (i : Int) ((ug a name i).getD nullJ).val.fK ((ug a name i).getD nullJ).val.fN ((ug a name i).getD nullJ).val.fT ((ug a name i).getD nullJ).val.fA ((ug a name i).getD nullJ).val.fE = some true
 | 0, i, h => by
  have hs : ug a name i = fnd a name := by unfold ug fnd; rw [List.take_of_length_le (by omega)]
  rw [hs]
  unfold qt
  rw [ye (x := some true)]
  unfold y9
  rw [show a.val.fA = a.names from rfl, List.length_map, if_neg (by simp; omega)]
  exact congrArg (Option.map Sum.inr) (zv1 ha hb name)
 | k + 1, i, h => by
  have hi : i < a.names.length := by omega
  have hl := ha.len
  have ih := zeu ha hb name k (i + 1) (by omega)
  have ht : a.names.take (i + 1) = a.names.take i ++ [a.names[i]] := List.take_succ_eq_append_getElem hi
  have hb1 : y9 none a.val b.val name ((gm a name).val, (fnd a name).isSome) (ug a name i).isSome (i : Int) ((ug a name i).getD nullJ).val.fK ((ug a name i).getD nullJ).val.fN ((ug a name i).getD nullJ).val.fT ((ug a name i).getD nullJ).val.fA ((ug a name i).getD nullJ).val.fE =
   some (.inl ((ug a name (i + 1)).isSome, ((i + 1 : Nat) : Int), ((ug a name (i + 1)).getD nullJ).val.fK, ((ug a name (i + 1)).getD nullJ).val.fN, ((ug a name (i + 1)).getD nullJ).val.fT, ((ug a name (i + 1)).getD nullJ).val.fA, ((ug a name (i + 1)).getD nullJ).val.fE)) := by
   unfold y9 qr
   rw [show a.val.fA = a.names from rfl, List.length_map, if_pos (by simpa using hi), if_pos (by intro _; omega), qp, show a.val.fK = a.kind from rfl]
   simp only [Int.toNat_natCast, Z6 hi, Wi (show i ≤ 4611686018427387904 by omega)]
   by_cases hc : a.kind = 5 ∧ (ug a name i).isSome = false ∧ a.names[i] = name ∧ i < a.elems.length
   ·obtain ⟨c1, c2, c3, c4⟩ := hc
    rw [if_pos (by simp [c1, c2, c3, c4]), if_pos (by omega), zcj c4, Option.bind_some]
    have hs : ug a name (i + 1) = some a.elems[i] := by
     unfold ug at c2 ⊢
     rw [if_pos c1] at c2 ⊢
     rw [ht, z9g]
     cases hq : idx name (a.names.take i) with
     | none => simp only; rw [if_pos c3.symm, List.length_take, Nat.min_eq_left (by omega)]; exact List.getElem?_eq_getElem c4
     | some q =>
      rw [hq] at c2
      obtain ⟨h1, h2⟩ := w7 hq
      rw [List.length_take] at h1
      simp only [Option.bind_some] at c2
      rw [List.getElem?_eq_getElem (by omega)] at c2
      cases c2
    rw [hs]
    rfl
   ·rw [if_neg]
    ·have hs : ug a name (i + 1) = ug a name i := by
      unfold ug at hc ⊢
      by_cases c1 : a.kind = 5
      ·rw [if_pos c1] at hc ⊢
       rw [if_pos c1, ht, z9g]
       cases hq : idx name (a.names.take i) with
       | some q => rfl
       | none =>
        rw [hq] at hc
        simp only
        by_cases c3 : name = a.names[i]
        ·rw [if_pos c3, List.length_take, Nat.min_eq_left (by omega)]
         simp only [Option.bind_some, Option.bind_none]
         refine List.getElem?_eq_none ?_
         rcases Nat.lt_or_ge i a.elems.length with h | h
         ·exact absurd ⟨c1, rfl, c3.symm, h⟩ hc
         ·exact h
        ·rw [if_neg c3]
      ·rw [if_neg c1, if_neg c1]
     rw [hs]
    ·simp only [Bool.and_eq_true, Bool.not_eq_true', decide_eq_true_eq, beq_iff_eq]
     rintro ⟨⟨⟨h1, h2⟩, h3⟩, h4⟩
     exact hc ⟨h1, h2, h3, by omega⟩
  unfold qt at ih ⊢
  rw [xv hb1]
  exact ih
theorem zvx (a b : J) (name : List UInt8) (ha : a.ok) (hb : b.ok) : x5 none a.val b.val name = some true := by
 unfold x5 xj
 simp only [Option.bind_some, zcu ha]
 rw [if_neg (by simp)]
 have := zeu ha hb name a.names.length 0 (by omega)
 have hs : ug a name 0 = none := by unfold ug; split <;> rfl
 rw [hs] at this
 exact this
end Go.Proofs.YtdgkalljlomjnaaDoor
