/-
  The reference's ValidUTF8 is the library's; no condition.
-/
import Derived.Test.YtdgkalljlomjnaaDoorGenA
import Derived.Test.YtdgkalljlomjnaaDoorFxP
namespace Go.Proofs.YtdgkalljlomjnaaDoor
open Go.Fx
set_option linter.unusedVariables false
set_option linter.unusedSimpArgs false
theorem Wi {i : Nat} (h : i ≤ 4611686018427387904) : W ((i : Int) + 1) = ((i + 1 : Nat) : Int) := by rw [zlh (by unfold inR; omega)]; omega
theorem zn4 {α : Type} [Inhabited α] {l : List α} {i : Nat} (h : i < l.length) : l.getD i default = l[i] := by
 simp [List.getD_eq_getElem?_getD, h]
def Jx (s : List UInt8) : Nat → Nat → Nat → Nat → Option Nat
 | 0, p, _, _ => some p
 | k + 1, p, lo, hi => if s.length ≤ p ∨ (s.getD p 0).toNat < lo ∨ hi < (s.getD p 0).toNat then none else Jx s k (p + 1) 128 191
def zhh : Option Nat → Int ⊕ Bool
 | some q => .inl (q : Int)
 | none => .inr false
theorem z3u {s : List UInt8} (hs : s.length ≤ 4611686018427387904) : ∀ (k p lo hi v d : Nat), d + k = v → v ≤ 3 →
 qa none s (v : Int) (p : Int) (lo : Int) (hi : Int) (d : Int) = some (zhh (Jx s k p lo hi))
 | 0, p, lo, hi, v, d, h, hv => by
  unfold qa
  rw [x9 (x := some (.inl (p : Int)))]
  ·rfl
  ·unfold yp
   rw [if_neg (by simp; omega)]
 | k + 1, p, lo, hi, v, d, h, hv => by
  have hb : yp none s (v : Int) (p : Int) (lo : Int) (hi : Int) (d : Int) =
   if s.length ≤ p ∨ (s.getD p 0).toNat < lo ∨ hi < (s.getD p 0).toNat then some (.inr (.inr false)) else some (.inl (((p + 1 : Nat) : Int), ((128 : Nat) : Int), ((191 : Nat) : Int), ((d + 1 : Nat) : Int))) := by
   unfold yp
   rw [if_pos (by simp; omega), if_pos (by simp), if_pos (by simp; omega)]
   simp only [Int.toNat_natCast]
   by_cases hc : s.length ≤ p ∨ (s.getD p 0).toNat < lo ∨ hi < (s.getD p 0).toNat
   ·rw [if_pos (by simp only [Bool.and_eq_true, Bool.or_eq_true, decide_eq_true_eq, beq_iff_eq, ge_iff_le, gt_iff_lt]; omega), if_pos hc]; rfl
   ·rw [if_neg (by simp only [Bool.and_eq_true, Bool.or_eq_true, decide_eq_true_eq, beq_iff_eq, ge_iff_le, gt_iff_lt]; omega), if_neg hc, Wi (by omega), Wi (by omega)]; rfl
  unfold Jx
  by_cases hc : s.length ≤ p ∨ (s.getD p 0).toNat < lo ∨ hi < (s.getD p 0).toNat
  ·unfold qa
   rw [if_pos hc, x9 (x := some (.inr false)) (by rw [hb, if_pos hc]; rfl)]
   rfl
  ·rw [if_neg hc, ← z3u hs k (p + 1) 128 191 v (d + 1) (by omega) hv]
   unfold qa
   rw [jy (s' := (((p + 1 : Nat) : Int), ((128 : Nat) : Int), ((191 : Nat) : Int), ((d + 1 : Nat) : Int))) (by rw [hb, if_neg hc])]
theorem ck2 (n b1 b2 b3 lo hi : Nat) : Lib.checkN n b1 b2 b3 (1 + 1) lo hi = if n < 2 ∨ b1 < lo ∨ hi < b1 then none else some 2 := by unfold Lib.checkN; rw [if_pos rfl]
theorem ck3 (n b1 b2 b3 lo hi : Nat) : Lib.checkN n b1 b2 b3 (2 + 1) lo hi = if n < 3 ∨ b1 < lo ∨ hi < b1 ∨ b2 < 128 ∨ 191 < b2 then none else some 3 := by unfold Lib.checkN; rw [if_neg (by decide), if_pos rfl]
theorem ck4 (n b1 b2 b3 lo hi : Nat) : Lib.checkN n b1 b2 b3 (3 + 1) lo hi = if n < 4 ∨ b1 < lo ∨ hi < b1 ∨ b2 < 128 ∨ 191 < b2 ∨ b3 < 128 ∨ 191 < b3 then none else some 4 := by unfold Lib.checkN; rw [if_neg (by decide), if_neg (by decide), if_pos rfl]
theorem zc7 {s : List UInt8} {i : Nat} (hi : i < s.length) : ∀ (k lo h : Nat), 1 ≤ k → k ≤ 3 →
 Jx s k (i + 1) lo h = (Lib.checkN (s.drop i).length ((s.drop i).getD 1 0).toNat ((s.drop i).getD 2 0).toNat ((s.drop i).getD 3 0).toNat (k + 1) lo h).map fun n => i + n := by
 intro k lo h h1 h3
 have g : ∀ j, (s.drop i).getD j 0 = s.getD (i + j) 0 := fun j => by simp [List.getD_eq_getElem?_getD]
 rw [g, g, g, List.length_drop]
 have hk : k = 1 ∨ k = 2 ∨ k = 3 := by omega
 rcases hk with rfl | rfl | rfl
 ·rw [ck2]
  unfold Jx
  by_cases c : s.length ≤ i + 1 ∨ (s.getD (i + 1) 0).toNat < lo ∨ h < (s.getD (i + 1) 0).toNat
  ·rw [if_pos c, if_pos (by omega)]; rfl
  ·rw [if_neg c, if_neg (by omega)]; rfl
 ·rw [ck3]
  unfold Jx
  by_cases c : s.length ≤ i + 1 ∨ (s.getD (i + 1) 0).toNat < lo ∨ h < (s.getD (i + 1) 0).toNat
  ·rw [if_pos c, if_pos (by omega)]; rfl
  ·rw [if_neg c]
   unfold Jx
   by_cases c2 : s.length ≤ i + 2 ∨ (s.getD (i + 2) 0).toNat < 128 ∨ 191 < (s.getD (i + 2) 0).toNat
   ·rw [if_pos c2, if_pos (by omega)]; rfl
   ·rw [if_neg c2, if_neg (by omega)]; rfl
 ·rw [ck4]
  unfold Jx
  by_cases c : s.length ≤ i + 1 ∨ (s.getD (i + 1) 0).toNat < lo ∨ h < (s.getD (i + 1) 0).toNat
  ·rw [if_pos c, if_pos (by omega)]; rfl
  ·rw [if_neg c]
   unfold Jx
   by_cases c2 : s.length ≤ i + 2 ∨ (s.getD (i + 2) 0).toNat < 128 ∨ 191 < (s.getD (i + 2) 0).toNat
   ·rw [if_pos c2, if_pos (by omega)]; rfl
   ·rw [if_neg c2]
    unfold Jx
    by_cases c3 : s.length ≤ i + 3 ∨ (s.getD (i + 3) 0).toNat < 128 ∨ 191 < (s.getD (i + 3) 0).toNat
    ·rw [if_pos c3, if_pos (by omega)]; rfl
    ·rw [if_neg c3, if_neg (by omega)]; rfl
def zcp (b : Nat) : Option (Nat × Nat × Nat) :=
 if b < 128 then some (0, 128, 191) else if 194 ≤ b ∧ b ≤ 223 then some (1, 128, 191) else
 if 224 ≤ b ∧ b ≤ 239 then some (2, if b = 224 then 160 else 128, if b = 237 then 159 else 191) else
 if 240 ≤ b ∧ b ≤ 244 then some (3, if b = 240 then 144 else 128, if b = 244 then 143 else 191) else none
def zq6 (b : Nat) : Bool := match zcp b with
 | none => Lib.firstT b % 8 == 1
 | some (k, lo, hi) => decide (1 ≤ k) && decide (k ≤ 3) && (Lib.firstT b % 8 == k + 1) && (Lib.accLo (Lib.firstT b / 16) == lo) && (Lib.accHi (Lib.firstT b / 16) == hi)
theorem zcg : ∀ b : Fin 256, 128 ≤ b.val → zq6 b.val = true := by decide +kernel
theorem zck {s : List UInt8} (hs : s.length ≤ 4611686018427387904) {i : Nat} (hi : i < s.length) : yj none s (i : Int) =
 match zcp (s.getD i 0).toNat with
 | none => some (.inr false)
 | some (k, lo, h) => some (zhh (Jx s k (i + 1) lo h)) := by
 have hl := fun (v lo h : Nat) (hv : v ≤ 3) => z3u hs v (i + 1) lo h v 0 (by omega) hv
 have j9 : ∀ (v lo h : Nat), v ≤ 3 → zd none s (i : Int) (v : Int) (lo : Int) (h : Int) = some (zhh (Jx s v (i + 1) lo h)) := fun v lo h hv => by
  unfold zd
  rw [Wi (by omega)]
  exact hl v lo h hv
 have j7 : ∀ lo : Nat, qc none s (i : Int) (lo : Int) = some (zhh (Jx s 2 (i + 1) lo (if (s.getD i 0).toNat = 237 then 159 else 191))) := fun lo => by
  unfold qc
  simp only [Int.toNat_natCast]
  by_cases c : (s.getD i 0).toNat = 237
  ·rw [if_pos (by simp only [beq_iff_eq]; omega), if_pos c]; exact j9 2 lo 159 (by omega)
  ·rw [if_neg (by simp only [beq_iff_eq]; omega), if_neg c]; exact j9 2 lo 191 (by omega)
 have j8 : ∀ lo : Nat, qf none s (i : Int) (lo : Int) = some (zhh (Jx s 3 (i + 1) lo (if (s.getD i 0).toNat = 244 then 143 else 191))) := fun lo => by
  unfold qf
  simp only [Int.toNat_natCast]
  by_cases c : (s.getD i 0).toNat = 244
  ·rw [if_pos (by simp only [beq_iff_eq]; omega), if_pos c]; exact j9 3 lo 143 (by omega)
  ·rw [if_neg (by simp only [beq_iff_eq]; omega), if_neg c]; exact j9 3 lo 191 (by omega)
 unfold yj zcp
 rw [if_pos (by simp; omega), if_pos (by omega)]
 simp only [Int.toNat_natCast]
 by_cases c1 : (s.getD i 0).toNat < 128
 ·rw [if_pos (by simp only [Bool.and_eq_true, Bool.or_eq_true, decide_eq_true_eq, beq_iff_eq, ge_iff_le, gt_iff_lt]; omega), if_pos c1]; exact j9 0 128 191 (by omega)
 rw [if_neg (by simp only [Bool.and_eq_true, Bool.or_eq_true, decide_eq_true_eq, beq_iff_eq, ge_iff_le, gt_iff_lt]; omega), if_neg c1]
 by_cases c2 : 194 ≤ (s.getD i 0).toNat ∧ (s.getD i 0).toNat ≤ 223
 ·rw [if_pos (by simp only [Bool.and_eq_true, Bool.or_eq_true, decide_eq_true_eq, beq_iff_eq, ge_iff_le, gt_iff_lt]; omega), if_pos c2]; exact j9 1 128 191 (by omega)
 rw [if_neg (by simp only [Bool.and_eq_true, Bool.or_eq_true, decide_eq_true_eq, beq_iff_eq, ge_iff_le, gt_iff_lt]; omega), if_neg c2]
 by_cases c3 : 224 ≤ (s.getD i 0).toNat ∧ (s.getD i 0).toNat ≤ 239
 ·rw [if_pos (by simp only [Bool.and_eq_true, Bool.or_eq_true, decide_eq_true_eq, beq_iff_eq, ge_iff_le, gt_iff_lt]; omega), if_pos c3]
  by_cases c : (s.getD i 0).toNat = 224
  ·rw [if_pos (by simp only [beq_iff_eq]; omega), if_pos c]; exact j7 160
  ·rw [if_neg (by simp only [beq_iff_eq]; omega), if_neg c]; exact j7 128
 rw [if_neg (by simp only [Bool.and_eq_true, Bool.or_eq_true, decide_eq_true_eq, beq_iff_eq, ge_iff_le, gt_iff_lt]; omega), if_neg c3]
 by_cases c4 : 240 ≤ (s.getD i 0).toNat ∧ (s.getD i 0).toNat ≤ 244
 ·rw [if_pos (by simp only [Bool.and_eq_true, Bool.or_eq_true, decide_eq_true_eq, beq_iff_eq, ge_iff_le, gt_iff_lt]; omega), if_pos c4]
  by_cases c : (s.getD i 0).toNat = 240
  ·rw [if_pos (by simp only [beq_iff_eq]; omega), if_pos c]; exact j8 144
  ·rw [if_neg (by simp only [beq_iff_eq]; omega), if_neg c]; exact j8 128
 rw [if_neg (by simp only [Bool.and_eq_true, Bool.or_eq_true, decide_eq_true_eq, beq_iff_eq, ge_iff_le, gt_iff_lt]; omega), if_neg c4]
 rfl
theorem z18 {s : List UInt8} (hs : s.length ≤ 4611686018427387904) : ∀ (k i : Nat), i + k ≥ s.length → i ≤ s.length → x4 none s (i : Int) = some (Lib.validD (s.drop i))
 | k, i, hk, hi => by
  by_cases he : i = s.length
  ·subst he
   unfold x4
   rw [List.drop_length, x9 (x := some true)]
   ·rfl
   ·unfold yj
    rw [if_neg (by simp)]
    rfl
  ·have hi : i < s.length := by omega
   cases k with
   | zero => omega
   | succ k =>
   have ih := z18 hs k
   have hb := zck hs hi
   have hg : (s.drop i).getD 0 0 = s.getD i 0 := by simp [List.getD_eq_getElem?_getD]
   have hne : s.drop i ≠ [] := by simp; omega
   unfold x4 at ih ⊢
   by_cases ha : (s.getD i 0).toNat < 128
   ·have : zcp (s.getD i 0).toNat = some (0, 128, 191) := by unfold zcp; rw [if_pos ha]
    rw [this] at hb
    rw [jy (s' := ((i + 1 : Nat) : Int)) hb, ih (i + 1) (by omega) (by omega)]
    have hcons : s.drop i = s.getD i 0 :: s.drop (i + 1) := by
     rw [List.drop_eq_getElem_cons hi]; simp [List.getD_eq_getElem?_getD, hi]
    rw [hcons, Lib.validD_cons _ _ ha]
   ·have hv := Lib.validD_lead (s.drop i) hne (by rw [hg]; omega)
    have hf := zcg ⟨(s.getD i 0).toNat, (s.getD i 0).toNat_lt⟩ (by simp only; omega)
    simp only [zq6] at hf
    rw [hg] at hv
    cases hl : zcp (s.getD i 0).toNat with
    | none =>
     rw [hl] at hb hf
     rw [x9 (x := some false) hb, hv]
     simp only [beq_iff_eq] at hf
     rw [hf]
     rfl
    | some y =>
     obtain ⟨k', lo, h⟩ := y
     rw [hl] at hb hf
     simp only at hb
     simp only [Bool.and_eq_true, decide_eq_true_eq, beq_iff_eq] at hf
     obtain ⟨⟨⟨⟨f1, f2⟩, f3⟩, f4⟩, f5⟩ := hf
     have hc := zc7 hi k' lo h f1 f2
     rw [f3, f4, f5] at hv
     rw [hv]
     cases hcn : Lib.checkN (s.drop i).length ((s.drop i).getD 1 0).toNat ((s.drop i).getD 2 0).toNat ((s.drop i).getD 3 0).toNat (k' + 1) lo h with
     | none =>
      rw [hcn] at hc
      rw [hc] at hb
      rw [x9 (x := some false) hb]
     | some q =>
      rw [hcn] at hc
      rw [hc] at hb
      have hq : 1 ≤ q ∧ i + q ≤ s.length := by
       have hlen : (s.drop i).length = s.length - i := List.length_drop
       rw [hlen] at hcn
       unfold Lib.checkN at hcn
       have hk : k' = 1 ∨ k' = 2 ∨ k' = 3 := by omega
       rcases hk with rfl | rfl | rfl <;> simp only [] at hcn <;> (repeat' split at hcn) <;> simp at hcn <;> omega
      rw [jy (s' := ((i + q : Nat) : Int)) hb, ih (i + q) (by omega) (by omega)]
      simp only [List.drop_drop]
theorem zak {s : List UInt8} (hs : s.length ≤ 4611686018427387904) : q7 none s = some (Lib.validD s) := by
 have := z18 hs s.length 0 (by omega) (by omega)
 exact this
theorem zer {s : List UInt8} (hs : s.length ≤ 4611686018427387904) : ji none s = some (Lib.validD s) := by
 unfold ji; rw [if_pos (by omega)]
inductive J where
 | mk (kind num : Int) (text : List UInt8) (names : List (List UInt8)) (elems : List J)
def J.kind : J → Int | .mk k _ _ _ _ => k
def J.num : J → Int | .mk _ n _ _ _ => n
def J.text : J → List UInt8 | .mk _ _ t _ _ => t
def J.names : J → List (List UInt8) | .mk _ _ _ ns _ => ns
def J.elems : J → List J | .mk _ _ _ _ es => es
mutual
def J.raw : J → List AVal
 | .mk k n t ns es => z6 ⟨k, n, t, ns, J.rawL es⟩
def J.rawL : List J → List (List AVal)
 | [] => []
 | e :: r => e.raw :: J.rawL r
end
theorem ze9 : ∀ es : List J, J.rawL es = es.map J.raw
 | [] => rfl
 | e :: r => by unfold J.rawL; rw [ze9 r]; rfl
def J.val (j : J) : GJ := ⟨j.kind, j.num, j.text, j.names, j.elems.map J.raw⟩
theorem zdb (j : J) : j.raw = z6 j.val := by
 cases j with
 | mk k n t ns es => unfold J.raw J.val; rw [ze9]; rfl
theorem zs8 {x y : GJ} (h : z6 x = z6 y) : x = y := by
 obtain ⟨k, n, t, ns, es⟩ := x
 obtain ⟨k', n', t', ns', es'⟩ := y
 simp only [z6, List.cons.injEq, AVal.int.injEq, AVal.str.injEq, AVal.isl.injEq, true_and, and_true] at h
 obtain ⟨h1, h2, h3, h4, h5⟩ := h
 have g1 : ns = ns' := by
  refine (List.map_inj_right ?_).1 h4
  intro a b hab
  simp only [zp, List.cons.injEq, AVal.str.injEq, and_true] at hab
  exact hab
 have g2 : es = es' := by
  have : (fun r : List AVal => zz r) = id := rfl
  rw [show (zz : List AVal → List AVal) = id from rfl, List.map_id, List.map_id] at h5
  exact h5
 rw [h1, h2, h3, g1, g2]
theorem zsp (j : J) : um j.raw = some j.val := by
 rw [zdb]
 have h : ∃ x, z6 j.val = z6 x := ⟨_, rfl⟩
 unfold um
 rw [dif_pos h]
 congr 1
 exact (zs8 (Classical.choose_spec h)).symm
theorem zj2 {j : J} {i : Nat} (h : i < j.elems.length) : j.val.fE.getD i default = (j.elems[i]).raw := by
 simp [J.val, List.getD_eq_getElem?_getD, h]
theorem ws (j : J) : (j.val.fE.map zz).length = j.elems.length := by simp [J.val]
theorem zpl {j : J} {i : Nat} (h : i < j.elems.length) : um (j.val.fE.getD i default) = some (j.elems[i]).val := by rw [zj2 h, zsp]
def nsz : List (List UInt8) → Nat
 | [] => 0
 | n :: r => n.length + 1 + nsz r
mutual
def J.sz : J → Nat
 | .mk _ _ t ns es => 1 + t.length + nsz ns + J.szL es
def J.szL : List J → Nat
 | [] => 0
 | e :: r => e.sz + J.szL r
end
mutual
def J.nodes : J → Nat
 | .mk _ _ _ _ es => 1 + J.nodesL es
def J.nodesL : List J → Nat
 | [] => 0
 | e :: r => e.nodes + J.nodesL r
end
mutual
def J.depth : J → Nat
 | .mk _ _ _ _ es => 1 + J.depthL es
def J.depthL : List J → Nat
 | [] => 0
 | e :: r => max e.depth (J.depthL r)
end
theorem z03 (j : J) : 1 ≤ j.sz := by cases j; unfold J.sz; omega
theorem zh5 : ∀ {es : List J} {e : J}, e ∈ es → e.sz ≤ J.szL es
 | x :: r, e, h => by
  unfold J.szL
  rcases List.mem_cons.1 h with rfl | h
  ·omega
  ·have := zh5 h; omega
theorem zll : ∀ es : List J, es.length ≤ J.szL es
 | [] => by simp
 | e :: r => by
  unfold J.szL
  have := zll r
  have := z03 e
  simp only [List.length_cons]; omega
theorem zfw : ∀ {ns : List (List UInt8)} {n : List UInt8}, n ∈ ns → n.length ≤ nsz ns
 | x :: r, n, h => by
  unfold nsz
  rcases List.mem_cons.1 h with rfl | h
  ·omega
  ·have := zfw h; omega
theorem zgx : ∀ ns : List (List UInt8), ns.length ≤ nsz ns
 | [] => by simp
 | n :: r => by
  unfold nsz
  have := zgx r
  simp only [List.length_cons]; omega
mutual
theorem zbe : ∀ j : J, j.nodes ≤ j.sz
 | .mk _ _ t ns es => by unfold J.nodes J.sz; have := z4v es; omega
theorem z4v : ∀ es : List J, J.nodesL es ≤ J.szL es
 | [] => by simp [J.nodesL]
 | e :: r => by unfold J.nodesL J.szL; have := zbe e; have := z4v r; omega
end
mutual
theorem Uj : ∀ j : J, j.depth ≤ j.nodes
 | .mk _ _ t ns es => by unfold J.nodes J.depth; have := Vg es; omega
theorem Vg : ∀ es : List J, J.depthL es ≤ J.nodesL es
 | [] => by simp [J.depthL]
 | e :: r => by unfold J.nodesL J.depthL; have := Uj e; have := Vg r; omega
end
def J.ok (j : J) : Prop := j.sz ≤ 1073741824
theorem J.ok.elem {j e : J} (h : j.ok) (he : e ∈ j.elems) : e.ok := by
 cases j with
 | mk k n t ns es =>
  have h' : J.sz (.mk k n t ns es) ≤ 1073741824 := h
  rw [J.sz.eq_1 k n t ns es] at h'
  have := zh5 he
  simp only [J.elems] at this
  show e.sz ≤ 1073741824
  omega
theorem zbv {j e : J} (he : e ∈ j.elems) : e.sz < j.sz := by
 cases j with
 | mk k n t ns es =>
  have := zh5 he
  simp only [J.elems] at this
  rw [J.sz.eq_1 k n t ns es]
  omega
theorem J.ok.len {j : J} (h : j.ok) : j.elems.length ≤ 1073741824 ∧ j.text.length ≤ 1073741824 ∧ j.names.length ≤ 1073741824 ∧ ∀ n ∈ j.names, n.length ≤ 1073741824 := by
 cases j with
 | mk k n t ns es =>
  unfold J.ok J.sz at h
  have := zll es
  have := zgx ns
  refine ⟨?_, ?_, ?_, fun n hn => ?_⟩ <;> simp only [J.elems, J.text, J.names] at *
  ·omega
  ·omega
  ·omega
  ·have := zfw hn; omega
theorem Qh {α : Type} {f : Nat → Option α} {v : α} {d : Nat} (h : ∀ k, f k = some v ∨ (k < d ∧ f k = none)) : zd1 none f = some v :=
 znf (fun k o ho => by rcases h k with h1 | ⟨_, h1⟩ <;> rw [h1] at ho <;> cases ho; rfl) ⟨d, by rcases h d with h1 | ⟨h1, _⟩; exact h1; omega⟩
theorem Y5 {σ ρ : Type} {b : σ → Option (σ ⊕ ρ)} {s : σ} (h : b s = none) : Zg none b s = none := by rw [z21, h]
mutual
def J.lim : J → Int → Int → Bool × Int
 | .mk _ _ _ _ es, d, n => if n + 1 > 400 ∨ d > 20 then (false, n + 1) else J.limL es (d + 1) (n + 1)
def J.limL : List J → Int → Int → Bool × Int
 | [], _, n => (true, n)
 | e :: r, d, n => if (e.lim d n).1 = true then J.limL r d (e.lim d n).2 else (false, (e.lim d n).2)
end
mutual
theorem z8z : ∀ (j : J) (d n : Int), 0 ≤ n → ((j.lim d n).1 = true ↔ n + j.nodes ≤ 400 ∧ d + j.depth ≤ 21) ∧ ((j.lim d n).1 = true → (j.lim d n).2 = n + j.nodes)
 | .mk k m t ns es, d, n, h => by
  unfold J.lim J.nodes J.depth
  by_cases c : n + 1 > 400 ∨ d > 20
  ·rw [if_pos c]
   refine ⟨⟨fun h => (by cases h), fun h => ?_⟩, fun h => (by cases h)⟩
   omega
  ·rw [if_neg c]
   obtain ⟨h1, h2⟩ := zbf es (d + 1) (n + 1) (by omega) (by omega) (by omega)
   refine ⟨h1.trans ⟨fun h => by omega, fun h => by omega⟩, fun h => ?_⟩
   rw [h2 h]; omega
theorem zbf : ∀ (es : List J) (d n : Int), 0 ≤ n → n ≤ 400 → d ≤ 21 → ((J.limL es d n).1 = true ↔ n + J.nodesL es ≤ 400 ∧ d + J.depthL es ≤ 21) ∧ ((J.limL es d n).1 = true → (J.limL es d n).2 = n + J.nodesL es)
 | [], d, n, h, h', hd => by
  unfold J.limL J.nodesL J.depthL
  refine ⟨⟨fun _ => by omega, fun _ => rfl⟩, fun _ => by simp⟩
 | e :: r, d, n, h, h', hd => by
  unfold J.limL J.nodesL J.depthL
  obtain ⟨h1, h2⟩ := z8z e d n h
  by_cases c : (e.lim d n).1 = true
  ·rw [if_pos c]
   have h3 := h2 c
   have h4 := h1.1 c
   obtain ⟨g1, g2⟩ := zbf r d (e.lim d n).2 (by omega) (by omega) hd
   refine ⟨g1.trans ⟨fun h => by omega, fun h => by omega⟩, fun h => ?_⟩
   rw [g2 h]; omega
  ·rw [if_neg c]
   refine ⟨⟨fun h => (by cases h), fun hh => absurd (h1.2 (by omega)) c⟩, fun h => by cases h⟩
end
theorem z9r {j : J} {rec0 : GJ → Int → Int → Option (Bool × Int)} {B : Prop} (hj : j.ok) {d : Int} (hd : 1 ≤ d ∧ d ≤ 20)
 (hr : ∀ e ∈ j.elems, ∀ n : Int, 0 ≤ n → n ≤ 400 → rec0 e.val (d + 1) n = some (e.lim (d + 1) n) ∨ (B ∧ rec0 e.val (d + 1) n = none)) :
 ∀ (k i : Nat) (n : Int), i + k = j.elems.length → 0 ≤ n → n ≤ 400 →
  yv rec0 none j.val d n (i : Int) = some (J.limL (j.elems.drop i) (d + 1) n) ∨ (B ∧ yv rec0 none j.val d n (i : Int) = none)
 | 0, i, n, h, h0, h4 => by
  left
  have : i = j.elems.length := by omega
  subst this
  unfold yv
  rw [x9 (x := some (true, n)), List.drop_length]
  ·rfl
  ·unfold y6
   rw [if_neg (by rw [ws]; simp)]
   rfl
 | k + 1, i, n, h, h0, h4 => by
  have hi : i < j.elems.length := by omega
  have hl := hj.len
  have ih := z9r hj hd hr k (i + 1)
  have hb : y6 rec0 none j.val d n (i : Int) = (rec0 (j.elems[i]).val (d + 1) n).bind fun v8 => if (!v8.1) = true then some (.inr (false, v8.2)) else some (.inl (v8.2, ((i + 1 : Nat) : Int))) := by
   unfold y6
   rw [ws, if_pos (by simpa using hi), if_pos (by omega)]
   simp only [Int.toNat_natCast, zpl hi, Option.bind_some, Wi (show i ≤ 4611686018427387904 by omega), show W (d + 1) = d + 1 from zlh (by unfold inR; omega)]
   rfl
  rw [List.drop_eq_getElem_cons hi]
  unfold yv at ih ⊢
  rcases hr _ (List.getElem_mem hi) n h0 h4 with hc | ⟨hB, hc⟩
  ·rw [hc, Option.bind_some] at hb
   unfold J.limL
   obtain ⟨g1, g2⟩ := z8z j.elems[i] (d + 1) n h0
   cases hv : (j.elems[i].lim (d + 1) n).1 with
   | true =>
    rw [hv] at hb
    rw [jy (s' := ((j.elems[i].lim (d + 1) n).2, ((i + 1 : Nat) : Int))) hb, if_pos rfl]
    have := g2 hv
    have := g1.1 hv
    exact ih _ (by omega) (by omega) (by omega)
   | false =>
    left
    rw [hv] at hb
    rw [x9 (x := some (false, (j.elems[i].lim (d + 1) n).2)) hb, if_neg (by simp)]
  ·right
   rw [hc] at hb
   exact ⟨hB, Y5 hb⟩
theorem zic : ∀ (k : Nat) (j : J) (d n : Int), j.ok → 1 ≤ d → d ≤ 21 → 0 ≤ n → n ≤ 400 → yb none k j.val d n = some (j.lim d n) ∨ (k < j.sz ∧ yb none k j.val d n = none)
 | 0, j, d, n, hj, hd, hd', h0, h4 => .inr ⟨z03 j, rfl⟩
 | k + 1, j, d, n, hj, hd, hd', h0, h4 => by
  have hW : W (n + 1) = n + 1 := zlh (by unfold inR; omega)
  unfold yb xb
  rw [hW]
  by_cases c : n + 1 > 400 ∨ d > 20
  ·left
   rw [if_pos (by simpa using c)]
   cases j; unfold J.lim; rw [if_pos c]
  ·rw [if_neg (by simpa using c)]
   have := z9r (rec0 := yb none k) (B := k + 1 < j.sz) hj (d := d) (by omega) (fun e he n h0 h4 => by
    rcases zic k e (d + 1) n (hj.elem he) (by omega) (by omega) h0 h4 with h | ⟨h1, h2⟩
    ·exact .inl h
    ·exact .inr ⟨by have := zbv he; omega, h2⟩) j.elems.length 0 (n + 1) (by omega) (by omega) (by omega)
   have e : j.lim d n = J.limL j.elems (d + 1) (n + 1) := by cases j; rw [J.lim.eq_1, if_neg c]; rfl
   rw [e]
   exact this
theorem zpe {j : J} (hj : j.ok) : jk none j.val 1 0 = some (j.lim 1 0) :=
 Qh (d := j.sz) fun k => zic k j 1 0 hj (by omega) (by omega) (by omega) (by omega)
theorem Xz {l : List (List UInt8)} {i : Nat} (h : i < l.length) : l.getD i default = l[i] := zn4 h
theorem znk {p : List (List UInt8)} {x y : List UInt8} (h : y ≠ x) : (p ++ [y]).contains x = p.contains x := by simp [Ne.symm h]
theorem zkx {p : List (List UInt8)} {x : List UInt8} : (p ++ [x]).contains x = true := by simp
theorem zpq {p : List (List UInt8)} {x : List UInt8} : (x :: p).contains x = true := by simp
theorem zqm {p : List (List UInt8)} {x y : List UInt8} (h : x ≠ y) : (y :: p).contains x = p.contains x := by simp [h]
def ziu (p : List (List UInt8)) : List (List UInt8) → Bool
 | [] => false
 | x :: r => p.contains x || ziu (p ++ [x]) r
theorem zpw {M : List (List UInt8 × Int)} {k j : List UInt8} {v : Int} : lk Q4 (mp Q4 M k v) j = if k = j then some v else lk Q4 M j := by
 induction M with
 | nil =>
  simp only [mp, lk, Q4, Bool.and_true, beq_iff_eq]
  by_cases h : k = j
  ·rw [if_pos h, if_pos h.symm]
  ·rw [if_neg h, if_neg (Ne.symm h)]
 | cons x r ih =>
  obtain ⟨k', v'⟩ := x
  simp only [mp, Q4, Bool.and_true, beq_iff_eq]
  by_cases h : k = k'
  ·rw [if_pos h]
   simp only [lk, Q4, Bool.and_true, beq_iff_eq]
   by_cases h2 : k = j
   ·rw [if_pos h2, if_pos h2.symm]
   ·rw [if_neg h2, if_neg (Ne.symm h2), if_neg (by rw [← h]; exact Ne.symm h2)]
  ·rw [if_neg h]
   simp only [lk, Q4, Bool.and_true, beq_iff_eq]
   by_cases h2 : j = k'
   ·rw [if_pos h2, if_pos h2, if_neg (by rw [h2]; exact h)]
   ·rw [if_neg h2, if_neg h2]; exact ih
theorem Un {a0 : List (List UInt8)} (hl : a0.length ≤ 4611686018427387904) : ∀ (k i : Nat) (M : List (List UInt8 × Int)), i + k = a0.length → (∀ x, (((lk Q4 M x).getD 0) != 0) = (a0.take i).contains x) →
 xk none a0 (i : Int) M = some (ziu (a0.take i) (a0.drop i))
 | 0, i, M, h, hM => by
  have : i = a0.length := by omega
  subst this
  unfold xk
  rw [x9 (x := some false), List.drop_length]
  ·rfl
  ·unfold yx
   rw [if_neg (by simp)]
   rfl
 | k + 1, i, M, h, hM => by
  have hi : i < a0.length := by omega
  have ih := Un hl k (i + 1)
  have hb : yx none a0 (i : Int) M = if (a0.take i).contains a0[i] = true then some (.inr true) else some (.inl (((i + 1 : Nat) : Int), mp Q4 M a0[i] 1)) := by
   unfold yx
   rw [if_pos (by simpa using hi), if_pos (by simpa using hi)]
   simp only [Int.toNat_natCast, Xz hi, Wi (show i ≤ 4611686018427387904 by omega), hM]
   rfl
  rw [List.drop_eq_getElem_cons hi, ziu]
  unfold xk at ih ⊢
  cases hc : (a0.take i).contains a0[i] with
  | true =>
   rw [hc, if_pos rfl] at hb
   rw [x9 (x := some true) hb]; rfl
  | false =>
   rw [hc, if_neg (by simp)] at hb
   have ht : a0.take (i + 1) = a0.take i ++ [a0[i]] := by rw [List.take_succ_eq_append_getElem hi]
   rw [jy hb, ih _ (by omega) (fun x => ?_), ht, Bool.false_or]
   rw [zpw, ht]
   by_cases hx : a0[i] = x
   ·rw [if_pos hx, hx, zkx]; rfl
   ·rw [if_neg hx, hM, znk hx]
theorem zep {a0 : List (List UInt8)} (hl : a0.length ≤ 4611686018427387904) : j0 none a0 = some (ziu [] a0) :=
 Un hl a0.length 0 [] (by omega) (fun x => by simp [lk])
theorem z13 {a0 : List (List UInt8)} {a1 : List UInt8} (hl : a0.length ≤ 4611686018427387904) : ∀ (k i : Nat), i + k = a0.length →
 ∃ r, qh none a0 a1 (i : Int) = some r ∧ decide (r ≥ 0) = (a0.drop i).contains a1
 | 0, i, h => by
  have : i = a0.length := by omega
  subst this
  refine ⟨-1, ?_, by simp⟩
  unfold qh
  rw [x9 (x := some (-1))]
  unfold y1
  rw [if_neg (by simp)]
  rfl
 | k + 1, i, h => by
  have hi : i < a0.length := by omega
  obtain ⟨r, ih1, ih2⟩ := z13 (a1 := a1) hl k (i + 1) (by omega)
  have hb : y1 none a0 a1 (i : Int) = if (a1 == a0[i]) = true then some (.inr (i : Int)) else some (.inl ((i + 1 : Nat) : Int)) := by
   unfold y1
   rw [if_pos (by simpa using hi), if_pos (by simpa using hi)]
   simp only [Int.toNat_natCast, Xz hi, Wi (show i ≤ 4611686018427387904 by omega)]
   rfl
  rw [List.drop_eq_getElem_cons hi]
  unfold qh at ih1 ⊢
  by_cases hc : a1 = a0[i]
  ·rw [if_pos (by simpa using hc)] at hb
   exact ⟨i, x9 (x := some (i : Int)) hb, by rw [hc, zpq, decide_eq_true_eq]; omega⟩
  ·rw [if_neg (by simpa using hc)] at hb
   refine ⟨r, by rw [jy hb]; exact ih1, ?_⟩
   rw [ih2, zqm hc]
theorem z77 {a0 : List (List UInt8)} {a1 : List UInt8} (hl : a0.length ≤ 4611686018427387904) : yq none a0 a1 = some (a0.contains a1) := by
 obtain ⟨r, h1, h2⟩ := z13 (a1 := a1) hl a0.length 0 (by omega)
 unfold yq x3
 rw [show (0 : Int) = ((0 : Nat) : Int) from rfl, h1, Option.bind_some]
 rw [show ((0 : Nat) : Int) = (0 : Int) from rfl, h2]
 rfl
theorem z9w {a0 : List (List UInt8)} (hl : a0.length ≤ 4611686018427387904) : ∀ (k i : Nat), i + k = a0.length → qz none a0 (i : Int) = some (ziu (a0.take i) (a0.drop i))
 | 0, i, h => by
  have : i = a0.length := by omega
  subst this
  unfold qz
  rw [x9 (x := some false), List.drop_length]
  ·rfl
  ·unfold yk
   rw [if_neg (by simp)]
   rfl
 | k + 1, i, h => by
  have hi : i < a0.length := by omega
  have ih := z9w hl k (i + 1) (by omega)
  have hb : yk none a0 (i : Int) = if (a0.take i).contains a0[i] = true then some (.inr true) else some (.inl ((i + 1 : Nat) : Int)) := by
   unfold yk
   rw [if_pos (by simpa using hi), if_pos (by simpa using hi), if_pos (by simp; omega)]
   simp only [Int.toNat_natCast, Xz hi, Wi (show i ≤ 4611686018427387904 by omega)]
   rw [z77 (by rw [List.length_take]; omega), Option.bind_some]
   rfl
  rw [List.drop_eq_getElem_cons hi, ziu]
  unfold qz at ih ⊢
  cases hc : (a0.take i).contains a0[i] with
  | true =>
   rw [hc, if_pos rfl] at hb
   rw [x9 (x := some true) hb]; rfl
  | false =>
   rw [hc, if_neg (by simp)] at hb
   rw [jy hb, ih, List.take_succ_eq_append_getElem hi, Bool.false_or]
theorem zrk {a0 : List (List UInt8)} (hl : a0.length ≤ 4611686018427387904) : xn none a0 = some (ziu [] a0) := z9w hl a0.length 0 (by omega)
theorem z44 {a0 : List (List UInt8)} (hl : a0.length ≤ 4611686018427387904) (hn : ∀ n ∈ a0, n.length ≤ 4611686018427387904) : ∀ (k i : Nat), i + k = a0.length →
 ∃ r, x5 (fun (s : Unit) (x : (List UInt8)) => (yl none x).map fun o => (o, ())) none a0 (i : Int) () = some (r, ()) ∧ decide (r ≥ 0) = !((a0.drop i).all Lib.validD)
 | 0, i, h => by
  have : i = a0.length := by omega
  subst this
  refine ⟨-1, ?_, by simp⟩
  unfold x5
  rw [x9 (x := some (-1, ()))]
  unfold yi
  rw [if_neg (by simp)]
  rfl
 | k + 1, i, h => by
  have hi : i < a0.length := by omega
  obtain ⟨r, ih1, ih2⟩ := z44 hl hn k (i + 1) (by omega)
  have hb : yi (fun (s : Unit) (x : (List UInt8)) => (yl none x).map fun o => (o, ())) none a0 (i : Int) () = if (!Lib.validD a0[i]) = true then some (.inr ((i : Int), ())) else some (.inl (((i + 1 : Nat) : Int), ())) := by
   unfold yi yl
   rw [if_pos (by simpa using hi), if_pos (by simpa using hi)]
   simp only [Int.toNat_natCast, Xz hi, Wi (show i ≤ 4611686018427387904 by omega)]
   rw [zer (hn _ (List.getElem_mem hi))]
   rfl
  rw [List.drop_eq_getElem_cons hi]
  unfold x5 at ih1 ⊢
  cases hc : Lib.validD a0[i] with
  | false =>
   rw [hc, if_pos (by rfl)] at hb
   exact ⟨i, x9 (x := some ((i : Int), ())) hb, by rw [List.all_cons, hc, Bool.false_and, Bool.not_false, decide_eq_true_eq]; omega⟩
  | true =>
   rw [hc, if_neg (by simp)] at hb
   refine ⟨r, by rw [jy hb]; exact ih1, ?_⟩
   rw [ih2, List.all_cons, hc, Bool.true_and]
theorem znl {a0 : List (List UInt8)} (hl : a0.length ≤ 4611686018427387904) (hn : ∀ n ∈ a0, n.length ≤ 4611686018427387904) :
 qd (fun (s : Unit) (x : (List UInt8)) => (yl none x).map fun o => (o, ())) none a0 () = some (!(a0.all Lib.validD), ()) := by
 obtain ⟨r, h1, h2⟩ := z44 hl hn a0.length 0 (by omega)
 unfold qd xp
 rw [show (0 : Int) = ((0 : Nat) : Int) from rfl, h1, Option.bind_some]
 rw [show ((0 : Nat) : Int) = (0 : Int) from rfl, h2]
 rfl
def Wo (k n : Int) : Bool := decide (n = 0 ∨ (k = 1 ∧ n = 1) ∨ (k = 2 ∧ -9007199254740991 ≤ n ∧ n ≤ 9007199254740991))
def wfB (k n : Int) (t : List UInt8) (ns : List (List UInt8)) (len : Nat) : Bool :=
 Wo k n && (decide (t = []) || (decide (k = 3) && Lib.validD t)) && decide (len = 0 ∨ k ≥ 4) && (if k = 5 then decide (ns.length = len) && !ziu [] ns else decide (ns.length = 0)) && ns.all Lib.validD
def J.wf (j : J) : Bool := wfB j.kind j.num j.text j.names j.elems.length
theorem zoz {j : J} (hj : j.ok) (hk : 0 ≤ j.kind ∧ j.kind ≤ 5) {lo hi : Int} (hnum : Wo j.kind j.num = decide (lo ≤ j.num ∧ j.num ≤ hi)) : qo none j.val lo hi = some j.wf := by
 obtain ⟨hl1, hl2, hl3, hl4⟩ := hj.len
 have hd := zep (a0 := j.names) (by omega)
 have hf := znl (a0 := j.names) (by omega) (fun n hn => by have := hl4 n hn; omega)
 have hu := zer (s := j.text) (by omega)
 unfold qo J.wf wfB
 rw [hnum]
 rw [ws, show j.val.fK = j.kind from rfl, show j.val.fN = j.num from rfl, show j.val.fT = j.text from rfl, show j.val.fA = j.names from rfl, List.length_map]
 by_cases c1 : ¬ (lo ≤ j.num ∧ j.num ≤ hi)
 ·rw [if_pos (by simp only [Bool.or_eq_true, decide_eq_true_eq]; omega), decide_eq_false c1]; rfl
 rw [if_neg (by simp only [Bool.or_eq_true, decide_eq_true_eq]; omega)]
 by_cases c2 : j.text ≠ [] ∧ j.kind ≠ 3
 ·rw [if_pos (by simp; exact c2)]; simp [c2.1, c2.2]
 rw [if_neg (by simpa using c2)]
 by_cases c3 : j.elems.length > 0 ∧ j.kind ≠ 4 ∧ j.kind ≠ 5
 ·rw [if_pos (by simp; omega)]
  have : ¬ (j.elems.length = 0 ∨ j.kind ≥ 4) := by omega
  rw [decide_eq_false this, Bool.and_false, Bool.false_and, Bool.false_and]
 rw [if_neg (by simp; omega)]
 have e1 : decide (lo ≤ j.num ∧ j.num ≤ hi) = true := by rw [decide_eq_true_eq]; omega
 have e3 : decide (j.elems.length = 0 ∨ j.kind ≥ 4) = true := by simp only [decide_eq_true_eq]; omega
 have e2 : (decide (j.text = []) || (decide (j.kind = 3) && Lib.validD j.text)) = Lib.validD j.text := by
  by_cases ht : j.text = []
  ·rw [ht]; rfl
  ·have : j.kind = 3 := Decidable.byContradiction fun h => c2 ⟨ht, h⟩
   simp [ht, this]
 rw [e1, e2, e3]
 by_cases c5 : j.kind = 5
 ·rw [if_pos c5]
  by_cases cl : j.names.length = j.elems.length
  ·rw [if_pos (by simp [c5, cl]), hd, Option.bind_some]
   cases hdp : ziu [] j.names with
   | true => rw [if_pos (by simp [c5])]; simp
   | false =>
    rw [if_neg (by simp [c5, cl]), if_neg (by simp [c5]), hu, Option.bind_some]
    cases hv : Lib.validD j.text with
    | true => rw [if_pos (by rfl), hf, Option.bind_some]; simp [cl]
    | false => rw [if_neg (by simp), Option.bind_some]; simp
  ·rw [if_neg (by simp [c5]; omega), Option.bind_some, if_pos (by simp [c5]; omega)]
   simp [cl]
 ·rw [if_neg c5, if_neg (by simp [c5]), Option.bind_some, if_neg (by simp [c5])]
  by_cases cl : j.names.length = 0
  ·rw [if_neg (by simp [cl]), hu, Option.bind_some]
   cases hv : Lib.validD j.text with
   | true => rw [if_pos (by rfl), hf, Option.bind_some]; simp [cl]
   | false => rw [if_neg (by simp), Option.bind_some]; simp
  ·rw [if_pos (by simp [c5]; omega)]
   simp [cl]
theorem zs7 {j : J} (hj : j.ok) (hk : 0 ≤ j.kind ∧ j.kind ≤ 5) : j4 none j.val = some j.wf := by
 unfold j4
 have hkv : j.val.fK = j.kind := rfl
 rw [hkv]
 by_cases c1 : j.kind = 1
 ·rw [if_pos (by simpa using c1)]
  exact zoz hj hk (by unfold Wo; rw [decide_eq_decide]; omega)
 rw [if_neg (by simpa using c1)]
 by_cases c2 : j.kind = 2
 ·rw [if_pos (by simpa using c2)]
  exact zoz hj hk (by unfold Wo; rw [decide_eq_decide]; omega)
 rw [if_neg (by simpa using c2)]
 exact zoz hj hk (by unfold Wo; rw [decide_eq_decide]; omega)
mutual
def J.vd : J → Int
 | .mk k n t ns es => if k < 0 ∨ k > 5 then 7 else if wfB k n t ns es.length = true then J.vdL es else 3
def J.vdL : List J → Int
 | [] => 0
 | e :: r => if e.vd ≠ 0 then e.vd else J.vdL r
end
theorem z63 (j : J) : j.vd = if j.kind < 0 ∨ j.kind > 5 then 7 else if j.wf = true then J.vdL j.elems else 3 := by
 cases j; rw [J.vd.eq_1]; rfl
theorem z7l {j : J} {rec0 : GJ → Option Int} {B : Prop} (hj : j.ok) (hr : ∀ e ∈ j.elems, rec0 e.val = some e.vd ∨ (B ∧ rec0 e.val = none)) :
 ∀ (k i : Nat), i + k = j.elems.length →
  qm rec0 none j.val (i : Int) = some (J.vdL (j.elems.drop i)) ∨ (B ∧ qm rec0 none j.val (i : Int) = none)
 | 0, i, h => by
  left
  have : i = j.elems.length := by omega
  subst this
  unfold qm
  rw [x9 (x := some 0), List.drop_length]
  ·rfl
  ·unfold yy
   rw [if_neg (by rw [ws]; simp)]
   rfl
 | k + 1, i, h => by
  have hi : i < j.elems.length := by omega
  have hl := hj.len
  have ih := z7l hj hr k (i + 1) (by omega)
  have hb : yy rec0 none j.val (i : Int) = (rec0 (j.elems[i]).val).bind fun v8 => if (v8 != 0) = true then some (.inr v8) else some (.inl ((i + 1 : Nat) : Int)) := by
   unfold yy
   rw [ws, if_pos (by simpa using hi), if_pos (by omega)]
   simp only [Int.toNat_natCast, zpl hi, Option.bind_some, Wi (show i ≤ 4611686018427387904 by omega)]
   rfl
  rw [List.drop_eq_getElem_cons hi]
  unfold qm at ih ⊢
  rcases hr _ (List.getElem_mem hi) with hc | ⟨hB, hc⟩
  ·rw [hc, Option.bind_some] at hb
   unfold J.vdL
   by_cases hv : j.elems[i].vd = 0
   ·rw [if_neg (by simpa using hv)] at hb
    rw [jy hb, if_neg (by simpa using hv)]
    exact ih
   ·left
    rw [if_pos (by simpa using hv)] at hb
    rw [x9 (x := some (j.elems[i].vd)) hb, if_pos hv]
  ·right
   rw [hc] at hb
   exact ⟨hB, Y5 hb⟩
theorem zdg {j : J} {rec0 : GJ → Option Int} {B : Prop} (hj : j.ok) (hr : ∀ e ∈ j.elems, rec0 e.val = some e.vd ∨ (B ∧ rec0 e.val = none)) :
 q6 rec0 none j.val = some j.vd ∨ (B ∧ q6 rec0 none j.val = none) := by
 unfold q6
 rw [z63, show j.val.fK = j.kind from rfl]
 by_cases c : j.kind < 0 ∨ j.kind > 5
 ·left
  rw [if_pos (by simp only [Bool.or_eq_true, decide_eq_true_eq]; omega), if_pos c]
 rw [if_neg (by simp only [Bool.or_eq_true, decide_eq_true_eq]; omega), if_neg c, zs7 hj (by omega), Option.bind_some]
 cases hw : j.wf with
 | false => left; rw [if_pos (by rfl), if_neg (by simp)]
 | true =>
  rw [if_neg (by simp), if_pos rfl]
  exact z7l hj hr j.elems.length 0 (by omega)
theorem zlo : ∀ (k : Nat) (j : J), j.ok → qv none k j.val = some j.vd ∨ (k < j.sz ∧ qv none k j.val = none)
 | 0, j, hj => .inr ⟨z03 j, rfl⟩
 | k + 1, j, hj => by
  unfold qv
  exact zdg hj fun e he => by
   rcases zlo k e (hj.elem he) with h | ⟨h1, h2⟩
   ·exact .inl h
   ·exact .inr ⟨by have := zbv he; omega, h2⟩
theorem zpc {j : J} (hj : j.ok) : wa none j.val = some j.vd := Qh (d := j.sz) fun k => zlo k j hj
theorem zsz {j : J} (hj : j.ok) : kr none j.val = some j.vd := by
 rcases zdg (B := False) hj (fun e he => .inl (zpc (hj.elem he))) with h | ⟨h, _⟩
 ·exact h
 ·exact h.elim
def J.chk (j : J) : Int := if j.nodes ≤ 400 ∧ j.depth ≤ 20 then j.vd else 2
theorem z8h {j : J} (hj : j.ok) : xw none j.val = some j.chk := by
 obtain ⟨h1, _⟩ := z8z j 1 0 (by omega)
 unfold xw J.chk
 rw [zpe hj, Option.bind_some]
 by_cases c : j.nodes ≤ 400 ∧ j.depth ≤ 20
 ·have : (j.lim 1 0).1 = true := h1.2 (by omega)
  rw [if_neg (by rw [this]; simp), if_pos c, zsz hj]
  rfl
 ·have : (j.lim 1 0).1 = false := by
   cases hv : (j.lim 1 0).1 with
   | false => rfl
   | true => have := h1.1 hv; omega
  rw [if_pos (by rw [this]; rfl), if_neg c]
theorem z4j {j : J} {rec0 : GJ → Option (Int × Int)} {B : Prop} (hj : j.ok) (hr : ∀ e ∈ j.elems, rec0 e.val = some ((e.nodes : Int), (e.depth : Int)) ∨ (B ∧ rec0 e.val = none)) :
 ∀ (k i a c : Nat), i + k = j.elems.length → a + J.nodesL (j.elems.drop i) ≤ 4611686018427387904 → c ≤ 1073741824 → J.depthL (j.elems.drop i) ≤ 1073741824 →
  yr rec0 none j.val (a : Int) (c : Int) (i : Int) = some (((a + J.nodesL (j.elems.drop i) : Nat) : Int), ((max c (J.depthL (j.elems.drop i)) + 1 : Nat) : Int)) ∨ (B ∧ yr rec0 none j.val (a : Int) (c : Int) (i : Int) = none)
 | 0, i, a, c, h, ha, hc, hd => by
  left
  have : i = j.elems.length := by omega
  subst this
  unfold yr
  rw [x9 (x := some ((a : Int), ((c + 1 : Nat) : Int))), List.drop_length]
  ·simp [J.nodesL, J.depthL]
  ·unfold y3 xf
   rw [if_neg (by rw [ws]; simp), Wi (by omega)]
 | k + 1, i, a, c, h, ha, hcc, hd => by
  have hi : i < j.elems.length := by omega
  have hl := hj.len
  have ih := z4j hj hr k (i + 1)
  have hb : y3 rec0 none j.val (a : Int) (c : Int) (i : Int) = (rec0 (j.elems[i]).val).bind fun v9 => some (.inl (W ((a : Int) + v9.1), (if v9.2 > (c : Int) then v9.2 else (c : Int)), ((i + 1 : Nat) : Int))) := by
   unfold y3
   rw [ws, if_pos (by simpa using hi), if_pos (by omega)]
   simp only [Int.toNat_natCast, zpl hi, Option.bind_some, Wi (show i ≤ 4611686018427387904 by omega)]
  rw [List.drop_eq_getElem_cons hi] at ha hd ⊢
  unfold J.nodesL at ha ⊢
  unfold J.depthL at hd ⊢
  unfold yr at ih ⊢
  rcases hr _ (List.getElem_mem hi) with hc | ⟨hB, hc⟩
  ·rw [hc, Option.bind_some] at hb
   have e1 : W ((a : Int) + (j.elems[i].nodes : Int)) = ((a + j.elems[i].nodes : Nat) : Int) := by rw [zlh (by unfold inR; omega)]; omega
   have e2 : (if (j.elems[i].depth : Int) > (c : Int) then (j.elems[i].depth : Int) else (c : Int)) = ((max c j.elems[i].depth : Nat) : Int) := by
    by_cases hx : (j.elems[i].depth : Int) > (c : Int)
    ·rw [if_pos hx]; omega
    ·rw [if_neg hx]; omega
   simp only [e1, e2] at hb
   rw [jy hb]
   have := ih (a + j.elems[i].nodes) (max c j.elems[i].depth) (by omega) (by omega) (by omega) (by omega)
   rw [Nat.add_assoc, Nat.max_assoc] at this
   exact this
  ·right
   rw [hc] at hb
   exact ⟨hB, Y5 hb⟩
theorem z5m {j : J} {rec0 : GJ → Option (Int × Int)} {B : Prop} (hj : j.ok) (hr : ∀ e ∈ j.elems, rec0 e.val = some ((e.nodes : Int), (e.depth : Int)) ∨ (B ∧ rec0 e.val = none)) :
 ym rec0 none j.val = some ((j.nodes : Int), (j.depth : Int)) ∨ (B ∧ ym rec0 none j.val = none) := by
 have h1 := zbe j
 have h2 := Uj j
 have hk : j.sz ≤ 1073741824 := hj
 have e1 : j.nodes = 1 + J.nodesL j.elems := by cases j; rw [J.nodes.eq_1]; rfl
 have e2 : j.depth = 1 + J.depthL j.elems := by cases j; rw [J.depth.eq_1]; rfl
 have := z4j hj hr j.elems.length 0 1 0 (by omega) (by rw [List.drop_zero]; omega) (by omega) (by rw [List.drop_zero]; omega)
 rw [List.drop_zero] at this
 rw [e1, e2, Nat.add_comm 1 (J.depthL j.elems)]
 rw [Nat.max_eq_right (Nat.zero_le _)] at this
 exact this
theorem z9n : ∀ (k : Nat) (j : J), j.ok → yw none k j.val = some ((j.nodes : Int), (j.depth : Int)) ∨ (k < j.sz ∧ yw none k j.val = none)
 | 0, j, hj => .inr ⟨z03 j, rfl⟩
 | k + 1, j, hj => by
  unfold yw
  exact z5m hj fun e he => by
   rcases z9n k e (hj.elem he) with h | ⟨h1, h2⟩
   ·exact .inl h
   ·exact .inr ⟨by have := zbv he; omega, h2⟩
theorem znt {j : J} (hj : j.ok) : wn none j.val = some ((j.nodes : Int), (j.depth : Int)) := by
 rcases z5m (rec0 := jg none) (B := False) hj (fun e he => .inl (Qh (d := e.sz) fun k => z9n k e (hj.elem he))) with h | ⟨h, _⟩
 ·exact h
 ·exact h.elim
theorem zq3 (k n : Int) : (((n == 0) || ((k == 1) && (n == 1))) || (((k == 2) && (decide ((W (0 - 9007199254740991)) ≤ n))) && (decide (n ≤ 9007199254740991)))) = Wo k n := by
 have e : W (0 - 9007199254740991) = -9007199254740991 := zlh (by unfold inR; omega)
 rw [e]
 unfold Wo
 rw [Bool.eq_iff_iff]
 simp only [Bool.or_eq_true, Bool.and_eq_true, decide_eq_true_eq, beq_iff_eq]
 omega
theorem z15 {j : J} {rec0 : GJ → Option Int} (hj : j.ok) : ∀ (k i : Nat) (v : Bool), i + k = j.names.length →
 yz rec0 none j.val v (i : Int) = y9 rec0 none j.val (v && (j.names.drop i).all Lib.validD)
 | 0, i, v, h => by
  have : i = j.names.length := by omega
  subst this
  unfold yz
  rw [List.drop_length, List.all_nil, Bool.and_true, x9]
  unfold zw
  rw [show j.val.fA = j.names from rfl, List.length_map, if_neg (by simp)]
 | k + 1, i, v, h => by
  have hi : i < j.names.length := by omega
  have hl := hj.len
  have ih := z15 (rec0 := rec0) hj k (i + 1) (v && Lib.validD j.names[i]) (by omega)
  have hb : zw rec0 none j.val v (i : Int) = some (.inl ((v && Lib.validD j.names[i]), ((i + 1 : Nat) : Int))) := by
   unfold zw
   rw [show j.val.fA = j.names from rfl, List.length_map, if_pos (by simpa using hi), if_pos (by omega)]
   simp only [Int.toNat_natCast, Xz hi, Wi (show i ≤ 4611686018427387904 by omega)]
   rw [zak (by have := hl.2.2.2 _ (List.getElem_mem hi); omega)]
   cases v <;> rfl
  rw [List.drop_eq_getElem_cons hi, List.all_cons, ← Bool.and_assoc]
  unfold yz at ih ⊢
  rw [jy hb]
  exact ih
theorem z9h {j : J} {rec0 : GJ → Option Int} {B : Prop} (hj : j.ok) (hr : ∀ e ∈ j.elems, rec0 e.val = some e.vd ∨ (B ∧ rec0 e.val = none)) :
 zq rec0 none j.val = some j.vd ∨ (B ∧ zq rec0 none j.val = none) := by
 obtain ⟨hl1, hl2, hl3, hl4⟩ := hj.len
 have hend : ∀ v : Bool, (v && j.names.all Lib.validD) = j.wf → ¬ (j.kind < 0 ∨ j.kind > 5) →
  (zu rec0 none j.val v = some j.vd ∨ (B ∧ zu rec0 none j.val v = none)) := by
  intro v hv hk
  have h1 := z15 (rec0 := rec0) hj j.names.length 0 v (by omega)
  rw [List.drop_zero, hv] at h1
  have h2 : zu rec0 none j.val v = y9 rec0 none j.val j.wf := h1
  rw [h2, z63, if_neg hk]
  unfold y9
  cases hw : j.wf with
  | false => left; rw [if_pos (by rfl), if_neg (by simp)]
  | true =>
   rw [if_neg (by simp), if_pos rfl]
   exact z7l hj hr j.elems.length 0 (by omega)
 unfold zq
 rw [ws, show j.val.fK = j.kind from rfl, show j.val.fN = j.num from rfl, show j.val.fT = j.text from rfl, show j.val.fA = j.names from rfl, List.length_map, zq3]
 by_cases c : j.kind < 0 ∨ j.kind > 5
 ·left
  rw [if_pos (by simp only [Bool.or_eq_true, decide_eq_true_eq]; omega), z63, if_pos c]
 rw [if_neg (by simp only [Bool.or_eq_true, decide_eq_true_eq]; omega)]
 have hv : ∃ v1, (if ((((Wo j.kind j.num) == true) && ((j.text == ([] : List UInt8)) == false)) && ((j.kind == 3) == true)) = true then q7 none j.text else some default) = some v1 ∧
  (Wo j.kind j.num && ((j.text == ([] : List UInt8)) || ((j.kind == 3) && v1))) = (Wo j.kind j.num && (decide (j.text = []) || (decide (j.kind = 3) && Lib.validD j.text))) := by
  rw [zak (by omega)]
  cases Wo j.kind j.num with
  | false => exact ⟨default, by simp, rfl⟩
  | true =>
   by_cases ht : j.text = []
   ·exact ⟨default, by simp [ht], by simp [ht]⟩
   ·by_cases h3 : j.kind = 3
    ·exact ⟨_, by rw [if_pos (by simp [ht, h3])], by simp [ht, h3]⟩
    ·exact ⟨default, by rw [if_neg (by simp [h3])], by simp [ht, h3]⟩
 obtain ⟨v1, hv1, hv2⟩ := hv
 rw [hv1, Option.bind_some, hv2]
 have e3 : ((((j.elems.length : Nat) : Int) == 0) || decide (j.kind ≥ 4)) = decide (j.elems.length = 0 ∨ j.kind ≥ 4) := by
  rw [Bool.eq_iff_iff]; simp only [Bool.or_eq_true, decide_eq_true_eq, beq_iff_eq]; omega
 rw [e3]
 by_cases c5 : j.kind = 5
 ·rw [if_pos (by simpa using c5)]
  have e4 : (((j.names.length : Nat) : Int) == ((j.elems.length : Nat) : Int)) = decide (j.names.length = j.elems.length) := by
   rw [Bool.eq_iff_iff]; simp only [decide_eq_true_eq, beq_iff_eq]; omega
  rw [e4, zrk (by omega)]
  generalize hA : (((Wo j.kind j.num && (decide (j.text = []) || (decide (j.kind = 3) && Lib.validD j.text))) && decide (j.elems.length = 0 ∨ j.kind ≥ 4)) && decide (j.names.length = j.elems.length)) = A
  have hwf : j.wf = (A && !ziu [] j.names && j.names.all Lib.validD) := by
   rw [← hA]
   unfold J.wf wfB
   rw [if_pos c5]
   simp only [Bool.and_assoc]
  cases A with
  | false =>
   rw [if_neg (by simp), Option.bind_some]
   exact hend _ (by rw [hwf]; rfl) c
  | true =>
   rw [if_pos (by rfl), Option.bind_some]
   exact hend _ (by rw [hwf]) c
 ·rw [if_neg (by simpa using c5)]
  have e4 : (((j.names.length : Nat) : Int) == 0) = decide (j.names.length = 0) := by
   rw [Bool.eq_iff_iff]; simp only [decide_eq_true_eq, beq_iff_eq]; omega
  rw [e4]
  refine hend _ ?_ c
  unfold J.wf wfB
  rw [if_neg c5]
theorem zi6 : ∀ (k : Nat) (j : J), j.ok → yg none k j.val = some j.vd ∨ (k < j.sz ∧ yg none k j.val = none)
 | 0, j, hj => .inr ⟨z03 j, rfl⟩
 | k + 1, j, hj => by
  unfold yg
  exact z9h hj fun e he => by
   rcases zi6 k e (hj.elem he) with h | ⟨h1, h2⟩
   ·exact .inl h
   ·exact .inr ⟨by have := zbv he; omega, h2⟩
theorem zrf {j : J} (hj : j.ok) : we none j.val = some j.vd := by
 rcases z9h (rec0 := jb none) (B := False) hj (fun e he => .inl (Qh (d := e.sz) fun k => zi6 k e (hj.elem he))) with h | ⟨h, _⟩
 ·exact h
 ·exact h.elim
theorem z66 {j : J} (hj : j.ok) : qw none j.val = some j.chk := by
 unfold qw J.chk
 rw [znt hj, Option.bind_some]
 by_cases c : j.nodes ≤ 400 ∧ j.depth ≤ 20
 ·rw [if_neg (by simp only [Bool.or_eq_true, decide_eq_true_eq]; omega), if_pos c, zrf hj]; rfl
 ·rw [if_pos (by simp only [Bool.or_eq_true, decide_eq_true_eq]; omega), if_neg c]
def hexD : List UInt8 := [48, 49, 50, 51, 52, 53, 54, 55, 56, 57, 97, 98, 99, 100, 101, 102]
def qb (c : UInt8) : List UInt8 :=
 if c = 34 ∨ c = 92 then [92, c] else if c = 8 then [92, 98] else if c = 9 then [92, 116] else if c = 10 then [92, 110] else if c = 12 then [92, 102] else if c = 13 then [92, 114]
 else if c.toNat < 32 then [92, 117, 48, 48, hexD.getD (c.toNat / 16) 0, hexD.getD (c.toNat % 16) 0] else [c]
def qs : List UInt8 → List UInt8
 | [] => []
 | c :: r => qb c ++ qs r
def z6a (s : List UInt8) : List UInt8 := 34 :: (qs s ++ [34])
theorem zhq (c : UInt8) : (qb c).length ≤ 6 := by
 unfold qb
 repeat' split
 all_goals simp
theorem zli : ∀ s : List UInt8, (qs s).length ≤ 6 * s.length
 | [] => by simp [qs]
 | c :: r => by
  unfold qs
  have := zli r
  have := zhq c
  simp only [List.length_append, List.length_cons]; omega
theorem Js (s : List UInt8) : (z6a s).length ≤ 6 * s.length + 2 := by
 unfold z6a
 have := zli s
 simp only [List.length_append, List.length_cons, List.length_nil]; omega
theorem znm : ∀ n : Nat, n < 256 → (n = 8 ∨ n = 9 ∨ n = 10 ∨ n = 12 ∨ n = 13 ∨ Go.Lib.indexByte [8, 9, 10, 12, 13] n.toUInt8 = -1) := by decide +kernel
theorem zqr (n : Nat) (h : n < 256) (h1 : n ≠ 8) (h2 : n ≠ 9) (h3 : n ≠ 10) (h4 : n ≠ 12) (h5 : n ≠ 13) : Go.Lib.indexByte [8, 9, 10, 12, 13] n.toUInt8 = -1 := by
 have := znm n h
 simpa [h1, h2, h3, h4, h5] using this
theorem z4r : ∀ n : Nat, n < 32 → ((n : Int).fdiv (2 ^ (min (4 : Int).toNat (IntKind.bits .u8))) = ((n / 16 : Nat) : Int)) ∧ Zi .and .u8 (n : Int) 15 = ((n % 16 : Nat) : Int) ∧ IntKind.wrap .u8 ((n : Int).tdiv 16) = ((n / 16 : Nat) : Int) ∧
 (n : Int).tmod 16 = ((n % 16 : Nat) : Int) := by decide +kernel
theorem W4 : ∀ n : Nat, n < 16 → (([48, 49, 50, 51, 52, 53, 54, 55, 56, 57, 97, 98, 99, 100, 101, 102] : List UInt8).take (IntKind.wrap .u8 ((n : Int) + 1)).toNat).drop (n : Int).toNat = [hexD.getD n 0] ∧ IntKind.wrap .u8 ((n : Int) + 1) = ((n + 1 : Nat) : Int) ∧
 (hexD.getD n 0).toNat.toUInt8 = hexD.getD n 0 := by decide +kernel
theorem zhi : ∀ n : Nat, n < 2 → (([48, 49] : List UInt8).take (IntKind.wrap .u8 ((n : Int) + 1)).toNat).drop (n : Int).toNat = [hexD.getD n 0] := by decide +kernel
theorem zf5 (c : UInt8) : (((c.toNat : Nat) : Int).toNat.toUInt8) = c := by simp
theorem zqn (c : UInt8) : c.toNat.toUInt8 = c := by simp
theorem z1e {c : UInt8} {n : Nat} (h : c.toNat = n) (hn : n < 256) : c = n.toUInt8 := by
 apply UInt8.toNat_inj.1
 rw [h]
 exact (Nat.mod_eq_of_lt hn).symm
theorem zcr (c : UInt8) : c.toNat < 256 := c.toNat_lt
theorem zjy {c : UInt8} {z : Int} {n : Nat} (hz : z = n) (hn : n < 256) (h : (((c.toNat : Nat) : Int) == z) = true) : c = n.toUInt8 := z1e (by rw [beq_iff_eq] at h; omega) hn
theorem ze7 {l : List UInt8} {i : Nat} (h : i < l.length) : l.getD i 0 = l[i] := by simp [List.getD_eq_getElem?_getD, h]
theorem zo4 {a0 : List UInt8} {i : Nat} {v4 : List UInt8} (hi : i < a0.length) (hl : i ≤ 4611686018427387904) (hv : v4.length + 6 ≤ 140737488355328) :
 q9 none a0 (i : Int) v4 = some (.inl (((i + 1 : Nat) : Int), v4 ++ qb a0[i])) := by
 unfold q9 q8 kf
 rw [if_pos (by simpa using hi), if_pos (by omega), Option.bind_some]
 simp only [Int.toNat_natCast, ze7 hi, Wi hl]
 generalize a0[i] = c
 by_cases h1 : c = 34 ∨ c = 92
 ·have hq : qb c = [92, c] := by unfold qb; rw [if_pos h1]
  rw [if_pos (by rcases h1 with rfl | rfl <;> decide), if_pos ⟨by decide, by omega⟩, if_pos ⟨by rcases h1 with rfl | rfl <;> decide, by simp; omega⟩, hq, zqn]
  simp
 rw [if_neg (by
  rw [Bool.or_eq_true]
  rintro (h | h)
  ·exact h1 (.inl (zjy (n := 34) (z := 34) rfl (by decide) h))
  ·exact h1 (.inr (zjy (n := 92) (z := 92) rfl (by decide) h)))]
 by_cases h8 : c = 8 ∨ c = 9 ∨ c = 10 ∨ c = 12 ∨ c = 13
 ·rw [if_pos (by rcases h8 with rfl | rfl | rfl | rfl | rfl <;> decide), if_pos ⟨by decide, by omega⟩, if_pos (by rcases h8 with rfl | rfl | rfl | rfl | rfl <;> decide),
   if_pos ⟨by rcases h8 with rfl | rfl | rfl | rfl | rfl <;> decide, by simp; omega⟩]
  rcases h8 with rfl | rfl | rfl | rfl | rfl <;> simp [qb] <;> rfl
 have hn : c.toNat ≠ 8 ∧ c.toNat ≠ 9 ∧ c.toNat ≠ 10 ∧ c.toNat ≠ 12 ∧ c.toNat ≠ 13 := by
  refine ⟨fun h => h8 ?_, fun h => h8 ?_, fun h => h8 ?_, fun h => h8 ?_, fun h => h8 ?_⟩
  ·exact .inl (z1e h (by decide))
  ·exact .inr (.inl (z1e h (by decide)))
  ·exact .inr (.inr (.inl (z1e h (by decide))))
  ·exact .inr (.inr (.inr (.inl (z1e h (by decide)))))
  ·exact .inr (.inr (.inr (.inr (z1e h (by decide)))))
 have hq : qb c = if c.toNat < 32 then [92, 117, 48, 48, hexD.getD (c.toNat / 16) 0, hexD.getD (c.toNat % 16) 0] else [c] := by
  unfold qb
  rw [if_neg h1, if_neg (fun h => h8 (.inl h)), if_neg (fun h => h8 (.inr (.inl h))), if_neg (fun h => h8 (.inr (.inr (.inl h)))), if_neg (fun h => h8 (.inr (.inr (.inr (.inl h))))), if_neg (fun h => h8 (.inr (.inr (.inr (.inr h)))))]
 rw [zqr c.toNat (zcr c) hn.1 hn.2.1 hn.2.2.1 hn.2.2.2.1 hn.2.2.2.2, if_neg (by decide), hq]
 by_cases h32 : c.toNat < 32
 ·obtain ⟨f1, f2, _, _⟩ := z4r c.toNat h32
  rw [if_pos (decide_eq_true (by omega)), if_pos h32, f1, f2]
  simp only [Int.toNat_natCast]
  have g1 := W4 (c.toNat / 16) (by omega)
  have g2 := W4 (c.toNat % 16) (by omega)
  have e : ([48, 49, 50, 51, 52, 53, 54, 55, 56, 57, 97, 98, 99, 100, 101, 102] : List UInt8) = hexD := rfl
  have hx : hexD.length = 16 := rfl
  rw [e, g1.2.2, g2.2.2]
  have b1 := zcr (hexD.getD (c.toNat / 16) 0)
  have b2 := zcr (hexD.getD (c.toNat % 16) 0)
  rw [if_pos (by simp; omega), if_pos (by rw [hx]; omega), if_pos ⟨by omega, by simp; omega⟩, if_pos (by rw [hx]; omega), if_pos ⟨by omega, by simp; omega⟩]
  simp
 ·rw [if_neg (by rw [decide_eq_true_eq]; omega), if_neg h32, if_pos ⟨by have := zcr c; omega, by omega⟩, zqn]
theorem zh7 {a0 : List UInt8} (hl : a0.length ≤ 1073741824) : ∀ (k i : Nat) (v4 : List UInt8), i + k = a0.length → v4.length + 6 * k + 1 ≤ 140737488355328 →
 xm none a0 (i : Int) v4 = some (v4 ++ qs (a0.drop i) ++ [34])
 | 0, i, v4, h, hv => by
  have : i = a0.length := by omega
  subst this
  unfold xm
  rw [x9 (x := some (v4 ++ [34])), List.drop_length]
  ·simp [qs]
  ·unfold q9 je
   rw [if_neg (by simp), if_pos ⟨by decide, by omega⟩]
   rfl
 | k + 1, i, v4, h, hv => by
  have hi : i < a0.length := by omega
  have := zhq a0[i]
  have ih := zh7 hl k (i + 1) (v4 ++ qb a0[i]) (by omega) (by rw [List.length_append]; omega)
  rw [List.drop_eq_getElem_cons hi, qs]
  unfold xm at ih ⊢
  rw [jy (zo4 (v4 := v4) hi (by omega) (by omega)), ih]
  simp
theorem zpk {a0 a1 : List UInt8} (hl : a0.length ≤ 1073741824) (hv : a1.length + (6 * a0.length + 2) ≤ 140737488355328) : qy none a0 a1 = some (a1 ++ z6a a0) := by
 unfold qy
 rw [if_pos ⟨by decide, by omega⟩, show (0 : Int) = ((0 : Nat) : Int) from rfl, zh7 hl a0.length 0 _ (by omega) (by simp; omega)]
 unfold z6a
 simp
theorem znu {a0 : List UInt8} {i : Nat} {v2 : List UInt8} (hi : i < a0.length) (hl : i ≤ 4611686018427387904) (hv : v2.length + 6 ≤ 140737488355328) :
 qg none a0 v2 (i : Int) = some (.inl (v2 ++ qb a0[i], ((i + 1 : Nat) : Int))) := by
 unfold qg ze
 have hs : ((a0.take (((i + 1 : Nat) : Int)).toNat).drop ((i : Int)).toNat) = [a0[i]] := by
  rw [Int.toNat_natCast, Int.toNat_natCast, List.take_succ_eq_append_getElem hi, List.drop_left' (by rw [List.length_take]; omega)]
 rw [if_pos (by simpa using hi), if_pos (by omega)]
 simp only [Wi hl]
 rw [hs]
 simp only [Int.toNat_natCast, ze7 hi]
 generalize a0[i] = c
 by_cases h1 : c = 34
 ·subst h1; rw [if_pos (by decide), if_pos (by simp; omega)]; rfl
 rw [if_neg (fun h => h1 (zjy (n := 34) (z := 34) rfl (by decide) h))]
 by_cases h2 : c = 92
 ·subst h2; rw [if_pos (by decide), if_pos (by simp; omega)]; rfl
 rw [if_neg (fun h => h2 (zjy (n := 92) (z := 92) rfl (by decide) h))]
 by_cases h3 : c = 8
 ·subst h3; rw [if_pos (by decide), if_pos (by simp; omega)]; rfl
 rw [if_neg (fun h => h3 (zjy (n := 8) (z := 8) rfl (by decide) h))]
 by_cases h4 : c = 9
 ·subst h4; rw [if_pos (by decide), if_pos (by simp; omega)]; rfl
 rw [if_neg (fun h => h4 (zjy (n := 9) (z := 9) rfl (by decide) h))]
 by_cases h5 : c = 10
 ·subst h5; rw [if_pos (by decide), if_pos (by simp; omega)]; rfl
 rw [if_neg (fun h => h5 (zjy (n := 10) (z := 10) rfl (by decide) h))]
 by_cases h6 : c = 12
 ·subst h6; rw [if_pos (by decide), if_pos (by simp; omega)]; rfl
 rw [if_neg (fun h => h6 (zjy (n := 12) (z := 12) rfl (by decide) h))]
 by_cases h7 : c = 13
 ·subst h7; rw [if_pos (by decide), if_pos (by simp; omega)]; rfl
 rw [if_neg (fun h => h7 (zjy (n := 13) (z := 13) rfl (by decide) h))]
 have hq : qb c = if c.toNat < 32 then [92, 117, 48, 48, hexD.getD (c.toNat / 16) 0, hexD.getD (c.toNat % 16) 0] else [c] := by
  unfold qb
  rw [if_neg (by rintro (h | h); exact h1 h; exact h2 h), if_neg h3, if_neg h4, if_neg h5, if_neg h6, if_neg h7]
 rw [hq]
 by_cases h32 : c.toNat < 32
 ·obtain ⟨_, _, f3, f4⟩ := z4r c.toNat h32
  rw [if_pos (decide_eq_true (by omega)), if_pos h32, f3, f4]
  have g1 := W4 (c.toNat / 16) (by omega)
  have g2 := W4 (c.toNat % 16) (by omega)
  rw [zhi (c.toNat / 16) (by omega), g2.1, g1.2.1, g2.2.1]
  rw [if_pos ⟨by omega, by omega, by simp only [List.length_cons, List.length_nil]; omega⟩, if_pos (by simp only [List.length_cons, List.length_nil]; omega), if_pos ⟨by omega, by omega, by simp only [List.length_cons, List.length_nil]; omega⟩,
   if_pos (by simp only [List.length_append, List.length_cons, List.length_nil]; omega), if_pos (by simp only [List.length_append, List.length_cons, List.length_nil]; omega)]
  rfl
 ·rw [if_neg (by rw [decide_eq_true_eq]; omega), if_neg h32, if_pos ⟨by omega, by omega, by omega⟩, if_pos (by simp only [List.length_cons, List.length_nil]; omega)]
theorem ze1 {a0 : List UInt8} (hl : a0.length ≤ 1073741824) : ∀ (k i : Nat) (v2 : List UInt8), i + k = a0.length → v2.length + 6 * k + 1 ≤ 140737488355328 →
 xt none a0 v2 (i : Int) = some (v2 ++ qs (a0.drop i) ++ [34])
 | 0, i, v2, h, hv => by
  have : i = a0.length := by omega
  subst this
  unfold xt
  rw [x9 (x := some (v2 ++ [34])), List.drop_length]
  ·simp [qs]
  ·unfold qg jj
   rw [if_neg (by simp), if_pos (by simp; omega)]
 | k + 1, i, v2, h, hv => by
  have hi : i < a0.length := by omega
  have := zhq a0[i]
  have ih := ze1 hl k (i + 1) (v2 ++ qb a0[i]) (by omega) (by rw [List.length_append]; omega)
  rw [List.drop_eq_getElem_cons hi, qs]
  unfold xt at ih ⊢
  rw [jy (znu (v2 := v2) hi (by omega) (by omega)), ih]
  simp
theorem zpu {a0 : List UInt8} (hl : a0.length ≤ 1073741824) : xa none a0 = some (z6a a0) := by
 unfold xa
 rw [show (0 : Int) = ((0 : Nat) : Int) from rfl, ze1 hl a0.length 0 _ (by omega) (by simp; omega)]
 rfl
theorem ze8 : ∀ n : Nat, n < 10 → (([48, 49, 50, 51, 52, 53, 54, 55, 56, 57] : List UInt8).take ((n : Int) + 1).toNat).drop (n : Int).toNat = [UInt8.ofNat (48 + n)] := by decide +kernel
theorem zb5 {n k : Nat} (h : n < 10 ^ (k + 1)) : (Go.Lib.decDigits n).length ≤ k + 1 := by
 induction k generalizing n with
 | zero => rw [Go.Lib.decDigits, dif_pos (by simpa using h)]; simp
 | succ k ih =>
  rw [Go.Lib.decDigits]
  split
  ·simp
  ·have := ih (n := n / 10) (by rw [Nat.pow_succ] at h; omega)
   simp only [List.length_append, List.length_cons, List.length_nil]; omega
theorem z36 : ∀ (k n : Nat), n < 1000000000000000000 → y8 none k (n : Int) = some (Go.Lib.decDigits n) ∨ (k < n + 1 ∧ y8 none k (n : Int) = none)
 | 0, n, h => .inr ⟨by omega, rfl⟩
 | k + 1, n, h => by
  unfold y8 yn
  rw [if_neg (by simp)]
  rw [Go.Lib.decDigits]
  by_cases c : n < 10
  ·rw [dif_pos c, if_neg (by simp; omega), show W ((n : Int) + 1) = (n : Int) + 1 from zlh (by unfold inR; omega), if_pos ⟨by omega, by omega, by simp only [List.length_cons, List.length_nil]; omega⟩, ze8 n c]
   exact .inl rfl
  ·rw [dif_neg c, if_pos (by simp; omega)]
   have e1 : W ((n : Int).tdiv 10) = ((n / 10 : Nat) : Int) := by
    rw [show (n : Int).tdiv 10 = ((n / 10 : Nat) : Int) from by rw [Int.tdiv_eq_ediv_of_nonneg (by omega)]; omega]
    exact zlh (by unfold inR; omega)
   have e2 : (n : Int).tmod 10 = ((n % 10 : Nat) : Int) := by rw [Int.tmod_eq_emod_of_nonneg (by omega)]; omega
   rw [e1, e2]
   have hd : Go.Lib.decDigits (n % 10) = [UInt8.ofNat (48 + n % 10)] := by rw [Go.Lib.decDigits, dif_pos (by omega)]
   rcases z36 k (n / 10) (by omega) with h1 | ⟨h1, h2⟩
   ·rcases z36 k (n % 10) (by omega) with g1 | ⟨g1, g2⟩
    ·rw [h1, g1, Option.bind_some, Option.bind_some, hd]
     have := zb5 (n := n / 10) (k := 18) (by omega)
     rw [if_pos (by simp only [List.length_cons, List.length_nil]; omega)]
     exact .inl rfl
    ·rw [h1, g2, Option.bind_some]
     exact .inr ⟨by omega, rfl⟩
   ·rw [h2]
    exact .inr ⟨by omega, rfl⟩
theorem zt2 {n : Nat} (h : n < 1000000000000000000) : qk none (n : Int) = some (Go.Lib.decDigits n) := Qh (d := n + 1) fun k => z36 k n h
theorem zr5 {n : Int} (h : -9007199254740991 ≤ n ∧ n ≤ 9007199254740991) : qk none n = some (Go.Lib.itoa n) := by
 by_cases c : n < 0
 ·have hn : n = -((n.natAbs : Nat) : Int) := by omega
  refine Qh (d := n.natAbs + 2) fun k => ?_
  cases k with
  | zero => exact .inr ⟨by omega, rfl⟩
  | succ k =>
   unfold y8 yn
   rw [if_pos (by simpa using c), if_neg (by simp; omega), show W (0 - n) = ((n.natAbs : Nat) : Int) from by rw [show (0 - n) = ((n.natAbs : Nat) : Int) by omega]; exact zlh (by unfold inR; omega)]
   unfold Go.Lib.itoa
   rw [if_pos c]
   rcases z36 k n.natAbs (by omega) with h1 | ⟨h1, h2⟩
   ·have := zb5 (n := n.natAbs) (k := 18) (by omega)
    rw [h1, Option.bind_some, if_pos (by simp only [List.length_cons, List.length_nil]; omega)]
    exact .inl rfl
   ·rw [h2]; exact .inr ⟨by omega, rfl⟩
 ·have := zt2 (n := n.toNat) (by omega)
  rw [show ((n.toNat : Nat) : Int) = n by omega] at this
  rw [this]
  unfold Go.Lib.itoa
  rw [if_neg c]
theorem zka {n : Int} (h : -9007199254740991 ≤ n ∧ n ≤ 9007199254740991) : (Go.Lib.itoa n).length ≤ 20 := by
 unfold Go.Lib.itoa
 split
 ·have := zb5 (n := n.natAbs) (k := 18) (by omega)
  simp only [List.length_cons]; omega
 ·have := zb5 (n := n.toNat) (k := 18) (by omega)
  omega
theorem zmv {n : Int} (h : -9007199254740991 ≤ n ∧ n ≤ 9007199254740991) : wv none n = some (Go.Lib.itoa n) := by
 unfold wv wh wm
 rw [if_pos ⟨by omega, rfl⟩]
 rfl
def z0f (k : Int) (n : List UInt8) : List UInt8 := if k = 5 then z6a n ++ [58] else []
mutual
def J.enc : J → List UInt8
 | .mk k n t ns es => if k = 0 then [110, 117, 108, 108] else if k = 1 then (if n = 1 then [116, 114, 117, 101] else [102, 97, 108, 115, 101]) else if k = 2 then Go.Lib.itoa n else if k = 3 then z6a t
  else if k = 5 then 123 :: (J.encL k false ns es ++ [125]) else 91 :: (J.encL k false ns es ++ [93])
def J.encL (k : Int) : Bool → List (List UInt8) → List J → List UInt8
 | _, _, [] => []
 | b, ns, e :: r => (if b then [44] else []) ++ z0f k (ns.headD []) ++ e.enc ++ J.encL k true ns.tail r
end
theorem za6 {e : J} {r : List J} (h : J.vdL (e :: r) = 0) : e.vd = 0 ∧ J.vdL r = 0 := by
 rw [J.vdL] at h
 by_cases c : e.vd ≠ 0
 ·rw [if_pos c] at h; exact absurd h c
 ·rw [if_neg c] at h; exact ⟨Decidable.byContradiction c, h⟩
theorem V1 : ∀ {es : List J}, J.vdL es = 0 → ∀ e ∈ es, e.vd = 0
 | x :: r, h, e, he => by
  obtain ⟨h1, h2⟩ := za6 h
  rcases List.mem_cons.1 he with rfl | he
  ·exact h1
  ·exact V1 h2 e he
theorem zhp {j : J} (h : j.wf = true) : -9007199254740991 ≤ j.num ∧ j.num ≤ 9007199254740991 := by
 unfold J.wf wfB Wo at h
 simp only [Bool.and_eq_true, decide_eq_true_eq] at h
 omega
theorem Kp {j : J} (h : j.wf = true) (hk : j.kind = 5) : j.names.length = j.elems.length := by
 unfold J.wf wfB at h
 simp only [Bool.and_eq_true, hk, if_true, decide_eq_true_eq] at h
 exact h.1.2.1
theorem zog (k : Int) (n : List UInt8) : (z0f k n).length ≤ 6 * n.length + 3 := by
 unfold z0f
 split
 ·have := Js n
  simp only [List.length_append, List.length_cons, List.length_nil]; omega
 ·simp
mutual
theorem Uq : ∀ j : J, j.vd = 0 → j.enc.length + 1 ≤ 24 * j.sz
 | .mk k n t ns es, h => by
  have hw : (J.mk k n t ns es).wf = true ∧ J.vdL es = 0 := by
   rw [z63] at h
   by_cases c : (J.mk k n t ns es).kind < 0 ∨ (J.mk k n t ns es).kind > 5
   ·rw [if_pos c] at h; cases h
   rw [if_neg c] at h
   by_cases c2 : (J.mk k n t ns es).wf = true
   ·rw [if_pos c2] at h; exact ⟨c2, h⟩
   ·rw [if_neg c2] at h; cases h
  have hn := zka (zhp hw.1)
  simp only [J.num] at hn
  have hq := Js t
  have hl := z2h k false ns es hw.2 (fun hk => by have := Kp hw.1 hk; simp only [J.names, J.elems] at this; omega)
  rw [J.enc, J.sz]
  repeat' split
  all_goals first | omega | (simp only [List.length_append, List.length_cons, List.length_nil]; omega)
theorem z2h : ∀ (k : Int) (b : Bool) (ns : List (List UInt8)) (es : List J), J.vdL es = 0 → (k = 5 → es.length ≤ ns.length) → (J.encL k b ns es).length ≤ 24 * (J.szL es + nsz ns)
 | k, b, ns, [], h, hl => by simp [J.encL]
 | k, b, ns, e :: r, h, hl => by
  obtain ⟨h1, h2⟩ := za6 h
  rw [J.encL, J.szL]
  have he := Uq e h1
  cases ns with
  | nil =>
   have hk : k ≠ 5 := fun hk => by have := hl hk; simp at this
   have ih := z2h k true [] r h2 (fun hk' => absurd hk' hk)
   have : z0f k (([] : List (List UInt8)).headD []) = [] := by unfold z0f; rw [if_neg hk]
   rw [this]
   simp only [nsz, List.tail_nil] at ih ⊢
   cases b <;> simp only [List.length_append, List.length_cons, List.length_nil, if_true, Bool.false_eq_true, if_false] <;> omega
  | cons x ns =>
   have ih := z2h k true ns r h2 (fun hk => by have := hl hk; simp only [List.length_cons] at this; omega)
   have := zog k x
   simp only [nsz, List.tail_cons, List.headD_cons] at ih ⊢
   cases b <;> simp only [List.length_append, List.length_cons, List.length_nil, if_true, Bool.false_eq_true, if_false] <;> omega
end
theorem J.ok.szs {j : J} (h : j.ok) : J.szL j.elems + nsz j.names + 1 ≤ j.sz := by
 cases j; rw [J.sz]; simp only [J.elems, J.names]; omega
theorem Kf {ns : List (List UInt8)} {i : Nat} (h : i < ns.length) : nsz (ns.drop i) = ns[i].length + 1 + nsz (ns.drop (i + 1)) := by rw [List.drop_eq_getElem_cons h, nsz]
theorem z9f {es : List J} {i : Nat} (h : i < es.length) : J.szL (es.drop i) = es[i].sz + J.szL (es.drop (i + 1)) := by rw [List.drop_eq_getElem_cons h, J.szL]
theorem z0p {ns : List (List UInt8)} {i : Nat} (h : i < ns.length) : (ns.drop i).headD [] = ns[i] := by rw [List.drop_eq_getElem_cons h]; rfl
theorem zhf {j : J} {rec2 : GJ → List UInt8 → Option (List UInt8)} {B : Prop} {v1 : List UInt8} {z : UInt8} (hz : v1.getD 1 0 = z ∧ v1.length = 2) (hj : j.ok) (hw : j.wf = true) (hv : J.vdL j.elems = 0)
 (hr : ∀ e ∈ j.elems, ∀ a : List UInt8, a.length + 24 * e.sz ≤ 140737488355328 → rec2 e.val a = some (a ++ e.enc) ∨ (B ∧ rec2 e.val a = none)) :
 ∀ (k i : Nat) (a : List UInt8), i + k = j.elems.length → a.length + (24 * (J.szL (j.elems.drop i) + nsz (j.names.drop i)) + 1) ≤ 140737488355328 →
  zr rec2 none j.val v1 (i : Int) a = some (a ++ (J.encL j.kind (decide (0 < i)) (j.names.drop i) (j.elems.drop i) ++ [z])) ∨ (B ∧ zr rec2 none j.val v1 (i : Int) a = none)
 | 0, i, a, h, hl => by
  left
  have : i = j.elems.length := by omega
  subst this
  unfold zr
  rw [x9 (x := some (a ++ [z])), List.drop_length]
  ·simp [J.encL]
  ·show zf rec2 none j.val v1 (j.elems.length : Int) a = _
   unfold zf xl
   rw [if_neg (by rw [ws]; simp), if_pos (by rw [hz.2]; omega), show (1 : Int).toNat = 1 from rfl, hz.1, if_pos ⟨by have := zcr z; omega, by omega⟩, zf5]
 | k + 1, i, a, h, hl => by
  have hi : i < j.elems.length := by omega
  have hlen := hj.len
  have ih := zhf hz hj hw hv hr k (i + 1)
  rw [List.drop_eq_getElem_cons hi, J.encL]
  rw [z9f hi] at hl
  have he := Uq j.elems[i] (V1 hv _ (List.getElem_mem hi))
  -- the comma
  obtain ⟨a1, ha1⟩ : ∃ a1, a1 = a ++ (if decide (0 < i) = true then [44] else []) := ⟨_, rfl⟩
  have hb1 : zf rec2 none j.val v1 (i : Int) a = y7 rec2 none j.val v1 (i : Int) (j.elems[i]).val a1 := by
   unfold zf
   rw [ws, if_pos (by simpa using hi), if_pos (by omega)]
   simp only [Int.toNat_natCast, zpl hi, Option.bind_some]
   by_cases c : 0 < i
   ·rw [if_pos (by simpa using c), if_pos ⟨by decide, by omega⟩, ha1, if_pos (by simpa using c)]; rfl
   ·rw [if_neg (by simpa using c), ha1, if_neg (by simpa using c), List.append_nil]
  have hla1 : a1.length ≤ a.length + 1 := by rw [ha1, List.length_append]; split <;> simp
  have hkey : y7 rec2 none j.val v1 (i : Int) (j.elems[i]).val a1 = yu rec2 none j.val v1 (i : Int) (j.elems[i]).val (a1 ++ z0f j.kind ((j.names.drop i).headD [])) ∧
   a1.length + (z0f j.kind ((j.names.drop i).headD [])).length + (24 * ((j.elems[i]).sz + J.szL (j.elems.drop (i + 1)) + nsz (j.names.drop (i + 1)))) ≤ 140737488355328 := by
   unfold y7
   rw [show j.val.fK = j.kind from rfl, show j.val.fA = j.names from rfl, List.length_map]
   by_cases c5 : j.kind = 5
   ·have hn : i < j.names.length := by rw [Kp hw c5]; exact hi
    rw [Kf hn] at hl
    have hnl := hlen.2.2.2 _ (List.getElem_mem hn)
    have hq := Js j.names[i]
    rw [if_pos (by simpa using c5), if_pos (by omega), z0p hn]
    simp only [Int.toNat_natCast, Xz hn]
    rw [zpk hnl (by omega), Option.bind_some, if_pos ⟨by decide, by rw [List.length_append]; omega⟩]
    unfold z0f
    rw [if_pos c5]
    refine ⟨?_, ?_⟩
    ·rw [List.append_assoc]; rfl
    ·rw [List.length_append]; simp only [List.length_cons, List.length_nil]; omega
   ·rw [if_neg (by simpa using c5)]
    have hk : z0f j.kind ((j.names.drop i).headD []) = [] := by unfold z0f; rw [if_neg c5]
    rw [hk]
    have : nsz (j.names.drop (i + 1)) ≤ nsz (j.names.drop i) := by
     by_cases hn : i < j.names.length
     ·rw [Kf hn]; omega
     ·rw [List.drop_of_length_le (by omega)]; simp [nsz]
    refine ⟨by rw [List.append_nil], ?_⟩
    simp only [List.length_nil]; omega
  obtain ⟨hk1, hk2⟩ := hkey
  obtain ⟨a2, ha2⟩ : ∃ a2, a2 = a1 ++ z0f j.kind ((j.names.drop i).headD []) := ⟨_, rfl⟩
  rw [← ha2] at hk1
  have hla2 : a2.length = a1.length + (z0f j.kind ((j.names.drop i).headD [])).length := by rw [ha2, List.length_append]
  rw [← hla2] at hk2
  have hb : zf rec2 none j.val v1 (i : Int) a = (rec2 (j.elems[i]).val a2).bind fun v18 => some (.inl (((i + 1 : Nat) : Int), v18)) := by
   rw [hb1, hk1]
   unfold yu
   rw [Wi (by omega)]
  unfold zr at ih ⊢
  rcases hr _ (List.getElem_mem hi) a2 (by omega) with hc | ⟨hB, hc⟩
  ·rw [hc, Option.bind_some] at hb
   rw [jy hb]
   have := ih (a2 ++ (j.elems[i]).enc) (by omega) (by rw [List.length_append]; omega)
   rw [show decide (0 < i + 1) = true from by simp] at this
   rw [List.tail_drop]
   have e : a2 ++ (j.elems[i]).enc ++ (J.encL j.kind true (j.names.drop (i + 1)) (j.elems.drop (i + 1)) ++ [z]) = a ++ ((if decide (0 < i) = true then [44] else []) ++ z0f j.kind ((j.names.drop i).headD []) ++ (j.elems[i]).enc ++ J.encL j.kind true (j.names.drop (i + 1)) (j.elems.drop (i + 1)) ++ [z]) := by
    rw [ha2, ha1]; simp only [List.append_assoc]
   rw [e] at this
   exact this
  ·right
   rw [hc] at hb
   exact ⟨hB, Y5 hb⟩
theorem Jv {j : J} (h : j.vd = 0) : (0 ≤ j.kind ∧ j.kind ≤ 5) ∧ j.wf = true ∧ J.vdL j.elems = 0 := by
 rw [z63] at h
 by_cases c : j.kind < 0 ∨ j.kind > 5
 ·rw [if_pos c] at h; cases h
 rw [if_neg c] at h
 by_cases c2 : j.wf = true
 ·rw [if_pos c2] at h; exact ⟨by omega, c2, h⟩
 ·rw [if_neg c2] at h; cases h
theorem zis (j : J) : j.enc = if j.kind = 0 then [110, 117, 108, 108] else if j.kind = 1 then (if j.num = 1 then [116, 114, 117, 101] else [102, 97, 108, 115, 101]) else if j.kind = 2 then Go.Lib.itoa j.num else if j.kind = 3 then z6a j.text
 else if j.kind = 5 then 123 :: (J.encL j.kind false j.names j.elems ++ [125]) else 91 :: (J.encL j.kind false j.names j.elems ++ [93]) := by
 cases j; rw [J.enc]; rfl
theorem zoc {j : J} {rec2 : GJ → List UInt8 → Option (List UInt8)} {B : Prop} (hj : j.ok) (hv : j.vd = 0) {a : List UInt8} (ha : a.length + 24 * j.sz ≤ 140737488355328)
 (hr : ∀ e ∈ j.elems, ∀ a : List UInt8, a.length + 24 * e.sz ≤ 140737488355328 → rec2 e.val a = some (a ++ e.enc) ∨ (B ∧ rec2 e.val a = none)) :
 xc rec2 none j.val a = some (a ++ j.enc) ∨ (B ∧ xc rec2 none j.val a = none) := by
 obtain ⟨hk, hw, hve⟩ := Jv hv
 have hlen := hj.len
 have hsz := hj.szs
 have hel := Uq j hv
 unfold xc
 rw [zis] at hel ⊢
 rw [show j.val.fK = j.kind from rfl, show j.val.fN = j.num from rfl, show j.val.fT = j.text from rfl]
 by_cases c0 : j.kind = 0
 ·rw [if_pos c0] at hel ⊢
  rw [if_pos (by simpa using c0), if_pos (by simp only [List.length_cons, List.length_nil] at hel ⊢; omega)]
  exact .inl rfl
 rw [if_neg c0] at hel ⊢
 rw [if_neg (by simpa using c0)]
 by_cases c1 : j.kind = 1
 ·rw [if_pos c1] at hel ⊢
  rw [if_pos (by simpa using c1)]
  unfold jn xy
  by_cases cn : j.num = 1
  ·rw [if_pos cn] at hel ⊢
   rw [if_pos (by simpa using cn), Option.bind_some, Option.bind_some, if_pos (by simp only [List.length_cons, List.length_nil] at hel ⊢; omega)]
   exact .inl rfl
  ·rw [if_neg cn] at hel ⊢
   rw [if_neg (by simpa using cn), Option.bind_some, Option.bind_some, if_pos (by simp only [List.length_cons, List.length_nil] at hel ⊢; omega)]
   exact .inl rfl
 rw [if_neg c1] at hel ⊢
 rw [if_neg (by simpa using c1)]
 by_cases c2 : j.kind = 2
 ·rw [if_pos c2] at hel ⊢
  rw [if_pos (by simpa using c2), zmv (zhp hw), Option.bind_some, if_pos (by omega)]
  exact .inl rfl
 rw [if_neg c2] at hel ⊢
 rw [if_neg (by simpa using c2)]
 by_cases c3 : j.kind = 3
 ·rw [if_pos c3]
  rw [if_pos (by simpa using c3), zpk hlen.2.1 (by
   have : j.text.length + 1 ≤ j.sz := by cases j; rw [J.sz]; simp only [J.text]; omega
   omega)]
  exact .inl rfl
 rw [if_neg c3] at hel ⊢
 rw [if_neg (by simpa using c3)]
 unfold x8 ql
 rw [show j.val.fK = j.kind from rfl]
 have fin : ∀ (v1 : List UInt8) (y z : UInt8), v1.getD 1 0 = z ∧ v1.length = 2 → v1.getD 0 0 = y →
  (((if (0 : Int) ≤ 0 ∧ 0 < (v1.length : Int) then if (0 ≤ (((v1.getD (0 : Int).toNat 0).toNat : Nat) : Int) ∧ (((v1.getD (0 : Int).toNat 0).toNat : Nat) : Int) < 256) ∧ a.length + 1 ≤ 140737488355328 then
   zr rec2 none j.val v1 0 (a ++ [(((v1.getD (0 : Int).toNat 0).toNat : Nat) : Int).toNat.toUInt8]) else none else none).bind fun v4 => some v4) = some (a ++ y :: (J.encL j.kind false j.names j.elems ++ [z]))) ∨
  (B ∧ ((if (0 : Int) ≤ 0 ∧ 0 < (v1.length : Int) then if (0 ≤ (((v1.getD (0 : Int).toNat 0).toNat : Nat) : Int) ∧ (((v1.getD (0 : Int).toNat 0).toNat : Nat) : Int) < 256) ∧ a.length + 1 ≤ 140737488355328 then
   zr rec2 none j.val v1 0 (a ++ [(((v1.getD (0 : Int).toNat 0).toNat : Nat) : Int).toNat.toUInt8]) else none else none).bind fun v4 => some v4) = none) := by
  intro v1 y z h1 h2
  rw [if_pos (by rw [h1.2]; omega), show (0 : Int).toNat = 0 from rfl, h2, if_pos ⟨by have := zcr y; omega, by omega⟩, zf5]
  have := zhf h1 hj hw hve hr j.elems.length 0 (a ++ [y]) (by omega) (by rw [List.drop_zero, List.drop_zero, List.length_append]; simp only [List.length_cons, List.length_nil]; omega)
  rw [List.drop_zero, List.drop_zero, show decide (0 < 0) = false from rfl, show ((0 : Nat) : Int) = 0 from rfl] at this
  rcases this with h | ⟨hB, h⟩
  ·rw [h, Option.bind_some]
   left; simp
  ·rw [h]; exact .inr ⟨hB, rfl⟩
 by_cases c5 : j.kind = 5
 ·rw [if_pos c5, if_pos (by simpa using c5)]
  exact fin [123, 125] 123 125 ⟨rfl, rfl⟩ rfl
 ·rw [if_neg c5, if_neg (by simpa using c5)]
  exact fin [91, 93] 91 93 ⟨rfl, rfl⟩ rfl
theorem zlp : ∀ (k : Nat) (j : J) (a : List UInt8), j.ok → j.vd = 0 → a.length + 24 * j.sz ≤ 140737488355328 → xj none k j.val a = some (a ++ j.enc) ∨ (k < j.sz ∧ xj none k j.val a = none)
 | 0, j, a, hj, hv, ha => .inr ⟨z03 j, rfl⟩
 | k + 1, j, a, hj, hv, ha => by
  unfold xj
  exact zoc hj hv ha fun e he a' ha' => by
   rcases zlp k e a' (hj.elem he) (V1 (Jv hv).2.2 e he) ha' with h | ⟨h1, h2⟩
   ·exact .inl h
   ·exact .inr ⟨by have := zbv he; omega, h2⟩
theorem zsw {j : J} (hj : j.ok) (hv : j.vd = 0) : wl none j.val [] = some j.enc :=
 Qh (d := j.sz) fun k => by
  have := zlp k j [] hj hv (by have : j.sz ≤ 1073741824 := hj; simp; omega)
  simpa using this
theorem zfg {j : J} {rec6 : GJ → Option (List UInt8)} {B : Prop} (hj : j.ok) (hw : j.wf = true) (hv : J.vdL j.elems = 0) (hk : 4 ≤ j.kind)
 (hr : ∀ e ∈ j.elems, rec6 e.val = some e.enc ∨ (B ∧ rec6 e.val = none)) :
 ∀ (k i : Nat) (a : List UInt8), i + k = j.elems.length → a.length + (24 * (J.szL (j.elems.drop i) + nsz (j.names.drop i)) + 1) ≤ 140737488355328 →
  (y5 rec6 none j.val a (i : Int) = some ((if j.kind = 5 then 123 else 91) :: (a ++ J.encL j.kind (decide (0 < i)) (j.names.drop i) (j.elems.drop i) ++ [if j.kind = 5 then 125 else 93])) ∨ (B ∧ y5 rec6 none j.val a (i : Int) = none))
 | 0, i, a, h, hl => by
  left
  have : i = j.elems.length := by omega
  subst this
  unfold y5
  rw [x9 (x := some ((if j.kind = 5 then 123 else 91) :: (a ++ [if j.kind = 5 then 125 else 93]))), List.drop_length]
  ·simp [J.encL]
  ·unfold zm qu
   rw [if_neg (by rw [ws]; simp), show j.val.fK = j.kind from rfl]
   by_cases c5 : j.kind = 5
   ·rw [if_pos (by simpa using c5), if_pos (by simp only [List.length_cons, List.length_nil]; omega), if_pos (by simp only [List.length_append, List.length_cons, List.length_nil]; omega), if_pos c5, if_pos c5]; rfl
   ·rw [if_neg (by simpa using c5), if_pos (by simp only [List.length_cons, List.length_nil]; omega), if_pos (by simp only [List.length_append, List.length_cons, List.length_nil]; omega), if_neg c5, if_neg c5]; rfl
 | k + 1, i, a, h, hl => by
  have hi : i < j.elems.length := by omega
  have hlen := hj.len
  have ih := zfg hj hw hv hk hr k (i + 1)
  rw [List.drop_eq_getElem_cons hi, J.encL]
  rw [z9f hi] at hl
  have he := Uq j.elems[i] (V1 hv _ (List.getElem_mem hi))
  obtain ⟨a1, ha1⟩ : ∃ a1, a1 = a ++ (if decide (0 < i) = true then [44] else []) := ⟨_, rfl⟩
  have hb1 : zm rec6 none j.val a (i : Int) = zn rec6 none j.val (i : Int) (j.elems[i]).val a1 := by
   unfold zm
   rw [ws, if_pos (by simpa using hi), if_pos (by omega)]
   simp only [Int.toNat_natCast, zpl hi, Option.bind_some]
   by_cases c : 0 < i
   ·rw [if_pos (by simpa using c), if_pos (by simp only [List.length_cons, List.length_nil]; omega), ha1, if_pos (by simpa using c)]
   ·rw [if_neg (by simpa using c), ha1, if_neg (by simpa using c), List.append_nil]
  have hla1 : a1.length ≤ a.length + 1 := by rw [ha1, List.length_append]; split <;> simp
  have hkey : zn rec6 none j.val (i : Int) (j.elems[i]).val a1 = y4 rec6 none j.val (i : Int) (j.elems[i]).val (a1 ++ z0f j.kind ((j.names.drop i).headD [])) ∧
   a1.length + (z0f j.kind ((j.names.drop i).headD [])).length + (24 * ((j.elems[i]).sz + J.szL (j.elems.drop (i + 1)) + nsz (j.names.drop (i + 1)))) ≤ 140737488355328 := by
   unfold zn
   rw [show j.val.fK = j.kind from rfl, show j.val.fA = j.names from rfl, List.length_map]
   by_cases c5 : j.kind = 5
   ·have hn : i < j.names.length := by rw [Kp hw c5]; exact hi
    rw [Kf hn] at hl
    have hnl := hlen.2.2.2 _ (List.getElem_mem hn)
    have hq := Js j.names[i]
    rw [if_pos (by simpa using c5), if_pos (by omega), z0p hn]
    simp only [Int.toNat_natCast, Xz hn]
    rw [zpu hnl, Option.bind_some, if_pos (by simp only [List.length_cons, List.length_nil]; omega), if_pos (by simp only [List.length_append, List.length_cons, List.length_nil]; omega)]
    unfold z0f
    rw [if_pos c5]
    refine ⟨rfl, ?_⟩
    rw [List.length_append]; simp only [List.length_cons, List.length_nil]; omega
   ·rw [if_neg (by simpa using c5)]
    have hk : z0f j.kind ((j.names.drop i).headD []) = [] := by unfold z0f; rw [if_neg c5]
    rw [hk]
    have : nsz (j.names.drop (i + 1)) ≤ nsz (j.names.drop i) := by
     by_cases hn : i < j.names.length
     ·rw [Kf hn]; omega
     ·rw [List.drop_of_length_le (by omega)]; simp [nsz]
    refine ⟨by rw [List.append_nil], ?_⟩
    simp only [List.length_nil]; omega
  obtain ⟨hk1, hk2⟩ := hkey
  obtain ⟨a2, ha2⟩ : ∃ a2, a2 = a1 ++ z0f j.kind ((j.names.drop i).headD []) := ⟨_, rfl⟩
  rw [← ha2] at hk1
  have hla2 : a2.length = a1.length + (z0f j.kind ((j.names.drop i).headD [])).length := by rw [ha2, List.length_append]
  rw [← hla2] at hk2
  unfold y4 at hk1
  rw [Wi (by omega)] at hk1
  unfold y5 at ih ⊢
  rcases hr _ (List.getElem_mem hi) with hc | ⟨hB, hc⟩
  ·rw [hc, Option.bind_some, if_pos (by omega)] at hk1
   rw [jy (hb1.trans hk1)]
   have := ih (a2 ++ (j.elems[i]).enc) (by omega) (by rw [List.length_append]; omega)
   rw [show decide (0 < i + 1) = true from by simp] at this
   rw [List.tail_drop]
   have e : a2 ++ (j.elems[i]).enc ++ J.encL j.kind true (j.names.drop (i + 1)) (j.elems.drop (i + 1)) = a ++ ((if decide (0 < i) = true then [44] else []) ++ z0f j.kind ((j.names.drop i).headD []) ++ (j.elems[i]).enc ++ J.encL j.kind true (j.names.drop (i + 1)) (j.elems.drop (i + 1))) := by
    rw [ha2, ha1]; simp only [List.append_assoc]
   rw [e] at this
   exact this
  ·right
   rw [hc] at hk1
   exact ⟨hB, Y5 (hb1.trans hk1)⟩
theorem zf6 {j : J} {rec6 : GJ → Option (List UInt8)} {B : Prop} (hj : j.ok) (hv : j.vd = 0) (hr : ∀ e ∈ j.elems, rec6 e.val = some e.enc ∨ (B ∧ rec6 e.val = none)) :
 zk rec6 none j.val = some j.enc ∨ (B ∧ zk rec6 none j.val = none) := by
 obtain ⟨hk, hw, hve⟩ := Jv hv
 have hlen := hj.len
 have hsz := hj.szs
 have hjs : j.sz ≤ 1073741824 := hj
 unfold zk
 rw [zis]
 rw [show j.val.fK = j.kind from rfl, show j.val.fN = j.num from rfl, show j.val.fT = j.text from rfl]
 by_cases c0 : j.kind = 0
 ·rw [if_pos c0, if_pos (by simpa using c0)]; exact .inl rfl
 rw [if_neg c0, if_neg (by simpa using c0)]
 by_cases c1 : j.kind = 1
 ·rw [if_pos c1, if_pos (by simpa using c1)]
  by_cases cn : j.num = 1
  ·rw [if_pos cn, if_pos (by simpa using cn)]; exact .inl rfl
  ·rw [if_neg cn, if_neg (by simpa using cn)]; exact .inl rfl
 rw [if_neg c1, if_neg (by simpa using c1)]
 by_cases c2 : j.kind = 2
 ·rw [if_pos c2, if_pos (by simpa using c2), zr5 (zhp hw)]; exact .inl rfl
 rw [if_neg c2, if_neg (by simpa using c2)]
 by_cases c3 : j.kind = 3
 ·rw [if_pos c3, if_pos (by simpa using c3), zpu hlen.2.1]; exact .inl rfl
 rw [if_neg c3, if_neg (by simpa using c3)]
 have := zfg hj hw hve (by omega) hr j.elems.length 0 [] (by omega) (by rw [List.drop_zero, List.drop_zero]; simp only [List.length_nil]; omega)
 rw [List.drop_zero, List.drop_zero, show decide (0 < 0) = false from rfl, show ((0 : Nat) : Int) = 0 from rfl, List.nil_append] at this
 by_cases c5 : j.kind = 5
 ·rw [if_pos c5]; rw [if_pos c5, if_pos c5] at this; exact this
 ·rw [if_neg c5]; rw [if_neg c5, if_neg c5] at this; exact this
theorem zlj : ∀ (k : Nat) (j : J), j.ok → j.vd = 0 → ya none k j.val = some j.enc ∨ (k < j.sz ∧ ya none k j.val = none)
 | 0, j, hj, hv => .inr ⟨z03 j, rfl⟩
 | k + 1, j, hj, hv => by
  unfold ya
  exact zf6 hj hv fun e he => by
   rcases zlj k e (hj.elem he) (V1 (Jv hv).2.2 e he) with h | ⟨h1, h2⟩
   ·exact .inl h
   ·exact .inr ⟨by have := zbv he; omega, h2⟩
theorem zpv {j : J} (hj : j.ok) (hv : j.vd = 0) : w4 none j.val = some j.enc := by
 rcases zf6 (rec6 := j1 none) (B := False) hj hv (fun e he => .inl (Qh (d := e.sz) fun k => zlj k e (hj.elem he) (V1 (Jv hv).2.2 e he))) with h | ⟨h, _⟩
 ·exact h
 ·exact h.elim
theorem z97 {v : J} (h : v.chk = 0) : v.vd = 0 := by
 unfold J.chk at h
 split at h
 ·exact h
 ·omega
theorem ztm {a : J} (ha : a.ok) : qr none a.val = some true := by
 unfold qr yf
 rw [show xx (some 4096) = some true from rfl, Option.bind_some, if_neg (by decide)]
 unfold wr
 rw [z8h ha, z66 ha]
 simp only [Option.bind_some]
 by_cases c : a.chk = 0
 ·have := Uq a (z97 c)
  have : a.sz ≤ 1073741824 := ha
  rw [if_neg (by simpa using c), zsw ha (z97 c), Option.bind_some]
  by_cases c4 : (a.enc.length : Int) > 4000
  ·rw [if_pos (decide_eq_true c4), Option.bind_some, if_neg (by simp), if_pos (by simpa using c), zpv ha (z97 c), Option.bind_some, if_pos (decide_eq_true c4)]; rfl
  ·rw [if_neg (by rw [decide_eq_true_eq]; exact c4), if_pos (by omega), Option.bind_some, if_neg (by simp), if_pos (by simpa using c), zpv ha (z97 c), Option.bind_some, if_neg (by rw [decide_eq_true_eq]; exact c4), c]; simp
 ·rw [if_pos (by simpa using c), Option.bind_some, if_neg (by simp), if_neg (by simpa using c)]; simp
end Go.Proofs.YtdgkalljlomjnaaDoor
