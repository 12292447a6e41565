/-
  The reference's ValidUTF8 is the library's; no condition.
-/
import Derived.Test.YtlfdchgaeeadjaaDoorGenB
import Derived.Test.YtlfdchgaeeadjaaDoorFxP
namespace Go.Proofs.YtlfdchgaeeadjaaDoor
open Go.Fx
set_option linter.unusedVariables false
set_option linter.unusedSimpArgs false
theorem Wi {i : Nat} (h : i ≤ 4611686018427387904) : W ((i : Int) + 1) = ((i + 1 : Nat) : Int) := by rw [zio (by unfold inR; omega)]; omega
theorem zsn {α : Type} [Inhabited α] {l : List α} {i : Nat} (h : i < l.length) : l.getD i default = l[i] := by
 simp [List.getD_eq_getElem?_getD, h]
def K7 (s : List UInt8) : Nat → Nat → Nat → Nat → Option Nat
 | 0, p, _, _ => some p
 | k + 1, p, lo, hi => if s.length ≤ p ∨ (s.getD p 0).toNat < lo ∨ hi < (s.getD p 0).toNat then none else K7 s k (p + 1) 128 191
def zmz : Option Nat → Int ⊕ Bool
 | some q => .inl (q : Int)
 | none => .inr false
theorem z6c {s : List UInt8} (hs : s.length ≤ 4611686018427387904) : ∀ (k p lo hi v d : Nat), d + k = v → v ≤ 3 →
 qv none s (v : Int) (p : Int) (lo : Int) (hi : Int) (d : Int) = some (zmz (K7 s k p lo hi))
 | 0, p, lo, hi, v, d, h, hv => by
  unfold qv
  rw [qi (x := some (.inl (p : Int)))]
  ·rfl
  ·unfold q9
   rw [if_neg (by simp; omega)]
 | k + 1, p, lo, hi, v, d, h, hv => by
  have hb : q9 none s (v : Int) (p : Int) (lo : Int) (hi : Int) (d : Int) =
   if s.length ≤ p ∨ (s.getD p 0).toNat < lo ∨ hi < (s.getD p 0).toNat then some (.inr (.inr false)) else some (.inl (((p + 1 : Nat) : Int), ((128 : Nat) : Int), ((191 : Nat) : Int), ((d + 1 : Nat) : Int))) := by
   unfold q9
   rw [if_pos (by simp; omega), if_pos (by simp), if_pos (by simp; omega)]
   simp only [Int.toNat_natCast]
   by_cases hc : s.length ≤ p ∨ (s.getD p 0).toNat < lo ∨ hi < (s.getD p 0).toNat
   ·rw [if_pos (by simp only [Bool.and_eq_true, Bool.or_eq_true, decide_eq_true_eq, beq_iff_eq, ge_iff_le, gt_iff_lt]; omega), if_pos hc]; rfl
   ·rw [if_neg (by simp only [Bool.and_eq_true, Bool.or_eq_true, decide_eq_true_eq, beq_iff_eq, ge_iff_le, gt_iff_lt]; omega), if_neg hc, Wi (by omega), Wi (by omega)]; rfl
  unfold K7
  by_cases hc : s.length ≤ p ∨ (s.getD p 0).toNat < lo ∨ hi < (s.getD p 0).toNat
  ·unfold qv
   rw [if_pos hc, qi (x := some (.inr false)) (by rw [hb, if_pos hc]; rfl)]
   rfl
  ·rw [if_neg hc, ← z6c hs k (p + 1) 128 191 v (d + 1) (by omega) hv]
   unfold qv
   rw [wk (s' := (((p + 1 : Nat) : Int), ((128 : Nat) : Int), ((191 : Nat) : Int), ((d + 1 : Nat) : Int))) (by rw [hb, if_neg hc])]
theorem ck2 (n b1 b2 b3 lo hi : Nat) : Lib.checkN n b1 b2 b3 (1 + 1) lo hi = if n < 2 ∨ b1 < lo ∨ hi < b1 then none else some 2 := by unfold Lib.checkN; rw [if_pos rfl]
theorem ck3 (n b1 b2 b3 lo hi : Nat) : Lib.checkN n b1 b2 b3 (2 + 1) lo hi = if n < 3 ∨ b1 < lo ∨ hi < b1 ∨ b2 < 128 ∨ 191 < b2 then none else some 3 := by unfold Lib.checkN; rw [if_neg (by decide), if_pos rfl]
theorem ck4 (n b1 b2 b3 lo hi : Nat) : Lib.checkN n b1 b2 b3 (3 + 1) lo hi = if n < 4 ∨ b1 < lo ∨ hi < b1 ∨ b2 < 128 ∨ 191 < b2 ∨ b3 < 128 ∨ 191 < b3 then none else some 4 := by unfold Lib.checkN; rw [if_neg (by decide), if_neg (by decide), if_pos rfl]
theorem zfe {s : List UInt8} {i : Nat} (hi : i < s.length) : ∀ (k lo h : Nat), 1 ≤ k → k ≤ 3 →
 K7 s k (i + 1) lo h = (Lib.checkN (s.drop i).length ((s.drop i).getD 1 0).toNat ((s.drop i).getD 2 0).toNat ((s.drop i).getD 3 0).toNat (k + 1) lo h).map fun n => i + n := by
 intro k lo h h1 h3
 have g : ∀ j, (s.drop i).getD j 0 = s.getD (i + j) 0 := fun j => by simp [List.getD_eq_getElem?_getD]
 rw [g, g, g, List.length_drop]
 have hk : k = 1 ∨ k = 2 ∨ k = 3 := by omega
 rcases hk with rfl | rfl | rfl
 ·rw [ck2]
  unfold K7
  by_cases c : s.length ≤ i + 1 ∨ (s.getD (i + 1) 0).toNat < lo ∨ h < (s.getD (i + 1) 0).toNat
  ·rw [if_pos c, if_pos (by omega)]; rfl
  ·rw [if_neg c, if_neg (by omega)]; rfl
 ·rw [ck3]
  unfold K7
  by_cases c : s.length ≤ i + 1 ∨ (s.getD (i + 1) 0).toNat < lo ∨ h < (s.getD (i + 1) 0).toNat
  ·rw [if_pos c, if_pos (by omega)]; rfl
  ·rw [if_neg c]
   unfold K7
   by_cases c2 : s.length ≤ i + 2 ∨ (s.getD (i + 2) 0).toNat < 128 ∨ 191 < (s.getD (i + 2) 0).toNat
   ·rw [if_pos c2, if_pos (by omega)]; rfl
   ·rw [if_neg c2, if_neg (by omega)]; rfl
 ·rw [ck4]
  unfold K7
  by_cases c : s.length ≤ i + 1 ∨ (s.getD (i + 1) 0).toNat < lo ∨ h < (s.getD (i + 1) 0).toNat
  ·rw [if_pos c, if_pos (by omega)]; rfl
  ·rw [if_neg c]
   unfold K7
   by_cases c2 : s.length ≤ i + 2 ∨ (s.getD (i + 2) 0).toNat < 128 ∨ 191 < (s.getD (i + 2) 0).toNat
   ·rw [if_pos c2, if_pos (by omega)]; rfl
   ·rw [if_neg c2]
    unfold K7
    by_cases c3 : s.length ≤ i + 3 ∨ (s.getD (i + 3) 0).toNat < 128 ∨ 191 < (s.getD (i + 3) 0).toNat
    ·rw [if_pos c3, if_pos (by omega)]; rfl
    ·rw [if_neg c3, if_neg (by omega)]; rfl
def zfn (b : Nat) : Option (Nat × Nat × Nat) :=
 if b < 128 then some (0, 128, 191) else if 194 ≤ b ∧ b ≤ 223 then some (1, 128, 191) else
 if 224 ≤ b ∧ b ≤ 239 then some (2, if b = 224 then 160 else 128, if b = 237 then 159 else 191) else
 if 240 ≤ b ∧ b ≤ 244 then some (3, if b = 240 then 144 else 128, if b = 244 then 143 else 191) else none
def zzt (b : Nat) : Bool := match zfn b with
 | none => Lib.firstT b % 8 == 1
 | some (k, lo, hi) => decide (1 ≤ k) && decide (k ≤ 3) && (Lib.firstT b % 8 == k + 1) && (Lib.accLo (Lib.firstT b / 16) == lo) && (Lib.accHi (Lib.firstT b / 16) == hi)
theorem zeg : ∀ b : Fin 256, 128 ≤ b.val → zzt b.val = true := by decide +kernel
theorem ze8 {s : List UInt8} (hs : s.length ≤ 4611686018427387904) {i : Nat} (hi : i < s.length) : yz none s (i : Int) =
 match zfn (s.getD i 0).toNat with
 | none => some (.inr false)
 | some (k, lo, h) => some (zmz (K7 s k (i + 1) lo h)) := by
 have hl := fun (v lo h : Nat) (hv : v ≤ 3) => z6c hs v (i + 1) lo h v 0 (by omega) hv
 have j9 : ∀ (v lo h : Nat), v ≤ 3 → zu none s (i : Int) (v : Int) (lo : Int) (h : Int) = some (zmz (K7 s v (i + 1) lo h)) := fun v lo h hv => by
  unfold zu
  rw [Wi (by omega)]
  exact hl v lo h hv
 have j7 : ∀ lo : Nat, qr none s (i : Int) (lo : Int) = some (zmz (K7 s 2 (i + 1) lo (if (s.getD i 0).toNat = 237 then 159 else 191))) := fun lo => by
  unfold qr
  simp only [Int.toNat_natCast]
  by_cases c : (s.getD i 0).toNat = 237
  ·rw [if_pos (by simp only [beq_iff_eq]; omega), if_pos c]; exact j9 2 lo 159 (by omega)
  ·rw [if_neg (by simp only [beq_iff_eq]; omega), if_neg c]; exact j9 2 lo 191 (by omega)
 have j8 : ∀ lo : Nat, qt none s (i : Int) (lo : Int) = some (zmz (K7 s 3 (i + 1) lo (if (s.getD i 0).toNat = 244 then 143 else 191))) := fun lo => by
  unfold qt
  simp only [Int.toNat_natCast]
  by_cases c : (s.getD i 0).toNat = 244
  ·rw [if_pos (by simp only [beq_iff_eq]; omega), if_pos c]; exact j9 3 lo 143 (by omega)
  ·rw [if_neg (by simp only [beq_iff_eq]; omega), if_neg c]; exact j9 3 lo 191 (by omega)
 unfold yz zfn
 rw [if_pos (by simp; omega), if_pos (by omega)]
 simp only [Int.toNat_natCast]
 by_cases c1 : (s.getD i 0).toNat < 128
 ·rw [if_pos (by simp only [Bool.and_eq_true, Bool.or_eq_true, decide_eq_true_eq, beq_iff_eq, ge_iff_le, gt_iff_lt]; omega), if_pos c1]; exact j9 0 128 191 (by omega)
 rw [if_neg (by simp only [Bool.and_eq_true, Bool.or_eq_true, decide_eq_true_eq, beq_iff_eq, ge_iff_le, gt_iff_lt]; omega), if_neg c1]
 by_cases c2 : 194 ≤ (s.getD i 0).toNat ∧ (s.getD i 0).toNat ≤ 223
 ·rw [if_pos (by simp only [Bool.and_eq_true, Bool.or_eq_true, decide_eq_true_eq, beq_iff_eq, ge_iff_le, gt_iff_lt]; omega), if_pos c2]; exact j9 1 128 191 (by omega)
 rw [if_neg (by simp only [Bool.and_eq_true, Bool.or_eq_true, decide_eq_true_eq, beq_iff_eq, ge_iff_le, gt_iff_lt]; omega), if_neg c2]
 by_cases c3 : 224 ≤ (s.getD i 0).toNat ∧ (s.getD i 0).toNat ≤ 239
 ·rw [if_pos (by simp only [Bool.and_eq_true, Bool.or_eq_true, decide_eq_true_eq, beq_iff_eq, ge_iff_le, gt_iff_lt]; omega), if_pos c3]
  by_cases c : (s.getD i 0).toNat = 224
  ·rw [if_pos (by simp only [beq_iff_eq]; omega), if_pos c]; exact j7 160
  ·rw [if_neg (by simp only [beq_iff_eq]; omega), if_neg c]; exact j7 128
 rw [if_neg (by simp only [Bool.and_eq_true, Bool.or_eq_true, decide_eq_true_eq, beq_iff_eq, ge_iff_le, gt_iff_lt]; omega), if_neg c3]
 by_cases c4 : 240 ≤ (s.getD i 0).toNat ∧ (s.getD i 0).toNat ≤ 244
 ·rw [if_pos (by simp only [Bool.and_eq_true, Bool.or_eq_true, decide_eq_true_eq, beq_iff_eq, ge_iff_le, gt_iff_lt]; omega), if_pos c4]
  by_cases c : (s.getD i 0).toNat = 240
  ·rw [if_pos (by simp only [beq_iff_eq]; omega), if_pos c]; exact j8 144
  ·rw [if_neg (by simp only [beq_iff_eq]; omega), if_neg c]; exact j8 128
 rw [if_neg (by simp only [Bool.and_eq_true, Bool.or_eq_true, decide_eq_true_eq, beq_iff_eq, ge_iff_le, gt_iff_lt]; omega), if_neg c4]
 rfl
theorem z3i {s : List UInt8} (hs : s.length ≤ 4611686018427387904) : ∀ (k i : Nat), i + k ≥ s.length → i ≤ s.length → xk none s (i : Int) = some (Lib.validD (s.drop i))
 | k, i, hk, hi => by
  by_cases he : i = s.length
  ·subst he
   unfold xk
   rw [List.drop_length, qi (x := some true)]
   ·rfl
   ·unfold yz
    rw [if_neg (by simp)]
    rfl
  ·have hi : i < s.length := by omega
   cases k with
   | zero => omega
   | succ k =>
   have ih := z3i hs k
   have hb := ze8 hs hi
   have hg : (s.drop i).getD 0 0 = s.getD i 0 := by simp [List.getD_eq_getElem?_getD]
   have hne : s.drop i ≠ [] := by simp; omega
   unfold xk at ih ⊢
   by_cases ha : (s.getD i 0).toNat < 128
   ·have : zfn (s.getD i 0).toNat = some (0, 128, 191) := by unfold zfn; rw [if_pos ha]
    rw [this] at hb
    rw [wk (s' := ((i + 1 : Nat) : Int)) hb, ih (i + 1) (by omega) (by omega)]
    have hcons : s.drop i = s.getD i 0 :: s.drop (i + 1) := by
     rw [List.drop_eq_getElem_cons hi]; simp [List.getD_eq_getElem?_getD, hi]
    rw [hcons, Lib.validD_cons _ _ ha]
   ·have hv := Lib.validD_lead (s.drop i) hne (by rw [hg]; omega)
    have hf := zeg ⟨(s.getD i 0).toNat, (s.getD i 0).toNat_lt⟩ (by simp only; omega)
    simp only [zzt] at hf
    rw [hg] at hv
    cases hl : zfn (s.getD i 0).toNat with
    | none =>
     rw [hl] at hb hf
     rw [qi (x := some false) hb, hv]
     simp only [beq_iff_eq] at hf
     rw [hf]
     rfl
    | some y =>
     obtain ⟨k', lo, h⟩ := y
     rw [hl] at hb hf
     simp only at hb
     simp only [Bool.and_eq_true, decide_eq_true_eq, beq_iff_eq] at hf
     obtain ⟨⟨⟨⟨f1, f2⟩, f3⟩, f4⟩, f5⟩ := hf
     have hc := zfe hi k' lo h f1 f2
     rw [f3, f4, f5] at hv
     rw [hv]
     cases hcn : Lib.checkN (s.drop i).length ((s.drop i).getD 1 0).toNat ((s.drop i).getD 2 0).toNat ((s.drop i).getD 3 0).toNat (k' + 1) lo h with
     | none =>
      rw [hcn] at hc
      rw [hc] at hb
      rw [qi (x := some false) hb]
     | some q =>
      rw [hcn] at hc
      rw [hc] at hb
      have hq : 1 ≤ q ∧ i + q ≤ s.length := by
       have hlen : (s.drop i).length = s.length - i := List.length_drop
       rw [hlen] at hcn
       unfold Lib.checkN at hcn
       have hk : k' = 1 ∨ k' = 2 ∨ k' = 3 := by omega
       rcases hk with rfl | rfl | rfl <;> simp only [] at hcn <;> (repeat' split at hcn) <;> simp at hcn <;> omega
      rw [wk (s' := ((i + q : Nat) : Int)) hb, ih (i + q) (by omega) (by omega)]
      simp only [List.drop_drop]
theorem z4g {s : List UInt8} (hs : s.length ≤ 4611686018427387904) : qb none s = some (Lib.validD s) := by
 have := z3i hs s.length 0 (by omega) (by omega)
 exact this
theorem zbi {s : List UInt8} (hs : s.length ≤ 4611686018427387904) : jv none s = some (Lib.validD s) := by
 unfold jv; rw [if_pos (by omega)]
inductive J where
 | mk (kind num : Int) (text : List UInt8) (names : List (List UInt8)) (elems : List J)
def J.kind : J → Int | .mk k _ _ _ _ => k
def J.num : J → Int | .mk _ n _ _ _ => n
def J.text : J → List UInt8 | .mk _ _ t _ _ => t
def J.names : J → List (List UInt8) | .mk _ _ _ ns _ => ns
def J.elems : J → List J | .mk _ _ _ _ es => es
mutual
def J.raw : J → List AVal
 | .mk k n t ns es => z6 ⟨k, n, t, ns, J.rawL es⟩
def J.rawL : List J → List (List AVal)
 | [] => []
 | e :: r => e.raw :: J.rawL r
end
theorem zn9 : ∀ es : List J, J.rawL es = es.map J.raw
 | [] => rfl
 | e :: r => by unfold J.rawL; rw [zn9 r]; rfl
def J.val (j : J) : GJ := ⟨j.kind, j.num, j.text, j.names, j.elems.map J.raw⟩
theorem Wd (j : J) : j.raw = z6 j.val := by
 cases j with
 | mk k n t ns es => unfold J.raw J.val; rw [zn9]; rfl
theorem y0v {x y : GJ} (h : z6 x = z6 y) : x = y := by
 obtain ⟨k, n, t, ns, es⟩ := x
 obtain ⟨k', n', t', ns', es'⟩ := y
 simp only [z6, List.cons.injEq, AVal.int.injEq, AVal.str.injEq, AVal.isl.injEq, true_and, and_true] at h
 obtain ⟨h1, h2, h3, h4, h5⟩ := h
 have g1 : ns = ns' := by
  refine (List.map_inj_right ?_).1 h4
  intro a b hab
  simp only [z7, List.cons.injEq, AVal.str.injEq, and_true] at hab
  exact hab
 have g2 : es = es' := by
  have : (fun r : List AVal => z8 r) = id := rfl
  rw [show (z8 : List AVal → List AVal) = id from rfl, List.map_id, List.map_id] at h5
  exact h5
 rw [h1, h2, h3, g1, g2]
theorem y05 (j : J) : kq j.raw = some j.val := by
 rw [Wd]
 have h : ∃ x, z6 j.val = z6 x := ⟨_, rfl⟩
 unfold kq
 rw [dif_pos h]
 congr 1
 exact (y0v (Classical.choose_spec h)).symm
theorem zp4 {j : J} {i : Nat} (h : i < j.elems.length) : j.val.fE.getD i default = (j.elems[i]).raw := by
 simp [J.val, List.getD_eq_getElem?_getD, h]
theorem xm (j : J) : (j.val.fE.map z8).length = j.elems.length := by simp [J.val]
theorem znv {j : J} {i : Nat} (h : i < j.elems.length) : kq (j.val.fE.getD i default) = some (j.elems[i]).val := by rw [zp4 h, y05]
def nsz : List (List UInt8) → Nat
 | [] => 0
 | n :: r => n.length + 1 + nsz r
mutual
def J.sz : J → Nat
 | .mk _ _ t ns es => 1 + t.length + nsz ns + J.szL es
def J.szL : List J → Nat
 | [] => 0
 | e :: r => e.sz + J.szL r
end
mutual
def J.nodes : J → Nat
 | .mk _ _ _ _ es => 1 + J.nodesL es
def J.nodesL : List J → Nat
 | [] => 0
 | e :: r => e.nodes + J.nodesL r
end
mutual
def J.depth : J → Nat
 | .mk _ _ _ _ es => 1 + J.depthL es
def J.depthL : List J → Nat
 | [] => 0
 | e :: r => max e.depth (J.depthL r)
end
theorem J1 (j : J) : 1 ≤ j.sz := by cases j; unfold J.sz; omega
theorem zj3 : ∀ {es : List J} {e : J}, e ∈ es → e.sz ≤ J.szL es
 | x :: r, e, h => by
  unfold J.szL
  rcases List.mem_cons.1 h with rfl | h
  ·omega
  ·have := zj3 h; omega
theorem zrx : ∀ es : List J, es.length ≤ J.szL es
 | [] => by simp
 | e :: r => by
  unfold J.szL
  have := zrx r
  have := J1 e
  simp only [List.length_cons]; omega
theorem zk6 : ∀ {ns : List (List UInt8)} {n : List UInt8}, n ∈ ns → n.length ≤ nsz ns
 | x :: r, n, h => by
  unfold nsz
  rcases List.mem_cons.1 h with rfl | h
  ·omega
  ·have := zk6 h; omega
theorem zm8 : ∀ ns : List (List UInt8), ns.length ≤ nsz ns
 | [] => by simp
 | n :: r => by
  unfold nsz
  have := zm8 r
  simp only [List.length_cons]; omega
mutual
theorem zdi : ∀ j : J, j.nodes ≤ j.sz
 | .mk _ _ t ns es => by unfold J.nodes J.sz; have := z84 es; omega
theorem z84 : ∀ es : List J, J.nodesL es ≤ J.szL es
 | [] => by simp [J.nodesL]
 | e :: r => by unfold J.nodesL J.szL; have := zdi e; have := z84 r; omega
end
mutual
theorem z1e : ∀ j : J, j.depth ≤ j.nodes
 | .mk _ _ t ns es => by unfold J.nodes J.depth; have := Ul es; omega
theorem Ul : ∀ es : List J, J.depthL es ≤ J.nodesL es
 | [] => by simp [J.depthL]
 | e :: r => by unfold J.nodesL J.depthL; have := z1e e; have := Ul r; omega
end
def J.ok (j : J) : Prop := j.sz ≤ 1073741824
theorem J.ok.elem {j e : J} (h : j.ok) (he : e ∈ j.elems) : e.ok := by
 cases j with
 | mk k n t ns es =>
  have h' : J.sz (.mk k n t ns es) ≤ 1073741824 := h
  rw [J.sz.eq_1 k n t ns es] at h'
  have := zj3 he
  simp only [J.elems] at this
  show e.sz ≤ 1073741824
  omega
theorem z2i {j e : J} (he : e ∈ j.elems) : e.sz < j.sz := by
 cases j with
 | mk k n t ns es =>
  have := zj3 he
  simp only [J.elems] at this
  rw [J.sz.eq_1 k n t ns es]
  omega
theorem J.ok.len {j : J} (h : j.ok) : j.elems.length ≤ 1073741824 ∧ j.text.length ≤ 1073741824 ∧ j.names.length ≤ 1073741824 ∧ ∀ n ∈ j.names, n.length ≤ 1073741824 := by
 cases j with
 | mk k n t ns es =>
  unfold J.ok J.sz at h
  have := zrx es
  have := zm8 ns
  refine ⟨?_, ?_, ?_, fun n hn => ?_⟩ <;> simp only [J.elems, J.text, J.names] at *
  ·omega
  ·omega
  ·omega
  ·have := zk6 hn; omega
theorem Xk {α : Type} {f : Nat → Option α} {v : α} {d : Nat} (h : ∀ k, f k = some v ∨ (k < d ∧ f k = none)) : zeo none f = some v :=
 zwf (fun k o ho => by rcases h k with h1 | ⟨_, h1⟩ <;> rw [h1] at ho <;> cases ho; rfl) ⟨d, by rcases h d with h1 | ⟨h1, _⟩; exact h1; omega⟩
theorem Y5 {σ ρ : Type} {b : σ → Option (σ ⊕ ρ)} {s : σ} (h : b s = none) : Zu none b s = none := by rw [z4u, h]
mutual
def J.lim : J → Int → Int → Bool × Int
 | .mk _ _ _ _ es, d, n => if n + 1 > 400 ∨ d > 20 then (false, n + 1) else J.limL es (d + 1) (n + 1)
def J.limL : List J → Int → Int → Bool × Int
 | [], _, n => (true, n)
 | e :: r, d, n => if (e.lim d n).1 = true then J.limL r d (e.lim d n).2 else (false, (e.lim d n).2)
end
mutual
theorem zaz : ∀ (j : J) (d n : Int), 0 ≤ n → ((j.lim d n).1 = true ↔ n + j.nodes ≤ 400 ∧ d + j.depth ≤ 21) ∧ ((j.lim d n).1 = true → (j.lim d n).2 = n + j.nodes)
 | .mk k m t ns es, d, n, h => by
  unfold J.lim J.nodes J.depth
  by_cases c : n + 1 > 400 ∨ d > 20
  ·rw [if_pos c]
   refine ⟨⟨fun h => (by cases h), fun h => ?_⟩, fun h => (by cases h)⟩
   omega
  ·rw [if_neg c]
   obtain ⟨h1, h2⟩ := zdc es (d + 1) (n + 1) (by omega) (by omega) (by omega)
   refine ⟨h1.trans ⟨fun h => by omega, fun h => by omega⟩, fun h => ?_⟩
   rw [h2 h]; omega
theorem zdc : ∀ (es : List J) (d n : Int), 0 ≤ n → n ≤ 400 → d ≤ 21 → ((J.limL es d n).1 = true ↔ n + J.nodesL es ≤ 400 ∧ d + J.depthL es ≤ 21) ∧ ((J.limL es d n).1 = true → (J.limL es d n).2 = n + J.nodesL es)
 | [], d, n, h, h', hd => by
  unfold J.limL J.nodesL J.depthL
  refine ⟨⟨fun _ => by omega, fun _ => rfl⟩, fun _ => by simp⟩
 | e :: r, d, n, h, h', hd => by
  unfold J.limL J.nodesL J.depthL
  obtain ⟨h1, h2⟩ := zaz e d n h
  by_cases c : (e.lim d n).1 = true
  ·rw [if_pos c]
   have h3 := h2 c
   have h4 := h1.1 c
   obtain ⟨g1, g2⟩ := zdc r d (e.lim d n).2 (by omega) (by omega) hd
   refine ⟨g1.trans ⟨fun h => by omega, fun h => by omega⟩, fun h => ?_⟩
   rw [g2 h]; omega
  ·rw [if_neg c]
   refine ⟨⟨fun h => (by cases h), fun hh => absurd (h1.2 (by omega)) c⟩, fun h => by cases h⟩
end
theorem zdj {j : J} {rec0 : GJ → Int → Int → Option (Bool × Int)} {B : Prop} (hj : j.ok) {d : Int} (hd : 1 ≤ d ∧ d ≤ 20)
 (hr : ∀ e ∈ j.elems, ∀ n : Int, 0 ≤ n → n ≤ 400 → rec0 e.val (d + 1) n = some (e.lim (d + 1) n) ∨ (B ∧ rec0 e.val (d + 1) n = none)) :
 ∀ (k i : Nat) (n : Int), i + k = j.elems.length → 0 ≤ n → n ≤ 400 →
  qg rec0 none j.val d n (i : Int) = some (J.limL (j.elems.drop i) (d + 1) n) ∨ (B ∧ qg rec0 none j.val d n (i : Int) = none)
 | 0, i, n, h, h0, h4 => by
  left
  have : i = j.elems.length := by omega
  subst this
  unfold qg
  rw [qi (x := some (true, n)), List.drop_length]
  ·rfl
  ·unfold yj
   rw [if_neg (by rw [xm]; simp)]
   rfl
 | k + 1, i, n, h, h0, h4 => by
  have hi : i < j.elems.length := by omega
  have hl := hj.len
  have ih := zdj hj hd hr k (i + 1)
  have hb : yj rec0 none j.val d n (i : Int) = (rec0 (j.elems[i]).val (d + 1) n).bind fun v8 => if (!v8.1) = true then some (.inr (false, v8.2)) else some (.inl (v8.2, ((i + 1 : Nat) : Int))) := by
   unfold yj
   rw [xm, if_pos (by simpa using hi), if_pos (by omega)]
   simp only [Int.toNat_natCast, znv hi, Option.bind_some, Wi (show i ≤ 4611686018427387904 by omega), show W (d + 1) = d + 1 from zio (by unfold inR; omega)]
   rfl
  rw [List.drop_eq_getElem_cons hi]
  unfold qg at ih ⊢
  rcases hr _ (List.getElem_mem hi) n h0 h4 with hc | ⟨hB, hc⟩
  ·rw [hc, Option.bind_some] at hb
   unfold J.limL
   obtain ⟨g1, g2⟩ := zaz j.elems[i] (d + 1) n h0
   cases hv : (j.elems[i].lim (d + 1) n).1 with
   | true =>
    rw [hv] at hb
    rw [wk (s' := ((j.elems[i].lim (d + 1) n).2, ((i + 1 : Nat) : Int))) hb, if_pos rfl]
    have := g2 hv
    have := g1.1 hv
    exact ih _ (by omega) (by omega) (by omega)
   | false =>
    left
    rw [hv] at hb
    rw [qi (x := some (false, (j.elems[i].lim (d + 1) n).2)) hb, if_neg (by simp)]
  ·right
   rw [hc] at hb
   exact ⟨hB, Y5 hb⟩
theorem znb : ∀ (k : Nat) (j : J) (d n : Int), j.ok → 1 ≤ d → d ≤ 21 → 0 ≤ n → n ≤ 400 → yl none k j.val d n = some (j.lim d n) ∨ (k < j.sz ∧ yl none k j.val d n = none)
 | 0, j, d, n, hj, hd, hd', h0, h4 => .inr ⟨J1 j, rfl⟩
 | k + 1, j, d, n, hj, hd, hd', h0, h4 => by
  have hW : W (n + 1) = n + 1 := zio (by unfold inR; omega)
  unfold yl xu
  rw [hW]
  by_cases c : n + 1 > 400 ∨ d > 20
  ·left
   rw [if_pos (by simpa using c)]
   cases j; unfold J.lim; rw [if_pos c]
  ·rw [if_neg (by simpa using c)]
   have := zdj (rec0 := yl none k) (B := k + 1 < j.sz) hj (d := d) (by omega) (fun e he n h0 h4 => by
    rcases znb k e (d + 1) n (hj.elem he) (by omega) (by omega) h0 h4 with h | ⟨h1, h2⟩
    ·exact .inl h
    ·exact .inr ⟨by have := z2i he; omega, h2⟩) j.elems.length 0 (n + 1) (by omega) (by omega) (by omega)
   have e : j.lim d n = J.limL j.elems (d + 1) (n + 1) := by cases j; rw [J.lim.eq_1, if_neg c]; rfl
   rw [e]
   exact this
theorem zxd {j : J} (hj : j.ok) : wo none j.val 1 0 = some (j.lim 1 0) :=
 Xk (d := j.sz) fun k => znb k j 1 0 hj (by omega) (by omega) (by omega) (by omega)
theorem V2 {l : List (List UInt8)} {i : Nat} (h : i < l.length) : l.getD i default = l[i] := zsn h
theorem zth {p : List (List UInt8)} {x y : List UInt8} (h : y ≠ x) : (p ++ [y]).contains x = p.contains x := by simp [Ne.symm h]
theorem zqa {p : List (List UInt8)} {x : List UInt8} : (p ++ [x]).contains x = true := by simp
theorem zyl {p : List (List UInt8)} {x : List UInt8} : (x :: p).contains x = true := by simp
theorem zwy {p : List (List UInt8)} {x y : List UInt8} (h : x ≠ y) : (y :: p).contains x = p.contains x := by simp [h]
def z94 (p : List (List UInt8)) : List (List UInt8) → Bool
 | [] => false
 | x :: r => p.contains x || z94 (p ++ [x]) r
theorem zxa {M : List (List UInt8 × Int)} {k j : List UInt8} {v : Int} : lk J7 (mp J7 M k v) j = if k = j then some v else lk J7 M j := by
 induction M with
 | nil =>
  simp only [mp, lk, J7, Bool.and_true, beq_iff_eq]
  by_cases h : k = j
  ·rw [if_pos h, if_pos h.symm]
  ·rw [if_neg h, if_neg (Ne.symm h)]
 | cons x r ih =>
  obtain ⟨k', v'⟩ := x
  simp only [mp, J7, Bool.and_true, beq_iff_eq]
  by_cases h : k = k'
  ·rw [if_pos h]
   simp only [lk, J7, Bool.and_true, beq_iff_eq]
   by_cases h2 : k = j
   ·rw [if_pos h2, if_pos h2.symm]
   ·rw [if_neg h2, if_neg (Ne.symm h2), if_neg (by rw [← h]; exact Ne.symm h2)]
  ·rw [if_neg h]
   simp only [lk, J7, Bool.and_true, beq_iff_eq]
   by_cases h2 : j = k'
   ·rw [if_pos h2, if_pos h2, if_neg (by rw [h2]; exact h)]
   ·rw [if_neg h2, if_neg h2]; exact ih
theorem z0l {a0 : List (List UInt8)} (hl : a0.length ≤ 4611686018427387904) : ∀ (k i : Nat) (M : List (List UInt8 × Int)), i + k = a0.length → (∀ x, (((lk J7 M x).getD 0) != 0) = (a0.take i).contains x) →
 ja none a0 (i : Int) M = some (z94 (a0.take i) (a0.drop i))
 | 0, i, M, h, hM => by
  have : i = a0.length := by omega
  subst this
  unfold ja
  rw [qi (x := some false), List.drop_length]
  ·rfl
  ·unfold qk
   rw [if_neg (by simp)]
   rfl
 | k + 1, i, M, h, hM => by
  have hi : i < a0.length := by omega
  have ih := z0l hl k (i + 1)
  have hb : qk none a0 (i : Int) M = if (a0.take i).contains a0[i] = true then some (.inr true) else some (.inl (((i + 1 : Nat) : Int), mp J7 M a0[i] 1)) := by
   unfold qk
   rw [if_pos (by simpa using hi), if_pos (by simpa using hi)]
   simp only [Int.toNat_natCast, V2 hi, Wi (show i ≤ 4611686018427387904 by omega), hM]
   rfl
  rw [List.drop_eq_getElem_cons hi, z94]
  unfold ja at ih ⊢
  cases hc : (a0.take i).contains a0[i] with
  | true =>
   rw [hc, if_pos rfl] at hb
   rw [qi (x := some true) hb]; rfl
  | false =>
   rw [hc, if_neg (by simp)] at hb
   have ht : a0.take (i + 1) = a0.take i ++ [a0[i]] := by rw [List.take_succ_eq_append_getElem hi]
   rw [wk hb, ih _ (by omega) (fun x => ?_), ht, Bool.false_or]
   rw [zxa, ht]
   by_cases hx : a0[i] = x
   ·rw [if_pos hx, hx, zqa]; rfl
   ·rw [if_neg hx, hM, zth hx]
theorem zhe {a0 : List (List UInt8)} (hl : a0.length ≤ 4611686018427387904) : jx none a0 = some (z94 [] a0) :=
 z0l hl a0.length 0 [] (by omega) (fun x => by simp [lk])
theorem z3x {a0 : List (List UInt8)} {a1 : List UInt8} (hl : a0.length ≤ 4611686018427387904) : ∀ (k i : Nat), i + k = a0.length →
 ∃ r, y1 none a0 a1 (i : Int) = some r ∧ decide (r ≥ 0) = (a0.drop i).contains a1
 | 0, i, h => by
  have : i = a0.length := by omega
  subst this
  refine ⟨-1, ?_, by simp⟩
  unfold y1
  rw [qi (x := some (-1))]
  unfold zn
  rw [if_neg (by simp)]
  rfl
 | k + 1, i, h => by
  have hi : i < a0.length := by omega
  obtain ⟨r, ih1, ih2⟩ := z3x (a1 := a1) hl k (i + 1) (by omega)
  have hb : zn none a0 a1 (i : Int) = if (a1 == a0[i]) = true then some (.inr (i : Int)) else some (.inl ((i + 1 : Nat) : Int)) := by
   unfold zn
   rw [if_pos (by simpa using hi), if_pos (by simpa using hi)]
   simp only [Int.toNat_natCast, V2 hi, Wi (show i ≤ 4611686018427387904 by omega)]
   rfl
  rw [List.drop_eq_getElem_cons hi]
  unfold y1 at ih1 ⊢
  by_cases hc : a1 = a0[i]
  ·rw [if_pos (by simpa using hc)] at hb
   exact ⟨i, qi (x := some (i : Int)) hb, by rw [hc, zyl, decide_eq_true_eq]; omega⟩
  ·rw [if_neg (by simpa using hc)] at hb
   refine ⟨r, by rw [wk hb]; exact ih1, ?_⟩
   rw [ih2, zwy hc]
theorem z9z {a0 : List (List UInt8)} {a1 : List UInt8} (hl : a0.length ≤ 4611686018427387904) : qe none a0 a1 = some (a0.contains a1) := by
 obtain ⟨r, h1, h2⟩ := z3x (a1 := a1) hl a0.length 0 (by omega)
 unfold qe q8
 rw [show (0 : Int) = ((0 : Nat) : Int) from rfl, h1, Option.bind_some]
 rw [show ((0 : Nat) : Int) = (0 : Int) from rfl, h2]
 rfl
theorem zdr {a0 : List (List UInt8)} (hl : a0.length ≤ 4611686018427387904) : ∀ (k i : Nat), i + k = a0.length → xl none a0 (i : Int) = some (z94 (a0.take i) (a0.drop i))
 | 0, i, h => by
  have : i = a0.length := by omega
  subst this
  unfold xl
  rw [qi (x := some false), List.drop_length]
  ·rfl
  ·unfold yy
   rw [if_neg (by simp)]
   rfl
 | k + 1, i, h => by
  have hi : i < a0.length := by omega
  have ih := zdr hl k (i + 1) (by omega)
  have hb : yy none a0 (i : Int) = if (a0.take i).contains a0[i] = true then some (.inr true) else some (.inl ((i + 1 : Nat) : Int)) := by
   unfold yy
   rw [if_pos (by simpa using hi), if_pos (by simpa using hi), if_pos (by simp; omega)]
   simp only [Int.toNat_natCast, V2 hi, Wi (show i ≤ 4611686018427387904 by omega)]
   rw [z9z (by rw [List.length_take]; omega), Option.bind_some]
   rfl
  rw [List.drop_eq_getElem_cons hi, z94]
  unfold xl at ih ⊢
  cases hc : (a0.take i).contains a0[i] with
  | true =>
   rw [hc, if_pos rfl] at hb
   rw [qi (x := some true) hb]; rfl
  | false =>
   rw [hc, if_neg (by simp)] at hb
   rw [wk hb, ih, List.take_succ_eq_append_getElem hi, Bool.false_or]
theorem zx5 {a0 : List (List UInt8)} (hl : a0.length ≤ 4611686018427387904) : jh none a0 = some (z94 [] a0) := zdr hl a0.length 0 (by omega)
theorem z8l {a0 : List (List UInt8)} (hl : a0.length ≤ 4611686018427387904) (hn : ∀ n ∈ a0, n.length ≤ 4611686018427387904) : ∀ (k i : Nat), i + k = a0.length →
 ∃ r, xj (fun (s : Unit) (x : (List UInt8)) => (yw none x).map fun o => (o, ())) none a0 (i : Int) () = some (r, ()) ∧ decide (r ≥ 0) = !((a0.drop i).all Lib.validD)
 | 0, i, h => by
  have : i = a0.length := by omega
  subst this
  refine ⟨-1, ?_, by simp⟩
  unfold xj
  rw [qi (x := some (-1, ()))]
  unfold yx
  rw [if_neg (by simp)]
  rfl
 | k + 1, i, h => by
  have hi : i < a0.length := by omega
  obtain ⟨r, ih1, ih2⟩ := z8l hl hn k (i + 1) (by omega)
  have hb : yx (fun (s : Unit) (x : (List UInt8)) => (yw none x).map fun o => (o, ())) none a0 (i : Int) () = if (!Lib.validD a0[i]) = true then some (.inr ((i : Int), ())) else some (.inl (((i + 1 : Nat) : Int), ())) := by
   unfold yx yw
   rw [if_pos (by simpa using hi), if_pos (by simpa using hi)]
   simp only [Int.toNat_natCast, V2 hi, Wi (show i ≤ 4611686018427387904 by omega)]
   rw [zbi (hn _ (List.getElem_mem hi))]
   rfl
  rw [List.drop_eq_getElem_cons hi]
  unfold xj at ih1 ⊢
  cases hc : Lib.validD a0[i] with
  | false =>
   rw [hc, if_pos (by rfl)] at hb
   exact ⟨i, qi (x := some ((i : Int), ())) hb, by rw [List.all_cons, hc, Bool.false_and, Bool.not_false, decide_eq_true_eq]; omega⟩
  | true =>
   rw [hc, if_neg (by simp)] at hb
   refine ⟨r, by rw [wk hb]; exact ih1, ?_⟩
   rw [ih2, List.all_cons, hc, Bool.true_and]
theorem zvv {a0 : List (List UInt8)} (hl : a0.length ≤ 4611686018427387904) (hn : ∀ n ∈ a0, n.length ≤ 4611686018427387904) :
 qu (fun (s : Unit) (x : (List UInt8)) => (yw none x).map fun o => (o, ())) none a0 () = some (!(a0.all Lib.validD), ()) := by
 obtain ⟨r, h1, h2⟩ := z8l hl hn a0.length 0 (by omega)
 unfold qu ji
 rw [show (0 : Int) = ((0 : Nat) : Int) from rfl, h1, Option.bind_some]
 rw [show ((0 : Nat) : Int) = (0 : Int) from rfl, h2]
 rfl
def Vf (k n : Int) : Bool := decide (n = 0 ∨ (k = 1 ∧ n = 1) ∨ (k = 2 ∧ -9007199254740991 ≤ n ∧ n ≤ 9007199254740991))
def wfB (k n : Int) (t : List UInt8) (ns : List (List UInt8)) (len : Nat) : Bool :=
 Vf k n && (decide (t = []) || (decide (k = 3) && Lib.validD t)) && decide (len = 0 ∨ k ≥ 4) && (if k = 5 then decide (ns.length = len) && !z94 [] ns else decide (ns.length = 0)) && ns.all Lib.validD
def J.wf (j : J) : Bool := wfB j.kind j.num j.text j.names j.elems.length
theorem zua {j : J} (hj : j.ok) (hk : 0 ≤ j.kind ∧ j.kind ≤ 5) {lo hi : Int} (hnum : Vf j.kind j.num = decide (lo ≤ j.num ∧ j.num ≤ hi)) : x9 none j.val lo hi = some j.wf := by
 obtain ⟨hl1, hl2, hl3, hl4⟩ := hj.len
 have hd := zhe (a0 := j.names) (by omega)
 have hf := zvv (a0 := j.names) (by omega) (fun n hn => by have := hl4 n hn; omega)
 have hu := zbi (s := j.text) (by omega)
 unfold x9 J.wf wfB
 rw [hnum]
 rw [xm, show j.val.fK = j.kind from rfl, show j.val.fN = j.num from rfl, show j.val.fT = j.text from rfl, show j.val.fA = j.names from rfl, List.length_map]
 by_cases c1 : ¬ (lo ≤ j.num ∧ j.num ≤ hi)
 ·rw [if_pos (by simp only [Bool.or_eq_true, decide_eq_true_eq]; omega), decide_eq_false c1]; rfl
 rw [if_neg (by simp only [Bool.or_eq_true, decide_eq_true_eq]; omega)]
 by_cases c2 : j.text ≠ [] ∧ j.kind ≠ 3
 ·rw [if_pos (by simp; exact c2)]; simp [c2.1, c2.2]
 rw [if_neg (by simpa using c2)]
 by_cases c3 : j.elems.length > 0 ∧ j.kind ≠ 4 ∧ j.kind ≠ 5
 ·rw [if_pos (by simp; omega)]
  have : ¬ (j.elems.length = 0 ∨ j.kind ≥ 4) := by omega
  rw [decide_eq_false this, Bool.and_false, Bool.false_and, Bool.false_and]
 rw [if_neg (by simp; omega)]
 have e1 : decide (lo ≤ j.num ∧ j.num ≤ hi) = true := by rw [decide_eq_true_eq]; omega
 have e3 : decide (j.elems.length = 0 ∨ j.kind ≥ 4) = true := by simp only [decide_eq_true_eq]; omega
 have e2 : (decide (j.text = []) || (decide (j.kind = 3) && Lib.validD j.text)) = Lib.validD j.text := by
  by_cases ht : j.text = []
  ·rw [ht]; rfl
  ·have : j.kind = 3 := Decidable.byContradiction fun h => c2 ⟨ht, h⟩
   simp [ht, this]
 rw [e1, e2, e3]
 by_cases c5 : j.kind = 5
 ·rw [if_pos c5]
  by_cases cl : j.names.length = j.elems.length
  ·rw [if_pos (by simp [c5, cl]), hd, Option.bind_some]
   cases hdp : z94 [] j.names with
   | true => rw [if_pos (by simp [c5])]; simp
   | false =>
    rw [if_neg (by simp [c5, cl]), if_neg (by simp [c5]), hu, Option.bind_some]
    cases hv : Lib.validD j.text with
    | true => rw [if_pos (by rfl), hf, Option.bind_some]; simp [cl]
    | false => rw [if_neg (by simp), Option.bind_some]; simp
  ·rw [if_neg (by simp [c5]; omega), Option.bind_some, if_pos (by simp [c5]; omega)]
   simp [cl]
 ·rw [if_neg c5, if_neg (by simp [c5]), Option.bind_some, if_neg (by simp [c5])]
  by_cases cl : j.names.length = 0
  ·rw [if_neg (by simp [cl]), hu, Option.bind_some]
   cases hv : Lib.validD j.text with
   | true => rw [if_pos (by rfl), hf, Option.bind_some]; simp [cl]
   | false => rw [if_neg (by simp), Option.bind_some]; simp
  ·rw [if_pos (by simp [c5]; omega)]
   simp [cl]
theorem y10 {j : J} (hj : j.ok) (hk : 0 ≤ j.kind ∧ j.kind ≤ 5) : w3 none j.val = some j.wf := by
 unfold w3
 have hkv : j.val.fK = j.kind := rfl
 rw [hkv]
 by_cases c1 : j.kind = 1
 ·rw [if_pos (by simpa using c1)]
  exact zua hj hk (by unfold Vf; rw [decide_eq_decide]; omega)
 rw [if_neg (by simpa using c1)]
 by_cases c2 : j.kind = 2
 ·rw [if_pos (by simpa using c2)]
  exact zua hj hk (by unfold Vf; rw [decide_eq_decide]; omega)
 rw [if_neg (by simpa using c2)]
 exact zua hj hk (by unfold Vf; rw [decide_eq_decide]; omega)
mutual
def J.vd : J → Int
 | .mk k n t ns es => if k < 0 ∨ k > 5 then 7 else if wfB k n t ns es.length = true then J.vdL es else 3
def J.vdL : List J → Int
 | [] => 0
 | e :: r => if e.vd ≠ 0 then e.vd else J.vdL r
end
theorem z7h (j : J) : j.vd = if j.kind < 0 ∨ j.kind > 5 then 7 else if j.wf = true then J.vdL j.elems else 3 := by
 cases j; rw [J.vd.eq_1]; rfl
theorem za3 {j : J} {rec0 : GJ → Option Int} {B : Prop} (hj : j.ok) (hr : ∀ e ∈ j.elems, rec0 e.val = some e.vd ∨ (B ∧ rec0 e.val = none)) :
 ∀ (k i : Nat), i + k = j.elems.length →
  x5 rec0 none j.val (i : Int) = some (J.vdL (j.elems.drop i)) ∨ (B ∧ x5 rec0 none j.val (i : Int) = none)
 | 0, i, h => by
  left
  have : i = j.elems.length := by omega
  subst this
  unfold x5
  rw [qi (x := some 0), List.drop_length]
  ·rfl
  ·unfold ql
   rw [if_neg (by rw [xm]; simp)]
   rfl
 | k + 1, i, h => by
  have hi : i < j.elems.length := by omega
  have hl := hj.len
  have ih := za3 hj hr k (i + 1) (by omega)
  have hb : ql rec0 none j.val (i : Int) = (rec0 (j.elems[i]).val).bind fun v8 => if (v8 != 0) = true then some (.inr v8) else some (.inl ((i + 1 : Nat) : Int)) := by
   unfold ql
   rw [xm, if_pos (by simpa using hi), if_pos (by omega)]
   simp only [Int.toNat_natCast, znv hi, Option.bind_some, Wi (show i ≤ 4611686018427387904 by omega)]
   rfl
  rw [List.drop_eq_getElem_cons hi]
  unfold x5 at ih ⊢
  rcases hr _ (List.getElem_mem hi) with hc | ⟨hB, hc⟩
  ·rw [hc, Option.bind_some] at hb
   unfold J.vdL
   by_cases hv : j.elems[i].vd = 0
   ·rw [if_neg (by simpa using hv)] at hb
    rw [wk hb, if_neg (by simpa using hv)]
    exact ih
   ·left
    rw [if_pos (by simpa using hv)] at hb
    rw [qi (x := some (j.elems[i].vd)) hb, if_pos hv]
  ·right
   rw [hc] at hb
   exact ⟨hB, Y5 hb⟩
theorem zgt {j : J} {rec0 : GJ → Option Int} {B : Prop} (hj : j.ok) (hr : ∀ e ∈ j.elems, rec0 e.val = some e.vd ∨ (B ∧ rec0 e.val = none)) :
 qq rec0 none j.val = some j.vd ∨ (B ∧ qq rec0 none j.val = none) := by
 unfold qq
 rw [z7h, show j.val.fK = j.kind from rfl]
 by_cases c : j.kind < 0 ∨ j.kind > 5
 ·left
  rw [if_pos (by simp only [Bool.or_eq_true, decide_eq_true_eq]; omega), if_pos c]
 rw [if_neg (by simp only [Bool.or_eq_true, decide_eq_true_eq]; omega), if_neg c, y10 hj (by omega), Option.bind_some]
 cases hw : j.wf with
 | false => left; rw [if_pos (by rfl), if_neg (by simp)]
 | true =>
  rw [if_neg (by simp), if_pos rfl]
  exact za3 hj hr j.elems.length 0 (by omega)
theorem zru : ∀ (k : Nat) (j : J), j.ok → xf none k j.val = some j.vd ∨ (k < j.sz ∧ xf none k j.val = none)
 | 0, j, hj => .inr ⟨J1 j, rfl⟩
 | k + 1, j, hj => by
  unfold xf
  exact zgt hj fun e he => by
   rcases zru k e (hj.elem he) with h | ⟨h1, h2⟩
   ·exact .inl h
   ·exact .inr ⟨by have := z2i he; omega, h2⟩
theorem zx3 {j : J} (hj : j.ok) : ke none j.val = some j.vd := Xk (d := j.sz) fun k => zru k j hj
theorem y1g {j : J} (hj : j.ok) : Z8 none j.val = some j.vd := by
 rcases zgt (B := False) hj (fun e he => .inl (zx3 (hj.elem he))) with h | ⟨h, _⟩
 ·exact h
 ·exact h.elim
def J.chk (j : J) : Int := if j.nodes ≤ 400 ∧ j.depth ≤ 20 then j.vd else 2
theorem Xg {j : J} (hj : j.ok) : qz none j.val = some j.chk := by
 obtain ⟨h1, _⟩ := zaz j 1 0 (by omega)
 unfold qz J.chk
 rw [zxd hj, Option.bind_some]
 by_cases c : j.nodes ≤ 400 ∧ j.depth ≤ 20
 ·have : (j.lim 1 0).1 = true := h1.2 (by omega)
  rw [if_neg (by rw [this]; simp), if_pos c, y1g hj]
  rfl
 ·have : (j.lim 1 0).1 = false := by
   cases hv : (j.lim 1 0).1 with
   | false => rfl
   | true => have := h1.1 hv; omega
  rw [if_pos (by rw [this]; rfl), if_neg c]
theorem z6n {j : J} {rec0 : GJ → Option (Int × Int)} {B : Prop} (hj : j.ok) (hr : ∀ e ∈ j.elems, rec0 e.val = some ((e.nodes : Int), (e.depth : Int)) ∨ (B ∧ rec0 e.val = none)) :
 ∀ (k i a c : Nat), i + k = j.elems.length → a + J.nodesL (j.elems.drop i) ≤ 4611686018427387904 → c ≤ 1073741824 → J.depthL (j.elems.drop i) ≤ 1073741824 →
  qd rec0 none j.val (a : Int) (c : Int) (i : Int) = some (((a + J.nodesL (j.elems.drop i) : Nat) : Int), ((max c (J.depthL (j.elems.drop i)) + 1 : Nat) : Int)) ∨ (B ∧ qd rec0 none j.val (a : Int) (c : Int) (i : Int) = none)
 | 0, i, a, c, h, ha, hc, hd => by
  left
  have : i = j.elems.length := by omega
  subst this
  unfold qd
  rw [qi (x := some ((a : Int), ((c + 1 : Nat) : Int))), List.drop_length]
  ·simp [J.nodesL, J.depthL]
  ·unfold yg xz
   rw [if_neg (by rw [xm]; simp), Wi (by omega)]
 | k + 1, i, a, c, h, ha, hcc, hd => by
  have hi : i < j.elems.length := by omega
  have hl := hj.len
  have ih := z6n hj hr k (i + 1)
  have hb : yg rec0 none j.val (a : Int) (c : Int) (i : Int) = (rec0 (j.elems[i]).val).bind fun v9 => some (.inl (W ((a : Int) + v9.1), (if v9.2 > (c : Int) then v9.2 else (c : Int)), ((i + 1 : Nat) : Int))) := by
   unfold yg
   rw [xm, if_pos (by simpa using hi), if_pos (by omega)]
   simp only [Int.toNat_natCast, znv hi, Option.bind_some, Wi (show i ≤ 4611686018427387904 by omega)]
  rw [List.drop_eq_getElem_cons hi] at ha hd ⊢
  unfold J.nodesL at ha ⊢
  unfold J.depthL at hd ⊢
  unfold qd at ih ⊢
  rcases hr _ (List.getElem_mem hi) with hc | ⟨hB, hc⟩
  ·rw [hc, Option.bind_some] at hb
   have e1 : W ((a : Int) + (j.elems[i].nodes : Int)) = ((a + j.elems[i].nodes : Nat) : Int) := by rw [zio (by unfold inR; omega)]; omega
   have e2 : (if (j.elems[i].depth : Int) > (c : Int) then (j.elems[i].depth : Int) else (c : Int)) = ((max c j.elems[i].depth : Nat) : Int) := by
    by_cases hx : (j.elems[i].depth : Int) > (c : Int)
    ·rw [if_pos hx]; omega
    ·rw [if_neg hx]; omega
   simp only [e1, e2] at hb
   rw [wk hb]
   have := ih (a + j.elems[i].nodes) (max c j.elems[i].depth) (by omega) (by omega) (by omega) (by omega)
   rw [Nat.add_assoc, Nat.max_assoc] at this
   exact this
  ·right
   rw [hc] at hb
   exact ⟨hB, Y5 hb⟩
theorem z8d {j : J} {rec0 : GJ → Option (Int × Int)} {B : Prop} (hj : j.ok) (hr : ∀ e ∈ j.elems, rec0 e.val = some ((e.nodes : Int), (e.depth : Int)) ∨ (B ∧ rec0 e.val = none)) :
 q7 rec0 none j.val = some ((j.nodes : Int), (j.depth : Int)) ∨ (B ∧ q7 rec0 none j.val = none) := by
 have h1 := zdi j
 have h2 := z1e j
 have hk : j.sz ≤ 1073741824 := hj
 have e1 : j.nodes = 1 + J.nodesL j.elems := by cases j; rw [J.nodes.eq_1]; rfl
 have e2 : j.depth = 1 + J.depthL j.elems := by cases j; rw [J.depth.eq_1]; rfl
 have := z6n hj hr j.elems.length 0 1 0 (by omega) (by rw [List.drop_zero]; omega) (by omega) (by rw [List.drop_zero]; omega)
 rw [List.drop_zero] at this
 rw [e1, e2, Nat.add_comm 1 (J.depthL j.elems)]
 rw [Nat.max_eq_right (Nat.zero_le _)] at this
 exact this
theorem zcg : ∀ (k : Nat) (j : J), j.ok → qh none k j.val = some ((j.nodes : Int), (j.depth : Int)) ∨ (k < j.sz ∧ qh none k j.val = none)
 | 0, j, hj => .inr ⟨J1 j, rfl⟩
 | k + 1, j, hj => by
  unfold qh
  exact z8d hj fun e he => by
   rcases zcg k e (hj.elem he) with h | ⟨h1, h2⟩
   ·exact .inl h
   ·exact .inr ⟨by have := z2i he; omega, h2⟩
theorem zuw {j : J} (hj : j.ok) : kr none j.val = some ((j.nodes : Int), (j.depth : Int)) := by
 rcases z8d (rec0 := wi none) (B := False) hj (fun e he => .inl (Xk (d := e.sz) fun k => zcg k e (hj.elem he))) with h | ⟨h, _⟩
 ·exact h
 ·exact h.elim
theorem zyx (k n : Int) : (((n == 0) || ((k == 1) && (n == 1))) || (((k == 2) && (decide ((W (0 - 9007199254740991)) ≤ n))) && (decide (n ≤ 9007199254740991)))) = Vf k n := by
 have e : W (0 - 9007199254740991) = -9007199254740991 := zio (by unfold inR; omega)
 rw [e]
 unfold Vf
 rw [Bool.eq_iff_iff]
 simp only [Bool.or_eq_true, Bool.and_eq_true, decide_eq_true_eq, beq_iff_eq]
 omega
theorem z2n {j : J} {rec0 : GJ → Option Int} (hj : j.ok) : ∀ (k i : Nat) (v : Bool), i + k = j.names.length →
 qp rec0 none j.val v (i : Int) = yk rec0 none j.val (v && (j.names.drop i).all Lib.validD)
 | 0, i, v, h => by
  have : i = j.names.length := by omega
  subst this
  unfold qp
  rw [List.drop_length, List.all_nil, Bool.and_true, qi]
  unfold y8
  rw [show j.val.fA = j.names from rfl, List.length_map, if_neg (by simp)]
 | k + 1, i, v, h => by
  have hi : i < j.names.length := by omega
  have hl := hj.len
  have ih := z2n (rec0 := rec0) hj k (i + 1) (v && Lib.validD j.names[i]) (by omega)
  have hb : y8 rec0 none j.val v (i : Int) = some (.inl ((v && Lib.validD j.names[i]), ((i + 1 : Nat) : Int))) := by
   unfold y8
   rw [show j.val.fA = j.names from rfl, List.length_map, if_pos (by simpa using hi), if_pos (by omega)]
   simp only [Int.toNat_natCast, V2 hi, Wi (show i ≤ 4611686018427387904 by omega)]
   rw [z4g (by have := hl.2.2.2 _ (List.getElem_mem hi); omega)]
   cases v <;> rfl
  rw [List.drop_eq_getElem_cons hi, List.all_cons, ← Bool.and_assoc]
  unfold qp at ih ⊢
  rw [wk hb]
  exact ih
theorem ze3 {j : J} {rec0 : GJ → Option Int} {B : Prop} (hj : j.ok) (hr : ∀ e ∈ j.elems, rec0 e.val = some e.vd ∨ (B ∧ rec0 e.val = none)) :
 y4 rec0 none j.val = some j.vd ∨ (B ∧ y4 rec0 none j.val = none) := by
 obtain ⟨hl1, hl2, hl3, hl4⟩ := hj.len
 have hend : ∀ v : Bool, (v && j.names.all Lib.validD) = j.wf → ¬ (j.kind < 0 ∨ j.kind > 5) →
  (y7 rec0 none j.val v = some j.vd ∨ (B ∧ y7 rec0 none j.val v = none)) := by
  intro v hv hk
  have h1 := z2n (rec0 := rec0) hj j.names.length 0 v (by omega)
  rw [List.drop_zero, hv] at h1
  have h2 : y7 rec0 none j.val v = yk rec0 none j.val j.wf := h1
  rw [h2, z7h, if_neg hk]
  unfold yk
  cases hw : j.wf with
  | false => left; rw [if_pos (by rfl), if_neg (by simp)]
  | true =>
   rw [if_neg (by simp), if_pos rfl]
   exact za3 hj hr j.elems.length 0 (by omega)
 unfold y4
 rw [xm, show j.val.fK = j.kind from rfl, show j.val.fN = j.num from rfl, show j.val.fT = j.text from rfl, show j.val.fA = j.names from rfl, List.length_map, zyx]
 by_cases c : j.kind < 0 ∨ j.kind > 5
 ·left
  rw [if_pos (by simp only [Bool.or_eq_true, decide_eq_true_eq]; omega), z7h, if_pos c]
 rw [if_neg (by simp only [Bool.or_eq_true, decide_eq_true_eq]; omega)]
 have hv : ∃ v1, (if ((((Vf j.kind j.num) == true) && ((j.text == ([] : List UInt8)) == false)) && ((j.kind == 3) == true)) = true then qb none j.text else some default) = some v1 ∧
  (Vf j.kind j.num && ((j.text == ([] : List UInt8)) || ((j.kind == 3) && v1))) = (Vf j.kind j.num && (decide (j.text = []) || (decide (j.kind = 3) && Lib.validD j.text))) := by
  rw [z4g (by omega)]
  cases Vf j.kind j.num with
  | false => exact ⟨default, by simp, rfl⟩
  | true =>
   by_cases ht : j.text = []
   ·exact ⟨default, by simp [ht], by simp [ht]⟩
   ·by_cases h3 : j.kind = 3
    ·exact ⟨_, by rw [if_pos (by simp [ht, h3])], by simp [ht, h3]⟩
    ·exact ⟨default, by rw [if_neg (by simp [h3])], by simp [ht, h3]⟩
 obtain ⟨v1, hv1, hv2⟩ := hv
 rw [hv1, Option.bind_some, hv2]
 have e3 : ((((j.elems.length : Nat) : Int) == 0) || decide (j.kind ≥ 4)) = decide (j.elems.length = 0 ∨ j.kind ≥ 4) := by
  rw [Bool.eq_iff_iff]; simp only [Bool.or_eq_true, decide_eq_true_eq, beq_iff_eq]; omega
 rw [e3]
 by_cases c5 : j.kind = 5
 ·rw [if_pos (by simpa using c5)]
  have e4 : (((j.names.length : Nat) : Int) == ((j.elems.length : Nat) : Int)) = decide (j.names.length = j.elems.length) := by
   rw [Bool.eq_iff_iff]; simp only [decide_eq_true_eq, beq_iff_eq]; omega
  rw [e4, zx5 (by omega)]
  generalize hA : (((Vf j.kind j.num && (decide (j.text = []) || (decide (j.kind = 3) && Lib.validD j.text))) && decide (j.elems.length = 0 ∨ j.kind ≥ 4)) && decide (j.names.length = j.elems.length)) = A
  have hwf : j.wf = (A && !z94 [] j.names && j.names.all Lib.validD) := by
   rw [← hA]
   unfold J.wf wfB
   rw [if_pos c5]
   simp only [Bool.and_assoc]
  cases A with
  | false =>
   rw [if_neg (by simp), Option.bind_some]
   exact hend _ (by rw [hwf]; rfl) c
  | true =>
   rw [if_pos (by rfl), Option.bind_some]
   exact hend _ (by rw [hwf]) c
 ·rw [if_neg (by simpa using c5)]
  have e4 : (((j.names.length : Nat) : Int) == 0) = decide (j.names.length = 0) := by
   rw [Bool.eq_iff_iff]; simp only [decide_eq_true_eq, beq_iff_eq]; omega
  rw [e4]
  refine hend _ ?_ c
  unfold J.wf wfB
  rw [if_neg c5]
theorem znp : ∀ (k : Nat) (j : J), j.ok → yr none k j.val = some j.vd ∨ (k < j.sz ∧ yr none k j.val = none)
 | 0, j, hj => .inr ⟨J1 j, rfl⟩
 | k + 1, j, hj => by
  unfold yr
  exact ze3 hj fun e he => by
   rcases znp k e (hj.elem he) with h | ⟨h1, h2⟩
   ·exact .inl h
   ·exact .inr ⟨by have := z2i he; omega, h2⟩
theorem zxb {j : J} (hj : j.ok) : kf none j.val = some j.vd := by
 rcases ze3 (rec0 := w7 none) (B := False) hj (fun e he => .inl (Xk (d := e.sz) fun k => znp k e (hj.elem he))) with h | ⟨h, _⟩
 ·exact h
 ·exact h.elim
theorem J6 {j : J} (hj : j.ok) : yh none j.val = some j.chk := by
 unfold yh J.chk
 rw [zuw hj, Option.bind_some]
 by_cases c : j.nodes ≤ 400 ∧ j.depth ≤ 20
 ·rw [if_neg (by simp only [Bool.or_eq_true, decide_eq_true_eq]; omega), if_pos c, zxb hj]; rfl
 ·rw [if_pos (by simp only [Bool.or_eq_true, decide_eq_true_eq]; omega), if_neg c]
theorem zl7 {ns : List (List UInt8)} (h : ns.length ≤ 1073741824) : vi none ns = some ns := by
 cases ns with
 | nil => rfl
 | cons x r =>
  show jp none (x :: r) = _
  unfold jp
  rw [List.nil_append, if_pos (by simp), if_pos (by rw [List.length_map]; omega)]
theorem z37 {j : J} {rec0 : GJ → Option GJ} {B : Prop} (hj : j.ok) (hr : ∀ e ∈ j.elems, rec0 e.val = some e.val ∨ (B ∧ rec0 e.val = none)) :
 ∀ (k i : Nat), i + k = j.elems.length →
  xx rec0 none j.val j.names (i : Int) ((j.elems.take i).map J.raw) = some j.val ∨ (B ∧ xx rec0 none j.val j.names (i : Int) ((j.elems.take i).map J.raw) = none)
 | 0, i, h => by
  left
  have : i = j.elems.length := by omega
  subst this
  unfold xx
  rw [qi (x := some j.val)]
  unfold x7 wu
  rw [xm, if_neg (by simp), List.take_length]
  rfl
 | k + 1, i, h => by
  have hi : i < j.elems.length := by omega
  have hl := hj.len
  have ih := z37 hj hr k (i + 1) (by omega)
  have ht : (j.elems.take (i + 1)).map J.raw = (j.elems.take i).map J.raw ++ [(j.elems[i]).raw] := by rw [List.take_succ_eq_append_getElem hi, List.map_append]; rfl
  have hlen : ((j.elems.take i).map J.raw ++ [(j.elems[i]).raw]).length = i + 1 := by
   rw [← ht, List.length_map, List.length_take]; omega
  have hb : x7 rec0 none j.val j.names (i : Int) ((j.elems.take i).map J.raw) = (rec0 (j.elems[i]).val).bind fun v9 => if ((((j.elems.take i).map J.raw) ++ ([z6 v9] : List (List AVal))).map z8).length * 80 ≤ 140737488355328 then some (.inl (((i + 1 : Nat) : Int), ((j.elems.take i).map J.raw) ++ ([z6 v9] : List (List AVal)))) else none := by
   unfold x7
   rw [xm, if_pos (by simpa using hi), if_pos (by omega)]
   simp only [Int.toNat_natCast, znv hi, Option.bind_some, Wi (show i ≤ 4611686018427387904 by omega)]
  unfold xx at ih ⊢
  rcases hr _ (List.getElem_mem hi) with hc | ⟨hB, hc⟩
  ·rw [hc, Option.bind_some, ← Wd, if_pos (by rw [List.length_map, hlen]; omega), ← ht] at hb
   rw [wk hb]
   exact ih
  ·right
   rw [hc] at hb
   exact ⟨hB, Y5 hb⟩
theorem Kv {j : J} {rec0 : GJ → Option GJ} {B : Prop} (hj : j.ok) (hr : ∀ e ∈ j.elems, rec0 e.val = some e.val ∨ (B ∧ rec0 e.val = none)) :
 xg rec0 none j.val = some j.val ∨ (B ∧ xg rec0 none j.val = none) := by
 unfold xg
 rw [show j.val.fA = j.names from rfl, zl7 hj.len.2.2.1, Option.bind_some]
 exact z37 hj hr j.elems.length 0 (by omega)
theorem z8i : ∀ (k : Nat) (j : J), j.ok → je none k j.val = some j.val ∨ (k < j.sz ∧ je none k j.val = none)
 | 0, j, hj => .inr ⟨J1 j, rfl⟩
 | k + 1, j, hj => by
  unfold je
  exact Kv hj fun e he => by
   rcases z8i k e (hj.elem he) with h | ⟨h1, h2⟩
   ·exact .inl h
   ·exact .inr ⟨by have := z2i he; omega, h2⟩
theorem zpz {j : J} (hj : j.ok) : Z2 none j.val = some j.val := by
 rcases Kv (rec0 := u1 none) (B := False) hj (fun e he => .inl (Xk (d := e.sz) fun k => z8i k e (hj.elem he))) with h | ⟨h, _⟩
 ·exact h
 ·exact h.elim
theorem Kd {a : List (List UInt8)} (hl : a.length ≤ 4611686018427387904) : ∀ (k i : Nat), i + k = a.length → qx none a a (i : Int) = some true
 | 0, i, h => by
  unfold qx
  rw [qi (x := some true)]
  unfold yb
  rw [if_neg (by simp; omega)]
  rfl
 | k + 1, i, h => by
  have hi : i < a.length := by omega
  have ih := Kd hl k (i + 1) (by omega)
  have hb : yb none a a (i : Int) = some (.inl ((i + 1 : Nat) : Int)) := by
   unfold yb
   rw [if_pos (by simpa using hi), if_pos (by simpa using hi), if_pos (by simpa using hi), if_neg (by simp), Wi (by omega)]
  unfold qx at ih ⊢
  rw [wk hb]
  exact ih
theorem zf7 {a : List (List UInt8)} (hl : a.length ≤ 4611686018427387904) : ya none a a = some true := by
 unfold ya
 rw [if_neg (by simp)]
 exact Kd hl a.length 0 (by omega)
theorem znh {a : List (List UInt8)} : ya none a [] = some (decide (a.length = 0)) := by
 unfold ya
 by_cases h : a.length = 0
 ·have : a = [] := List.eq_nil_of_length_eq_zero h
  subst this
  rw [if_neg (by simp)]
  exact Kd (a := []) (by simp) 0 0 rfl
 ·rw [if_pos (by simp; exact fun hh => h (by rw [hh]; rfl))]
  simp [h]
theorem zkx {j : J} {rec0 : GJ → GJ → Option Bool} {B : Prop} (hj : j.ok) (hr : ∀ e ∈ j.elems, rec0 e.val e.val = some true ∨ (B ∧ rec0 e.val e.val = none)) :
 ∀ (k i : Nat), i + k = j.elems.length →
  zr rec0 none j.val j.val true (i : Int) = some true ∨ (B ∧ zr rec0 none j.val j.val true (i : Int) = none)
 | 0, i, h => by
  left
  have : i = j.elems.length := by omega
  subst this
  unfold zr
  rw [qi (x := some true)]
  unfold zq qy
  rw [xm, if_neg (by simp)]
  first | rfl | done
 | k + 1, i, h => by
  have hi : i < j.elems.length := by omega
  have hl := hj.len
  have ih := zkx hj hr k (i + 1) (by omega)
  have hb : zq rec0 none j.val j.val true (i : Int) = (rec0 (j.elems[i]).val (j.elems[i]).val).bind fun v12 => some (.inl (v12, ((i + 1 : Nat) : Int))) := by
   unfold zq
   rw [xm, if_pos (by simpa using hi), if_pos (by omega)]
   simp only [Int.toNat_natCast, znv hi, Option.bind_some, Wi (show i ≤ 4611686018427387904 by omega)]
   rw [if_pos (by omega)]
  unfold zr at ih ⊢
  rcases hr _ (List.getElem_mem hi) with hc | ⟨hB, hc⟩
  ·rw [hc, Option.bind_some] at hb
   rw [wk hb]
   exact ih
  ·right
   rw [hc] at hb
   exact ⟨hB, Y5 hb⟩
theorem zlk {j : J} {rec0 : GJ → GJ → Option Bool} {B : Prop} (hj : j.ok) (hr : ∀ e ∈ j.elems, rec0 e.val e.val = some true ∨ (B ∧ rec0 e.val e.val = none)) :
 zj rec0 none j.val j.val = some true ∨ (B ∧ zj rec0 none j.val j.val = none) := by
 unfold zj
 rw [if_pos (by simp), show j.val.fA = j.names from rfl, zf7 (by have := hj.len.2.2.1; omega), Option.bind_some]
 have e : ((((((j.val.fK == j.val.fK) && (j.val.fN == j.val.fN)) && (j.val.fT == j.val.fT)) && true) && (((j.val.fE.map z8).length : Int) == ((j.val.fE.map z8).length : Int)))) = true := by simp
 rw [e]
 exact zkx hj hr j.elems.length 0 (by omega)
theorem zrn : ∀ (k : Nat) (j : J), j.ok → yf none k j.val j.val = some true ∨ (k < j.sz ∧ yf none k j.val j.val = none)
 | 0, j, hj => .inr ⟨J1 j, rfl⟩
 | k + 1, j, hj => by
  unfold yf
  exact zlk hj fun e he => by
   rcases zrn k e (hj.elem he) with h | ⟨h1, h2⟩
   ·exact .inl h
   ·exact .inr ⟨by have := z2i he; omega, h2⟩
theorem y14 {j : J} (hj : j.ok) : ye none j.val j.val = some true := Xk (d := j.sz) fun k => zrn k j hj
def nullJ : J := .mk 0 0 [] [] []
theorem Vu : nullJ.ok := by unfold J.ok nullJ; rw [J.sz.eq_1]; simp [nsz, J.szL]
def Q6 (j : J) : Bool := decide (j.kind = 0 ∧ j.num = 0 ∧ j.text = [] ∧ j.names.length = 0 ∧ j.elems.length = 0)
theorem z76 {j : J} (hj : j.ok) : jk none j.val = some (Q6 j) := by
 have hl := hj.len
 unfold jk Q6
 rw [xm, show j.val.fK = j.kind from rfl, show j.val.fN = j.num from rfl, show j.val.fT = j.text from rfl, show j.val.fA = j.names from rfl, List.length_map, zio (by unfold inR; omega)]
 congr 1
 rw [Bool.eq_iff_iff]
 simp only [Bool.and_eq_true, decide_eq_true_eq, beq_iff_eq]
 constructor
 ·rintro ⟨⟨⟨h1, h2⟩, h3⟩, h4⟩; exact ⟨h1, h2, h3, by omega, by omega⟩
 ·rintro ⟨h1, h2, h3, h4, h5⟩; exact ⟨⟨⟨h1, h2⟩, h3⟩, by omega⟩
theorem zew {j : J} (hj : j.ok) (rec0 : GJ → GJ → Option Bool) : zj rec0 none j.val nullJ.val = some (Q6 j) := by
 have hl := hj.len
 have hlp : ∀ (b : J) (v : Bool), (v = true → j.elems.length = 0) → zr rec0 none j.val b.val v 0 = some v := fun b v hv => by
  unfold zr
  rw [qi (x := some v)]
  unfold zq
  rw [xm, if_neg]
  ·rfl
  ·simp only [Bool.and_eq_true, decide_eq_true_eq]
   rintro ⟨h1, h2⟩
   have := hv h1
   omega
 unfold zj
 rw [xm, xm, show j.val.fK = j.kind from rfl, show j.val.fN = j.num from rfl, show j.val.fT = j.text from rfl, show j.val.fA = j.names from rfl]
 rw [show nullJ.val.fK = 0 from rfl, show nullJ.val.fN = 0 from rfl, show nullJ.val.fT = [] from rfl, show nullJ.val.fA = [] from rfl, show nullJ.elems.length = 0 from rfl, znh]
 by_cases c : j.kind = 0 ∧ j.num = 0 ∧ j.text = []
 ·rw [if_pos (by simp [c.1, c.2.1, c.2.2]), Option.bind_some, hlp nullJ _ (fun h => by simp only [Bool.and_eq_true, beq_iff_eq] at h; omega)]
  congr 1
  unfold Q6
  rw [Bool.eq_iff_iff]
  simp only [Bool.and_eq_true, decide_eq_true_eq, beq_iff_eq]
  constructor
  ·rintro ⟨⟨⟨⟨h1, h2⟩, h3⟩, h4⟩, h5⟩; exact ⟨h1, h2, h3, h4, by omega⟩
  ·rintro ⟨h1, h2, h3, h4, h5⟩; exact ⟨⟨⟨⟨h1, h2⟩, h3⟩, h4⟩, by omega⟩
 ·have hc : (((j.kind == 0) && (j.num == 0)) && (j.text == ([] : List UInt8))) = false := by
   cases hx : (((j.kind == 0) && (j.num == 0)) && (j.text == ([] : List UInt8))) with
   | false => rfl
   | true =>
    simp only [Bool.and_eq_true, beq_iff_eq] at hx
    exact absurd ⟨hx.1.1, hx.1.2, hx.2⟩ c
  rw [hc, if_neg (by simp), Option.bind_some, hlp nullJ _ (fun h => by simp at h)]
  simp only [Bool.false_and]
  congr 1
  unfold Q6
  rw [eq_comm, decide_eq_false_iff_not]
  exact fun h => c ⟨h.1, h.2.1, h.2.2.1⟩
theorem zoo {j : J} (hj : j.ok) : qc none j.val = some (Q6 j) := by
 have h : ye none j.val nullJ.val = some (Q6 j) := Xk (d := 1) fun k => match k with
  | 0 => .inr ⟨Nat.zero_lt_one, rfl⟩
  | k + 1 => .inl (zew hj _)
 unfold qc
 rw [show (GJ.mk 0 0 ([] : List UInt8) ([] : List (List UInt8)) ([] : List (List AVal))) = nullJ.val from rfl, h]
 rfl
def vt (m : List UInt8) (a : Int) : Bool := ((decide ((m.length : Int) ≥ a)) && (decide ((m.length : Int) ≤ 60))) && Lib.validD m
theorem z5y (m : List UInt8) (a : Int) : xr none m a = some (vt m a) := by
 unfold xr vt
 cases hc : ((decide ((m.length : Int) ≥ a)) && (decide ((m.length : Int) ≤ 60))) with
 | false => rfl
 | true =>
  have : m.length ≤ 60 := by simp only [Bool.and_eq_true, decide_eq_true_eq] at hc; omega
  rw [if_pos (by rfl), zbi (by omega)]
  rfl
theorem z7n (m : List UInt8) (a : Int) : qa none m a = some (vt m a) := by
 unfold qa vt
 cases hc : ((decide ((m.length : Int) ≥ a)) && (decide ((m.length : Int) ≤ 60))) with
 | false => rfl
 | true =>
  have : m.length ≤ 60 := by simp only [Bool.and_eq_true, decide_eq_true_eq] at hc; omega
  rw [if_pos (by rfl), z4g (by omega)]
  rfl
def X9 : List UInt8 := [36, 47, 99, 97, 110, 99, 101, 108]
def idB (k id : Int) : Bool := if k = 2 then decide (id = 0) else decide (0 ≤ id ∧ id ≤ 2147483647)
def zo6 (k c : Int) : Bool := if k = 4 then decide (1 ≤ c ∧ c ≤ 99) else decide (c = 0)
def z6q (k : Int) (m : List UInt8) : Bool := if k = 1 then vt m 1 else if k = 2 then vt m 1 && !(m == X9) else if k = 4 then vt m 0 else (m == [])
def wfM (k id c : Int) (m : List UInt8) (b : J) : Bool := idB k id && zo6 k c && (!(decide (k = 4 ∨ k = 5)) || Q6 b) && z6q k m
theorem zg3 (k id c : Int) (m : List UInt8) (b : GJ) : xt none ⟨k, id, c, m, b⟩ = some (z6q k m) := by
 unfold xt z6q
 simp only [z5y, Option.bind_some, beq_iff_eq]
 by_cases c1 : k = 1
 ·rw [if_pos c1, if_pos c1]
 rw [if_neg c1, if_neg c1]
 by_cases c2 : k = 2
 ·rw [if_pos c2, if_pos c2]; rfl
 rw [if_neg c2, if_neg c2]
 by_cases c4 : k = 4
 ·rw [if_pos c4, if_pos c4]
 rw [if_neg c4, if_neg c4]
theorem zyq {k id c : Int} {m : List UInt8} {b : J} (hb : b.ok) (v : Bool) : xy none ⟨k, id, c, m, b.val⟩ v = some (!v && (!(decide (k = 4 ∨ k = 5)) || Q6 b) && z6q k m) := by
 unfold xy
 have e1 : jk none (GJ.mk b.val.fK b.val.fN b.val.fT b.val.fA b.val.fE) = some (Q6 b) := z76 hb
 have e2 : xt none (GM.mk k id c m (GJ.mk b.val.fK b.val.fN b.val.fT b.val.fA b.val.fE)) = some (z6q k m) := zg3 ..
 simp only [e1, e2, Option.bind_some]
 cases v with
 | true => rw [if_pos rfl]; rfl
 | false =>
  rw [if_neg (by simp)]
  by_cases ck : k = 4 ∨ k = 5
  ·have h1 : ((k != 4) && (k != 5)) = false := by rcases ck with rfl | rfl <;> rfl
   rw [h1, if_pos (by rfl), Option.bind_some, decide_eq_true ck]
   cases Q6 b with
   | true => rw [if_neg (by simp)]; simp
   | false => rw [if_pos (by rfl)]; rfl
  ·have h1 : ((k != 4) && (k != 5)) = true := by simp; omega
   rw [h1, if_neg (by simp), Option.bind_some, if_neg (by simp), decide_eq_false ck]
   simp
theorem zz1 {k id c : Int} {m : List UInt8} {b : J} (hb : b.ok) : jd none ⟨k, id, c, m, b.val⟩ = some (wfM k id c m b) := by
 have hj1 : ∀ v : Bool, j5 none ⟨k, id, c, m, b.val⟩ v = some (!v && zo6 k c && (!(decide (k = 4 ∨ k = 5)) || Q6 b) && z6q k m) := by
  intro v
  unfold j5
  simp only [zyq hb]
  cases v with
  | true => rw [if_pos rfl]; rfl
  | false =>
   rw [if_neg (by simp)]
   unfold zo6
   by_cases c4 : k = 4
   ·rw [if_pos c4]
    by_cases cc : 1 ≤ c ∧ c ≤ 99
    ·have : ((decide (c < 1)) || (decide (c > 99))) = false := by simp; omega
     rw [this, if_neg (by simp), decide_eq_true cc]; simp [c4]
    ·have : ((decide (c < 1)) || (decide (c > 99))) = true := by simp only [Bool.or_eq_true, decide_eq_true_eq]; omega
     rw [this, if_pos (by simp [c4]), decide_eq_false cc]; simp [c4]
   ·rw [if_neg c4, if_neg (by simp [c4])]
    by_cases cc : c = 0
    ·simp [cc]
    ·simp [cc, c4]
 unfold jd
 simp only [hj1]
 unfold wfM idB
 by_cases c2 : k = 2
 ·rw [if_pos c2, if_neg (by simp [c2])]
  by_cases ci : id = 0
  ·simp [ci]
  ·simp [ci, c2]
 ·have hk2 : (k != 2) = true := by simpa using c2
  rw [if_neg c2]
  by_cases ci : 0 ≤ id ∧ id ≤ 2147483647
  ·have : ((decide (id < 0)) || (decide (id > 2147483647))) = false := by simp; omega
   rw [this, if_neg (by simp), decide_eq_true ci, hk2]; rfl
  ·have : ((decide (id < 0)) || (decide (id > 2147483647))) = true := by simp only [Bool.or_eq_true, decide_eq_true_eq]; omega
   rw [this, if_pos (by simp [c2]), decide_eq_false ci, hk2]; rfl
theorem zxk {k id c : Int} {m : List UInt8} {b : J} (hb : b.ok) (hk : ¬ (k < 1 ∨ k > 5)) : yv none ⟨k, id, c, m, b.val⟩ = some (wfM k id c m b) := by
 have e1 : qc none (GJ.mk b.val.fK b.val.fN b.val.fT b.val.fA b.val.fE) = some (Q6 b) := zoo hb
 have hid : ((decide (id ≥ 0)) && (decide (id ≤ 2147483647))) = decide (0 ≤ id ∧ id ≤ 2147483647) := by rw [Bool.eq_iff_iff]; simp
 have hc0 : (c == 0) = decide (c = 0) := by rw [Bool.eq_iff_iff]; simp
 have hi0 : (id == 0) = decide (id = 0) := by rw [Bool.eq_iff_iff]; simp
 unfold yv wfM idB zo6 z6q
 simp only [e1, z7n, hid, hc0, hi0]
 have hk' : k = 1 ∨ k = 2 ∨ k = 3 ∨ k = 4 ∨ k = 5 := by omega
 rcases hk' with rfl | rfl | rfl | rfl | rfl
 ·cases decide (0 ≤ id ∧ id ≤ 2147483647) <;> cases decide (c = 0) <;> simp
 ·cases decide (id = 0) <;> cases decide (c = 0) <;> simp [X9]
 ·cases decide (0 ≤ id ∧ id ≤ 2147483647) <;> cases decide (c = 0) <;> simp
 ·have hcc : ∀ x : Bool, (x && decide (c ≥ 1) && decide (c ≤ 99)) = (x && decide (1 ≤ c ∧ c ≤ 99)) := fun x => by rw [Bool.eq_iff_iff]; simp [and_assoc]
  simp only [hcc]
  cases decide (0 ≤ id ∧ id ≤ 2147483647) <;> cases decide (1 ≤ c ∧ c ≤ 99) <;> cases vt m 0 <;> cases Q6 b <;> simp
 ·cases decide (0 ≤ id ∧ id ≤ 2147483647) <;> cases decide (c = 0) <;> cases (m == []) <;> cases Q6 b <;> simp
def Js (n : Int) : J := .mk 2 n [] [] []
def Vv (t : List UInt8) : J := .mk 3 0 t [] []
def uw (ns : List (List UInt8)) (es : List J) : J := .mk 5 0 [] ns es
def idT : List UInt8 := [105, 100]
def zk : List UInt8 := [109, 101, 116, 104, 111, 100]
def zc : List UInt8 := [112, 97, 114, 97, 109, 115]
def wl : List UInt8 := [114, 101, 115, 117, 108, 116]
def jt : List UInt8 := [101, 114, 114, 111, 114]
def Yk : List UInt8 := [99, 111, 100, 101]
def jq : List UInt8 := [109, 101, 115, 115, 97, 103, 101]
def Xe (k id c : Int) (m : List UInt8) (b : J) : J :=
 if k = 1 then uw [idT, zk, zc] [Js id, Vv m, b]
 else if k = 2 then uw [zk, zc] [Vv m, b]
 else if k = 3 then uw [idT, wl] [Js id, b]
 else if k = 4 then uw [idT, jt] [Js id, uw [Yk, jq] [Js c, Vv m]]
 else uw [zk, zc] [Vv X9, uw [idT] [Js id]]
theorem zbe (k id c : Int) (m : List UInt8) (b : J) : (Xe k id c m b).sz ≤ b.sz + m.length + 200 := by
 unfold Xe
 repeat' split
 all_goals
  simp only [uw, Js, Vv, J.sz, J.szL, nsz, idT, zk, zc, wl, jt, Yk, jq, X9, List.length_cons, List.length_nil]
  omega
theorem z9t {k id c : Int} {m : List UInt8} {b : J} (hb : b.ok) : jw none ⟨k, id, c, m, b.val⟩ = some (Xe k id c m b).val := by
 have e1 : Z2 none (GJ.mk b.val.fK b.val.fN b.val.fT b.val.fA b.val.fE) = some b.val := zpz hb
 have en : ∀ n, jj none n = some (Js n).val := fun n => rfl
 have et : ∀ t, wz none t = some (Vv t).val := fun t => rfl
 have eo : ∀ ns es, qo none ns (es.map J.raw) = some (uw ns es).val := fun ns es => rfl
 unfold jw Xe
 simp only [e1, en, et, Option.bind_some, ← Wd, beq_iff_eq]
 by_cases c1 : k = 1
 ·rw [if_pos c1, if_pos c1, show [(Js id).raw, (Vv m).raw, b.raw] = [Js id, Vv m, b].map J.raw from rfl, eo]; rfl
 rw [if_neg c1, if_neg c1]
 by_cases c2 : k = 2
 ·rw [if_pos c2, if_pos c2, show [(Vv m).raw, b.raw] = [Vv m, b].map J.raw from rfl, eo]; rfl
 rw [if_neg c2, if_neg c2]
 by_cases c3 : k = 3
 ·rw [if_pos c3, if_pos c3, show [(Js id).raw, b.raw] = [Js id, b].map J.raw from rfl, eo]; rfl
 rw [if_neg c3, if_neg c3]
 by_cases c4 : k = 4
 ·rw [if_pos c4, if_pos c4, show [(Js c).raw, (Vv m).raw] = [Js c, Vv m].map J.raw from rfl, eo, Option.bind_some, ← Wd]
  rfl
 rw [if_neg c4, if_neg c4, show [(Js id).raw] = [Js id].map J.raw from rfl, eo, Option.bind_some, ← Wd]
 rfl
theorem z75 (n : List UInt8) (x : J) (k u : Int) (t : List UInt8) (ns : List (List UInt8)) (es : List J) (h1 : ns.length ≤ 1000) (h2 : es.length ≤ 1000) :
 zb none n x.val (J.mk k u t ns es).val = some (uw (n :: ns) (x :: es)).val := by
 unfold zb
 rw [show (J.mk k u t ns es).val.fA = ns from rfl, show (J.mk k u t ns es).val.fE = es.map J.raw from rfl, ← Wd]
 rw [if_pos (by simp only [List.length_map, List.length_append, List.length_cons, List.length_nil]; omega), if_pos (by simp only [List.length_map, List.length_append, List.length_cons, List.length_nil]; omega)]
 rfl
theorem zne {k id c : Int} {m : List UInt8} {b : J} (hb : b.ok) : ym none ⟨k, id, c, m, b.val⟩ = some (Xe k id c m b).val := by
 have en : ∀ n, q6 none n = some (Js n).val := fun n => rfl
 have et : ∀ t, xv none t = some (Vv t).val := fun t => rfl
 have eb : (GJ.mk b.val.fK b.val.fN b.val.fT b.val.fA b.val.fE) = b.val := rfl
 have e0 : (GJ.mk 0 0 ([] : List UInt8) ([] : List (List UInt8)) ([] : List (List AVal))) = (J.mk 0 0 [] [] []).val := rfl
 have mo : ∀ (n : List UInt8) (x : J) (ns : List (List UInt8)) (es : List J), ns.length ≤ 1000 → es.length ≤ 1000 → zb none n x.val (uw ns es).val = some (uw (n :: ns) (x :: es)).val := fun n x ns es h1 h2 => z75 n x _ _ _ ns es h1 h2
 have m0 : ∀ (n : List UInt8) (x : J), zb none n x.val (J.mk 0 0 [] [] []).val = some (uw [n] [x]).val := fun n x => z75 n x _ _ _ [] [] (by simp) (by simp)
 have m1 : ∀ (n : List UInt8) (x : J) (a : List UInt8) (y : J), zb none n x.val (uw [a] [y]).val = some (uw [n, a] [x, y]).val := fun n x a y => mo n x _ _ (by simp) (by simp)
 have m2 : ∀ (n : List UInt8) (x : J) (a d : List UInt8) (y z : J), zb none n x.val (uw [a, d] [y, z]).val = some (uw [n, a, d] [x, y, z]).val := fun n x a d y z => mo n x _ _ (by simp) (by simp)
 unfold ym Xe
 simp only [en, et, eb, e0, Option.bind_some, beq_iff_eq, m0, m1, m2]
 by_cases c1 : k = 1
 ·rw [if_pos c1, if_pos c1]; rfl
 rw [if_neg c1, if_neg c1]
 by_cases c2 : k = 2
 ·rw [if_pos c2, if_pos c2]; rfl
 rw [if_neg c2, if_neg c2]
 by_cases c3 : k = 3
 ·rw [if_pos c3, if_pos c3]; rfl
 rw [if_neg c3, if_neg c3]
 by_cases c4 : k = 4
 ·rw [if_pos c4, if_pos c4]; rfl
 rw [if_neg c4, if_neg c4]
 rfl
def znw (k id c : Int) (m : List UInt8) (b : J) : J × Int :=
 if k < 1 ∨ k > 5 then (nullJ, 7) else if wfM k id c m b = true then
  if b.chk ≠ 0 then (nullJ, b.chk) else if (Xe k id c m b).chk ≠ 0 then (nullJ, (Xe k id c m b).chk) else (Xe k id c m b, 0)
 else (nullJ, 3)
theorem ziw {k id c : Int} {m : List UInt8} {b : J} (hs : b.sz + m.length ≤ 1000000000) : wq none ⟨k, id, c, m, b.val⟩ = some ((znw k id c m b).1.val, (znw k id c m b).2) := by
 have hb : b.ok := by unfold J.ok; omega
 have ho : (Xe k id c m b).ok := by have := zbe k id c m b; unfold J.ok; omega
 have e1 : jd none (GM.mk k id c m (GJ.mk b.val.fK b.val.fN b.val.fT b.val.fA b.val.fE)) = some (wfM k id c m b) := zz1 hb
 have e2 : qz none (GJ.mk b.val.fK b.val.fN b.val.fT b.val.fA b.val.fE) = some b.chk := Xg hb
 have e3 : jw none (GM.mk k id c m (GJ.mk b.val.fK b.val.fN b.val.fT b.val.fA b.val.fE)) = some (Xe k id c m b).val := z9t hb
 unfold wq znw
 simp only [e1, e2, e3, Xg ho, Option.bind_some]
 by_cases ck : k < 1 ∨ k > 5
 ·rw [if_pos (by simp only [Bool.or_eq_true, decide_eq_true_eq]; omega), if_pos ck]; rfl
 rw [if_neg (by simp only [Bool.or_eq_true, decide_eq_true_eq]; omega), if_neg ck]
 cases wfM k id c m b with
 | false => rw [if_pos (by rfl), if_neg (by simp)]; rfl
 | true =>
  rw [if_neg (by simp), if_pos rfl]
  by_cases c1 : b.chk = 0
  ·rw [if_neg (show ¬ ((b.chk != 0) = true) by simp [c1]), if_neg (show ¬ (b.chk ≠ 0) by simp [c1])]
   by_cases c2 : (Xe k id c m b).chk = 0
   ·rw [if_neg (show ¬ (((Xe k id c m b).chk != 0) = true) by simp [c2]), if_neg (show ¬ ((Xe k id c m b).chk ≠ 0) by simp [c2])]
   ·rw [if_pos (show ((Xe k id c m b).chk != 0) = true by simp [c2]), if_pos c2]; rfl
  ·rw [if_pos (show (b.chk != 0) = true by simp [c1]), if_pos c1]; rfl
theorem zgv {k id c : Int} {m : List UInt8} {b : J} (hs : b.sz + m.length ≤ 1000000000) : yn none ⟨k, id, c, m, b.val⟩ = some ((znw k id c m b).1.val, (znw k id c m b).2) := by
 have hb : b.ok := by unfold J.ok; omega
 have ho : (Xe k id c m b).ok := by have := zbe k id c m b; unfold J.ok; omega
 have e2 : yh none (GJ.mk b.val.fK b.val.fN b.val.fT b.val.fA b.val.fE) = some b.chk := J6 hb
 have e3 : ym none (GM.mk k id c m (GJ.mk b.val.fK b.val.fN b.val.fT b.val.fA b.val.fE)) = some (Xe k id c m b).val := zne hb
 unfold yn znw
 simp only [e2, e3, J6 ho, Option.bind_some]
 by_cases ck : k < 1 ∨ k > 5
 ·rw [if_pos (by simp only [Bool.or_eq_true, decide_eq_true_eq]; omega), if_pos ck]; rfl
 have e1 : yv none (GM.mk k id c m (GJ.mk b.val.fK b.val.fN b.val.fT b.val.fA b.val.fE)) = some (wfM k id c m b) := zxk hb ck
 rw [if_neg (by simp only [Bool.or_eq_true, decide_eq_true_eq]; omega), if_neg ck, e1, Option.bind_some]
 cases wfM k id c m b with
 | false => rw [if_pos (by rfl), if_neg (by simp)]; rfl
 | true =>
  rw [if_neg (by simp), if_pos rfl]
  by_cases c1 : b.chk = 0
  ·rw [if_neg (show ¬ ((b.chk != 0) = true) by simp [c1]), if_neg (show ¬ (b.chk ≠ 0) by simp [c1])]
   by_cases c2 : (Xe k id c m b).chk = 0
   ·rw [if_neg (show ¬ (((Xe k id c m b).chk != 0) = true) by simp [c2]), if_neg (show ¬ ((Xe k id c m b).chk ≠ 0) by simp [c2])]
   ·rw [if_pos (show ((Xe k id c m b).chk != 0) = true by simp [c2]), if_pos c2]; rfl
  ·rw [if_pos (show (b.chk != 0) = true by simp [c1]), if_pos c1]; rfl
theorem zju {k id c : Int} {m : List UInt8} {b : J} (hs : b.sz + m.length ≤ 1000000000) : (znw k id c m b).1.ok := by
 have ho : (Xe k id c m b).ok := by have := zbe k id c m b; unfold J.ok; omega
 unfold znw
 repeat' split
 all_goals first | exact Vu | exact ho
def idx (a : List UInt8) : List (List UInt8) → Option Nat
 | [] => none
 | x :: r => if a = x then some 0 else (idx a r).map (· + 1)
def zcy : Option Nat → Int
 | some q => (q : Int)
 | none => -1
theorem vw {a : List UInt8} : ∀ {l : List (List UInt8)} {q : Nat}, idx a l = some q → ∃ h : q < l.length, l[q] = a
 | x :: r, q, h => by
  unfold idx at h
  split at h
  ·rename_i hx
   cases h
   exact ⟨by simp, hx.symm⟩
  ·cases hq : idx a r with
   | none => rw [hq] at h; cases h
   | some p =>
    rw [hq] at h
    cases h
    obtain ⟨h1, h2⟩ := vw hq
    exact ⟨by simpa using h1, by simpa using h2⟩
theorem zdg {a : List UInt8} : ∀ {l : List (List UInt8)}, idx a l = none → a ∉ l
 | [], _ => by simp
 | x :: r, h => by
  unfold idx at h
  split at h
  ·cases h
  ·rename_i hx
   cases hq : idx a r with
   | none => simp [hx, zdg hq]
   | some p => rw [hq] at h; cases h
theorem z23 {a0 : List (List UInt8)} {a1 : List UInt8} (hl : a0.length ≤ 4611686018427387904) : ∀ (k i : Nat), i + k = a0.length →
 y1 none a0 a1 (i : Int) = some (zcy ((idx a1 (a0.drop i)).map (i + ·)))
 | 0, i, h => by
  have : i = a0.length := by omega
  subst this
  unfold y1
  rw [qi (x := some (-1)), List.drop_length]
  ·rfl
  unfold zn
  rw [if_neg (by simp)]
  rfl
 | k + 1, i, h => by
  have hi : i < a0.length := by omega
  have ih := z23 (a1 := a1) hl k (i + 1) (by omega)
  have hb : zn none a0 a1 (i : Int) = if (a1 == a0[i]) = true then some (.inr (i : Int)) else some (.inl ((i + 1 : Nat) : Int)) := by
   unfold zn
   rw [if_pos (by simpa using hi), if_pos (by simpa using hi)]
   simp only [Int.toNat_natCast, V2 hi, Wi (show i ≤ 4611686018427387904 by omega)]
   rfl
  rw [List.drop_eq_getElem_cons hi, idx]
  unfold y1 at ih ⊢
  by_cases hc : a1 = a0[i]
  ·rw [if_pos (by simpa using hc)] at hb
   rw [qi (x := some (i : Int)) hb, if_pos hc]
   rfl
  ·rw [if_neg (by simpa using hc)] at hb
   rw [wk hb, ih, if_neg hc, Option.map_map]
   congr 3
   funext q
   simp only [Function.comp]
   omega
theorem z74 {a0 : List (List UInt8)} {a1 : List UInt8} (hl : a0.length ≤ 4611686018427387904) : q8 none a0 a1 = some (zcy (idx a1 a0)) := by
 have := z23 (a1 := a1) hl a0.length 0 (by omega)
 rw [List.drop_zero] at this
 have e : (idx a1 a0).map (fun q => 0 + q) = idx a1 a0 := by cases idx a1 a0 <;> simp
 rw [e] at this
 exact this
theorem z82 {a0 : List (List UInt8)} {a1 : List UInt8} (hl : a0.length ≤ 4611686018427387904) : jo none a0 a1 = some (zcy (idx a1 a0)) := z74 hl
def fnd (v : J) (a : List UInt8) : Option J := if v.kind = 5 then (idx a v.names).bind fun q => v.elems[q]? else none
def gm (v : J) (a : List UInt8) : J := (fnd v a).getD nullJ
theorem Ja {v x : J} {a : List UInt8} (h : fnd v a = some x) : v.kind = 5 ∧ x ∈ v.elems ∧ a ∈ v.names := by
 unfold fnd at h
 split at h <;> try (cases h; done)
 rename_i hk
 cases hq : idx a v.names with
 | none => rw [hq] at h; cases h
 | some q =>
  rw [hq] at h
  obtain ⟨h1, h2⟩ := vw hq
  exact ⟨hk, List.mem_of_getElem? h, by rw [← h2]; exact List.getElem_mem h1⟩
theorem zo4 {v : J} (hv : v.ok) (a : List UInt8) : (gm v a).ok := by
 unfold gm
 cases h : fnd v a with
 | none => exact Vu
 | some x => exact hv.elem (Ja h).2.1
theorem zj8 {v : J} (a : List UInt8) : (gm v a).sz ≤ v.sz ∧ (gm v a).text.length ≤ v.sz := by
 have ht : ∀ j : J, j.text.length ≤ j.sz := fun j => by cases j; rw [J.sz]; simp only [J.text]; omega
 have h1 : (gm v a).sz ≤ v.sz := by
  unfold gm
  cases h : fnd v a with
  | none => have := J1 v; simp only [Option.getD_none, nullJ]; rw [J.sz]; simp only [nsz, J.szL, List.length_nil]; omega
  | some x => have := z2i (Ja h).2.1; simp only [Option.getD_some]; omega
 have := ht (gm v a)
 exact ⟨h1, by omega⟩
theorem z5a {v : J} (hv : v.ok) (a : List UInt8) : zz none v.val a = some ((gm v a).val, (fnd v a).isSome) := by
 have hl := hv.len
 unfold zz gm fnd
 rw [show v.val.fA = v.names from rfl, z74 (by omega), Option.bind_some, xm, show v.val.fK = v.kind from rfl]
 by_cases hk : v.kind = 5
 ·rw [if_pos hk]
  cases hq : idx a v.names with
  | none =>
   rw [if_neg (by simp [zcy])]
   rfl
  | some q =>
   by_cases hlt : q < v.elems.length
   ·rw [if_pos (by simp [hk, zcy, hlt]; try omega), if_pos (by simp only [zcy]; omega)]
    simp only [zcy, Int.toNat_natCast, znv hlt, Option.bind_some, List.getElem?_eq_getElem hlt]
    rfl
   ·rw [if_neg (by simp [zcy]; omega)]
    simp only [Option.bind_some]
    rw [List.getElem?_eq_none (by omega)]
    rfl
 ·rw [if_neg hk, if_neg (by simp [hk])]
  rfl
theorem z1x {j : J} {rec0 : GJ → Option GJ} {B : Prop} (hj : j.ok) (hr : ∀ e ∈ j.elems, rec0 e.val = some e.val ∨ (B ∧ rec0 e.val = none)) :
 jc rec0 none j.val = some j.val ∨ (B ∧ jc rec0 none j.val = none) := Kv hj hr
theorem z3m : ∀ (k : Nat) (j : J), j.ok → jf none k j.val = some j.val ∨ (k < j.sz ∧ jf none k j.val = none)
 | 0, j, hj => .inr ⟨J1 j, rfl⟩
 | k + 1, j, hj => by
  unfold jf
  exact z1x hj fun e he => by
   rcases z3m k e (hj.elem he) with h | ⟨h1, h2⟩
   ·exact .inl h
   ·exact .inr ⟨by have := z2i he; omega, h2⟩
theorem zhd {j : J} (hj : j.ok) : Yc none j.val = some j.val := by
 rcases z1x (rec0 := u4 none) (B := False) hj (fun e he => .inl (Xk (d := e.sz) fun k => z3m k e (hj.elem he))) with h | ⟨h, _⟩
 ·exact h
 ·exact h.elim
theorem zf0 {v : J} (hv : v.ok) (a : List UInt8) : vq none v.val a = some ((gm v a).val, (fnd v a).isSome) := by
 have hl := hv.len
 unfold vq gm fnd
 rw [show v.val.fA = v.names from rfl, z82 (by omega), Option.bind_some, xm, show v.val.fK = v.kind from rfl]
 by_cases hk : v.kind = 5
 ·rw [if_pos hk]
  cases hq : idx a v.names with
  | none =>
   rw [if_pos (by simp [zcy])]
   rfl
  | some q =>
   by_cases hlt : q < v.elems.length
   ·rw [show zcy (some q) = (q : Int) from rfl, if_neg (by rw [hk]; simp; omega), if_pos (by omega)]
    simp only [zcy, Int.toNat_natCast, znv hlt, Option.bind_some, List.getElem?_eq_getElem hlt]
    rw [zhd (hv.elem (List.getElem_mem hlt))]
    rfl
   ·rw [show zcy (some q) = (q : Int) from rfl, if_pos (by rw [hk]; simp; omega)]
    simp only [Option.bind_some]
    rw [List.getElem?_eq_none (by omega)]
    rfl
 ·rw [if_neg hk, if_pos (by simp [hk])]
  rfl
theorem zpx {v : J} (hv : v.ok) (a : List UInt8) : zw none v.val a = some (gm v a).val := by
 unfold zw
 rw [zf0 hv, Option.bind_some]
structure Ms where
 k : Int
 id : Int
 c : Int
 m : List UInt8
 b : J
def Ms.val (x : Ms) : GM := ⟨x.k, x.id, x.c, x.m, x.b.val⟩
def ud (v : J) : List Ms :=
 [⟨1, (gm v idT).num, 0, (gm v zk).text, gm v zc⟩, ⟨2, 0, 0, (gm v zk).text, gm v zc⟩, ⟨3, (gm v idT).num, 0, [], gm v wl⟩,
  ⟨4, (gm v idT).num, (gm (gm v jt) Yk).num, (gm (gm v jt) jq).text, nullJ⟩, ⟨5, (gm (gm v zc) idT).num, 0, [], nullJ⟩]
theorem zom {v : J} (hv : v.ok) : jz none v.val = some ((ud v).map Ms.val) := by
 have h := fun (w : J) (hw : w.ok) (a : List UInt8) => zpx hw a
 unfold jz
 rw [show ([105, 100] : List UInt8) = idT from rfl, show ([109, 101, 116, 104, 111, 100] : List UInt8) = zk from rfl, show ([112, 97, 114, 97, 109, 115] : List UInt8) = zc from rfl, show ([101, 114, 114, 111, 114] : List UInt8) = jt from rfl, show ([114, 101, 115, 117, 108, 116] : List UInt8) = wl from rfl, show ([99, 111, 100, 101] : List UInt8) = Yk from rfl, show ([109, 101, 115, 115, 97, 103, 101] : List UInt8) = jq from rfl]
 simp only [h v hv, Option.bind_some, h (gm v jt) (zo4 hv _), h (gm v zc) (zo4 hv _)]
 rfl
def cpt (k : Int) (ns : List (List UInt8)) (w : J) (i : Nat) : Option J :=
 if k ≠ 5 then w.elems[i]? else match ns[i]? with
  | none => none
  | some a => match idx a w.names with
   | none => none
   | some q => w.elems[q]?
mutual
def J.eqB : J → J → Bool
 | .mk k n t ns es, w => decide (k = w.kind ∧ n = w.num ∧ t = w.text ∧ es.length = w.elems.length ∧ ns.length = w.names.length) && J.eqL es k ns w 0
def J.eqL : List J → Int → List (List UInt8) → J → Nat → Bool
 | [], _, _, _, _ => true
 | e :: r, k, ns, w, i => (match cpt k ns w i with
  | some x => e.eqB x
  | none => false) && J.eqL r k ns w (i + 1)
end
theorem zsq {k : Int} {ns : List (List UInt8)} {w x : J} {i : Nat} (h : cpt k ns w i = some x) : x ∈ w.elems := by
 unfold cpt at h
 split at h
 ·exact List.mem_of_getElem? h
 ·split at h <;> try (cases h; done)
  split at h <;> try (cases h; done)
  exact List.mem_of_getElem? h
theorem zx0 {j w : J} (hj : j.ok) (hw : w.ok) (hlen : j.elems.length = w.elems.length) {i : Nat} (hi : i < j.elems.length) :
 jn none j.val w.val (i : Int) = some (((cpt j.kind j.names w i).getD nullJ).val, (cpt j.kind j.names w i).isSome) := by
 have hl := hj.len
 have hl2 := hw.len
 unfold jn cpt
 rw [xm, show j.val.fK = j.kind from rfl, show j.val.fA = j.names from rfl, show w.val.fA = w.names from rfl, List.length_map]
 have hiw : i < w.elems.length := by omega
 by_cases hk : j.kind = 5
 ·rw [if_neg (show ¬ ((j.kind != 5) = true) by simp [hk]), if_neg (show ¬ (j.kind ≠ 5) by simp [hk])]
  by_cases hn : i < j.names.length
  ·rw [if_neg (by simp; omega), if_pos (by omega), Int.toNat_natCast, V2 hn, z82 (by omega), Option.bind_some, List.getElem?_eq_getElem hn]
   simp only
   cases hq : idx j.names[i] w.names with
   | none => rw [if_pos (by simp [zcy])]; rfl
   | some q =>
    rw [show zcy (some q) = (q : Int) from rfl]
    by_cases hlt : q < w.elems.length
    ·rw [if_neg (by simp; omega), if_pos (by omega)]
     simp only [Int.toNat_natCast, znv hlt, Option.bind_some, List.getElem?_eq_getElem hlt]
     rfl
    ·rw [if_pos (by simp; omega)]
     simp only
     rw [List.getElem?_eq_none (by omega)]
     rfl
  ·rw [if_pos (by simp; omega), List.getElem?_eq_none (by omega)]
   rfl
 ·rw [if_pos (by simpa using hk), if_pos hk, if_pos (by omega), List.getElem?_eq_getElem hiw]
  simp only [Int.toNat_natCast, znv hiw, Option.bind_some]
  rfl
theorem zgu {j w : J} {rec4 : GJ → GJ → Option Bool} {B : Prop} (hj : j.ok) (hw : w.ok) (hlen : j.elems.length = w.elems.length)
 (hr : ∀ e ∈ j.elems, ∀ x ∈ w.elems, rec4 e.val x.val = some (e.eqB x) ∨ (B ∧ rec4 e.val x.val = none)) : ∀ (k i : Nat), i + k = j.elems.length →
  j6 rec4 none j.val w.val (i : Int) = some (J.eqL (j.elems.drop i) j.kind j.names w i) ∨ (B ∧ j6 rec4 none j.val w.val (i : Int) = none)
 | 0, i, h => by
  left
  have : i = j.elems.length := by omega
  subst this
  unfold j6
  rw [qi (x := some true), List.drop_length]
  ·rfl
  ·unfold x6
   rw [if_neg (by rw [xm]; simp)]
   rfl
 | k + 1, i, h => by
  have hi : i < j.elems.length := by omega
  have hl := hj.len
  have ih := zgu hj hw hlen hr k (i + 1) (by omega)
  have hb : x6 rec4 none j.val w.val (i : Int) = (if ((!(cpt j.kind j.names w i).isSome) == false) = true then rec4 (j.elems[i]).val ((cpt j.kind j.names w i).getD nullJ).val else some default).bind fun v10 => if ((!(cpt j.kind j.names w i).isSome) || (!v10)) = true then some (.inr false) else some (.inl ((i + 1 : Nat) : Int)) := by
   unfold x6
   rw [xm, if_pos (by simpa using hi), if_pos (by omega)]
   simp only [Int.toNat_natCast, znv hi, Option.bind_some, zx0 hj hw hlen hi, Wi (show i ≤ 4611686018427387904 by omega)]
   rfl
  rw [List.drop_eq_getElem_cons hi, J.eqL]
  unfold j6 at ih ⊢
  cases hx : cpt j.kind j.names w i with
  | none =>
   left
   rw [hx] at hb
   rw [qi (x := some false) hb]
   rfl
  | some x =>
   rw [hx] at hb
   simp only [Option.isSome_some, Bool.not_true, Option.getD_some, Bool.false_or] at hb
   rw [if_pos (by rfl)] at hb
   rcases hr _ (List.getElem_mem hi) x (zsq hx) with hc | ⟨hB, hc⟩
   ·rw [hc, Option.bind_some] at hb
    cases hv : j.elems[i].eqB x with
    | true =>
     rw [hv, if_neg (by simp)] at hb
     rw [wk hb]
     simp only [hv, Bool.true_and]
     exact ih
    | false =>
     left
     rw [hv, if_pos (by rfl)] at hb
     rw [qi (x := some false) hb]
     simp only [hv, Bool.false_and]
   ·right
    rw [hc] at hb
    exact ⟨hB, Y5 hb⟩
theorem z0y (j w : J) : j.eqB w = (decide (j.kind = w.kind ∧ j.num = w.num ∧ j.text = w.text ∧ j.elems.length = w.elems.length ∧ j.names.length = w.names.length) && J.eqL j.elems j.kind j.names w 0) := by
 cases j; rw [J.eqB]; rfl
theorem zky {j w : J} {rec4 : GJ → GJ → Option Bool} {B : Prop} (hj : j.ok) (hw : w.ok)
 (hr : ∀ e ∈ j.elems, ∀ x ∈ w.elems, rec4 e.val x.val = some (e.eqB x) ∨ (B ∧ rec4 e.val x.val = none)) :
 xh rec4 none j.val w.val = some (j.eqB w) ∨ (B ∧ xh rec4 none j.val w.val = none) := by
 unfold xh
 rw [z0y, xm, xm, show j.val.fK = j.kind from rfl, show j.val.fN = j.num from rfl, show j.val.fT = j.text from rfl, show j.val.fA = j.names from rfl, show w.val.fK = w.kind from rfl, show w.val.fN = w.num from rfl, show w.val.fT = w.text from rfl, show w.val.fA = w.names from rfl, List.length_map, List.length_map]
 by_cases hc : j.kind = w.kind ∧ j.num = w.num ∧ j.text = w.text ∧ j.elems.length = w.elems.length ∧ j.names.length = w.names.length
 ·rw [if_neg (by simp [hc.1, hc.2.1, hc.2.2.1, hc.2.2.2.1, hc.2.2.2.2]), decide_eq_true hc, Bool.true_and]
  exact zgu hj hw hc.2.2.2.1 hr j.elems.length 0 (by omega)
 ·left
  rw [decide_eq_false hc, Bool.false_and, if_pos]
  by_cases h1 : j.kind = w.kind
  ·by_cases h2 : j.num = w.num
   ·by_cases h3 : j.text = w.text
    ·by_cases h4 : j.elems.length = w.elems.length
     ·have h5 : j.names.length ≠ w.names.length := fun h => hc ⟨h1, h2, h3, h4, h⟩
      have : ((j.names.length : Int) != (w.names.length : Int)) = true := by rw [bne_iff_ne]; omega
      rw [this]; simp
     ·have : ((j.elems.length : Int) != (w.elems.length : Int)) = true := by rw [bne_iff_ne]; omega
      rw [this]; simp
    ·have : (!(j.text == w.text)) = true := by simpa using h3
     rw [this]; simp
   ·have : (j.num != w.num) = true := by simpa using h2
    rw [this]; simp
  ·have : (j.kind != w.kind) = true := by simpa using h1
   rw [this]; simp
theorem zrl : ∀ (k : Nat) (j w : J), j.ok → w.ok → jg none k j.val w.val = some (j.eqB w) ∨ (k < j.sz ∧ jg none k j.val w.val = none)
 | 0, j, w, hj, hw => .inr ⟨J1 j, rfl⟩
 | k + 1, j, w, hj, hw => by
  unfold jg
  exact zky hj hw fun e he x hx => by
   rcases zrl k e x (hj.elem he) (hw.elem hx) with h | ⟨h1, h2⟩
   ·exact .inl h
   ·exact .inr ⟨by have := z2i he; omega, h2⟩
theorem zma {j w : J} (hj : j.ok) (hw : w.ok) : Yv none j.val w.val = some (j.eqB w) := by
 rcases zky (rec4 := u3 none) (B := False) hj hw (fun e he x hx => .inl (Xk (d := e.sz) fun k => zrl k e x (hj.elem he) (hw.elem hx))) with h | ⟨h, _⟩
 ·exact h
 ·exact h.elim
def eqv (v w : J) : Bool := decide (v.chk = 0) && decide (w.chk = 0) && v.eqB w
theorem z6b {v w : J} (hv : v.ok) (hw : w.ok) : jy none v.val w.val = some (eqv v w) := by
 unfold jy eqv
 rw [Xg hv, Xg hw, zma hv hw, Option.bind_some]
 by_cases c1 : v.chk = 0
 ·rw [if_pos (by simp [c1]), Option.bind_some]
  by_cases c2 : w.chk = 0
  ·rw [if_pos (by simp [c1, c2]), Option.bind_some]; simp [c1, c2]
  ·rw [if_neg (by simp [c1, c2]), Option.bind_some]; simp [c1, c2]
 ·rw [if_neg (by simp [c1]), Option.bind_some, if_neg (by simp [c1]), Option.bind_some]; simp [c1]
theorem zus : ∀ {l l' : List (List UInt8)}, l.Nodup → (∀ x ∈ l, x ∈ l') → l.length ≤ l'.length
 | [], l', _, _ => Nat.zero_le _
 | a :: t, l', hn, hs => by
  obtain ⟨h1, h2⟩ := List.nodup_cons.1 hn
  have ha := hs a (by simp)
  have := zus (l' := l'.erase a) h2 (fun x hx => (List.mem_erase_of_ne (fun e : x = a => h1 (by rw [← e]; exact hx))).2 (hs x (List.mem_cons_of_mem _ hx)))
  rw [List.length_erase_of_mem ha] at this
  have := List.length_pos_of_mem ha
  simp only [List.length_cons]
  omega
theorem zh0 {l l' : List (List UInt8)} (hn : l.Nodup) (hs : ∀ x ∈ l, x ∈ l') (hl : l'.length ≤ l.length) : ∀ x ∈ l', x ∈ l := fun x hx => by
 refine Decidable.byContradiction fun hc => ?_
 have := zus (l := x :: l) (l' := l') (List.nodup_cons.2 ⟨hc, hn⟩) (fun y hy => by
  rcases List.mem_cons.1 hy with rfl | hy
  ·exact hx
  ·exact hs y hy)
 simp only [List.length_cons] at this
 omega
theorem zw4 {a : List UInt8} {l : List (List UInt8)} (h : a ∈ l) : ∃ q, idx a l = some q := by
 cases hq : idx a l with
 | none => exact absurd h (zdg hq)
 | some q => exact ⟨q, rfl⟩
theorem zz2 {l : List (List UInt8)} (hn : l.Nodup) {i j : Nat} (hi : i < l.length) (hj : j < l.length) (h : l[i] = l[j]) : i = j := (List.getElem_inj hn).1 h
theorem zd3 {l : List (List UInt8)} (hn : l.Nodup) {i : Nat} (hi : i < l.length) : idx l[i] l = some i := by
 obtain ⟨q, hq⟩ := zw4 (List.getElem_mem hi)
 obtain ⟨h1, h2⟩ := vw hq
 rw [hq, zz2 hn h1 hi h2]
theorem zrf : ∀ {l p : List (List UInt8)}, z94 p l = false → (∀ x ∈ l, x ∉ p) ∧ l.Nodup
 | [], p, _ => ⟨fun x hx => (by cases hx), List.nodup_nil⟩
 | y :: r, p, h => by
  unfold z94 at h
  rw [Bool.or_eq_false_iff] at h
  obtain ⟨h1, h2⟩ := zrf h.2
  have hy : y ∉ p := by simpa using h.1
  refine ⟨fun x hx => ?_, List.nodup_cons.2 ⟨fun hc => (h1 y hc) (by simp), h2⟩⟩
  rcases List.mem_cons.1 hx with rfl | hx
  ·exact hy
  ·exact fun hc => h1 x hx (by simp [hc])
theorem zc4 : ∀ {es : List J}, J.vdL es = 0 → ∀ e ∈ es, e.vd = 0
 | e :: r, h, x, hx => by
  unfold J.vdL at h
  by_cases he : e.vd = 0
  ·rw [if_neg (by simpa using he)] at h
   rcases List.mem_cons.1 hx with rfl | hx
   ·exact he
   ·exact zc4 h x hx
  ·rw [if_pos he] at h; exact absurd h he
theorem Kf {v : J} (h : v.vd = 0) : (0 ≤ v.kind ∧ v.kind ≤ 5) ∧ v.wf = true ∧ ∀ e ∈ v.elems, e.vd = 0 := by
 rw [z7h] at h
 split at h
 ·omega
 ·split at h
  ·rename_i h1 h2
   exact ⟨by omega, h2, zc4 h⟩
  ·omega
theorem Vk {v : J} (h : v.wf = true) : Vf v.kind v.num = true ∧ (v.text = [] ∨ v.kind = 3) ∧ (v.elems.length = 0 ∨ v.kind ≥ 4) ∧ (v.kind = 5 → v.names.length = v.elems.length ∧ v.names.Nodup) ∧ (v.kind ≠ 5 → v.names.length = 0) := by
 unfold J.wf wfB at h
 simp only [Bool.and_eq_true, Bool.or_eq_true, decide_eq_true_eq] at h
 obtain ⟨⟨⟨⟨h1, h2⟩, h3⟩, h4⟩, h5⟩ := h
 refine ⟨h1, ?_, h3, fun hk => ?_, fun hk => ?_⟩
 ·rcases h2 with h | ⟨h, _⟩
  ·exact .inl h
  ·exact .inr h
 ·rw [if_pos hk] at h4
  simp only [Bool.and_eq_true, decide_eq_true_eq, Bool.not_eq_true'] at h4
  exact ⟨h4.1, (zrf h4.2).2⟩
 ·rw [if_neg hk] at h4
  simpa using h4
theorem zd8 {v : J} (h : v.wf = true) (h1 : v.kind ≠ 1) (h2 : v.kind ≠ 2) : v.num = 0 := by
 have := (Vk h).1
 unfold Vf at this
 rw [decide_eq_true_eq] at this
 omega
theorem zbh {k : Int} {ns : List (List UInt8)} {w : J} : ∀ {es : List J} {i : Nat}, J.eqL es k ns w i = true ↔ ∀ (q : Nat) (h : q < es.length), ∃ x, cpt k ns w (i + q) = some x ∧ es[q].eqB x = true
 | [], i => by simp [J.eqL]
 | e :: r, i => by
  rw [J.eqL, Bool.and_eq_true, zbh (es := r) (i := i + 1)]
  constructor
  ·rintro ⟨h1, h2⟩ q hq
   cases q with
   | zero =>
    cases hx : cpt k ns w i with
    | none => rw [hx] at h1; cases h1
    | some x => rw [hx] at h1; exact ⟨x, rfl, h1⟩
   | succ q =>
    obtain ⟨x, hx1, hx2⟩ := h2 q (by simpa using hq)
    exact ⟨x, by rw [show i + (q + 1) = i + 1 + q by omega]; exact hx1, by simpa using hx2⟩
  ·intro h
   refine ⟨?_, fun q hq => ?_⟩
   ·obtain ⟨x, hx1, hx2⟩ := h 0 (by simp)
    rw [Nat.add_zero] at hx1
    rw [hx1]
    exact hx2
   ·obtain ⟨x, hx1, hx2⟩ := h (q + 1) (by simpa using hq)
    exact ⟨x, by rw [show i + 1 + q = i + (q + 1) by omega]; exact hx1, by simpa using hx2⟩
theorem zck : ∀ (N : Nat) (v : J), v.sz ≤ N → v.vd = 0 → v.eqB v = true
 | 0, v, hs, _ => by have := J1 v; omega
 | N + 1, v, hs, hv => by
  obtain ⟨h1, h2, h3⟩ := Kf hv
  obtain ⟨_, _, _, h6, _⟩ := Vk h2
  rw [z0y, decide_eq_true ⟨rfl, rfl, rfl, rfl, rfl⟩, Bool.true_and, zbh]
  intro q hq
  refine ⟨v.elems[q], ?_, zck N _ (by have := z2i (List.getElem_mem hq); omega) (h3 _ (List.getElem_mem hq))⟩
  rw [Nat.zero_add]
  unfold cpt
  by_cases hk : v.kind = 5
  ·obtain ⟨h7, h8⟩ := h6 hk
   have hqn : q < v.names.length := by omega
   rw [if_neg (by simp [hk]), List.getElem?_eq_getElem hqn]
   simp only [zd3 h8 hqn]
   exact List.getElem?_eq_getElem hq
  ·rw [if_pos hk, List.getElem?_eq_getElem hq]
theorem zvz {v : J} (hv : v.vd = 0) {ns : List (List UInt8)} {es : List J} (hn : ns.Nodup) (hl : ns.length = es.length) :
 v.eqB (uw ns es) = true ↔ v.kind = 5 ∧ v.names.length = ns.length ∧ ∀ (q : Nat) (h : q < ns.length), ∃ x, fnd v ns[q] = some x ∧ x.eqB (es[q]) = true := by
 obtain ⟨h1, h2, h3⟩ := Kf hv
 obtain ⟨_, h4, _, h6, _⟩ := Vk h2
 have hfn : v.kind = 5 → v.names.Nodup → v.names.length = v.elems.length → ∀ i (hi : i < v.names.length) (hi' : i < v.elems.length), fnd v v.names[i] = some v.elems[i] := fun hk hnd hle i hi hi' => by
  unfold fnd
  rw [if_pos hk, zd3 hnd hi]
  exact List.getElem?_eq_getElem hi'
 rw [z0y, Bool.and_eq_true, decide_eq_true_eq, zbh]
 constructor
 ·rintro ⟨⟨hk, _, _, he, hnl⟩, hall⟩
  have hk : v.kind = 5 := hk
  have he : v.elems.length = es.length := he
  have hnl : v.names.length = ns.length := hnl
  obtain ⟨h7, h8⟩ := h6 hk
  have key : ∀ i (hi : i < v.names.length) (hi' : i < v.elems.length), ∃ q, idx v.names[i] ns = some q ∧ ∃ hq : q < es.length, v.elems[i].eqB es[q] = true := fun i hi hi' => by
   obtain ⟨x, hx1, hx2⟩ := hall i hi'
   rw [Nat.zero_add, hk] at hx1
   unfold cpt at hx1
   rw [if_neg (by simp), List.getElem?_eq_getElem hi] at hx1
   simp only at hx1
   cases hq : idx v.names[i] ns with
   | none =>
    have hq' : idx v.names[i] (uw ns es).names = none := hq
    rw [hq'] at hx1; cases hx1
   | some q =>
    have hq' : idx v.names[i] (uw ns es).names = some q := hq
    rw [hq'] at hx1
    have hx1 : es[q]? = some x := hx1
    obtain ⟨hqe, rfl⟩ := List.getElem?_eq_some_iff.1 hx1
    exact ⟨q, rfl, hqe, hx2⟩
  refine ⟨hk, hnl, fun q hq => ?_⟩
  have hsub := zh0 h8 (l' := ns) (fun x hx => by
   obtain ⟨i, hi, rfl⟩ := List.getElem_of_mem hx
   obtain ⟨q', hq', _⟩ := key i hi (by omega)
   obtain ⟨k1, k2⟩ := vw hq'
   rw [← k2]
   exact List.getElem_mem k1) (by omega) ns[q] (List.getElem_mem hq)
  obtain ⟨i, hi, hie⟩ := List.getElem_of_mem hsub
  obtain ⟨q', hq', hqe, heq⟩ := key i hi (by omega)
  rw [hie, zd3 hn hq] at hq'
  cases hq'
  exact ⟨v.elems[i], by rw [← hie]; exact hfn hk h8 h7 i hi (by omega), heq⟩
 ·rintro ⟨hk, hnl, hall⟩
  obtain ⟨h7, h8⟩ := h6 hk
  refine ⟨⟨hk, zd8 h2 (by omega) (by omega), by rcases h4 with h | h; exact h; omega, by show v.elems.length = es.length; omega, hnl⟩, fun i hi => ?_⟩
  have hin : i < v.names.length := by omega
  have hsub := zh0 hn (l' := v.names) (fun x hx => by
   obtain ⟨q, hq, rfl⟩ := List.getElem_of_mem hx
   obtain ⟨x, hx, _⟩ := hall q hq
   exact (Ja hx).2.2) (by omega) v.names[i] (List.getElem_mem hin)
  obtain ⟨q, hq, hqe⟩ := List.getElem_of_mem hsub
  obtain ⟨x, hx1, hx2⟩ := hall q hq
  rw [hqe, hfn hk h8 h7 i hin hi] at hx1
  cases hx1
  refine ⟨es[q], ?_, hx2⟩
  rw [Nat.zero_add, hk]
  unfold cpt
  rw [if_neg (by simp), List.getElem?_eq_getElem hin]
  simp only
  rw [← hqe]
  have : idx ns[q] (uw ns es).names = some q := zd3 hn hq
  rw [this]
  exact List.getElem?_eq_getElem (show q < es.length by omega)
theorem zk9 {e : J} (he : e.vd = 0) (n : Int) : e.eqB (Js n) = true ↔ e.kind = 2 ∧ e.num = n := by
 obtain ⟨h1, h2, h3⟩ := Kf he
 obtain ⟨_, h4, h5, _, h7⟩ := Vk h2
 rw [z0y, Bool.and_eq_true, decide_eq_true_eq]
 constructor
 ·rintro ⟨⟨hk, hn, _⟩, _⟩; exact ⟨hk, hn⟩
 ·rintro ⟨hk, hn⟩
  have hz : e.elems.length = 0 := by omega
  refine ⟨⟨hk, hn, by rcases h4 with h | h; exact h; omega, hz, h7 (by omega)⟩, ?_⟩
  rw [List.eq_nil_of_length_eq_zero hz, J.eqL]
theorem z56 {e : J} (he : e.vd = 0) (t : List UInt8) : e.eqB (Vv t) = true ↔ e.kind = 3 ∧ e.text = t := by
 obtain ⟨h1, h2, h3⟩ := Kf he
 obtain ⟨_, h4, h5, _, h7⟩ := Vk h2
 rw [z0y, Bool.and_eq_true, decide_eq_true_eq]
 constructor
 ·rintro ⟨⟨hk, _, ht, _⟩, _⟩; exact ⟨hk, ht⟩
 ·rintro ⟨hk, ht⟩
  have hz : e.elems.length = 0 := by omega
  refine ⟨⟨hk, zd8 h2 (by omega) (by omega), ht, hz, h7 (by omega)⟩, ?_⟩
  rw [List.eq_nil_of_length_eq_zero hz, J.eqL]
theorem Jl {v x : J} {a : List UInt8} (hv : v.vd = 0) (h : fnd v a = some x) : x.vd = 0 := (Kf hv).2.2 _ (Ja h).2.1
theorem zpb {v : J} (h : v.vd = 0) : v.eqB v = true := zck v.sz v (Nat.le_refl _) h
theorem zcv : ∀ (q : Nat) (es : List J), J.szL (es.take q) ≤ J.szL es
 | 0, es => by simp [J.szL]
 | q + 1, [] => by simp
 | q + 1, e :: r => by rw [List.take_succ_cons, J.szL, J.szL]; have := zcv q r; omega
theorem zdz : ∀ (q : Nat) (ns : List (List UInt8)), nsz (ns.take q) ≤ nsz ns
 | 0, ns => by simp [nsz]
 | q + 1, [] => by simp
 | q + 1, n :: r => by rw [List.take_succ_cons, nsz, nsz]; have := zdz q r; omega
def Ms.enc (c : Ms) : J × Int := znw c.k c.id c.c c.m c.b
def z26 (k : Int) (b w : J) : J :=
 if w.names.getD (w.elems.length - 1) default = zc ∧ Q6 b = true ∧ k ≠ 5 then uw (w.names.take (w.elems.length - 1)) (w.elems.take (w.elems.length - 1)) else w
theorem zwb {k : Int} {b w : J} (hw : w.ok) : (z26 k b w).ok := by
 unfold z26
 split
 ·have hs : w.sz = 1 + w.text.length + nsz w.names + J.szL w.elems := by cases w; rw [J.sz]; rfl
  have h1 := zcv (w.elems.length - 1) w.elems
  have h2 := zdz (w.elems.length - 1) w.names
  unfold J.ok at *
  unfold uw
  rw [J.sz]
  simp only [List.length_nil]
  omega
 ·exact hw
def acc (v : J) (c : Ms) : Bool := decide (c.enc.2 = 0) && (eqv v c.enc.1 || eqv v (z26 c.k c.b c.enc.1))
theorem zp8 (k id c : Int) (m : List UInt8) (b : J) : (Xe k id c m b).names.length = (Xe k id c m b).elems.length ∧ 1 ≤ (Xe k id c m b).elems.length ∧ (Xe k id c m b).elems.length ≤ 3 := by
 unfold Xe
 repeat' split
 all_goals exact ⟨rfl, by simp [uw, J.elems], by simp [uw, J.elems]⟩
theorem zah {c : Ms} (h : c.enc.2 = 0) : c.enc.1 = Xe c.k c.id c.c c.m c.b ∧ ¬ (c.k < 1 ∨ c.k > 5) ∧ wfM c.k c.id c.c c.m c.b = true ∧ c.b.chk = 0 ∧ (Xe c.k c.id c.c c.m c.b).chk = 0 := by
 unfold Ms.enc znw at h ⊢
 split at h
 ·exact absurd h (by decide)
 ·rename_i h1
  rw [if_neg h1]
  split at h
  ·rename_i h2
   rw [if_pos h2]
   split at h
   ·rename_i h3; exact absurd h h3
   ·rename_i h3
    rw [if_neg h3]
    split at h
    ·rename_i h4; exact absurd h h4
    ·rename_i h4
     rw [if_neg h4]
     exact ⟨rfl, h1, h2, Decidable.byContradiction h3, Decidable.byContradiction h4⟩
  ·exact absurd h (by decide)
theorem zyr {v : J} {c : Ms} (hv : v.ok) (hs : c.b.sz + c.m.length ≤ 1000000000) {cs : List Ms} {i : Nat} (hi : i < cs.length) (hc : cs[i] = c) (hl : cs.length ≤ 1000) {w : J} (hw : w.ok) :
 wc none v.val (cs.map Ms.val) (i : Int) (c.enc.1.val, c.enc.2) w.val.fK w.val.fN w.val.fT w.val.fA w.val.fE =
  if (eqv v c.enc.1 || eqv v w) = true then some (.inr (c.val, 0)) else some (.inl ((i + 1 : Nat) : Int)) := by
 have he : c.enc.1.ok := zju hs
 have e1 : jy none v.val (GJ.mk c.enc.1.val.fK c.enc.1.val.fN c.enc.1.val.fT c.enc.1.val.fA c.enc.1.val.fE) = some (eqv v c.enc.1) := z6b hv he
 have e2 : jy none v.val (GJ.mk w.val.fK w.val.fN w.val.fT w.val.fA w.val.fE) = some (eqv v w) := z6b hv hw
 have hg : (cs.map Ms.val).getD i default = c.val := by
  rw [List.getD_eq_getElem?_getD, List.getElem?_map, List.getElem?_eq_getElem hi, hc]; rfl
 unfold wc we
 simp only [e1, e2, Option.bind_some, Int.toNat_natCast, hg, Wi (show i ≤ 4611686018427387904 by omega)]
 cases h1 : eqv v c.enc.1 with
 | true => rw [if_neg (by simp)]; simp only [Option.bind_some, Bool.true_or]; rfl
 | false =>
  rw [if_pos (by rfl), Option.bind_some]
  cases h2 : eqv v w with
  | true => rfl
  | false => rfl
theorem zxy {v : J} {c : Ms} (hv : v.ok) (hs : c.b.sz + c.m.length ≤ 1000000000) {cs : List Ms} {i : Nat} (hi : i < cs.length) (hc : cs[i] = c) (hl : cs.length ≤ 1000) :
 jm none v.val (cs.map Ms.val) (i : Int) = if acc v c = true then some (.inr (c.val, 0)) else some (.inl ((i + 1 : Nat) : Int)) := by
 have he : c.enc.1.ok := zju hs
 have hb : c.b.ok := by unfold J.ok; omega
 have hg : (cs.map Ms.val).getD i default = c.val := by
  rw [List.getD_eq_getElem?_getD, List.getElem?_map, List.getElem?_eq_getElem hi, hc]; rfl
 have e1 : wq none (GM.mk c.val.fK c.val.fI c.val.fC c.val.fM (GJ.mk c.val.fB.fK c.val.fB.fN c.val.fB.fT c.val.fB.fA c.val.fB.fE)) = some (c.enc.1.val, c.enc.2) := ziw hs
 have e2 : jk none (GJ.mk c.val.fB.fK c.val.fB.fN c.val.fB.fT c.val.fB.fA c.val.fB.fE) = some (Q6 c.b) := z76 hb
 have hj5 := fun w hw => zyr (w := w) hv hs hi hc hl hw
 unfold jm
 rw [if_pos (by simp; omega), if_pos (by simp; omega)]
 simp only [Int.toNat_natCast, hg, e1, e2, Option.bind_some]
 unfold acc
 by_cases h0 : c.enc.2 = 0
 ·obtain ⟨o1, o2, o3, o4, o5⟩ := zah h0
  obtain ⟨l1, l2, l3⟩ := zp8 c.k c.id c.c c.m c.b
  rw [← o1] at l1 l2 l3
  have hW : W ((c.enc.1.elems.length : Int) - 1) = ((c.enc.1.elems.length - 1 : Nat) : Int) := by rw [zio (by unfold inR; omega)]; omega
  rw [if_neg (by simp [h0]), xm, hW, show c.enc.1.val.fA = c.enc.1.names from rfl, List.length_map]
  rw [if_pos (by omega), decide_eq_true h0, Bool.true_and]
  simp only [Int.toNat_natCast]
  have hk : c.val.fK = c.k := rfl
  rw [hk]
  by_cases ht : c.enc.1.names.getD (c.enc.1.elems.length - 1) default = zc ∧ Q6 c.b = true ∧ c.k ≠ 5
  ·have hx : (c.enc.1.names.getD (c.enc.1.elems.length - 1) default == ([112, 97, 114, 97, 109, 115] : List UInt8)) = true := by rw [ht.1]; rfl
   have hT : z26 c.k c.b c.enc.1 = uw (c.enc.1.names.take (c.enc.1.elems.length - 1)) (c.enc.1.elems.take (c.enc.1.elems.length - 1)) := by unfold z26; rw [if_pos ht]
   have hk5 : (c.k != 5) = true := by simpa using ht.2.2
   simp only [hx, ht.2.1, hk5, beq_self_eq_true, if_true, Option.bind_some, Bool.and_true, Bool.true_and]
   rw [if_pos (by omega), if_pos (by omega)]
   have eo : qo none (c.enc.1.names.take (c.enc.1.elems.length - 1)) (c.enc.1.val.fE.take (c.enc.1.elems.length - 1)) = some (z26 c.k c.b c.enc.1).val := by
    rw [hT, show c.enc.1.val.fE = c.enc.1.elems.map J.raw from rfl, ← List.map_take]; rfl
   rw [eo, Option.bind_some]
   exact hj5 _ (zwb he)
  ·have hT : z26 c.k c.b c.enc.1 = c.enc.1 := by unfold z26; rw [if_neg ht]
   rw [hT]
   by_cases hx : c.enc.1.names.getD (c.enc.1.elems.length - 1) default = zc
   ·have hx' : (c.enc.1.names.getD (c.enc.1.elems.length - 1) default == ([112, 97, 114, 97, 109, 115] : List UInt8)) = true := by rw [hx]; rfl
    have hz : (Q6 c.b && (c.k != 5)) = false := by
     cases hz : (Q6 c.b && (c.k != 5)) with
     | false => rfl
     | true =>
      simp only [Bool.and_eq_true, bne_iff_ne] at hz
      exact absurd ⟨hx, hz.1, hz.2⟩ ht
    simp only [hx', beq_self_eq_true, if_true, Option.bind_some, Bool.true_and, hz, Bool.false_eq_true, if_false]
    exact hj5 _ he
   ·have hx' : (c.enc.1.names.getD (c.enc.1.elems.length - 1) default == ([112, 97, 114, 97, 109, 115] : List UInt8)) = false := by
     rw [beq_eq_false_iff_ne]; exact hx
    simp only [hx', show (false == true) = false from rfl, Option.bind_some, Bool.false_and, Bool.false_eq_true, if_false]
    exact hj5 _ he
 ·rw [if_pos (by simpa using h0), decide_eq_false h0, Bool.false_and, if_neg (by simp)]
  unfold we
  rw [Wi (by omega)]
def zeroM : Ms := ⟨0, 0, 0, [], nullJ⟩
def W9 (v : J) : List Ms → Ms × Int
 | [] => (zeroM, 3)
 | c :: r => if acc v c = true then (c, 0) else W9 v r
theorem zc1 {v : J} (hv : v.ok) {cs : List Ms} (hl : cs.length ≤ 1000) (hs : ∀ c ∈ cs, c.b.sz + c.m.length ≤ 1000000000) : ∀ (k i : Nat), i + k = cs.length →
 vb none v.val (cs.map Ms.val) (i : Int) = some ((W9 v (cs.drop i)).1.val, (W9 v (cs.drop i)).2)
 | 0, i, h => by
  have : i = cs.length := by omega
  subst this
  unfold vb
  rw [qi (x := some (zeroM.val, 3)), List.drop_length]
  ·rfl
  ·unfold jm
   rw [if_neg (by simp)]
   rfl
 | k + 1, i, h => by
  have hi : i < cs.length := by omega
  have ih := zc1 hv hl hs k (i + 1) (by omega)
  have hb := zxy hv (hs _ (List.getElem_mem hi)) hi rfl hl
  rw [List.drop_eq_getElem_cons hi, W9]
  unfold vb at ih ⊢
  cases ha : acc v cs[i] with
  | true =>
   rw [ha, if_pos rfl] at hb
   rw [qi (x := some (cs[i].val, 0)) hb, if_pos rfl]
  | false =>
   rw [ha, if_neg (by simp)] at hb
   rw [wk hb, ih, if_neg (by simp)]
theorem z59 {v : J} (hs : v.sz ≤ 100000000) : ∀ c ∈ ud v, c.b.sz + c.m.length ≤ 1000000000 := by
 have hn : nullJ.sz = 1 := by unfold nullJ; rw [J.sz]; simp [nsz, J.szL]
 have g1 := zj8 (v := v) zk
 have g2 := zj8 (v := v) zc
 have g3 := zj8 (v := v) wl
 have g4 := zj8 (v := gm v jt) jq
 have g5 := zj8 (v := v) jt
 intro c hc
 simp only [ud, List.mem_cons, List.mem_nil_iff, or_false] at hc
 rcases hc with rfl | rfl | rfl | rfl | rfl <;> simp only [List.length_nil] <;> omega
theorem zfi {v : J} (hs : v.sz ≤ 100000000) : vo none v.val = some ((W9 v (ud v)).1.val, (W9 v (ud v)).2) := by
 have hv : v.ok := by unfold J.ok; omega
 unfold vo
 rw [zom hv, Option.bind_some]
 exact zc1 hv (by simp [ud]) (z59 hs) 5 0 rfl
theorem zct : ∀ (q : Nat) (l p : List (List UInt8)), z94 p l = false → z94 p (l.take q) = false
 | 0, l, p, _ => rfl
 | q + 1, [], p, _ => rfl
 | q + 1, x :: r, p, h => by
  rw [z94, Bool.or_eq_false_iff] at h
  rw [List.take_succ_cons, z94, h.1, zct q r _ h.2]; rfl
theorem z0w : ∀ (q : Nat) (es : List J), J.nodesL (es.take q) ≤ J.nodesL es
 | 0, es => by simp [J.nodesL]
 | q + 1, [] => by simp
 | q + 1, e :: r => by rw [List.take_succ_cons, J.nodesL, J.nodesL]; have := z0w q r; omega
theorem z1j : ∀ (q : Nat) (es : List J), J.depthL (es.take q) ≤ J.depthL es
 | 0, es => by simp [J.depthL]
 | q + 1, [] => by simp
 | q + 1, e :: r => by rw [List.take_succ_cons, J.depthL, J.depthL]; have := z1j q r; omega
theorem zmo : ∀ {es : List J}, (∀ e ∈ es, e.vd = 0) → J.vdL es = 0
 | [], _ => rfl
 | e :: r, h => by
  rw [J.vdL, if_neg (by simpa using h e (by simp))]
  exact zmo fun x hx => h x (List.mem_cons_of_mem _ hx)
theorem Xb {v : J} (h : v.chk = 0) : v.nodes ≤ 400 ∧ v.depth ≤ 20 ∧ v.vd = 0 := by
 unfold J.chk at h
 split at h
 ·rename_i h1; exact ⟨h1.1, h1.2, h⟩
 ·omega
theorem zo2 {ns : List (List UInt8)} {es : List J} (hl : ns.length = es.length) (q : Nat) (h : (uw ns es).chk = 0) : (uw (ns.take q) (es.take q)).chk = 0 := by
 obtain ⟨h1, h2, h3⟩ := Xb h
 obtain ⟨h4, h5, h6⟩ := Kf h3
 have n1 := z0w q es
 have n2 := z1j q es
 unfold uw at h1 h2
 rw [J.nodes] at h1
 rw [J.depth] at h2
 have k1 : (uw (ns.take q) (es.take q)).nodes ≤ 400 := by unfold uw; rw [J.nodes]; omega
 have k2 : (uw (ns.take q) (es.take q)).depth ≤ 20 := by unfold uw; rw [J.depth]; omega
 unfold J.chk
 rw [if_pos ⟨k1, k2⟩, z7h, if_neg (show ¬ ((uw (ns.take q) (es.take q)).kind < 0 ∨ (uw (ns.take q) (es.take q)).kind > 5) by simp [uw, J.kind]), if_pos]
 ·exact zmo fun e he => h6 e (List.mem_of_mem_take he)
 ·rw [show (uw ns es).wf = wfB 5 0 [] ns es.length from rfl] at h5
  rw [show (uw (ns.take q) (es.take q)).wf = wfB 5 0 [] (ns.take q) (es.take q).length from rfl]
  unfold wfB at h5 ⊢
  rw [if_pos rfl] at h5 ⊢
  simp only [Bool.and_eq_true, Bool.not_eq_true', decide_eq_true_eq] at h5 ⊢
  obtain ⟨⟨⟨⟨a1, a2⟩, a3⟩, a4, a5⟩, a6⟩ := h5
  refine ⟨⟨⟨⟨a1, a2⟩, .inr (by omega)⟩, by rw [List.length_take, List.length_take, hl], zct q _ _ a5⟩, ?_⟩
  rw [List.all_eq_true] at a6 ⊢
  exact fun x hx => a6 x (List.mem_of_mem_take hx)
theorem zq2 (k id c : Int) (m : List UInt8) (b : J) : ∃ ns es, Xe k id c m b = uw ns es ∧ ns.length = es.length := by
 unfold Xe
 repeat' split
 all_goals exact ⟨_, _, rfl, rfl⟩
theorem z1i {v : J} (hv : v.chk = 0) (c : Ms) : acc v c = true ↔ c.enc.2 = 0 ∧ (v.eqB (Xe c.k c.id c.c c.m c.b) = true ∨ v.eqB (z26 c.k c.b (Xe c.k c.id c.c c.m c.b)) = true) := by
 unfold acc
 by_cases h0 : c.enc.2 = 0
 ·obtain ⟨o1, o2, o3, o4, o5⟩ := zah h0
  have hT : (z26 c.k c.b (Xe c.k c.id c.c c.m c.b)).chk = 0 := by
   unfold z26
   split
   ·obtain ⟨ns, es, hn, hl⟩ := zq2 c.k c.id c.c c.m c.b
    rw [hn] at o5 ⊢
    exact zo2 hl _ o5
   ·exact o5
  unfold eqv
  rw [o1, decide_eq_true h0, decide_eq_true hv, decide_eq_true o5, decide_eq_true hT]
  simp [h0]
 ·rw [decide_eq_false h0]
  simp [h0]
theorem zuj {v : J} (hv : v.chk ≠ 0) (c : Ms) : acc v c = false := by
 unfold acc eqv
 rw [decide_eq_false hv]
 simp
def z3t (v : J) : List (List UInt8) → List J → Prop
 | n :: ns, e :: es => (∃ x, fnd v n = some x ∧ x.eqB e = true) ∧ z3t v ns es
 | [], [] => True
 | _, _ => False
theorem zdp {v : J} : ∀ {ns : List (List UInt8)} {es : List J} (hl : ns.length = es.length), (∀ (q : Nat) (h : q < ns.length), ∃ x, fnd v ns[q] = some x ∧ x.eqB (es[q]) = true) ↔ z3t v ns es
 | [], [], _ => by simp [z3t]
 | n :: ns, e :: es, hl => by
  rw [z3t, ← zdp (ns := ns) (es := es) (by simpa using hl)]
  constructor
  ·intro h
   exact ⟨h 0 (by simp), fun q hq => h (q + 1) (by simpa using hq)⟩
  ·rintro ⟨h1, h2⟩ q hq
   cases q with
   | zero => exact h1
   | succ q => exact h2 q (by simpa using hq)
theorem uv {v : J} (hv : v.vd = 0) {ns : List (List UInt8)} {es : List J} (hn : ns.Nodup) (hl : ns.length = es.length) :
 v.eqB (uw ns es) = true ↔ v.kind = 5 ∧ v.names.length = ns.length ∧ z3t v ns es := by rw [zvz hv hn hl, zdp hl]
theorem cnt {v : J} (l : List (List UInt8)) (hl : l.Nodup) (h : ∀ a ∈ l, ∃ x, fnd v a = some x) : l.length ≤ v.names.length :=
 zus hl fun a ha => (Ja (h a ha).choose_spec).2.2
theorem Z6 {v x : J} {a : List UInt8} (h : fnd v a = some x) : gm v a = x := by unfold gm; rw [h]; rfl
theorem z4a {v : J} {a : List UInt8} (h : fnd v a = none) : gm v a = nullJ := by unfold gm; rw [h]; rfl
theorem u6 {v : J} (hv : v.vd = 0) (a : List UInt8) : (∃ x, fnd v a = some x ∧ x.eqB (Js (gm v a).num) = true) ↔ (∃ x, fnd v a = some x ∧ x.kind = 2) := by
 constructor
 ·rintro ⟨x, h1, h2⟩; exact ⟨x, h1, ((zk9 (Jl hv h1) _).1 h2).1⟩
 ·rintro ⟨x, h1, h2⟩; exact ⟨x, h1, (zk9 (Jl hv h1) _).2 ⟨h2, by rw [Z6 h1]⟩⟩
theorem Zo {v : J} (hv : v.vd = 0) (a : List UInt8) : (∃ x, fnd v a = some x ∧ x.eqB (Vv (gm v a).text) = true) ↔ (∃ x, fnd v a = some x ∧ x.kind = 3) := by
 constructor
 ·rintro ⟨x, h1, h2⟩; exact ⟨x, h1, ((z56 (Jl hv h1) _).1 h2).1⟩
 ·rintro ⟨x, h1, h2⟩; exact ⟨x, h1, (z56 (Jl hv h1) _).2 ⟨h2, by rw [Z6 h1]⟩⟩
theorem Vg {v : J} (hv : v.vd = 0) (a : List UInt8) : (∃ x, fnd v a = some x ∧ x.eqB (gm v a) = true) ↔ (∃ x, fnd v a = some x) := by
 constructor
 ·rintro ⟨x, h1, h2⟩; exact ⟨x, h1⟩
 ·rintro ⟨x, h1⟩; exact ⟨x, h1, by rw [Z6 h1]; exact zpb (Jl hv h1)⟩
theorem z41 : Q6 nullJ = true := by decide
theorem y24 {v : J} (hv : v.chk = 0) {id : Int} {m : List UInt8} {b : J} (hid : id = (gm v idT).num) (hm : m = (gm v zk).text) (hb : b = gm v zc) :
 acc v ⟨1, id, 0, m, b⟩ = true ↔ (Ms.enc ⟨1, id, 0, m, b⟩).2 = 0 ∧ v.kind = 5 ∧ (∃ x, fnd v idT = some x ∧ x.kind = 2) ∧ (∃ x, fnd v zk = some x ∧ x.kind = 3) ∧ v.names.length = (if (fnd v zc).isSome = true then 3 else 2) := by
 have hvd := (Xb hv).2.2
 subst hid; subst hm; subst hb
 rw [z1i hv]
 refine and_congr_right fun _ => ?_
 have hO : Xe 1 (gm v idT).num 0 (gm v zk).text (gm v zc) = uw [idT, zk, zc] [Js (gm v idT).num, Vv (gm v zk).text, gm v zc] := rfl
 simp only
 rw [hO, uv hvd (by decide) rfl]
 simp only [z3t, u6 hvd, Zo hvd, Vg hvd, and_true, List.length_cons, List.length_nil, Nat.zero_add, Nat.reduceAdd]
 cases hp : fnd v zc with
 | none =>
  have hT : z26 1 (gm v zc) (uw [idT, zk, zc] [Js (gm v idT).num, Vv (gm v zk).text, gm v zc]) = uw [idT, zk] [Js (gm v idT).num, Vv (gm v zk).text] := by
   unfold z26
   rw [if_pos ⟨rfl, by rw [z4a hp]; exact z41, by decide⟩]; rfl
  rw [hT, uv hvd (by decide) rfl]
  simp [z3t, u6 hvd, Zo hvd]
  exact fun _ => ⟨fun h => ⟨h.2.1, h.2.2, h.1⟩, fun h => ⟨h.2.2, h.1, h.2.1⟩⟩
 | some z =>
  constructor
  ·rintro (h | h)
   ·exact ⟨h.1, h.2.2.1, h.2.2.2.1, by simpa using h.2.1⟩
   ·unfold z26 at h
    split at h
    ·have h' : v.eqB (uw [idT, zk] [Js (gm v idT).num, Vv (gm v zk).text]) = true := h
     rw [uv hvd (by decide) rfl] at h'
     simp only [z3t, u6 hvd, Zo hvd, and_true, List.length_cons, List.length_nil] at h'
     obtain ⟨k1, k2, ⟨x, k3, _⟩, ⟨y, k4, _⟩⟩ := h'
     have := cnt (v := v) [idT, zk, zc] (by decide) (fun a ha => by
      simp only [List.mem_cons, List.mem_nil_iff, or_false] at ha
      rcases ha with rfl | rfl | rfl
      ·exact ⟨_, k3⟩
      ·exact ⟨_, k4⟩
      ·exact ⟨_, hp⟩)
     simp only [List.length_cons, List.length_nil] at this
     omega
    ·rw [uv hvd (by decide) rfl] at h
     simp only [z3t, u6 hvd, Zo hvd, Vg hvd, and_true, List.length_cons, List.length_nil] at h
     exact ⟨h.1, h.2.2.1, h.2.2.2.1, by simpa using h.2.1⟩
  ·rintro ⟨h1, h2, h3, h4⟩
   exact .inl ⟨h1, by simpa using h4, h2, h3, z, rfl⟩
theorem y20 {v : J} (hv : v.chk = 0) {id : Int} {m : List UInt8} {b : J} (hm : m = (gm v zk).text) (hb : b = gm v zc) :
 acc v ⟨2, id, 0, m, b⟩ = true ↔ (Ms.enc ⟨2, id, 0, m, b⟩).2 = 0 ∧ v.kind = 5 ∧ (∃ x, fnd v zk = some x ∧ x.kind = 3) ∧ v.names.length = (if (fnd v zc).isSome = true then 2 else 1) := by
 have hvd := (Xb hv).2.2
 subst hm; subst hb
 rw [z1i hv]
 refine and_congr_right fun _ => ?_
 have hO : Xe 2 id 0 (gm v zk).text (gm v zc) = uw [zk, zc] [Vv (gm v zk).text, gm v zc] := rfl
 simp only
 rw [hO, uv hvd (by decide) rfl]
 simp only [z3t, u6 hvd, Zo hvd, Vg hvd, and_true, List.length_cons, List.length_nil, Nat.zero_add, Nat.reduceAdd]
 cases hp : fnd v zc with
 | none =>
  have hT : z26 2 (gm v zc) (uw [zk, zc] [Vv (gm v zk).text, gm v zc]) = uw [zk] [Vv (gm v zk).text] := by
   unfold z26
   rw [if_pos ⟨rfl, by rw [z4a hp]; exact z41, by decide⟩]; rfl
  rw [hT, uv hvd (by decide) rfl]
  simp [z3t, u6 hvd, Zo hvd]
  exact fun _ => and_comm
 | some z =>
  constructor
  ·rintro (h | h)
   ·exact ⟨h.1, h.2.2.1, by simpa using h.2.1⟩
   ·unfold z26 at h
    split at h
    ·have h' : v.eqB (uw [zk] [Vv (gm v zk).text]) = true := h
     rw [uv hvd (by decide) rfl] at h'
     simp only [z3t, u6 hvd, Zo hvd, and_true, List.length_cons, List.length_nil] at h'
     obtain ⟨k1, k2, ⟨y, k4, _⟩⟩ := h'
     have := cnt (v := v) [zk, zc] (by decide) (fun a ha => by
      simp only [List.mem_cons, List.mem_nil_iff, or_false] at ha
      rcases ha with rfl | rfl
      ·exact ⟨_, k4⟩
      ·exact ⟨_, hp⟩)
     simp only [List.length_cons, List.length_nil] at this
     omega
    ·rw [uv hvd (by decide) rfl] at h
     simp only [z3t, u6 hvd, Zo hvd, Vg hvd, and_true, List.length_cons, List.length_nil] at h
     exact ⟨h.1, h.2.2.1, by simpa using h.2.1⟩
  ·rintro ⟨h1, h3, h4⟩
   exact .inl ⟨h1, by simpa using h4, h3, z, rfl⟩
theorem y1x {v : J} (hv : v.chk = 0) {id : Int} {b : J} (hid : id = (gm v idT).num) (hb : b = gm v wl) :
 acc v ⟨3, id, 0, [], b⟩ = true ↔ (Ms.enc ⟨3, id, 0, [], b⟩).2 = 0 ∧ v.kind = 5 ∧ v.names.length = 2 ∧ (∃ x, fnd v idT = some x ∧ x.kind = 2) ∧ (∃ x, fnd v wl = some x) := by
 have hvd := (Xb hv).2.2
 subst hid; subst hb
 rw [z1i hv]
 refine and_congr_right fun _ => ?_
 have hO : Xe 3 (gm v idT).num 0 [] (gm v wl) = uw [idT, wl] [Js (gm v idT).num, gm v wl] := rfl
 have hT : z26 3 (gm v wl) (uw [idT, wl] [Js (gm v idT).num, gm v wl]) = uw [idT, wl] [Js (gm v idT).num, gm v wl] := by
  unfold z26
  rw [if_neg (fun h => absurd (show wl = zc from h.1) (by decide))]
 simp only
 rw [hO, hT, or_self, uv hvd (by decide) rfl]
 simp only [z3t, u6 hvd, Vg hvd, and_true, List.length_cons, List.length_nil, Nat.zero_add, Nat.reduceAdd]
theorem y27 {v : J} (hv : v.chk = 0) {id c : Int} {m : List UInt8} {e : J} (hid : id = (gm v idT).num) (he : e = gm v jt) (hc : c = (gm e Yk).num) (hm : m = (gm e jq).text) :
 acc v ⟨4, id, c, m, nullJ⟩ = true ↔ (Ms.enc ⟨4, id, c, m, nullJ⟩).2 = 0 ∧ v.kind = 5 ∧ v.names.length = 2 ∧ (∃ x, fnd v idT = some x ∧ x.kind = 2) ∧ (∃ x, fnd v jt = some x) ∧ e.kind = 5 ∧ e.names.length = 2 ∧ (∃ x, fnd e Yk = some x ∧ x.kind = 2) ∧ (∃ x, fnd e jq = some x ∧ x.kind = 3) := by
 have hvd := (Xb hv).2.2
 subst hid; subst hc; subst hm
 rw [z1i hv]
 refine and_congr_right fun _ => ?_
 have hO : Xe 4 (gm v idT).num (gm e Yk).num (gm e jq).text nullJ = uw [idT, jt] [Js (gm v idT).num, uw [Yk, jq] [Js (gm e Yk).num, Vv (gm e jq).text]] := rfl
 have hT : z26 4 nullJ (uw [idT, jt] [Js (gm v idT).num, uw [Yk, jq] [Js (gm e Yk).num, Vv (gm e jq).text]]) = uw [idT, jt] [Js (gm v idT).num, uw [Yk, jq] [Js (gm e Yk).num, Vv (gm e jq).text]] := by
  unfold z26
  rw [if_neg (fun h => absurd (show jt = zc from h.1) (by decide))]
 simp only
 rw [hO, hT, or_self, uv hvd (by decide) rfl]
 simp only [z3t, u6 hvd, and_true, List.length_cons, List.length_nil, Nat.zero_add, Nat.reduceAdd]
 refine and_congr_right fun _ => and_congr_right fun _ => and_congr_right fun _ => ?_
 constructor
 ·rintro ⟨x, h1, h2⟩
  have hx := Jl hvd h1
  rw [Z6 h1] at he
  subst he
  rw [uv hx (by decide) rfl] at h2
  simp only [z3t, u6 hx, Zo hx, and_true, List.length_cons, List.length_nil] at h2
  exact ⟨⟨e, h1⟩, h2.1, h2.2.1, h2.2.2.1, h2.2.2.2⟩
 ·rintro ⟨⟨x, h1⟩, h2, h3, h4, h5⟩
  have hx := Jl hvd h1
  rw [Z6 h1] at he
  subst he
  refine ⟨e, h1, ?_⟩
  rw [uv hx (by decide) rfl]
  simp only [z3t, u6 hx, Zo hx, and_true, List.length_cons, List.length_nil]
  exact ⟨h2, h3, h4, h5⟩
theorem y2b {v : J} (hv : v.chk = 0) {id : Int} {p : J} (hp : p = gm v zc) (hid : id = (gm p idT).num) :
 acc v ⟨5, id, 0, [], nullJ⟩ = true ↔ (Ms.enc ⟨5, id, 0, [], nullJ⟩).2 = 0 ∧ v.kind = 5 ∧ v.names.length = 2 ∧ (∃ x, fnd v zk = some x ∧ x.kind = 3 ∧ x.text = X9) ∧ (∃ x, fnd v zc = some x) ∧ p.kind = 5 ∧ p.names.length = 1 ∧ (∃ x, fnd p idT = some x ∧ x.kind = 2) := by
 have hvd := (Xb hv).2.2
 subst hid
 rw [z1i hv]
 refine and_congr_right fun _ => ?_
 have hO : Xe 5 (gm p idT).num 0 [] nullJ = uw [zk, zc] [Vv X9, uw [idT] [Js (gm p idT).num]] := rfl
 have hT : z26 5 nullJ (uw [zk, zc] [Vv X9, uw [idT] [Js (gm p idT).num]]) = uw [zk, zc] [Vv X9, uw [idT] [Js (gm p idT).num]] := by
  unfold z26
  rw [if_neg (fun h => h.2.2 rfl)]
 simp only
 rw [hO, hT, or_self, uv hvd (by decide) rfl]
 simp only [z3t, and_true, List.length_cons, List.length_nil, Nat.zero_add, Nat.reduceAdd]
 refine and_congr_right fun _ => and_congr_right fun _ => and_congr ?_ ?_
 ·constructor
  ·rintro ⟨x, h1, h2⟩; exact ⟨x, h1, (z56 (Jl hvd h1) _).1 h2⟩
  ·rintro ⟨x, h1, h2⟩; exact ⟨x, h1, (z56 (Jl hvd h1) _).2 h2⟩
 ·constructor
  ·rintro ⟨x, h1, h2⟩
   have hx := Jl hvd h1
   rw [Z6 h1] at hp
   subst hp
   rw [uv hx (by decide) rfl] at h2
   simp only [z3t, u6 hx, and_true, List.length_cons, List.length_nil] at h2
   exact ⟨⟨p, h1⟩, h2.1, h2.2.1, h2.2.2⟩
  ·rintro ⟨⟨x, h1⟩, h2, h3, h4⟩
   have hx := Jl hvd h1
   rw [Z6 h1] at hp
   subst hp
   refine ⟨p, h1, ?_⟩
   rw [uv hx (by decide) rfl]
   simp only [z3t, u6 hx, and_true, List.length_cons, List.length_nil]
   exact ⟨h2, h3, h4⟩
theorem zf2 (ex : Int) (ok : Bool) (c : Ms) (hs : c.b.sz + c.m.length ≤ 1000000000) :
 zl none ex ok c.k c.id c.m c.b.val.fK c.b.val.fN c.b.val.fT c.b.val.fA c.b.val.fE c.c = some (if ok = true ∧ ex = 0 ∧ c.enc.2 = 0 then (c.val, 0) else (zeroM.val, 3)) := by
 have e1 : yn none (GM.mk c.k c.id c.c c.m (GJ.mk c.b.val.fK c.b.val.fN c.b.val.fT c.b.val.fA c.b.val.fE)) = some (c.enc.1.val, c.enc.2) := zgv hs
 unfold zl
 rw [e1, Option.bind_some]
 by_cases h : ok = true ∧ ex = 0 ∧ c.enc.2 = 0
 ·rw [if_pos h, if_neg (by simp [h.1, h.2.1, h.2.2])]; rfl
 ·rw [if_neg h, if_pos]
  ·rfl
  ·cases ok with
   | false => rfl
   | true =>
    by_cases h1 : ex = 0
    ·have h2 : c.enc.2 ≠ 0 := fun h2 => h ⟨rfl, h1, h2⟩
     simp [h2]
    ·simp [h1]
theorem Ua {v : J} {c : Ms} {ok : Bool} {ex : Int} (h : acc v c = true ↔ (ok = true ∧ ex = 0 ∧ c.enc.2 = 0)) :
 some (if ok = true ∧ ex = 0 ∧ c.enc.2 = 0 then (c.val, (0 : Int)) else (zeroM.val, 3)) = some ((if acc v c = true then (c, (0 : Int)) else (zeroM, 3)).1.val, (if acc v c = true then (c, (0 : Int)) else (zeroM, 3)).2) := by
 by_cases hc : acc v c = true
 ·rw [if_pos hc, if_pos (h.1 hc)]
 ·rw [if_neg hc, if_neg (fun hh => hc (h.2 hh))]
theorem Kg {v : J} {c : Ms} (h : ¬ acc v c = true) : acc v c = false := by simpa using h
theorem zz3 {v : J} (hs : v.sz ≤ 100000000) (hv : v.chk = 0) : qm none v.val = some ((W9 v (ud v)).1.val, (W9 v (ud v)).2) := by
 have hok : v.ok := by unfold J.ok; omega
 have hvd := (Xb hv).2.2
 have hl := hok.len
 have hsz := z59 hs
 have A1 := y24 hv (id := (gm v idT).num) (m := (gm v zk).text) (b := gm v zc) rfl rfl rfl
 have A2 := y20 hv (id := 0) (m := (gm v zk).text) (b := gm v zc) rfl rfl
 have A3 := y1x hv (id := (gm v idT).num) (b := gm v wl) rfl rfl
 have A4 := y27 hv (id := (gm v idT).num) (e := gm v jt) rfl rfl rfl rfl
 have A5 := y2b hv (p := gm v zc) rfl rfl
 have hf := fun a => z5a hok a
 have hfe := fun a => z5a (zo4 hok jt) a
 have hfp := fun a => z5a (zo4 hok zc) a
 have hW1 : W ((v.names.length : Int) - 1) = (v.names.length : Int) - 1 := zio (by unfold inR; omega)
 have hW2 : W ((v.names.length : Int) - 2) = (v.names.length : Int) - 2 := zio (by unfold inR; omega)
 have hW11 : W ((v.names.length : Int) - 1 - 1) = (v.names.length : Int) - 2 := by rw [zio (by unfold inR; omega)]; omega
 have hW21 : W ((v.names.length : Int) - 2 - 1) = (v.names.length : Int) - 3 := by rw [zio (by unfold inR; omega)]; omega
 have hnl : (((v.val.fA.map z7).length : Nat) : Int) = (v.names.length : Int) := by rw [List.length_map]; rfl
 have hK : ∀ w : J, w.val.fK = w.kind := fun _ => rfl
 have hN : ∀ w : J, (((w.val.fA.map z7).length : Nat) : Int) = (w.names.length : Int) := fun w => by rw [List.length_map]; rfl
 have hT : ∀ w : J, w.val.fT = w.text := fun _ => rfl
 have hM : ∀ w : J, w.val.fN = w.num := fun _ => rfl
 have eta : ∀ w : J, GJ.mk w.val.fK w.val.fN w.val.fT w.val.fA w.val.fE = w.val := fun _ => rfl
 have hdec : W9 v (ud v) = if acc v ⟨1, (gm v idT).num, 0, (gm v zk).text, gm v zc⟩ = true then (⟨1, (gm v idT).num, 0, (gm v zk).text, gm v zc⟩, 0) else if acc v ⟨2, 0, 0, (gm v zk).text, gm v zc⟩ = true then (⟨2, 0, 0, (gm v zk).text, gm v zc⟩, 0) else
  if acc v ⟨3, (gm v idT).num, 0, [], gm v wl⟩ = true then (⟨3, (gm v idT).num, 0, [], gm v wl⟩, 0) else if acc v ⟨4, (gm v idT).num, (gm (gm v jt) Yk).num, (gm (gm v jt) jq).text, nullJ⟩ = true then (⟨4, (gm v idT).num, (gm (gm v jt) Yk).num, (gm (gm v jt) jq).text, nullJ⟩, 0) else
  if acc v ⟨5, (gm (gm v zc) idT).num, 0, [], nullJ⟩ = true then (⟨5, (gm (gm v zc) idT).num, 0, [], nullJ⟩, 0) else (zeroM, 3) := rfl
 have s1 := hsz ⟨1, (gm v idT).num, 0, (gm v zk).text, gm v zc⟩ (by simp [ud])
 have s2 := hsz ⟨2, 0, 0, (gm v zk).text, gm v zc⟩ (by simp [ud])
 have s3 := hsz ⟨3, (gm v idT).num, 0, [], gm v wl⟩ (by simp [ud])
 have s4 := hsz ⟨4, (gm v idT).num, (gm (gm v jt) Yk).num, (gm (gm v jt) jq).text, nullJ⟩ (by simp [ud])
 have s5 := hsz ⟨5, (gm (gm v zc) idT).num, 0, [], nullJ⟩ (by simp [ud])
 unfold qm
 rw [show ([105, 100] : List UInt8) = idT from rfl, show ([109, 101, 116, 104, 111, 100] : List UInt8) = zk from rfl, show ([112, 97, 114, 97, 109, 115] : List UInt8) = zc from rfl, show ([101, 114, 114, 111, 114] : List UInt8) = jt from rfl, show ([114, 101, 115, 117, 108, 116] : List UInt8) = wl from rfl, show ([99, 111, 100, 101] : List UInt8) = Yk from rfl, show ([109, 101, 115, 115, 97, 103, 101] : List UInt8) = jq from rfl]
 simp only [hf, Option.bind_some, hnl, hW1, hW2, hW11, eta, hfe]
 cases hme : fnd v zk with
 | some y =>
  have hy := Z6 hme
  have hk := (Ja hme).1
  simp only [Option.isSome_some, if_true]
  -- no response
  have f3 : acc v ⟨3, (gm v idT).num, 0, [], gm v wl⟩ = false := Kg fun h => by
   obtain ⟨_, _, h2, ⟨x, h3, _⟩, z, h4⟩ := A3.1 h
   have := cnt (v := v) [idT, wl, zk] (by decide) (fun a ha => by
    simp only [List.mem_cons, List.mem_nil_iff, or_false] at ha
    rcases ha with rfl | rfl | rfl
    ·exact ⟨_, h3⟩
    ·exact ⟨_, h4⟩
    ·exact ⟨_, hme⟩)
   simp only [List.length_cons, List.length_nil] at this
   omega
  have f4 : acc v ⟨4, (gm v idT).num, (gm (gm v jt) Yk).num, (gm (gm v jt) jq).text, nullJ⟩ = false := Kg fun h => by
   obtain ⟨_, _, h2, ⟨x, h3, _⟩, ⟨z, h4⟩, _⟩ := A4.1 h
   have := cnt (v := v) [idT, jt, zk] (by decide) (fun a ha => by
    simp only [List.mem_cons, List.mem_nil_iff, or_false] at ha
    rcases ha with rfl | rfl | rfl
    ·exact ⟨_, h3⟩
    ·exact ⟨_, h4⟩
    ·exact ⟨_, hme⟩)
   simp only [List.length_cons, List.length_nil] at this
   omega
  cases hid : fnd v idT with
  | some x =>
   have hx := Z6 hid
   have f2 : acc v ⟨2, 0, 0, (gm v zk).text, gm v zc⟩ = false := Kg fun h => by
    obtain ⟨_, _, _, h2⟩ := A2.1 h
    cases hpa : fnd v zc with
    | none =>
     rw [hpa] at h2
     have := cnt (v := v) [idT, zk] (by decide) (fun a ha => by
      simp only [List.mem_cons, List.mem_nil_iff, or_false] at ha
      rcases ha with rfl | rfl
      ·exact ⟨_, hid⟩
      ·exact ⟨_, hme⟩)
     simp at h2 this
     omega
    | some z =>
     rw [hpa] at h2
     have := cnt (v := v) [idT, zk, zc] (by decide) (fun a ha => by
      simp only [List.mem_cons, List.mem_nil_iff, or_false] at ha
      rcases ha with rfl | rfl | rfl
      ·exact ⟨_, hid⟩
      ·exact ⟨_, hme⟩
      ·exact ⟨_, hpa⟩)
     simp at h2 this
     omega
   have f5 : acc v ⟨5, (gm (gm v zc) idT).num, 0, [], nullJ⟩ = false := Kg fun h => by
    obtain ⟨_, _, h2, _, ⟨z, h4⟩, _⟩ := A5.1 h
    have := cnt (v := v) [idT, zk, zc] (by decide) (fun a ha => by
     simp only [List.mem_cons, List.mem_nil_iff, or_false] at ha
     rcases ha with rfl | rfl | rfl
     ·exact ⟨_, hid⟩
     ·exact ⟨_, hme⟩
     ·exact ⟨_, h4⟩)
    simp only [List.length_cons, List.length_nil] at this
    omega
   rw [hdec, f2, f3, f4, f5]
   simp only [Bool.false_eq_true, if_false]
   have hj1 : ∀ (ex : Int) (p : Bool), zm none v.val ((gm v idT).val, true) ((gm v zk).val, true) ((gm v zc).val, p) ex =
    some (if (((v.kind == 5) && ((gm v idT).kind == 2)) && ((gm v zk).kind == 3)) = true ∧ W (ex - 1) = 0 ∧ (Ms.enc ⟨1, (gm v idT).num, 0, (gm v zk).text, gm v zc⟩).2 = 0 then ((⟨1, (gm v idT).num, 0, (gm v zk).text, gm v zc⟩ : Ms).val, 0) else (zeroM.val, 3)) := fun ex p => by
    have := zf2 (W (ex - 1)) (((v.kind == 5) && ((gm v idT).kind == 2)) && ((gm v zk).kind == 3)) _ s1
    unfold zm
    rw [if_pos rfl]
    exact this
   have hfin : ∀ ex : Int, (W (ex - 1) = 0 ↔ v.names.length = (if (fnd v zc).isSome = true then 3 else 2)) → (acc v ⟨1, (gm v idT).num, 0, (gm v zk).text, gm v zc⟩ = true ↔ ((((v.kind == 5) && ((gm v idT).kind == 2)) && ((gm v zk).kind == 3)) = true ∧ W (ex - 1) = 0 ∧ (Ms.enc ⟨1, (gm v idT).num, 0, (gm v zk).text, gm v zc⟩).2 = 0)) := fun ex hex => by
    rw [A1, hex]
    simp only [hid, hme, Option.some.injEq, exists_eq_left', hk, hx, hy, Bool.and_eq_true, beq_iff_eq, true_and]
    exact ⟨fun h => ⟨⟨h.2.1, h.2.2.1⟩, h.2.2.2, h.1⟩, fun h => ⟨h.2.2, h.1.1, h.1.2, h.2.1⟩⟩
   cases hpa : fnd v zc with
   | none =>
    simp only [Option.isSome_none, Option.isSome_some, Bool.false_eq_true, if_false]
    rw [hj1]
    exact Ua (hfin _ (by rw [hpa, hW11]; simp; omega))
   | some z =>
    simp only [Option.isSome_some, if_true]
    rw [hj1]
    exact Ua (hfin _ (by rw [hpa, hW21]; simp; omega))
  | none =>
   have hgi : gm v idT = nullJ := z4a hid
   have f1 : acc v ⟨1, (gm v idT).num, 0, (gm v zk).text, gm v zc⟩ = false := Kg fun h => by
    obtain ⟨_, _, ⟨x, h3, _⟩, _⟩ := A1.1 h
    rw [hid] at h3; cases h3
   rw [hdec, f1, f3, f4]
   simp only [Bool.false_eq_true, if_false]
   by_cases hc : (gm v zk).text = X9
   ·have f2 : acc v ⟨2, 0, 0, (gm v zk).text, gm v zc⟩ = false := Kg fun h => by
     have h0 := (A2.1 h).1
     obtain ⟨_, _, h3, _⟩ := zah h0
     simp only [wfM, z6q, hc, Bool.and_eq_true] at h3
     have := h3.2
     simp at this
    rw [f2]
    simp only [Bool.false_eq_true, if_false]
    have hj1 : ∀ (ex : Int) (p : Bool), zm none v.val ((gm v idT).val, false) ((gm v zk).val, true) ((gm v zc).val, p) ex =
     some (if (((((((v.kind == 5) && true) && ((gm v zk).kind == 3)) && ((gm v zc).kind == 5)) && (((gm v zc).names.length : Int) == 1)) && (fnd (gm v zc) idT).isSome) && ((gm (gm v zc) idT).kind == 2)) = true ∧ ex = 0 ∧ (Ms.enc ⟨5, (gm (gm v zc) idT).num, 0, [], nullJ⟩).2 = 0 then ((⟨5, (gm (gm v zc) idT).num, 0, [], nullJ⟩ : Ms).val, 0) else (zeroM.val, 3)) := fun ex p => by
     have := zf2 ex (((((((v.kind == 5) && true) && ((gm v zk).kind == 3)) && ((gm v zc).kind == 5)) && (((gm v zc).names.length : Int) == 1)) && (fnd (gm v zc) idT).isSome) && ((gm (gm v zc) idT).kind == 2)) _ s5
     unfold zm
     have e1 : zz none (GJ.mk (gm v zc).val.fK (gm v zc).val.fN (gm v zc).val.fT (gm v zc).val.fA (gm v zc).val.fE) ([105, 100] : List UInt8) = some ((gm (gm v zc) idT).val, (fnd (gm v zc) idT).isSome) := hfp idT
     have e2 : ((gm v zk).val.fT == ([36, 47, 99, 97, 110, 99, 101, 108] : List UInt8)) = true := by rw [hT, hc]; rfl
     simp only [e1, e2, Bool.false_eq_true, if_false, if_true, Option.bind_some, Bool.not_false, Bool.true_or, hN]
     exact this
    have hfin : ∀ ex : Int, (ex = 0 ↔ v.names.length = (if (fnd v zc).isSome = true then 2 else 1)) → (acc v ⟨5, (gm (gm v zc) idT).num, 0, [], nullJ⟩ = true ↔ ((((((((v.kind == 5) && true) && ((gm v zk).kind == 3)) && ((gm v zc).kind == 5)) && (((gm v zc).names.length : Int) == 1)) && (fnd (gm v zc) idT).isSome) && ((gm (gm v zc) idT).kind == 2)) = true ∧ ex = 0 ∧ (Ms.enc ⟨5, (gm (gm v zc) idT).num, 0, [], nullJ⟩).2 = 0)) := fun ex hex => by
     rw [A5, hex]
     cases hpa : fnd v zc with
     | none =>
      have hp0 : (gm v zc).kind = 0 := by rw [z4a hpa]; rfl
      simp [hp0]
     | some z =>
      cases hpi : fnd (gm v zc) idT with
      | none => simp
      | some u =>
       have hu := Z6 hpi
       simp only [hme, Option.some.injEq, exists_eq_left', hk, hy, hu, Bool.and_eq_true, beq_iff_eq, true_and, Option.isSome_some, if_true, and_true, exists_eq', true_and]
       rw [hy] at hc
       constructor
       ·rintro ⟨h0, h1, ⟨h2, _⟩, h3, h4, h5⟩; exact ⟨⟨⟨⟨h2, h3⟩, by omega⟩, h5⟩, h1, h0⟩
       ·rintro ⟨⟨⟨⟨h2, h3⟩, h4⟩, h5⟩, h1, h0⟩; exact ⟨h0, h1, ⟨h2, hc⟩, h3, by omega, h5⟩
    cases hpa : fnd v zc with
    | none =>
     simp only [Option.isSome_none, Bool.false_eq_true, if_false]
     rw [hj1]
     exact Ua (hfin _ (by rw [hpa]; simp; omega))
    | some z =>
     simp only [Option.isSome_some, Option.isSome_none, if_true]
     rw [hj1]
     exact Ua (hfin _ (by rw [hpa]; simp; omega))
   ·have f5 : acc v ⟨5, (gm (gm v zc) idT).num, 0, [], nullJ⟩ = false := Kg fun h => by
     obtain ⟨_, _, _, ⟨x, h3, _, h4⟩, _⟩ := A5.1 h
     rw [hme] at h3
     cases h3
     exact hc (by rw [hy]; exact h4)
    rw [f5]
    simp only [Bool.false_eq_true, if_false]
    have hj1 : ∀ (ex : Int) (p : Bool), zm none v.val ((gm v idT).val, false) ((gm v zk).val, true) ((gm v zc).val, p) ex =
     some (if (((v.kind == 5) && true) && ((gm v zk).kind == 3)) = true ∧ ex = 0 ∧ (Ms.enc ⟨2, 0, 0, (gm v zk).text, gm v zc⟩).2 = 0 then ((⟨2, 0, 0, (gm v zk).text, gm v zc⟩ : Ms).val, 0) else (zeroM.val, 3)) := fun ex p => by
     have := zf2 ex (((v.kind == 5) && true) && ((gm v zk).kind == 3)) _ s2
     unfold zm
     have e2 : ((gm v zk).val.fT == ([36, 47, 99, 97, 110, 99, 101, 108] : List UInt8)) = false := by rw [hT, beq_eq_false_iff_ne]; exact hc
     have e3 : (gm v idT).val.fN = 0 := by rw [hgi]; rfl
     simp only [e2, e3, Bool.false_eq_true, if_false, Bool.not_false, Bool.true_or]
     exact this
    have hfin : ∀ ex : Int, (ex = 0 ↔ v.names.length = (if (fnd v zc).isSome = true then 2 else 1)) → (acc v ⟨2, 0, 0, (gm v zk).text, gm v zc⟩ = true ↔ ((((v.kind == 5) && true) && ((gm v zk).kind == 3)) = true ∧ ex = 0 ∧ (Ms.enc ⟨2, 0, 0, (gm v zk).text, gm v zc⟩).2 = 0)) := fun ex hex => by
     rw [A2, hex]
     simp only [hme, Option.some.injEq, exists_eq_left', hk, hy, Bool.and_eq_true, beq_iff_eq, true_and, and_true]
     exact ⟨fun h => ⟨h.2.1, h.2.2, h.1⟩, fun h => ⟨h.2.2, h.1, h.2.1⟩⟩
    cases hpa : fnd v zc with
    | none =>
     simp only [Option.isSome_none, Bool.false_eq_true, if_false]
     rw [hj1]
     exact Ua (hfin _ (by rw [hpa]; simp; omega))
    | some z =>
     simp only [Option.isSome_some, Option.isSome_none, if_true]
     rw [hj1]
     exact Ua (hfin _ (by rw [hpa]; simp; omega))
 | none =>
  have f1 : acc v ⟨1, (gm v idT).num, 0, (gm v zk).text, gm v zc⟩ = false := Kg fun h => by
   obtain ⟨_, _, _, ⟨x, h3, _⟩, _⟩ := A1.1 h
   rw [hme] at h3; cases h3
  have f2 : acc v ⟨2, 0, 0, (gm v zk).text, gm v zc⟩ = false := Kg fun h => by
   obtain ⟨_, _, ⟨x, h3, _⟩, _⟩ := A2.1 h
   rw [hme] at h3; cases h3
  have f5 : acc v ⟨5, (gm (gm v zc) idT).num, 0, [], nullJ⟩ = false := Kg fun h => by
   obtain ⟨_, _, _, ⟨x, h3, _⟩, _⟩ := A5.1 h
   rw [hme] at h3; cases h3
  rw [hdec, f1, f2, f5]
  simp only [Option.isSome_none, Bool.false_eq_true, if_false]
  cases hre : fnd v wl with
  | some z =>
   have hk := (Ja hre).1
   have f4 : acc v ⟨4, (gm v idT).num, (gm (gm v jt) Yk).num, (gm (gm v jt) jq).text, nullJ⟩ = false := Kg fun h => by
    obtain ⟨_, _, h2, ⟨x, h3, _⟩, ⟨z, h4⟩, _⟩ := A4.1 h
    have := cnt (v := v) [idT, jt, wl] (by decide) (fun a ha => by
     simp only [List.mem_cons, List.mem_nil_iff, or_false] at ha
     rcases ha with rfl | rfl | rfl
     ·exact ⟨_, h3⟩
     ·exact ⟨_, h4⟩
     ·exact ⟨_, hre⟩)
    simp only [List.length_cons, List.length_nil] at this
    omega
   rw [f4]
   simp only [Option.isSome_some, if_true, Bool.false_eq_true, if_false]
   have := zf2 ((v.names.length : Int) - 2) (((v.kind == 5) && ((!(fnd v idT).isSome) || ((gm v idT).kind == 2))) && (fnd v idT).isSome) _ s3
   refine Eq.trans this (Ua ?_)
   rw [A3]
   cases hid : fnd v idT with
   | none => simp
   | some x =>
    simp only [hre, Option.some.injEq, exists_eq_left', exists_eq', hk, Z6 hid, Option.isSome_some, Bool.not_true, Bool.false_or, Bool.and_true, Bool.and_eq_true, beq_iff_eq, true_and, and_true]
    exact ⟨fun h => ⟨h.2.2, by omega, h.1⟩, fun h => ⟨h.2.2, by omega, h.1⟩⟩
  | none =>
   have f3 : acc v ⟨3, (gm v idT).num, 0, [], gm v wl⟩ = false := Kg fun h => by
    obtain ⟨_, _, _, _, z, h4⟩ := A3.1 h
    rw [hre] at h4; cases h4
   rw [f3]
   simp only [Option.isSome_none, Bool.false_eq_true, if_false]
   cases her : fnd v jt with
   | some e =>
    have hk := (Ja her).1
    simp only [Option.isSome_some, if_true]
    have := zf2 ((v.names.length : Int) - 2) (((((((((v.kind == 5) && ((!(fnd v idT).isSome) || ((gm v idT).kind == 2))) && (fnd v idT).isSome) && ((gm v jt).kind == 5)) && (((gm v jt).names.length : Int) == 2)) && (fnd (gm v jt) Yk).isSome) && ((gm (gm v jt) Yk).kind == 2)) && (fnd (gm v jt) jq).isSome) && ((gm (gm v jt) jq).kind == 3)) _ s4
    refine Eq.trans ?_ (Eq.trans this (Ua ?_))
    ·simp only [hN]; rfl
    ·rw [A4]
     cases hid : fnd v idT with
     | none => simp
     | some x =>
      cases hco : fnd (gm v jt) Yk with
      | none => simp
      | some co =>
       cases hms : fnd (gm v jt) jq with
       | none => simp
       | some ms =>
        simp only [her, Option.some.injEq, exists_eq_left', exists_eq', hk, Z6 hid, Z6 hco, Z6 hms, Option.isSome_some, Bool.not_true, Bool.false_or, Bool.and_true, Bool.and_eq_true, beq_iff_eq, true_and, and_true]
        constructor
        ·rintro ⟨h0, h1, h2, h3, h4, h5, h6⟩; exact ⟨⟨⟨⟨⟨h2, h3⟩, by omega⟩, h5⟩, h6⟩, by omega, h0⟩
        ·rintro ⟨⟨⟨⟨⟨h2, h3⟩, h4⟩, h5⟩, h6⟩, h1, h0⟩; exact ⟨h0, by omega, h2, h3, by omega, h5, h6⟩
   | none =>
    have f4 : acc v ⟨4, (gm v idT).num, (gm (gm v jt) Yk).num, (gm (gm v jt) jq).text, nullJ⟩ = false := Kg fun h => by
     obtain ⟨_, _, _, _, ⟨z, h4⟩, _⟩ := A4.1 h
     rw [her] at h4; cases h4
    rw [f4]
    simp only [Option.isSome_none, Bool.false_eq_true, if_false]
    have := zf2 (v.names.length : Int) false ⟨0, (gm v idT).num, 0, [], nullJ⟩ (by simp only [List.length_nil]; have := Vu; unfold J.ok at this; have e : nullJ.sz = 1 := (by unfold nullJ; rw [J.sz]; simp [nsz, J.szL]); omega)
    refine Eq.trans this ?_
    rw [if_neg (by simp)]
theorem zzj {j : J} (hj : j.ok) : jl none j.val j.val = some true := by
 rcases zlk (rec0 := ye none) (B := False) hj (fun e he => .inl (y14 (hj.elem he))) with h | ⟨h, _⟩
 ·exact h
 ·exact h.elim
theorem zwn {c : Ms} (h : c.b.ok) : zx none c.val c.val = some true := by
 unfold zx
 have e : jl none (GJ.mk c.val.fB.fK c.val.fB.fN c.val.fB.fT c.val.fB.fA c.val.fB.fE) (GJ.mk c.val.fB.fK c.val.fB.fN c.val.fB.fT c.val.fB.fA c.val.fB.fE) = some true := zzj h
 rw [if_pos (by simp), e, Option.bind_some]
 simp
theorem zhu {v : J} : ∀ {cs : List Ms}, (∀ c ∈ cs, c.b.ok) → (W9 v cs).1.b.ok
 | [], _ => Vu
 | c :: r, h => by
  rw [W9]
  split
  ·exact h c (by simp)
  ·exact zhu fun x hx => h x (List.mem_cons_of_mem _ hx)
theorem zdd {v : J} (hv : v.chk ≠ 0) : ∀ cs : List Ms, W9 v cs = (zeroM, 3)
 | [] => rfl
 | c :: r => by rw [W9, zuj hv, if_neg (by simp)]; exact zdd hv r
theorem y29 (v : J) (hs : v.sz ≤ 100000000) : xb none v.val = some true := by
 have hv : v.ok := by unfold J.ok; omega
 unfold xb x4
 simp only [Option.bind_some, zfi hs, J6 hv]
 rw [if_neg (by simp)]
 by_cases c : v.chk = 0
 ·rw [if_neg (by simp [c]), zz3 hs c, Option.bind_some, if_pos (by simp)]
  have e := zwn (c := (W9 v (ud v)).1) (zhu fun x hx => by have := z59 hs x hx; unfold J.ok; omega)
  have e' : zx none (GM.mk (W9 v (ud v)).1.val.fK (W9 v (ud v)).1.val.fI (W9 v (ud v)).1.val.fC (W9 v (ud v)).1.val.fM (GJ.mk (W9 v (ud v)).1.val.fB.fK (W9 v (ud v)).1.val.fB.fN (W9 v (ud v)).1.val.fB.fT (W9 v (ud v)).1.val.fB.fA (W9 v (ud v)).1.val.fB.fE)) (GM.mk (W9 v (ud v)).1.val.fK (W9 v (ud v)).1.val.fI (W9 v (ud v)).1.val.fC (W9 v (ud v)).1.val.fM (GJ.mk (W9 v (ud v)).1.val.fB.fK (W9 v (ud v)).1.val.fB.fN (W9 v (ud v)).1.val.fB.fT (W9 v (ud v)).1.val.fB.fA (W9 v (ud v)).1.val.fB.fE)) = some true := e
  rw [e', Option.bind_some]
  simp
 ·rw [if_pos (by simp [c]), zdd c, if_pos (by simp)]
  have e := zwn (c := zeroM) Vu
  have e' : zx none (GM.mk zeroM.val.fK zeroM.val.fI zeroM.val.fC zeroM.val.fM (GJ.mk zeroM.val.fB.fK zeroM.val.fB.fN zeroM.val.fB.fT zeroM.val.fB.fA zeroM.val.fB.fE)) (GM.mk 0 0 0 ([] : List UInt8) (GJ.mk 0 0 ([] : List UInt8) ([] : List (List UInt8)) ([] : List (List AVal)))) = some true := e
  rw [e', Option.bind_some]
  simp
end Go.Proofs.YtlfdchgaeeadjaaDoor
