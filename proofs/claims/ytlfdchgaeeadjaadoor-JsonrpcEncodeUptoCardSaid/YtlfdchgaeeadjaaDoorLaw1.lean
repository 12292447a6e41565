/-
  The reference's ValidUTF8 is the library's; no condition.
-/
import Derived.Test.YtlfdchgaeeadjaaDoorGenB
import Derived.Test.YtlfdchgaeeadjaaDoorFxP
namespace Go.Proofs.YtlfdchgaeeadjaaDoor
open Go.Fx
set_option linter.unusedVariables false
set_option linter.unusedSimpArgs false
theorem Wi {i : Nat} (h : i ≤ 4611686018427387904) : W ((i : Int) + 1) = ((i + 1 : Nat) : Int) := by rw [zpc (by unfold inR; omega)]; omega
theorem zp4 {α : Type} [Inhabited α] {l : List α} {i : Nat} (h : i < l.length) : l.getD i default = l[i] := by
 simp [List.getD_eq_getElem?_getD, h]
def J6 (s : List UInt8) : Nat → Nat → Nat → Nat → Option Nat
 | 0, p, _, _ => some p
 | k + 1, p, lo, hi => if s.length ≤ p ∨ (s.getD p 0).toNat < lo ∨ hi < (s.getD p 0).toNat then none else J6 s k (p + 1) 128 191
def zfx : Option Nat → Int ⊕ Bool
 | some q => .inl (q : Int)
 | none => .inr false
theorem z4h {s : List UInt8} (hs : s.length ≤ 4611686018427387904) : ∀ (k p lo hi v d : Nat), d + k = v → v ≤ 3 →
 qd none s (v : Int) (p : Int) (lo : Int) (hi : Int) (d : Int) = some (zfx (J6 s k p lo hi))
 | 0, p, lo, hi, v, d, h, hv => by
  unfold qd
  rw [x5 (x := some (.inl (p : Int)))]
  ·rfl
  ·unfold yl
   rw [if_neg (by simp; omega)]
 | k + 1, p, lo, hi, v, d, h, hv => by
  have hb : yl none s (v : Int) (p : Int) (lo : Int) (hi : Int) (d : Int) =
   if s.length ≤ p ∨ (s.getD p 0).toNat < lo ∨ hi < (s.getD p 0).toNat then some (.inr (.inr false)) else some (.inl (((p + 1 : Nat) : Int), ((128 : Nat) : Int), ((191 : Nat) : Int), ((d + 1 : Nat) : Int))) := by
   unfold yl
   rw [if_pos (by simp; omega), if_pos (by simp), if_pos (by simp; omega)]
   simp only [Int.toNat_natCast]
   by_cases hc : s.length ≤ p ∨ (s.getD p 0).toNat < lo ∨ hi < (s.getD p 0).toNat
   ·rw [if_pos (by simp only [Bool.and_eq_true, Bool.or_eq_true, decide_eq_true_eq, beq_iff_eq, ge_iff_le, gt_iff_lt]; omega), if_pos hc]; rfl
   ·rw [if_neg (by simp only [Bool.and_eq_true, Bool.or_eq_true, decide_eq_true_eq, beq_iff_eq, ge_iff_le, gt_iff_lt]; omega), if_neg hc, Wi (by omega), Wi (by omega)]; rfl
  unfold J6
  by_cases hc : s.length ≤ p ∨ (s.getD p 0).toNat < lo ∨ hi < (s.getD p 0).toNat
  ·unfold qd
   rw [if_pos hc, x5 (x := some (.inr false)) (by rw [hb, if_pos hc]; rfl)]
   rfl
  ·rw [if_neg hc, ← z4h hs k (p + 1) 128 191 v (d + 1) (by omega) hv]
   unfold qd
   rw [wa (s' := (((p + 1 : Nat) : Int), ((128 : Nat) : Int), ((191 : Nat) : Int), ((d + 1 : Nat) : Int))) (by rw [hb, if_neg hc])]
theorem ck2 (n b1 b2 b3 lo hi : Nat) : Lib.checkN n b1 b2 b3 (1 + 1) lo hi = if n < 2 ∨ b1 < lo ∨ hi < b1 then none else some 2 := by unfold Lib.checkN; rw [if_pos rfl]
theorem ck3 (n b1 b2 b3 lo hi : Nat) : Lib.checkN n b1 b2 b3 (2 + 1) lo hi = if n < 3 ∨ b1 < lo ∨ hi < b1 ∨ b2 < 128 ∨ 191 < b2 then none else some 3 := by unfold Lib.checkN; rw [if_neg (by decide), if_pos rfl]
theorem ck4 (n b1 b2 b3 lo hi : Nat) : Lib.checkN n b1 b2 b3 (3 + 1) lo hi = if n < 4 ∨ b1 < lo ∨ hi < b1 ∨ b2 < 128 ∨ 191 < b2 ∨ b3 < 128 ∨ 191 < b3 then none else some 4 := by unfold Lib.checkN; rw [if_neg (by decide), if_neg (by decide), if_pos rfl]
theorem zb9 {s : List UInt8} {i : Nat} (hi : i < s.length) : ∀ (k lo h : Nat), 1 ≤ k → k ≤ 3 →
 J6 s k (i + 1) lo h = (Lib.checkN (s.drop i).length ((s.drop i).getD 1 0).toNat ((s.drop i).getD 2 0).toNat ((s.drop i).getD 3 0).toNat (k + 1) lo h).map fun n => i + n := by
 intro k lo h h1 h3
 have g : ∀ j, (s.drop i).getD j 0 = s.getD (i + j) 0 := fun j => by simp [List.getD_eq_getElem?_getD]
 rw [g, g, g, List.length_drop]
 have hk : k = 1 ∨ k = 2 ∨ k = 3 := by omega
 rcases hk with rfl | rfl | rfl
 ·rw [ck2]
  unfold J6
  by_cases c : s.length ≤ i + 1 ∨ (s.getD (i + 1) 0).toNat < lo ∨ h < (s.getD (i + 1) 0).toNat
  ·rw [if_pos c, if_pos (by omega)]; rfl
  ·rw [if_neg c, if_neg (by omega)]; rfl
 ·rw [ck3]
  unfold J6
  by_cases c : s.length ≤ i + 1 ∨ (s.getD (i + 1) 0).toNat < lo ∨ h < (s.getD (i + 1) 0).toNat
  ·rw [if_pos c, if_pos (by omega)]; rfl
  ·rw [if_neg c]
   unfold J6
   by_cases c2 : s.length ≤ i + 2 ∨ (s.getD (i + 2) 0).toNat < 128 ∨ 191 < (s.getD (i + 2) 0).toNat
   ·rw [if_pos c2, if_pos (by omega)]; rfl
   ·rw [if_neg c2, if_neg (by omega)]; rfl
 ·rw [ck4]
  unfold J6
  by_cases c : s.length ≤ i + 1 ∨ (s.getD (i + 1) 0).toNat < lo ∨ h < (s.getD (i + 1) 0).toNat
  ·rw [if_pos c, if_pos (by omega)]; rfl
  ·rw [if_neg c]
   unfold J6
   by_cases c2 : s.length ≤ i + 2 ∨ (s.getD (i + 2) 0).toNat < 128 ∨ 191 < (s.getD (i + 2) 0).toNat
   ·rw [if_pos c2, if_pos (by omega)]; rfl
   ·rw [if_neg c2]
    unfold J6
    by_cases c3 : s.length ≤ i + 3 ∨ (s.getD (i + 3) 0).toNat < 128 ∨ 191 < (s.getD (i + 3) 0).toNat
    ·rw [if_pos c3, if_pos (by omega)]; rfl
    ·rw [if_neg c3, if_neg (by omega)]; rfl
def zaz (b : Nat) : Option (Nat × Nat × Nat) :=
 if b < 128 then some (0, 128, 191) else if 194 ≤ b ∧ b ≤ 223 then some (1, 128, 191) else
 if 224 ≤ b ∧ b ≤ 239 then some (2, if b = 224 then 160 else 128, if b = 237 then 159 else 191) else
 if 240 ≤ b ∧ b ≤ 244 then some (3, if b = 240 then 144 else 128, if b = 244 then 143 else 191) else none
def zqb (b : Nat) : Bool := match zaz b with
 | none => Lib.firstT b % 8 == 1
 | some (k, lo, hi) => decide (1 ≤ k) && decide (k ≤ 3) && (Lib.firstT b % 8 == k + 1) && (Lib.accLo (Lib.firstT b / 16) == lo) && (Lib.accHi (Lib.firstT b / 16) == hi)
theorem zba : ∀ b : Fin 256, 128 ≤ b.val → zqb b.val = true := by decide +kernel
theorem zbe {s : List UInt8} (hs : s.length ≤ 4611686018427387904) {i : Nat} (hi : i < s.length) : ym none s (i : Int) =
 match zaz (s.getD i 0).toNat with
 | none => some (.inr false)
 | some (k, lo, h) => some (zfx (J6 s k (i + 1) lo h)) := by
 have hl := fun (v lo h : Nat) (hv : v ≤ 3) => z4h hs v (i + 1) lo h v 0 (by omega) hv
 have j9 : ∀ (v lo h : Nat), v ≤ 3 → zl none s (i : Int) (v : Int) (lo : Int) (h : Int) = some (zfx (J6 s v (i + 1) lo h)) := fun v lo h hv => by
  unfold zl
  rw [Wi (by omega)]
  exact hl v lo h hv
 have j7 : ∀ lo : Nat, qe none s (i : Int) (lo : Int) = some (zfx (J6 s 2 (i + 1) lo (if (s.getD i 0).toNat = 237 then 159 else 191))) := fun lo => by
  unfold qe
  simp only [Int.toNat_natCast]
  by_cases c : (s.getD i 0).toNat = 237
  ·rw [if_pos (by simp only [beq_iff_eq]; omega), if_pos c]; exact j9 2 lo 159 (by omega)
  ·rw [if_neg (by simp only [beq_iff_eq]; omega), if_neg c]; exact j9 2 lo 191 (by omega)
 have j8 : ∀ lo : Nat, qc none s (i : Int) (lo : Int) = some (zfx (J6 s 3 (i + 1) lo (if (s.getD i 0).toNat = 244 then 143 else 191))) := fun lo => by
  unfold qc
  simp only [Int.toNat_natCast]
  by_cases c : (s.getD i 0).toNat = 244
  ·rw [if_pos (by simp only [beq_iff_eq]; omega), if_pos c]; exact j9 3 lo 143 (by omega)
  ·rw [if_neg (by simp only [beq_iff_eq]; omega), if_neg c]; exact j9 3 lo 191 (by omega)
 unfold ym zaz
 rw [if_pos (by simp; omega), if_pos (by omega)]
 simp only [Int.toNat_natCast]
 by_cases c1 : (s.getD i 0).toNat < 128
 ·rw [if_pos (by simp only [Bool.and_eq_true, Bool.or_eq_true, decide_eq_true_eq, beq_iff_eq, ge_iff_le, gt_iff_lt]; omega), if_pos c1]; exact j9 0 128 191 (by omega)
 rw [if_neg (by simp only [Bool.and_eq_true, Bool.or_eq_true, decide_eq_true_eq, beq_iff_eq, ge_iff_le, gt_iff_lt]; omega), if_neg c1]
 by_cases c2 : 194 ≤ (s.getD i 0).toNat ∧ (s.getD i 0).toNat ≤ 223
 ·rw [if_pos (by simp only [Bool.and_eq_true, Bool.or_eq_true, decide_eq_true_eq, beq_iff_eq, ge_iff_le, gt_iff_lt]; omega), if_pos c2]; exact j9 1 128 191 (by omega)
 rw [if_neg (by simp only [Bool.and_eq_true, Bool.or_eq_true, decide_eq_true_eq, beq_iff_eq, ge_iff_le, gt_iff_lt]; omega), if_neg c2]
 by_cases c3 : 224 ≤ (s.getD i 0).toNat ∧ (s.getD i 0).toNat ≤ 239
 ·rw [if_pos (by simp only [Bool.and_eq_true, Bool.or_eq_true, decide_eq_true_eq, beq_iff_eq, ge_iff_le, gt_iff_lt]; omega), if_pos c3]
  by_cases c : (s.getD i 0).toNat = 224
  ·rw [if_pos (by simp only [beq_iff_eq]; omega), if_pos c]; exact j7 160
  ·rw [if_neg (by simp only [beq_iff_eq]; omega), if_neg c]; exact j7 128
 rw [if_neg (by simp only [Bool.and_eq_true, Bool.or_eq_true, decide_eq_true_eq, beq_iff_eq, ge_iff_le, gt_iff_lt]; omega), if_neg c3]
 by_cases c4 : 240 ≤ (s.getD i 0).toNat ∧ (s.getD i 0).toNat ≤ 244
 ·rw [if_pos (by simp only [Bool.and_eq_true, Bool.or_eq_true, decide_eq_true_eq, beq_iff_eq, ge_iff_le, gt_iff_lt]; omega), if_pos c4]
  by_cases c : (s.getD i 0).toNat = 240
  ·rw [if_pos (by simp only [beq_iff_eq]; omega), if_pos c]; exact j8 144
  ·rw [if_neg (by simp only [beq_iff_eq]; omega), if_neg c]; exact j8 128
 rw [if_neg (by simp only [Bool.and_eq_true, Bool.or_eq_true, decide_eq_true_eq, beq_iff_eq, ge_iff_le, gt_iff_lt]; omega), if_neg c4]
 rfl
theorem z0m {s : List UInt8} (hs : s.length ≤ 4611686018427387904) : ∀ (k i : Nat), i + k ≥ s.length → i ≤ s.length → qx none s (i : Int) = some (Lib.validD (s.drop i))
 | k, i, hk, hi => by
  by_cases he : i = s.length
  ·subst he
   unfold qx
   rw [List.drop_length, x5 (x := some true)]
   ·rfl
   ·unfold ym
    rw [if_neg (by simp)]
    rfl
  ·have hi : i < s.length := by omega
   cases k with
   | zero => omega
   | succ k =>
   have ih := z0m hs k
   have hb := zbe hs hi
   have hg : (s.drop i).getD 0 0 = s.getD i 0 := by simp [List.getD_eq_getElem?_getD]
   have hne : s.drop i ≠ [] := by simp; omega
   unfold qx at ih ⊢
   by_cases ha : (s.getD i 0).toNat < 128
   ·have : zaz (s.getD i 0).toNat = some (0, 128, 191) := by unfold zaz; rw [if_pos ha]
    rw [this] at hb
    rw [wa (s' := ((i + 1 : Nat) : Int)) hb, ih (i + 1) (by omega) (by omega)]
    have hcons : s.drop i = s.getD i 0 :: s.drop (i + 1) := by
     rw [List.drop_eq_getElem_cons hi]; simp [List.getD_eq_getElem?_getD, hi]
    rw [hcons, Lib.validD_cons _ _ ha]
   ·have hv := Lib.validD_lead (s.drop i) hne (by rw [hg]; omega)
    have hf := zba ⟨(s.getD i 0).toNat, (s.getD i 0).toNat_lt⟩ (by simp only; omega)
    simp only [zqb] at hf
    rw [hg] at hv
    cases hl : zaz (s.getD i 0).toNat with
    | none =>
     rw [hl] at hb hf
     rw [x5 (x := some false) hb, hv]
     simp only [beq_iff_eq] at hf
     rw [hf]
     rfl
    | some y =>
     obtain ⟨k', lo, h⟩ := y
     rw [hl] at hb hf
     simp only at hb
     simp only [Bool.and_eq_true, decide_eq_true_eq, beq_iff_eq] at hf
     obtain ⟨⟨⟨⟨f1, f2⟩, f3⟩, f4⟩, f5⟩ := hf
     have hc := zb9 hi k' lo h f1 f2
     rw [f3, f4, f5] at hv
     rw [hv]
     cases hcn : Lib.checkN (s.drop i).length ((s.drop i).getD 1 0).toNat ((s.drop i).getD 2 0).toNat ((s.drop i).getD 3 0).toNat (k' + 1) lo h with
     | none =>
      rw [hcn] at hc
      rw [hc] at hb
      rw [x5 (x := some false) hb]
     | some q =>
      rw [hcn] at hc
      rw [hc] at hb
      have hq : 1 ≤ q ∧ i + q ≤ s.length := by
       have hlen : (s.drop i).length = s.length - i := List.length_drop
       rw [hlen] at hcn
       unfold Lib.checkN at hcn
       have hk : k' = 1 ∨ k' = 2 ∨ k' = 3 := by omega
       rcases hk with rfl | rfl | rfl <;> simp only [] at hcn <;> (repeat' split at hcn) <;> simp at hcn <;> omega
      rw [wa (s' := ((i + q : Nat) : Int)) hb, ih (i + q) (by omega) (by omega)]
      simp only [List.drop_drop]
theorem z1b {s : List UInt8} (hs : s.length ≤ 4611686018427387904) : yp none s = some (Lib.validD s) := by
 have := z0m hs s.length 0 (by omega) (by omega)
 exact this
theorem z7k {s : List UInt8} (hs : s.length ≤ 4611686018427387904) : j2 none s = some (Lib.validD s) := by
 unfold j2; rw [if_pos (by omega)]
inductive J where
 | mk (kind num : Int) (text : List UInt8) (names : List (List UInt8)) (elems : List J)
def J.kind : J → Int | .mk k _ _ _ _ => k
def J.num : J → Int | .mk _ n _ _ _ => n
def J.text : J → List UInt8 | .mk _ _ t _ _ => t
def J.names : J → List (List UInt8) | .mk _ _ _ ns _ => ns
def J.elems : J → List J | .mk _ _ _ _ es => es
mutual
def J.raw : J → List AVal
 | .mk k n t ns es => y8 ⟨k, n, t, ns, J.rawL es⟩
def J.rawL : List J → List (List AVal)
 | [] => []
 | e :: r => e.raw :: J.rawL r
end
theorem zgs : ∀ es : List J, J.rawL es = es.map J.raw
 | [] => rfl
 | e :: r => by unfold J.rawL; rw [zgs r]; rfl
def J.val (j : J) : G_QJSON := ⟨j.kind, j.num, j.text, j.names, j.elems.map J.raw⟩
theorem Xo (j : J) : j.raw = y8 j.val := by
 cases j with
 | mk k n t ns es => unfold J.raw J.val; rw [zgs]; rfl
theorem zso {x y : G_QJSON} (h : y8 x = y8 y) : x = y := by
 obtain ⟨k, n, t, ns, es⟩ := x
 obtain ⟨k', n', t', ns', es'⟩ := y
 simp only [y8, List.cons.injEq, AVal.int.injEq, AVal.str.injEq, AVal.isl.injEq, true_and, and_true] at h
 obtain ⟨h1, h2, h3, h4, h5⟩ := h
 have g1 : ns = ns' := by
  refine (List.map_inj_right ?_).1 h4
  intro a b hab
  simp only [z6, List.cons.injEq, AVal.str.injEq, and_true] at hab
  exact hab
 have g2 : es = es' := by
  have : (fun r : List AVal => z7 r) = id := rfl
  rw [show (z7 : List AVal → List AVal) = id from rfl, List.map_id, List.map_id] at h5
  exact h5
 rw [h1, h2, h3, g1, g2]
theorem zte (j : J) : kz j.raw = some j.val := by
 rw [Xo]
 have h : ∃ x, y8 j.val = y8 x := ⟨_, rfl⟩
 unfold kz
 rw [dif_pos h]
 congr 1
 exact (zso (Classical.choose_spec h)).symm
theorem zk4 {j : J} {i : Nat} (h : i < j.elems.length) : j.val.f_Elems.getD i default = (j.elems[i]).raw := by
 simp [J.val, List.getD_eq_getElem?_getD, h]
theorem jq (j : J) : (j.val.f_Elems.map z7).length = j.elems.length := by simp [J.val]
theorem zrl {j : J} {i : Nat} (h : i < j.elems.length) : kz (j.val.f_Elems.getD i default) = some (j.elems[i]).val := by rw [zk4 h, zte]
def nsz : List (List UInt8) → Nat
 | [] => 0
 | n :: r => n.length + 1 + nsz r
mutual
def J.sz : J → Nat
 | .mk _ _ t ns es => 1 + t.length + nsz ns + J.szL es
def J.szL : List J → Nat
 | [] => 0
 | e :: r => e.sz + J.szL r
end
mutual
def J.nodes : J → Nat
 | .mk _ _ _ _ es => 1 + J.nodesL es
def J.nodesL : List J → Nat
 | [] => 0
 | e :: r => e.nodes + J.nodesL r
end
mutual
def J.depth : J → Nat
 | .mk _ _ _ _ es => 1 + J.depthL es
def J.depthL : List J → Nat
 | [] => 0
 | e :: r => max e.depth (J.depthL r)
end
theorem U0 (j : J) : 1 ≤ j.sz := by cases j; unfold J.sz; omega
theorem zhn : ∀ {es : List J} {e : J}, e ∈ es → e.sz ≤ J.szL es
 | x :: r, e, h => by
  unfold J.szL
  rcases List.mem_cons.1 h with rfl | h
  ·omega
  ·have := zhn h; omega
theorem zkf : ∀ es : List J, es.length ≤ J.szL es
 | [] => by simp
 | e :: r => by
  unfold J.szL
  have := zkf r
  have := U0 e
  simp only [List.length_cons]; omega
theorem zdo : ∀ {ns : List (List UInt8)} {n : List UInt8}, n ∈ ns → n.length ≤ nsz ns
 | x :: r, n, h => by
  unfold nsz
  rcases List.mem_cons.1 h with rfl | h
  ·omega
  ·have := zdo h; omega
theorem zgc : ∀ ns : List (List UInt8), ns.length ≤ nsz ns
 | [] => by simp
 | n :: r => by
  unfold nsz
  have := zgc r
  simp only [List.length_cons]; omega
mutual
theorem z9n : ∀ j : J, j.nodes ≤ j.sz
 | .mk _ _ t ns es => by unfold J.nodes J.sz; have := z3u es; omega
theorem z3u : ∀ es : List J, J.nodesL es ≤ J.szL es
 | [] => by simp [J.nodesL]
 | e :: r => by unfold J.nodesL J.szL; have := z9n e; have := z3u r; omega
end
mutual
theorem U7 : ∀ j : J, j.depth ≤ j.nodes
 | .mk _ _ t ns es => by unfold J.nodes J.depth; have := Wd es; omega
theorem Wd : ∀ es : List J, J.depthL es ≤ J.nodesL es
 | [] => by simp [J.depthL]
 | e :: r => by unfold J.nodesL J.depthL; have := U7 e; have := Wd r; omega
end
def J.ok (j : J) : Prop := j.sz ≤ 1073741824
theorem J.ok.elem {j e : J} (h : j.ok) (he : e ∈ j.elems) : e.ok := by
 cases j with
 | mk k n t ns es =>
  have h' : J.sz (.mk k n t ns es) ≤ 1073741824 := h
  rw [J.sz.eq_1 k n t ns es] at h'
  have := zhn he
  simp only [J.elems] at this
  show e.sz ≤ 1073741824
  omega
theorem zbn {j e : J} (he : e ∈ j.elems) : e.sz < j.sz := by
 cases j with
 | mk k n t ns es =>
  have := zhn he
  simp only [J.elems] at this
  rw [J.sz.eq_1 k n t ns es]
  omega
theorem J.ok.len {j : J} (h : j.ok) : j.elems.length ≤ 1073741824 ∧ j.text.length ≤ 1073741824 ∧ j.names.length ≤ 1073741824 ∧ ∀ n ∈ j.names, n.length ≤ 1073741824 := by
 cases j with
 | mk k n t ns es =>
  unfold J.ok J.sz at h
  have := zkf es
  have := zgc ns
  refine ⟨?_, ?_, ?_, fun n hn => ?_⟩ <;> simp only [J.elems, J.text, J.names] at *
  ·omega
  ·omega
  ·omega
  ·have := zdo hn; omega
theorem W4 {α : Type} {f : Nat → Option α} {v : α} {d : Nat} (h : ∀ k, f k = some v ∨ (k < d ∧ f k = none)) : zhp none f = some v :=
 zo8 (fun k o ho => by rcases h k with h1 | ⟨_, h1⟩ <;> rw [h1] at ho <;> cases ho; rfl) ⟨d, by rcases h d with h1 | ⟨h1, _⟩; exact h1; omega⟩
theorem Zv {σ ρ : Type} {b : σ → Option (σ ⊕ ρ)} {s : σ} (h : b s = none) : Zc none b s = none := by rw [z17, h]
mutual
def J.lim : J → Int → Int → Bool × Int
 | .mk _ _ _ _ es, d, n => if n + 1 > 400 ∨ d > 20 then (false, n + 1) else J.limL es (d + 1) (n + 1)
def J.limL : List J → Int → Int → Bool × Int
 | [], _, n => (true, n)
 | e :: r, d, n => if (e.lim d n).1 = true then J.limL r d (e.lim d n).2 else (false, (e.lim d n).2)
end
mutual
theorem z7a : ∀ (j : J) (d n : Int), 0 ≤ n → ((j.lim d n).1 = true ↔ n + j.nodes ≤ 400 ∧ d + j.depth ≤ 21) ∧ ((j.lim d n).1 = true → (j.lim d n).2 = n + j.nodes)
 | .mk k m t ns es, d, n, h => by
  unfold J.lim J.nodes J.depth
  by_cases c : n + 1 > 400 ∨ d > 20
  ·rw [if_pos c]
   refine ⟨⟨fun h => (by cases h), fun h => ?_⟩, fun h => (by cases h)⟩
   omega
  ·rw [if_neg c]
   obtain ⟨h1, h2⟩ := z8l es (d + 1) (n + 1) (by omega) (by omega) (by omega)
   refine ⟨h1.trans ⟨fun h => by omega, fun h => by omega⟩, fun h => ?_⟩
   rw [h2 h]; omega
theorem z8l : ∀ (es : List J) (d n : Int), 0 ≤ n → n ≤ 400 → d ≤ 21 → ((J.limL es d n).1 = true ↔ n + J.nodesL es ≤ 400 ∧ d + J.depthL es ≤ 21) ∧ ((J.limL es d n).1 = true → (J.limL es d n).2 = n + J.nodesL es)
 | [], d, n, h, h', hd => by
  unfold J.limL J.nodesL J.depthL
  refine ⟨⟨fun _ => by omega, fun _ => rfl⟩, fun _ => by simp⟩
 | e :: r, d, n, h, h', hd => by
  unfold J.limL J.nodesL J.depthL
  obtain ⟨h1, h2⟩ := z7a e d n h
  by_cases c : (e.lim d n).1 = true
  ·rw [if_pos c]
   have h3 := h2 c
   have h4 := h1.1 c
   obtain ⟨g1, g2⟩ := z8l r d (e.lim d n).2 (by omega) (by omega) hd
   refine ⟨g1.trans ⟨fun h => by omega, fun h => by omega⟩, fun h => ?_⟩
   rw [g2 h]; omega
  ·rw [if_neg c]
   refine ⟨⟨fun h => (by cases h), fun hh => absurd (h1.2 (by omega)) c⟩, fun h => by cases h⟩
end
theorem z9r {j : J} {rec0 : G_QJSON → Int → Int → Option (Bool × Int)} {B : Prop} (hj : j.ok) {d : Int} (hd : 1 ≤ d ∧ d ≤ 20)
 (hr : ∀ e ∈ j.elems, ∀ n : Int, 0 ≤ n → n ≤ 400 → rec0 e.val (d + 1) n = some (e.lim (d + 1) n) ∨ (B ∧ rec0 e.val (d + 1) n = none)) :
 ∀ (k i : Nat) (n : Int), i + k = j.elems.length → 0 ≤ n → n ≤ 400 →
  yy rec0 none j.val d n (i : Int) = some (J.limL (j.elems.drop i) (d + 1) n) ∨ (B ∧ yy rec0 none j.val d n (i : Int) = none)
 | 0, i, n, h, h0, h4 => by
  left
  have : i = j.elems.length := by omega
  subst this
  unfold yy
  rw [x5 (x := some (true, n)), List.drop_length]
  ·rfl
  ·unfold y5
   rw [if_neg (by rw [jq]; simp)]
   rfl
 | k + 1, i, n, h, h0, h4 => by
  have hi : i < j.elems.length := by omega
  have hl := hj.len
  have ih := z9r hj hd hr k (i + 1)
  have hb : y5 rec0 none j.val d n (i : Int) = (rec0 (j.elems[i]).val (d + 1) n).bind fun v8 => if (!v8.1) = true then some (.inr (false, v8.2)) else some (.inl (v8.2, ((i + 1 : Nat) : Int))) := by
   unfold y5
   rw [jq, if_pos (by simpa using hi), if_pos (by omega)]
   simp only [Int.toNat_natCast, zrl hi, Option.bind_some, Wi (show i ≤ 4611686018427387904 by omega), show W (d + 1) = d + 1 from zpc (by unfold inR; omega)]
   rfl
  rw [List.drop_eq_getElem_cons hi]
  unfold yy at ih ⊢
  rcases hr _ (List.getElem_mem hi) n h0 h4 with hc | ⟨hB, hc⟩
  ·rw [hc, Option.bind_some] at hb
   unfold J.limL
   obtain ⟨g1, g2⟩ := z7a j.elems[i] (d + 1) n h0
   cases hv : (j.elems[i].lim (d + 1) n).1 with
   | true =>
    rw [hv] at hb
    rw [wa (s' := ((j.elems[i].lim (d + 1) n).2, ((i + 1 : Nat) : Int))) hb, if_pos rfl]
    have := g2 hv
    have := g1.1 hv
    exact ih _ (by omega) (by omega) (by omega)
   | false =>
    left
    rw [hv] at hb
    rw [x5 (x := some (false, (j.elems[i].lim (d + 1) n).2)) hb, if_neg (by simp)]
  ·right
   rw [hc] at hb
   exact ⟨hB, Zv hb⟩
theorem zfd : ∀ (k : Nat) (j : J) (d n : Int), j.ok → 1 ≤ d → d ≤ 21 → 0 ≤ n → n ≤ 400 → y7 none k j.val d n = some (j.lim d n) ∨ (k < j.sz ∧ y7 none k j.val d n = none)
 | 0, j, d, n, hj, hd, hd', h0, h4 => .inr ⟨U0 j, rfl⟩
 | k + 1, j, d, n, hj, hd, hd', h0, h4 => by
  have hW : W (n + 1) = n + 1 := zpc (by unfold inR; omega)
  unfold y7 x7
  rw [hW]
  by_cases c : n + 1 > 400 ∨ d > 20
  ·left
   rw [if_pos (by simpa using c)]
   cases j; unfold J.lim; rw [if_pos c]
  ·rw [if_neg (by simpa using c)]
   have := z9r (rec0 := y7 none k) (B := k + 1 < j.sz) hj (d := d) (by omega) (fun e he n h0 h4 => by
    rcases zfd k e (d + 1) n (hj.elem he) (by omega) (by omega) h0 h4 with h | ⟨h1, h2⟩
    ·exact .inl h
    ·exact .inr ⟨by have := zbn he; omega, h2⟩) j.elems.length 0 (n + 1) (by omega) (by omega) (by omega)
   have e : j.lim d n = J.limL j.elems (d + 1) (n + 1) := by cases j; rw [J.lim.eq_1, if_neg c]; rfl
   rw [e]
   exact this
theorem zrd {j : J} (hj : j.ok) : jp none j.val 1 0 = some (j.lim 1 0) :=
 W4 (d := j.sz) fun k => zfd k j 1 0 hj (by omega) (by omega) (by omega) (by omega)
theorem Uc {l : List (List UInt8)} {i : Nat} (h : i < l.length) : l.getD i default = l[i] := zp4 h
theorem zmh {p : List (List UInt8)} {x y : List UInt8} (h : y ≠ x) : (p ++ [y]).contains x = p.contains x := by simp [Ne.symm h]
theorem ziy {p : List (List UInt8)} {x : List UInt8} : (p ++ [x]).contains x = true := by simp
theorem zqz {p : List (List UInt8)} {x : List UInt8} : (x :: p).contains x = true := by simp
theorem zrm {p : List (List UInt8)} {x y : List UInt8} (h : x ≠ y) : (y :: p).contains x = p.contains x := by simp [h]
def zi7 (p : List (List UInt8)) : List (List UInt8) → Bool
 | [] => false
 | x :: r => p.contains x || zi7 (p ++ [x]) r
theorem zpp {M : List (List UInt8 × Int)} {k j : List UInt8} {v : Int} : lk Q7 (mp Q7 M k v) j = if k = j then some v else lk Q7 M j := by
 induction M with
 | nil =>
  simp only [mp, lk, Q7, Bool.and_true, beq_iff_eq]
  by_cases h : k = j
  ·rw [if_pos h, if_pos h.symm]
  ·rw [if_neg h, if_neg (Ne.symm h)]
 | cons x r ih =>
  obtain ⟨k', v'⟩ := x
  simp only [mp, Q7, Bool.and_true, beq_iff_eq]
  by_cases h : k = k'
  ·rw [if_pos h]
   simp only [lk, Q7, Bool.and_true, beq_iff_eq]
   by_cases h2 : k = j
   ·rw [if_pos h2, if_pos h2.symm]
   ·rw [if_neg h2, if_neg (Ne.symm h2), if_neg (by rw [← h]; exact Ne.symm h2)]
  ·rw [if_neg h]
   simp only [lk, Q7, Bool.and_true, beq_iff_eq]
   by_cases h2 : j = k'
   ·rw [if_pos h2, if_pos h2, if_neg (by rw [h2]; exact h)]
   ·rw [if_neg h2, if_neg h2]; exact ih
theorem Kl {a0 : List (List UInt8)} (hl : a0.length ≤ 4611686018427387904) : ∀ (k i : Nat) (M : List (List UInt8 × Int)), i + k = a0.length → (∀ x, (((lk Q7 M x).getD 0) != 0) = (a0.take i).contains x) →
 xk none a0 (i : Int) M = some (zi7 (a0.take i) (a0.drop i))
 | 0, i, M, h, hM => by
  have : i = a0.length := by omega
  subst this
  unfold xk
  rw [x5 (x := some false), List.drop_length]
  ·rfl
  ·unfold q6
   rw [if_neg (by simp)]
   rfl
 | k + 1, i, M, h, hM => by
  have hi : i < a0.length := by omega
  have ih := Kl hl k (i + 1)
  have hb : q6 none a0 (i : Int) M = if (a0.take i).contains a0[i] = true then some (.inr true) else some (.inl (((i + 1 : Nat) : Int), mp Q7 M a0[i] 1)) := by
   unfold q6
   rw [if_pos (by simpa using hi), if_pos (by simpa using hi)]
   simp only [Int.toNat_natCast, Uc hi, Wi (show i ≤ 4611686018427387904 by omega), hM]
   rfl
  rw [List.drop_eq_getElem_cons hi, zi7]
  unfold xk at ih ⊢
  cases hc : (a0.take i).contains a0[i] with
  | true =>
   rw [hc, if_pos rfl] at hb
   rw [x5 (x := some true) hb]; rfl
  | false =>
   rw [hc, if_neg (by simp)] at hb
   have ht : a0.take (i + 1) = a0.take i ++ [a0[i]] := by rw [List.take_succ_eq_append_getElem hi]
   rw [wa hb, ih _ (by omega) (fun x => ?_), ht, Bool.false_or]
   rw [zpp, ht]
   by_cases hx : a0[i] = x
   ·rw [if_pos hx, hx, ziy]; rfl
   ·rw [if_neg hx, hM, zmh hx]
theorem zcb {a0 : List (List UInt8)} (hl : a0.length ≤ 4611686018427387904) : j5 none a0 = some (zi7 [] a0) :=
 Kl hl a0.length 0 [] (by omega) (fun x => by simp [lk])
theorem Uq {a0 : List (List UInt8)} {a1 : List UInt8} (hl : a0.length ≤ 4611686018427387904) : ∀ (k i : Nat), i + k = a0.length →
 ∃ r, qg none a0 a1 (i : Int) = some r ∧ decide (r ≥ 0) = (a0.drop i).contains a1
 | 0, i, h => by
  have : i = a0.length := by omega
  subst this
  refine ⟨-1, ?_, by simp⟩
  unfold qg
  rw [x5 (x := some (-1))]
  unfold y1
  rw [if_neg (by simp)]
  rfl
 | k + 1, i, h => by
  have hi : i < a0.length := by omega
  obtain ⟨r, ih1, ih2⟩ := Uq (a1 := a1) hl k (i + 1) (by omega)
  have hb : y1 none a0 a1 (i : Int) = if (a1 == a0[i]) = true then some (.inr (i : Int)) else some (.inl ((i + 1 : Nat) : Int)) := by
   unfold y1
   rw [if_pos (by simpa using hi), if_pos (by simpa using hi)]
   simp only [Int.toNat_natCast, Uc hi, Wi (show i ≤ 4611686018427387904 by omega)]
   rfl
  rw [List.drop_eq_getElem_cons hi]
  unfold qg at ih1 ⊢
  by_cases hc : a1 = a0[i]
  ·rw [if_pos (by simpa using hc)] at hb
   exact ⟨i, x5 (x := some (i : Int)) hb, by rw [hc, zqz, decide_eq_true_eq]; omega⟩
  ·rw [if_neg (by simpa using hc)] at hb
   refine ⟨r, by rw [wa hb]; exact ih1, ?_⟩
   rw [ih2, zrm hc]
theorem z7s {a0 : List (List UInt8)} {a1 : List UInt8} (hl : a0.length ≤ 4611686018427387904) : yv none a0 a1 = some (a0.contains a1) := by
 obtain ⟨r, h1, h2⟩ := Uq (a1 := a1) hl a0.length 0 (by omega)
 unfold yv qy
 rw [show (0 : Int) = ((0 : Nat) : Int) from rfl, h1, Option.bind_some]
 rw [show ((0 : Nat) : Int) = (0 : Int) from rfl, h2]
 rfl
theorem z8y {a0 : List (List UInt8)} (hl : a0.length ≤ 4611686018427387904) : ∀ (k i : Nat), i + k = a0.length → x4 none a0 (i : Int) = some (zi7 (a0.take i) (a0.drop i))
 | 0, i, h => by
  have : i = a0.length := by omega
  subst this
  unfold x4
  rw [x5 (x := some false), List.drop_length]
  ·rfl
  ·unfold yk
   rw [if_neg (by simp)]
   rfl
 | k + 1, i, h => by
  have hi : i < a0.length := by omega
  have ih := z8y hl k (i + 1) (by omega)
  have hb : yk none a0 (i : Int) = if (a0.take i).contains a0[i] = true then some (.inr true) else some (.inl ((i + 1 : Nat) : Int)) := by
   unfold yk
   rw [if_pos (by simpa using hi), if_pos (by simpa using hi), if_pos (by simp; omega)]
   simp only [Int.toNat_natCast, Uc hi, Wi (show i ≤ 4611686018427387904 by omega)]
   rw [z7s (by rw [List.length_take]; omega), Option.bind_some]
   rfl
  rw [List.drop_eq_getElem_cons hi, zi7]
  unfold x4 at ih ⊢
  cases hc : (a0.take i).contains a0[i] with
  | true =>
   rw [hc, if_pos rfl] at hb
   rw [x5 (x := some true) hb]; rfl
  | false =>
   rw [hc, if_neg (by simp)] at hb
   rw [wa hb, ih, List.take_succ_eq_append_getElem hi, Bool.false_or]
theorem zr0 {a0 : List (List UInt8)} (hl : a0.length ≤ 4611686018427387904) : xr none a0 = some (zi7 [] a0) := z8y hl a0.length 0 (by omega)
theorem z35 {a0 : List (List UInt8)} (hl : a0.length ≤ 4611686018427387904) (hn : ∀ n ∈ a0, n.length ≤ 4611686018427387904) : ∀ (k i : Nat), i + k = a0.length →
 ∃ r, x3 (fun (s : Unit) (x : (List UInt8)) => (yj none x).map fun o => (o, ())) none a0 (i : Int) () = some (r, ()) ∧ decide (r ≥ 0) = !((a0.drop i).all Lib.validD)
 | 0, i, h => by
  have : i = a0.length := by omega
  subst this
  refine ⟨-1, ?_, by simp⟩
  unfold x3
  rw [x5 (x := some (-1, ()))]
  unfold yn
  rw [if_neg (by simp)]
  rfl
 | k + 1, i, h => by
  have hi : i < a0.length := by omega
  obtain ⟨r, ih1, ih2⟩ := z35 hl hn k (i + 1) (by omega)
  have hb : yn (fun (s : Unit) (x : (List UInt8)) => (yj none x).map fun o => (o, ())) none a0 (i : Int) () = if (!Lib.validD a0[i]) = true then some (.inr ((i : Int), ())) else some (.inl (((i + 1 : Nat) : Int), ())) := by
   unfold yn yj
   rw [if_pos (by simpa using hi), if_pos (by simpa using hi)]
   simp only [Int.toNat_natCast, Uc hi, Wi (show i ≤ 4611686018427387904 by omega)]
   rw [z7k (hn _ (List.getElem_mem hi))]
   rfl
  rw [List.drop_eq_getElem_cons hi]
  unfold x3 at ih1 ⊢
  cases hc : Lib.validD a0[i] with
  | false =>
   rw [hc, if_pos (by rfl)] at hb
   exact ⟨i, x5 (x := some ((i : Int), ())) hb, by rw [List.all_cons, hc, Bool.false_and, Bool.not_false, decide_eq_true_eq]; omega⟩
  | true =>
   rw [hc, if_neg (by simp)] at hb
   refine ⟨r, by rw [wa hb]; exact ih1, ?_⟩
   rw [ih2, List.all_cons, hc, Bool.true_and]
theorem zoa {a0 : List (List UInt8)} (hl : a0.length ≤ 4611686018427387904) (hn : ∀ n ∈ a0, n.length ≤ 4611686018427387904) :
 qa (fun (s : Unit) (x : (List UInt8)) => (yj none x).map fun o => (o, ())) none a0 () = some (!(a0.all Lib.validD), ()) := by
 obtain ⟨r, h1, h2⟩ := z35 hl hn a0.length 0 (by omega)
 unfold qa xq
 rw [show (0 : Int) = ((0 : Nat) : Int) from rfl, h1, Option.bind_some]
 rw [show ((0 : Nat) : Int) = (0 : Int) from rfl, h2]
 rfl
def Wv (k n : Int) : Bool := decide (n = 0 ∨ (k = 1 ∧ n = 1) ∨ (k = 2 ∧ -9007199254740991 ≤ n ∧ n ≤ 9007199254740991))
def wfB (k n : Int) (t : List UInt8) (ns : List (List UInt8)) (len : Nat) : Bool :=
 Wv k n && (decide (t = []) || (decide (k = 3) && Lib.validD t)) && decide (len = 0 ∨ k ≥ 4) && (if k = 5 then decide (ns.length = len) && !zi7 [] ns else decide (ns.length = 0)) && ns.all Lib.validD
def J.wf (j : J) : Bool := wfB j.kind j.num j.text j.names j.elems.length
theorem zme {j : J} (hj : j.ok) (hk : 0 ≤ j.kind ∧ j.kind ≤ 5) {lo hi : Int} (hnum : Wv j.kind j.num = decide (lo ≤ j.num ∧ j.num ≤ hi)) : qk none j.val lo hi = some j.wf := by
 obtain ⟨hl1, hl2, hl3, hl4⟩ := hj.len
 have hd := zcb (a0 := j.names) (by omega)
 have hf := zoa (a0 := j.names) (by omega) (fun n hn => by have := hl4 n hn; omega)
 have hu := z7k (s := j.text) (by omega)
 unfold qk J.wf wfB
 rw [hnum]
 rw [jq, show j.val.f_Kind = j.kind from rfl, show j.val.f_Num = j.num from rfl, show j.val.f_Text = j.text from rfl, show j.val.f_Names = j.names from rfl, List.length_map]
 by_cases c1 : ¬ (lo ≤ j.num ∧ j.num ≤ hi)
 ·rw [if_pos (by simp only [Bool.or_eq_true, decide_eq_true_eq]; omega), decide_eq_false c1]; rfl
 rw [if_neg (by simp only [Bool.or_eq_true, decide_eq_true_eq]; omega)]
 by_cases c2 : j.text ≠ [] ∧ j.kind ≠ 3
 ·rw [if_pos (by simp; exact c2)]; simp [c2.1, c2.2]
 rw [if_neg (by simpa using c2)]
 by_cases c3 : j.elems.length > 0 ∧ j.kind ≠ 4 ∧ j.kind ≠ 5
 ·rw [if_pos (by simp; omega)]
  have : ¬ (j.elems.length = 0 ∨ j.kind ≥ 4) := by omega
  rw [decide_eq_false this, Bool.and_false, Bool.false_and, Bool.false_and]
 rw [if_neg (by simp; omega)]
 have e1 : decide (lo ≤ j.num ∧ j.num ≤ hi) = true := by rw [decide_eq_true_eq]; omega
 have e3 : decide (j.elems.length = 0 ∨ j.kind ≥ 4) = true := by simp only [decide_eq_true_eq]; omega
 have e2 : (decide (j.text = []) || (decide (j.kind = 3) && Lib.validD j.text)) = Lib.validD j.text := by
  by_cases ht : j.text = []
  ·rw [ht]; rfl
  ·have : j.kind = 3 := Decidable.byContradiction fun h => c2 ⟨ht, h⟩
   simp [ht, this]
 rw [e1, e2, e3]
 by_cases c5 : j.kind = 5
 ·rw [if_pos c5]
  by_cases cl : j.names.length = j.elems.length
  ·rw [if_pos (by simp [c5, cl]), hd, Option.bind_some]
   cases hdp : zi7 [] j.names with
   | true => rw [if_pos (by simp [c5])]; simp
   | false =>
    rw [if_neg (by simp [c5, cl]), if_neg (by simp [c5]), hu, Option.bind_some]
    cases hv : Lib.validD j.text with
    | true => rw [if_pos (by rfl), hf, Option.bind_some]; simp [cl]
    | false => rw [if_neg (by simp), Option.bind_some]; simp
  ·rw [if_neg (by simp [c5]; omega), Option.bind_some, if_pos (by simp [c5]; omega)]
   simp [cl]
 ·rw [if_neg c5, if_neg (by simp [c5]), Option.bind_some, if_neg (by simp [c5])]
  by_cases cl : j.names.length = 0
  ·rw [if_neg (by simp [cl]), hu, Option.bind_some]
   cases hv : Lib.validD j.text with
   | true => rw [if_pos (by rfl), hf, Option.bind_some]; simp [cl]
   | false => rw [if_neg (by simp), Option.bind_some]; simp
  ·rw [if_pos (by simp [c5]; omega)]
   simp [cl]
theorem zsp {j : J} (hj : j.ok) (hk : 0 ≤ j.kind ∧ j.kind ≤ 5) : j6 none j.val = some j.wf := by
 unfold j6
 have hkv : j.val.f_Kind = j.kind := rfl
 rw [hkv]
 by_cases c1 : j.kind = 1
 ·rw [if_pos (by simpa using c1)]
  exact zme hj hk (by unfold Wv; rw [decide_eq_decide]; omega)
 rw [if_neg (by simpa using c1)]
 by_cases c2 : j.kind = 2
 ·rw [if_pos (by simpa using c2)]
  exact zme hj hk (by unfold Wv; rw [decide_eq_decide]; omega)
 rw [if_neg (by simpa using c2)]
 exact zme hj hk (by unfold Wv; rw [decide_eq_decide]; omega)
mutual
def J.vd : J → Int
 | .mk k n t ns es => if k < 0 ∨ k > 5 then 7 else if wfB k n t ns es.length = true then J.vdL es else 3
def J.vdL : List J → Int
 | [] => 0
 | e :: r => if e.vd ≠ 0 then e.vd else J.vdL r
end
theorem zhu (j : J) : j.vd = if j.kind < 0 ∨ j.kind > 5 then 7 else if j.wf = true then J.vdL j.elems else 3 := by
 cases j; rw [J.vd.eq_1]; rfl
theorem z6s {j : J} {rec0 : G_QJSON → Option Int} {B : Prop} (hj : j.ok) (hr : ∀ e ∈ j.elems, rec0 e.val = some e.vd ∨ (B ∧ rec0 e.val = none)) :
 ∀ (k i : Nat), i + k = j.elems.length →
  qj rec0 none j.val (i : Int) = some (J.vdL (j.elems.drop i)) ∨ (B ∧ qj rec0 none j.val (i : Int) = none)
 | 0, i, h => by
  left
  have : i = j.elems.length := by omega
  subst this
  unfold qj
  rw [x5 (x := some 0), List.drop_length]
  ·rfl
  ·unfold q7
   rw [if_neg (by rw [jq]; simp)]
   rfl
 | k + 1, i, h => by
  have hi : i < j.elems.length := by omega
  have hl := hj.len
  have ih := z6s hj hr k (i + 1) (by omega)
  have hb : q7 rec0 none j.val (i : Int) = (rec0 (j.elems[i]).val).bind fun v8 => if (v8 != 0) = true then some (.inr v8) else some (.inl ((i + 1 : Nat) : Int)) := by
   unfold q7
   rw [jq, if_pos (by simpa using hi), if_pos (by omega)]
   simp only [Int.toNat_natCast, zrl hi, Option.bind_some, Wi (show i ≤ 4611686018427387904 by omega)]
   rfl
  rw [List.drop_eq_getElem_cons hi]
  unfold qj at ih ⊢
  rcases hr _ (List.getElem_mem hi) with hc | ⟨hB, hc⟩
  ·rw [hc, Option.bind_some] at hb
   unfold J.vdL
   by_cases hv : j.elems[i].vd = 0
   ·rw [if_neg (by simpa using hv)] at hb
    rw [wa hb, if_neg (by simpa using hv)]
    exact ih
   ·left
    rw [if_pos (by simpa using hv)] at hb
    rw [x5 (x := some (j.elems[i].vd)) hb, if_pos hv]
  ·right
   rw [hc] at hb
   exact ⟨hB, Zv hb⟩
theorem zhs {j : J} {rec0 : G_QJSON → Option Int} {B : Prop} (hj : j.ok) (hr : ∀ e ∈ j.elems, rec0 e.val = some e.vd ∨ (B ∧ rec0 e.val = none)) :
 q8 rec0 none j.val = some j.vd ∨ (B ∧ q8 rec0 none j.val = none) := by
 unfold q8
 rw [zhu, show j.val.f_Kind = j.kind from rfl]
 by_cases c : j.kind < 0 ∨ j.kind > 5
 ·left
  rw [if_pos (by simp only [Bool.or_eq_true, decide_eq_true_eq]; omega), if_pos c]
 rw [if_neg (by simp only [Bool.or_eq_true, decide_eq_true_eq]; omega), if_neg c, zsp hj (by omega), Option.bind_some]
 cases hw : j.wf with
 | false => left; rw [if_pos (by rfl), if_neg (by simp)]
 | true =>
  rw [if_neg (by simp), if_pos rfl]
  exact z6s hj hr j.elems.length 0 (by omega)
theorem zlv : ∀ (k : Nat) (j : J), j.ok → qu none k j.val = some j.vd ∨ (k < j.sz ∧ qu none k j.val = none)
 | 0, j, hj => .inr ⟨U0 j, rfl⟩
 | k + 1, j, hj => by
  unfold qu
  exact zhs hj fun e he => by
   rcases zlv k e (hj.elem he) with h | ⟨h1, h2⟩
   ·exact .inl h
   ·exact .inr ⟨by have := zbn he; omega, h2⟩
theorem zrx {j : J} (hj : j.ok) : wh none j.val = some j.vd := W4 (d := j.sz) fun k => zlv k j hj
theorem zto {j : J} (hj : j.ok) : ki none j.val = some j.vd := by
 rcases zhs (B := False) hj (fun e he => .inl (zrx (hj.elem he))) with h | ⟨h, _⟩
 ·exact h
 ·exact h.elim
def J.chk (j : J) : Int := if j.nodes ≤ 400 ∧ j.depth ≤ 20 then j.vd else 2
theorem Vi {j : J} (hj : j.ok) : xm none j.val = some j.chk := by
 obtain ⟨h1, _⟩ := z7a j 1 0 (by omega)
 unfold xm J.chk
 rw [zrd hj, Option.bind_some]
 by_cases c : j.nodes ≤ 400 ∧ j.depth ≤ 20
 ·have : (j.lim 1 0).1 = true := h1.2 (by omega)
  rw [if_neg (by rw [this]; simp), if_pos c, zto hj]
  rfl
 ·have : (j.lim 1 0).1 = false := by
   cases hv : (j.lim 1 0).1 with
   | false => rfl
   | true => have := h1.1 hv; omega
  rw [if_pos (by rw [this]; rfl), if_neg c]
theorem z4f {j : J} {rec0 : G_QJSON → Option (Int × Int)} {B : Prop} (hj : j.ok) (hr : ∀ e ∈ j.elems, rec0 e.val = some ((e.nodes : Int), (e.depth : Int)) ∨ (B ∧ rec0 e.val = none)) :
 ∀ (k i a c : Nat), i + k = j.elems.length → a + J.nodesL (j.elems.drop i) ≤ 4611686018427387904 → c ≤ 1073741824 → J.depthL (j.elems.drop i) ≤ 1073741824 →
  yu rec0 none j.val (a : Int) (c : Int) (i : Int) = some (((a + J.nodesL (j.elems.drop i) : Nat) : Int), ((max c (J.depthL (j.elems.drop i)) + 1 : Nat) : Int)) ∨ (B ∧ yu rec0 none j.val (a : Int) (c : Int) (i : Int) = none)
 | 0, i, a, c, h, ha, hc, hd => by
  left
  have : i = j.elems.length := by omega
  subst this
  unfold yu
  rw [x5 (x := some ((a : Int), ((c + 1 : Nat) : Int))), List.drop_length]
  ·simp [J.nodesL, J.depthL]
  ·unfold zz xh
   rw [if_neg (by rw [jq]; simp), Wi (by omega)]
 | k + 1, i, a, c, h, ha, hcc, hd => by
  have hi : i < j.elems.length := by omega
  have hl := hj.len
  have ih := z4f hj hr k (i + 1)
  have hb : zz rec0 none j.val (a : Int) (c : Int) (i : Int) = (rec0 (j.elems[i]).val).bind fun v9 => some (.inl (W ((a : Int) + v9.1), (if v9.2 > (c : Int) then v9.2 else (c : Int)), ((i + 1 : Nat) : Int))) := by
   unfold zz
   rw [jq, if_pos (by simpa using hi), if_pos (by omega)]
   simp only [Int.toNat_natCast, zrl hi, Option.bind_some, Wi (show i ≤ 4611686018427387904 by omega)]
  rw [List.drop_eq_getElem_cons hi] at ha hd ⊢
  unfold J.nodesL at ha ⊢
  unfold J.depthL at hd ⊢
  unfold yu at ih ⊢
  rcases hr _ (List.getElem_mem hi) with hc | ⟨hB, hc⟩
  ·rw [hc, Option.bind_some] at hb
   have e1 : W ((a : Int) + (j.elems[i].nodes : Int)) = ((a + j.elems[i].nodes : Nat) : Int) := by rw [zpc (by unfold inR; omega)]; omega
   have e2 : (if (j.elems[i].depth : Int) > (c : Int) then (j.elems[i].depth : Int) else (c : Int)) = ((max c j.elems[i].depth : Nat) : Int) := by
    by_cases hx : (j.elems[i].depth : Int) > (c : Int)
    ·rw [if_pos hx]; omega
    ·rw [if_neg hx]; omega
   simp only [e1, e2] at hb
   rw [wa hb]
   have := ih (a + j.elems[i].nodes) (max c j.elems[i].depth) (by omega) (by omega) (by omega) (by omega)
   rw [Nat.add_assoc, Nat.max_assoc] at this
   exact this
  ·right
   rw [hc] at hb
   exact ⟨hB, Zv hb⟩
theorem z5f {j : J} {rec0 : G_QJSON → Option (Int × Int)} {B : Prop} (hj : j.ok) (hr : ∀ e ∈ j.elems, rec0 e.val = some ((e.nodes : Int), (e.depth : Int)) ∨ (B ∧ rec0 e.val = none)) :
 yi rec0 none j.val = some ((j.nodes : Int), (j.depth : Int)) ∨ (B ∧ yi rec0 none j.val = none) := by
 have h1 := z9n j
 have h2 := U7 j
 have hk : j.sz ≤ 1073741824 := hj
 have e1 : j.nodes = 1 + J.nodesL j.elems := by cases j; rw [J.nodes.eq_1]; rfl
 have e2 : j.depth = 1 + J.depthL j.elems := by cases j; rw [J.depth.eq_1]; rfl
 have := z4f hj hr j.elems.length 0 1 0 (by omega) (by rw [List.drop_zero]; omega) (by omega) (by rw [List.drop_zero]; omega)
 rw [List.drop_zero] at this
 rw [e1, e2, Nat.add_comm 1 (J.depthL j.elems)]
 rw [Nat.max_eq_right (Nat.zero_le _)] at this
 exact this
theorem z9m : ∀ (k : Nat) (j : J), j.ok → yz none k j.val = some ((j.nodes : Int), (j.depth : Int)) ∨ (k < j.sz ∧ yz none k j.val = none)
 | 0, j, hj => .inr ⟨U0 j, rfl⟩
 | k + 1, j, hj => by
  unfold yz
  exact z5f hj fun e he => by
   rcases z9m k e (hj.elem he) with h | ⟨h1, h2⟩
   ·exact .inl h
   ·exact .inr ⟨by have := zbn he; omega, h2⟩
theorem zo0 {j : J} (hj : j.ok) : wq none j.val = some ((j.nodes : Int), (j.depth : Int)) := by
 rcases z5f (rec0 := jj none) (B := False) hj (fun e he => .inl (W4 (d := e.sz) fun k => z9m k e (hj.elem he))) with h | ⟨h, _⟩
 ·exact h
 ·exact h.elim
theorem zqu (k n : Int) : (((n == 0) || ((k == 1) && (n == 1))) || (((k == 2) && (decide ((W (0 - 9007199254740991)) ≤ n))) && (decide (n ≤ 9007199254740991)))) = Wv k n := by
 have e : W (0 - 9007199254740991) = -9007199254740991 := zpc (by unfold inR; omega)
 rw [e]
 unfold Wv
 rw [Bool.eq_iff_iff]
 simp only [Bool.or_eq_true, Bool.and_eq_true, decide_eq_true_eq, beq_iff_eq]
 omega
theorem z0h {j : J} {rec0 : G_QJSON → Option Int} (hj : j.ok) : ∀ (k i : Nat) (v : Bool), i + k = j.names.length →
 q9 rec0 none j.val v (i : Int) = y6 rec0 none j.val (v && (j.names.drop i).all Lib.validD)
 | 0, i, v, h => by
  have : i = j.names.length := by omega
  subst this
  unfold q9
  rw [List.drop_length, List.all_nil, Bool.and_true, x5]
  unfold zp
  rw [show j.val.f_Names = j.names from rfl, List.length_map, if_neg (by simp)]
 | k + 1, i, v, h => by
  have hi : i < j.names.length := by omega
  have hl := hj.len
  have ih := z0h (rec0 := rec0) hj k (i + 1) (v && Lib.validD j.names[i]) (by omega)
  have hb : zp rec0 none j.val v (i : Int) = some (.inl ((v && Lib.validD j.names[i]), ((i + 1 : Nat) : Int))) := by
   unfold zp
   rw [show j.val.f_Names = j.names from rfl, List.length_map, if_pos (by simpa using hi), if_pos (by omega)]
   simp only [Int.toNat_natCast, Uc hi, Wi (show i ≤ 4611686018427387904 by omega)]
   rw [z1b (by have := hl.2.2.2 _ (List.getElem_mem hi); omega)]
   cases v <;> rfl
  rw [List.drop_eq_getElem_cons hi, List.all_cons, ← Bool.and_assoc]
  unfold q9 at ih ⊢
  rw [wa hb]
  exact ih
theorem z8w {j : J} {rec0 : G_QJSON → Option Int} {B : Prop} (hj : j.ok) (hr : ∀ e ∈ j.elems, rec0 e.val = some e.vd ∨ (B ∧ rec0 e.val = none)) :
 zo rec0 none j.val = some j.vd ∨ (B ∧ zo rec0 none j.val = none) := by
 obtain ⟨hl1, hl2, hl3, hl4⟩ := hj.len
 have hend : ∀ v : Bool, (v && j.names.all Lib.validD) = j.wf → ¬ (j.kind < 0 ∨ j.kind > 5) →
  (zq rec0 none j.val v = some j.vd ∨ (B ∧ zq rec0 none j.val v = none)) := by
  intro v hv hk
  have h1 := z0h (rec0 := rec0) hj j.names.length 0 v (by omega)
  rw [List.drop_zero, hv] at h1
  have h2 : zq rec0 none j.val v = y6 rec0 none j.val j.wf := h1
  rw [h2, zhu, if_neg hk]
  unfold y6
  cases hw : j.wf with
  | false => left; rw [if_pos (by rfl), if_neg (by simp)]
  | true =>
   rw [if_neg (by simp), if_pos rfl]
   exact z6s hj hr j.elems.length 0 (by omega)
 unfold zo
 rw [jq, show j.val.f_Kind = j.kind from rfl, show j.val.f_Num = j.num from rfl, show j.val.f_Text = j.text from rfl, show j.val.f_Names = j.names from rfl, List.length_map, zqu]
 by_cases c : j.kind < 0 ∨ j.kind > 5
 ·left
  rw [if_pos (by simp only [Bool.or_eq_true, decide_eq_true_eq]; omega), zhu, if_pos c]
 rw [if_neg (by simp only [Bool.or_eq_true, decide_eq_true_eq]; omega)]
 have hv : ∃ v1, (if ((((Wv j.kind j.num) == true) && ((j.text == ([] : List UInt8)) == false)) && ((j.kind == 3) == true)) = true then yp none j.text else some default) = some v1 ∧
  (Wv j.kind j.num && ((j.text == ([] : List UInt8)) || ((j.kind == 3) && v1))) = (Wv j.kind j.num && (decide (j.text = []) || (decide (j.kind = 3) && Lib.validD j.text))) := by
  rw [z1b (by omega)]
  cases Wv j.kind j.num with
  | false => exact ⟨default, by simp, rfl⟩
  | true =>
   by_cases ht : j.text = []
   ·exact ⟨default, by simp [ht], by simp [ht]⟩
   ·by_cases h3 : j.kind = 3
    ·exact ⟨_, by rw [if_pos (by simp [ht, h3])], by simp [ht, h3]⟩
    ·exact ⟨default, by rw [if_neg (by simp [h3])], by simp [ht, h3]⟩
 obtain ⟨v1, hv1, hv2⟩ := hv
 rw [hv1, Option.bind_some, hv2]
 have e3 : ((((j.elems.length : Nat) : Int) == 0) || decide (j.kind ≥ 4)) = decide (j.elems.length = 0 ∨ j.kind ≥ 4) := by
  rw [Bool.eq_iff_iff]; simp only [Bool.or_eq_true, decide_eq_true_eq, beq_iff_eq]; omega
 rw [e3]
 by_cases c5 : j.kind = 5
 ·rw [if_pos (by simpa using c5)]
  have e4 : (((j.names.length : Nat) : Int) == ((j.elems.length : Nat) : Int)) = decide (j.names.length = j.elems.length) := by
   rw [Bool.eq_iff_iff]; simp only [decide_eq_true_eq, beq_iff_eq]; omega
  rw [e4, zr0 (by omega)]
  generalize hA : (((Wv j.kind j.num && (decide (j.text = []) || (decide (j.kind = 3) && Lib.validD j.text))) && decide (j.elems.length = 0 ∨ j.kind ≥ 4)) && decide (j.names.length = j.elems.length)) = A
  have hwf : j.wf = (A && !zi7 [] j.names && j.names.all Lib.validD) := by
   rw [← hA]
   unfold J.wf wfB
   rw [if_pos c5]
   simp only [Bool.and_assoc]
  cases A with
  | false =>
   rw [if_neg (by simp), Option.bind_some]
   exact hend _ (by rw [hwf]; rfl) c
  | true =>
   rw [if_pos (by rfl), Option.bind_some]
   exact hend _ (by rw [hwf]) c
 ·rw [if_neg (by simpa using c5)]
  have e4 : (((j.names.length : Nat) : Int) == 0) = decide (j.names.length = 0) := by
   rw [Bool.eq_iff_iff]; simp only [decide_eq_true_eq, beq_iff_eq]; omega
  rw [e4]
  refine hend _ ?_ c
  unfold J.wf wfB
  rw [if_neg c5]
theorem zcw : ∀ (k : Nat) (j : J), j.ok → ye none k j.val = some j.vd ∨ (k < j.sz ∧ ye none k j.val = none)
 | 0, j, hj => .inr ⟨U0 j, rfl⟩
 | k + 1, j, hj => by
  unfold ye
  exact z8w hj fun e he => by
   rcases zcw k e (hj.elem he) with h | ⟨h1, h2⟩
   ·exact .inl h
   ·exact .inr ⟨by have := zbn he; omega, h2⟩
theorem zpx {j : J} (hj : j.ok) : wj none j.val = some j.vd := by
 rcases z8w (rec0 := jd none) (B := False) hj (fun e he => .inl (W4 (d := e.sz) fun k => zcw k e (hj.elem he))) with h | ⟨h, _⟩
 ·exact h
 ·exact h.elim
theorem Wn {j : J} (hj : j.ok) : yr none j.val = some j.chk := by
 unfold yr J.chk
 rw [zo0 hj, Option.bind_some]
 by_cases c : j.nodes ≤ 400 ∧ j.depth ≤ 20
 ·rw [if_neg (by simp only [Bool.or_eq_true, decide_eq_true_eq]; omega), if_pos c, zpx hj]; rfl
 ·rw [if_pos (by simp only [Bool.or_eq_true, decide_eq_true_eq]; omega), if_neg c]
theorem zc8 {ns : List (List UInt8)} (h : ns.length ≤ 1073741824) : va none ns = some ns := by
 cases ns with
 | nil => rfl
 | cons x r =>
  show xv none (x :: r) = _
  unfold xv
  rw [List.nil_append, if_pos (by simp), if_pos (by rw [List.length_map]; omega)]
theorem Up {j : J} {rec0 : G_QJSON → Option G_QJSON} {B : Prop} (hj : j.ok) (hr : ∀ e ∈ j.elems, rec0 e.val = some e.val ∨ (B ∧ rec0 e.val = none)) :
 ∀ (k i : Nat), i + k = j.elems.length →
  xb rec0 none j.val j.names (i : Int) ((j.elems.take i).map J.raw) = some j.val ∨ (B ∧ xb rec0 none j.val j.names (i : Int) ((j.elems.take i).map J.raw) = none)
 | 0, i, h => by
  left
  have : i = j.elems.length := by omega
  subst this
  unfold xb
  rw [x5 (x := some j.val)]
  unfold ql jv
  rw [jq, if_neg (by simp), List.take_length]
  rfl
 | k + 1, i, h => by
  have hi : i < j.elems.length := by omega
  have hl := hj.len
  have ih := Up hj hr k (i + 1) (by omega)
  have ht : (j.elems.take (i + 1)).map J.raw = (j.elems.take i).map J.raw ++ [(j.elems[i]).raw] := by rw [List.take_succ_eq_append_getElem hi, List.map_append]; rfl
  have hlen : ((j.elems.take i).map J.raw ++ [(j.elems[i]).raw]).length = i + 1 := by
   rw [← ht, List.length_map, List.length_take]; omega
  have hb : ql rec0 none j.val j.names (i : Int) ((j.elems.take i).map J.raw) = (rec0 (j.elems[i]).val).bind fun v9 => if ((((j.elems.take i).map J.raw) ++ ([y8 v9] : List (List AVal))).map z7).length * 80 ≤ 140737488355328 then some (.inl (((i + 1 : Nat) : Int), ((j.elems.take i).map J.raw) ++ ([y8 v9] : List (List AVal)))) else none := by
   unfold ql
   rw [jq, if_pos (by simpa using hi), if_pos (by omega)]
   simp only [Int.toNat_natCast, zrl hi, Option.bind_some, Wi (show i ≤ 4611686018427387904 by omega)]
  unfold xb at ih ⊢
  rcases hr _ (List.getElem_mem hi) with hc | ⟨hB, hc⟩
  ·rw [hc, Option.bind_some, ← Xo, if_pos (by rw [List.length_map, hlen]; omega), ← ht] at hb
   rw [wa hb]
   exact ih
  ·right
   rw [hc] at hb
   exact ⟨hB, Zv hb⟩
theorem z00 {j : J} {rec0 : G_QJSON → Option G_QJSON} {B : Prop} (hj : j.ok) (hr : ∀ e ∈ j.elems, rec0 e.val = some e.val ∨ (B ∧ rec0 e.val = none)) :
 qv rec0 none j.val = some j.val ∨ (B ∧ qv rec0 none j.val = none) := by
 unfold qv
 rw [show j.val.f_Names = j.names from rfl, zc8 hj.len.2.2.1, Option.bind_some]
 exact Up hj hr j.elems.length 0 (by omega)
theorem z37 : ∀ (k : Nat) (j : J), j.ok → xp none k j.val = some j.val ∨ (k < j.sz ∧ xp none k j.val = none)
 | 0, j, hj => .inr ⟨U0 j, rfl⟩
 | k + 1, j, hj => by
  unfold xp
  exact z00 hj fun e he => by
   rcases z37 k e (hj.elem he) with h | ⟨h1, h2⟩
   ·exact .inl h
   ·exact .inr ⟨by have := zbn he; omega, h2⟩
theorem zj2 {j : J} (hj : j.ok) : kq none j.val = some j.val := by
 rcases z00 (rec0 := wy none) (B := False) hj (fun e he => .inl (W4 (d := e.sz) fun k => z37 k e (hj.elem he))) with h | ⟨h, _⟩
 ·exact h
 ·exact h.elim
theorem W8 {a : List (List UInt8)} (hl : a.length ≤ 4611686018427387904) : ∀ (k i : Nat), i + k = a.length → qf none a a (i : Int) = some true
 | 0, i, h => by
  unfold qf
  rw [x5 (x := some true)]
  unfold y3
  rw [if_neg (by simp; omega)]
  rfl
 | k + 1, i, h => by
  have hi : i < a.length := by omega
  have ih := W8 hl k (i + 1) (by omega)
  have hb : y3 none a a (i : Int) = some (.inl ((i + 1 : Nat) : Int)) := by
   unfold y3
   rw [if_pos (by simpa using hi), if_pos (by simpa using hi), if_pos (by simpa using hi), if_neg (by simp), Wi (by omega)]
  unfold qf at ih ⊢
  rw [wa hb]
  exact ih
theorem zab {a : List (List UInt8)} (hl : a.length ≤ 4611686018427387904) : zx none a a = some true := by
 unfold zx
 rw [if_neg (by simp)]
 exact W8 hl a.length 0 (by omega)
theorem zi3 {a : List (List UInt8)} : zx none a [] = some (decide (a.length = 0)) := by
 unfold zx
 by_cases h : a.length = 0
 ·have : a = [] := List.eq_nil_of_length_eq_zero h
  subst this
  rw [if_neg (by simp)]
  exact W8 (a := []) (by simp) 0 0 rfl
 ·rw [if_pos (by simp; exact fun hh => h (by rw [hh]; rfl))]
  simp [h]
theorem zc7 {j : J} {rec0 : G_QJSON → G_QJSON → Option Bool} {B : Prop} (hj : j.ok) (hr : ∀ e ∈ j.elems, rec0 e.val e.val = some true ∨ (B ∧ rec0 e.val e.val = none)) :
 ∀ (k i : Nat), i + k = j.elems.length →
  zh rec0 none j.val j.val true (i : Int) = some true ∨ (B ∧ zh rec0 none j.val j.val true (i : Int) = none)
 | 0, i, h => by
  left
  have : i = j.elems.length := by omega
  subst this
  unfold zh
  rw [x5 (x := some true)]
  unfold zf qh
  rw [jq, if_neg (by simp)]
  first | rfl | done
 | k + 1, i, h => by
  have hi : i < j.elems.length := by omega
  have hl := hj.len
  have ih := zc7 hj hr k (i + 1) (by omega)
  have hb : zf rec0 none j.val j.val true (i : Int) = (rec0 (j.elems[i]).val (j.elems[i]).val).bind fun v12 => some (.inl (v12, ((i + 1 : Nat) : Int))) := by
   unfold zf
   rw [jq, if_pos (by simpa using hi), if_pos (by omega)]
   simp only [Int.toNat_natCast, zrl hi, Option.bind_some, Wi (show i ≤ 4611686018427387904 by omega)]
   rw [if_pos (by omega)]
  unfold zh at ih ⊢
  rcases hr _ (List.getElem_mem hi) with hc | ⟨hB, hc⟩
  ·rw [hc, Option.bind_some] at hb
   rw [wa hb]
   exact ih
  ·right
   rw [hc] at hb
   exact ⟨hB, Zv hb⟩
theorem zns {j : J} {rec0 : G_QJSON → G_QJSON → Option Bool} {B : Prop} (hj : j.ok) (hr : ∀ e ∈ j.elems, rec0 e.val e.val = some true ∨ (B ∧ rec0 e.val e.val = none)) :
 ze rec0 none j.val j.val = some true ∨ (B ∧ ze rec0 none j.val j.val = none) := by
 unfold ze
 rw [if_pos (by simp), show j.val.f_Names = j.names from rfl, zab (by have := hj.len.2.2.1; omega), Option.bind_some]
 have e : ((((((j.val.f_Kind == j.val.f_Kind) && (j.val.f_Num == j.val.f_Num)) && (j.val.f_Text == j.val.f_Text)) && true) && (((j.val.f_Elems.map z7).length : Int) == ((j.val.f_Elems.map z7).length : Int)))) = true := by simp
 rw [e]
 exact zc7 hj hr j.elems.length 0 (by omega)
theorem zkd : ∀ (k : Nat) (j : J), j.ok → y4 none k j.val j.val = some true ∨ (k < j.sz ∧ y4 none k j.val j.val = none)
 | 0, j, hj => .inr ⟨U0 j, rfl⟩
 | k + 1, j, hj => by
  unfold y4
  exact zns hj fun e he => by
   rcases zkd k e (hj.elem he) with h | ⟨h1, h2⟩
   ·exact .inl h
   ·exact .inr ⟨by have := zbn he; omega, h2⟩
theorem ztg {j : J} (hj : j.ok) : zy none j.val j.val = some true := W4 (d := j.sz) fun k => zkd k j hj
def nullJ : J := .mk 0 0 [] [] []
theorem zjf : nullJ.ok := by unfold J.ok nullJ; rw [J.sz.eq_1]; simp [nsz, J.szL]
def Jz (j : J) : Bool := decide (j.kind = 0 ∧ j.num = 0 ∧ j.text = [] ∧ j.names.length = 0 ∧ j.elems.length = 0)
theorem zh4 {j : J} (hj : j.ok) : jo none j.val = some (Jz j) := by
 have hl := hj.len
 unfold jo Jz
 rw [jq, show j.val.f_Kind = j.kind from rfl, show j.val.f_Num = j.num from rfl, show j.val.f_Text = j.text from rfl, show j.val.f_Names = j.names from rfl, List.length_map, zpc (by unfold inR; omega)]
 congr 1
 rw [Bool.eq_iff_iff]
 simp only [Bool.and_eq_true, decide_eq_true_eq, beq_iff_eq]
 constructor
 ·rintro ⟨⟨⟨h1, h2⟩, h3⟩, h4⟩; exact ⟨h1, h2, h3, by omega, by omega⟩
 ·rintro ⟨h1, h2, h3, h4, h5⟩; exact ⟨⟨⟨h1, h2⟩, h3⟩, by omega⟩
theorem zix {j : J} (hj : j.ok) : yq none j.val = some (Jz j) := by
 have hl := hj.len
 have hlp : ∀ (b : J) (v : Bool), (v = true → j.elems.length = 0) → zh (zy none) none j.val b.val v 0 = some v := fun b v hv => by
  unfold zh
  rw [x5 (x := some v)]
  unfold zf
  rw [jq, if_neg]
  ·rfl
  ·simp only [Bool.and_eq_true, decide_eq_true_eq]
   rintro ⟨h1, h2⟩
   have := hv h1
   omega
 unfold yq jl ze
 rw [show (G_QJSON.mk 0 0 ([] : List UInt8) ([] : List (List UInt8)) ([] : List (List AVal))) = nullJ.val from rfl]
 rw [jq, jq, show j.val.f_Kind = j.kind from rfl, show j.val.f_Num = j.num from rfl, show j.val.f_Text = j.text from rfl, show j.val.f_Names = j.names from rfl]
 rw [show nullJ.val.f_Kind = 0 from rfl, show nullJ.val.f_Num = 0 from rfl, show nullJ.val.f_Text = [] from rfl, show nullJ.val.f_Names = [] from rfl, show nullJ.elems.length = 0 from rfl, zi3]
 by_cases c : j.kind = 0 ∧ j.num = 0 ∧ j.text = []
 ·rw [if_pos (by simp [c.1, c.2.1, c.2.2]), Option.bind_some, hlp nullJ _ (fun h => by simp only [Bool.and_eq_true, beq_iff_eq] at h; omega)]
  simp only [Option.bind_some]
  congr 1
  unfold Jz
  rw [Bool.eq_iff_iff]
  simp only [Bool.and_eq_true, decide_eq_true_eq, beq_iff_eq]
  constructor
  ·rintro ⟨⟨⟨⟨h1, h2⟩, h3⟩, h4⟩, h5⟩; exact ⟨h1, h2, h3, h4, by omega⟩
  ·rintro ⟨h1, h2, h3, h4, h5⟩; exact ⟨⟨⟨⟨h1, h2⟩, h3⟩, h4⟩, by omega⟩
 ·have hc : (((j.kind == 0) && (j.num == 0)) && (j.text == ([] : List UInt8))) = false := by
   cases hx : (((j.kind == 0) && (j.num == 0)) && (j.text == ([] : List UInt8))) with
   | false => rfl
   | true =>
    simp only [Bool.and_eq_true, beq_iff_eq] at hx
    exact absurd ⟨hx.1.1, hx.1.2, hx.2⟩ c
  rw [hc, if_neg (by simp), Option.bind_some, hlp nullJ _ (fun h => by simp at h)]
  simp only [Option.bind_some, Bool.false_and]
  congr 1
  unfold Jz
  rw [eq_comm, decide_eq_false_iff_not]
  exact fun h => c ⟨h.1, h.2.1, h.2.2.1⟩
def vt (m : List UInt8) (a : Int) : Bool := ((decide ((m.length : Int) ≥ a)) && (decide ((m.length : Int) ≤ 60))) && Lib.validD m
theorem z4m (m : List UInt8) (a : Int) : x9 none m a = some (vt m a) := by
 unfold x9 vt
 cases hc : ((decide ((m.length : Int) ≥ a)) && (decide ((m.length : Int) ≤ 60))) with
 | false => rfl
 | true =>
  have : m.length ≤ 60 := by simp only [Bool.and_eq_true, decide_eq_true_eq] at hc; omega
  rw [if_pos (by rfl), z7k (by omega)]
  rfl
theorem z3s (m : List UInt8) (a : Int) : yt none m a = some (vt m a) := by
 unfold yt vt
 cases hc : ((decide ((m.length : Int) ≥ a)) && (decide ((m.length : Int) ≤ 60))) with
 | false => rfl
 | true =>
  have : m.length ≤ 60 := by simp only [Bool.and_eq_true, decide_eq_true_eq] at hc; omega
  rw [if_pos (by rfl), z1b (by omega)]
  rfl
def z2e : List UInt8 := [36, 47, 99, 97, 110, 99, 101, 108]
def idB (k id : Int) : Bool := if k = 2 then decide (id = 0) else decide (0 ≤ id ∧ id ≤ 2147483647)
def zig (k c : Int) : Bool := if k = 4 then decide (1 ≤ c ∧ c ≤ 99) else decide (c = 0)
def z6d (k : Int) (m : List UInt8) : Bool := if k = 1 then vt m 1 else if k = 2 then vt m 1 && !(m == z2e) else if k = 4 then vt m 0 else (m == [])
def wfM (k id c : Int) (m : List UInt8) (b : J) : Bool := idB k id && zig k c && (!(decide (k = 4 ∨ k = 5)) || Jz b) && z6d k m
theorem zgo (k id c : Int) (m : List UInt8) (b : G_QJSON) : x8 none ⟨k, id, c, m, b⟩ = some (z6d k m) := by
 unfold x8 z6d
 simp only [z4m, Option.bind_some, beq_iff_eq]
 by_cases c1 : k = 1
 ·rw [if_pos c1, if_pos c1]
 rw [if_neg c1, if_neg c1]
 by_cases c2 : k = 2
 ·rw [if_pos c2, if_pos c2]; rfl
 rw [if_neg c2, if_neg c2]
 by_cases c4 : k = 4
 ·rw [if_pos c4, if_pos c4]
 rw [if_neg c4, if_neg c4]
theorem zru {k id c : Int} {m : List UInt8} {b : J} (hb : b.ok) (v : Bool) : xf none ⟨k, id, c, m, b.val⟩ v = some (!v && (!(decide (k = 4 ∨ k = 5)) || Jz b) && z6d k m) := by
 unfold xf
 have e1 : jo none (G_QJSON.mk b.val.f_Kind b.val.f_Num b.val.f_Text b.val.f_Names b.val.f_Elems) = some (Jz b) := zh4 hb
 have e2 : x8 none (G_QMessage.mk k id c m (G_QJSON.mk b.val.f_Kind b.val.f_Num b.val.f_Text b.val.f_Names b.val.f_Elems)) = some (z6d k m) := zgo ..
 simp only [e1, e2, Option.bind_some]
 cases v with
 | true => rw [if_pos rfl]; rfl
 | false =>
  rw [if_neg (by simp)]
  by_cases ck : k = 4 ∨ k = 5
  ·have h1 : ((k != 4) && (k != 5)) = false := by rcases ck with rfl | rfl <;> rfl
   rw [h1, if_pos (by rfl), Option.bind_some, decide_eq_true ck]
   cases Jz b with
   | true => rw [if_neg (by simp)]; simp
   | false => rw [if_pos (by rfl)]; rfl
  ·have h1 : ((k != 4) && (k != 5)) = true := by simp; omega
   rw [h1, if_neg (by simp), Option.bind_some, if_neg (by simp), decide_eq_false ck]
   simp
theorem zry {k id c : Int} {m : List UInt8} {b : J} (hb : b.ok) : xl none ⟨k, id, c, m, b.val⟩ = some (wfM k id c m b) := by
 have hj1 : ∀ v : Bool, xg none ⟨k, id, c, m, b.val⟩ v = some (!v && zig k c && (!(decide (k = 4 ∨ k = 5)) || Jz b) && z6d k m) := by
  intro v
  unfold xg
  simp only [zru hb]
  cases v with
  | true => rw [if_pos rfl]; rfl
  | false =>
   rw [if_neg (by simp)]
   unfold zig
   by_cases c4 : k = 4
   ·rw [if_pos c4]
    by_cases cc : 1 ≤ c ∧ c ≤ 99
    ·have : ((decide (c < 1)) || (decide (c > 99))) = false := by simp; omega
     rw [this, if_neg (by simp), decide_eq_true cc]; simp [c4]
    ·have : ((decide (c < 1)) || (decide (c > 99))) = true := by simp only [Bool.or_eq_true, decide_eq_true_eq]; omega
     rw [this, if_pos (by simp [c4]), decide_eq_false cc]; simp [c4]
   ·rw [if_neg c4, if_neg (by simp [c4])]
    by_cases cc : c = 0
    ·simp [cc]
    ·simp [cc, c4]
 unfold xl
 simp only [hj1]
 unfold wfM idB
 by_cases c2 : k = 2
 ·rw [if_pos c2, if_neg (by simp [c2])]
  by_cases ci : id = 0
  ·simp [ci]
  ·simp [ci, c2]
 ·have hk2 : (k != 2) = true := by simpa using c2
  rw [if_neg c2]
  by_cases ci : 0 ≤ id ∧ id ≤ 2147483647
  ·have : ((decide (id < 0)) || (decide (id > 2147483647))) = false := by simp; omega
   rw [this, if_neg (by simp), decide_eq_true ci, hk2]; rfl
  ·have : ((decide (id < 0)) || (decide (id > 2147483647))) = true := by simp only [Bool.or_eq_true, decide_eq_true_eq]; omega
   rw [this, if_pos (by simp [c2]), decide_eq_false ci, hk2]; rfl
theorem zq3 {k id c : Int} {m : List UInt8} {b : J} (hb : b.ok) (hk : ¬ (k < 1 ∨ k > 5)) : yg none ⟨k, id, c, m, b.val⟩ = some (wfM k id c m b) := by
 have e1 : yq none (G_QJSON.mk b.val.f_Kind b.val.f_Num b.val.f_Text b.val.f_Names b.val.f_Elems) = some (Jz b) := zix hb
 have hid : ((decide (id ≥ 0)) && (decide (id ≤ 2147483647))) = decide (0 ≤ id ∧ id ≤ 2147483647) := by rw [Bool.eq_iff_iff]; simp
 have hc0 : (c == 0) = decide (c = 0) := by rw [Bool.eq_iff_iff]; simp
 have hi0 : (id == 0) = decide (id = 0) := by rw [Bool.eq_iff_iff]; simp
 unfold yg wfM idB zig z6d
 simp only [e1, z3s, hid, hc0, hi0]
 have hk' : k = 1 ∨ k = 2 ∨ k = 3 ∨ k = 4 ∨ k = 5 := by omega
 rcases hk' with rfl | rfl | rfl | rfl | rfl
 ·cases decide (0 ≤ id ∧ id ≤ 2147483647) <;> cases decide (c = 0) <;> simp
 ·cases decide (id = 0) <;> cases decide (c = 0) <;> simp [z2e]
 ·cases decide (0 ≤ id ∧ id ≤ 2147483647) <;> cases decide (c = 0) <;> simp
 ·have hcc : ∀ x : Bool, (x && decide (c ≥ 1) && decide (c ≤ 99)) = (x && decide (1 ≤ c ∧ c ≤ 99)) := fun x => by rw [Bool.eq_iff_iff]; simp [and_assoc]
  simp only [hcc]
  cases decide (0 ≤ id ∧ id ≤ 2147483647) <;> cases decide (1 ≤ c ∧ c ≤ 99) <;> cases vt m 0 <;> cases Jz b <;> simp
 ·cases decide (0 ≤ id ∧ id ≤ 2147483647) <;> cases decide (c = 0) <;> cases (m == []) <;> cases Jz b <;> simp
def z5n (n : Int) : J := .mk 2 n [] [] []
def zb4 (t : List UInt8) : J := .mk 3 0 t [] []
def z42 (ns : List (List UInt8)) (es : List J) : J := .mk 5 0 [] ns es
def idT : List UInt8 := [105, 100]
def z18 : List UInt8 := [109, 101, 116, 104, 111, 100]
def z1d : List UInt8 := [112, 97, 114, 97, 109, 115]
def zcp : List UInt8 := [114, 101, 115, 117, 108, 116]
def zlj : List UInt8 := [101, 114, 114, 111, 114]
def zqs : List UInt8 := [99, 111, 100, 101]
def z81 : List UInt8 := [109, 101, 115, 115, 97, 103, 101]
def Ug (k id c : Int) (m : List UInt8) (b : J) : J :=
 if k = 1 then z42 [idT, z18, z1d] [z5n id, zb4 m, b]
 else if k = 2 then z42 [z18, z1d] [zb4 m, b]
 else if k = 3 then z42 [idT, zcp] [z5n id, b]
 else if k = 4 then z42 [idT, zlj] [z5n id, z42 [zqs, z81] [z5n c, zb4 m]]
 else z42 [z18, z1d] [zb4 z2e, z42 [idT] [z5n id]]
theorem z5y (k id c : Int) (m : List UInt8) (b : J) : (Ug k id c m b).sz ≤ b.sz + m.length + 200 := by
 unfold Ug
 repeat' split
 all_goals
  simp only [z42, z5n, zb4, J.sz, J.szL, nsz, idT, z18, z1d, zcp, zlj, zqs, z81, z2e, List.length_cons, List.length_nil]
  omega
theorem z74 {k id c : Int} {m : List UInt8} {b : J} (hb : b.ok) : j0 none ⟨k, id, c, m, b.val⟩ = some (Ug k id c m b).val := by
 have e1 : kq none (G_QJSON.mk b.val.f_Kind b.val.f_Num b.val.f_Text b.val.f_Names b.val.f_Elems) = some b.val := zj2 hb
 have en : ∀ n, xt none n = some (z5n n).val := fun n => rfl
 have et : ∀ t, jw none t = some (zb4 t).val := fun t => rfl
 have eo : ∀ ns es, qq none ns (es.map J.raw) = some (z42 ns es).val := fun ns es => rfl
 unfold j0 Ug
 simp only [e1, en, et, Option.bind_some, ← Xo, beq_iff_eq]
 by_cases c1 : k = 1
 ·rw [if_pos c1, if_pos c1, show [(z5n id).raw, (zb4 m).raw, b.raw] = [z5n id, zb4 m, b].map J.raw from rfl, eo]; rfl
 rw [if_neg c1, if_neg c1]
 by_cases c2 : k = 2
 ·rw [if_pos c2, if_pos c2, show [(zb4 m).raw, b.raw] = [zb4 m, b].map J.raw from rfl, eo]; rfl
 rw [if_neg c2, if_neg c2]
 by_cases c3 : k = 3
 ·rw [if_pos c3, if_pos c3, show [(z5n id).raw, b.raw] = [z5n id, b].map J.raw from rfl, eo]; rfl
 rw [if_neg c3, if_neg c3]
 by_cases c4 : k = 4
 ·rw [if_pos c4, if_pos c4, show [(z5n c).raw, (zb4 m).raw] = [z5n c, zb4 m].map J.raw from rfl, eo, Option.bind_some, ← Xo]
  rfl
 rw [if_neg c4, if_neg c4, show [(z5n id).raw] = [z5n id].map J.raw from rfl, eo, Option.bind_some, ← Xo]
 rfl
theorem z3b (n : List UInt8) (x : J) (k u : Int) (t : List UInt8) (ns : List (List UInt8)) (es : List J) (h1 : ns.length ≤ 1000) (h2 : es.length ≤ 1000) :
 z8 none n x.val (J.mk k u t ns es).val = some (z42 (n :: ns) (x :: es)).val := by
 unfold z8
 rw [show (J.mk k u t ns es).val.f_Names = ns from rfl, show (J.mk k u t ns es).val.f_Elems = es.map J.raw from rfl, ← Xo]
 rw [if_pos (by simp only [List.length_map, List.length_append, List.length_cons, List.length_nil]; omega), if_pos (by simp only [List.length_map, List.length_append, List.length_cons, List.length_nil]; omega)]
 rfl
theorem zda {k id c : Int} {m : List UInt8} {b : J} (hb : b.ok) : ya none ⟨k, id, c, m, b.val⟩ = some (Ug k id c m b).val := by
 have en : ∀ n, yh none n = some (z5n n).val := fun n => rfl
 have et : ∀ t, x6 none t = some (zb4 t).val := fun t => rfl
 have eb : (G_QJSON.mk b.val.f_Kind b.val.f_Num b.val.f_Text b.val.f_Names b.val.f_Elems) = b.val := rfl
 have e0 : (G_QJSON.mk 0 0 ([] : List UInt8) ([] : List (List UInt8)) ([] : List (List AVal))) = (J.mk 0 0 [] [] []).val := rfl
 have mo : ∀ (n : List UInt8) (x : J) (ns : List (List UInt8)) (es : List J), ns.length ≤ 1000 → es.length ≤ 1000 → z8 none n x.val (z42 ns es).val = some (z42 (n :: ns) (x :: es)).val := fun n x ns es h1 h2 => z3b n x _ _ _ ns es h1 h2
 have m0 : ∀ (n : List UInt8) (x : J), z8 none n x.val (J.mk 0 0 [] [] []).val = some (z42 [n] [x]).val := fun n x => z3b n x _ _ _ [] [] (by simp) (by simp)
 have m1 : ∀ (n : List UInt8) (x : J) (a : List UInt8) (y : J), z8 none n x.val (z42 [a] [y]).val = some (z42 [n, a] [x, y]).val := fun n x a y => mo n x _ _ (by simp) (by simp)
 have m2 : ∀ (n : List UInt8) (x : J) (a d : List UInt8) (y z : J), z8 none n x.val (z42 [a, d] [y, z]).val = some (z42 [n, a, d] [x, y, z]).val := fun n x a d y z => mo n x _ _ (by simp) (by simp)
 unfold ya Ug
 simp only [en, et, eb, e0, Option.bind_some, beq_iff_eq, m0, m1, m2]
 by_cases c1 : k = 1
 ·rw [if_pos c1, if_pos c1]; rfl
 rw [if_neg c1, if_neg c1]
 by_cases c2 : k = 2
 ·rw [if_pos c2, if_pos c2]; rfl
 rw [if_neg c2, if_neg c2]
 by_cases c3 : k = 3
 ·rw [if_pos c3, if_pos c3]; rfl
 rw [if_neg c3, if_neg c3]
 by_cases c4 : k = 4
 ·rw [if_pos c4, if_pos c4]; rfl
 rw [if_neg c4, if_neg c4]
 rfl
def z2t (k id c : Int) (m : List UInt8) (b : J) : J × Int :=
 if k < 1 ∨ k > 5 then (nullJ, 7) else if wfM k id c m b = true then
  if b.chk ≠ 0 then (nullJ, b.chk) else if (Ug k id c m b).chk ≠ 0 then (nullJ, (Ug k id c m b).chk) else (Ug k id c m b, 0)
 else (nullJ, 3)
theorem zgh {k id c : Int} {m : List UInt8} {b : J} (hs : b.sz + m.length ≤ 1000000000) : jn none ⟨k, id, c, m, b.val⟩ = some ((z2t k id c m b).1.val, (z2t k id c m b).2) := by
 have hb : b.ok := by unfold J.ok; omega
 have ho : (Ug k id c m b).ok := by have := z5y k id c m b; unfold J.ok; omega
 have e1 : xl none (G_QMessage.mk k id c m (G_QJSON.mk b.val.f_Kind b.val.f_Num b.val.f_Text b.val.f_Names b.val.f_Elems)) = some (wfM k id c m b) := zry hb
 have e2 : xm none (G_QJSON.mk b.val.f_Kind b.val.f_Num b.val.f_Text b.val.f_Names b.val.f_Elems) = some b.chk := Vi hb
 have e3 : j0 none (G_QMessage.mk k id c m (G_QJSON.mk b.val.f_Kind b.val.f_Num b.val.f_Text b.val.f_Names b.val.f_Elems)) = some (Ug k id c m b).val := z74 hb
 unfold jn z2t
 simp only [e1, e2, e3, Vi ho, Option.bind_some]
 by_cases ck : k < 1 ∨ k > 5
 ·rw [if_pos (by simp only [Bool.or_eq_true, decide_eq_true_eq]; omega), if_pos ck]; rfl
 rw [if_neg (by simp only [Bool.or_eq_true, decide_eq_true_eq]; omega), if_neg ck]
 cases wfM k id c m b with
 | false => rw [if_pos (by rfl), if_neg (by simp)]; rfl
 | true =>
  rw [if_neg (by simp), if_pos rfl]
  by_cases c1 : b.chk = 0
  ·rw [if_neg (show ¬ ((b.chk != 0) = true) by simp [c1]), if_neg (show ¬ (b.chk ≠ 0) by simp [c1])]
   by_cases c2 : (Ug k id c m b).chk = 0
   ·rw [if_neg (show ¬ (((Ug k id c m b).chk != 0) = true) by simp [c2]), if_neg (show ¬ ((Ug k id c m b).chk ≠ 0) by simp [c2])]
   ·rw [if_pos (show ((Ug k id c m b).chk != 0) = true by simp [c2]), if_pos c2]; rfl
  ·rw [if_pos (show (b.chk != 0) = true by simp [c1]), if_pos c1]; rfl
theorem zey {k id c : Int} {m : List UInt8} {b : J} (hs : b.sz + m.length ≤ 1000000000) : y9 none ⟨k, id, c, m, b.val⟩ = some ((z2t k id c m b).1.val, (z2t k id c m b).2) := by
 have hb : b.ok := by unfold J.ok; omega
 have ho : (Ug k id c m b).ok := by have := z5y k id c m b; unfold J.ok; omega
 have e2 : yr none (G_QJSON.mk b.val.f_Kind b.val.f_Num b.val.f_Text b.val.f_Names b.val.f_Elems) = some b.chk := Wn hb
 have e3 : ya none (G_QMessage.mk k id c m (G_QJSON.mk b.val.f_Kind b.val.f_Num b.val.f_Text b.val.f_Names b.val.f_Elems)) = some (Ug k id c m b).val := zda hb
 unfold y9 z2t
 simp only [e2, e3, Wn ho, Option.bind_some]
 by_cases ck : k < 1 ∨ k > 5
 ·rw [if_pos (by simp only [Bool.or_eq_true, decide_eq_true_eq]; omega), if_pos ck]; rfl
 have e1 : yg none (G_QMessage.mk k id c m (G_QJSON.mk b.val.f_Kind b.val.f_Num b.val.f_Text b.val.f_Names b.val.f_Elems)) = some (wfM k id c m b) := zq3 hb ck
 rw [if_neg (by simp only [Bool.or_eq_true, decide_eq_true_eq]; omega), if_neg ck, e1, Option.bind_some]
 cases wfM k id c m b with
 | false => rw [if_pos (by rfl), if_neg (by simp)]; rfl
 | true =>
  rw [if_neg (by simp), if_pos rfl]
  by_cases c1 : b.chk = 0
  ·rw [if_neg (show ¬ ((b.chk != 0) = true) by simp [c1]), if_neg (show ¬ (b.chk ≠ 0) by simp [c1])]
   by_cases c2 : (Ug k id c m b).chk = 0
   ·rw [if_neg (show ¬ (((Ug k id c m b).chk != 0) = true) by simp [c2]), if_neg (show ¬ ((Ug k id c m b).chk ≠ 0) by simp [c2])]
   ·rw [if_pos (show ((Ug k id c m b).chk != 0) = true by simp [c2]), if_pos c2]; rfl
  ·rw [if_pos (show (b.chk != 0) = true by simp [c1]), if_pos c1]; rfl
theorem znr {k id c : Int} {m : List UInt8} {b : J} (hs : b.sz + m.length ≤ 1000000000) : (z2t k id c m b).1.ok := by
 have ho : (Ug k id c m b).ok := by have := z5y k id c m b; unfold J.ok; omega
 unfold z2t
 repeat' split
 all_goals first | exact zjf | exact ho
theorem zu3 (k id c : Int) (m : List UInt8) (b : J) (hs : b.sz + m.length ≤ 1000000000) : qo none ⟨k, id, c, m, b.val⟩ = some true := by
 have e1 : jn none (G_QMessage.mk k id c m (G_QJSON.mk b.val.f_Kind b.val.f_Num b.val.f_Text b.val.f_Names b.val.f_Elems)) = _ := zgh (k := k) (id := id) (c := c) hs
 have e2 : y9 none (G_QMessage.mk k id c m (G_QJSON.mk b.val.f_Kind b.val.f_Num b.val.f_Text b.val.f_Names b.val.f_Elems)) = _ := zey (k := k) (id := id) (c := c) hs
 have e3 := ztg (znr (k := k) (id := id) (c := c) hs)
 unfold qo xn
 simp only [e1, e2, Option.bind_some]
 rw [if_neg (by simp), if_pos (by simp)]
 have e4 : zy none (G_QJSON.mk (z2t k id c m b).1.val.f_Kind (z2t k id c m b).1.val.f_Num (z2t k id c m b).1.val.f_Text (z2t k id c m b).1.val.f_Names (z2t k id c m b).1.val.f_Elems) (G_QJSON.mk (z2t k id c m b).1.val.f_Kind (z2t k id c m b).1.val.f_Num (z2t k id c m b).1.val.f_Text (z2t k id c m b).1.val.f_Names (z2t k id c m b).1.val.f_Elems) = some true := e3
 rw [e4, Option.bind_some]
 simp
end Go.Proofs.YtlfdchgaeeadjaaDoor
