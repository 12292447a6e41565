/-
  Own text LawA of this claim: what functions of the given program compute, in plain Lean, and the proof; no condition.
-/
import Derived.Test.YteepckliibfnkaaGreatDoorGenB
import Derived.Test.YteepckliibfnkaaGreatDoorFxLu
namespace Go.Proofs.YteepckliibfnkaaGreatDoor
open Go.Fx Go.Sort
set_option linter.unusedVariables false
theorem zyx {a0 v3 : List (List UInt8)} {v4 : Int} (hl : v3.length ≤ 4000000000000) :
 xj none a0 v3 v4 ((Wd (a0.getD v4.toNat default) v3).length : Int) = some (.inl (z1e v3 (a0.getD v4.toNat default), W (v4 + 1))) := by
 generalize hx : a0.getD v4.toNat default = x
 have hle : (Wd x v3).length ≤ v3.length := by
  have := congrArg List.length (Kf x v3); rw [List.length_append] at this; omega
 unfold xj xl
 simp only [hx, List.length_map, Int.toNat_natCast]
 rw [if_pos (by intro h; simp at h; omega)]
 by_cases hn : (Wd x v3).length = v3.length
 ·have hu : zen x v3 = [] := by rw [← Ky, hn]; simp
  rw [if_pos (by simp [hn]), if_pos (by omega), if_pos (by omega), if_pos (by simp; omega), if_pos (by simp), if_pos (by simp; omega), zaa, Ky, hu]
  unfold z1e
  rw [hu]
  rfl
 ·obtain ⟨h1, h2⟩ := zhq (x := x) (l := v3) (by omega)
  have hg : v3.getD (Wd x v3).length default = v3[(Wd x v3).length]'(by omega) := q8 (by omega)
  by_cases he : v3[(Wd x v3).length]'(by omega) = x
  ·rw [if_neg (by rw [hg, he]; simp; omega)]
   unfold z1e
   rw [h2]
   simp only [he, if_true]
  ·rw [if_pos (by rw [hg]; simp [he]), if_pos (by omega), if_pos (by omega), if_pos (by simp; omega), if_pos (by simp), if_pos (by simp; omega), zaa, Ky]
   have hi : z1e v3 x = Wd x v3 ++ (x :: zen x v3) := by
    unfold z1e
    rw [h2]
    simp only [he, if_false]
   rw [hi]
   rfl
theorem zg0 {a0 v3 : List (List UInt8)} {v4 : Int} (hl : v3.length ≤ 4000000000000) : ∀ (k i : Nat), i + k = (Wd (a0.getD v4.toNat default) v3).length →
 xb none a0 v3 v4 (i : Int) = some (.inl (z1e v3 (a0.getD v4.toNat default), W (v4 + 1)))
 | 0, i, h => by
  have hi : i = (Wd (a0.getD v4.toNat default) v3).length := by omega
  unfold xb
  rw [← zyx hl, hi]
  refine zr ?_
  unfold qc
  simp only [List.length_map, Int.toNat_natCast]
  rw [if_pos (by intro h; simp only [beq_iff_eq, decide_eq_true_eq] at h; omega), if_neg]
  rw [bytesLess_eq]
  by_cases hn : (Wd (a0.getD v4.toNat default) v3).length < v3.length
  ·obtain ⟨h1, _⟩ := zhq (x := a0.getD v4.toNat default) (l := v3) hn
   rw [q8 hn]
   simp only [Bool.and_eq_true, decide_eq_true_eq]
   exact fun h => h1 h.2
  ·simp only [Bool.and_eq_true, decide_eq_true_eq]
   exact fun h => hn (by omega)
 | k + 1, i, h => by
  obtain ⟨hi, hlt⟩ := zq7 (x := a0.getD v4.toNat default) (l := v3) (i := i) (by omega)
  unfold xb
  rw [zx (s' := ((i + 1 : Nat) : Int)) ?_]
  ·exact zg0 hl k (i + 1) (by omega)
  ·unfold qc
   simp only [List.length_map, Int.toNat_natCast]
   rw [if_pos (by intro h; simp only [beq_iff_eq, decide_eq_true_eq] at h; omega), if_pos, Wi (by omega)]
   rw [bytesLess_eq, q8 hi]
   simp only [Bool.and_eq_true, decide_eq_true_eq]
   exact ⟨by omega, hlt⟩
theorem zjn {a0 : List (List UInt8)} (ha : a0.length ≤ 4000000000000) : ∀ (k i : Nat) (v : List (List UInt8)), i + k = a0.length → v.length ≤ i →
 xk none a0 v (i : Int) = some ((a0.drop i).foldl z1e v)
 | 0, i, v, h, hv => by
  have hi : i = a0.length := by omega
  subst hi
  unfold xk
  rw [List.drop_length, List.foldl_nil]
  refine zr ?_
  unfold qe
  rw [if_neg (by simp)]
  rfl
 | k + 1, i, v, h, hv => by
  have hi : i < a0.length := by omega
  unfold xk
  rw [zx (s' := (z1e v a0[i], ((i + 1 : Nat) : Int))) ?_]
  ·have := zah v a0[i]
   have ih := zjn ha k (i + 1) (z1e v a0[i]) (by omega) (by omega)
   rw [List.drop_eq_getElem_cons hi, List.foldl_cons]
   exact ih
  ·unfold qe
   dsimp only
   rw [if_pos (by simp; omega), if_pos (by simp; omega)]
   have hs := zg0 (a0 := a0) (v3 := v) (v4 := (i : Int)) (by omega) _ 0 (Nat.zero_add _)
   rw [Int.toNat_natCast, q8 hi, Wi (by omega)] at hs
   exact hs
theorem zp1 {a0 : List (List UInt8)} (ha : a0.length ≤ 4000000000000) : yk none a0 = some (Jy a0) := by
 have := zjn ha a0.length 0 [] (by omega) (by simp)
 rwa [List.drop_zero] at this
def Vv (v : Int) (c : UInt8) : Int := ((v.toNat ^^^ c.toNat : Nat) : Int) * 16777619 % 4294967296
theorem zbu {a b : Nat} (ha : a < 4294967296) (hb : b < 256) : a ^^^ b < 4294967296 := Nat.xor_lt_two_pow (n := 32) ha (by omega)
theorem cs1 {v : Int} (h0 : 0 ≤ v) (h1 : v < 4294967296) (c : UInt8) : IntKind.wrap .u32 ((Zb .xor .u32 v (IntKind.wrap .u32 (c.toNat : Int))) * 16777619) = Vv v c := by
 have hc : c.toNat < 256 := c.toNat_lt
 obtain ⟨n, rfl⟩ := Int.eq_ofNat_of_zero_le h0
 have hn : n < 4294967296 := by omega
 have hx := zbu hn hc
 have e1 : IntKind.wrap .u32 (c.toNat : Int) = (c.toNat : Int) := by rw [z13 _ rfl]; simp [IntKind.bits]; omega
 have e2 : Zb .xor .u32 (n : Int) (c.toNat : Int) = ((n ^^^ c.toNat : Nat) : Int) := z7m .u32 rfl (by simp only [IntKind.bits]; omega) (by simp only [IntKind.bits]; omega)
 rw [e1, e2, z13 _ rfl]
 simp [Vv, IntKind.bits]
theorem cs2 {v : Int} (h0 : 0 ≤ v) (h1 : v < 4294967296) (c : UInt8) : Int.tmod (IntKind.wrap .u64 ((Zb .xor .u64 v (IntKind.wrap .u64 (c.toNat : Int))) * 16777619)) 4294967296 = Vv v c := by
 have hc : c.toNat < 256 := c.toNat_lt
 obtain ⟨n, rfl⟩ := Int.eq_ofNat_of_zero_le h0
 have hn : n < 4294967296 := by omega
 have hx := zbu hn hc
 have e1 : IntKind.wrap .u64 (c.toNat : Int) = (c.toNat : Int) := by rw [z13 _ rfl]; simp [IntKind.bits]; omega
 have e2 : Zb .xor .u64 (n : Int) (c.toNat : Int) = ((n ^^^ c.toNat : Nat) : Int) := z7m .u64 rfl (by simp only [IntKind.bits]; omega) (by simp only [IntKind.bits]; omega)
 rw [e1, e2, z13 _ rfl]
 have h3 : ((n ^^^ c.toNat : Nat) : Int) * 16777619 % (2 ^ IntKind.bits .u64 : Int) = ((n ^^^ c.toNat : Nat) : Int) * 16777619 := by simp only [IntKind.bits]; omega
 rw [h3, Int.tmod_eq_emod_of_nonneg (by omega)]
 rfl
theorem z30 {v : Int} (h0 : 0 ≤ v) (h1 : v < 4294967296) (c : UInt8) : 0 ≤ Vv v c ∧ Vv v c < 4294967296 := by
 unfold Vv
 omega
theorem zf5 : ∀ (l : List UInt8) (v : Int), 0 ≤ v → v < 4294967296 → 0 ≤ l.foldl Vv v ∧ l.foldl Vv v < 4294967296
 | [], v, h0, h1 => ⟨h0, h1⟩
 | c :: l, v, h0, h1 => by
  obtain ⟨a, b⟩ := z30 h0 h1 c
  exact zf5 l _ a b
def Wy (l : List UInt8) : Int := l.foldl Vv 2166136261
theorem y2m {l : List UInt8} (hl : l.length ≤ 140737488351232) : j0 none l = some (Wy l) := by
 have key : ∀ (k i : Nat) (v : Int), i + k = l.length → 0 ≤ v → v < 4294967296 → u4 none (fun (s : Int × Int) => je none l s.1 s.2) (v, (i : Int)) = some ((l.drop i).foldl Vv v) := by
  intro k
  induction k with
  | zero =>
   intro i v h h0 h1
   have : i = l.length := by omega
   subst this
   rw [zr (x := some v) (by simp [je, u9])]
   simp
  | succ k ih =>
   intro i v h h0 h1
   have hi : i < l.length := by omega
   obtain ⟨a, b⟩ := z30 h0 h1 (l.getD i 0)
   rw [zx (s' := (Vv v (l.getD i 0), ((i + 1 : Nat) : Int))) ?_, ih (i + 1) _ (by omega) a b]
   ·rw [List.drop_eq_getElem_cons hi, List.foldl_cons]
    simp [List.getD_eq_getElem?_getD, hi]
   ·have e : W ((i : Int) + 1) = ((i + 1 : Nat) : Int) := by rw [zr5 (by unfold inR; omega)]; omega
    simp only [je]
    rw [if_pos (by simpa using hi), if_pos (by omega), e, Int.toNat_natCast, cs1 h0 h1]
 have := key l.length 0 2166136261 (by omega) (by omega) (by omega)
 simpa [j0, Z7, Wy] using this
theorem y1v {l : List UInt8} (hl : l.length ≤ 140737488351232) : qb none l = some (Wy l) := by
 have key : ∀ (k i : Nat) (v : Int), i + k = l.length → 0 ≤ v → v < 4294967296 → u4 none (fun (s : Int × Int) => yz none l s.1 s.2) (v, (i : Int)) = some ((l.drop i).foldl Vv v) := by
  intro k
  induction k with
  | zero =>
   intro i v h h0 h1
   have : i = l.length := by omega
   subst this
   have ew : IntKind.wrap .u32 v = v := by rw [z13 _ rfl]; simp only [IntKind.bits]; omega
   rw [zr (x := some v) (by simp [yz, wo, ew])]
   simp
  | succ k ih =>
   intro i v h h0 h1
   have hi : i < l.length := by omega
   obtain ⟨a, b⟩ := z30 h0 h1 (l.getD i 0)
   rw [zx (s' := (Vv v (l.getD i 0), ((i + 1 : Nat) : Int))) ?_, ih (i + 1) _ (by omega) a b]
   ·rw [List.drop_eq_getElem_cons hi, List.foldl_cons]
    simp [List.getD_eq_getElem?_getD, hi]
   ·have e : W ((i : Int) + 1) = ((i + 1 : Nat) : Int) := by rw [zr5 (by unfold inR; omega)]; omega
    simp only [yz]
    rw [if_pos (by simpa using hi), if_pos (by omega), e, Int.toNat_natCast, cs2 h0 h1]
 have := key l.length 0 2166136261 (by omega) (by omega) (by omega)
 simpa [qb, u0, Wy] using this
def wbI (a0 : Int) : Bool := ((((decide (a0 ≥ 97)) && (decide (a0 ≤ 122))) || ((decide (a0 ≥ 65)) && (decide (a0 ≤ 90)))) || ((decide (a0 ≥ 48)) && (decide (a0 ≤ 57)))) || (a0 == 95)
def wb (c : UInt8) : Bool := wbI ((c.toNat : Nat) : Int)
def fin (cur : List UInt8) (acc : List (List UInt8)) : List (List UInt8) := if cur = [] then acc else acc ++ [cur]
def tk : List UInt8 → List (List UInt8) → List UInt8 → List (List UInt8)
 | cur, acc, [] => fin cur acc
 | cur, acc, c :: r => if wb c = true then tk (cur ++ [c]) acc r else tk [] (fin cur acc) r
theorem z4e (cur : List UInt8) (acc : List (List UInt8)) : (fin cur acc).length ≤ acc.length + 1 := by unfold fin; split <;> simp
def Wv (t : List UInt8) : List (List UInt8) := (Jy (tk [] [] t)).take 400
abbrev En := G_QIndexEntry
abbrev Do := G_QDocument
def ie (e : En) : Bool → List En → List En
 | done, [] => if done = true then [] else [e]
 | done, x :: r => (if (!done && decide (¬ x.f_Name < e.f_Name)) = true then [e] else []) ++ ((if x.f_Name = e.f_Name then [] else [x]) ++ ie e (done || decide (¬ x.f_Name < e.f_Name)) r)
theorem zl2 {e : En} : ∀ {l : List En}, (∀ x ∈ l, x.f_Name ≠ e.f_Name) → ie e true l = l
 | [], _ => rfl
 | x :: l, h => by
  unfold ie
  rw [if_neg (by simp), if_neg (h x (List.mem_cons_self ..)), Bool.true_or, zl2 fun y hy => h y (List.mem_cons_of_mem _ hy)]
  rfl
theorem zg5 {e : En} : ∀ {l : List En}, (∀ x ∈ l, x.f_Name ≠ e.f_Name) → (l.Pairwise fun x y => x.f_Name < y.f_Name) → (ie e false l).Perm (e :: l) ∧ ((ie e false l).Pairwise fun x y => x.f_Name < y.f_Name)
 | [], _, _ => ⟨List.Perm.refl _, List.pairwise_singleton ..⟩
 | x :: l, h, hp => by
  have hx := h x (List.mem_cons_self ..)
  have hl : ∀ y ∈ l, y.f_Name ≠ e.f_Name := fun y hy => h y (List.mem_cons_of_mem _ hy)
  rw [List.pairwise_cons] at hp
  unfold ie
  by_cases hlt : x.f_Name < e.f_Name
  ·obtain ⟨i1, i2⟩ := zg5 hl hp.2
   rw [if_neg (by simpa using hlt), if_neg hx, show (false || decide (¬ x.f_Name < e.f_Name)) = false by simpa using hlt]
   refine ⟨(i1.cons x).trans (List.Perm.swap ..), ?_⟩
   show (x :: ie e false l).Pairwise _
   rw [List.pairwise_cons]
   refine ⟨fun y hy => ?_, i2⟩
   rcases List.mem_cons.1 (i1.mem_iff.1 hy) with rfl | hy
   ·exact hlt
   ·exact hp.1 y hy
  ·have hgt : e.f_Name < x.f_Name := List.not_le.1 fun h2 => hx (List.le_antisymm h2 (List.not_lt.1 hlt))
   rw [if_pos (by simpa using hlt), if_neg hx, show (false || decide (¬ x.f_Name < e.f_Name)) = true by simpa using hlt, zl2 hl]
   refine ⟨List.Perm.refl _, ?_⟩
   show (e :: x :: l).Pairwise _
   rw [List.pairwise_cons]
   refine ⟨fun y hy => ?_, List.pairwise_cons.2 hp⟩
   rcases List.mem_cons.1 hy with rfl | hy
   ·exact hgt
   ·exact List.lt_trans hgt (hp.1 y hy)
def k9 (d : Do) : En := ⟨d.f_Name, Wy d.f_Text, Wv d.f_Text⟩
theorem zrx : ∀ (ds : List Do) (idx : List En), (idx.Pairwise fun x y => x.f_Name < y.f_Name) → (∀ d ∈ ds, ∀ x ∈ idx, x.f_Name ≠ d.f_Name) → (ds.map (·.f_Name)).Nodup →
 (ds.foldl (fun idx d => ie (k9 d) false idx) idx).Perm (idx ++ ds.map k9) ∧ ((ds.foldl (fun idx d => ie (k9 d) false idx) idx).Pairwise fun x y => x.f_Name < y.f_Name)
 | [], idx, h, _, _ => ⟨by simp, h⟩
 | d :: ds, idx, h, h1, h2 => by
  simp only [List.map_cons, List.nodup_cons] at h2
  obtain ⟨p1, p2⟩ := zg5 (e := k9 d) (l := idx) (fun x hx => h1 d (List.mem_cons_self ..) x hx) h
  obtain ⟨q1, q2⟩ := zrx ds (ie (k9 d) false idx) p2 (fun d' hd x hx => by
   rcases List.mem_cons.1 (p1.mem_iff.1 hx) with rfl | hx
   ·exact fun e => h2.1 (List.mem_map.2 ⟨d', hd, e.symm⟩)
   ·exact h1 d' (List.mem_cons_of_mem _ hd) x hx) h2.2
  refine ⟨q1.trans ?_, q2⟩
  rw [List.map_cons]
  refine (p1.append_right _).trans ?_
  rw [List.cons_append]
  exact List.perm_middle.symm
def bld (ds : List Do) : List En := ds.foldl (fun idx d => ie (k9 d) false idx) []
theorem zzc : ∀ n < 256, (((((n : Nat) : Int) == 95) || ((decide (((n : Nat) : Int) ≥ 48)) && (decide (((n : Nat) : Int) ≤ 57)))) || ((decide ((Zb .or .u8 ((n : Nat) : Int) 32) ≥ 97)) && (decide ((Zb .or .u8 ((n : Nat) : Int) 32) ≤ 122)))) = wbI ((n : Nat) : Int) := by decide +kernel
theorem zad (c : UInt8) : jt none ((c.toNat : Nat) : Int) = some (wb c) := congrArg some (zzc c.toNat c.toNat_lt)
theorem zlt (c : UInt8) : j2 none ((c.toNat : Nat) : Int) = some (wb c) := rfl
theorem z8n {l : List UInt8} {i : Nat} (h : i < l.length) : l.getD i 0 = l[i] := by simp [List.getD_eq_getElem?_getD, h]
theorem zbr {t : List UInt8} {s j : Nat} (hs : s ≤ j) (hj : j < t.length) : (t.take (j + 1)).drop s = (t.take j).drop s ++ [t[j]] := by
 rw [List.take_succ_eq_append_getElem hj, List.drop_append_of_le_length (by rw [List.length_take]; omega)]
theorem z3m {t : List UInt8} {s j : Nat} (hj : j ≤ t.length) : (t.take j).drop s = [] ↔ j ≤ s := by
 rw [List.drop_eq_nil_iff, List.length_take]; omega
theorem zlu {t : List UInt8} (ht : t.length ≤ 1000000) {s : Nat} {acc : List (List UInt8)} (ha : acc.length ≤ s) : ∀ (k j : Nat), j + k = t.length → s ≤ j →
 ∃ e, j ≤ e ∧ e ≤ t.length ∧ ∃ acc', acc'.length ≤ acc.length + 1 ∧ wv none t (s : Int) acc (j : Int) = some (.inl (((e + 1 : Nat) : Int), acc')) ∧ tk ((t.take j).drop s) acc (t.drop j) = tk [] acc' (t.drop (e + 1))
 | k, j, h, hs => by
  have out : (¬ (j < t.length)) ∨ (∃ hj : j < t.length, wb t[j] = false) → ∃ acc', acc'.length ≤ acc.length + 1 ∧ kh none t (s : Int) acc (j : Int) = some (.inl (((j + 1 : Nat) : Int), acc')) ∧ tk ((t.take j).drop s) acc (t.drop j) = tk [] acc' (t.drop (j + 1)) := fun hq => by
   refine ⟨fin ((t.take j).drop s) acc, z4e _ _, ?_, ?_⟩
   ·unfold kh ki fin
    simp only [Int.toNat_natCast]
    by_cases hc : j ≤ s
    ·rw [if_neg (show ¬ (decide ((j : Int) > (s : Int)) = true) by simp; omega), if_pos ((z3m (by omega)).2 hc), Wi (by omega)]
    ·rw [if_pos (show decide ((j : Int) > (s : Int)) = true by simp; omega), if_pos (by omega), if_neg (fun e => hc ((z3m (by omega)).1 e)), if_pos (by simp; omega), Wi (by omega)]
   ·rcases hq with hq | ⟨hj, hq⟩
    ·rw [show t.drop j = [] from List.drop_eq_nil_of_le (by omega), show t.drop (j + 1) = [] from List.drop_eq_nil_of_le (by omega)]
     rfl
    ·rw [List.drop_eq_getElem_cons hj]
     conv => lhs; unfold tk
     rw [if_neg (by rw [hq]; simp)]
  by_cases hj : j < t.length
  ·cases hw : wb t[j] with
   | false =>
    obtain ⟨acc', h1, h2, h3⟩ := out (.inr ⟨hj, hw⟩)
    refine ⟨j, Nat.le_refl _, by omega, acc', h1, ?_, h3⟩
    unfold wv
    rw [← h2]
    refine zr ?_
    unfold jk
    simp only [Int.toNat_natCast]
    rw [if_pos (by intro _; omega), if_pos (by simp; omega), z8n hj, zad, Option.bind_some, hw, if_neg (by simp)]
   | true =>
    match k, h with
    | 0, h => omega
    | k + 1, h =>
     obtain ⟨e, h1, h2, acc', h3, h4, h5⟩ := zlu ht (s := s) ha k (j + 1) (by omega) (by omega)
     refine ⟨e, by omega, h2, acc', h3, ?_, ?_⟩
     ·unfold wv
      rw [zx (s' := ((j + 1 : Nat) : Int)) ?_]
      ·exact h4
      ·unfold jk
       simp only [Int.toNat_natCast]
       rw [if_pos (by intro _; omega), if_pos (by simp; omega), z8n hj, zad, Option.bind_some, hw, if_pos (by simp; omega), Wi (by omega)]
     ·rw [← h5, zbr hs hj, List.drop_eq_getElem_cons hj]
      conv => lhs; unfold tk
      rw [if_pos hw]
  ·obtain ⟨acc', h1, h2, h3⟩ := out (.inl hj)
   refine ⟨j, Nat.le_refl _, by omega, acc', h1, ?_, h3⟩
   unfold wv
   rw [← h2]
   refine zr ?_
   unfold jk
   rw [if_pos (by simp <;> omega), if_neg (by simp <;> omega), Option.bind_some, if_neg (by simp <;> omega)]
theorem zi3 {t : List UInt8} (ht : t.length ≤ 1000000) : ∀ (N i : Nat) (acc : List (List UInt8)), t.length + 1 - i ≤ N → i ≤ t.length + 1 → acc.length ≤ i →
 kl none t (i : Int) acc = kg none (tk [] acc (t.drop i))
 | N, i, acc, hN, hi, ha => by
  by_cases hlt : i < t.length
  ·match N, hN with
   | 0, hN => omega
   | N + 1, hN =>
    obtain ⟨e, h1, h2, acc', h3, h4, h5⟩ := zlu ht (s := i) (acc := acc) ha (t.length - i) i (by omega) (Nat.le_refl _)
    have hn : (t.take i).drop i = [] := (z3m (by omega)).2 (Nat.le_refl _)
    rw [hn] at h5
    unfold kl
    rw [zx (s' := (((e + 1 : Nat) : Int), acc')) ?_]
    ·rw [h5]
     exact zi3 ht N (e + 1) acc' (by omega) (by omega) (by omega)
    ·unfold wu
     rw [if_pos (by simp; omega)]
     exact h4
  ·unfold kl
   rw [List.drop_eq_nil_of_le (by omega)]
   refine zr ?_
   unfold wu
   rw [if_neg (by simp; omega)]
   rfl
theorem z9z : ∀ (t cur : List UInt8) (acc : List (List UInt8)), (tk cur acc t).length ≤ acc.length + 1 + t.length
 | [], cur, acc => by unfold tk; have := z4e cur acc; simp; omega
 | c :: t, cur, acc => by
  unfold tk
  split
  ·have := z9z t (cur ++ [c]) acc; simp only [List.length_cons]; omega
  ·have := z9z t [] (fin cur acc); have h2 := z4e cur acc; simp only [List.length_cons]; omega
theorem zs3 (n : Nat) : (if 400 < (n : Int) then (400 : Int) else (n : Int)).toNat = min 400 n := by split <;> omega
theorem zdy {t : List UInt8} (ht : t.length ≤ 1000000) : kr none t = some (Wv t) := by
 have h := zi3 ht (t.length + 1) 0 [] (by omega) (by omega) (by simp)
 unfold kr
 rw [show (0 : Int) = ((0 : Nat) : Int) from rfl, h, List.drop_zero]
 have hl := z9z t [] []
 simp only [List.length_nil] at hl
 unfold Wv
 generalize tk [] [] t = L at hl
 unfold kg jg ko
 have hs : (Jw L).length = L.length := (Qy L).length_eq
 have hc : (z16 (Jw L)).length = (Jw L).length := z5n _
 have hcl := z33 (Jw L)
 rw [if_pos (by omega), Option.bind_some, if_pos hs, if_pos (by omega), Option.bind_some, if_pos hc, Xg]
 rw [Xg] at hcl
 rw [zs3, if_pos (by split <;> omega), if_pos (by omega)]
 unfold z16
 rw [Xg, List.drop_zero, List.take_append_of_le_length (Nat.min_le_right _ _)]
 congr 1
 rw [← List.take_take, List.take_length]
theorem z97 {t : List UInt8} (ht : t.length ≤ 1000000) : ∀ (k i : Nat) (cur : List UInt8) (acc : List (List UInt8)), i + k = t.length → acc.length ≤ i → cur.length ≤ i →
 wj none t acc cur (i : Int) = w9 none (tk cur acc (t.drop i))
 | k, i, cur, acc, h, ha, hc => by
  have hw1 : W ((t.length : Int) + 1) = ((t.length + 1 : Nat) : Int) := Wi (by omega)
  have fl := z4e cur acc
  have endp : ∀ v : Bool, (decide ((i : Int) < (t.length : Int)) && v) = false → (if ((decide ((i : Int) < (t.length : Int))) && v) = true then
   if (0 : Int) ≤ (i : Int) ∧ (i : Int) ≤ (W ((i : Int) + 1)) ∧ (W ((i : Int) + 1)) ≤ (t.length : Int) then
   if (((cur.length + ((t.take (W ((i : Int) + 1)).toNat).drop ((i : Int)).toNat).length : Nat) : Int) ≤ 9223372036854775807) then
   x5 none t (i : Int) acc (cur ++ ((t.take (W ((i : Int) + 1)).toNat).drop ((i : Int)).toNat))
   else none
   else none
  else
   if (!(cur == ([] : List UInt8))) = true then
    if ((acc ++ ([cur] : List (List UInt8))).map zb).length * 16 ≤ 140737488355328 then
    x6 none t (i : Int) (acc ++ ([cur] : List (List UInt8)))
    else none
   else
    x6 none t (i : Int) acc) = some (.inl (fin cur acc, ([] : List UInt8), ((i + 1 : Nat) : Int))) := fun v hv => by
   rw [if_neg (by rw [hv]; simp)]
   unfold x6 x5 fin
   rw [Wi (by omega)]
   by_cases hn : cur = []
   ·rw [if_neg (by simp [hn]), if_pos hn]
   ·rw [if_pos (by simp [hn]), if_pos (by simp; omega), if_neg hn]
  match k, h with
  | 0, h =>
   have hi : i = t.length := by omega
   subst hi
   unfold wj
   rw [zx (s' := (fin cur acc, ([] : List UInt8), ((t.length + 1 : Nat) : Int))) ?_]
   ·rw [List.drop_length]
    refine zr ?_
    unfold qf
    dsimp only
    rw [hw1, if_neg (by simp)]
    rfl
   ·unfold qf
    dsimp only
    rw [if_pos (show decide ((t.length : Int) < W ((t.length : Int) + 1)) = true by rw [hw1]; simp; omega), if_pos (by simp), if_neg (by simp), Option.bind_some]
    exact endp _ (by simp)
  | k + 1, h =>
   have hi : i < t.length := by omega
   unfold wj
   rw [List.drop_eq_getElem_cons hi]
   conv => rhs; unfold tk
   cases hw : wb t[i] with
   | false =>
    rw [if_neg (by simp), zx (s' := (fin cur acc, ([] : List UInt8), ((i + 1 : Nat) : Int))) ?_]
    ·exact z97 ht k (i + 1) [] (fin cur acc) (by omega) (by omega) (by simp)
    ·unfold qf
     dsimp only
     rw [hw1, if_pos (by simp; omega), if_pos (by intro _; omega), if_pos (by simp; omega), Int.toNat_natCast, z8n hi, zlt, Option.bind_some, hw]
     exact endp _ (by simp)
   | true =>
    rw [if_pos (by simp), zx (s' := (acc, cur ++ [t[i]], ((i + 1 : Nat) : Int))) ?_]
    ·exact z97 ht k (i + 1) (cur ++ [t[i]]) acc (by omega) (by omega) (by simp; omega)
    ·unfold qf x5
     dsimp only
     have hd : (t.take (i + 1)).drop i = [t[i]] := by
      rw [zbr (Nat.le_refl _) hi, (z3m (by omega)).2 (Nat.le_refl _)]; rfl
     rw [hw1, if_pos (by simp; omega), if_pos (by intro _; omega), if_pos (by simp; omega), Int.toNat_natCast, z8n hi, zlt, Option.bind_some, hw, Wi (by omega), if_pos (by simp; omega), if_pos (by omega), Int.toNat_natCast, hd, if_pos (by simp; omega)]
theorem zjw {t : List UInt8} (ht : t.length ≤ 1000000) : wa none t = some (Wv t) := by
 have h := z97 ht t.length 0 [] [] (by omega) (by simp) (by simp)
 unfold wa
 rw [show (0 : Int) = ((0 : Nat) : Int) from rfl, h, List.drop_zero]
 have hl := z9z t [] []
 simp only [List.length_nil] at hl
 unfold Wv
 generalize tk [] [] t = L at hl
 unfold w9
 have hs := V5 L
 rw [zp1 (by omega), Option.bind_some]
 simp only [List.length_map]
 rw [zs3, if_pos (by split <;> omega)]
 congr 1
 rw [← List.take_take, List.take_length]
def big (d : Do) : Bool := (decide ((d.f_Name.length : Int) > 60)) || (decide ((d.f_Text.length : Int) > 2000))
def emp (d : Do) : Bool := d.f_Name == ([] : List UInt8)
def dq (ds : List Do) : Nat → Nat → Bool
 | 0, _ => false
 | k + 1, i => ((ds.take i).any fun x => x.f_Name == (ds.getD i default).f_Name) || dq ds k (i + 1)
def chk (ds : List Do) : Int := if (decide ((ds.length : Int) > 20) || ds.any big) = true then 2 else if ds.any emp = true then 3 else if dq ds ds.length 0 = true then 6 else 0
theorem zsf {g : Unit → Do → Option (Bool × Unit)} {f : Do → Bool} (hg : ∀ x, g () x = some (f x, ())) {l : List Do} (hl : l.length ≤ 4000000000000) : ∀ (k i : Nat), i + k = l.length →
 ∃ r : Int, q5 g none l (i : Int) () = some (r, ()) ∧ decide (r ≥ 0) = (l.drop i).any f
 | 0, i, h => by
  have hi : i = l.length := by omega
  subst hi
  refine ⟨-1, ?_, by rw [List.drop_length]; rfl⟩
  unfold q5
  refine zr ?_
  unfold y3
  rw [if_neg (by simp)]
  rfl
 | k + 1, i, h => by
  have hi : i < l.length := by omega
  unfold q5
  rw [List.drop_eq_getElem_cons hi, List.any_cons]
  have hgx : g () (G_QDocument.mk (l[i].f_Name) (l[i].f_Version) (l[i].f_Text)) = some (f l[i], ()) := hg l[i]
  cases hv : f l[i] with
  | true =>
   refine ⟨i, ?_, by simp⟩
   refine zr ?_
   unfold y3
   simp only [List.length_map, Int.toNat_natCast, q8 hi]
   rw [if_pos (by simp; omega), if_pos (by omega), hgx, Option.bind_some, hv, if_pos rfl]
  | false =>
   obtain ⟨r, h1, h2⟩ := zsf hg hl k (i + 1) (by omega)
   refine ⟨r, ?_, by rw [Bool.false_or]; exact h2⟩
   rw [zx (s' := (((i + 1 : Nat) : Int), ())) ?_]
   ·exact h1
   ·unfold y3
    simp only [List.length_map, Int.toNat_natCast, q8 hi]
    rw [if_pos (by simp; omega), if_pos (by omega), hgx, Option.bind_some, hv, if_neg (by simp), Wi (by omega)]
theorem zhc {g : Unit → Do → Option (Bool × Unit)} {f : Do → Bool} (hg : ∀ x, g () x = some (f x, ())) {l : List Do} (hl : l.length ≤ 4000000000000) : zp g none l () = some (l.any f, ()) := by
 unfold zp qz
 obtain ⟨r, h1, h2⟩ := zsf hg hl l.length 0 (by omega)
 rw [show (0 : Int) = ((0 : Nat) : Int) from rfl, h1, Option.bind_some]
 rw [List.drop_zero] at h2
 exact congrArg (fun b => some (b, ())) h2
theorem zsk {ds : List Do} (hl : ds.length ≤ 4000000000000) : ∀ (k i : Nat), i + k = ds.length → x3 none ds (i : Int) = some (if dq ds k i = true then 6 else 0)
 | 0, i, h => by
  have hi : i = ds.length := by omega
  subst hi
  unfold x3
  refine zr ?_
  unfold ye
  rw [if_neg (by simp)]
  rfl
 | k + 1, i, h => by
  have hi : i < ds.length := by omega
  have hq : dq ds (k + 1) i = (((ds.take i).any fun x => x.f_Name == ds[i].f_Name) || dq ds k (i + 1)) := by rw [← q8 (l := ds) hi]; rfl
  have hc := zhc (g := fun (s : Unit) (x : G_QDocument) => (yt none (ds[i].f_Name) (ds[i].f_Version) (ds[i].f_Text) x).map fun o => (o, ())) (f := fun x => x.f_Name == ds[i].f_Name) (fun x => rfl) (l := ds.take i) (by rw [List.length_take]; omega)
  unfold x3
  rw [hq]
  cases hv : (ds.take i).any fun x => x.f_Name == ds[i].f_Name with
  | true =>
   refine zr ?_
   unfold ye
   simp only [List.length_map, Int.toNat_natCast, q8 hi]
   rw [if_pos (by simp; omega), if_pos (by omega), if_pos (by omega), hc, Option.bind_some, hv, if_pos rfl]
   rfl
  | false =>
   rw [zx (s' := ((i + 1 : Nat) : Int)) ?_]
   ·rw [Bool.false_or]; exact zsk hl k (i + 1) (by omega)
   ·unfold ye
    simp only [List.length_map, Int.toNat_natCast, q8 hi]
    rw [if_pos (by simp; omega), if_pos (by omega), if_pos (by omega), hc, Option.bind_some, hv, if_neg (by simp), Wi (by omega)]
theorem Ut {ds : List Do} (hl : ds.length ≤ 4000000000000) : yp none ds = some (chk ds) := by
 unfold yp chk
 have h1 := zhc (g := fun (s : Unit) (x : G_QDocument) => (yu none x).map fun o => (o, ())) (f := big) (fun x => rfl) hl
 have h2 := zhc (g := fun (s : Unit) (x : G_QDocument) => (yq none x).map fun o => (o, ())) (f := emp) (fun x => rfl) hl
 simp only [List.length_map]
 by_cases hc : (ds.length : Int) > 20
 ·rw [if_neg (by simp; omega), Option.bind_some, if_pos (by simp; omega), if_pos (by simp; omega)]
 ·rw [if_pos (by simp; omega), h1, Option.bind_some]
  by_cases hb : (decide ((ds.length : Int) > 20) || ds.any big) = true
  ·rw [if_pos hb, if_pos hb]
  ·rw [if_neg hb, if_neg hb, h2, Option.bind_some]
   by_cases he : ds.any emp = true
   ·rw [if_pos he, if_pos he]
   ·rw [if_neg he, if_neg he]
    exact zsk hl ds.length 0 (by omega)
theorem zzm {ds : List Do} (hl : ds.length ≤ 4000000000000) {i : Nat} (hi : i < ds.length) {v3 v4 : Bool} : ∀ (k j : Nat) (v : Bool), j + k = i →
 qr none ds v3 v4 (i : Int) v (j : Int) = qq none ds v3 v4 (i : Int) (v || (((ds.take i).drop j).any fun x => x.f_Name == ds[i].f_Name))
 | 0, j, v, h => by
  have hlen : (ds.take i).length = i := by rw [List.length_take]; omega
  unfold qr
  rw [show (ds.take i).drop j = [] from List.drop_eq_nil_of_le (by omega), List.any_nil, Bool.or_false]
  refine zr ?_
  unfold yn
  simp only [Int.toNat_natCast, List.length_map, hlen]
  rw [if_neg (by simp; omega)]
 | k + 1, j, v, h => by
  have hlen : (ds.take i).length = i := by rw [List.length_take]; omega
  have hj : j < (ds.take i).length := by omega
  unfold qr
  rw [List.drop_eq_getElem_cons hj, List.any_cons, ← Bool.or_assoc, zx (s' := (v || ((ds.take i)[j].f_Name == ds[i].f_Name), ((j + 1 : Nat) : Int))) ?_]
  ·exact zzm hl hi k (j + 1) _ (by omega)
  ·unfold yn
   simp only [Int.toNat_natCast, List.length_map]
   rw [if_pos (by simp; omega), if_pos (by omega), q8 hj, q8 hi, Wi (by omega)]
theorem zkz {ds : List Do} (hl : ds.length ≤ 4000000000000) : ∀ (k i : Nat) (v3 v4 v5 : Bool), i + k = ds.length →
 qu none ds v3 v4 v5 (i : Int) = qt none (v3 || (ds.drop i).any big) (v4 || (ds.drop i).any emp) (v5 || dq ds k i)
 | 0, i, v3, v4, v5, h => by
  have hi : i = ds.length := by omega
  subst hi
  unfold qu
  rw [List.drop_length, List.any_nil, List.any_nil, Bool.or_false, Bool.or_false, show (v5 || dq ds 0 ds.length) = v5 from Bool.or_false _]
  refine zr ?_
  unfold ym
  rw [if_neg (by simp)]
 | k + 1, i, v3, v4, v5, h => by
  have hi : i < ds.length := by omega
  have hq : dq ds (k + 1) i = (((ds.take i).any fun x => x.f_Name == ds[i].f_Name) || dq ds k (i + 1)) := by rw [← q8 (l := ds) hi]; rfl
  unfold qu
  rw [List.drop_eq_getElem_cons hi, List.any_cons, List.any_cons, hq, ← Bool.or_assoc, ← Bool.or_assoc, ← Bool.or_assoc, zx (s' := (v3 || big ds[i], v4 || emp ds[i], v5 || (ds.take i).any (fun x => x.f_Name == ds[i].f_Name), ((i + 1 : Nat) : Int))) ?_]
  ·exact zkz hl k (i + 1) _ _ _ (by omega)
  ·unfold ym
   simp only [List.length_map]
   rw [if_pos (by simp; omega), if_pos (by omega), if_pos (by omega)]
   have hin := zzm hl hi (v3 := v3) (v4 := v4) i 0 v5 (by omega)
   rw [List.drop_zero] at hin
   refine hin.trans ?_
   unfold qq big emp
   simp only [Int.toNat_natCast, q8 hi]
   rw [Wi (by omega), Bool.or_assoc]
theorem znt {ds : List Do} (hl : ds.length ≤ 4000000000000) : qd none ds = some (chk ds) := by
 unfold qd
 have h := zkz hl ds.length 0 (decide ((ds.length : Int) > 20)) false false (by omega)
 rw [List.drop_zero, Bool.false_or, Bool.false_or] at h
 simp only [List.length_map]
 refine h.trans ?_
 unfold qt chk
 split
 ·rfl
 ·split
  ·rfl
  ·split <;> rfl
theorem zio {ds : List Do} (h : chk ds = 0) : ds.length ≤ 20 ∧ (∀ d ∈ ds, d.f_Text.length ≤ 2000) ∧ (ds.map (·.f_Name)).Nodup := by
 unfold chk at h
 split at h
 ·cases h
 ·rename_i h1
  split at h
  ·cases h
  ·split at h
   ·cases h
   ·rename_i h3
    simp only [Bool.or_eq_true, decide_eq_true_eq, not_or] at h1
    refine ⟨by omega, fun d hd => ?_, ?_⟩
    ·have h4 : ¬ big d = true := fun hb => h1.2 (List.any_eq_true.2 ⟨d, hd, hb⟩)
     unfold big at h4
     simp only [Bool.or_eq_true, decide_eq_true_eq, not_or] at h4
     omega
    ·have key : ∀ (k i : Nat), i + k = ds.length → dq ds k i = false → ∀ (q p : Nat) (hq : q < ds.length), i ≤ q → (hpq : p < q) → (ds[p]'(by omega)).f_Name ≠ (ds[q]'hq).f_Name := by
      intro k
      induction k with
      | zero => intro i hi _ q p hq h5 h6; omega
      | succ k ih =>
       intro i hi hf q p hq h5 h6
       have hil : i < ds.length := by omega
       have hqq : dq ds (k + 1) i = (((ds.take i).any fun x => x.f_Name == ds[i].f_Name) || dq ds k (i + 1)) := by rw [← q8 (l := ds) hil]; rfl
       rw [hqq, Bool.or_eq_false_iff] at hf
       by_cases e : i = q
       ·subst e
        intro he
        have := List.any_eq_false.1 hf.1 (ds[p]'(by omega)) (List.mem_take_iff_getElem.2 ⟨p, by omega, rfl⟩)
        simp only [beq_iff_eq] at this
        exact this he
       ·exact ih (i + 1) (by omega) hf.2 q p hq (by omega) h6
     have hk := key ds.length 0 (by omega) (by simpa using h3)
     refine List.pairwise_map.2 (List.pairwise_iff_getElem.2 fun p q hp hq hpq => hk q p hq (Nat.zero_le _) hpq)
theorem z0u {d : Do} (h : d.f_Text.length ≤ 1000000) : jj none d = some (k9 d) := by
 unfold jj
 rw [y2m (by omega), Option.bind_some, zdy h, Option.bind_some]
 rfl
theorem zfw {d : Do} (h : d.f_Text.length ≤ 1000000) : we none d = some (k9 d) := by
 unfold we
 rw [y1v (by omega), Option.bind_some, zjw h, Option.bind_some]
 rfl
theorem zb2 (x y : En) : zx5 x y = Go.Lib.compareBytes x.f_Name y.f_Name := rfl
theorem zgo {ds : List Do} (hl : ds.length ≤ 1000) (ht : ∀ d ∈ ds, d.f_Text.length ≤ 1000000) : ∀ (k i : Nat) (acc : List En), i + k = ds.length → acc.length = i →
 kj none ds (i : Int) acc = kf none (acc ++ (ds.drop i).map k9)
 | 0, i, acc, h, ha => by
  have hi : i = ds.length := by omega
  subst hi
  unfold kj
  rw [List.drop_length, List.map_nil, List.append_nil]
  refine zr ?_
  unfold wt
  rw [if_neg (by simp)]
 | k + 1, i, acc, h, ha => by
  have hi : i < ds.length := by omega
  unfold kj
  rw [zx (s' := (((i + 1 : Nat) : Int), acc ++ [k9 ds[i]])) ?_]
  ·have ih := zgo hl ht k (i + 1) (acc ++ [k9 ds[i]]) (by omega) (by simp; omega)
   rw [List.drop_eq_getElem_cons hi, List.map_cons, show acc ++ k9 ds[i] :: List.map k9 (List.drop (i+1) ds) = (acc ++ [k9 ds[i]]) ++ List.map k9 (List.drop (i+1) ds) by simp]
   exact ih
  ·unfold wt
   simp only [List.length_map, Int.toNat_natCast, q8 hi]
   rw [if_pos (by simp; omega), if_pos (by omega), show (⟨ds[i].f_Name, ds[i].f_Version, ds[i].f_Text⟩ : Do) = ds[i] from rfl, z0u (ht _ (List.getElem_mem hi)), Option.bind_some, if_pos (by simp; omega), Wi (by omega)]
theorem zel {ds : List Do} (hl : ds.length ≤ 4000000000000) : kq none ds = some (if chk ds = 0 then (bld ds, 0) else ([], chk ds)) := by
 unfold kq
 rw [Ut hl, Option.bind_some]
 by_cases hc : chk ds = 0
 ·rw [if_neg (by simp [hc]), if_pos hc]
  obtain ⟨h1, h2, h3⟩ := zio hc
  have h := zgo (ds := ds) (by omega) (fun d hd => Nat.le_trans (h2 d hd) (by omega)) ds.length 0 [] (by omega) rfl
  rw [show (0 : Int) = ((0 : Nat) : Int) from rfl, h, List.drop_zero, List.nil_append]
  obtain ⟨b1, b2⟩ := zrx ds [] List.Pairwise.nil (fun _ _ x hx => by cases hx) h3
  rw [List.nil_append] at b1
  replace b1 : (bld ds).Perm (ds.map k9) := b1
  unfold kf yl
  have hu : z5u zx5 (ds.map k9) = some (bld ds) := zbp (z8a (·.f_Name) zb2) (by simp; omega) (fun r' p1 p2 => by
   refine Uw (f := fun x : En => x.f_Name) (p1.trans b1.symm) (p2.imp fun h => ?_) b2
   rw [Je (fun x : En => x.f_Name) zb2] at h
   simpa using h)
  rw [hu, Option.bind_some, if_pos b1.length_eq]
  rfl
 ·rw [if_pos (by simp [hc]), if_neg hc]
theorem z9g {l : List En} {e : En} (hl : l.length ≤ 1000) : ∀ (k i : Nat) (acc : List En) (b : Bool), i + k = l.length → acc.length ≤ 2 * i →
 xc none l e acc b (i : Int) = some (acc ++ ie e b (l.drop i))
 | 0, i, acc, b, h, ha => by
  have hi : i = l.length := by omega
  subst hi
  unfold xc
  rw [List.drop_length]
  refine zr ?_
  unfold yj
  rw [if_neg (by simp)]
  unfold jp xg ie
  cases b with
  | true => simp
  | false => rw [if_pos (by simp), if_pos (by simp; omega), if_neg (by simp)]
 | k + 1, i, acc, b, h, ha => by
  have hi : i < l.length := by omega
  have step : ∀ (acc : List En) (b : Bool), acc.length ≤ 2 * i + 1 → qh none l e (i : Int) acc b = some (.inl (acc ++ (if l[i].f_Name = e.f_Name then [] else [l[i]]), b, ((i + 1 : Nat) : Int))) := fun acc b ha => by
   unfold qh xa
   simp only [Int.toNat_natCast, q8 hi]
   rw [Wi (by omega), show (⟨l[i].f_Name, l[i].f_Sum, l[i].f_Words⟩ : En) = l[i] from rfl]
   by_cases hn : l[i].f_Name = e.f_Name
   ·rw [if_neg (by simp [hn]), if_pos hn, List.append_nil]
   ·rw [if_pos (by simp [hn]), if_pos (by simp; omega), if_neg hn]
  unfold xc
  rw [List.drop_eq_getElem_cons hi]
  conv => rhs; unfold ie
  have hlen1 : (if l[i].f_Name = e.f_Name then ([] : List En) else [l[i]]).length ≤ 1 := by split <;> simp
  by_cases hc : (!b && decide (¬ l[i].f_Name < e.f_Name)) = true
  ·rw [if_pos hc, zx (s' := ((acc ++ [e]) ++ (if l[i].f_Name = e.f_Name then [] else [l[i]]), true, ((i + 1 : Nat) : Int))) ?_]
   ·have hb : (b || decide (¬ l[i].f_Name < e.f_Name)) = true := by rw [Bool.and_eq_true] at hc; rw [hc.2, Bool.or_true]
    rw [hb, ← List.append_assoc, ← List.append_assoc]
    exact z9g hl k (i + 1) _ true (by omega) (by simp only [List.length_append, List.length_singleton]; omega)
   ·unfold yj
    simp only [List.length_map, Int.toNat_natCast, q8 hi]
    rw [if_pos (by simp; omega), if_pos (by omega), bytesLess_eq, if_pos (by simpa using hc), if_pos (by simp; omega), step _ _ (by simp; omega)]
  ·rw [if_neg hc, List.nil_append, zx (s' := (acc ++ (if l[i].f_Name = e.f_Name then [] else [l[i]]), b, ((i + 1 : Nat) : Int))) ?_]
   ·have hb : (b || decide (¬ l[i].f_Name < e.f_Name)) = b := by
     cases b with
     | true => rfl
     | false => simpa using hc
    rw [hb, ← List.append_assoc]
    exact z9g hl k (i + 1) _ b (by omega) (by rw [List.length_append]; omega)
   ·unfold yj
    simp only [List.length_map, Int.toNat_natCast, q8 hi]
    rw [if_pos (by simp; omega), if_pos (by omega), bytesLess_eq, if_neg (by simpa using hc), step _ _ (by omega)]
theorem z7q {l : List En} {e : En} (hl : l.length ≤ 1000) : jd none l e = some (ie e false l) := z9g hl l.length 0 [] false (by omega) (by simp)
theorem zqy {e : En} : ∀ (l : List En), (ie e true l).length ≤ l.length ∧ (ie e false l).length ≤ l.length + 1
 | [] => by unfold ie; simp
 | x :: l => by
  obtain ⟨h1, h2⟩ := zqy (e := e) l
  have h3 : (if x.f_Name = e.f_Name then ([] : List En) else [x]).length ≤ 1 := by split <;> simp
  constructor
  ·unfold ie
   rw [if_neg (by simp), Bool.true_or, List.nil_append, List.length_append, List.length_cons]; omega
  ·unfold ie
   by_cases hc : x.f_Name < e.f_Name
   ·rw [if_neg (by simpa using hc), show (false || decide (¬ x.f_Name < e.f_Name)) = false by simpa using hc, List.nil_append, List.length_append, List.length_cons]; omega
   ·rw [if_pos (by simpa using hc), show (false || decide (¬ x.f_Name < e.f_Name)) = true by simpa using hc, List.length_append, List.length_append, List.length_singleton, List.length_cons]; omega
theorem eqS {l : List (List UInt8)} (hl : l.length ≤ 8796093022208) : ∀ (k i : Nat), i + k = l.length → y5 none l l (i : Int) = some true
 | 0, i, h => by
  have hi : i = l.length := by omega
  subst hi
  unfold y5
  refine zr ?_
  unfold zu
  rw [if_neg (by simp)]
  rfl
 | k + 1, i, h => by
  unfold y5
  rw [zx (s' := ((i + 1 : Nat) : Int)) ?_]
  ·exact eqS hl k (i + 1) (by omega)
  ·unfold zu
   rw [if_pos (by simp; omega), if_pos (by simp; omega), if_pos (by simp; omega), if_neg (by simp), Wi (by omega)]
theorem zcm {l : List (List UInt8)} (hl : l.length ≤ 8796093022208) : zj none l l = some true := by
 unfold zj
 rw [if_neg (by simp)]
 exact eqS hl l.length 0 (by omega)
theorem eqX {l : List En} (hl : l.length ≤ 8796093022208) (hb : ∀ b ∈ l, b.f_Words.length ≤ 8796093022208) : ∀ (k i : Nat), i + k = l.length → x8 none l l (i : Int) = some true
 | 0, i, h => by
  have hi : i = l.length := by omega
  subst hi
  unfold x8
  refine zr ?_
  unfold yy
  rw [if_neg (by simp)]
  rfl
 | k + 1, i, h => by
  have hi : i < l.length := by omega
  unfold x8
  rw [zx (s' := ((i + 1 : Nat) : Int)) ?_]
  ·exact eqX hl hb k (i + 1) (by omega)
  ·unfold yy
   simp only [List.length_map, Int.toNat_natCast, q8 hi]
   rw [if_pos (by simp; omega), if_pos (by omega), if_pos (by omega), if_pos (by intro _; omega), if_pos (by intro _; omega), if_pos (by intro _; omega), if_pos (by intro _; omega), if_pos (by simp), zcm (hb _ (List.getElem_mem hi)), Option.bind_some, if_neg (by simp), Wi (by omega)]
theorem y0z {l : List En} (hl : l.length ≤ 8796093022208) (hb : ∀ b ∈ l, b.f_Words.length ≤ 8796093022208) : qy none l l = some true := by
 unfold qy
 rw [if_neg (by simp)]
 exact eqX hl hb l.length 0 (by omega)
theorem z7s (t : List UInt8) : (Wv t).length ≤ 400 := by unfold Wv; rw [List.length_take]; omega
theorem zfy {l : List (List UInt8)} {x : List UInt8} (hl : l.length ≤ 8796093022208) : ∀ (k i : Nat), i + k = l.length →
 ∃ r : Int, w7 none l x (i : Int) = some r ∧ decide (r ≥ 0) = decide (x ∈ l.drop i)
 | 0, i, h => by
  have hi : i = l.length := by omega
  subst hi
  refine ⟨-1, ?_, by rw [List.drop_length]; simp⟩
  unfold w7
  refine zr ?_
  unfold x7
  rw [if_neg (by simp)]
  rfl
 | k + 1, i, h => by
  have hi : i < l.length := by omega
  unfold w7
  rw [List.drop_eq_getElem_cons hi]
  by_cases hx : x = l[i]
  ·refine ⟨i, ?_, by rw [hx, decide_eq_true (List.mem_cons_self ..)]; simp⟩
   refine zr ?_
   unfold x7
   simp only [List.length_map, Int.toNat_natCast, q8 hi]
   rw [if_pos (by simp; omega), if_pos (by omega), if_pos (by simpa using hx)]
  ·obtain ⟨r, h1, h2⟩ := zfy (x := x) hl k (i + 1) (by omega)
   refine ⟨r, ?_, by rw [h2, Bool.eq_iff_iff, decide_eq_true_eq, decide_eq_true_eq, List.mem_cons]; exact ⟨.inr, fun h => h.resolve_left hx⟩⟩
   rw [zx (s' := ((i + 1 : Nat) : Int)) ?_]
   ·exact h1
   ·unfold x7
    simp only [List.length_map, Int.toNat_natCast, q8 hi]
    rw [if_pos (by simp; omega), if_pos (by omega), if_neg (by simpa using hx), Wi (by omega)]
theorem z0p {l : List (List UInt8)} {x : List UInt8} (hl : l.length ≤ 8796093022208) : j9 none l x = some (decide (x ∈ l)) := by
 unfold j9 vo
 obtain ⟨r, h1, h2⟩ := zfy (x := x) hl l.length 0 (by omega)
 rw [show (0 : Int) = ((0 : Nat) : Int) from rfl, h1, Option.bind_some]
 rw [List.drop_zero] at h2
 exact congrArg some h2
def Yl (w : List UInt8) (l : List En) : List (List UInt8) := (l.filter fun e => decide (w ∈ e.f_Words)).map (·.f_Name)
theorem Ua {l : List En} {w : List UInt8} (hl : l.length ≤ 8796093022208) (hb : ∀ b ∈ l, b.f_Words.length ≤ 8796093022208) : ∀ (k i : Nat) (acc : List (List UInt8)), i + k = l.length → acc.length ≤ i →
 ky none l w acc (i : Int) = some (acc ++ Yl w (l.drop i))
 | 0, i, acc, h, ha => by
  have hi : i = l.length := by omega
  subst hi
  unfold ky
  rw [List.drop_length, show Yl w [] = [] from rfl, List.append_nil]
  refine zr ?_
  unfold w6
  rw [if_neg (by simp)]
  rfl
 | k + 1, i, acc, h, ha => by
  have hi : i < l.length := by omega
  unfold ky
  rw [List.drop_eq_getElem_cons hi]
  by_cases hw : w ∈ l[i].f_Words
  ·rw [show Yl w (l[i] :: l.drop (i + 1)) = l[i].f_Name :: Yl w (l.drop (i + 1)) by unfold Yl; rw [List.filter_cons, if_pos (by simpa using hw)]; rfl, zx (s' := (acc ++ [l[i].f_Name], ((i + 1 : Nat) : Int))) ?_]
   ·have ih := Ua (w := w) hl hb k (i + 1) (acc ++ [l[i].f_Name]) (by omega) (by simp; omega)
    rw [show acc ++ l[i].f_Name :: Yl w (l.drop (i + 1)) = (acc ++ [l[i].f_Name]) ++ Yl w (l.drop (i + 1)) by simp]
    exact ih
   ·unfold w6 vj
    simp only [List.length_map, Int.toNat_natCast, q8 hi]
    rw [if_pos (by simp; omega), if_pos (by omega), z0p (hb _ (List.getElem_mem hi)), Option.bind_some, if_pos (by simpa using hw), if_pos (by simp; omega), Wi (by omega)]
  ·rw [show Yl w (l[i] :: l.drop (i + 1)) = Yl w (l.drop (i + 1)) by unfold Yl; rw [List.filter_cons, if_neg (by simpa using hw)], zx (s' := (acc, ((i + 1 : Nat) : Int))) ?_]
   ·exact Ua hl hb k (i + 1) acc (by omega) (by omega)
   ·unfold w6 vj
    simp only [List.length_map, Int.toNat_natCast, q8 hi]
    rw [if_pos (by simp; omega), if_pos (by omega), z0p (hb _ (List.getElem_mem hi)), Option.bind_some, if_neg (by simpa using hw), Wi (by omega)]
theorem zuh {l : List En} {w : List UInt8} (hl : l.length ≤ 8796093022208) (hb : ∀ b ∈ l, b.f_Words.length ≤ 8796093022208) : uv none l w = some (Yl w l) := by
 have := Ua (w := w) hl hb l.length 0 [] (by omega) (by simp)
 rw [List.drop_zero] at this
 exact this
def exD : List Do := [⟨[100], 0, [98, 32, 97, 95, 49, 44, 32, 98]⟩]
theorem zya : chk exD = 0 := by rfl
theorem zze : ∃ s, bld exD = [⟨[100], s, [[97, 95, 49], [98]]⟩] := ⟨Wy [98, 32, 97, 95, 49, 44, 32, 98], rfl⟩
theorem Kn : yh none = some true := by
 unfold yh
 have h := zel (ds := exD) (by decide)
 obtain ⟨s, hs⟩ := zze
 rw [if_pos zya, hs] at h
 refine (congrArg (fun o => Option.bind o _) h).trans ?_
 rw [Option.bind_some]
 simp only [List.length_map, List.length_cons, List.length_nil]
 rw [if_pos (by intro _; decide), if_pos (by rfl)]
 rw [show (([⟨[100], s, [[97, 95, 49], [98]]⟩] : List En).getD ((0 : Int).toNat) default).f_Words = [[97, 95, 49], [98]] from rfl, zcm (by decide), Option.bind_some, if_pos (by rfl), zuh (by simp) (by simp), Option.bind_some, if_pos (by rfl)]
 rw [show Yl [98] [⟨[100], s, [[97, 95, 49], [98]]⟩] = [[100]] from rfl, zcm (by decide), Option.bind_some]
 rfl
theorem zl8 (k : IntKind) (hk : k.signed = false) {a b : Nat} (ha : a < 2 ^ k.bits) (hb : b < 2 ^ k.bits) : Zb .and k (a : Int) (b : Int) = ((a &&& b : Nat) : Int) := by
 show k.wrap (((BitVec.ofInt k.bits (a : Int)) &&& (BitVec.ofInt k.bits (b : Int))).toNat : Int) = _
 rw [BitVec.toNat_and, BitVec.ofInt_natCast, BitVec.ofInt_natCast, BitVec.toNat_ofNat, BitVec.toNat_ofNat, Nat.mod_eq_of_lt ha, Nat.mod_eq_of_lt hb, z13 k hk]
 have h : a &&& b < 2 ^ k.bits := Nat.lt_of_le_of_lt Nat.and_le_left ha
 rw [show ((2 : Int) ^ k.bits) = ((2 ^ k.bits : Nat) : Int) by simp, ← Int.natCast_emod, Nat.mod_eq_of_lt h]
def HD : List UInt8 := [48, 49, 50, 51, 52, 53, 54, 55, 56, 57, 97, 98, 99, 100, 101, 102]
def hd (r : Nat) : UInt8 := HD.getD r 0
def hx : Nat → Nat → List UInt8
 | 0, _ => []
 | k + 1, n => hx k (n / 16) ++ [hd (n % 16)]
theorem zs0 : ∀ (k n : Nat), (hx k n).length = k
 | 0, _ => rfl
 | k + 1, n => by unfold hx; rw [List.length_append, zs0 k]; rfl
theorem zz6 : ∀ r < 16, (HD.take (r + 1)).drop r = [hd r] := by decide
theorem zrv {n : Nat} (h : n < 4294967296) : IntKind.wrap .u32 ((n : Nat) : Int) = ((n : Nat) : Int) := by
 rw [z13 _ rfl]; simp only [IntKind.bits]; omega
theorem zxq (n : Nat) : ((n : Nat) : Int).tmod 16 = ((n % 16 : Nat) : Int) := by rw [Int.tmod_eq_emod_of_nonneg (by omega)]; omega
theorem zxj (n : Nat) : ((n : Nat) : Int).tdiv 16 = ((n / 16 : Nat) : Int) := by rw [Int.tdiv_eq_ediv_of_nonneg (by omega)]; omega
theorem z8x {n : Nat} : j4 none ((n : Nat) : Int) = some [hd (n % 16)] := by
 unfold j4
 have h16 : n % 16 < 16 := Nat.mod_lt _ (by omega)
 have e : IntKind.wrap .u32 (((n % 16 : Nat) : Int) + 1) = ((n % 16 + 1 : Nat) : Int) := by rw [show ((n % 16 : Nat) : Int) + 1 = ((n % 16 + 1 : Nat) : Int) by omega, zrv (by omega)]
 rw [zxq, e, if_pos (by simp only [List.length_cons, List.length_nil]; omega), Int.toNat_natCast, Int.toNat_natCast]
 exact congrArg some (zz6 _ h16)
theorem zqz {a0 : En} : ∀ (k i n : Nat) (v : List UInt8), i + k = 8 → v.length = i → n < 4294967296 →
 xx none a0 v ((n : Nat) : Int) (i : Int) = xu none a0 (hx k n ++ v)
 | 0, i, n, v, h, hv, hn => by
  have hi : i = 8 := by omega
  subst hi
  unfold xx
  refine zr ?_
  unfold ql
  rw [if_neg (by simp)]
  rfl
 | k + 1, i, n, v, h, hv, hn => by
  unfold xx
  rw [zx (s' := ([hd (n % 16)] ++ v, ((n / 16 : Nat) : Int), ((i + 1 : Nat) : Int))) ?_]
  ·have ih := zqz (a0 := a0) k (i + 1) (n / 16) ([hd (n % 16)] ++ v) (by omega) (by simp; omega) (by omega)
   unfold hx
   rw [List.append_assoc]
   exact ih
  ·unfold ql
   dsimp only
   rw [if_pos (by simp; omega), z8x, Option.bind_some, if_pos (by simp; omega), zxj, zrv (by omega), Wi (by omega)]
def dg (n j : Nat) : Int := (((hd (n / 2 ^ (28 - 4 * j) % 16)).toNat : Nat) : Int)
def dgs (n i : Nat) : List Int := (List.range i).map (dg n) ++ List.replicate (8 - i) 0
theorem ztq (b : UInt8) : Wa ((b.toNat : Nat) : Int) = b := by
 unfold Wa
 simp
theorem zzk (n : Nat) : (dgs n 8).map Wa = hx 8 n := by
 unfold dgs dg
 simp only [Nat.sub_self, List.replicate_zero, List.append_nil, List.map_map]
 rw [show ((Wa ∘ fun j => (((hd (n / 2 ^ (28 - 4 * j) % 16)).toNat : Nat) : Int)) : Nat → UInt8) = fun j => hd (n / 2 ^ (28 - 4 * j) % 16) from funext fun j => ztq _]
 simp [hx, List.range_succ, Nat.div_div_eq_div_mul]
theorem zaz {n : Nat} (hn : n < 4294967296) : ∀ (k i : Nat), i + k = 8 → ub none ((n : Nat) : Int) (i : Int) (dgs n i) = some (hx 8 n)
 | 0, i, h => by
  have hi : i = 8 := by omega
  subst hi
  unfold ub
  rw [← zzk]
  refine zr ?_
  unfold k8
  rw [if_neg (by simp)]
  unfold Z3
  rw [if_pos (by simp [dgs])]
 | k + 1, i, h => by
  have hi : i < 8 := by omega
  have hl : (dgs n i).length = 8 := by unfold dgs; simp; omega
  unfold ub
  rw [zx (s' := (((i + 1 : Nat) : Int), dgs n (i + 1))) ?_]
  ·exact zaz hn k (i + 1) (by omega)
  ·unfold k8
   dsimp only
   have e1 : W ((4 : Int) * (i : Int)) = ((4 * i : Nat) : Int) := by rw [zr5 (by unfold inR; omega)]; omega
   have e2 : W ((28 : Int) - ((4 * i : Nat) : Int)) = ((28 - 4 * i : Nat) : Int) := by rw [zr5 (by unfold inR; omega)]; omega
   have e3 : min (28 - 4 * i) (IntKind.bits .u32) = 28 - 4 * i := by simp only [IntKind.bits]; omega
   have e4 : (((n : Nat) : Int).fdiv (2 ^ (28 - 4 * i))) = ((n / 2 ^ (28 - 4 * i) : Nat) : Int) := by
    rw [Int.fdiv_eq_ediv_of_nonneg _ (Int.le_of_lt (Int.pow_pos (by omega)))]
    simp
   have hlt : n / 2 ^ (28 - 4 * i) < 4294967296 := Nat.lt_of_le_of_lt (Nat.div_le_self ..) hn
   have e5 : Zb .and .u32 ((n / 2 ^ (28 - 4 * i) : Nat) : Int) 15 = ((n / 2 ^ (28 - 4 * i) % 16 : Nat) : Int) := by
    rw [show (15 : Int) = ((15 : Nat) : Int) from rfl, zl8 .u32 rfl (by simp only [IntKind.bits]; omega) (by simp only [IntKind.bits]; omega)]
    congr 1
    exact Nat.and_two_pow_sub_one_eq_mod _ 4
   rw [if_pos (by simp; omega), e1, e2, Int.toNat_natCast, e3, e4, e5, if_pos (by omega), if_pos (by simp only [List.length_cons, List.length_nil]; omega), if_pos (by omega), Int.toNat_natCast, if_pos (by omega), Wi (by omega), Int.toNat_natCast, Nat.zero_add]
   congr 3
   show (dgs n i).set i (dg n i) = dgs n (i + 1)
   unfold dgs
   rw [List.set_append_right _ _ (by simp), List.range_succ, List.map_append, List.length_map, List.length_range, Nat.sub_self, show 8 - i = (8 - (i + 1)) + 1 by omega, List.replicate_succ, List.set_cons_zero, List.append_assoc]
   rfl
theorem zyh {n : Nat} (hn : n < 4294967296) : uj none ((n : Nat) : Int) = some (hx 8 n) := zaz hn 8 0 (by omega)
def sp (w : List UInt8) : List UInt8 := [32] ++ w
theorem z9p {e : En} (h0 : 0 ≤ e.f_Sum) (h1 : e.f_Sum < 4294967296) (hw : e.f_Words = []) : xm none e = some (hx 8 e.f_Sum.toNat) := by
 unfold xm
 have hh := zqz (a0 := e) 8 0 e.f_Sum.toNat [] (by omega) rfl (by omega)
 rw [show ((e.f_Sum.toNat : Nat) : Int) = e.f_Sum by omega, List.append_nil] at hh
 refine hh.trans ?_
 unfold xu kb
 refine zr ?_
 unfold xv
 rw [hw, if_neg (by simp)]
 rfl
theorem zlm {a b : List (List UInt8)} (hab : a.length = b.length) (hl : a.length ≤ 4000000000000) : ∀ (k i : Nat), i + k = a.length →
 y5 none a b (i : Int) = some (decide (a.drop i = b.drop i))
 | 0, i, h => by
  have hi : i = a.length := by omega
  subst hi
  unfold y5
  rw [List.drop_length, show b.drop a.length = [] by rw [hab]; exact List.drop_length]
  refine zr ?_
  unfold zu
  rw [if_neg (by simp)]
  rfl
 | k + 1, i, h => by
  have hi : i < a.length := by omega
  have hj : i < b.length := by omega
  unfold y5
  rw [List.drop_eq_getElem_cons hi, List.drop_eq_getElem_cons hj]
  by_cases he : a[i] = b[i]
  ·rw [zx (s' := ((i + 1 : Nat) : Int)) ?_]
   ·refine (zlm hab hl k (i + 1) (by omega)).trans ?_
    congr 1
    rw [Bool.eq_iff_iff, decide_eq_true_eq, decide_eq_true_eq, List.cons.injEq]
    exact ⟨fun h => ⟨he, h⟩, fun h => h.2⟩
   ·unfold zu
    simp only [List.length_map, Int.toNat_natCast, q8 hi, q8 hj]
    rw [if_pos (by simp; omega), if_pos (by omega), if_pos (by omega), if_neg (by simp [he]), Wi (by omega)]
  ·refine zr ?_
   unfold zu
   simp only [List.length_map, Int.toNat_natCast, q8 hi, q8 hj]
   rw [if_pos (by simp; omega), if_pos (by omega), if_pos (by omega), if_pos (by simp [he]), decide_eq_false (fun h => he (List.cons.inj h).1)]
theorem zpl {a b : List (List UInt8)} (hl : a.length ≤ 4000000000000) : zj none a b = some (decide (a = b)) := by
 unfold zj
 simp only [List.length_map]
 by_cases h : a.length = b.length
 ·rw [if_neg (by simp [h])]
  exact zlm h hl a.length 0 (by omega)
 ·rw [if_pos (by simp; omega), decide_eq_false (fun e => h (by rw [e]))]
def g (w : List UInt8) : Bool := !(w == ([] : List UInt8)) && w.all wb
def sz : Int → List (List UInt8) → Int
 | s, [] => s
 | s, w :: l => sz (W (s + W ((w.length : Int) + 1))) l
def asc (ws : List (List UInt8)) : Nat → Nat → Bool
 | 0, _ => true
 | k + 1, i => (i == 0 || decide (ws.getD (i - 1) default < ws.getD i default)) && asc ws k (i + 1)
theorem zqq {ws : List (List UInt8)} : asc ws ws.length 0 = true ↔ ws.Pairwise (· < ·) := by
 have key : ∀ (k i : Nat), i + k = ws.length → (asc ws k i = true ↔ ∀ j (hj : j < ws.length), i ≤ j → 0 < j → ws[j - 1]'(by omega) < ws[j]) := by
  intro k
  induction k with
  | zero => intro i hi; exact ⟨fun _ j hj h1 h2 => by omega, fun _ => rfl⟩
  | succ k ih =>
   intro i hi
   have hil : i < ws.length := by omega
   unfold asc
   rw [Bool.and_eq_true, Bool.or_eq_true, beq_iff_eq, decide_eq_true_eq, ih (i + 1) (by omega), q8 hil, q8 (show i - 1 < ws.length by omega)]
   constructor
   ·rintro ⟨h1, h2⟩ j hj h3 h4
    by_cases e : i = j
    ·subst e
     rcases h1 with h1 | h1
     ·omega
     ·exact h1
    ·exact h2 j hj (by omega) h4
   ·intro h1
    refine ⟨?_, fun j hj h3 h4 => h1 j hj (by omega) h4⟩
    by_cases e : i = 0
    ·exact .inl e
    ·exact .inr (h1 i hil (Nat.le_refl _) (by omega))
 rw [key ws.length 0 (by omega), List.pairwise_iff_getElem]
 constructor
 ·intro h i j hi hj hij
  have : ∀ (d i : Nat) (hi : i + d + 1 < ws.length), ws[i]'(by omega) < ws[i + d + 1] := by
   intro d
   induction d with
   | zero => intro i hi; exact h (i + 1) hi (Nat.zero_le _) (by omega)
   | succ d ih =>
    intro i hi
    exact List.lt_trans (ih i (by omega)) (h (i + (d + 1) + 1) hi (Nat.zero_le _) (by omega))
  have := this (j - i - 1) i (by omega)
  rwa [show ws[i + (j - i - 1) + 1]'(by omega) = ws[j] from by congr 1; omega] at this
 ·intro h j hj _ h4
  exact h (j - 1) j (by omega) hj (by omega)
theorem z2y {ws : List (List UInt8)} {i : Nat} (h : i < ws.length) : ws.getD i default = ws[i] := q8 h
theorem zc9 {ws : List (List UInt8)} {i : Nat} (hi : i < ws.length) (hw : ws[i].length ≤ 4000000000000000) {s : Int} : ∀ (k j : Nat), j + k = ws[i].length →
 jx none ws s (i : Int) (j : Int) = if (ws[i].drop j).all wb = true then ju none ws s (i : Int) else some (.inr false)
 | 0, j, h => by
  have hj : j = ws[i].length := by omega
  subst hj
  unfold jx
  rw [List.drop_length, List.all_nil, if_pos rfl]
  refine zr ?_
  unfold qw
  simp only [Int.toNat_natCast, z2y hi]
  rw [if_neg (by simp)]
 | k + 1, j, h => by
  have hj : j < ws[i].length := by omega
  unfold jx
  rw [List.drop_eq_getElem_cons hj, List.all_cons]
  cases hb : wb ws[i][j] with
  | true =>
   rw [Bool.true_and, zx (s' := ((j + 1 : Nat) : Int)) ?_]
   ·exact zc9 hi hw k (j + 1) (by omega)
   ·unfold qw
    simp only [Int.toNat_natCast, z2y hi]
    rw [if_pos (by simp; omega), if_pos (by omega), z8n hj, zad, Option.bind_some, hb, if_neg (by simp), Wi (by omega)]
  | false =>
   rw [Bool.false_and, if_neg (by simp)]
   refine zr ?_
   unfold qw
   simp only [Int.toNat_natCast, z2y hi]
   rw [if_pos (by simp; omega), if_pos (by omega), z8n hj, zad, Option.bind_some, hb, if_pos (by simp)]
   rfl
theorem zlh {ws : List (List UInt8)} (hl : ws.length ≤ 4000000000000000) (hw : ∀ w ∈ ws, w.length ≤ 4000000000000000) : ∀ (k i : Nat) (s : Int), i + k = ws.length →
 jy none ws s (i : Int) = some (asc ws k i && (ws.drop i).all g && (decide ((ws.length : Int) ≤ 400) && decide (sz s (ws.drop i) ≤ 2001)))
 | 0, i, s, h => by
  have hi : i = ws.length := by omega
  subst hi
  unfold jy
  rw [List.drop_length, List.all_nil]
  refine zr ?_
  unfold qx
  rw [if_neg (by simp)]
  unfold vl
  simp only [List.length_map]
  rfl
 | k + 1, i, s, h => by
  have hi : i < ws.length := by omega
  have hwi := hw _ (List.getElem_mem hi)
  unfold jy
  rw [List.drop_eq_getElem_cons hi, List.all_cons]
  have hst : qx none ws s (i : Int) = if (g ws[i] && (i == 0 || decide (ws.getD (i - 1) default < ws.getD i default))) = true then some (.inl (W (s + W ((ws[i].length : Int) + 1)), ((i + 1 : Nat) : Int))) else some (.inr false) := by
   unfold qx
   simp only [List.length_map, Int.toNat_natCast, z2y hi]
   rw [if_pos (by simp; omega), if_pos (by omega), if_pos (by intro h2; simp only [Bool.and_eq_true, beq_iff_eq, decide_eq_true_eq] at h2; rw [zr5 (by unfold inR; omega)]; omega), bytesLess_eq]
   have hc : ((decide ((i : Int) > 0)) && !decide (ws.getD (W ((i : Int) - 1)).toNat default < ws[i])) = !(i == 0 || decide (ws.getD (i - 1) default < ws[i])) := by
    by_cases e : i = 0
    ·subst e; simp
    ·have hw' : (W ((i : Int) - 1)).toNat = i - 1 := by rw [zr5 (by unfold inR; omega)]; omega
     rw [hw', decide_eq_true (by omega : (i : Int) > 0), show (i == 0) = false by simpa using e, Bool.true_and, Bool.false_or]
   rw [hc]
   have hch := zc9 hi hwi (s := s) ws[i].length 0 (by omega)
   rw [List.drop_zero] at hch
   unfold g
   cases h1 : ws[i] == ([] : List UInt8) with
   | true => rw [if_pos (by simp), if_neg (by simp)]; rfl
   | false =>
    cases h2 : (i == 0 || decide (ws.getD (i - 1) default < ws[i])) with
    | false => rw [if_pos (by simp), if_neg (by simp)]; rfl
    | true =>
     rw [if_neg (by simp)]
     refine hch.trans ?_
     unfold ju
     simp only [Int.toNat_natCast, z2y hi]
     rw [Wi (i := i) (by omega)]
     cases ws[i].all wb <;> simp
  by_cases hc : (g ws[i] && (i == 0 || decide (ws.getD (i - 1) default < ws.getD i default))) = true
  ·rw [if_pos hc] at hst
   rw [zx hst]
   refine (zlh hl hw k (i + 1) _ (by omega)).trans ?_
   rw [Bool.and_eq_true] at hc
   rw [hc.1, show asc ws (k + 1) i = ((i == 0 || decide (ws.getD (i - 1) default < ws.getD i default)) && asc ws k (i + 1)) from rfl, hc.2, Bool.true_and, Bool.true_and]
   rfl
  ·rw [if_neg hc] at hst
   refine (zr (x := some false) hst).trans ?_
   rw [show asc ws (k + 1) i = ((i == 0 || decide (ws.getD (i - 1) default < ws.getD i default)) && asc ws k (i + 1)) from rfl]
   congr 1
   cases h1 : g ws[i] with
   | false => simp
   | true =>
    rw [h1, Bool.true_and] at hc
    rw [Bool.eq_false_iff.2 hc]; rfl
theorem zbi {ws : List (List UInt8)} {i : Nat} (hi : i < ws.length) (hw : ws[i].length ≤ 4000000000000000) {s : Int} : ∀ (k j : Nat) (b : Bool), j + k = ws[i].length →
 xw none ws s (i : Int) b (j : Int) = xq none ws s (i : Int) (b && (ws[i].drop j).all wb)
 | 0, j, b, h => by
  have hj : j = ws[i].length := by omega
  subst hj
  unfold xw
  rw [List.drop_length, List.all_nil, Bool.and_true]
  refine zr ?_
  unfold qm
  simp only [Int.toNat_natCast, z2y hi]
  rw [if_neg (by simp)]
 | k + 1, j, b, h => by
  have hj : j < ws[i].length := by omega
  unfold xw
  rw [List.drop_eq_getElem_cons hj, List.all_cons, ← Bool.and_assoc, zx (s' := (b && wb ws[i][j], ((j + 1 : Nat) : Int))) ?_]
  ·exact zbi hi hw k (j + 1) _ (by omega)
  ·unfold qm
   simp only [Int.toNat_natCast, z2y hi]
   rw [if_pos (by simp; omega), if_pos (by intro _; omega), Wi (by omega)]
   cases b with
   | true => rw [if_pos (by simp), z8n hj, zlt, Option.bind_some]
   | false => rw [if_neg (by simp), Option.bind_some]; rfl
theorem zhi {ws : List (List UInt8)} (hl : ws.length ≤ 4000000000000000) (hw : ∀ w ∈ ws, w.length ≤ 4000000000000000) : ∀ (k i : Nat) (s : Int) (b : Bool), i + k = ws.length →
 xr none ws s b (i : Int) = some (b && (ws.drop i).all g && decide (sz s (ws.drop i) ≤ 2001))
 | 0, i, s, b, h => by
  have hi : i = ws.length := by omega
  subst hi
  unfold xr
  rw [List.drop_length, List.all_nil, Bool.and_true]
  refine zr ?_
  unfold qk
  rw [if_neg (by simp)]
  rfl
 | k + 1, i, s, b, h => by
  have hi : i < ws.length := by omega
  have hwi := hw _ (List.getElem_mem hi)
  unfold xr
  rw [List.drop_eq_getElem_cons hi, List.all_cons, ← Bool.and_assoc, zx (s' := (W (s + W ((ws[i].length : Int) + 1)), b && g ws[i], ((i + 1 : Nat) : Int))) ?_]
  ·exact zhi hl hw k (i + 1) _ _ (by omega)
  ·unfold qk
   simp only [List.length_map, Int.toNat_natCast, z2y hi]
   rw [if_pos (by simp; omega), if_pos (by omega)]
   have hch := zbi hi hwi (s := s) ws[i].length 0 (b && !(ws[i] == ([] : List UInt8))) (by omega)
   rw [List.drop_zero] at hch
   refine hch.trans ?_
   unfold xq g
   simp only [Int.toNat_natCast, z2y hi]
   rw [Wi (i := i) (by omega), Bool.and_assoc]
def vW (ws : List (List UInt8)) : Bool := asc ws ws.length 0 && ws.all g && (decide ((ws.length : Int) ≤ 400) && decide (sz 0 ws ≤ 2001))
theorem z3c {ws : List (List UInt8)} (hl : ws.length ≤ 4000000000000000) (hw : ∀ w ∈ ws, w.length ≤ 4000000000000000) : vd none ws = some (vW ws) := by
 have := zlh hl hw ws.length 0 0 (by omega)
 rw [List.drop_zero] at this
 exact this
theorem z12 {ws : List (List UInt8)} (hl : ws.length ≤ 4000000000000000) (hw : ∀ w ∈ ws, w.length ≤ 4000000000000000) : xn none ws = some (vW ws) := by
 have hr := fun b => zhi hl hw ws.length 0 0 b (by omega)
 unfold xn vW
 simp only [List.length_map]
 by_cases h4 : (ws.length : Int) ≤ 400
 ·rw [if_pos (by simp; omega), zp1 (by omega), Option.bind_some, if_pos (by simp; omega), zpl (by omega), Option.bind_some]
  refine (hr _).trans ?_
  rw [List.drop_zero, decide_eq_true h4, Bool.true_and, Bool.true_and]
  congr 3
  rw [Bool.eq_iff_iff, decide_eq_true_eq, zqq]
  exact ⟨fun e => by rw [e]; exact Qv _, fun h => z8c h (Qv _) fun x => sortS_mem.symm⟩
 ·rw [if_neg (by simp; omega), Option.bind_some, if_neg (by simp; omega), Option.bind_some]
  refine (hr _).trans ?_
  rw [decide_eq_false h4, Bool.false_and, Bool.false_and, Bool.false_and, Bool.false_and, Bool.and_false]
end Go.Proofs.YteepckliibfnkaaGreatDoor
