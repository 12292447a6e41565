/-
  Own framework.
-/
import Derived.Test.YteepckliibfnkaaGreatDoorFxSo
import Derived.Shelf.SortM.Plain
import Derived.Shelf.SortM.SortNone
import Derived.Shelf.SlicesG.CompactS
namespace Go.Fx
open Go.Shelf Go.RowKit Go.Lib Go.Sort Go.Proofs
set_option linter.unusedVariables false
section
variable {P : Program} {I : Nat → Nat → Prop} {β : Id → Option CLoc} {n : Nat} {w w' : World} {α : Type} [Inhabited α]
theorem z56 {e : α → List AVal} {k : Nat} (hk0 : 0 < k) (he : ∀ x, (e x).length = k ∧ (e x).all Xt = true) {l : List α} {fl : Bool} {v0 : Value} (hI : Inv I β n [((0, 0), .rows k (l.map e))] w) (hs0 : Rep I β n w (.msl (0, 0) k 0 l.length fl) v0) :
 ∃ c a cap, β (0, 0) = some c ∧ v0 = .slice a l.length cap ∧ l.length ≤ cap ∧ (l ≠ [] → a = some ⟨c.blk, c.base, none⟩ ∧ HoldsK (ux e) k w c.blk c.base l.toArray ∧ c.blk < w.heap.size ∧ c.lo ≤ c.base ∧ c.base + l.length * k ≤ c.size) ∧
  (∀ cc, β (0, 0) = some cc → cc.s = k ∧ (cap ≠ 0 → a = some ⟨cc.blk, cc.base + 0 * k, none⟩ ∧ cc.base + (0 + cap) * k ≤ cc.size)) ∧ (a = none → cap = 0) := by
 obtain ⟨c, hc, h1, hA, h3, h4, h5, h6, h7⟩ := hI.blocks (0, 0) _ rfl
 obtain ⟨a, cap, rfl, q1, q2, q3⟩ : ∃ a cap, v0 = .slice a l.length cap ∧ (l.length ≤ cap ∧ (a = none → cap = 0)) ∧ (fl = true → cap = l.length) ∧ (∀ c, β (0, 0) = some c → c.s = k ∧ (cap ≠ 0 → a = some ⟨c.blk, c.base + 0 * k, none⟩ ∧ c.base + (0 + cap) * k ≤ c.size)) := by
  cases hs0 with
  | imm _ _ h => cases h
  | msl _ _ _ _ _ a cap _ g1 g2 g3 => exact ⟨a, cap, rfl, g1, g2, g3⟩
 refine ⟨c, a, cap, hc, rfl, q1.1, fun hnil => ?_, q3, q1.2⟩
 have hlen : 0 < l.length := List.length_pos_iff.2 hnil
 obtain ⟨hcs, hap⟩ := q3 c hc
 obtain ⟨rfl, hcap⟩ := hap (by omega)
 have hlen' : (l.map e).length = l.length := by simp
 rw [hlen'] at h5
 have hH : HoldsK (ux e) k w c.blk c.base l.toArray := by
  intro j hj
  rw [size_flatK] at hj
  simp only [List.size_toArray] at hj
  have hi : j / k < l.length := (Nat.div_lt_iff_lt_mul hk0).2 hj
  have hm : j % k < k := Nat.mod_lt _ hk0
  have hx : (l.map e)[j / k]? = some (e l[j / k]) := by rw [List.getElem?_map, List.getElem?_eq_getElem hi]; rfl
  have hcell : (e l[j / k])[j % k]? = some ((e l[j / k])[j % k]'(by rw [(he _).1]; exact hm)) := List.getElem?_eq_getElem _
  obtain ⟨v, g1, g2, g3⟩ := h7 (j / k) _ (j % k) _ hx hcell
  have hflat := List.all_eq_true.1 (he l[j / k]).2 _ (List.getElem_mem (by rw [(he _).1]; exact hm))
  have := z3u hflat g3
  subst this
  have hjj : c.base + j = c.base + j / k * k + j % k := by rw [Nat.add_assoc, Nat.mul_comm (j / k) k, Nat.div_add_mod]
  constructor
  ·rw [hjj, g1, get_flatK _ _ _ _ (by simpa using hj)]
   congr 1
   have : (l.toArray)[j / k]! = l[j / k] := by simp [hi]
   rw [this]
   unfold ux
   rw [getElem!_pos _ _ (by rw [List.length_map, (he _).1]; exact hm), List.getElem_map]; rfl
  ·refine h3 _ (by omega) ?_
   have : j < l.length * k := hj
   omega
 exact ⟨by rw [Nat.zero_mul, Nat.add_zero], hH, uc (hH 0 (by simp; exact Nat.mul_pos hlen hk0)).1, h4, h5⟩
theorem z1k {e : α → List AVal} {k : Nat} (hk0 : 0 < k) (he : ∀ x, (e x).length = k ∧ (e x).all Xt = true) {l : List α} {c : CLoc} (hI : Inv I β n [((0, 0), .rows k (l.map e))] w) (hc : β (0, 0) = some c) (hnil : l ≠ [])
 (hH : HoldsK (ux e) k w c.blk c.base l.toArray) (hblk : c.blk < w.heap.size) (h4 : c.lo ≤ c.base) (h5 : c.base + l.length * k ≤ c.size) (d : Array α) (hd : d.size = l.length) (m : Nat) (os : Array Obj) :
 Inv I β n [((0, 0), .rows k (d.toList.map e))] (sortWorldK (ux e) k w c.blk c.base m d os) ∧ Ext I β n [((0, 0), .rows k (l.map e))] w I β n [((0, 0), .rows k (d.toList.map e))] (sortWorldK (ux e) k w c.blk c.base m d os) := by
 have hlen : 0 < l.length := List.length_pos_iff.2 hnil
 have hrow : ∀ (d : List α) (i : Nat) (r : List AVal), (d.map e)[i]? = some r → ∃ x, d[i]? = some x ∧ r = e x := fun d i r hr => by
  rw [List.getElem?_map] at hr
  obtain ⟨x, hx, rfl⟩ := Option.map_eq_some_iff.1 hr
  exact ⟨x, hx, rfl⟩
 have hchg := U0 (m := m) (os := os) (d := d) hk0 hH (by simpa using hd) (by simpa using hlen) h4 (by simpa using h5)
 have hH2 := holdsK_sortWorldK_c (ux e) k w c.blk c.base l.toArray d m os hH hblk (by simpa using hd)
 refine Qg hI (b := (0, 0)) (es' := d.toList.map e) rfl hc hchg (by simp [hd]) (fun i r hr => by obtain ⟨x, _, rfl⟩ := hrow _ i r hr; exact (he x).1) (fun i r j x hi hj => ?_)
 obtain ⟨y, hy, rfl⟩ := hrow _ i r hi
 have hjk : j < k := by
  rcases Nat.lt_or_ge j k with h' | h'
  ·exact h'
  ·rw [List.getElem?_eq_none (by rw [(he y).1]; exact h')] at hj; cases hj
 have hil : i < d.size := by
  rcases Nat.lt_or_ge i d.size with h' | h'
  ·exact h'
  ·rw [List.getElem?_eq_none (by simpa using h')] at hy; cases hy
 have hij : i * k + j < d.size * k := by
  have : (i + 1) * k ≤ d.size * k := Nat.mul_le_mul_right _ (by omega)
  rw [Nat.add_mul] at this; omega
 have hflat := List.all_eq_true.1 (he y).2 x (List.mem_of_getElem? hj)
 have hcell := (hH2 (i * k + j) (by rw [size_flatK]; exact hij)).1
 rw [get_flatK _ _ _ _ hij] at hcell
 have d1 : (i * k + j) / k = i := by rw [Nat.mul_comm, Nat.mul_add_div hk0, Nat.div_eq_of_lt hjk]; rfl
 have d2 : (i * k + j) % k = j := by rw [Nat.mul_comm, Nat.mul_add_mod, Nat.mod_eq_of_lt hjk]
 rw [d1, d2] at hcell
 refine ⟨zce x, ?_, z0i hflat, .imm _ _ (zpk hflat)⟩
 rw [Nat.add_assoc, hcell]
 congr 1
 have hgi : d[i]! = y := by
  rw [Array.getElem?_toList] at hy
  rw [Array.getElem!_eq_getD, Array.getD_eq_getD_getElem?, hy]; rfl
 rw [hgi]
 unfold ux
 rw [getElem!_pos _ _ (by rw [List.length_map, (he y).1]; exact hjk), List.getElem_map]
 rw [List.getElem?_eq_getElem (by rw [(he y).1]; exact hjk)] at hj
 simp only [Option.some.injEq] at hj
 rw [hj]; rfl
def e1 (s : List UInt8) : List AVal := [.str s]
theorem z40 (x : List UInt8) : (e1 x).length = 1 ∧ (e1 x).all Xt = true := ⟨rfl, rfl⟩
theorem y0n (d : Array (List UInt8)) : flatK (ux e1) 1 d = d.map encStr := by
 refine Array.ext (by simp) fun i h1 h2 => ?_
 rw [size_flatK] at h1
 have := get_flatK (ux e1) 1 d i h1
 rw [getElem!_pos _ i (by rw [size_flatK]; exact h1)] at this
 rw [this]
 simp only [Nat.mul_one] at h1
 rw [Nat.div_one, Nat.mod_one, Array.getElem_map, getElem!_pos d i h1]
 rfl
theorem zsw {d : Array (List UInt8)} {b o : Nat} (h : HoldsK (ux e1) 1 w b o d) : Holds encStr w b o d := fun j hj => by
 have := h j (by rw [size_flatK, Nat.mul_one]; exact hj)
 rw [y0n, getElem!_pos _ j (by simpa using hj), Array.getElem_map] at this
 rw [getElem!_pos d j hj]
 exact this
theorem zht (b o : Nat) (d : Array (List UInt8)) : putRow encStr w b o d = putRowK (ux e1) 1 w b o d := by
 unfold putRowK
 rw [y0n]
 unfold putRow
 congr 1
 unfold putCells
 funext cs
 simp only [Array.size_map]
 congr 1
 funext i v
 split
 ·rename_i h
  rw [getElem!_pos d _ (by omega), getElem!_pos (d.map encStr) _ (by rw [Array.size_map]; omega), Array.getElem_map]; rfl
 ·rfl
def Jw (l : List (List UInt8)) : List (List UInt8) := l.mergeSort fun x y => decide (x ≤ y)
theorem Qy (l : List (List UInt8)) : (Jw l).Perm l := List.mergeSort_perm _ _
theorem z0k (l : List (List UInt8)) : (Jw l).Pairwise (· ≤ ·) := by
 have := List.pairwise_mergeSort (le := fun x y : List UInt8 => decide (x ≤ y)) (fun x y z h1 h2 => by simp only [decide_eq_true_eq] at *; exact List.le_trans h1 h2) (fun x y => by simp only [Bool.or_eq_true, decide_eq_true_eq]; exact List.le_total x y) l
 exact this.imp fun h => by simpa using h
theorem z7i {ρ : Ren} (L : SlLaysM.n6 P ρ) (hok : Z9 P (ρ.f 6)) {f : FuncId} (hf : ρ.f 6 = f) (l : List (List UInt8)) (hl : l.length < 4611686018427387904) (fl : Bool) :
 ACalls P f [.msl (0, 0) 1 0 l.length fl] [((0, 0), .rows 1 (l.map e1))] 3 (Qd 3 (.tup []) [((0, 0), .rows 1 ((Jw l).map e1))]) := by
 subst hf
 refine ⟨hok, fun I β w vs hI hlen hr => ?_⟩
 match vs, hlen with
 | [v0], _ =>
 obtain ⟨c, a, cap, hc, rfl, hcap, hH, _, _⟩ := z56 Nat.one_pos z40 hI (hr 0 _ _ rfl rfl)
 show Calls P (ρ.f 6) #[.slice a l.length cap] w _
 by_cases hnil : l = []
 ·subst hnil
  refine (AnyM.slices_Sort_string_none L a cap w).mono ?_
  rintro r w' ⟨rfl, rfl⟩
  exact ⟨_, _, _, _, I, β, rfl, ⟨rfl, rfl, rfl⟩, by unfold Jw; simpa using hI, .tup [] #[] rfl (fun i x v h => by simp at h), by unfold Jw; simpa using Ext.refl _ _ _ _ _ hI.fresh⟩
 ·obtain ⟨rfl, h1, h2, h3, h4⟩ := hH hnil
  refine (AnyM.slices_Sort_string L c.blk c.base cap l w (zsw h1) h2 hl).mono ?_
  rintro r w' ⟨rfl, m, os, rfl⟩
  rw [zht]
  have hlen : (Jw l).toArray.size = l.length := by simp [Jw, (List.mergeSort_perm l _).length_eq]
  obtain ⟨g1, g2⟩ := z1k Nat.one_pos z40 hI hc hnil h1 h2 h3 h4 (Jw l).toArray hlen m os
  exact ⟨_, _, _, _, I, β, rfl, ⟨rfl, rfl, rfl⟩, g1, .tup [] #[] rfl (fun i x v h => by simp at h), g2⟩
def z16 (l : List (List UInt8)) : List (List UInt8) := Lib.compact l ++ List.replicate (l.length - (Lib.compact l).length) []
theorem z33 (l : List (List UInt8)) : (Lib.compact l).length ≤ l.length := by
 unfold Lib.compact compactUpTo
 rw [List.length_map]
 have := List.length_filter_le (keeps l.toArray) (List.range l.length)
 rwa [List.length_range] at this
theorem z5n (l : List (List UInt8)) : (z16 l).length = l.length := by
 have := z33 l
 unfold z16
 rw [List.length_append, List.length_replicate]; omega
theorem z14 {ρ : Ren} (L : SlLaysN.n44 P ρ) (hok : Z9 P (ρ.f 44)) {f : FuncId} (hf : ρ.f 44 = f) (l : List (List UInt8)) (hl : l.length ≤ 9223372036854775807) (fl : Bool) :
 ACalls P f [.msl (0, 0) 1 0 l.length fl] [((0, 0), .rows 1 (l.map e1))] 3 (Qd 3 (.msl (0, 0) 1 0 (Lib.compact l).length false) [((0, 0), .rows 1 ((z16 l).map e1))]) := by
 subst hf
 refine ⟨hok, fun I β w vs hI hlen hr => ?_⟩
 match vs, hlen with
 | [v0], _ =>
 obtain ⟨c, a, cap, hc, rfl, hcap, hH, hall, hnone⟩ := z56 Nat.one_pos z40 hI (hr 0 _ _ rfl rfl)
 show Calls P (ρ.f 44) #[.slice a l.length cap] w _
 by_cases hnil : l = []
 ·subst hnil
  refine (AnyG.slices_Compact_string_empty L a cap w).mono ?_
  rintro r w' ⟨rfl, rfl⟩
  exact ⟨_, _, _, _, I, β, rfl, ⟨rfl, rfl, rfl⟩, hI, .msl _ _ _ _ _ a cap (by decide) ⟨hcap, hnone⟩ (fun h => by cases h) hall, Ext.refl _ _ _ _ _ hI.fresh⟩
 ·obtain ⟨rfl, h1, h2, h3, h4⟩ := hH hnil
  refine (AnyG.slices_Compact_string L c.blk c.base cap l w (zsw h1) hl hcap).mono ?_
  rintro r w' ⟨rfl, m, rfl⟩
  rw [zht]
  have hlen : (z16 l).toArray.size = l.length := by simp [z5n]
  obtain ⟨g1, g2⟩ := z1k Nat.one_pos z40 hI hc hnil h1 h2 h3 h4 (z16 l).toArray hlen m #[]
  have hw : sortWorldK (ux e1) 1 w c.blk c.base m (z16 l).toArray #[] = putRowK (ux e1) 1 (Sort.ahead w m) c.blk c.base (z16 l).toArray := by unfold sortWorldK; rw [grow_empty]
  rw [hw] at g1 g2
  exact ⟨_, _, _, _, I, β, rfl, ⟨rfl, rfl, rfl⟩, g1, .msl _ _ _ _ _ _ cap (by decide) ⟨Nat.le_trans (z33 l) hcap, hnone⟩ (fun h => by cases h) hall, g2⟩
end
section
variable {P : Program} {I : Nat → Nat → Prop} {β : Id → Option CLoc} {n : Nat} {w w' : World} {α : Type}
def zyq : AVal → Bool
 | .bool _ => true
 | .int _ _ => true
 | .str _ => true
 | .isl _ _ _ => true
 | _ => false
theorem zt4 {x : AVal} (h : zyq x = true) {v : Value} (hr : Rep I β n w x v) : RepI I w x v := by
 cases x with
 | bool b => cases hr with | imm _ _ g => exact g
 | int k m => cases hr with | imm _ _ g => exact g
 | str l => cases hr with | imm _ _ g => exact g
 | isl s es f => cases hr with | imm _ _ g => exact g
 | _ => cases h
noncomputable def z5u {τ : Type} (cf : τ → τ → Int) (l : List τ) : Option (List τ) := by
 classical exact if h : SWO (ltOf cf) ∧ l.length < 4611686018427387904 ∧ ∃ r, ∀ r' : List τ, r'.Perm l → (r'.Pairwise fun x y => ltOf cf y x = false) → r' = r then some (Classical.choose h.2.2) else none
theorem zd5 {τ : Type} {cf : τ → τ → Int} {l r : List τ} (h : z5u cf l = some r) : SWO (ltOf cf) ∧ l.length < 4611686018427387904 ∧ ∀ r' : List τ, r'.Perm l → (r'.Pairwise fun x y => ltOf cf y x = false) → r' = r := by
 unfold z5u at h
 split at h
 ·rename_i hc
  simp only [Option.some.injEq] at h
  subst h
  exact ⟨hc.1, hc.2.1, Classical.choose_spec hc.2.2⟩
 ·cases h
theorem zbp [Inhabited α] {cf : α → α → Int} {l r : List α} (h1 : SWO (ltOf cf)) (h2 : l.length < 4611686018427387904) (hr : ∀ r' : List α, r'.Perm l → (r'.Pairwise fun x y => ltOf cf y x = false) → r' = r) : z5u cf l = some r := by
 have hc : SWO (ltOf cf) ∧ l.length < 4611686018427387904 ∧ ∃ r, ∀ r' : List α, r'.Perm l → (r'.Pairwise fun x y => ltOf cf y x = false) → r' = r := ⟨h1, h2, r, hr⟩
 unfold z5u
 rw [dif_pos hc]
 have h3 := Classical.choose_spec hc.2.2
 obtain ⟨p1, p2⟩ := Jm h1 l
 rw [← h3 _ p1 p2, hr _ p1 p2]
def y2o (I : Nat → Nat → Prop) (w : World) (e : α → List AVal) (k : Nat) (p : α × List Value) : Prop := p.2.length = k ∧ (∀ v ∈ p.2, xf v = true) ∧ ∀ (i : Nat) (y : AVal) (v : Value), (e p.1)[i]? = some y → p.2[i]? = some v → RepI I w y v
theorem Kt {ρ : Ren} (L : SlLaysF0.n6 P ρ) {k : Nat} (hk0 : 0 < k) (aE : ∀ w, (isAgg (ρ.t 24)).run P w = .ok true w) (zE : ∀ w, (Go.sizeOf (ρ.t 24)).run P w = .ok k w) (e : α → List AVal) (he : ∀ x, (e x).length = k ∧ (e x).all zyq = true) (cf : α → α → Int) (g : Nat)
 (eg : ∀ args w, (callFunc g args).run P w = .ok (.enter g args) w) (hcmp : ∀ x y, PFn P g [.agg (e x), .agg (e y)] (.int .i64 (cf x y)))
 (hok : Z9 P (ρ.f 6)) {f : FuncId} (hf : ρ.f 6 = f) {l r : List α} (hr0 : z5u cf l = some r) (fl : Bool) :
 ACalls P f [.msl (0, 0) k 0 l.length fl, .fn (.func g) [] []] [((0, 0), .rows k (l.map e))] 3 (Qd 3 (.tup []) [((0, 0), .rows k (r.map e))]) := by
 subst hf
 obtain ⟨hO, hl, hU⟩ := zd5 hr0
 refine ⟨hok, fun I β w vs hI hlen hr => ?_⟩
 match vs, hlen with
 | [v0, v1], _ =>
 obtain ⟨c, hc, h1, hA, h3, h4, h5, h6, h7⟩ := hI.blocks (0, 0) _ rfl
 have hv1 : v1 = .func (.func g) #[] #[] := by
  have hf := hr 1 _ _ rfl rfl
  cases hf with
  | imm _ _ h =>
   cases h with
   | fn _ _ _ fs cs q1 q2 _ _ => rw [Array.eq_empty_of_size_eq_zero q1, Array.eq_empty_of_size_eq_zero q2]
  | fn _ _ _ fs cs q1 q2 _ _ => rw [Array.eq_empty_of_size_eq_zero q1, Array.eq_empty_of_size_eq_zero q2]
 subst hv1
 have hs0 := hr 0 _ _ rfl rfl
 obtain ⟨a, cap, rfl, q1, q2, q3⟩ : ∃ a cap, v0 = .slice a l.length cap ∧ (l.length ≤ cap ∧ (a = none → cap = 0)) ∧ (fl = true → cap = l.length) ∧ (∀ c, β (0, 0) = some c → c.s = k ∧ (cap ≠ 0 → a = some ⟨c.blk, c.base + 0 * k, none⟩ ∧ c.base + (0 + cap) * k ≤ c.size)) := by
  cases hs0 with
  | imm _ _ h => cases h
  | msl _ _ _ _ _ a cap _ g1 g2 g3 => exact ⟨a, cap, rfl, g1, g2, g3⟩
 have hrow : ∀ (d : List α) (i : Nat) (r : List AVal), (d.map e)[i]? = some r → ∃ x, d[i]? = some x ∧ r = e x := fun d i r hr => by
  rw [List.getElem?_map] at hr
  obtain ⟨x, hx, rfl⟩ := Option.map_eq_some_iff.1 hr
  exact ⟨x, hx, rfl⟩
 show Calls P (ρ.f 6) #[.slice a l.length cap, .func (.func g) #[] #[]] w _
 by_cases hnil : l = []
 ·subst hnil
  refine (AnyF.slices_SortFunc_none L a cap _ w).mono ?_
  rintro r w' ⟨rfl, rfl⟩
  have := hU [] (List.Perm.refl _) List.Pairwise.nil
  rw [← this]
  exact ⟨_, _, _, _, I, β, rfl, ⟨rfl, rfl, rfl⟩, hI, .tup [] #[] rfl (fun i x v h => by simp at h), Ext.refl _ _ _ _ _ hI.fresh⟩
 ·have hlen : 0 < l.length := List.length_pos_iff.2 hnil
  obtain ⟨hcs, hap⟩ := q3 c hc
  obtain ⟨rfl, hcap⟩ := hap (by omega)
  have hlen' : (l.map e).length = l.length := by simp
  rw [hlen'] at h5
  -- the rows with their values
  have hex : ∀ i (hi : i < l.length), ∃ p : {p : α × List Value // y2o I w e k p}, p.1.1 = l[i] ∧ ∀ j, j < k → w.cell? ⟨c.blk, c.base + i * k + j, none⟩ = p.1.2[j]? := fun i hi => by
   have hx : (l.map e)[i]? = some (e l[i]) := by rw [List.getElem?_map, List.getElem?_eq_getElem hi]; rfl
   have hv : ∀ j : Fin k, ∃ v, w.cell? ⟨c.blk, c.base + i * k + j.1, none⟩ = some v ∧ xf v = true ∧ RepI I w ((e l[i])[j.1]'(by rw [(he _).1]; exact j.2)) v := fun j => by
    obtain ⟨v, g1, g2, g3⟩ := h7 i _ j.1 _ hx (List.getElem?_eq_getElem (by rw [(he _).1]; exact j.2))
    exact ⟨v, g1, g2, zt4 (List.all_eq_true.1 (he l[i]).2 _ (List.getElem_mem _)) g3⟩
   refine ⟨⟨(l[i], List.ofFn fun j : Fin k => Classical.choose (hv j)), by simp, fun v hv' => ?_, fun q y v hy hv' => ?_⟩, rfl, fun j hj => ?_⟩
   ·obtain ⟨j, rfl⟩ := List.mem_ofFn.1 hv'
    exact (Classical.choose_spec (hv j)).2.1
   ·have hq : q < k := by
     rcases Nat.lt_or_ge q k with h' | h'
     ·exact h'
     ·rw [List.getElem?_eq_none (by simpa using h')] at hv'; cases hv'
    rw [List.getElem?_eq_getElem (by rw [(he _).1]; exact hq)] at hy
    rw [List.getElem?_eq_getElem (by simpa using hq), List.getElem_ofFn] at hv'
    simp only [Option.some.injEq] at hy hv'
    subst hy; subst hv'
    exact (Classical.choose_spec (hv ⟨q, hq⟩)).2.2
   ·rw [(Classical.choose_spec (hv ⟨j, hj⟩)).1, List.getElem?_eq_getElem (by simpa using hj), List.getElem_ofFn]
  let A := {p : α × List Value // y2o I w e k p}
  haveI : Inhabited A := ⟨Classical.choose (hex 0 hlen)⟩
  let la : List A := List.ofFn fun i : Fin l.length => Classical.choose (hex i.1 i.2)
  have hla : la.length = l.length := by simp [la]
  have hlai : ∀ i (hi : i < l.length), la[i]'(by rw [hla]; exact hi) = Classical.choose (hex i hi) := fun i hi => by simp [la]
  have hlal : la.map (fun p => p.1.1) = l := by
   refine List.ext_getElem (by simp [hla]) fun i h1 h2 => ?_
   rw [List.getElem_map, hlai i h2]
   exact (Classical.choose_spec (hex i h2)).1
  let enc : A → List Value := fun p => p.1.2
  let cfA : A → A → Int := fun p q => cf p.1.1 q.1.1
  have hfk : ∀ x, (enc x).length = k := fun x => x.2.1
  have hone : ∀ x, ∀ v ∈ enc x, v.oneCell' = true := fun x v hv => by
   have := x.2.2.1 v hv
   cases v <;> first | rfl | cases this
  have hOA : SWO (ltOf cfA) := ⟨fun x => hO.irrefl x.1.1, fun x y z h1 h2 => hO.trans x.1.1 y.1.1 z.1.1 h1 h2, fun x y z h1 h2 => hO.ntrans x.1.1 y.1.1 z.1.1 h1 h2⟩
  have hH : HoldsK enc k w c.blk c.base la.toArray := by
   intro j hj
   rw [size_flatK] at hj
   simp only [List.size_toArray, hla] at hj
   have hi : j / k < l.length := (Nat.div_lt_iff_lt_mul hk0).2 hj
   have hm : j % k < k := Nat.mod_lt _ hk0
   have hjj : c.base + j = c.base + j / k * k + j % k := by rw [Nat.add_assoc, Nat.mul_comm (j / k) k, Nat.div_add_mod]
   have hcell := (Classical.choose_spec (hex (j / k) hi)).2 (j % k) hm
   constructor
   ·rw [hjj, hcell, get_flatK _ _ _ _ (by simpa [hla] using hj)]
    have e1 : (la.toArray)[j / k]! = Classical.choose (hex (j / k) hi) := by
     rw [getElem!_pos _ _ (by simpa [hla] using hi), List.getElem_toArray, hlai _ hi]
    rw [e1, getElem!_pos _ _ (by rw [hfk]; exact hm), List.getElem?_eq_getElem (by rw [(Classical.choose (hex (j / k) hi)).2.1]; exact hm)]
    rfl
   ·refine h3 _ (by omega) ?_
    have : j < l.length * k := hj
    omega
  have hblk : c.blk < w.heap.size := uc (hH 0 (by simp [hla]; exact Nat.mul_pos hlen hk0)).1
  have hkeep : ∀ (m : Nat) (os : Array Obj) (dk : Array A), dk.size = la.toArray.size → ∀ b q, I b q → (sortWorldK enc k w c.blk c.base m dk os).cell? ⟨b, q, none⟩ = w.cell? ⟨b, q, none⟩ := fun m os dk hs b q hbq => by
   have hchg := U0 (m := m) (os := os) (d := dk) hk0 hH hs (by simpa [hla] using hlen) h4 (by simpa [hla] using h5)
   obtain ⟨v, hv⟩ := hI.imm b q hbq
   exact hchg.cell b q (uc hv) (fun hh => (hI.own (0, 0) c b q hc hh).1 hbq)
  have hC := AnyQ.slices_SortFunc_eq L k aE zE enc hfk hone cfA hOA g #[] c.blk c.base cap la.toArray w eg (fun m os dk hs x y => by
   obtain ⟨_, n', hokg, hcc⟩ := hcmp x.1.1 y.1.1
   have hk := hkeep m os dk (by simpa using hs)
   have hW : Inv I (fun _ => none) 0 [] (sortWorldK enc k w c.blk c.base m dk os) := ⟨(fun _ _ h => nomatch h), (fun _ _ _ _ _ _ h => nomatch h), (fun _ _ _ _ h => nomatch h), (fun b q hbq => by rw [hk b q hbq]; exact hI.imm b q hbq), fun _ _ => rfl⟩
   have ag : ∀ z : A, RepI I (sortWorldK enc k w c.blk c.base m dk os) (.agg (e z.1.1)) (.agg (enc z).toArray) := fun z => by
    refine .agg _ _ (by simp [enc, z.2.1, (he _).1]) (fun v hv => z.2.2.1 v (by simpa using hv)) (fun i u v hu hv => ?_)
    exact (z.2.2.2 i u v hu (by simpa using hv)).mono (fun _ _ h => h) hk
   refine ((hcc _ _ _ [.agg (enc x).toArray, .agg (enc y).toArray] hW rfl (fun i u v hu hv => ?_)).mono ?_)
   ·match i with
    | 0 => simp only [List.getElem?_cons_zero, Option.some.injEq] at hu hv; subst hu; subst hv; exact .imm _ _ (ag x)
    | 1 => simp only [List.getElem?_cons_succ, List.getElem?_cons_zero, Option.some.injEq] at hu hv; subst hu; subst hv; exact .imm _ _ (ag y)
    | i + 2 => simp at hu
   ·rintro q w' ⟨r', v, H', n', I', β', rfl, ⟨rfl, rfl, rfl⟩, _, hr, hx⟩
    exact ⟨by rw [hr.int_inv], zbz hx⟩) hH hblk (by simpa [hla] using hl)
  simp only [List.size_toArray, hla] at hC
  simp only [Nat.zero_mul, Nat.add_zero]
  refine hC.mono ?_
  rintro r' w' ⟨rfl, m, os, rfl⟩
  obtain ⟨p1, p2⟩ := Jm hOA la
  have hsz := J5 hOA la
  have hrr : (Xp cfA la).map (fun p => p.1.1) = r := by
   refine hU _ ?_ ?_
   ·have := p1.map (fun p : A => p.1.1)
    rwa [hlal] at this
   ·rw [List.pairwise_map]
    exact p2
  unfold Xp at hsz hrr
  rw [hla] at hsz hrr
  generalize pdq (ltOf cfA) la.toArray 0 l.length (Lib.bitLen l.length) true true = dd at hsz hrr ⊢
  have hds : dd.size = l.length := by simpa using hsz
  have hds2 : dd.size = la.toArray.size := by simpa [hla] using hds
  have hchg := U0 (m := m) (os := os) (d := dd) hk0 hH hds2 (by simpa [hla] using hlen) h4 (by simpa [hla] using h5)
  have hH2 := holdsK_sortWorldK_c enc k w c.blk c.base la.toArray dd m os hH hblk hds2
  have hrl : r.length = l.length := by rw [← hrr]; simp [hds]
  obtain ⟨g1, g2⟩ := Qg hI (b := (0, 0)) (es' := r.map e) rfl hc hchg (by simp [hrl]) (fun i r hr => by obtain ⟨x, _, rfl⟩ := hrow _ i r hr; exact (he x).1) (fun i r' j x hi hj => by
   obtain ⟨y, hy, rfl⟩ := hrow _ i r' hi
   have hjk : j < k := by
    rcases Nat.lt_or_ge j k with h' | h'
    ·exact h'
    ·rw [List.getElem?_eq_none (by rw [(he y).1]; exact h')] at hj; cases hj
   have hil : i < dd.size := by
    rcases Nat.lt_or_ge i dd.size with h' | h'
    ·exact h'
    ·rw [← hrr, List.getElem?_eq_none (by simpa using h')] at hy; cases hy
   have hij : i * k + j < dd.size * k := by
    have : (i + 1) * k ≤ dd.size * k := Nat.mul_le_mul_right _ (by omega)
    rw [Nat.add_mul] at this; omega
   have hcell := (hH2 (i * k + j) (by rw [size_flatK]; exact hij)).1
   rw [get_flatK _ _ _ _ hij] at hcell
   have d1 : (i * k + j) / k = i := by rw [Nat.mul_comm, Nat.mul_add_div hk0, Nat.div_eq_of_lt hjk]; rfl
   have d2 : (i * k + j) % k = j := by rw [Nat.mul_comm, Nat.mul_add_mod, Nat.mod_eq_of_lt hjk]
   rw [d1, d2] at hcell
   have hyy : dd[i].1.1 = y := by
    rw [← hrr, List.getElem?_map, List.getElem?_eq_getElem (by simpa using hil)] at hy
    simpa using hy
   rw [getElem!_pos dd i hil, getElem!_pos (enc dd[i]) j (by rw [hfk]; exact hjk)] at hcell
   have hrep := dd[i].2.2.2 j x ((enc dd[i])[j]'(by rw [hfk]; exact hjk)) (by rw [hyy]; exact hj) (List.getElem?_eq_getElem _)
   have hrep2 := hrep.mono (I' := I) (w' := sortWorldK enc k w c.blk c.base m dd os) (fun _ _ h => h) (hkeep m os dd hds2)
   exact ⟨_, by rw [Nat.add_assoc]; exact hcell, dd[i].2.2.1 _ (List.getElem_mem _), .imm _ _ hrep⟩)
  exact ⟨_, _, _, _, I, β, rfl, ⟨rfl, rfl, rfl⟩, g1, .tup [] #[] rfl (fun i x v h => by simp at h), g2⟩
end
end Go.Fx
