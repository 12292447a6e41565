/-
  Own text LawG of this claim: what functions of the given program compute, in plain Lean, and the proof; no condition.
-/
import Derived.Test.YteepckliibfnkaaGreatDoorLaw1
import Derived.Test.YteepckliibfnkaaGreatDoorFxLs
namespace Go.Proofs.YteepckliibfnkaaGreatDoor.J
open Go.Fx Go.Sort
set_option linter.unusedVariables false
def nul : G_QRecord := ⟨[], [], false⟩
def lastR (k : List UInt8) (acc : G_QRecord) (r : G_QRecord) : G_QRecord := if r.f_Key = k then r else acc
def z0s (a0 : List G_QRecord) (k : List UInt8) : G_QRecord := a0.foldl (lastR k) nul
def keepR (a0 : List G_QRecord) (k : List UInt8) : List G_QRecord := if (z0s a0 k).f_Deleted then [] else [z0s a0 k]
def stateR (a0 : List G_QRecord) : List G_QRecord := (Jy (a0.map (·.f_Key))).flatMap (keepR a0)
theorem zh0 {a0 : List G_QRecord} {K : List (List UInt8)} {acc : List G_QRecord} {j : Nat} (ha : a0.length ≤ 100000) (hj : j < K.length) : ∀ (k i : Nat) (r : G_QRecord), i + k = a0.length →
 wl none a0 K acc (j : Int) (i : Int) r.f_Key r.f_Value r.f_Deleted = (fun r : G_QRecord => xy none a0 K acc (j : Int) r.f_Key r.f_Value r.f_Deleted) ((a0.drop i).foldl (lastR K[j]) r)
 | 0, i, r, h => by
  have hi : i = a0.length := by omega
  subst hi
  unfold wl
  rw [List.drop_length, List.foldl_nil]
  refine zr ?_
  unfold j8
  rw [if_neg (by simp)]
 | k + 1, i, r, h => by
  have hi : i < a0.length := by omega
  unfold wl
  rw [zx (s' := (((i + 1 : Nat) : Int), (lastR K[j] r a0[i]).f_Key, (lastR K[j] r a0[i]).f_Value, (lastR K[j] r a0[i]).f_Deleted)) ?_]
  ·have ih := zh0 (K := K) (acc := acc) ha hj k (i + 1) (lastR K[j] r a0[i]) (by omega)
   rw [List.drop_eq_getElem_cons hi, List.foldl_cons]
   exact ih
  ·unfold j8 jz
   simp only [List.length_map, Int.toNat_natCast, q8 hi, q8 hj]
   rw [if_pos (by simp; omega), if_pos (by omega), Wi (by omega)]
   unfold lastR
   by_cases he : a0[i].f_Key = K[j]
   ·rw [if_pos (by simpa using he), if_pos he]
   ·rw [if_neg (by simpa using he), if_neg he]
theorem zg1 {a0 : List G_QRecord} {K : List (List UInt8)} (ha : a0.length ≤ 100000) (hK : K.length ≤ 100000) : ∀ (k i : Nat) (acc : List G_QRecord), i + k = K.length → acc.length ≤ i →
 wi none a0 K acc (i : Int) = some (acc ++ (K.drop i).flatMap (keepR a0))
 | 0, i, acc, h, hl => by
  have hi : i = K.length := by omega
  subst hi
  unfold wi
  rw [List.drop_length, List.flatMap_nil, List.append_nil]
  refine zr ?_
  unfold j7
  rw [if_neg (by simp)]
  rfl
 | k + 1, i, acc, h, hl => by
  have hi : i < K.length := by omega
  have hk : (keepR a0 K[i]).length ≤ 1 := by unfold keepR; split <;> simp
  unfold wi
  rw [zx (s' := (acc ++ keepR a0 K[i], ((i + 1 : Nat) : Int))) ?_]
  ·have ih := zg1 (a0 := a0) ha hK k (i + 1) (acc ++ keepR a0 K[i]) (by omega) (by simp; omega)
   rw [List.drop_eq_getElem_cons hi, List.flatMap_cons, ← List.append_assoc]
   exact ih
  ·unfold j7
   dsimp only
   rw [if_pos (by simp; omega), if_pos (by simp; omega)]
   have := zh0 (K := K) (acc := acc) ha hi a0.length 0 nul (by omega)
   rw [List.drop_zero] at this
   refine this.trans ?_
   show xy none a0 K acc (i : Int) (z0s a0 K[i]).f_Key (z0s a0 K[i]).f_Value (z0s a0 K[i]).f_Deleted = _
   unfold xy jv keepR
   rw [Wi (by omega)]
   cases hd : (z0s a0 K[i]).f_Deleted with
   | true => simp
   | false =>
    rw [if_pos (by simp), if_pos (by simp; omega)]
    simp only [Bool.false_eq_true, if_false]
    rw [← hd]
theorem zft {a0 : List G_QRecord} (ha : a0.length ≤ 100000) : ∀ (k i : Nat) (acc : List (List UInt8)), i + k = a0.length → acc.length = i →
 wh none a0 acc (i : Int) = wc none a0 (acc ++ (a0.drop i).map (·.f_Key))
 | 0, i, acc, h, hl => by
  have hi : i = a0.length := by omega
  subst hi
  unfold wh
  rw [List.drop_length, List.map_nil, List.append_nil]
  refine zr ?_
  unfold ja
  rw [if_neg (by simp)]
 | k + 1, i, acc, h, hl => by
  have hi : i < a0.length := by omega
  unfold wh
  rw [zx (s' := (acc ++ [a0[i].f_Key], ((i + 1 : Nat) : Int))) ?_]
  ·have ih := zft ha k (i + 1) (acc ++ [a0[i].f_Key]) (by omega) (by simp; omega)
   rw [List.drop_eq_getElem_cons hi, List.map_cons, show acc ++ a0[i].f_Key :: List.map (·.f_Key) (List.drop (i+1) a0) = (acc ++ [a0[i].f_Key]) ++ List.map (·.f_Key) (List.drop (i+1) a0) by simp]
   exact ih
  ·unfold ja
   simp only [List.length_map, Int.toNat_natCast, q8 hi]
   rw [if_pos (by simp; omega), if_pos (by omega), if_pos (by simp; omega), Wi (by omega)]
theorem ref_state {a0 : List G_QRecord} (ha : a0.length ≤ 100000) : xh none a0 = some (stateR a0) := by
 have h := zft ha a0.length 0 [] (by omega) rfl
 unfold xh
 rw [show (0 : Int) = ((0 : Nat) : Int) from rfl, h, List.drop_zero, List.nil_append]
 unfold wc
 have hs := V5 (a0.map (·.f_Key))
 rw [zp1 (by rw [List.length_map]; omega), Option.bind_some]
 have h2 := zg1 (K := Jy (a0.map (·.f_Key))) ha (by simp at hs; omega) _ 0 [] (Nat.zero_add _) (by simp)
 rw [show (0 : Int) = ((0 : Nat) : Int) from rfl, h2, List.drop_zero, List.nil_append]
 rfl
abbrev Ent := List UInt8 × G_QRecord
def z48 (M : List Ent) (r : G_QRecord) : List Ent := mp Yq M r.f_Key r
theorem Yh {x y : List UInt8} : Yq x y = true ↔ x = y := by simp [Yq]
theorem zfn {a0 : List G_QRecord} (ha : a0.length ≤ 100000) : ∀ (k i : Nat) (M : List Ent), i + k = a0.length →
 ua none a0 (i : Int) M = vz none ((a0.drop i).foldl z48 M)
 | 0, i, M, h => by
  have hi : i = a0.length := by omega
  subst hi
  unfold ua
  rw [List.drop_length, List.foldl_nil]
  refine zr ?_
  unfold vu
  rw [if_neg (by simp)]
 | k + 1, i, M, h => by
  have hi : i < a0.length := by omega
  unfold ua
  rw [zx (s' := (((i + 1 : Nat) : Int), z48 M a0[i])) ?_]
  ·have ih := zfn ha k (i + 1) (z48 M a0[i]) (by omega)
   rw [List.drop_eq_getElem_cons hi, List.foldl_cons]
   exact ih
  ·unfold vu
   simp only [List.length_map, Int.toNat_natCast, q8 hi]
   rw [if_pos (by simp; omega), if_pos (by omega), Wi (by omega)]
   rfl
theorem y14 {M : List Ent} {k : List UInt8} {v : G_QRecord} : (mp Yq M k v).length ≤ M.length + 1 ∧ (k, v) ∈ mp Yq M k v := by
 induction M with
 | nil => simp [mp]
 | cons e M ih =>
  obtain ⟨k', v'⟩ := e
  unfold mp
  split
  ·exact ⟨by simp, by simp⟩
  ·exact ⟨by have := ih.1; simp; omega, List.mem_cons_of_mem _ ih.2⟩
theorem zwf {M : List Ent} {k : List UInt8} {v : G_QRecord} : (mp Yq M k v).map (·.1) = if k ∈ M.map (·.1) then M.map (·.1) else M.map (·.1) ++ [k] := by
 induction M with
 | nil => simp [mp]
 | cons e M ih =>
  obtain ⟨k', v'⟩ := e
  unfold mp
  by_cases hk : k = k'
  ·subst hk
   rw [if_pos (Yh.2 rfl)]
   simp
  ·rw [if_neg (fun h => hk (Yh.1 h))]
   simp only [List.map_cons, ih, List.mem_cons, hk, false_or]
   split <;> rfl
theorem zvs {M : List Ent} {k j : List UInt8} {v : G_QRecord} : lk Yq (mp Yq M k v) j = if k = j then some v else lk Yq M j := by
 induction M with
 | nil =>
  simp only [mp, lk, Yh]
  by_cases h : k = j
  ·subst h; simp
  ·rw [if_neg (fun e => h e.symm), if_neg h]
 | cons e M ih =>
  obtain ⟨k', v'⟩ := e
  unfold mp
  by_cases hk : k = k'
  ·subst hk
   rw [if_pos (Yh.2 rfl)]
   simp only [lk, Yh]
   by_cases h : k = j
   ·subst h; simp
   ·rw [if_neg (fun e => h e.symm), if_neg h, if_neg (fun e => h e.symm)]
  ·rw [if_neg (fun h => hk (Yh.1 h))]
   simp only [lk, Yh, ih]
   by_cases h : j = k'
   ·subst h; rw [if_pos rfl, if_pos rfl, if_neg hk]
   ·rw [if_neg h, if_neg h]
theorem z5g {M : List Ent} (hn : (M.map (·.1)).Nodup) {k : List UInt8} {v : G_QRecord} : lk Yq M k = some v ↔ (k, v) ∈ M := by
 induction M with
 | nil => simp [lk]
 | cons e M ih =>
  obtain ⟨k', v'⟩ := e
  simp only [List.map_cons, List.nodup_cons] at hn
  simp only [lk, Yh]
  by_cases h : k = k'
  ·subst h
   rw [if_pos rfl]
   simp only [Option.some.injEq, List.mem_cons, Prod.mk.injEq, true_and]
   constructor
   ·rintro rfl; exact .inl rfl
   ·rintro (e | e)
    ·exact e.symm
    ·exact absurd (List.mem_map.2 ⟨_, e, rfl⟩) hn.1
  ·rw [if_neg h, ih hn.2]
   simp [h]
theorem zb9 {P : G_QRecord → Prop} : ∀ (l : List G_QRecord) (M : List Ent), (M.map (·.1)).Nodup → (∀ e ∈ M, e.2.f_Key = e.1) → ((l.foldl z48 M).map (·.1)).Nodup ∧ (∀ e ∈ l.foldl z48 M, e.2.f_Key = e.1) ∧ (l.foldl z48 M).length ≤ M.length + l.length
 | [], M, h1, h2 => ⟨h1, h2, Nat.le_refl _⟩
 | r :: l, M, h1, h2 => by
  rw [List.foldl_cons]
  have q1 : ((z48 M r).map (·.1)).Nodup := by
   unfold z48
   rw [zwf]
   split
   ·exact h1
   ·rename_i hk
    rw [List.nodup_append]
    exact ⟨h1, by simp, fun a ha b hb => by simp only [List.mem_singleton] at hb; subst hb; exact fun e => hk (e ▸ ha)⟩
  have q2 : ∀ e ∈ z48 M r, e.2.f_Key = e.1 := fun e he => by
   have hk := (z5g q1 (k := e.1) (v := e.2)).2 he
   unfold z48 at hk
   rw [zvs] at hk
   split at hk
   ·rename_i h; simp only [Option.some.injEq] at hk; rw [← hk]; exact h
   ·exact h2 _ ((z5g h1).1 hk)
  obtain ⟨p1, p2, p3⟩ := zb9 (P := P) l _ q1 q2
  refine ⟨p1, p2, ?_⟩
  have := (y14 (M := M) (k := r.f_Key) (v := r)).1
  unfold z48 at p3 ⊢
  simp only [List.length_cons]
  omega
theorem z0c {k : List UInt8} : ∀ (l : List G_QRecord) (M : List Ent) (r0 : G_QRecord), (lk Yq M k = none ∨ lk Yq M k = some r0) → (∃ r ∈ l, r.f_Key = k) ∨ lk Yq M k = some r0 →
 lk Yq (l.foldl z48 M) k = some (l.foldl (lastR k) r0)
 | [], M, r0, _, h => by
  rcases h with ⟨r, hr, _⟩ | h
  ·cases hr
  ·exact h
 | r :: l, M, r0, h0, h => by
  rw [List.foldl_cons, List.foldl_cons]
  have hlk : lk Yq (z48 M r) k = if r.f_Key = k then some r else lk Yq M k := by unfold z48; exact zvs
  by_cases hk : r.f_Key = k
  ·rw [if_pos hk] at hlk
   have : lastR k r0 r = r := by unfold lastR; rw [if_pos hk]
   rw [this]
   exact z0c l _ r (.inr hlk) (.inr hlk)
  ·rw [if_neg hk] at hlk
   have : lastR k r0 r = r0 := by unfold lastR; rw [if_neg hk]
   rw [this]
   refine z0c l _ r0 (by rw [hlk]; exact h0) ?_
   rcases h with ⟨r', hr', hk'⟩ | h
   ·rcases List.mem_cons.1 hr' with rfl | hr'
    ·exact absurd hk' hk
    ·exact .inl ⟨r', hr', hk'⟩
   ·exact .inr (by rw [hlk]; exact h)
theorem z5h {k : List UInt8} : ∀ (l : List G_QRecord) (M : List Ent), lk Yq M k = none → (∀ r ∈ l, r.f_Key ≠ k) → lk Yq (l.foldl z48 M) k = none
 | [], M, h, _ => h
 | r :: l, M, h, hn => by
  rw [List.foldl_cons]
  refine z5h l _ ?_ fun x hx => hn x (List.mem_cons_of_mem _ hx)
  unfold z48
  rw [zvs, if_neg (hn r (List.mem_cons_self ..))]
  exact h
def z91 (M : List Ent) : List G_QRecord := (M.map (·.2)).filter (!·.f_Deleted)
theorem zug : SWO (ltOf zw1) := z8a (·.f_Key) fun _ _ => rfl
theorem y09 {M : List Ent} (hM : M.length ≤ 100000) {R : List G_QRecord} (hR : ∀ L : List G_QRecord, L.Perm (z91 M) → Xp zw1 L = R) : vz none M = some R := by
 unfold vz Zq
 refine zmr fun l hl => ?_
 have key : ∀ (l : List Nat) (acc : List G_QRecord), acc.length + l.length ≤ 100000 →
  Kl (fun j (s : (List G_QRecord)) => jn none M s j) (fun s => wm none M s) l acc = k6 none (acc ++ ((l.map fun j => (M.getD j default).2).filter (!·.f_Deleted))) := by
  intro l
  induction l with
  | nil =>
   intro acc _
   simp only [Kl, wm, List.map_nil, List.filter_nil, List.append_nil]
   cases k6 none acc <;> rfl
  | cons j l ih =>
   intro acc hacc
   simp only [List.length_cons] at hacc
   unfold Kl
   have hb : jn none M acc j = some (.inl (acc ++ ([(M.getD j default).2].filter (!·.f_Deleted)))) := by
    unfold jn
    cases hd : (M.getD j default).2.f_Deleted with
    | true =>
     rw [if_neg (by simp), List.filter_cons, if_neg (by rw [hd]; simp)]; simp
    | false =>
     rw [if_pos (by simp), if_pos (by simp; omega), List.filter_cons, if_pos (by rw [hd]; rfl), ← hd]
     rfl
   rw [hb]
   simp only [Option.bind_some]
   have hle : ([(M.getD j default).2].filter (!·.f_Deleted)).length ≤ 1 := List.length_filter_le ..
   rw [ih _ (by rw [List.length_append]; omega)]
   rw [List.map_cons, ← List.singleton_append (l := l.map _), List.filter_append, List.append_assoc]
 have hlen := hl.length_eq
 rw [List.length_range] at hlen
 rw [key l [] (by simp; omega), List.nil_append]
 have hp : ((l.map fun j => (M.getD j default).2).filter (!·.f_Deleted)).Perm (z91 M) := by
  refine List.Perm.filter _ ?_
  refine (hl.map _).trans ?_
  refine List.Perm.of_eq ?_
  refine List.ext_getElem (by simp) fun i h1 h2 => ?_
  simp only [List.length_map, List.length_range] at h1
  simp only [List.getElem_map, List.getElem_range, q8 h1]
 have hpl := hp.length_eq
 have hbl : (z91 M).length ≤ M.length := by
  have := List.length_filter_le (!·.f_Deleted) (M.map (·.2)); simpa [z91] using this
 unfold k6 w4
 rw [if_pos ⟨zug, by omega⟩, Option.bind_some, if_pos (J5 zug _), hR _ hp]
theorem prog_state {a0 : List G_QRecord} (ha : a0.length ≤ 100000) : uo none a0 = some (stateR a0) := by
 unfold uo
 have h := zfn ha a0.length 0 [] (by omega)
 rw [show (0 : Int) = ((0 : Nat) : Int) from rfl, h, List.drop_zero]
 obtain ⟨hn, hk, hlen⟩ := zb9 (P := fun _ => True) a0 [] (by simp) (by simp)
 simp only [List.length_nil, Nat.zero_add] at hlen
 refine y09 (by omega) fun L hL => ?_
 obtain ⟨p1, p2⟩ := Jm zug L
 have hasc : (stateR a0).Pairwise fun x y => x.f_Key < y.f_Key := by
  unfold stateR
  have hkey : ∀ k x, x ∈ keepR a0 k → k ∈ a0.map (·.f_Key) → x.f_Key = k := fun k x hx hkm => by
   unfold keepR at hx
   split at hx
   ·cases hx
   ·simp only [List.mem_singleton] at hx
    subst hx
    obtain ⟨r, hr, hrk⟩ := List.mem_map.1 hkm
    have := z0c (k := k) a0 [] nul (.inl rfl) (.inl ⟨r, hr, hrk⟩)
    exact hk _ ((z5g hn).1 this)
  rw [List.pairwise_flatMap]
  constructor
  ·intro k _
   unfold keepR
   split <;> simp
  ·have hs := Qv (a0.map (·.f_Key))
   rw [List.pairwise_iff_getElem] at hs ⊢
   intro i j hi hj hij x hx y hy
   have h1 := hkey _ x hx (sortS_mem.1 (List.getElem_mem hi))
   have h2 := hkey _ y hy (sortS_mem.1 (List.getElem_mem hj))
   rw [h1, h2]
   exact hs i j hi hj hij
 refine Uw (f := (·.f_Key)) (p1.trans (hL.trans ?_)) (p2.imp fun h => by rw [Je (cf := zw1) (·.f_Key) (fun _ _ => rfl)] at h; simpa using h) hasc
 have hbn : (z91 (a0.foldl z48 [])).Nodup := by
  unfold z91
  refine List.Pairwise.filter _ ?_
  have : ((a0.foldl z48 []).map (·.2)).map (·.f_Key) = (a0.foldl z48 []).map (·.1) := by
   rw [List.map_map]
   exact List.map_congr_left fun e he => hk e he
  rw [← this] at hn
  exact (List.pairwise_map.1 hn).imp fun h e => h (by rw [e])
 refine (List.perm_ext_iff_of_nodup hbn (z7o hasc)).2 fun x => ?_
 unfold z91 stateR
 simp only [List.mem_filter, List.mem_map, List.mem_flatMap, sortS_mem]
 constructor
 ·rintro ⟨⟨e, he, rfl⟩, hd⟩
  have hek := hk e he
  have hl := (z5g hn (k := e.1) (v := e.2)).2 he
  have hex : ∃ r ∈ a0, r.f_Key = e.1 := by
   refine Classical.byContradiction fun hno => ?_
   have := z5h (k := e.1) a0 [] rfl fun r hr h => hno ⟨r, hr, h⟩
   rw [this] at hl; cases hl
  have := z0c (k := e.1) a0 [] nul (.inl rfl) (.inl hex)
  rw [this] at hl
  simp only [Option.some.injEq] at hl
  obtain ⟨r, hr, hrk⟩ := hex
  refine ⟨e.1, ⟨r, hr, hrk⟩, ?_⟩
  unfold keepR z0s
  rw [hl]
  rw [if_neg (by simpa using hd)]
  simp
 ·rintro ⟨k, ⟨r, hr, hrk⟩, hx⟩
  have := z0c (k := k) a0 [] nul (.inl rfl) (.inl ⟨r, hr, hrk⟩)
  unfold keepR at hx
  split at hx
  ·cases hx
  ·rename_i hd
   simp only [List.mem_singleton] at hx
   subst hx
   exact ⟨⟨_, (z5g hn).1 this, rfl⟩, by simpa using hd⟩
theorem stateR_len (a0 : List G_QRecord) : (stateR a0).length ≤ a0.length := by
 unfold stateR
 have h1 := V5 (a0.map (·.f_Key))
 rw [List.length_map] at h1
 refine Nat.le_trans ?_ h1
 generalize Jy (a0.map (·.f_Key)) = K
 induction K with
 | nil => simp
 | cons k K ih =>
  rw [List.flatMap_cons, List.length_append, List.length_cons]
  have : (keepR a0 k).length ≤ 1 := by unfold keepR; split <;> simp
  omega
open Go.Fx
def hdr (p : List UInt8) : List UInt8 := ([(IntKind.wrap .u8 ((p.length : Int).fdiv (2 ^ (min (8 : Int).toNat (IntKind.bits .i64))))), (IntKind.wrap .u8 (p.length : Int))] : List Int).map Wa
def num (v1 : Int) : List UInt8 := ([(IntKind.wrap .u8 (v1.fdiv (2 ^ (min (24 : Int).toNat (IntKind.bits .u32))))), (IntKind.wrap .u8 (v1.fdiv (2 ^ (min (16 : Int).toNat (IntKind.bits .u32))))), (IntKind.wrap .u8 (v1.fdiv (2 ^ (min (8 : Int).toNat (IntKind.bits .u32))))), (IntKind.wrap .u8 v1)] : List Int).map Wa
def Fr (p : List UInt8) : List UInt8 := (hdr p ++ num (Wy (hdr p ++ p))) ++ p
theorem z4c (p : List UInt8) : (hdr p).length = 2 := by unfold hdr; rw [List.length_map]; rfl
theorem zmu (v : Int) : (num v).length = 4 := by unfold num; rw [List.length_map]; rfl
theorem zxc {p : List UInt8} (hp : p.length ≤ 4000) : kw none p = some (Fr p) := by
 unfold kw
 change (if _ then (j0 none (hdr p ++ p)).bind _ else none) = _
 rw [y2m (by rw [List.length_append, z4c]; omega), Option.bind_some, if_pos (by have := z4c p; simp only [hdr] at this; omega)]
 change (if _ then (if _ then some ((hdr p ++ num (Wy (hdr p ++ p))) ++ p) else none) else none) = _
 rw [if_pos (by have := z4c p; have h2 := zmu (Wy (hdr p ++ p)); simp only [hdr, num] at this h2 ⊢; omega), if_pos]
 ·rfl
 ·have := z4c p; have h2 := zmu (Wy (hdr p ++ p))
  show (((hdr p ++ num (Wy (hdr p ++ p))).length + p.length : Nat) : Int) ≤ 9223372036854775807
  rw [List.length_append]; omega
theorem p8 : (2 ^ (min (8 : Int).toNat (IntKind.bits .i64)) : Int) = 256 := by simp [IntKind.bits]
theorem Wn {n : Nat} (h : n ≤ 1000000) : W (n : Int) = n := zr5 (by unfold inR; omega)
noncomputable def chk (r : G_QRecord) : Int := (jm none r).getD 0
theorem y2u (r : G_QRecord) : jm none r = some (chk r) := by
 unfold chk jm
 split
 ·rfl
 ·split <;> rfl
theorem y30 (r : G_QRecord) : jc none r = some (chk r) := y2u r
theorem zxl {r : G_QRecord} (h : chk r = 0) : r.f_Key.length ≤ 60 ∧ r.f_Value.length ≤ 3000 := by
 unfold chk jm at h
 split at h
 ·simp at h
 ·split at h
  ·simp at h
  ·rename_i h2
   simp at h2
   omega
def b0 (P : List UInt8) : Nat := (P.getD 0 0).toNat
def b1 (P : List UInt8) : Nat := (P.getD 1 0).toNat
theorem zhl (P : List UInt8) : b0 P < 256 := UInt8.toNat_lt _
theorem zeh (P : List UInt8) : b1 P < 256 := UInt8.toNat_lt _
def zs8 (P : List UInt8) : G_QRecord := ⟨(P.take (2 + b1 P)).drop 2, P.drop (2 + b1 P), ((b0 P : Nat) : Int) == 1⟩
def bad (P : List UInt8) : Bool := P.length < 2 || 1 < b0 P || P.length < 2 + b1 P
def fsz (D : List UInt8) : Nat := 6 + (256 * b0 D + b1 D)
def pl (D : List UInt8) : List UInt8 := (D.take (fsz D)).drop 6
noncomputable def nx (D : List UInt8) : G_QRecord × Nat × Int :=
 if D.length < 6 then (nul, 0, 0) else if D.length < fsz D then (nul, 0, 0)
 else if Fr (pl D) = D.take (fsz D) then (if bad (pl D) = true then (nul, 0, 3) else if chk (zs8 (pl D)) = 0 then (zs8 (pl D), fsz D, 0) else (nul, 0, 3))
 else (nul, 0, 13)
theorem tb0 (P : List UInt8) : (P.getD 0 0).toNat = b0 P := rfl
theorem tb1 (P : List UInt8) : (P.getD 1 0).toNat = b1 P := rfl
theorem z0 : (0 : Int).toNat = 0 := rfl
theorem z1 : (1 : Int).toNat = 1 := rfl
theorem z2 : (2 : Int).toNat = 2 := rfl
theorem z6 : (6 : Int).toNat = 6 := rfl
theorem zh3 {D : List UInt8} (h : ¬ D.length < fsz D) : (pl D).length = 256 * b0 D + b1 D := by
 unfold pl
 rw [List.length_drop, List.length_take]
 unfold fsz at *
 omega
theorem zxz {P : List UInt8} (hP : P.length ≤ 4000) : u1 none P = some (if bad P = true then (nul, false) else (zs8 P, chk (zs8 P) == 0)) := by
 have h0 := zhl P
 have h1 := zeh P
 have hK : W ((2 : Int) + W (((b1 P : Nat) : Int))) = ((2 + b1 P : Nat) : Int) := by
  rw [Wn (by omega), show (2 : Int) + (b1 P : Nat) = ((2 + b1 P : Nat) : Int) by omega, Wn (by omega)]
 unfold u1
 simp only [z0, z1, z2]
 simp only [tb0, tb1, hK, Int.toNat_natCast, List.take_length]
 by_cases hb : bad P = true
 ·have hb' := hb
  simp only [bad, Bool.or_eq_true, decide_eq_true_eq] at hb'
  rw [if_pos (by simp; omega), if_pos (by simp; omega), if_pos (by simp; omega), if_pos hb]
  rfl
 ·have hb' := hb
  simp only [bad, Bool.or_eq_true, decide_eq_true_eq, not_or, Nat.not_lt] at hb'
  rw [if_pos (by simp; omega), if_pos (by simp; omega), if_neg (by simp; omega), if_neg hb, if_pos (by omega), if_pos (by omega), if_pos (by omega), if_pos (by omega)]
  rw [show (G_QRecord.mk ((P.take (2 + b1 P)).drop 2) (P.drop (2 + b1 P)) (((b0 P : Nat) : Int) == 1)) = zs8 P from rfl, y2u]
  rfl
theorem y08 {D : List UInt8} (h6 : ¬ D.length < 6) (h : ¬ D.length < fsz D) : hdr (pl D) = D.take 2 := by
 have h0 := zhl D
 have h1 := zeh D
 unfold hdr
 rw [zh3 h, p8]
 have e1 : (((256 * b0 D + b1 D : Nat) : Int)).fdiv 256 = ((b0 D : Nat) : Int) := by
  rw [Int.fdiv_eq_ediv_of_nonneg _ (by omega)]; omega
 rw [e1]
 have e2 : IntKind.wrap .u8 ((b0 D : Nat) : Int) = ((b0 D : Nat) : Int) := by rw [z13 _ rfl]; simp only [IntKind.bits]; omega
 have e3 : IntKind.wrap .u8 (((256 * b0 D + b1 D : Nat) : Int)) = ((b1 D : Nat) : Int) := by rw [z13 _ rfl]; simp only [IntKind.bits]; omega
 rw [e2, e3]
 match D, h6 with
 | a :: b :: D', _ =>
  simp only [List.map_cons, List.map_nil, List.take_succ_cons, List.take_zero, b0, b1, List.getD_cons_zero, List.getD_cons_succ]
  rw [show Wa ((a.toNat : Nat) : Int) = a by unfold Wa; simp, show Wa ((b.toNat : Nat) : Int) = b by unfold Wa; simp]
 | [_], h => exact absurd (by simp) h
 | [], h => exact absurd (by simp) h
theorem z7b {D : List UInt8} (h6 : ¬ D.length < 6) (h : ¬ D.length < fsz D) : Fr (pl D) = D.take (fsz D) ↔ num (Wy (D.take 2 ++ pl D)) = (D.take 6).drop 2 := by
 have e : D.take (fsz D) = (D.take 2 ++ (D.take 6).drop 2) ++ pl D := by
  have a1 : D.take 6 = D.take 2 ++ (D.take 6).drop 2 := by
   have := (List.take_append_drop 2 (D.take 6)).symm
   rwa [List.take_take] at this
  have a2 : D.take (fsz D) = D.take 6 ++ pl D := by
   have := (List.take_append_drop 6 (D.take (fsz D))).symm
   rwa [List.take_take, show min 6 (fsz D) = 6 by unfold fsz; omega] at this
  rw [a2, ← a1]
 unfold Fr
 rw [y08 h6 h, e]
 constructor
 ·intro hh
  have := List.append_cancel_right hh
  exact List.append_cancel_left this
 ·intro hh
  rw [hh]
theorem y24 {D : List UInt8} : W ((W ((6 : Int) + (W ((W ((b0 D : Nat) : Int)) * 2 ^ (min (8 : Int).toNat (IntKind.bits .i64)))))) + (W ((b1 D : Nat) : Int))) = ((fsz D : Nat) : Int) := by
 have h0 := zhl D
 have h1 := zeh D
 rw [p8, Wn (by omega), show ((b0 D : Nat) : Int) * 256 = ((256 * b0 D : Nat) : Int) by omega, Wn (by omega), Wn (by omega), show (6 : Int) + ((256 * b0 D : Nat) : Int) = ((6 + 256 * b0 D : Nat) : Int) by omega, Wn (by omega)]
 rw [show ((6 + 256 * b0 D : Nat) : Int) + ((b1 D : Nat) : Int) = ((fsz D : Nat) : Int) by unfold fsz; omega, Wn (by unfold fsz; omega)]
theorem y1r {D : List UInt8} (hD : D.length ≤ 4000) : uz none D = some ((nx D).1, (((nx D).2.1 : Nat) : Int), (nx D).2.2) := by
 unfold uz
 simp only [z0, z1, z6]
 simp only [tb0, tb1, y24, Int.toNat_natCast, List.drop_zero]
 unfold nx
 by_cases h6 : D.length < 6
 ·rw [if_pos (by simp; omega), if_pos h6]
  rfl
 rw [if_neg (by simp; omega), if_neg h6, if_pos (by omega), if_pos (by omega)]
 by_cases hs : D.length < fsz D
 ·rw [if_pos (by simpa using hs), if_pos hs]
  rfl
 rw [if_neg (by simpa using hs), if_neg hs, if_pos (by unfold fsz at *; omega), if_pos (by omega)]
 have hpl := zh3 hs
 have hP : (pl D).length ≤ 4000 := by unfold fsz at hs; omega
 change ((kw none (pl D)).bind _) = _
 rw [zxc hP, Option.bind_some]
 by_cases hf : Fr (pl D) = D.take (fsz D)
 ·rw [if_neg (by simpa using hf), if_pos hf]
  change ((u1 none (pl D)).bind _) = _
  rw [zxz hP, Option.bind_some]
  by_cases hb : bad (pl D) = true
  ·rw [if_pos hb, if_pos hb, if_pos (by rfl)]
   rfl
  ·rw [if_neg hb, if_neg hb]
   by_cases hc : chk (zs8 (pl D)) = 0
   ·rw [if_neg (by simpa using hc), if_pos hc]
   ·rw [if_pos (by simpa using hc), if_neg hc]
    rfl
 ·rw [if_pos (by simpa using hf), if_neg hf]
  rfl
noncomputable def rd (l : List UInt8) (acc : List G_QRecord) (i : Nat) : (((List G_QRecord) × Int) ⊕ ((List G_QRecord) × Int × Int)) :=
 if (nx (l.drop i)).2.1 = 0 then .inr (acc, (i : Int), (nx (l.drop i)).2.2) else .inl (acc ++ [(nx (l.drop i)).1], ((i + (nx (l.drop i)).2.1 : Nat) : Int))
theorem zuc (D : List UInt8) : (nx D).2.1 ≤ D.length ∧ ((nx D).2.1 ≠ 0 → 6 ≤ (nx D).2.1 ∧ (nx D).1.f_Key.length ≤ 60 ∧ (nx D).1.f_Value.length ≤ 3000) := by
 unfold nx
 split
 ·exact ⟨Nat.zero_le _, fun h => absurd rfl h⟩
 split
 ·exact ⟨Nat.zero_le _, fun h => absurd rfl h⟩
 split
 ·split
  ·exact ⟨Nat.zero_le _, fun h => absurd rfl h⟩
  split
  ·rename_i h1 h2 h3 h4 h5
   refine ⟨by dsimp only; omega, fun _ => ⟨by dsimp only; unfold fsz; omega, zxl h5⟩⟩
  ·exact ⟨Nat.zero_le _, fun h => absurd rfl h⟩
 ·exact ⟨Nat.zero_le _, fun h => absurd rfl h⟩
theorem zzg {l : List UInt8} (hl : l.length ≤ 4000) {acc : List G_QRecord} (ha : acc.length ≤ 100000) {i : Nat} (hi : i ≤ l.length) : ku none l acc (i : Int) = some (rd l acc i) := by
 have hn := zuc (l.drop i)
 rw [List.length_drop] at hn
 unfold ku
 simp only [List.take_length, Int.toNat_natCast]
 rw [if_pos (by omega), y1r (by rw [List.length_drop]; omega), Option.bind_some]
 unfold rd
 by_cases h0 : (nx (l.drop i)).2.1 = 0
 ·rw [if_pos (by simp [h0]), if_pos h0]
  rfl
 ·rw [if_neg (by simp [h0]), if_neg h0, if_pos (by simp; omega)]
  rw [show (i : Int) + ((nx (l.drop i)).2.1 : Nat) = ((i + (nx (l.drop i)).2.1 : Nat) : Int) by omega, Wn (by omega)]
theorem y15 {D : List UInt8} : W ((W ((W ((b0 D : Nat) : Int)) * 256)) + (W ((b1 D : Nat) : Int))) = ((256 * b0 D + b1 D : Nat) : Int) := by
 have h0 := zhl D
 have h1 := zeh D
 rw [Wn (by omega), show ((b0 D : Nat) : Int) * 256 = ((256 * b0 D : Nat) : Int) by omega, Wn (by omega), Wn (by omega), show ((256 * b0 D : Nat) : Int) + ((b1 D : Nat) : Int) = ((256 * b0 D + b1 D : Nat) : Int) by omega, Wn (by omega)]
theorem zyd {l : List UInt8} (hl : l.length ≤ 4000) {acc : List G_QRecord} (ha : acc.length ≤ 100000) {i : Nat} (hi : i ≤ l.length) : qi none l acc (i : Int) = some (rd l acc i) := by
 have hn := zuc (l.drop i)
 rw [List.length_drop] at hn
 unfold qi
 simp only [List.take_length, Int.toNat_natCast, z0, z1, z2, z6]
 rw [if_pos (by omega)]
 unfold rd
 have hD : (l.drop i).length ≤ 4000 := by rw [List.length_drop]; omega
 have hDl : (l.drop i).length ≤ l.length := by rw [List.length_drop]; omega
 have hiD : i + (l.drop i).length ≤ 4000 := by rw [List.length_drop]; omega
 generalize l.drop i = D at *
 have hsz : W ((6 : Int) + (((256 * b0 D + b1 D : Nat) : Int))) = ((fsz D : Nat) : Int) := by
  have h0 := zhl D
  have h1 := zeh D
  rw [show (6 : Int) + (((256 * b0 D + b1 D : Nat) : Int)) = ((fsz D : Nat) : Int) by unfold fsz; omega, Wn (by unfold fsz; omega)]
 simp only [tb0, tb1, y15, hsz, Int.toNat_natCast, List.drop_zero]
 unfold nx
 by_cases h6 : D.length < 6
 ·rw [if_pos (by simp; omega), if_pos h6]
  rfl
 rw [if_neg (by simp; omega), if_neg h6, if_pos (by omega), if_pos (by omega)]
 by_cases hs : D.length < fsz D
 ·rw [if_pos (by simpa using hs), if_pos hs]
  rfl
 rw [if_neg (by simpa using hs), if_neg hs]
 have hpl := zh3 hs
 have hpe : (D.take (fsz D)).drop 6 = pl D := rfl
 have h6f : 6 ≤ fsz D := by unfold fsz; omega
 have hff : fsz D = 6 + (256 * b0 D + b1 D) := rfl
 simp only [hpe]
 have hP : (pl D).length ≤ 4000 := by omega
 have h1 := zeh (pl D)
 have hK : W ((2 : Int) + W (((b1 (pl D) : Nat) : Int))) = ((2 + b1 (pl D) : Nat) : Int) := by
  rw [Wn (by omega), show (2 : Int) + (b1 (pl D) : Nat) = ((2 + b1 (pl D) : Nat) : Int) by omega, Wn (by omega)]
 simp only [tb0, tb1, hK, Int.toNat_natCast]
 rw [if_pos (by omega), if_pos (by omega), if_pos (by rw [List.length_take]; omega), if_pos (by omega)]
 rw [y1v (by rw [List.length_append, List.length_take]; omega), Option.bind_some, w8, Option.bind_some]
 rw [show ([(IntKind.wrap .u8 ((Wy (D.take 2 ++ pl D)).fdiv (2 ^ (min (24 : Int).toNat (IntKind.bits .u32))))), (IntKind.wrap .u8 ((Wy (D.take 2 ++ pl D)).fdiv (2 ^ (min (16 : Int).toNat (IntKind.bits .u32))))), (IntKind.wrap .u8 ((Wy (D.take 2 ++ pl D)).fdiv (2 ^ (min (8 : Int).toNat (IntKind.bits .u32))))), (IntKind.wrap .u8 (Wy (D.take 2 ++ pl D)))] : List Int).map Wa = num (Wy (D.take 2 ++ pl D)) from rfl]
 by_cases hf : Fr (pl D) = D.take (fsz D)
 ·have hf2 := (z7b h6 hs).1 hf
  rw [if_neg (by simpa using hf2), if_pos hf]
  rw [← hpl]
  by_cases hb : bad (pl D) = true
  ·have hb' := hb
   simp only [bad, Bool.or_eq_true, decide_eq_true_eq] at hb'
   rw [if_pos hb, if_pos (by simp; omega), if_pos (by simp; omega), if_pos (by simp; omega)]
   rfl
  ·have hb' := hb
   simp only [bad, Bool.or_eq_true, decide_eq_true_eq, not_or, Nat.not_lt] at hb'
   rw [if_neg hb, if_pos (by simp; omega), if_pos (by simp; omega), if_neg (by simp; omega), if_pos (by omega), if_pos (by omega), if_pos (by omega), if_pos (by omega)]
   rw [show (G_QRecord.mk (((pl D).take (2 + b1 (pl D))).drop 2) ((pl D).drop (2 + b1 (pl D))) (((b0 (pl D) : Nat) : Int) == 1)) = zs8 (pl D) from rfl, y30, Option.bind_some]
   by_cases hc : chk (zs8 (pl D)) = 0
   ·rw [if_neg (by simpa using hc), if_pos hc, if_pos (by simp; omega), if_neg (by dsimp only; omega)]
    dsimp only
    rw [show (i : Int) + ((fsz D : Nat) : Int) = ((i + fsz D : Nat) : Int) by omega, Wn (by omega)]
   ·rw [if_pos (by simpa using hc), if_neg hc]
    rfl
 ·have hf2 := fun h => hf ((z7b h6 hs).2 h)
  rw [if_pos (by simpa using hf2), if_neg hf]
  rfl
theorem scanned {l : List UInt8} (hl : l.length ≤ 4000) : ∀ (k i : Nat) (acc : List G_QRecord), i + k = l.length → acc.length ≤ i → (∀ r ∈ acc, r.f_Key.length ≤ 60 ∧ r.f_Value.length ≤ 3000) →
 ∃ (R : List G_QRecord) (n : Nat) (e : Int), n ≤ l.length ∧ R.length ≤ n ∧ (∀ r ∈ R, r.f_Key.length ≤ 60 ∧ r.f_Value.length ≤ 3000) ∧ ul none l acc (i : Int) = some (R, (n : Int), e) ∧ xi none l acc (i : Int) = some (R, (n : Int), e) := by
 intro k
 induction k using Nat.strongRecOn with
 | ind k ih =>
  intro i acc hik ha hr
  have hn := zuc (l.drop i)
  rw [List.length_drop] at hn
  have hs := zzg hl (acc := acc) (by omega) (i := i) (by omega)
  have ht := zyd hl (acc := acc) (by omega) (i := i) (by omega)
  unfold rd at hs ht
  by_cases h0 : (nx (l.drop i)).2.1 = 0
  ·rw [if_pos h0] at hs ht
   refine ⟨acc, i, (nx (l.drop i)).2.2, by omega, ha, hr, ?_, ?_⟩
   ·unfold ul
    refine zr (x := some _) ?_
    exact hs
   ·unfold xi
    refine zr (x := some _) ?_
    exact ht
  ·rw [if_neg h0] at hs ht
   obtain ⟨h6, hk, hv⟩ := hn.2 h0
   obtain ⟨R, n, e, g1, g2, g3, g4, g5⟩ := ih (k - (nx (l.drop i)).2.1) (by omega) (i + (nx (l.drop i)).2.1) (acc ++ [(nx (l.drop i)).1]) (by omega) (by simp; omega) (fun r hr' => by
    rcases List.mem_append.1 hr' with h | h
    ·exact hr r h
    ·simp only [List.mem_singleton] at h; subst h; exact ⟨hk, hv⟩)
   refine ⟨R, n, e, g1, g2, g3, ?_, ?_⟩
   ·unfold ul
    rw [zx hs]
    exact g4
   ·unfold xi
    rw [zx ht]
    exact g5
theorem z2n {P : G_QRecord → Prop} {k : List UInt8} : ∀ (l : List G_QRecord) (r0 : G_QRecord), P r0 → (∀ r ∈ l, P r) → P (l.foldl (lastR k) r0)
 | [], r0, h, _ => h
 | r :: l, r0, h, hl => by
  rw [List.foldl_cons]
  refine z2n l _ ?_ fun x hx => hl x (List.mem_cons_of_mem _ hx)
  unfold lastR
  split
  ·exact hl r (List.mem_cons_self ..)
  ·exact h
theorem state_bound {R : List G_QRecord} (h : ∀ r ∈ R, r.f_Key.length ≤ 60 ∧ r.f_Value.length ≤ 3000) : ∀ r ∈ stateR R, r.f_Key.length ≤ 60 ∧ r.f_Value.length ≤ 3000 := by
 intro r hr
 unfold stateR at hr
 obtain ⟨k, _, hk⟩ := List.mem_flatMap.1 hr
 unfold keepR at hk
 split at hk
 ·cases hk
 ·simp only [List.mem_singleton] at hk
  subst hk
  exact z2n (P := fun r => r.f_Key.length ≤ 60 ∧ r.f_Value.length ≤ 3000) R nul (by simp [nul]) h
end Go.Proofs.YteepckliibfnkaaGreatDoor.J
