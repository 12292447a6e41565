/-
  Own text LawL of this claim: what functions of the given program compute, in plain Lean, and the proof; no condition.
-/
import Derived.Test.YteepckliibfnkaaGreatDoorLaw1
import Derived.Test.YteepckliibfnkaaGreatDoorLaw2
import Derived.Lib.IndexBytes
import Derived.Test.YteepckliibfnkaaGreatDoorGenB
namespace Go.Proofs.YteepckliibfnkaaGreatDoor
open Go.Fx Go.Sort
set_option linter.unusedVariables false
def nsp : List UInt8 → Nat
 | [] => 0
 | b :: t => if b = 32 then 0 else nsp t + 1
def fld : List UInt8 → List UInt8 → List (List UInt8)
 | cur, [] => [cur]
 | cur, b :: t => if b = 32 then cur :: fld [] t else fld (cur ++ [b]) t
theorem z6t : ∀ t : List UInt8, nsp t ≤ t.length
 | [] => Nat.le_refl _
 | b :: t => by
  have := z6t t
  unfold nsp
  split <;> simp <;> omega
theorem zbk : ∀ (t : List UInt8) (i : Nat) (h : i < t.length), i < nsp t → t[i] ≠ 32
 | [], i, h, _ => by simp at h
 | b :: t, i, h, hi => by
  unfold nsp at hi
  split at hi
  ·omega
  ·rename_i hb
   cases i with
   | zero => exact hb
   | succ i => exact zbk t i (by simpa using h) (by omega)
theorem z4w : ∀ (t : List UInt8) (h : nsp t < t.length), t[nsp t] = 32
 | [], h => by simp at h
 | b :: t, h => by
  by_cases hb : b = 32
  ·have e : nsp (b :: t) = 0 := by unfold nsp; rw [if_pos hb]
   simp only [e]
   exact hb
  ·have e : nsp (b :: t) = nsp t + 1 := by
    conv => lhs; unfold nsp
    rw [if_neg hb]
   simp only [e]
   exact z4w t (by rw [e] at h; simpa using h)
theorem zbx : ∀ (t cur : List UInt8), fld cur t = if nsp t < t.length then (cur ++ t.take (nsp t)) :: fld [] (t.drop (nsp t + 1)) else [cur ++ t]
 | [], cur => by simp [fld]
 | b :: t, cur => by
  by_cases hb : b = 32
  ·have e : nsp (b :: t) = 0 := by unfold nsp; rw [if_pos hb]
   conv => lhs; unfold fld
   rw [if_pos hb, e, if_pos (by simp)]
   simp
  ·have e : nsp (b :: t) = nsp t + 1 := by
    conv => lhs; unfold nsp
    rw [if_neg hb]
   conv => lhs; unfold fld
   rw [if_neg hb, zbx t (cur ++ [b]), e]
   by_cases h : nsp t < t.length
   ·rw [if_pos h, if_pos (by simpa using h)]; simp
   ·rw [if_neg h, if_neg (by simpa using h)]; simp
theorem z83 : ∀ (t cur : List UInt8), (fld cur t).length ≤ t.length + 1 ∧ ∀ w ∈ fld cur t, w.length ≤ cur.length + t.length
 | [], cur => by simp [fld]
 | b :: t, cur => by
  unfold fld
  split
  ·obtain ⟨h1, h2⟩ := z83 t []
   refine ⟨by simp; omega, fun w hw => ?_⟩
   rcases List.mem_cons.1 hw with rfl | hw
   ·exact Nat.le_add_right _ _
   ·have := h2 w hw; simp at this ⊢; omega
  ·obtain ⟨h1, h2⟩ := z83 t (cur ++ [b])
   refine ⟨by simp; omega, fun w hw => ?_⟩
   have := h2 w hw
   simp at this ⊢; omega
theorem zl0 : ∀ s : List UInt8, Lib.indexByte s 32 = if nsp s < s.length then (nsp s : Int) else -1
 | [] => by simp [Lib.indexByte, nsp]
 | b :: t => by
  have ih := zl0 t
  have hle := z6t t
  unfold Lib.indexByte nsp
  by_cases hb : b = 32
  ·subst hb; simp
  ·rw [ih]
   by_cases h : nsp t < t.length
   ·simp [hb, h]; try omega
   ·simp [hb, h]
theorem z1y : ∀ (k : Nat) (s : List UInt8), s.count 32 = k → Lib.splitK [32] 0 k s = fld [] s
 | 0, s, h => by
  have hn : ¬ nsp s < s.length := fun hh => by
   have h1 := z4w s hh
   have : 32 ∈ s := by rw [← h1]; exact List.getElem_mem hh
   have := List.count_pos_iff.2 this
   omega
  rw [zbx, if_neg hn]
  rfl
 | k + 1, s, h => by
  have hn : nsp s < s.length := by
   rcases Nat.lt_or_ge (nsp s) s.length with hh | hh
   ·exact hh
   ·have : 32 ∉ s := fun hm => by
     obtain ⟨i, hi, he⟩ := List.getElem_of_mem hm
     exact zbk s i hi (by omega) he
    rw [List.count_eq_zero.2 this] at h
    omega
  have hc : (s.drop (nsp s + 1)).count 32 = k := by
   have e : s = s.take (nsp s) ++ 32 :: s.drop (nsp s + 1) := by
    conv => lhs; rw [← List.take_append_drop (nsp s) s, List.drop_eq_getElem_cons hn, z4w s hn]
   have h0 : (s.take (nsp s)).count 32 = 0 := List.count_eq_zero.2 fun hm => by
    obtain ⟨i, hi, he⟩ := List.getElem_of_mem hm
    rw [List.getElem_take] at he
    exact zbk s i (by simp at hi; omega) (by simp at hi; omega) he
   rw [e, List.count_append, h0, List.count_cons_self] at h
   omega
  have ih := z1y k _ hc
  have hi : Lib.index s [32] = (nsp s : Int) := by rw [Lib.index_one, zl0, if_pos hn]
  rw [zbx, if_pos hn]
  unfold Lib.splitK
  rw [hi, if_neg (by simp)]
  simp only [Int.toNat_natCast, Nat.add_zero, List.length_singleton, List.nil_append]
  rw [ih]
theorem zed (s : List UInt8) : z0m 32 s = fld [] s := by
 unfold z0m Lib.split
 rw [Lib.count_one]
 exact z1y _ _ rfl
def stw (d : Do) (v : List UInt8) : Option (List (List UInt8)) :=
 if 8 ≤ v.length ∧ v.take 8 = hx 8 (Wy d.f_Text).toNat then
  match v.drop 8 with
  | [] => some []
  | b :: t => if b = 32 then some (fld [] t) else none
 else none
def stV (d : Do) (v : List UInt8) : Option En := match stw d v with
 | some ws => if vW ws = true then some ⟨d.f_Name, Wy d.f_Text, ws⟩ else none
 | none => none
def y1j (o : En × Bool) (r : Option En) : Prop := (o.2 = true → r = some o.1) ∧ (o.2 = false → r = none)
theorem zmx (l : List UInt8) : 0 ≤ Wy l ∧ Wy l < 4294967296 := zf5 l _ (by decide) (by decide)
theorem y37 (l : List UInt8) : uj none (Wy l) = some (hx 8 (Wy l).toNat) := by
 have h := zmx l
 have := zyh (n := (Wy l).toNat) (by omega)
 rwa [Int.toNat_of_nonneg h.1] at this
theorem y33 {v p : List UInt8} (hp : p.length = 8) : vi none v p = some (if 8 ≤ v.length ∧ v.take 8 = p then (v.drop 8, true) else (v, false)) := by
 unfold vi wq wr
 rw [hp, if_pos (by intro h; simp at h; omega), Option.bind_some]
 rw [show ((8 : Nat) : Int).toNat = 8 from rfl, List.drop_zero]
 by_cases h : 8 ≤ v.length ∧ v.take 8 = p
 ·rw [if_pos h, if_neg (by simp [h.2]; omega), if_pos (by omega), List.take_length]
  rfl
 ·rw [if_neg h, if_pos]
  ·rfl
  ·by_cases h8 : 8 ≤ v.length
   ·have : ¬ v.take 8 = p := fun e => h ⟨h8, e⟩
    simp [this]
   ·simp; exact .inl (by omega)
theorem b32 (b : UInt8) : ((((b.toNat : Nat) : Int)) != 32) = true ↔ b ≠ 32 := by
 rw [bne_iff_ne]
 constructor
 ·intro h e; subst e; exact h rfl
 ·intro h e
  refine h (UInt8.toNat_inj.1 ?_)
  have : (32 : UInt8).toNat = 32 := rfl
  omega
theorem zmq {d : Do} {v : List UInt8} (ht : d.f_Text.length ≤ 1000000) (hv : v.length ≤ 100000) : ∃ o, vw none d v = some o ∧ y1j o (stV d v) := by
 unfold vw
 rw [y2m (by omega), Option.bind_some, y37, Option.bind_some, y33 (zs0 _ _), Option.bind_some]
 unfold stV stw
 by_cases hP : 8 ≤ v.length ∧ v.take 8 = hx 8 (Wy d.f_Text).toNat
 ·rw [if_pos hP, if_pos hP]
  have hl : (v.drop 8).length ≤ 100000 := by rw [List.length_drop]; omega
  generalize v.drop 8 = r at hl
  have fin : ∀ ws : List (List UInt8), ws.length ≤ 1000000 → (∀ w ∈ ws, w.length ≤ 1000000) → ∃ o, wg none d (Wy d.f_Text) ws = some o ∧ y1j o (if vW ws = true then some ⟨d.f_Name, Wy d.f_Text, ws⟩ else none) := by
   intro ws h1 h2
   unfold wg
   rw [z3c (by omega) (fun w hw => Nat.le_trans (h2 w hw) (by omega)), Option.bind_some]
   refine ⟨_, rfl, fun h => ?_, fun h => ?_⟩
   ·exact if_pos h
   ·exact if_neg (by simpa using h)
  cases r with
  | nil =>
   rw [if_neg (by simp), if_neg (by simp)]
   exact fin [] (by simp) (by simp)
  | cons b t =>
   have htl : t.length ≤ 100000 := by simp at hl; omega
   rw [if_neg (by simp), if_pos (by simp), if_pos (by simp)]
   by_cases hb : b = 32
   ·subst hb
    rw [if_neg (by simp [show (0 : Int).toNat = 0 from rfl]), if_pos (by rw [List.length_cons]; omega)]
    simp only [List.take_length, show (1 : Int).toNat = 1 from rfl, List.drop_succ_cons, List.drop_zero]
    unfold Zx
    simp only [if_true]
    rw [if_pos (by omega), Option.bind_some, zed]
    obtain ⟨h1, h2⟩ := z83 t []
    exact fin _ (by omega) (fun w hw => by have := h2 w hw; simp at this; omega)
   ·rw [if_pos (by rw [show (0 : Int).toNat = 0 from rfl, List.getD_cons_zero]; exact (b32 b).2 hb)]
    refine ⟨_, rfl, nofun, fun _ => ?_⟩
    simp only [if_neg hb]
 ·rw [if_neg hP, if_neg hP, if_pos (by simp)]
  exact ⟨_, rfl, nofun, fun _ => rfl⟩
section
variable {d : Do} {s : Int}
theorem z8q {t : List UInt8} {ws : List (List UInt8)} (ht : t.length ≤ 1000000) (hw : ws.length ≤ 1000000) : ∀ (k i : Nat), i + k = nsp t →
 x9 none d s (32 :: t) ws (i : Int) = some (.inl (t.drop (nsp t), ws ++ [t.take (nsp t)]))
 | 0, i, h => by
  have hle := z6t t
  have hi : i = nsp t := by omega
  subst hi
  unfold x9
  refine zr ?_
  unfold qg jo
  simp only [List.take_length, show (1 : Int).toNat = 1 from rfl, List.drop_succ_cons, List.drop_zero, Int.toNat_natCast]
  rw [if_pos (by intro h; simp at h; omega), if_neg, if_pos (by omega), if_pos (by simp; omega), if_pos (by omega)]
  by_cases hlt : nsp t < t.length
  ·rw [show t.getD (nsp t) 0 = 32 by rw [List.getD_eq_getElem?_getD, List.getElem?_eq_getElem hlt, z4w t hlt]; rfl]
   simp
  ·simp; intro h'; omega
 | k + 1, i, h => by
  have hle := z6t t
  have hlt : i < t.length := by omega
  unfold x9
  rw [zx (s' := ((i + 1 : Nat) : Int)) ?_]
  ·exact z8q ht hw k (i + 1) (by omega)
  ·unfold qg
   simp only [List.take_length, show (1 : Int).toNat = 1 from rfl, List.drop_succ_cons, List.drop_zero, Int.toNat_natCast]
   have hne := zbk t i hlt (by omega)
   rw [if_pos (by intro _; omega), if_pos, Wi (by omega)]
   rw [show t.getD i 0 = t[i] by rw [List.getD_eq_getElem?_getD, List.getElem?_eq_getElem hlt]; rfl, Bool.and_eq_true]
   exact ⟨by simp; omega, (b32 _).2 hne⟩
theorem zey {ws : List (List UInt8)} (hw : ws.length ≤ 1000000) (hw2 : ∀ w ∈ ws, w.length ≤ 1000000) : zn none d s [] ws = some (⟨d.f_Name, s, ws⟩, vW ws) := by
 unfold zn
 refine zr ?_
 unfold y7 jl
 rw [if_neg (by simp), z12 (by omega) (fun w h => Nat.le_trans (hw2 w h) (by omega))]
 rfl
theorem zvp : ∀ (N : Nat) (t : List UInt8) (ws : List (List UInt8)), t.length ≤ N → ws.length + t.length ≤ 900000 → (∀ w ∈ ws, w.length ≤ 1000000) →
 zn none d s (32 :: t) ws = some (⟨d.f_Name, s, ws ++ fld [] t⟩, vW (ws ++ fld [] t)) := by
 intro N
 induction N with
 | zero =>
  intro t ws h1 h2 h3
  obtain rfl : t = [] := List.length_eq_zero_iff.1 (by omega)
  unfold zn
  rw [zx (s' := ([], ws ++ [[]])) ?_]
  ·exact zey (by simp; omega) (fun w hw => by
    rcases List.mem_append.1 hw with h | h
    ·exact h3 w h
    ·simp only [List.mem_singleton] at h; subst h; simp)
  ·unfold y7
   rw [if_pos (by simp), if_pos (by simp), if_neg (by simp [show (0 : Int).toNat = 0 from rfl]), if_pos (by simp)]
   have := z8q (d := d) (s := s) (t := []) (ws := ws) (by simp) (by omega) 0 0 rfl
   exact this
 | succ N ih =>
  intro t ws h1 h2 h3
  have hle := z6t t
  have hmem : ∀ w ∈ ws ++ [t.take (nsp t)], w.length ≤ 1000000 := fun w hw => by
   rcases List.mem_append.1 hw with h | h
   ·exact h3 w h
   ·simp only [List.mem_singleton] at h; subst h; simp; omega
  have step : zn none d s (32 :: t) ws = zn none d s (t.drop (nsp t)) (ws ++ [t.take (nsp t)]) := by
   unfold zn
   rw [zx (s' := (t.drop (nsp t), ws ++ [t.take (nsp t)])) ?_]
   unfold y7
   rw [if_pos (by simp), if_pos (by simp), if_neg (by simp [show (0 : Int).toNat = 0 from rfl]), if_pos (by rw [List.length_cons]; omega)]
   have := z8q (d := d) (s := s) (t := t) (ws := ws) (by omega) (by omega) (nsp t) 0 (by omega)
   exact this
  rw [step, zbx]
  by_cases hlt : nsp t < t.length
  ·rw [if_pos hlt, List.drop_eq_getElem_cons hlt, z4w t hlt, ih _ _ (by simp; omega) (by simp; omega) hmem]
   simp
  ·have he : nsp t = t.length := by omega
   rw [if_neg hlt, he, List.drop_length, List.take_length, List.nil_append]
   rw [he, List.take_length] at hmem
   exact zey (by simp; omega) hmem
end
theorem zmy {d : Do} {v : List UInt8} (ht : d.f_Text.length ≤ 1000000) (hv : v.length ≤ 100000) : ∃ o, q9 none d v = some o ∧ y1j o (stV d v) := by
 obtain ⟨hc0, hc1⟩ := zmx d.f_Text
 unfold q9
 rw [y1v (by omega), Option.bind_some, if_pos (by intro h; simp at h; omega)]
 unfold stV stw
 by_cases h8 : 8 ≤ v.length
 ·rw [if_pos (by simp; omega), z9p hc0 hc1 rfl, Option.bind_some]
  rw [show (8 : Int).toNat = 8 from rfl, List.drop_zero]
  by_cases hP : v.take 8 = hx 8 (Wy d.f_Text).toNat
  ·rw [if_neg (by simp [hP]; omega), if_pos (by omega), if_pos ⟨h8, hP⟩, List.take_length]
   have hl : (v.drop 8).length ≤ 100000 := by rw [List.length_drop]; omega
   generalize v.drop 8 = r at hl
   have fin : ∀ ws : List (List UInt8), y1j (⟨d.f_Name, Wy d.f_Text, ws⟩, vW ws) (if vW ws = true then some ⟨d.f_Name, Wy d.f_Text, ws⟩ else none) := fun ws => ⟨fun h => if_pos h, fun h => if_neg (by simpa using h)⟩
   cases r with
   | nil => exact ⟨_, zey (by simp) (by simp), fin _⟩
   | cons b t =>
    by_cases hb : b = 32
    ·subst hb
     simp only [if_true]
     exact ⟨_, zvp _ t [] (Nat.le_refl _) (by simp at hl ⊢; omega) (by simp), fin _⟩
    ·simp only [if_neg hb]
     refine ⟨(⟨[], 0, []⟩, false), ?_, nofun, fun _ => rfl⟩
     unfold zn
     refine zr ?_
     unfold y7
     rw [if_pos (by simp), if_pos (by simp), if_pos (by rw [show (0 : Int).toNat = 0 from rfl, List.getD_cons_zero]; exact (b32 b).2 hb)]
  ·rw [if_pos (by simp [hP]), if_neg (fun h => hP h.2)]
   exact ⟨_, rfl, nofun, fun _ => rfl⟩
 ·rw [if_neg (by simp; omega), Option.bind_some, if_pos (by simp; omega), if_neg (fun h => h8 h.1)]
  exact ⟨_, rfl, nofun, fun _ => rfl⟩
theorem zcw {k : List UInt8} : ∀ (l : List G_QRecord) (r0 : G_QRecord), (∃ r ∈ l, r.f_Key = k) ∨ r0.f_Key = k → (l.foldl (J.lastR k) r0).f_Key = k
 | [], r0, h => by
  rcases h with ⟨r, hr, _⟩ | h
  ·cases hr
  ·exact h
 | r :: l, r0, h => by
  refine zcw l _ ?_
  unfold J.lastR
  by_cases hk : r.f_Key = k
  ·rw [if_pos hk]; exact .inr hk
  ·rw [if_neg hk]
   rcases h with ⟨x, hx, hxk⟩ | h
   ·rcases List.mem_cons.1 hx with rfl | hx
    ·exact absurd hxk hk
    ·exact .inl ⟨x, hx, hxk⟩
   ·exact .inr h
theorem ze3 (R : List G_QRecord) : (J.stateR R).Pairwise fun x y => x.f_Key ≠ y.f_Key := by
 unfold J.stateR
 have hk : ∀ k ∈ Jy (R.map (·.f_Key)), ∀ x ∈ J.keepR R k, x.f_Key = k := fun k hk x hx => by
  unfold J.keepR at hx
  split at hx
  ·cases hx
  ·simp only [List.mem_singleton] at hx
   subst hx
   refine zcw R _ (.inl ?_)
   obtain ⟨r, hr, he⟩ := List.mem_map.1 (sortS_mem.1 hk)
   exact ⟨r, hr, he⟩
 rw [List.pairwise_flatMap]
 refine ⟨fun k _ => ?_, ?_⟩
 ·unfold J.keepR
  split
  ·exact List.Pairwise.nil
  ·exact List.pairwise_singleton ..
 ·refine (Qv _).imp_of_mem fun {a b} ha hb hab x hx y hy => ?_
  rw [hk a ha x hx, hk b hb y hy]
  intro e
  subst e
  exact List.lt_irrefl _ hab
def ent (S : List G_QRecord) (d : Do) : En × Bool := match S.find? (fun r => r.f_Key == d.f_Name) with
 | none => (k9 d, false)
 | some r => match stV d r.f_Value with
  | some e => (e, true)
  | none => (k9 d, false)
theorem zxt {d : Do} {v : List UInt8} {e : En} (h : stV d v = some e) : e.f_Name = d.f_Name ∧ e.f_Words.length ≤ 400 := by
 unfold stV at h
 split at h
 ·split at h
  ·rename_i hv
   simp only [Option.some.injEq] at h
   subst h
   unfold vW at hv
   simp only [Bool.and_eq_true, decide_eq_true_eq] at hv
   exact ⟨rfl, by dsimp only; omega⟩
  ·cases h
 ·cases h
theorem zrl (S : List G_QRecord) (d : Do) : (ent S d).1.f_Name = d.f_Name ∧ (ent S d).1.f_Words.length ≤ 400 := by
 unfold ent
 split
 ·exact ⟨rfl, z7s _⟩
 ·split
  ·rename_i h; exact zxt h
  ·exact ⟨rfl, z7s _⟩
section
variable {S : List G_QRecord}
theorem zb8 {nm tx : List UInt8} {ver : Int} (hl : S.length ≤ 100000) : ∀ (k i : Nat), i + k = S.length →
 ∃ r : Int, qp (fun (s : Unit) (x : G_QRecord) => (x4 none nm ver tx x).map fun o => (o, ())) none S (i : Int) () = some (r, ()) ∧
  ((r < 0 ∧ (S.drop i).find? (fun r => r.f_Key == nm) = none) ∨ ∃ j : Nat, r = (j : Int) ∧ ∃ h : j < S.length, (S.drop i).find? (fun r => r.f_Key == nm) = some S[j])
 | 0, i, h => by
  have hi : i = S.length := by omega
  subst hi
  refine ⟨-1, ?_, .inl ⟨by decide, by rw [List.drop_length]; rfl⟩⟩
  unfold qp
  refine zr ?_
  unfold y9
  rw [if_neg (by simp)]
  rfl
 | k + 1, i, h => by
  have hi : i < S.length := by omega
  rw [List.drop_eq_getElem_cons hi, List.find?_cons]
  unfold qp
  cases hx : (S[i].f_Key == nm) with
  | true =>
   refine ⟨i, ?_, .inr ⟨i, rfl, hi, rfl⟩⟩
   refine zr ?_
   unfold y9
   simp only [List.length_map, Int.toNat_natCast, q8 hi]
   rw [if_pos (by simp; omega), if_pos (by omega)]
   simp only [x4, Option.map_some, Option.bind_some]
   rw [if_pos hx]
  | false =>
   obtain ⟨r, h1, h2⟩ := zb8 (nm := nm) (tx := tx) (ver := ver) hl k (i + 1) (by omega)
   refine ⟨r, ?_, h2⟩
   rw [zx (s' := (((i + 1 : Nat) : Int), ())) ?_]
   ·exact h1
   ·unfold y9
    simp only [List.length_map, Int.toNat_natCast, q8 hi]
    rw [if_pos (by simp; omega), if_pos (by omega)]
    simp only [x4, Option.map_some, Option.bind_some]
    rw [if_neg (by simp [hx]), Wi (by omega)]
def nms (S : List G_QRecord) (d : Do) : List (List UInt8) := if (ent S d).2 = true then [] else [d.f_Name]
theorem zte {ds : List Do} (hd : ds.length ≤ 20) (ht : ∀ d ∈ ds, d.f_Text.length ≤ 2000) (hl : S.length ≤ 100000) (hv : ∀ r ∈ S, r.f_Value.length ≤ 3000) {i : Nat} (hi : i < ds.length) {acc : List En} {nn : List (List UInt8)} (ha : acc.length ≤ 100) (hn : nn.length ≤ 100) :
 xz none ds S (i : Int) acc nn = some (.inl (((i + 1 : Nat) : Int), acc ++ [(ent S ds[i]).1], nn ++ nms S ds[i])) := by
 have htx := ht _ (List.getElem_mem hi)
 obtain ⟨r, h1, h2⟩ := zb8 (S := S) (nm := ds[i].f_Name) (tx := ds[i].f_Text) (ver := ds[i].f_Version) hl S.length 0 (by omega)
 rw [List.drop_zero] at h2
 have j5 : (ent S ds[i]) = (k9 ds[i], false) → jq none ds S (i : Int) acc nn = some (.inl (((i + 1 : Nat) : Int), acc ++ [(ent S ds[i]).1], nn ++ nms S ds[i])) := by
  intro he
  unfold jq js
  simp only [Int.toNat_natCast, q8 hi]
  rw [show (⟨ds[i].f_Name, ds[i].f_Version, ds[i].f_Text⟩ : Do) = ds[i] from rfl, z0u (by omega), Option.bind_some, if_pos (by simp; omega), if_pos (by simp; omega), Wi (by omega)]
  unfold nms
  rw [he, if_neg (by simp)]
 unfold xz xe
 simp only [List.length_map, Int.toNat_natCast, q8 hi]
 rw [if_pos (by simp; omega), if_pos (by omega)]
 rw [show (0 : Int) = ((0 : Nat) : Int) from rfl, h1, Option.bind_some]
 rcases h2 with ⟨h2, h3⟩ | ⟨j, rfl, hj, h3⟩
 ·rw [if_neg (by simp; omega)]
  exact j5 (by unfold ent; rw [h3])
 ·rw [if_pos (by simp), if_pos (by simp; omega)]
  simp only [Int.toNat_natCast, q8 hj]
  obtain ⟨o, g1, g2, g3⟩ := zmq (d := ds[i]) (v := S[j].f_Value) (by omega) (Nat.le_trans (hv _ (List.getElem_mem hj)) (by omega))
  rw [show (⟨ds[i].f_Name, ds[i].f_Version, ds[i].f_Text⟩ : Do) = ds[i] from rfl, g1, Option.bind_some]
  cases hb : o.2 with
  | true =>
   have he : ent S ds[i] = (o.1, true) := by unfold ent; rw [h3]; simp only [g2 hb]
   rw [if_pos rfl, if_pos (by simp; omega)]
   unfold js nms
   rw [he, if_pos rfl, List.append_nil, Wi (by omega)]
  | false =>
   rw [if_neg (by simp)]
   exact j5 (by unfold ent; rw [h3]; simp only [g3 hb])
def uk (S : List G_QRecord) (ds : List Do) : List En := ds.map fun d => (ent S d).1
def X3 (S : List G_QRecord) (ds : List Do) : List (List UInt8) := ds.flatMap (nms S)
theorem zeo (d : Do) : (nms S d).length ≤ 1 := by unfold nms; split <;> simp
theorem zag {ds : List Do} (hd : ds.length ≤ 20) (ht : ∀ d ∈ ds, d.f_Text.length ≤ 2000) (hl : S.length ≤ 100000) (hv : ∀ r ∈ S, r.f_Value.length ≤ 3000) : ∀ (k i : Nat) (acc : List En) (nn : List (List UInt8)), i + k = ds.length → acc.length ≤ i → nn.length ≤ i →
 vb none ds S (i : Int) acc nn = jr none (acc ++ uk S (ds.drop i)) (nn ++ X3 S (ds.drop i))
 | 0, i, acc, nn, h, h1, h2 => by
  have hi : i = ds.length := by omega
  subst hi
  unfold vb uk X3
  rw [List.drop_length, List.map_nil, List.flatMap_nil, List.append_nil, List.append_nil]
  refine zr ?_
  unfold xz
  rw [if_neg (by simp)]
 | k + 1, i, acc, nn, h, h1, h2 => by
  have hi : i < ds.length := by omega
  have hq := zeo (S := S) ds[i]
  have ih := zag hd ht hl hv k (i + 1) (acc ++ [(ent S ds[i]).1]) (nn ++ nms S ds[i]) (by omega) (by simp; omega) (by rw [List.length_append]; omega)
  unfold vb
  rw [zx (zte hd ht hl hv hi (show acc.length ≤ 100 by omega) (show nn.length ≤ 100 by omega)), List.drop_eq_getElem_cons hi]
  refine ih.trans ?_
  unfold uk X3
  rw [List.map_cons, List.flatMap_cons, List.append_assoc, List.append_assoc]
  rfl
def zx7 (es : List En) : List En := es.foldl (fun idx e => ie e false idx) []
theorem z8i : ∀ (es idx : List En), (idx.Pairwise fun x y => x.f_Name < y.f_Name) → (∀ e ∈ es, ∀ x ∈ idx, x.f_Name ≠ e.f_Name) → (es.map (·.f_Name)).Nodup →
 (es.foldl (fun idx e => ie e false idx) idx).Perm (idx ++ es) ∧ ((es.foldl (fun idx e => ie e false idx) idx).Pairwise fun x y => x.f_Name < y.f_Name)
 | [], idx, h, _, _ => ⟨by simp, h⟩
 | d :: ds, idx, h, h1, h2 => by
  simp only [List.map_cons, List.nodup_cons] at h2
  obtain ⟨p1, p2⟩ := zg5 (e := d) (l := idx) (fun x hx => h1 d (List.mem_cons_self ..) x hx) h
  obtain ⟨q1, q2⟩ := z8i ds (ie d false idx) p2 (fun d' hd x hx => by
   rcases List.mem_cons.1 (p1.mem_iff.1 hx) with rfl | hx
   ·exact fun e => h2.1 (List.mem_map.2 ⟨d', hd, e.symm⟩)
   ·exact h1 d' (List.mem_cons_of_mem _ hd) x hx) h2.2
  refine ⟨q1.trans ?_, q2⟩
  refine (p1.append_right _).trans ?_
  rw [List.cons_append]
  exact List.perm_middle.symm
theorem z1g (ds : List Do) : (uk S ds).map (·.f_Name) = ds.map (·.f_Name) := by
 unfold uk
 rw [List.map_map]
 exact List.map_congr_left fun d _ => (zrl S d).1
theorem z0v (ds : List Do) : (X3 S ds).Sublist (ds.map (·.f_Name)) := by
 unfold X3
 induction ds with
 | nil => exact List.Sublist.refl _
 | cons d ds ih =>
  rw [List.flatMap_cons, List.map_cons]
  unfold nms
  split
  ·rw [List.nil_append]; exact ih.cons _
  ·exact ih.cons_cons _
theorem z8k {l : List (List UInt8)} (h : l.Nodup) : Jw l = Jy l := by
 refine z8c ?_ (Qv _) fun x => by rw [(Qy l).mem_iff, sortS_mem]
 have hn : (Jw l).Nodup := (Qy l).nodup_iff.2 h
 refine ((z0k l).and hn).imp fun {a b} hab => ?_
 rcases List.le_iff_lt_or_eq.1 hab.1 with h1 | h1
 ·exact h1
 ·exact absurd h1 hab.2
theorem zd3 {ds : List Do} (hd : ds.length ≤ 20) (hn : (ds.map (·.f_Name)).Nodup) : jr none (uk S ds) (X3 S ds) = some (zx7 (uk S ds), Jy (X3 S ds), 0) := by
 have hel : (uk S ds).length = ds.length := by unfold uk; simp
 have hnl := (z0v (S := S) ds).length_le
 rw [List.length_map] at hnl
 obtain ⟨b1, b2⟩ := z8i (uk S ds) [] List.Pairwise.nil (fun _ _ x hx => by cases hx) (by rw [z1g]; exact hn)
 rw [List.nil_append] at b1
 replace b1 : (zx7 (uk S ds)).Perm (uk S ds) := b1
 unfold jr yl jg
 have hu : z5u zx5 (uk S ds) = some (zx7 (uk S ds)) := zbp (z8a (·.f_Name) zb2) (by omega) (fun r' p1 p2 => by
  refine Uw (f := fun x : En => x.f_Name) (p1.trans b1.symm) (p2.imp fun h => ?_) b2
  rw [Je (fun x : En => x.f_Name) zb2] at h
  simpa using h)
 have hnd := (z0v (S := S) ds).nodup hn
 rw [hu, Option.bind_some, if_pos b1.length_eq, if_pos (by omega), Option.bind_some, if_pos (Qy _).length_eq, z8k hnd]
end
section
variable {S : List G_QRecord} {ds : List Do} {v2 : (List G_QIndexEntry) × (List (List UInt8)) × Int} {v5 : (List G_QRecord) × Int × Int} {v33 : List En} {v34 : List (List UInt8)}
theorem zi5 (hl : S.length ≤ 100000) {q : Nat} (hq : q < ds.length) {v69 : Bool} {v71 : List UInt8} {v72 : Int} {v73 : List (List UInt8)} : ∀ (k i : Nat), i + k = S.length → (∀ r ∈ S.drop i, r.f_Key ≠ ds[q].f_Name) →
 y4 none ds v2 v5 v33 v34 (q : Int) S v69 (i : Int) v71 v72 v73 = zo none ds v2 v5 v33 v34 (q : Int) v69 v71 v72 v73
 | 0, i, h, hk => by
  have hi : i = S.length := by omega
  subst hi
  unfold y4
  refine zr ?_
  unfold zq
  rw [if_neg (by simp)]
 | k + 1, i, h, hk => by
  have hi : i < S.length := by omega
  rw [List.drop_eq_getElem_cons hi] at hk
  unfold y4
  rw [zx (s' := (v69, ((i + 1 : Nat) : Int), v71, v72, v73)) ?_]
  ·exact zi5 hl hq k (i + 1) (by omega) fun r hr => hk r (List.mem_cons_of_mem _ hr)
  ·unfold zq zy
   simp only [List.length_map, Int.toNat_natCast, q8 hi, q8 hq]
   rw [if_pos (by simp; omega), if_pos (by omega), if_neg (by simpa using hk _ (List.mem_cons_self ..)), Wi (by omega)]
theorem zbh (hl : S.length ≤ 100000) (hp : S.Pairwise fun x y => x.f_Key ≠ y.f_Key) {q : Nat} (hq : q < ds.length) {r : G_QRecord} {o : En × Bool} (ho : q9 none ds[q] r.f_Value = some o) {v69 : Bool} {v71 : List UInt8} {v72 : Int} {v73 : List (List UInt8)} : ∀ (k i : Nat), i + k = S.length → (S.drop i).find? (fun r => r.f_Key == ds[q].f_Name) = some r →
 y4 none ds v2 v5 v33 v34 (q : Int) S v69 (i : Int) v71 v72 v73 = zo none ds v2 v5 v33 v34 (q : Int) o.2 o.1.f_Name o.1.f_Sum o.1.f_Words
 | 0, i, h, hk => by
  have hi : i = S.length := by omega
  subst hi
  rw [List.drop_length] at hk
  cases hk
 | k + 1, i, h, hk => by
  have hi : i < S.length := by omega
  rw [List.drop_eq_getElem_cons hi, List.find?_cons] at hk
  unfold y4
  cases hx : (S[i].f_Key == ds[q].f_Name) with
  | true =>
   rw [hx] at hk
   simp only [Option.some.injEq] at hk
   subst hk
   rw [zx (s' := (o.2, ((i + 1 : Nat) : Int), o.1.f_Name, o.1.f_Sum, o.1.f_Words)) ?_]
   ·refine zi5 hl hq k (i + 1) (by omega) fun r hr => ?_
    have hxe : S[i].f_Key = ds[q].f_Name := by simpa using hx
    rw [← hxe]
    obtain ⟨j, hj, rfl⟩ := List.getElem_of_mem hr
    rw [List.getElem_drop]
    have hj' : i + 1 + j < S.length := by simp at hj; omega
    exact (List.pairwise_iff_getElem.1 hp i (i + 1 + j) hi hj' (by omega)).symm
   ·unfold zq zy
    simp only [List.length_map, Int.toNat_natCast, q8 hi, q8 hq]
    rw [if_pos (by simp; omega), if_pos (by omega), if_pos hx, show (⟨ds[q].f_Name, ds[q].f_Version, ds[q].f_Text⟩ : Do) = ds[q] from rfl, ho, Option.bind_some, Wi (by omega)]
  | false =>
   rw [hx] at hk
   rw [zx (s' := (v69, ((i + 1 : Nat) : Int), v71, v72, v73)) ?_]
   ·exact zbh hl hp hq ho k (i + 1) (by omega) hk
   ·unfold zq zy
    simp only [List.length_map, Int.toNat_natCast, q8 hi, q8 hq]
    rw [if_pos (by simp; omega), if_pos (by omega), if_neg (by simp [hx]), Wi (by omega)]
theorem zpy (hl : S.length ≤ 100000) (hp : S.Pairwise fun x y => x.f_Key ≠ y.f_Key) (hv : ∀ r ∈ S, r.f_Value.length ≤ 3000) (ht : ∀ d ∈ ds, d.f_Text.length ≤ 2000) (hd : ds.length ≤ 20) (hS : xh none v5.1 = some S) {q : Nat} (hq : q < ds.length) (h33 : v33.length ≤ 100) (h34 : v34.length ≤ 100) :
 y1 none ds v2 v5 v33 v34 (q : Int) = some (.inl (ie (ent S ds[q]).1 false v33, v34 ++ nms S ds[q], ((q + 1 : Nat) : Int))) := by
 have htx := ht _ (List.getElem_mem hq)
 unfold y1
 rw [if_pos (by simp; omega), if_pos (by simp; omega), hS, Option.bind_some]
 have fresh : ∀ (v71 : List UInt8) (v72 : Int) (v73 : List (List UInt8)), ent S ds[q] = (k9 ds[q], false) → zo none ds v2 v5 v33 v34 (q : Int) false v71 v72 v73 = some (.inl (ie (ent S ds[q]).1 false v33, v34 ++ nms S ds[q], ((q + 1 : Nat) : Int))) := by
  intro v71 v72 v73 he
  unfold zo yg yw
  simp only [Int.toNat_natCast, q8 hq]
  rw [if_pos (by simp), show (⟨ds[q].f_Name, ds[q].f_Version, ds[q].f_Text⟩ : Do) = ds[q] from rfl, zfw (by omega), Option.bind_some, if_pos (by simp; omega)]
  rw [show (⟨(k9 ds[q]).f_Name, (k9 ds[q]).f_Sum, (k9 ds[q]).f_Words⟩ : En) = k9 ds[q] from rfl, z7q (by omega), Option.bind_some, Wi (by omega)]
  unfold nms
  rw [he, if_neg (by simp)]
 cases hf : S.find? (fun r => r.f_Key == ds[q].f_Name) with
 | none =>
  have hn : ∀ r ∈ S.drop 0, r.f_Key ≠ ds[q].f_Name := fun r hr => by
   rw [List.drop_zero] at hr
   simpa using List.find?_eq_none.1 hf r hr
  have := zi5 (S := S) (ds := ds) (v2 := v2) (v5 := v5) (v33 := v33) (v34 := v34) (v69 := false) (v71 := []) (v72 := 0) (v73 := []) hl hq S.length 0 (by omega) hn
  rw [show ((0 : Nat) : Int) = 0 from rfl] at this
  rw [this]
  exact fresh _ _ _ (by unfold ent; rw [hf])
 | some r =>
  obtain ⟨o, g1, g2, g3⟩ := zmy (d := ds[q]) (v := r.f_Value) (by omega) (Nat.le_trans (hv _ (List.mem_of_find?_eq_some hf)) (by omega))
  have := zbh (S := S) (ds := ds) (v2 := v2) (v5 := v5) (v33 := v33) (v34 := v34) (v69 := false) (v71 := []) (v72 := 0) (v73 := []) hl hp hq g1 S.length 0 (by omega) (by rw [List.drop_zero]; exact hf)
  rw [show ((0 : Nat) : Int) = 0 from rfl] at this
  rw [this]
  cases hb : o.2 with
  | false => exact fresh _ _ _ (by unfold ent; rw [hf]; simp only [g3 hb])
  | true =>
   have he : ent S ds[q] = (o.1, true) := by unfold ent; rw [hf]; simp only [g2 hb]
   unfold zo yg yw
   rw [if_neg (by simp), show (⟨o.1.f_Name, o.1.f_Sum, o.1.f_Words⟩ : En) = o.1 from rfl, z7q (by omega), Option.bind_some, Wi (by omega)]
   unfold nms
   rw [he, if_pos rfl, List.append_nil]
theorem zbs (hl : S.length ≤ 100000) (hp : S.Pairwise fun x y => x.f_Key ≠ y.f_Key) (hv : ∀ r ∈ S, r.f_Value.length ≤ 3000) (ht : ∀ d ∈ ds, d.f_Text.length ≤ 2000) (hd : ds.length ≤ 20) (hS : xh none v5.1 = some S) : ∀ (k i : Nat) (v33 : List En) (v34 : List (List UInt8)), i + k = ds.length → v33.length ≤ i → v34.length ≤ i →
 q7 none ds v2 v5 v33 v34 (i : Int) = yx none v2 ((uk S (ds.drop i)).foldl (fun idx e => ie e false idx) v33) (v34 ++ X3 S (ds.drop i))
 | 0, i, v33, v34, h, h1, h2 => by
  have hi : i = ds.length := by omega
  subst hi
  unfold q7 uk X3
  rw [List.drop_length, List.map_nil, List.flatMap_nil, List.append_nil, List.foldl_nil]
  refine zr ?_
  unfold y1
  rw [if_neg (by simp)]
 | k + 1, i, v33, v34, h, h1, h2 => by
  have hi : i < ds.length := by omega
  have hq := zeo (S := S) ds[i]
  have hlen := (zqy (e := (ent S ds[i]).1) v33).2
  have ih := zbs hl hp hv ht hd hS k (i + 1) (ie (ent S ds[i]).1 false v33) (v34 ++ nms S ds[i]) (by omega) (by omega) (by rw [List.length_append]; omega)
  unfold q7
  rw [zx (zpy hl hp hv ht hd hS hi (show v33.length ≤ 100 by omega) (show v34.length ≤ 100 by omega)), List.drop_eq_getElem_cons hi]
  refine ih.trans ?_
  unfold uk X3
  rw [List.map_cons, List.foldl_cons, List.flatMap_cons, List.append_assoc]
end
theorem z9u (a0 : List UInt8) {ds : List Do} (hl : ds.length ≤ 4000000000000) : yr none a0 ds = some true := by
 unfold yr
 rw [Kn, Option.bind_some, if_neg (by simp), if_pos (by split <;> omega)]
 have hll : ((a0.take (if 3000 < (a0.length : Int) then 3000 else (a0.length : Int)).toNat).drop 0).length ≤ 3000 := by
  rw [List.drop_zero, List.length_take]; split <;> omega
 generalize (a0.take (if 3000 < (a0.length : Int) then 3000 else (a0.length : Int)).toNat).drop 0 = l at hll
 obtain ⟨R, n, e, g1, g2, g3, g4, g5⟩ := J.scanned (l := l) (by omega) l.length 0 [] (by omega) (by simp) (by simp)
 have hscan : Zf none l = some (R, (n : Int), e) := g4
 have href : jb none l = some (R, (n : Int), e) := g5
 have hrec : kv none l = some (l.take n, R) := by
  unfold kv
  rw [if_pos (by split <;> omega), if_neg (by omega)]
  simp only [Int.toNat_natCast, List.take_length, List.drop_zero]
  rw [hscan, Option.bind_some, if_pos (by dsimp only; omega)]
  rfl
 have hRl : R.length ≤ 3000 := by omega
 have hSl := J.stateR_len R
 have hSv : ∀ r ∈ J.stateR R, r.f_Value.length ≤ 3000 := fun r hr => (J.state_bound g3 r hr).2
 have hrest : ve none l ds = some (if chk ds = 0 then (zx7 (uk (J.stateR R) ds), Jy (X3 (J.stateR R) ds), 0) else ([], [], chk ds)) := by
  unfold ve
  rw [Ut hl, Option.bind_some]
  by_cases hc : chk ds = 0
  ·obtain ⟨h1, h2, h3⟩ := zio hc
   rw [if_neg (by simp [hc]), if_pos hc, hrec, Option.bind_some, J.prog_state (by dsimp only; omega), Option.bind_some]
   have := zag (S := J.stateR R) (ds := ds) h1 h2 (by omega) hSv ds.length 0 [] [] (by omega) (by simp) (by simp)
   rw [show (0 : Int) = ((0 : Nat) : Int) from rfl, this, List.drop_zero, List.nil_append, List.nil_append]
   exact zd3 h1 h3
  ·rw [if_pos (by simpa using hc), if_neg hc]
 rw [hrest, Option.bind_some, znt hl, Option.bind_some]
 by_cases hc : chk ds = 0
 ·obtain ⟨h1, h2, h3⟩ := zio hc
  rw [if_neg (by simp [hc]), if_pos hc, href, Option.bind_some]
  have := zbs (S := J.stateR R) (ds := ds) (v2 := (zx7 (uk (J.stateR R) ds), Jy (X3 (J.stateR R) ds), 0)) (v5 := (R, (n : Int), e)) (by omega) (ze3 R) hSv h2 h1 (J.ref_state (by dsimp only; omega)) ds.length 0 [] [] (by omega) (by simp) (by simp)
  rw [show ((0 : Nat) : Int) = 0 from rfl] at this
  rw [this, List.drop_zero, List.nil_append]
  obtain ⟨b1, b2⟩ := z8i (uk (J.stateR R) ds) [] List.Pairwise.nil (fun _ _ x hx => by cases hx) (by rw [z1g]; exact h3)
  rw [List.nil_append] at b1
  have hel : (uk (J.stateR R) ds).length = ds.length := by unfold uk; simp
  have hbl := b1.length_eq
  have hbw : ∀ b ∈ (uk (J.stateR R) ds).foldl (fun idx e => ie e false idx) [], b.f_Words.length ≤ 8796093022208 := fun b hb => by
   obtain ⟨d, _, rfl⟩ := List.mem_map.1 (b1.mem_iff.1 hb)
   have := (zrl (J.stateR R) d).2
   omega
  have hnl := (z0v (S := J.stateR R) ds).length_le
  rw [List.length_map] at hnl
  have hsl := V5 (X3 (J.stateR R) ds)
  unfold yx
  rw [Kn, Option.bind_some]
  simp only [beq_self_eq_true, Bool.and_true, Bool.true_and, if_true]
  unfold zx7
  rw [y0z (by omega) hbw, Option.bind_some]
  simp only [beq_self_eq_true, Bool.true_and, if_true]
  rw [zp1 (by omega), Option.bind_some, zcm (by omega), Option.bind_some]
 ·rw [if_pos (by simpa using hc), if_neg hc, Option.bind_some]
  simp
open Go.Fx
def Ja (x : G_QDocument) : Prop := x.f_Name.length ≤ reachBytes ∧ (IntKind.min .i64 ≤ x.f_Version ∧ x.f_Version ≤ IntKind.max .i64) ∧ x.f_Text.length ≤ reachBytes
def z0w (x : List G_QDocument) : Prop := (x.length ≤ maxLen ∧ x.length * 40 ≤ reachBytes ∧ ∀ y ∈ x, Ja y)
def y03 (x : List UInt8) : Prop := x.length ≤ reachBytes
def zzf (x : Int) : Prop := (IntKind.min .i64 ≤ x ∧ x ≤ IntKind.max .i64)
def y34 (a0 : List UInt8) (a1 : List G_QDocument) : Prop := (a0.length ≤ reachBytes) ∧ ((a1.length ≤ maxLen ∧ a1.length * 40 ≤ reachBytes ∧ ∀ y ∈ a1, Ja y))
theorem y36 {a0 : List UInt8} {a1 : List G_QDocument} (h : y34 a0 a1) : yr none a0 a1 = some true := by
 obtain ⟨_, _, hl, _⟩ := h
 unfold reachBytes at hl
 exact z9u a0 (by omega)
end Go.Proofs.YteepckliibfnkaaGreatDoor
