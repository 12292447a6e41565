/-
  What a header line says, in plain lists; no condition.
-/
import Derived.Lib.IndexMore
import Derived.Lib.SlTrimSet
import Derived.Lib.Atoi
import Derived.Lib.Fold
import Derived.Test.YtbinocieebfpiaaDoorGenA
import Derived.Test.YtbinocieebfpiaaDoorFxLt
namespace Go.Proofs.YtbinocieebfpiaaDoor
open Go.Lib
set_option linter.unusedVariables false
set_option linter.unusedSimpArgs false
def zaa (c : UInt8) : UInt8 := if 65 ≤ c.toNat ∧ c.toNat ≤ 90 then c + 32 else c
def z1p (s : List UInt8) : List UInt8 := s.map zaa
theorem z13 (c : UInt8) : (zaa c).toNat = if 65 ≤ c.toNat ∧ c.toNat ≤ 90 then c.toNat + 32 else c.toNat := by
 unfold zaa
 split
 ·rw [UInt8.toNat_add]
  have : (32 : UInt8).toNat = 32 := rfl
  omega
 ·rfl
theorem z5c (x y : UInt8) : foldEq x y = (zaa x == zaa y) := by
 unfold foldEq
 rw [Bool.eq_iff_iff, decide_eq_true_eq, beq_iff_eq, ← UInt8.toNat_inj, z13, z13]
 split <;> split <;> omega
theorem z1b : ∀ s t : List UInt8, equalFold s t = (z1p s == z1p t)
 | [], [] => rfl
 | [], y :: t => rfl
 | x :: s, [] => rfl
 | x :: s, y :: t => by
  rw [equalFold, z5c, z1b s t]
  simp only [z1p, List.map_cons]
  rfl
def rt (p : UInt8 → Bool) : List UInt8 → List UInt8
 | [] => []
 | c :: r => if rt p r = [] ∧ p c = true then [] else c :: rt p r
theorem z9t (p : UInt8 → Bool) : ∀ l : List UInt8, (l.reverse.dropWhile p).reverse = rt p l
 | [] => rfl
 | c :: r => by
  have ih := z9t p r
  rw [rt, ← ih, List.reverse_cons, List.dropWhile_append]
  by_cases h : r.reverse.dropWhile p = []
  ·rw [h]
   by_cases hc : p c = true
   ·simp [hc]
   ·simp [hc]
  ·have : (r.reverse.dropWhile p).isEmpty = false := by cases hh : r.reverse.dropWhile p with | nil => exact absurd hh h | cons _ _ => rfl
   rw [this, if_neg (by simp), if_neg (by intro hh; exact h (by simpa using hh.1))]
   simp
theorem zek (p : UInt8 → Bool) : ∀ l : List UInt8, (rt p l).dropWhile p = rt p (l.dropWhile p)
 | [] => rfl
 | c :: r => by
  rw [rt]
  by_cases hc : p c = true
  ·rw [List.dropWhile_cons, if_pos hc, ← zek p r]
   by_cases h : rt p r = []
   ·rw [if_pos ⟨h, hc⟩, h]
   ·rw [if_neg (fun hh => h hh.1), List.dropWhile_cons, if_pos hc]
  ·rw [if_neg (fun hh => hc hh.2), List.dropWhile_cons, if_neg hc, List.dropWhile_cons, if_neg hc, rt, if_neg (fun hh => hc hh.2)]
theorem z3t (l cs : List UInt8) : trimS l cs = rt (cs.contains ·) (l.dropWhile (cs.contains ·)) := by
 unfold trimS trimLeftS trimRightS
 rw [z9t, zek]
theorem zas (p : UInt8 → Bool) : ∀ l : List UInt8, rt p l = [] ↔ l.all p = true
 | [] => by simp [rt]
 | c :: r => by
  rw [rt, List.all_cons, Bool.and_eq_true, ← zas p r]
  by_cases h : rt p r = [] ∧ p c = true
  ·rw [if_pos h]; exact ⟨fun _ => ⟨h.2, h.1⟩, fun _ => rfl⟩
  ·rw [if_neg h]; exact ⟨fun hh => (by cases hh), fun hh => absurd ⟨hh.2, hh.1⟩ h⟩
theorem z8n (l cs : List UInt8) : trimS l cs = [] ↔ l.all (cs.contains ·) = true := by
 rw [z3t, zas]
 induction l with
 | nil => simp
 | cons c r ih =>
  rw [List.dropWhile_cons, List.all_cons]
  by_cases hc : cs.contains c = true
  ·rw [if_pos hc, ih, hc, Bool.true_and]
  ·rw [if_neg hc, List.all_cons]
theorem z9h (l cs : List UInt8) : (trimS l cs).length ≤ l.length := by
 unfold trimS trimLeftS trimRightS
 refine Nat.le_trans (List.IsSuffix.length_le (List.dropWhile_suffix _)) ?_
 rw [List.length_reverse]
 refine Nat.le_trans (List.IsSuffix.length_le (List.dropWhile_suffix _)) ?_
 simp
def digs : List UInt8 := [48, 49, 50, 51, 52, 53, 54, 55, 56, 57]
theorem zb7 : ∀ n : Nat, n < 256 → digs.contains n.toUInt8 = decide (48 ≤ n ∧ n ≤ 57) := by decide +kernel
theorem Ue (c : UInt8) : digs.contains c = decide (48 ≤ c.toNat ∧ c.toNat ≤ 57) := by
 have := zb7 c.toNat c.toNat_lt
 simpa using this
def Xq (acc : Nat) (l : List UInt8) : Nat := l.foldl (fun a c => a * 10 + (c.toNat - 48)) acc
theorem z16 (acc : Nat) : Xq acc [] = acc := by unfold Xq; rw [List.foldl_nil]
theorem K3 (acc : Nat) (c : UInt8) (r : List UInt8) : Xq acc (c :: r) = Xq (acc * 10 + (c.toNat - 48)) r := by unfold Xq; rw [List.foldl_cons]
theorem Ka {acc d : Nat} {c : UInt8} (r : List UInt8) (h : digitVal c = some d) : decFrom acc (c :: r) = decFrom (acc * 10 + d) r := by
 rw [show decFrom acc (c :: r) = (match digitVal c with | some d => decFrom (acc * 10 + d) r | none => none) from rfl, h]
theorem z3z : ∀ (l : List UInt8) (acc : Nat), l.all digs.contains = true → decFrom acc l = some (Xq acc l)
 | [], acc, h => by rw [z16]; rfl
 | c :: r, acc, h => by
  rw [List.all_cons, Bool.and_eq_true, Ue, decide_eq_true_eq] at h
  have hd : digitVal c = some (c.toNat - 48) := by unfold digitVal; rw [if_pos h.1]
  rw [Ka r hd, K3]
  exact z3z r _ h.2
theorem z9g {l : List UInt8} (h : l.all digs.contains = true) (hn : l ≠ []) : atoi l = some (Xq 0 l : Int) := by
 cases l with
 | nil => exact absurd rfl hn
 | cons c r =>
  have hc := h
  rw [List.all_cons, Bool.and_eq_true, Ue, decide_eq_true_eq] at hc
  have n1 : ¬ ((c == 45) = true) := by
   rw [beq_iff_eq, ← UInt8.toNat_inj]; have : (45 : UInt8).toNat = 45 := rfl; omega
  have n2 : ¬ ((c == 43) = true) := by
   rw [beq_iff_eq, ← UInt8.toNat_inj]; have : (43 : UInt8).toNat = 43 := rfl; omega
  rw [atoi, if_neg n1, if_neg n2]
  unfold decNat
  rw [List.isEmpty_cons, if_neg (by simp), z3z _ _ h]
  rfl
def vN (c : UInt8) : Bool := decide (33 ≤ c.toNat ∧ c.toNat ≤ 126)
def vV (c : UInt8) : Bool := decide (c.toNat = 9 ∨ (32 ≤ c.toNat ∧ c.toNat ≤ 126))
def clS : List UInt8 := [67, 111, 110, 116, 101, 110, 116, 45, 76, 101, 110, 103, 116, 104]
def clL : List UInt8 := [99, 111, 110, 116, 101, 110, 116, 45, 108, 101, 110, 103, 116, 104]
theorem zdk : z1p clS = clL := by decide
def zfy (d : List UInt8) : Int := if d = [] ∨ 6 < d.length ∨ d.all digs.contains = false then -2 else if Xq 0 d ≤ 4000 then (Xq 0 d : Int) else -2
def jf (l : List UInt8) : Int :=
 if (cut l [58]).2.2 = true ∧ (cut l [58]).1 ≠ [] ∧ (cut l [58]).1.all vN = true ∧ (cut l [58]).2.1.all vV = true then
  if z1p (cut l [58]).1 = clL then zfy (trimS (cut l [58]).2.1 [32, 9]) else -1
 else -2
open Go.Fx Go.Lib
theorem kr {l : List UInt8} {i : Nat} (h : i < l.length) : l.getD i 0 = l[i] := by simp [List.getD_eq_getElem?_getD, h]
theorem z4l {c d : UInt8} : ((c.toNat : Nat) : Int) = ((d.toNat : Nat) : Int) ↔ c = d := by rw [Int.ofNat_inj, UInt8.toNat_inj]
theorem z58 {a0 : List UInt8} (hl : a0.length ≤ 1073741824) : ∀ (k i : Nat), i + k = a0.length → qm none a0 (i : Int) = some ((a0.drop i).all vN && !(a0 == ([] : List UInt8)))
 | 0, i, h => by
  have : i = a0.length := by omega
  subst this
  unfold qm
  rw [zx (x := some (!(a0 == ([] : List UInt8)))), List.drop_length]
  ·rfl
  ·unfold yq xg
   rw [if_neg (by simp)]
 | k + 1, i, h => by
  have hi : i < a0.length := by omega
  have ih := z58 hl k (i + 1) (by omega)
  have hb : yq none a0 (i : Int) = if vN a0[i] = true then some (.inl ((i + 1 : Nat) : Int)) else some (.inr false) := by
   unfold yq
   rw [if_pos (by simpa using hi), if_pos (by omega), if_pos (fun _ => by omega)]
   simp only [Int.toNat_natCast, kr hi, Wi (show i ≤ 4611686018427387904 by omega)]
   unfold vN
   by_cases c : 33 ≤ (a0[i]).toNat ∧ (a0[i]).toNat ≤ 126
   ·rw [if_neg (by simp only [Bool.or_eq_true, decide_eq_true_eq]; omega), if_pos (decide_eq_true c)]
   ·rw [if_pos (by simp only [Bool.or_eq_true, decide_eq_true_eq]; omega), if_neg (by rw [decide_eq_true_eq]; exact c)]; rfl
  rw [List.drop_eq_getElem_cons hi, List.all_cons]
  unfold qm at ih ⊢
  cases hc : vN a0[i] with
  | true => rw [hc, if_pos rfl] at hb; rw [xf hb, ih, Bool.true_and]
  | false => rw [hc, if_neg (by simp)] at hb; rw [zx (x := some false) hb]; rfl
theorem zgc {a0 : List UInt8} (hl : a0.length ≤ 1073741824) : xb none a0 = some (a0.all vN && !(a0 == ([] : List UInt8))) := z58 hl a0.length 0 (by omega)
theorem z4k {a0 : List UInt8} (hl : a0.length ≤ 1073741824) : ∀ (k i : Nat), i + k = a0.length → qj none a0 (i : Int) = some ((a0.drop i).all vV)
 | 0, i, h => by
  have : i = a0.length := by omega
  subst this
  unfold qj
  rw [zx (x := some true), List.drop_length]
  ·rfl
  ·unfold yf x7
   rw [if_neg (by simp)]
 | k + 1, i, h => by
  have hi : i < a0.length := by omega
  have ih := z4k hl k (i + 1) (by omega)
  have hb : yf none a0 (i : Int) = if vV a0[i] = true then some (.inl ((i + 1 : Nat) : Int)) else some (.inr false) := by
   unfold yf
   rw [if_pos (by simpa using hi), if_pos (by omega)]
   simp only [Int.toNat_natCast, kr hi, Wi (show i ≤ 4611686018427387904 by omega)]
   unfold vV
   by_cases c : (a0[i]).toNat = 9 ∨ 32 ≤ (a0[i]).toNat ∧ (a0[i]).toNat ≤ 126
   ·rw [if_neg (by simp only [Bool.and_eq_true, Bool.or_eq_true, decide_eq_true_eq, bne_iff_ne]; omega), if_pos (decide_eq_true c)]
   ·rw [if_pos (by simp only [Bool.and_eq_true, Bool.or_eq_true, decide_eq_true_eq, bne_iff_ne]; omega), if_neg (by rw [decide_eq_true_eq]; exact c)]; rfl
  rw [List.drop_eq_getElem_cons hi, List.all_cons]
  unfold qj at ih ⊢
  cases hc : vV a0[i] with
  | true => rw [hc, if_pos rfl] at hb; rw [xf hb, ih, Bool.true_and]
  | false => rw [hc, if_neg (by simp)] at hb; rw [zx (x := some false) hb]; rfl
theorem zgp {a0 : List UInt8} (hl : a0.length ≤ 1073741824) : x4 none a0 = some (a0.all vV) := z4k hl a0.length 0 (by omega)
theorem zco : ([48, 49, 50, 51, 52, 53, 54, 55, 56, 57] : List UInt8) = digs := rfl
theorem zfg (L : Int) (d : List UInt8) : ((((decide (L ≥ 0)) || (d == ([] : List UInt8))) || (decide ((d.length : Int) > 6))) = true) ↔ (0 ≤ L ∨ d = [] ∨ 6 < d.length) := by
 simp only [Bool.or_eq_true, decide_eq_true_eq, beq_iff_eq]
 constructor
 ·rintro ((h | h) | h)
  ·exact .inl h
  ·exact .inr (.inl h)
  ·exact .inr (.inr (by omega))
 ·rintro (h | h | h)
  ·exact .inl (.inl h)
  ·exact .inl (.inr h)
  ·exact .inr (by omega)
theorem zcj {d : List UInt8} (hl : d.length ≤ 1073741824) (L : Int) : ye none d L =
 some (if 0 ≤ L ∨ d = [] ∨ 6 < d.length ∨ d.all digs.contains = false then (false, L) else (decide ((Xq 0 d : Int) ≤ 4000), (Xq 0 d : Int))) := by
 unfold ye
 rw [zco]
 by_cases c : 0 ≤ L ∨ d = [] ∨ 6 < d.length
 ·rw [(zfg L d).2 c, if_neg (by simp), Option.bind_some, if_pos (by simp), if_pos (by rcases c with h | h | h; exact .inl h; exact .inr (.inl h); exact .inr (.inr (.inl h)))]
 ·have e : (((decide (L ≥ 0)) || (d == ([] : List UInt8))) || (decide ((d.length : Int) > 6))) = false := by
   rw [Bool.eq_false_iff]
   exact fun h => c ((zfg L d).1 h)
  rw [e, if_pos (by rfl)]
  unfold xx
  rw [if_pos ⟨by omega, by decide, by decide⟩, Option.bind_some, Bool.false_or]
  have ht := z8n d digs
  by_cases ca : d.all digs.contains = true
  ·rw [ht.2 ca, if_neg (by simp)]
   unfold jw
   have hn : d ≠ [] := fun h => c (.inr (.inl h))
   have h6 : d.length ≤ 6 := by
    rcases Nat.lt_or_ge 6 d.length with h | h
    ·exact absurd (.inr (.inr h)) c
    ·exact h
   rw [if_pos (by omega), z9g ca hn, Option.bind_some, if_neg (by
    rintro (h | h | h | h)
    ·exact c (.inl h)
    ·exact c (.inr (.inl h))
    ·exact c (.inr (.inr h))
    ·rw [ca] at h; cases h)]
  ·have : trimS d digs ≠ [] := fun h => ca (ht.1 h)
   rw [if_pos (by simpa using this), if_pos (.inr (.inr (.inr (by simpa using ca))))]
theorem zd3 (l sep : List UInt8) : (cut l sep).1.length ≤ l.length ∧ (cut l sep).2.1.length ≤ l.length := by
 unfold cut
 split
 ·simp only [List.length_take, List.length_drop]; omega
 ·simp
theorem zew {c : UInt8} (h : vN c = true) : c.toNat < 128 := by
 unfold vN at h
 rw [decide_eq_true_eq] at h; omega
theorem zgo {l : List UInt8} (hl : l.length ≤ 1073741824) (L : Int) : ∃ b L', qa none l L = some (b, L') ∧ (b = false ↔ jf l = -2 ∨ (0 ≤ jf l ∧ 0 ≤ L)) ∧ (b = true → L' = if 0 ≤ jf l then jf l else L) := by
 obtain ⟨l1, l2⟩ := zd3 l [58]
 have hF : jf l = jf l := rfl
 conv at hF => rhs; unfold jf
 unfold qa wh
 rw [if_pos (by omega), Option.bind_some]
 generalize jf l = F at hF ⊢
 generalize hc : cut l [58] = x at l1 l2 hF
 obtain ⟨nm, vl, fd⟩ := x
 simp only at l1 l2 hF ⊢
 cases fd with
 | false =>
  rw [if_neg (by simp)] at hF
  subst hF
  refine ⟨false, L, by simp, by simp, fun h => by cases h⟩
 | true =>
  rw [if_pos (by rfl), zgc (by omega), Option.bind_some]
  by_cases cn : nm.all vN = true ∧ nm ≠ []
  ·have e1 : (nm.all vN && !(nm == ([] : List UInt8))) = true := by simp [cn.1, cn.2]
   rw [e1, if_pos (by rfl), zgp (by omega), Option.bind_some]
   by_cases cv : vl.all vV = true
   ·rw [if_pos ⟨rfl, cn.2, cn.1, cv⟩] at hF
    rw [cv, if_neg (by decide)]
    unfold xu
    rw [if_pos ⟨by omega, by
     rw [List.all_eq_true]
     intro b hb
     exact decide_eq_true (zew (List.all_eq_true.1 cn.1 b hb)), by decide⟩, Option.bind_some, z1b, show z1p ([67, 111, 110, 116, 101, 110, 116, 45, 76, 101, 110, 103, 116, 104] : List UInt8) = clL from zdk]
    by_cases ce : z1p nm = clL
    ·rw [if_pos ce] at hF
     have e2 : (z1p nm == clL) = true := by simpa using ce
     rw [e2, if_pos (by rfl)]
     unfold xx
     rw [if_pos ⟨by omega, by decide, by decide⟩, Option.bind_some, if_pos (by rfl)]
     have hd := z9h vl [32, 9]
     generalize trimS vl [32, 9] = d at hd hF
     rw [zcj (by omega), Option.bind_some]
     unfold qb
     unfold zfy at hF
     by_cases cd : d = [] ∨ 6 < d.length ∨ d.all digs.contains = false
     ·rw [if_pos cd] at hF
      rw [if_pos (.inr cd)]
      subst hF
      exact ⟨false, L, rfl, by simp, fun h => by cases h⟩
     ·rw [if_neg cd] at hF
      by_cases c0 : 0 ≤ L
      ·rw [if_pos (.inl c0)]
       refine ⟨false, L, rfl, ?_, fun h => by cases h⟩
       refine ⟨fun _ => ?_, fun _ => rfl⟩
       rw [hF]
       split
       ·exact .inr ⟨by omega, c0⟩
       ·exact .inl rfl
      ·rw [if_neg (by rintro (h | h); exact c0 h; exact cd h)]
       by_cases c4 : Xq 0 d ≤ 4000
       ·rw [if_pos c4] at hF
        refine ⟨true, (Xq 0 d : Int), ?_, ⟨fun h => (by cases h), fun h => (by omega)⟩, fun _ => by rw [hF, if_pos (by omega)]⟩
        show some (!true || decide ((Xq 0 d : Int) ≤ 4000), (Xq 0 d : Int)) = _
        rw [decide_eq_true (by omega)]; rfl
       ·rw [if_neg c4] at hF
        refine ⟨false, (Xq 0 d : Int), ?_, ⟨fun _ => .inl hF, fun _ => rfl⟩, fun h => by cases h⟩
        show some (!true || decide ((Xq 0 d : Int) ≤ 4000), (Xq 0 d : Int)) = _
        rw [decide_eq_false (by omega)]; rfl
    ·rw [if_neg ce] at hF
     have e2 : (z1p nm == clL) = false := by simpa using ce
     rw [e2, if_neg (by decide), Option.bind_some, if_neg (by decide)]
     subst hF
     refine ⟨true, L, rfl, by simp, fun _ => by rw [if_neg (by decide)]⟩
   ·have e3 : vl.all vV = false := by simpa using cv
    rw [if_neg (by rintro ⟨_, _, _, h⟩; exact cv h)] at hF
    rw [e3, if_pos (by rfl)]
    subst hF
    exact ⟨false, L, rfl, by simp, fun h => by cases h⟩
  ·have e1 : (nm.all vN && !(nm == ([] : List UInt8))) = false := by
    rw [Bool.eq_false_iff]
    simp only [ne_eq, Bool.and_eq_true, Bool.not_eq_true', beq_eq_false_iff_ne]
    exact cn
   rw [if_neg (by rintro ⟨_, h1, h2, _⟩; exact cn ⟨h2, h1⟩)] at hF
   rw [e1, if_neg (by simp), Option.bind_some, if_pos (by rfl)]
   subst hF
   exact ⟨false, L, rfl, by simp, fun h => by cases h⟩
theorem Ud (b c : UInt8) (l : List UInt8) : index (b :: l) [c] = if b = c then 0 else if index l [c] = -1 then -1 else index l [c] + 1 := by
 rw [index]
 have : ([c].isPrefixOf (b :: l)) = (c == b) := by simp [List.isPrefixOf]
 rw [this]
 by_cases h : b = c
 ·subst h; simp
 ·rw [if_neg (by simpa using Ne.symm h), if_neg h]
  simp only [beq_iff_eq]
theorem zbp {l : List UInt8} {i : Nat} (h : i < l.length) : (l.map zav).getD i default = ((l[i].toNat : Nat) : Int) := by
 simp [List.getD_eq_getElem?_getD, h, zav]
theorem z64 {a0 : List UInt8} {c : UInt8} (hl : a0.length ≤ 1073741824) : ∀ (k i : Nat), i + k = a0.length →
 yi none (a0.map zav) ((c.toNat : Nat) : Int) (i : Int) = some (if index (a0.drop i) [c] = -1 then -1 else (i : Int) + index (a0.drop i) [c])
 | 0, i, h => by
  have : i = a0.length := by omega
  subst this
  unfold yi
  rw [zx (x := some (-1)), List.drop_length]
  ·rfl
  ·unfold zq qc
   rw [if_neg (by simp)]
   first | rfl | done
 | k + 1, i, h => by
  have hi : i < a0.length := by omega
  have ih := z64 (c := c) hl k (i + 1) (by omega)
  have hb : zq none (a0.map zav) ((c.toNat : Nat) : Int) (i : Int) = if a0[i] = c then some (.inr (i : Int)) else some (.inl ((i + 1 : Nat) : Int)) := by
   unfold zq
   rw [if_pos (by simpa using hi), if_pos (by simp only [List.length_map]; omega)]
   simp only [Int.toNat_natCast, zbp hi, Wi (show i ≤ 4611686018427387904 by omega)]
   by_cases hc : a0[i] = c
   ·rw [if_pos (by rw [hc]; simp), if_pos hc]; rfl
   ·rw [if_neg (by rw [beq_iff_eq, z4l]; exact Ne.symm hc), if_neg hc]
  rw [List.drop_eq_getElem_cons hi, Ud]
  unfold yi at ih ⊢
  by_cases hc : a0[i] = c
  ·rw [if_pos hc] at hb ⊢
   rw [zx (x := some (i : Int)) hb, if_neg (by decide)]
   simp
  ·rw [if_neg hc] at hb ⊢
   rw [xf hb, ih]
   have := index_ge (a0.drop (i + 1)) [c]
   by_cases hn : index (a0.drop (i + 1)) [c] = -1
   ·rw [if_pos hn, if_pos hn, if_pos rfl]
   ·rw [if_neg hn, if_neg hn, if_neg (by omega)]
    congr 1; omega
theorem zga {a0 : List UInt8} (hl : a0.length ≤ 1073741824) : yb none (a0.map zav) 58 = some (index a0 [58]) := by
 have := z64 (c := 58) hl a0.length 0 (by omega)
 rw [List.drop_zero] at this
 unfold yb
 have e : ((((58 : UInt8).toNat : Nat)) : Int) = 58 := rfl
 rw [e, show ((0 : Nat) : Int) = 0 from rfl] at this
 rw [this]
 split
 ·rename_i h; rw [h]
 ·congr 1; omega
def okF (n : Nat) : Nat → List UInt8 → Bool
 | _, [] => true
 | i, c :: r => (if i < n then vN c else if n < i then vV c else true) && okF n (i + 1) r
theorem zag (n : Nat) : ∀ (l : List UInt8) (i : Nat), n < i → okF n i l = l.all vV
 | [], i, h => rfl
 | c :: r, i, h => by rw [okF, if_neg (by omega), if_pos h, zag n r (i + 1) (by omega), List.all_cons]
theorem zan : ∀ (k : Nat) (l : List UInt8) (i : Nat), okF (i + k) i l = ((l.take k).all vN && (l.drop (k + 1)).all vV)
 | k, [], i => by simp [okF]
 | 0, c :: r, i => by rw [okF, if_neg (by omega), if_neg (by omega), zag _ _ _ (by omega)]; simp
 | k + 1, c :: r, i => by
  have := zan k r (i + 1)
  rw [okF, if_pos (by omega), show i + (k + 1) = i + 1 + k by omega, this]
  simp [Bool.and_assoc]
theorem z4x {a0 : List UInt8} {n : Nat} (hl : a0.length ≤ 1073741824) : ∀ (k i : Nat), i + k = a0.length →
 qf none a0 (n : Int) (i : Int) = if okF n i (a0.drop i) = true then yv none a0 (n : Int) else some (-1, false)
 | 0, i, h => by
  have : i = a0.length := by omega
  subst this
  unfold qf
  rw [zx (x := yv none a0 (n : Int)), List.drop_length, okF, if_pos rfl]
  unfold y9
  rw [if_neg (by simp)]
 | k + 1, i, h => by
  have hi : i < a0.length := by omega
  have ih := z4x (n := n) hl k (i + 1) (by omega)
  have hb : y9 none a0 (n : Int) (i : Int) = if (if i < n then vN a0[i] else if n < i then vV a0[i] else true) = true then some (.inl ((i + 1 : Nat) : Int)) else some (.inr (-1, false)) := by
   unfold y9
   rw [if_pos (by simpa using hi), if_pos (by omega)]
   simp only [Int.toNat_natCast, kr hi, Wi (show i ≤ 4611686018427387904 by omega)]
   have hc : ((((decide ((i : Int) < (n : Int))) && ((decide (((a0[i].toNat : Nat) : Int) < 33)) || (decide (((a0[i].toNat : Nat) : Int) > 126)))) || (((decide ((i : Int) > (n : Int))) && (((a0[i].toNat : Nat) : Int) != 9)) && ((decide (((a0[i].toNat : Nat) : Int) < 32)) || (decide (((a0[i].toNat : Nat) : Int) > 126))))) = true) ↔ ¬ ((if i < n then vN a0[i] else if n < i then vV a0[i] else true) = true) := by
    unfold vN vV
    simp only [Bool.and_eq_true, Bool.or_eq_true, decide_eq_true_eq, bne_iff_ne, ne_eq]
    by_cases h1 : i < n
    ·rw [if_pos h1, decide_eq_true_eq]; omega
    ·rw [if_neg h1]
     by_cases h2 : n < i
     ·rw [if_pos h2, decide_eq_true_eq]; omega
     ·rw [if_neg h2]; simp only [not_true_eq_false, iff_false]; omega
   by_cases hh : (if i < n then vN a0[i] else if n < i then vV a0[i] else true) = true
   ·rw [if_neg (fun h => hc.1 h hh), if_pos hh]
   ·rw [if_pos (hc.2 hh), if_neg hh]; rfl
  rw [List.drop_eq_getElem_cons hi, okF]
  unfold qf at ih ⊢
  by_cases hh : (if i < n then vN a0[i] else if n < i then vV a0[i] else true) = true
  ·rw [if_pos hh] at hb
   rw [xf hb, ih, hh, Bool.true_and]
  ·rw [if_neg hh] at hb
   have hf : (if i < n then vN a0[i] else if n < i then vV a0[i] else true) = false := Bool.eq_false_iff.2 hh
   rw [zx (x := some (-1, false)) hb, hf, Bool.false_and, if_neg (by simp)]
theorem z7y : ∀ n : Nat, n < 256 → zf3 (if 65 ≤ n ∧ n ≤ 90 then IntKind.wrap .u8 ((n : Int) + 32) else (n : Int)) = zaa n.toUInt8 := by decide +kernel
theorem z3l {a0 : List UInt8} (hl : a0.length ≤ 1073741824) : ∀ (k i : Nat) (v : List UInt8), i + k = a0.length → v.length = i →
 qd none a0 v (i : Int) = some (v ++ z1p (a0.drop i))
 | 0, i, v, h, hv => by
  have : i = a0.length := by omega
  subst this
  unfold qd
  rw [zx (x := some v), List.drop_length]
  ·simp [z1p]
  ·unfold y8 qy
   rw [if_neg (by simp)]
   first | rfl | done
 | k + 1, i, v, h, hv => by
  have hi : i < a0.length := by omega
  have ih := z3l hl k (i + 1) (v ++ [zaa a0[i]]) (by omega) (by simp [hv])
  have hs := z7y (a0[i]).toNat (a0[i]).toNat_lt
  have hu : (a0[i]).toNat.toUInt8 = a0[i] := by simp
  rw [hu] at hs
  have hb : y8 none a0 v (i : Int) = some (.inl (v ++ [zaa a0[i]], ((i + 1 : Nat) : Int))) := by
   unfold y8 qg
   rw [if_pos (by simpa using hi), if_pos (by omega)]
   simp only [Int.toNat_natCast, kr hi, Wi (show i ≤ 4611686018427387904 by omega)]
   by_cases c : 65 ≤ (a0[i]).toNat ∧ (a0[i]).toNat ≤ 90
   ·rw [if_pos c] at hs
    rw [if_pos (by simp only [Bool.and_eq_true, decide_eq_true_eq]; omega), if_pos (by simp only [List.length_map, List.length_cons, List.length_nil]; omega)]
    simp only [List.map_cons, List.map_nil, hs]
   ·rw [if_neg c] at hs
    rw [if_neg (by simp only [Bool.and_eq_true, decide_eq_true_eq]; omega), if_pos (by simp only [List.length_map, List.length_cons, List.length_nil]; omega)]
    simp only [List.map_cons, List.map_nil, hs]
  rw [List.drop_eq_getElem_cons hi]
  unfold qd at ih ⊢
  rw [xf hb, ih]
  simp only [z1p, List.map_cons, List.append_assoc, List.cons_append, List.nil_append]
theorem zgd {a0 : List UInt8} (hl : a0.length ≤ 1073741824) : qv none a0 = some (z1p a0) := by
 have := z3l hl a0.length 0 [] (by omega) rfl
 rw [List.drop_zero, List.nil_append] at this
 exact this
def bl (c : UInt8) : Bool := ([32, 9] : List UInt8).contains c
theorem zal (c : UInt8) : ((((c.toNat : Nat) : Int) == 32) || (((c.toNat : Nat) : Int) == 9)) = bl c := by
 have h : ∀ n : Nat, n < 256 → (((n : Int) == 32) || ((n : Int) == 9)) = bl n.toUInt8 := by decide +kernel
 have := h c.toNat c.toNat_lt
 simpa using this
theorem zc4 (p : UInt8 → Bool) (l : List UInt8) (x : UInt8) : rt p (l ++ [x]) = if p x = true then rt p l else l ++ [x] := by
 rw [← z9t, ← z9t, List.reverse_append, List.reverse_singleton, List.singleton_append, List.dropWhile_cons]
 split
 ·rfl
 ·simp
theorem U4 : ∀ (k : Nat) (v : List UInt8), v.length = k → k ≤ 1073741824 → yk none v = some (rt bl v)
 | 0, v, h, hk => by
  have : v = [] := List.eq_nil_of_length_eq_zero h
  subst this
  unfold yk
  rw [zx (x := some [])]
  ·rfl
  ·unfold zp ym
   rw [if_pos (by simp), if_pos (by simp), if_neg (by simp)]
   first | rfl | done
 | k + 1, v, h, hk => by
  have hne : v ≠ [] := fun hh => by rw [hh] at h; cases h
  obtain ⟨u, x, rfl⟩ : ∃ u x, v = u ++ [x] := ⟨v.dropLast, v.getLast hne, (List.dropLast_concat_getLast hne).symm⟩
  have hu : u.length = k := by simpa using h
  have ih := U4 k u hu (by omega)
  have hw : W (((u ++ [x]).length : Int) - 1) = (k : Int) := by rw [h, show (((k + 1 : Nat) : Int) - 1) = (k : Int) by omega]; exact z7v (by unfold inR; omega)
  have hg : (u ++ [x]).getD k 0 = x := by rw [List.getD_eq_getElem?_getD, List.getElem?_append_right (by omega), hu]; simp
  have hb : zp none (u ++ [x]) = if bl x = true then some (.inl u) else some (.inr (u ++ [x])) := by
   unfold zp ym
   rw [hw, h]
   simp only [Int.toNat_natCast, hg]
   rw [if_pos (fun _ => by omega), if_pos (fun _ => by omega), zal]
   have e : (!((u ++ [x]) == ([] : List UInt8))) = true := by simp
   rw [e, Bool.true_and]
   by_cases hx : bl x = true
   ·rw [if_pos hx, if_pos hx, if_pos (by omega)]
    congr 2
    rw [List.drop_zero, ← hu]; simp
   ·rw [if_neg hx, if_neg hx]; rfl
  rw [zc4]
  unfold yk at ih ⊢
  by_cases hx : bl x = true
  ·rw [if_pos hx] at hb ⊢; rw [xf hb, ih]
  ·rw [if_neg hx] at hb ⊢; rw [zx (x := some (u ++ [x])) hb]
theorem z56 : ∀ (v : List UInt8), v.length ≤ 1073741824 → yj none v = some (rt bl (v.dropWhile bl))
 | [], h => by
  unfold yj
  rw [zx (x := yn none [])]
  ·exact U4 0 [] rfl (by omega)
  ·unfold zo
   rw [if_pos (by simp), if_pos (by simp), if_neg (by simp)]
 | c :: r, h => by
  simp only [List.length_cons] at h
  have ih := z56 r (by omega)
  have hb : zo none (c :: r) = if bl c = true then some (.inl r) else Option.map Sum.inr (yn none (c :: r)) := by
   unfold zo
   rw [if_pos (fun _ => by simp only [List.length_cons]; omega), if_pos (fun _ => by simp only [List.length_cons]; omega)]
   rw [show ((c :: r).getD (0 : Int).toNat 0) = c from rfl, zal]
   have e : (!((c :: r) == ([] : List UInt8))) = true := by simp
   rw [e, Bool.true_and]
   by_cases hx : bl c = true
   ·rw [if_pos hx, if_pos hx, if_pos (by simp only [List.length_cons]; omega)]
    congr 2
    simp
   ·rw [if_neg hx, if_neg hx]
  rw [List.dropWhile_cons]
  unfold yj at ih ⊢
  by_cases hx : bl c = true
  ·rw [if_pos hx] at hb ⊢; rw [xf hb, ih]
  ·rw [if_neg hx] at hb ⊢
   rw [zx hb]
   exact U4 (r.length + 1) (c :: r) rfl (by omega)
theorem zg5 {v : List UInt8} (h : v.length ≤ 1073741824) : q6 none v = some (trimS v [32, 9]) := by
 rw [z3t]
 exact z56 v h
theorem z5q {d : List UInt8} (h6 : d.length ≤ 6) : ∀ (k i acc : Nat), i + k = d.length → acc < 10 ^ i →
 yu none d (acc : Int) (i : Int) = some (if (d.drop i).all digs.contains = true then ((Xq acc (d.drop i) : Int), decide ((Xq acc (d.drop i) : Int) ≤ 4000)) else (-1, false))
 | 0, i, acc, h, ha => by
  have : i = d.length := by omega
  subst this
  unfold yu
  rw [zx (x := some ((acc : Int), decide ((acc : Int) ≤ 4000))), List.drop_length, List.all_nil, if_pos rfl, z16]
  unfold zm qx
  rw [if_neg (by simp)]
  first | rfl | done
 | k + 1, i, acc, h, ha => by
  have hi : i < d.length := by omega
  have hp : (10 : Nat) ^ i ≤ 10 ^ 5 := Nat.pow_le_pow_right (by decide) (by omega)
  rw [List.drop_eq_getElem_cons hi, List.all_cons, K3, Ue]
  by_cases c : 48 ≤ (d[i]).toNat ∧ (d[i]).toNat ≤ 57
  ·have ih := z5q h6 k (i + 1) (acc * 10 + ((d[i]).toNat - 48)) (by omega) (by rw [Nat.pow_succ]; omega)
   have hb : zm none d (acc : Int) (i : Int) = some (.inl (((acc * 10 + ((d[i]).toNat - 48) : Nat) : Int), ((i + 1 : Nat) : Int))) := by
    unfold zm
    rw [if_pos (by simpa using hi), if_pos (by omega), if_pos (fun _ => by omega)]
    simp only [Int.toNat_natCast, kr hi, Wi (show i ≤ 4611686018427387904 by omega)]
    rw [if_neg (by simp only [Bool.or_eq_true, decide_eq_true_eq]; omega), if_pos (by omega)]
    have e1 : IntKind.wrap .u8 (((d[i].toNat : Nat) : Int) - 48) = (((d[i]).toNat - 48 : Nat) : Int) := by
     rw [show ((((d[i]).toNat : Nat) : Int) - 48) = (((d[i]).toNat - 48 : Nat) : Int) by omega]
     have hw : ∀ n : Nat, n < 10 → IntKind.wrap .u8 (n : Int) = (n : Int) := by decide +kernel
     exact hw _ (by omega)
    rw [e1, show W (((d[i]).toNat - 48 : Nat) : Int) = (((d[i]).toNat - 48 : Nat) : Int) from z7v (by unfold inR; omega), show W ((10 : Int) * (acc : Int)) = (10 : Int) * (acc : Int) from z7v (by unfold inR; omega),
     show W ((10 : Int) * (acc : Int) + (((d[i]).toNat - 48 : Nat) : Int)) = ((acc * 10 + ((d[i]).toNat - 48) : Nat) : Int) from by rw [show ((10 : Int) * (acc : Int) + (((d[i]).toNat - 48 : Nat) : Int)) = ((acc * 10 + ((d[i]).toNat - 48) : Nat) : Int) by omega]; exact z7v (by unfold inR; omega)]
   rw [decide_eq_true c, Bool.true_and]
   unfold yu at ih ⊢
   rw [xf hb, ih]
  ·have hb : zm none d (acc : Int) (i : Int) = some (.inr (-1, false)) := by
    unfold zm
    rw [if_pos (by simpa using hi), if_pos (by omega), if_pos (fun _ => by omega)]
    simp only [Int.toNat_natCast, kr hi]
    rw [if_pos (by simp only [Bool.or_eq_true, decide_eq_true_eq]; omega)]
    rfl
   rw [decide_eq_false c, Bool.false_and, if_neg (by simp)]
   unfold yu
   rw [zx (x := some (-1, false)) hb]
theorem zge {l : List UInt8} (hl : l.length ≤ 1073741824) : ∃ n ok, qe none l = some (n, ok) ∧ (ok = false ↔ jf l = -2) ∧ (ok = true → n = jf l) := by
 have hge := index_ge l [58]
 have hrm := index_room l [58]
 rw [show ([58] : List UInt8).length = 1 from rfl] at hrm
 have hF : jf l = jf l := rfl
 conv at hF => rhs; unfold jf
 unfold qe
 rw [zga hl, Option.bind_some]
 generalize jf l = F at hF ⊢
 by_cases c1 : index l [58] < 1
 ·rw [if_pos (by simpa using c1)]
  refine ⟨-1, false, rfl, ⟨fun _ => ?_, fun _ => rfl⟩, fun h => by cases h⟩
  rw [hF, if_neg]
  unfold cut
  by_cases c0 : 0 ≤ index l [58]
  ·have : index l [58] = 0 := by omega
   rw [this, if_pos (by omega)]
   rintro ⟨_, h, _⟩
   exact h rfl
  ·rw [if_neg c0]; simp
 ·obtain ⟨n, hn⟩ : ∃ n : Nat, index l [58] = (n : Int) := ⟨(index l [58]).toNat, by omega⟩
  have hnl : n + 1 ≤ l.length := by have := hrm (by omega); omega
  have hcut : cut l [58] = (l.take n, l.drop (n + 1), true) := by
   unfold cut
   rw [hn, if_pos (by omega), Int.toNat_natCast]
   rfl
  rw [hn] at c1 ⊢
  rw [hcut] at hF
  simp only at hF
  rw [if_neg (by simpa using c1), show (0 : Int) = ((0 : Nat) : Int) from rfl, z4x hl l.length 0 (by omega), List.drop_zero]
  have ho := zan n l 0
  rw [Nat.zero_add] at ho
  have hne : l.take n ≠ [] := fun h => by have := congrArg List.length h; simp only [List.length_take, List.length_nil] at this; omega
  by_cases cb : (l.take n).all vN = true ∧ (l.drop (n + 1)).all vV = true
  ·rw [ho, cb.1, cb.2, if_pos (by rfl)]
   rw [if_pos ⟨trivial, hne, cb.1, cb.2⟩] at hF
   unfold yv
   rw [if_pos (by omega), Int.toNat_natCast, List.drop_zero, zgd (by simp only [List.length_take]; omega), Option.bind_some]
   by_cases ce : z1p (l.take n) = clL
   ·rw [if_pos ce] at hF
    rw [if_neg (by rw [ce]; decide), show W ((n : Int) + 1) = ((n + 1 : Nat) : Int) from by rw [z7v (by unfold inR; omega)]; omega, if_pos (by omega), Int.toNat_natCast, List.take_length,
     zg5 (by simp only [List.length_drop]; omega), Option.bind_some]
    generalize trimS (l.drop (n + 1)) [32, 9] = d at hF ⊢
    unfold zfy at hF
    by_cases cd : d = [] ∨ 6 < d.length
    ·rw [if_pos (by rcases cd with h | h; exact .inl h; exact .inr (.inl h))] at hF
     rw [if_pos (by
      simp only [Bool.or_eq_true, decide_eq_true_eq]
      rcases cd with h | h
      ·rw [h]; left; decide
      ·right; omega)]
     exact ⟨-1, false, rfl, ⟨fun _ => hF, fun _ => rfl⟩, fun h => by cases h⟩
    ·have h1 : d ≠ [] := fun h => cd (.inl h)
     have h2 : ¬ 6 < d.length := fun h => cd (.inr h)
     have h3 : 0 < d.length := List.length_pos_iff.2 h1
     rw [if_neg (by simp only [Bool.or_eq_true, decide_eq_true_eq]; omega)]
     have := z5q (d := d) (by omega) d.length 0 0 (by omega) (by decide)
     rw [List.drop_zero, show ((0 : Nat) : Int) = 0 from rfl] at this
     rw [this]
     by_cases ca : d.all digs.contains = true
     ·rw [if_pos ca]
      rw [if_neg (by rintro (h | h | h); exact h1 h; exact h2 h; rw [ca] at h; cases h)] at hF
      refine ⟨_, _, rfl, ?_, fun h => ?_⟩
      ·rw [decide_eq_false_iff_not]
       constructor
       ·intro h; rw [hF, if_neg (by omega)]
       ·intro h hh; rw [if_pos (by omega)] at hF; omega
      ·rw [decide_eq_true_eq] at h
       rw [hF, if_pos (by omega)]
     ·rw [if_neg ca]
      rw [if_pos (.inr (.inr (by simpa using ca)))] at hF
      exact ⟨-1, false, rfl, ⟨fun _ => hF, fun _ => rfl⟩, fun h => by cases h⟩
   ·rw [if_neg ce] at hF
    rw [if_pos (by simpa [clL] using ce)]
    exact ⟨-1, true, rfl, ⟨fun h => (by cases h), fun h => by rw [hF] at h; cases h⟩, fun _ => hF.symm⟩
  ·have : okF n 0 l = false := by
    rw [ho, Bool.eq_false_iff]
    simp only [ne_eq, Bool.and_eq_true]
    exact cb
   rw [this, if_neg (by simp)]
   rw [if_neg (by rintro ⟨_, _, h⟩; exact cb h)] at hF
   exact ⟨-1, false, rfl, ⟨fun _ => hF, fun _ => rfl⟩, fun h => by cases h⟩
def occ (s : List UInt8) (j : Nat) : Prop := s[j]? = some 13 ∧ s[j + 1]? = some 10
theorem U5 (s : List UInt8) (j : Nat) : occAt s [13, 10] j = true ↔ occ s j := by
 unfold occAt occ
 have h0 : (s.drop j)[0]? = s[j]? := by rw [List.getElem?_drop, Nat.add_zero]
 have h1 : (s.drop j)[1]? = s[j + 1]? := by rw [List.getElem?_drop]
 rw [← h0, ← h1]
 generalize s.drop j = t
 match t with
 | [] => simp [List.isPrefixOf]
 | [a] => simp [List.isPrefixOf]
 | a :: b :: r =>
  simp only [List.isPrefixOf, Bool.and_true, Bool.and_eq_true, beq_iff_eq, List.getElem?_cons_zero, List.getElem?_cons_succ, Option.some.injEq]
  exact ⟨fun h => ⟨h.1.symm, h.2.symm⟩, fun h => ⟨h.1.symm, h.2.symm⟩⟩
theorem Jw (s : List UInt8) (off j : Nat) : occ (s.drop off) j ↔ occ s (off + j) := by
 unfold occ
 rw [List.getElem?_drop, List.getElem?_drop, Nat.add_assoc]
theorem zai {s : List UInt8} {j : Nat} (h : occ s j) : j + 1 < s.length := by
 rcases Nat.lt_or_ge (j + 1) s.length with h' | h'
 ·exact h'
 ·have := h.2; rw [List.getElem?_eq_none h'] at this; cases this
theorem WN {n : Nat} (h : n ≤ 4611686018427387904) : W (n : Int) = (n : Int) := z7v (by unfold inR; omega)
theorem z1o {a0 : List UInt8} {L : Int} {off i : Nat} (hl : a0.length ≤ 1073741824) (hi : i + 1 < a0.length) (hn : ¬ occ a0 i) :
 zb none a0 L (off : Int) (i : Int) = some (.inl (L, (off : Int), ((i + 1 : Nat) : Int))) := by
 unfold zb zu
 rw [Wi (show i ≤ 4611686018427387904 by omega)]
 rw [if_pos (decide_eq_true (by omega)), if_pos (by omega), if_pos (fun _ => by omega)]
 simp only [Int.toNat_natCast, kr (show i < a0.length by omega), kr hi]
 rw [if_pos]
 rw [Bool.or_eq_true, bne_iff_ne, bne_iff_ne]
 by_cases h13 : a0[i] = 13
 ·right
  intro h
  refine hn ⟨by rw [List.getElem?_eq_getElem (by omega), h13], ?_⟩
  rw [List.getElem?_eq_getElem hi, (z4l (d := 10)).1 h]
 ·left
  exact fun h => h13 ((z4l (d := 13)).1 h)
theorem ze2 {a0 : List UInt8} {L : Int} {off : Nat} (hl : a0.length ≤ 1073741824) : ∀ (k i : Nat), i + k + 1 < a0.length → (∀ j, j < k → ¬ occ a0 (i + j)) →
 za none a0 L (off : Int) (i : Int) = za none a0 L (off : Int) ((i + k : Nat) : Int)
 | 0, i, h, hn => rfl
 | k + 1, i, h, hn => by
  have ih := ze2 (L := L) (off := off) hl k (i + 1) (by omega) (fun j hj => by have := hn (j + 1) (by omega); rwa [show i + (j + 1) = i + 1 + j by omega] at this)
  rw [show i + 1 + k = i + (k + 1) by omega] at ih
  rw [← ih]
  unfold za
  rw [xf (z1o hl (by omega) (hn 0 (by omega)))]
theorem zh9 {a0 : List UInt8} {L : Int} {off : Nat} (hl : a0.length ≤ 1073741824) : ∀ (k i : Nat), i + k = a0.length → (∀ j, i ≤ j → ¬ occ a0 j) →
 za none a0 L (off : Int) (i : Int) = yr none a0
 | k, i, h, hn => by
  by_cases hi : i + 1 < a0.length
  ·match k, h with
   | 0, h => omega
   | k + 1, h =>
    rw [← zh9 (L := L) (off := off) hl k (i + 1) (by omega) (fun j hj => hn j (by omega))]
    conv => lhs; unfold za
    rw [xf (z1o hl hi (hn i (Nat.le_refl _)))]
    rfl
  ·unfold za
   rw [zx]
   unfold zb
   rw [Wi (show i ≤ 4611686018427387904 by omega), if_neg (by simp only [decide_eq_true_eq]; omega)]
 termination_by k => k
def zh0 (n : Nat) (r : List UInt8 × Int × Int) : Prop := 0 ≤ r.2.1 ∧ r.2.1 ≤ (n : Int)
theorem z6c (l : List UInt8) : jf l ≤ 4000 ∧ -2 ≤ jf l := by
 unfold jf zfy
 repeat' split
 all_goals omega
theorem zbt {a0 line : List UInt8} {off n : Nat} (hl : a0.length ≤ 1073741824) (hlt : off + n + 1 < a0.length) (hline : line = (a0.take (off + n)).drop off) {v16 : Bool} {L : Int} (h1 : -1 ≤ L) (h2 : L ≤ 4000) (h3 : v16 = false → line = [] → 0 ≤ L) :
 q5 none a0 (off : Int) (n : Int) v16 L = if v16 = true then some (.inr ([], 0, 4)) else if line = [] then (if (a0.length : Int) < ((off + n + 2 : Nat) : Int) + L then some (.inr ([], 0, 0)) else
  some (.inr ((a0.take (((off + n + 2 : Nat) : Int) + L).toNat).drop (off + n + 2), ((off + n + 2 : Nat) : Int) + L, 0))) else some (.inl (((off + n + 2 : Nat) : Int), L)) := by
 unfold q5
 rw [show W ((off : Int) + (n : Int)) = ((off + n : Nat) : Int) from by rw [show ((off : Int) + (n : Int)) = ((off + n : Nat) : Int) by omega]; exact WN (by omega),
  show W ((n : Int) + 2) = ((n + 2 : Nat) : Int) from by rw [show ((n : Int) + 2) = ((n + 2 : Nat) : Int) by omega]; exact WN (by omega),
  show W ((off : Int) + ((n + 2 : Nat) : Int)) = ((off + n + 2 : Nat) : Int) from by rw [show ((off : Int) + ((n + 2 : Nat) : Int)) = ((off + n + 2 : Nat) : Int) by omega]; exact WN (by omega),
  Int.toNat_natCast, Int.toNat_natCast, Int.toNat_natCast, ← hline, show W (((off + n + 2 : Nat) : Int) + L) = ((off + n + 2 : Nat) : Int) + L from z7v (by unfold inR; omega),
  show W ((a0.length : Int) - ((off + n + 2 : Nat) : Int)) = (a0.length : Int) - ((off + n + 2 : Nat) : Int) from z7v (by unfold inR; omega)]
 cases v16 with
 | true => rw [if_pos rfl, if_pos rfl]; rfl
 | false =>
  simp only [Bool.false_eq_true, if_false]
  by_cases ce : line = []
  ·have h0 := h3 rfl ce
   rw [if_pos ce]
   by_cases cm : (a0.length : Int) < ((off + n + 2 : Nat) : Int) + L
   ·rw [if_pos cm, if_pos (by rw [ce, decide_eq_true (by omega)]; rfl)]; rfl
   ·rw [if_neg cm, if_neg (by rw [decide_eq_false (by omega), Bool.and_false]; simp), if_pos (by simpa using ce), if_pos (by omega)]; rfl
  ·have e : (line == ([] : List UInt8)) = false := by simpa using ce
   rw [if_neg ce, e]
   simp
theorem zbf {a0 : List UInt8} (hl : a0.length ≤ 1073741824) : ∀ (d off : Nat) (L : Int), off + d = a0.length → -1 ≤ L → L ≤ 4000 →
 ∃ r, xq none a0 (off : Int) L = some r ∧ za none a0 L (off : Int) (off : Int) = some r ∧ zh0 a0.length r := by
 intro d
 induction d using Nat.strongRecOn with
 | ind d ih =>
  intro off L h hL1 hL2
  obtain ⟨B, hb0⟩ : ∃ B, x8 none a0 (off : Int) L = B := ⟨_, rfl⟩
  have hb := hb0
  unfold x8 jk at hb
  rw [if_pos (by omega), Int.toNat_natCast, List.take_length, if_pos (by simp only [List.length_drop]; omega), Option.bind_some] at hb
  rcases index_spec (a0.drop off) [13, 10] with ⟨h1, h2⟩ | ⟨n, h1, h2, h3, h4⟩
  ·rw [h1, if_pos (by decide)] at hb
   have hno : ∀ j, off ≤ j → ¬ occ a0 j := by
    intro j hj ho
    have hlt := zai ho
    have h5 := h2 (j - off) (by simp only [List.length_drop]; omega)
    have : occ (a0.drop off) (j - off) := by rw [Jw, show off + (j - off) = j by omega]; exact ho
    rw [(U5 _ _).2 this] at h5; cases h5
   rw [zh9 hl d off h hno]
   unfold xq yr
   by_cases c : (a0.length : Int) ≥ 500
   ·rw [if_pos (decide_eq_true c)] at hb
    rw [if_pos (decide_eq_true c)]
    exact ⟨([], 0, 4), zx (x := some ([], 0, 4)) (hb0.trans hb.symm), rfl, by constructor <;> simp⟩
   ·rw [if_neg (by simpa using c)] at hb
    rw [if_neg (by simpa using c)]
    exact ⟨([], 0, 0), zx (x := some ([], 0, 0)) (hb0.trans hb.symm), rfl, by constructor <;> simp⟩
  ·have ho : occ a0 (off + n) := by rw [← Jw, ← U5]; exact h3
   have hlt := zai ho
   rw [ze2 hl n off (by omega) (fun j hj ho' => by
    have := h4 j hj
    rw [(U5 _ _).2 ((Jw _ _ _).2 ho')] at this; cases this)]
   obtain ⟨line, hline⟩ : ∃ line, line = (a0.take (off + n)).drop off := ⟨_, rfl⟩
   have hll : line.length = n := by rw [hline, List.length_drop, List.length_take]; omega
   rw [h1, if_neg (by simp), show W ((off : Int) + (n : Int)) = ((off + n : Nat) : Int) from by rw [show ((off : Int) + (n : Int)) = ((off + n : Nat) : Int) by omega]; exact WN (by omega),
    show W ((n : Int) + 2) = ((n + 2 : Nat) : Int) from by rw [show ((n : Int) + 2) = ((n + 2 : Nat) : Int) by omega]; exact WN (by omega),
    show W ((off : Int) + ((n + 2 : Nat) : Int)) = ((off + n + 2 : Nat) : Int) from by rw [show ((off : Int) + ((n + 2 : Nat) : Int)) = ((off + n + 2 : Nat) : Int) by omega]; exact WN (by omega),
    if_pos (by omega), Int.toNat_natCast, ← hline] at hb
   have g13 : a0.getD (off + n) 0 = 13 := by rw [List.getD_eq_getElem?_getD, ho.1]; rfl
   have g10 : a0.getD (off + n + 1) 0 = 10 := by rw [List.getD_eq_getElem?_getD, ho.2]; rfl
   obtain ⟨C, hr0⟩ : ∃ C, zb none a0 L (off : Int) ((off + n : Nat) : Int) = C := ⟨_, rfl⟩
   have hr := hr0
   unfold zb at hr
   rw [Wi (show off + n ≤ 4611686018427387904 by omega)] at hr
   rw [if_pos (decide_eq_true (by omega)), if_pos (by omega), if_pos (fun _ => by omega)] at hr
   simp only [Int.toNat_natCast, g13, g10] at hr
   rw [if_neg (by decide), if_pos (by omega), show W (((off + n : Nat) : Int) + 2) = ((off + n + 2 : Nat) : Int) from by rw [show (((off + n : Nat) : Int) + 2) = ((off + n + 2 : Nat) : Int) by omega]; exact WN (by omega), ← hline] at hr
   unfold xq za
   by_cases c5 : off + n + 2 > 500
   ·rw [if_pos (decide_eq_true (by omega))] at hb hr
    exact ⟨([], 0, 4), zx (x := some ([], 0, 4)) (hb0.trans hb.symm), zx (x := some ([], 0, 4)) (hr0.trans hr.symm), by constructor <;> simp⟩
   rw [if_neg (by rw [decide_eq_true_eq]; omega)] at hb hr
   by_cases ce : line = []
   ·have e : (line == ([] : List UInt8)) = true := by simpa using ce
    rw [e] at hb hr
    simp only [Bool.true_and, Bool.not_true, Bool.false_and] at hb
    rw [if_pos rfl] at hr
    by_cases c0 : L < 0
    ·rw [if_pos (decide_eq_true c0), zbt hl hlt hline hL1 hL2 (fun hh => by rw [decide_eq_true c0] at hh; cases hh), if_pos (decide_eq_true c0)] at hb
     rw [if_pos (decide_eq_true c0)] at hr
     exact ⟨([], 0, 4), zx (x := some ([], 0, 4)) (hb0.trans hb.symm), zx (x := some ([], 0, 4)) (hr0.trans hr.symm), by constructor <;> simp⟩
    ·rw [if_neg (by simpa using c0), if_neg (by simp), zbt hl hlt hline hL1 hL2 (fun _ _ => by omega), if_neg (by simp), if_pos ce] at hb
     rw [if_neg (by simpa using c0), show W (((off + n + 2 : Nat) : Int) + L) = ((off + n + 2 : Nat) : Int) + L from z7v (by unfold inR; omega)] at hr
     by_cases cm : (a0.length : Int) < ((off + n + 2 : Nat) : Int) + L
     ·rw [if_pos cm] at hb
      rw [if_pos (decide_eq_true cm)] at hr
      exact ⟨([], 0, 0), zx (x := some ([], 0, 0)) (hb0.trans hb.symm), zx (x := some ([], 0, 0)) (hr0.trans hr.symm), by constructor <;> simp⟩
     ·rw [if_neg cm] at hb
      rw [if_neg (by simpa using cm), if_pos (by omega)] at hr
      exact ⟨_, zx (x := some _) (hb0.trans hb.symm), zx (x := some _) (hr0.trans hr.symm), by constructor <;> simp only <;> omega⟩
   ·have e : (line == ([] : List UInt8)) = false := by simpa using ce
    rw [e] at hb hr
    simp only [Bool.false_and, Bool.not_false, Bool.true_and] at hb
    rw [if_neg (by simp), if_pos (by rfl)] at hb
    rw [if_neg (by simp)] at hr
    obtain ⟨b, L', p1, p2, p3⟩ := zgo (l := line) (by omega) L
    obtain ⟨m, ok, q1, q2, q3⟩ := zge (l := line) (by omega)
    obtain ⟨f1, f2⟩ := z6c line
    rw [p1, Option.bind_some] at hb
    rw [q1, Option.bind_some] at hr
    simp only at hb hr
    by_cases cb : b = false
    ·subst cb
     have hbad : ((!ok) || ((decide (m ≥ 0)) && (decide (L ≥ 0)))) = true := by
      rcases p2.1 rfl with hh | hh
      ·rw [q2.2 hh]; rfl
      ·cases ok with
       | false => rfl
       | true =>
        have := q3 rfl
        rw [decide_eq_true (by omega), decide_eq_true hh.2]; rfl
     rw [if_pos hbad] at hr
     have hj : ∀ L'', q5 none a0 (off : Int) (n : Int) true L'' = some (.inr ([], 0, 4)) := by
      intro L''; unfold q5; rw [if_pos rfl]; rfl
     rw [Bool.not_false, hj] at hb
     exact ⟨([], 0, 4), zx (x := some ([], 0, 4)) (hb0.trans hb.symm), zx (x := some ([], 0, 4)) (hr0.trans hr.symm), by constructor <;> simp⟩
    ·have cb : b = true := by simpa using cb
     subst cb
     have hL' := p3 rfl
     have hnb : ¬ (jf line = -2 ∨ (0 ≤ jf line ∧ 0 ≤ L)) := fun hh => by have := p2.2 hh; cases this
     have hok : ok = true := by
      cases ok with
      | true => rfl
      | false => exact absurd (.inl (q2.1 rfl)) hnb
     subst hok
     have hm := q3 rfl
     have hL'b : -1 ≤ L' ∧ L' ≤ 4000 := by rw [hL']; split <;> omega
     rw [Bool.not_true, zbt hl hlt hline hL'b.1 hL'b.2 (fun _ hh => absurd hh ce), if_neg (by simp), if_neg ce] at hb
     rw [if_neg (by
      simp only [Bool.not_true, Bool.false_or, Bool.and_eq_true, decide_eq_true_eq]
      rintro ⟨x1, x2⟩
      exact hnb (.inr ⟨by omega, x2⟩))] at hr
     unfold zu at hr
     rw [Wi (show off + n + 1 ≤ 4611686018427387904 by omega)] at hr
     have hr2 : some (.inl (L', ((off + n + 2 : Nat) : Int), ((off + n + 2 : Nat) : Int))) = C := by
      rw [← hr, hL', hm]
      by_cases c0 : 0 ≤ jf line
      ·rw [if_pos c0, if_pos (decide_eq_true c0)]
      ·rw [if_neg c0, if_neg (by simpa using c0)]
     obtain ⟨r, r1, r2, r3⟩ := ih (a0.length - (off + n + 2)) (by omega) (off + n + 2) L' (by omega) hL'b.1 hL'b.2
     refine ⟨r, ?_, ?_, r3⟩
     ·rw [xf (hb0.trans hb.symm)]; exact r1
     ·rw [xf (hr0.trans hr2.symm)]; exact r2
theorem z5l {a0 : List UInt8} (hl : a0.length ≤ 1073741824) : ∃ r, xm none a0 = some r ∧ yp none a0 = some r ∧ zh0 a0.length r :=
 zbf hl a0.length 0 (-1) (by omega) (by omega) (by omega)
theorem z47 {a0 : List UInt8} (hl : a0.length ≤ 1073741824) : yp none a0 = xm none a0 := by
 obtain ⟨r, h1, h2, _⟩ := z5l hl
 rw [h1, h2]
theorem z2j {a0 : List UInt8} (hl : a0.length ≤ 1073741824) (v2 : List (List UInt8)) (v3 : Int) : zz none a0 v2 v3 = q9 none a0 v2 v3 := by
 unfold zz q9
 rw [z47 (by rw [List.take_length, List.length_drop]; omega)]
theorem z3b {a0 : List UInt8} (hl : a0.length ≤ 1073741824) : y7 none a0 = xc none a0 := by
 unfold y7 xc qu xj
 simp only [z2j hl]
def zeq (n : Nat) (r : List (List UInt8) × Int × Int) : Prop := (r.1.length ≤ n ∧ 0 ≤ r.2.1 ∧ r.2.1 ≤ (n : Int)) ∧ (r.2.2 ≠ 0 → r.1 = [])
theorem z36 {a0 : List UInt8} (hl : a0.length ≤ 1073741824) : ∀ (d off : Nat) (bs : List (List UInt8)), off + d = a0.length → bs.length ≤ off → ∃ r, xj none a0 bs (off : Int) = some r ∧ zeq a0.length r := by
 intro d
 induction d using Nat.strongRecOn with
 | ind d ih =>
  intro off bs h hbs
  obtain ⟨B, hb0⟩ : ∃ B, q9 none a0 bs (off : Int) = B := ⟨_, rfl⟩
  have hb := hb0
  unfold q9 at hb
  obtain ⟨r0, g1, _, g3, g4⟩ := z5l (a0 := a0.drop off) (by rw [List.length_drop]; omega)
  rw [List.length_drop] at g4
  rw [if_pos (by omega), Int.toNat_natCast, List.take_length, g1, Option.bind_some] at hb
  unfold xj
  by_cases c1 : r0.2.2 ≠ 0
  ·rw [if_pos (by simpa using c1)] at hb
   exact ⟨([], 0, r0.2.2), zx (x := some _) (hb0.trans hb.symm), by refine ⟨⟨by simp, by simp, by simp⟩, fun _ => rfl⟩⟩
  rw [if_neg (by simpa using c1)] at hb
  by_cases c2 : r0.2.1 = 0
  ·rw [if_pos (by simpa using c2)] at hb
   exact ⟨(bs, (off : Int), 0), zx (x := some _) (hb0.trans hb.symm), by refine ⟨⟨?_, ?_, ?_⟩, fun h => absurd rfl h⟩ <;> simp only <;> omega⟩
  obtain ⟨u, hu⟩ : ∃ u : Nat, r0.2.1 = (u : Int) := ⟨r0.2.1.toNat, by omega⟩
  rw [if_neg (by simpa using c2), hu, show W ((off : Int) + (u : Int)) = ((off + u : Nat) : Int) from by rw [show ((off : Int) + (u : Int)) = ((off + u : Nat) : Int) by omega]; exact WN (by omega),
   if_pos (by simp only [List.length_map, List.length_append, List.length_cons, List.length_nil]; omega)] at hb
  obtain ⟨r, h1, h2⟩ := ih (a0.length - (off + u)) (by omega) (off + u) (bs ++ [r0.1]) (by omega) (by simp only [List.length_append, List.length_cons, List.length_nil]; omega)
  refine ⟨r, ?_, h2⟩
  rw [xf (hb0.trans hb.symm)]
  exact h1
theorem z98 {a0 : List UInt8} (hl : a0.length ≤ 1073741824) : ∃ r, xc none a0 = some r ∧ zeq a0.length r :=
 z36 hl a0.length 0 [] (by omega) (by simp)
theorem z63 {l : List (List UInt8)} {i : Nat} (h : i < l.length) : l.getD i default = l[i] := by simp [List.getD_eq_getElem?_getD, h]
theorem Jl {a : List (List UInt8)} (hl : a.length ≤ 4611686018427387904) : ∀ (k i : Nat), i + k = a.length → y6 none a a (i : Int) = some true
 | 0, i, h => by
  unfold y6
  rw [zx (x := some true)]
  unfold zj
  rw [if_neg (by simp; omega)]
  rfl
 | k + 1, i, h => by
  have hi : i < a.length := by omega
  have ih := Jl hl k (i + 1) (by omega)
  have hb : zj none a a (i : Int) = some (.inl ((i + 1 : Nat) : Int)) := by
   unfold zj
   rw [if_pos (by simpa using hi), if_pos (by simpa using hi), if_pos (by simpa using hi), if_neg (by simp), Wi (by omega)]
  unfold y6 at ih ⊢
  rw [xf hb]
  exact ih
theorem z2c {a : List (List UInt8)} (hl : a.length ≤ 4611686018427387904) : y5 none a a = some true := by
 unfold y5
 rw [if_neg (by simp)]
 exact Jl hl a.length 0 (by omega)
theorem zex : y4 (some 4096) = some true := by kernel_rfl
def tot : List (List UInt8) → Nat
 | [] => 0
 | s :: r => s.length + tot r
theorem zc6 {a0 : List (List UInt8)} {i : Nat} (hi : i ≤ 4611686018427387904) {bs : List (List UInt8)} (hb : bs.length ≤ 4611686018427387904) (e : Int) (bf : List UInt8) (f : Bool) :
 zn none a0 (i : Int) (bs, e, bf, f) bs e bf = some (.inl (bf, (e != 0), ((i + 1 : Nat) : Int), bf, f)) := by
 unfold zn q8
 simp only
 have e1 : (e != e) = false := by simp
 rw [e1, if_pos (by rfl), z2c hb, Option.bind_some, if_pos (by rfl), Option.bind_some, if_neg (by simp), Wi hi]
theorem z1r {a0 ws : List (List UInt8)} (hws : ws = a0.take (if 15 < ((a0.map z7).length : Int) then 15 else ((a0.map z7).length : Int)).toNat) (hl : ws.length ≤ 1073741824) : ∀ (k i : Nat) (bf : List UInt8) (f : Bool), i + k = ws.length → bf.length + tot (ws.drop i) ≤ 1073741824 → (f = true → bf = []) →
 y1 none a0 bf f (i : Int) bf f = some true
 | 0, i, bf, f, h, ht, hf => by
  have : i = ws.length := by omega
  subst this
  unfold y1
  rw [zx (x := some true)]
  unfold zc yt
  rw [← hws, if_neg (by simp), zex]
  rfl
 | k + 1, i, bf, f, h, ht, hf => by
  have hi : i < ws.length := by omega
  rw [List.drop_eq_getElem_cons hi, tot] at ht
  obtain ⟨s, hs⟩ : ∃ s, s = ws[i] := ⟨_, rfl⟩
  rw [← hs] at ht
  have hstep : ∃ bf' f', zc none a0 bf f (i : Int) bf f = some (.inl (bf', f', ((i + 1 : Nat) : Int), bf', f')) ∧ bf'.length ≤ bf.length + s.length ∧ (f' = true → bf' = []) := by
   unfold zc qi
   rw [← hws, if_pos (by simpa using hi), if_pos (by simp only [List.length_map]; omega)]
   simp only [Int.toNat_natCast, z63 hi, ← hs]
   cases f with
   | true =>
    have hbf := hf rfl
    subst hbf
    rw [if_pos rfl, Option.bind_some, if_neg (by simp)]
    unfold zd
    rw [if_pos (by decide), zc6 (by omega) (by simp)]
    exact ⟨[], true, rfl, by simp, fun _ => rfl⟩
   | false =>
    have hlen : (bf ++ s).length ≤ 1073741824 := by rw [List.length_append]; omega
    obtain ⟨q, g1, ⟨g2, g3, g4⟩, g5⟩ := z98 hlen
    rw [if_neg (by simp), if_pos (by omega), g1, Option.bind_some, z3b hlen, g1]
    rw [List.length_append] at g4
    by_cases c : q.2.2 ≠ 0
    ·rw [if_pos (by simpa using c), Option.bind_some, if_pos (by rfl), if_pos (by omega), Option.bind_some]
     unfold zd
     rw [if_pos (by simpa using c), g5 c, zc6 (by omega) (by simp)]
     refine ⟨[], (q.2.2 != 0), ?_, by simp, fun _ => rfl⟩
     have : (q.2.2 != 0) = true := by simpa using c
     rw [this]
    ·have c0 : q.2.2 = 0 := Decidable.byContradiction c
     rw [if_neg (by simpa using c), if_pos (by omega), if_pos (by rw [List.length_append]; omega), Option.bind_some, if_pos (by rfl), if_pos (by omega), Option.bind_some]
     unfold zd
     rw [← hws]
     simp only [Int.toNat_natCast, z63 hi, ← hs]
     rw [if_neg (by simpa using c), if_pos (by omega), if_pos (by rw [List.length_append]; omega), c0, zc6 (by omega) (by have := hlen; omega)]
     refine ⟨_, false, rfl, ?_, fun h => by cases h⟩
     rw [List.take_length, List.length_drop, List.length_append]; omega
  obtain ⟨bf', f', h1, h2, h3⟩ := hstep
  have ih := z1r hws hl k (i + 1) bf' f' (by omega) (by omega) h3
  unfold y1 at ih ⊢
  rw [xf h1]
  exact ih
theorem z1j : ∀ (l : List (List UInt8)) (n : Nat), tot (l.take n) ≤ tot l
 | [], n => by simp [tot]
 | s :: r, 0 => by simp [tot]
 | s :: r, n + 1 => by
  have := z1j r n
  rw [List.take_succ_cons, tot, tot]; omega
theorem zhl {a0 : List (List UInt8)} (hl : a0.length ≤ 1073741824) (ht : tot a0 ≤ 1073741824) : ya none a0 = some true := by
 unfold ya x5
 rw [zex, Option.bind_some, if_neg (by decide), Option.bind_some, if_pos (by simp only [List.length_map]; split <;> omega)]
 obtain ⟨ws, hws⟩ : ∃ ws, ws = a0.take (if 15 < ((a0.map z7).length : Int) then 15 else ((a0.map z7).length : Int)).toNat := ⟨_, rfl⟩
 have h1 : ws.length ≤ a0.length := by rw [hws, List.length_take]; omega
 have h2 : tot ws ≤ tot a0 := by rw [hws]; exact z1j _ _
 have := z1r hws (by omega) ws.length 0 [] false (by omega) (by simp only [List.drop_zero, List.length_nil]; omega) (fun h => by cases h)
 exact this
end Go.Proofs.YtbinocieebfpiaaDoor
