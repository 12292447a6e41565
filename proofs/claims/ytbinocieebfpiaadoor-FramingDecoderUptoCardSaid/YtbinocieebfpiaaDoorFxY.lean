/-
  Own framework.
-/
import Derived.Test.YtbinocieebfpiaaDoorFxM2
namespace Go.Fx
set_option linter.unusedVariables false
def Z9 : Option Prop → Prop → Prop
 | none, q => q
 | some p, q => p ∧ q
def vt : Option Prop → Option Prop → Option Prop
 | none, y => y
 | some a, none => some a
 | some a, some b => some (a ∧ b)
def xr : Option Prop → Prop
 | none => True
 | some p => p
theorem yz (s : Option Prop) (q : Prop) : Z9 s q ↔ xr s ∧ q := by cases s <;> simp [Z9, xr]
theorem yy (a b : Option Prop) : xr (vt a b) ↔ xr a ∧ xr b := by cases a <;> cases b <;> simp [vt, xr]
def AVal.needY : AVal → Option Prop
 | .cnd p _ => some (p = true)
 | _ => none
theorem z4n (x : AVal) : xr x.needY ↔ x.need := by cases x <;> simp [AVal.needY, AVal.need, xr]
def LOpd.needY (e : Env) : LOpd → Option Prop
 | .t i => (e.get i).needY
 | .c _ => none
theorem z8 (e : Env) (x : LOpd) : xr (x.needY e) ↔ x.need e := by
 cases x with
 | t i => exact z4n _
 | c v => simp [LOpd.needY, LOpd.need, xr]
def Zo (e : Env) : List LOpd → Option Prop
 | [] => none
 | x :: r => vt (x.needY e) (Zo e r)
theorem wj (e : Env) : ∀ l, xr (Zo e l) ↔ Yl e l
 | [] => by simp [Zo, Yl, xr]
 | x :: r => by simp [Zo, Yl, yy, z8, wj e r]
def Q6 (e : Env) : Option LOpd → Option Prop
 | none => none
 | some x => x.needY e
theorem vo (e : Env) (x : Option LOpd) : xr (Q6 e x) ↔ uf e x := by
 cases x with
 | none => simp [Q6, uf, xr]
 | some x => exact z8 e x
def Kh (e : Env) : List (Nat × Nat × LOpd) → Option Prop
 | [] => none
 | (_, _, x) :: r => vt (x.needY e) (Kh e r)
theorem Jf (e : Env) : ∀ l, xr (Kh e l) ↔ j4 e l
 | [] => by simp [Kh, j4, xr]
 | (_, _, x) :: r => by simp [Kh, j4, yy, z8, Jf e r]
def J2 (e : Env) : List (Nat × LOpd) → Option Prop
 | [] => none
 | (_, x) :: r => vt (x.needY e) (J2 e r)
theorem Y8 (e : Env) : ∀ l, xr (J2 e l) ↔ Wg e l
 | [] => by simp [J2, Wg, xr]
 | (_, x) :: r => by simp [J2, Wg, yy, z8, Y8 e r]
def z57 : IntKind → IntKind → Bool
 | .i8, .i8 | .i16, .i16 | .i32, .i32 | .i64, .i64 | .u8, .u8 | .u16, .u16 | .u32, .u32 | .u64, .u64 => true
 | _, _ => false
theorem Js {a b : IntKind} (h : z57 a b = true) : a = b := by cases a <;> cases b <;> first | rfl | cases h
inductive YR where
 | ok (side : Option Prop) (v : AVal)
 | row (es : List (List AVal)) (i : Nat) (side : Prop) (f : List AVal → AVal)
 | pick (v : AVal) (side : Prop)
 | fork (j : Int) (len : Nat) (side : Option Prop) (f : Nat → AVal)
 | bad
def zb6 (j : Int) (f : Nat → AVal) (K : AVal → Prop) : Nat → Nat → Prop
 | 0, _ => True
 | k + 1, c => (j = (c : Int) → K (f c)) ∧ zb6 j f K k (c + 1)
def YR.run (r : YR) (K : AVal → Prop) : Prop := match r with
 | .ok s v => Z9 s (K v)
 | .row es i s f => ∃ r, es.getD i [] = r ∧ s ∧ K (f r)
 | .pick v0 s => ∃ v, v0 = v ∧ s ∧ K v
 | .fork j len s f => Z9 s ((0 ≤ j ∧ j < (len : Int)) ∧ zb6 j f K len 0)
 | .bad => False
def YR.runG (p : Bool) (r : YR) (K : AVal → Prop) : Prop := match r with
 | .ok none v => K (.cnd p v)
 | .ok (some s) v => (p = true → s) ∧ K (.cnd p v)
 | .row es i s f => ∃ r, (p = true → es.getD i [] = r ∧ s) ∧ K (.cnd p (f r))
 | .pick v0 s => ∃ v, (p = true → v0 = v ∧ s) ∧ K (.cnd p v)
 | _ => p = false ∧ K (.tup [])
def YR.and (s : Option Prop) : YR → YR
 | .ok t v => .ok (vt s t) v
 | .row es i t f => match s with
  | none => .row es i t f
  | some p => .row es i (p ∧ t) f
 | .pick v t => match s with
  | none => .pick v t
  | some p => .pick v (p ∧ t)
 | .fork j len t f => .fork j len (vt s t) f
 | .bad => .bad
def YR.Of (r : YR) (x : XR) : Prop := match r with
 | .ok s v => ∃ side, x = .ok side v ∧ (xr s → side)
 | .row es i s f => ∃ side, x = .ok side (f (es.getD i [])) ∧ (s → side)
 | .pick v s => ∃ side, x = .ok side v ∧ (s → side)
 | .fork j len s f => ∃ side v, x = .ok side v ∧ ∀ c : Nat, c < len → j = (c : Int) → xr s → side ∧ v = f c
 | .bad => True
theorem YR.Of.and {r : YR} {x : XR} {s : Option Prop} {p : Prop} (h : r.Of x) (hs : xr s → p) : (r.and s).Of (x.and p) := by
 cases r with
 | bad => trivial
 | ok t v =>
  obtain ⟨side, rfl, h1⟩ := h
  exact ⟨_, rfl, fun h => by rw [yy] at h; exact ⟨hs h.1, h1 h.2⟩⟩
 | row es i t f =>
  obtain ⟨side, rfl, h1⟩ := h
  cases s with
  | none => exact ⟨_, rfl, fun h => ⟨hs trivial, h1 h⟩⟩
  | some q => exact ⟨_, rfl, fun h => ⟨hs h.1, h1 h.2⟩⟩
 | pick v t =>
  obtain ⟨side, rfl, h1⟩ := h
  cases s with
  | none => exact ⟨_, rfl, fun h => ⟨hs trivial, h1 h⟩⟩
  | some q => exact ⟨_, rfl, fun h => ⟨hs h.1, h1 h.2⟩⟩
 | fork j len t f =>
  obtain ⟨side, v, rfl, h1⟩ := h
  exact ⟨_, v, rfl, fun c hc hj h => by
   rw [yy] at h
   obtain ⟨h2, h3⟩ := h1 c hc hj h.2
   exact ⟨⟨hs h.1, h2⟩, h3⟩⟩
theorem K6 {j : Int} {f : Nat → AVal} {K : AVal → Prop} : ∀ {k c0 : Nat}, zb6 j f K k c0 → ∀ c, c0 ≤ c → c < c0 + k → j = (c : Int) → K (f c)
 | 0, c0, _, c, h1, h2, _ => by omega
 | k + 1, c0, h, c, h1, h2, h3 => by
  by_cases hc : c = c0
  ·subst hc; exact h.1 h3
  ·exact K6 h.2 c (by omega) (by omega) h3
theorem YR.Of.run {r : YR} {x : XR} (h : r.Of x) {K : AVal → Prop} (hk : r.run K) : ∃ side v, x = .ok side v ∧ side ∧ K v := by
 cases r with
 | bad => exact hk.elim
 | ok t v =>
  obtain ⟨side, rfl, h1⟩ := h
  rw [YR.run, yz] at hk
  exact ⟨_, _, rfl, h1 hk.1, hk.2⟩
 | row es i t f =>
  obtain ⟨side, rfl, h1⟩ := h
  obtain ⟨r, rfl, ht, hk⟩ := hk
  exact ⟨_, _, rfl, h1 ht, hk⟩
 | pick v t =>
  obtain ⟨side, rfl, h1⟩ := h
  obtain ⟨r, rfl, ht, hk⟩ := hk
  exact ⟨_, _, rfl, h1 ht, hk⟩
 | fork j len t f =>
  obtain ⟨side, v, rfl, h1⟩ := h
  rw [YR.run, yz] at hk
  obtain ⟨hs, ⟨h2, h3⟩, h4⟩ := hk
  obtain ⟨c, rfl⟩ := Int.eq_ofNat_of_zero_le h2
  obtain ⟨g1, rfl⟩ := h1 c (by omega) rfl hs
  exact ⟨_, _, rfl, g1, K6 h4 c (Nat.zero_le _) (by omega) rfl⟩
def zg6 (op : BinOp) : AVal → AVal → YR
 | .int k a, .int k' b => match op with
  | .shl => .ok (some (0 ≤ b)) (.int k (k.wrap (a * 2 ^ (min b.toNat k.bits))))
  | .shr => .ok (some (0 ≤ b)) (.int k (a.fdiv (2 ^ (min b.toNat k.bits))))
  | op => match z57 k k' with
   | false => .bad
   | true => match op with
    | .add => .ok none (.int k (k.wrap (a + b)))
    | .sub => .ok none (.int k (k.wrap (a - b)))
    | .mul => .ok none (.int k (k.wrap (a * b)))
    | .quo => .ok (some (b ≠ 0)) (.int k (k.wrap (a.tdiv b)))
    | .rem => .ok (some (b ≠ 0)) (.int k (a.tmod b))
    | .and => .ok none (.int k (Xp .and k a b))
    | .or => .ok none (.int k (Xp .or k a b))
    | .xor => .ok none (.int k (Xp .xor k a b))
    | .andNot => .ok none (.int k (Xp .andNot k a b))
    | .eql => .ok none (.bool (a == b))
    | .neq => .ok none (.bool (a != b))
    | .lss => .ok none (.bool (decide (a < b)))
    | .leq => .ok none (.bool (decide (a ≤ b)))
    | .gtr => .ok none (.bool (decide (a > b)))
    | .geq => .ok none (.bool (decide (a ≥ b)))
    | _ => .bad
 | .str a, .str b => match op with
  | .add => .ok (some (((a.length + b.length : Nat) : Int) ≤ 9223372036854775807)) (.str (a ++ b))
  | .eql => .ok none (.bool (a == b))
  | .neq => .ok none (.bool (!(a == b)))
  | .lss => .ok none (.bool (Op.bytesLess a b))
  | .leq => .ok none (.bool (Op.bytesLess a b || a == b))
  | .gtr => .ok none (.bool (!(Op.bytesLess a b || a == b)))
  | .geq => .ok none (.bool (!(Op.bytesLess a b)))
  | _ => .bad
 | _, _ => .bad
theorem zcu (op : BinOp) (x y : AVal) : (zg6 op x y).Of (zec op x y) := by
 cases x <;> cases y <;> simp only [zg6, zec] <;> try trivial
 case int.int k a k' b =>
  cases op <;> simp only <;> (try exact ⟨_, rfl, fun h => h⟩) <;> (cases hk : z57 k k' <;> simp only <;> (try trivial) <;> (have hk := Js hk; subst hk)) <;>
   first | exact ⟨_, rfl, fun _ => rfl⟩ | exact ⟨_, rfl, fun h => ⟨rfl, h⟩⟩
 case str.str a b =>
  cases op <;> simp only <;> first | trivial | exact ⟨_, rfl, fun _ => trivial⟩ | exact ⟨_, rfl, fun h => h⟩
def XR.toY : XR → YR
 | .ok s v => .ok (some s) v
 | .bad => .bad
theorem XR.toY_of (x : XR) : x.toY.Of x := by
 cases x with
 | ok s v => exact ⟨s, rfl, fun h => h⟩
 | bad => trivial
def XR.toY0 : XR → YR
 | .ok _ v => .ok none v
 | .bad => .bad
theorem XR.toY0_of {x : XR} (h : ∀ s v, x = .ok s v → s) : x.toY0.Of x := by
 cases x with
 | ok s v => exact ⟨s, rfl, fun _ => h s v rfl⟩
 | bad => trivial
def ze9 : AVal → AVal → YR := fun a b => (z9b a b).toY0
def Wk : AVal → AVal → YR
 | .val (.slice none 0 0), .isl _ es _ => .ok (some (es ≠ [])) (.bool false)
 | .isl _ es _, .val (.slice none 0 0) => .ok (some (es ≠ [])) (.bool false)
 | .val (.slice none 0 0), .msl _ _ _ len _ => .ok (some (len ≠ 0)) (.bool false)
 | .msl _ _ _ len _, .val (.slice none 0 0) => .ok (some (len ≠ 0)) (.bool false)
 | a, b => (X4 a b).toY0
theorem Ur (a b : AVal) : (Wk a b).Of (X4 a b) := by
 unfold Wk
 split
 ·exact ⟨_, rfl, fun h => h⟩
 ·exact ⟨_, rfl, fun h => h⟩
 ·exact ⟨_, rfl, fun h => h⟩
 ·exact ⟨_, rfl, fun h => h⟩
 ·rename_i h1 h2 h3 h4
  refine XR.toY0_of fun s v h => ?_
  unfold X4 at h
  split at h <;> simp only [XR.ok.injEq, reduceCtorEq] at h <;> (try (obtain ⟨rfl, _⟩ := h; trivial))
  ·exact absurd rfl (h3 _ _ _ _ _ rfl)
  ·exact absurd rfl (h4 _ _ _ _ _ · rfl)
  ·exact absurd rfl (h1 _ _ _ rfl)
  ·exact absurd rfl (h2 _ _ _ · rfl)
def zfo (k : EqK) (x y : AVal) : YR :=
 match k with
 | .bool => match x, y with
  | .bool a, .bool b => .ok none (.bool (a == b))
  | _, _ => .bad
 | .ptr => ze9 x y
 | .slice => Wk x.rd y.rd
 | .map => (Yp x y).toY0
 | .agg ks => (z8f ks x y).toY0
 | .ifc => (Vc x y).toY0
 | .fnc => (Kd x y).toY0
 | _ => .bad
def YR.neg : YR → YR
 | .ok s (.bool b) => .ok s (.bool (!b))
 | _ => .bad
def yeq (neg : Bool) (k : EqK) (x y : AVal) : YR := match neg with
 | true => (zfo k x y).neg
 | false => zfo k x y
theorem zd9 (k : EqK) (x y : AVal) : (zfo k x y).Of (z8o k x y) := by
 cases k <;> simp only [zfo, z8o] <;> try trivial
 case bool => cases x <;> cases y <;> first | trivial | exact ⟨_, rfl, fun _ => trivial⟩
 case ptr =>
  refine XR.toY0_of fun s v h => ?_
  unfold z9b at h
  split at h <;> simp only [XR.ok.injEq, reduceCtorEq] at h <;> (obtain ⟨rfl, _⟩ := h; trivial)
 case slice => exact Ur _ _
 case map =>
  refine XR.toY0_of fun s v h => ?_
  unfold Yp at h
  split at h <;> simp only [XR.ok.injEq, reduceCtorEq] at h <;> (obtain ⟨rfl, _⟩ := h; trivial)
 case agg ks =>
  refine XR.toY0_of fun s v h => ?_
  unfold z8f at h
  split at h <;> (try split at h) <;> simp only [XR.ok.injEq, reduceCtorEq] at h <;> (obtain ⟨rfl, _⟩ := h; trivial)
 case ifc =>
  refine XR.toY0_of fun s v h => ?_
  unfold Vc at h
  split at h <;> simp only [XR.ok.injEq, reduceCtorEq] at h <;> (obtain ⟨rfl, _⟩ := h; trivial)
 case fnc =>
  refine XR.toY0_of fun s v h => ?_
  unfold Kd at h
  split at h <;> simp only [XR.ok.injEq, reduceCtorEq] at h <;> (obtain ⟨rfl, _⟩ := h; trivial)
theorem zf1 (neg : Bool) (k : EqK) (x y : AVal) : (yeq neg k x y).Of (xeq neg k x y) := by
 have h := zd9 k x y
 cases neg with
 | false => simpa [yeq, xeq] using h
 | true =>
  simp only [yeq, xeq, if_true]
  cases hr : zfo k x y with
  | ok s v =>
   rw [hr] at h
   obtain ⟨side, hx, hs⟩ := h
   cases v <;> simp only [YR.neg] <;> try trivial
   rw [hx]
   exact ⟨side, rfl, hs⟩
  | _ => simp only [YR.neg]; trivial
def zdf (agg : Bool) (n : Nat) (H : AHeap) : AVal → YR
 | .iptr s es i off => .row es i (i < es.length ∧ off + n ≤ s) (yx agg n off)
 | .ptr b i off => match H.get b with
  | some (.rows s es) => .row es i (i < es.length ∧ off + n ≤ s) (yx agg n off)
  | some (.one cs) => match i, Nat.ble (off + n) cs.length with
   | 0, true => .ok none (yx agg n off cs)
   | _, _ => .bad
  | _ => .bad
 | _ => .bad
theorem z8r (g : Bool) (n : Nat) (H : AHeap) (x : AVal) : (zdf g n H x).Of (z04 g n H x) := by
 cases x <;> simp only [zdf, z04] <;> try trivial
 case iptr s es i off => exact ⟨_, rfl, fun h => h⟩
 case ptr b i off =>
  split
  ·rename_i hb
   rw [hb]
   exact ⟨_, rfl, fun h => h⟩
  ·rename_i hb
   rw [hb]
   split
   ·rename_i h
    exact ⟨_, rfl, fun _ => ⟨rfl, Nat.le_of_ble_eq_true h⟩⟩
   ·trivial
  ·trivial
def z7g (agg : Bool) (n off : Nat) : AVal → YR
 | .agg cs => match Nat.ble (off + n) cs.length with
  | true => .ok none (yx agg n off cs)
  | false => .bad
 | _ => .bad
theorem z6q (g : Bool) (n off : Nat) (x : AVal) : (z7g g n off x).Of (V2 g n off x) := by
 cases x <;> simp only [z7g, V2] <;> try trivial
 split
 ·rename_i h; exact ⟨_, rfl, fun _ => Nat.le_of_ble_eq_true h⟩
 ·trivial
def z6p (s : Nat) : AVal → AVal → YR
 | .isl s' es _, .int _ j => match Nat.beq s s' with
  | true => .ok (some (0 ≤ j ∧ j < (es.length : Int))) (.iptr s' es j.toNat 0)
  | false => .bad
 | .msl b s' off len _, .int _ j => match Nat.beq s s' with
  | true => .ok (some (0 ≤ j ∧ j < (len : Int))) (.ptr b (off + j.toNat) 0)
  | false => .bad
 | _, _ => .bad
theorem z6m (s : Nat) (x y : AVal) : (z6p s x y).Of (Wx s x y) := by
 cases x <;> cases y <;> simp only [z6p, Wx] <;> try trivial
 all_goals
  split
  ·rename_i h; exact ⟨_, rfl, fun hh => ⟨Nat.eq_of_beq_eq_true h, hh⟩⟩
  ·trivial
def z02 (len s : Nat) (H : AHeap) : AVal → AVal → YR
 | .ptr b i 0, .int _ j => match H.get b with
  | some (.rows s' _) => match Nat.beq s s' with
   | true => .ok (some (0 ≤ j ∧ j < (len : Int))) (.ptr b (i + j.toNat) 0)
   | false => .bad
  | _ => .bad
 | _, _ => .bad
theorem z2e (len s : Nat) (H : AHeap) (x y : AVal) : (z02 len s H x y).Of (Q4 len s H x y) := by
 unfold z02 Q4
 split
 ·split
  ·rename_i hg
   split
   ·rename_i h
    simp only [hg]
    exact ⟨_, rfl, fun hh => ⟨Nat.eq_of_beq_eq_true h, hh⟩⟩
   ·trivial
  ·trivial
 ·trivial
def Uf (len s : Nat) (x : AVal) : LOpd → AVal → YR
 | .c (.int _ (.ofNat c)), _ => match Nat.ble (c + 1) len, x with
  | true, .iptr s' es i o => .ok none (.iptr s' es i (o + c * s))
  | true, .ptr b i o => .ok none (.ptr b i (o + c * s))
  | _, _ => .bad
 | _, .int _ j => match x with
  | .iptr s' es i o => .fork j len none (fun c => .iptr s' es i (o + c * s))
  | .ptr b i o => .fork j len none (fun c => .ptr b i (o + c * s))
  | _ => .bad
 | _, _ => .bad
theorem z35 (len s : Nat) (x : AVal) (e : Env) (i : LOpd) : (Uf len s x i (i.ev e)).Of (Ws len s x (i.ev e)) := by
 unfold Uf
 split
 ·rename_i k c
  split
  ·rename_i h
   exact ⟨_, rfl, fun _ => ⟨Int.natCast_nonneg c, by have := Nat.le_of_ble_eq_true h; simp; omega⟩⟩
  ·rename_i h
   exact ⟨_, rfl, fun _ => ⟨Int.natCast_nonneg c, by have := Nat.le_of_ble_eq_true h; simp; omega⟩⟩
  ·trivial
 ·rename_i j _ heq
  rw [heq]
  split
  ·exact ⟨_, _, rfl, fun c hc hj _ => ⟨by omega, by subst hj; simp⟩⟩
  ·exact ⟨_, _, rfl, fun c hc hj _ => ⟨by omega, by subst hj; simp⟩⟩
  ·trivial
 ·trivial
def zbo (len s : Nat) (agg : Bool) (x : AVal) : LOpd → AVal → YR
 | .c (.int _ (.ofNat c)), _ => match x with
  | .agg cs => match Nat.ble (c + 1) len && Nat.ble (c * s + s) cs.length with
   | true => .ok none (yx agg s (c * s) cs)
   | false => .bad
  | _ => .bad
 | _, .int _ j => match x with
  | .agg cs => .pick (yx agg s (j.toNat * s) cs) (0 ≤ j ∧ j < (len : Int) ∧ (j.toNat * s) + s ≤ cs.length)
  | _ => .bad
 | _, _ => .bad
theorem z8m (len s : Nat) (g : Bool) (x : AVal) (e : Env) (i : LOpd) : (zbo len s g x i (i.ev e)).Of (z7x len s g x (i.ev e)) := by
 unfold zbo
 split
 ·split
  ·split
   ·rename_i h
    simp only [Bool.and_eq_true] at h
    have h1 := Nat.le_of_ble_eq_true h.1
    have h2 := Nat.le_of_ble_eq_true h.2
    rename_i c _ _ _ _
    exact ⟨_, rfl, fun _ => ⟨Int.natCast_nonneg _, by simp; omega, by simpa using h2⟩⟩
   ·trivial
  ·trivial
 ·rename_i j _ heq
  rw [heq]
  split
  ·exact ⟨_, rfl, fun h => h⟩
  ·trivial
 ·trivial
def zgt (k : Nat) : AVal → YR
 | .tup cs => match Nat.ble (k + 1) cs.length with
  | true => .ok none (cs.getD k .any)
  | false => .bad
 | _ => .bad
theorem zc3 (k : Nat) (x : AVal) : (zgt k x).Of (zdp k x) := by
 cases x <;> simp only [zgt, zdp] <;> try trivial
 split
 ·rename_i h; exact ⟨_, rfl, fun _ => Nat.le_of_ble_eq_true h⟩
 ·trivial
def zb5 (c : Bool) : AVal → AVal → Option AVal
 | .bool a, .bool b => some (.bool (bif c then a else b))
 | .int k a, .int k' b => match z57 k k' with
  | true => some (.int k (bif c then a else b))
  | false => none
 | .str a, .str b => some (.str (bif c then a else b))
 | _, _ => none
theorem z81 {c : Bool} {a b v : AVal} (h : zb5 c a b = some v) : zbh c a b = v := by
 cases a <;> cases b <;> simp only [zb5] at h <;> try (cases h; done)
 ·simp only [Option.some.injEq] at h; subst h; cases c <;> rfl
 ·split at h <;> try (cases h; done)
  rename_i hk
  have hk := Js hk
  subst hk
  simp only [Option.some.injEq] at h
  subst h; cases c <;> rfl
 ·simp only [Option.some.injEq] at h; subst h; cases c <;> rfl
def z84 (c want : Bool) : Option Prop → Option Prop
 | none => none
 | some p => some (c = want → p)
theorem V4 (c want : Bool) (p : Option Prop) : xr (z84 c want p) ↔ (c = want → xr p) := by cases p <;> simp [z84, xr]
def z5o (c : Bool) (e : Env) : LOpd → LOpd → Option AVal
 | .c (.bool true), b => match b.ev e with
  | .bool y => some (.bool (c || y))
  | _ => none
 | a, .c (.bool false) => match a.ev e with
  | .bool x => some (.bool (c && x))
  | _ => none
 | a, b => zb5 c (a.ev e) (b.ev e)
theorem z4v {c : Bool} {e : Env} {a b : LOpd} {v : AVal} (h : z5o c e a b = some v) : zbh c (a.ev e) (b.ev e) = v := by
 unfold z5o at h
 split at h
 ·split at h <;> try (cases h; done)
  rename_i y hy
  simp only [Option.some.injEq] at h
  subst h
  rw [hy]
  cases c <;> rfl
 ·split at h <;> try (cases h; done)
  rename_i x hx
  simp only [Option.some.injEq] at h
  subst h
  rw [hx]
  cases c <;> rfl
 ·exact z81 h
def zae (e : Env) (na nb : Option Prop) (c : AVal) (a b : LOpd) : YR := match c with
 | .bool c => match z5o c e a b with
  | some v => .ok (vt (z84 c true na) (z84 c false nb)) v
  | none => .bad
 | _ => .bad
def K2 (cells : List AVal) : List (Nat × Nat × AVal) → YR
 | [] => .ok none (.agg cells)
 | (off, n, x) :: r => match x.cells? with
  | some cs => match Nat.beq cs.length n && Nat.ble (off + n) cells.length with
   | true => K2 (xt cells off cs) r
   | false => .bad
  | none => .bad
theorem Ku : ∀ (parts : List (Nat × Nat × AVal)) (cells : List AVal), (K2 cells parts).Of (kl cells parts)
 | [], cells => ⟨_, rfl, fun _ => trivial⟩
 | (off, n, x) :: r, cells => by
  simp only [K2, kl]
  split
  ·rename_i cs hc
   simp only [hc]
   split
   ·rename_i h
    simp only [Bool.and_eq_true] at h
    have h1 := Nat.eq_of_beq_eq_true h.1
    have h2 := Nat.le_of_ble_eq_true h.2
    have ih := Ku r (xt cells off cs)
    cases hy : K2 (xt cells off cs) r with
    | ok s v =>
     rw [hy] at ih
     obtain ⟨side, hx, hs⟩ := ih
     rw [hx]
     exact ⟨_, rfl, fun h => ⟨h1, h2, hs h⟩⟩
    | bad => trivial
    | row es i s f =>
     rw [hy] at ih
     obtain ⟨side, hx, hs⟩ := ih
     rw [hx]
     exact ⟨_, rfl, fun h => ⟨h1, h2, hs h⟩⟩
    | pick v s =>
     rw [hy] at ih
     obtain ⟨side, hx, hs⟩ := ih
     rw [hx]
     exact ⟨_, rfl, fun h => ⟨h1, h2, hs h⟩⟩
    | fork j len s f =>
     rw [hy] at ih
     obtain ⟨side, v, hx, hs⟩ := ih
     rw [hx]
     exact ⟨_, _, rfl, fun c hc hj h => ⟨⟨h1, h2, (hs c hc hj h).1⟩, (hs c hc hj h).2⟩⟩
   ·trivial
  ·trivial
def zfq (lo hi : Nat → Option Int) : AVal → YR := fun x => (z0o lo hi x).toY
def XR.toP : XR → YR
 | .ok s v => .pick v s
 | .bad => .bad
theorem XR.toP_of (x : XR) : x.toP.Of x := by
 cases x with
 | ok s v => exact ⟨s, rfl, fun h => h⟩
 | bad => trivial
def zhp (s : Nat) (lo hi : Nat → Option Int) (mx : Option (Option Int)) (keep : Bool) : AVal → YR := fun x => (zf5 s lo hi mx keep x).toP
def zdh (isMax : Bool) : AVal → List AVal → YR
 | v, [] => .ok none v
 | .int k a, .int k' b :: r => match z57 k k' with
  | true => zdh isMax (.int k (if isMax then (if b > a then b else a) else (if b < a then b else a))) r
  | false => .bad
 | _, _ => .bad
theorem z4o (m : Bool) : ∀ (l : List AVal) (v : AVal), (zdh m v l).Of (z8e m v l)
 | [], v => by simp only [zdh, z8e]; exact ⟨_, rfl, fun _ => trivial⟩
 | y :: r, v => by
  cases v <;> cases y <;> try trivial
  rename_i k a k' b
  simp only [zdh, z8e]
  split
  ·rename_i hk
   have hk := Js hk
   subst hk
   have ih := z4o m r (.int k (if m then (if b > a then b else a) else (if b < a then b else a)))
   cases hy : zdh m (.int k (if m then (if b > a then b else a) else (if b < a then b else a))) r with
   | ok s v =>
    rw [hy] at ih
    obtain ⟨side, hx, hs⟩ := ih
    rw [hx]
    exact ⟨_, rfl, fun h => ⟨rfl, hs h⟩⟩
   | bad => trivial
   | row es i s f =>
    rw [hy] at ih
    obtain ⟨side, hx, hs⟩ := ih
    rw [hx]
    exact ⟨_, rfl, fun h => ⟨rfl, hs h⟩⟩
   | pick v s =>
    rw [hy] at ih
    obtain ⟨side, hx, hs⟩ := ih
    rw [hx]
    exact ⟨_, rfl, fun h => ⟨rfl, hs h⟩⟩
   | fork j len s f =>
    rw [hy] at ih
    obtain ⟨side, v, hx, hs⟩ := ih
    rw [hx]
    exact ⟨_, _, rfl, fun c hc hj h => ⟨⟨rfl, (hs c hc hj h).1⟩, (hs c hc hj h).2⟩⟩
  ·trivial
def zdj (isMax : Bool) : List AVal → YR
 | .int k a :: r => zdh isMax (.int k a) r
 | _ => .bad
def z7s (ks : List CK) (ka g ok : Bool) (zs : List AVal) (H : AHeap) (k : AVal) : AVal → YR
 | .val (.map none) => match uq ks ka k with
  | true => .ok none (zdg g ok zs none)
  | false => .bad
 | .map b => match H.get b with
  | some (.amap es) => match uq ks ka k with
   | true => .pick (zdg g ok zs ((V1 ks k es).getD none)) ((V1 ks k es).isSome = true)
   | false => .bad
  | _ => .bad
 | _ => .bad
theorem z68 (ks : List CK) (ka g ok : Bool) (zs : List AVal) (H : AHeap) (k x : AVal) : (z7s ks ka g ok zs H k x).Of (V7 ks ka g ok zs H k x) := by
 unfold z7s V7
 split
 ·split
  ·rename_i h; rw [if_pos h]; exact ⟨_, rfl, fun _ => trivial⟩
  ·trivial
 ·split
  ·rename_i hg
   split
   ·rename_i h; simp only [hg]; rw [if_pos h]; exact ⟨_, rfl, fun h => h⟩
   ·trivial
  ·trivial
 ·trivial
def Xj (e : Env) (H : AHeap) : LOp → YR
 | .mv x => .ok (x.needY e) (x.ev e)
 | .pick c a b => (zae e (a.needY e) (b.needY e) (c.ev e) a b).and (c.needY e)
 | .build zs parts => (K2 zs (j9 e parts)).and (Kh e parts)
 | .load g n a => (zdf g n H (a.ev e)).and (a.needY e)
 | .nilck x => (Vt (x.ev e)).toY0.and (x.needY e)
 | .bin op x y => (zg6 op (x.ev e) (y.ev e)).and (vt (x.needY e) (y.needY e))
 | .eq neg k x y => (yeq neg k (x.ev e) (y.ev e)).and (vt (x.needY e) (y.needY e))
 | .un op x => (xun op (x.ev e)).toY0.and (x.needY e)
 | .conv (.int k) x => match x.ev e with
  | .int _ n => .ok (x.needY e) (.int k (k.wrap n))
  | _ => .bad
 | .conv .same x => match x.ev e with
  | .str l => .ok (x.needY e) (.str l)
  | _ => .bad
 | .mkfn f a c => .ok (vt (Zo e a) (Zo e c)) (.fn f (evs e a) (evs e c))
 | .slStr x lo hi => (zfq (fun d => qp e d lo) (fun d => qp e d hi) (x.ev e)).and (vt (x.needY e) (vt (Q6 e lo) (Q6 e hi)))
 | .slSl s x lo hi mx => (zhp s (fun d => qp e d lo) (fun d => qp e d hi) (z3c e mx) (hi.isNone && mx.isNone) (x.ev e)).and (vt (x.needY e) (vt (Q6 e lo) (vt (Q6 e hi) (Q6 e mx))))
 | .slAr n s x => (z8a n s H (x.ev e)).toP.and (x.needY e)
 | .faddr off x => (Kp off (x.ev e)).toY0.and (x.needY e)
 | .field g n off x => (z7g g n off (x.ev e)).and (x.needY e)
 | .iaddr s x i => (z6p s (x.ev e).rd (i.ev e)).and (vt (x.needY e) (i.needY e))
 | .iaddrA n s x i => (Uf n s (x.ev e) i (i.ev e)).and (vt (x.needY e) (i.needY e))
 | .iaddrR n s x i => (z02 n s H (x.ev e) (i.ev e)).and (vt (x.needY e) (i.needY e))
 | .idxS x i => (z86 (x.ev e) (i.ev e)).toY.and (vt (x.needY e) (i.needY e))
 | .idxA n s g x i => (zbo n s g (x.ev e) i (i.ev e)).and (vt (x.needY e) (i.needY e))
 | .ext k x => (zgt k (x.ev e)).and (x.needY e)
 | .len true x => (z5p (x.ev e)).toY0.and (x.needY e)
 | .len false x => (z3w (x.ev e).rd).toY0.and (x.needY e)
 | .mnx m args => (zdj m (evs e args)).and (Zo e args)
 | .mlook ks ka g ok zs x k => (z7s ks ka g ok zs H (k.ev e) (x.ev e)).and (vt (x.needY e) (k.needY e))
 | .mlen x => (z4c H (x.ev e)).toY0.and (x.needY e)
 | _ => .bad
theorem wx (e : Env) (H : AHeap) (op : LOp) : (Xj e H op).Of (w9 e H op) := by
 have h2 : ∀ {x y : LOpd}, xr (vt (x.needY e) (y.needY e)) → x.need e ∧ y.need e := fun h => by rw [yy, z8, z8] at h; exact h
 cases op <;> simp only [Xj, w9] <;> try trivial
 case mv x => exact ⟨_, rfl, (z8 e x).1⟩
 case pick c a b =>
  refine YR.Of.and ?_ (z8 e c).1
  unfold zae z8h
  split
  ·rename_i cc hcc
   simp only [hcc]
   split
   ·rename_i v hv
    rw [z4v hv]
    refine ⟨_, rfl, fun h => ?_⟩
    rw [yy, V4, V4, z8, z8] at h
    exact h
   ·trivial
  ·trivial
 case build zs parts => exact (Ku _ _).and (Jf e parts).1
 case load g n a => exact (z8r _ _ _ _).and (z8 e a).1
 case nilck x =>
  refine YR.Of.and (XR.toY0_of fun s v h => ?_) (z8 e x).1
  unfold Vt at h
  split at h <;> simp only [XR.ok.injEq, reduceCtorEq] at h <;> (obtain ⟨rfl, _⟩ := h; trivial)
 case bin op x y => exact (zcu _ _ _).and h2
 case eq neg k x y => exact (zf1 _ _ _ _).and h2
 case mlook ks ka g ok zs x k => exact (z68 _ _ _ _ _ _ _ _).and h2
 case mlen x =>
  refine YR.Of.and (XR.toY0_of fun s v h => ?_) (z8 e x).1
  unfold z4c at h
  split at h <;> (try split at h) <;> simp only [XR.ok.injEq, reduceCtorEq] at h <;> (obtain ⟨rfl, _⟩ := h; trivial)
 case un op x =>
  refine YR.Of.and (XR.toY0_of fun s v h => ?_) (z8 e x).1
  unfold xun at h
  split at h <;> (try split at h) <;> simp only [XR.ok.injEq, reduceCtorEq] at h <;> (obtain ⟨rfl, _⟩ := h; trivial)
 case conv k x =>
  cases k <;> simp only <;> try trivial
  ·split
   ·rename_i h; simp only [h]; exact ⟨_, rfl, (z8 e x).1⟩
   ·trivial
  ·split
   ·rename_i h; simp only [h]; exact ⟨_, rfl, (z8 e x).1⟩
   ·trivial
 case mkfn f a c => exact ⟨_, rfl, fun h => by rw [yy, wj, wj] at h; exact h⟩
 case slStr x lo hi => exact (XR.toY_of _).and (fun h => by rw [yy, yy, z8, vo, vo] at h; exact h)
 case slSl s x lo hi mx => exact (XR.toP_of _).and (fun h => by rw [yy, yy, yy, z8, vo, vo, vo] at h; exact h)
 case slAr k s x => exact (XR.toP_of _).and (z8 e x).1
 case faddr off x =>
  refine YR.Of.and (XR.toY0_of fun s v h => ?_) (z8 e x).1
  unfold Kp at h
  split at h <;> simp only [XR.ok.injEq, reduceCtorEq] at h <;> (obtain ⟨rfl, _⟩ := h; trivial)
 case field g n off x => exact (z6q _ _ _ _).and (z8 e x).1
 case iaddr s x i => exact (z6m _ _ _).and h2
 case iaddrA n s x i => exact (z35 _ _ _ _ _).and h2
 case iaddrR n s x i => exact (z2e _ _ _ _ _).and h2
 case idxS x i => exact (XR.toY_of _).and h2
 case idxA n s g x i => exact (z8m _ _ _ _ _ _).and h2
 case ext k x => exact (zc3 _ _).and (z8 e x).1
 case len st x =>
  cases st with
  | true =>
   refine YR.Of.and (XR.toY0_of fun s v h => ?_) (z8 e x).1
   unfold z5p at h
   split at h <;> simp only [XR.ok.injEq, reduceCtorEq] at h <;> (obtain ⟨rfl, _⟩ := h; trivial)
  | false =>
   refine YR.Of.and (XR.toY0_of fun s v h => ?_) (z8 e x).1
   unfold z3w at h
   split at h <;> simp only [XR.ok.injEq, reduceCtorEq] at h <;> (obtain ⟨rfl, _⟩ := h; trivial)
 case mnx m args =>
  refine YR.Of.and ?_ (wj e args).1
  unfold zdj z88
  split
  ·rename_i h; simp only [h]; exact z4o _ _ _
  ·trivial
end Go.Fx
