/-
  Own framework.
-/
import Derived.Test.YtkpgfihopaokgaaGreatDoorFxM2
namespace Go.Fx
set_option linter.unusedVariables false
def Xb : Option Prop → Prop → Prop
 | none, q => q
 | some p, q => p ∧ q
def uv : Option Prop → Option Prop → Option Prop
 | none, y => y
 | some a, none => some a
 | some a, some b => some (a ∧ b)
def jm : Option Prop → Prop
 | none => True
 | some p => p
theorem qo (s : Option Prop) (q : Prop) : Xb s q ↔ jm s ∧ q := by cases s <;> simp [Xb, jm]
theorem qj (a b : Option Prop) : jm (uv a b) ↔ jm a ∧ jm b := by cases a <;> cases b <;> simp [uv, jm]
def AVal.needY : AVal → Option Prop
 | .cnd p _ => some (p = true)
 | _ => none
theorem zan (x : AVal) : jm x.needY ↔ x.need := by cases x <;> simp [AVal.needY, AVal.need, jm]
def LOpd.needY (e : Env) : LOpd → Option Prop
 | .t i => (e.get i).needY
 | .c _ => none
theorem zf (e : Env) (x : LOpd) : jm (x.needY e) ↔ x.need e := by
 cases x with
 | t i => exact zan _
 | c v => simp [LOpd.needY, LOpd.need, jm]
def X6 (e : Env) : List LOpd → Option Prop
 | [] => none
 | x :: r => uv (x.needY e) (X6 e r)
theorem ko (e : Env) : ∀ l, jm (X6 e l) ↔ Zq e l
 | [] => by simp [X6, Zq, jm]
 | x :: r => by simp [X6, Zq, qj, zf, ko e r]
def K7 (e : Env) : Option LOpd → Option Prop
 | none => none
 | some x => x.needY e
theorem uk (e : Env) (x : Option LOpd) : jm (K7 e x) ↔ vw e x := by
 cases x with
 | none => simp [K7, vw, jm]
 | some x => exact zf e x
def z2j (e : Env) : List (Nat × Nat × LOpd) → Option Prop
 | [] => none
 | (_, _, x) :: r => uv (x.needY e) (z2j e r)
theorem Uq (e : Env) : ∀ l, jm (z2j e l) ↔ jb e l
 | [] => by simp [z2j, jb, jm]
 | (_, _, x) :: r => by simp [z2j, jb, qj, zf, Uq e r]
def Uw (e : Env) : List (Nat × LOpd) → Option Prop
 | [] => none
 | (_, x) :: r => uv (x.needY e) (Uw e r)
theorem J5 (e : Env) : ∀ l, jm (Uw e l) ↔ Jl e l
 | [] => by simp [Uw, Jl, jm]
 | (_, x) :: r => by simp [Uw, Jl, qj, zf, J5 e r]
def za2 : IntKind → IntKind → Bool
 | .i8, .i8 | .i16, .i16 | .i32, .i32 | .i64, .i64 | .u8, .u8 | .u16, .u16 | .u32, .u32 | .u64, .u64 => true
 | _, _ => false
theorem Uy {a b : IntKind} (h : za2 a b = true) : a = b := by cases a <;> cases b <;> first | rfl | cases h
inductive YR where
 | ok (side : Option Prop) (v : AVal)
 | row (es : List (List AVal)) (i : Nat) (side : Prop) (f : List AVal → AVal)
 | pick (v : AVal) (side : Prop)
 | fork (j : Int) (len : Nat) (side : Option Prop) (f : Nat → AVal)
 | bad
def zjg (j : Int) (f : Nat → AVal) (K : AVal → Prop) : Nat → Nat → Prop
 | 0, _ => True
 | k + 1, c => (j = (c : Int) → K (f c)) ∧ zjg j f K k (c + 1)
def YR.run (r : YR) (K : AVal → Prop) : Prop := match r with
 | .ok s v => Xb s (K v)
 | .row es i s f => ∃ r, es.getD i [] = r ∧ s ∧ K (f r)
 | .pick v0 s => ∃ v, v0 = v ∧ s ∧ K v
 | .fork j len s f => Xb s ((0 ≤ j ∧ j < (len : Int)) ∧ zjg j f K len 0)
 | .bad => False
def YR.runG (p : Bool) (r : YR) (K : AVal → Prop) : Prop := match r with
 | .ok none v => K (.cnd p v)
 | .ok (some s) v => (p = true → s) ∧ K (.cnd p v)
 | .row es i s f => ∃ r, (p = true → es.getD i [] = r ∧ s) ∧ K (.cnd p (f r))
 | .pick v0 s => ∃ v, (p = true → v0 = v ∧ s) ∧ K (.cnd p v)
 | _ => p = false ∧ K (.tup [])
def YR.and (s : Option Prop) : YR → YR
 | .ok t v => .ok (uv s t) v
 | .row es i t f => match s with
  | none => .row es i t f
  | some p => .row es i (p ∧ t) f
 | .pick v t => match s with
  | none => .pick v t
  | some p => .pick v (p ∧ t)
 | .fork j len t f => .fork j len (uv s t) f
 | .bad => .bad
def YR.Of (r : YR) (x : XR) : Prop := match r with
 | .ok s v => ∃ side, x = .ok side v ∧ (jm s → side)
 | .row es i s f => ∃ side, x = .ok side (f (es.getD i [])) ∧ (s → side)
 | .pick v s => ∃ side, x = .ok side v ∧ (s → side)
 | .fork j len s f => ∃ side v, x = .ok side v ∧ ∀ c : Nat, c < len → j = (c : Int) → jm s → side ∧ v = f c
 | .bad => True
theorem YR.Of.and {r : YR} {x : XR} {s : Option Prop} {p : Prop} (h : r.Of x) (hs : jm s → p) : (r.and s).Of (x.and p) := by
 cases r with
 | bad => trivial
 | ok t v =>
  obtain ⟨side, rfl, h1⟩ := h
  exact ⟨_, rfl, fun h => by rw [qj] at h; exact ⟨hs h.1, h1 h.2⟩⟩
 | row es i t f =>
  obtain ⟨side, rfl, h1⟩ := h
  cases s with
  | none => exact ⟨_, rfl, fun h => ⟨hs trivial, h1 h⟩⟩
  | some q => exact ⟨_, rfl, fun h => ⟨hs h.1, h1 h.2⟩⟩
 | pick v t =>
  obtain ⟨side, rfl, h1⟩ := h
  cases s with
  | none => exact ⟨_, rfl, fun h => ⟨hs trivial, h1 h⟩⟩
  | some q => exact ⟨_, rfl, fun h => ⟨hs h.1, h1 h.2⟩⟩
 | fork j len t f =>
  obtain ⟨side, v, rfl, h1⟩ := h
  exact ⟨_, v, rfl, fun c hc hj h => by
   rw [qj] at h
   obtain ⟨h2, h3⟩ := h1 c hc hj h.2
   exact ⟨⟨hs h.1, h2⟩, h3⟩⟩
theorem z1h {j : Int} {f : Nat → AVal} {K : AVal → Prop} : ∀ {k c0 : Nat}, zjg j f K k c0 → ∀ c, c0 ≤ c → c < c0 + k → j = (c : Int) → K (f c)
 | 0, c0, _, c, h1, h2, _ => by omega
 | k + 1, c0, h, c, h1, h2, h3 => by
  by_cases hc : c = c0
  ·subst hc; exact h.1 h3
  ·exact z1h h.2 c (by omega) (by omega) h3
theorem YR.Of.run {r : YR} {x : XR} (h : r.Of x) {K : AVal → Prop} (hk : r.run K) : ∃ side v, x = .ok side v ∧ side ∧ K v := by
 cases r with
 | bad => exact hk.elim
 | ok t v =>
  obtain ⟨side, rfl, h1⟩ := h
  rw [YR.run, qo] at hk
  exact ⟨_, _, rfl, h1 hk.1, hk.2⟩
 | row es i t f =>
  obtain ⟨side, rfl, h1⟩ := h
  obtain ⟨r, rfl, ht, hk⟩ := hk
  exact ⟨_, _, rfl, h1 ht, hk⟩
 | pick v t =>
  obtain ⟨side, rfl, h1⟩ := h
  obtain ⟨r, rfl, ht, hk⟩ := hk
  exact ⟨_, _, rfl, h1 ht, hk⟩
 | fork j len t f =>
  obtain ⟨side, v, rfl, h1⟩ := h
  rw [YR.run, qo] at hk
  obtain ⟨hs, ⟨h2, h3⟩, h4⟩ := hk
  obtain ⟨c, rfl⟩ := Int.eq_ofNat_of_zero_le h2
  obtain ⟨g1, rfl⟩ := h1 c (by omega) rfl hs
  exact ⟨_, _, rfl, g1, z1h h4 c (Nat.zero_le _) (by omega) rfl⟩
def zo9 (op : BinOp) : AVal → AVal → YR
 | .int k a, .int k' b => match op with
  | .shl => .ok (some (0 ≤ b)) (.int k (k.wrap (a * 2 ^ (min b.toNat k.bits))))
  | .shr => .ok (some (0 ≤ b)) (.int k (a.fdiv (2 ^ (min b.toNat k.bits))))
  | op => match za2 k k' with
   | false => .bad
   | true => match op with
    | .add => .ok none (.int k (k.wrap (a + b)))
    | .sub => .ok none (.int k (k.wrap (a - b)))
    | .mul => .ok none (.int k (k.wrap (a * b)))
    | .quo => .ok (some (b ≠ 0)) (.int k (k.wrap (a.tdiv b)))
    | .rem => .ok (some (b ≠ 0)) (.int k (a.tmod b))
    | .and => .ok none (.int k (Zl .and k a b))
    | .or => .ok none (.int k (Zl .or k a b))
    | .xor => .ok none (.int k (Zl .xor k a b))
    | .andNot => .ok none (.int k (Zl .andNot k a b))
    | .eql => .ok none (.bool (a == b))
    | .neq => .ok none (.bool (a != b))
    | .lss => .ok none (.bool (decide (a < b)))
    | .leq => .ok none (.bool (decide (a ≤ b)))
    | .gtr => .ok none (.bool (decide (a > b)))
    | .geq => .ok none (.bool (decide (a ≥ b)))
    | _ => .bad
 | .str a, .str b => match op with
  | .add => .ok (some (((a.length + b.length : Nat) : Int) ≤ 9223372036854775807)) (.str (a ++ b))
  | .eql => .ok none (.bool (a == b))
  | .neq => .ok none (.bool (!(a == b)))
  | .lss => .ok none (.bool (Op.bytesLess a b))
  | .leq => .ok none (.bool (Op.bytesLess a b || a == b))
  | .gtr => .ok none (.bool (!(Op.bytesLess a b || a == b)))
  | .geq => .ok none (.bool (!(Op.bytesLess a b)))
  | _ => .bad
 | _, _ => .bad
theorem zhx (op : BinOp) (x y : AVal) : (zo9 op x y).Of (zcv op x y) := by
 cases x <;> cases y <;> simp only [zo9, zcv] <;> try trivial
 case int.int k a k' b =>
  cases op <;> simp only <;> (try exact ⟨_, rfl, fun h => h⟩) <;> (cases hk : za2 k k' <;> simp only <;> (try trivial) <;> (have hk := Uy hk; subst hk)) <;>
   first | exact ⟨_, rfl, fun _ => rfl⟩ | exact ⟨_, rfl, fun h => ⟨rfl, h⟩⟩
 case str.str a b =>
  cases op <;> simp only <;> first | trivial | exact ⟨_, rfl, fun _ => trivial⟩ | exact ⟨_, rfl, fun h => h⟩
def XR.toY : XR → YR
 | .ok s v => .ok (some s) v
 | .bad => .bad
theorem XR.toY_of (x : XR) : x.toY.Of x := by
 cases x with
 | ok s v => exact ⟨s, rfl, fun h => h⟩
 | bad => trivial
def XR.toY0 : XR → YR
 | .ok _ v => .ok none v
 | .bad => .bad
theorem XR.toY0_of {x : XR} (h : ∀ s v, x = .ok s v → s) : x.toY0.Of x := by
 cases x with
 | ok s v => exact ⟨s, rfl, fun _ => h s v rfl⟩
 | bad => trivial
def zl5 : AVal → AVal → YR := fun a b => (ze3 a b).toY0
def z15 : AVal → AVal → YR
 | .val (.slice none 0 0), .isl _ es _ => .ok (some (es ≠ [])) (.bool false)
 | .isl _ es _, .val (.slice none 0 0) => .ok (some (es ≠ [])) (.bool false)
 | .val (.slice none 0 0), .msl _ _ _ len _ => .ok (some (len ≠ 0)) (.bool false)
 | .msl _ _ _ len _, .val (.slice none 0 0) => .ok (some (len ≠ 0)) (.bool false)
 | a, b => (Jn a b).toY0
theorem z4p (a b : AVal) : (z15 a b).Of (Jn a b) := by
 unfold z15
 split
 ·exact ⟨_, rfl, fun h => h⟩
 ·exact ⟨_, rfl, fun h => h⟩
 ·exact ⟨_, rfl, fun h => h⟩
 ·exact ⟨_, rfl, fun h => h⟩
 ·rename_i h1 h2 h3 h4
  refine XR.toY0_of fun s v h => ?_
  unfold Jn at h
  split at h <;> simp only [XR.ok.injEq, reduceCtorEq] at h <;> (try (obtain ⟨rfl, _⟩ := h; trivial))
  ·exact absurd rfl (h3 _ _ _ _ _ rfl)
  ·exact absurd rfl (h4 _ _ _ _ _ · rfl)
  ·exact absurd rfl (h1 _ _ _ rfl)
  ·exact absurd rfl (h2 _ _ _ · rfl)
def zm8 (k : EqK) (x y : AVal) : YR :=
 match k with
 | .bool => match x, y with
  | .bool a, .bool b => .ok none (.bool (a == b))
  | _, _ => .bad
 | .ptr => zl5 x y
 | .slice => z15 x.rd y.rd
 | .map => (Wk x y).toY0
 | .agg ks => (zbo ks x y).toY0
 | .ifc => (z1s x y).toY0
 | .fnc => (z1g x y).toY0
 | _ => .bad
def YR.neg : YR → YR
 | .ok s (.bool b) => .ok s (.bool (!b))
 | _ => .bad
def yeq (neg : Bool) (k : EqK) (x y : AVal) : YR := match neg with
 | true => (zm8 k x y).neg
 | false => zm8 k x y
theorem zi4 (k : EqK) (x y : AVal) : (zm8 k x y).Of (zb7 k x y) := by
 cases k <;> simp only [zm8, zb7] <;> try trivial
 case bool => cases x <;> cases y <;> first | trivial | exact ⟨_, rfl, fun _ => trivial⟩
 case ptr =>
  refine XR.toY0_of fun s v h => ?_
  unfold ze3 at h
  split at h <;> simp only [XR.ok.injEq, reduceCtorEq] at h <;> (obtain ⟨rfl, _⟩ := h; trivial)
 case slice => exact z4p _ _
 case map =>
  refine XR.toY0_of fun s v h => ?_
  unfold Wk at h
  split at h <;> simp only [XR.ok.injEq, reduceCtorEq] at h <;> (obtain ⟨rfl, _⟩ := h; trivial)
 case agg ks =>
  refine XR.toY0_of fun s v h => ?_
  unfold zbo at h
  split at h <;> (try split at h) <;> simp only [XR.ok.injEq, reduceCtorEq] at h <;> (obtain ⟨rfl, _⟩ := h; trivial)
 case ifc =>
  refine XR.toY0_of fun s v h => ?_
  unfold z1s at h
  split at h <;> simp only [XR.ok.injEq, reduceCtorEq] at h <;> (obtain ⟨rfl, _⟩ := h; trivial)
 case fnc =>
  refine XR.toY0_of fun s v h => ?_
  unfold z1g at h
  split at h <;> simp only [XR.ok.injEq, reduceCtorEq] at h <;> (obtain ⟨rfl, _⟩ := h; trivial)
theorem zlw (neg : Bool) (k : EqK) (x y : AVal) : (yeq neg k x y).Of (xeq neg k x y) := by
 have h := zi4 k x y
 cases neg with
 | false => simpa [yeq, xeq] using h
 | true =>
  simp only [yeq, xeq, if_true]
  cases hr : zm8 k x y with
  | ok s v =>
   rw [hr] at h
   obtain ⟨side, hx, hs⟩ := h
   cases v <;> simp only [YR.neg] <;> try trivial
   rw [hx]
   exact ⟨side, rfl, hs⟩
  | _ => simp only [YR.neg]; trivial
def zjf (agg : Bool) (n : Nat) (H : AHeap) : AVal → YR
 | .iptr s es i off => .row es i (i < es.length ∧ off + n ≤ s) (yh agg n off)
 | .ptr b i off => match H.get b with
  | some (.rows s es) => .row es i (i < es.length ∧ off + n ≤ s) (yh agg n off)
  | some (.one cs) => match i, Nat.ble (off + n) cs.length with
   | 0, true => .ok none (yh agg n off cs)
   | _, _ => .bad
  | _ => .bad
 | _ => .bad
theorem zek (g : Bool) (n : Nat) (H : AHeap) (x : AVal) : (zjf g n H x).Of (W7 g n H x) := by
 cases x <;> simp only [zjf, W7] <;> try trivial
 case iptr s es i off => exact ⟨_, rfl, fun h => h⟩
 case ptr b i off =>
  split
  ·rename_i hb
   rw [hb]
   exact ⟨_, rfl, fun h => h⟩
  ·rename_i hb
   rw [hb]
   split
   ·rename_i h
    exact ⟨_, rfl, fun _ => ⟨rfl, Nat.le_of_ble_eq_true h⟩⟩
   ·trivial
  ·trivial
def zbm (agg : Bool) (n off : Nat) : AVal → YR
 | .agg cs => match Nat.ble (off + n) cs.length with
  | true => .ok none (yh agg n off cs)
  | false => .bad
 | _ => .bad
theorem zct (g : Bool) (n off : Nat) (x : AVal) : (zbm g n off x).Of (Us g n off x) := by
 cases x <;> simp only [zbm, Us] <;> try trivial
 split
 ·rename_i h; exact ⟨_, rfl, fun _ => Nat.le_of_ble_eq_true h⟩
 ·trivial
def zd9 (s : Nat) : AVal → AVal → YR
 | .isl s' es _, .int _ j => match Nat.beq s s' with
  | true => .ok (some (0 ≤ j ∧ j < (es.length : Int))) (.iptr s' es j.toNat 0)
  | false => .bad
 | .msl b s' off len _, .int _ j => match Nat.beq s s' with
  | true => .ok (some (0 ≤ j ∧ j < (len : Int))) (.ptr b (off + j.toNat) 0)
  | false => .bad
 | _, _ => .bad
theorem zdm (s : Nat) (x y : AVal) : (zd9 s x y).Of (Vv s x y) := by
 cases x <;> cases y <;> simp only [zd9, Vv] <;> try trivial
 all_goals
  split
  ·rename_i h; exact ⟨_, rfl, fun hh => ⟨Nat.eq_of_beq_eq_true h, hh⟩⟩
  ·trivial
def z47 (len s : Nat) (H : AHeap) : AVal → AVal → YR
 | .ptr b i 0, .int _ j => match H.get b with
  | some (.rows s' _) => match Nat.beq s s' with
   | true => .ok (some (0 ≤ j ∧ j < (len : Int))) (.ptr b (i + j.toNat) 0)
   | false => .bad
  | _ => .bad
 | _, _ => .bad
theorem z8z (len s : Nat) (H : AHeap) (x y : AVal) : (z47 len s H x y).Of (Qs len s H x y) := by
 unfold z47 Qs
 split
 ·split
  ·rename_i hg
   split
   ·rename_i h
    simp only [hg]
    exact ⟨_, rfl, fun hh => ⟨Nat.eq_of_beq_eq_true h, hh⟩⟩
   ·trivial
  ·trivial
 ·trivial
def z57 (len s : Nat) (x : AVal) : LOpd → AVal → YR
 | .c (.int _ (.ofNat c)), _ => match Nat.ble (c + 1) len, x with
  | true, .iptr s' es i o => .ok none (.iptr s' es i (o + c * s))
  | true, .ptr b i o => .ok none (.ptr b i (o + c * s))
  | _, _ => .bad
 | _, .int _ j => match x with
  | .iptr s' es i o => .fork j len none (fun c => .iptr s' es i (o + c * s))
  | .ptr b i o => .fork j len none (fun c => .ptr b i (o + c * s))
  | _ => .bad
 | _, _ => .bad
theorem z8f (len s : Nat) (x : AVal) (e : Env) (i : LOpd) : (z57 len s x i (i.ev e)).Of (Kg len s x (i.ev e)) := by
 unfold z57
 split
 ·rename_i k c
  split
  ·rename_i h
   exact ⟨_, rfl, fun _ => ⟨Int.natCast_nonneg c, by have := Nat.le_of_ble_eq_true h; simp; omega⟩⟩
  ·rename_i h
   exact ⟨_, rfl, fun _ => ⟨Int.natCast_nonneg c, by have := Nat.le_of_ble_eq_true h; simp; omega⟩⟩
  ·trivial
 ·rename_i j _ heq
  rw [heq]
  split
  ·exact ⟨_, _, rfl, fun c hc hj _ => ⟨by omega, by subst hj; simp⟩⟩
  ·exact ⟨_, _, rfl, fun c hc hj _ => ⟨by omega, by subst hj; simp⟩⟩
  ·trivial
 ·trivial
def zhl (len s : Nat) (agg : Bool) (x : AVal) : LOpd → AVal → YR
 | .c (.int _ (.ofNat c)), _ => match x with
  | .agg cs => match Nat.ble (c + 1) len && Nat.ble (c * s + s) cs.length with
   | true => .ok none (yh agg s (c * s) cs)
   | false => .bad
  | _ => .bad
 | _, .int _ j => match x with
  | .agg cs => .pick (yh agg s (j.toNat * s) cs) (0 ≤ j ∧ j < (len : Int) ∧ (j.toNat * s) + s ≤ cs.length)
  | _ => .bad
 | _, _ => .bad
theorem zdy (len s : Nat) (g : Bool) (x : AVal) (e : Env) (i : LOpd) : (zhl len s g x i (i.ev e)).Of (z9w len s g x (i.ev e)) := by
 unfold zhl
 split
 ·split
  ·split
   ·rename_i h
    simp only [Bool.and_eq_true] at h
    have h1 := Nat.le_of_ble_eq_true h.1
    have h2 := Nat.le_of_ble_eq_true h.2
    rename_i c _ _ _ _
    exact ⟨_, rfl, fun _ => ⟨Int.natCast_nonneg _, by simp; omega, by simpa using h2⟩⟩
   ·trivial
  ·trivial
 ·rename_i j _ heq
  rw [heq]
  split
  ·exact ⟨_, rfl, fun h => h⟩
  ·trivial
 ·trivial
def zoo (k : Nat) : AVal → YR
 | .tup cs => match Nat.ble (k + 1) cs.length with
  | true => .ok none (cs.getD k .any)
  | false => .bad
 | _ => .bad
theorem zim (k : Nat) (x : AVal) : (zoo k x).Of (zk7 k x) := by
 cases x <;> simp only [zoo, zk7] <;> try trivial
 split
 ·rename_i h; exact ⟨_, rfl, fun _ => Nat.le_of_ble_eq_true h⟩
 ·trivial
def zj2 (c : Bool) : AVal → AVal → Option AVal
 | .bool a, .bool b => some (.bool (bif c then a else b))
 | .int k a, .int k' b => match za2 k k' with
  | true => some (.int k (bif c then a else b))
  | false => none
 | .str a, .str b => some (.str (bif c then a else b))
 | _, _ => none
theorem zez {c : Bool} {a b v : AVal} (h : zj2 c a b = some v) : zir c a b = v := by
 cases a <;> cases b <;> simp only [zj2] at h <;> try (cases h; done)
 ·simp only [Option.some.injEq] at h; subst h; cases c <;> rfl
 ·split at h <;> try (cases h; done)
  rename_i hk
  have hk := Uy hk
  subst hk
  simp only [Option.some.injEq] at h
  subst h; cases c <;> rfl
 ·simp only [Option.some.injEq] at h; subst h; cases c <;> rfl
def zg5 (c want : Bool) : Option Prop → Option Prop
 | none => none
 | some p => some (c = want → p)
theorem z33 (c want : Bool) (p : Option Prop) : jm (zg5 c want p) ↔ (c = want → jm p) := by cases p <;> simp [zg5, jm]
def z9b (c : Bool) (e : Env) : LOpd → LOpd → Option AVal
 | .c (.bool true), b => match b.ev e with
  | .bool y => some (.bool (c || y))
  | _ => none
 | a, .c (.bool false) => match a.ev e with
  | .bool x => some (.bool (c && x))
  | _ => none
 | a, b => zj2 c (a.ev e) (b.ev e)
theorem zdn {c : Bool} {e : Env} {a b : LOpd} {v : AVal} (h : z9b c e a b = some v) : zir c (a.ev e) (b.ev e) = v := by
 unfold z9b at h
 split at h
 ·split at h <;> try (cases h; done)
  rename_i y hy
  simp only [Option.some.injEq] at h
  subst h
  rw [hy]
  cases c <;> rfl
 ·split at h <;> try (cases h; done)
  rename_i x hx
  simp only [Option.some.injEq] at h
  subst h
  rw [hx]
  cases c <;> rfl
 ·exact zez h
def zh9 (e : Env) (na nb : Option Prop) (c : AVal) (a b : LOpd) : YR := match c with
 | .bool c => match z9b c e a b with
  | some v => .ok (uv (zg5 c true na) (zg5 c false nb)) v
  | none => .bad
 | _ => .bad
def z2q (cells : List AVal) : List (Nat × Nat × AVal) → YR
 | [] => .ok none (.agg cells)
 | (off, n, x) :: r => match x.cells? with
  | some cs => match Nat.beq cs.length n && Nat.ble (off + n) cells.length with
   | true => z2q (jg cells off cs) r
   | false => .bad
  | none => .bad
theorem z2z : ∀ (parts : List (Nat × Nat × AVal)) (cells : List AVal), (z2q cells parts).Of (uf cells parts)
 | [], cells => ⟨_, rfl, fun _ => trivial⟩
 | (off, n, x) :: r, cells => by
  simp only [z2q, uf]
  split
  ·rename_i cs hc
   simp only [hc]
   split
   ·rename_i h
    simp only [Bool.and_eq_true] at h
    have h1 := Nat.eq_of_beq_eq_true h.1
    have h2 := Nat.le_of_ble_eq_true h.2
    have ih := z2z r (jg cells off cs)
    cases hy : z2q (jg cells off cs) r with
    | ok s v =>
     rw [hy] at ih
     obtain ⟨side, hx, hs⟩ := ih
     rw [hx]
     exact ⟨_, rfl, fun h => ⟨h1, h2, hs h⟩⟩
    | bad => trivial
    | row es i s f =>
     rw [hy] at ih
     obtain ⟨side, hx, hs⟩ := ih
     rw [hx]
     exact ⟨_, rfl, fun h => ⟨h1, h2, hs h⟩⟩
    | pick v s =>
     rw [hy] at ih
     obtain ⟨side, hx, hs⟩ := ih
     rw [hx]
     exact ⟨_, rfl, fun h => ⟨h1, h2, hs h⟩⟩
    | fork j len s f =>
     rw [hy] at ih
     obtain ⟨side, v, hx, hs⟩ := ih
     rw [hx]
     exact ⟨_, _, rfl, fun c hc hj h => ⟨⟨h1, h2, (hs c hc hj h).1⟩, (hs c hc hj h).2⟩⟩
   ·trivial
  ·trivial
def zlp (lo hi : Nat → Option Int) : AVal → YR := fun x => (U0 lo hi x).toY
def XR.toP : XR → YR
 | .ok s v => .pick v s
 | .bad => .bad
theorem XR.toP_of (x : XR) : x.toP.Of x := by
 cases x with
 | ok s v => exact ⟨s, rfl, fun h => h⟩
 | bad => trivial
def zq3 (s : Nat) (lo hi : Nat → Option Int) (mx : Option (Option Int)) (keep : Bool) : AVal → YR := fun x => (zdd s lo hi mx keep x).toP
def zk2 (isMax : Bool) : AVal → List AVal → YR
 | v, [] => .ok none v
 | .int k a, .int k' b :: r => match za2 k k' with
  | true => zk2 isMax (.int k (if isMax then (if b > a then b else a) else (if b < a then b else a))) r
  | false => .bad
 | _, _ => .bad
theorem zci (m : Bool) : ∀ (l : List AVal) (v : AVal), (zk2 m v l).Of (zaf m v l)
 | [], v => by simp only [zk2, zaf]; exact ⟨_, rfl, fun _ => trivial⟩
 | y :: r, v => by
  cases v <;> cases y <;> try trivial
  rename_i k a k' b
  simp only [zk2, zaf]
  split
  ·rename_i hk
   have hk := Uy hk
   subst hk
   have ih := zci m r (.int k (if m then (if b > a then b else a) else (if b < a then b else a)))
   cases hy : zk2 m (.int k (if m then (if b > a then b else a) else (if b < a then b else a))) r with
   | ok s v =>
    rw [hy] at ih
    obtain ⟨side, hx, hs⟩ := ih
    rw [hx]
    exact ⟨_, rfl, fun h => ⟨rfl, hs h⟩⟩
   | bad => trivial
   | row es i s f =>
    rw [hy] at ih
    obtain ⟨side, hx, hs⟩ := ih
    rw [hx]
    exact ⟨_, rfl, fun h => ⟨rfl, hs h⟩⟩
   | pick v s =>
    rw [hy] at ih
    obtain ⟨side, hx, hs⟩ := ih
    rw [hx]
    exact ⟨_, rfl, fun h => ⟨rfl, hs h⟩⟩
   | fork j len s f =>
    rw [hy] at ih
    obtain ⟨side, v, hx, hs⟩ := ih
    rw [hx]
    exact ⟨_, _, rfl, fun c hc hj h => ⟨⟨rfl, (hs c hc hj h).1⟩, (hs c hc hj h).2⟩⟩
  ·trivial
def zm9 (isMax : Bool) : List AVal → YR
 | .int k a :: r => zk2 isMax (.int k a) r
 | _ => .bad
def zay (ks : List CK) (ka g ok : Bool) (zs : List AVal) (H : AHeap) (k : AVal) : AVal → YR
 | .val (.map none) => match Zn ks ka k with
  | true => .ok none (zh7 g ok zs none)
  | false => .bad
 | .map b => match H.get b with
  | some (.amap es) => match Zn ks ka k with
   | true => .pick (zh7 g ok zs ((Ko ks k es).getD none)) ((Ko ks k es).isSome = true)
   | false => .bad
  | _ => .bad
 | _ => .bad
theorem zdj (ks : List CK) (ka g ok : Bool) (zs : List AVal) (H : AHeap) (k x : AVal) : (zay ks ka g ok zs H k x).Of (W0 ks ka g ok zs H k x) := by
 unfold zay W0
 split
 ·split
  ·rename_i h; rw [if_pos h]; exact ⟨_, rfl, fun _ => trivial⟩
  ·trivial
 ·split
  ·rename_i hg
   split
   ·rename_i h; simp only [hg]; rw [if_pos h]; exact ⟨_, rfl, fun h => h⟩
   ·trivial
  ·trivial
 ·trivial
def Kn (e : Env) (H : AHeap) : LOp → YR
 | .mv x => .ok (x.needY e) (x.ev e)
 | .pick c a b => (zh9 e (a.needY e) (b.needY e) (c.ev e) a b).and (c.needY e)
 | .build zs parts => (z2q zs (jl e parts)).and (z2j e parts)
 | .load g n a => (zjf g n H (a.ev e)).and (a.needY e)
 | .nilck x => (Ue (x.ev e)).toY0.and (x.needY e)
 | .bin op x y => (zo9 op (x.ev e) (y.ev e)).and (uv (x.needY e) (y.needY e))
 | .eq neg k x y => (yeq neg k (x.ev e) (y.ev e)).and (uv (x.needY e) (y.needY e))
 | .un op x => (xun op (x.ev e)).toY0.and (x.needY e)
 | .conv (.int k) x => match x.ev e with
  | .int _ n => .ok (x.needY e) (.int k (k.wrap n))
  | _ => .bad
 | .conv .same x => match x.ev e with
  | .str l => .ok (x.needY e) (.str l)
  | _ => .bad
 | .mkfn f a c => .ok (uv (X6 e a) (X6 e c)) (.fn f (evs e a) (evs e c))
 | .slStr x lo hi => (zlp (fun d => qq e d lo) (fun d => qq e d hi) (x.ev e)).and (uv (x.needY e) (uv (K7 e lo) (K7 e hi)))
 | .slSl s x lo hi mx => (zq3 s (fun d => qq e d lo) (fun d => qq e d hi) (Ks e mx) (hi.isNone && mx.isNone) (x.ev e)).and (uv (x.needY e) (uv (K7 e lo) (uv (K7 e hi) (K7 e mx))))
 | .slAr n s x => (z8k n s H (x.ev e)).toP.and (x.needY e)
 | .faddr off x => (Ui off (x.ev e)).toY0.and (x.needY e)
 | .field g n off x => (zbm g n off (x.ev e)).and (x.needY e)
 | .iaddr s x i => (zd9 s (x.ev e).rd (i.ev e)).and (uv (x.needY e) (i.needY e))
 | .iaddrA n s x i => (z57 n s (x.ev e) i (i.ev e)).and (uv (x.needY e) (i.needY e))
 | .iaddrR n s x i => (z47 n s H (x.ev e) (i.ev e)).and (uv (x.needY e) (i.needY e))
 | .idxS x i => (za8 (x.ev e) (i.ev e)).toY.and (uv (x.needY e) (i.needY e))
 | .idxA n s g x i => (zhl n s g (x.ev e) i (i.ev e)).and (uv (x.needY e) (i.needY e))
 | .ext k x => (zoo k (x.ev e)).and (x.needY e)
 | .len true x => (z8v (x.ev e)).toY0.and (x.needY e)
 | .len false x => (z4q (x.ev e).rd).toY0.and (x.needY e)
 | .mnx m args => (zm9 m (evs e args)).and (X6 e args)
 | .mlook ks ka g ok zs x k => (zay ks ka g ok zs H (k.ev e) (x.ev e)).and (uv (x.needY e) (k.needY e))
 | .mlen x => (z4m H (x.ev e)).toY0.and (x.needY e)
 | _ => .bad
theorem ug (e : Env) (H : AHeap) (op : LOp) : (Kn e H op).Of (x8 e H op) := by
 have h2 : ∀ {x y : LOpd}, jm (uv (x.needY e) (y.needY e)) → x.need e ∧ y.need e := fun h => by rw [qj, zf, zf] at h; exact h
 cases op <;> simp only [Kn, x8] <;> try trivial
 case mv x => exact ⟨_, rfl, (zf e x).1⟩
 case pick c a b =>
  refine YR.Of.and ?_ (zf e c).1
  unfold zh9 zfm
  split
  ·rename_i cc hcc
   simp only [hcc]
   split
   ·rename_i v hv
    rw [zdn hv]
    refine ⟨_, rfl, fun h => ?_⟩
    rw [qj, z33, z33, zf, zf] at h
    exact h
   ·trivial
  ·trivial
 case build zs parts => exact (z2z _ _).and (Uq e parts).1
 case load g n a => exact (zek _ _ _ _).and (zf e a).1
 case nilck x =>
  refine YR.Of.and (XR.toY0_of fun s v h => ?_) (zf e x).1
  unfold Ue at h
  split at h <;> simp only [XR.ok.injEq, reduceCtorEq] at h <;> (obtain ⟨rfl, _⟩ := h; trivial)
 case bin op x y => exact (zhx _ _ _).and h2
 case eq neg k x y => exact (zlw _ _ _ _).and h2
 case mlook ks ka g ok zs x k => exact (zdj _ _ _ _ _ _ _ _).and h2
 case mlen x =>
  refine YR.Of.and (XR.toY0_of fun s v h => ?_) (zf e x).1
  unfold z4m at h
  split at h <;> (try split at h) <;> simp only [XR.ok.injEq, reduceCtorEq] at h <;> (obtain ⟨rfl, _⟩ := h; trivial)
 case un op x =>
  refine YR.Of.and (XR.toY0_of fun s v h => ?_) (zf e x).1
  unfold xun at h
  split at h <;> (try split at h) <;> simp only [XR.ok.injEq, reduceCtorEq] at h <;> (obtain ⟨rfl, _⟩ := h; trivial)
 case conv k x =>
  cases k <;> simp only <;> try trivial
  ·split
   ·rename_i h; simp only [h]; exact ⟨_, rfl, (zf e x).1⟩
   ·trivial
  ·split
   ·rename_i h; simp only [h]; exact ⟨_, rfl, (zf e x).1⟩
   ·trivial
 case mkfn f a c => exact ⟨_, rfl, fun h => by rw [qj, ko, ko] at h; exact h⟩
 case slStr x lo hi => exact (XR.toY_of _).and (fun h => by rw [qj, qj, zf, uk, uk] at h; exact h)
 case slSl s x lo hi mx => exact (XR.toP_of _).and (fun h => by rw [qj, qj, qj, zf, uk, uk, uk] at h; exact h)
 case slAr k s x => exact (XR.toP_of _).and (zf e x).1
 case faddr off x =>
  refine YR.Of.and (XR.toY0_of fun s v h => ?_) (zf e x).1
  unfold Ui at h
  split at h <;> simp only [XR.ok.injEq, reduceCtorEq] at h <;> (obtain ⟨rfl, _⟩ := h; trivial)
 case field g n off x => exact (zct _ _ _ _).and (zf e x).1
 case iaddr s x i => exact (zdm _ _ _).and h2
 case iaddrA n s x i => exact (z8f _ _ _ _ _).and h2
 case iaddrR n s x i => exact (z8z _ _ _ _ _).and h2
 case idxS x i => exact (XR.toY_of _).and h2
 case idxA n s g x i => exact (zdy _ _ _ _ _ _).and h2
 case ext k x => exact (zim _ _).and (zf e x).1
 case len st x =>
  cases st with
  | true =>
   refine YR.Of.and (XR.toY0_of fun s v h => ?_) (zf e x).1
   unfold z8v at h
   split at h <;> simp only [XR.ok.injEq, reduceCtorEq] at h <;> (obtain ⟨rfl, _⟩ := h; trivial)
  | false =>
   refine YR.Of.and (XR.toY0_of fun s v h => ?_) (zf e x).1
   unfold z4q at h
   split at h <;> simp only [XR.ok.injEq, reduceCtorEq] at h <;> (obtain ⟨rfl, _⟩ := h; trivial)
 case mnx m args =>
  refine YR.Of.and ?_ (ko e args).1
  unfold zm9 zat
  split
  ·rename_i h; simp only [h]; exact zci _ _ _
  ·trivial
end Go.Fx
