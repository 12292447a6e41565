/-
  Own framework.
-/
import Derived.Test.YtejfgjggcoemeaaFxM2
namespace Go.Fx
set_option linter.unusedVariables false
def Q6 : Option Prop → Prop → Prop
 | none, q => q
 | some p, q => p ∧ q
def kz : Option Prop → Option Prop → Option Prop
 | none, y => y
 | some a, none => some a
 | some a, some b => some (a ∧ b)
def xu : Option Prop → Prop
 | none => True
 | some p => p
theorem qh (s : Option Prop) (q : Prop) : Q6 s q ↔ xu s ∧ q := by cases s <;> simp [Q6, xu]
theorem qk (a b : Option Prop) : xu (kz a b) ↔ xu a ∧ xu b := by cases a <;> cases b <;> simp [kz, xu]
def AVal.needY : AVal → Option Prop
 | .cnd p _ => some (p = true)
 | _ => none
theorem z74 (x : AVal) : xu x.needY ↔ x.need := by cases x <;> simp [AVal.needY, AVal.need, xu]
def LOpd.needY (e : Env) : LOpd → Option Prop
 | .t i => (e.get i).needY
 | .c _ => none
theorem zc (e : Env) (x : LOpd) : xu (x.needY e) ↔ x.need e := by
 cases x with
 | t i => exact z74 _
 | c v => simp [LOpd.needY, LOpd.need, xu]
def Qf (e : Env) : List LOpd → Option Prop
 | [] => none
 | x :: r => kz (x.needY e) (Qf e r)
theorem vl (e : Env) : ∀ l, xu (Qf e l) ↔ Yw e l
 | [] => by simp [Qf, Yw, xu]
 | x :: r => by simp [Qf, Yw, qk, zc, vl e r]
def Jy (e : Env) : Option LOpd → Option Prop
 | none => none
 | some x => x.needY e
theorem u6 (e : Env) (x : Option LOpd) : xu (Jy e x) ↔ ut e x := by
 cases x with
 | none => simp [Jy, ut, xu]
 | some x => exact zc e x
def z0b (e : Env) : List (Nat × Nat × LOpd) → Option Prop
 | [] => none
 | (_, _, x) :: r => kz (x.needY e) (z0b e r)
theorem K8 (e : Env) : ∀ l, xu (z0b e l) ↔ xq e l
 | [] => by simp [z0b, xq, xu]
 | (_, _, x) :: r => by simp [z0b, xq, qk, zc, K8 e r]
def Vn (e : Env) : List (Nat × LOpd) → Option Prop
 | [] => none
 | (_, x) :: r => kz (x.needY e) (Vn e r)
theorem Xe (e : Env) : ∀ l, xu (Vn e l) ↔ Xx e l
 | [] => by simp [Vn, Xx, xu]
 | (_, x) :: r => by simp [Vn, Xx, qk, zc, Xe e r]
def z8d : IntKind → IntKind → Bool
 | .i8, .i8 | .i16, .i16 | .i32, .i32 | .i64, .i64 | .u8, .u8 | .u16, .u16 | .u32, .u32 | .u64, .u64 => true
 | _, _ => false
theorem Ul {a b : IntKind} (h : z8d a b = true) : a = b := by cases a <;> cases b <;> first | rfl | cases h
inductive YR where
 | ok (side : Option Prop) (v : AVal)
 | row (es : List (List AVal)) (i : Nat) (side : Prop) (f : List AVal → AVal)
 | pick (v : AVal) (side : Prop)
 | fork (j : Int) (len : Nat) (side : Option Prop) (f : Nat → AVal)
 | bad
def zfo (j : Int) (f : Nat → AVal) (K : AVal → Prop) : Nat → Nat → Prop
 | 0, _ => True
 | k + 1, c => (j = (c : Int) → K (f c)) ∧ zfo j f K k (c + 1)
def YR.run (r : YR) (K : AVal → Prop) : Prop := match r with
 | .ok s v => Q6 s (K v)
 | .row es i s f => ∃ r, es.getD i [] = r ∧ s ∧ K (f r)
 | .pick v0 s => ∃ v, v0 = v ∧ s ∧ K v
 | .fork j len s f => Q6 s ((0 ≤ j ∧ j < (len : Int)) ∧ zfo j f K len 0)
 | .bad => False
def YR.runG (p : Bool) (r : YR) (K : AVal → Prop) : Prop := match r with
 | .ok none v => K (.cnd p v)
 | .ok (some s) v => (p = true → s) ∧ K (.cnd p v)
 | .row es i s f => ∃ r, (p = true → es.getD i [] = r ∧ s) ∧ K (.cnd p (f r))
 | .pick v0 s => ∃ v, (p = true → v0 = v ∧ s) ∧ K (.cnd p v)
 | _ => p = false ∧ K (.tup [])
def YR.and (s : Option Prop) : YR → YR
 | .ok t v => .ok (kz s t) v
 | .row es i t f => match s with
  | none => .row es i t f
  | some p => .row es i (p ∧ t) f
 | .pick v t => match s with
  | none => .pick v t
  | some p => .pick v (p ∧ t)
 | .fork j len t f => .fork j len (kz s t) f
 | .bad => .bad
def YR.Of (r : YR) (x : XR) : Prop := match r with
 | .ok s v => ∃ side, x = .ok side v ∧ (xu s → side)
 | .row es i s f => ∃ side, x = .ok side (f (es.getD i [])) ∧ (s → side)
 | .pick v s => ∃ side, x = .ok side v ∧ (s → side)
 | .fork j len s f => ∃ side v, x = .ok side v ∧ ∀ c : Nat, c < len → j = (c : Int) → xu s → side ∧ v = f c
 | .bad => True
theorem YR.Of.and {r : YR} {x : XR} {s : Option Prop} {p : Prop} (h : r.Of x) (hs : xu s → p) : (r.and s).Of (x.and p) := by
 cases r with
 | bad => trivial
 | ok t v =>
  obtain ⟨side, rfl, h1⟩ := h
  exact ⟨_, rfl, fun h => by rw [qk] at h; exact ⟨hs h.1, h1 h.2⟩⟩
 | row es i t f =>
  obtain ⟨side, rfl, h1⟩ := h
  cases s with
  | none => exact ⟨_, rfl, fun h => ⟨hs trivial, h1 h⟩⟩
  | some q => exact ⟨_, rfl, fun h => ⟨hs h.1, h1 h.2⟩⟩
 | pick v t =>
  obtain ⟨side, rfl, h1⟩ := h
  cases s with
  | none => exact ⟨_, rfl, fun h => ⟨hs trivial, h1 h⟩⟩
  | some q => exact ⟨_, rfl, fun h => ⟨hs h.1, h1 h.2⟩⟩
 | fork j len t f =>
  obtain ⟨side, v, rfl, h1⟩ := h
  exact ⟨_, v, rfl, fun c hc hj h => by
   rw [qk] at h
   obtain ⟨h2, h3⟩ := h1 c hc hj h.2
   exact ⟨⟨hs h.1, h2⟩, h3⟩⟩
theorem z0t {j : Int} {f : Nat → AVal} {K : AVal → Prop} : ∀ {k c0 : Nat}, zfo j f K k c0 → ∀ c, c0 ≤ c → c < c0 + k → j = (c : Int) → K (f c)
 | 0, c0, _, c, h1, h2, _ => by omega
 | k + 1, c0, h, c, h1, h2, h3 => by
  by_cases hc : c = c0
  ·subst hc; exact h.1 h3
  ·exact z0t h.2 c (by omega) (by omega) h3
theorem YR.Of.run {r : YR} {x : XR} (h : r.Of x) {K : AVal → Prop} (hk : r.run K) : ∃ side v, x = .ok side v ∧ side ∧ K v := by
 cases r with
 | bad => exact hk.elim
 | ok t v =>
  obtain ⟨side, rfl, h1⟩ := h
  rw [YR.run, qh] at hk
  exact ⟨_, _, rfl, h1 hk.1, hk.2⟩
 | row es i t f =>
  obtain ⟨side, rfl, h1⟩ := h
  obtain ⟨r, rfl, ht, hk⟩ := hk
  exact ⟨_, _, rfl, h1 ht, hk⟩
 | pick v t =>
  obtain ⟨side, rfl, h1⟩ := h
  obtain ⟨r, rfl, ht, hk⟩ := hk
  exact ⟨_, _, rfl, h1 ht, hk⟩
 | fork j len t f =>
  obtain ⟨side, v, rfl, h1⟩ := h
  rw [YR.run, qh] at hk
  obtain ⟨hs, ⟨h2, h3⟩, h4⟩ := hk
  obtain ⟨c, rfl⟩ := Int.eq_ofNat_of_zero_le h2
  obtain ⟨g1, rfl⟩ := h1 c (by omega) rfl hs
  exact ⟨_, _, rfl, g1, z0t h4 c (Nat.zero_le _) (by omega) rfl⟩
def zj6 (op : BinOp) : AVal → AVal → YR
 | .int k a, .int k' b => match op with
  | .shl => .ok (some (0 ≤ b)) (.int k (k.wrap (a * 2 ^ (min b.toNat k.bits))))
  | .shr => .ok (some (0 ≤ b)) (.int k (a.fdiv (2 ^ (min b.toNat k.bits))))
  | op => match z8d k k' with
   | false => .bad
   | true => match op with
    | .add => .ok none (.int k (k.wrap (a + b)))
    | .sub => .ok none (.int k (k.wrap (a - b)))
    | .mul => .ok none (.int k (k.wrap (a * b)))
    | .quo => .ok (some (b ≠ 0)) (.int k (k.wrap (a.tdiv b)))
    | .rem => .ok (some (b ≠ 0)) (.int k (a.tmod b))
    | .and => .ok none (.int k (V9 .and k a b))
    | .or => .ok none (.int k (V9 .or k a b))
    | .xor => .ok none (.int k (V9 .xor k a b))
    | .andNot => .ok none (.int k (V9 .andNot k a b))
    | .eql => .ok none (.bool (a == b))
    | .neq => .ok none (.bool (a != b))
    | .lss => .ok none (.bool (decide (a < b)))
    | .leq => .ok none (.bool (decide (a ≤ b)))
    | .gtr => .ok none (.bool (decide (a > b)))
    | .geq => .ok none (.bool (decide (a ≥ b)))
    | _ => .bad
 | .str a, .str b => match op with
  | .add => .ok (some (((a.length + b.length : Nat) : Int) ≤ 9223372036854775807)) (.str (a ++ b))
  | .eql => .ok none (.bool (a == b))
  | .neq => .ok none (.bool (!(a == b)))
  | .lss => .ok none (.bool (Op.bytesLess a b))
  | .leq => .ok none (.bool (Op.bytesLess a b || a == b))
  | .gtr => .ok none (.bool (!(Op.bytesLess a b || a == b)))
  | .geq => .ok none (.bool (!(Op.bytesLess a b)))
  | _ => .bad
 | _, _ => .bad
theorem zf9 (op : BinOp) (x y : AVal) : (zj6 op x y).Of (zhm op x y) := by
 cases x <;> cases y <;> simp only [zj6, zhm] <;> try trivial
 case int.int k a k' b =>
  cases op <;> simp only <;> (try exact ⟨_, rfl, fun h => h⟩) <;> (cases hk : z8d k k' <;> simp only <;> (try trivial) <;> (have hk := Ul hk; subst hk)) <;>
   first | exact ⟨_, rfl, fun _ => rfl⟩ | exact ⟨_, rfl, fun h => ⟨rfl, h⟩⟩
 case str.str a b =>
  cases op <;> simp only <;> first | trivial | exact ⟨_, rfl, fun _ => trivial⟩ | exact ⟨_, rfl, fun h => h⟩
def XR.toY : XR → YR
 | .ok s v => .ok (some s) v
 | .bad => .bad
theorem XR.toY_of (x : XR) : x.toY.Of x := by
 cases x with
 | ok s v => exact ⟨s, rfl, fun h => h⟩
 | bad => trivial
def XR.toY0 : XR → YR
 | .ok _ v => .ok none v
 | .bad => .bad
theorem XR.toY0_of {x : XR} (h : ∀ s v, x = .ok s v → s) : x.toY0.Of x := by
 cases x with
 | ok s v => exact ⟨s, rfl, fun _ => h s v rfl⟩
 | bad => trivial
def zht : AVal → AVal → YR := fun a b => (zbu a b).toY0
def Up : AVal → AVal → YR
 | .val (.slice none 0 0), .isl _ es _ => .ok (some (es ≠ [])) (.bool false)
 | .isl _ es _, .val (.slice none 0 0) => .ok (some (es ≠ [])) (.bool false)
 | .val (.slice none 0 0), .msl _ _ _ len _ => .ok (some (len ≠ 0)) (.bool false)
 | .msl _ _ _ len _, .val (.slice none 0 0) => .ok (some (len ≠ 0)) (.bool false)
 | a, b => (W3 a b).toY0
theorem z3p (a b : AVal) : (Up a b).Of (W3 a b) := by
 unfold Up
 split
 ·exact ⟨_, rfl, fun h => h⟩
 ·exact ⟨_, rfl, fun h => h⟩
 ·exact ⟨_, rfl, fun h => h⟩
 ·exact ⟨_, rfl, fun h => h⟩
 ·rename_i h1 h2 h3 h4
  refine XR.toY0_of fun s v h => ?_
  unfold W3 at h
  split at h <;> simp only [XR.ok.injEq, reduceCtorEq] at h <;> (try (obtain ⟨rfl, _⟩ := h; trivial))
  ·exact absurd rfl (h3 _ _ _ _ _ rfl)
  ·exact absurd rfl (h4 _ _ _ _ _ · rfl)
  ·exact absurd rfl (h1 _ _ _ rfl)
  ·exact absurd rfl (h2 _ _ _ · rfl)
def zgy (k : EqK) (x y : AVal) : YR :=
 match k with
 | .bool => match x, y with
  | .bool a, .bool b => .ok none (.bool (a == b))
  | _, _ => .bad
 | .ptr => zht x y
 | .slice => Up x.rd y.rd
 | .map => (Xz x y).toY0
 | .agg ks => (zcs ks x y).toY0
 | .ifc => (z1w x y).toY0
 | .fnc => (z1i x y).toY0
 | _ => .bad
def YR.neg : YR → YR
 | .ok s (.bool b) => .ok s (.bool (!b))
 | _ => .bad
def yeq (neg : Bool) (k : EqK) (x y : AVal) : YR := match neg with
 | true => (zgy k x y).neg
 | false => zgy k x y
theorem zfg (k : EqK) (x y : AVal) : (zgy k x y).Of (zcc k x y) := by
 cases k <;> simp only [zgy, zcc] <;> try trivial
 case bool => cases x <;> cases y <;> first | trivial | exact ⟨_, rfl, fun _ => trivial⟩
 case ptr =>
  refine XR.toY0_of fun s v h => ?_
  unfold zbu at h
  split at h <;> simp only [XR.ok.injEq, reduceCtorEq] at h <;> (obtain ⟨rfl, _⟩ := h; trivial)
 case slice => exact z3p _ _
 case map =>
  refine XR.toY0_of fun s v h => ?_
  unfold Xz at h
  split at h <;> simp only [XR.ok.injEq, reduceCtorEq] at h <;> (obtain ⟨rfl, _⟩ := h; trivial)
 case agg ks =>
  refine XR.toY0_of fun s v h => ?_
  unfold zcs at h
  split at h <;> (try split at h) <;> simp only [XR.ok.injEq, reduceCtorEq] at h <;> (obtain ⟨rfl, _⟩ := h; trivial)
 case ifc =>
  refine XR.toY0_of fun s v h => ?_
  unfold z1w at h
  split at h <;> simp only [XR.ok.injEq, reduceCtorEq] at h <;> (obtain ⟨rfl, _⟩ := h; trivial)
 case fnc =>
  refine XR.toY0_of fun s v h => ?_
  unfold z1i at h
  split at h <;> simp only [XR.ok.injEq, reduceCtorEq] at h <;> (obtain ⟨rfl, _⟩ := h; trivial)
theorem zgo (neg : Bool) (k : EqK) (x y : AVal) : (yeq neg k x y).Of (xeq neg k x y) := by
 have h := zfg k x y
 cases neg with
 | false => simpa [yeq, xeq] using h
 | true =>
  simp only [yeq, xeq, if_true]
  cases hr : zgy k x y with
  | ok s v =>
   rw [hr] at h
   obtain ⟨side, hx, hs⟩ := h
   cases v <;> simp only [YR.neg] <;> try trivial
   rw [hx]
   exact ⟨side, rfl, hs⟩
  | _ => simp only [YR.neg]; trivial
def zg9 (agg : Bool) (n : Nat) (H : AHeap) : AVal → YR
 | .iptr s es i off => .row es i (i < es.length ∧ off + n ≤ s) (qe agg n off)
 | .ptr b i off => match H.get b with
  | some (.rows s es) => .row es i (i < es.length ∧ off + n ≤ s) (qe agg n off)
  | some (.one cs) => match i, Nat.ble (off + n) cs.length with
   | 0, true => .ok none (qe agg n off cs)
   | _, _ => .bad
  | _ => .bad
 | _ => .bad
theorem zbb (g : Bool) (n : Nat) (H : AHeap) (x : AVal) : (zg9 g n H x).Of (z2i g n H x) := by
 cases x <;> simp only [zg9, z2i] <;> try trivial
 case iptr s es i off => exact ⟨_, rfl, fun h => h⟩
 case ptr b i off =>
  split
  ·rename_i hb
   rw [hb]
   exact ⟨_, rfl, fun h => h⟩
  ·rename_i hb
   rw [hb]
   split
   ·rename_i h
    exact ⟨_, rfl, fun _ => ⟨rfl, Nat.le_of_ble_eq_true h⟩⟩
   ·trivial
  ·trivial
def z9x (agg : Bool) (n off : Nat) : AVal → YR
 | .agg cs => match Nat.ble (off + n) cs.length with
  | true => .ok none (qe agg n off cs)
  | false => .bad
 | _ => .bad
theorem z79 (g : Bool) (n off : Nat) (x : AVal) : (z9x g n off x).Of (z0p g n off x) := by
 cases x <;> simp only [z9x, z0p] <;> try trivial
 split
 ·rename_i h; exact ⟨_, rfl, fun _ => Nat.le_of_ble_eq_true h⟩
 ·trivial
def z98 (s : Nat) : AVal → AVal → YR
 | .isl s' es _, .int _ j => match Nat.beq s s' with
  | true => .ok (some (0 ≤ j ∧ j < (es.length : Int))) (.iptr s' es j.toNat 0)
  | false => .bad
 | .msl b s' off len _, .int _ j => match Nat.beq s s' with
  | true => .ok (some (0 ≤ j ∧ j < (len : Int))) (.ptr b (off + j.toNat) 0)
  | false => .bad
 | _, _ => .bad
theorem zai (s : Nat) (x y : AVal) : (z98 s x y).Of (z1l s x y) := by
 cases x <;> cases y <;> simp only [z98, z1l] <;> try trivial
 all_goals
  split
  ·rename_i h; exact ⟨_, rfl, fun hh => ⟨Nat.eq_of_beq_eq_true h, hh⟩⟩
  ·trivial
def z2t (len s : Nat) (H : AHeap) : AVal → AVal → YR
 | .ptr b i 0, .int _ j => match H.get b with
  | some (.rows s' _) => match Nat.beq s s' with
   | true => .ok (some (0 ≤ j ∧ j < (len : Int))) (.ptr b (i + j.toNat) 0)
   | false => .bad
  | _ => .bad
 | _, _ => .bad
theorem z60 (len s : Nat) (H : AHeap) (x y : AVal) : (z2t len s H x y).Of (Jw len s H x y) := by
 unfold z2t Jw
 split
 ·split
  ·rename_i hg
   split
   ·rename_i h
    simp only [hg]
    exact ⟨_, rfl, fun hh => ⟨Nat.eq_of_beq_eq_true h, hh⟩⟩
   ·trivial
  ·trivial
 ·trivial
def z2c (len s : Nat) (x : AVal) : LOpd → AVal → YR
 | .c (.int _ (.ofNat c)), _ => match Nat.ble (c + 1) len, x with
  | true, .iptr s' es i o => .ok none (.iptr s' es i (o + c * s))
  | true, .ptr b i o => .ok none (.ptr b i (o + c * s))
  | _, _ => .bad
 | _, .int _ j => match x with
  | .iptr s' es i o => .fork j len none (fun c => .iptr s' es i (o + c * s))
  | .ptr b i o => .fork j len none (fun c => .ptr b i (o + c * s))
  | _ => .bad
 | _, _ => .bad
theorem z6g (len s : Nat) (x : AVal) (e : Env) (i : LOpd) : (z2c len s x i (i.ev e)).Of (U1 len s x (i.ev e)) := by
 unfold z2c
 split
 ·rename_i k c
  split
  ·rename_i h
   exact ⟨_, rfl, fun _ => ⟨Int.natCast_nonneg c, by have := Nat.le_of_ble_eq_true h; simp; omega⟩⟩
  ·rename_i h
   exact ⟨_, rfl, fun _ => ⟨Int.natCast_nonneg c, by have := Nat.le_of_ble_eq_true h; simp; omega⟩⟩
  ·trivial
 ·rename_i j _ heq
  rw [heq]
  split
  ·exact ⟨_, _, rfl, fun c hc hj _ => ⟨by omega, by subst hj; simp⟩⟩
  ·exact ⟨_, _, rfl, fun c hc hj _ => ⟨by omega, by subst hj; simp⟩⟩
  ·trivial
 ·trivial
def zg6 (len s : Nat) (agg : Bool) (x : AVal) : LOpd → AVal → YR
 | .c (.int _ (.ofNat c)), _ => match x with
  | .agg cs => match Nat.ble (c + 1) len && Nat.ble (c * s + s) cs.length with
   | true => .ok none (qe agg s (c * s) cs)
   | false => .bad
  | _ => .bad
 | _, .int _ j => match x with
  | .agg cs => .pick (qe agg s (j.toNat * s) cs) (0 ≤ j ∧ j < (len : Int) ∧ (j.toNat * s) + s ≤ cs.length)
  | _ => .bad
 | _, _ => .bad
theorem zcv (len s : Nat) (g : Bool) (x : AVal) (e : Env) (i : LOpd) : (zg6 len s g x i (i.ev e)).Of (zc6 len s g x (i.ev e)) := by
 unfold zg6
 split
 ·split
  ·split
   ·rename_i h
    simp only [Bool.and_eq_true] at h
    have h1 := Nat.le_of_ble_eq_true h.1
    have h2 := Nat.le_of_ble_eq_true h.2
    rename_i c _ _ _ _
    exact ⟨_, rfl, fun _ => ⟨Int.natCast_nonneg _, by simp; omega, by simpa using h2⟩⟩
   ·trivial
  ·trivial
 ·rename_i j _ heq
  rw [heq]
  split
  ·exact ⟨_, rfl, fun h => h⟩
  ·trivial
 ·trivial
def zj3 (k : Nat) : AVal → YR
 | .tup cs => match Nat.ble (k + 1) cs.length with
  | true => .ok none (cs.getD k .any)
  | false => .bad
 | _ => .bad
theorem zeq (k : Nat) (x : AVal) : (zj3 k x).Of (zgk k x) := by
 cases x <;> simp only [zj3, zgk] <;> try trivial
 split
 ·rename_i h; exact ⟨_, rfl, fun _ => Nat.le_of_ble_eq_true h⟩
 ·trivial
def zex (c : Bool) : AVal → AVal → Option AVal
 | .bool a, .bool b => some (.bool (bif c then a else b))
 | .int k a, .int k' b => match z8d k k' with
  | true => some (.int k (bif c then a else b))
  | false => none
 | .str a, .str b => some (.str (bif c then a else b))
 | _, _ => none
theorem zby {c : Bool} {a b v : AVal} (h : zex c a b = some v) : zg5 c a b = v := by
 cases a <;> cases b <;> simp only [zex] at h <;> try (cases h; done)
 ·simp only [Option.some.injEq] at h; subst h; cases c <;> rfl
 ·split at h <;> try (cases h; done)
  rename_i hk
  have hk := Ul hk
  subst hk
  simp only [Option.some.injEq] at h
  subst h; cases c <;> rfl
 ·simp only [Option.some.injEq] at h; subst h; cases c <;> rfl
def zd0 (c want : Bool) : Option Prop → Option Prop
 | none => none
 | some p => some (c = want → p)
theorem z06 (c want : Bool) (p : Option Prop) : xu (zd0 c want p) ↔ (c = want → xu p) := by cases p <;> simp [zd0, xu]
def z72 (c : Bool) (e : Env) : LOpd → LOpd → Option AVal
 | .c (.bool true), b => match b.ev e with
  | .bool y => some (.bool (c || y))
  | _ => none
 | a, .c (.bool false) => match a.ev e with
  | .bool x => some (.bool (c && x))
  | _ => none
 | a, b => zex c (a.ev e) (b.ev e)
theorem z7o {c : Bool} {e : Env} {a b : LOpd} {v : AVal} (h : z72 c e a b = some v) : zg5 c (a.ev e) (b.ev e) = v := by
 unfold z72 at h
 split at h
 ·split at h <;> try (cases h; done)
  rename_i y hy
  simp only [Option.some.injEq] at h
  subst h
  rw [hy]
  cases c <;> rfl
 ·split at h <;> try (cases h; done)
  rename_i x hx
  simp only [Option.some.injEq] at h
  subst h
  rw [hx]
  cases c <;> rfl
 ·exact zby h
def ze2 (e : Env) (na nb : Option Prop) (c : AVal) (a b : LOpd) : YR := match c with
 | .bool c => match z72 c e a b with
  | some v => .ok (kz (zd0 c true na) (zd0 c false nb)) v
  | none => .bad
 | _ => .bad
def z0w (cells : List AVal) : List (Nat × Nat × AVal) → YR
 | [] => .ok none (.agg cells)
 | (off, n, x) :: r => match x.cells? with
  | some cs => match Nat.beq cs.length n && Nat.ble (off + n) cells.length with
   | true => z0w (xx cells off cs) r
   | false => .bad
  | none => .bad
theorem z17 : ∀ (parts : List (Nat × Nat × AVal)) (cells : List AVal), (z0w cells parts).Of (Z5 cells parts)
 | [], cells => ⟨_, rfl, fun _ => trivial⟩
 | (off, n, x) :: r, cells => by
  simp only [z0w, Z5]
  split
  ·rename_i cs hc
   simp only [hc]
   split
   ·rename_i h
    simp only [Bool.and_eq_true] at h
    have h1 := Nat.eq_of_beq_eq_true h.1
    have h2 := Nat.le_of_ble_eq_true h.2
    have ih := z17 r (xx cells off cs)
    cases hy : z0w (xx cells off cs) r with
    | ok s v =>
     rw [hy] at ih
     obtain ⟨side, hx, hs⟩ := ih
     rw [hx]
     exact ⟨_, rfl, fun h => ⟨h1, h2, hs h⟩⟩
    | bad => trivial
    | row es i s f =>
     rw [hy] at ih
     obtain ⟨side, hx, hs⟩ := ih
     rw [hx]
     exact ⟨_, rfl, fun h => ⟨h1, h2, hs h⟩⟩
    | pick v s =>
     rw [hy] at ih
     obtain ⟨side, hx, hs⟩ := ih
     rw [hx]
     exact ⟨_, rfl, fun h => ⟨h1, h2, hs h⟩⟩
    | fork j len s f =>
     rw [hy] at ih
     obtain ⟨side, v, hx, hs⟩ := ih
     rw [hx]
     exact ⟨_, _, rfl, fun c hc hj h => ⟨⟨h1, h2, (hs c hc hj h).1⟩, (hs c hc hj h).2⟩⟩
   ·trivial
  ·trivial
def zhl (lo hi : Nat → Option Int) : AVal → YR := fun x => (z5a lo hi x).toY
def XR.toP : XR → YR
 | .ok s v => .pick v s
 | .bad => .bad
theorem XR.toP_of (x : XR) : x.toP.Of x := by
 cases x with
 | ok s v => exact ⟨s, rfl, fun h => h⟩
 | bad => trivial
def zkh (s : Nat) (lo hi : Nat → Option Int) (mx : Option (Option Int)) (keep : Bool) : AVal → YR := fun x => (zh0 s lo hi mx keep x).toP
def zgh (isMax : Bool) : AVal → List AVal → YR
 | v, [] => .ok none v
 | .int k a, .int k' b :: r => match z8d k k' with
  | true => zgh isMax (.int k (if isMax then (if b > a then b else a) else (if b < a then b else a))) r
  | false => .bad
 | _, _ => .bad
theorem z9j (m : Bool) : ∀ (l : List AVal) (v : AVal), (zgh m v l).Of (zd4 m v l)
 | [], v => by simp only [zgh, zd4]; exact ⟨_, rfl, fun _ => trivial⟩
 | y :: r, v => by
  cases v <;> cases y <;> try trivial
  rename_i k a k' b
  simp only [zgh, zd4]
  split
  ·rename_i hk
   have hk := Ul hk
   subst hk
   have ih := z9j m r (.int k (if m then (if b > a then b else a) else (if b < a then b else a)))
   cases hy : zgh m (.int k (if m then (if b > a then b else a) else (if b < a then b else a))) r with
   | ok s v =>
    rw [hy] at ih
    obtain ⟨side, hx, hs⟩ := ih
    rw [hx]
    exact ⟨_, rfl, fun h => ⟨rfl, hs h⟩⟩
   | bad => trivial
   | row es i s f =>
    rw [hy] at ih
    obtain ⟨side, hx, hs⟩ := ih
    rw [hx]
    exact ⟨_, rfl, fun h => ⟨rfl, hs h⟩⟩
   | pick v s =>
    rw [hy] at ih
    obtain ⟨side, hx, hs⟩ := ih
    rw [hx]
    exact ⟨_, rfl, fun h => ⟨rfl, hs h⟩⟩
   | fork j len s f =>
    rw [hy] at ih
    obtain ⟨side, v, hx, hs⟩ := ih
    rw [hx]
    exact ⟨_, _, rfl, fun c hc hj h => ⟨⟨rfl, (hs c hc hj h).1⟩, (hs c hc hj h).2⟩⟩
  ·trivial
def zi0 (isMax : Bool) : List AVal → YR
 | .int k a :: r => zgh isMax (.int k a) r
 | _ => .bad
def zam (ks : List CK) (ka g ok : Bool) (zs : List AVal) (H : AHeap) (k : AVal) : AVal → YR
 | .val (.map none) => match Yr ks ka k with
  | true => .ok none (zb6 g ok zs none)
  | false => .bad
 | .map b => match H.get b with
  | some (.amap es) => match Yr ks ka k with
   | true => .pick (zb6 g ok zs ((u7 ks k es).getD none)) ((u7 ks k es).isSome = true)
   | false => .bad
  | _ => .bad
 | _ => .bad
theorem z9z (ks : List CK) (ka g ok : Bool) (zs : List AVal) (H : AHeap) (k x : AVal) : (zam ks ka g ok zs H k x).Of (z1h ks ka g ok zs H k x) := by
 unfold zam z1h
 split
 ·split
  ·rename_i h; rw [if_pos h]; exact ⟨_, rfl, fun _ => trivial⟩
  ·trivial
 ·split
  ·rename_i hg
   split
   ·rename_i h; simp only [hg]; rw [if_pos h]; exact ⟨_, rfl, fun h => h⟩
   ·trivial
  ·trivial
 ·trivial
def Vf (e : Env) (H : AHeap) : LOp → YR
 | .mv x => .ok (x.needY e) (x.ev e)
 | .pick c a b => (ze2 e (a.needY e) (b.needY e) (c.ev e) a b).and (c.needY e)
 | .build zs parts => (z0w zs (jb e parts)).and (z0b e parts)
 | .load g n a => (zg9 g n H (a.ev e)).and (a.needY e)
 | .nilck x => (z12 (x.ev e)).toY0.and (x.needY e)
 | .bin op x y => (zj6 op (x.ev e) (y.ev e)).and (kz (x.needY e) (y.needY e))
 | .eq neg k x y => (yeq neg k (x.ev e) (y.ev e)).and (kz (x.needY e) (y.needY e))
 | .un op x => (xun op (x.ev e)).toY0.and (x.needY e)
 | .conv (.int k) x => match x.ev e with
  | .int _ n => .ok (x.needY e) (.int k (k.wrap n))
  | _ => .bad
 | .conv .same x => match x.ev e with
  | .str l => .ok (x.needY e) (.str l)
  | _ => .bad
 | .mkfn f a c => .ok (kz (Qf e a) (Qf e c)) (.fn f (evs e a) (evs e c))
 | .slStr x lo hi => (zhl (fun d => qy e d lo) (fun d => qy e d hi) (x.ev e)).and (kz (x.needY e) (kz (Jy e lo) (Jy e hi)))
 | .slSl s x lo hi mx => (zkh s (fun d => qy e d lo) (fun d => qy e d hi) (z34 e mx) (hi.isNone && mx.isNone) (x.ev e)).and (kz (x.needY e) (kz (Jy e lo) (kz (Jy e hi) (Jy e mx))))
 | .slAr n s x => (zc4 n s H (x.ev e)).toP.and (x.needY e)
 | .faddr off x => (z0z off (x.ev e)).toY0.and (x.needY e)
 | .field g n off x => (z9x g n off (x.ev e)).and (x.needY e)
 | .iaddr s x i => (z98 s (x.ev e).rd (i.ev e)).and (kz (x.needY e) (i.needY e))
 | .iaddrA n s x i => (z2c n s (x.ev e) i (i.ev e)).and (kz (x.needY e) (i.needY e))
 | .iaddrR n s x i => (z2t n s H (x.ev e) (i.ev e)).and (kz (x.needY e) (i.needY e))
 | .idxS x i => (zcn (x.ev e) (i.ev e)).toY.and (kz (x.needY e) (i.needY e))
 | .idxA n s g x i => (zg6 n s g (x.ev e) i (i.ev e)).and (kz (x.needY e) (i.needY e))
 | .ext k x => (zj3 k (x.ev e)).and (x.needY e)
 | .len true x => (zaf (x.ev e)).toY0.and (x.needY e)
 | .len false x => (z7q (x.ev e).rd).toY0.and (x.needY e)
 | .mnx m args => (zi0 m (evs e args)).and (Qf e args)
 | .mlook ks ka g ok zs x k => (zam ks ka g ok zs H (k.ev e) (x.ev e)).and (kz (x.needY e) (k.needY e))
 | .mlen x => (za6 H (x.ev e)).toY0.and (x.needY e)
 | _ => .bad
theorem ki (e : Env) (H : AHeap) (op : LOp) : (Vf e H op).Of (xb e H op) := by
 have h2 : ∀ {x y : LOpd}, xu (kz (x.needY e) (y.needY e)) → x.need e ∧ y.need e := fun h => by rw [qk, zc, zc] at h; exact h
 cases op <;> simp only [Vf, xb] <;> try trivial
 case mv x => exact ⟨_, rfl, (zc e x).1⟩
 case pick c a b =>
  refine YR.Of.and ?_ (zc e c).1
  unfold ze2 zbm
  split
  ·rename_i cc hcc
   simp only [hcc]
   split
   ·rename_i v hv
    rw [z7o hv]
    refine ⟨_, rfl, fun h => ?_⟩
    rw [qk, z06, z06, zc, zc] at h
    exact h
   ·trivial
  ·trivial
 case build zs parts => exact (z17 _ _).and (K8 e parts).1
 case load g n a => exact (zbb _ _ _ _).and (zc e a).1
 case nilck x =>
  refine YR.Of.and (XR.toY0_of fun s v h => ?_) (zc e x).1
  unfold z12 at h
  split at h <;> simp only [XR.ok.injEq, reduceCtorEq] at h <;> (obtain ⟨rfl, _⟩ := h; trivial)
 case bin op x y => exact (zf9 _ _ _).and h2
 case eq neg k x y => exact (zgo _ _ _ _).and h2
 case mlook ks ka g ok zs x k => exact (z9z _ _ _ _ _ _ _ _).and h2
 case mlen x =>
  refine YR.Of.and (XR.toY0_of fun s v h => ?_) (zc e x).1
  unfold za6 at h
  split at h <;> (try split at h) <;> simp only [XR.ok.injEq, reduceCtorEq] at h <;> (obtain ⟨rfl, _⟩ := h; trivial)
 case un op x =>
  refine YR.Of.and (XR.toY0_of fun s v h => ?_) (zc e x).1
  unfold xun at h
  split at h <;> (try split at h) <;> simp only [XR.ok.injEq, reduceCtorEq] at h <;> (obtain ⟨rfl, _⟩ := h; trivial)
 case conv k x =>
  cases k <;> simp only <;> try trivial
  ·split
   ·rename_i h; simp only [h]; exact ⟨_, rfl, (zc e x).1⟩
   ·trivial
  ·split
   ·rename_i h; simp only [h]; exact ⟨_, rfl, (zc e x).1⟩
   ·trivial
 case mkfn f a c => exact ⟨_, rfl, fun h => by rw [qk, vl, vl] at h; exact h⟩
 case slStr x lo hi => exact (XR.toY_of _).and (fun h => by rw [qk, qk, zc, u6, u6] at h; exact h)
 case slSl s x lo hi mx => exact (XR.toP_of _).and (fun h => by rw [qk, qk, qk, zc, u6, u6, u6] at h; exact h)
 case slAr k s x => exact (XR.toP_of _).and (zc e x).1
 case faddr off x =>
  refine YR.Of.and (XR.toY0_of fun s v h => ?_) (zc e x).1
  unfold z0z at h
  split at h <;> simp only [XR.ok.injEq, reduceCtorEq] at h <;> (obtain ⟨rfl, _⟩ := h; trivial)
 case field g n off x => exact (z79 _ _ _ _).and (zc e x).1
 case iaddr s x i => exact (zai _ _ _).and h2
 case iaddrA n s x i => exact (z6g _ _ _ _ _).and h2
 case iaddrR n s x i => exact (z60 _ _ _ _ _).and h2
 case idxS x i => exact (XR.toY_of _).and h2
 case idxA n s g x i => exact (zcv _ _ _ _ _ _).and h2
 case ext k x => exact (zeq _ _).and (zc e x).1
 case len st x =>
  cases st with
  | true =>
   refine YR.Of.and (XR.toY0_of fun s v h => ?_) (zc e x).1
   unfold zaf at h
   split at h <;> simp only [XR.ok.injEq, reduceCtorEq] at h <;> (obtain ⟨rfl, _⟩ := h; trivial)
  | false =>
   refine YR.Of.and (XR.toY0_of fun s v h => ?_) (zc e x).1
   unfold z7q at h
   split at h <;> simp only [XR.ok.injEq, reduceCtorEq] at h <;> (obtain ⟨rfl, _⟩ := h; trivial)
 case mnx m args =>
  refine YR.Of.and ?_ (vl e args).1
  unfold zi0 zdc
  split
  ·rename_i h; simp only [h]; exact z9j _ _ _
  ·trivial
end Go.Fx
