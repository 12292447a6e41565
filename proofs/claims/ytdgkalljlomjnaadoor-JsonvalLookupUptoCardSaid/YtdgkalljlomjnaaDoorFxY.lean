/-
  Own framework.
-/
import Derived.Test.YtdgkalljlomjnaaDoorFxM2
namespace Go.Fx
set_option linter.unusedVariables false
def W2 : Option Prop → Prop → Prop
 | none, q => q
 | some p, q => p ∧ q
def Yi : Option Prop → Option Prop → Option Prop
 | none, y => y
 | some a, none => some a
 | some a, some b => some (a ∧ b)
def wz : Option Prop → Prop
 | none => True
 | some p => p
theorem xr (s : Option Prop) (q : Prop) : W2 s q ↔ wz s ∧ q := by cases s <;> simp [W2, wz]
theorem xp (a b : Option Prop) : wz (Yi a b) ↔ wz a ∧ wz b := by cases a <;> cases b <;> simp [Yi, wz]
def AVal.needY : AVal → Option Prop
 | .cnd p _ => some (p = true)
 | _ => none
theorem zki (x : AVal) : wz x.needY ↔ x.need := by cases x <;> simp [AVal.needY, AVal.need, wz]
def LOpd.needY (e : Env) : LOpd → Option Prop
 | .t i => (e.get i).needY
 | .c _ => none
theorem zm (e : Env) (x : LOpd) : wz (x.needY e) ↔ x.need e := by
 cases x with
 | t i => exact zki _
 | c v => simp [LOpd.needY, LOpd.need, wz]
def We (e : Env) : List LOpd → Option Prop
 | [] => none
 | x :: r => Yi (x.needY e) (We e r)
theorem Zg (e : Env) : ∀ l, wz (We e l) ↔ Xz e l
 | [] => by simp [We, Xz, wz]
 | x :: r => by simp [We, Xz, xp, zm, Zg e r]
def z0m (e : Env) : Option LOpd → Option Prop
 | none => none
 | some x => x.needY e
theorem Yw (e : Env) (x : Option LOpd) : wz (z0m e x) ↔ Z7 e x := by
 cases x with
 | none => simp [z0m, Z7, wz]
 | some x => exact zm e x
def z6m (e : Env) : List (Nat × Nat × LOpd) → Option Prop
 | [] => none
 | (_, _, x) :: r => Yi (x.needY e) (z6m e r)
theorem z1i (e : Env) : ∀ l, wz (z6m e l) ↔ w9 e l
 | [] => by simp [z6m, w9, wz]
 | (_, _, x) :: r => by simp [z6m, w9, xp, zm, z1i e r]
def z2c (e : Env) : List (Nat × LOpd) → Option Prop
 | [] => none
 | (_, x) :: r => Yi (x.needY e) (z2c e r)
theorem Vc (e : Env) : ∀ l, wz (z2c e l) ↔ Va e l
 | [] => by simp [z2c, Va, wz]
 | (_, x) :: r => by simp [z2c, Va, xp, zm, Vc e r]
def zhm : IntKind → IntKind → Bool
 | .i8, .i8 | .i16, .i16 | .i32, .i32 | .i64, .i64 | .u8, .u8 | .u16, .u16 | .u32, .u32 | .u64, .u64 => true
 | _, _ => false
theorem z2x {a b : IntKind} (h : zhm a b = true) : a = b := by cases a <;> cases b <;> first | rfl | cases h
inductive YR where
 | ok (side : Option Prop) (v : AVal)
 | row (es : List (List AVal)) (i : Nat) (side : Prop) (f : List AVal → AVal)
 | pick (v : AVal) (side : Prop)
 | fork (j : Int) (len : Nat) (side : Option Prop) (f : Nat → AVal)
 | bad
def zqa (j : Int) (f : Nat → AVal) (K : AVal → Prop) : Nat → Nat → Prop
 | 0, _ => True
 | k + 1, c => (j = (c : Int) → K (f c)) ∧ zqa j f K k (c + 1)
def YR.run (r : YR) (K : AVal → Prop) : Prop := match r with
 | .ok s v => W2 s (K v)
 | .row es i s f => ∃ r, es.getD i [] = r ∧ s ∧ K (f r)
 | .pick v0 s => ∃ v, v0 = v ∧ s ∧ K v
 | .fork j len s f => W2 s ((0 ≤ j ∧ j < (len : Int)) ∧ zqa j f K len 0)
 | .bad => False
def YR.runG (p : Bool) (r : YR) (K : AVal → Prop) : Prop := match r with
 | .ok none v => K (.cnd p v)
 | .ok (some s) v => (p = true → s) ∧ K (.cnd p v)
 | .row es i s f => ∃ r, (p = true → es.getD i [] = r ∧ s) ∧ K (.cnd p (f r))
 | .pick v0 s => ∃ v, (p = true → v0 = v ∧ s) ∧ K (.cnd p v)
 | _ => p = false ∧ K (.tup [])
def YR.and (s : Option Prop) : YR → YR
 | .ok t v => .ok (Yi s t) v
 | .row es i t f => match s with
  | none => .row es i t f
  | some p => .row es i (p ∧ t) f
 | .pick v t => match s with
  | none => .pick v t
  | some p => .pick v (p ∧ t)
 | .fork j len t f => .fork j len (Yi s t) f
 | .bad => .bad
def YR.Of (r : YR) (x : XR) : Prop := match r with
 | .ok s v => ∃ side, x = .ok side v ∧ (wz s → side)
 | .row es i s f => ∃ side, x = .ok side (f (es.getD i [])) ∧ (s → side)
 | .pick v s => ∃ side, x = .ok side v ∧ (s → side)
 | .fork j len s f => ∃ side v, x = .ok side v ∧ ∀ c : Nat, c < len → j = (c : Int) → wz s → side ∧ v = f c
 | .bad => True
theorem YR.Of.and {r : YR} {x : XR} {s : Option Prop} {p : Prop} (h : r.Of x) (hs : wz s → p) : (r.and s).Of (x.and p) := by
 cases r with
 | bad => trivial
 | ok t v =>
  obtain ⟨side, rfl, h1⟩ := h
  exact ⟨_, rfl, fun h => by rw [xp] at h; exact ⟨hs h.1, h1 h.2⟩⟩
 | row es i t f =>
  obtain ⟨side, rfl, h1⟩ := h
  cases s with
  | none => exact ⟨_, rfl, fun h => ⟨hs trivial, h1 h⟩⟩
  | some q => exact ⟨_, rfl, fun h => ⟨hs h.1, h1 h.2⟩⟩
 | pick v t =>
  obtain ⟨side, rfl, h1⟩ := h
  cases s with
  | none => exact ⟨_, rfl, fun h => ⟨hs trivial, h1 h⟩⟩
  | some q => exact ⟨_, rfl, fun h => ⟨hs h.1, h1 h.2⟩⟩
 | fork j len t f =>
  obtain ⟨side, v, rfl, h1⟩ := h
  exact ⟨_, v, rfl, fun c hc hj h => by
   rw [xp] at h
   obtain ⟨h2, h3⟩ := h1 c hc hj h.2
   exact ⟨⟨hs h.1, h2⟩, h3⟩⟩
theorem z7p {j : Int} {f : Nat → AVal} {K : AVal → Prop} : ∀ {k c0 : Nat}, zqa j f K k c0 → ∀ c, c0 ≤ c → c < c0 + k → j = (c : Int) → K (f c)
 | 0, c0, _, c, h1, h2, _ => by omega
 | k + 1, c0, h, c, h1, h2, h3 => by
  by_cases hc : c = c0
  ·subst hc; exact h.1 h3
  ·exact z7p h.2 c (by omega) (by omega) h3
theorem YR.Of.run {r : YR} {x : XR} (h : r.Of x) {K : AVal → Prop} (hk : r.run K) : ∃ side v, x = .ok side v ∧ side ∧ K v := by
 cases r with
 | bad => exact hk.elim
 | ok t v =>
  obtain ⟨side, rfl, h1⟩ := h
  rw [YR.run, xr] at hk
  exact ⟨_, _, rfl, h1 hk.1, hk.2⟩
 | row es i t f =>
  obtain ⟨side, rfl, h1⟩ := h
  obtain ⟨r, rfl, ht, hk⟩ := hk
  exact ⟨_, _, rfl, h1 ht, hk⟩
 | pick v t =>
  obtain ⟨side, rfl, h1⟩ := h
  obtain ⟨r, rfl, ht, hk⟩ := hk
  exact ⟨_, _, rfl, h1 ht, hk⟩
 | fork j len t f =>
  obtain ⟨side, v, rfl, h1⟩ := h
  rw [YR.run, xr] at hk
  obtain ⟨hs, ⟨h2, h3⟩, h4⟩ := hk
  obtain ⟨c, rfl⟩ := Int.eq_ofNat_of_zero_le h2
  obtain ⟨g1, rfl⟩ := h1 c (by omega) rfl hs
  exact ⟨_, _, rfl, g1, z7p h4 c (Nat.zero_le _) (by omega) rfl⟩
def zut (op : BinOp) : AVal → AVal → YR
 | .int k a, .int k' b => match op with
  | .shl => .ok (some (0 ≤ b)) (.int k (k.wrap (a * 2 ^ (min b.toNat k.bits))))
  | .shr => .ok (some (0 ≤ b)) (.int k (a.fdiv (2 ^ (min b.toNat k.bits))))
  | op => match zhm k k' with
   | false => .bad
   | true => match op with
    | .add => .ok none (.int k (k.wrap (a + b)))
    | .sub => .ok none (.int k (k.wrap (a - b)))
    | .mul => .ok none (.int k (k.wrap (a * b)))
    | .quo => .ok (some (b ≠ 0)) (.int k (k.wrap (a.tdiv b)))
    | .rem => .ok (some (b ≠ 0)) (.int k (a.tmod b))
    | .and => .ok none (.int k (Jk .and k a b))
    | .or => .ok none (.int k (Jk .or k a b))
    | .xor => .ok none (.int k (Jk .xor k a b))
    | .andNot => .ok none (.int k (Jk .andNot k a b))
    | .eql => .ok none (.bool (a == b))
    | .neq => .ok none (.bool (a != b))
    | .lss => .ok none (.bool (decide (a < b)))
    | .leq => .ok none (.bool (decide (a ≤ b)))
    | .gtr => .ok none (.bool (decide (a > b)))
    | .geq => .ok none (.bool (decide (a ≥ b)))
    | _ => .bad
 | .str a, .str b => match op with
  | .add => .ok (some (((a.length + b.length : Nat) : Int) ≤ 9223372036854775807)) (.str (a ++ b))
  | .eql => .ok none (.bool (a == b))
  | .neq => .ok none (.bool (!(a == b)))
  | .lss => .ok none (.bool (Op.bytesLess a b))
  | .leq => .ok none (.bool (Op.bytesLess a b || a == b))
  | .gtr => .ok none (.bool (!(Op.bytesLess a b || a == b)))
  | .geq => .ok none (.bool (!(Op.bytesLess a b)))
  | _ => .bad
 | _, _ => .bad
theorem zqd (op : BinOp) (x y : AVal) : (zut op x y).Of (zo4 op x y) := by
 cases x <;> cases y <;> simp only [zut, zo4] <;> try trivial
 case int.int k a k' b =>
  cases op <;> simp only <;> (try exact ⟨_, rfl, fun h => h⟩) <;> (cases hk : zhm k k' <;> simp only <;> (try trivial) <;> (have hk := z2x hk; subst hk)) <;>
   first | exact ⟨_, rfl, fun _ => rfl⟩ | exact ⟨_, rfl, fun h => ⟨rfl, h⟩⟩
 case str.str a b =>
  cases op <;> simp only <;> first | trivial | exact ⟨_, rfl, fun _ => trivial⟩ | exact ⟨_, rfl, fun h => h⟩
def XR.toY : XR → YR
 | .ok s v => .ok (some s) v
 | .bad => .bad
theorem XR.toY_of (x : XR) : x.toY.Of x := by
 cases x with
 | ok s v => exact ⟨s, rfl, fun h => h⟩
 | bad => trivial
def XR.toY0 : XR → YR
 | .ok _ v => .ok none v
 | .bad => .bad
theorem XR.toY0_of {x : XR} (h : ∀ s v, x = .ok s v → s) : x.toY0.Of x := by
 cases x with
 | ok s v => exact ⟨s, rfl, fun _ => h s v rfl⟩
 | bad => trivial
def zt2 : AVal → AVal → YR := fun a b => (zls a b).toY0
def z3m : AVal → AVal → YR
 | .val (.slice none 0 0), .isl _ es _ => .ok (some (es ≠ [])) (.bool false)
 | .isl _ es _, .val (.slice none 0 0) => .ok (some (es ≠ [])) (.bool false)
 | .val (.slice none 0 0), .msl _ _ _ len _ => .ok (some (len ≠ 0)) (.bool false)
 | .msl _ _ _ len _, .val (.slice none 0 0) => .ok (some (len ≠ 0)) (.bool false)
 | a, b => (V7 a b).toY0
theorem z9p (a b : AVal) : (z3m a b).Of (V7 a b) := by
 unfold z3m
 split
 ·exact ⟨_, rfl, fun h => h⟩
 ·exact ⟨_, rfl, fun h => h⟩
 ·exact ⟨_, rfl, fun h => h⟩
 ·exact ⟨_, rfl, fun h => h⟩
 ·rename_i h1 h2 h3 h4
  refine XR.toY0_of fun s v h => ?_
  unfold V7 at h
  split at h <;> simp only [XR.ok.injEq, reduceCtorEq] at h <;> (try (obtain ⟨rfl, _⟩ := h; trivial))
  ·exact absurd rfl (h3 _ _ _ _ _ rfl)
  ·exact absurd rfl (h4 _ _ _ _ _ · rfl)
  ·exact absurd rfl (h1 _ _ _ rfl)
  ·exact absurd rfl (h2 _ _ _ · rfl)
def zsc (k : EqK) (x y : AVal) : YR :=
 match k with
 | .bool => match x, y with
  | .bool a, .bool b => .ok none (.bool (a == b))
  | _, _ => .bad
 | .ptr => zt2 x y
 | .slice => z3m x.rd y.rd
 | .map => (Km x y).toY0
 | .agg ks => (zex ks x y).toY0
 | .ifc => (z5a x y).toY0
 | .fnc => (z6o x y).toY0
 | _ => .bad
def YR.neg : YR → YR
 | .ok s (.bool b) => .ok s (.bool (!b))
 | _ => .bad
def yeq (neg : Bool) (k : EqK) (x y : AVal) : YR := match neg with
 | true => (zsc k x y).neg
 | false => zsc k x y
theorem zoo (k : EqK) (x y : AVal) : (zsc k x y).Of (zfo k x y) := by
 cases k <;> simp only [zsc, zfo] <;> try trivial
 case bool => cases x <;> cases y <;> first | trivial | exact ⟨_, rfl, fun _ => trivial⟩
 case ptr =>
  refine XR.toY0_of fun s v h => ?_
  unfold zls at h
  split at h <;> simp only [XR.ok.injEq, reduceCtorEq] at h <;> (obtain ⟨rfl, _⟩ := h; trivial)
 case slice => exact z9p _ _
 case map =>
  refine XR.toY0_of fun s v h => ?_
  unfold Km at h
  split at h <;> simp only [XR.ok.injEq, reduceCtorEq] at h <;> (obtain ⟨rfl, _⟩ := h; trivial)
 case agg ks =>
  refine XR.toY0_of fun s v h => ?_
  unfold zex at h
  split at h <;> (try split at h) <;> simp only [XR.ok.injEq, reduceCtorEq] at h <;> (obtain ⟨rfl, _⟩ := h; trivial)
 case ifc =>
  refine XR.toY0_of fun s v h => ?_
  unfold z5a at h
  split at h <;> simp only [XR.ok.injEq, reduceCtorEq] at h <;> (obtain ⟨rfl, _⟩ := h; trivial)
 case fnc =>
  refine XR.toY0_of fun s v h => ?_
  unfold z6o at h
  split at h <;> simp only [XR.ok.injEq, reduceCtorEq] at h <;> (obtain ⟨rfl, _⟩ := h; trivial)
theorem zs5 (neg : Bool) (k : EqK) (x y : AVal) : (yeq neg k x y).Of (xeq neg k x y) := by
 have h := zoo k x y
 cases neg with
 | false => simpa [yeq, xeq] using h
 | true =>
  simp only [yeq, xeq, if_true]
  cases hr : zsc k x y with
  | ok s v =>
   rw [hr] at h
   obtain ⟨side, hx, hs⟩ := h
   cases v <;> simp only [YR.neg] <;> try trivial
   rw [hx]
   exact ⟨side, rfl, hs⟩
  | _ => simp only [YR.neg]; trivial
def zqj (agg : Bool) (n : Nat) (H : AHeap) : AVal → YR
 | .iptr s es i off => .row es i (i < es.length ∧ off + n ≤ s) (qv agg n off)
 | .ptr b i off => match H.get b with
  | some (.rows s es) => .row es i (i < es.length ∧ off + n ≤ s) (qv agg n off)
  | some (.one cs) => match i, Nat.ble (off + n) cs.length with
   | 0, true => .ok none (qv agg n off cs)
   | _, _ => .bad
  | _ => .bad
 | _ => .bad
theorem zl7 (g : Bool) (n : Nat) (H : AHeap) (x : AVal) : (zqj g n H x).Of (z3i g n H x) := by
 cases x <;> simp only [zqj, z3i] <;> try trivial
 case iptr s es i off => exact ⟨_, rfl, fun h => h⟩
 case ptr b i off =>
  split
  ·rename_i hb
   rw [hb]
   exact ⟨_, rfl, fun h => h⟩
  ·rename_i hb
   rw [hb]
   split
   ·rename_i h
    exact ⟨_, rfl, fun _ => ⟨rfl, Nat.le_of_ble_eq_true h⟩⟩
   ·trivial
  ·trivial
def zgg (agg : Bool) (n off : Nat) : AVal → YR
 | .agg cs => match Nat.ble (off + n) cs.length with
  | true => .ok none (qv agg n off cs)
  | false => .bad
 | _ => .bad
theorem zh3 (g : Bool) (n off : Nat) (x : AVal) : (zgg g n off x).Of (z2r g n off x) := by
 cases x <;> simp only [zgg, z2r] <;> try trivial
 split
 ·rename_i h; exact ⟨_, rfl, fun _ => Nat.le_of_ble_eq_true h⟩
 ·trivial
def zfw (s : Nat) : AVal → AVal → YR
 | .isl s' es _, .int _ j => match Nat.beq s s' with
  | true => .ok (some (0 ≤ j ∧ j < (es.length : Int))) (.iptr s' es j.toNat 0)
  | false => .bad
 | .msl b s' off len _, .int _ j => match Nat.beq s s' with
  | true => .ok (some (0 ≤ j ∧ j < (len : Int))) (.ptr b (off + j.toNat) 0)
  | false => .bad
 | _, _ => .bad
theorem zgn (s : Nat) (x y : AVal) : (zfw s x y).Of (z1x s x y) := by
 cases x <;> cases y <;> simp only [zfw, z1x] <;> try trivial
 all_goals
  split
  ·rename_i h; exact ⟨_, rfl, fun hh => ⟨Nat.eq_of_beq_eq_true h, hh⟩⟩
  ·trivial
def z8o (len s : Nat) (H : AHeap) : AVal → AVal → YR
 | .ptr b i 0, .int _ j => match H.get b with
  | some (.rows s' _) => match Nat.beq s s' with
   | true => .ok (some (0 ≤ j ∧ j < (len : Int))) (.ptr b (i + j.toNat) 0)
   | false => .bad
  | _ => .bad
 | _, _ => .bad
theorem zct (len s : Nat) (H : AHeap) (x y : AVal) : (z8o len s H x y).Of (Jb len s H x y) := by
 unfold z8o Jb
 split
 ·split
  ·rename_i hg
   split
   ·rename_i h
    simp only [hg]
    exact ⟨_, rfl, fun hh => ⟨Nat.eq_of_beq_eq_true h, hh⟩⟩
   ·trivial
  ·trivial
 ·trivial
def za8 (len s : Nat) (x : AVal) : LOpd → AVal → YR
 | .c (.int _ (.ofNat c)), _ => match Nat.ble (c + 1) len, x with
  | true, .iptr s' es i o => .ok none (.iptr s' es i (o + c * s))
  | true, .ptr b i o => .ok none (.ptr b i (o + c * s))
  | _, _ => .bad
 | _, .int _ j => match x with
  | .iptr s' es i o => .fork j len none (fun c => .iptr s' es i (o + c * s))
  | .ptr b i o => .fork j len none (fun c => .ptr b i (o + c * s))
  | _ => .bad
 | _, _ => .bad
theorem zee (len s : Nat) (x : AVal) (e : Env) (i : LOpd) : (za8 len s x i (i.ev e)).Of (z08 len s x (i.ev e)) := by
 unfold za8
 split
 ·rename_i k c
  split
  ·rename_i h
   exact ⟨_, rfl, fun _ => ⟨Int.natCast_nonneg c, by have := Nat.le_of_ble_eq_true h; simp; omega⟩⟩
  ·rename_i h
   exact ⟨_, rfl, fun _ => ⟨Int.natCast_nonneg c, by have := Nat.le_of_ble_eq_true h; simp; omega⟩⟩
  ·trivial
 ·rename_i j _ heq
  rw [heq]
  split
  ·exact ⟨_, _, rfl, fun c hc hj _ => ⟨by omega, by subst hj; simp⟩⟩
  ·exact ⟨_, _, rfl, fun c hc hj _ => ⟨by omega, by subst hj; simp⟩⟩
  ·trivial
 ·trivial
def zq5 (len s : Nat) (agg : Bool) (x : AVal) : LOpd → AVal → YR
 | .c (.int _ (.ofNat c)), _ => match x with
  | .agg cs => match Nat.ble (c + 1) len && Nat.ble (c * s + s) cs.length with
   | true => .ok none (qv agg s (c * s) cs)
   | false => .bad
  | _ => .bad
 | _, .int _ j => match x with
  | .agg cs => .pick (qv agg s (j.toNat * s) cs) (0 ≤ j ∧ j < (len : Int) ∧ (j.toNat * s) + s ≤ cs.length)
  | _ => .bad
 | _, _ => .bad
theorem zlg (len s : Nat) (g : Bool) (x : AVal) (e : Env) (i : LOpd) : (zq5 len s g x i (i.ev e)).Of (zhb len s g x (i.ev e)) := by
 unfold zq5
 split
 ·split
  ·split
   ·rename_i h
    simp only [Bool.and_eq_true] at h
    have h1 := Nat.le_of_ble_eq_true h.1
    have h2 := Nat.le_of_ble_eq_true h.2
    rename_i c _ _ _ _
    exact ⟨_, rfl, fun _ => ⟨Int.natCast_nonneg _, by simp; omega, by simpa using h2⟩⟩
   ·trivial
  ·trivial
 ·rename_i j _ heq
  rw [heq]
  split
  ·exact ⟨_, rfl, fun h => h⟩
  ·trivial
 ·trivial
def zul (k : Nat) : AVal → YR
 | .tup cs => match Nat.ble (k + 1) cs.length with
  | true => .ok none (cs.getD k .any)
  | false => .bad
 | _ => .bad
theorem zoy (k : Nat) (x : AVal) : (zul k x).Of (zre k x) := by
 cases x <;> simp only [zul, zre] <;> try trivial
 split
 ·rename_i h; exact ⟨_, rfl, fun _ => Nat.le_of_ble_eq_true h⟩
 ·trivial
def zpf (c : Bool) : AVal → AVal → Option AVal
 | .bool a, .bool b => some (.bool (bif c then a else b))
 | .int k a, .int k' b => match zhm k k' with
  | true => some (.int k (bif c then a else b))
  | false => none
 | .str a, .str b => some (.str (bif c then a else b))
 | _, _ => none
theorem zmu {c : Bool} {a b v : AVal} (h : zpf c a b = some v) : zpt c a b = v := by
 cases a <;> cases b <;> simp only [zpf] at h <;> try (cases h; done)
 ·simp only [Option.some.injEq] at h; subst h; cases c <;> rfl
 ·split at h <;> try (cases h; done)
  rename_i hk
  have hk := z2x hk
  subst hk
  simp only [Option.some.injEq] at h
  subst h; cases c <;> rfl
 ·simp only [Option.some.injEq] at h; subst h; cases c <;> rfl
def zm3 (c want : Bool) : Option Prop → Option Prop
 | none => none
 | some p => some (c = want → p)
theorem z59 (c want : Bool) (p : Option Prop) : wz (zm3 c want p) ↔ (c = want → wz p) := by cases p <;> simp [zm3, wz]
def zkh (c : Bool) (e : Env) : LOpd → LOpd → Option AVal
 | .c (.bool true), b => match b.ev e with
  | .bool y => some (.bool (c || y))
  | _ => none
 | a, .c (.bool false) => match a.ev e with
  | .bool x => some (.bool (c && x))
  | _ => none
 | a, b => zpf c (a.ev e) (b.ev e)
theorem zkl {c : Bool} {e : Env} {a b : LOpd} {v : AVal} (h : zkh c e a b = some v) : zpt c (a.ev e) (b.ev e) = v := by
 unfold zkh at h
 split at h
 ·split at h <;> try (cases h; done)
  rename_i y hy
  simp only [Option.some.injEq] at h
  subst h
  rw [hy]
  cases c <;> rfl
 ·split at h <;> try (cases h; done)
  rename_i x hx
  simp only [Option.some.injEq] at h
  subst h
  rw [hx]
  cases c <;> rfl
 ·exact zmu h
def zoa (e : Env) (na nb : Option Prop) (c : AVal) (a b : LOpd) : YR := match c with
 | .bool c => match zkh c e a b with
  | some v => .ok (Yi (zm3 c true na) (zm3 c false nb)) v
  | none => .bad
 | _ => .bad
def z6i (cells : List AVal) : List (Nat × Nat × AVal) → YR
 | [] => .ok none (.agg cells)
 | (off, n, x) :: r => match x.cells? with
  | some cs => match Nat.beq cs.length n && Nat.ble (off + n) cells.length with
   | true => z6i (wk cells off cs) r
   | false => .bad
  | none => .bad
theorem z64 : ∀ (parts : List (Nat × Nat × AVal)) (cells : List AVal), (z6i cells parts).Of (Ya cells parts)
 | [], cells => ⟨_, rfl, fun _ => trivial⟩
 | (off, n, x) :: r, cells => by
  simp only [z6i, Ya]
  split
  ·rename_i cs hc
   simp only [hc]
   split
   ·rename_i h
    simp only [Bool.and_eq_true] at h
    have h1 := Nat.eq_of_beq_eq_true h.1
    have h2 := Nat.le_of_ble_eq_true h.2
    have ih := z64 r (wk cells off cs)
    cases hy : z6i (wk cells off cs) r with
    | ok s v =>
     rw [hy] at ih
     obtain ⟨side, hx, hs⟩ := ih
     rw [hx]
     exact ⟨_, rfl, fun h => ⟨h1, h2, hs h⟩⟩
    | bad => trivial
    | row es i s f =>
     rw [hy] at ih
     obtain ⟨side, hx, hs⟩ := ih
     rw [hx]
     exact ⟨_, rfl, fun h => ⟨h1, h2, hs h⟩⟩
    | pick v s =>
     rw [hy] at ih
     obtain ⟨side, hx, hs⟩ := ih
     rw [hx]
     exact ⟨_, rfl, fun h => ⟨h1, h2, hs h⟩⟩
    | fork j len s f =>
     rw [hy] at ih
     obtain ⟨side, v, hx, hs⟩ := ih
     rw [hx]
     exact ⟨_, _, rfl, fun c hc hj h => ⟨⟨h1, h2, (hs c hc hj h).1⟩, (hs c hc hj h).2⟩⟩
   ·trivial
  ·trivial
def zru (lo hi : Nat → Option Int) : AVal → YR := fun x => (z1a lo hi x).toY
def XR.toP : XR → YR
 | .ok s v => .pick v s
 | .bad => .bad
theorem XR.toP_of (x : XR) : x.toP.Of x := by
 cases x with
 | ok s v => exact ⟨s, rfl, fun h => h⟩
 | bad => trivial
def zvt (s : Nat) (lo hi : Nat → Option Int) (mx : Option (Option Int)) (keep : Bool) : AVal → YR := fun x => (zil s lo hi mx keep x).toP
def zr7 (isMax : Bool) : AVal → List AVal → YR
 | v, [] => .ok none v
 | .int k a, .int k' b :: r => match zhm k k' with
  | true => zr7 isMax (.int k (if isMax then (if b > a then b else a) else (if b < a then b else a))) r
  | false => .bad
 | _, _ => .bad
theorem zkk (m : Bool) : ∀ (l : List AVal) (v : AVal), (zr7 m v l).Of (zg8 m v l)
 | [], v => by simp only [zr7, zg8]; exact ⟨_, rfl, fun _ => trivial⟩
 | y :: r, v => by
  cases v <;> cases y <;> try trivial
  rename_i k a k' b
  simp only [zr7, zg8]
  split
  ·rename_i hk
   have hk := z2x hk
   subst hk
   have ih := zkk m r (.int k (if m then (if b > a then b else a) else (if b < a then b else a)))
   cases hy : zr7 m (.int k (if m then (if b > a then b else a) else (if b < a then b else a))) r with
   | ok s v =>
    rw [hy] at ih
    obtain ⟨side, hx, hs⟩ := ih
    rw [hx]
    exact ⟨_, rfl, fun h => ⟨rfl, hs h⟩⟩
   | bad => trivial
   | row es i s f =>
    rw [hy] at ih
    obtain ⟨side, hx, hs⟩ := ih
    rw [hx]
    exact ⟨_, rfl, fun h => ⟨rfl, hs h⟩⟩
   | pick v s =>
    rw [hy] at ih
    obtain ⟨side, hx, hs⟩ := ih
    rw [hx]
    exact ⟨_, rfl, fun h => ⟨rfl, hs h⟩⟩
   | fork j len s f =>
    rw [hy] at ih
    obtain ⟨side, v, hx, hs⟩ := ih
    rw [hx]
    exact ⟨_, _, rfl, fun c hc hj h => ⟨⟨rfl, (hs c hc hj h).1⟩, (hs c hc hj h).2⟩⟩
  ·trivial
def zry (isMax : Bool) : List AVal → YR
 | .int k a :: r => zr7 isMax (.int k a) r
 | _ => .bad
def zi6 (ks : List CK) (ka g ok : Bool) (zs : List AVal) (H : AHeap) (k : AVal) : AVal → YR
 | .val (.map none) => match Xf ks ka k with
  | true => .ok none (zkp g ok zs none)
  | false => .bad
 | .map b => match H.get b with
  | some (.amap es) => match Xf ks ka k with
   | true => .pick (zkp g ok zs ((Ww ks k es).getD none)) ((Ww ks k es).isSome = true)
   | false => .bad
  | _ => .bad
 | _ => .bad
theorem zfv (ks : List CK) (ka g ok : Bool) (zs : List AVal) (H : AHeap) (k x : AVal) : (zi6 ks ka g ok zs H k x).Of (Vj ks ka g ok zs H k x) := by
 unfold zi6 Vj
 split
 ·split
  ·rename_i h; rw [if_pos h]; exact ⟨_, rfl, fun _ => trivial⟩
  ·trivial
 ·split
  ·rename_i hg
   split
   ·rename_i h; simp only [hg]; rw [if_pos h]; exact ⟨_, rfl, fun h => h⟩
   ·trivial
  ·trivial
 ·trivial
def z10 (e : Env) (H : AHeap) : LOp → YR
 | .mv x => .ok (x.needY e) (x.ev e)
 | .pick c a b => (zoa e (a.needY e) (b.needY e) (c.ev e) a b).and (c.needY e)
 | .build zs parts => (z6i zs (wy e parts)).and (z6m e parts)
 | .load g n a => (zqj g n H (a.ev e)).and (a.needY e)
 | .nilck x => (z18 (x.ev e)).toY0.and (x.needY e)
 | .bin op x y => (zut op (x.ev e) (y.ev e)).and (Yi (x.needY e) (y.needY e))
 | .eq neg k x y => (yeq neg k (x.ev e) (y.ev e)).and (Yi (x.needY e) (y.needY e))
 | .un op x => (xun op (x.ev e)).toY0.and (x.needY e)
 | .conv (.int k) x => match x.ev e with
  | .int _ n => .ok (x.needY e) (.int k (k.wrap n))
  | _ => .bad
 | .conv .same x => match x.ev e with
  | .str l => .ok (x.needY e) (.str l)
  | _ => .bad
 | .mkfn f a c => .ok (Yi (We e a) (We e c)) (.fn f (evs e a) (evs e c))
 | .slStr x lo hi => (zru (fun d => xu e d lo) (fun d => xu e d hi) (x.ev e)).and (Yi (x.needY e) (Yi (z0m e lo) (z0m e hi)))
 | .slSl s x lo hi mx => (zvt s (fun d => xu e d lo) (fun d => xu e d hi) (z16 e mx) (hi.isNone && mx.isNone) (x.ev e)).and (Yi (x.needY e) (Yi (z0m e lo) (Yi (z0m e hi) (z0m e mx))))
 | .slAr n s x => (zdt n s H (x.ev e)).toP.and (x.needY e)
 | .faddr off x => (z1n off (x.ev e)).toY0.and (x.needY e)
 | .field g n off x => (zgg g n off (x.ev e)).and (x.needY e)
 | .iaddr s x i => (zfw s (x.ev e).rd (i.ev e)).and (Yi (x.needY e) (i.needY e))
 | .iaddrA n s x i => (za8 n s (x.ev e) i (i.ev e)).and (Yi (x.needY e) (i.needY e))
 | .iaddrR n s x i => (z8o n s H (x.ev e) (i.ev e)).and (Yi (x.needY e) (i.needY e))
 | .idxS x i => (zgh (x.ev e) (i.ev e)).toY.and (Yi (x.needY e) (i.needY e))
 | .idxA n s g x i => (zq5 n s g (x.ev e) i (i.ev e)).and (Yi (x.needY e) (i.needY e))
 | .ext k x => (zul k (x.ev e)).and (x.needY e)
 | .len true x => (zdh (x.ev e)).toY0.and (x.needY e)
 | .len false x => (zdf (x.ev e).rd).toY0.and (x.needY e)
 | .mnx m args => (zry m (evs e args)).and (We e args)
 | .mlook ks ka g ok zs x k => (zi6 ks ka g ok zs H (k.ev e) (x.ev e)).and (Yi (x.needY e) (k.needY e))
 | .mlen x => (z8n H (x.ev e)).toY0.and (x.needY e)
 | _ => .bad
theorem Y7 (e : Env) (H : AHeap) (op : LOp) : (z10 e H op).Of (jl e H op) := by
 have h2 : ∀ {x y : LOpd}, wz (Yi (x.needY e) (y.needY e)) → x.need e ∧ y.need e := fun h => by rw [xp, zm, zm] at h; exact h
 cases op <;> simp only [z10, jl] <;> try trivial
 case mv x => exact ⟨_, rfl, (zm e x).1⟩
 case pick c a b =>
  refine YR.Of.and ?_ (zm e c).1
  unfold zoa zlk
  split
  ·rename_i cc hcc
   simp only [hcc]
   split
   ·rename_i v hv
    rw [zkl hv]
    refine ⟨_, rfl, fun h => ?_⟩
    rw [xp, z59, z59, zm, zm] at h
    exact h
   ·trivial
  ·trivial
 case build zs parts => exact (z64 _ _).and (z1i e parts).1
 case load g n a => exact (zl7 _ _ _ _).and (zm e a).1
 case nilck x =>
  refine YR.Of.and (XR.toY0_of fun s v h => ?_) (zm e x).1
  unfold z18 at h
  split at h <;> simp only [XR.ok.injEq, reduceCtorEq] at h <;> (obtain ⟨rfl, _⟩ := h; trivial)
 case bin op x y => exact (zqd _ _ _).and h2
 case eq neg k x y => exact (zs5 _ _ _ _).and h2
 case mlook ks ka g ok zs x k => exact (zfv _ _ _ _ _ _ _ _).and h2
 case mlen x =>
  refine YR.Of.and (XR.toY0_of fun s v h => ?_) (zm e x).1
  unfold z8n at h
  split at h <;> (try split at h) <;> simp only [XR.ok.injEq, reduceCtorEq] at h <;> (obtain ⟨rfl, _⟩ := h; trivial)
 case un op x =>
  refine YR.Of.and (XR.toY0_of fun s v h => ?_) (zm e x).1
  unfold xun at h
  split at h <;> (try split at h) <;> simp only [XR.ok.injEq, reduceCtorEq] at h <;> (obtain ⟨rfl, _⟩ := h; trivial)
 case conv k x =>
  cases k <;> simp only <;> try trivial
  ·split
   ·rename_i h; simp only [h]; exact ⟨_, rfl, (zm e x).1⟩
   ·trivial
  ·split
   ·rename_i h; simp only [h]; exact ⟨_, rfl, (zm e x).1⟩
   ·trivial
 case mkfn f a c => exact ⟨_, rfl, fun h => by rw [xp, Zg, Zg] at h; exact h⟩
 case slStr x lo hi => exact (XR.toY_of _).and (fun h => by rw [xp, xp, zm, Yw, Yw] at h; exact h)
 case slSl s x lo hi mx => exact (XR.toP_of _).and (fun h => by rw [xp, xp, xp, zm, Yw, Yw, Yw] at h; exact h)
 case slAr k s x => exact (XR.toP_of _).and (zm e x).1
 case faddr off x =>
  refine YR.Of.and (XR.toY0_of fun s v h => ?_) (zm e x).1
  unfold z1n at h
  split at h <;> simp only [XR.ok.injEq, reduceCtorEq] at h <;> (obtain ⟨rfl, _⟩ := h; trivial)
 case field g n off x => exact (zh3 _ _ _ _).and (zm e x).1
 case iaddr s x i => exact (zgn _ _ _).and h2
 case iaddrA n s x i => exact (zee _ _ _ _ _).and h2
 case iaddrR n s x i => exact (zct _ _ _ _ _).and h2
 case idxS x i => exact (XR.toY_of _).and h2
 case idxA n s g x i => exact (zlg _ _ _ _ _ _).and h2
 case ext k x => exact (zoy _ _).and (zm e x).1
 case len st x =>
  cases st with
  | true =>
   refine YR.Of.and (XR.toY0_of fun s v h => ?_) (zm e x).1
   unfold zdh at h
   split at h <;> simp only [XR.ok.injEq, reduceCtorEq] at h <;> (obtain ⟨rfl, _⟩ := h; trivial)
  | false =>
   refine YR.Of.and (XR.toY0_of fun s v h => ?_) (zm e x).1
   unfold zdf at h
   split at h <;> simp only [XR.ok.injEq, reduceCtorEq] at h <;> (obtain ⟨rfl, _⟩ := h; trivial)
 case mnx m args =>
  refine YR.Of.and ?_ (Zg e args).1
  unfold zry zfa
  split
  ·rename_i h; simp only [h]; exact zkk _ _ _
  ·trivial
end Go.Fx
