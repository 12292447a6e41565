/-
  Own framework.
-/
import Derived.Test.YtlfdchgaeeadjaaDoorFxM2
namespace Go.Fx
set_option linter.unusedVariables false
def Vr : Option Prop → Prop → Prop
 | none, q => q
 | some p, q => p ∧ q
def Qj : Option Prop → Option Prop → Option Prop
 | none, y => y
 | some a, none => some a
 | some a, some b => some (a ∧ b)
def kn : Option Prop → Prop
 | none => True
 | some p => p
theorem j2 (s : Option Prop) (q : Prop) : Vr s q ↔ kn s ∧ q := by cases s <;> simp [Vr, kn]
theorem j0 (a b : Option Prop) : kn (Qj a b) ↔ kn a ∧ kn b := by cases a <;> cases b <;> simp [Qj, kn]
def AVal.needY : AVal → Option Prop
 | .cnd p _ => some (p = true)
 | _ => none
theorem zhz (x : AVal) : kn x.needY ↔ x.need := by cases x <;> simp [AVal.needY, AVal.need, kn]
def LOpd.needY (e : Env) : LOpd → Option Prop
 | .t i => (e.get i).needY
 | .c _ => none
theorem zo (e : Env) (x : LOpd) : kn (x.needY e) ↔ x.need e := by
 cases x with
 | t i => exact zhz _
 | c v => simp [LOpd.needY, LOpd.need, kn]
def Va (e : Env) : List LOpd → Option Prop
 | [] => none
 | x :: r => Qj (x.needY e) (Va e r)
theorem Y8 (e : Env) : ∀ l, kn (Va e l) ↔ W4 e l
 | [] => by simp [Va, W4, kn]
 | x :: r => by simp [Va, W4, j0, zo, Y8 e r]
def z1b (e : Env) : Option LOpd → Option Prop
 | none => none
 | some x => x.needY e
theorem Qv (e : Env) (x : Option LOpd) : kn (z1b e x) ↔ Zy e x := by
 cases x with
 | none => simp [z1b, Zy, kn]
 | some x => exact zo e x
def z64 (e : Env) : List (Nat × Nat × LOpd) → Option Prop
 | [] => none
 | (_, _, x) :: r => Qj (x.needY e) (z64 e r)
theorem z3l (e : Env) : ∀ l, kn (z64 e l) ↔ va e l
 | [] => by simp [z64, va, kn]
 | (_, _, x) :: r => by simp [z64, va, j0, zo, z3l e r]
def z3u (e : Env) : List (Nat × LOpd) → Option Prop
 | [] => none
 | (_, x) :: r => Qj (x.needY e) (z3u e r)
theorem Km (e : Env) : ∀ l, kn (z3u e l) ↔ Ki e l
 | [] => by simp [z3u, Ki, kn]
 | (_, x) :: r => by simp [z3u, Ki, j0, zo, Km e r]
def znf : IntKind → IntKind → Bool
 | .i8, .i8 | .i16, .i16 | .i32, .i32 | .i64, .i64 | .u8, .u8 | .u16, .u16 | .u32, .u32 | .u64, .u64 => true
 | _, _ => false
theorem z4b {a b : IntKind} (h : znf a b = true) : a = b := by cases a <;> cases b <;> first | rfl | cases h
inductive YR where
 | ok (side : Option Prop) (v : AVal)
 | row (es : List (List AVal)) (i : Nat) (side : Prop) (f : List AVal → AVal)
 | pick (v : AVal) (side : Prop)
 | fork (j : Int) (len : Nat) (side : Option Prop) (f : Nat → AVal)
 | bad
def ztp (j : Int) (f : Nat → AVal) (K : AVal → Prop) : Nat → Nat → Prop
 | 0, _ => True
 | k + 1, c => (j = (c : Int) → K (f c)) ∧ ztp j f K k (c + 1)
def YR.run (r : YR) (K : AVal → Prop) : Prop := match r with
 | .ok s v => Vr s (K v)
 | .row es i s f => ∃ r, es.getD i [] = r ∧ s ∧ K (f r)
 | .pick v0 s => ∃ v, v0 = v ∧ s ∧ K v
 | .fork j len s f => Vr s ((0 ≤ j ∧ j < (len : Int)) ∧ ztp j f K len 0)
 | .bad => False
def YR.runG (p : Bool) (r : YR) (K : AVal → Prop) : Prop := match r with
 | .ok none v => K (.cnd p v)
 | .ok (some s) v => (p = true → s) ∧ K (.cnd p v)
 | .row es i s f => ∃ r, (p = true → es.getD i [] = r ∧ s) ∧ K (.cnd p (f r))
 | .pick v0 s => ∃ v, (p = true → v0 = v ∧ s) ∧ K (.cnd p v)
 | _ => p = false ∧ K (.tup [])
def YR.and (s : Option Prop) : YR → YR
 | .ok t v => .ok (Qj s t) v
 | .row es i t f => match s with
  | none => .row es i t f
  | some p => .row es i (p ∧ t) f
 | .pick v t => match s with
  | none => .pick v t
  | some p => .pick v (p ∧ t)
 | .fork j len t f => .fork j len (Qj s t) f
 | .bad => .bad
def YR.Of (r : YR) (x : XR) : Prop := match r with
 | .ok s v => ∃ side, x = .ok side v ∧ (kn s → side)
 | .row es i s f => ∃ side, x = .ok side (f (es.getD i [])) ∧ (s → side)
 | .pick v s => ∃ side, x = .ok side v ∧ (s → side)
 | .fork j len s f => ∃ side v, x = .ok side v ∧ ∀ c : Nat, c < len → j = (c : Int) → kn s → side ∧ v = f c
 | .bad => True
theorem YR.Of.and {r : YR} {x : XR} {s : Option Prop} {p : Prop} (h : r.Of x) (hs : kn s → p) : (r.and s).Of (x.and p) := by
 cases r with
 | bad => trivial
 | ok t v =>
  obtain ⟨side, rfl, h1⟩ := h
  exact ⟨_, rfl, fun h => by rw [j0] at h; exact ⟨hs h.1, h1 h.2⟩⟩
 | row es i t f =>
  obtain ⟨side, rfl, h1⟩ := h
  cases s with
  | none => exact ⟨_, rfl, fun h => ⟨hs trivial, h1 h⟩⟩
  | some q => exact ⟨_, rfl, fun h => ⟨hs h.1, h1 h.2⟩⟩
 | pick v t =>
  obtain ⟨side, rfl, h1⟩ := h
  cases s with
  | none => exact ⟨_, rfl, fun h => ⟨hs trivial, h1 h⟩⟩
  | some q => exact ⟨_, rfl, fun h => ⟨hs h.1, h1 h.2⟩⟩
 | fork j len t f =>
  obtain ⟨side, v, rfl, h1⟩ := h
  exact ⟨_, v, rfl, fun c hc hj h => by
   rw [j0] at h
   obtain ⟨h2, h3⟩ := h1 c hc hj h.2
   exact ⟨⟨hs h.1, h2⟩, h3⟩⟩
theorem z87 {j : Int} {f : Nat → AVal} {K : AVal → Prop} : ∀ {k c0 : Nat}, ztp j f K k c0 → ∀ c, c0 ≤ c → c < c0 + k → j = (c : Int) → K (f c)
 | 0, c0, _, c, h1, h2, _ => by omega
 | k + 1, c0, h, c, h1, h2, h3 => by
  by_cases hc : c = c0
  ·subst hc; exact h.1 h3
  ·exact z87 h.2 c (by omega) (by omega) h3
theorem YR.Of.run {r : YR} {x : XR} (h : r.Of x) {K : AVal → Prop} (hk : r.run K) : ∃ side v, x = .ok side v ∧ side ∧ K v := by
 cases r with
 | bad => exact hk.elim
 | ok t v =>
  obtain ⟨side, rfl, h1⟩ := h
  rw [YR.run, j2] at hk
  exact ⟨_, _, rfl, h1 hk.1, hk.2⟩
 | row es i t f =>
  obtain ⟨side, rfl, h1⟩ := h
  obtain ⟨r, rfl, ht, hk⟩ := hk
  exact ⟨_, _, rfl, h1 ht, hk⟩
 | pick v t =>
  obtain ⟨side, rfl, h1⟩ := h
  obtain ⟨r, rfl, ht, hk⟩ := hk
  exact ⟨_, _, rfl, h1 ht, hk⟩
 | fork j len t f =>
  obtain ⟨side, v, rfl, h1⟩ := h
  rw [YR.run, j2] at hk
  obtain ⟨hs, ⟨h2, h3⟩, h4⟩ := hk
  obtain ⟨c, rfl⟩ := Int.eq_ofNat_of_zero_le h2
  obtain ⟨g1, rfl⟩ := h1 c (by omega) rfl hs
  exact ⟨_, _, rfl, g1, z87 h4 c (Nat.zero_le _) (by omega) rfl⟩
def y0s (op : BinOp) : AVal → AVal → YR
 | .int k a, .int k' b => match op with
  | .shl => .ok (some (0 ≤ b)) (.int k (k.wrap (a * 2 ^ (min b.toNat k.bits))))
  | .shr => .ok (some (0 ≤ b)) (.int k (a.fdiv (2 ^ (min b.toNat k.bits))))
  | op => match znf k k' with
   | false => .bad
   | true => match op with
    | .add => .ok none (.int k (k.wrap (a + b)))
    | .sub => .ok none (.int k (k.wrap (a - b)))
    | .mul => .ok none (.int k (k.wrap (a * b)))
    | .quo => .ok (some (b ≠ 0)) (.int k (k.wrap (a.tdiv b)))
    | .rem => .ok (some (b ≠ 0)) (.int k (a.tmod b))
    | .and => .ok none (.int k (Wl .and k a b))
    | .or => .ok none (.int k (Wl .or k a b))
    | .xor => .ok none (.int k (Wl .xor k a b))
    | .andNot => .ok none (.int k (Wl .andNot k a b))
    | .eql => .ok none (.bool (a == b))
    | .neq => .ok none (.bool (a != b))
    | .lss => .ok none (.bool (decide (a < b)))
    | .leq => .ok none (.bool (decide (a ≤ b)))
    | .gtr => .ok none (.bool (decide (a > b)))
    | .geq => .ok none (.bool (decide (a ≥ b)))
    | _ => .bad
 | .str a, .str b => match op with
  | .add => .ok (some (((a.length + b.length : Nat) : Int) ≤ 9223372036854775807)) (.str (a ++ b))
  | .eql => .ok none (.bool (a == b))
  | .neq => .ok none (.bool (!(a == b)))
  | .lss => .ok none (.bool (Op.bytesLess a b))
  | .leq => .ok none (.bool (Op.bytesLess a b || a == b))
  | .gtr => .ok none (.bool (!(Op.bytesLess a b || a == b)))
  | .geq => .ok none (.bool (!(Op.bytesLess a b)))
  | _ => .bad
 | _, _ => .bad
theorem zuo (op : BinOp) (x y : AVal) : (y0s op x y).Of (zqx op x y) := by
 cases x <;> cases y <;> simp only [y0s, zqx] <;> try trivial
 case int.int k a k' b =>
  cases op <;> simp only <;> (try exact ⟨_, rfl, fun h => h⟩) <;> (cases hk : znf k k' <;> simp only <;> (try trivial) <;> (have hk := z4b hk; subst hk)) <;>
   first | exact ⟨_, rfl, fun _ => rfl⟩ | exact ⟨_, rfl, fun h => ⟨rfl, h⟩⟩
 case str.str a b =>
  cases op <;> simp only <;> first | trivial | exact ⟨_, rfl, fun _ => trivial⟩ | exact ⟨_, rfl, fun h => h⟩
def XR.toY : XR → YR
 | .ok s v => .ok (some s) v
 | .bad => .bad
theorem XR.toY_of (x : XR) : x.toY.Of x := by
 cases x with
 | ok s v => exact ⟨s, rfl, fun h => h⟩
 | bad => trivial
def XR.toY0 : XR → YR
 | .ok _ v => .ok none v
 | .bad => .bad
theorem XR.toY0_of {x : XR} (h : ∀ s v, x = .ok s v → s) : x.toY0.Of x := by
 cases x with
 | ok s v => exact ⟨s, rfl, fun _ => h s v rfl⟩
 | bad => trivial
def zww : AVal → AVal → YR := fun a b => (zow a b).toY0
def z5i : AVal → AVal → YR
 | .val (.slice none 0 0), .isl _ es _ => .ok (some (es ≠ [])) (.bool false)
 | .isl _ es _, .val (.slice none 0 0) => .ok (some (es ≠ [])) (.bool false)
 | .val (.slice none 0 0), .msl _ _ _ len _ => .ok (some (len ≠ 0)) (.bool false)
 | .msl _ _ _ len _, .val (.slice none 0 0) => .ok (some (len ≠ 0)) (.bool false)
 | a, b => (Kj a b).toY0
theorem za2 (a b : AVal) : (z5i a b).Of (Kj a b) := by
 unfold z5i
 split
 ·exact ⟨_, rfl, fun h => h⟩
 ·exact ⟨_, rfl, fun h => h⟩
 ·exact ⟨_, rfl, fun h => h⟩
 ·exact ⟨_, rfl, fun h => h⟩
 ·rename_i h1 h2 h3 h4
  refine XR.toY0_of fun s v h => ?_
  unfold Kj at h
  split at h <;> simp only [XR.ok.injEq, reduceCtorEq] at h <;> (try (obtain ⟨rfl, _⟩ := h; trivial))
  ·exact absurd rfl (h3 _ _ _ _ _ rfl)
  ·exact absurd rfl (h4 _ _ _ _ _ · rfl)
  ·exact absurd rfl (h1 _ _ _ rfl)
  ·exact absurd rfl (h2 _ _ _ · rfl)
def zxq (k : EqK) (x y : AVal) : YR :=
 match k with
 | .bool => match x, y with
  | .bool a, .bool b => .ok none (.bool (a == b))
  | _, _ => .bad
 | .ptr => zww x y
 | .slice => z5i x.rd y.rd
 | .map => (Uu x y).toY0
 | .agg ks => (zn2 ks x y).toY0
 | _ => .bad
def YR.neg : YR → YR
 | .ok s (.bool b) => .ok s (.bool (!b))
 | _ => .bad
def yeq (neg : Bool) (k : EqK) (x y : AVal) : YR := match neg with
 | true => (zxq k x y).neg
 | false => zxq k x y
theorem zso (k : EqK) (x y : AVal) : (zxq k x y).Of (zq3 k x y) := by
 cases k <;> simp only [zxq, zq3] <;> try trivial
 case bool => cases x <;> cases y <;> first | trivial | exact ⟨_, rfl, fun _ => trivial⟩
 case ptr =>
  refine XR.toY0_of fun s v h => ?_
  unfold zow at h
  split at h <;> simp only [XR.ok.injEq, reduceCtorEq] at h <;> (obtain ⟨rfl, _⟩ := h; trivial)
 case slice => exact za2 _ _
 case map =>
  refine XR.toY0_of fun s v h => ?_
  unfold Uu at h
  split at h <;> simp only [XR.ok.injEq, reduceCtorEq] at h <;> (obtain ⟨rfl, _⟩ := h; trivial)
 case agg ks =>
  refine XR.toY0_of fun s v h => ?_
  unfold zn2 at h
  split at h <;> (try split at h) <;> simp only [XR.ok.injEq, reduceCtorEq] at h <;> (obtain ⟨rfl, _⟩ := h; trivial)
theorem zx6 (neg : Bool) (k : EqK) (x y : AVal) : (yeq neg k x y).Of (xeq neg k x y) := by
 have h := zso k x y
 cases neg with
 | false => simpa [yeq, xeq] using h
 | true =>
  simp only [yeq, xeq, if_true]
  cases hr : zxq k x y with
  | ok s v =>
   rw [hr] at h
   obtain ⟨side, hx, hs⟩ := h
   cases v <;> simp only [YR.neg] <;> try trivial
   rw [hx]
   exact ⟨side, rfl, hs⟩
  | _ => simp only [YR.neg]; trivial
def zut (agg : Bool) (n : Nat) (H : AHeap) : AVal → YR
 | .iptr s es i off => .row es i (i < es.length ∧ off + n ≤ s) (x3 agg n off)
 | .ptr b i off => match H.get b with
  | some (.rows s es) => .row es i (i < es.length ∧ off + n ≤ s) (x3 agg n off)
  | some (.one cs) => match i, Nat.ble (off + n) cs.length with
   | 0, true => .ok none (x3 agg n off cs)
   | _, _ => .bad
  | _ => .bad
 | _ => .bad
theorem zq9 (g : Bool) (n : Nat) (H : AHeap) (x : AVal) : (zut g n H x).Of (z5u g n H x) := by
 cases x <;> simp only [zut, z5u] <;> try trivial
 case iptr s es i off => exact ⟨_, rfl, fun h => h⟩
 case ptr b i off =>
  split
  ·rename_i hb
   rw [hb]
   exact ⟨_, rfl, fun h => h⟩
  ·rename_i hb
   rw [hb]
   split
   ·rename_i h
    exact ⟨_, rfl, fun _ => ⟨rfl, Nat.le_of_ble_eq_true h⟩⟩
   ·trivial
  ·trivial
def zlh (agg : Bool) (n off : Nat) : AVal → YR
 | .agg cs => match Nat.ble (off + n) cs.length with
  | true => .ok none (x3 agg n off cs)
  | false => .bad
 | _ => .bad
theorem zgb (g : Bool) (n off : Nat) (x : AVal) : (zlh g n off x).Of (z2s g n off x) := by
 cases x <;> simp only [zlh, z2s] <;> try trivial
 split
 ·rename_i h; exact ⟨_, rfl, fun _ => Nat.le_of_ble_eq_true h⟩
 ·trivial
def zhn (s : Nat) : AVal → AVal → YR
 | .isl s' es _, .int _ j => match Nat.beq s s' with
  | true => .ok (some (0 ≤ j ∧ j < (es.length : Int))) (.iptr s' es j.toNat 0)
  | false => .bad
 | .msl b s' off len _, .int _ j => match Nat.beq s s' with
  | true => .ok (some (0 ≤ j ∧ j < (len : Int))) (.ptr b (off + j.toNat) 0)
  | false => .bad
 | _, _ => .bad
theorem zkj (s : Nat) (x y : AVal) : (zhn s x y).Of (z2v s x y) := by
 cases x <;> cases y <;> simp only [zhn, z2v] <;> try trivial
 all_goals
  split
  ·rename_i h; exact ⟨_, rfl, fun hh => ⟨Nat.eq_of_beq_eq_true h, hh⟩⟩
  ·trivial
def z9h (len s : Nat) (H : AHeap) : AVal → AVal → YR
 | .ptr b i 0, .int _ j => match H.get b with
  | some (.rows s' _) => match Nat.beq s s' with
   | true => .ok (some (0 ≤ j ∧ j < (len : Int))) (.ptr b (i + j.toNat) 0)
   | false => .bad
  | _ => .bad
 | _, _ => .bad
theorem zej (len s : Nat) (H : AHeap) (x y : AVal) : (z9h len s H x y).Of (Wm len s H x y) := by
 unfold z9h Wm
 split
 ·split
  ·rename_i hg
   split
   ·rename_i h
    simp only [hg]
    exact ⟨_, rfl, fun hh => ⟨Nat.eq_of_beq_eq_true h, hh⟩⟩
   ·trivial
  ·trivial
 ·trivial
def z9e (len s : Nat) (x : AVal) : LOpd → AVal → YR
 | .c (.int _ (.ofNat c)), _ => match Nat.ble (c + 1) len, x with
  | true, .iptr s' es i o => .ok none (.iptr s' es i (o + c * s))
  | true, .ptr b i o => .ok none (.ptr b i (o + c * s))
  | _, _ => .bad
 | _, .int _ j => match x with
  | .iptr s' es i o => .fork j len none (fun c => .iptr s' es i (o + c * s))
  | .ptr b i o => .fork j len none (fun c => .ptr b i (o + c * s))
  | _ => .bad
 | _, _ => .bad
theorem zed (len s : Nat) (x : AVal) (e : Env) (i : LOpd) : (z9e len s x i (i.ev e)).Of (z22 len s x (i.ev e)) := by
 unfold z9e
 split
 ·rename_i k c
  split
  ·rename_i h
   exact ⟨_, rfl, fun _ => ⟨Int.natCast_nonneg c, by have := Nat.le_of_ble_eq_true h; simp; omega⟩⟩
  ·rename_i h
   exact ⟨_, rfl, fun _ => ⟨Int.natCast_nonneg c, by have := Nat.le_of_ble_eq_true h; simp; omega⟩⟩
  ·trivial
 ·rename_i j _ heq
  rw [heq]
  split
  ·exact ⟨_, _, rfl, fun c hc hj _ => ⟨by omega, by subst hj; simp⟩⟩
  ·exact ⟨_, _, rfl, fun c hc hj _ => ⟨by omega, by subst hj; simp⟩⟩
  ·trivial
 ·trivial
def zv3 (len s : Nat) (agg : Bool) (x : AVal) : LOpd → AVal → YR
 | .c (.int _ (.ofNat c)), _ => match x with
  | .agg cs => match Nat.ble (c + 1) len && Nat.ble (c * s + s) cs.length with
   | true => .ok none (x3 agg s (c * s) cs)
   | false => .bad
  | _ => .bad
 | _, .int _ j => match x with
  | .agg cs => .pick (x3 agg s (j.toNat * s) cs) (0 ≤ j ∧ j < (len : Int) ∧ (j.toNat * s) + s ≤ cs.length)
  | _ => .bad
 | _, _ => .bad
theorem zpn (len s : Nat) (g : Bool) (x : AVal) (e : Env) (i : LOpd) : (zv3 len s g x i (i.ev e)).Of (zm3 len s g x (i.ev e)) := by
 unfold zv3
 split
 ·split
  ·split
   ·rename_i h
    simp only [Bool.and_eq_true] at h
    have h1 := Nat.le_of_ble_eq_true h.1
    have h2 := Nat.le_of_ble_eq_true h.2
    rename_i c _ _ _ _
    exact ⟨_, rfl, fun _ => ⟨Int.natCast_nonneg _, by simp; omega, by simpa using h2⟩⟩
   ·trivial
  ·trivial
 ·rename_i j _ heq
  rw [heq]
  split
  ·exact ⟨_, rfl, fun h => h⟩
  ·trivial
 ·trivial
def y0l (k : Nat) : AVal → YR
 | .tup cs => match Nat.ble (k + 1) cs.length with
  | true => .ok none (cs.getD k .any)
  | false => .bad
 | _ => .bad
theorem zvt (k : Nat) (x : AVal) : (y0l k x).Of (zwl k x) := by
 cases x <;> simp only [y0l, zwl] <;> try trivial
 split
 ·rename_i h; exact ⟨_, rfl, fun _ => Nat.le_of_ble_eq_true h⟩
 ·trivial
def zvy (c : Bool) : AVal → AVal → Option AVal
 | .bool a, .bool b => some (.bool (bif c then a else b))
 | .int k a, .int k' b => match znf k k' with
  | true => some (.int k (bif c then a else b))
  | false => none
 | .str a, .str b => some (.str (bif c then a else b))
 | _, _ => none
theorem zon {c : Bool} {a b v : AVal} (h : zvy c a b = some v) : zsj c a b = v := by
 cases a <;> cases b <;> simp only [zvy] at h <;> try (cases h; done)
 ·simp only [Option.some.injEq] at h; subst h; cases c <;> rfl
 ·split at h <;> try (cases h; done)
  rename_i hk
  have hk := z4b hk
  subst hk
  simp only [Option.some.injEq] at h
  subst h; cases c <;> rfl
 ·simp only [Option.some.injEq] at h; subst h; cases c <;> rfl
def zof (c want : Bool) : Option Prop → Option Prop
 | none => none
 | some p => some (c = want → p)
theorem z6p (c want : Bool) (p : Option Prop) : kn (zof c want p) ↔ (c = want → kn p) := by cases p <;> simp [zof, kn]
def zns (c : Bool) (e : Env) : LOpd → LOpd → Option AVal
 | .c (.bool true), b => match b.ev e with
  | .bool y => some (.bool (c || y))
  | _ => none
 | a, .c (.bool false) => match a.ev e with
  | .bool x => some (.bool (c && x))
  | _ => none
 | a, b => zvy c (a.ev e) (b.ev e)
theorem zmi {c : Bool} {e : Env} {a b : LOpd} {v : AVal} (h : zns c e a b = some v) : zsj c (a.ev e) (b.ev e) = v := by
 unfold zns at h
 split at h
 ·split at h <;> try (cases h; done)
  rename_i y hy
  simp only [Option.some.injEq] at h
  subst h
  rw [hy]
  cases c <;> rfl
 ·split at h <;> try (cases h; done)
  rename_i x hx
  simp only [Option.some.injEq] at h
  subst h
  rw [hx]
  cases c <;> rfl
 ·exact zon h
def zrm (e : Env) (na nb : Option Prop) (c : AVal) (a b : LOpd) : YR := match c with
 | .bool c => match zns c e a b with
  | some v => .ok (Qj (zof c true na) (zof c false nb)) v
  | none => .bad
 | _ => .bad
def z6a (cells : List AVal) : List (Nat × Nat × AVal) → YR
 | [] => .ok none (.agg cells)
 | (off, n, x) :: r => match x.cells? with
  | some cs => match Nat.beq cs.length n && Nat.ble (off + n) cells.length with
   | true => z6a (vz cells off cs) r
   | false => .bad
  | none => .bad
theorem z8p : ∀ (parts : List (Nat × Nat × AVal)) (cells : List AVal), (z6a cells parts).Of (Q0 cells parts)
 | [], cells => ⟨_, rfl, fun _ => trivial⟩
 | (off, n, x) :: r, cells => by
  simp only [z6a, Q0]
  split
  ·rename_i cs hc
   simp only [hc]
   split
   ·rename_i h
    simp only [Bool.and_eq_true] at h
    have h1 := Nat.eq_of_beq_eq_true h.1
    have h2 := Nat.le_of_ble_eq_true h.2
    have ih := z8p r (vz cells off cs)
    cases hy : z6a (vz cells off cs) r with
    | ok s v =>
     rw [hy] at ih
     obtain ⟨side, hx, hs⟩ := ih
     rw [hx]
     exact ⟨_, rfl, fun h => ⟨h1, h2, hs h⟩⟩
    | bad => trivial
    | row es i s f =>
     rw [hy] at ih
     obtain ⟨side, hx, hs⟩ := ih
     rw [hx]
     exact ⟨_, rfl, fun h => ⟨h1, h2, hs h⟩⟩
    | pick v s =>
     rw [hy] at ih
     obtain ⟨side, hx, hs⟩ := ih
     rw [hx]
     exact ⟨_, rfl, fun h => ⟨h1, h2, hs h⟩⟩
    | fork j len s f =>
     rw [hy] at ih
     obtain ⟨side, v, hx, hs⟩ := ih
     rw [hx]
     exact ⟨_, _, rfl, fun c hc hj h => ⟨⟨h1, h2, (hs c hc hj h).1⟩, (hs c hc hj h).2⟩⟩
   ·trivial
  ·trivial
def zyf (lo hi : Nat → Option Int) : AVal → YR := fun x => (z2r lo hi x).toY
def XR.toP : XR → YR
 | .ok s v => .pick v s
 | .bad => .bad
theorem XR.toP_of (x : XR) : x.toP.Of x := by
 cases x with
 | ok s v => exact ⟨s, rfl, fun h => h⟩
 | bad => trivial
def y26 (s : Nat) (lo hi : Nat → Option Int) (mx : Option (Option Int)) (keep : Bool) : AVal → YR := fun x => (zh2 s lo hi mx keep x).toP
def zwg (isMax : Bool) : AVal → List AVal → YR
 | v, [] => .ok none v
 | .int k a, .int k' b :: r => match znf k k' with
  | true => zwg isMax (.int k (if isMax then (if b > a then b else a) else (if b < a then b else a))) r
  | false => .bad
 | _, _ => .bad
theorem zkw (m : Bool) : ∀ (l : List AVal) (v : AVal), (zwg m v l).Of (zki m v l)
 | [], v => by simp only [zwg, zki]; exact ⟨_, rfl, fun _ => trivial⟩
 | y :: r, v => by
  cases v <;> cases y <;> try trivial
  rename_i k a k' b
  simp only [zwg, zki]
  split
  ·rename_i hk
   have hk := z4b hk
   subst hk
   have ih := zkw m r (.int k (if m then (if b > a then b else a) else (if b < a then b else a)))
   cases hy : zwg m (.int k (if m then (if b > a then b else a) else (if b < a then b else a))) r with
   | ok s v =>
    rw [hy] at ih
    obtain ⟨side, hx, hs⟩ := ih
    rw [hx]
    exact ⟨_, rfl, fun h => ⟨rfl, hs h⟩⟩
   | bad => trivial
   | row es i s f =>
    rw [hy] at ih
    obtain ⟨side, hx, hs⟩ := ih
    rw [hx]
    exact ⟨_, rfl, fun h => ⟨rfl, hs h⟩⟩
   | pick v s =>
    rw [hy] at ih
    obtain ⟨side, hx, hs⟩ := ih
    rw [hx]
    exact ⟨_, rfl, fun h => ⟨rfl, hs h⟩⟩
   | fork j len s f =>
    rw [hy] at ih
    obtain ⟨side, v, hx, hs⟩ := ih
    rw [hx]
    exact ⟨_, _, rfl, fun c hc hj h => ⟨⟨rfl, (hs c hc hj h).1⟩, (hs c hc hj h).2⟩⟩
  ·trivial
def zzu (isMax : Bool) : List AVal → YR
 | .int k a :: r => zwg isMax (.int k a) r
 | _ => .bad
def zi8 (ks : List CK) (ka g ok : Bool) (zs : List AVal) (H : AHeap) (k : AVal) : AVal → YR
 | .val (.map none) => match Jm ks ka k with
  | true => .ok none (zny g ok zs none)
  | false => .bad
 | .map b => match H.get b with
  | some (.amap es) => match Jm ks ka k with
   | true => .pick (zny g ok zs ((V4 ks k es).getD none)) ((V4 ks k es).isSome = true)
   | false => .bad
  | _ => .bad
 | _ => .bad
theorem zms (ks : List CK) (ka g ok : Bool) (zs : List AVal) (H : AHeap) (k x : AVal) : (zi8 ks ka g ok zs H k x).Of (Uc ks ka g ok zs H k x) := by
 unfold zi8 Uc
 split
 ·split
  ·rename_i h; rw [if_pos h]; exact ⟨_, rfl, fun _ => trivial⟩
  ·trivial
 ·split
  ·rename_i hg
   split
   ·rename_i h; simp only [hg]; rw [if_pos h]; exact ⟨_, rfl, fun h => h⟩
   ·trivial
  ·trivial
 ·trivial
def z2g (e : Env) (H : AHeap) : LOp → YR
 | .mv x => .ok (x.needY e) (x.ev e)
 | .pick c a b => (zrm e (a.needY e) (b.needY e) (c.ev e) a b).and (c.needY e)
 | .build zs parts => (z6a zs (kl e parts)).and (z64 e parts)
 | .load g n a => (zut g n H (a.ev e)).and (a.needY e)
 | .nilck x => (z2z (x.ev e)).toY0.and (x.needY e)
 | .bin op x y => (y0s op (x.ev e) (y.ev e)).and (Qj (x.needY e) (y.needY e))
 | .eq neg k x y => (yeq neg k (x.ev e) (y.ev e)).and (Qj (x.needY e) (y.needY e))
 | .un op x => (xun op (x.ev e)).toY0.and (x.needY e)
 | .conv (.int k) x => match x.ev e with
  | .int _ n => .ok (x.needY e) (.int k (k.wrap n))
  | _ => .bad
 | .conv .same x => match x.ev e with
  | .str l => .ok (x.needY e) (.str l)
  | _ => .bad
 | .mkfn f a c => .ok (Qj (Va e a) (Va e c)) (.fn f (evs e a) (evs e c))
 | .slStr x lo hi => (zyf (fun d => jb e d lo) (fun d => jb e d hi) (x.ev e)).and (Qj (x.needY e) (Qj (z1b e lo) (z1b e hi)))
 | .slSl s x lo hi mx => (y26 s (fun d => jb e d lo) (fun d => jb e d hi) (z2c e mx) (hi.isNone && mx.isNone) (x.ev e)).and (Qj (x.needY e) (Qj (z1b e lo) (Qj (z1b e hi) (z1b e mx))))
 | .slAr n s x => (zeu n s H (x.ev e)).toP.and (x.needY e)
 | .faddr off x => (z38 off (x.ev e)).toY0.and (x.needY e)
 | .field g n off x => (zlh g n off (x.ev e)).and (x.needY e)
 | .iaddr s x i => (zhn s (x.ev e).rd (i.ev e)).and (Qj (x.needY e) (i.needY e))
 | .iaddrA n s x i => (z9e n s (x.ev e) i (i.ev e)).and (Qj (x.needY e) (i.needY e))
 | .iaddrR n s x i => (z9h n s H (x.ev e) (i.ev e)).and (Qj (x.needY e) (i.needY e))
 | .idxS x i => (zmk (x.ev e) (i.ev e)).toY.and (Qj (x.needY e) (i.needY e))
 | .idxA n s g x i => (zv3 n s g (x.ev e) i (i.ev e)).and (Qj (x.needY e) (i.needY e))
 | .ext k x => (y0l k (x.ev e)).and (x.needY e)
 | .len true x => (zf5 (x.ev e)).toY0.and (x.needY e)
 | .len false x => (zf8 (x.ev e).rd).toY0.and (x.needY e)
 | .mnx m args => (zzu m (evs e args)).and (Va e args)
 | .mlook ks ka g ok zs x k => (zi8 ks ka g ok zs H (k.ev e) (x.ev e)).and (Qj (x.needY e) (k.needY e))
 | .mlen x => (z98 H (x.ev e)).toY0.and (x.needY e)
 | _ => .bad
theorem Q2 (e : Env) (H : AHeap) (op : LOp) : (z2g e H op).Of (w5 e H op) := by
 have h2 : ∀ {x y : LOpd}, kn (Qj (x.needY e) (y.needY e)) → x.need e ∧ y.need e := fun h => by rw [j0, zo, zo] at h; exact h
 cases op <;> simp only [z2g, w5] <;> try trivial
 case mv x => exact ⟨_, rfl, (zo e x).1⟩
 case pick c a b =>
  refine YR.Of.and ?_ (zo e c).1
  unfold zrm zog
  split
  ·rename_i cc hcc
   simp only [hcc]
   split
   ·rename_i v hv
    rw [zmi hv]
    refine ⟨_, rfl, fun h => ?_⟩
    rw [j0, z6p, z6p, zo, zo] at h
    exact h
   ·trivial
  ·trivial
 case build zs parts => exact (z8p _ _).and (z3l e parts).1
 case load g n a => exact (zq9 _ _ _ _).and (zo e a).1
 case nilck x =>
  refine YR.Of.and (XR.toY0_of fun s v h => ?_) (zo e x).1
  unfold z2z at h
  split at h <;> simp only [XR.ok.injEq, reduceCtorEq] at h <;> (obtain ⟨rfl, _⟩ := h; trivial)
 case bin op x y => exact (zuo _ _ _).and h2
 case eq neg k x y => exact (zx6 _ _ _ _).and h2
 case mlook ks ka g ok zs x k => exact (zms _ _ _ _ _ _ _ _).and h2
 case mlen x =>
  refine YR.Of.and (XR.toY0_of fun s v h => ?_) (zo e x).1
  unfold z98 at h
  split at h <;> (try split at h) <;> simp only [XR.ok.injEq, reduceCtorEq] at h <;> (obtain ⟨rfl, _⟩ := h; trivial)
 case un op x =>
  refine YR.Of.and (XR.toY0_of fun s v h => ?_) (zo e x).1
  unfold xun at h
  split at h <;> (try split at h) <;> simp only [XR.ok.injEq, reduceCtorEq] at h <;> (obtain ⟨rfl, _⟩ := h; trivial)
 case conv k x =>
  cases k <;> simp only <;> try trivial
  ·split
   ·rename_i h; simp only [h]; exact ⟨_, rfl, (zo e x).1⟩
   ·trivial
  ·split
   ·rename_i h; simp only [h]; exact ⟨_, rfl, (zo e x).1⟩
   ·trivial
 case mkfn f a c => exact ⟨_, rfl, fun h => by rw [j0, Y8, Y8] at h; exact h⟩
 case slStr x lo hi => exact (XR.toY_of _).and (fun h => by rw [j0, j0, zo, Qv, Qv] at h; exact h)
 case slSl s x lo hi mx => exact (XR.toP_of _).and (fun h => by rw [j0, j0, j0, zo, Qv, Qv, Qv] at h; exact h)
 case slAr k s x => exact (XR.toP_of _).and (zo e x).1
 case faddr off x =>
  refine YR.Of.and (XR.toY0_of fun s v h => ?_) (zo e x).1
  unfold z38 at h
  split at h <;> simp only [XR.ok.injEq, reduceCtorEq] at h <;> (obtain ⟨rfl, _⟩ := h; trivial)
 case field g n off x => exact (zgb _ _ _ _).and (zo e x).1
 case iaddr s x i => exact (zkj _ _ _).and h2
 case iaddrA n s x i => exact (zed _ _ _ _ _).and h2
 case iaddrR n s x i => exact (zej _ _ _ _ _).and h2
 case idxS x i => exact (XR.toY_of _).and h2
 case idxA n s g x i => exact (zpn _ _ _ _ _ _).and h2
 case ext k x => exact (zvt _ _).and (zo e x).1
 case len st x =>
  cases st with
  | true =>
   refine YR.Of.and (XR.toY0_of fun s v h => ?_) (zo e x).1
   unfold zf5 at h
   split at h <;> simp only [XR.ok.injEq, reduceCtorEq] at h <;> (obtain ⟨rfl, _⟩ := h; trivial)
  | false =>
   refine YR.Of.and (XR.toY0_of fun s v h => ?_) (zo e x).1
   unfold zf8 at h
   split at h <;> simp only [XR.ok.injEq, reduceCtorEq] at h <;> (obtain ⟨rfl, _⟩ := h; trivial)
 case mnx m args =>
  refine YR.Of.and ?_ (Y8 e args).1
  unfold zzu zmu
  split
  ·rename_i h; simp only [h]; exact zkw _ _ _
  ·trivial
end Go.Fx
