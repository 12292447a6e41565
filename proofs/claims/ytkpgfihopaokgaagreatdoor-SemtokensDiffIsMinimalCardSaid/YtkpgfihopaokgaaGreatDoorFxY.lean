/-
  Own framework.
-/
import Derived.Test.YtkpgfihopaokgaaGreatDoorFxM2
namespace Go.Fx
set_option linter.unusedVariables false
def Zo : Option Prop → Prop → Prop
 | none, q => q
 | some p, q => p ∧ q
def wg : Option Prop → Option Prop → Option Prop
 | none, y => y
 | some a, none => some a
 | some a, some b => some (a ∧ b)
def yy : Option Prop → Prop
 | none => True
 | some p => p
theorem zy (s : Option Prop) (q : Prop) : Zo s q ↔ yy s ∧ q := by cases s <;> simp [Zo, yy]
theorem zz (a b : Option Prop) : yy (wg a b) ↔ yy a ∧ yy b := by cases a <;> cases b <;> simp [wg, yy]
def AVal.needY : AVal → Option Prop
 | .cnd p _ => some (p = true)
 | _ => none
theorem z54 (x : AVal) : yy x.needY ↔ x.need := by cases x <;> simp [AVal.needY, AVal.need, yy]
def LOpd.needY (e : Env) : LOpd → Option Prop
 | .t i => (e.get i).needY
 | .c _ => none
theorem za (e : Env) (x : LOpd) : yy (x.needY e) ↔ x.need e := by
 cases x with
 | t i => exact z54 _
 | c v => simp [LOpd.needY, LOpd.need, yy]
def Zk (e : Env) : List LOpd → Option Prop
 | [] => none
 | x :: r => wg (x.needY e) (Zk e r)
theorem j8 (e : Env) : ∀ l, yy (Zk e l) ↔ k8 e l
 | [] => by simp [Zk, k8, yy]
 | x :: r => by simp [Zk, k8, zz, za, j8 e r]
def Xh (e : Env) : Option LOpd → Option Prop
 | none => none
 | some x => x.needY e
theorem wc (e : Env) (x : Option LOpd) : yy (Xh e x) ↔ xv e x := by
 cases x with
 | none => simp [Xh, xv, yy]
 | some x => exact za e x
def Ua (e : Env) : List (Nat × Nat × LOpd) → Option Prop
 | [] => none
 | (_, _, x) :: r => wg (x.needY e) (Ua e r)
theorem Jq (e : Env) : ∀ l, yy (Ua e l) ↔ yr e l
 | [] => by simp [Ua, yr, yy]
 | (_, _, x) :: r => by simp [Ua, yr, zz, za, Jq e r]
def Jw (e : Env) : List (Nat × LOpd) → Option Prop
 | [] => none
 | (_, x) :: r => wg (x.needY e) (Jw e r)
theorem Ya (e : Env) : ∀ l, yy (Jw e l) ↔ Zt e l
 | [] => by simp [Jw, Zt, yy]
 | (_, x) :: r => by simp [Jw, Zt, zz, za, Ya e r]
def z6c : IntKind → IntKind → Bool
 | .i8, .i8 | .i16, .i16 | .i32, .i32 | .i64, .i64 | .u8, .u8 | .u16, .u16 | .u32, .u32 | .u64, .u64 => true
 | _, _ => false
theorem Wm {a b : IntKind} (h : z6c a b = true) : a = b := by cases a <;> cases b <;> first | rfl | cases h
inductive YR where
 | ok (side : Option Prop) (v : AVal)
 | row (es : List (List AVal)) (i : Nat) (side : Prop) (f : List AVal → AVal)
 | pick (v : AVal) (side : Prop)
 | fork (j : Int) (len : Nat) (side : Option Prop) (f : Nat → AVal)
 | bad
def zaf (j : Int) (f : Nat → AVal) (K : AVal → Prop) : Nat → Nat → Prop
 | 0, _ => True
 | k + 1, c => (j = (c : Int) → K (f c)) ∧ zaf j f K k (c + 1)
def YR.run (r : YR) (K : AVal → Prop) : Prop := match r with
 | .ok s v => Zo s (K v)
 | .row es i s f => ∃ r, es.getD i [] = r ∧ s ∧ K (f r)
 | .pick v0 s => ∃ v, v0 = v ∧ s ∧ K v
 | .fork j len s f => Zo s ((0 ≤ j ∧ j < (len : Int)) ∧ zaf j f K len 0)
 | .bad => False
def YR.runG (p : Bool) (r : YR) (K : AVal → Prop) : Prop := match r with
 | .ok none v => K (.cnd p v)
 | .ok (some s) v => (p = true → s) ∧ K (.cnd p v)
 | .row es i s f => ∃ r, (p = true → es.getD i [] = r ∧ s) ∧ K (.cnd p (f r))
 | .pick v0 s => ∃ v, (p = true → v0 = v ∧ s) ∧ K (.cnd p v)
 | _ => p = false ∧ K (.tup [])
def YR.and (s : Option Prop) : YR → YR
 | .ok t v => .ok (wg s t) v
 | .row es i t f => match s with
  | none => .row es i t f
  | some p => .row es i (p ∧ t) f
 | .pick v t => match s with
  | none => .pick v t
  | some p => .pick v (p ∧ t)
 | .fork j len t f => .fork j len (wg s t) f
 | .bad => .bad
def YR.Of (r : YR) (x : XR) : Prop := match r with
 | .ok s v => ∃ side, x = .ok side v ∧ (yy s → side)
 | .row es i s f => ∃ side, x = .ok side (f (es.getD i [])) ∧ (s → side)
 | .pick v s => ∃ side, x = .ok side v ∧ (s → side)
 | .fork j len s f => ∃ side v, x = .ok side v ∧ ∀ c : Nat, c < len → j = (c : Int) → yy s → side ∧ v = f c
 | .bad => True
theorem YR.Of.and {r : YR} {x : XR} {s : Option Prop} {p : Prop} (h : r.Of x) (hs : yy s → p) : (r.and s).Of (x.and p) := by
 cases r with
 | bad => trivial
 | ok t v =>
  obtain ⟨side, rfl, h1⟩ := h
  exact ⟨_, rfl, fun h => by rw [zz] at h; exact ⟨hs h.1, h1 h.2⟩⟩
 | row es i t f =>
  obtain ⟨side, rfl, h1⟩ := h
  cases s with
  | none => exact ⟨_, rfl, fun h => ⟨hs trivial, h1 h⟩⟩
  | some q => exact ⟨_, rfl, fun h => ⟨hs h.1, h1 h.2⟩⟩
 | pick v t =>
  obtain ⟨side, rfl, h1⟩ := h
  cases s with
  | none => exact ⟨_, rfl, fun h => ⟨hs trivial, h1 h⟩⟩
  | some q => exact ⟨_, rfl, fun h => ⟨hs h.1, h1 h.2⟩⟩
 | fork j len t f =>
  obtain ⟨side, v, rfl, h1⟩ := h
  exact ⟨_, v, rfl, fun c hc hj h => by
   rw [zz] at h
   obtain ⟨h2, h3⟩ := h1 c hc hj h.2
   exact ⟨⟨hs h.1, h2⟩, h3⟩⟩
theorem K8 {j : Int} {f : Nat → AVal} {K : AVal → Prop} : ∀ {k c0 : Nat}, zaf j f K k c0 → ∀ c, c0 ≤ c → c < c0 + k → j = (c : Int) → K (f c)
 | 0, c0, _, c, h1, h2, _ => by omega
 | k + 1, c0, h, c, h1, h2, h3 => by
  by_cases hc : c = c0
  ·subst hc; exact h.1 h3
  ·exact K8 h.2 c (by omega) (by omega) h3
theorem YR.Of.run {r : YR} {x : XR} (h : r.Of x) {K : AVal → Prop} (hk : r.run K) : ∃ side v, x = .ok side v ∧ side ∧ K v := by
 cases r with
 | bad => exact hk.elim
 | ok t v =>
  obtain ⟨side, rfl, h1⟩ := h
  rw [YR.run, zy] at hk
  exact ⟨_, _, rfl, h1 hk.1, hk.2⟩
 | row es i t f =>
  obtain ⟨side, rfl, h1⟩ := h
  obtain ⟨r, rfl, ht, hk⟩ := hk
  exact ⟨_, _, rfl, h1 ht, hk⟩
 | pick v t =>
  obtain ⟨side, rfl, h1⟩ := h
  obtain ⟨r, rfl, ht, hk⟩ := hk
  exact ⟨_, _, rfl, h1 ht, hk⟩
 | fork j len t f =>
  obtain ⟨side, v, rfl, h1⟩ := h
  rw [YR.run, zy] at hk
  obtain ⟨hs, ⟨h2, h3⟩, h4⟩ := hk
  obtain ⟨c, rfl⟩ := Int.eq_ofNat_of_zero_le h2
  obtain ⟨g1, rfl⟩ := h1 c (by omega) rfl hs
  exact ⟨_, _, rfl, g1, K8 h4 c (Nat.zero_le _) (by omega) rfl⟩
def zdu (op : BinOp) : AVal → AVal → YR
 | .int k a, .int k' b => match op with
  | .shl => .ok (some (0 ≤ b)) (.int k (k.wrap (a * 2 ^ (min b.toNat k.bits))))
  | .shr => .ok (some (0 ≤ b)) (.int k (a.fdiv (2 ^ (min b.toNat k.bits))))
  | op => match z6c k k' with
   | false => .bad
   | true => match op with
    | .add => .ok none (.int k (k.wrap (a + b)))
    | .sub => .ok none (.int k (k.wrap (a - b)))
    | .mul => .ok none (.int k (k.wrap (a * b)))
    | .quo => .ok (some (b ≠ 0)) (.int k (k.wrap (a.tdiv b)))
    | .rem => .ok (some (b ≠ 0)) (.int k (a.tmod b))
    | .and => .ok none (.int k (um .and k a b))
    | .or => .ok none (.int k (um .or k a b))
    | .xor => .ok none (.int k (um .xor k a b))
    | .andNot => .ok none (.int k (um .andNot k a b))
    | .eql => .ok none (.bool (a == b))
    | .neq => .ok none (.bool (a != b))
    | .lss => .ok none (.bool (decide (a < b)))
    | .leq => .ok none (.bool (decide (a ≤ b)))
    | .gtr => .ok none (.bool (decide (a > b)))
    | .geq => .ok none (.bool (decide (a ≥ b)))
    | _ => .bad
 | .str a, .str b => match op with
  | .add => .ok (some (((a.length + b.length : Nat) : Int) ≤ 9223372036854775807)) (.str (a ++ b))
  | .eql => .ok none (.bool (a == b))
  | .neq => .ok none (.bool (!(a == b)))
  | .lss => .ok none (.bool (Op.bytesLess a b))
  | .leq => .ok none (.bool (Op.bytesLess a b || a == b))
  | .gtr => .ok none (.bool (!(Op.bytesLess a b || a == b)))
  | .geq => .ok none (.bool (!(Op.bytesLess a b)))
  | _ => .bad
 | _, _ => .bad
theorem zb7 (op : BinOp) (x y : AVal) : (zdu op x y).Of (z4l op x y) := by
 cases x <;> cases y <;> simp only [zdu, z4l] <;> try trivial
 case int.int k a k' b =>
  cases op <;> simp only <;> (try exact ⟨_, rfl, fun h => h⟩) <;> (cases hk : z6c k k' <;> simp only <;> (try trivial) <;> (have hk := Wm hk; subst hk)) <;>
   first | exact ⟨_, rfl, fun _ => rfl⟩ | exact ⟨_, rfl, fun h => ⟨rfl, h⟩⟩
 case str.str a b =>
  cases op <;> simp only <;> first | trivial | exact ⟨_, rfl, fun _ => trivial⟩ | exact ⟨_, rfl, fun h => h⟩
def XR.toY : XR → YR
 | .ok s v => .ok (some s) v
 | .bad => .bad
theorem XR.toY_of (x : XR) : x.toY.Of x := by
 cases x with
 | ok s v => exact ⟨s, rfl, fun h => h⟩
 | bad => trivial
def XR.toY0 : XR → YR
 | .ok _ v => .ok none v
 | .bad => .bad
theorem XR.toY0_of {x : XR} (h : ∀ s v, x = .ok s v → s) : x.toY0.Of x := by
 cases x with
 | ok s v => exact ⟨s, rfl, fun _ => h s v rfl⟩
 | bad => trivial
def zdc : AVal → AVal → YR := fun a b => (z7x a b).toY0
def V7 : AVal → AVal → YR
 | .val (.slice none 0 0), .isl _ es _ => .ok (some (es ≠ [])) (.bool false)
 | .isl _ es _, .val (.slice none 0 0) => .ok (some (es ≠ [])) (.bool false)
 | .val (.slice none 0 0), .msl _ _ _ len _ => .ok (some (len ≠ 0)) (.bool false)
 | .msl _ _ _ len _, .val (.slice none 0 0) => .ok (some (len ≠ 0)) (.bool false)
 | a, b => (Y3 a b).toY0
theorem z0t (a b : AVal) : (V7 a b).Of (Y3 a b) := by
 unfold V7
 split
 ·exact ⟨_, rfl, fun h => h⟩
 ·exact ⟨_, rfl, fun h => h⟩
 ·exact ⟨_, rfl, fun h => h⟩
 ·exact ⟨_, rfl, fun h => h⟩
 ·rename_i h1 h2 h3 h4
  refine XR.toY0_of fun s v h => ?_
  unfold Y3 at h
  split at h <;> simp only [XR.ok.injEq, reduceCtorEq] at h <;> (try (obtain ⟨rfl, _⟩ := h; trivial))
  ·exact absurd rfl (h3 _ _ _ _ _ rfl)
  ·exact absurd rfl (h4 _ _ _ _ _ · rfl)
  ·exact absurd rfl (h1 _ _ _ rfl)
  ·exact absurd rfl (h2 _ _ _ · rfl)
def zcn (k : EqK) (x y : AVal) : YR :=
 match k with
 | .bool => match x, y with
  | .bool a, .bool b => .ok none (.bool (a == b))
  | _, _ => .bad
 | .ptr => zdc x y
 | .slice => V7 x.rd y.rd
 | .map => (Q0 x y).toY0
 | .agg ks => (z6d ks x y).toY0
 | .ifc => (Vg x y).toY0
 | .fnc => (Kl x y).toY0
 | _ => .bad
def YR.neg : YR → YR
 | .ok s (.bool b) => .ok s (.bool (!b))
 | _ => .bad
def yeq (neg : Bool) (k : EqK) (x y : AVal) : YR := match neg with
 | true => (zcn k x y).neg
 | false => zcn k x y
theorem zb1 (k : EqK) (x y : AVal) : (zcn k x y).Of (z6q k x y) := by
 cases k <;> simp only [zcn, z6q] <;> try trivial
 case bool => cases x <;> cases y <;> first | trivial | exact ⟨_, rfl, fun _ => trivial⟩
 case ptr =>
  refine XR.toY0_of fun s v h => ?_
  unfold z7x at h
  split at h <;> simp only [XR.ok.injEq, reduceCtorEq] at h <;> (obtain ⟨rfl, _⟩ := h; trivial)
 case slice => exact z0t _ _
 case map =>
  refine XR.toY0_of fun s v h => ?_
  unfold Q0 at h
  split at h <;> simp only [XR.ok.injEq, reduceCtorEq] at h <;> (obtain ⟨rfl, _⟩ := h; trivial)
 case agg ks =>
  refine XR.toY0_of fun s v h => ?_
  unfold z6d at h
  split at h <;> (try split at h) <;> simp only [XR.ok.injEq, reduceCtorEq] at h <;> (obtain ⟨rfl, _⟩ := h; trivial)
 case ifc =>
  refine XR.toY0_of fun s v h => ?_
  unfold Vg at h
  split at h <;> simp only [XR.ok.injEq, reduceCtorEq] at h <;> (obtain ⟨rfl, _⟩ := h; trivial)
 case fnc =>
  refine XR.toY0_of fun s v h => ?_
  unfold Kl at h
  split at h <;> simp only [XR.ok.injEq, reduceCtorEq] at h <;> (obtain ⟨rfl, _⟩ := h; trivial)
theorem zcp (neg : Bool) (k : EqK) (x y : AVal) : (yeq neg k x y).Of (xeq neg k x y) := by
 have h := zb1 k x y
 cases neg with
 | false => simpa [yeq, xeq] using h
 | true =>
  simp only [yeq, xeq, if_true]
  cases hr : zcn k x y with
  | ok s v =>
   rw [hr] at h
   obtain ⟨side, hx, hs⟩ := h
   cases v <;> simp only [YR.neg] <;> try trivial
   rw [hx]
   exact ⟨side, rfl, hs⟩
  | _ => simp only [YR.neg]; trivial
def zav (agg : Bool) (n : Nat) (H : AHeap) : AVal → YR
 | .iptr s es i off => .row es i (i < es.length ∧ off + n ≤ s) (zq agg n off)
 | .ptr b i off => match H.get b with
  | some (.rows s es) => .row es i (i < es.length ∧ off + n ≤ s) (zq agg n off)
  | some (.one cs) => match i, Nat.ble (off + n) cs.length with
   | 0, true => .ok none (zq agg n off cs)
   | _, _ => .bad
  | _ => .bad
 | _ => .bad
theorem z7n (g : Bool) (n : Nat) (H : AHeap) (x : AVal) : (zav g n H x).Of (Yw g n H x) := by
 cases x <;> simp only [zav, Yw] <;> try trivial
 case iptr s es i off => exact ⟨_, rfl, fun h => h⟩
 case ptr b i off =>
  split
  ·rename_i hb
   rw [hb]
   exact ⟨_, rfl, fun h => h⟩
  ·rename_i hb
   rw [hb]
   split
   ·rename_i h
    exact ⟨_, rfl, fun _ => ⟨rfl, Nat.le_of_ble_eq_true h⟩⟩
   ·trivial
  ·trivial
def z4n (agg : Bool) (n off : Nat) : AVal → YR
 | .agg cs => match Nat.ble (off + n) cs.length with
  | true => .ok none (zq agg n off cs)
  | false => .bad
 | _ => .bad
theorem z4r (g : Bool) (n off : Nat) (x : AVal) : (z4n g n off x).Of (Jx g n off x) := by
 cases x <;> simp only [z4n, Jx] <;> try trivial
 split
 ·rename_i h; exact ⟨_, rfl, fun _ => Nat.le_of_ble_eq_true h⟩
 ·trivial
def z5f (s : Nat) : AVal → AVal → YR
 | .isl s' es _, .int _ j => match Nat.beq s s' with
  | true => .ok (some (0 ≤ j ∧ j < (es.length : Int))) (.iptr s' es j.toNat 0)
  | false => .bad
 | .msl b s' off len _, .int _ j => match Nat.beq s s' with
  | true => .ok (some (0 ≤ j ∧ j < (len : Int))) (.ptr b (off + j.toNat) 0)
  | false => .bad
 | _, _ => .bad
theorem z3m (s : Nat) (x y : AVal) : (z5f s x y).Of (X9 s x y) := by
 cases x <;> cases y <;> simp only [z5f, X9] <;> try trivial
 all_goals
  split
  ·rename_i h; exact ⟨_, rfl, fun hh => ⟨Nat.eq_of_beq_eq_true h, hh⟩⟩
  ·trivial
def Un (len s : Nat) (H : AHeap) : AVal → AVal → YR
 | .ptr b i 0, .int _ j => match H.get b with
  | some (.rows s' _) => match Nat.beq s s' with
   | true => .ok (some (0 ≤ j ∧ j < (len : Int))) (.ptr b (i + j.toNat) 0)
   | false => .bad
  | _ => .bad
 | _, _ => .bad
theorem z36 (len s : Nat) (H : AHeap) (x y : AVal) : (Un len s H x y).Of (ub len s H x y) := by
 unfold Un ub
 split
 ·split
  ·rename_i hg
   split
   ·rename_i h
    simp only [hg]
    exact ⟨_, rfl, fun hh => ⟨Nat.eq_of_beq_eq_true h, hh⟩⟩
   ·trivial
  ·trivial
 ·trivial
def z0g (len s : Nat) (x : AVal) : LOpd → AVal → YR
 | .c (.int _ (.ofNat c)), _ => match Nat.ble (c + 1) len, x with
  | true, .iptr s' es i o => .ok none (.iptr s' es i (o + c * s))
  | true, .ptr b i o => .ok none (.ptr b i (o + c * s))
  | _, _ => .bad
 | _, .int _ j => match x with
  | .iptr s' es i o => .fork j len none (fun c => .iptr s' es i (o + c * s))
  | .ptr b i o => .fork j len none (fun c => .ptr b i (o + c * s))
  | _ => .bad
 | _, _ => .bad
theorem z30 (len s : Nat) (x : AVal) (e : Env) (i : LOpd) : (z0g len s x i (i.ev e)).Of (Qt len s x (i.ev e)) := by
 unfold z0g
 split
 ·rename_i k c
  split
  ·rename_i h
   exact ⟨_, rfl, fun _ => ⟨Int.natCast_nonneg c, by have := Nat.le_of_ble_eq_true h; simp; omega⟩⟩
  ·rename_i h
   exact ⟨_, rfl, fun _ => ⟨Int.natCast_nonneg c, by have := Nat.le_of_ble_eq_true h; simp; omega⟩⟩
  ·trivial
 ·rename_i j _ heq
  rw [heq]
  split
  ·exact ⟨_, _, rfl, fun c hc hj _ => ⟨by omega, by subst hj; simp⟩⟩
  ·exact ⟨_, _, rfl, fun c hc hj _ => ⟨by omega, by subst hj; simp⟩⟩
  ·trivial
 ·trivial
def zb4 (len s : Nat) (agg : Bool) (x : AVal) : LOpd → AVal → YR
 | .c (.int _ (.ofNat c)), _ => match x with
  | .agg cs => match Nat.ble (c + 1) len && Nat.ble (c * s + s) cs.length with
   | true => .ok none (zq agg s (c * s) cs)
   | false => .bad
  | _ => .bad
 | _, .int _ j => match x with
  | .agg cs => .pick (zq agg s (j.toNat * s) cs) (0 ≤ j ∧ j < (len : Int) ∧ (j.toNat * s) + s ≤ cs.length)
  | _ => .bad
 | _, _ => .bad
theorem z83 (len s : Nat) (g : Bool) (x : AVal) (e : Env) (i : LOpd) : (zb4 len s g x i (i.ev e)).Of (z6m len s g x (i.ev e)) := by
 unfold zb4
 split
 ·split
  ·split
   ·rename_i h
    simp only [Bool.and_eq_true] at h
    have h1 := Nat.le_of_ble_eq_true h.1
    have h2 := Nat.le_of_ble_eq_true h.2
    rename_i c _ _ _ _
    exact ⟨_, rfl, fun _ => ⟨Int.natCast_nonneg _, by simp; omega, by simpa using h2⟩⟩
   ·trivial
  ·trivial
 ·rename_i j _ heq
  rw [heq]
  split
  ·exact ⟨_, rfl, fun h => h⟩
  ·trivial
 ·trivial
def zen (k : Nat) : AVal → YR
 | .tup cs => match Nat.ble (k + 1) cs.length with
  | true => .ok none (cs.getD k .any)
  | false => .bad
 | _ => .bad
theorem zad (k : Nat) (x : AVal) : (zen k x).Of (zbf k x) := by
 cases x <;> simp only [zen, zbf] <;> try trivial
 split
 ·rename_i h; exact ⟨_, rfl, fun _ => Nat.le_of_ble_eq_true h⟩
 ·trivial
def zax (c : Bool) : AVal → AVal → Option AVal
 | .bool a, .bool b => some (.bool (bif c then a else b))
 | .int k a, .int k' b => match z6c k k' with
  | true => some (.int k (bif c then a else b))
  | false => none
 | .str a, .str b => some (.str (bif c then a else b))
 | _, _ => none
theorem z8a {c : Bool} {a b v : AVal} (h : zax c a b = some v) : z9y c a b = v := by
 cases a <;> cases b <;> simp only [zax] at h <;> try (cases h; done)
 ·simp only [Option.some.injEq] at h; subst h; cases c <;> rfl
 ·split at h <;> try (cases h; done)
  rename_i hk
  have hk := Wm hk
  subst hk
  simp only [Option.some.injEq] at h
  subst h; cases c <;> rfl
 ·simp only [Option.some.injEq] at h; subst h; cases c <;> rfl
def z87 (c want : Bool) : Option Prop → Option Prop
 | none => none
 | some p => some (c = want → p)
theorem U8 (c want : Bool) (p : Option Prop) : yy (z87 c want p) ↔ (c = want → yy p) := by cases p <;> simp [z87, yy]
def z6u (c : Bool) (e : Env) : LOpd → LOpd → Option AVal
 | .c (.bool true), b => match b.ev e with
  | .bool y => some (.bool (c || y))
  | _ => none
 | a, .c (.bool false) => match a.ev e with
  | .bool x => some (.bool (c && x))
  | _ => none
 | a, b => zax c (a.ev e) (b.ev e)
theorem z3q {c : Bool} {e : Env} {a b : LOpd} {v : AVal} (h : z6u c e a b = some v) : z9y c (a.ev e) (b.ev e) = v := by
 unfold z6u at h
 split at h
 ·split at h <;> try (cases h; done)
  rename_i y hy
  simp only [Option.some.injEq] at h
  subst h
  rw [hy]
  cases c <;> rfl
 ·split at h <;> try (cases h; done)
  rename_i x hx
  simp only [Option.some.injEq] at h
  subst h
  rw [hx]
  cases c <;> rfl
 ·exact z8a h
def z90 (e : Env) (na nb : Option Prop) (c : AVal) (a b : LOpd) : YR := match c with
 | .bool c => match z6u c e a b with
  | some v => .ok (wg (z87 c true na) (z87 c false nb)) v
  | none => .bad
 | _ => .bad
def Vu (cells : List AVal) : List (Nat × Nat × AVal) → YR
 | [] => .ok none (.agg cells)
 | (off, n, x) :: r => match x.cells? with
  | some cs => match Nat.beq cs.length n && Nat.ble (off + n) cells.length with
   | true => Vu (yv cells off cs) r
   | false => .bad
  | none => .bad
theorem Kd : ∀ (parts : List (Nat × Nat × AVal)) (cells : List AVal), (Vu cells parts).Of (jv cells parts)
 | [], cells => ⟨_, rfl, fun _ => trivial⟩
 | (off, n, x) :: r, cells => by
  simp only [Vu, jv]
  split
  ·rename_i cs hc
   simp only [hc]
   split
   ·rename_i h
    simp only [Bool.and_eq_true] at h
    have h1 := Nat.eq_of_beq_eq_true h.1
    have h2 := Nat.le_of_ble_eq_true h.2
    have ih := Kd r (yv cells off cs)
    cases hy : Vu (yv cells off cs) r with
    | ok s v =>
     rw [hy] at ih
     obtain ⟨side, hx, hs⟩ := ih
     rw [hx]
     exact ⟨_, rfl, fun h => ⟨h1, h2, hs h⟩⟩
    | bad => trivial
    | row es i s f =>
     rw [hy] at ih
     obtain ⟨side, hx, hs⟩ := ih
     rw [hx]
     exact ⟨_, rfl, fun h => ⟨h1, h2, hs h⟩⟩
    | pick v s =>
     rw [hy] at ih
     obtain ⟨side, hx, hs⟩ := ih
     rw [hx]
     exact ⟨_, rfl, fun h => ⟨h1, h2, hs h⟩⟩
    | fork j len s f =>
     rw [hy] at ih
     obtain ⟨side, v, hx, hs⟩ := ih
     rw [hx]
     exact ⟨_, _, rfl, fun c hc hj h => ⟨⟨h1, h2, (hs c hc hj h).1⟩, (hs c hc hj h).2⟩⟩
   ·trivial
  ·trivial
def zcq (lo hi : Nat → Option Int) : AVal → YR := fun x => (Jo lo hi x).toY
def XR.toP : XR → YR
 | .ok s v => .pick v s
 | .bad => .bad
theorem XR.toP_of (x : XR) : x.toP.Of x := by
 cases x with
 | ok s v => exact ⟨s, rfl, fun h => h⟩
 | bad => trivial
def zfk (s : Nat) (lo hi : Nat → Option Int) (mx : Option (Option Int)) (keep : Bool) : AVal → YR := fun x => (z4y s lo hi mx keep x).toP
def zbg (isMax : Bool) : AVal → List AVal → YR
 | v, [] => .ok none v
 | .int k a, .int k' b :: r => match z6c k k' with
  | true => zbg isMax (.int k (if isMax then (if b > a then b else a) else (if b < a then b else a))) r
  | false => .bad
 | _, _ => .bad
theorem z4w (m : Bool) : ∀ (l : List AVal) (v : AVal), (zbg m v l).Of (z4d m v l)
 | [], v => by simp only [zbg, z4d]; exact ⟨_, rfl, fun _ => trivial⟩
 | y :: r, v => by
  cases v <;> cases y <;> try trivial
  rename_i k a k' b
  simp only [zbg, z4d]
  split
  ·rename_i hk
   have hk := Wm hk
   subst hk
   have ih := z4w m r (.int k (if m then (if b > a then b else a) else (if b < a then b else a)))
   cases hy : zbg m (.int k (if m then (if b > a then b else a) else (if b < a then b else a))) r with
   | ok s v =>
    rw [hy] at ih
    obtain ⟨side, hx, hs⟩ := ih
    rw [hx]
    exact ⟨_, rfl, fun h => ⟨rfl, hs h⟩⟩
   | bad => trivial
   | row es i s f =>
    rw [hy] at ih
    obtain ⟨side, hx, hs⟩ := ih
    rw [hx]
    exact ⟨_, rfl, fun h => ⟨rfl, hs h⟩⟩
   | pick v s =>
    rw [hy] at ih
    obtain ⟨side, hx, hs⟩ := ih
    rw [hx]
    exact ⟨_, rfl, fun h => ⟨rfl, hs h⟩⟩
   | fork j len s f =>
    rw [hy] at ih
    obtain ⟨side, v, hx, hs⟩ := ih
    rw [hx]
    exact ⟨_, _, rfl, fun c hc hj h => ⟨⟨rfl, (hs c hc hj h).1⟩, (hs c hc hj h).2⟩⟩
  ·trivial
def zc7 (isMax : Bool) : List AVal → YR
 | .int k a :: r => zbg isMax (.int k a) r
 | _ => .bad
def z52 (ks : List CK) (ka g ok : Bool) (zs : List AVal) (H : AHeap) (k : AVal) : AVal → YR
 | .val (.map none) => match kc ks ka k with
  | true => .ok none (z94 g ok zs none)
  | false => .bad
 | .map b => match H.get b with
  | some (.amap es) => match kc ks ka k with
   | true => .pick (z94 g ok zs ((Xx ks k es).getD none)) ((Xx ks k es).isSome = true)
   | false => .bad
  | _ => .bad
 | _ => .bad
theorem z62 (ks : List CK) (ka g ok : Bool) (zs : List AVal) (H : AHeap) (k x : AVal) : (z52 ks ka g ok zs H k x).Of (Yq ks ka g ok zs H k x) := by
 unfold z52 Yq
 split
 ·split
  ·rename_i h; rw [if_pos h]; exact ⟨_, rfl, fun _ => trivial⟩
  ·trivial
 ·split
  ·rename_i hg
   split
   ·rename_i h; simp only [hg]; rw [if_pos h]; exact ⟨_, rfl, fun h => h⟩
   ·trivial
  ·trivial
 ·trivial
def Xz (e : Env) (H : AHeap) : LOp → YR
 | .mv x => .ok (x.needY e) (x.ev e)
 | .pick c a b => (z90 e (a.needY e) (b.needY e) (c.ev e) a b).and (c.needY e)
 | .build zs parts => (Vu zs (yx e parts)).and (Ua e parts)
 | .load g n a => (zav g n H (a.ev e)).and (a.needY e)
 | .nilck x => (Jg (x.ev e)).toY0.and (x.needY e)
 | .bin op x y => (zdu op (x.ev e) (y.ev e)).and (wg (x.needY e) (y.needY e))
 | .eq neg k x y => (yeq neg k (x.ev e) (y.ev e)).and (wg (x.needY e) (y.needY e))
 | .un op x => (xun op (x.ev e)).toY0.and (x.needY e)
 | .conv (.int k) x => match x.ev e with
  | .int _ n => .ok (x.needY e) (.int k (k.wrap n))
  | _ => .bad
 | .conv .same x => match x.ev e with
  | .str l => .ok (x.needY e) (.str l)
  | _ => .bad
 | .mkfn f a c => .ok (wg (Zk e a) (Zk e c)) (.fn f (evs e a) (evs e c))
 | .slStr x lo hi => (zcq (fun d => y1 e d lo) (fun d => y1 e d hi) (x.ev e)).and (wg (x.needY e) (wg (Xh e lo) (Xh e hi)))
 | .slSl s x lo hi mx => (zfk s (fun d => y1 e d lo) (fun d => y1 e d hi) (Xy e mx) (hi.isNone && mx.isNone) (x.ev e)).and (wg (x.needY e) (wg (Xh e lo) (wg (Xh e hi) (Xh e mx))))
 | .slAr n s x => (z26 n s H (x.ev e)).toP.and (x.needY e)
 | .faddr off x => (W5 off (x.ev e)).toY0.and (x.needY e)
 | .field g n off x => (z4n g n off (x.ev e)).and (x.needY e)
 | .iaddr s x i => (z5f s (x.ev e).rd (i.ev e)).and (wg (x.needY e) (i.needY e))
 | .iaddrA n s x i => (z0g n s (x.ev e) i (i.ev e)).and (wg (x.needY e) (i.needY e))
 | .iaddrR n s x i => (Un n s H (x.ev e) (i.ev e)).and (wg (x.needY e) (i.needY e))
 | .idxS x i => (z5o (x.ev e) (i.ev e)).toY.and (wg (x.needY e) (i.needY e))
 | .idxA n s g x i => (zb4 n s g (x.ev e) i (i.ev e)).and (wg (x.needY e) (i.needY e))
 | .ext k x => (zen k (x.ev e)).and (x.needY e)
 | .len true x => (z2j (x.ev e)).toY0.and (x.needY e)
 | .len false x => (z0a (x.ev e).rd).toY0.and (x.needY e)
 | .mnx m args => (zc7 m (evs e args)).and (Zk e args)
 | .mlook ks ka g ok zs x k => (z52 ks ka g ok zs H (k.ev e) (x.ev e)).and (wg (x.needY e) (k.needY e))
 | .mlen x => (z0r H (x.ev e)).toY0.and (x.needY e)
 | _ => .bad
theorem ju (e : Env) (H : AHeap) (op : LOp) : (Xz e H op).Of (y7 e H op) := by
 have h2 : ∀ {x y : LOpd}, yy (wg (x.needY e) (y.needY e)) → x.need e ∧ y.need e := fun h => by rw [zz, za, za] at h; exact h
 cases op <;> simp only [Xz, y7] <;> try trivial
 case mv x => exact ⟨_, rfl, (za e x).1⟩
 case pick c a b =>
  refine YR.Of.and ?_ (za e c).1
  unfold z90 z8h
  split
  ·rename_i cc hcc
   simp only [hcc]
   split
   ·rename_i v hv
    rw [z3q hv]
    refine ⟨_, rfl, fun h => ?_⟩
    rw [zz, U8, U8, za, za] at h
    exact h
   ·trivial
  ·trivial
 case build zs parts => exact (Kd _ _).and (Jq e parts).1
 case load g n a => exact (z7n _ _ _ _).and (za e a).1
 case nilck x =>
  refine YR.Of.and (XR.toY0_of fun s v h => ?_) (za e x).1
  unfold Jg at h
  split at h <;> simp only [XR.ok.injEq, reduceCtorEq] at h <;> (obtain ⟨rfl, _⟩ := h; trivial)
 case bin op x y => exact (zb7 _ _ _).and h2
 case eq neg k x y => exact (zcp _ _ _ _).and h2
 case mlook ks ka g ok zs x k => exact (z62 _ _ _ _ _ _ _ _).and h2
 case mlen x =>
  refine YR.Of.and (XR.toY0_of fun s v h => ?_) (za e x).1
  unfold z0r at h
  split at h <;> (try split at h) <;> simp only [XR.ok.injEq, reduceCtorEq] at h <;> (obtain ⟨rfl, _⟩ := h; trivial)
 case un op x =>
  refine YR.Of.and (XR.toY0_of fun s v h => ?_) (za e x).1
  unfold xun at h
  split at h <;> (try split at h) <;> simp only [XR.ok.injEq, reduceCtorEq] at h <;> (obtain ⟨rfl, _⟩ := h; trivial)
 case conv k x =>
  cases k <;> simp only <;> try trivial
  ·split
   ·rename_i h; simp only [h]; exact ⟨_, rfl, (za e x).1⟩
   ·trivial
  ·split
   ·rename_i h; simp only [h]; exact ⟨_, rfl, (za e x).1⟩
   ·trivial
 case mkfn f a c => exact ⟨_, rfl, fun h => by rw [zz, j8, j8] at h; exact h⟩
 case slStr x lo hi => exact (XR.toY_of _).and (fun h => by rw [zz, zz, za, wc, wc] at h; exact h)
 case slSl s x lo hi mx => exact (XR.toP_of _).and (fun h => by rw [zz, zz, zz, za, wc, wc, wc] at h; exact h)
 case slAr k s x => exact (XR.toP_of _).and (za e x).1
 case faddr off x =>
  refine YR.Of.and (XR.toY0_of fun s v h => ?_) (za e x).1
  unfold W5 at h
  split at h <;> simp only [XR.ok.injEq, reduceCtorEq] at h <;> (obtain ⟨rfl, _⟩ := h; trivial)
 case field g n off x => exact (z4r _ _ _ _).and (za e x).1
 case iaddr s x i => exact (z3m _ _ _).and h2
 case iaddrA n s x i => exact (z30 _ _ _ _ _).and h2
 case iaddrR n s x i => exact (z36 _ _ _ _ _).and h2
 case idxS x i => exact (XR.toY_of _).and h2
 case idxA n s g x i => exact (z83 _ _ _ _ _ _).and h2
 case ext k x => exact (zad _ _).and (za e x).1
 case len st x =>
  cases st with
  | true =>
   refine YR.Of.and (XR.toY0_of fun s v h => ?_) (za e x).1
   unfold z2j at h
   split at h <;> simp only [XR.ok.injEq, reduceCtorEq] at h <;> (obtain ⟨rfl, _⟩ := h; trivial)
  | false =>
   refine YR.Of.and (XR.toY0_of fun s v h => ?_) (za e x).1
   unfold z0a at h
   split at h <;> simp only [XR.ok.injEq, reduceCtorEq] at h <;> (obtain ⟨rfl, _⟩ := h; trivial)
 case mnx m args =>
  refine YR.Of.and ?_ (j8 e args).1
  unfold zc7 z6a
  split
  ·rename_i h; simp only [h]; exact z4w _ _ _
  ·trivial
end Go.Fx
