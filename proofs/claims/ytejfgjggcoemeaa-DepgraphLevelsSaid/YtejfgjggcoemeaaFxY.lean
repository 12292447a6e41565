/-
  Own framework.
-/
import Derived.Test.YtejfgjggcoemeaaFxM2
namespace Go.Fx
set_option linter.unusedVariables false
def Jp : Option Prop → Prop → Prop
 | none, q => q
 | some p, q => p ∧ q
def Yd : Option Prop → Option Prop → Option Prop
 | none, y => y
 | some a, none => some a
 | some a, some b => some (a ∧ b)
def wt : Option Prop → Prop
 | none => True
 | some p => p
theorem xk (s : Option Prop) (q : Prop) : Jp s q ↔ wt s ∧ q := by cases s <;> simp [Jp, wt]
theorem xl (a b : Option Prop) : wt (Yd a b) ↔ wt a ∧ wt b := by cases a <;> cases b <;> simp [Yd, wt]
def AVal.needY : AVal → Option Prop
 | .cnd p _ => some (p = true)
 | _ => none
theorem zdp (x : AVal) : wt x.needY ↔ x.need := by cases x <;> simp [AVal.needY, AVal.need, wt]
def LOpd.needY (e : Env) : LOpd → Option Prop
 | .t i => (e.get i).needY
 | .c _ => none
theorem zh (e : Env) (x : LOpd) : wt (x.needY e) ↔ x.need e := by
 cases x with
 | t i => exact zdp _
 | c v => simp [LOpd.needY, LOpd.need, wt]
def Jo (e : Env) : List LOpd → Option Prop
 | [] => none
 | x :: r => Yd (x.needY e) (Jo e r)
theorem Z7 (e : Env) : ∀ l, wt (Jo e l) ↔ J5 e l
 | [] => by simp [Jo, J5, wt]
 | x :: r => by simp [Jo, J5, xl, zh, Z7 e r]
def Uh (e : Env) : Option LOpd → Option Prop
 | none => none
 | some x => x.needY e
theorem Y9 (e : Env) (x : Option LOpd) : wt (Uh e x) ↔ Yq e x := by
 cases x with
 | none => simp [Uh, Yq, wt]
 | some x => exact zh e x
def z5c (e : Env) : List (Nat × Nat × LOpd) → Option Prop
 | [] => none
 | (_, _, x) :: r => Yd (x.needY e) (z5c e r)
theorem z00 (e : Env) : ∀ l, wt (z5c e l) ↔ wl e l
 | [] => by simp [z5c, wl, wt]
 | (_, _, x) :: r => by simp [z5c, wl, xl, zh, z00 e r]
def z08 (e : Env) : List (Nat × LOpd) → Option Prop
 | [] => none
 | (_, x) :: r => Yd (x.needY e) (z08 e r)
theorem Wb (e : Env) : ∀ l, wt (z08 e l) ↔ V4 e l
 | [] => by simp [z08, V4, wt]
 | (_, x) :: r => by simp [z08, V4, xl, zh, Wb e r]
def zg4 : IntKind → IntKind → Bool
 | .i8, .i8 | .i16, .i16 | .i32, .i32 | .i64, .i64 | .u8, .u8 | .u16, .u16 | .u32, .u32 | .u64, .u64 => true
 | _, _ => false
theorem z2j {a b : IntKind} (h : zg4 a b = true) : a = b := by cases a <;> cases b <;> first | rfl | cases h
inductive YR where
 | ok (side : Option Prop) (v : AVal)
 | row (es : List (List AVal)) (i : Nat) (side : Prop) (f : List AVal → AVal)
 | pick (v : AVal) (side : Prop)
 | fork (j : Int) (len : Nat) (side : Option Prop) (f : Nat → AVal)
 | bad
def zl5 (j : Int) (f : Nat → AVal) (K : AVal → Prop) : Nat → Nat → Prop
 | 0, _ => True
 | k + 1, c => (j = (c : Int) → K (f c)) ∧ zl5 j f K k (c + 1)
def YR.run (r : YR) (K : AVal → Prop) : Prop := match r with
 | .ok s v => Jp s (K v)
 | .row es i s f => ∃ r, es.getD i [] = r ∧ s ∧ K (f r)
 | .pick v0 s => ∃ v, v0 = v ∧ s ∧ K v
 | .fork j len s f => Jp s ((0 ≤ j ∧ j < (len : Int)) ∧ zl5 j f K len 0)
 | .bad => False
def YR.runG (p : Bool) (r : YR) (K : AVal → Prop) : Prop := match r with
 | .ok none v => K (.cnd p v)
 | .ok (some s) v => (p = true → s) ∧ K (.cnd p v)
 | .row es i s f => ∃ r, (p = true → es.getD i [] = r ∧ s) ∧ K (.cnd p (f r))
 | .pick v0 s => ∃ v, (p = true → v0 = v ∧ s) ∧ K (.cnd p v)
 | _ => p = false ∧ K (.tup [])
def YR.and (s : Option Prop) : YR → YR
 | .ok t v => .ok (Yd s t) v
 | .row es i t f => match s with
  | none => .row es i t f
  | some p => .row es i (p ∧ t) f
 | .pick v t => match s with
  | none => .pick v t
  | some p => .pick v (p ∧ t)
 | .fork j len t f => .fork j len (Yd s t) f
 | .bad => .bad
def YR.Of (r : YR) (x : XR) : Prop := match r with
 | .ok s v => ∃ side, x = .ok side v ∧ (wt s → side)
 | .row es i s f => ∃ side, x = .ok side (f (es.getD i [])) ∧ (s → side)
 | .pick v s => ∃ side, x = .ok side v ∧ (s → side)
 | .fork j len s f => ∃ side v, x = .ok side v ∧ ∀ c : Nat, c < len → j = (c : Int) → wt s → side ∧ v = f c
 | .bad => True
theorem YR.Of.and {r : YR} {x : XR} {s : Option Prop} {p : Prop} (h : r.Of x) (hs : wt s → p) : (r.and s).Of (x.and p) := by
 cases r with
 | bad => trivial
 | ok t v =>
  obtain ⟨side, rfl, h1⟩ := h
  exact ⟨_, rfl, fun h => by rw [xl] at h; exact ⟨hs h.1, h1 h.2⟩⟩
 | row es i t f =>
  obtain ⟨side, rfl, h1⟩ := h
  cases s with
  | none => exact ⟨_, rfl, fun h => ⟨hs trivial, h1 h⟩⟩
  | some q => exact ⟨_, rfl, fun h => ⟨hs h.1, h1 h.2⟩⟩
 | pick v t =>
  obtain ⟨side, rfl, h1⟩ := h
  cases s with
  | none => exact ⟨_, rfl, fun h => ⟨hs trivial, h1 h⟩⟩
  | some q => exact ⟨_, rfl, fun h => ⟨hs h.1, h1 h.2⟩⟩
 | fork j len t f =>
  obtain ⟨side, v, rfl, h1⟩ := h
  exact ⟨_, v, rfl, fun c hc hj h => by
   rw [xl] at h
   obtain ⟨h2, h3⟩ := h1 c hc hj h.2
   exact ⟨⟨hs h.1, h2⟩, h3⟩⟩
theorem z2z {j : Int} {f : Nat → AVal} {K : AVal → Prop} : ∀ {k c0 : Nat}, zl5 j f K k c0 → ∀ c, c0 ≤ c → c < c0 + k → j = (c : Int) → K (f c)
 | 0, c0, _, c, h1, h2, _ => by omega
 | k + 1, c0, h, c, h1, h2, h3 => by
  by_cases hc : c = c0
  ·subst hc; exact h.1 h3
  ·exact z2z h.2 c (by omega) (by omega) h3
theorem YR.Of.run {r : YR} {x : XR} (h : r.Of x) {K : AVal → Prop} (hk : r.run K) : ∃ side v, x = .ok side v ∧ side ∧ K v := by
 cases r with
 | bad => exact hk.elim
 | ok t v =>
  obtain ⟨side, rfl, h1⟩ := h
  rw [YR.run, xk] at hk
  exact ⟨_, _, rfl, h1 hk.1, hk.2⟩
 | row es i t f =>
  obtain ⟨side, rfl, h1⟩ := h
  obtain ⟨r, rfl, ht, hk⟩ := hk
  exact ⟨_, _, rfl, h1 ht, hk⟩
 | pick v t =>
  obtain ⟨side, rfl, h1⟩ := h
  obtain ⟨r, rfl, ht, hk⟩ := hk
  exact ⟨_, _, rfl, h1 ht, hk⟩
 | fork j len t f =>
  obtain ⟨side, v, rfl, h1⟩ := h
  rw [YR.run, xk] at hk
  obtain ⟨hs, ⟨h2, h3⟩, h4⟩ := hk
  obtain ⟨c, rfl⟩ := Int.eq_ofNat_of_zero_le h2
  obtain ⟨g1, rfl⟩ := h1 c (by omega) rfl hs
  exact ⟨_, _, rfl, g1, z2z h4 c (Nat.zero_le _) (by omega) rfl⟩
def zqa (op : BinOp) : AVal → AVal → YR
 | .int k a, .int k' b => match op with
  | .shl => .ok (some (0 ≤ b)) (.int k (k.wrap (a * 2 ^ (min b.toNat k.bits))))
  | .shr => .ok (some (0 ≤ b)) (.int k (a.fdiv (2 ^ (min b.toNat k.bits))))
  | op => match zg4 k k' with
   | false => .bad
   | true => match op with
    | .add => .ok none (.int k (k.wrap (a + b)))
    | .sub => .ok none (.int k (k.wrap (a - b)))
    | .mul => .ok none (.int k (k.wrap (a * b)))
    | .quo => .ok (some (b ≠ 0)) (.int k (k.wrap (a.tdiv b)))
    | .rem => .ok (some (b ≠ 0)) (.int k (a.tmod b))
    | .and => .ok none (.int k (Uu .and k a b))
    | .or => .ok none (.int k (Uu .or k a b))
    | .xor => .ok none (.int k (Uu .xor k a b))
    | .andNot => .ok none (.int k (Uu .andNot k a b))
    | .eql => .ok none (.bool (a == b))
    | .neq => .ok none (.bool (a != b))
    | .lss => .ok none (.bool (decide (a < b)))
    | .leq => .ok none (.bool (decide (a ≤ b)))
    | .gtr => .ok none (.bool (decide (a > b)))
    | .geq => .ok none (.bool (decide (a ≥ b)))
    | _ => .bad
 | .str a, .str b => match op with
  | .add => .ok (some (((a.length + b.length : Nat) : Int) ≤ 9223372036854775807)) (.str (a ++ b))
  | .eql => .ok none (.bool (a == b))
  | .neq => .ok none (.bool (!(a == b)))
  | .lss => .ok none (.bool (Op.bytesLess a b))
  | .leq => .ok none (.bool (Op.bytesLess a b || a == b))
  | .gtr => .ok none (.bool (!(Op.bytesLess a b || a == b)))
  | .geq => .ok none (.bool (!(Op.bytesLess a b)))
  | _ => .bad
 | _, _ => .bad
theorem zlh (op : BinOp) (x y : AVal) : (zqa op x y).Of (zo5 op x y) := by
 cases x <;> cases y <;> simp only [zqa, zo5] <;> try trivial
 case int.int k a k' b =>
  cases op <;> simp only <;> (try exact ⟨_, rfl, fun h => h⟩) <;> (cases hk : zg4 k k' <;> simp only <;> (try trivial) <;> (have hk := z2j hk; subst hk)) <;>
   first | exact ⟨_, rfl, fun _ => rfl⟩ | exact ⟨_, rfl, fun h => ⟨rfl, h⟩⟩
 case str.str a b =>
  cases op <;> simp only <;> first | trivial | exact ⟨_, rfl, fun _ => trivial⟩ | exact ⟨_, rfl, fun h => h⟩
def XR.toY : XR → YR
 | .ok s v => .ok (some s) v
 | .bad => .bad
theorem XR.toY_of (x : XR) : x.toY.Of x := by
 cases x with
 | ok s v => exact ⟨s, rfl, fun h => h⟩
 | bad => trivial
def XR.toY0 : XR → YR
 | .ok _ v => .ok none v
 | .bad => .bad
theorem XR.toY0_of {x : XR} (h : ∀ s v, x = .ok s v → s) : x.toY0.Of x := by
 cases x with
 | ok s v => exact ⟨s, rfl, fun _ => h s v rfl⟩
 | bad => trivial
def znt : AVal → AVal → YR := fun a b => (ziz a b).toY0
def z1g : AVal → AVal → YR
 | .val (.slice none 0 0), .isl _ es _ => .ok (some (es ≠ [])) (.bool false)
 | .isl _ es _, .val (.slice none 0 0) => .ok (some (es ≠ [])) (.bool false)
 | .val (.slice none 0 0), .msl _ _ _ len _ => .ok (some (len ≠ 0)) (.bool false)
 | .msl _ _ _ len _, .val (.slice none 0 0) => .ok (some (len ≠ 0)) (.bool false)
 | a, b => (K7 a b).toY0
theorem z6a (a b : AVal) : (z1g a b).Of (K7 a b) := by
 unfold z1g
 split
 ·exact ⟨_, rfl, fun h => h⟩
 ·exact ⟨_, rfl, fun h => h⟩
 ·exact ⟨_, rfl, fun h => h⟩
 ·exact ⟨_, rfl, fun h => h⟩
 ·rename_i h1 h2 h3 h4
  refine XR.toY0_of fun s v h => ?_
  unfold K7 at h
  split at h <;> simp only [XR.ok.injEq, reduceCtorEq] at h <;> (try (obtain ⟨rfl, _⟩ := h; trivial))
  ·exact absurd rfl (h3 _ _ _ _ _ rfl)
  ·exact absurd rfl (h4 _ _ _ _ _ · rfl)
  ·exact absurd rfl (h1 _ _ _ rfl)
  ·exact absurd rfl (h2 _ _ _ · rfl)
def zo3 (k : EqK) (x y : AVal) : YR :=
 match k with
 | .bool => match x, y with
  | .bool a, .bool b => .ok none (.bool (a == b))
  | _, _ => .bad
 | .ptr => znt x y
 | .slice => z1g x.rd y.rd
 | .map => (Va x y).toY0
 | .agg ks => (zgz ks x y).toY0
 | .ifc => (z4q x y).toY0
 | .fnc => (z4v x y).toY0
 | _ => .bad
def YR.neg : YR → YR
 | .ok s (.bool b) => .ok s (.bool (!b))
 | _ => .bad
def yeq (neg : Bool) (k : EqK) (x y : AVal) : YR := match neg with
 | true => (zo3 k x y).neg
 | false => zo3 k x y
theorem zlq (k : EqK) (x y : AVal) : (zo3 k x y).Of (zh8 k x y) := by
 cases k <;> simp only [zo3, zh8] <;> try trivial
 case bool => cases x <;> cases y <;> first | trivial | exact ⟨_, rfl, fun _ => trivial⟩
 case ptr =>
  refine XR.toY0_of fun s v h => ?_
  unfold ziz at h
  split at h <;> simp only [XR.ok.injEq, reduceCtorEq] at h <;> (obtain ⟨rfl, _⟩ := h; trivial)
 case slice => exact z6a _ _
 case map =>
  refine XR.toY0_of fun s v h => ?_
  unfold Va at h
  split at h <;> simp only [XR.ok.injEq, reduceCtorEq] at h <;> (obtain ⟨rfl, _⟩ := h; trivial)
 case agg ks =>
  refine XR.toY0_of fun s v h => ?_
  unfold zgz at h
  split at h <;> (try split at h) <;> simp only [XR.ok.injEq, reduceCtorEq] at h <;> (obtain ⟨rfl, _⟩ := h; trivial)
 case ifc =>
  refine XR.toY0_of fun s v h => ?_
  unfold z4q at h
  split at h <;> simp only [XR.ok.injEq, reduceCtorEq] at h <;> (obtain ⟨rfl, _⟩ := h; trivial)
 case fnc =>
  refine XR.toY0_of fun s v h => ?_
  unfold z4v at h
  split at h <;> simp only [XR.ok.injEq, reduceCtorEq] at h <;> (obtain ⟨rfl, _⟩ := h; trivial)
theorem zom (neg : Bool) (k : EqK) (x y : AVal) : (yeq neg k x y).Of (xeq neg k x y) := by
 have h := zlq k x y
 cases neg with
 | false => simpa [yeq, xeq] using h
 | true =>
  simp only [yeq, xeq, if_true]
  cases hr : zo3 k x y with
  | ok s v =>
   rw [hr] at h
   obtain ⟨side, hx, hs⟩ := h
   cases v <;> simp only [YR.neg] <;> try trivial
   rw [hx]
   exact ⟨side, rfl, hs⟩
  | _ => simp only [YR.neg]; trivial
def zlf (agg : Bool) (n : Nat) (H : AHeap) : AVal → YR
 | .iptr s es i off => .row es i (i < es.length ∧ off + n ≤ s) (xf agg n off)
 | .ptr b i off => match H.get b with
  | some (.rows s es) => .row es i (i < es.length ∧ off + n ≤ s) (xf agg n off)
  | some (.one cs) => match i, Nat.ble (off + n) cs.length with
   | 0, true => .ok none (xf agg n off cs)
   | _, _ => .bad
  | _ => .bad
 | _ => .bad
theorem zii (g : Bool) (n : Nat) (H : AHeap) (x : AVal) : (zlf g n H x).Of (z5w g n H x) := by
 cases x <;> simp only [zlf, z5w] <;> try trivial
 case iptr s es i off => exact ⟨_, rfl, fun h => h⟩
 case ptr b i off =>
  split
  ·rename_i hb
   rw [hb]
   exact ⟨_, rfl, fun h => h⟩
  ·rename_i hb
   rw [hb]
   split
   ·rename_i h
    exact ⟨_, rfl, fun _ => ⟨rfl, Nat.le_of_ble_eq_true h⟩⟩
   ·trivial
  ·trivial
def zcn (agg : Bool) (n off : Nat) : AVal → YR
 | .agg cs => match Nat.ble (off + n) cs.length with
  | true => .ok none (xf agg n off cs)
  | false => .bad
 | _ => .bad
theorem zd3 (g : Bool) (n off : Nat) (x : AVal) : (zcn g n off x).Of (z4e g n off x) := by
 cases x <;> simp only [zcn, z4e] <;> try trivial
 split
 ·rename_i h; exact ⟨_, rfl, fun _ => Nat.le_of_ble_eq_true h⟩
 ·trivial
def zft (s : Nat) : AVal → AVal → YR
 | .isl s' es _, .int _ j => match Nat.beq s s' with
  | true => .ok (some (0 ≤ j ∧ j < (es.length : Int))) (.iptr s' es j.toNat 0)
  | false => .bad
 | .msl b s' off len _, .int _ j => match Nat.beq s s' with
  | true => .ok (some (0 ≤ j ∧ j < (len : Int))) (.ptr b (off + j.toNat) 0)
  | false => .bad
 | _, _ => .bad
theorem zf8 (s : Nat) (x y : AVal) : (zft s x y).Of (z34 s x y) := by
 cases x <;> cases y <;> simp only [zft, z34] <;> try trivial
 all_goals
  split
  ·rename_i h; exact ⟨_, rfl, fun hh => ⟨Nat.eq_of_beq_eq_true h, hh⟩⟩
  ·trivial
def z6u (len s : Nat) (H : AHeap) : AVal → AVal → YR
 | .ptr b i 0, .int _ j => match H.get b with
  | some (.rows s' _) => match Nat.beq s s' with
   | true => .ok (some (0 ≤ j ∧ j < (len : Int))) (.ptr b (i + j.toNat) 0)
   | false => .bad
  | _ => .bad
 | _, _ => .bad
theorem zav (len s : Nat) (H : AHeap) (x y : AVal) : (z6u len s H x y).Of (Kz len s H x y) := by
 unfold z6u Kz
 split
 ·split
  ·rename_i hg
   split
   ·rename_i h
    simp only [hg]
    exact ⟨_, rfl, fun hh => ⟨Nat.eq_of_beq_eq_true h, hh⟩⟩
   ·trivial
  ·trivial
 ·trivial
def z7b (len s : Nat) (x : AVal) : LOpd → AVal → YR
 | .c (.int _ (.ofNat c)), _ => match Nat.ble (c + 1) len, x with
  | true, .iptr s' es i o => .ok none (.iptr s' es i (o + c * s))
  | true, .ptr b i o => .ok none (.ptr b i (o + c * s))
  | _, _ => .bad
 | _, .int _ j => match x with
  | .iptr s' es i o => .fork j len none (fun c => .iptr s' es i (o + c * s))
  | .ptr b i o => .fork j len none (fun c => .ptr b i (o + c * s))
  | _ => .bad
 | _, _ => .bad
theorem z9q (len s : Nat) (x : AVal) (e : Env) (i : LOpd) : (z7b len s x i (i.ev e)).Of (z1o len s x (i.ev e)) := by
 unfold z7b
 split
 ·rename_i k c
  split
  ·rename_i h
   exact ⟨_, rfl, fun _ => ⟨Int.natCast_nonneg c, by have := Nat.le_of_ble_eq_true h; simp; omega⟩⟩
  ·rename_i h
   exact ⟨_, rfl, fun _ => ⟨Int.natCast_nonneg c, by have := Nat.le_of_ble_eq_true h; simp; omega⟩⟩
  ·trivial
 ·rename_i j _ heq
  rw [heq]
  split
  ·exact ⟨_, _, rfl, fun c hc hj _ => ⟨by omega, by subst hj; simp⟩⟩
  ·exact ⟨_, _, rfl, fun c hc hj _ => ⟨by omega, by subst hj; simp⟩⟩
  ·trivial
 ·trivial
def zmk (len s : Nat) (agg : Bool) (x : AVal) : LOpd → AVal → YR
 | .c (.int _ (.ofNat c)), _ => match x with
  | .agg cs => match Nat.ble (c + 1) len && Nat.ble (c * s + s) cs.length with
   | true => .ok none (xf agg s (c * s) cs)
   | false => .bad
  | _ => .bad
 | _, .int _ j => match x with
  | .agg cs => .pick (xf agg s (j.toNat * s) cs) (0 ≤ j ∧ j < (len : Int) ∧ (j.toNat * s) + s ≤ cs.length)
  | _ => .bad
 | _, _ => .bad
theorem zi9 (len s : Nat) (g : Bool) (x : AVal) (e : Env) (i : LOpd) : (zmk len s g x i (i.ev e)).Of (zhc len s g x (i.ev e)) := by
 unfold zmk
 split
 ·split
  ·split
   ·rename_i h
    simp only [Bool.and_eq_true] at h
    have h1 := Nat.le_of_ble_eq_true h.1
    have h2 := Nat.le_of_ble_eq_true h.2
    rename_i c _ _ _ _
    exact ⟨_, rfl, fun _ => ⟨Int.natCast_nonneg _, by simp; omega, by simpa using h2⟩⟩
   ·trivial
  ·trivial
 ·rename_i j _ heq
  rw [heq]
  split
  ·exact ⟨_, rfl, fun h => h⟩
  ·trivial
 ·trivial
def zpv (k : Nat) : AVal → YR
 | .tup cs => match Nat.ble (k + 1) cs.length with
  | true => .ok none (cs.getD k .any)
  | false => .bad
 | _ => .bad
theorem zmp (k : Nat) (x : AVal) : (zpv k x).Of (zp8 k x) := by
 cases x <;> simp only [zpv, zp8] <;> try trivial
 split
 ·rename_i h; exact ⟨_, rfl, fun _ => Nat.le_of_ble_eq_true h⟩
 ·trivial
def zlk (c : Bool) : AVal → AVal → Option AVal
 | .bool a, .bool b => some (.bool (bif c then a else b))
 | .int k a, .int k' b => match zg4 k k' with
  | true => some (.int k (bif c then a else b))
  | false => none
 | .str a, .str b => some (.str (bif c then a else b))
 | _, _ => none
theorem zir {c : Bool} {a b v : AVal} (h : zlk c a b = some v) : zml c a b = v := by
 cases a <;> cases b <;> simp only [zlk] at h <;> try (cases h; done)
 ·simp only [Option.some.injEq] at h; subst h; cases c <;> rfl
 ·split at h <;> try (cases h; done)
  rename_i hk
  have hk := z2j hk
  subst hk
  simp only [Option.some.injEq] at h
  subst h; cases c <;> rfl
 ·simp only [Option.some.injEq] at h; subst h; cases c <;> rfl
def zh5 (c want : Bool) : Option Prop → Option Prop
 | none => none
 | some p => some (c = want → p)
theorem z3h (c want : Bool) (p : Option Prop) : wt (zh5 c want p) ↔ (c = want → wt p) := by cases p <;> simp [zh5, wt]
def zdf (c : Bool) (e : Env) : LOpd → LOpd → Option AVal
 | .c (.bool true), b => match b.ev e with
  | .bool y => some (.bool (c || y))
  | _ => none
 | a, .c (.bool false) => match a.ev e with
  | .bool x => some (.bool (c && x))
  | _ => none
 | a, b => zlk c (a.ev e) (b.ev e)
theorem zdd {c : Bool} {e : Env} {a b : LOpd} {v : AVal} (h : zdf c e a b = some v) : zml c (a.ev e) (b.ev e) = v := by
 unfold zdf at h
 split at h
 ·split at h <;> try (cases h; done)
  rename_i y hy
  simp only [Option.some.injEq] at h
  subst h
  rw [hy]
  cases c <;> rfl
 ·split at h <;> try (cases h; done)
  rename_i x hx
  simp only [Option.some.injEq] at h
  subst h
  rw [hx]
  cases c <;> rfl
 ·exact zir h
def zjt (e : Env) (na nb : Option Prop) (c : AVal) (a b : LOpd) : YR := match c with
 | .bool c => match zdf c e a b with
  | some v => .ok (Yd (zh5 c true na) (zh5 c false nb)) v
  | none => .bad
 | _ => .bad
def z2v (cells : List AVal) : List (Nat × Nat × AVal) → YR
 | [] => .ok none (.agg cells)
 | (off, n, x) :: r => match x.cells? with
  | some cs => match Nat.beq cs.length n && Nat.ble (off + n) cells.length with
   | true => z2v (wv cells off cs) r
   | false => .bad
  | none => .bad
theorem z52 : ∀ (parts : List (Nat × Nat × AVal)) (cells : List AVal), (z2v cells parts).Of (Q3 cells parts)
 | [], cells => ⟨_, rfl, fun _ => trivial⟩
 | (off, n, x) :: r, cells => by
  simp only [z2v, Q3]
  split
  ·rename_i cs hc
   simp only [hc]
   split
   ·rename_i h
    simp only [Bool.and_eq_true] at h
    have h1 := Nat.eq_of_beq_eq_true h.1
    have h2 := Nat.le_of_ble_eq_true h.2
    have ih := z52 r (wv cells off cs)
    cases hy : z2v (wv cells off cs) r with
    | ok s v =>
     rw [hy] at ih
     obtain ⟨side, hx, hs⟩ := ih
     rw [hx]
     exact ⟨_, rfl, fun h => ⟨h1, h2, hs h⟩⟩
    | bad => trivial
    | row es i s f =>
     rw [hy] at ih
     obtain ⟨side, hx, hs⟩ := ih
     rw [hx]
     exact ⟨_, rfl, fun h => ⟨h1, h2, hs h⟩⟩
    | pick v s =>
     rw [hy] at ih
     obtain ⟨side, hx, hs⟩ := ih
     rw [hx]
     exact ⟨_, rfl, fun h => ⟨h1, h2, hs h⟩⟩
    | fork j len s f =>
     rw [hy] at ih
     obtain ⟨side, v, hx, hs⟩ := ih
     rw [hx]
     exact ⟨_, _, rfl, fun c hc hj h => ⟨⟨h1, h2, (hs c hc hj h).1⟩, (hs c hc hj h).2⟩⟩
   ·trivial
  ·trivial
def zp9 (lo hi : Nat → Option Int) : AVal → YR := fun x => (z7q lo hi x).toY
def XR.toP : XR → YR
 | .ok s v => .pick v s
 | .bad => .bad
theorem XR.toP_of (x : XR) : x.toP.Of x := by
 cases x with
 | ok s v => exact ⟨s, rfl, fun h => h⟩
 | bad => trivial
def zr5 (s : Nat) (lo hi : Nat → Option Int) (mx : Option (Option Int)) (keep : Bool) : AVal → YR := fun x => (zoi s lo hi mx keep x).toP
def zn4 (isMax : Bool) : AVal → List AVal → YR
 | v, [] => .ok none v
 | .int k a, .int k' b :: r => match zg4 k k' with
  | true => zn4 isMax (.int k (if isMax then (if b > a then b else a) else (if b < a then b else a))) r
  | false => .bad
 | _, _ => .bad
theorem zfh (m : Bool) : ∀ (l : List AVal) (v : AVal), (zn4 m v l).Of (zj7 m v l)
 | [], v => by simp only [zn4, zj7]; exact ⟨_, rfl, fun _ => trivial⟩
 | y :: r, v => by
  cases v <;> cases y <;> try trivial
  rename_i k a k' b
  simp only [zn4, zj7]
  split
  ·rename_i hk
   have hk := z2j hk
   subst hk
   have ih := zfh m r (.int k (if m then (if b > a then b else a) else (if b < a then b else a)))
   cases hy : zn4 m (.int k (if m then (if b > a then b else a) else (if b < a then b else a))) r with
   | ok s v =>
    rw [hy] at ih
    obtain ⟨side, hx, hs⟩ := ih
    rw [hx]
    exact ⟨_, rfl, fun h => ⟨rfl, hs h⟩⟩
   | bad => trivial
   | row es i s f =>
    rw [hy] at ih
    obtain ⟨side, hx, hs⟩ := ih
    rw [hx]
    exact ⟨_, rfl, fun h => ⟨rfl, hs h⟩⟩
   | pick v s =>
    rw [hy] at ih
    obtain ⟨side, hx, hs⟩ := ih
    rw [hx]
    exact ⟨_, rfl, fun h => ⟨rfl, hs h⟩⟩
   | fork j len s f =>
    rw [hy] at ih
    obtain ⟨side, v, hx, hs⟩ := ih
    rw [hx]
    exact ⟨_, _, rfl, fun c hc hj h => ⟨⟨rfl, (hs c hc hj h).1⟩, (hs c hc hj h).2⟩⟩
  ·trivial
def zn6 (isMax : Bool) : List AVal → YR
 | .int k a :: r => zn4 isMax (.int k a) r
 | _ => .bad
def zet (ks : List CK) (ka g ok : Bool) (zs : List AVal) (H : AHeap) (k : AVal) : AVal → YR
 | .val (.map none) => match J4 ks ka k with
  | true => .ok none (zgq g ok zs none)
  | false => .bad
 | .map b => match H.get b with
  | some (.amap es) => match J4 ks ka k with
   | true => .pick (zgq g ok zs ((Y3 ks k es).getD none)) ((Y3 ks k es).isSome = true)
   | false => .bad
  | _ => .bad
 | _ => .bad
theorem zd2 (ks : List CK) (ka g ok : Bool) (zs : List AVal) (H : AHeap) (k x : AVal) : (zet ks ka g ok zs H k x).Of (z40 ks ka g ok zs H k x) := by
 unfold zet z40
 split
 ·split
  ·rename_i h; rw [if_pos h]; exact ⟨_, rfl, fun _ => trivial⟩
  ·trivial
 ·split
  ·rename_i hg
   split
   ·rename_i h; simp only [hg]; rw [if_pos h]; exact ⟨_, rfl, fun h => h⟩
   ·trivial
  ·trivial
 ·trivial
def Up (e : Env) (H : AHeap) : LOp → YR
 | .mv x => .ok (x.needY e) (x.ev e)
 | .pick c a b => (zjt e (a.needY e) (b.needY e) (c.ev e) a b).and (c.needY e)
 | .build zs parts => (z2v zs (vj e parts)).and (z5c e parts)
 | .load g n a => (zlf g n H (a.ev e)).and (a.needY e)
 | .nilck x => (z3o (x.ev e)).toY0.and (x.needY e)
 | .bin op x y => (zqa op (x.ev e) (y.ev e)).and (Yd (x.needY e) (y.needY e))
 | .eq neg k x y => (yeq neg k (x.ev e) (y.ev e)).and (Yd (x.needY e) (y.needY e))
 | .un op x => (xun op (x.ev e)).toY0.and (x.needY e)
 | .conv (.int k) x => match x.ev e with
  | .int _ n => .ok (x.needY e) (.int k (k.wrap n))
  | _ => .bad
 | .conv .same x => match x.ev e with
  | .str l => .ok (x.needY e) (.str l)
  | _ => .bad
 | .mkfn f a c => .ok (Yd (Jo e a) (Jo e c)) (.fn f (evs e a) (evs e c))
 | .slStr x lo hi => (zp9 (fun d => ji e d lo) (fun d => ji e d hi) (x.ev e)).and (Yd (x.needY e) (Yd (Uh e lo) (Uh e hi)))
 | .slSl s x lo hi mx => (zr5 s (fun d => ji e d lo) (fun d => ji e d hi) (z6t e mx) (hi.isNone && mx.isNone) (x.ev e)).and (Yd (x.needY e) (Yd (Uh e lo) (Yd (Uh e hi) (Uh e mx))))
 | .slAr n s x => (zhu n s H (x.ev e)).toP.and (x.needY e)
 | .faddr off x => (z41 off (x.ev e)).toY0.and (x.needY e)
 | .field g n off x => (zcn g n off (x.ev e)).and (x.needY e)
 | .iaddr s x i => (zft s (x.ev e).rd (i.ev e)).and (Yd (x.needY e) (i.needY e))
 | .iaddrA n s x i => (z7b n s (x.ev e) i (i.ev e)).and (Yd (x.needY e) (i.needY e))
 | .iaddrR n s x i => (z6u n s H (x.ev e) (i.ev e)).and (Yd (x.needY e) (i.needY e))
 | .idxS x i => (zja (x.ev e) (i.ev e)).toY.and (Yd (x.needY e) (i.needY e))
 | .idxA n s g x i => (zmk n s g (x.ev e) i (i.ev e)).and (Yd (x.needY e) (i.needY e))
 | .ext k x => (zpv k (x.ev e)).and (x.needY e)
 | .len true x => (ze8 (x.ev e)).toY0.and (x.needY e)
 | .len false x => (zdy (x.ev e).rd).toY0.and (x.needY e)
 | .mnx m args => (zn6 m (evs e args)).and (Jo e args)
 | .mlook ks ka g ok zs x k => (zet ks ka g ok zs H (k.ev e) (x.ev e)).and (Yd (x.needY e) (k.needY e))
 | .mlen x => (zfu H (x.ev e)).toY0.and (x.needY e)
 | _ => .bad
theorem Zs (e : Env) (H : AHeap) (op : LOp) : (Up e H op).Of (ju e H op) := by
 have h2 : ∀ {x y : LOpd}, wt (Yd (x.needY e) (y.needY e)) → x.need e ∧ y.need e := fun h => by rw [xl, zh, zh] at h; exact h
 cases op <;> simp only [Up, ju] <;> try trivial
 case mv x => exact ⟨_, rfl, (zh e x).1⟩
 case pick c a b =>
  refine YR.Of.and ?_ (zh e c).1
  unfold zjt zhd
  split
  ·rename_i cc hcc
   simp only [hcc]
   split
   ·rename_i v hv
    rw [zdd hv]
    refine ⟨_, rfl, fun h => ?_⟩
    rw [xl, z3h, z3h, zh, zh] at h
    exact h
   ·trivial
  ·trivial
 case build zs parts => exact (z52 _ _).and (z00 e parts).1
 case load g n a => exact (zii _ _ _ _).and (zh e a).1
 case nilck x =>
  refine YR.Of.and (XR.toY0_of fun s v h => ?_) (zh e x).1
  unfold z3o at h
  split at h <;> simp only [XR.ok.injEq, reduceCtorEq] at h <;> (obtain ⟨rfl, _⟩ := h; trivial)
 case bin op x y => exact (zlh _ _ _).and h2
 case eq neg k x y => exact (zom _ _ _ _).and h2
 case mlook ks ka g ok zs x k => exact (zd2 _ _ _ _ _ _ _ _).and h2
 case mlen x =>
  refine YR.Of.and (XR.toY0_of fun s v h => ?_) (zh e x).1
  unfold zfu at h
  split at h <;> (try split at h) <;> simp only [XR.ok.injEq, reduceCtorEq] at h <;> (obtain ⟨rfl, _⟩ := h; trivial)
 case un op x =>
  refine YR.Of.and (XR.toY0_of fun s v h => ?_) (zh e x).1
  unfold xun at h
  split at h <;> (try split at h) <;> simp only [XR.ok.injEq, reduceCtorEq] at h <;> (obtain ⟨rfl, _⟩ := h; trivial)
 case conv k x =>
  cases k <;> simp only <;> try trivial
  ·split
   ·rename_i h; simp only [h]; exact ⟨_, rfl, (zh e x).1⟩
   ·trivial
  ·split
   ·rename_i h; simp only [h]; exact ⟨_, rfl, (zh e x).1⟩
   ·trivial
 case mkfn f a c => exact ⟨_, rfl, fun h => by rw [xl, Z7, Z7] at h; exact h⟩
 case slStr x lo hi => exact (XR.toY_of _).and (fun h => by rw [xl, xl, zh, Y9, Y9] at h; exact h)
 case slSl s x lo hi mx => exact (XR.toP_of _).and (fun h => by rw [xl, xl, xl, zh, Y9, Y9, Y9] at h; exact h)
 case slAr k s x => exact (XR.toP_of _).and (zh e x).1
 case faddr off x =>
  refine YR.Of.and (XR.toY0_of fun s v h => ?_) (zh e x).1
  unfold z41 at h
  split at h <;> simp only [XR.ok.injEq, reduceCtorEq] at h <;> (obtain ⟨rfl, _⟩ := h; trivial)
 case field g n off x => exact (zd3 _ _ _ _).and (zh e x).1
 case iaddr s x i => exact (zf8 _ _ _).and h2
 case iaddrA n s x i => exact (z9q _ _ _ _ _).and h2
 case iaddrR n s x i => exact (zav _ _ _ _ _).and h2
 case idxS x i => exact (XR.toY_of _).and h2
 case idxA n s g x i => exact (zi9 _ _ _ _ _ _).and h2
 case ext k x => exact (zmp _ _).and (zh e x).1
 case len st x =>
  cases st with
  | true =>
   refine YR.Of.and (XR.toY0_of fun s v h => ?_) (zh e x).1
   unfold ze8 at h
   split at h <;> simp only [XR.ok.injEq, reduceCtorEq] at h <;> (obtain ⟨rfl, _⟩ := h; trivial)
  | false =>
   refine YR.Of.and (XR.toY0_of fun s v h => ?_) (zh e x).1
   unfold zdy at h
   split at h <;> simp only [XR.ok.injEq, reduceCtorEq] at h <;> (obtain ⟨rfl, _⟩ := h; trivial)
 case mnx m args =>
  refine YR.Of.and ?_ (Z7 e args).1
  unfold zn6 zik
  split
  ·rename_i h; simp only [h]; exact zfh _ _ _
  ·trivial
end Go.Fx
