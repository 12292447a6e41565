/-
  Own framework.
-/
import Derived.Test.YtlenhplodggefaaFxM2
namespace Go.Fx
set_option linter.unusedVariables false

def conj : Option Prop → Prop → Prop
  | none, q => q
  | some p, q => p ∧ q
def andO : Option Prop → Option Prop → Option Prop
  | none, y => y
  | some a, none => some a
  | some a, some b => some (a ∧ b)
def holdsO : Option Prop → Prop
  | none => True
  | some p => p
theorem conj_iff (s : Option Prop) (q : Prop) : conj s q ↔ holdsO s ∧ q := by cases s <;> simp [conj, holdsO]
theorem andO_iff (a b : Option Prop) : holdsO (andO a b) ↔ holdsO a ∧ holdsO b := by cases a <;> cases b <;> simp [andO, holdsO]

def AVal.needY : AVal → Option Prop
  | .cnd p _ => some (p = true)
  | _ => none
theorem needY_iff (x : AVal) : holdsO x.needY ↔ x.need := by cases x <;> simp [AVal.needY, AVal.need, holdsO]
def LOpd.needY (e : Env) : LOpd → Option Prop
  | .t i => (e.get i).needY
  | .c _ => none
theorem opd_needY (e : Env) (x : LOpd) : holdsO (x.needY e) ↔ x.need e := by
  cases x with
  | t i => exact needY_iff _
  | c v => simp [LOpd.needY, LOpd.need, holdsO]
def needYs (e : Env) : List LOpd → Option Prop
  | [] => none
  | x :: r => andO (x.needY e) (needYs e r)
theorem needYs_iff (e : Env) : ∀ l, holdsO (needYs e l) ↔ needs e l
  | [] => by simp [needYs, needs, holdsO]
  | x :: r => by simp [needYs, needs, andO_iff, opd_needY, needYs_iff e r]
def needYO (e : Env) : Option LOpd → Option Prop
  | none => none
  | some x => x.needY e
theorem needYO_iff (e : Env) (x : Option LOpd) : holdsO (needYO e x) ↔ needO e x := by
  cases x with
  | none => simp [needYO, needO, holdsO]
  | some x => exact opd_needY e x
def needYP (e : Env) : List (Nat × Nat × LOpd) → Option Prop
  | [] => none
  | (_, _, x) :: r => andO (x.needY e) (needYP e r)
theorem needYP_iff (e : Env) : ∀ l, holdsO (needYP e l) ↔ needParts e l
  | [] => by simp [needYP, needParts, holdsO]
  | (_, _, x) :: r => by simp [needYP, needParts, andO_iff, opd_needY, needYP_iff e r]
def needYI (e : Env) : List (Nat × LOpd) → Option Prop
  | [] => none
  | (_, x) :: r => andO (x.needY e) (needYI e r)
theorem needYI_iff (e : Env) : ∀ l, holdsO (needYI e l) ↔ needI e l
  | [] => by simp [needYI, needI, holdsO]
  | (_, x) :: r => by simp [needYI, needI, andO_iff, opd_needY, needYI_iff e r]

def sameK : IntKind → IntKind → Bool
  | .i8, .i8 | .i16, .i16 | .i32, .i32 | .i64, .i64 | .u8, .u8 | .u16, .u16 | .u32, .u32 | .u64, .u64 => true
  | _, _ => false
theorem sameK_eq {a b : IntKind} (h : sameK a b = true) : a = b := by cases a <;> cases b <;> first | rfl | cases h

inductive YR where
  | ok (side : Option Prop) (v : AVal)
  | row (es : List (List AVal)) (i : Nat) (side : Prop) (f : List AVal → AVal)
  | pick (v : AVal) (side : Prop)
  | fork (j : Int) (len : Nat) (side : Option Prop) (f : Nat → AVal)
  | bad

def forkK (j : Int) (f : Nat → AVal) (K : AVal → Prop) : Nat → Nat → Prop
  | 0, _ => True
  | k + 1, c => (j = (c : Int) → K (f c)) ∧ forkK j f K k (c + 1)
def YR.run (r : YR) (K : AVal → Prop) : Prop := match r with
  | .ok s v => conj s (K v)
  | .row es i s f => ∃ r, es.getD i [] = r ∧ s ∧ K (f r)
  | .pick v0 s => ∃ v, v0 = v ∧ s ∧ K v
  | .fork j len s f => conj s ((0 ≤ j ∧ j < (len : Int)) ∧ forkK j f K len 0)
  | .bad => False
def YR.runG (p : Bool) (r : YR) (K : AVal → Prop) : Prop := match r with
  | .ok none v => K (.cnd p v)
  | .ok (some s) v => (p = true → s) ∧ K (.cnd p v)
  | .row es i s f => ∃ r, (p = true → es.getD i [] = r ∧ s) ∧ K (.cnd p (f r))
  | .pick v0 s => ∃ v, (p = true → v0 = v ∧ s) ∧ K (.cnd p v)
  | _ => p = false ∧ K (.tup [])
def YR.and (s : Option Prop) : YR → YR
  | .ok t v => .ok (andO s t) v
  | .row es i t f => match s with
    | none => .row es i t f
    | some p => .row es i (p ∧ t) f
  | .pick v t => match s with
    | none => .pick v t
    | some p => .pick v (p ∧ t)
  | .fork j len t f => .fork j len (andO s t) f
  | .bad => .bad

def YR.Of (r : YR) (x : XR) : Prop := match r with
  | .ok s v => ∃ side, x = .ok side v ∧ (holdsO s → side)
  | .row es i s f => ∃ side, x = .ok side (f (es.getD i [])) ∧ (s → side)
  | .pick v s => ∃ side, x = .ok side v ∧ (s → side)
  | .fork j len s f => ∃ side v, x = .ok side v ∧ ∀ c : Nat, c < len → j = (c : Int) → holdsO s → side ∧ v = f c
  | .bad => True
theorem YR.Of.and {r : YR} {x : XR} {s : Option Prop} {p : Prop} (h : r.Of x) (hs : holdsO s → p) : (r.and s).Of (x.and p) := by
  cases r with
  | bad => trivial
  | ok t v =>
    obtain ⟨side, rfl, h1⟩ := h
    exact ⟨_, rfl, fun h => by rw [andO_iff] at h; exact ⟨hs h.1, h1 h.2⟩⟩
  | row es i t f =>
    obtain ⟨side, rfl, h1⟩ := h
    cases s with
    | none => exact ⟨_, rfl, fun h => ⟨hs trivial, h1 h⟩⟩
    | some q => exact ⟨_, rfl, fun h => ⟨hs h.1, h1 h.2⟩⟩
  | pick v t =>
    obtain ⟨side, rfl, h1⟩ := h
    cases s with
    | none => exact ⟨_, rfl, fun h => ⟨hs trivial, h1 h⟩⟩
    | some q => exact ⟨_, rfl, fun h => ⟨hs h.1, h1 h.2⟩⟩
  | fork j len t f =>
    obtain ⟨side, v, rfl, h1⟩ := h
    exact ⟨_, v, rfl, fun c hc hj h => by
      rw [andO_iff] at h
      obtain ⟨h2, h3⟩ := h1 c hc hj h.2
      exact ⟨⟨hs h.1, h2⟩, h3⟩⟩
theorem forkK_get {j : Int} {f : Nat → AVal} {K : AVal → Prop} : ∀ {k c0 : Nat}, forkK j f K k c0 → ∀ c, c0 ≤ c → c < c0 + k → j = (c : Int) → K (f c)
  | 0, c0, _, c, h1, h2, _ => by omega
  | k + 1, c0, h, c, h1, h2, h3 => by
    by_cases hc : c = c0
    · subst hc; exact h.1 h3
    · exact forkK_get h.2 c (by omega) (by omega) h3
theorem YR.Of.run {r : YR} {x : XR} (h : r.Of x) {K : AVal → Prop} (hk : r.run K) : ∃ side v, x = .ok side v ∧ side ∧ K v := by
  cases r with
  | bad => exact hk.elim
  | ok t v =>
    obtain ⟨side, rfl, h1⟩ := h
    rw [YR.run, conj_iff] at hk
    exact ⟨_, _, rfl, h1 hk.1, hk.2⟩
  | row es i t f =>
    obtain ⟨side, rfl, h1⟩ := h
    obtain ⟨r, rfl, ht, hk⟩ := hk
    exact ⟨_, _, rfl, h1 ht, hk⟩
  | pick v t =>
    obtain ⟨side, rfl, h1⟩ := h
    obtain ⟨r, rfl, ht, hk⟩ := hk
    exact ⟨_, _, rfl, h1 ht, hk⟩
  | fork j len t f =>
    obtain ⟨side, v, rfl, h1⟩ := h
    rw [YR.run, conj_iff] at hk
    obtain ⟨hs, ⟨h2, h3⟩, h4⟩ := hk
    obtain ⟨c, rfl⟩ := Int.eq_ofNat_of_zero_le h2
    obtain ⟨g1, rfl⟩ := h1 c (by omega) rfl hs
    exact ⟨_, _, rfl, g1, forkK_get h4 c (Nat.zero_le _) (by omega) rfl⟩

def ybin (op : BinOp) : AVal → AVal → YR
  | .int k a, .int k' b => match op with
    | .shl => .ok (some (0 ≤ b)) (.int k (k.wrap (a * 2 ^ (min b.toNat k.bits))))
    | .shr => .ok (some (0 ≤ b)) (.int k (a.fdiv (2 ^ (min b.toNat k.bits))))
    | op => match sameK k k' with
      | false => .bad
      | true => match op with
        | .add => .ok none (.int k (k.wrap (a + b)))
        | .sub => .ok none (.int k (k.wrap (a - b)))
        | .mul => .ok none (.int k (k.wrap (a * b)))
        | .quo => .ok (some (b ≠ 0)) (.int k (k.wrap (a.tdiv b)))
        | .rem => .ok (some (b ≠ 0)) (.int k (a.tmod b))
        | .and => .ok none (.int k (ibits .and k a b))
        | .or => .ok none (.int k (ibits .or k a b))
        | .xor => .ok none (.int k (ibits .xor k a b))
        | .andNot => .ok none (.int k (ibits .andNot k a b))
        | .eql => .ok none (.bool (a == b))
        | .neq => .ok none (.bool (a != b))
        | .lss => .ok none (.bool (decide (a < b)))
        | .leq => .ok none (.bool (decide (a ≤ b)))
        | .gtr => .ok none (.bool (decide (a > b)))
        | .geq => .ok none (.bool (decide (a ≥ b)))
        | _ => .bad
  | .str a, .str b => match op with
    | .add => .ok (some (((a.length + b.length : Nat) : Int) ≤ 9223372036854775807)) (.str (a ++ b))
    | .eql => .ok none (.bool (a == b))
    | .neq => .ok none (.bool (!(a == b)))
    | .lss => .ok none (.bool (Op.bytesLess a b))
    | .leq => .ok none (.bool (Op.bytesLess a b || a == b))
    | .gtr => .ok none (.bool (!(Op.bytesLess a b || a == b)))
    | .geq => .ok none (.bool (!(Op.bytesLess a b)))
    | _ => .bad
  | _, _ => .bad
theorem ybin_of (op : BinOp) (x y : AVal) : (ybin op x y).Of (xbin op x y) := by
  cases x <;> cases y <;> simp only [ybin, xbin] <;> try trivial
  case int.int k a k' b =>
    cases op <;> simp only <;> (try exact ⟨_, rfl, fun h => h⟩) <;> (cases hk : sameK k k' <;> simp only <;> (try trivial) <;> (have hk := sameK_eq hk; subst hk)) <;>
      first | exact ⟨_, rfl, fun _ => rfl⟩ | exact ⟨_, rfl, fun h => ⟨rfl, h⟩⟩
  case str.str a b =>
    cases op <;> simp only <;> first | trivial | exact ⟨_, rfl, fun _ => trivial⟩ | exact ⟨_, rfl, fun h => h⟩

def XR.toY : XR → YR
  | .ok s v => .ok (some s) v
  | .bad => .bad
theorem XR.toY_of (x : XR) : x.toY.Of x := by
  cases x with
  | ok s v => exact ⟨s, rfl, fun h => h⟩
  | bad => trivial
def XR.toY0 : XR → YR
  | .ok _ v => .ok none v
  | .bad => .bad
theorem XR.toY0_of {x : XR} (h : ∀ s v, x = .ok s v → s) : x.toY0.Of x := by
  cases x with
  | ok s v => exact ⟨s, rfl, fun _ => h s v rfl⟩
  | bad => trivial

def ynilEq : AVal → AVal → YR := fun a b => (nilEq a b).toY0
def yslNilEq : AVal → AVal → YR
  | .val (.slice none 0 0), .isl _ es _ => .ok (some (es ≠ [])) (.bool false)
  | .isl _ es _, .val (.slice none 0 0) => .ok (some (es ≠ [])) (.bool false)
  | .val (.slice none 0 0), .msl _ _ _ len _ => .ok (some (len ≠ 0)) (.bool false)
  | .msl _ _ _ len _, .val (.slice none 0 0) => .ok (some (len ≠ 0)) (.bool false)
  | a, b => (slNilEq a b).toY0
theorem yslNilEq_of (a b : AVal) : (yslNilEq a b).Of (slNilEq a b) := by
  unfold yslNilEq
  split
  · exact ⟨_, rfl, fun h => h⟩
  · exact ⟨_, rfl, fun h => h⟩
  · exact ⟨_, rfl, fun h => h⟩
  · exact ⟨_, rfl, fun h => h⟩
  · rename_i h1 h2 h3 h4
    refine XR.toY0_of fun s v h => ?_
    unfold slNilEq at h
    split at h <;> simp only [XR.ok.injEq, reduceCtorEq] at h <;> (try (obtain ⟨rfl, _⟩ := h; trivial))
    · exact absurd rfl (h3 _ _ _ _ _ rfl)
    · exact absurd rfl (h4 _ _ _ _ _ · rfl)
    · exact absurd rfl (h1 _ _ _ rfl)
    · exact absurd rfl (h2 _ _ _ · rfl)
def yeq0 (k : EqK) (x y : AVal) : YR :=
  match k with
  | .bool => match x, y with
    | .bool a, .bool b => .ok none (.bool (a == b))
    | _, _ => .bad
  | .ptr => ynilEq x y
  | .slice => yslNilEq x.rd y.rd
  | .map => (mapNilEq x y).toY0
  | .agg ks => (aggEq ks x y).toY0
  | _ => .bad
def YR.neg : YR → YR
  | .ok s (.bool b) => .ok s (.bool (!b))
  | _ => .bad
def yeq (neg : Bool) (k : EqK) (x y : AVal) : YR := match neg with
  | true => (yeq0 k x y).neg
  | false => yeq0 k x y
theorem yeq0_of (k : EqK) (x y : AVal) : (yeq0 k x y).Of (xeq0 k x y) := by
  cases k <;> simp only [yeq0, xeq0] <;> try trivial
  case bool => cases x <;> cases y <;> first | trivial | exact ⟨_, rfl, fun _ => trivial⟩
  case ptr =>
    refine XR.toY0_of fun s v h => ?_
    unfold nilEq at h
    split at h <;> simp only [XR.ok.injEq, reduceCtorEq] at h <;> (obtain ⟨rfl, _⟩ := h; trivial)
  case slice => exact yslNilEq_of _ _
  case map =>
    refine XR.toY0_of fun s v h => ?_
    unfold mapNilEq at h
    split at h <;> simp only [XR.ok.injEq, reduceCtorEq] at h <;> (obtain ⟨rfl, _⟩ := h; trivial)
  case agg ks =>
    refine XR.toY0_of fun s v h => ?_
    unfold aggEq at h
    split at h <;> (try split at h) <;> simp only [XR.ok.injEq, reduceCtorEq] at h <;> (obtain ⟨rfl, _⟩ := h; trivial)
theorem yeq_of (neg : Bool) (k : EqK) (x y : AVal) : (yeq neg k x y).Of (xeq neg k x y) := by
  have h := yeq0_of k x y
  cases neg with
  | false => simpa [yeq, xeq] using h
  | true =>
    simp only [yeq, xeq, if_true]
    cases hr : yeq0 k x y with
    | ok s v =>
      rw [hr] at h
      obtain ⟨side, hx, hs⟩ := h
      cases v <;> simp only [YR.neg] <;> try trivial
      rw [hx]
      exact ⟨side, rfl, hs⟩
    | _ => simp only [YR.neg]; trivial

def yload (agg : Bool) (n : Nat) (H : AHeap) : AVal → YR
  | .iptr s es i off => .row es i (i < es.length ∧ off + n ≤ s) (cellsAt agg n off)
  | .ptr b i off => match H.get b with
    | some (.rows s es) => .row es i (i < es.length ∧ off + n ≤ s) (cellsAt agg n off)
    | some (.one cs) => match i, Nat.ble (off + n) cs.length with
      | 0, true => .ok none (cellsAt agg n off cs)
      | _, _ => .bad
    | _ => .bad
  | _ => .bad
theorem yload_of (g : Bool) (n : Nat) (H : AHeap) (x : AVal) : (yload g n H x).Of (xload g n H x) := by
  cases x <;> simp only [yload, xload] <;> try trivial
  case iptr s es i off => exact ⟨_, rfl, fun h => h⟩
  case ptr b i off =>
    split
    · rename_i hb
      rw [hb]
      exact ⟨_, rfl, fun h => h⟩
    · rename_i hb
      rw [hb]
      split
      · rename_i h
        exact ⟨_, rfl, fun _ => ⟨rfl, Nat.le_of_ble_eq_true h⟩⟩
      · trivial
    · trivial
def yfield (agg : Bool) (n off : Nat) : AVal → YR
  | .agg cs => match Nat.ble (off + n) cs.length with
    | true => .ok none (cellsAt agg n off cs)
    | false => .bad
  | _ => .bad
theorem yfield_of (g : Bool) (n off : Nat) (x : AVal) : (yfield g n off x).Of (xfield g n off x) := by
  cases x <;> simp only [yfield, xfield] <;> try trivial
  split
  · rename_i h; exact ⟨_, rfl, fun _ => Nat.le_of_ble_eq_true h⟩
  · trivial
def yiaddr (s : Nat) : AVal → AVal → YR
  | .isl s' es _, .int _ j => match Nat.beq s s' with
    | true => .ok (some (0 ≤ j ∧ j < (es.length : Int))) (.iptr s' es j.toNat 0)
    | false => .bad
  | .msl b s' off len _, .int _ j => match Nat.beq s s' with
    | true => .ok (some (0 ≤ j ∧ j < (len : Int))) (.ptr b (off + j.toNat) 0)
    | false => .bad
  | _, _ => .bad
theorem yiaddr_of (s : Nat) (x y : AVal) : (yiaddr s x y).Of (xiaddr s x y) := by
  cases x <;> cases y <;> simp only [yiaddr, xiaddr] <;> try trivial
  all_goals
    split
    · rename_i h; exact ⟨_, rfl, fun hh => ⟨Nat.eq_of_beq_eq_true h, hh⟩⟩
    · trivial
def yiaddrR (len s : Nat) (H : AHeap) : AVal → AVal → YR
  | .ptr b i 0, .int _ j => match H.get b with
    | some (.rows s' _) => match Nat.beq s s' with
      | true => .ok (some (0 ≤ j ∧ j < (len : Int))) (.ptr b (i + j.toNat) 0)
      | false => .bad
    | _ => .bad
  | _, _ => .bad
theorem yiaddrR_of (len s : Nat) (H : AHeap) (x y : AVal) : (yiaddrR len s H x y).Of (xiaddrR len s H x y) := by
  unfold yiaddrR xiaddrR
  split
  · split
    · rename_i hg
      split
      · rename_i h
        simp only [hg]
        exact ⟨_, rfl, fun hh => ⟨Nat.eq_of_beq_eq_true h, hh⟩⟩
      · trivial
    · trivial
  · trivial
def yiaddrA (len s : Nat) (x : AVal) : LOpd → AVal → YR
  | .c (.int _ (.ofNat c)), _ => match Nat.ble (c + 1) len, x with
    | true, .iptr s' es i o => .ok none (.iptr s' es i (o + c * s))
    | true, .ptr b i o => .ok none (.ptr b i (o + c * s))
    | _, _ => .bad
  | _, .int _ j => match x with
    | .iptr s' es i o => .fork j len none (fun c => .iptr s' es i (o + c * s))
    | .ptr b i o => .fork j len none (fun c => .ptr b i (o + c * s))
    | _ => .bad
  | _, _ => .bad
theorem yiaddrA_of (len s : Nat) (x : AVal) (e : Env) (i : LOpd) : (yiaddrA len s x i (i.ev e)).Of (xiaddrA len s x (i.ev e)) := by
  unfold yiaddrA
  split
  · rename_i k c
    split
    · rename_i h
      exact ⟨_, rfl, fun _ => ⟨Int.natCast_nonneg c, by have := Nat.le_of_ble_eq_true h; simp; omega⟩⟩
    · rename_i h
      exact ⟨_, rfl, fun _ => ⟨Int.natCast_nonneg c, by have := Nat.le_of_ble_eq_true h; simp; omega⟩⟩
    · trivial
  · rename_i j _ heq
    rw [heq]
    split
    · exact ⟨_, _, rfl, fun c hc hj _ => ⟨by omega, by subst hj; simp⟩⟩
    · exact ⟨_, _, rfl, fun c hc hj _ => ⟨by omega, by subst hj; simp⟩⟩
    · trivial
  · trivial
def yidxA (len s : Nat) (agg : Bool) (x : AVal) : LOpd → AVal → YR
  | .c (.int _ (.ofNat c)), _ => match x with
    | .agg cs => match Nat.ble (c + 1) len && Nat.ble (c * s + s) cs.length with
      | true => .ok none (cellsAt agg s (c * s) cs)
      | false => .bad
    | _ => .bad
  | _, .int _ j => match x with
    | .agg cs => .pick (cellsAt agg s (j.toNat * s) cs) (0 ≤ j ∧ j < (len : Int) ∧ (j.toNat * s) + s ≤ cs.length)
    | _ => .bad
  | _, _ => .bad
theorem yidxA_of (len s : Nat) (g : Bool) (x : AVal) (e : Env) (i : LOpd) : (yidxA len s g x i (i.ev e)).Of (xidxA len s g x (i.ev e)) := by
  unfold yidxA
  split
  · split
    · split
      · rename_i h
        simp only [Bool.and_eq_true] at h
        have h1 := Nat.le_of_ble_eq_true h.1
        have h2 := Nat.le_of_ble_eq_true h.2
        rename_i c _ _ _ _
        exact ⟨_, rfl, fun _ => ⟨Int.natCast_nonneg _, by simp; omega, by simpa using h2⟩⟩
      · trivial
    · trivial
  · rename_i j _ heq
    rw [heq]
    split
    · exact ⟨_, rfl, fun h => h⟩
    · trivial
  · trivial
def yext (k : Nat) : AVal → YR
  | .tup cs => match Nat.ble (k + 1) cs.length with
    | true => .ok none (cs.getD k .any)
    | false => .bad
  | _ => .bad
theorem yext_of (k : Nat) (x : AVal) : (yext k x).Of (xext k x) := by
  cases x <;> simp only [yext, xext] <;> try trivial
  split
  · rename_i h; exact ⟨_, rfl, fun _ => Nat.le_of_ble_eq_true h⟩
  · trivial
def ypick (c : Bool) : AVal → AVal → Option AVal
  | .bool a, .bool b => some (.bool (bif c then a else b))
  | .int k a, .int k' b => match sameK k k' with
    | true => some (.int k (bif c then a else b))
    | false => none
  | .str a, .str b => some (.str (bif c then a else b))
  | _, _ => none
theorem ypick_eq {c : Bool} {a b v : AVal} (h : ypick c a b = some v) : apick c a b = v := by
  cases a <;> cases b <;> simp only [ypick] at h <;> try (cases h; done)
  · simp only [Option.some.injEq] at h; subst h; cases c <;> rfl
  · split at h <;> try (cases h; done)
    rename_i hk
    have hk := sameK_eq hk
    subst hk
    simp only [Option.some.injEq] at h
    subst h; cases c <;> rfl
  · simp only [Option.some.injEq] at h; subst h; cases c <;> rfl
def implO (c want : Bool) : Option Prop → Option Prop
  | none => none
  | some p => some (c = want → p)
theorem implO_iff (c want : Bool) (p : Option Prop) : holdsO (implO c want p) ↔ (c = want → holdsO p) := by cases p <;> simp [implO, holdsO]
def ypickO (c : Bool) (e : Env) : LOpd → LOpd → Option AVal
  | .c (.bool true), b => match b.ev e with
    | .bool y => some (.bool (c || y))
    | _ => none
  | a, .c (.bool false) => match a.ev e with
    | .bool x => some (.bool (c && x))
    | _ => none
  | a, b => ypick c (a.ev e) (b.ev e)
theorem ypickO_eq {c : Bool} {e : Env} {a b : LOpd} {v : AVal} (h : ypickO c e a b = some v) : apick c (a.ev e) (b.ev e) = v := by
  unfold ypickO at h
  split at h
  · split at h <;> try (cases h; done)
    rename_i y hy
    simp only [Option.some.injEq] at h
    subst h
    rw [hy]
    cases c <;> rfl
  · split at h <;> try (cases h; done)
    rename_i x hx
    simp only [Option.some.injEq] at h
    subst h
    rw [hx]
    cases c <;> rfl
  · exact ypick_eq h
def yxpick (e : Env) (na nb : Option Prop) (c : AVal) (a b : LOpd) : YR := match c with
  | .bool c => match ypickO c e a b with
    | some v => .ok (andO (implO c true na) (implO c false nb)) v
    | none => .bad
  | _ => .bad

def ybuild (cells : List AVal) : List (Nat × Nat × AVal) → YR
  | [] => .ok none (.agg cells)
  | (off, n, x) :: r => match x.cells? with
    | some cs => match Nat.beq cs.length n && Nat.ble (off + n) cells.length with
      | true => ybuild (splice cells off cs) r
      | false => .bad
    | none => .bad
theorem ybuild_of : ∀ (parts : List (Nat × Nat × AVal)) (cells : List AVal), (ybuild cells parts).Of (xbuild cells parts)
  | [], cells => ⟨_, rfl, fun _ => trivial⟩
  | (off, n, x) :: r, cells => by
    simp only [ybuild, xbuild]
    split
    · rename_i cs hc
      simp only [hc]
      split
      · rename_i h
        simp only [Bool.and_eq_true] at h
        have h1 := Nat.eq_of_beq_eq_true h.1
        have h2 := Nat.le_of_ble_eq_true h.2
        have ih := ybuild_of r (splice cells off cs)
        cases hy : ybuild (splice cells off cs) r with
        | ok s v =>
          rw [hy] at ih
          obtain ⟨side, hx, hs⟩ := ih
          rw [hx]
          exact ⟨_, rfl, fun h => ⟨h1, h2, hs h⟩⟩
        | bad => trivial
        | row es i s f =>
          rw [hy] at ih
          obtain ⟨side, hx, hs⟩ := ih
          rw [hx]
          exact ⟨_, rfl, fun h => ⟨h1, h2, hs h⟩⟩
        | pick v s =>
          rw [hy] at ih
          obtain ⟨side, hx, hs⟩ := ih
          rw [hx]
          exact ⟨_, rfl, fun h => ⟨h1, h2, hs h⟩⟩
        | fork j len s f =>
          rw [hy] at ih
          obtain ⟨side, v, hx, hs⟩ := ih
          rw [hx]
          exact ⟨_, _, rfl, fun c hc hj h => ⟨⟨h1, h2, (hs c hc hj h).1⟩, (hs c hc hj h).2⟩⟩
      · trivial
    · trivial
def yslStr (lo hi : Nat → Option Int) : AVal → YR := fun x => (xslStr lo hi x).toY
def XR.toP : XR → YR
  | .ok s v => .pick v s
  | .bad => .bad
theorem XR.toP_of (x : XR) : x.toP.Of x := by
  cases x with
  | ok s v => exact ⟨s, rfl, fun h => h⟩
  | bad => trivial
def yslX (s : Nat) (lo hi : Nat → Option Int) (mx : Option (Option Int)) (keep : Bool) : AVal → YR := fun x => (xslX s lo hi mx keep x).toP
def ymnx (isMax : Bool) : AVal → List AVal → YR
  | v, [] => .ok none v
  | .int k a, .int k' b :: r => match sameK k k' with
    | true => ymnx isMax (.int k (if isMax then (if b > a then b else a) else (if b < a then b else a))) r
    | false => .bad
  | _, _ => .bad
theorem ymnx_of (m : Bool) : ∀ (l : List AVal) (v : AVal), (ymnx m v l).Of (xmnx m v l)
  | [], v => by simp only [ymnx, xmnx]; exact ⟨_, rfl, fun _ => trivial⟩
  | y :: r, v => by
    cases v <;> cases y <;> try trivial
    rename_i k a k' b
    simp only [ymnx, xmnx]
    split
    · rename_i hk
      have hk := sameK_eq hk
      subst hk
      have ih := ymnx_of m r (.int k (if m then (if b > a then b else a) else (if b < a then b else a)))
      cases hy : ymnx m (.int k (if m then (if b > a then b else a) else (if b < a then b else a))) r with
      | ok s v =>
        rw [hy] at ih
        obtain ⟨side, hx, hs⟩ := ih
        rw [hx]
        exact ⟨_, rfl, fun h => ⟨rfl, hs h⟩⟩
      | bad => trivial
      | row es i s f =>
        rw [hy] at ih
        obtain ⟨side, hx, hs⟩ := ih
        rw [hx]
        exact ⟨_, rfl, fun h => ⟨rfl, hs h⟩⟩
      | pick v s =>
        rw [hy] at ih
        obtain ⟨side, hx, hs⟩ := ih
        rw [hx]
        exact ⟨_, rfl, fun h => ⟨rfl, hs h⟩⟩
      | fork j len s f =>
        rw [hy] at ih
        obtain ⟨side, v, hx, hs⟩ := ih
        rw [hx]
        exact ⟨_, _, rfl, fun c hc hj h => ⟨⟨rfl, (hs c hc hj h).1⟩, (hs c hc hj h).2⟩⟩
    · trivial
def ymnx0 (isMax : Bool) : List AVal → YR
  | .int k a :: r => ymnx isMax (.int k a) r
  | _ => .bad

def ymlook (ks : List CK) (ka g ok : Bool) (zs : List AVal) (H : AHeap) (k : AVal) : AVal → YR
  | .val (.map none) => match keyOk ks ka k with
    | true => .ok none (mres g ok zs none)
    | false => .bad
  | .map b => match H.get b with
    | some (.amap es) => match keyOk ks ka k with
      | true => .pick (mres g ok zs ((mfind ks k es).getD none)) ((mfind ks k es).isSome = true)
      | false => .bad
    | _ => .bad
  | _ => .bad
theorem ymlook_of (ks : List CK) (ka g ok : Bool) (zs : List AVal) (H : AHeap) (k x : AVal) : (ymlook ks ka g ok zs H k x).Of (xmlook ks ka g ok zs H k x) := by
  unfold ymlook xmlook
  split
  · split
    · rename_i h; rw [if_pos h]; exact ⟨_, rfl, fun _ => trivial⟩
    · trivial
  · split
    · rename_i hg
      split
      · rename_i h; simp only [hg]; rw [if_pos h]; exact ⟨_, rfl, fun h => h⟩
      · trivial
    · trivial
  · trivial


def ypure (e : Env) (H : AHeap) : LOp → YR
  | .mv x => .ok (x.needY e) (x.ev e)
  | .pick c a b => (yxpick e (a.needY e) (b.needY e) (c.ev e) a b).and (c.needY e)
  | .build zs parts => (ybuild zs (evParts e parts)).and (needYP e parts)
  | .load g n a => (yload g n H (a.ev e)).and (a.needY e)
  | .nilck x => (xnilck (x.ev e)).toY0.and (x.needY e)
  | .bin op x y => (ybin op (x.ev e) (y.ev e)).and (andO (x.needY e) (y.needY e))
  | .eq neg k x y => (yeq neg k (x.ev e) (y.ev e)).and (andO (x.needY e) (y.needY e))
  | .un op x => (xun op (x.ev e)).toY0.and (x.needY e)
  | .conv (.int k) x => match x.ev e with
    | .int _ n => .ok (x.needY e) (.int k (k.wrap n))
    | _ => .bad
  | .conv .same x => match x.ev e with
    | .str l => .ok (x.needY e) (.str l)
    | _ => .bad
  | .mkfn f a c => .ok (andO (needYs e a) (needYs e c)) (.fn f (evs e a) (evs e c))
  | .slStr x lo hi => (yslStr (fun d => xbound e d lo) (fun d => xbound e d hi) (x.ev e)).and (andO (x.needY e) (andO (needYO e lo) (needYO e hi)))
  | .slSl s x lo hi mx => (yslX s (fun d => xbound e d lo) (fun d => xbound e d hi) (xmax e mx) (hi.isNone && mx.isNone) (x.ev e)).and (andO (x.needY e) (andO (needYO e lo) (andO (needYO e hi) (needYO e mx))))
  | .slAr n s x => (xslAr n s H (x.ev e)).toP.and (x.needY e)
  | .faddr off x => (xfaddr off (x.ev e)).toY0.and (x.needY e)
  | .field g n off x => (yfield g n off (x.ev e)).and (x.needY e)
  | .iaddr s x i => (yiaddr s (x.ev e).rd (i.ev e)).and (andO (x.needY e) (i.needY e))
  | .iaddrA n s x i => (yiaddrA n s (x.ev e) i (i.ev e)).and (andO (x.needY e) (i.needY e))
  | .iaddrR n s x i => (yiaddrR n s H (x.ev e) (i.ev e)).and (andO (x.needY e) (i.needY e))
  | .idxS x i => (xidxS (x.ev e) (i.ev e)).toY.and (andO (x.needY e) (i.needY e))
  | .idxA n s g x i => (yidxA n s g (x.ev e) i (i.ev e)).and (andO (x.needY e) (i.needY e))
  | .ext k x => (yext k (x.ev e)).and (x.needY e)
  | .len true x => (xlenS (x.ev e)).toY0.and (x.needY e)
  | .len false x => (xlenL (x.ev e).rd).toY0.and (x.needY e)
  | .mnx m args => (ymnx0 m (evs e args)).and (needYs e args)
  | .mlook ks ka g ok zs x k => (ymlook ks ka g ok zs H (k.ev e) (x.ev e)).and (andO (x.needY e) (k.needY e))
  | .mlen x => (xmlen H (x.ev e)).toY0.and (x.needY e)
  | _ => .bad

theorem ypure_of (e : Env) (H : AHeap) (op : LOp) : (ypure e H op).Of (xpure e H op) := by
  have h2 : ∀ {x y : LOpd}, holdsO (andO (x.needY e) (y.needY e)) → x.need e ∧ y.need e := fun h => by rw [andO_iff, opd_needY, opd_needY] at h; exact h
  cases op <;> simp only [ypure, xpure] <;> try trivial
  case mv x => exact ⟨_, rfl, (opd_needY e x).1⟩
  case pick c a b =>
    refine YR.Of.and ?_ (opd_needY e c).1
    unfold yxpick xpick
    split
    · rename_i cc hcc
      simp only [hcc]
      split
      · rename_i v hv
        rw [ypickO_eq hv]
        refine ⟨_, rfl, fun h => ?_⟩
        rw [andO_iff, implO_iff, implO_iff, opd_needY, opd_needY] at h
        exact h
      · trivial
    · trivial
  case build zs parts => exact (ybuild_of _ _).and (needYP_iff e parts).1
  case load g n a => exact (yload_of _ _ _ _).and (opd_needY e a).1
  case nilck x =>
    refine YR.Of.and (XR.toY0_of fun s v h => ?_) (opd_needY e x).1
    unfold xnilck at h
    split at h <;> simp only [XR.ok.injEq, reduceCtorEq] at h <;> (obtain ⟨rfl, _⟩ := h; trivial)
  case bin op x y => exact (ybin_of _ _ _).and h2
  case eq neg k x y => exact (yeq_of _ _ _ _).and h2
  case mlook ks ka g ok zs x k => exact (ymlook_of _ _ _ _ _ _ _ _).and h2
  case mlen x =>
    refine YR.Of.and (XR.toY0_of fun s v h => ?_) (opd_needY e x).1
    unfold xmlen at h
    split at h <;> (try split at h) <;> simp only [XR.ok.injEq, reduceCtorEq] at h <;> (obtain ⟨rfl, _⟩ := h; trivial)
  case un op x =>
    refine YR.Of.and (XR.toY0_of fun s v h => ?_) (opd_needY e x).1
    unfold xun at h
    split at h <;> (try split at h) <;> simp only [XR.ok.injEq, reduceCtorEq] at h <;> (obtain ⟨rfl, _⟩ := h; trivial)
  case conv k x =>
    cases k <;> simp only <;> try trivial
    · split
      · rename_i h; simp only [h]; exact ⟨_, rfl, (opd_needY e x).1⟩
      · trivial
    · split
      · rename_i h; simp only [h]; exact ⟨_, rfl, (opd_needY e x).1⟩
      · trivial
  case mkfn f a c => exact ⟨_, rfl, fun h => by rw [andO_iff, needYs_iff, needYs_iff] at h; exact h⟩
  case slStr x lo hi => exact (XR.toY_of _).and (fun h => by rw [andO_iff, andO_iff, opd_needY, needYO_iff, needYO_iff] at h; exact h)
  case slSl s x lo hi mx => exact (XR.toP_of _).and (fun h => by rw [andO_iff, andO_iff, andO_iff, opd_needY, needYO_iff, needYO_iff, needYO_iff] at h; exact h)
  case slAr k s x => exact (XR.toP_of _).and (opd_needY e x).1
  case faddr off x =>
    refine YR.Of.and (XR.toY0_of fun s v h => ?_) (opd_needY e x).1
    unfold xfaddr at h
    split at h <;> simp only [XR.ok.injEq, reduceCtorEq] at h <;> (obtain ⟨rfl, _⟩ := h; trivial)
  case field g n off x => exact (yfield_of _ _ _ _).and (opd_needY e x).1
  case iaddr s x i => exact (yiaddr_of _ _ _).and h2
  case iaddrA n s x i => exact (yiaddrA_of _ _ _ _ _).and h2
  case iaddrR n s x i => exact (yiaddrR_of _ _ _ _ _).and h2
  case idxS x i => exact (XR.toY_of _).and h2
  case idxA n s g x i => exact (yidxA_of _ _ _ _ _ _).and h2
  case ext k x => exact (yext_of _ _).and (opd_needY e x).1
  case len st x =>
    cases st with
    | true =>
      refine YR.Of.and (XR.toY0_of fun s v h => ?_) (opd_needY e x).1
      unfold xlenS at h
      split at h <;> simp only [XR.ok.injEq, reduceCtorEq] at h <;> (obtain ⟨rfl, _⟩ := h; trivial)
    | false =>
      refine YR.Of.and (XR.toY0_of fun s v h => ?_) (opd_needY e x).1
      unfold xlenL at h
      split at h <;> simp only [XR.ok.injEq, reduceCtorEq] at h <;> (obtain ⟨rfl, _⟩ := h; trivial)
  case mnx m args =>
    refine YR.Of.and ?_ (needYs_iff e args).1
    unfold ymnx0 xmnx0
    split
    · rename_i h; simp only [h]; exact ymnx_of _ _ _
    · trivial
end Go.Fx
