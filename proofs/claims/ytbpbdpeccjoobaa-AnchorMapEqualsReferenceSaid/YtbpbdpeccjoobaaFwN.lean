/-
  Own framework, part N: the executor's equations, for simp.
-/
import Derived.Test.YtbpbdpeccjoobaaFwM
namespace Go.Fw

section
variable {P : Program} {N n0 : Nat}

def SeqK (P : Program) (N n0 : Nat) (b : LCode) (Q : Exit → Env → AHeap → Nat → Prop) : Exit → Env → AHeap → Nat → Prop := fun ex e H n => match ex with | .normal => xcode P N n0 b Q e H n | ex => Q ex e H n
def BlockK (id : Nat) (Q : Exit → Env → AHeap → Nat → Prop) : Exit → Env → AHeap → Nat → Prop := fun ex e H n => match ex with | .exit i => if i = id then Q .normal e H n else Q (.exit i) e H n | ex => Q ex e H n

variable (Q : Exit → Env → AHeap → Nat → Prop) (e : Env) (H : AHeap) (n : Nat)
theorem xc_skip : xcode P N n0 .skip Q e H n = Q .normal e H n := rfl
theorem xc_region (ops : List LOper) : xcode P N n0 (.region ops) Q e H n = xops P ops (Q .normal) e H n := rfl
theorem xc_quiet (ops : List LOper) : xcode P N n0 (.quiet ops) Q e H n = xqs ops (Q .normal) e H n := rfl
theorem xc_seq (a b : LCode) : xcode P N n0 (.seq a b) Q e H n = xcode P N n0 a (SeqK P N n0 b Q) e H n := rfl
def CondK (P : Program) (N n0 : Nat) (v : AVal) (nd : Prop) (a b : LCode) (Q : Exit → Env → AHeap → Nat → Prop) (e : Env) (H : AHeap) (n : Nat) : Prop :=
  match v with | .bool v => nd ∧ (v = true → xcode P N n0 a Q e H n) ∧ (v = false → xcode P N n0 b Q e H n) | _ => False
theorem xc_cond (c : LOpd) (a b : LCode) : xcode P N n0 (.cond c a b) Q e H n = CondK P N n0 (c.ev e) (c.need e) a b Q e H n := rfl
theorem CondK_true (nd : Prop) (a b : LCode) : CondK P N n0 (.bool true) nd a b Q e H n = (nd ∧ xcode P N n0 a Q e H n) := by simp [CondK]
theorem CondK_false (nd : Prop) (a b : LCode) : CondK P N n0 (.bool false) nd a b Q e H n = (nd ∧ xcode P N n0 b Q e H n) := by simp [CondK]
theorem CondK_bool (v : Bool) (nd : Prop) (a b : LCode) : CondK P N n0 (.bool v) nd a b Q e H n = (nd ∧ (v = true → xcode P N n0 a Q e H n) ∧ (v = false → xcode P N n0 b Q e H n)) := rfl
theorem xc_block (id : Nat) (c : LCode) : xcode P N n0 (.block id c) Q e H n = xcode P N n0 c (BlockK id Q) e H n := rfl
theorem xc_loop (c : LCode) : xcode P N n0 (.loop c) Q e H n = LWp P N n0 (.loop c) Q e H n := rfl
theorem xc_exit (i : Nat) : xcode P N n0 (.exit i) Q e H n = Q (.exit i) e H n := rfl
theorem xc_ret : xcode P N n0 .ret Q e H n = Q .ret e H n := rfl
theorem SeqK_normal (b : LCode) : SeqK P N n0 b Q .normal e H n = xcode P N n0 b Q e H n := rfl
theorem SeqK_exit (b : LCode) (i : Nat) : SeqK P N n0 b Q (.exit i) e H n = Q (.exit i) e H n := rfl
theorem SeqK_ret (b : LCode) : SeqK P N n0 b Q .ret e H n = Q .ret e H n := rfl
theorem BlockK_normal (id : Nat) : BlockK id Q .normal e H n = Q .normal e H n := rfl
theorem BlockK_exit (id i : Nat) : BlockK id Q (.exit i) e H n = if i = id then Q .normal e H n else Q (.exit i) e H n := rfl
theorem BlockK_ret (id : Nat) : BlockK id Q .ret e H n = Q .ret e H n := rfl
theorem FinK_normal (res : List Nat) (R : AVal → AHeap → Nat → Prop) : FinK res R .normal e H n = (resNeeds e res ∧ R (resVal (resVals e res)) H n) := rfl
theorem FinK_ret (res : List Nat) (R : AVal → AHeap → Nat → Prop) : FinK res R .ret e H n = (resNeeds e res ∧ R (resVal (resVals e res)) H n) := rfl
theorem LoopK_normal {ι : Type} (nL : ι → Nat) (H0 : AHeap) (env : ι → Env) (L : ι → AHeap) (pre : ι → Prop) (μ : ι → Nat) (x : ι) : LoopK nL H0 env L pre μ x Q .normal e H n = ∃ y, pre y ∧ μ y < μ x ∧ StSub (nL y) H0 e H n (env y) (L y) := rfl
theorem LoopK_exit {ι : Type} (nL : ι → Nat) (H0 : AHeap) (env : ι → Env) (L : ι → AHeap) (pre : ι → Prop) (μ : ι → Nat) (x : ι) (i : Nat) : LoopK nL H0 env L pre μ x Q (.exit i) e H n = Q (.exit i) e H n := rfl
theorem LoopK_ret {ι : Type} (nL : ι → Nat) (H0 : AHeap) (env : ι → Env) (L : ι → AHeap) (pre : ι → Prop) (μ : ι → Nat) (x : ι) : LoopK nL H0 env L pre μ x Q .ret e H n = Q .ret e H n := rfl

/-! ### operations -/
variable (R : Env → AHeap → Nat → Prop)
/-- a result of an operation that leaves the heap alone -/
def XRK (P : Program) (r : XR) (p : Prop) (d : Option Nat) (os : List LOper) (R : Env → AHeap → Nat → Prop) (e : Env) (H : AHeap) (n : Nat) : Prop :=
  match r with | .ok s v => (p ∧ s) ∧ xops P os R (e.put d v) H n | .bad => False
theorem XRK_ok (s p : Prop) (v : AVal) (d : Option Nat) (os : List LOper) : XRK P (.ok s v) p d os R e H n = ((p ∧ s) ∧ xops P os R (e.put d v) H n) := rfl
theorem XRK_bad (p : Prop) (d : Option Nat) (os : List LOper) : XRK P .bad p d os R e H n = False := rfl
def OpsK (P : Program) (os : List LOper) (R : Env → AHeap → Nat → Prop) (e : Env) (d : Option Nat) : AVal → AHeap → Nat → Prop := fun r H n => xops P os R (e.put d r) H n
theorem OpsK_app (os : List LOper) (d : Option Nat) (r : AVal) : OpsK P os R e d r H n = xops P os R (e.put d r) H n := rfl

theorem xo_nil : xops P [] R e H n = R e H n := rfl
theorem xr_and (r : XR) (p : Prop) (d : Option Nat) (os : List LOper) : (match r.and p with | .ok side v => side ∧ xops P os R (e.put d v) H n | .bad => False) = XRK P r p d os R e H n := by
  cases r <;> rfl
theorem xo_mv (d : Option Nat) (os : List LOper) (x : LOpd) : xops P (⟨d, .mv x, none⟩ :: os) R e H n = (x.need e ∧ xops P os R (e.put d (x.ev e)) H n) := rfl
theorem xo_pick (d : Option Nat) (os : List LOper) (c a b : LOpd) : xops P (⟨d, .pick c a b, none⟩ :: os) R e H n = XRK P (xpick (a.need e) (b.need e) (c.ev e) (a.ev e) (b.ev e)) (c.need e) d os R e H n := xr_and ..
theorem xo_build (d : Option Nat) (os : List LOper) (zs : List AVal) (ps : List (Nat × Nat × LOpd)) : xops P (⟨d, .build zs ps, none⟩ :: os) R e H n = XRK P (xbuild zs (evParts e ps)) (needParts e ps) d os R e H n := xr_and ..
theorem xo_load (d : Option Nat) (os : List LOper) (g : Bool) (m : Nat) (a : LOpd) : xops P (⟨d, .load g m a, none⟩ :: os) R e H n = XRK P (xload g m H (a.ev e)) (a.need e) d os R e H n := xr_and ..
theorem xo_nilck (d : Option Nat) (os : List LOper) (x : LOpd) : xops P (⟨d, .nilck x, none⟩ :: os) R e H n = XRK P (xnilck (x.ev e)) (x.need e) d os R e H n := xr_and ..
theorem xo_bin (d : Option Nat) (os : List LOper) (op : BinOp) (x y : LOpd) : xops P (⟨d, .bin op x y, none⟩ :: os) R e H n = XRK P (xbin op (x.ev e) (y.ev e)) (x.need e ∧ y.need e) d os R e H n := xr_and ..
theorem xo_eq (d : Option Nat) (os : List LOper) (neg : Bool) (k : EqK) (x y : LOpd) : xops P (⟨d, .eq neg k x y, none⟩ :: os) R e H n = XRK P (xeq neg k (x.ev e) (y.ev e)) (x.need e ∧ y.need e) d os R e H n := xr_and ..
theorem xo_un (d : Option Nat) (os : List LOper) (op : UnOp) (x : LOpd) : xops P (⟨d, .un op x, none⟩ :: os) R e H n = XRK P (xun op (x.ev e)) (x.need e) d os R e H n := xr_and ..
def xconvI (k : IntKind) : AVal → XR | .int _ n => .ok True (.int k (k.wrap n)) | _ => .bad
theorem xo_convI (d : Option Nat) (os : List LOper) (k : IntKind) (x : LOpd) : xops P (⟨d, .conv (.int k) x, none⟩ :: os) R e H n = XRK P (xconvI k (x.ev e)) (x.need e) d os R e H n := by
  simp only [xops, isPure, xpure]
  cases x.ev e <;> simp [xconvI, XRK]
def xconvS : AVal → XR | .str l => .ok True (.str l) | _ => .bad
theorem xo_convS (d : Option Nat) (os : List LOper) (x : LOpd) : xops P (⟨d, .conv .same x, none⟩ :: os) R e H n = XRK P (xconvS (x.ev e)) (x.need e) d os R e H n := by
  simp only [xops, isPure, xpure]
  cases x.ev e <;> simp [xconvS, XRK]
theorem xo_mkfn (d : Option Nat) (os : List LOper) (f : Fn) (a c : List LOpd) : xops P (⟨d, .mkfn f a c, none⟩ :: os) R e H n = ((needs e a ∧ needs e c) ∧ xops P os R (e.put d (.fn f (evs e a) (evs e c))) H n) := rfl
theorem xo_slStr (d : Option Nat) (os : List LOper) (x : LOpd) (lo hi : Option LOpd) : xops P (⟨d, .slStr x lo hi, none⟩ :: os) R e H n = XRK P (xslStr (fun d => xbound e d lo) (fun d => xbound e d hi) (x.ev e)) (x.need e ∧ needO e lo ∧ needO e hi) d os R e H n := xr_and ..
theorem xo_slSl (d : Option Nat) (os : List LOper) (s : Nat) (x : LOpd) (lo hi mx : Option LOpd) : xops P (⟨d, .slSl s x lo hi mx, none⟩ :: os) R e H n = XRK P (xslSl s (fun d => xbound e d lo) (fun d => xbound e d hi) (xmax e mx) (x.ev e)) (x.need e ∧ needO e lo ∧ needO e hi ∧ needO e mx) d os R e H n := xr_and ..
theorem xo_faddr (d : Option Nat) (os : List LOper) (o : Nat) (x : LOpd) : xops P (⟨d, .faddr o x, none⟩ :: os) R e H n = XRK P (xfaddr o (x.ev e)) (x.need e) d os R e H n := xr_and ..
theorem xo_field (d : Option Nat) (os : List LOper) (g : Bool) (m o : Nat) (x : LOpd) : xops P (⟨d, .field g m o x, none⟩ :: os) R e H n = XRK P (xfield g m o (x.ev e)) (x.need e) d os R e H n := xr_and ..
theorem xo_iaddr (d : Option Nat) (os : List LOper) (s : Nat) (x i : LOpd) : xops P (⟨d, .iaddr s x i, none⟩ :: os) R e H n = XRK P (xiaddr s (x.ev e) (i.ev e)) (x.need e ∧ i.need e) d os R e H n := xr_and ..
theorem xo_iaddrA (d : Option Nat) (os : List LOper) (m s : Nat) (x i : LOpd) : xops P (⟨d, .iaddrA m s x i, none⟩ :: os) R e H n = XRK P (xiaddrA m s (x.ev e) (i.ev e)) (x.need e ∧ i.need e) d os R e H n := xr_and ..
theorem xo_idxS (d : Option Nat) (os : List LOper) (x i : LOpd) : xops P (⟨d, .idxS x i, none⟩ :: os) R e H n = XRK P (xidxS (x.ev e) (i.ev e)) (x.need e ∧ i.need e) d os R e H n := xr_and ..
theorem xo_idxA (d : Option Nat) (os : List LOper) (m s : Nat) (g : Bool) (x i : LOpd) : xops P (⟨d, .idxA m s g x i, none⟩ :: os) R e H n = XRK P (xidxA m s g (x.ev e) (i.ev e)) (x.need e ∧ i.need e) d os R e H n := xr_and ..
theorem xo_ext (d : Option Nat) (os : List LOper) (k : Nat) (x : LOpd) : xops P (⟨d, .ext k x, none⟩ :: os) R e H n = XRK P (xext k (x.ev e)) (x.need e) d os R e H n := xr_and ..
theorem xo_lenS (d : Option Nat) (os : List LOper) (x : LOpd) : xops P (⟨d, .len true x, none⟩ :: os) R e H n = XRK P (xlenS (x.ev e)) (x.need e) d os R e H n := xr_and ..
theorem xo_lenL (d : Option Nat) (os : List LOper) (x : LOpd) : xops P (⟨d, .len false x, none⟩ :: os) R e H n = XRK P (xlenL (x.ev e)) (x.need e) d os R e H n := xr_and ..
theorem xo_mnx (d : Option Nat) (os : List LOper) (m : Bool) (a : List LOpd) : xops P (⟨d, .mnx m a, none⟩ :: os) R e H n = XRK P (xmnx0 m (evs e a)) (needs e a) d os R e H n := xr_and ..
-- what changes the heap
theorem xo_alloc (d : Option Nat) (os : List LOper) (z : List AVal) : xops P (⟨d, .alloc z, none⟩ :: os) R e H n = xops P os R (e.put d (.ptr n 0 0)) ((n, .rows z.length [z]) :: H) (n + 1) := rfl
theorem xo_box (d : Option Nat) (os : List LOper) (x : LOpd) : xops P (⟨d, .box x, none⟩ :: os) R e H n = xeff P e H n (OpsK P os R e d) (.box x) := rfl
theorem xo_mkSl (d : Option Nat) (os : List LOper) (s m : Nat) (z : List AVal) (p : List (Nat × LOpd)) : xops P (⟨d, .mkSl s z m p, none⟩ :: os) R e H n = xeff P e H n (OpsK P os R e d) (.mkSl s z m p) := rfl
theorem xo_store (d : Option Nat) (os : List LOper) (m : Nat) (a x : LOpd) : xops P (⟨d, .store m a x, none⟩ :: os) R e H n = xeff P e H n (OpsK P os R e d) (.store m a x) := rfl
theorem xo_s2b (d : Option Nat) (os : List LOper) (x : LOpd) : xops P (⟨d, .conv .s2b x, none⟩ :: os) R e H n = xeff P e H n (OpsK P os R e d) (.conv .s2b x) := rfl
theorem xo_b2s (d : Option Nat) (os : List LOper) (x : LOpd) : xops P (⟨d, .conv .b2s x, none⟩ :: os) R e H n = xeff P e H n (OpsK P os R e d) (.conv .b2s x) := rfl
theorem xo_mkslice (d : Option Nat) (os : List LOper) (s b : Nat) (z : List AVal) (l c : LOpd) : xops P (⟨d, .mkslice s b z l c, none⟩ :: os) R e H n = xeff P e H n (OpsK P os R e d) (.mkslice s b z l c) := rfl
theorem xo_call (d : Option Nat) (os : List LOper) (f : FuncId) (a : List LOpd) : xops P (⟨d, .call f a, none⟩ :: os) R e H n = (needs e a ∧ ACalls P f (evs e a) H n (OpsK P os R e d)) := rfl
def CallvK (P : Program) (v : AVal) (nd : Prop) (args : List AVal) (H : AHeap) (n : Nat) (K : AVal → AHeap → Nat → Prop) : Prop := match v with | .fn (.func f) first caps => nd ∧ ACalls P f (first ++ args ++ caps) H n K | _ => False
theorem CallvK_fn (f : FuncId) (first caps : List AVal) (nd : Prop) (args : List AVal) (K : AVal → AHeap → Nat → Prop) : CallvK P (.fn (.func f) first caps) nd args H n K = (nd ∧ ACalls P f (first ++ args ++ caps) H n K) := rfl
theorem xo_callv (d : Option Nat) (os : List LOper) (x : LOpd) (a : List LOpd) : xops P (⟨d, .callv x a, none⟩ :: os) R e H n = CallvK P (x.ev e) (x.need e ∧ needs e a) (evs e a) H n (OpsK P os R e d) := by
  simp only [xops, isPure, xeff]
  unfold CallvK
  split <;> simp_all [and_assoc]
  intro _ _; exact Iff.rfl
theorem xo_app (d : Option Nat) (os : List LOper) (s b : Nat) (x y : LOpd) : xops P (⟨d, .app s b x y, none⟩ :: os) R e H n = xeff P e H n (OpsK P os R e d) (.app s b x y) := rfl
theorem xo_copy (d : Option Nat) (os : List LOper) (s : Nat) (x y : LOpd) : xops P (⟨d, .copy s x y, none⟩ :: os) R e H n = xeff P e H n (OpsK P os R e d) (.copy s x y) := rfl

-- guards
def GuardK (P : Program) (g : Option Bool) (op : LOp) (d : Option Nat) (os : List LOper) (R : Env → AHeap → Nat → Prop) (e : Env) (H : AHeap) (n : Nat) : Prop :=
  match g with
  | some p => match isPure op with
    | true => match xpure e H op with
      | .ok side v => (p = true → side) ∧ xops P os R (e.put d (.cnd p v)) H n
      | .bad => p = false ∧ xops P os R (e.put d (.tup [])) H n
    | false => (p = true → xeff P e H n (OpsK P os R e d) op) ∧ (p = false → xops P os R (e.put d (.tup [])) H n)
  | none => False
theorem xo_guard (d : Option Nat) (os : List LOper) (op : LOp) (g : Nat) (want : Bool) : xops P (⟨d, op, some (g, want)⟩ :: os) R e H n = GuardK P (guardP (e.get g) want) op d os R e H n := rfl
/-- a guarded operation that leaves the heap alone -/
def GXK (P : Program) (p : Bool) (r : XR) (d : Option Nat) (os : List LOper) (R : Env → AHeap → Nat → Prop) (e : Env) (H : AHeap) (n : Nat) : Prop :=
  match r with
  | .ok side v => (p = true → side) ∧ xops P os R (e.put d (.cnd p v)) H n
  | .bad => p = false ∧ xops P os R (e.put d (.tup [])) H n
theorem GXK_ok (p : Bool) (s : Prop) (v : AVal) (d : Option Nat) (os : List LOper) : GXK P p (.ok s v) d os R e H n = ((p = true → s) ∧ xops P os R (e.put d (.cnd p v)) H n) := rfl
theorem GXK_bad (p : Bool) (d : Option Nat) (os : List LOper) : GXK P p .bad d os R e H n = (p = false ∧ xops P os R (e.put d (.tup [])) H n) := rfl
theorem guard_pure (p : Bool) (op : LOp) (d : Option Nat) (os : List LOper) (h : isPure op = true) : GuardK P (some p) op d os R e H n = GXK P p (xpure e H op) d os R e H n := by
  unfold GuardK; simp only [h]; rfl
theorem guard_eff (p : Bool) (op : LOp) (d : Option Nat) (os : List LOper) (h : isPure op = false) : GuardK P (some p) op d os R e H n = ((p = true → xeff P e H n (OpsK P os R e d) op) ∧ (p = false → xops P os R (e.put d (.tup [])) H n)) := by
  unfold GuardK; simp only [h]

-- regions whose order is open
def XQK (r : XR) (d : Option Nat) (os : List LOper) (R : Env → AHeap → Nat → Prop) (e : Env) (H : AHeap) (n : Nat) : Prop :=
  match r with | .ok s v => s ∧ xqs os R (e.put d v) H n | .bad => False
theorem XQK_ok (s : Prop) (v : AVal) (d : Option Nat) (os : List LOper) : XQK (.ok s v) d os R e H n = (s ∧ xqs os R (e.put d v) H n) := rfl
theorem XQK_bad (d : Option Nat) (os : List LOper) : XQK .bad d os R e H n = False := rfl
theorem xq_nil : xqs [] R e H n = R e H n := rfl
theorem xq_none (d : Option Nat) (os : List LOper) (op : LOp) : xqs (⟨d, op, none⟩ :: os) R e H n = XQK (xpure e H op) d os R e H n := rfl
def GQK (g : Option Bool) (r : XR) (d : Option Nat) (os : List LOper) (R : Env → AHeap → Nat → Prop) (e : Env) (H : AHeap) (n : Nat) : Prop :=
  match g with
  | some p => match r with
    | .ok side v => (p = true → side) ∧ xqs os R (e.put d (.cnd p v)) H n
    | .bad => p = false ∧ xqs os R (e.put d (.tup [])) H n
  | none => False
theorem GQK_ok (p : Bool) (s : Prop) (v : AVal) (d : Option Nat) (os : List LOper) : GQK (some p) (.ok s v) d os R e H n = ((p = true → s) ∧ xqs os R (e.put d (.cnd p v)) H n) := rfl
theorem GQK_bad (p : Bool) (d : Option Nat) (os : List LOper) : GQK (some p) .bad d os R e H n = (p = false ∧ xqs os R (e.put d (.tup [])) H n) := rfl
theorem xq_some (d : Option Nat) (os : List LOper) (op : LOp) (g : Nat) (want : Bool) : xqs (⟨d, op, some (g, want)⟩ :: os) R e H n = GQK (guardP (e.get g) want) (xpure e H op) d os R e H n := rfl
end

/-! ### small evaluations -/
theorem put_some (e : Env) (d : Nat) (v : AVal) : e.put (some d) v = (d, v) :: e := rfl
theorem put_none (e : Env) (v : AVal) : e.put none v = e := rfl
theorem get_nil (t : Nat) : Env.get [] t = .any := rfl
theorem get_cons (k : Nat) (v : AVal) (r : Env) (t : Nat) : Env.get ((k, v) :: r) t = if k = t then v else Env.get r t := rfl
theorem hget_cons (k : Nat) (v : ABlock) (r : AHeap) (t : Nat) : AHeap.get ((k, v) :: r) t = if k = t then some v else AHeap.get r t := rfl
theorem hset_cons (k : Nat) (v : ABlock) (r : AHeap) (t : Nat) (b : ABlock) : AHeap.set ((k, v) :: r) t b = if k = t then (k, b) :: r else (k, v) :: AHeap.set r t b := rfl
theorem hdel_cons (k : Nat) (v : ABlock) (r : AHeap) (t : Nat) : AHeap.del ((k, v) :: r) t = if k = t then AHeap.del r t else (k, v) :: AHeap.del r t := rfl
theorem ev_t (e : Env) (i : Nat) : (LOpd.t i).ev e = (e.get i).strip := rfl
theorem ev_c (e : Env) (v : AVal) : (LOpd.c v).ev e = v := rfl
theorem need_t (e : Env) (i : Nat) : (LOpd.t i).need e = (e.get i).need := rfl
theorem need_c (e : Env) (v : AVal) : (LOpd.c v).need e = True := rfl
theorem strip_cnd (p : Bool) (x : AVal) : (AVal.cnd p x).strip = x := rfl
theorem strip_bool (b : Bool) : (AVal.bool b).strip = .bool b := rfl
theorem strip_int (k : IntKind) (n : Int) : (AVal.int k n).strip = .int k n := rfl
theorem strip_str (l : List UInt8) : (AVal.str l).strip = .str l := rfl
theorem strip_val (v : Value) : (AVal.val v).strip = .val v := rfl
theorem strip_agg (c : List AVal) : (AVal.agg c).strip = .agg c := rfl
theorem strip_tup (c : List AVal) : (AVal.tup c).strip = .tup c := rfl
theorem strip_isl (s : Nat) (es : List (List AVal)) (f : Bool) : (AVal.isl s es f).strip = .isl s es f := rfl
theorem strip_iptr (s : Nat) (es : List (List AVal)) (i o : Nat) : (AVal.iptr s es i o).strip = .iptr s es i o := rfl
theorem strip_ptr (b i o : Nat) : (AVal.ptr b i o).strip = .ptr b i o := rfl
theorem strip_msl (b s o l : Nat) (f : Bool) : (AVal.msl b s o l f).strip = .msl b s o l f := rfl
theorem strip_fn (f : Fn) (a c : List AVal) : (AVal.fn f a c).strip = .fn f a c := rfl
theorem nd_cnd (p : Bool) (x : AVal) : (AVal.cnd p x).need = (p = true) := rfl
theorem nd_bool (b : Bool) : (AVal.bool b).need = True := rfl
theorem nd_int (k : IntKind) (n : Int) : (AVal.int k n).need = True := rfl
theorem nd_str (l : List UInt8) : (AVal.str l).need = True := rfl
theorem nd_val (v : Value) : (AVal.val v).need = True := rfl
theorem nd_agg (c : List AVal) : (AVal.agg c).need = True := rfl
theorem nd_tup (c : List AVal) : (AVal.tup c).need = True := rfl
theorem nd_isl (s : Nat) (es : List (List AVal)) (f : Bool) : (AVal.isl s es f).need = True := rfl
theorem nd_iptr (s : Nat) (es : List (List AVal)) (i o : Nat) : (AVal.iptr s es i o).need = True := rfl
theorem nd_ptr (b i o : Nat) : (AVal.ptr b i o).need = True := rfl
theorem nd_msl (b s o l : Nat) (f : Bool) : (AVal.msl b s o l f).need = True := rfl
theorem nd_fn (f : Fn) (a c : List AVal) : (AVal.fn f a c).need = True := rfl
theorem guardP_bool (b want : Bool) : guardP (.bool b) want = some (b == want) := rfl
theorem guardP_cnd (q b want : Bool) : guardP (.cnd q (.bool b)) want = some (q && (b == want)) := rfl
theorem guardP_tup (want : Bool) : guardP (.tup []) want = some false := rfl
theorem apick_true (a b : AVal) : apick true a b = a := rfl
theorem apick_false (a b : AVal) : apick false a b = b := rfl
theorem apick_bool (c a b : Bool) : apick c (.bool a) (.bool b) = .bool (if c then a else b) := by cases c <;> rfl
theorem and_ok (p s : Prop) (v : AVal) : (XR.ok s v).and p = .ok (p ∧ s) v := rfl
theorem and_bad (p : Prop) : XR.bad.and p = .bad := rfl
theorem cellsAt_t (n off : Nat) (r : List AVal) : cellsAt true n off r = .agg ((r.drop off).take n) := rfl
theorem cellsAt_f (n off : Nat) (r : List AVal) : cellsAt false n off r = r.getD off .any := rfl
theorem getD_zero {α : Type} (x : α) (r : List α) (d : α) : (x :: r).getD 0 d = x := rfl
theorem getD_succ {α : Type} (x : α) (r : List α) (k : Nat) (d : α) : (x :: r).getD (k + 1) d = r.getD k d := rfl
theorem xload_ptr (g : Bool) (m : Nat) (H : AHeap) (b i off : Nat) : xload g m H (.ptr b i off) = (match H.get b with | some (.rows s es) => .ok (i < es.length ∧ off + m ≤ s) (cellsAt g m off (es.getD i [])) | _ => .bad) := rfl
theorem getD_map {α γ : Type} (f : α → γ) (l : List α) (k : Nat) (d : γ) (h : k < l.length) : (l.map f).getD k d = f l[k] := by
  rw [List.getD_eq_getElem?_getD, List.getElem?_eq_getElem (by simpa using h)]; simp

/-! ### what is left to show at the ends -/
theorem frz_bool (n : Nat) (H : AHeap) (b : Bool) (y : AVal) : Frz n H (.bool b) y ↔ y = .bool b := ⟨fun h => by cases h; rfl, fun h => by subst h; exact .bool b⟩
theorem frz_int (n : Nat) (H : AHeap) (k : IntKind) (m : Int) (y : AVal) : Frz n H (.int k m) y ↔ y = .int k m := ⟨fun h => by cases h; rfl, fun h => by subst h; exact .int k m⟩
theorem frz_str (n : Nat) (H : AHeap) (l : List UInt8) (y : AVal) : Frz n H (.str l) y ↔ y = .str l := ⟨fun h => by cases h; rfl, fun h => by subst h; exact .str l⟩
theorem frz_isl (n : Nat) (H : AHeap) (s : Nat) (es : List (List AVal)) (f : Bool) (y : AVal) : Frz n H (.isl s es f) y ↔ y = .isl s es f := ⟨fun h => by cases h; rfl, fun h => by subst h; exact .isl s es f⟩
def FrzL (n : Nat) (H : AHeap) : List AVal → List AVal → Prop
  | [], [] => True
  | x :: xs, y :: ys => Frz n H x y ∧ FrzL n H xs ys
  | _, _ => False
theorem frzL_get {n : Nat} {H : AHeap} : ∀ {xs ys : List AVal}, FrzL n H xs ys → xs.length = ys.length ∧ ∀ (i : Nat) (x y : AVal), xs[i]? = some x → ys[i]? = some y → Frz n H x y
  | [], [], _ => ⟨rfl, fun i x y h _ => by simp at h⟩
  | [], _ :: _, h => h.elim
  | _ :: _, [], h => h.elim
  | x :: xs, y :: ys, h => by
    obtain ⟨h1, h2⟩ := frzL_get h.2
    refine ⟨by simp [h1], fun i a b ha hb => ?_⟩
    cases i with
    | zero => simp at ha hb; subst ha; subst hb; exact h.1
    | succ i => exact h2 i a b (by simpa using ha) (by simpa using hb)
theorem Frz.tupL {n : Nat} {H : AHeap} {xs ys : List AVal} (h : FrzL n H xs ys) : Frz n H (.tup xs) (.tup ys) := .tup xs ys (frzL_get h).1 (frzL_get h).2
theorem Frz.aggL {n : Nat} {H : AHeap} {xs ys : List AVal} (h : FrzL n H xs ys) : Frz n H (.agg xs) (.agg ys) := .agg xs ys (frzL_get h).1 (frzL_get h).2
/-- a slice of the call's own whose elements are immutable as they stand -/
theorem Frz.own {n : Nat} {H : AHeap} {b s off len : Nat} {f : Bool} {es rows : List (List AVal)} (hb : n ≤ b) (hg : H.get b = some (.rows s es)) (hl : off + len ≤ es.length) (hr : rows = (es.drop off).take len) (hi : ∀ r ∈ rows, ∀ x ∈ r, Frz n H x x) : Frz n H (.msl b s off len f) (.isl s rows f) := by
  subst hr
  have hrl : ((es.drop off).take len).length = len := by simp; omega
  have key : ∀ (i : Nat) (r r' : List AVal), es[off + i]? = some r → ((es.drop off).take len)[i]? = some r' → r = r' := by
    intro i r r' h h'
    rw [List.getElem?_take] at h'
    split at h'
    · rw [List.getElem?_drop, h] at h'; simpa using h'
    · cases h'
  refine .msl b s off len f es _ hb hg hl hrl (fun i r r' h h' => by rw [key i r r' h h']) (fun i r r' j x y h h' hx hy => ?_)
  have := key i r r' h h'
  subst this
  rw [hx] at hy
  simp only [Option.some.injEq] at hy
  subst hy
  exact hi r (List.mem_of_getElem? h') x (List.mem_of_getElem? hx)

theorem LeV.of_eq {x y : AVal} (h : x = y) : LeV x y := h ▸ .refl x
theorem LeV.strip (x : AVal) : LeV x x := .refl x
theorem alt_msl (n b s off len : Nat) (f : Bool) : ALt n (.msl b s off len f) ↔ b < n := ⟨fun h => by cases h; assumption, .msl b s off len f⟩
theorem alt_ptr (n b i off : Nat) : ALt n (.ptr b i off) ↔ b < n := ⟨fun h => by cases h; assumption, .ptr b i off⟩
theorem alt_int (n : Nat) (k : IntKind) (m : Int) : ALt n (.int k m) ↔ True := ⟨fun _ => trivial, fun _ => .int k m⟩
theorem alt_bool (n : Nat) (b : Bool) : ALt n (.bool b) ↔ True := ⟨fun _ => trivial, fun _ => .bool b⟩
theorem alt_str (n : Nat) (l : List UInt8) : ALt n (.str l) ↔ True := ⟨fun _ => trivial, fun _ => .str l⟩
theorem alt_val (n : Nat) (v : Value) : ALt n (.val v) ↔ True := ⟨fun _ => trivial, fun _ => .val v⟩
theorem alt_isl (n s : Nat) (es : List (List AVal)) (f : Bool) : ALt n (.isl s es f) ↔ True := ⟨fun _ => trivial, fun _ => .isl s es f⟩
theorem alt_iptr (n s i off : Nat) (es : List (List AVal)) : ALt n (.iptr s es i off) ↔ True := ⟨fun _ => trivial, fun _ => .iptr s es i off⟩
theorem alt_any (n : Nat) : ALt n .any ↔ True := ⟨fun _ => trivial, fun _ => .any⟩
theorem alt_agg (n : Nat) (cs : List AVal) : ALt n (.agg cs) ↔ ∀ x ∈ cs, ALt n x := ⟨fun h => by cases h; assumption, .agg cs⟩
theorem alt_tup (n : Nat) (cs : List AVal) : ALt n (.tup cs) ↔ ∀ x ∈ cs, ALt n x := ⟨fun h => by cases h; assumption, .tup cs⟩
theorem alt_fn (n : Nat) (f : Fn) (a c : List AVal) : ALt n (.fn f a c) ↔ (∀ x ∈ a, ALt n x) ∧ ∀ x ∈ c, ALt n x := ⟨fun h => by cases h; exact ⟨by assumption, by assumption⟩, fun h => .fn f a c h.1 h.2⟩
theorem sub_nil (n : Nat) (e : Env) : EnvSub n e [] = True := rfl
theorem sub_cons (n : Nat) (e' : Env) (t : Nat) (v : AVal) (r : Env) : EnvSub n e' ((t, v) :: r) = (LeV (e'.get t) v ∧ ALt n v ∧ EnvSub n e' r) := rfl
theorem hsub_nil (n : Nat) (H : AHeap) : HeapSub n H [] = True := rfl
theorem hsub_cons (n : Nat) (H' : AHeap) (k : Nat) (b : ABlock) (r : AHeap) : HeapSub n H' ((k, b) :: r) = (H'.get k = some b ∧ k < n ∧ BLt n b ∧ HeapSub n H' r) := rfl
theorem lev_refl (x : AVal) : LeV x x ↔ True := ⟨fun _ => trivial, fun _ => .refl x⟩

theorem gd_mv {P : Program} (p : Bool) (d : Option Nat) (os : List LOper) (R : Env → AHeap → Nat → Prop) (e : Env) (H : AHeap) (n : Nat) (x : LOpd) : GuardK P (some p) (.mv x) d os R e H n = GXK P p (xpure e H (.mv x)) d os R e H n := rfl
theorem gd_pick {P : Program} (p : Bool) (d : Option Nat) (os : List LOper) (R : Env → AHeap → Nat → Prop) (e : Env) (H : AHeap) (n : Nat) (c a b : LOpd) : GuardK P (some p) (.pick c a b) d os R e H n = GXK P p (xpure e H (.pick c a b)) d os R e H n := rfl
theorem gd_build {P : Program} (p : Bool) (d : Option Nat) (os : List LOper) (R : Env → AHeap → Nat → Prop) (e : Env) (H : AHeap) (n : Nat) (z : List AVal) (ps : List (Nat × Nat × LOpd)) : GuardK P (some p) (.build z ps) d os R e H n = GXK P p (xpure e H (.build z ps)) d os R e H n := rfl
theorem gd_load {P : Program} (p : Bool) (d : Option Nat) (os : List LOper) (R : Env → AHeap → Nat → Prop) (e : Env) (H : AHeap) (n : Nat) (g : Bool) (m : Nat) (a : LOpd) : GuardK P (some p) (.load g m a) d os R e H n = GXK P p (xpure e H (.load g m a)) d os R e H n := rfl
theorem gd_nilck {P : Program} (p : Bool) (d : Option Nat) (os : List LOper) (R : Env → AHeap → Nat → Prop) (e : Env) (H : AHeap) (n : Nat) (x : LOpd) : GuardK P (some p) (.nilck x) d os R e H n = GXK P p (xpure e H (.nilck x)) d os R e H n := rfl
theorem gd_bin {P : Program} (p : Bool) (d : Option Nat) (os : List LOper) (R : Env → AHeap → Nat → Prop) (e : Env) (H : AHeap) (n : Nat) (op : BinOp) (x y : LOpd) : GuardK P (some p) (.bin op x y) d os R e H n = GXK P p (xpure e H (.bin op x y)) d os R e H n := rfl
theorem gd_eq {P : Program} (p : Bool) (d : Option Nat) (os : List LOper) (R : Env → AHeap → Nat → Prop) (e : Env) (H : AHeap) (n : Nat) (g : Bool) (k : EqK) (x y : LOpd) : GuardK P (some p) (.eq g k x y) d os R e H n = GXK P p (xpure e H (.eq g k x y)) d os R e H n := rfl
theorem gd_un {P : Program} (p : Bool) (d : Option Nat) (os : List LOper) (R : Env → AHeap → Nat → Prop) (e : Env) (H : AHeap) (n : Nat) (op : UnOp) (x : LOpd) : GuardK P (some p) (.un op x) d os R e H n = GXK P p (xpure e H (.un op x)) d os R e H n := rfl
theorem gd_convI {P : Program} (p : Bool) (d : Option Nat) (os : List LOper) (R : Env → AHeap → Nat → Prop) (e : Env) (H : AHeap) (n : Nat) (k : IntKind) (x : LOpd) : GuardK P (some p) (.conv (.int k) x) d os R e H n = GXK P p (xpure e H (.conv (.int k) x)) d os R e H n := rfl
theorem gd_convS {P : Program} (p : Bool) (d : Option Nat) (os : List LOper) (R : Env → AHeap → Nat → Prop) (e : Env) (H : AHeap) (n : Nat) (x : LOpd) : GuardK P (some p) (.conv .same x) d os R e H n = GXK P p (xpure e H (.conv .same x)) d os R e H n := rfl
theorem gd_mkfn {P : Program} (p : Bool) (d : Option Nat) (os : List LOper) (R : Env → AHeap → Nat → Prop) (e : Env) (H : AHeap) (n : Nat) (f : Fn) (a c : List LOpd) : GuardK P (some p) (.mkfn f a c) d os R e H n = GXK P p (xpure e H (.mkfn f a c)) d os R e H n := rfl
theorem gd_slStr {P : Program} (p : Bool) (d : Option Nat) (os : List LOper) (R : Env → AHeap → Nat → Prop) (e : Env) (H : AHeap) (n : Nat) (x : LOpd) (a b : Option LOpd) : GuardK P (some p) (.slStr x a b) d os R e H n = GXK P p (xpure e H (.slStr x a b)) d os R e H n := rfl
theorem gd_slSl {P : Program} (p : Bool) (d : Option Nat) (os : List LOper) (R : Env → AHeap → Nat → Prop) (e : Env) (H : AHeap) (n : Nat) (s : Nat) (x : LOpd) (a b c : Option LOpd) : GuardK P (some p) (.slSl s x a b c) d os R e H n = GXK P p (xpure e H (.slSl s x a b c)) d os R e H n := rfl
theorem gd_faddr {P : Program} (p : Bool) (d : Option Nat) (os : List LOper) (R : Env → AHeap → Nat → Prop) (e : Env) (H : AHeap) (n : Nat) (o : Nat) (x : LOpd) : GuardK P (some p) (.faddr o x) d os R e H n = GXK P p (xpure e H (.faddr o x)) d os R e H n := rfl
theorem gd_field {P : Program} (p : Bool) (d : Option Nat) (os : List LOper) (R : Env → AHeap → Nat → Prop) (e : Env) (H : AHeap) (n : Nat) (g : Bool) (m o : Nat) (x : LOpd) : GuardK P (some p) (.field g m o x) d os R e H n = GXK P p (xpure e H (.field g m o x)) d os R e H n := rfl
theorem gd_iaddr {P : Program} (p : Bool) (d : Option Nat) (os : List LOper) (R : Env → AHeap → Nat → Prop) (e : Env) (H : AHeap) (n : Nat) (s : Nat) (x i : LOpd) : GuardK P (some p) (.iaddr s x i) d os R e H n = GXK P p (xpure e H (.iaddr s x i)) d os R e H n := rfl
theorem gd_iaddrA {P : Program} (p : Bool) (d : Option Nat) (os : List LOper) (R : Env → AHeap → Nat → Prop) (e : Env) (H : AHeap) (n : Nat) (m s : Nat) (x i : LOpd) : GuardK P (some p) (.iaddrA m s x i) d os R e H n = GXK P p (xpure e H (.iaddrA m s x i)) d os R e H n := rfl
theorem gd_idxS {P : Program} (p : Bool) (d : Option Nat) (os : List LOper) (R : Env → AHeap → Nat → Prop) (e : Env) (H : AHeap) (n : Nat) (x i : LOpd) : GuardK P (some p) (.idxS x i) d os R e H n = GXK P p (xpure e H (.idxS x i)) d os R e H n := rfl
theorem gd_idxA {P : Program} (p : Bool) (d : Option Nat) (os : List LOper) (R : Env → AHeap → Nat → Prop) (e : Env) (H : AHeap) (n : Nat) (m s : Nat) (g : Bool) (x i : LOpd) : GuardK P (some p) (.idxA m s g x i) d os R e H n = GXK P p (xpure e H (.idxA m s g x i)) d os R e H n := rfl
theorem gd_ext {P : Program} (p : Bool) (d : Option Nat) (os : List LOper) (R : Env → AHeap → Nat → Prop) (e : Env) (H : AHeap) (n : Nat) (k : Nat) (x : LOpd) : GuardK P (some p) (.ext k x) d os R e H n = GXK P p (xpure e H (.ext k x)) d os R e H n := rfl
theorem gd_len {P : Program} (p : Bool) (d : Option Nat) (os : List LOper) (R : Env → AHeap → Nat → Prop) (e : Env) (H : AHeap) (n : Nat) (g : Bool) (x : LOpd) : GuardK P (some p) (.len g x) d os R e H n = GXK P p (xpure e H (.len g x)) d os R e H n := rfl
theorem gd_mnx {P : Program} (p : Bool) (d : Option Nat) (os : List LOper) (R : Env → AHeap → Nat → Prop) (e : Env) (H : AHeap) (n : Nat) (g : Bool) (a : List LOpd) : GuardK P (some p) (.mnx g a) d os R e H n = GXK P p (xpure e H (.mnx g a)) d os R e H n := rfl
theorem gd_alloc {P : Program} (p : Bool) (d : Option Nat) (os : List LOper) (R : Env → AHeap → Nat → Prop) (e : Env) (H : AHeap) (n : Nat) (z : List AVal) : GuardK P (some p) (.alloc z) d os R e H n = ((p = true → xeff P e H n (OpsK P os R e d) (.alloc z)) ∧ (p = false → xops P os R (e.put d (.tup [])) H n)) := rfl
theorem gd_box {P : Program} (p : Bool) (d : Option Nat) (os : List LOper) (R : Env → AHeap → Nat → Prop) (e : Env) (H : AHeap) (n : Nat) (x : LOpd) : GuardK P (some p) (.box x) d os R e H n = ((p = true → xeff P e H n (OpsK P os R e d) (.box x)) ∧ (p = false → xops P os R (e.put d (.tup [])) H n)) := rfl
theorem gd_mkSl {P : Program} (p : Bool) (d : Option Nat) (os : List LOper) (R : Env → AHeap → Nat → Prop) (e : Env) (H : AHeap) (n : Nat) (s : Nat) (z : List AVal) (m : Nat) (ps : List (Nat × LOpd)) : GuardK P (some p) (.mkSl s z m ps) d os R e H n = ((p = true → xeff P e H n (OpsK P os R e d) (.mkSl s z m ps)) ∧ (p = false → xops P os R (e.put d (.tup [])) H n)) := rfl
theorem gd_store {P : Program} (p : Bool) (d : Option Nat) (os : List LOper) (R : Env → AHeap → Nat → Prop) (e : Env) (H : AHeap) (n : Nat) (m : Nat) (a x : LOpd) : GuardK P (some p) (.store m a x) d os R e H n = ((p = true → xeff P e H n (OpsK P os R e d) (.store m a x)) ∧ (p = false → xops P os R (e.put d (.tup [])) H n)) := rfl
theorem gd_s2b {P : Program} (p : Bool) (d : Option Nat) (os : List LOper) (R : Env → AHeap → Nat → Prop) (e : Env) (H : AHeap) (n : Nat) (x : LOpd) : GuardK P (some p) (.conv .s2b x) d os R e H n = ((p = true → xeff P e H n (OpsK P os R e d) (.conv .s2b x)) ∧ (p = false → xops P os R (e.put d (.tup [])) H n)) := rfl
theorem gd_b2s {P : Program} (p : Bool) (d : Option Nat) (os : List LOper) (R : Env → AHeap → Nat → Prop) (e : Env) (H : AHeap) (n : Nat) (x : LOpd) : GuardK P (some p) (.conv .b2s x) d os R e H n = ((p = true → xeff P e H n (OpsK P os R e d) (.conv .b2s x)) ∧ (p = false → xops P os R (e.put d (.tup [])) H n)) := rfl
theorem gd_mkslice {P : Program} (p : Bool) (d : Option Nat) (os : List LOper) (R : Env → AHeap → Nat → Prop) (e : Env) (H : AHeap) (n : Nat) (s b : Nat) (z : List AVal) (l c : LOpd) : GuardK P (some p) (.mkslice s b z l c) d os R e H n = ((p = true → xeff P e H n (OpsK P os R e d) (.mkslice s b z l c)) ∧ (p = false → xops P os R (e.put d (.tup [])) H n)) := rfl
theorem gd_call {P : Program} (p : Bool) (d : Option Nat) (os : List LOper) (R : Env → AHeap → Nat → Prop) (e : Env) (H : AHeap) (n : Nat) (f : FuncId) (a : List LOpd) : GuardK P (some p) (.call f a) d os R e H n = ((p = true → xeff P e H n (OpsK P os R e d) (.call f a)) ∧ (p = false → xops P os R (e.put d (.tup [])) H n)) := rfl
theorem gd_callv {P : Program} (p : Bool) (d : Option Nat) (os : List LOper) (R : Env → AHeap → Nat → Prop) (e : Env) (H : AHeap) (n : Nat) (x : LOpd) (a : List LOpd) : GuardK P (some p) (.callv x a) d os R e H n = ((p = true → xeff P e H n (OpsK P os R e d) (.callv x a)) ∧ (p = false → xops P os R (e.put d (.tup [])) H n)) := rfl
theorem gd_app {P : Program} (p : Bool) (d : Option Nat) (os : List LOper) (R : Env → AHeap → Nat → Prop) (e : Env) (H : AHeap) (n : Nat) (s b : Nat) (x y : LOpd) : GuardK P (some p) (.app s b x y) d os R e H n = ((p = true → xeff P e H n (OpsK P os R e d) (.app s b x y)) ∧ (p = false → xops P os R (e.put d (.tup [])) H n)) := rfl
theorem gd_copy {P : Program} (p : Bool) (d : Option Nat) (os : List LOper) (R : Env → AHeap → Nat → Prop) (e : Env) (H : AHeap) (n : Nat) (s : Nat) (x y : LOpd) : GuardK P (some p) (.copy s x y) d os R e H n = ((p = true → xeff P e H n (OpsK P os R e d) (.copy s x y)) ∧ (p = false → xops P os R (e.put d (.tup [])) H n)) := rfl
theorem gd_bad {P : Program} (p : Bool) (d : Option Nat) (os : List LOper) (R : Env → AHeap → Nat → Prop) (e : Env) (H : AHeap) (n : Nat)  : GuardK P (some p) (.bad) d os R e H n = ((p = true → xeff P e H n (OpsK P os R e d) (.bad)) ∧ (p = false → xops P os R (e.put d (.tup [])) H n)) := rfl
theorem CondK.split {P : Program} {N n0 : Nat} {v : Bool} {nd : Prop} {a b : LCode} {Q : Exit → Env → AHeap → Nat → Prop} {e : Env} {H : AHeap} {n : Nat} (h0 : nd) (h1 : v = true → xcode P N n0 a Q e H n) (h2 : v = false → xcode P N n0 b Q e H n) : CondK P N n0 (.bool v) nd a b Q e H n := ⟨h0, h1, h2⟩
end Go.Fw
