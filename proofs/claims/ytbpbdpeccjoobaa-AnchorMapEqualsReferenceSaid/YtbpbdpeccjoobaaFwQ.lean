/-
  Own framework, part Q: a walk cut in two; where the paths of the first part join again.
-/
import Derived.Test.YtbpbdpeccjoobaaFwP
namespace Go.Fw
variable {P : Program} {N : Nat}

def SeqW (P : Program) (N n0 : Nat) (b : LCode) (Q : Exit → Env → AHeap → Nat → Prop) : Exit → Env → AHeap → Nat → Prop
  | .normal, e, H, n => LWp P N n0 b Q e H n
  | ex, e, H, n => Q ex e H n

theorem LWp_seq {n0 : Nat} {a b : LCode} {Q : Exit → Env → AHeap → Nat → Prop} {e : Env} {H : AHeap} {n : Nat} (h : LWp P N n0 a (SeqW P N n0 b Q) e H n) : LWp P N n0 (.seq a b) Q e H n := by
  intro c hc I0 β0 H0 w0 I β w aa hX hI hE hN hD QQ hQ
  cases c with
  | seq x y =>
    simp only [lowCode] at hc
    split at hc <;> try (cases hc; done)
    rename_i x' y' hx hy
    simp only [Option.some.injEq, LCode.seq.injEq] at hc
    obtain ⟨rfl, rfl⟩ := hc
    refine wp_seq (h x hx I0 β0 H0 w0 I β w aa hX hI hE hN hD _ ?_)
    intro ex e' H' n' I' β' w' a' g1 g2 g3 g4 g5 g6
    cases ex with
    | normal => exact g1 y hy I0 β0 H0 w0 I' β' w' a' g6 g2 g3 g4 g5 QQ hQ
    | _ => exact hQ _ _ _ _ _ _ _ _ g1 g2 g3 g4 g5 g6
  | skip => simp [lowCode] at hc
  | region id ops draw => simp only [lowCode] at hc; split at hc <;> (try split at hc) <;> simp at hc
  | cond c a b => simp only [lowCode] at hc; split at hc <;> simp at hc
  | block id c => simp [lowCode] at hc
  | loop c => simp [lowCode] at hc
  | exit id => simp [lowCode] at hc
  | ret => simp [lowCode] at hc
  | _ => cases hc

/-- the first k pieces of a sequence, and the rest -/
def cutAt : Nat → LCode → Option (LCode × LCode)
  | 0, .seq a b => some (a, b)
  | k + 1, .seq a b => match cutAt k b with
    | some (x, y) => some (.seq a x, y)
    | none => none
  | _, _ => none

/-- where the paths join: the state reads as (env x, L x) for an x of those named -/
def JoinK {ι : Type} (nL : ι → Nat) (H0 : AHeap) (env : ι → Env) (L : ι → AHeap) (pre : ι → Prop) (Q : Exit → Env → AHeap → Nat → Prop) : Exit → Env → AHeap → Nat → Prop
  | .normal, e', H', n' => ∃ y, pre y ∧ StSub (nL y) H0 e' H' n' (env y) (L y)
  | ex, e', H', n' => Q ex e' H' n'
theorem JoinK_normal {ι : Type} (nL : ι → Nat) (H0 : AHeap) (env : ι → Env) (L : ι → AHeap) (pre : ι → Prop) (Q : Exit → Env → AHeap → Nat → Prop) (e : Env) (H : AHeap) (n : Nat) : JoinK nL H0 env L pre Q .normal e H n = ∃ y, pre y ∧ StSub (nL y) H0 e H n (env y) (L y) := rfl
theorem JoinK_exit {ι : Type} (nL : ι → Nat) (H0 : AHeap) (env : ι → Env) (L : ι → AHeap) (pre : ι → Prop) (Q : Exit → Env → AHeap → Nat → Prop) (i : Nat) (e : Env) (H : AHeap) (n : Nat) : JoinK nL H0 env L pre Q (.exit i) e H n = Q (.exit i) e H n := rfl
theorem JoinK_ret {ι : Type} (nL : ι → Nat) (H0 : AHeap) (env : ι → Env) (L : ι → AHeap) (pre : ι → Prop) (Q : Exit → Env → AHeap → Nat → Prop) (e : Env) (H : AHeap) (n : Nat) : JoinK nL H0 env L pre Q .ret e H n = Q .ret e H n := rfl

theorem LWp_cutAt {n0 : Nat} {b : LCode} {Q J : Exit → Env → AHeap → Nat → Prop} (hJ : ∀ e H n, J .normal e H n → LWp P N n0 b Q e H n) (hJ2 : ∀ ex e H n, ex ≠ .normal → J ex e H n → Q ex e H n) :
    ∀ {k : Nat} {lc a : LCode} {e : Env} {H : AHeap} {n : Nat}, cutAt k lc = some (a, b) → xcode P N n0 a J e H n → LWp P N n0 lc Q e H n := by
  intro k
  induction k with
  | zero =>
    intro lc a e H n h hw
    cases lc <;> simp [cutAt] at h
    obtain ⟨rfl, rfl⟩ := h
    refine LWp_seq ((xcode_sound _ _ _ _ _ hw).mono fun ex e H n hx => ?_)
    cases ex with
    | normal => exact hJ _ _ _ hx
    | exit i => exact hJ2 _ _ _ _ (by simp) hx
    | ret => exact hJ2 _ _ _ _ (by simp) hx
    | _ => exact hJ2 _ _ _ _ (by simp) hx
  | succ k ih =>
    intro lc a e H n h hw
    cases lc <;> try (simp [cutAt] at h; done)
    rename_i x y
    simp only [cutAt] at h
    split at h <;> try (cases h; done)
    rename_i u v hc
    simp only [Option.some.injEq, Prod.mk.injEq] at h
    obtain ⟨rfl, rfl⟩ := h
    have hw' : xcode P N n0 x (SeqK P N n0 u J) e H n := by rw [← xc_seq]; exact hw
    refine LWp_seq ((xcode_sound _ _ _ _ _ hw').mono fun ex e H n hx => ?_)
    cases ex with
    | normal => exact ih hc hx
    | exit i => exact hJ2 _ _ _ _ (by simp) hx
    | ret => exact hJ2 _ _ _ _ (by simp) hx
    | _ => exact hJ2 _ _ _ _ (by simp) hx

/-- **THE CUT**: behind the first k + 1 pieces the paths join. -/
theorem LWp_join {ι : Type} {n0 : Nat} {lc a b : LCode} {Q : Exit → Env → AHeap → Nat → Prop} {e : Env} {H : AHeap} {n : Nat} (k : Nat) (hc : cutAt k lc = some (a, b)) (nL : ι → Nat) {H0 : AHeap} (hf : HOk n0 H0) (env : ι → Env) (L : ι → AHeap) (pre : ι → Prop)
    (hn : ∀ x, pre x → n0 ≤ nL x) (h : xcode P N n0 a (JoinK nL H0 env L pre Q) e H n) (h2 : ∀ x, pre x → LWp P N n0 b Q (env x) (L x ++ H0) (nL x)) : LWp P N n0 lc Q e H n := by
  refine LWp_cutAt (J := JoinK nL H0 env L pre Q) ?_ ?_ hc h
  · rintro e H n ⟨y, hy, hs⟩
    exact LWp.weaken (hn y hy) hf hs (h2 y hy)
  · intro ex e H n hne hx
    cases ex with
    | normal => exact absurd rfl hne
    | exit i => exact hx
    | ret => exact hx
    | _ => exact hx

theorem PFn.ofFnW {f : FuncId} {L : LFn} (hL : lowFn P f = some L) (hok : FnOk P f) {args : List AVal} (hlen : args.length ≤ L.ntmps) {R : AVal}
    (h : ∀ H n, HOk n H → LWp P L.ntmps n L.body (FinK L.res (PureEnd R H n)) (initEnv 0 args) H n) : PFn P f args R :=
  fun H n => ACalls.pure (ACalls.ofFnW hL hok hlen (h H n))
end Go.Fw
