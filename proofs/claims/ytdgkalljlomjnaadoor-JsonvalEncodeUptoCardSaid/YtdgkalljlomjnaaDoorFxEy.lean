/-
  Own framework.
-/
import Derived.Test.YtdgkalljlomjnaaDoorFxEx
namespace Go.Fx
set_option linter.unusedVariables false
variable {P : Program} {N : Lay}
theorem zeg {ι : Type} {n0 : Nat} (pre : ι → Prop) (env : ι → Env) (L : ι → AHeap) (nn μ : ι → Nat) {Q : Exit → Env → AHeap → Nat → Prop} {body : LCode}
 (round : ∀ x, pre x → LWp P N n0 body (fun ex e H n => match ex with | .normal => ∃ y, pre y ∧ μ y < μ x ∧ env y = e ∧ L y = H ∧ nn y = n | ex => Q ex e H n) (env x) (L x) (nn x)) :
 ∀ x, pre x → LWp P N n0 (.loop body) Q (env x) (L x) (nn x) := by
 intro x0 hx0 c hc ro hro J0 γ0 G0 w0 I β w a hX hI hE hN hD QQ hQ
 cases c with
 | loop c =>
  simp only [zx, Option.map_eq_some_iff] at hc
  obtain ⟨b', hb, hc⟩ := hc
  simp only [LCode.loop.injEq] at hc
  subst hc
  let Inside : Nat → Act → World → Prop := fun m a w => ∃ x I β, μ x = m ∧ pre x ∧ Ext J0 γ0 n0 G0 w0 I β (nn x) (L x) w ∧ Inv I β (nn x) (L x) w ∧ RepEnv I β (nn x) w (env x) a ∧ a.tmps.size = N.n ∧ Dfr P w0.heap.size w a.defers
  let mu : Act → World → Nat := fun a w => by
   classical
   exact if h : ∃ m, Inside m a w then Classical.choose (kg _ h) else 0
  have mu_spec : ∀ a w, (∃ m, Inside m a w) → Inside (mu a w) a w ∧ ∀ k, k < mu a w → ¬ Inside k a w := by
   intro a w h
   have : mu a w = Classical.choose (kg _ h) := by simp only [mu]; rw [dif_pos h]
   rw [this]
   exact Classical.choose_spec (kg _ h)
  refine wpIn_loop (fun a w => ∃ m, Inside m a w) mu ⟨_, x0, I, β, rfl, hx0, hX, hI, hE, hN, hD⟩ ?_
  intro a w h
  obtain ⟨⟨x, I, β, hm, hp, k1, k2, k3, k4, k5⟩, _⟩ := mu_spec a w h
  refine round x hp c hb ro hro J0 γ0 G0 w0 I β w a k1 k2 k3 k4 k5 _ ?_
  intro ex e' H' n' I' β' w' a' g1 g2 g3 g4 g5 g6
  cases ex with
  | normal =>
   obtain ⟨y, hy, hlt, rfl, rfl, rfl⟩ := g1
   have hin : Inside (μ y) a' w' := ⟨y, _, _, rfl, hy, g6, g2, g3, g4, g5⟩
   refine ⟨⟨_, hin⟩, ?_⟩
   obtain ⟨_, hleast⟩ := mu_spec a' w' ⟨_, hin⟩
   have : ¬ μ y < mu a' w' := fun h => hleast _ h hin
   omega
  | _ => exact hQ _ _ _ _ _ _ _ _ g1 g2 g3 g4 g5 g6
 | skip => cases hc
 | region id ops draw => simp only [zx] at hc; split at hc <;> (try split at hc) <;> (try split at hc) <;> (try split at hc) <;> (try split at hc) <;> simp at hc
 | seq a b => simp only [zx] at hc; split at hc <;> simp at hc
 | cond c a b => simp only [zx] at hc; split at hc <;> simp at hc
 | block id c => simp [zx] at hc
 | exit id => cases hc
 | ret => cases hc
 | rangeFunc g ps x y => simp only [zx] at hc; split at hc <;> simp at hc
 | _ => cases hc
theorem z5v : ∀ (l : List AVal) (k : Nat) (E0 E : Ev), z7u k l E0 = some E → ∀ t, E.g t = if k ≤ t ∧ t < k + l.length then (l[t - k]?).getD .any else E0.g t
 | [], k, E0, E, h, t => by
  simp only [z7u, Option.some.injEq] at h
  subst h
  rw [if_neg (by simp)]
 | x :: l, k, E0, E, h, t => by
  unfold z7u at h
  split at h <;> try (cases h; done)
  rename_i E1 h1
  rw [z5v l (k + 1) E1 E h t]
  have h1g : E1.g t = if t = k then x else E0.g t := by
   simp only [Ev.p] at h1
   unfold Ev.g
   rw [Tr.put_get _ _ _ _ _ h1]
   by_cases ht : t = k
   ·rw [if_pos ht, if_pos ht]
   ·rw [if_neg ht, if_neg ht]
  rw [h1g]
  by_cases ht : t = k
  ·subst ht
   rw [if_neg (by omega), if_pos rfl, if_pos (by simp)]
   simp
  ·rw [if_neg ht]
   by_cases h2 : k + 1 ≤ t ∧ t < k + 1 + l.length
   ·rw [if_pos h2, if_pos (by simp only [List.length_cons]; omega)]
    have : t - k = (t - (k + 1)) + 1 := by omega
    rw [this, List.getElem?_cons_succ]
   ·rw [if_neg h2, if_neg (by simp only [List.length_cons]; omega)]
theorem zkl {args : List AVal} {E : Ev} (h : z7u 0 args .nil = some E) : EnR (qx 0 args) E := by
 intro t
 rw [z5v _ _ _ _ h t, Je]
 rw [if_pos (Nat.zero_le _)]
 by_cases ht : t < args.length
 ·rw [if_pos ⟨Nat.zero_le _, by omega⟩]
 ·rw [if_neg (by omega), List.getElem?_eq_none (by omega)]; rfl
variable {e : Env} {H : AHeap} {n : Nat} {S S' : Sh}
theorem zoy {E : Ev} (hE : EnR e E) (hs : StR H n S) {r : LRes} {v : AVal} (h : zru E S.t.at r = some v) : XOk (zp5 e H r) v := by
 rw [hs.get] at h
 cases r with
 | t i =>
  simp only [zru] at h
  rw [hE.get] at h
  obtain ⟨h1, h2⟩ := zo h
  exact ⟨_, by simp only [zp5]; exact congrArg _ h1, h2⟩
 | cell i ag m =>
  simp only [zru] at h
  rw [hE.get] at h
  split at h <;> try (cases h; done)
  rename_i a ha
  obtain ⟨h1, h2⟩ := zo ha
  have h3 := zao h
  simp only [zp5]
  have h1' : (e.get i).strip = a := h1
  rw [h1']
  exact h3.and h2
theorem z3d {E : Ev} (hE : EnR e E) (hs : StR H n S) : ∀ {rs : List LRes} {l : List AVal} {k : List AVal → Prop}, zc0 E S.t.at rs = some l → k l → z2m e H rs k
 | [], l, k, h, hk => by simp only [zc0, Option.some.injEq] at h; subst h; exact hk
 | r :: rs, l, k, h, hk => by
  unfold zc0 at h
  split at h <;> try (cases h; done)
  rename_i v hv
  split at h <;> simp only [Option.some.injEq, reduceCtorEq] at h
  rename_i l' hl
  subst h
  obtain ⟨s, h1, h2⟩ := zoy hE hs hv
  unfold z2m
  rw [h1]
  exact ⟨h2, z3d hE hs hl hk⟩
theorem zoi {res : List LRes} {x : Cs} {v : AVal} (h : zrr res x = some (v, S')) : ∃ y, x = some y ∧ ∀ ex e H n, KX y ex e H n → Jj res (KS v S') ex e H n := by
 unfold zrr at h
 split at h
 ·split at h <;> simp only [Option.some.injEq, Prod.mk.injEq, reduceCtorEq] at h
  rename_i l hl
  obtain ⟨rfl, rfl⟩ := h
  refine ⟨_, rfl, ?_⟩
  rintro ex e H n ⟨rfl, hE, hs⟩
  exact z3d hE hs hl ⟨rfl, hs⟩
 ·split at h <;> simp only [Option.some.injEq, Prod.mk.injEq, reduceCtorEq] at h
  rename_i l hl
  obtain ⟨rfl, rfl⟩ := h
  refine ⟨_, rfl, ?_⟩
  rintro ex e H n ⟨rfl, hE, hs⟩
  exact z3d hE hs hl ⟨rfl, hs⟩
 ·cases h
def zg6 (P : Program) (F : Nat → Option LFn) : Prop := ∀ f fn, F f = some fn → (∃ bm, wz P bm f = some fn) ∧ Zk P f ∧ X3 P fn.body
def X6 (P : Program) (X : Nat → List AVal → Sh → Option Rs) : Prop :=
 ∀ (f : Nat) as S r S', X f as S = some (some (r, S')) → ∀ H n, StR H n S → ACalls P (.func f) as H n (KS r S')
variable {F : Nat → Option LFn} {X : Nat → List AVal → Sh → Option Rs}
theorem zom (m : Nat) (hC : ∀ j, j < m → z06 P (ev F X j).1 ∧ z9y P (ev F X j).2) : z9y P (ev F X m).2 := by
 intro c E S x h hi N n0 e H n hE hs
 refine zeg (ι := Nat × Ev × Sh × Env × AHeap × Nat) (fun y => y.1 ≤ m ∧ (ev F X y.1).2 c y.2.1 y.2.2.1 = some x ∧ EnR y.2.2.2.1 y.2.1 ∧ StR y.2.2.2.2.1 y.2.2.2.2.2 y.2.2.1) (fun y => y.2.2.2.1) (fun y => y.2.2.2.2.1) (fun y => y.2.2.2.2.2) (fun y => y.1) ?_ (m, E, S, e, H, n) ⟨Nat.le_refl _, h, hE, hs⟩
 rintro ⟨k, E, S, e, H, n⟩ ⟨hk, h, hE, hs⟩
 simp only at hk h hE hs ⊢
 cases k with
 | zero => cases h
 | succ j =>
  have h : (match Q1 (ev F X j).1 (ev F X j).2 c E S with
   | some (.normal, e, S) => (ev F X j).2 c e S
   | x => x) = some x := h
  obtain ⟨hc, hl⟩ := hC j (by omega)
  split at h
  ·rename_i E1 S1 h1
   refine (ue hc hl N n0 c h1 hi hE hs).mono ?_
   rintro ex e' H' n' ⟨rfl, hE', hs'⟩
   exact ⟨(j, E1, S1, e', H', n'), ⟨by simp only; omega, h, hE', hs'⟩, Nat.lt_succ_self _, rfl, rfl, rfl⟩
  ·rename_i hne
   refine (ue hc hl N n0 c h hi hE hs).mono ?_
   rintro ex e' H' n' ⟨rfl, hE', hs'⟩
   obtain ⟨ex, E1, S1⟩ := x
   cases ex with
   | normal => exact absurd h (hne _ _)
   | _ => exact ⟨rfl, hE', hs'⟩
theorem zjm (hF : zg6 P F) (hX : X6 P X) : ∀ m, z06 P (ev F X m).1 ∧ z9y P (ev F X m).2 := by
 intro m
 induction m using Nat.strongRecOn with
 | ind m ih =>
  refine ⟨?_, zom m ih⟩
  cases m with
  | zero => intro f as S r S' h; cases h
  | succ j =>
   intro f as S r S' h H n hs
   obtain ⟨hc, hl⟩ := ih j (Nat.lt_succ_self _)
   have h : (match X f as S with
    | some r => r
    | none => match F f with
     | some fn => match Nat.ble as.length fn.lay.n with
      | true => match z7u 0 as .nil with
       | some e => zrr fn.res (Q1 (ev F X j).1 (ev F X j).2 fn.body e S)
       | none => none
      | false => none
     | none => none) = some (r, S') := h
   split at h
   ·rename_i hx
    rw [h] at hx
    exact hX f as S r S' hx H n hs
   ·split at h <;> try (cases h; done)
    rename_i fn hfn
    split at h <;> try (cases h; done)
    rename_i hlen
    split at h <;> try (cases h; done)
    rename_i E hE
    obtain ⟨⟨bm, h1⟩, h2, h3⟩ := hF f fn hfn
    obtain ⟨y, hy, hfin⟩ := zoi h
    exact ACalls.ofFnW h1 h2 (xu.1 hlen) ((ue hc hl fn.lay n fn.body hy h3 (zkl hE) hs).mono hfin)
theorem StR.empty : StR [] 0 ⟨.nil, 0⟩ := ⟨rfl, fun id => by
 simp only [AHeap.get, Tr.at]
 split <;> rfl⟩
theorem zpz (hF : zg6 P F) (hX : X6 P X) {m f : Nat} {as : List AVal} {R : AVal} (hR : R.nid = true) (h : ((ev F X m).1 f as ⟨.nil, 0⟩).map (·.1) = some R) : PFn P f as R := by
 cases hx : (ev F X m).1 f as ⟨.nil, 0⟩ with
 | none => rw [hx] at h; cases h
 | some y =>
  obtain ⟨r, S'⟩ := y
  rw [hx] at h
  simp only [Option.map_some, Option.some.injEq] at h
  subst h
  have hc := (zjm hF hX m).1 f as _ _ _ hx [] 0 StR.empty
  refine ⟨hR, 0, (hc.mono fun r' H' n' hk => ?_).fin⟩
  obtain ⟨rfl, hs⟩ := hk
  exact ⟨fun _ => false, fun _ => none, ⟨fun i j k h => (by cases h), fun i k h => (by cases h), fun i h => absurd h (Nat.not_lt_zero _), fun i k _ h => (by cases h), Nat.le_refl _⟩, .same _ (hR), fun id blk h => by cases h⟩
end Go.Fx
