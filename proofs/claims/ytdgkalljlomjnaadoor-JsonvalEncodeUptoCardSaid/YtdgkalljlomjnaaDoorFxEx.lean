/-
  Own framework.
-/
import Derived.Test.YtdgkalljlomjnaaDoorFxEw
import Derived.Test.YtdgkalljlomjnaaDoorFxN
namespace Go.Fx
set_option linter.unusedVariables false
variable {P : Program} {H : AHeap} {n : Nat} {S S' : Sh} {e : Env}
abbrev KS (v : AVal) (S' : Sh) : AVal → AHeap → Nat → Prop := fun r H' n' => r = v ∧ StR H' n' S'
def z06 (P : Program) (C : Nat → List AVal → Sh → Rs) : Prop :=
 ∀ (f : Nat) as S r S', C f as S = some (r, S') → ∀ H n, StR H n S → ACalls P (.func f) as H n (KS r S')
theorem jr {v r : AVal} {o : Option Sh} (h : Y0 v o = some (r, S')) : r = v ∧ o = some S' := by
 cases o with
 | none => cases h
 | some S0 =>
  simp only [Y0, Option.some.injEq, Prod.mk.injEq] at h
  exact ⟨h.1.symm, by rw [h.2]⟩
theorem StR.get (hs : StR H n S) : S.t.at = H.get := funext fun id => (hs.h id).symm
theorem Wm {s : Nat} {x : AVal} {rows : List (List AVal)} (h : z00 H.get s x = some rows) : ∃ p, uo H s x = some (p, rows) ∧ p := by
 unfold z00 at h
 split at h
 ·split at h <;> simp only [Option.some.injEq, reduceCtorEq] at h
  rename_i hb
  subst h
  exact ⟨_, rfl, yt.1 hb⟩
 ·split at h <;> simp only [Option.some.injEq, reduceCtorEq] at h
  rename_i hb
  subst h
  exact ⟨_, rfl, yt.1 hb⟩
 ·split at h <;> try (cases h; done)
  rename_i hg
  split at h <;> simp only [Option.some.injEq, reduceCtorEq] at h
  rename_i hb
  subst h
  simp only [Bool.and_eq_true, yt, xu, and_assoc] at hb
  simp only [uo, hg]
  exact ⟨_, rfl, hb⟩
 ·simp only [Option.some.injEq] at h
  subst h
  exact ⟨_, rfl, trivial⟩
 ·split at h <;> simp only [Option.some.injEq, reduceCtorEq] at h
  rename_i hb
  subst h
  exact ⟨_, rfl, yt.1 hb⟩
 ·cases h
theorem Wu : ∀ {ps : List (Nat × AVal)} {rows rs : List (List AVal)}, Wl rows ps = some rs → ∃ p, Q6 rows ps = some (p, rs) ∧ p
 | [], rows, rs, h => by simp only [Wl, Option.some.injEq] at h; subst h; exact ⟨_, rfl, trivial⟩
 | (i, x) :: r, rows, rs, h => by
  unfold Wl at h
  split at h <;> try (cases h; done)
  rename_i cs hc
  split at h <;> try (cases h; done)
  rename_i hb
  simp only [Bool.and_eq_true, yt, xu] at hb
  obtain ⟨p, h1, h2⟩ := Wu h
  simp only [Q6, hc, h1]
  exact ⟨_, rfl, hb.1, hb.2, h2⟩
theorem z7o : ∀ {ps : List (Nat × LOpd)} {l : List (Nat × AVal)}, zp2 e.get ps = some l → evI e ps = l ∧ z0d e ps
 | [], l, h => by simp only [zp2, Option.some.injEq] at h; exact ⟨h, trivial⟩
 | (i, x) :: r, l, h => by
  unfold zp2 at h
  split at h <;> try (cases h; done)
  rename_i a ha
  split at h <;> simp only [Option.some.injEq, reduceCtorEq] at h
  rename_i l' hl
  obtain ⟨h1, h2⟩ := zo ha
  obtain ⟨h3, h4⟩ := z7o hl
  exact ⟨by unfold evI; rw [h1, h3]; exact h, h2, h4⟩
theorem z1y : ∀ {rows : List (List AVal)}, z2b rows = true → ∀ r ∈ rows, ∃ m, r = [.int .u8 m]
 | [], _, r, hr => by cases hr
 | x :: rows, h, r, hr => by
  unfold z2b at h
  split at h
  ·cases ‹_ :: _ = []›
  ·rename_i k m r' heq
   simp only [List.cons.injEq] at heq
   obtain ⟨rfl, rfl⟩ := heq
   simp only [Bool.and_eq_true, W3] at h
   obtain ⟨rfl, h2⟩ := h
   cases hr with
   | head => exact ⟨m, rfl⟩
   | tail _ hr => exact z1y h2 r hr
  ·cases h
theorem zp1 {s bytes : Nat} {x v : AVal} {rows2 : List (List AVal)} (hs : StR H n S) (h : zsn s bytes S x rows2 = some (v, S')) : ziv s bytes H n (KS v S') x rows2 := by
 unfold zsn at h
 unfold ziv
 split at h
 ·simp only
  split at h
  ·simp only [Option.some.injEq, Prod.mk.injEq] at h
   obtain ⟨rfl, rfl⟩ := h
   exact ⟨fun _ => ⟨rfl, hs⟩, fun hne => absurd rfl hne⟩
  ·rename_i hne
   split at h <;> try (cases h; done)
   rename_i hb
   obtain ⟨rfl, hw⟩ := jr h
   refine ⟨fun he => absurd he hne, fun _ => ⟨xu.1 hb, by rw [hs.n], hs.new hw⟩⟩
 ·simp only
  split at h <;> try (cases h; done)
  rename_i he
  refine ⟨yt.1 he, ?_⟩
  split at h
  ·simp only [Option.some.injEq, Prod.mk.injEq] at h
   obtain ⟨rfl, rfl⟩ := h
   exact ⟨fun _ => ⟨rfl, hs⟩, fun hne => absurd rfl hne⟩
  ·rename_i hne
   split at h <;> try (cases h; done)
   rename_i hb
   simp only [Bool.and_eq_true, xu] at hb
   obtain ⟨rfl, hw⟩ := jr h
   exact ⟨fun he => absurd he hne, fun _ => ⟨hb.1, hb.2, by rw [hs.n], hs.new hw⟩⟩
 ·rw [hs.get] at h
  simp only
  split at h <;> try (cases h; done)
  rename_i hg
  rw [hg]
  simp only
  split at h <;> try (cases h; done)
  rename_i hb
  simp only [Bool.and_eq_true, yt, xu, and_assoc] at hb
  obtain ⟨b1, b2, b3, b4⟩ := hb
  refine ⟨b1, b2, b3, ?_⟩
  split at h
  ·simp only [Option.some.injEq, Prod.mk.injEq] at h
   obtain ⟨rfl, rfl⟩ := h
   exact ⟨fun _ _ => ⟨rfl, hs⟩, fun hne => absurd rfl (hne rfl)⟩
  ·rename_i hne
   obtain ⟨rfl, hw⟩ := jr h
   refine ⟨fun _ he => absurd he hne, fun _ => ⟨b4, by rw [hs.n], ?_⟩⟩
   rw [if_pos rfl]
   exact hs.new hw
  ·split at h <;> try (cases h; done)
   rename_i S1 hc
   obtain ⟨rfl, hw⟩ := jr h
   have h1 := hs.cut hc
   refine ⟨fun he => (by cases he), fun _ => ⟨b4, by rw [h1.n], ?_⟩⟩
   rw [if_neg (by simp)]
   exact h1.new hw
 ·cases h
theorem zgg {C : Nat → List AVal → Sh → Rs} (hC : z06 P C) {op : LOp} {v : AVal} (hs : StR H n S) (h : zrt C e.get S op = some (v, S')) : kj P e H n (KS v S') op := by
 have hn := hs.n
 unfold zrt at h
 split at h
 ·obtain ⟨rfl, hw⟩ := jr h; exact ⟨by rw [hn], hs.new hw⟩
 ·obtain ⟨rfl, hw⟩ := jr h; exact ⟨by rw [hn], hs.new hw⟩
 ·obtain ⟨rfl, hw⟩ := jr h; rw [← hn] at hw; exact ⟨by rw [hn], hs.new2 hw⟩
 ·split at h <;> try (cases h; done)
  rename_i a ha
  split at h <;> try (cases h; done)
  rename_i cs hc
  obtain ⟨h1, h2⟩ := zo ha
  obtain ⟨rfl, hw⟩ := jr h
  simp only [kj, h1, hc]
  exact ⟨h2, by rw [hn], hs.new hw⟩
 ·split at h <;> try (cases h; done)
  rename_i ps hps
  split at h <;> try (cases h; done)
  rename_i rows hr
  split at h <;> try (cases h; done)
  rename_i hz
  obtain ⟨rfl, hw⟩ := jr h
  obtain ⟨h1, h2⟩ := z7o hps
  obtain ⟨p, h3, h4⟩ := Wu hr
  simp only [kj, h1, h3]
  exact ⟨yt.1 hz, h2, h4, by rw [hn], hs.new hw⟩
 ·split at h <;> try (cases h; done)
  rename_i ps hps
  split at h <;> try (cases h; done)
  rename_i rows hr
  split at h <;> try (cases h; done)
  rename_i rows' him
  split at h <;> try (cases h; done)
  rename_i hz
  simp only [Option.some.injEq, Prod.mk.injEq] at h
  obtain ⟨rfl, rfl⟩ := h
  obtain ⟨h1, h2⟩ := z7o hps
  obtain ⟨p, h3, h4⟩ := Wu hr
  simp only [kj, h1, h3, him]
  exact ⟨yt.1 hz, h2, h4, rfl, hs⟩
 ·split at h <;> try (cases h; done)
  rename_i b i off ha
  split at h <;> try (cases h; done)
  rename_i y hy
  split at h <;> try (cases h; done)
  rename_i cs hc
  obtain ⟨h1, h2⟩ := zo ha
  obtain ⟨h3, h4⟩ := zo hy
  simp only [kj, h1, h3, hc]
  split at h <;> try (cases h; done)
  ·rename_i hg
   split at h <;> try (cases h; done)
   rename_i hb
   simp only [Bool.and_eq_true, yt, xu, and_assoc] at hb
   obtain ⟨rfl, hw⟩ := jr h
   have hg' := hg
   rw [← hs.h] at hg'
   simp only [hg']
   exact ⟨h2, h4, hb.1, hb.2.1, hb.2.2, rfl, hs.upd hg hw⟩
  ·rename_i hg
   split at h <;> try (cases h; done)
   rename_i hb
   simp only [Bool.and_eq_true, yt, xu, and_assoc] at hb
   obtain ⟨rfl, hw⟩ := jr h
   have hg' := hg
   rw [← hs.h] at hg'
   simp only [hg']
   exact ⟨h2, h4, hb.1, hb.2.1, hb.2.2, rfl, hs.upd hg hw⟩
 ·split at h <;> try (cases h; done)
  rename_i l ha
  obtain ⟨h1, h2⟩ := zo ha
  obtain ⟨rfl, hw⟩ := jr h
  simp only [kj, h1]
  exact ⟨h2, by rw [hn], hs.new hw⟩
 ·split at h <;> try (cases h; done)
  rename_i a ha hne
  rw [hs.get] at h
  split at h <;> try (cases h; done)
  rename_i rows hr
  split at h <;> simp only [Option.some.injEq, Prod.mk.injEq, reduceCtorEq] at h
  rename_i hb
  obtain ⟨rfl, rfl⟩ := h
  obtain ⟨h1, h2⟩ := zo hne
  obtain ⟨p, h3, h4⟩ := Wm hr
  simp only [kj, h1, h3]
  refine ⟨h2, fun l hl => ?_, h4, z1y hb, rfl, hs⟩
  subst hl
  exact ha l rfl
 ·split at h <;> try (cases h; done)
  rename_i l' c' hl hc
  split at h <;> try (cases h; done)
  rename_i hb
  simp only [Bool.and_eq_true, kz, and_assoc] at hb
  obtain ⟨h1, h2⟩ := zo hl
  obtain ⟨h3, h4⟩ := zo hc
  obtain ⟨rfl, hw⟩ := jr h
  simp only [kj, h1, h3]
  exact ⟨h2, h4, hb.1, hb.2.1, hb.2.2, _, .inl rfl, by rw [hn], hs.new hw⟩
 ·split at h <;> try (cases h; done)
  rename_i as ha
  obtain ⟨h1, h2⟩ := Xa ha
  simp only [kj, h1]
  exact ⟨h2, hC _ _ _ _ _ h H n hs⟩
 ·split at h <;> try (cases h; done)
  rename_i f first caps hx
  split at h <;> try (cases h; done)
  rename_i as ha
  obtain ⟨h1, h2⟩ := zo hx
  obtain ⟨h3, h4⟩ := Xa ha
  simp only [kj, h1, h3]
  exact ⟨h2, h4, hC _ _ _ _ _ h H n hs⟩
 ·split at h <;> try (cases h; done)
  rename_i b hb
  rw [hs.get] at h
  split at h <;> try (cases h; done)
  rename_i rows2 hr
  split at h <;> try (cases h; done)
  rename_i a ha
  obtain ⟨h1, h2⟩ := zo hb
  obtain ⟨h3, h4⟩ := zo ha
  obtain ⟨p, h5, h6⟩ := Wm hr
  simp only [kj, h1, h3, h5]
  exact ⟨h4, h2, h6, zp1 hs h⟩
 ·split at h <;> try (cases h; done)
  rename_i b s' off len f hx
  split at h <;> try (cases h; done)
  rename_i y hy
  split at h <;> try (cases h; done)
  rename_i rows2 hr
  split at h <;> try (cases h; done)
  rename_i s'' es hg
  split at h <;> try (cases h; done)
  rename_i hb
  rw [hs.get] at hr
  simp only [Bool.and_eq_true, yt, xu, and_assoc] at hb
  obtain ⟨h1, h2⟩ := zo hx
  obtain ⟨h3, h4⟩ := zo hy
  obtain ⟨p, h5, h6⟩ := Wm hr
  obtain ⟨rfl, hw⟩ := jr h
  have hg' := hg
  rw [← hs.h] at hg'
  simp only [kj, h1, h3, h5, hg']
  exact ⟨h2, h4, h6, hb.1, hb.2.1, hb.2.2, rfl, hs.upd hg hw⟩
 ·obtain ⟨rfl, hw⟩ := jr h; exact ⟨by rw [hn], hs.new hw⟩
 ·split at h <;> try (cases h; done)
  rename_i b hm
  split at h <;> try (cases h; done)
  rename_i x hx
  split at h <;> try (cases h; done)
  rename_i y hy
  split at h <;> try (cases h; done)
  rename_i es hg
  split at h <;> try (cases h; done)
  rename_i k hk
  split at h <;> try (cases h; done)
  rename_i es' he
  split at h <;> try (cases h; done)
  rename_i ho
  obtain ⟨h1, h2⟩ := zo hm
  obtain ⟨h3, h4⟩ := zo hx
  obtain ⟨h5, h6⟩ := zo hk
  obtain ⟨rfl, hw⟩ := jr h
  have hg' := hg
  rw [← hs.h] at hg'
  simp only [kj, h1, h3, hy, h5, hg', zap he]
  exact ⟨h2, h6, h4, We ho, rfl, hs.upd hg hw⟩
 ·split at h <;> try (cases h; done)
  rename_i b hm
  split at h <;> try (cases h; done)
  rename_i es hg
  split at h <;> try (cases h; done)
  rename_i k hk
  split at h <;> try (cases h; done)
  rename_i es' he
  split at h <;> try (cases h; done)
  rename_i ho
  obtain ⟨h1, h2⟩ := zo hm
  obtain ⟨h5, h6⟩ := zo hk
  obtain ⟨rfl, hw⟩ := jr h
  have hg' := hg
  rw [← hs.h] at hg'
  simp only [kj, h1, h5, hg', z4w he]
  exact ⟨h2, h6, We ho, rfl, hs.upd hg hw⟩
 ·cases h
theorem z5q {lo : LOper} {v : AVal} (h : Uw e.get H.get lo = some v) : (Xo e H lo).gives v := by
 unfold Uw at h
 unfold Xo
 cases hg : lo.guard with
 | none =>
  rw [hg] at h
  obtain ⟨s, h1, h2⟩ := Kc h
  simp only [h1]
  exact ⟨h2, .inl rfl⟩
 | some g =>
  obtain ⟨q, want⟩ := g
  rw [hg] at h
  simp only [z45] at h ⊢
  split at h
  ·rename_i hp
   simp only [hp]
   split at h <;> simp only [Option.some.injEq, reduceCtorEq] at h
   rename_i u hu
   subst h
   obtain ⟨s, h1, h2⟩ := Kc hu
   rw [h1]
   exact ⟨fun _ => h2, .inl rfl⟩
  ·rename_i hp
   simp only [hp]
   simp only [Option.some.injEq] at h
   subst h
   cases kc e H lo.op with
   | ok s u => exact ⟨fun h => (by cases h), .inr (.inl ⟨.inr ⟨_, rfl⟩, .inl rfl⟩)⟩
   | bad => exact ⟨trivial, .inl rfl⟩
  ·cases h
theorem z9t {C : Nat → List AVal → Sh → Rs} (hC : z06 P C) {lo : LOper} {v : AVal} (hs : StR H n S) (h : zji C e.get S lo = some (v, S')) : z6u P e H n (KS v S') lo := by
 unfold zji at h
 unfold z6u
 cases hg : lo.guard with
 | none =>
  rw [hg] at h
  exact zgg hC hs h
 | some g =>
  obtain ⟨q, want⟩ := g
  rw [hg] at h
  simp only [z45] at h ⊢
  split at h
  ·rename_i hp
   simp only [hp]
   exact .inr ⟨fun _ => zgg hC hs h, fun h => by cases h⟩
  ·rename_i hp
   simp only [hp]
   simp only [Option.some.injEq, Prod.mk.injEq] at h
   obtain ⟨rfl, rfl⟩ := h
   exact .inr ⟨fun h => (by cases h), fun _ => ⟨_, .inl rfl, rfl, hs⟩⟩
  ·cases h
def EnR (e : Env) (E : Ev) : Prop := ∀ t, e.get t = E.g t
theorem EnR.get {E : Ev} (h : EnR e E) : E.g = e.get := funext fun t => (h t).symm
theorem EnR.put {E E' : Ev} {d : Option Nat} {v : AVal} (h : EnR e E) (hp : E.p d v = some E') : EnR (e.put d v) E' := by
 cases d with
 | none => simp only [Ev.p, Option.some.injEq] at hp; subst hp; exact h
 | some d =>
  simp only [Ev.p] at hp
  have hg := Tr.put_get _ _ _ _ _ hp
  intro t
  unfold Ev.g
  rw [hg]
  by_cases hd : t = d
  ·subst hd; rw [if_pos rfl, Env.get_put_same]
  ·rw [if_neg hd, Env.get_put_other _ _ (fun he => hd he.symm)]; exact h t
theorem z71 {lo : LOper} {v : AVal} (h : Uw e.get H.get lo = some v) : ∀ {K : Env → Prop}, K (e.put lo.dst v) →
 match lo.guard with
 | none => (match kc e H lo.op with | .ok side u => side ∧ K (e.put lo.dst u) | .bad => False)
 | some (g, want) => match kw (e.get g) want with
  | some p => (match kc e H lo.op with
   | .ok side v => (∃ u, (p = true → side ∧ v = u) ∧ K (e.put lo.dst (.cnd p u))) ∨ (p = false ∧ K (e.put lo.dst (.tup [])))
   | .bad => p = false ∧ K (e.put lo.dst (.tup [])))
  | none => False := by
 intro K hK
 unfold Uw at h
 cases hg : lo.guard with
 | none =>
  rw [hg] at h
  obtain ⟨s, h1, h2⟩ := Kc h
  simp only [h1]
  exact ⟨h2, hK⟩
 | some g =>
  obtain ⟨q, want⟩ := g
  rw [hg] at h
  simp only [z45] at h ⊢
  split at h
  ·rename_i hp
   simp only [hp]
   split at h <;> simp only [Option.some.injEq, reduceCtorEq] at h
   rename_i u hu
   subst h
   obtain ⟨s, h1, h2⟩ := Kc hu
   simp only [h1]
   exact .inl ⟨_, fun _ => ⟨h2, rfl⟩, hK⟩
  ·rename_i hp
   simp only [hp]
   simp only [Option.some.injEq] at h
   subst h
   cases kc e H lo.op with
   | ok s u => exact .inr ⟨trivial, hK⟩
   | bad => exact ⟨trivial, hK⟩
  ·cases h
theorem V5 {p : Bool} {H : AHeap} {n : Nat} {E : (AVal → AHeap → Nat → Prop) → Prop} {K K' : AVal → AHeap → Nat → Prop} (hE : ∀ {K K'}, E K → (∀ r H n, K r H n → K' r H n) → E K') (h : Va p H n E K) (hk : ∀ r H n, K r H n → K' r H n) : Va p H n E K' := by
 rcases h with ⟨R, h1, h2⟩ | ⟨h1, h2⟩
 ·exact .inl ⟨R, h1, hk _ _ _ h2⟩
 ·exact .inr ⟨fun h => hE (h1 h) hk, fun h => by obtain ⟨u, a, b⟩ := h2 h; exact ⟨u, a, hk _ _ _ b⟩⟩
theorem z2v {C : Nat → List AVal → Sh → Rs} (hC : z06 P C) {Q : Env → AHeap → Nat → Prop} {E' : Ev} {S' : Sh} (hQ : ∀ e H n, EnR e E' → StR H n S' → Q e H n) : ∀ {os : List LOper} {E : Ev} {S : Sh} {e : Env} {H : AHeap} {n : Nat}, zmp C os E S = some (E', S') → EnR e E → StR H n S → Wh P os Q e H n
 | [], E, S, e, H, n, h, hE, hs => by
  simp only [zmp, Option.some.injEq, Prod.mk.injEq] at h
  obtain ⟨rfl, rfl⟩ := h
  exact hQ _ _ _ hE hs
 | lo :: os, E, S, e, H, n, h, hE, hs => by
  unfold zmp at h
  split at h
  ·rename_i hp
   split at h <;> try (cases h; done)
   rename_i v hv
   split at h <;> try (cases h; done)
   rename_i E1 hE1
   rw [hE.get, hs.get] at hv
   have ih := z2v hC hQ h (hE.put hE1) hs
   have := z71 (K := fun e => Wh P os Q e H n) hv ih
   obtain ⟨d, op, g⟩ := lo
   cases g with
   | none => simp only [Wh, hp]; exact this
   | some g =>
    obtain ⟨g, want⟩ := g
    simp only [Wh]
    simp only at this
    cases hgp : kw (e.get g) want with
    | none => rw [hgp] at this; exact this
    | some p =>
     rw [hgp] at this
     simp only [hp]
     exact this
  ·rename_i hp
   split at h <;> try (cases h; done)
   rename_i v S1 hv
   split at h <;> try (cases h; done)
   rename_i E1 hE1
   rw [hE.get] at hv
   have heff := z9t hC hs hv
   have key : ∀ r H' n', KS v S1 r H' n' → Wh P os Q (e.put lo.dst r) H' n' := by
    rintro r H' n' ⟨rfl, hs'⟩
    exact z2v hC hQ h (hE.put hE1) hs'
   obtain ⟨d, op, g⟩ := lo
   cases g with
   | none => simp only [Wh, hp]; exact W7 key heff
   | some g =>
    obtain ⟨g, want⟩ := g
    simp only [Wh]
    unfold z6u at heff
    simp only at heff
    cases hgp : kw (e.get g) want with
    | none => rw [hgp] at heff; exact heff
    | some p =>
     rw [hgp] at heff
     simp only [hp]
     exact V5 (fun h hk => W7 hk h) heff key
mutual
theorem z94 (x y : AVal) (h : zqt x y = true) : x = y := by
 unfold zqt at h
 split at h
 ·simp only [beq_iff_eq] at h; rw [h]
 ·simp only [Bool.and_eq_true, W3, decide_eq_true_eq] at h; rw [h.1, h.2]
 ·simp only [beq_iff_eq] at h; rw [h]
 ·simp only [Bool.and_eq_true, yt] at h
  obtain ⟨⟨⟨h1, h2⟩, rfl⟩, rfl⟩ := h
  congr 1
  exact Prod.ext h1 h2
 ·simp only [Bool.and_eq_true, yt, beq_iff_eq] at h
  obtain ⟨⟨⟨⟨⟨h1, h2⟩, rfl⟩, rfl⟩, rfl⟩, rfl⟩ := h
  congr 1
  exact Prod.ext h1 h2
 ·simp only [Bool.and_eq_true, yt] at h
  congr 1
  exact Prod.ext h.1 h.2
 ·rw [z33 _ _ h]
 ·rw [z33 _ _ h]
 ·rfl
 ·rfl
 ·rfl
 ·rfl
 ·simp only [Bool.and_eq_true, beq_iff_eq] at h
  rw [h.1, z94 _ _ h.2]
 ·simp only [Bool.and_eq_true, yt, beq_iff_eq] at h
  rw [h.1, h.2]
 ·cases h
termination_by SizeOf.sizeOf x
theorem z33 (xs ys : List AVal) (h : zgt xs ys = true) : xs = ys := by
 unfold zgt at h
 split at h
 ·rfl
 ·simp only [Bool.and_eq_true] at h
  rw [z94 _ _ h.1, z33 _ _ h.2]
 ·cases h
termination_by SizeOf.sizeOf xs
end
theorem zj7 {lo : LOper} {E : Ev} (h : EnR e E) : lo.bsees E = lo.sees e := by
 unfold LOper.bsees LOper.sees
 apply List.map_congr_left
 intro t _
 rw [h t]
theorem z6l {loose : List Nat} : ∀ {done : List (Nat × LOper × Env × AVal)}, zat H.get loose done = true → ∀ x ∈ done, x.1 ∈ loose → (Xo x.2.2.1 H x.2.1).gives x.2.2.2
 | [], _, x, hx, _ => by cases hx
 | (p, lo, e, v) :: r, h, x, hx, hl => by
  unfold zat at h
  simp only [Bool.and_eq_true] at h
  cases hx with
  | tail _ hx => exact z6l h.2 x hx hl
  | head =>
   have h1 := h.1
   rw [List.contains_iff_mem.2 hl] at h1
   simp only at h1
   split at h1 <;> try (cases h1; done)
   rename_i u hu
   have := z5q hu
   rw [z94 _ _ h1] at this
   exact this
theorem zfu {lo : LOper} {K K' : AVal → AHeap → Nat → Prop} (h : z6u P e H n K lo) (hk : ∀ r H n, K r H n → K' r H n) : z6u P e H n K' lo := by
 unfold z6u at h ⊢
 cases hg : lo.guard with
 | none => rw [hg] at h; exact W7 hk h
 | some g =>
  obtain ⟨q, want⟩ := g
  rw [hg] at h
  simp only at h ⊢
  cases hp : kw (e.get q) want with
  | none => rw [hp] at h; exact h.elim
  | some p =>
   rw [hp] at h
   exact V5 (fun h hk => W7 hk h) h hk
theorem z3e {C : Nat → List AVal → Sh → Rs} (hC : z06 P C) {Q : Env → AHeap → Nat → Prop} {E' : Ev} {S' : Sh} (hQ : ∀ e H n, EnR e E' → StR H n S' → Q e H n) : ∀ {items : List DItem} {p : Nat} {done : List (Nat × LOper × Env × AVal)} {E : Ev} {S : Sh} {e : Env} {H : AHeap} {n : Nat}, zch C items p done E S = some (E', S') → EnR e E → StR H n S → xd P items p done Q e H n
 | [], p, done, E, S, e, H, n, h, hE, hs => by
  simp only [zch, Option.some.injEq, Prod.mk.injEq] at h
  obtain ⟨rfl, rfl⟩ := h
  exact hQ _ _ _ hE hs
 | it :: rest, p, done, E, S, e, H, n, h, hE, hs => by
  unfold zch at h
  unfold xd
  rw [zj7 hE] at h
  split at h
  ·rename_i hp
   simp only [hp]
   split at h <;> try (cases h; done)
   rename_i v hv
   split at h <;> try (cases h; done)
   rename_i E1 hE1
   rw [hs.get] at hv
   exact ⟨v, z5q hv, z3e hC hQ h (hE.put hE1) hs⟩
  ·rename_i hp
   simp only [hp]
   split at h <;> try (cases h; done)
   rename_i v S1 hv
   split at h <;> try (cases h; done)
   rename_i hl
   split at h <;> try (cases h; done)
   rename_i E1 hE1
   refine zfu (z9t hC hs hv) ?_
   rintro r H' n' ⟨rfl, hs'⟩
   rw [hs'.get] at hl
   exact ⟨z6l hl, z3e hC hQ h (hE.put hE1) hs'⟩
theorem Jd {Q : Env → AHeap → Nat → Prop} : ∀ {os : List LOper} {e : Env} {H : AHeap} {n : Nat}, (∀ lo ∈ os, jx lo.op = true) → Wh P os Q e H n → xqs os Q e H n
 | [], e, H, n, _, h => h
 | ⟨d, op, none⟩ :: os, e, H, n, hp, h => by
  have h0 : jx op = true := hp _ (List.mem_cons_self ..)
  simp only [Wh, h0] at h
  simp only [xqs]
  split at h <;> try (exact h.elim)
  exact ⟨h.1, Jd (fun lo hl => hp lo (List.mem_cons_of_mem _ hl)) h.2⟩
 | ⟨d, op, some (g, want)⟩ :: os, e, H, n, hp, h => by
  have h0 : jx op = true := hp _ (List.mem_cons_self ..)
  simp only [Wh, h0] at h
  simp only [xqs]
  split at h <;> try (exact h.elim)
  have ih : ∀ {e}, Wh P os Q e H n → xqs os Q e H n := fun h => Jd (fun lo hl => hp lo (List.mem_cons_of_mem _ hl)) h
  split at h
  ·rcases h with ⟨u, h1, h2⟩ | ⟨h1, h2⟩
   ·exact .inl ⟨u, h1, ih h2⟩
   ·exact .inr ⟨h1, ih h2⟩
  ·exact ⟨h.1, ih h.2⟩
abbrev KX (x : Exit × Ev × Sh) : Exit → Env → AHeap → Nat → Prop := fun ex e H n => ex = x.1 ∧ EnR e x.2.1 ∧ StR H n x.2.2
def X3 (P : Program) : LCode → Prop
 | .seq a b => X3 P a ∧ X3 P b
 | .cond _ a b => X3 P a ∧ X3 P b
 | .block _ c => X3 P c
 | .loop c => X3 P c
 | .dfr f _ => z3i P f
 | _ => True
def Qj (l : List Nat) : LCode → Bool
 | .seq a b => Qj l a && Qj l b
 | .cond _ a b => Qj l a && Qj l b
 | .block _ c => Qj l c
 | .loop c => Qj l c
 | .dfr f _ => l.any fun i => Nat.beq i f
 | _ => true
theorem Z9 {P : Program} {l : List Nat} (hl : ∀ f ∈ l, z3i P f) : ∀ {c : LCode}, Qj l c = true → X3 P c
 | .skip, _ | .region _, _ | .quiet _, _ | .draw _, _ | .rng _ _ _ _, _ | .exit _, _ | .ret, _ => trivial
 | .seq a b, h => by
  simp only [Qj, Bool.and_eq_true] at h
  exact ⟨Z9 hl h.1, Z9 hl h.2⟩
 | .cond _ a b, h => by
  simp only [Qj, Bool.and_eq_true] at h
  exact ⟨Z9 hl h.1, Z9 hl h.2⟩
 | .block _ c, h => Z9 (c := c) hl h
 | .loop c, h => Z9 (c := c) hl h
 | .dfr f _, h => by
  simp only [Qj, List.any_eq_true] at h
  obtain ⟨i, h1, h2⟩ := h
  exact hl f (Nat.eq_of_beq_eq_true h2 ▸ h1)
def z9y (P : Program) (L : LCode → Ev → Sh → Cs) : Prop :=
 ∀ c E S x, L c E S = some x → X3 P c → ∀ (N : Lay) (n0 : Nat) e H n, EnR e E → StR H n S → LWp P N n0 (.loop c) (KX x) e H n
theorem z8f {o : Es} {x : Exit × Ev × Sh} (h : zrp o = some x) : ∃ E S, o = some (E, S) ∧ x = (.normal, E, S) := by
 cases o with
 | none => cases h
 | some y => obtain ⟨E, S⟩ := y; simp only [zrp, Option.some.injEq] at h; exact ⟨E, S, rfl, h.symm⟩
theorem ue {C : Nat → List AVal → Sh → Rs} {L : LCode → Ev → Sh → Cs} (hC : z06 P C) (hL : z9y P L) (N : Lay) (n0 : Nat) : ∀ (lc : LCode) {E : Ev} {S : Sh} {x : Exit × Ev × Sh} {e : Env} {H : AHeap} {n : Nat}, Q1 C L lc E S = some x → X3 P lc → EnR e E → StR H n S → LWp P N n0 lc (KX x) e H n
 | .skip, E, S, x, e, H, n, h, hi, hE, hs => by
  simp only [Q1, Option.some.injEq] at h
  subst h
  exact xz .skip _ e H n ⟨rfl, hE, hs⟩
 | .region ops, E, S, x, e, H, n, h, hi, hE, hs => by
  obtain ⟨E1, S1, h1, rfl⟩ := z8f h
  refine xz (.region ops) _ e H n (z2v hC (fun e H n hE hs => ?_) h1 hE hs)
  exact ⟨rfl, hE, hs⟩
 | .quiet ops, E, S, x, e, H, n, h, hi, hE, hs => by
  simp only [Q1] at h
  split at h <;> try (cases h; done)
  rename_i hp
  obtain ⟨E1, S1, h1, rfl⟩ := z8f h
  refine xz (.quiet ops) _ e H n (Jd (P := P) (fun lo hl => List.all_eq_true.1 hp lo hl) (z2v hC (fun e H n hE hs => ?_) h1 hE hs))
  exact ⟨rfl, hE, hs⟩
 | .draw items, E, S, x, e, H, n, h, hi, hE, hs => by
  obtain ⟨E1, S1, h1, rfl⟩ := z8f h
  refine xz (.draw items) _ e H n (z3e hC (fun e H n hE hs => ?_) h1 hE hs)
  exact ⟨rfl, hE, hs⟩
 | .seq a b, E, S, x, e, H, n, h, hi, hE, hs => by
  unfold Q1 at h
  split at h
  ·rename_i E1 S1 h1
   refine z24 ((ue hC hL N n0 a h1 hi.1 hE hs).mono ?_)
   rintro ex e' H' n' ⟨rfl, hE', hs'⟩
   exact ue hC hL N n0 b h hi.2 hE' hs'
  ·rename_i hne
   refine z24 ((ue hC hL N n0 a h hi.1 hE hs).mono ?_)
   rintro ex e' H' n' ⟨rfl, hE', hs'⟩
   obtain ⟨ex, E1, S1⟩ := x
   cases ex with
   | normal => exact absurd h (hne _ _)
   | _ => exact ⟨rfl, hE', hs'⟩
 | .cond c a b, E, S, x, e, H, n, h, hi, hE, hs => by
  unfold Q1 at h
  rw [hE.get] at h
  split at h <;> try (cases h; done)
  ·rename_i hc
   obtain ⟨h1, h2⟩ := zo hc
   exact Kd h1 h2 (fun _ => ue hC hL N n0 a h hi.1 hE hs) (fun h => by cases h)
  ·rename_i hc
   obtain ⟨h1, h2⟩ := zo hc
   exact Kd h1 h2 (fun h => by cases h) (fun _ => ue hC hL N n0 b h hi.2 hE hs)
 | .block id c, E, S, x, e, H, n, h, hi, hE, hs => by
  unfold Q1 at h
  split at h
  ·rename_i i E1 S1 h1
   refine W5 ((ue hC hL N n0 c h1 hi hE hs).mono ?_)
   rintro ex e' H' n' ⟨rfl, hE', hs'⟩
   simp only
   split at h
   ·rename_i hi
    rw [if_pos (yt.1 hi)]
    simp only [Option.some.injEq] at h
    subst h
    exact ⟨rfl, hE', hs'⟩
   ·rename_i hi
    rw [if_neg (Nat.ne_of_beq_eq_false hi)]
    simp only [Option.some.injEq] at h
    subst h
    exact ⟨rfl, hE', hs'⟩
  ·rename_i hne
   refine W5 ((ue hC hL N n0 c h hi hE hs).mono ?_)
   rintro ex e' H' n' ⟨rfl, hE', hs'⟩
   obtain ⟨ex, E1, S1⟩ := x
   cases ex with
   | exit i => exact absurd h (hne _ _ _)
   | _ => exact ⟨rfl, hE', hs'⟩
 | .loop c, E, S, x, e, H, n, h, hi, hE, hs => hL c E S x h hi N n0 e H n hE hs
 | .rng _ _ _ _, E, S, x, e, H, n, h, hi, hE, hs => by cases h
 | .dfr f t, E, S, x, e, H, n, h, hi, hE, hs => by
  simp only [Q1] at h
  split at h <;> try (cases h; done)
  rename_i E1 h1
  simp only [Option.some.injEq] at h
  subst h
  exact xz (.dfr f t) _ e H n ⟨hi, rfl, hE.put h1, hs⟩
 | .exit id, E, S, x, e, H, n, h, hi, hE, hs => by
  simp only [Q1, Option.some.injEq] at h
  subst h
  exact xz (.exit id) _ e H n ⟨rfl, hE, hs⟩
 | .ret, E, S, x, e, H, n, h, hi, hE, hs => by
  simp only [Q1, Option.some.injEq] at h
  subst h
  exact xz .ret _ e H n ⟨rfl, hE, hs⟩
end Go.Fx
