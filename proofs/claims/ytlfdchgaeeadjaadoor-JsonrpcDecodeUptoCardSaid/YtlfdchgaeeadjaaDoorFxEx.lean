/-
  Own framework.
-/
import Derived.Test.YtlfdchgaeeadjaaDoorFxEw
import Derived.Test.YtlfdchgaeeadjaaDoorFxN
namespace Go.Fx
set_option linter.unusedVariables false
variable {P : Program} {H : AHeap} {n : Nat} {S S' : Sh} {e : Env}
abbrev KS (v : AVal) (S' : Sh) : AVal → AHeap → Nat → Prop := fun r H' n' => r = v ∧ StR H' n' S'
def z15 (P : Program) (C : Nat → List AVal → Sh → Rs) : Prop :=
 ∀ (f : Nat) as S r S', C f as S = some (r, S') → ∀ H n, StR H n S → ACalls P (.func f) as H n (KS r S')
theorem wv {v r : AVal} {o : Option Sh} (h : Qd v o = some (r, S')) : r = v ∧ o = some S' := by
 cases o with
 | none => cases h
 | some S0 =>
  simp only [Qd, Option.some.injEq, Prod.mk.injEq] at h
  exact ⟨h.1.symm, by rw [h.2]⟩
theorem StR.get (hs : StR H n S) : S.t.at = H.get := funext fun id => (hs.h id).symm
theorem Ko {s : Nat} {x : AVal} {rows : List (List AVal)} (h : z1g H.get s x = some rows) : ∃ p, Zz H s x = some (p, rows) ∧ p := by
 unfold z1g at h
 split at h
 ·split at h <;> simp only [Option.some.injEq, reduceCtorEq] at h
  rename_i hb
  subst h
  exact ⟨_, rfl, qf.1 hb⟩
 ·split at h <;> simp only [Option.some.injEq, reduceCtorEq] at h
  rename_i hb
  subst h
  exact ⟨_, rfl, qf.1 hb⟩
 ·split at h <;> try (cases h; done)
  rename_i hg
  split at h <;> simp only [Option.some.injEq, reduceCtorEq] at h
  rename_i hb
  subst h
  simp only [Bool.and_eq_true, qf, jr, and_assoc] at hb
  simp only [Zz, hg]
  exact ⟨_, rfl, hb⟩
 ·simp only [Option.some.injEq] at h
  subst h
  exact ⟨_, rfl, trivial⟩
 ·split at h <;> simp only [Option.some.injEq, reduceCtorEq] at h
  rename_i hb
  subst h
  exact ⟨_, rfl, qf.1 hb⟩
 ·cases h
theorem Ke : ∀ {ps : List (Nat × AVal)} {rows rs : List (List AVal)}, Kn rows ps = some rs → ∃ p, Jk rows ps = some (p, rs) ∧ p
 | [], rows, rs, h => by simp only [Kn, Option.some.injEq] at h; subst h; exact ⟨_, rfl, trivial⟩
 | (i, x) :: r, rows, rs, h => by
  unfold Kn at h
  split at h <;> try (cases h; done)
  rename_i cs hc
  split at h <;> try (cases h; done)
  rename_i hb
  simp only [Bool.and_eq_true, qf, jr] at hb
  obtain ⟨p, h1, h2⟩ := Ke h
  simp only [Jk, hc, h1]
  exact ⟨_, rfl, hb.1, hb.2, h2⟩
theorem zav : ∀ {ps : List (Nat × LOpd)} {l : List (Nat × AVal)}, zwm e.get ps = some l → evI e ps = l ∧ Ki e ps
 | [], l, h => by simp only [zwm, Option.some.injEq] at h; exact ⟨h, trivial⟩
 | (i, x) :: r, l, h => by
  unfold zwm at h
  split at h <;> try (cases h; done)
  rename_i a ha
  split at h <;> simp only [Option.some.injEq, reduceCtorEq] at h
  rename_i l' hl
  obtain ⟨h1, h2⟩ := y3 ha
  obtain ⟨h3, h4⟩ := zav hl
  exact ⟨by unfold evI; rw [h1, h3]; exact h, h2, h4⟩
theorem z36 : ∀ {rows : List (List AVal)}, z5r rows = true → ∀ r ∈ rows, ∃ m, r = [.int .u8 m]
 | [], _, r, hr => by cases hr
 | x :: rows, h, r, hr => by
  unfold z5r at h
  split at h
  ·cases ‹_ :: _ = []›
  ·rename_i k m r' heq
   simp only [List.cons.injEq] at heq
   obtain ⟨rfl, rfl⟩ := heq
   simp only [Bool.and_eq_true, Vs] at h
   obtain ⟨rfl, h2⟩ := h
   cases hr with
   | head => exact ⟨m, rfl⟩
   | tail _ hr => exact z36 h2 r hr
  ·cases h
theorem zsl {s bytes : Nat} {x v : AVal} {rows2 : List (List AVal)} (hs : StR H n S) (h : y1b s bytes S x rows2 = some (v, S')) : znz s bytes H n (KS v S') x rows2 := by
 unfold y1b at h
 unfold znz
 split at h
 ·simp only
  split at h
  ·simp only [Option.some.injEq, Prod.mk.injEq] at h
   obtain ⟨rfl, rfl⟩ := h
   exact ⟨fun _ => ⟨rfl, hs⟩, fun hne => absurd rfl hne⟩
  ·rename_i hne
   split at h <;> try (cases h; done)
   rename_i hb
   obtain ⟨rfl, hw⟩ := wv h
   refine ⟨fun he => absurd he hne, fun _ => ⟨jr.1 hb, by rw [hs.n], hs.new hw⟩⟩
 ·simp only
  split at h <;> try (cases h; done)
  rename_i he
  refine ⟨qf.1 he, ?_⟩
  split at h
  ·simp only [Option.some.injEq, Prod.mk.injEq] at h
   obtain ⟨rfl, rfl⟩ := h
   exact ⟨fun _ => ⟨rfl, hs⟩, fun hne => absurd rfl hne⟩
  ·rename_i hne
   split at h <;> try (cases h; done)
   rename_i hb
   simp only [Bool.and_eq_true, jr] at hb
   obtain ⟨rfl, hw⟩ := wv h
   exact ⟨fun he => absurd he hne, fun _ => ⟨hb.1, hb.2, by rw [hs.n], hs.new hw⟩⟩
 ·rw [hs.get] at h
  simp only
  split at h <;> try (cases h; done)
  rename_i hg
  rw [hg]
  simp only
  split at h <;> try (cases h; done)
  rename_i hb
  simp only [Bool.and_eq_true, qf, jr, and_assoc] at hb
  obtain ⟨b1, b2, b3, b4⟩ := hb
  refine ⟨b1, b2, b3, ?_⟩
  split at h
  ·simp only [Option.some.injEq, Prod.mk.injEq] at h
   obtain ⟨rfl, rfl⟩ := h
   exact ⟨fun _ _ => ⟨rfl, hs⟩, fun hne => absurd rfl (hne rfl)⟩
  ·rename_i hne
   obtain ⟨rfl, hw⟩ := wv h
   refine ⟨fun _ he => absurd he hne, fun _ => ⟨b4, by rw [hs.n], ?_⟩⟩
   rw [if_pos rfl]
   exact hs.new hw
  ·split at h <;> try (cases h; done)
   rename_i S1 hc
   obtain ⟨rfl, hw⟩ := wv h
   have h1 := hs.cut hc
   refine ⟨fun he => (by cases he), fun _ => ⟨b4, by rw [h1.n], ?_⟩⟩
   rw [if_neg (by simp)]
   exact h1.new hw
 ·cases h
theorem zg6 {C : Nat → List AVal → Sh → Rs} (hC : z15 P C) {op : LOp} {v : AVal} (hs : StR H n S) (h : y02 C e.get S op = some (v, S')) : kx P e H n (KS v S') op := by
 have hn := hs.n
 unfold y02 at h
 split at h
 ·obtain ⟨rfl, hw⟩ := wv h; exact ⟨by rw [hn], hs.new hw⟩
 ·obtain ⟨rfl, hw⟩ := wv h; exact ⟨by rw [hn], hs.new hw⟩
 ·obtain ⟨rfl, hw⟩ := wv h; rw [← hn] at hw; exact ⟨by rw [hn], hs.new2 hw⟩
 ·split at h <;> try (cases h; done)
  rename_i a ha
  split at h <;> try (cases h; done)
  rename_i cs hc
  obtain ⟨h1, h2⟩ := y3 ha
  obtain ⟨rfl, hw⟩ := wv h
  simp only [kx, h1, hc]
  exact ⟨h2, by rw [hn], hs.new hw⟩
 ·split at h <;> try (cases h; done)
  rename_i ps hps
  split at h <;> try (cases h; done)
  rename_i rows hr
  split at h <;> try (cases h; done)
  rename_i hz
  obtain ⟨rfl, hw⟩ := wv h
  obtain ⟨h1, h2⟩ := zav hps
  obtain ⟨p, h3, h4⟩ := Ke hr
  simp only [kx, h1, h3]
  exact ⟨qf.1 hz, h2, h4, by rw [hn], hs.new hw⟩
 ·split at h <;> try (cases h; done)
  rename_i ps hps
  split at h <;> try (cases h; done)
  rename_i rows hr
  split at h <;> try (cases h; done)
  rename_i rows' him
  split at h <;> try (cases h; done)
  rename_i hz
  simp only [Option.some.injEq, Prod.mk.injEq] at h
  obtain ⟨rfl, rfl⟩ := h
  obtain ⟨h1, h2⟩ := zav hps
  obtain ⟨p, h3, h4⟩ := Ke hr
  simp only [kx, h1, h3, him]
  exact ⟨qf.1 hz, h2, h4, rfl, hs⟩
 ·split at h <;> try (cases h; done)
  rename_i b i off ha
  split at h <;> try (cases h; done)
  rename_i y hy
  split at h <;> try (cases h; done)
  rename_i cs hc
  obtain ⟨h1, h2⟩ := y3 ha
  obtain ⟨h3, h4⟩ := y3 hy
  simp only [kx, h1, h3, hc]
  split at h <;> try (cases h; done)
  ·rename_i hg
   split at h <;> try (cases h; done)
   rename_i hb
   simp only [Bool.and_eq_true, qf, jr, and_assoc] at hb
   obtain ⟨rfl, hw⟩ := wv h
   have hg' := hg
   rw [← hs.h] at hg'
   simp only [hg']
   exact ⟨h2, h4, hb.1, hb.2.1, hb.2.2, rfl, hs.upd hg hw⟩
  ·rename_i hg
   split at h <;> try (cases h; done)
   rename_i hb
   simp only [Bool.and_eq_true, qf, jr, and_assoc] at hb
   obtain ⟨rfl, hw⟩ := wv h
   have hg' := hg
   rw [← hs.h] at hg'
   simp only [hg']
   exact ⟨h2, h4, hb.1, hb.2.1, hb.2.2, rfl, hs.upd hg hw⟩
 ·split at h <;> try (cases h; done)
  rename_i l ha
  obtain ⟨h1, h2⟩ := y3 ha
  obtain ⟨rfl, hw⟩ := wv h
  simp only [kx, h1]
  exact ⟨h2, by rw [hn], hs.new hw⟩
 ·split at h <;> try (cases h; done)
  rename_i a ha hne
  rw [hs.get] at h
  split at h <;> try (cases h; done)
  rename_i rows hr
  split at h <;> simp only [Option.some.injEq, Prod.mk.injEq, reduceCtorEq] at h
  rename_i hb
  obtain ⟨rfl, rfl⟩ := h
  obtain ⟨h1, h2⟩ := y3 hne
  obtain ⟨p, h3, h4⟩ := Ko hr
  simp only [kx, h1, h3]
  refine ⟨h2, fun l hl => ?_, h4, z36 hb, rfl, hs⟩
  subst hl
  exact ha l rfl
 ·split at h <;> try (cases h; done)
  rename_i l' c' hl hc
  split at h <;> try (cases h; done)
  rename_i hb
  simp only [Bool.and_eq_true, Ze, and_assoc] at hb
  obtain ⟨h1, h2⟩ := y3 hl
  obtain ⟨h3, h4⟩ := y3 hc
  obtain ⟨rfl, hw⟩ := wv h
  simp only [kx, h1, h3]
  exact ⟨h2, h4, hb.1, hb.2.1, hb.2.2, _, .inl rfl, by rw [hn], hs.new hw⟩
 ·split at h <;> try (cases h; done)
  rename_i as ha
  obtain ⟨h1, h2⟩ := Jv ha
  simp only [kx, h1]
  exact ⟨h2, hC _ _ _ _ _ h H n hs⟩
 ·split at h <;> try (cases h; done)
  rename_i f first caps hx
  split at h <;> try (cases h; done)
  rename_i as ha
  obtain ⟨h1, h2⟩ := y3 hx
  obtain ⟨h3, h4⟩ := Jv ha
  simp only [kx, h1, h3]
  exact ⟨h2, h4, hC _ _ _ _ _ h H n hs⟩
 ·split at h <;> try (cases h; done)
  rename_i b hb
  rw [hs.get] at h
  split at h <;> try (cases h; done)
  rename_i rows2 hr
  split at h <;> try (cases h; done)
  rename_i a ha
  obtain ⟨h1, h2⟩ := y3 hb
  obtain ⟨h3, h4⟩ := y3 ha
  obtain ⟨p, h5, h6⟩ := Ko hr
  simp only [kx, h1, h3, h5]
  exact ⟨h4, h2, h6, zsl hs h⟩
 ·split at h <;> try (cases h; done)
  rename_i b s' off len f hx
  split at h <;> try (cases h; done)
  rename_i y hy
  split at h <;> try (cases h; done)
  rename_i rows2 hr
  split at h <;> try (cases h; done)
  rename_i s'' es hg
  split at h <;> try (cases h; done)
  rename_i hb
  rw [hs.get] at hr
  simp only [Bool.and_eq_true, qf, jr, and_assoc] at hb
  obtain ⟨h1, h2⟩ := y3 hx
  obtain ⟨h3, h4⟩ := y3 hy
  obtain ⟨p, h5, h6⟩ := Ko hr
  obtain ⟨rfl, hw⟩ := wv h
  have hg' := hg
  rw [← hs.h] at hg'
  simp only [kx, h1, h3, h5, hg']
  exact ⟨h2, h4, h6, hb.1, hb.2.1, hb.2.2, rfl, hs.upd hg hw⟩
 ·obtain ⟨rfl, hw⟩ := wv h; exact ⟨by rw [hn], hs.new hw⟩
 ·split at h <;> try (cases h; done)
  rename_i b hm
  split at h <;> try (cases h; done)
  rename_i x hx
  split at h <;> try (cases h; done)
  rename_i y hy
  split at h <;> try (cases h; done)
  rename_i es hg
  split at h <;> try (cases h; done)
  rename_i k hk
  split at h <;> try (cases h; done)
  rename_i es' he
  split at h <;> try (cases h; done)
  rename_i ho
  obtain ⟨h1, h2⟩ := y3 hm
  obtain ⟨h3, h4⟩ := y3 hx
  obtain ⟨h5, h6⟩ := y3 hk
  obtain ⟨rfl, hw⟩ := wv h
  have hg' := hg
  rw [← hs.h] at hg'
  simp only [kx, h1, h3, hy, h5, hg', zbr he]
  exact ⟨h2, h6, h4, Vx ho, rfl, hs.upd hg hw⟩
 ·split at h <;> try (cases h; done)
  rename_i b hm
  split at h <;> try (cases h; done)
  rename_i es hg
  split at h <;> try (cases h; done)
  rename_i k hk
  split at h <;> try (cases h; done)
  rename_i es' he
  split at h <;> try (cases h; done)
  rename_i ho
  obtain ⟨h1, h2⟩ := y3 hm
  obtain ⟨h5, h6⟩ := y3 hk
  obtain ⟨rfl, hw⟩ := wv h
  have hg' := hg
  rw [← hs.h] at hg'
  simp only [kx, h1, h5, hg', z8c he]
  exact ⟨h2, h6, Vx ho, rfl, hs.upd hg hw⟩
 ·cases h
theorem z7a {lo : LOper} {v : AVal} (h : z13 e.get H.get lo = some v) : (Xu e H lo).gives v := by
 unfold z13 at h
 unfold Xu
 cases hg : lo.guard with
 | none =>
  rw [hg] at h
  obtain ⟨s, h1, h2⟩ := z05 h
  simp only [h1]
  exact ⟨h2, .inl rfl⟩
 | some g =>
  obtain ⟨q, want⟩ := g
  rw [hg] at h
  simp only [z8z] at h ⊢
  split at h
  ·rename_i hp
   simp only [hp]
   split at h <;> simp only [Option.some.injEq, reduceCtorEq] at h
   rename_i u hu
   subst h
   obtain ⟨s, h1, h2⟩ := z05 hu
   rw [h1]
   exact ⟨fun _ => h2, .inl rfl⟩
  ·rename_i hp
   simp only [hp]
   simp only [Option.some.injEq] at h
   subst h
   cases w5 e H lo.op with
   | ok s u => exact ⟨fun h => (by cases h), .inr (.inl ⟨.inr ⟨_, rfl⟩, .inl rfl⟩)⟩
   | bad => exact ⟨trivial, .inl rfl⟩
  ·cases h
theorem zd0 {C : Nat → List AVal → Sh → Rs} (hC : z15 P C) {lo : LOper} {v : AVal} (hs : StR H n S) (h : zok C e.get S lo = some (v, S')) : z5x P e H n (KS v S') lo := by
 unfold zok at h
 unfold z5x
 cases hg : lo.guard with
 | none =>
  rw [hg] at h
  exact zg6 hC hs h
 | some g =>
  obtain ⟨q, want⟩ := g
  rw [hg] at h
  simp only [z8z] at h ⊢
  split at h
  ·rename_i hp
   simp only [hp]
   exact .inr ⟨fun _ => zg6 hC hs h, fun h => by cases h⟩
  ·rename_i hp
   simp only [hp]
   simp only [Option.some.injEq, Prod.mk.injEq] at h
   obtain ⟨rfl, rfl⟩ := h
   exact .inr ⟨fun h => (by cases h), fun _ => ⟨_, .inl rfl, rfl, hs⟩⟩
  ·cases h
def EnR (e : Env) (E : Ev) : Prop := ∀ t, e.get t = E.g t
theorem EnR.get {E : Ev} (h : EnR e E) : E.g = e.get := funext fun t => (h t).symm
theorem EnR.put {E E' : Ev} {d : Option Nat} {v : AVal} (h : EnR e E) (hp : E.p d v = some E') : EnR (e.put d v) E' := by
 cases d with
 | none => simp only [Ev.p, Option.some.injEq] at hp; subst hp; exact h
 | some d =>
  simp only [Ev.p] at hp
  have hg := Tr.put_get _ _ _ _ _ hp
  intro t
  unfold Ev.g
  rw [hg]
  by_cases hd : t = d
  ·subst hd; rw [if_pos rfl, Env.get_put_same]
  ·rw [if_neg hd, Env.get_put_other _ _ (fun he => hd he.symm)]; exact h t
theorem z9w {lo : LOper} {v : AVal} (h : z13 e.get H.get lo = some v) : ∀ {K : Env → Prop}, K (e.put lo.dst v) →
 match lo.guard with
 | none => (match w5 e H lo.op with | .ok side u => side ∧ K (e.put lo.dst u) | .bad => False)
 | some (g, want) => match ux (e.get g) want with
  | some p => (match w5 e H lo.op with
   | .ok side v => (∃ u, (p = true → side ∧ v = u) ∧ K (e.put lo.dst (.cnd p u))) ∨ (p = false ∧ K (e.put lo.dst (.tup [])))
   | .bad => p = false ∧ K (e.put lo.dst (.tup [])))
  | none => False := by
 intro K hK
 unfold z13 at h
 cases hg : lo.guard with
 | none =>
  rw [hg] at h
  obtain ⟨s, h1, h2⟩ := z05 h
  simp only [h1]
  exact ⟨h2, hK⟩
 | some g =>
  obtain ⟨q, want⟩ := g
  rw [hg] at h
  simp only [z8z] at h ⊢
  split at h
  ·rename_i hp
   simp only [hp]
   split at h <;> simp only [Option.some.injEq, reduceCtorEq] at h
   rename_i u hu
   subst h
   obtain ⟨s, h1, h2⟩ := z05 hu
   simp only [h1]
   exact .inl ⟨_, fun _ => ⟨h2, rfl⟩, hK⟩
  ·rename_i hp
   simp only [hp]
   simp only [Option.some.injEq] at h
   subst h
   cases w5 e H lo.op with
   | ok s u => exact .inr ⟨trivial, hK⟩
   | bad => exact ⟨trivial, hK⟩
  ·cases h
theorem U0 {p : Bool} {H : AHeap} {n : Nat} {E : (AVal → AHeap → Nat → Prop) → Prop} {K K' : AVal → AHeap → Nat → Prop} (hE : ∀ {K K'}, E K → (∀ r H n, K r H n → K' r H n) → E K') (h : Um p H n E K) (hk : ∀ r H n, K r H n → K' r H n) : Um p H n E K' := by
 rcases h with ⟨R, h1, h2⟩ | ⟨h1, h2⟩
 ·exact .inl ⟨R, h1, hk _ _ _ h2⟩
 ·exact .inr ⟨fun h => hE (h1 h) hk, fun h => by obtain ⟨u, a, b⟩ := h2 h; exact ⟨u, a, hk _ _ _ b⟩⟩
theorem z48 {C : Nat → List AVal → Sh → Rs} (hC : z15 P C) {Q : Env → AHeap → Nat → Prop} {E' : Ev} {S' : Sh} (hQ : ∀ e H n, EnR e E' → StR H n S' → Q e H n) : ∀ {os : List LOper} {E : Ev} {S : Sh} {e : Env} {H : AHeap} {n : Nat}, zva C os E S = some (E', S') → EnR e E → StR H n S → Wu P os Q e H n
 | [], E, S, e, H, n, h, hE, hs => by
  simp only [zva, Option.some.injEq, Prod.mk.injEq] at h
  obtain ⟨rfl, rfl⟩ := h
  exact hQ _ _ _ hE hs
 | lo :: os, E, S, e, H, n, h, hE, hs => by
  unfold zva at h
  split at h
  ·rename_i hp
   split at h <;> try (cases h; done)
   rename_i v hv
   split at h <;> try (cases h; done)
   rename_i E1 hE1
   rw [hE.get, hs.get] at hv
   have ih := z48 hC hQ h (hE.put hE1) hs
   have := z9w (K := fun e => Wu P os Q e H n) hv ih
   obtain ⟨d, op, g⟩ := lo
   cases g with
   | none => simp only [Wu, hp]; exact this
   | some g =>
    obtain ⟨g, want⟩ := g
    simp only [Wu]
    simp only at this
    cases hgp : ux (e.get g) want with
    | none => rw [hgp] at this; exact this
    | some p =>
     rw [hgp] at this
     simp only [hp]
     exact this
  ·rename_i hp
   split at h <;> try (cases h; done)
   rename_i v S1 hv
   split at h <;> try (cases h; done)
   rename_i E1 hE1
   rw [hE.get] at hv
   have heff := zd0 hC hs hv
   have key : ∀ r H' n', KS v S1 r H' n' → Wu P os Q (e.put lo.dst r) H' n' := by
    rintro r H' n' ⟨rfl, hs'⟩
    exact z48 hC hQ h (hE.put hE1) hs'
   obtain ⟨d, op, g⟩ := lo
   cases g with
   | none => simp only [Wu, hp]; exact X0 key heff
   | some g =>
    obtain ⟨g, want⟩ := g
    simp only [Wu]
    unfold z5x at heff
    simp only at heff
    cases hgp : ux (e.get g) want with
    | none => rw [hgp] at heff; exact heff
    | some p =>
     rw [hgp] at heff
     simp only [hp]
     exact U0 (fun h hk => X0 hk h) heff key
mutual
theorem za4 (x y : AVal) (h : zzo x y = true) : x = y := by
 unfold zzo at h
 split at h
 ·simp only [beq_iff_eq] at h; rw [h]
 ·simp only [Bool.and_eq_true, Vs, decide_eq_true_eq] at h; rw [h.1, h.2]
 ·simp only [beq_iff_eq] at h; rw [h]
 ·simp only [Bool.and_eq_true, qf] at h
  obtain ⟨⟨⟨h1, h2⟩, rfl⟩, rfl⟩ := h
  congr 1
  exact Prod.ext h1 h2
 ·simp only [Bool.and_eq_true, qf, beq_iff_eq] at h
  obtain ⟨⟨⟨⟨⟨h1, h2⟩, rfl⟩, rfl⟩, rfl⟩, rfl⟩ := h
  congr 1
  exact Prod.ext h1 h2
 ·simp only [Bool.and_eq_true, qf] at h
  congr 1
  exact Prod.ext h.1 h.2
 ·rw [z4m _ _ h]
 ·rw [z4m _ _ h]
 ·rfl
 ·rfl
 ·rfl
 ·rfl
 ·simp only [Bool.and_eq_true, beq_iff_eq] at h
  rw [h.1, za4 _ _ h.2]
 ·simp only [Bool.and_eq_true, qf, beq_iff_eq] at h
  rw [h.1, h.2]
 ·cases h
termination_by SizeOf.sizeOf x
theorem z4m (xs ys : List AVal) (h : zgg xs ys = true) : xs = ys := by
 unfold zgg at h
 split at h
 ·rfl
 ·simp only [Bool.and_eq_true] at h
  rw [za4 _ _ h.1, z4m _ _ h.2]
 ·cases h
termination_by SizeOf.sizeOf xs
end
theorem zq6 {lo : LOper} {E : Ev} (h : EnR e E) : lo.bsees E = lo.sees e := by
 unfold LOper.bsees LOper.sees
 apply List.map_congr_left
 intro t _
 rw [h t]
theorem z7b {loose : List Nat} : ∀ {done : List (Nat × LOper × Env × AVal)}, zc2 H.get loose done = true → ∀ x ∈ done, x.1 ∈ loose → (Xu x.2.2.1 H x.2.1).gives x.2.2.2
 | [], _, x, hx, _ => by cases hx
 | (p, lo, e, v) :: r, h, x, hx, hl => by
  unfold zc2 at h
  simp only [Bool.and_eq_true] at h
  cases hx with
  | tail _ hx => exact z7b h.2 x hx hl
  | head =>
   have h1 := h.1
   rw [List.contains_iff_mem.2 hl] at h1
   simp only at h1
   split at h1 <;> try (cases h1; done)
   rename_i u hu
   have := z7a hu
   rw [za4 _ _ h1] at this
   exact this
theorem zht {lo : LOper} {K K' : AVal → AHeap → Nat → Prop} (h : z5x P e H n K lo) (hk : ∀ r H n, K r H n → K' r H n) : z5x P e H n K' lo := by
 unfold z5x at h ⊢
 cases hg : lo.guard with
 | none => rw [hg] at h; exact X0 hk h
 | some g =>
  obtain ⟨q, want⟩ := g
  rw [hg] at h
  simp only at h ⊢
  cases hp : ux (e.get q) want with
  | none => rw [hp] at h; exact h.elim
  | some p =>
   rw [hp] at h
   exact U0 (fun h hk => X0 hk h) h hk
theorem z4s {C : Nat → List AVal → Sh → Rs} (hC : z15 P C) {Q : Env → AHeap → Nat → Prop} {E' : Ev} {S' : Sh} (hQ : ∀ e H n, EnR e E' → StR H n S' → Q e H n) : ∀ {items : List DItem} {p : Nat} {done : List (Nat × LOper × Env × AVal)} {E : Ev} {S : Sh} {e : Env} {H : AHeap} {n : Nat}, zfg C items p done E S = some (E', S') → EnR e E → StR H n S → xd P items p done Q e H n
 | [], p, done, E, S, e, H, n, h, hE, hs => by
  simp only [zfg, Option.some.injEq, Prod.mk.injEq] at h
  obtain ⟨rfl, rfl⟩ := h
  exact hQ _ _ _ hE hs
 | it :: rest, p, done, E, S, e, H, n, h, hE, hs => by
  unfold zfg at h
  unfold xd
  rw [zq6 hE] at h
  split at h
  ·rename_i hp
   simp only [hp]
   split at h <;> try (cases h; done)
   rename_i v hv
   split at h <;> try (cases h; done)
   rename_i E1 hE1
   rw [hs.get] at hv
   exact ⟨v, z7a hv, z4s hC hQ h (hE.put hE1) hs⟩
  ·rename_i hp
   simp only [hp]
   split at h <;> try (cases h; done)
   rename_i v S1 hv
   split at h <;> try (cases h; done)
   rename_i hl
   split at h <;> try (cases h; done)
   rename_i E1 hE1
   refine zht (zd0 hC hs hv) ?_
   rintro r H' n' ⟨rfl, hs'⟩
   rw [hs'.get] at hl
   exact ⟨z7b hl, z4s hC hQ h (hE.put hE1) hs'⟩
theorem Wf {Q : Env → AHeap → Nat → Prop} : ∀ {os : List LOper} {e : Env} {H : AHeap} {n : Nat}, (∀ lo ∈ os, vh lo.op = true) → Wu P os Q e H n → xqs os Q e H n
 | [], e, H, n, _, h => h
 | ⟨d, op, none⟩ :: os, e, H, n, hp, h => by
  have h0 : vh op = true := hp _ (List.mem_cons_self ..)
  simp only [Wu, h0] at h
  simp only [xqs]
  split at h <;> try (exact h.elim)
  exact ⟨h.1, Wf (fun lo hl => hp lo (List.mem_cons_of_mem _ hl)) h.2⟩
 | ⟨d, op, some (g, want)⟩ :: os, e, H, n, hp, h => by
  have h0 : vh op = true := hp _ (List.mem_cons_self ..)
  simp only [Wu, h0] at h
  simp only [xqs]
  split at h <;> try (exact h.elim)
  have ih : ∀ {e}, Wu P os Q e H n → xqs os Q e H n := fun h => Wf (fun lo hl => hp lo (List.mem_cons_of_mem _ hl)) h
  split at h
  ·rcases h with ⟨u, h1, h2⟩ | ⟨h1, h2⟩
   ·exact .inl ⟨u, h1, ih h2⟩
   ·exact .inr ⟨h1, ih h2⟩
  ·exact ⟨h.1, ih h.2⟩
abbrev KX (x : Exit × Ev × Sh) : Exit → Env → AHeap → Nat → Prop := fun ex e H n => ex = x.1 ∧ EnR e x.2.1 ∧ StR H n x.2.2
def zdo (P : Program) (L : LCode → Ev → Sh → Cs) : Prop :=
 ∀ c E S x, L c E S = some x → ∀ (N : Lay) (n0 : Nat) e H n, EnR e E → StR H n S → LWp P N n0 (.loop c) (KX x) e H n
theorem z9y {o : Es} {x : Exit × Ev × Sh} (h : zxi o = some x) : ∃ E S, o = some (E, S) ∧ x = (.normal, E, S) := by
 cases o with
 | none => cases h
 | some y => obtain ⟨E, S⟩ := y; simp only [zxi, Option.some.injEq] at h; exact ⟨E, S, rfl, h.symm⟩
theorem Zn {C : Nat → List AVal → Sh → Rs} {L : LCode → Ev → Sh → Cs} (hC : z15 P C) (hL : zdo P L) (N : Lay) (n0 : Nat) : ∀ (lc : LCode) {E : Ev} {S : Sh} {x : Exit × Ev × Sh} {e : Env} {H : AHeap} {n : Nat}, Jf C L lc E S = some x → EnR e E → StR H n S → LWp P N n0 lc (KX x) e H n
 | .skip, E, S, x, e, H, n, h, hE, hs => by
  simp only [Jf, Option.some.injEq] at h
  subst h
  exact wg .skip _ e H n ⟨rfl, hE, hs⟩
 | .region ops, E, S, x, e, H, n, h, hE, hs => by
  obtain ⟨E1, S1, h1, rfl⟩ := z9y h
  refine wg (.region ops) _ e H n (z48 hC (fun e H n hE hs => ?_) h1 hE hs)
  exact ⟨rfl, hE, hs⟩
 | .quiet ops, E, S, x, e, H, n, h, hE, hs => by
  simp only [Jf] at h
  split at h <;> try (cases h; done)
  rename_i hp
  obtain ⟨E1, S1, h1, rfl⟩ := z9y h
  refine wg (.quiet ops) _ e H n (Wf (P := P) (fun lo hl => List.all_eq_true.1 hp lo hl) (z48 hC (fun e H n hE hs => ?_) h1 hE hs))
  exact ⟨rfl, hE, hs⟩
 | .draw items, E, S, x, e, H, n, h, hE, hs => by
  obtain ⟨E1, S1, h1, rfl⟩ := z9y h
  refine wg (.draw items) _ e H n (z4s hC (fun e H n hE hs => ?_) h1 hE hs)
  exact ⟨rfl, hE, hs⟩
 | .seq a b, E, S, x, e, H, n, h, hE, hs => by
  unfold Jf at h
  split at h
  ·rename_i E1 S1 h1
   refine z5v ((Zn hC hL N n0 a h1 hE hs).mono ?_)
   rintro ex e' H' n' ⟨rfl, hE', hs'⟩
   exact Zn hC hL N n0 b h hE' hs'
  ·rename_i hne
   refine z5v ((Zn hC hL N n0 a h hE hs).mono ?_)
   rintro ex e' H' n' ⟨rfl, hE', hs'⟩
   obtain ⟨ex, E1, S1⟩ := x
   cases ex with
   | normal => exact absurd h (hne _ _)
   | _ => exact ⟨rfl, hE', hs'⟩
 | .cond c a b, E, S, x, e, H, n, h, hE, hs => by
  unfold Jf at h
  rw [hE.get] at h
  split at h <;> try (cases h; done)
  ·rename_i hc
   obtain ⟨h1, h2⟩ := y3 hc
   exact z02 h1 h2 (fun _ => Zn hC hL N n0 a h hE hs) (fun h => by cases h)
  ·rename_i hc
   obtain ⟨h1, h2⟩ := y3 hc
   exact z02 h1 h2 (fun h => by cases h) (fun _ => Zn hC hL N n0 b h hE hs)
 | .block id c, E, S, x, e, H, n, h, hE, hs => by
  unfold Jf at h
  split at h
  ·rename_i i E1 S1 h1
   refine Ve ((Zn hC hL N n0 c h1 hE hs).mono ?_)
   rintro ex e' H' n' ⟨rfl, hE', hs'⟩
   simp only
   split at h
   ·rename_i hi
    rw [if_pos (qf.1 hi)]
    simp only [Option.some.injEq] at h
    subst h
    exact ⟨rfl, hE', hs'⟩
   ·rename_i hi
    rw [if_neg (Nat.ne_of_beq_eq_false hi)]
    simp only [Option.some.injEq] at h
    subst h
    exact ⟨rfl, hE', hs'⟩
  ·rename_i hne
   refine Ve ((Zn hC hL N n0 c h hE hs).mono ?_)
   rintro ex e' H' n' ⟨rfl, hE', hs'⟩
   obtain ⟨ex, E1, S1⟩ := x
   cases ex with
   | exit i => exact absurd h (hne _ _ _)
   | _ => exact ⟨rfl, hE', hs'⟩
 | .loop c, E, S, x, e, H, n, h, hE, hs => hL c E S x h N n0 e H n hE hs
 | .rng _ _ _ _, E, S, x, e, H, n, h, hE, hs => by cases h
 | .exit id, E, S, x, e, H, n, h, hE, hs => by
  simp only [Jf, Option.some.injEq] at h
  subst h
  exact wg (.exit id) _ e H n ⟨rfl, hE, hs⟩
 | .ret, E, S, x, e, H, n, h, hE, hs => by
  simp only [Jf, Option.some.injEq] at h
  subst h
  exact wg .ret _ e H n ⟨rfl, hE, hs⟩
end Go.Fx
