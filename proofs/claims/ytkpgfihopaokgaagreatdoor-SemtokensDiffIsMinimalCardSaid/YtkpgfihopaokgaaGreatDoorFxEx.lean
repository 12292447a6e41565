/-
  Own framework.
-/
import Derived.Test.YtkpgfihopaokgaaGreatDoorFxBk
import Derived.Test.YtkpgfihopaokgaaGreatDoorFxEw
import Derived.Test.YtkpgfihopaokgaaGreatDoorFxN
namespace Go.Fx
set_option linter.unusedVariables false
variable {D : Id → Option ABlock} {P : Program} {H : AHeap} {n : Nat} {S S' : Sh} {e : Env}
abbrev KS (D : Id → Option ABlock) (v : AVal) (S' : Sh) : AVal → AHeap → Nat → Prop := fun r H' n' => r = v ∧ StR D H' n' S'
def Xl (P : Program) (C : Nat → List AVal → Sh → Rs) : Prop :=
 ∀ (f : Nat) as S r S', C f as S = some (r, S') → ∀ {D : Id → Option ABlock} H n, StR D H n S → ACalls P (.func f) as H n (KS D r S')
theorem yt {v r : AVal} {o : Option Sh} (h : jq v o = some (r, S')) : r = v ∧ o = some S' := by
 cases o with
 | none => cases h
 | some S0 =>
  simp only [jq, Option.some.injEq, Prod.mk.injEq] at h
  exact ⟨h.1.symm, by rw [h.2]⟩
theorem StR.le (hs : StR D H n S) : HLe S.t.at H.get := hs.h
theorem Y6 {s : Nat} {x : AVal} {rows : List (List AVal)} (h : vz H.get s x = some rows) : ∃ p, xw H s x = some (p, rows) ∧ p := by
 unfold vz at h
 split at h
 ·split at h <;> simp only [Option.some.injEq, reduceCtorEq] at h
  rename_i hb
  subst h
  exact ⟨_, rfl, zn.1 hb⟩
 ·split at h <;> simp only [Option.some.injEq, reduceCtorEq] at h
  rename_i hb
  subst h
  exact ⟨_, rfl, zn.1 hb⟩
 ·split at h <;> try (cases h; done)
  rename_i hg
  split at h <;> simp only [Option.some.injEq, reduceCtorEq] at h
  rename_i hb
  subst h
  simp only [Bool.and_eq_true, zn, yi, and_assoc] at hb
  simp only [xw, hg]
  exact ⟨_, rfl, hb⟩
 ·simp only [Option.some.injEq] at h
  subst h
  exact ⟨_, rfl, trivial⟩
 ·split at h <;> simp only [Option.some.injEq, reduceCtorEq] at h
  rename_i hb
  subst h
  exact ⟨_, rfl, zn.1 hb⟩
 ·cases h
theorem Zu : ∀ {ps : List (Nat × AVal)} {rows rs : List (List AVal)}, Zy rows ps = some rs → ∃ p, vu rows ps = some (p, rs) ∧ p
 | [], rows, rs, h => by simp only [Zy, Option.some.injEq] at h; subst h; exact ⟨_, rfl, trivial⟩
 | (i, x) :: r, rows, rs, h => by
  unfold Zy at h
  split at h <;> try (cases h; done)
  rename_i cs hc
  split at h <;> try (cases h; done)
  rename_i hb
  simp only [Bool.and_eq_true, zn, yi] at hb
  obtain ⟨p, h1, h2⟩ := Zu h
  simp only [vu, hc, h1]
  exact ⟨_, rfl, hb.1, hb.2, h2⟩
theorem z0i : ∀ {ps : List (Nat × LOpd)} {l : List (Nat × AVal)}, zbi e.get ps = some l → evI e ps = l ∧ Zt e ps
 | [], l, h => by simp only [zbi, Option.some.injEq] at h; exact ⟨h, trivial⟩
 | (i, x) :: r, l, h => by
  unfold zbi at h
  split at h <;> try (cases h; done)
  rename_i a ha
  split at h <;> simp only [Option.some.injEq, reduceCtorEq] at h
  rename_i l' hl
  obtain ⟨h1, h2⟩ := zc ha
  obtain ⟨h3, h4⟩ := z0i hl
  exact ⟨by unfold evI; rw [h1, h3]; exact h, h2, h4⟩
theorem Jv : ∀ {rows : List (List AVal)}, V6 rows = true → ∀ r ∈ rows, ∃ m, r = [.int .u8 m]
 | [], _, r, hr => by cases hr
 | x :: rows, h, r, hr => by
  unfold V6 at h
  split at h
  ·cases ‹_ :: _ = []›
  ·rename_i k m r' heq
   simp only [List.cons.injEq] at heq
   obtain ⟨rfl, rfl⟩ := heq
   simp only [Bool.and_eq_true, kx] at h
   obtain ⟨rfl, h2⟩ := h
   cases hr with
   | head => exact ⟨m, rfl⟩
   | tail _ hr => exact Jv h2 r hr
  ·cases h
theorem zaq {s bytes : Nat} {x v : AVal} {rows2 : List (List AVal)} (hs : StR D H n S) (h : ze8 s bytes S x rows2 = some (v, S')) : z73 s bytes H n (KS D v S') x rows2 := by
 unfold ze8 at h
 unfold z73
 split at h
 ·simp only
  split at h
  ·simp only [Option.some.injEq, Prod.mk.injEq] at h
   obtain ⟨rfl, rfl⟩ := h
   exact ⟨fun _ => ⟨rfl, hs⟩, fun hne => absurd rfl hne⟩
  ·rename_i hne
   split at h <;> try (cases h; done)
   rename_i hb
   obtain ⟨rfl, hw⟩ := yt h
   refine ⟨fun he => absurd he hne, fun _ => ⟨yi.1 hb, by rw [hs.n], hs.new hw⟩⟩
 ·simp only
  split at h <;> try (cases h; done)
  rename_i he
  refine ⟨zn.1 he, ?_⟩
  split at h
  ·simp only [Option.some.injEq, Prod.mk.injEq] at h
   obtain ⟨rfl, rfl⟩ := h
   exact ⟨fun _ => ⟨rfl, hs⟩, fun hne => absurd rfl hne⟩
  ·rename_i hne
   split at h <;> try (cases h; done)
   rename_i hb
   simp only [Bool.and_eq_true, yi] at hb
   obtain ⟨rfl, hw⟩ := yt h
   exact ⟨fun he => absurd he hne, fun _ => ⟨hb.1, hb.2, by rw [hs.n], hs.new hw⟩⟩
 ·simp only
  split at h <;> try (cases h; done)
  rename_i hg
  rw [hs.h _ _ hg]
  simp only
  split at h <;> try (cases h; done)
  rename_i hb
  simp only [Bool.and_eq_true, zn, yi, and_assoc] at hb
  obtain ⟨b1, b2, b3, b4⟩ := hb
  refine ⟨b1, b2, b3, ?_⟩
  split at h
  ·simp only [Option.some.injEq, Prod.mk.injEq] at h
   obtain ⟨rfl, rfl⟩ := h
   exact ⟨fun _ _ => ⟨rfl, hs⟩, fun hne => absurd rfl (hne rfl)⟩
  ·rename_i hne
   obtain ⟨rfl, hw⟩ := yt h
   refine ⟨fun _ he => absurd he hne, fun _ => ⟨b4, by rw [hs.n], ?_⟩⟩
   rw [if_pos rfl]
   exact hs.new hw
  ·split at h <;> try (cases h; done)
   rename_i S1 hc
   obtain ⟨rfl, hw⟩ := yt h
   have h1 := hs.cut hg hc
   refine ⟨fun he => (by cases he), fun _ => ⟨b4, by rw [h1.n], ?_⟩⟩
   rw [if_neg (by simp)]
   exact h1.new hw
 ·cases h
theorem z3v {C : Nat → List AVal → Sh → Rs} (hC : Xl P C) {op : LOp} {v : AVal} (hs : StR D H n S) (h : zdp C e.get S op = some (v, S')) : yz P e H n (KS D v S') op := by
 have hn := hs.n
 unfold zdp at h
 split at h
 ·obtain ⟨rfl, hw⟩ := yt h; exact ⟨by rw [hn], hs.new hw⟩
 ·obtain ⟨rfl, hw⟩ := yt h; exact ⟨by rw [hn], hs.new hw⟩
 ·obtain ⟨rfl, hw⟩ := yt h; rw [← hn] at hw; exact ⟨by rw [hn], hs.new2 hw⟩
 ·split at h <;> try (cases h; done)
  rename_i a ha
  split at h <;> try (cases h; done)
  rename_i cs hc
  obtain ⟨h1, h2⟩ := zc ha
  obtain ⟨rfl, hw⟩ := yt h
  simp only [yz, h1, hc]
  exact ⟨h2, by rw [hn], hs.new hw⟩
 ·split at h <;> try (cases h; done)
  rename_i ps hps
  split at h <;> try (cases h; done)
  rename_i rows hr
  split at h <;> try (cases h; done)
  rename_i hz
  obtain ⟨rfl, hw⟩ := yt h
  obtain ⟨h1, h2⟩ := z0i hps
  obtain ⟨p, h3, h4⟩ := Zu hr
  simp only [yz, h1, h3]
  exact ⟨zn.1 hz, h2, h4, _, .inr rfl, by rw [hn], hs.new hw⟩
 ·split at h <;> try (cases h; done)
  rename_i ps hps
  split at h <;> try (cases h; done)
  rename_i rows hr
  split at h <;> try (cases h; done)
  rename_i rows' him
  split at h <;> try (cases h; done)
  rename_i hz
  simp only [Option.some.injEq, Prod.mk.injEq] at h
  obtain ⟨rfl, rfl⟩ := h
  obtain ⟨h1, h2⟩ := z0i hps
  obtain ⟨p, h3, h4⟩ := Zu hr
  simp only [yz, h1, h3, him]
  exact ⟨zn.1 hz, h2, h4, rfl, hs⟩
 ·split at h <;> try (cases h; done)
  rename_i b i off ha
  split at h <;> try (cases h; done)
  rename_i y hy
  split at h <;> try (cases h; done)
  rename_i cs hc
  obtain ⟨h1, h2⟩ := zc ha
  obtain ⟨h3, h4⟩ := zc hy
  simp only [yz, h1, h3, hc]
  split at h <;> try (cases h; done)
  ·rename_i hg
   split at h <;> try (cases h; done)
   rename_i hb
   simp only [Bool.and_eq_true, zn, yi, and_assoc] at hb
   obtain ⟨rfl, hw⟩ := yt h
   have hg' := hs.h _ _ hg
   simp only [hg']
   exact ⟨h2, h4, hb.1, hb.2.1, hb.2.2, rfl, hs.upd hg hw⟩
  ·rename_i hg
   split at h <;> try (cases h; done)
   rename_i hb
   simp only [Bool.and_eq_true, zn, yi, and_assoc] at hb
   obtain ⟨rfl, hw⟩ := yt h
   have hg' := hs.h _ _ hg
   simp only [hg']
   exact ⟨h2, h4, hb.1, hb.2.1, hb.2.2, rfl, hs.upd hg hw⟩
 ·split at h <;> try (cases h; done)
  rename_i l ha
  obtain ⟨h1, h2⟩ := zc ha
  obtain ⟨rfl, hw⟩ := yt h
  simp only [yz, h1]
  exact ⟨h2, by rw [hn], hs.new hw⟩
 ·split at h <;> try (cases h; done)
  rename_i a ha hne
  split at h <;> try (cases h; done)
  rename_i rows hr
  replace hr := vl hs.le hr
  split at h <;> simp only [Option.some.injEq, Prod.mk.injEq, reduceCtorEq] at h
  rename_i hb
  obtain ⟨rfl, rfl⟩ := h
  obtain ⟨h1, h2⟩ := zc hne
  obtain ⟨p, h3, h4⟩ := Y6 hr
  simp only [yz, h1, h3]
  refine ⟨h2, fun l hl => ?_, h4, Jv hb, rfl, hs⟩
  subst hl
  exact ha l rfl
 ·split at h <;> try (cases h; done)
  rename_i l' c' hl hc
  split at h <;> try (cases h; done)
  rename_i hb
  simp only [Bool.and_eq_true, xc, and_assoc] at hb
  obtain ⟨h1, h2⟩ := zc hl
  obtain ⟨h3, h4⟩ := zc hc
  obtain ⟨rfl, hw⟩ := yt h
  simp only [yz, h1, h3]
  exact ⟨h2, h4, hb.1, hb.2.1, hb.2.2, _, .inl rfl, by rw [hn], hs.new hw⟩
 ·split at h <;> try (cases h; done)
  rename_i as ha
  obtain ⟨h1, h2⟩ := kl ha
  simp only [yz, h1]
  exact ⟨h2, hC _ _ _ _ _ h H n hs⟩
 ·split at h <;> try (cases h; done)
  rename_i f first caps hx
  split at h <;> try (cases h; done)
  rename_i as ha
  obtain ⟨h1, h2⟩ := zc hx
  obtain ⟨h3, h4⟩ := kl ha
  simp only [yz, h1, h3]
  exact ⟨h2, h4, hC _ _ _ _ _ h H n hs⟩
 ·split at h <;> try (cases h; done)
  rename_i b hb
  split at h <;> try (cases h; done)
  rename_i rows2 hr
  replace hr := vl hs.le hr
  split at h <;> try (cases h; done)
  rename_i a ha
  obtain ⟨h1, h2⟩ := zc hb
  obtain ⟨h3, h4⟩ := zc ha
  obtain ⟨p, h5, h6⟩ := Y6 hr
  simp only [yz, h1, h3, h5]
  exact ⟨h4, h2, h6, zaq hs h⟩
 ·split at h <;> try (cases h; done)
  rename_i b s' off len f hx
  split at h <;> try (cases h; done)
  rename_i y hy
  split at h <;> try (cases h; done)
  rename_i rows2 hr
  split at h <;> try (cases h; done)
  rename_i s'' es hg
  split at h <;> try (cases h; done)
  rename_i hb
  replace hr := vl hs.le hr
  simp only [Bool.and_eq_true, zn, yi, and_assoc] at hb
  obtain ⟨h1, h2⟩ := zc hx
  obtain ⟨h3, h4⟩ := zc hy
  obtain ⟨p, h5, h6⟩ := Y6 hr
  obtain ⟨rfl, hw⟩ := yt h
  have hg' := hs.h _ _ hg
  simp only [yz, h1, h3, h5, hg']
  exact ⟨h2, h4, h6, hb.1, hb.2.1, hb.2.2, rfl, hs.upd hg hw⟩
 ·obtain ⟨rfl, hw⟩ := yt h; exact ⟨by rw [hn], hs.new hw⟩
 ·split at h <;> try (cases h; done)
  rename_i b hm
  split at h <;> try (cases h; done)
  rename_i x hx
  split at h <;> try (cases h; done)
  rename_i y hy
  split at h <;> try (cases h; done)
  rename_i es hg
  split at h <;> try (cases h; done)
  rename_i k hk
  split at h <;> try (cases h; done)
  rename_i es' he
  split at h <;> try (cases h; done)
  rename_i ho
  obtain ⟨h1, h2⟩ := zc hm
  obtain ⟨h3, h4⟩ := zc hx
  obtain ⟨h5, h6⟩ := zc hk
  obtain ⟨rfl, hw⟩ := yt h
  have hg' := hs.h _ _ hg
  simp only [yz, h1, h3, hy, h5, hg', z15 he]
  exact ⟨h2, h6, h4, Zi ho, rfl, hs.upd hg hw⟩
 ·split at h <;> try (cases h; done)
  rename_i b hm
  split at h <;> try (cases h; done)
  rename_i es hg
  split at h <;> try (cases h; done)
  rename_i k hk
  split at h <;> try (cases h; done)
  rename_i es' he
  split at h <;> try (cases h; done)
  rename_i ho
  obtain ⟨h1, h2⟩ := zc hm
  obtain ⟨h5, h6⟩ := zc hk
  obtain ⟨rfl, hw⟩ := yt h
  have hg' := hs.h _ _ hg
  simp only [yz, h1, h5, hg', Uc he]
  exact ⟨h2, h6, Zi ho, rfl, hs.upd hg hw⟩
 ·cases h
theorem K7 {lo : LOper} {v : AVal} (h : u4 e.get H.get lo = some v) : (wq e H lo).gives v := by
 unfold u4 at h
 unfold wq
 cases hg : lo.guard with
 | none =>
  rw [hg] at h
  obtain ⟨s, h1, h2⟩ := Q1 h
  simp only [h1]
  exact ⟨h2, .inl rfl⟩
 | some g =>
  obtain ⟨q, want⟩ := g
  rw [hg] at h
  simp only [Vv] at h ⊢
  split at h
  ·rename_i hp
   simp only [hp]
   split at h <;> simp only [Option.some.injEq, reduceCtorEq] at h
   rename_i u hu
   subst h
   obtain ⟨s, h1, h2⟩ := Q1 hu
   rw [h1]
   exact ⟨fun _ => h2, .inl rfl⟩
  ·rename_i hp
   simp only [hp]
   simp only [Option.some.injEq] at h
   subst h
   cases y7 e H lo.op with
   | ok s u => exact ⟨fun h => (by cases h), .inr (.inl ⟨.inr ⟨_, rfl⟩, .inl rfl⟩)⟩
   | bad => exact ⟨trivial, .inl rfl⟩
  ·cases h
theorem z18 {C : Nat → List AVal → Sh → Rs} (hC : Xl P C) {lo : LOper} {v : AVal} (hs : StR D H n S) (h : z8w C e.get S lo = some (v, S')) : Yv P e H n (KS D v S') lo := by
 unfold z8w at h
 unfold Yv
 cases hg : lo.guard with
 | none =>
  rw [hg] at h
  exact z3v hC hs h
 | some g =>
  obtain ⟨q, want⟩ := g
  rw [hg] at h
  simp only [Vv] at h ⊢
  split at h
  ·rename_i hp
   simp only [hp]
   exact .inr ⟨fun _ => z3v hC hs h, fun h => by cases h⟩
  ·rename_i hp
   simp only [hp]
   simp only [Option.some.injEq, Prod.mk.injEq] at h
   obtain ⟨rfl, rfl⟩ := h
   exact .inr ⟨fun h => (by cases h), fun _ => ⟨_, .inl rfl, rfl, hs⟩⟩
  ·cases h
def EnR (e : Env) (E : Ev) : Prop := ∀ t, e.get t = E.g t
theorem EnR.get {E : Ev} (h : EnR e E) : E.g = e.get := funext fun t => (h t).symm
theorem EnR.put {E E' : Ev} {d : Option Nat} {v : AVal} (h : EnR e E) (hp : E.p d v = some E') : EnR (e.put d v) E' := by
 cases d with
 | none => simp only [Ev.p, Option.some.injEq] at hp; subst hp; exact h
 | some d =>
  simp only [Ev.p] at hp
  have hg := Tr.put_get _ _ _ _ _ hp
  intro t
  unfold Ev.g
  rw [hg]
  by_cases hd : t = d
  ·subst hd; rw [if_pos rfl, Env.get_put_same]
  ·rw [if_neg hd, Env.get_put_other _ _ (fun he => hd he.symm)]; exact h t
theorem z0m {lo : LOper} {v : AVal} (h : u4 e.get H.get lo = some v) : ∀ {K : Env → Prop}, K (e.put lo.dst v) →
 match lo.guard with
 | none => (match y7 e H lo.op with | .ok side u => side ∧ K (e.put lo.dst u) | .bad => False)
 | some (g, want) => match x5 (e.get g) want with
  | some p => (match y7 e H lo.op with
   | .ok side v => (∃ u, (p = true → side ∧ v = u) ∧ K (e.put lo.dst (.cnd p u))) ∨ (p = false ∧ K (e.put lo.dst (.tup [])))
   | .bad => p = false ∧ K (e.put lo.dst (.tup [])))
  | none => False := by
 intro K hK
 unfold u4 at h
 cases hg : lo.guard with
 | none =>
  rw [hg] at h
  obtain ⟨s, h1, h2⟩ := Q1 h
  simp only [h1]
  exact ⟨h2, hK⟩
 | some g =>
  obtain ⟨q, want⟩ := g
  rw [hg] at h
  simp only [Vv] at h ⊢
  split at h
  ·rename_i hp
   simp only [hp]
   split at h <;> simp only [Option.some.injEq, reduceCtorEq] at h
   rename_i u hu
   subst h
   obtain ⟨s, h1, h2⟩ := Q1 hu
   simp only [h1]
   exact .inl ⟨_, fun _ => ⟨h2, rfl⟩, hK⟩
  ·rename_i hp
   simp only [hp]
   simp only [Option.some.injEq] at h
   subst h
   cases y7 e H lo.op with
   | ok s u => exact .inr ⟨trivial, hK⟩
   | bad => exact ⟨trivial, hK⟩
  ·cases h
theorem Yh {p : Bool} {H : AHeap} {n : Nat} {E : (AVal → AHeap → Nat → Prop) → Prop} {K K' : AVal → AHeap → Nat → Prop} (hE : ∀ {K K'}, E K → (∀ r H n, K r H n → K' r H n) → E K') (h : Ye p H n E K) (hk : ∀ r H n, K r H n → K' r H n) : Ye p H n E K' := by
 rcases h with ⟨R, h1, h2⟩ | ⟨h1, h2⟩
 ·exact .inl ⟨R, h1, hk _ _ _ h2⟩
 ·exact .inr ⟨fun h => hE (h1 h) hk, fun h => by obtain ⟨u, a, b⟩ := h2 h; exact ⟨u, a, hk _ _ _ b⟩⟩
theorem Wb {C : Nat → List AVal → Sh → Rs} (hC : Xl P C) {Q : Env → AHeap → Nat → Prop} {E' : Ev} {S' : Sh} (hQ : ∀ e H n, EnR e E' → StR D H n S' → Q e H n) : ∀ {os : List LOper} {E : Ev} {S : Sh} {e : Env} {H : AHeap} {n : Nat}, z9u C os E S = some (E', S') → EnR e E → StR D H n S → vo P os Q e H n
 | [], E, S, e, H, n, h, hE, hs => by
  simp only [z9u, Option.some.injEq, Prod.mk.injEq] at h
  obtain ⟨rfl, rfl⟩ := h
  exact hQ _ _ _ hE hs
 | lo :: os, E, S, e, H, n, h, hE, hs => by
  unfold z9u at h
  split at h
  ·rename_i hp
   split at h <;> try (cases h; done)
   rename_i v hv
   split at h <;> try (cases h; done)
   rename_i E1 hE1
   rw [hE.get] at hv
   replace hv := uq hs.le hv
   have ih := Wb hC hQ h (hE.put hE1) hs
   have := z0m (K := fun e => vo P os Q e H n) hv ih
   obtain ⟨d, op, g⟩ := lo
   cases g with
   | none => simp only [vo, hp]; exact this
   | some g =>
    obtain ⟨g, want⟩ := g
    simp only [vo]
    simp only at this
    cases hgp : x5 (e.get g) want with
    | none => rw [hgp] at this; exact this
    | some p =>
     rw [hgp] at this
     simp only [hp]
     exact this
  ·rename_i hp
   split at h <;> try (cases h; done)
   rename_i v S1 hv
   split at h <;> try (cases h; done)
   rename_i E1 hE1
   rw [hE.get] at hv
   have heff := z18 hC hs hv
   have key : ∀ r H' n', KS D v S1 r H' n' → vo P os Q (e.put lo.dst r) H' n' := by
    rintro r H' n' ⟨rfl, hs'⟩
    exact Wb hC hQ h (hE.put hE1) hs'
   obtain ⟨d, op, g⟩ := lo
   cases g with
   | none => simp only [vo, hp]; exact wl key heff
   | some g =>
    obtain ⟨g, want⟩ := g
    simp only [vo]
    unfold Yv at heff
    simp only at heff
    cases hgp : x5 (e.get g) want with
    | none => rw [hgp] at heff; exact heff
    | some p =>
     rw [hgp] at heff
     simp only [hp]
     exact Yh (fun h hk => wl hk h) heff key
mutual
theorem z0d (x y : AVal) (h : zcm x y = true) : x = y := by
 unfold zcm at h
 split at h
 ·simp only [beq_iff_eq] at h; rw [h]
 ·simp only [Bool.and_eq_true, kx, decide_eq_true_eq] at h; rw [h.1, h.2]
 ·simp only [beq_iff_eq] at h; rw [h]
 ·simp only [Bool.and_eq_true, zn] at h
  obtain ⟨⟨⟨h1, h2⟩, rfl⟩, rfl⟩ := h
  congr 1
  exact Prod.ext h1 h2
 ·simp only [Bool.and_eq_true, zn, beq_iff_eq] at h
  obtain ⟨⟨⟨⟨⟨h1, h2⟩, rfl⟩, rfl⟩, rfl⟩, rfl⟩ := h
  congr 1
  exact Prod.ext h1 h2
 ·simp only [Bool.and_eq_true, zn] at h
  congr 1
  exact Prod.ext h.1 h.2
 ·rw [Ww _ _ h]
 ·rw [Ww _ _ h]
 ·rfl
 ·rfl
 ·rfl
 ·rfl
 ·simp only [Bool.and_eq_true, beq_iff_eq] at h
  rw [h.1, z0d _ _ h.2]
 ·simp only [Bool.and_eq_true, zn, beq_iff_eq] at h
  rw [h.1, h.2]
 ·cases h
termination_by SizeOf.sizeOf x
theorem Ww (xs ys : List AVal) (h : z61 xs ys = true) : xs = ys := by
 unfold z61 at h
 split at h
 ·rfl
 ·simp only [Bool.and_eq_true] at h
  rw [z0d _ _ h.1, Ww _ _ h.2]
 ·cases h
termination_by SizeOf.sizeOf xs
end
theorem z8l {lo : LOper} {E : Ev} (h : EnR e E) : lo.bsees E = lo.sees e := by
 unfold LOper.bsees LOper.sees
 apply List.map_congr_left
 intro t _
 rw [h t]
theorem Ve {loose : List Nat} : ∀ {done : List (Nat × LOper × Env × AVal)}, X5 H.get loose done = true → ∀ x ∈ done, x.1 ∈ loose → (wq x.2.2.1 H x.2.1).gives x.2.2.2
 | [], _, x, hx, _ => by cases hx
 | (p, lo, e, v) :: r, h, x, hx, hl => by
  unfold X5 at h
  simp only [Bool.and_eq_true] at h
  cases hx with
  | tail _ hx => exact Ve h.2 x hx hl
  | head =>
   have h1 := h.1
   rw [List.contains_iff_mem.2 hl] at h1
   simp only at h1
   split at h1 <;> try (cases h1; done)
   rename_i u hu
   have := K7 hu
   rw [z0d _ _ h1] at this
   exact this
theorem z6l {lo : LOper} {K K' : AVal → AHeap → Nat → Prop} (h : Yv P e H n K lo) (hk : ∀ r H n, K r H n → K' r H n) : Yv P e H n K' lo := by
 unfold Yv at h ⊢
 cases hg : lo.guard with
 | none => rw [hg] at h; exact wl hk h
 | some g =>
  obtain ⟨q, want⟩ := g
  rw [hg] at h
  simp only at h ⊢
  cases hp : x5 (e.get q) want with
  | none => rw [hp] at h; exact h.elim
  | some p =>
   rw [hp] at h
   exact Yh (fun h hk => wl hk h) h hk
theorem Q7 {C : Nat → List AVal → Sh → Rs} (hC : Xl P C) {Q : Env → AHeap → Nat → Prop} {E' : Ev} {S' : Sh} (hQ : ∀ e H n, EnR e E' → StR D H n S' → Q e H n) : ∀ {items : List DItem} {p : Nat} {done : List (Nat × LOper × Env × AVal)} {E : Ev} {S : Sh} {e : Env} {H : AHeap} {n : Nat}, Uk C items p done E S = some (E', S') → EnR e E → StR D H n S → xd P items p done Q e H n
 | [], p, done, E, S, e, H, n, h, hE, hs => by
  simp only [Uk, Option.some.injEq, Prod.mk.injEq] at h
  obtain ⟨rfl, rfl⟩ := h
  exact hQ _ _ _ hE hs
 | it :: rest, p, done, E, S, e, H, n, h, hE, hs => by
  unfold Uk at h
  unfold xd
  rw [z8l hE] at h
  split at h
  ·rename_i hp
   simp only [hp]
   split at h <;> try (cases h; done)
   rename_i v hv
   split at h <;> try (cases h; done)
   rename_i E1 hE1
   replace hv := uq hs.le hv
   exact ⟨v, K7 hv, Q7 hC hQ h (hE.put hE1) hs⟩
  ·rename_i hp
   simp only [hp]
   split at h <;> try (cases h; done)
   rename_i v S1 hv
   split at h <;> try (cases h; done)
   rename_i hl
   split at h <;> try (cases h; done)
   rename_i E1 hE1
   refine z6l (z18 hC hs hv) ?_
   rintro r H' n' ⟨rfl, hs'⟩
   replace hl := Qo hs'.le hl
   exact ⟨Ve hl, Q7 hC hQ h (hE.put hE1) hs'⟩
theorem ug {Q : Env → AHeap → Nat → Prop} : ∀ {os : List LOper} {e : Env} {H : AHeap} {n : Nat}, (∀ lo ∈ os, yh lo.op = true) → vo P os Q e H n → xqs os Q e H n
 | [], e, H, n, _, h => h
 | ⟨d, op, none⟩ :: os, e, H, n, hp, h => by
  have h0 : yh op = true := hp _ (List.mem_cons_self ..)
  simp only [vo, h0] at h
  simp only [xqs]
  split at h <;> try (exact h.elim)
  exact ⟨h.1, ug (fun lo hl => hp lo (List.mem_cons_of_mem _ hl)) h.2⟩
 | ⟨d, op, some (g, want)⟩ :: os, e, H, n, hp, h => by
  have h0 : yh op = true := hp _ (List.mem_cons_self ..)
  simp only [vo, h0] at h
  simp only [xqs]
  split at h <;> try (exact h.elim)
  have ih : ∀ {e}, vo P os Q e H n → xqs os Q e H n := fun h => ug (fun lo hl => hp lo (List.mem_cons_of_mem _ hl)) h
  split at h
  ·rcases h with ⟨u, h1, h2⟩ | ⟨h1, h2⟩
   ·exact .inl ⟨u, h1, ih h2⟩
   ·exact .inr ⟨h1, ih h2⟩
  ·exact ⟨h.1, ih h.2⟩
abbrev KX (D : Id → Option ABlock) (x : Exit × Ev × Sh) : Exit → Env → AHeap → Nat → Prop := fun ex e H n => ex = x.1 ∧ EnR e x.2.1 ∧ StR D H n x.2.2
def wh (P : Program) (n : Nat) : LCode → Prop
 | .seq a b => wh P n a ∧ wh P n b
 | .cond _ a b => wh P n a ∧ wh P n b
 | .block _ c => wh P n c
 | .loop c => wh P n c
 | .rng _ ps a b => (ps.all fun p => Nat.blt p n) = true ∧ wh P n a ∧ wh P n b
 | .dfr f _ => z00 P f
 | _ => True
def jx (l : List Nat) (n : Nat) : LCode → Bool
 | .seq a b => jx l n a && jx l n b
 | .cond _ a b => jx l n a && jx l n b
 | .block _ c => jx l n c
 | .loop c => jx l n c
 | .rng _ ps a b => (ps.all fun p => Nat.blt p n) && (jx l n a && jx l n b)
 | .dfr f _ => l.any fun i => Nat.beq i f
 | _ => true
theorem xb {P : Program} {l : List Nat} {n : Nat} (hl : ∀ f ∈ l, z00 P f) : ∀ {c : LCode}, jx l n c = true → wh P n c
 | .skip, _ | .region _, _ | .quiet _, _ | .draw _, _ | .draw2 _ _ _, _ | .exit _, _ | .ret, _ => trivial
 | .seq a b, h => by
  simp only [jx, Bool.and_eq_true] at h
  exact ⟨xb hl h.1, xb hl h.2⟩
 | .cond _ a b, h => by
  simp only [jx, Bool.and_eq_true] at h
  exact ⟨xb hl h.1, xb hl h.2⟩
 | .rng _ ps a b, h => by
  simp only [jx, Bool.and_eq_true] at h
  exact ⟨h.1, xb hl h.2.1, xb hl h.2.2⟩
 | .block _ c, h => xb (c := c) hl h
 | .loop c, h => xb (c := c) hl h
 | .dfr f _, h => by
  simp only [jx, List.any_eq_true] at h
  obtain ⟨i, h1, h2⟩ := h
  exact hl f (Nat.eq_of_beq_eq_true h2 ▸ h1)
def z12 (P : Program) (L : LCode → Ev → Sh → Cs) : Prop :=
 ∀ c E S x, L c E S = some x → ∀ {D : Id → Option ABlock} (N : Lay) (n0 : Nat) e H n, wh P N.n c → EnR e E → StR D H n S → LWp P N n0 (.loop c) (KX D x) e H n
def Jn (P : Program) (B : Nat → Option (Bool × Nat)) : Prop :=
 ∀ f ag s, B f = some (ag, s) → ∃ bm fn, ky P bm f = some fn ∧ Jm P f ∧ 2 ≤ fn.lay.n ∧ fn.body = Z4 ag s ∧ fn.res = []
def u9 (e : Env) : Env := e.map fun x => (x.1, e.get x.1)
theorem z2k (e : Env) (t : Nat) : (u9 e).get t = e.get t := by
 have : ∀ (l : Env), Env.get (l.map fun x => (x.1, e.get x.1)) t = if (∃ y ∈ l, y.1 = t) then e.get t else .any := by
  intro l
  induction l with
  | nil => simp [Env.get]
  | cons y r ih =>
   simp only [List.map_cons, Env.get]
   by_cases hy : y.1 = t
   ·rw [if_pos hy, if_pos ⟨y, List.mem_cons_self .., hy⟩, hy]
   ·rw [if_neg hy, ih]
    by_cases hr : ∃ z ∈ r, z.1 = t
    ·obtain ⟨z, hz, hzt⟩ := hr
     rw [if_pos ⟨z, hz, hzt⟩, if_pos ⟨z, List.mem_cons_of_mem _ hz, hzt⟩]
    ·rw [if_neg hr, if_neg]
     rintro ⟨z, hz, hzt⟩
     rcases List.mem_cons.1 hz with rfl | hz
     ·exact hy hzt
     ·exact hr ⟨z, hz, hzt⟩
 unfold u9
 rw [this]
 split
 ·rfl
 ·rename_i hn
  have : ∀ (l : Env), (¬ ∃ y ∈ l, y.1 = t) → Env.get l t = .any := by
   intro l
   induction l with
   | nil => intro _; rfl
   | cons y r ih =>
    intro h
    simp only [Env.get]
    rw [if_neg (fun hy => h ⟨y, List.mem_cons_self .., hy⟩)]
    exact ih fun ⟨z, hz, hzt⟩ => h ⟨z, List.mem_cons_of_mem _ hz, hzt⟩
  exact (this e hn).symm
theorem z3f (e : Env) : SubE (u9 e) e := by
 have : ∀ (l : Env), SubE (l.map fun x => (x.1, e.get x.1)) e := by
  intro l
  induction l with
  | nil => trivial
  | cons y r ih => exact ⟨rfl, ih⟩
 exact this e
theorem z4u : ∀ {ps : List Nat} {xs : List AVal} {e : Env} {E E' : Ev}, zbm ps xs E = some E' → EnR e E → EnR (z48 e ps xs) E' ∧ xs.length = ps.length
 | [], [], e, E, E', h, hE => by simp only [zbm, Option.some.injEq] at h; subst h; exact ⟨hE, rfl⟩
 | [], _ :: _, e, E, E', h, hE => by cases h
 | _ :: _, [], e, E, E', h, hE => by cases h
 | p :: ps, x :: xs, e, E, E', h, hE => by
  unfold zbm at h
  split at h <;> try (cases h; done)
  rename_i E1 h1
  obtain ⟨g1, g2⟩ := z4u h (hE.put h1)
  exact ⟨g1, by simp [g2]⟩
theorem Z8 {x : AVal} (h : Vj x = true) : x.plain := by
 cases x with
 | cnd p y => cases h
 | _ => exact ⟨rfl, trivial⟩
def Zd (D : Id → Option ABlock) (k : Id) (b : ABlock) (id : Id) : Option ABlock := if id = k then some b else D id
theorem StR.hide (h : StR D H n S) {b : ABlock} (h0 : S.t.at (S.n, 0) = none) : StR (Zd D (n, 0) b) (((n, 0), b) :: H) (n + 1) ⟨S.t, S.n + 1⟩ := by
 refine ⟨by simp [h.n], fun id c hc => ?_, fun id c hc => ?_⟩
 ·simp only at hc
  have hj : (n, 0) ≠ id := fun e => by subst e; rw [h.n, h0] at hc; cases hc
  rw [AHeap.get_cons_other _ _ hj]; exact h.h _ _ hc
 ·unfold Zd at hc
  split at hc
  ·rename_i hk; subst hk; cases hc
   exact ⟨AHeap.get_cons_same _ _ _, by simp only; rw [h.n]; exact h0, Nat.lt_succ_self _⟩
  ·rename_i hk
   obtain ⟨g1, g2, g3⟩ := h.d id c hc
   exact ⟨by rw [AHeap.get_cons_other _ _ (fun e => hk e.symm)]; exact g1, g2, by omega⟩
theorem StR.hidden {k : Id} {b : ABlock} (h : StR (Zd D k b) H n S) : H.get k = some b := (h.d k b (by simp [Zd])).1
theorem StR.turn {k : Id} {b b' : ABlock} (h : StR (Zd D k b) H n S) : StR (Zd D k b') (H.set k b') n S := by
 have hk := h.hidden
 refine ⟨h.n, fun id c hc => ?_, fun id c hc => ?_⟩
 ·have hj : k ≠ id := fun e => by subst e; rw [(h.d k b (by simp [Zd])).2.1] at hc; cases hc
  rw [AHeap.get_set, if_neg hj]; exact h.h _ _ hc
 ·unfold Zd at hc
  split at hc
  ·rename_i he; subst he; cases hc
   obtain ⟨_, g2, g3⟩ := h.d id b (by simp [Zd])
   exact ⟨by rw [AHeap.get_set, if_pos rfl, hk]; rfl, g2, g3⟩
  ·rename_i he
   obtain ⟨g1, g2, g3⟩ := h.d id c (by simp [Zd, he]; exact hc)
   exact ⟨by rw [AHeap.get_set, if_neg (fun e => he e.symm)]; exact g1, g2, g3⟩
theorem StR.unhide {k : Id} {b : ABlock} (h : StR (Zd D k b) H n S) (hk : D k = none) : StR D (H.del k) n S := by
 refine ⟨h.n, fun id c hc => ?_, fun id c hc => ?_⟩
 ·have hj : k ≠ id := fun e => by subst e; rw [(h.d k b (by simp [Zd])).2.1] at hc; cases hc
  rw [AHeap.get_del, if_neg hj]; exact h.h _ _ hc
 ·have hj : id ≠ k := fun e => by subst e; rw [hk] at hc; cases hc
  obtain ⟨g1, g2, g3⟩ := h.d id c (by simp [Zd, hj]; exact hc)
  exact ⟨by rw [AHeap.get_del, if_neg (fun e => hj e.symm)]; exact g1, g2, g3⟩
theorem Ut {o : Es} {x : Exit × Ev × Sh} (h : zbn o = some x) : ∃ E S, o = some (E, S) ∧ x = (.normal, E, S) := by
 cases o with
 | none => cases h
 | some y => obtain ⟨E, S⟩ := y; simp only [zbn, Option.some.injEq] at h; exact ⟨E, S, rfl, h.symm⟩
theorem qf {C : Nat → List AVal → Sh → Rs} {L : LCode → Ev → Sh → Cs} {B : Nat → Option (Bool × Nat)} (hC : Xl P C) (hL : z12 P L) (hB : Jn P B) : ∀ (lc : LCode) {D : Id → Option ABlock} (N : Lay) (n0 : Nat) {E : Ev} {S : Sh} {x : Exit × Ev × Sh} {e : Env} {H : AHeap} {n : Nat}, j4 C L B lc E S = some x → wh P N.n lc → EnR e E → StR D H n S → LWp P N n0 lc (KX D x) e H n
 | .skip, D, N, n0, E, S, x, e, H, n, h, hi, hE, hs => by
  simp only [j4, Option.some.injEq] at h
  subst h
  exact zk .skip _ e H n ⟨rfl, hE, hs⟩
 | .region ops, D, N, n0, E, S, x, e, H, n, h, hi, hE, hs => by
  obtain ⟨E1, S1, h1, rfl⟩ := Ut h
  refine zk (.region ops) _ e H n (Wb hC (fun e H n hE hs => ?_) h1 hE hs)
  exact ⟨rfl, hE, hs⟩
 | .quiet ops, D, N, n0, E, S, x, e, H, n, h, hi, hE, hs => by
  simp only [j4] at h
  split at h <;> try (cases h; done)
  rename_i hp
  obtain ⟨E1, S1, h1, rfl⟩ := Ut h
  refine zk (.quiet ops) _ e H n (ug (P := P) (fun lo hl => List.all_eq_true.1 hp lo hl) (Wb hC (fun e H n hE hs => ?_) h1 hE hs))
  exact ⟨rfl, hE, hs⟩
 | .draw items, D, N, n0, E, S, x, e, H, n, h, hi, hE, hs => by
  obtain ⟨E1, S1, h1, rfl⟩ := Ut h
  refine zk (.draw items) _ e H n (Q7 hC (fun e H n hE hs => ?_) h1 hE hs)
  exact ⟨rfl, hE, hs⟩
 | .draw2 a b items, D, N, n0, E, S, x, e, H, n, h, hi, hE, hs => by
  simp only [j4] at h
  split at h <;> try (cases h; done)
  rename_i E1 S1 h1
  split at h <;> try (cases h; done)
  rename_i ha
  simp only [Option.some.injEq] at h
  subst h
  refine zk (.draw2 a b items) _ e H n (Q7 hC (fun e H n hE hs => ⟨?_, rfl, hE, hs⟩) h1 hE hs)
  rw [hE.get] at ha
  unfold z93 at ha
  split at ha <;> try (cases ha; done)
  rename_i b1 i1 o1 c1 i2 o2 q1 q2
  rw [(zc q1).1, (zc q2).1]
  simp only [Ug]
  intro he
  rw [he] at ha
  simp at ha
 | .seq a b, D, N, n0, E, S, x, e, H, n, h, hi, hE, hs => by
  unfold j4 at h
  split at h
  ·rename_i E1 S1 h1
   refine wt ((qf hC hL hB a N n0 h1 hi.1 hE hs).mono ?_)
   rintro ex e' H' n' ⟨rfl, hE', hs'⟩
   exact qf hC hL hB b N n0 h hi.2 hE' hs'
  ·rename_i hne
   refine wt ((qf hC hL hB a N n0 h hi.1 hE hs).mono ?_)
   rintro ex e' H' n' ⟨rfl, hE', hs'⟩
   obtain ⟨ex, E1, S1⟩ := x
   cases ex with
   | normal => exact absurd h (hne _ _)
   | _ => exact ⟨rfl, hE', hs'⟩
 | .cond c a b, D, N, n0, E, S, x, e, H, n, h, hi, hE, hs => by
  unfold j4 at h
  rw [hE.get] at h
  split at h <;> try (cases h; done)
  ·rename_i hc
   obtain ⟨h1, h2⟩ := zc hc
   exact jt h1 h2 (fun _ => qf hC hL hB a N n0 h hi.1 hE hs) (fun h => by cases h)
  ·rename_i hc
   obtain ⟨h1, h2⟩ := zc hc
   exact jt h1 h2 (fun h => by cases h) (fun _ => qf hC hL hB b N n0 h hi.2 hE hs)
 | .block id c, D, N, n0, E, S, x, e, H, n, h, hi, hE, hs => by
  unfold j4 at h
  split at h
  ·rename_i i E1 S1 h1
   refine wn ((qf hC hL hB c N n0 h1 hi hE hs).mono ?_)
   rintro ex e' H' n' ⟨rfl, hE', hs'⟩
   simp only
   split at h
   ·rename_i hi
    rw [if_pos (zn.1 hi)]
    simp only [Option.some.injEq] at h
    subst h
    exact ⟨rfl, hE', hs'⟩
   ·rename_i hi
    rw [if_neg (Nat.ne_of_beq_eq_false hi)]
    simp only [Option.some.injEq] at h
    subst h
    exact ⟨rfl, hE', hs'⟩
  ·rename_i hne
   refine wn ((qf hC hL hB c N n0 h hi hE hs).mono ?_)
   rintro ex e' H' n' ⟨rfl, hE', hs'⟩
   obtain ⟨ex, E1, S1⟩ := x
   cases ex with
   | exit i => exact absurd h (hne _ _ _)
   | _ => exact ⟨rfl, hE', hs'⟩
 | .loop c, D, N, n0, E, S, x, e, H, n, h, hi, hE, hs => hL c E S x h N n0 e H n hi hE hs
 | .rng g ps a b, D, N, n0, E, S, x, e, H, n, h, hi, hE, hs => by
  unfold j4 at h
  rw [hE.get] at h
  split at h <;> try (cases h; done)
  rename_i gf bx hg
  split at h <;> try (cases h; done)
  rename_i ag s hBf
  split at h <;> try (cases h; done)
  rename_i sl hsl
  split at h <;> try (cases h; done)
  rename_i z hz
  split at h <;> try (cases h; done)
  rename_i hb h0
  simp only [Bool.and_eq_true, xc] at hb
  obtain ⟨bm, L', hL', hok, hn2, hbody, hres⟩ := hB gf ag s hBf
  obtain ⟨hg1, hg2⟩ := zc hg
  obtain ⟨hps, hia, hib⟩ := hi
  have hDn : D (n, 0) = none := by
   cases hd : D (n, 0) with
   | none => rfl
   | some c => exact absurd (hs.d _ _ hd).2.2 (Nat.lt_irrefl _)
  have hEc : EnR (u9 e) E := fun t => by rw [z2k]; exact hE t
  refine z7z (u9 e) hg1 hg2 (z3f e) (fun l r hR => ?_)
  have hst := hs.hide (b := .lrec l r (u9 e)) h0
  obtain ⟨k, hk⟩ : ∃ k : Nat, z = k := Int.eq_ofNat_of_zero_le hb.1.2
  subst hk
  refine z2q hL' hok hn2 hbody hres (K := fun H' n' => ∃ k e', (H'.get k = some (.lrec l r e') ∧ KX D x .normal e' (H'.del k) n') ∨ ∃ ex code, z6f ex = some code ∧ H'.get k = some (.lrec l (z74 r code) e') ∧ KX D x ex e' (H'.del k) n')
   (fun i H' n' => ∃ S', zc9 (j4 C L B a) (j4 C L B b) ps ag s bx E i S' = some x ∧ StR (Zd D (n, 0) (.lrec l r (u9 e))) H' n' S') ?_ ?_ (len := k) ⟨_, h, hst⟩ (by omega) (Z8 hb.1.1) (Ze (jb hst.le hsl)) (z1m hz)
  ·rintro i H' n' ⟨S', hr, hst'⟩
   unfold zc9 at hr
   split at hr <;> try (cases hr; done)
   rename_i sl' hsl'
   split at hr <;> try (cases hr; done)
   rename_i p hp
   split at hr <;> try (cases hr; done)
   rename_i el hel
   split at hr <;> try (cases hr; done)
   rename_i hpl
   split at hr <;> try (cases hr; done)
   rename_i e1 he1
   split at hr <;> try (cases hr; done)
   rename_i e2 S2 hA
   simp only [Bool.and_eq_true, yi] at hpl
   refine ⟨by omega, sl', p, el, Z8 hpl.1.1.1, Z8 hpl.1.1.2, Z8 hpl.1.2, Ze (jb hst'.le hsl'), Kc hp, Ze (jb hst'.le hel), ?_⟩
   obtain ⟨hEp, hlen⟩ := z4u he1 hEc
   refine z2r hR hst'.hidden hps hlen ?_
   refine (qf hC hL hB a (z72 N) n' hA hia hEp hst').mono ?_
   rintro ex e' H'' n'' ⟨rfl, hE', hs'⟩
   refine ⟨rfl, _, hs'.hidden, ?_⟩
   split at hr <;> try (cases hr; done)
   ·rename_i E3 S3 hRb
    refine (qf hC hL hB b (z72 N) n' hRb hib hE' (hs'.turn (b' := .lrec l (busy r) (u9 e)))).mono ?_
    rintro ex e3 H3 n3 ⟨rfl, hE3, hs3⟩
    exact .inr ⟨rfl, _, hs3.hidden, .inl ⟨rfl, S3, hr, hs3.turn⟩⟩
   ·rename_i E3 S3 hRb
    refine (qf hC hL hB b (z72 N) n' hRb hib hE' (hs'.turn (b' := .lrec l (busy r) (u9 e)))).mono ?_
    rintro ex e3 H3 n3 ⟨rfl, hE3, hs3⟩
    simp only [Option.some.injEq] at hr
    subst hr
    exact .inl ⟨_, rfl, _, hs3.hidden, .inr ⟨rfl, (n, 0), _, .inr ⟨.ret, _, rfl, (hs3.turn).hidden, rfl, hEc, (hs3.turn).unhide hDn⟩⟩⟩
   ·rename_i id E3 S3 hRb
    refine (qf hC hL hB b (z72 N) n' hRb hib hE' (hs'.turn (b' := .lrec l (busy r) (u9 e)))).mono ?_
    rintro ex e3 H3 n3 ⟨rfl, hE3, hs3⟩
    simp only [Option.some.injEq] at hr
    subst hr
    exact .inl ⟨_, rfl, _, hs3.hidden, .inr ⟨rfl, (n, 0), _, .inr ⟨.exit id, _, rfl, (hs3.turn).hidden, rfl, hEc, (hs3.turn).unhide hDn⟩⟩⟩
  ·rintro H' n' ⟨S', hr, hst'⟩
   simp only [zc9, Option.some.injEq] at hr
   subst hr
   exact ⟨(n, 0), _, .inl ⟨hst'.hidden, rfl, hEc, hst'.unhide hDn⟩⟩
 | .dfr f t, D, N, n0, E, S, x, e, H, n, h, hi, hE, hs => by
  simp only [j4] at h
  split at h <;> try (cases h; done)
  rename_i E1 h1
  simp only [Option.some.injEq] at h
  subst h
  exact zk (.dfr f t) _ e H n ⟨hi, rfl, hE.put h1, hs⟩
 | .exit id, D, N, n0, E, S, x, e, H, n, h, hi, hE, hs => by
  simp only [j4, Option.some.injEq] at h
  subst h
  exact zk (.exit id) _ e H n ⟨rfl, hE, hs⟩
 | .ret, D, N, n0, E, S, x, e, H, n, h, hi, hE, hs => by
  simp only [j4, Option.some.injEq] at h
  subst h
  exact zk .ret _ e H n ⟨rfl, hE, hs⟩
end Go.Fx
