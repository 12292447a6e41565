/-
  Own framework.
-/
import Derived.Test.YtkpgfihopaokgaaGreatDoorFxRg
import Derived.Test.YtkpgfihopaokgaaGreatDoorFxEw
namespace Go.Fx
set_option linter.unusedVariables false
variable {P : Program}
section
variable {N : Lay}
theorem z3h {ι : Type} {n0 : Nat} (pre : ι → Prop) (env : ι → Env) (L : ι → AHeap) (nn μ : ι → Nat) {Q : Exit → Env → AHeap → Nat → Prop} {body : LCode}
 (round : ∀ x, pre x → LWp P N n0 body (fun ex e H n => match ex with | .normal => ∃ y, pre y ∧ μ y < μ x ∧ env y = e ∧ L y = H ∧ nn y = n | ex => Q ex e H n) (env x) (L x) (nn x)) :
 ∀ x, pre x → LWp P N n0 (.loop body) Q (env x) (L x) (nn x) := by
 intro x0 hx0 c hc ro hro J0 γ0 G0 w0 I β w a hX hI hE hN hD QQ hQ
 cases c with
 | loop c =>
  simp only [zj, Option.map_eq_some_iff] at hc
  obtain ⟨b', hb, hc⟩ := hc
  simp only [LCode.loop.injEq] at hc
  subst hc
  let Inside : Nat → Act → World → Prop := fun m a w => ∃ x I β, μ x = m ∧ pre x ∧ Ext J0 γ0 n0 G0 w0 I β (nn x) (L x) w ∧ Inv I β (nn x) (L x) w ∧ RepEnv I β (nn x) w (env x) a ∧ a.tmps.size = N.n ∧ Dfr P w0.heap.size w a.defers
  let mu : Act → World → Nat := fun a w => by
   classical
   exact if h : ∃ m, Inside m a w then Classical.choose (wq _ h) else 0
  have mu_spec : ∀ a w, (∃ m, Inside m a w) → Inside (mu a w) a w ∧ ∀ k, k < mu a w → ¬ Inside k a w := by
   intro a w h
   have : mu a w = Classical.choose (wq _ h) := by simp only [mu]; rw [dif_pos h]
   rw [this]
   exact Classical.choose_spec (wq _ h)
  refine wpIn_loop (fun a w => ∃ m, Inside m a w) mu ⟨_, x0, I, β, rfl, hx0, hX, hI, hE, hN, hD⟩ ?_
  intro a w h
  obtain ⟨⟨x, I, β, hm, hp, k1, k2, k3, k4, k5⟩, _⟩ := mu_spec a w h
  refine round x hp c hb ro hro J0 γ0 G0 w0 I β w a k1 k2 k3 k4 k5 _ ?_
  intro ex e' H' n' I' β' w' a' g1 g2 g3 g4 g5 g6
  cases ex with
  | normal =>
   obtain ⟨y, hy, hlt, rfl, rfl, rfl⟩ := g1
   have hin : Inside (μ y) a' w' := ⟨y, _, _, rfl, hy, g6, g2, g3, g4, g5⟩
   refine ⟨⟨_, hin⟩, ?_⟩
   obtain ⟨_, hleast⟩ := mu_spec a' w' ⟨_, hin⟩
   have : ¬ μ y < mu a' w' := fun h => hleast _ h hin
   omega
  | _ => exact hQ _ _ _ _ _ _ _ _ g1 g2 g3 g4 g5 g6
 | skip => cases hc
 | region id ops draw => simp only [zj] at hc; split at hc <;> (try split at hc) <;> (try split at hc) <;> (try split at hc) <;> (try split at hc) <;> (first | (simp at hc; done) | (rcases ju hc with ⟨_, h⟩ | ⟨_, _, _, h⟩ <;> cases h))
 | seq a b => simp only [zj] at hc; split at hc <;> simp at hc
 | cond c a b => simp only [zj] at hc; split at hc <;> simp at hc
 | block id c => simp [zj] at hc
 | exit id => cases hc
 | ret => cases hc
 | rangeFunc g ps x y => simp only [zj] at hc; split at hc <;> simp at hc
 | _ => cases hc
end
def Qy (ag : Bool) (s : Nat) : LCode :=
 .seq (.region [⟨some 4, .load false 1 (.t 1), none⟩, ⟨some 5, .len false (.t 4), none⟩, ⟨some 6, .bin .sub (.t 5) (.c (.int .i64 1)), none⟩, ⟨some 3, .mv (.t 6), none⟩])
 (.block 0 (.loop (.seq
  (.seq (.region [⟨some 7, .mv (.t 3), none⟩, ⟨some 8, .bin .geq (.t 7) (.c (.int .i64 0)), none⟩]) (.cond (.t 8) .skip (.exit 0)))
  (.seq (.block 1 (.seq (.region [⟨some 11, .mv (.t 0), none⟩, ⟨some 12, .mv (.t 3), none⟩, ⟨some 13, .load false 1 (.t 1), none⟩, ⟨some 14, .mv (.t 3), none⟩, ⟨some 15, .iaddr s (.t 13) (.t 14), none⟩, ⟨some 16, .load ag s (.t 15), none⟩, ⟨some 17, .callv (.t 11) [.t 12, .t 16], none⟩, ⟨some 18, .un .not (.t 17), none⟩])
   (.cond (.t 18) .ret .skip)))
   (.region [⟨some 9, .mv (.t 3), none⟩, ⟨some 10, .bin .sub (.t 9) (.c (.int .i64 1)), none⟩, ⟨some 3, .mv (.t 10), none⟩])))))
def AVal.plain (x : AVal) : Prop := x.strip = x ∧ x.need
theorem zn2 {i : Nat} (h : i ≤ 4611686018427387904) : IntKind.i64.wrap ((i : Int) - 1) = (i : Int) - 1 := Wd (by omega) (by omega)
theorem X9 (k : IntKind) (z : Int) : (AVal.int k z).strip = .int k z := rfl
theorem z3d (b : Id) (i o : Nat) : (AVal.ptr b i o).strip = .ptr b i o := rfl
theorem zfo (f : Fn) (a c : List AVal) : (AVal.fn f a c).strip = .fn f a c := rfl
theorem kl (b : Bool) : (AVal.bool b).strip = .bool b := rfl
theorem Wb (k : IntKind) (z : Int) : (AVal.int k z).need = True := rfl
theorem z5o (b : Id) (i o : Nat) : (AVal.ptr b i o).need = True := rfl
theorem zid (f : Fn) (a c : List AVal) : (AVal.fn f a c).need = True := rfl
theorem Z0 (b : Bool) : (AVal.bool b).need = True := rfl
theorem z7e {f : FuncId} {bm : List Nat} {L : LFn} (hL : vu P bm f = some L) (hok : Qh P f) (hn : 2 ≤ L.lay.n) {ag : Bool} {s : Nat} (hb : L.body = Qy ag s) (hr : L.res = []) {l : Nat} {bx : Id} {K : AHeap → Nat → Prop} (G : Nat → AHeap → Nat → Prop)
 (hstep : ∀ i H n, G (i + 1) H n → i < 4611686018427387904 ∧ ∃ sl p el, sl.plain ∧ p.plain ∧ el.plain ∧ XOk (W7 false 1 H (.ptr bx 0 0)) sl ∧ XOk (Vv s sl.rd (.int .i64 (i : Int))) p ∧ XOk (W7 ag s H p) el ∧
  ACalls P (.yield l) [.int .i64 (i : Int), el] H n (fun v H' n' => (v = .bool true ∧ G i H' n') ∨ (v = .bool false ∧ K H' n')))
 (hend : ∀ H n, G 0 H n → K H n) {len : Nat} {H : AHeap} {n : Nat} (hG : G len H n) (hlen : len ≤ 4611686018427387904) {sl : AVal} (h1 : sl.plain) (h2 : XOk (W7 false 1 H (.ptr bx 0 0)) sl) (h3 : XOk (z4q sl.rd) (.int .i64 (len : Int))) :
 ACalls P (.func f) [.fn (.yield l) [] [], .ptr bx 0 0] H n (fun _ H' n' => K H' n') := by
 refine ACalls.ofFnW hL hok (by simpa using hn) ?_
 rw [hb, hr]
 unfold Qy
 refine Za (y3 (.region _) _ _ _ _ ?_)
 obtain ⟨s1, e1, d1⟩ := h2
 obtain ⟨s2, e2, d2⟩ := h3
 have h1a := h1.1
 have h1b := h1.2
 simp [Zv, Q6, xp, x8, LOpd.ev, LOpd.need, Env.get, Env.put, je, X9, z3d, Wb, z5o, e1, XR.and, h1a, h1b, e2, zcv, d1, d2]
 rw [zn2 hlen]
 refine uj ?_
 refine z3h (ι := Nat × Env × AHeap × Nat) (fun y => y.1 ≤ 4611686018427387904 ∧ G y.1 y.2.2.1 y.2.2.2 ∧ y.2.1.get 3 = .int .i64 ((y.1 : Int) - 1) ∧ y.2.1.get 0 = .fn (.yield l) [] [] ∧ y.2.1.get 1 = .ptr bx 0 0) (fun y => y.2.1) (fun y => y.2.2.1) (fun y => y.2.2.2) (fun y => y.1) ?_ (len, _, H, n) ⟨hlen, hG, by simp [Env.get], by simp [Env.get], by simp [Env.get]⟩
 rintro ⟨i, e, H, n⟩ ⟨hi, hG, q3, q0, q1⟩
 simp only at hi hG q3 q0 q1 ⊢
 refine Za (Za (y3 (.region _) _ _ _ _ ?_))
 simp [Zv, Q6, xp, x8, LOpd.ev, LOpd.need, Env.get, Env.put, X9, Wb, XR.and, zcv, q3]
 cases i with
 | zero =>
  refine ua (v := false) (by simp [LOpd.ev, Env.get, kl]) (by simp [LOpd.need, Env.get, Z0]) (fun h => by cases h) (fun _ => y3 (.exit 0) _ _ _ _ ?_)
  simp only [Q6, if_true]
  exact hend _ _ hG
 | succ i =>
  obtain ⟨hi2, sl, p, el, hsl, hp, hel, ⟨t1, k1, c1⟩, ⟨t2, k2, c2⟩, ⟨t3, k3, c3⟩, hcall⟩ := hstep _ _ _ hG
  refine ua (v := true) (by simp [LOpd.ev, Env.get, kl]; omega) (by simp [LOpd.need, Env.get, Z0]) (fun _ => y3 .skip _ _ _ _ ?_) (fun h => by cases h)
  simp only [Q6]
  have a1 := hsl.1
  have a2 := hsl.2
  have a3 := hp.1
  have a4 := hp.2
  have a5 := hel.1
  have a6 := hel.2
  have hcast : ((i + 1 : Nat) : Int) - 1 = (i : Int) := by omega
  rw [hcast] at q3 ⊢
  refine Za (uj (Za (y3 (.region _) _ _ _ _ ?_)))
  simp [Zv, Q6, xp, x8, jn, evs, Zq, LOpd.ev, LOpd.need, Env.get, Env.put, X9, Wb, z3d, z5o, zfo, zid, XR.and, q3, q0, q1, k1, c1, k2, c2, k3, c3, a1, a2, a3, a4, a5, a6]
  refine ACallsC.mono (f := .yield l) (first := []) (caps := []) ⟨rfl, by simpa using hcall⟩ ?_
  rintro v H' n' (⟨rfl, hG'⟩ | ⟨rfl, hK⟩)
  ·simp [kl, Z0, xun]
   refine ua (v := false) (by simp [LOpd.ev, Env.get, kl]) (by simp [LOpd.need, Env.get, Z0]) (fun h => by cases h) (fun _ => y3 .skip _ _ _ _ ?_)
   simp only [Q6]
   refine y3 (.region _) _ _ _ _ ?_
   simp [Zv, Q6, xp, x8, LOpd.ev, LOpd.need, Env.get, Env.put, X9, Wb, XR.and, zcv, q3]
   exact ⟨i, _, _, _, ⟨by omega, hG', by simp [Env.get]; exact zn2 (by omega), by simp [Env.get, q0], by simp [Env.get, q1]⟩, by omega, rfl, rfl, rfl⟩
  ·simp [kl, Z0, xun]
   refine ua (v := true) (by simp [LOpd.ev, Env.get, kl]) (by simp [LOpd.need, Env.get, Z0]) (fun _ => y3 .ret _ _ _ _ ?_) (fun h => by cases h)
   simp only [Q6]
   exact hK
end Go.Fx
