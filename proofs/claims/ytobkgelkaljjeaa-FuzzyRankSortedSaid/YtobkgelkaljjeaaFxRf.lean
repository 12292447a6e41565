/-
  Own framework.
-/
import Derived.Test.YtobkgelkaljjeaaFxN
import Derived.RangeFuncRecord
import Derived.RangeFuncIn
namespace Go.Fx
set_option linter.unusedVariables false

section
variable {P : Program} {I : Nat → Nat → Prop} {β : Id → Option CLoc} {n : Nat} {H : AHeap} {w : World}

theorem inv_newrec (hI : Inv I β n H w) {r : Loop} {e : Env} (hE : ∀ t, Rep I β n w (Env.get e t) (r.tmps.getD t undef)) :
    Inv I (upd β (n, 0) (some ⟨w.heap.size, 0, 1, 0, 0⟩)) (n + 1) (((n, 0), .lrec w.heap.size r e) :: H) (w.alloc (.loop r)) ∧ Ext I β n H w I (upd β (n, 0) (some ⟨w.heap.size, 0, 1, 0, 0⟩)) (n + 1) (((n, 0), .lrec w.heap.size r e) :: H) (w.alloc (.loop r)) := by
  have hp : Pushed w (w.alloc (.loop r)) (.loop r) := ⟨rfl, ⟨rfl, fun _ => Nat.le_refl _⟩, rfl, rfl⟩
  have hsz : (w.alloc (.loop r)).heap.size = w.heap.size + 1 := by rw [hp.heap]; simp
  have hfr : ∀ id : Id, n ≤ id.1 → β id = none := hI.fresh
  have hcI : ∀ b k, I b k → (w.alloc (.loop r)).cell? ⟨b, k, none⟩ = w.cell? ⟨b, k, none⟩ := fun b k hb => by
    obtain ⟨v, hv⟩ := hI.imm b k hb
    exact hp.chg.cell b k (block_lt hv) (fun h => h.elim)
  refine inv_gen hI hp.chg (Nat.le_succ n) (fun _ _ h => h.elim) (fun _ _ h => h) (fun _ _ h h' => absurd h h') (fun id hid => .inl (upd_other _ _ (id_ne hid))) ?_ ?_ ?_ (fun _ _ _ _ _ _ h => h) ?_ ?_
  · intro id c b k hid hc hk
    rcases upd_new hc hI.fresh with ⟨_, rfl⟩ | ⟨h, _⟩
    · have hb : w.heap.size = b := hk.1
      exact ⟨by omega, .inl (by omega)⟩
    · omega
  · intro id hid
    rw [upd_other _ _ (fun h => by subst h; exact absurd hid (Nat.not_succ_le_self n))]
    exact hI.fresh id (by omega)
  · intro i j c d b k hi hj hc hd hj'
    rcases upd_new hj hI.fresh with ⟨rfl, rfl⟩ | ⟨h, _⟩
    · rcases upd_new hi hI.fresh with ⟨rfl, _⟩ | ⟨_, h⟩
      · rfl
      · exact (no_new hI h hc (by rw [← hd.1]; exact Nat.le_refl _)).elim
    · omega
  · intro id hid hg
    rwa [AHeap.get_cons_other _ _ (id_ne hid).symm] at hg
  · intro id blk hid
    by_cases h : (n, 0) = id
    · subst h
      rw [AHeap.get_cons_same] at hid
      simp only [Option.some.injEq] at hid
      subst hid
      refine .inr ⟨⟨w.heap.size, 0, 1, 0, 0⟩, upd_same _ _ _, rfl, Nat.one_pos, rfl, hp.new, fun t => (hE t).mono' (fun _ _ h => h) hcI (Nat.le_succ n) (fun id c hid h => ?_)⟩
      rwa [upd_other _ _ (id_ne hid)] at h
    · rw [AHeap.get_cons_other _ _ h] at hid
      exact .inl ⟨hid, upd_other _ _ (fun h' => h h'.symm), fun _ _ _ _ _ h => h⟩

theorem inv_rec (hI : Inv I β n H w) {k : Id} {l : Nat} {r r' : Loop} {e : Env} (hk : H.get k = some (.lrec l r e)) (ht : r'.tmps = r.tmps) :
    Inv I β n (H.set k (.lrec l r' e)) (w.putObj l (.loop r')) ∧ Ext I β n H w I β n (H.set k (.lrec l r' e)) (w.putObj l (.loop r')) ∧ w.heap[l]? = some (.loop r) := by
  obtain ⟨c, hc, h0, h1, h2, h3, h4⟩ := hI.blocks k _ hk
  subst h2
  have hlt : c.blk < w.heap.size := by
    rcases Nat.lt_or_ge c.blk w.heap.size with h | h
    · exact h
    · rw [Array.getElem?_eq_none h] at h3; cases h3
  have hne : H.get k ≠ none := by rw [hk]; simp
  have hother : ∀ b, b ≠ c.blk → (w.putObj c.blk (.loop r')).heap[b]? = w.heap[b]? := fun b hb => World.putObj_heap_other hb
  have hcell : ∀ b j, (w.putObj c.blk (.loop r')).cell? ⟨b, j, none⟩ = w.cell? ⟨b, j, none⟩ := by
    intro b j
    by_cases hb : b = c.blk
    · subst hb
      unfold World.cell?
      simp only [World.putObj_heap_same hlt, h3]
    · exact cell?_of_heap (hother b hb)
  have hchg : Chg w (w.putObj c.blk (.loop r')) (fun b j => b = c.blk ∧ j = 0) := by
    refine ⟨rfl, ⟨rfl, fun _ => Nat.le_refl _⟩, rfl, by simp, fun b _ hb => hother b (fun h => hb 0 ⟨h, rfl⟩), fun b j _ _ => hcell b j, fun b arr2 el fr hb => ?_, fun b o ho hb hn => ?_⟩
    · have : b ≠ c.blk := fun h => by subst h; rw [h3] at hb; cases hb
      exact ⟨arr2, by rw [hother b this]; exact hb, rfl⟩
    · rw [hother b (fun h => hn ⟨h, rfl⟩)]; exact hb
  have hhas : c.has c.blk 0 := ⟨rfl, by omega, h1⟩
  have := inv_gen (β' := β) (n' := n) (I' := I) (H' := H.set k (.lrec c.blk r' e)) hI hchg (Nat.le_refl n) (fun b' j h => ⟨k, c, hc, hne, by obtain ⟨rfl, rfl⟩ := h; exact hhas⟩) (fun _ _ h => h) (fun _ _ h h' => absurd h h') (fun id hid => .inl rfl)
    (fun id d b' j hid hd _ => by rw [hI.fresh id hid] at hd; cases hd) hI.fresh (fun i j d d' b' q hi hj h h' _ => hI.inj i j d d' b' q hi hj h h') (fun _ _ _ _ _ _ h => h) (fun t _ ht => by
      rw [AHeap.get_set] at ht
      split at ht
      · intro h; rw [h] at ht; simp at ht
      · exact ht) (fun id blk hid => by
      rw [AHeap.get_set] at hid
      split at hid
      · rename_i hkk
        subst hkk
        rw [hk] at hid
        simp only [Option.map_some, Option.some.injEq] at hid
        subst hid
        exact .inr ⟨c, hc, h0, h1, rfl, World.putObj_heap_same hlt, fun t => by
          rw [ht]; exact (h4 t).mono' (fun _ _ h => h) (fun b j _ => hcell b j) (Nat.le_refl n) (fun _ _ _ h => h)⟩
      · rename_i hkk
        refine .inl ⟨hid, rfl, fun d b j hd hh hw => ?_⟩
        obtain ⟨rfl, rfl⟩ := hw
        exact hkk (hI.inj k id c d _ _ hc hd hhas hh))
  exact ⟨this.1, this.2, h3⟩

theorem inv_other (hI : Inv I β n H w) (o : Obj) : Inv I β n H (w.alloc o) ∧ Ext I β n H w I β n H (w.alloc o) := by
  have hp : Pushed w (w.alloc o) o := ⟨rfl, ⟨rfl, fun _ => Nat.le_refl _⟩, rfl, rfl⟩
  exact inv_gen hI hp.chg (Nat.le_refl n) (fun _ _ h => h.elim) (fun _ _ h => h) (fun _ _ h h' => absurd h h') (fun id hid => .inl rfl) (fun id c b k hid hc _ => by rw [hI.fresh id hid] at hc; cases hc) hI.fresh
    (fun i j c d b k hi hj h h' _ => hI.inj i j c d b k hi hj h h') (fun _ _ _ _ _ _ h => h) (fun _ _ h => h) (fun id blk hid => .inl ⟨hid, rfl, fun _ _ _ _ _ h => h⟩)

structure RecOf (P : Program) (N : Lay) (ps : List Nat) (a b : LCode) (r : Loop) : Prop where
  st : r.state = .ready
  pe : r.pending = none
  pa : r.params.toList = ps
  la : lowCode P (inRd N) r.assign = some a
  lb : lowCode P (inRd N) r.body = some b
  sz : r.tmps.size = N.n
def busy (r : Loop) : Loop := { r with state := .busy }
def QAsg (k : Id) (l : Nat) (r : Loop) (P : Program) (N : Lay) (n0 : Nat) (b : LCode) (Q2 : Exit → Env → AHeap → Nat → Prop) : Exit → Env → AHeap → Nat → Prop :=
  fun ex e1 H1 n1 => ex = .normal ∧ ∃ e1', H1.get k = some (.lrec l r e1') ∧ LWp P (inRd N) n0 b Q2 e1 (H1.set k (.lrec l (busy r) e1')) n1
def QRnd (k : Id) (l : Nat) (r : Loop) (K : AVal → AHeap → Nat → Prop) : Exit → Env → AHeap → Nat → Prop :=
  fun ex e2 H2 n2 => ex = .normal ∧ ∃ e2', H2.get k = some (.lrec l (busy r) e2') ∧ K (.bool true) (H2.set k (.lrec l r e2')) n2
def putPs : Env → List Nat → List AVal → Env
  | e, p :: ps, x :: xs => putPs (e.put (some p) x) ps xs
  | e, _, _ => e
theorem putPs_rep : ∀ {ps : List Nat} {xs : List AVal} {vs : List Value} {e : Env} {tm : Array Value}, (∀ p ∈ ps, p < tm.size) → xs.length = ps.length → vs.length = ps.length → (∀ t, Rep I β n w (e.get t) (tm.getD t undef)) →
    (∀ (i : Nat) (x : AVal) (v : Value), xs[i]? = some x → vs[i]? = some v → Rep I β n w x v) → ∀ t, Rep I β n w ((putPs e ps xs).get t) (((ps.zip vs).foldl (fun t p => t.setIfInBounds p.1 p.2) tm).getD t undef)
  | [], [], [], e, tm, _, _, _, he, _ => he
  | p :: ps, x :: xs, v :: vs, e, tm, hp, h1, h2, he, hr => by
    simp only [putPs, List.zip_cons_cons, List.foldl_cons]
    have hE : RepEnv I β n w e { tmps := tm, defers := [] } := he
    have hx := hr 0 x v rfl rfl
    have := hE.put (d := some p) (fun t ht => by cases ht; exact hp p (List.mem_cons_self ..)) hx
    exact putPs_rep (fun q hq => by rw [Array.size_setIfInBounds]; exact hp q (List.mem_cons_of_mem _ hq)) (by simpa using h1) (by simpa using h2) this (fun i x v hx hv => hr (i + 1) x v (by simpa using hx) (by simpa using hv))
  | [], x :: xs, _, _, _, _, h1, _, _, _ => by simp at h1
  | [], [], v :: vs, _, _, _, _, h2, _, _ => by simp at h2
  | p :: ps, [], _, _, _, _, h1, _, _, _ => by simp at h1
  | p :: ps, x :: xs, [], _, _, _, _, h2, _, _ => by simp at h2
theorem foldl_zip_arr (ps : Array Tmp) (vs : Array Value) (tm : Array Value) : (ps.zip vs).foldl (fun tmps (x : Tmp × Value) => tmps.setIfInBounds x.1 x.2) tm = (ps.toList.zip vs.toList).foldl (fun t p => t.setIfInBounds p.1 p.2) tm := by
  rw [← Array.foldl_toList, Array.toList_zip]
theorem foldl_set_size : ∀ (l : List (Nat × Value)) (tm : Array Value), (l.foldl (fun t p => t.setIfInBounds p.1 p.2) tm).size = tm.size
  | [], _ => rfl
  | p :: r, tm => by rw [List.foldl_cons, foldl_set_size r, Array.size_setIfInBounds]

theorem yields_of {N : Lay} {ps : List Nat} {a b : LCode} {r : Loop} {e : Env} {l : Nat} {k : Id} {args : List AVal} {K : AVal → AHeap → Nat → Prop} (hr : RecOf P N ps a b r) (hk : H.get k = some (.lrec l r e)) (hps : (ps.all fun p => Nat.blt p N.n) = true) (hlen : args.length = ps.length)
    (h : LWp P (inRd N) n a (QAsg k l r P N n b (QRnd k l r K)) (putPs e ps args) H n) :
    ACalls P (.yield l) args H n K := by
  refine ⟨trivial, fun I β w vs hI hl hrep => ?_⟩
  obtain ⟨c, hc, h0, h1, h2, h3, h4⟩ := hI.blocks k _ hk
  rw [h2] at h3
  have hpl : r.params.size = ps.length := by rw [← hr.pa, Array.length_toList]
  have hlt : ∀ p ∈ ps, p < r.tmps.size := fun p hp => by
    rw [hr.sz]
    rw [List.all_eq_true] at hps
    have := hps p hp
    rwa [Nat.blt_eq] at this
  refine ⟨r.fn, _, r.assign, r.body, run_yield h3 (by simp only [List.size_toArray]; omega), roundIn_of_wpIn trivial ?_⟩
  refine h r.assign hr.la (some l) (fun h => by cases h) I β H w I β w _ (Ext.refl I β n H w hI.fresh) hI ?_ ?_ (Dfr.nil _ _) _ ?_
  · have := putPs_rep (n := n) (w := w) (I := I) (β := β) hlt hlen (by rw [hl, hlen]) h4 hrep
    intro t
    have h5 := foldl_zip_arr r.params vs.toArray r.tmps
    rw [hr.pa] at h5
    show Rep I β n w _ (((r.params.zip vs.toArray).foldl (fun tmps (x : Tmp × Value) => tmps.setIfInBounds x.1 x.2) r.tmps).getD t undef)
    rw [h5]
    exact this t
  · show ((r.params.zip vs.toArray).foldl (fun tmps (x : Tmp × Value) => tmps.setIfInBounds x.1 x.2) r.tmps).size = N.n
    rw [foldl_zip_arr, foldl_set_size]
    exact hr.sz
  intro ex e1 H1 n1 I1 β1 w1 a1 hq hI1 hE1 hN1 hD1 hX1
  obtain ⟨rfl, e1', hk1, hb⟩ := hq
  obtain ⟨q1, q2, q3⟩ := inv_rec (r' := busy r) hI1 hk1 rfl
  refine ⟨_, run_beginRound q3 hr.st, ?_⟩
  refine hb r.body hr.lb (some l) (fun h => by cases h) I β H w I1 β1 _ a1 (hX1.trans q2) q1 (fun t => (hE1 t).mono q2 hI1) hN1 (hD1.mono hI1 q2) _ ?_
  intro ex e2 H2 n2 I2 β2 w2 a2 hq hI2 hE2 hN2 hD2 hX2
  obtain ⟨rfl, e2', hk2, hK⟩ := hq
  obtain ⟨p1, p2, p3⟩ := inv_rec (r' := r) hI2 hk2 rfl
  have hrr : ({ busy r with state := if (none : Option Code).isNone then LoopState.ready else .done, pending := none } : Loop) = r := by
    have := hr.st
    have := hr.pe
    cases r
    simp_all [busy]
  have hrun := run_endRound (P := P) none p3
  rw [hrr] at hrun
  exact ⟨_, _, hrun, .bool true, .bool true, _, n2, I2, β2, rfl, hK, p1, .imm _ _ (.bool true), hX2.trans p2⟩

def SubE : Env → Env → Prop
  | [], _ => True
  | (k, x) :: r, e => e.get k = x ∧ SubE r e
theorem SubE.get : ∀ {e1 e : Env}, SubE e1 e → ∀ t, e1.get t = .any ∨ e1.get t = e.get t
  | [], _, _, t => .inl rfl
  | (k, x) :: r, e, h, t => by
    simp only [Env.get]
    split
    · rename_i hk; subst hk; exact .inr h.1.symm
    · exact SubE.get h.2 t
theorem LWp_rng {N : Lay} {n0 : Nat} {g : LOpd} {ps : List Nat} {a b : LCode} {e : Env} (e1 : Env) {Q : Exit → Env → AHeap → Nat → Prop} {gf : FuncId} {lb : List AVal} (hg : g.ev e = .fn (.func gf) [] lb) (hn : g.need e) (hs : SubE e1 e)
    (hcall : ∀ (l : Nat) (r : Loop), RecOf P N ps a b r → ACalls P (.func gf) (.fn (.yield l) [] [] :: lb) (((n, 0), .lrec l r e1) :: H) (n + 1) (fun _ H' n' => ∃ k e', H'.get k = some (.lrec l r e') ∧ Q .normal e' (H'.del k) n')) :
    LWp P N n0 (.rng g ps a b) Q e H n := by
  intro c hc ro hro I0 β0 H0 w0 I β w aa hX hI hE hN hD QQ hQ
  cases c with
  | rangeFunc g' ps' x y =>
    simp only [lowCode] at hc
    split at hc <;> try (cases hc; done)
    rename_i g2 a2 b2 hrd hgl hal hbl
    simp only [Option.some.injEq, LCode.rng.injEq] at hc
    obtain ⟨rfl, hps, rfl, rfl⟩ := hc
    obtain rfl := hro hrd
    have hrg := ev_rep hE hgl hn
    rw [hg] at hrg
    obtain ⟨cs, hf, k2, k4⟩ : ∃ cs : Array Value, aa.eval g' = .func (.func gf) #[] cs ∧ cs.size = lb.length ∧ (∀ (i : Nat) (x : AVal) (v : Value), lb[i]? = some x → cs[i]? = some v → Rep I β n w x v) := by
      revert hrg
      generalize aa.eval g' = fv
      intro hr
      cases hr with
      | fn _ _ _ fs cs h1 h2 h3 h4 =>
        have : fs = #[] := Array.size_eq_zero_iff.1 (by simpa using h1)
        subst this
        exact ⟨cs, rfl, h2, h4⟩
      | imm _ _ hr =>
        cases hr with
        | fn _ _ _ fs cs h1 h2 h3 h4 =>
          have : fs = #[] := Array.size_eq_zero_iff.1 (by simpa using h1)
          subst this
          exact ⟨cs, rfl, h2, fun i x v p q => .imm _ _ (h4 i x v p q)⟩
    refine wpIn_rangeFunc (fun fn _ => ?_)
    obtain ⟨r, hrec⟩ : ∃ r : Loop, r = { state := .ready, pending := none, fn, tmps := aa.tmps, params := ps', assign := x, body := y, defers := w.heap.size } := ⟨_, rfl⟩
    have hR : RecOf P N ps a2 b2 r := by subst hrec; exact ⟨rfl, rfl, hps, hal, hbl, hN⟩
    have htm : r.tmps = aa.tmps := by subst hrec; rfl
    obtain ⟨i0, x0⟩ := inv_other hI (.deferred (some []))
    have hE0 : ∀ t, Rep I β n (w.alloc (.deferred (some []))) (Env.get e1 t) (r.tmps.getD t undef) := fun t => by
      rw [htm]
      rcases hs.get t with h | h
      · rw [h]; exact .any _
      · rw [h]; exact (hE t).mono x0 hI
    obtain ⟨i1, x1⟩ := inv_newrec i0 (r := r) hE0
    have hsz : (w.alloc (.deferred (some []))).heap.size = w.heap.size + 1 := by simp
    rw [hsz] at i1 x1
    have hc := hcall (w.heap.size + 1) r hR
    obtain ⟨f0, g1, g2, g3⟩ := hc.1
    have hD1 : Dfr w0.heap.size (w.alloc (.deferred (some []))) ({ target := .collected w.heap.size, args := #[] } :: aa.defers) := by
      refine ⟨List.nodup_cons.2 ⟨fun hm => ?_, hD.1⟩, fun d hd => ?_⟩
      · obtain ⟨q, h1, h2, h3⟩ := hD.2 _ hm
        simp only [Deferred.mk.injEq, Target.collected.injEq, and_true] at h1
        subst h1
        rw [Array.getElem?_eq_none (Nat.le_refl _)] at h3
        cases h3
      · rcases List.mem_cons.1 hd with rfl | hd
        · exact ⟨w.heap.size, rfl, hX.size, World.alloc_heap_new w _⟩
        · exact (hD.mono hI x0).2 d hd
    refine ⟨w.heap.size + 1, [{ target := .collected w.heap.size, args := #[] }], (w.alloc (.deferred (some []))).alloc (.loop r), { target := .fn (.func gf) cs, args := #[.func (.yield (w.heap.size + 1)) #[] #[]] }, (w.alloc (.deferred (some []))).alloc (.loop r), gf,
      #[.func (.yield (w.heap.size + 1)) #[] #[]] ++ cs, (w.alloc (.deferred (some []))).alloc (.loop r), ?_, ?_, fun _ _ => trivial, ?_, fun h => (by cases h), ?_⟩
    · rw [hrec]; exact run_enterLoop_outer _ _ _ _ _
    · simp only [resolve, hf]
      simp [go_sem]
    · have g4 : f0.body.isNone = false := by cases hb : f0.body <;> simp [hb] at g2 ⊢
      simp only [invoke]
      unfold callFunc
      simp only [Sem.run_bind, run_program, Result.andThen_ok, g1, g3, g4, Bool.false_eq_true, if_false, Sem.run_pure]
    · refine (callsRF (ro := none)).2 ?_
      have hq := hc.2 I _ _ (#[Value.func (.yield (w.heap.size + 1)) #[] #[]] ++ cs).toList i1 (by simp; omega) (fun (i : Nat) (u : AVal) (v : Value) hu hv => by
        cases i with
        | zero =>
          simp only [Array.toList_append, List.cons_append, List.nil_append, List.getElem?_cons_zero, Option.some.injEq] at hu hv
          subst hu; subst hv
          exact Rep.fn (.yield (w.heap.size + 1)) [] [] #[] #[] rfl rfl (fun i x v h => by cases i <;> cases h) (fun i x v h => by cases i <;> cases h)
        | succ i =>
          simp only [Array.toList_append, List.cons_append, List.nil_append, List.getElem?_cons_succ] at hu hv
          exact ((k4 i u v hu (by rw [← Array.getElem?_toList]; exact hv)).mono x0 hI).mono x1 i0)
      rw [Array.toArray_toList] at hq
      refine Calls.mono hq ?_
      rintro ee w3 ⟨rv, v, H', n', I', β', rfl, ⟨k, e', hk, hK⟩, hI', hr', hx'⟩
      obtain ⟨cl, hcl, h0, h1, h2, h3, h4⟩ := hI'.blocks k _ hk
      rw [h2] at h3
      have hend := run_endLoop (P := P) h3 (by rw [hR.st]; simp)
      obtain ⟨rx, hrx⟩ : ∃ rx : Loop, rx = { r with state := .exhausted } := ⟨_, rfl⟩
      rw [← hrx, hR.pe] at hend
      obtain ⟨q1, q2, _⟩ := inv_rec (r' := rx) hI' hk (by rw [hrx])
      refine ⟨none, _, hend, ?_⟩
      have hsub : ∀ id blk, (H'.del k).get id = some blk → (H'.set k (.lrec (w.heap.size + 1) rx e')).get id = some blk := by
        intro id blk hid
        rw [AHeap.get_del] at hid
        rw [AHeap.get_set]
        split at hid
        · cases hid
        · rename_i hne; rw [if_neg hne]; exact hid
      refine hQ .normal e' (H'.del k) n' I' β' _ _ hK (q1.sub hsub) (fun t => ?_) hN ?_ ((((((hX.trans x0).trans x1).trans hx').trans q2).sub hsub))
      · have := (h4 t).mono q2 hI'
        rw [htm] at this
        exact this
      · exact (((hD1.mono i0 x1).mono i1 hx').mono hI' q2)
  | skip => simp [lowCode] at hc
  | region id ops draw => simp only [lowCode] at hc; split at hc <;> (try split at hc) <;> (try split at hc) <;> (try split at hc) <;> simp at hc
  | seq a b => simp only [lowCode] at hc; split at hc <;> simp at hc
  | cond c a b => simp only [lowCode] at hc; split at hc <;> simp at hc
  | block id c => simp [lowCode] at hc
  | loop c => simp [lowCode] at hc
  | exit id => simp [lowCode] at hc
  | ret => simp [lowCode] at hc
  | _ => cases hc
end
def EnvVw (F : Id → Bool) (H : AHeap) (ρ : Id → Option Id) (n : Nat) : Env → Env → Prop
  | [], [] => True
  | (k, x) :: r, (k', y) :: r' => (k = k' ∧ Vw F H ρ n x y) ∧ EnvVw F H ρ n r r'
  | _, _ => False
theorem EnvVw.get {F : Id → Bool} {H : AHeap} {ρ : Id → Option Id} {n : Nat} : ∀ {e e' : Env}, EnvVw F H ρ n e e' → ∀ t, Vw F H ρ n (e.get t) (e'.get t)
  | [], [], _, t => .any _
  | (k, x) :: r, (k', y) :: r', h, t => by
    obtain ⟨⟨rfl, h1⟩, h2⟩ := h
    simp only [Env.get]
    split
    · exact h1
    · exact EnvVw.get h2 t
  | [], _ :: _, h, _ => h.elim
  | _ :: _, [], h, _ => h.elim
theorem BVw.lrecL {F : Id → Bool} {H : AHeap} {ρ : Id → Option Id} {n : Nat} {l : Nat} {r : Loop} {e e' : Env} (h : EnvVw F H ρ n e e') : BVw F H ρ n (.lrec l r e) (.lrec l r e') := .lrec l r e e' h.get
theorem Clo.mkY {P : Program} {l : Nat} {σ α τ : Type} {Hc : σ → AHeap} {ea : α → List AVal} {rb : τ → AVal} {g : σ → α → Option (τ × σ)} (tl : ∀ s, Tl (Hc s))
    (hb : ∀ b, (rb b).nid = true) (call : ∀ s x o, g s x = some o → ∃ L, ACalls P (.yield l) (ea x) (Hc s) 3 (Gives 4 (rb o.1) L) ∧ RenL (mv 2 3) (Hc o.2) L) : Clo P (.yield l) [] [] Hc ea rb g :=
  ⟨tl, rfl, rfl, hb, .inr rfl, fun s x o h => by
    obtain ⟨L, h1, h2⟩ := call s x o h
    have := h2.eq
    unfold up
    rw [this, List.append_nil]; exact h1⟩
end Go.Fx
