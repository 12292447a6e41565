/-
  Own framework, part X: the canonical order stands for every order (main induction).
-/
import Derived.Test.YtcllpgaaoiccgaaFxV
namespace Go.Fx
set_option linter.unusedVariables false
variable {P : Program} {ops : Array Oper} {N : Lay} {m : Nat} {lo : Nat → LOper} {loose : Nat → List Nat} {ord : Nat → Nat} {pre : Nat → List Nat}

def unl (m : Nat) (listed : Array Bool) : Nat := ((List.range m).filter (fun i => !listed.getD i false)).length

theorem filter_lt {α : Type} {f g : α → Bool} : ∀ {l : List α}, (∀ x, g x = true → f x = true) → (∃ x ∈ l, f x = true ∧ g x = false) → (l.filter g).length < (l.filter f).length
  | [], _, h => by obtain ⟨x, hx, _⟩ := h; cases hx
  | y :: l, hfg, h => by
    have hle : ∀ l : List α, (l.filter g).length ≤ (l.filter f).length := by
      intro l
      induction l with
      | nil => simp
      | cons z l ih =>
        simp only [List.filter_cons]
        cases hg : g z with
        | true => rw [if_pos rfl, if_pos (hfg z hg)]; simp only [List.length_cons]; omega
        | false =>
          rw [if_neg (by simp)]
          split
          · simp only [List.length_cons]; omega
          · exact ih
    obtain ⟨x, hx, h1, h2⟩ := h
    simp only [List.filter_cons]
    rcases List.mem_cons.1 hx with rfl | hx
    · rw [h1, h2, if_pos rfl, if_neg (by simp)]
      have := hle l
      simp only [List.length_cons]; omega
    · have ih := filter_lt hfg ⟨x, hx, h1, h2⟩
      cases hg : g y with
      | true => rw [if_pos rfl, if_pos (hfg y hg)]; simp only [List.length_cons]; omega
      | false =>
        rw [if_neg (by simp)]
        split
        · simp only [List.length_cons]; omega
        · exact ih

def seesAt (m : Nat) (lo : Nat → LOper) (e0 : Env) (v : Nat → AVal) (p : Nat) : Env := (lo p).looks.map fun t => (t, lookV m lo e0 v (fun x => decide (x < p)) t)
def updV (v : Nat → AVal) (q : Nat) (x : AVal) : Nat → AVal := fun p => if p = q then x else v p

theorem seesAt_upd {e0 : Env} {v : Nat → AVal} {q p : Nat} {x : AVal} (h : p ≤ q) : seesAt m lo e0 (updV v q x) p = seesAt m lo e0 v p := by
  unfold seesAt
  refine List.map_congr_left fun t _ => ?_
  congr 1
  refine lookV_congr fun r hr hd => ⟨rfl, fun hlt => ?_⟩
  have : r < p := by simpa using hlt
  unfold updV
  rw [if_neg (by omega)]

theorem seesAt_get {e0 : Env} {v : Nat → AVal} {p t : Nat} : (seesAt m lo e0 v p).get t = if t ∈ (lo p).looks then lookV m lo e0 v (fun x => decide (x < p)) t else .any := by
  unfold seesAt
  induction (lo p).looks with
  | nil => simp [Env.get]
  | cons u l ih =>
    simp only [List.map_cons, Env.get, ih]
    by_cases h : u = t
    · subst h; simp
    · rw [if_neg h]
      by_cases h2 : t ∈ l
      · rw [if_pos h2, if_pos (List.mem_cons_of_mem _ h2)]
      · rw [if_neg h2, if_neg (by intro h3; rcases List.mem_cons.1 h3 with rfl | h3; exact h rfl; exact h2 h3)]

theorem getD_tf {listed : Array Bool} {i : Nat} (hi : i < listed.size) : listed.getD i true = listed.getD i false := by simp [hi]

section
variable (D : DOk ops m lo loose ord pre)
include D

/-- the slots that a ready operation looks at hold what they hold in the canonical order -/
theorem DOk.agree {listed : Array Bool} (hd : Down ops listed) {e0 : Env} {v : Nat → AVal} {p t : Nat} (hp : p < m) (hun : listed.getD (ord p) false = false) (hall : ∀ d ∈ direct ops (ord p), listed.getD d false = true) (ht : t ∈ (lo p).looks) :
    lookV m lo e0 v (fun x => listed.getD (ord x) false) t = lookV m lo e0 v (fun x => decide (x < p)) t := by
  refine lookV_congr fun r hr hdst => ⟨?_, fun _ => rfl⟩
  have anc := D.ancestors hd p hp hall
  rcases Nat.lt_trichotomy r p with h | h | h
  · rw [decide_eq_true h]
    exact anc _ (D.raw r p h hp t hdst ht)
  · subst h
    rw [hun, decide_eq_false (by omega)]
  · rw [decide_eq_false (by omega)]
    cases hl : listed.getD (ord r) false with
    | false => rfl
    | true =>
      have := D.ancestors hd r hr (hd _ hl) _ (D.war p r h hr t hdst ht)
      rw [hun] at this; cases this

omit D in
theorem getD_set {listed : Array Bool} {i j : Nat} (hi : i < listed.size) : (listed.setIfInBounds i true).getD j false = if i = j then true else listed.getD j false := by
  by_cases h : i = j
  · subst h; simp [hi]
  · simp [h]

omit D in
theorem put_same {a : Act} {d : Nat} {v : Value} (h : d < a.tmps.size) : (a.put (some d) v).tmps.getD d undef = v := by simp [Act.put, h]
omit D in
theorem put_other {a : Act} {d : Option Nat} {t : Nat} {v : Value} (h : d ≠ some t) : (a.put d v).tmps.getD t undef = a.tmps.getD t undef := by
  cases d with
  | none => rfl
  | some d =>
    have hdt : d ≠ t := fun h' => h (by rw [h'])
    simp [Act.put, Array.getD_eq_getD_getElem?, hdt]
omit D in
theorem unl_set {listed : Array Bool} (hs : listed.size = m) {i : Nat} (hi : i < m) (hun : listed.getD i false = false) {fuel : Nat} (hf : unl m listed ≤ fuel + 1) : unl m (listed.setIfInBounds i true) ≤ fuel := by
  have : unl m (listed.setIfInBounds i true) < unl m listed := by
    refine filter_lt (fun x hx => ?_) ⟨i, List.mem_range.2 hi, by rw [hun]; rfl, by rw [getD_set (by omega), if_pos rfl]; rfl⟩
    rw [getD_set (by omega)] at hx
    split at hx
    · simp at hx
    · exact hx
  omega

omit D in
theorem Down.set {listed : Array Bool} (hd : Down ops listed) (hs : listed.size = m) {i : Nat} (hi : i < m) (hall : ∀ d ∈ direct ops i, listed.getD d false = true) : Down ops (listed.setIfInBounds i true) := by
  intro j hj d hdj
  rw [getD_set (by omega)] at hj ⊢
  split
  · rfl
  · split at hj
    · rename_i h; subst h; exact hall d hdj
    · exact hd j hj d hdj

/-- **EVERY ORDER.** -/
theorem xd_all {ro : Option Nat} (hops : ∀ p, p < m → ∃ o, ops[ord p]? = some o ∧ lowOper P N ops o = some (lo p)) {R : Env → AHeap → Nat → Prop} {QQ : Exit → Act → World → Prop} {e0 : Env} {I0 : Nat → Nat → Prop} {β0 : Id → Option CLoc} {n0 : Nat} {H0 : AHeap} {w0 : World}
    (hR : ∀ e H n I β w a, R e H n → Inv I β n H w → RepEnv I β n w e a → a.tmps.size = N.n → Dfr w0.heap.size w a.defers → Ext I0 β0 n0 H0 w0 I β n H w → QQ .normal a w) :
    ∀ (k fuel q : Nat) (items : List DItem) (listed : Array Bool) (v : Nat → AVal) (done : List (Nat × LOper × Env × AVal)) (e : Env) (H : AHeap) (n : Nat) (I : Nat → Nat → Prop) (β : Id → Option CLoc) (w : World) (a : Act), fuel + items.length ≤ k →
      items.length + q = m → (∀ i it, items[i]? = some it → it.lo = lo (q + i) ∧ it.loose = loose (q + i)) → listed.size = m → Down ops listed → (∀ p, p < m → listed.getD (ord p) false = true → p < q) →
      (∀ p, p < q → isPure (lo p).op = false → listed.getD (ord p) false = true) → unl m listed ≤ fuel →
      (∀ t, e.get t = lookV m lo e0 v (fun x => decide (x < q)) t) → (∀ t, Rep I β n w (lookV m lo e0 v (fun x => listed.getD (ord x) false) t) (a.tmps.getD t undef)) →
      (∀ p, p < q → listed.getD (ord p) false = false → (evalG (seesAt m lo e0 v p) H (lo p)).gives (v p)) →
      (∀ p, p < q → listed.getD (ord p) false = false → isLoad (lo p).op = true → (p, lo p, seesAt m lo e0 v p, v p) ∈ done) →
      xd P items q done R e H n → Inv I β n H w → a.tmps.size = N.n → Dfr w0.heap.size w a.defers → Ext I0 β0 n0 H0 w0 I β n H w → wpAnyIn (RFen ro) 0 P .any ops QQ fuel listed a w := by
  intro k
  induction k using Nat.strongRecOn with
  | _ k ih =>
  intro fuel q items listed v done e H n I β w a hk hlen hits hsz hdn hsub heff hun henv hrep hpend hdone hx hI hN hD hX
  -- an item at the head that leaves the heap alone is put among the pending
  by_cases hpure : ∃ it rest, items = it :: rest ∧ isPure it.lo.op = true
  · obtain ⟨it, rest, rfl, hp⟩ := hpure
    obtain ⟨h1, h2⟩ := hits 0 it rfl
    simp only [Nat.add_zero] at h1 h2
    simp only [List.length_cons] at hlen hk
    have hq : q < m := by omega
    unfold xd at hx
    rw [hp] at hx
    simp only at hx
    obtain ⟨val, hgv, hx⟩ := hx
    · have hsees : seesAt m lo e0 (updV v q val) q = it.lo.sees e := by
        rw [seesAt_upd (Nat.le_refl q), h1]
        unfold seesAt LOper.sees
        exact List.map_congr_left fun t _ => by rw [henv t]
      have hqun : listed.getD (ord q) false = false := by
        cases hl : listed.getD (ord q) false with
        | false => rfl
        | true => have := hsub q hq hl; omega
      have hlt : ∀ p, p < q → updV v q val p = v p := fun p hp => by unfold updV; rw [if_neg (by omega)]
      have hqv : updV v q val q = val := by unfold updV; rw [if_pos rfl]
      refine ih (fuel + rest.length) (by omega) fuel (q + 1) rest listed (updV v q val) _ _ H n I β w a (Nat.le_refl _) (by omega) ?_ hsz hdn (fun p hp hl => by have := hsub p hp hl; omega) ?_ hun ?_ ?_ ?_ ?_ hx hI hN hD hX
      · intro i it' hi
        have := hits (i + 1) it' (by simpa using hi)
        rw [show q + 1 + i = q + (i + 1) by omega]
        exact this
      · intro p hp2 hef
        rcases Nat.lt_or_ge p q with h | h
        · exact heff p h hef
        · have : p = q := by omega
          subst this
          rw [← h1, hp] at hef; cases hef
      · intro t
        by_cases hd : it.lo.dst = some t
        · rw [hd, Env.get_put_same, lookV_at D hq (by simp) (by rw [← h1]; exact hd), hqv]
        · have : (e.put it.lo.dst val).get t = e.get t := by
            cases hdd : it.lo.dst with
            | none => rfl
            | some d => exact Env.get_put_other e val (by intro h; subst h; exact hd hdd)
          rw [this, henv t]
          refine lookV_congr fun p hp2 hdst => ?_
          have hne : p ≠ q := by intro h; subst h; rw [← h1] at hdst; exact hd hdst
          refine ⟨by by_cases h : p < q <;> simp [h] <;> omega, fun hl => (hlt p (by simpa using hl)).symm⟩
      · intro t
        rw [lookV_congr (S' := fun x => listed.getD (ord x) false) (v' := v) (fun p hp2 _ => ⟨rfl, fun hl => hlt p (hsub p hp2 hl)⟩)]
        exact hrep t
      · intro p hp2 hl
        rcases Nat.lt_or_ge p q with h | h
        · rw [seesAt_upd (by omega), hlt p h]; exact hpend p h hl
        · have : p = q := by omega
          subst this
          rw [hsees, hqv, ← h1]
          exact hgv
      · intro p hp2 hl hld
        rcases Nat.lt_or_ge p q with h | h
        · rw [seesAt_upd (by omega), hlt p h]
          have := hdone p h hl hld
          split
          · exact List.mem_cons_of_mem _ this
          · exact this
        · have : p = q := by omega
          subst this
          rw [hsees, hqv, ← h1]
          rw [← h1] at hld
          rw [if_pos hld]
          exact List.mem_cons_self ..
  · -- all listed: the end
    have fin : (∀ p, p < m → listed.getD (ord p) false = true) → QQ .normal a w := by
      intro hall
      have hqm : q = m := by
        rcases Nat.eq_zero_or_pos m with h | h
        · omega
        · have := hsub (m - 1) (by omega) (hall _ (by omega)); omega
      have : items = [] := List.length_eq_zero_iff.1 (by omega)
      subst this
      refine hR e H n I β w a hx hI (fun t => ?_) hN hD hX
      rw [henv t, lookV_congr (S' := fun x => listed.getD (ord x) false) (v' := v) (fun p hp _ => ⟨by rw [hall p hp]; simp; omega, fun _ => rfl⟩)]
      exact hrep t
    have ready_spec : ∀ i, i ∈ Region.ready .any ops listed → ∃ p, p < m ∧ ord p = i ∧ listed.getD i false = false ∧ ∀ d ∈ direct ops i, listed.getD d false = true := by
      intro i hi
      obtain ⟨h1, oi, h2, h3⟩ := mem_ready.1 hi
      have him : i < m := by rw [← D.size]; exact (Array.getElem?_eq_some_iff.1 h2).1
      obtain ⟨p, hp, rfl⟩ := D.surj i him
      refine ⟨p, hp, rfl, by rw [← getD_tf (by omega)]; exact h1, fun d hd => ?_⟩
      unfold direct at hd
      rw [h2] at hd
      simp only [List.mem_map, List.mem_filter, Array.mem_toList_iff] at hd
      obtain ⟨ed, ⟨h4, h5⟩, rfl⟩ := hd
      exact h3 ed h4 h5
    have all_of : Region.ready .any ops listed = [] → ∀ p, p < m → listed.getD (ord p) false = true := by
      intro hr p
      induction p using Nat.strongRecOn with
      | _ p ihp =>
        intro hp
        cases hl : listed.getD (ord p) false with
        | true => rfl
        | false =>
          exfalso
          obtain ⟨o, ho, _⟩ := hops p hp
          have : ord p ∈ Region.ready .any ops listed := by
            refine mem_ready.2 ⟨by rw [getD_tf (by rw [hsz]; exact D.lt p hp)]; exact hl, o, ho, fun ed hed hb => ?_⟩
            have hmem : ed.on ∈ direct ops (ord p) := by
              unfold direct
              rw [ho]
              exact List.mem_map.2 ⟨ed, List.mem_filter.2 ⟨by simpa using hed, hb⟩, rfl⟩
            obtain ⟨r, hr2, hre⟩ := D.topo p hp _ hmem
            rw [← hre]
            exact ihp r hr2 (by omega)
          rw [hr] at this
          cases this
    cases fuel with
    | zero =>
      have hall : ∀ p, p < m → listed.getD (ord p) false = true := by
        intro p hp
        cases hl : listed.getD (ord p) false with
        | true => rfl
        | false =>
          have hmem : ord p ∈ (List.range m).filter (fun i => !listed.getD i false) := List.mem_filter.2 ⟨List.mem_range.2 (D.lt p hp), by rw [hl]; rfl⟩
          have := List.length_pos_of_mem hmem
          unfold unl at hun
          omega
      refine ⟨?_, fin hall⟩
      rw [List.eq_nil_iff_forall_not_mem]
      intro i hi
      obtain ⟨p, hp, rfl, hl, _⟩ := ready_spec i hi
      rw [hall p hp] at hl; cases hl
    | succ fuel =>
      refine ⟨fun hr => fin (all_of hr), fun i hi => ?_⟩
      obtain ⟨p, hp, rfl, hl, hall⟩ := ready_spec i hi
      obtain ⟨o, ho, hlo⟩ := hops p hp
      have hdN := (lowOper_spec hlo).1
      have hdst := (lowOper_spec hlo).2.1
      have hE : RepEnv I β n w (seesAt m lo e0 v p) a := by
        intro t
        rw [seesAt_get]
        split
        · rename_i ht
          rw [← D.agree hdn hp hl hall ht]
          exact hrep t
        · exact .any _
      have hset : ∀ x, (listed.setIfInBounds (ord p) true).getD (ord x) false = if ord p = ord x then true else listed.getD (ord x) false := fun x => getD_set (by rw [hsz]; exact D.lt p hp)
      have hother : ∀ x, x < m → x ≠ p → (listed.setIfInBounds (ord p) true).getD (ord x) false = listed.getD (ord x) false := fun x hx hne => by
        rw [hset, if_neg (fun h => hne (D.inj x p hx hp h.symm))]
      have hself : (listed.setIfInBounds (ord p) true).getD (ord p) false = true := by rw [hset, if_pos rfl]
      have hdn' : Down ops (listed.setIfInBounds (ord p) true) := hdn.set hsz (D.lt p hp) hall
      have hun' := unl_set hsz (D.lt p hp) hl hun
      -- the slots behind it
      have hrep' : ∀ {I' : Nat → Nat → Prop} {β' : Id → Option CLoc} {n' : Nat} {w' : World} {v' : Nat → AVal} {r : Value}, (∀ t, Rep I' β' n' w' (lookV m lo e0 v (fun x => listed.getD (ord x) false) t) (a.tmps.getD t undef)) → Rep I' β' n' w' (v' p) r → (∀ x, x ≠ p → v' x = v x) →
          ∀ t, Rep I' β' n' w' (lookV m lo e0 v' (fun x => (listed.setIfInBounds (ord p) true).getD (ord x) false) t) ((a.put o.dst r).tmps.getD t undef) := by
        intro I' β' n' w' v' r h1 h2 h3 t
        by_cases hd : (lo p).dst = some t
        · rw [lookV_at D hp hself hd]
          rw [hdst] at hd
          rw [hd, put_same (by rw [hN]; exact hdN t hd)]
          exact h2
        · rw [put_other (by rw [← hdst]; exact hd)]
          have := h1 t
          rw [lookV_congr (S' := fun x => (listed.setIfInBounds (ord p) true).getD (ord x) false) (v' := v') (fun x hx hdx => ?_)] at this
          · exact this
          · have hne : x ≠ p := by intro h; subst h; exact hd hdx
            exact ⟨(hother x hx hne).symm, fun _ => (h3 x hne).symm⟩
      rcases Nat.lt_trichotomy p q with hpq | hpq | hpq
      · -- a pending one
        refine evalG_exec (ro := ro) ho hlo (hpend p hpq hl) hI hE hN (fun r hr => ?_)
        refine ih (fuel + items.length) (by omega) fuel q items _ v done e H n I β w _ (Nat.le_refl _) hlen hits (by simp [hsz]) hdn' ?_ ?_ hun' henv (hrep' hrep hr (fun _ _ => rfl)) ?_ ?_ hx hI (by rw [Act.put_size]; exact hN) (by rw [Act.put_defers]; exact hD) hX
        · intro x hx hlx
          by_cases h : x = p
          · subst h; exact hpq
          · rw [hother x hx h] at hlx; exact hsub x hx hlx
        · intro x hx hef
          by_cases h : x = p
          · subst h; exact hself
          · rw [hother x (by omega) h]; exact heff x hx hef
        · intro x hx hlx
          by_cases h : x = p
          · subst h; rw [hself] at hlx; cases hlx
          · rw [hother x (by omega) h] at hlx; exact hpend x hx hlx
        · intro x hx hlx hld
          by_cases h : x = p
          · subst h; rw [hself] at hlx; cases hlx
          · rw [hother x (by omega) h] at hlx; exact hdone x hx hlx hld
      · -- the head, which changes the heap
        subst hpq
        cases items with
        | nil => simp only [List.length_nil] at hlen; omega
        | cons it rest =>
          obtain ⟨h1, h2⟩ := hits 0 it rfl
          simp only [Nat.add_zero] at h1 h2
          simp only [List.length_cons] at hlen hk
          have hnp : isPure it.lo.op = false := by
            cases h : isPure it.lo.op with
            | false => rfl
            | true => exact absurd ⟨it, rest, rfl, h⟩ hpure
          unfold xd at hx
          rw [hnp] at hx
          simp only at hx
          have hsees : it.lo.sees e = seesAt m lo e0 v p := by
            rw [h1]
            unfold seesAt LOper.sees
            exact List.map_congr_left fun t _ => by rw [henv t]
          rw [hsees, h1] at hx
          refine effG_exec (ro := ro) ho hlo hx hI hE hN (fun r val H' n' I' β' w' hK hI' hr' hx' => ?_)
          obtain ⟨hloose, hx2⟩ := hK
          have hlt : ∀ x, x ≠ p → updV v p val x = v x := fun x hx => by unfold updV; rw [if_neg hx]
          have hqv : updV v p val p = val := by unfold updV; rw [if_pos rfl]
          refine ih (fuel + rest.length) (by omega) fuel (p + 1) rest _ (updV v p val) done _ H' n' I' β' w' _ (Nat.le_refl _) (by omega) ?_ (by simp [hsz]) hdn' ?_ ?_ hun' ?_
            (hrep' (fun t => (hrep t).mono hx' hI) (by rw [hqv]; exact hr') hlt) ?_ ?_ hx2 hI' (by rw [Act.put_size]; exact hN) (by rw [Act.put_defers]; exact hD.mono hI hx') (hX.trans hx')
          · intro i it' hi
            have := hits (i + 1) it' (by simpa using hi)
            rw [show p + 1 + i = p + (i + 1) by omega]
            exact this
          · intro x hx hlx
            by_cases h : x = p
            · omega
            · rw [hother x hx h] at hlx; have := hsub x hx hlx; omega
          · intro x hx hef
            by_cases h : x = p
            · subst h; exact hself
            · rw [hother x (by omega) h]; exact heff x (by omega) hef
          · intro t
            by_cases hd : (lo p).dst = some t
            · rw [hd, Env.get_put_same, lookV_at D hp (by simp) hd, hqv]
            · have : (e.put (lo p).dst val).get t = e.get t := by
                cases hdd : (lo p).dst with
                | none => rfl
                | some d => exact Env.get_put_other e val (by intro h; subst h; exact hd hdd)
              rw [this, henv t]
              refine lookV_congr fun x hx2 hdx => ?_
              have hne : x ≠ p := by intro h; subst h; exact hd hdx
              refine ⟨by by_cases h : x < p <;> simp [h] <;> omega, fun _ => (hlt x hne).symm⟩
          · intro x hx hlx
            by_cases h : x = p
            · subst h; rw [hself] at hlx; cases hlx
            · have hxp : x < p := by omega
              rw [hother x (by omega) h] at hlx
              rw [seesAt_upd (by omega), hlt x h]
              cases hld : isLoad (lo x).op with
              | false => rw [evalG_heap (H' := H) hld]; exact hpend x hxp hlx
              | true =>
                have hmem := hdone x hxp hlx hld
                have hl2 := D.loose x p hxp hp (by rw [← h1]; exact hnp) hld
                rcases hl2 with h3 | h3
                · have := D.ancestors hdn p hp hall _ h3
                  rw [hlx] at this; cases this
                · exact hloose _ hmem (by rw [h2]; exact h3)
          · intro x hx hlx hld
            by_cases h : x = p
            · subst h; rw [hself] at hlx; cases hlx
            · rw [hother x (by omega) h] at hlx
              rw [seesAt_upd (by omega), hlt x h]
              exact hdone x (by omega) hlx hld
      · -- one behind the head waits for the head
        exfalso
        have hqm : q < m := by omega
        cases items with
        | nil => simp only [List.length_nil] at hlen; omega
        | cons it rest =>
          obtain ⟨h1, _⟩ := hits 0 it rfl
          simp only [Nat.add_zero] at h1
          have hnp : isPure it.lo.op = false := by
            cases h : isPure it.lo.op with
            | false => rfl
            | true => exact absurd ⟨it, rest, rfl, h⟩ hpure
          have := D.ancestors hdn p hp hall _ (D.eff q p hpq hp (by rw [← h1]; exact hnp))
          have := hsub q hqm this
          omega
end
end Go.Fx
